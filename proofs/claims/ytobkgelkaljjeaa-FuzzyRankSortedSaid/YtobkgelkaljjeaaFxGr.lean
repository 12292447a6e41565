/-
  Own framework.
-/
import Derived.Test.YtobkgelkaljjeaaFxRf
namespace Go.Fx
set_option linter.unusedVariables false

def outG (q s : Nat) (es : List (List (List AVal))) : List (List AVal) := es.mapIdx fun j r => [.osl (q, j) s r]
def outF (q s : Nat) (es : List (List (List AVal))) (i : Nat) (t : Id) (r : List (List AVal)) : List (List AVal) := (outG q s es).set i [.osl t s r]
def fam (q N : Nat) (h : Option Nat) : AHeap := ((List.range N).filter fun j => !(h == some j)).map fun j => ((q, j), .tok)

theorem outG_len (q s : Nat) (es : List (List (List AVal))) : (outG q s es).length = es.length := by simp [outG]
theorem outG_get (q s : Nat) (es : List (List (List AVal))) (j : Nat) : (outG q s es)[j]? = es[j]?.map fun r => [.osl (q, j) s r] := by simp [outG]
theorem outF_len (q s : Nat) (es : List (List (List AVal))) (i : Nat) (t : Id) (r : List (List AVal)) : (outF q s es i t r).length = es.length := by simp [outF, outG_len]
theorem outF_get (q s : Nat) (es : List (List (List AVal))) (i : Nat) (t : Id) (r : List (List AVal)) (j : Nat) : (outF q s es i t r)[j]? = es[j]?.map fun r' => if j = i then [.osl t s r] else [.osl (q, j) s r'] := by
  unfold outF
  rw [List.getElem?_set]
  by_cases h : i = j
  · subst h
    rw [if_pos rfl, outG_len]
    by_cases hl : i < es.length
    · rw [if_pos hl, List.getElem?_eq_getElem hl]; simp
    · rw [if_neg hl, List.getElem?_eq_none (by omega)]; rfl
  · rw [if_neg h, outG_get]
    have : ¬ j = i := fun e => h e.symm
    simp [this]
theorem outG_row {q s : Nat} {es : List (List (List AVal))} {j : Nat} (h : j < es.length) : (outG q s es).getD j [] = [.osl (q, j) s (es.getD j [])] := by
  rw [List.getD_eq_getElem?_getD, outG_get, List.getD_eq_getElem?_getD, List.getElem?_eq_getElem h]; rfl
theorem outF_row {q s : Nat} {es : List (List (List AVal))} {i : Nat} {t : Id} {r : List (List AVal)} (h : i < es.length) : (outF q s es i t r).getD i [] = [.osl t s r] := by
  rw [List.getD_eq_getElem?_getD, outF_get, List.getElem?_eq_getElem h]; simp
theorem outF_set {q s : Nat} {es : List (List (List AVal))} {i : Nat} {t t' : Id} {r r' : List (List AVal)} : (outF q s es i t r).set i [.osl t' s r'] = outF q s es i t' r' := by
  unfold outF; rw [List.set_set]
theorem outG_set {q s : Nat} {es : List (List (List AVal))} {i : Nat} {t' : Id} {r' : List (List AVal)} : (outG q s es).set i [.osl t' s r'] = outF q s es i t' r' := rfl

theorem get_tok : ∀ {L : AHeap} {k : Id}, (∀ x ∈ L, x.2 = .tok) → k ∈ L.map (·.1) → L.get k = some .tok
  | [], k, _, h => by cases h
  | (a, b) :: r, k, h, hk => by
    by_cases e : a = k
    · subst e
      have : b = .tok := h (a, b) (List.mem_cons_self ..)
      rw [this, AHeap.get_cons_same]
    · rw [AHeap.get_cons_other _ _ e]
      refine get_tok (fun x hx => h x (List.mem_cons_of_mem _ hx)) ?_
      simp only [List.map_cons, List.mem_cons] at hk
      rcases hk with rfl | hk
      · exact absurd rfl e
      · exact hk
theorem fam_get {q N j : Nat} {h : Option Nat} (hj : j < N) (hh : h ≠ some j) : (fam q N h).get (q, j) = some .tok := by
  refine get_tok (fun x hx => ?_) ?_
  · unfold fam at hx
    obtain ⟨j, _, rfl⟩ := List.mem_map.1 hx
    rfl
  · unfold fam
    rw [List.map_map]
    refine List.mem_map.2 ⟨j, List.mem_filter.2 ⟨List.mem_range.2 hj, by simpa using hh⟩, rfl⟩
theorem fam_of {q N : Nat} {h : Option Nat} {id : Id} {b : ABlock} (hg : (fam q N h).get id = some b) : b = .tok ∧ id.1 = q ∧ id.2 < N ∧ h ≠ some id.2 := by
  have := get_mem hg
  unfold fam at this
  obtain ⟨j, hj, he⟩ := List.mem_map.1 this
  simp only [Prod.mk.injEq] at he
  obtain ⟨rfl, rfl⟩ := he
  obtain ⟨h1, h2⟩ := List.mem_filter.1 hj
  exact ⟨rfl, rfl, List.mem_range.1 h1, by simpa using h2⟩

def IsFam (q N : Nat) (h : Option Nat) (T : AHeap) : Prop := ∀ j, j < N → h ≠ some j → T.get (q, j) = some .tok
theorem IsFam.base {q N : Nat} {h : Option Nat} : IsFam q N h (fam q N h) := fun j => fam_get
theorem IsFam.del {q N : Nat} {h : Option Nat} {T : AHeap} {x : Id} (hx : x.1 ≠ q) (a : IsFam q N h T) : IsFam q N h (T.del x) := fun j h1 h2 => by
  rw [AHeap.get_del, if_neg (fun e => hx (by rw [e]))]; exact a j h1 h2
theorem IsFam.without {q N : Nat} {h : Option Nat} {T : AHeap} {p : Id → Bool} (hp : ∀ j, p (q, j) = false) (a : IsFam q N h T) : IsFam q N h (AHeap.without p T) := fun j h1 h2 => by
  rw [AHeap.get_without, hp j]; exact a j h1 h2
theorem IsFam.app {q N : Nat} {h : Option Nat} {lit T : AHeap} (hl : noR q lit = true) (a : IsFam q N h T) {j : Nat} (h1 : j < N) (h2 : h ≠ some j) : AHeap.get (lit ++ T) (q, j) = some .tok := by
  rw [AHeap.get_append, noR_get hl rfl, Option.none_or]; exact a j h1 h2

theorem row_lt' {α : Type} {l : List α} {i : Nat} {a : α} (h : l[i]? = some a) : i < l.length := by
  rcases Nat.lt_or_ge i l.length with h' | h'
  · exact h'
  · rw [List.getElem?_eq_none h'] at h; cases h

def rhoG (n0 q' : Nat) (f : Nat → Option Id) (m : Id) (g : Option Id) (M : List (Id × Id)) (id : Id) : Option Id := if id.1 = q' then f id.2 else if id = m then g else rho n0 M id
def chkG (n0 n q q' : Nat) (m t : Id) (lit' : AHeap) (M : List (Id × Id)) : Bool :=
  Nat.ble n0 q && Nat.ble n0 q' && Nat.ble (q' + 1) n && Nat.ble n0 m.1 && Nat.ble (m.1 + 1) n && Nat.ble n0 t.1 && chkRho n0 n lit' M && M.all (fun x => !(Nat.beq x.2.1 q) && !(decide (x.2 = t))) && noR q lit'
structure ChkG (n0 n q q' : Nat) (m t : Id) (lit' : AHeap) (M : List (Id × Id)) : Prop where
  q0 : n0 ≤ q
  q1 : n0 ≤ q'
  q2 : q' < n
  m1 : n0 ≤ m.1
  m2 : m.1 < n
  t1 : n0 ≤ t.1
  rc : RhoChk n0 n lit' M
  all : ∀ x ∈ M, x.2.1 ≠ q ∧ x.2 ≠ t
  no : noR q lit' = true
theorem chkG_ok {n0 n q q' : Nat} {m t : Id} {lit' : AHeap} {M : List (Id × Id)} (h : chkG n0 n q q' m t lit' M = true) : ChkG n0 n q q' m t lit' M := by
  unfold chkG at h
  simp only [Bool.and_eq_true, List.all_eq_true] at h
  obtain ⟨⟨⟨⟨⟨⟨⟨⟨h1, h2⟩, h3⟩, h4⟩, h5⟩, h6⟩, h7⟩, h8⟩, h9⟩ := h
  exact ⟨Nat.le_of_ble_eq_true h1, Nat.le_of_ble_eq_true h2, Nat.le_of_ble_eq_true h3, Nat.le_of_ble_eq_true h4, Nat.le_of_ble_eq_true h5, Nat.le_of_ble_eq_true h6, chkRho_ok h7, fun x hx => ⟨bne_of (h8 x hx).1, by simpa using (h8 x hx).2⟩, h9⟩
section
variable {n0 n n' q q' N : Nat} {h : Option Nat} {f : Nat → Option Id} {m t : Id} {g : Option Id} {M : List (Id × Id)} {e' e : Env} {lit' T lit : AHeap}
theorem rhoG_ok {F : Id → Bool} (hc : ChkG n0 n q q' m t lit' M) (hF : ∀ i : Id, i.1 < n0 → F i = false) (hf1 : ∀ j k, f j = some k → k.1 = q ∨ k = t) (hf2 : ∀ i j k, f i = some k → f j = some k → i = j) (hg1 : ∀ k, g = some k → k.1 = q) (hfg : ∀ j k, f j = some k → g ≠ some k) :
    RhoOk n0 n F (lit' ++ T) (rhoG n0 q' f m g M) := by
  have base : ∀ {i k : Id}, rhoG n0 q' f m g M i = some k → (i.1 = q' ∧ f i.2 = some k) ∨ (i.1 ≠ q' ∧ i = m ∧ g = some k) ∨ (i.1 ≠ q' ∧ i ≠ m ∧ rho n0 M i = some k) := by
    intro i k hi
    unfold rhoG at hi
    split at hi
    · rename_i h3; exact .inl ⟨h3, hi⟩
    · rename_i h3
      split at hi
      · rename_i h4; exact .inr (.inl ⟨h3, h4, hi⟩)
      · rename_i h4; exact .inr (.inr ⟨h3, h4, hi⟩)
  have vals : ∀ {i k : Id}, rho n0 M i = some k → k.1 ≠ q ∧ k ≠ t := by
    intro i k hi
    rcases rho_mem hi with g | ⟨g1, g2, _⟩
    · exact hc.all _ g
    · subst g2
      exact ⟨fun e => by have := hc.q0; omega, fun e => by have := hc.t1; subst e; omega⟩
  have hr : RhoOk n0 n F (lit' ++ T) (rho n0 M) := by
    have hc' : RhoChk n0 n (lit' ++ T) M := ⟨hc.rc.le, fun x hx => ⟨(hc.rc.all x hx).1, (hc.rc.all x hx).2.1, (hc.rc.all x hx).2.2.imp id app_some⟩, hc.rc.nd⟩
    refine ⟨fun i j k hi hj => ?_, fun i k hi => ?_, fun i hi => ?_, fun i k hi hk => ?_, hc'.le⟩
    · rcases rho_mem hi with g1 | ⟨g1, g1', g1''⟩ <;> rcases rho_mem hj with g2 | ⟨g2, g2', g2''⟩
      · exact nodup_val hc'.nd g1 g2
      · exact absurd (List.mem_map.2 ⟨_, g1, rfl⟩) g2''
      · exact absurd (List.mem_map.2 ⟨_, g2, rfl⟩) g1''
      · rw [← g1', ← g2']
    · rcases rho_mem hi with g | ⟨g, g', _⟩
      · exact (hc'.all _ g).2.1
      · have := hc'.le; omega
    · rcases rho_low hc' hi with g | g
      · exact .inl ⟨g, hF i hi⟩
      · exact .inr g
    · rcases rho_mem hk with g | ⟨g, g', _⟩
      · exact (hc'.all _ g).2.2
      · omega
  have nf : ∀ {j : Nat} {k i : Id}, f j = some k → rho n0 M i = some k → False := fun h1 h2 => by
    rcases hf1 _ _ h1 with h | h
    · exact (vals h2).1 h
    · exact (vals h2).2 h
  refine ⟨fun i j k hi hj => ?_, fun i k hi => ?_, fun i hi => ?_, fun i k hi hk => ?_, hr.le⟩
  · rcases base hi with ⟨a1, a2⟩ | ⟨a1, a2, a3⟩ | ⟨a1, a2, a3⟩ <;> rcases base hj with ⟨b1, b2⟩ | ⟨b1, b2, b3⟩ | ⟨b1, b2, b3⟩
    · ext
      · omega
      · exact hf2 _ _ _ a2 b2
    · exact absurd b3 (hfg _ _ a2)
    · exact (nf a2 b3).elim
    · exact absurd a3 (hfg _ _ b2)
    · rw [a2, b2]
    · exact absurd (hg1 _ a3) (vals b3).1
    · exact (nf b2 a3).elim
    · exact absurd (hg1 _ b3) (vals a3).1
    · exact hr.inj i j k a3 b3
  · rcases base hi with ⟨a1, a2⟩ | ⟨a1, a2, a3⟩ | ⟨a1, a2, a3⟩
    · have := hc.q2; omega
    · subst a2; exact hc.m2
    · exact hr.dom i k a3
  · have : rhoG n0 q' f m g M i = rho n0 M i := by
      unfold rhoG
      rw [if_neg (by have := hc.q1; omega), if_neg (fun e => by have := hc.m1; subst e; omega)]
    rw [this]; exact hr.low i hi
  · rcases base hk with ⟨a1, a2⟩ | ⟨a1, a2, a3⟩ | ⟨a1, a2, a3⟩
    · left
      rcases hf1 _ _ a2 with h | h
      · have := hc.q0; omega
      · subst h; exact hc.t1
    · left; have := hg1 _ a3; have := hc.q0; omega
    · exact hr.high i k hi a3

theorem simG (hc : chkG n0 n q q' m t lit' M = true) (hf1 : ∀ j k, f j = some k → k.1 = q ∨ k = t) (hf2 : ∀ i j k, f i = some k → f j = some k → i = j) (hg1 : ∀ k, g = some k → k.1 = q) (hfg : ∀ j k, f j = some k → g ≠ some k)
    (hfam : ∀ j, j < N → h ≠ some j → f j = none ∨ ∃ k, f j = some k ∧ AHeap.get (lit' ++ T) k = some .tok)
    (hE : EnvTo (fun _ => false) (lit' ++ T) (rhoG n0 q' f m g M) n e' e) (hH : HeapTo (fun _ => false) (lit' ++ T) (rhoG n0 q' f m g M) n0 n lit) : Sim n0 e' (lit' ++ T) n' e (lit ++ fam q' N h) n := by
  have hk := chkG_ok hc
  refine Sim.of ⟨_, _, rhoG_ok hk (fun _ _ => rfl) hf1 hf2 hg1 hfg, hE, fun id blk hg => ?_⟩
  rw [AHeap.get_append] at hg
  cases hl : lit.get id with
  | some b =>
    rw [hl] at hg
    simp only [Option.some_or, Option.some.injEq] at hg
    subst hg
    exact hH.get id b hl
  | none =>
    rw [hl] at hg
    simp only [Option.none_or] at hg
    obtain ⟨rfl, g2, g3, g4⟩ := fam_of hg
    have hat : rhoG n0 q' f m g M id = f id.2 := by unfold rhoG; rw [if_pos g2]
    unfold HeapAt
    rw [hat]
    rcases hfam id.2 g3 g4 with h1 | ⟨k, h1, h2⟩
    · rw [h1]; exact ⟨rfl, by have := hk.q1; omega, by have := hk.q2; omega⟩
    · rw [h1]
      simp only
      rw [h2]
      exact ⟨trivial, .tok⟩

theorem simJ (hc : chkG n0 n q q' (q', 0) (q, 0) lit' M = true) (hT : IsFam q N none T)
    (hE : EnvTo (fun _ => false) (lit' ++ T) (rhoG n0 q' (fun j => some (q, j)) (q', 0) none M) n e' e) (hH : HeapTo (fun _ => false) (lit' ++ T) (rhoG n0 q' (fun j => some (q, j)) (q', 0) none M) n0 n lit) : Sim n0 e' (lit' ++ T) n' e (lit ++ fam q' N none) n :=
  simG hc (fun j k h => by simp only [Option.some.injEq] at h; subst h; exact .inl rfl) (fun i j k h1 h2 => by simp only [Option.some.injEq] at h1 h2; subst h1; simp only [Prod.mk.injEq, true_and] at h2; exact h2.symm) (fun k h => by cases h) (fun j k _ h => by cases h)
    (fun j h1 h2 => .inr ⟨_, rfl, hT.app (chkG_ok hc).no h1 h2⟩) hE hH
theorem simNew (hc : chkG n0 n q q' (q', 0) (q, 0) lit' M = true)
    (hE : EnvTo (fun _ => false) (lit' ++ T) (rhoG n0 q' (fun _ => none) (q', 0) none M) n e' e) (hH : HeapTo (fun _ => false) (lit' ++ T) (rhoG n0 q' (fun _ => none) (q', 0) none M) n0 n lit) : Sim n0 e' (lit' ++ T) n' e (lit ++ fam q' N none) n :=
  simG hc (fun j k h => by cases h) (fun i j k h1 h2 => by cases h1) (fun k h => by cases h) (fun j k h => by cases h) (fun j h1 h2 => .inl rfl) hE hH
def rhoF (n0 q q' N i : Nat) (m : Id) (M : List (Id × Id)) : Id → Option Id := rhoG n0 q' (fun j => if j = i then none else some (q, j)) m (if i < N then some (q, i) else none) M
theorem simF {i : Nat} (hc : chkG n0 n q q' m (q, 0) lit' M = true) (hm : m.1 ≠ q') (hT : IsFam q N none T)
    (hE : EnvTo (fun _ => false) (lit' ++ T) (rhoF n0 q q' N i m M) n e' e) (hH : HeapTo (fun _ => false) (lit' ++ T) (rhoF n0 q q' N i m M) n0 n lit) : Sim n0 e' (lit' ++ T) n' e ((m, .tok) :: lit ++ fam q' N (some i)) n := by
  refine simG (lit := (m, .tok) :: lit) hc (fun j k h => ?_) (fun a b k h1 h2 => ?_) (fun k h => ?_) (fun j k h h2 => ?_) (fun j h1 h2 => ?_) hE ⟨?_, hH⟩
  · skip
    split at h
    · cases h
    · simp only [Option.some.injEq] at h; subst h; exact .inl rfl
  · skip
    split at h1 <;> split at h2 <;> try (first | (cases h1; done) | (cases h2; done))
    simp only [Option.some.injEq] at h1 h2
    subst h1
    simp only [Prod.mk.injEq, true_and] at h2
    exact h2.symm
  · split at h
    · simp only [Option.some.injEq] at h; subst h; rfl
    · cases h
  · skip
    split at h
    · cases h
    · rename_i hne
      split at h2
      · simp only [Option.some.injEq] at h h2
        subst h
        simp only [Prod.mk.injEq, true_and] at h2
        exact hne h2.symm
      · cases h2
  · have : j ≠ i := fun e => h2 (by rw [e])
    rw [if_neg this]
    exact .inr ⟨_, rfl, hT.app (chkG_ok hc).no h1 (by simp)⟩
  · have hk := chkG_ok hc
    have : rhoG n0 q' (fun j => if j = i then none else some (q, j)) m (if i < N then some (q, i) else none) M m = if i < N then some (q, i) else none := by
      unfold rhoG; rw [if_neg hm, if_pos rfl]
    unfold HeapAt
    rw [this]
    by_cases hi : i < N
    · rw [if_pos hi]
      simp only
      rw [hT.app hk.no hi (by simp)]
      exact ⟨trivial, .tok⟩
    · rw [if_neg hi]
      exact ⟨rfl, hk.m1, hk.m2⟩
def rhoU (n0 q q' i : Nat) (t : Id) (M : List (Id × Id)) : Id → Option Id := rhoG n0 q' (fun j => if j = i then some t else some (q, j)) (q', 0) none M
theorem simU {i : Nat} (hc : chkG n0 n q q' (q', 0) t lit' M = true) (ht : t.1 ≠ q) (hg : AHeap.get (lit' ++ T) t = some .tok) (hT : IsFam q N (some i) T)
    (hE : EnvTo (fun _ => false) (lit' ++ T) (rhoU n0 q q' i t M) n e' e) (hH : HeapTo (fun _ => false) (lit' ++ T) (rhoU n0 q q' i t M) n0 n lit) : Sim n0 e' (lit' ++ T) n' e (lit ++ fam q' N none) n := by
  refine simG hc (fun j k h => ?_) (fun a b k h1 h2 => ?_) (fun k h => by cases h) (fun j k _ h => by cases h) (fun j h1 h2 => ?_) hE hH
  · skip
    split at h <;> (simp only [Option.some.injEq] at h; subst h)
    · exact .inr rfl
    · exact .inl rfl
  · skip
    split at h1 <;> split at h2 <;> simp only [Option.some.injEq] at h1 h2
    · omega
    · subst h1; exact absurd (by rw [← h2]) ht
    · subst h2; exact absurd (by rw [← h1]) ht
    · subst h1
      simp only [Prod.mk.injEq, true_and] at h2
      exact h2.symm
  · skip
    by_cases hj : j = i
    · rw [if_pos hj]; exact .inr ⟨_, rfl, hg⟩
    · rw [if_neg hj]; exact .inr ⟨_, rfl, hT.app (chkG_ok hc).no h1 (fun e => hj (by simpa using e.symm))⟩

theorem row1 {x y : AVal} {F : Id → Bool} {H : AHeap} {ρ : Id → Option Id} (h : Vw F H ρ n x y) : ([x] : List AVal).length = [y].length ∧ ∀ (j : Nat) (a b : AVal), [x][j]? = some a → [y][j]? = some b → Vw F H ρ n a b := by
  refine ⟨rfl, fun j a b ha hb => ?_⟩
  cases j with
  | zero => simp only [List.getElem?_cons_zero, Option.some.injEq] at ha hb; subst ha; subst hb; exact h
  | succ j => simp at ha
section
variable {F : Id → Bool} {H : AHeap} {s : Nat} {es : List (List (List AVal))}
theorem BVw.grJ : BVw F H (rhoG n0 q' (fun j => some (q, j)) m none M) n (.rows 1 (outG q s es)) (.rows 1 (outG q' s es)) := by
  refine .rows 1 _ _ (by rw [outG_len, outG_len]) fun i r r' h1 h2 => ?_
  rw [outG_get] at h1 h2
  cases he : es[i]? with
  | none => rw [he] at h1; cases h1
  | some a =>
    rw [he] at h1 h2
    simp only [Option.map_some, Option.some.injEq] at h1 h2
    subst h1; subst h2
    exact row1 (.osl _ _ _ _ (by unfold rhoG; rw [if_pos rfl]))
theorem BVw.grNew {ρ' : Id → Option Id} {k : Nat} (hq : q' < n) : BVw F H ρ' n (.rows 1 (List.replicate k [.isl s [] true])) (.rows 1 (outG q' s (List.replicate k []))) := by
  refine .rows 1 _ _ (by rw [outG_len]; simp) fun i r r' h1 h2 => ?_
  rw [outG_get] at h2
  rw [List.getElem?_replicate] at h1 h2
  split at h1
  · rename_i hi
    rw [if_pos hi] at h2
    simp only [Option.map_some, Option.some.injEq] at h1 h2
    subst h1; subst h2
    exact row1 (.islO _ _ _ hq)
  · cases h1
theorem BVw.grF {i : Nat} (hm : m.1 ≠ q') (hi : N = es.length) : BVw F H (rhoF n0 q q' N i m M) n (.rows 1 (outG q s es)) (.rows 1 (outF q' s es i m (es.getD i []))) := by
  refine .rows 1 _ _ (by rw [outG_len, outF_len]) fun j r r' h1 h2 => ?_
  rw [outG_get] at h1
  rw [outF_get] at h2
  cases he : es[j]? with
  | none => rw [he] at h1; cases h1
  | some a =>
    rw [he] at h1 h2
    simp only [Option.map_some, Option.some.injEq] at h1 h2
    subst h1; subst h2
    have hlt : j < es.length := row_lt' he
    by_cases hj : j = i
    · subst hj
      rw [if_pos rfl]
      have : es.getD j [] = a := by rw [List.getD_eq_getElem?_getD, he]; rfl
      rw [this]
      refine row1 (.osl _ _ _ _ ?_)
      unfold rhoF rhoG
      rw [if_neg hm, if_pos rfl, if_pos (by omega)]
    · rw [if_neg hj]
      refine row1 (.osl _ _ _ _ ?_)
      unfold rhoF rhoG
      rw [if_pos rfl]
      simp only
      rw [if_neg hj]
theorem BVw.grU {i : Nat} {r0 : List (List AVal)} : BVw F H (rhoU n0 q q' i t M) n (.rows 1 (outF q s es i t r0)) (.rows 1 (outG q' s (es.set i r0))) := by
  refine .rows 1 _ _ (by rw [outG_len, outF_len, List.length_set]) fun j r r' h1 h2 => ?_
  rw [outF_get] at h1
  rw [outG_get, List.getElem?_set] at h2
  cases he : es[j]? with
  | none => rw [he] at h1; cases h1
  | some a =>
    have hlt : j < es.length := row_lt' he
    rw [he] at h1 h2
    by_cases hj : j = i
    · subst hj
      simp only [if_pos, hlt, Option.map_some, Option.some.injEq] at h1 h2
      subst h1; subst h2
      refine row1 (.osl _ _ _ _ ?_)
      unfold rhoU rhoG
      rw [if_pos rfl]
      simp
    · have hj' : ¬ i = j := fun e => hj e.symm
      simp only [if_neg hj, if_neg hj', Option.map_some, Option.some.injEq] at h1 h2
      subst h1; subst h2
      refine row1 (.osl _ _ _ _ ?_)
      unfold rhoU rhoG
      rw [if_pos rfl]
      simp only
      rw [if_neg hj]
theorem BVw.grNewE {α : Type} (f : α → List AVal) {ρ' : Id → Option Id} {k : Nat} (hq : q' < n) : BVw F H ρ' n (.rows 1 (List.replicate k [.isl s [] true])) (.rows 1 (outG q' s ((List.replicate k ([] : List α)).map (List.map f)))) := by
  rw [List.map_replicate]; exact BVw.grNew hq
theorem getD_mm {α : Type} (f : α → List AVal) (l : List (List α)) (i : Nat) : (l.map (List.map f)).getD i [] = (l.getD i default).map f := by
  rw [List.getD_eq_getElem?_getD, List.getD_eq_getElem?_getD, List.getElem?_map]
  cases l[i]? <;> rfl
theorem BVw.grFE {α : Type} (f : α → List AVal) {l : List (List α)} {i : Nat} (hm : m.1 ≠ q') (hi : N = l.length) : BVw F H (rhoF n0 q q' N i m M) n (.rows 1 (outG q s (l.map (List.map f)))) (.rows 1 (outF q' s (l.map (List.map f)) i m ((l.getD i default).map f))) := by
  rw [← getD_mm]; exact BVw.grF hm (by rw [List.length_map]; exact hi)
theorem BVw.grUE {α : Type} (f : α → List AVal) {l : List (List α)} {i : Nat} {r : List α} : BVw F H (rhoU n0 q q' i t M) n (.rows 1 (outF q s (l.map (List.map f)) i t (r.map f))) (.rows 1 (outG q' s ((l.set i r).map (List.map f)))) := by
  rw [List.map_set]; exact BVw.grU
end
end
section
variable {α : Type} (f : α → List AVal) {q s : Nat} {l : List (List α)} {i : Nat} {t t' : Id}
theorem outG_rowE (h : i < l.length) : (outG q s (l.map (List.map f))).getD i [] = [.osl (q, i) s ((l.getD i default).map f)] := by
  rw [outG_row (by rw [List.length_map]; exact h), getD_mm]
theorem outG_ltE (h : i < l.length) : i < (outG q s (l.map (List.map f))).length := by rw [outG_len, List.length_map]; exact h
theorem outF_rowE {r : List (List AVal)} (h : i < l.length) : (outF q s (l.map (List.map f)) i t r).getD i [] = [.osl t s r] := outF_row (by rw [List.length_map]; exact h)
theorem outF_ltE {r : List (List AVal)} (h : i < l.length) : i < (outF q s (l.map (List.map f)) i t r).length := by rw [outF_len, List.length_map]; exact h
theorem outG_setE {r' : List (List AVal)} (h : i < l.length) : (outG q s (l.map (List.map f))).set i (splice ((outG q s (l.map (List.map f))).getD i []) 0 [.osl t' s r']) = outF q s (l.map (List.map f)) i t' r' := by
  rw [outG_rowE f h]; rfl
theorem outF_setE {r r' : List (List AVal)} (h : i < l.length) : (outF q s (l.map (List.map f)) i t r).set i (splice ((outF q s (l.map (List.map f)) i t r).getD i []) 0 [.osl t' s r']) = outF q s (l.map (List.map f)) i t' r' := by
  rw [outF_rowE f h]
  exact outF_set
end
theorem IsFam.cast {q N N' : Nat} {h : Option Nat} {T : AHeap} (e : N' = N) (a : IsFam q N h T) : IsFam q N' h T := by subst e; exact a
theorem IsFam.hole {q N : Nat} {h : Option Nat} {T : AHeap} (a : IsFam q N none T) : IsFam q N h T := fun j h1 _ => a j h1 (by simp)
def InQ (q : Nat) (T : AHeap) : Prop := ∀ x ∈ T, x.1.1 = q
theorem InQ.base {q N : Nat} {h : Option Nat} : InQ q (fam q N h) := fun x hx => by
  unfold fam at hx
  obtain ⟨j, _, rfl⟩ := List.mem_map.1 hx
  rfl
theorem InQ.del {q : Nat} {y : Id} : ∀ {T : AHeap}, InQ q T → InQ q (T.del y)
  | [], _ => fun x hx => by cases hx
  | (k, b) :: r, h => by
    have hr : InQ q r := fun x hx => h x (List.mem_cons_of_mem _ hx)
    unfold AHeap.del
    split
    · exact InQ.del hr
    · intro x hx
      rcases List.mem_cons.1 hx with rfl | hx
      · exact h _ (List.mem_cons_self ..)
      · exact InQ.del hr x hx
theorem without_fam {q : Nat} {p : Id → Bool} {lit rest T : AHeap} (hT : InQ q T) (hp : ∀ j, p (q, j) = false) (hl : AHeap.without p lit = rest) : AHeap.without p (lit ++ T) = rest ++ T := by
  rw [without_app, hl, without_none' (fun x hx => ?_)]
  have := hT x hx
  rw [show x.1 = (q, x.1.2) by rw [← this]]
  exact hp _
variable {P : Program}
theorem Vw.frz1L {F : Id → Bool} {H : AHeap} {ρ : Id → Option Id} {n : Nat} {b : Id} {off : Nat} {r r' : List AVal} (hF : F b = true) (hg : H.get b = some (.one r)) (h : VwL F H ρ n r r') (hi : ∀ y ∈ r', y.imm = some y) : Vw F H ρ n (.ptr b 0 off) (.iptr r'.length [r'] 0 off) :=
  .frz1 b off r r' hF hg (vwL_get h).1 (vwL_get h).2 hi
theorem Inv.giveK {I : Nat → Nat → Prop} {β : Id → Option CLoc} {n : Nat} {H : AHeap} {w : World} {F : Id → Bool} (hI : Inv I β n H w) (k : Nat) : Inv (immF I β F H w) (fun _ => none) k [] w := by
  have h := hI.give (F := F)
  exact ⟨fun id blk hb => by simp [AHeap.get] at hb, fun i c d j b q h1 => (by cases h1), fun i c b q h1 => (by cases h1), h.imm, fun _ _ => rfl⟩
theorem ACalls.readK (ids : List Id) {f : Fn} {args args0 : List AVal} {R : AVal} {k m : Nat} (h : ACalls P f args0 [] k (Gives m R [])) (hR : R.flat = true) {H : AHeap} {n : Nat} {K : AVal → AHeap → Nat → Prop} (ha : ArgsTo (fun x => ids.contains x) H (fun _ => none) 0 args args0) (hk : K R H n) : ACalls P f args H n K := by
  refine ⟨h.1, fun I β w vs hI hl hr => ?_⟩
  obtain ⟨ha1, ha2⟩ := ha.get
  refine (h.2 _ _ w vs (hI.giveK (F := fun x => ids.contains x) k) (by rw [hl, ha1]) (fun i y v hy hv => ?_)).mono ?_
  · have hlt : i < args.length := by rw [ha1]; exact col_lt hy
    exact (vw_none hI (ha2 i args[i] y (List.getElem?_eq_getElem hlt) hy) (hr i _ v (List.getElem?_eq_getElem hlt) hv)).mono' (fun _ _ h => h) (fun _ _ _ => rfl) (Nat.zero_le k) (fun _ _ _ h => h)
  · rintro ee w' ⟨r, v, H1, n1, I', β', he, ⟨rfl, rfl, rfl⟩, hI', hr', hx⟩
    have hcell : ∀ b q u, w.cell? ⟨b, q, none⟩ = some u → w'.cell? ⟨b, q, none⟩ = some u := fun b q u hu => hx.cells b q u hu (fun i c hi => by cases hi)
    have hcI : ∀ b q, I b q → w'.cell? ⟨b, q, none⟩ = w.cell? ⟨b, q, none⟩ := fun b q hb => by
      obtain ⟨u, hu⟩ := hI.imm b q hb
      rw [hu]; exact hcell b q u hu
    refine ⟨r, v, H, n, I, β, he, hk, ?_, flat_rep r hR hr', ?_⟩
    · refine ⟨fun id blk hb => ?_, hI.inj, fun i c b q hi hc => ⟨(hI.own i c b q hi hc).1, Nat.lt_of_lt_of_le (hI.own i c b q hi hc).2 hx.size⟩, fun b q hb => by rw [hcI b q hb]; exact hI.imm b q hb, hI.fresh⟩
      obtain ⟨c, hc, hB⟩ := hI.blocks id blk hb
      exact ⟨c, hc, hB.mono' (fun _ _ h => h) hcI (Nat.le_refl n) (fun _ _ _ h => h) (fun arr el fr hh => by
            obtain ⟨arr', fr', k1, k2, k3⟩ := hx.shape _ arr el fr hh
            refine ⟨arr', fr', k1, k2, k3.imp (fun h => h) fun g k hk => ?_⟩
            obtain ⟨i, d, e1, _⟩ := g k hk
            cases e1) (fun b q u _ hu => hcell b q u hu) (fun es ck _ hm => hx.maps _ es ck hm (fun i c hi => by cases hi))⟩
    · exact ⟨hx.os, hx.tape, hx.output, hx.size, fun b hb _ => hx.frame b hb (fun i c q hi => by cases hi), fun b q u hu _ => hcell b q u hu, fun b arr el fr hb => (by
            obtain ⟨arr', fr', k1, k2, k3⟩ := hx.shape b arr el fr hb
            refine ⟨arr', fr', k1, k2, k3.imp (fun h => h) fun g k hk => ?_⟩
            obtain ⟨i, d, e1, _⟩ := g k hk
            cases e1), fun b es ck hm _ => hx.maps b es ck hm (fun i c hi => by cases hi), fun _ _ h => h, fun b q h h' => absurd h h', fun j _ => .inl rfl, fun j c b q hj hc => (by rw [hI.fresh j hj] at hc; cases hc), fun j _ h => h, Nat.le_refl n⟩
end Go.Fx
