/-
  Own framework.
-/
import Derived.Test.YtcllpgaaoiccgaaFxOc
namespace Go.Fx
set_option linter.unusedVariables false
variable {P : Program}
theorem RhoOk.to0 {n0 n : Nat} {F : Id → Bool} {H : AHeap} {ρ : Id → Option Id} (h : RhoOk n0 n F H ρ) : RhoOk 0 n F H ρ :=
  ⟨h.inj, h.dom, fun i hi => absurd hi (Nat.not_lt_zero _), fun _ _ _ _ => .inl (Nat.zero_le _), Nat.zero_le _⟩
theorem simT0 {n n' : Nat} {q : Nat} {M : List (Id × Id)} {e' e : Env} {lit' lit T : AHeap} (t : Tl T) (hc : chkT n q lit' M = true) (hE : EnvTo (fun _ => false) (lit' ++ up q T) (rhoT q M) n e' e)
    (hH : HeapTo (fun _ => false) (lit' ++ up q T) (rhoT q M) 3 n lit) : Sim 0 e' (lit' ++ up q T) n' e (lit ++ up 3 T) n := by
  have h := heapAll_T t (chkT_ok hc) hH (fun _ _ => rfl)
  refine Sim.of ⟨_, _, (rhoT_ok (chkT_ok hc) (fun _ _ => rfl)).to0, hE, fun id blk hg => ?_⟩
  have := h id blk hg
  unfold HeapAt at this ⊢
  split at this
  · exact this
  · exact ⟨this.1, Nat.zero_le _, this.2.2⟩
theorem Clo.useM {f : FuncId} {p : AVal} {σ α τ : Type} {Hc : σ → AHeap} {ea : α → List AVal} {rb : τ → AVal} {g : σ → α → Option (τ × σ)} (c : Clo P (.func f) [p] [] Hc ea rb g) {s : σ} {x : α} {o : τ × σ} (h : g s x = some o)
    {args : List AVal} {lit : AHeap} {n q : Nat} {K : AVal → AHeap → Nat → Prop} (hn : (Nat.ble 3 q && Nat.ble (q + 1) n) = true) (hnr : (noR n lit && noR 1 lit && noR q lit) = true) (ha : ArgsTo (fun _ => false) (lit ++ up q (Hc s)) (lookT q []) 3 args (ea x))
    (hk : K (rb o.1) (lit ++ up n (Hc o.2)) (n + 2)) : ACalls P f (p :: args) (lit ++ up q (Hc s)) n K := by
  have := Clo.use c h hn hnr ha hk
  unfold ACallsC at this
  rw [List.append_nil] at this
  exact this
structure Rdo (P : Program) (f : FuncId) (p : AVal) {σ α τ : Type} (Hc : σ → AHeap) (ea : α → List AVal) (rb : τ → AVal) (g : σ → α → Option τ) : Prop where
  tl : ∀ s, Tl (Hc s)
  hp : p.inP (fun id => Nat.beq id.1 1) = true
  hb : ∀ b, (rb b).nid = true
  call : ∀ s x o, g s x = some o → ACalls P f (p :: ea x) (Hc s) 3 (Gives 5 (rb o) (Hc s))
theorem Rdo.useG {f : FuncId} {p : AVal} {σ α τ : Type} {Hc : σ → AHeap} {ea : α → List AVal} {rb : τ → AVal} {g : σ → α → Option τ} (c : Rdo P f p Hc ea rb g) {s : σ} {x : α} {o : τ} (h : g s x = some o)
    {args : List AVal} {lit : AHeap} {n q : Nat} (hn : (Nat.ble 3 q && Nat.ble (q + 1) n) = true) (hnr : (noR 1 lit && noR q lit) = true) (ha : ArgsTo (fun _ => false) (lit ++ up q (Hc s)) (lookT q []) 3 args (ea x))
    (hl : HeapTo (fun _ => false) (lit ++ up q (Hc s)) (rho n []) n n lit) : ACalls P f (p :: args) (lit ++ up q (Hc s)) n (fun r H' n' => r = rb o ∧ H' = lit ++ up q (Hc s) ∧ n' = n) := by
  have t := c.tl s
  simp only [Bool.and_eq_true] at hn hnr
  have q3 := Nat.le_of_ble_eq_true hn.1
  have qn := Nat.le_of_ble_eq_true hn.2
  have q1 : q ≠ 1 := by omega
  have l1 : ∀ j, lookT q [] (1, j) = some (1, j) := fun j => by simp [lookT]
  have l2 : ∀ j, lookT q [] (2, j) = some (q, j) := fun j => by simp [lookT]
  have cases : ∀ {i k : Id}, lookT q [] i = some k → (i.1 = 1 ∧ k = i) ∨ (i.1 = 2 ∧ k = (q, i.2)) := by
    intro i k h
    unfold lookT at h
    split at h
    · rename_i h1; simp only [Option.some.injEq] at h; exact .inl ⟨h1, h.symm⟩
    · split at h
      · rename_i h1; simp only [Option.some.injEq] at h; exact .inr ⟨h1, h.symm⟩
      · cases h
  have hat : ∀ {i : Id}, p12 i = true → lookT q [] i = some (mv 2 q i) := by
    intro i hk
    rcases p12_cases hk with h1 | h1
    · unfold mv; rw [if_neg (by omega), show i = (1, i.2) by rw [← h1]]; exact l1 _
    · unfold mv; rw [if_pos h1, show i = (2, i.2) by rw [← h1]]; exact l2 _
  refine ACalls.same (c.hb o) ?_
  refine (ACalls.sub (K := Gives (n + 2 + 1) (rb o) (lit ++ up q (Hc s))) ?_).mono ?_
  · refine ACalls.frame (F := fun _ => false) (ρ := lookT q []) (k := 3) (m := 2) (c.call s x o h) (fun i j x hi hj => ?_) (fun i x hi => ?_) (fun x hx => by cases hx) ⟨Vw.fix1 c.hp (by omega) l1, ha⟩ (fun i b hb => ?_)
      (fun x => p1q q x) (fun x => ?_) t.nd ?_
    · rcases cases hi with ⟨a1, a2⟩ | ⟨a1, a2⟩ <;> rcases cases hj with ⟨b1, b2⟩ | ⟨b1, b2⟩
      · rw [← a2, ← b2]
      · rw [b2] at a2; have : i.1 = q := by rw [← a2]
        omega
      · rw [a2] at b2; have : j.1 = q := by rw [← b2]
        omega
      · rw [a2] at b2; simp only [Prod.mk.injEq, true_and] at b2; ext
        · omega
        · exact b2
    · rcases cases hi with ⟨a1, a2⟩ | ⟨a1, a2⟩
      · subst a2; exact ⟨by omega, by omega, rfl⟩
      · subst a2; exact ⟨by omega, by simp only; omega, rfl⟩
    · have hm := get_mem hb
      refine ⟨_, _, hat (t.key _ hm), up_app t hnr.1 hnr.2 (get_up q1 t hb), ?_⟩
      have e : (b.ren (mv 2 q)).ren (mv q 2) = b := by
        rw [mv_block q1 (t.val' _ hm)]
        have := renB_congr (g := mv 2 2) (h := fun i => i) (p := p12) (fun id hid => by
          unfold mv
          split
          · rename_i h; rw [← h]
          · rfl) b (t.val' _ hm)
        rw [this, renB_id]
      have := BVw.mov (F := fun _ => false) (H := lit ++ up q (Hc s)) (ρ := lookT q []) (n := 3) (p1q q) (mv q 2) (b.ren (mv 2 q)) (renB_inP (fun id hid => p1q_of (mv_in hid)) _ (t.val' _ hm)) (fun id hid => by
        rcases p1q_cases hid with h1 | h1
        · have e : mv q 2 id = id := by unfold mv; rw [if_neg (by omega)]
          rw [e, show id = (1, id.2) by rw [← h1]]
          exact ⟨by simp only; omega, l1 _⟩
        · have e : mv q 2 id = (2, id.2) := by unfold mv; rw [if_pos h1]
          rw [e]
          refine ⟨by simp only; omega, ?_⟩
          rw [l2, ← h1])
      rwa [e] at this
    · simp only [Bool.false_eq_true, false_or]
      constructor
      · intro h1
        rcases p1q_cases h1 with h1 | h1
        · exact ⟨x, by rw [show x = (1, x.2) by rw [← h1]]; exact l1 _⟩
        · exact ⟨(2, x.2), by rw [l2, ← h1]⟩
      · rintro ⟨i, hi⟩
        rcases cases hi with ⟨a1, a2⟩ | ⟨a1, a2⟩
        · subst a2; exact p1q_of (.inl a1)
        · subst a2; exact p1q_of (.inr rfl)
    · have hu : ∀ id : Id, p12 id = true → upId (lookT q []) 3 n 2 id = mv 2 q id := by
        intro id hid
        unfold upId
        rw [if_pos (by rcases p12_cases hid with h | h <;> omega), hat hid]; rfl
      have eT : AHeap.renamed (upId (lookT q []) 3 n 2) (Hc s) = up q (Hc s) := by
        unfold up AHeap.renamed
        refine List.map_congr_left fun x hx => ?_
        rw [hu _ (t.key x hx), renB_congr hu _ (t.val' x hx)]
      rw [nid_ren _ (c.hb o), eT]
      refine ⟨_, fun id blk hg => ?_, rfl, rfl, rfl⟩
      rw [AHeap.get_append] at hg ⊢
      cases g1 : (up q (Hc s)).get id with
      | some b =>
        have : lit.get id = none := by
          rcases (up_mem t (get_mem g1)).1 with h | h
          · exact noR_get hnr.1 h
          · exact noR_get hnr.2 h
        rw [this, g1] at hg
        simpa using hg
      | none =>
        rw [g1] at hg
        simp only [Option.or_none] at hg
        have hp : p1q q id = false := by
          cases hh : p1q q id with
          | false => rfl
          | true =>
            exfalso
            rcases p1q_cases hh with h1 | h1
            · rw [noR_get hnr.1 h1] at hg; cases hg
            · rw [noR_get hnr.2 h1] at hg; cases hg
        rw [Option.none_or, AHeap.get_without, hp, AHeap.get_append, hg]
        rfl
  · rintro r H' n' ⟨rfl, rfl, rfl⟩
    refine ⟨rfl, fun id blk hg => ?_⟩
    rw [AHeap.get_append] at hg
    cases hl1 : lit.get id with
    | some b =>
      rw [hl1] at hg
      simp only [Option.some_or, Option.some.injEq] at hg
      subst hg
      exact hl.get id b hl1
    | none =>
      rw [hl1] at hg
      simp only [Option.none_or] at hg
      obtain ⟨h1, h2⟩ := up_mem t (get_mem hg)
      have hid : ∀ {id : Id}, id.1 = 1 ∨ id.1 = q → rho n [] id = some id := by
        intro id h
        unfold rho
        simp only [look]
        rw [if_pos]
        exact ⟨by omega, by simp⟩
      unfold HeapAt
      rw [hid h1]
      simp only
      rw [AHeap.get_append, hl1, Option.none_or, hg]
      refine ⟨trivial, ?_⟩
      have := BVw.mov (F := fun _ => false) (H := lit ++ up q (Hc s)) (ρ := rho n []) (n := n) (p1q q) (fun i => i) blk h2 (fun id hid2 => by
        have := p1q_cases hid2
        exact ⟨by omega, hid this⟩)
      rwa [renB_id] at this
end Go.Fx
