/-
  DepgraphLevels: the program's groups are the reference's; no condition.
-/
import Derived.Test.YtejfgjggcoemeaaLe
namespace Go.Proofs.Ytejfgjggcoemeaa
open Go.Fx Go.Sort
set_option linter.unusedVariables false
def SeenS (seen : List (K × Int)) (P : List K) : Prop := ∀ k, lk ze seen k = if k ∈ P then some 1 else none
theorem SeenS.seen {seen : List (K × Int)} {P : List K} (h : SeenS seen P) : zpp seen P := fun k => by
 rw [h k]
 split
 ·rename_i hk; simp [hk]
 ·rename_i hk; simp [hk]
theorem zjq : ∀ {M : List (K × Int)} {k : K} {v : Int}, lk ze M k = none → (mp ze M k v).length = M.length + 1
 | [], k, v, _ => rfl
 | (k', v') :: r, k, v, h => by
  unfold lk at h
  unfold mp
  by_cases c : ze k k' = true
  ·rw [if_pos c] at h; cases h
  ·rw [if_neg c] at h ⊢
   rw [List.length_cons, zjq h, List.length_cons]
theorem za1 {seen : List (K × Int)} {P : List K} (h : SeenS seen P) (k : K) : SeenS (mp ze seen k 1) (P ++ [k]) := fun j => by
 rw [lkM (hq := zfa), h j]
 simp only [List.mem_append, List.mem_singleton]
 by_cases hj : k = j
 ·subst hj; rw [if_pos rfl, if_pos (.inr rfl)]
 ·rw [if_neg hj]
  by_cases hp : j ∈ P
  ·rw [if_pos hp, if_pos (.inl hp)]
  ·rw [if_neg hp, if_neg (fun h => h.elim hp (fun e => hj e.symm))]
theorem z3m {ks : List K} {M : Gm} {V : List (List K)} {G : List K} (hG : G.length ≤ 1000) : ∀ (n i : Nat) (seen : List (K × Int)) (P : List K), i + n = G.length → SeenS seen P → seen.length = P.length → (G.drop i).Nodup → (∀ x ∈ G.drop i, x ∉ P) →
 ∃ s', w6 none (ks, M) V G (i : Int) seen = jq none (ks, M) V G s' ∧ SeenS s' (P ++ G.drop i) ∧ s'.length = (P ++ G.drop i).length
 | 0, i, seen, P, h, hs, hl, hn, hd => by
  have : i = G.length := by omega
  subst this
  refine ⟨seen, ?_, by rw [List.drop_length, List.append_nil]; exact hs, by rw [List.drop_length, List.append_nil]; exact hl⟩
  unfold w6
  refine yq ?_
  unfold jg
  rw [if_neg (by simp)]
 | n + 1, i, seen, P, h, hs, hl, hn, hd => by
  have hi : i < G.length := by omega
  rw [List.drop_eq_getElem_cons hi] at hn hd ⊢
  have hx : G[i] ∉ P := hd _ (List.mem_cons_self ..)
  have hn' := List.nodup_cons.1 hn
  obtain ⟨s', h1, h2, h3⟩ := z3m (ks := ks) (M := M) (V := V) hG n (i + 1) (mp ze seen G[i] 1) (P ++ [G[i]]) (by omega) (za1 hs _) (by rw [zjq (by rw [hs, if_neg hx]), hl]; simp) hn'.2 (fun x hx' hp => by
   rcases List.mem_append.1 hp with hp | hp
   ·exact hd x (List.mem_cons_of_mem _ hx') hp
   ·rw [List.mem_singleton] at hp; subst hp; exact hn'.1 hx')
  rw [List.append_assoc, List.singleton_append] at h2 h3
  refine ⟨s', ?_, h2, h3⟩
  unfold w6 at h1 ⊢
  rw [yx (s' := (((i + 1 : Nat) : Int), mp ze seen G[i] 1))]
  ·exact h1
  ·unfold jg
   simp only [Int.toNat_natCast, wo hi, uk]
   rw [if_pos (by simpa using hi), if_pos (by simp; omega), Wi (by omega)]
theorem z4k {es : List G_QEdge} {ks : List K} {M : Gm} (hg : Graph false es ks M) (hl : es.length ≤ 400) {V : List (List K)} {seen : List (K × Int)} {P : List K} (hs : zpp seen P) : ∀ (n i : Nat) (acc : List K), i + n = ks.length → acc.length ≤ i →
 jz none (ks, M) V seen acc (i : Int) = xb none (ks, M) V seen (acc ++ (ks.drop i).filter (rdy es P))
 | 0, i, acc, h, ha => by
  have : i = ks.length := by omega
  subst this
  unfold jz
  rw [yq (x := xb none (ks, M) V seen acc), List.drop_length, List.filter_nil, List.append_nil]
  unfold xq
  rw [if_neg (by simp)]
 | n + 1, i, acc, h, ha => by
  have hi : i < ks.length := by omega
  have hkl := hg.klen
  have hb : xq none (ks, M) V seen acc (i : Int) = some (.inl (if rdy es P ks[i] = true then acc ++ [ks[i]] else acc, ((i + 1 : Nat) : Int))) := by
   unfold xq js
   simp only [Int.toNat_natCast, wo hi, uk]
   rw [if_pos (by simpa using hi), if_pos (by simp; omega), zia hg hl hs, Option.bind_some, Wi (by omega)]
   by_cases c : rdy es P ks[i] = true
   ·rw [if_pos c, if_pos c, if_pos (by simp; omega)]
   ·rw [if_neg c, if_neg c]
  have ih := z4k (V := V) hg hl hs n (i + 1) (if rdy es P ks[i] = true then acc ++ [ks[i]] else acc) (by omega) (by split <;> first | (simp only [List.length_append, List.length_singleton]; omega) | omega)
  rw [List.drop_eq_getElem_cons hi, List.filter_cons]
  unfold jz at ih ⊢
  rw [yx hb, ih]
  by_cases c : rdy es P ks[i] = true
  ·rw [if_pos c, if_pos c, List.append_assoc]; rfl
  ·rw [if_neg c, if_neg c]
theorem round {es : List G_QEdge} {ks : List K} {M : Gm} (hg : Graph false es ks M) (hl : es.length ≤ 400) {V : List (List K)} (hV : V.length ≤ 1000) {seen : List (K × Int)} {P : List K} (hs : SeenS seen P) (hsl : seen.length = P.length) (hP : P.length < ks.length) :
 (ks.filter (rdy es P) = [] → qh none (ks, M) V seen = some (.inr ([], 8))) ∧
 (ks.filter (rdy es P) ≠ [] → ∃ s', qh none (ks, M) V seen = some (.inl (V ++ [ks.filter (rdy es P)], s')) ∧ SeenS s' (P ++ ks.filter (rdy es P)) ∧ s'.length = (P ++ ks.filter (rdy es P)).length) := by
 have hkl := hg.klen
 have h1 := z4k (V := V) hg hl hs.seen ks.length 0 [] (by omega) (by simp)
 rw [List.drop_zero, List.nil_append] at h1
 have hb : qh none (ks, M) V seen = xb none (ks, M) V seen (ks.filter (rdy es P)) := by
  unfold qh
  rw [if_pos (by simp; omega)]
  exact h1
 have hG : (ks.filter (rdy es P)).length ≤ ks.length := List.length_filter_le ..
 refine ⟨fun hc => ?_, fun hc => ?_⟩
 ·rw [hb, hc]; rfl
 ·have hn : (ks.filter (rdy es P)).Nodup := (Zd hg.srt).sublist List.filter_sublist
  obtain ⟨s', g1, g2, g3⟩ := z3m (ks := ks) (M := M) (V := V) (G := ks.filter (rdy es P)) (by omega) (ks.filter (rdy es P)).length 0 seen P (by omega) hs hsl (by rw [List.drop_zero]; exact hn) (by
   rw [List.drop_zero]
   intro x hx
   exact (W3.1 (List.mem_filter.1 hx).2).1)
  rw [List.drop_zero] at g2 g3
  refine ⟨s', ?_, g2, g3⟩
  have := List.length_pos_iff.2 hc
  rw [hb]
  unfold xb
  rw [if_neg (by rw [List.length_map, beq_iff_eq]; omega)]
  refine g1.trans ?_
  unfold jq
  rw [if_pos (by simp only [List.length_map, List.length_append, List.length_singleton]; omega)]
theorem zmg {es : List G_QEdge} {ks : List K} {M : Gm} {V : List (List K)} {seen : List (K × Int)} (h : ¬ seen.length < ks.length) : yi none (ks, M) V seen = some (V, 0) := by
 unfold yi
 rw [yq (x := some (V, 0))]
 unfold qh wk
 rw [if_neg (by simp; omega)]
theorem zj5 {es : List G_QEdge} {ks : List K} {M : Gm} (hg : Graph false es ks M) (hl : es.length ≤ 400) (ha : ∀ k, ¬ Rc es k k) {rk : K → Nat} (hr : Rank es rk) : ∀ (d n : Nat) (V : List (List K)) (seen : List (K × Int)) (P : List K),
 ks.length ≤ P.length + d → P.Nodup → (∀ x, x ∈ P ↔ x ∈ ks ∧ lv es x < n) → n ≤ P.length → SeenS seen P → seen.length = P.length → V.length ≤ n → yi none (ks, M) V seen = some (V ++ grp es ks (ks.length - n) n, 0) := by
 have fin : ∀ (n : Nat) (V : List (List K)) (seen : List (K × Int)) (P : List K), ks.length ≤ P.length → P.Nodup → (∀ x, x ∈ P ↔ x ∈ ks ∧ lv es x < n) → seen.length = P.length → yi none (ks, M) V seen = some (V ++ grp es ks (ks.length - n) n, 0) := by
  intro n V seen P h hn hm hsl
  have hall := z4i hn (fun x hx => ((hm x).1 hx).1) h
  rw [zmg (es := es) (by omega), zc4 _ _ fun k hk => ((hm k).1 (hall k hk)).2, List.append_nil]
 intro d
 induction d with
 | zero => exact fun n V seen P h hn hm _ _ hsl _ => fin n V seen P h hn hm hsl
 | succ d ih =>
  intro n V seen P h hn hm hnP hs hsl hV
  by_cases hP : P.length < ks.length
  ·have hkl := hg.klen
   have hex : ∃ k ∈ ks, k ∉ P := by
    refine Classical.byContradiction fun hne => ?_
    have := X4 (Zd hg.srt) (b := P) fun x hx => Classical.byContradiction fun hxp => hne ⟨x, hx, hxp⟩
    omega
   obtain ⟨k, hk, hkp⟩ := hex
   obtain ⟨l, _, hrl⟩ := Ys hl k
   obtain ⟨j, hj, hjr⟩ := zax hg hl ha l.length k l hrl (Nat.le_refl _) hk hkp
   have hmem : ∀ x ∈ ks, (rdy es P x = true ↔ lv es x = n) := fun x hx => by
    rw [W3]
    have e1 : x ∉ P ↔ n ≤ lv es x := by
     rw [hm]
     constructor
     ·intro h; exact Nat.le_of_not_lt fun h' => h ⟨hx, h'⟩
     ·rintro h ⟨_, h'⟩; omega
    have e2 : (∀ y, adj false es x y → y ∈ P) ↔ lv es x ≤ n := by
     rw [zqb hr]
     constructor
     ·intro h y hy; exact ((hm y).1 (h y hy)).2
     ·intro h y hy
      refine (hm y).2 ⟨?_, h y hy⟩
      obtain ⟨e, he, _, h2⟩ := hy
      exact (hg.mem y).2 ⟨e, he, .inr h2.symm⟩
    rw [e1, e2]; omega
   have hG : ks.filter (rdy es P) = gp es ks n := by
    unfold gp
    refine List.filter_congr fun x hx => ?_
    rw [Bool.eq_iff_iff, beq_iff_eq]
    exact hmem x hx
   have hne : ks.filter (rdy es P) ≠ [] := fun e => by
    have : j ∈ ks.filter (rdy es P) := List.mem_filter.2 ⟨hj, hjr⟩
    rw [e] at this; cases this
   obtain ⟨s', g1, g2, g3⟩ := (round hg hl (V := V) (by omega) hs hsl hP).2 hne
   have hpos := List.length_pos_iff.2 hne
   have hih := ih (n + 1) (V ++ [ks.filter (rdy es P)]) s' (P ++ ks.filter (rdy es P)) (by rw [List.length_append]; omega)
    (by
     rw [List.nodup_append]
     refine ⟨hn, (Zd hg.srt).sublist List.filter_sublist, fun a ha b hb e => ?_⟩
     subst e
     exact (W3.1 (List.mem_filter.1 hb).2).1 ha)
    (fun x => by
     rw [List.mem_append, hm, List.mem_filter]
     constructor
     ·rintro (⟨h1, h2⟩ | ⟨h1, h2⟩)
      ·exact ⟨h1, by omega⟩
      ·have := (hmem x h1).1 h2
       exact ⟨h1, by omega⟩
     ·rintro ⟨h1, h2⟩
      by_cases c : lv es x < n
      ·exact .inl ⟨h1, c⟩
      ·exact .inr ⟨h1, (hmem x h1).2 (by omega)⟩)
    (by rw [List.length_append]; omega) g2 g3 (by simp only [List.length_append, List.length_singleton]; omega)
   unfold yi at hih ⊢
   rw [yx g1, hih]
   have ef : ks.length - n = (ks.length - (n + 1)) + 1 := by omega
   rw [ef]
   have eg : grp es ks ((ks.length - (n + 1)) + 1) n = if gp es ks n = [] then grp es ks (ks.length - (n + 1)) (n + 1) else gp es ks n :: grp es ks (ks.length - (n + 1)) (n + 1) := rfl
   rw [eg, if_neg (by rw [← hG]; exact hne), hG, List.append_assoc]
   rfl
  ·exact fin n V seen P (by omega) hn hm hsl
theorem z0q {es : List G_QEdge} {P : List K} (hp : Placed es P) : ∀ (G Q : List K), (Q ++ G).Nodup → (∀ x ∈ Q ++ G, rdy es P x = true) → Placed es (P ++ Q) → Placed es (P ++ (Q ++ G))
 | [], Q, _, _, h => by rw [List.append_nil]; exact h
 | g :: G, Q, hn, hr, h => by
  have e : Q ++ g :: G = (Q ++ [g]) ++ G := by rw [List.append_assoc]; rfl
  rw [e] at hn hr ⊢
  refine z0q hp G (Q ++ [g]) hn hr ?_
  rw [← List.append_assoc]
  obtain ⟨h1, h2⟩ := W3.1 (hr g (List.mem_append.2 (.inl (List.mem_append.2 (.inr (List.mem_singleton.2 rfl))))))
  refine .snoc h (fun hg => ?_) fun y hy => List.mem_append.2 (.inl (h2 y hy))
  rcases List.mem_append.1 hg with hg | hg
  ·exact h1 hg
  ·have hq := (List.nodup_append.1 hn).1
   exact (List.nodup_append.1 hq).2.2 g hg g (List.mem_singleton.2 rfl) rfl
theorem zkm {es : List G_QEdge} {ks : List K} {M : Gm} (hg : Graph false es ks M) (hl : es.length ≤ 400) {k : K} (hk : Rc es k k) : ∀ (d : Nat) (V : List (List K)) (seen : List (K × Int)) (P : List K),
 ks.length ≤ P.length + d → Placed es P → (∀ x ∈ P, x ∈ ks) → V.length ≤ P.length → SeenS seen P → seen.length = P.length → yi none (ks, M) V seen = some ([], 8) := by
 have less : ∀ P : List K, Placed es P → (∀ x ∈ P, x ∈ ks) → P.length < ks.length := by
  intro P hp hs
  refine Nat.lt_of_not_le fun h => ?_
  have h4 := hp.ok
  obtain ⟨b, e, he, h5, _⟩ := hk.first
  have hkk : k ∈ ks := (hg.mem k).2 ⟨e, he, .inl h5.symm⟩
  exact absurd hk (h4.2 k (z4i h4.1 hs h k hkk)).2
 intro d
 induction d with
 | zero =>
  intro V seen P h hp hs _ _ _
  have := less P hp hs
  omega
 | succ d ih =>
  intro V seen P h hp hs hV hS hsl
  have hP := less P hp hs
  have hkl := hg.klen
  have hrd := round hg hl (V := V) (by omega) hS hsl hP
  by_cases c : ks.filter (rdy es P) = []
  ·unfold yi
   exact yq (x := some ([], 8)) (hrd.1 c)
  ·obtain ⟨s', g1, g2, g3⟩ := hrd.2 c
   have hpos := List.length_pos_iff.2 c
   have hih := ih (V ++ [ks.filter (rdy es P)]) s' (P ++ ks.filter (rdy es P)) (by rw [List.length_append]; omega)
    (by
     have := z0q hp (ks.filter (rdy es P)) [] (by rw [List.nil_append]; exact (Zd hg.srt).sublist List.filter_sublist) (fun x hx => (List.mem_filter.1 hx).2) (by rw [List.append_nil]; exact hp)
     rwa [List.nil_append] at this)
    (fun x hx => by
     rcases List.mem_append.1 hx with hx | hx
     ·exact hs x hx
     ·exact (List.mem_filter.1 hx).1)
    (by simp only [List.length_append, List.length_singleton]; omega) g2 g3
   unfold yi at hih ⊢
   rw [yx g1]; exact hih
theorem z2u : SeenS [] [] := fun k => by simp [lk]
theorem zr2 (c n : Nat) : (if (c : Int) < (n : Int) then (c : Int) else (n : Int)) = ((min c n : Nat) : Int) := by split <;> omega
theorem z95 {A : (List (List K)) × Int} {B : List (List K)} (hAB : A.1 = B) (hB : ∀ l ∈ B, l.length ≤ 1000000) (hBl : B.length ≤ 1000000) : ∀ (n i : Nat), i + n = B.length → yz none A B (i : Int) = some true
 | 0, i, h => by
  have : i = B.length := by omega
  subst this
  unfold yz
  rw [yq (x := some true)]
  unfold ye x4
  rw [if_neg (by simp), z0w]
  rfl
 | n + 1, i, h => by
  have hi : i < B.length := by omega
  have ih := z95 hAB hB hBl n (i + 1) (by omega)
  unfold yz at ih ⊢
  rw [yx (s' := ((i + 1 : Nat) : Int))]
  ·exact ih
  ·unfold ye
   rw [hAB]
   simp only [Int.toNat_natCast, wo hi]
   rw [if_pos (by simpa using hi), if_pos (by simp; omega), if_pos (by simp; omega), z16 (hB _ (List.getElem_mem _)), Option.bind_some, if_neg (by decide), Wi (by omega)]
theorem zr9 {a0 : List G_QEdge} : yr none a0 = some true := by
 obtain ⟨es, hes⟩ : ∃ es, es = a0.take (min 14 a0.length) := ⟨_, rfl⟩
 have hl : es.length ≤ 14 := by rw [hes, List.length_take]; omega
 obtain ⟨ks, M, hn, hg⟩ := Xw (es := es) (rev := false) (by omega)
 have hkl := hg.klen
 obtain ⟨b, hc, hb⟩ := zeg hg (by omega)
 have ec : (if (14 : Int) < (a0.length : Int) then (14 : Int) else (a0.length : Int)) = ((min 14 a0.length : Nat) : Int) := zr2 14 _
 unfold yr
 rw [z0w]
 simp only [Option.bind_some, List.length_map, ec, Int.toNat_natCast, ← hes, hc]
 rw [if_neg (by decide), if_pos (by omega)]
 have hlv : ∀ r, yi none (ks, M) [] ([] : List (K × Int)) = some r → wb none es = some r := fun r h => by
  unfold wb
  rw [hn, Option.bind_some]; exact h
 cases b with
 | true =>
  obtain ⟨k, hk⟩ := hb.1 rfl
  rw [hlv _ (zkm hg (by omega) hk ks.length [] [] [] (by simp) .nil (fun x hx => absurd hx List.not_mem_nil) (by simp) z2u rfl)]
  rfl
 | false =>
  have ha : ∀ k, ¬ Rc es k k := fun k hk => by have := hb.2 ⟨k, hk⟩; cases this
  obtain ⟨rk, hr⟩ := zkw (by omega) ha
  rw [hlv _ (zj5 hg (by omega) ha hr ks.length 0 [] [] [] (by simp) (by simp) (fun x => by simp) (by simp) z2u rfl (by simp)), zkz hg hr (by omega)]
  simp only [Option.bind_some, List.nil_append, Nat.sub_zero]
  rw [if_neg (by decide), if_neg (by simp)]
  have := zel (es := es) (ks := ks) ks.length 0
  exact z95 (B := grp es ks ks.length 0) rfl (fun l h => by have := z5v _ _ l h; omega) (by omega) _ 0 (Nat.zero_add _)
end Go.Proofs.Ytejfgjggcoemeaa
