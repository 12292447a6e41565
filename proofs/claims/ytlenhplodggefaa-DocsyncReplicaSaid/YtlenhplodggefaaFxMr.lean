/-
  Own framework.
-/
import Derived.Test.YtlenhplodggefaaFxN
namespace Go.Fx
set_option linter.unusedVariables false

theorem fork_eq {j a : Int} (h : j = a) : (j == a) = true := by subst h; exact beq_self_eq_true j
theorem fork_ne {j a c : Int} (h : j = a) (hne : a ≠ c) : (j == c) = false := by subst h; exact beq_false_of_ne hne
theorem Vw.frzPart {F : Id → Bool} {H : AHeap} {ρ : Id → Option Id} {n : Nat} {α : Type} (f : α → List AVal) (hf : ∀ x, AVal.nid.nidL (f x) = true ∧ ∀ y ∈ f x, y.imm = some y) {b : Id} {s off len : Nat} {fl : Bool} {fl' : Bool} {l : List α} (hff : fl' = true → fl = true) (hF : F b = true) (hg : H.get b = some (.rows s (l.map f))) (hl : off + len ≤ l.length) : Vw F H ρ n (.msl b s off len fl) (.isl s (((l.drop off).take len).map f) fl') := by
  have hsame : ∀ (i : Nat) (r r' : List AVal), (l.map f)[off + i]? = some r → (((l.drop off).take len).map f)[i]? = some r' → r = r' ∧ ∃ z, r' = f z := fun i r r' h h' => by
    rw [List.getElem?_map, List.getElem?_take] at h'
    split at h'
    · rw [List.getElem?_drop] at h'
      rw [List.getElem?_map] at h
      rw [h] at h'
      simp only [Option.some.injEq] at h'
      obtain ⟨z, _, hz⟩ := Option.map_eq_some_iff.1 h
      exact ⟨h', z, by rw [← h', hz]⟩
    · cases h'
  refine .frz b s off len fl fl' (l.map f) _ hff hF hg (by simpa using hl) (by simp; omega) (fun i r r' h h' => by rw [(hsame i r r' h h').1]) (fun i r r' j x y h h' hx hy => ?_) (fun r hr y hy => ?_)
  · obtain ⟨e, z, hz⟩ := hsame i r r' h h'
    subst e; subst hz
    exact vwL_same (hf z).1 j x y hx hy
  · obtain ⟨z, _, rfl⟩ := List.mem_map.1 hr
    exact (hf z).2 y hy
theorem slAr_eq {α : Type} {l : List α} {n : Nat} (h : l.length = n) {b : Id} {s : Nat} {f : Bool} : AVal.msl b s 0 n f = AVal.msl b s 0 l.length f := by rw [h]
theorem slAr_le {α : Type} (e : α → List AVal) {l : List α} {n : Nat} (h : l.length = n) : 0 + n ≤ (l.map e).length := by rw [List.length_map, h]; omega
theorem copyWM {α : Type} (f : α → List AVal) (l m : List α) (off len o n : Nat) : (l.map f).take off ++ (((m.map f).drop o).take n).take len ++ (l.map f).drop (off + min (((m.map f).drop o).take n).length len) = (l.take off ++ ((m.drop o).take n).take len ++ l.drop (off + min ((m.drop o).take n).length len)).map f := by
  simp only [List.map_append, List.map_take, List.map_drop, List.length_take, List.length_drop, List.length_map]
noncomputable def allM {ρ : Type} (l : List Nat) (F : Nat → Option ρ) : Option ρ := match l with
  | [] => none
  | [j] => F j
  | l => by classical exact if h : ∃ r, ∀ j ∈ l, F j = some r then some (Classical.choose h) else none
theorem allM_some {ρ : Type} {l : List Nat} {F : Nat → Option ρ} {r : ρ} (h : allM l F = some r) : ∀ j ∈ l, F j = some r := by
  unfold allM at h
  split at h
  · cases h
  · intro j hj; simp only [List.mem_singleton] at hj; subst hj; exact h
  · split at h
    · rename_i hex
      simp only [Option.some.injEq] at h
      subst h
      exact Classical.choose_spec hex
    · cases h
theorem allM_of {ρ : Type} {l : List Nat} {F : Nat → Option ρ} {r : ρ} (hl : l ≠ []) (h : ∀ j ∈ l, F j = some r) : allM l F = some r := by
  unfold allM
  split
  · exact absurd rfl hl
  · exact h _ (List.mem_singleton.2 rfl)
  · have hex : ∃ r, ∀ j ∈ l, F j = some r := ⟨r, h⟩
    rw [dif_pos hex]
    obtain ⟨j, hj⟩ := List.exists_mem_of_ne_nil l hl
    have h1 := Classical.choose_spec hex j hj
    rw [h j hj] at h1
    exact h1.symm

section
variable {σ ρ : Type} (N : Nat) (b : Nat → σ → Option (σ ⊕ ρ)) (d : σ → Option (σ ⊕ ρ))
def unmet (seen : List Nat) : List Nat := (List.range N).filter fun j => !seen.contains j
noncomputable def rangeF : Nat → List Nat → σ → Option ρ
  | 0, _, _ => none
  | k + 1, seen, s => match unmet N seen with
    | [] => (d s).bind fun o => match o with
      | .inl _ => none
      | .inr r => some r
    | l => allM l fun j => (b j s).bind fun o => match o with
      | .inl s' => rangeF k (j :: seen) s'
      | .inr r => some r
def rangeL : List Nat → σ → Option ρ
  | [], s => (d s).bind fun o => match o with
    | .inl _ => none
    | .inr r => some r
  | j :: l, s => (b j s).bind fun o => match o with
    | .inl s' => rangeL l s'
    | .inr r => some r
variable {N b d}
theorem mem_unmet {seen : List Nat} {j : Nat} : j ∈ unmet N seen ↔ j < N ∧ j ∉ seen := by
  unfold unmet
  simp
theorem rangeF_done {k : Nat} {seen : List Nat} {s : σ} {r : ρ} (h : rangeF N b d (k + 1) seen s = some r) (ha : ∀ j, j < N → j ∈ seen) : ∃ o, d s = some o ∧ (∀ s', o = .inl s' → rangeF N b d k seen s' = some r) ∧ (∀ r', o = .inr r' → r' = r) := by
  unfold rangeF at h
  split at h
  · cases hd : d s with
    | none => rw [hd] at h; cases h
    | some o =>
      rw [hd] at h
      cases o with
      | inl s' => cases h
      | inr r' => simp only [Option.bind_some, Option.some.injEq] at h; exact ⟨_, rfl, (fun s' e => by cases e), fun r'' e => by cases e; exact h⟩
  · rename_i l hl
    cases hu : unmet N seen with
    | nil => exact absurd hu hl
    | cons j t =>
      have : j ∈ unmet N seen := by rw [hu]; exact List.mem_cons_self ..
      obtain ⟨h1, h2⟩ := mem_unmet.1 this
      exact absurd (ha j h1) h2
theorem rangeF_more {k : Nat} {seen : List Nat} {s : σ} {r : ρ} (h : rangeF N b d (k + 1) seen s = some r) {j : Nat} (hj : j < N) (hn : j ∉ seen) : ∃ o, b j s = some o ∧ (∀ s', o = .inl s' → rangeF N b d k (j :: seen) s' = some r) ∧ (∀ r', o = .inr r' → r' = r) := by
  have hm : j ∈ unmet N seen := mem_unmet.2 ⟨hj, hn⟩
  unfold rangeF at h
  split at h
  · rename_i hu; rw [hu] at hm; cases hm
  · have h1 := allM_some h j hm
    cases hb : b j s with
    | none => rw [hb] at h1; cases h1
    | some o =>
      rw [hb] at h1
      cases o with
      | inl s' => exact ⟨_, rfl, (fun s'' e => by cases e; exact h1), fun r' e => by cases e⟩
      | inr r' => simp only [Option.bind_some, Option.some.injEq] at h1; exact ⟨_, rfl, (fun s' e => by cases e), fun r'' e => by cases e; exact h1⟩
theorem rangeF_zero {seen : List Nat} {s : σ} {r : ρ} (h : rangeF N b d 0 seen s = some r) : False := by cases h

theorem unmet_cons {seen : List Nat} {j : Nat} (hj : j ∈ unmet N seen) : (j :: unmet N (j :: seen)).Perm (unmet N seen) := by
  have hnd : (unmet N seen).Nodup := List.Pairwise.filter _ List.nodup_range
  have hnd2 : (unmet N (j :: seen)).Nodup := List.Pairwise.filter _ List.nodup_range
  have hn : j ∉ unmet N (j :: seen) := fun h => (mem_unmet.1 h).2 (List.mem_cons_self ..)
  refine (List.perm_ext_iff_of_nodup (List.nodup_cons.2 ⟨hn, hnd2⟩) hnd).2 fun x => ?_
  rw [List.mem_cons]
  constructor
  · rintro (rfl | h)
    · exact hj
    · obtain ⟨h1, h2⟩ := mem_unmet.1 h
      exact mem_unmet.2 ⟨h1, fun h3 => h2 (List.mem_cons_of_mem _ h3)⟩
  · intro h
    obtain ⟨h1, h2⟩ := mem_unmet.1 h
    by_cases e : x = j
    · exact .inl e
    · exact .inr (mem_unmet.2 ⟨h1, fun h3 => (List.mem_cons.1 h3).elim e h2⟩)
theorem rangeF_of' : ∀ (k : Nat) (seen : List Nat) (s : σ) (r : ρ), (unmet N seen).length < k → (∀ l, l.Perm (unmet N seen) → rangeL b d l s = some r) → rangeF N b d k seen s = some r
  | 0, _, _, _, h, _ => by omega
  | k + 1, seen, s, r, hk, h => by
    unfold rangeF
    split
    · rename_i hu
      have := h [] (by rw [hu])
      exact this
    · rename_i l hl
      refine allM_of hl fun j hj => ?_
      have hp := unmet_cons hj
      have h1 := h _ hp
      unfold rangeL at h1
      cases hb : b j s with
      | none => rw [hb] at h1; cases h1
      | some o =>
        cases o with
        | inr r' => rw [hb] at h1; exact h1
        | inl s' =>
          simp only [Option.bind_some]
          refine rangeF_of' k (j :: seen) s' r ?_ fun l hl => ?_
          · have := hp.length_eq
            simp only [List.length_cons] at this
            omega
          · have h2 := h (j :: l) ((hl.cons j).trans hp)
            unfold rangeL at h2
            rw [hb] at h2
            exact h2
theorem rangeF_of {s : σ} {r : ρ} (h : ∀ l : List Nat, l.Perm (List.range N) → rangeL b d l s = some r) : rangeF N b d (N + 1) [] s = some r := by
  have hu : unmet N [] = List.range N := by unfold unmet; simp
  exact rangeF_of' _ _ _ _ (by rw [hu]; simp) (by rw [hu]; exact h)
end

variable {P : Program} {N : Lay} {n0 : Nat}
def BodyF {σ ρ : Type} (n0 nL : Nat) (F : Nat → List Nat → σ → Option ρ) (env : List Nat → σ → Env) (hp : List Nat → σ → AHeap) (QX : ρ → Exit → Env → AHeap → Nat → Prop) (k : Nat) (r : ρ) : Exit → Env → AHeap → Nat → Prop := fun ex e H n =>
  (ex = .normal ∧ ∃ seen s, F k seen s = some r ∧ Sim n0 e H n (env seen s) (hp seen s) nL) ∨ (ex ≠ .normal ∧ QX r ex e H n)
theorem BodyQ_F {σ ρ : Type} {nL : Nat} {F : Nat → List Nat → σ → Option ρ} {env : List Nat → σ → Env} {hp : List Nat → σ → AHeap} {QX : ρ → Exit → Env → AHeap → Nat → Prop} {k : Nat} {r : ρ} {o : σ ⊕ ρ} {seen : List Nat} (h1 : ∀ s', o = .inl s' → F k seen s' = some r) (h2 : ∀ r', o = .inr r' → r' = r) :
    ∀ ex e H n, BodyQ n0 nL (env seen) (hp seen) QX o ex e H n → BodyF n0 nL F env hp QX k r ex e H n := by
  intro ex e H n h
  cases o with
  | inl s => exact .inl ⟨h.1, seen, s, h1 s rfl, h.2⟩
  | inr r' => obtain rfl := h2 r' rfl; exact .inr h

theorem LWp_range {σ ρ : Type} {c : LCode} {nL : Nat} (F : Nat → List Nat → σ → Option ρ) (env : List Nat → σ → Env) (hp : List Nat → σ → AHeap) (QX : ρ → Exit → Env → AHeap → Nat → Prop) (h0 : ∀ seen s r, F 0 seen s = some r → False)
    (h : ∀ k seen s r, F (k + 1) seen s = some r → LWp P N n0 c (BodyF n0 nL F env hp QX k r) (env seen s) (hp seen s) nL) {k : Nat} {seen : List Nat} {s : σ} {r : ρ} (hr : F k seen s = some r) : LWp P N n0 (.loop c) (QX r) (env seen s) (hp seen s) nL := by
  intro cc hc ro hro J0 γ0 G0 w0 I β w a hX hI hE hN hD QQ hQ
  cases cc with
  | loop c' =>
    simp only [lowCode, Option.map_eq_some_iff] at hc
    obtain ⟨b', hb, hc⟩ := hc
    simp only [LCode.loop.injEq] at hc
    subst hc
    let Inside : Nat → Act → World → Prop := fun m a w => ∃ seen s I β, F m seen s = some r ∧ Ext J0 γ0 n0 G0 w0 I β nL (hp seen s) w ∧ Inv I β nL (hp seen s) w ∧ RepEnv I β nL w (env seen s) a ∧ a.tmps.size = N.n ∧ Dfr w0.heap.size w a.defers
    let mu : Act → World → Nat := fun a w => by
      classical
      exact if h : ∃ m, Inside m a w then Classical.choose (least_exists _ h) else 0
    have mu_spec : ∀ a w, (∃ m, Inside m a w) → Inside (mu a w) a w ∧ ∀ k, k < mu a w → ¬ Inside k a w := by
      intro a w h
      have : mu a w = Classical.choose (least_exists _ h) := by simp only [mu]; rw [dif_pos h]
      rw [this]
      exact Classical.choose_spec (least_exists _ h)
    refine wpIn_loop (fun a w => ∃ m, Inside m a w) mu ⟨k, seen, s, I, β, hr, hX, hI, hE, hN, hD⟩ ?_
    intro a w hin
    obtain ⟨⟨seen, s, I, β, hm, k1, k2, k3, k4, k5⟩, _⟩ := mu_spec a w hin
    cases hmu : mu a w with
    | zero => rw [hmu] at hm; exact (h0 _ _ _ hm).elim
    | succ m =>
      rw [hmu] at hm
      refine h m seen s r hm c' hb ro hro J0 γ0 G0 w0 I β w a k1 k2 k3 k4 k5 _ ?_
      intro ex e' H' n' I' β' w' a' g1 g2 g3 g4 g5 g6
      rcases g1 with ⟨rfl, seen', s', hF, hsim⟩ | ⟨hne, hq⟩
      · obtain ⟨I2, β2, q1, q2, q3⟩ := hsim J0 γ0 G0 w0 I' β' w' a' g6 g2 g3
        have hin' : Inside m a' w' := ⟨seen', s', I2, β2, hF, q1, q2, q3, g4, g5⟩
        refine ⟨⟨_, hin'⟩, ?_⟩
        obtain ⟨_, hleast⟩ := mu_spec a' w' ⟨_, hin'⟩
        have : ¬ m < mu a' w' := fun h => hleast _ h hin'
        omega
      · cases ex with
        | normal => exact absurd rfl hne
        | _ => exact hQ _ _ _ _ _ _ _ _ hq g2 g3 g4 g5 g6
  | skip => cases hc
  | region id ops draw => simp only [lowCode] at hc; split at hc <;> (try split at hc) <;> (try split at hc) <;> (try split at hc) <;> simp at hc
  | seq a b => simp only [lowCode] at hc; split at hc <;> simp at hc
  | cond c a b => simp only [lowCode] at hc; split at hc <;> simp at hc
  | block id c => simp [lowCode] at hc
  | exit id => cases hc
  | ret => cases hc
  | rangeFunc g ps x y => simp only [lowCode] at hc; split at hc <;> simp at hc
  | _ => cases hc

theorem ent_enc {κ α : Type} [Inhabited (κ × α)] {ek : κ → AVal} {ev : α → AVal} {l : List (κ × α)} {j : Nat} (h : j < (l.map (em ek ev)).length) : (l.map (em ek ev))[j]? = some (em ek ev (l.getD j default)) := by
  rw [List.length_map] at h
  rw [List.getElem?_map, List.getElem?_eq_getElem h, List.getD_eq_getElem?_getD, List.getElem?_eq_getElem h]
  rfl
theorem lt_len {α β : Type} {f : α → β} {l : List α} {j : Nat} (h : j < (l.map f).length) : j < l.length := by rwa [List.length_map] at h
theorem len_lt {α β : Type} {f : α → β} {l : List α} {j : Nat} (h : j < l.length) : j < (l.map f).length := by rwa [List.length_map]
theorem BVw.ofRmap {F : Id → Bool} {H : AHeap} {ρ : Id → Option Id} {n : Nat} {κ α : Type} (ek : κ → AVal) (ev : α → AVal) (hv : ∀ x, (ev x).nid = true) (l : List (κ × α)) {arr : Array MapEntry} {ck : Nat} : BVw F H ρ n (.rmap (l.map (em ek ev)) arr ck) (.rmap (l.map (em ek ev)) arr ck) :=
  .rmap _ _ _ (fun x hx => by obtain ⟨y, _, rfl⟩ := List.mem_map.1 hx; exact hv _)
theorem BVw.ofRmapA {F : Id → Bool} {H : AHeap} {ρ : Id → Option Id} {n : Nat} {κ α : Type} (ek : κ → AVal) (ev : α → AVal) (hv : ∀ x, (ev x).nid = true) (l : List (κ × α)) {arr : Array MapEntry} {ck : Nat} : BVw F H ρ n (.rmap (l.map (em ek ev)) arr ck) (.amap (l.map (em ek ev))) :=
  .rmapA _ _ _ (fun x hx => by obtain ⟨y, _, rfl⟩ := List.mem_map.1 hx; exact hv _)
theorem rmap_ren {κ α : Type} {g : Id → Id} (ek : κ → AVal) (ev : α → AVal) (hk : ∀ x, (ek x).nid = true) (hv : ∀ x, (ev x).nid = true) (l : List (κ × α)) {arr : Array MapEntry} {ck : Nat} : (ABlock.rmap (l.map (em ek ev)) arr ck).ren g = .rmap (l.map (em ek ev)) arr ck := by
  simp only [ABlock.ren, List.map_map]
  congr 1
  refine List.map_congr_left fun x _ => ?_
  simp only [Function.comp, em, nid_ren _ (hk _), nid_ren _ (hv _)]
end Go.Fx
