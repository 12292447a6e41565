/-
  Own framework.
-/
import Derived.Test.YtcllpgaaoiccgaaFxOb
namespace Go.Fx
set_option linter.unusedVariables false

section
variable {P : Program} {κ ι : Type} {ek : κ → AVal} {B : ι → ABlock}
def famO (r : Nat) (B : ι → ABlock) (s : List (κ × ι)) : AHeap := s.mapIdx fun j p => ((r, j), B p.2)
def mapO (ek : κ → AVal) (r : Nat) (s : List (κ × ι)) : ABlock := .amap (s.mapIdx fun j p => (ek p.1, .map (r, j)))
def objO (ek : κ → AVal) (B : ι → ABlock) (s : List (κ × ι)) : AHeap := ((1, 0), .one [.map (1, 1)]) :: ((1, 1), mapO ek 2 s) :: famO 2 B s
def refs (i : Nat) (s : List (κ × ι)) : List (κ × Ref) := s.mapIdx fun j p => (p.1, if j = i then Ref.foc else .oth j)


theorem famO_nd {r : Nat} {s : List (κ × ι)} : ((famO r B s).map (·.1)).Nodup := by
  unfold famO
  rw [List.Nodup, List.pairwise_iff_getElem]
  intro i j hi hj hij
  simp only [List.getElem_map, List.getElem_mapIdx, ne_eq, Prod.mk.injEq, true_and]
  omega
theorem famO_mem {r : Nat} {s : List (κ × ι)} {x : Id × ABlock} (h : x ∈ famO r B s) : ∃ j p, s[j]? = some p ∧ x = ((r, j), B p.2) := by
  unfold famO at h
  obtain ⟨q, hq, he⟩ := List.mem_mapIdx.1 h
  exact ⟨q, s[q], List.getElem?_eq_getElem hq, he.symm⟩
theorem famO_of {r : Nat} {s : List (κ × ι)} {j : Nat} {p : κ × ι} (h : s[j]? = some p) : (famO r B s).get (r, j) = some (B p.2) := by
  refine get_of_mem famO_nd ?_
  unfold famO
  refine List.mem_mapIdx.2 ⟨j, col_lt' h, ?_⟩
  have := List.getElem?_eq_getElem (col_lt' h)
  rw [h] at this
  rw [← Option.some.inj this]
theorem famO_inv {r : Nat} {s : List (κ × ι)} {id : Id} {b : ABlock} (h : (famO r B s).get id = some b) : id.1 = r ∧ ∃ p, s[id.2]? = some p ∧ b = B p.2 := by
  obtain ⟨j, p, h1, h2⟩ := famO_mem (get_mem h)
  simp only [Prod.mk.injEq] at h2
  obtain ⟨rfl, rfl⟩ := h2
  exact ⟨rfl, p, h1, rfl⟩
theorem mapO_ren {r r' : Nat} {g : Id → Id} (hk : ∀ x, (ek x).nid = true) {s : List (κ × ι)} (hg : ∀ j, j < s.length → g (r, j) = (r', j)) : (mapO ek r s).ren g = mapO ek r' s := by
  simp only [mapO, ABlock.ren]
  congr 1
  refine List.ext_getElem (by simp) fun j h1 h2 => ?_
  simp only [List.getElem_map, List.getElem_mapIdx, AVal.ren, nid_ren _ (hk _)]
  rw [hg j (by simpa using h1)]
theorem mapO_inP {r : Nat} {p : Id → Bool} (hk : ∀ x, (ek x).nid = true) {s : List (κ × ι)} (hg : ∀ j, j < s.length → p (r, j) = true) : (mapO ek r s).inP p = true := by
  simp only [mapO, ABlock.inP, List.all_eq_true, Bool.and_eq_true]
  intro x hx
  obtain ⟨q, hq, rfl⟩ := List.mem_mapIdx.1 hx
  exact ⟨nid_inP _ (hk _), hg q hq⟩

section
variable (hk : ∀ x, (ek x).nid = true) (hB : ∀ x g, (B x).ren g = B x) (hP : ∀ x p, (B x).inP p = true)
include hk hB hP
omit hk in
theorem bv_same {F : Id → Bool} {H : AHeap} {ρ : Id → Option Id} {n : Nat} (x : ι) : BVw F H ρ n (B x) (B x) := by
  have := BVw.mov (F := F) (H := H) (ρ := ρ) (n := n) (fun _ => false) (fun i => i) (B x) (hP x _) (fun _ h => Bool.noConfusion h)
  rwa [hB] at this
omit hB in
theorem tl_obj (s : List (κ × ι)) : Tl (objO ek B s) := by
  have al1 : (AHeap.get (objO ek B s) (1, 1)).isSome = true := by simp [objO, AHeap.get]
  have al2 : ∀ j, j < s.length → (AHeap.get (objO ek B s) (2, j)).isSome = true := fun j hj => by
    unfold objO
    rw [AHeap.get_cons_other _ _ (by simp), AHeap.get_cons_other _ _ (by simp), famO_of (List.getElem?_eq_getElem hj)]
    rfl
  refine ⟨fun x hx => ?_, fun x hx => ?_, ?_⟩
  · unfold objO at hx
    rcases List.mem_cons.1 hx with rfl | hx
    · rfl
    · rcases List.mem_cons.1 hx with rfl | hx
      · rfl
      · obtain ⟨j, p, _, rfl⟩ := famO_mem hx; rfl
  · rcases List.mem_cons.1 hx with rfl | hx
    · simp only [ABlock.inP, AVal.inP.inPL, AVal.inP, al1, p12]; rfl
    · rcases List.mem_cons.1 hx with rfl | hx
      · exact mapO_inP hk (fun j hj => by simp only [al2 j hj, p12]; rfl)
      · obtain ⟨j, p, _, rfl⟩ := famO_mem hx; exact hP _ _
  · unfold objO
    simp only [List.map_cons, List.nodup_cons]
    refine ⟨fun h => ?_, fun h => ?_, famO_nd⟩
    · rcases List.mem_cons.1 h with h | h
      · cases h
      · obtain ⟨x, hx, he⟩ := List.mem_map.1 h
        obtain ⟨j, p, _, rfl⟩ := famO_mem hx
        cases he
    · obtain ⟨x, hx, he⟩ := List.mem_map.1 h
      obtain ⟨j, p, _, rfl⟩ := famO_mem hx
      cases he
omit hP in
theorem up_obj (q : Nat) (s : List (κ × ι)) : up q (objO ek B s) = ((1, 0), .one [.map (1, 1)]) :: ((1, 1), mapO ek q s) :: famO q B s := by
  simp only [up, AHeap.renamed, objO, List.map_cons]
  have e1 : mv 2 q (1, 0) = (1, 0) := rfl
  have e2 : mv 2 q (1, 1) = (1, 1) := rfl
  rw [e1, e2, mapO_ren (r' := q) hk (fun j hj => by simp [mv])]
  have : List.map (fun x => (mv 2 q x.1, x.2.ren (mv 2 q))) (famO 2 B s) = famO q B s := by
    unfold famO
    refine List.ext_getElem (by simp) fun j h1 h2 => ?_
    simp only [List.getElem_map, List.getElem_mapIdx, hB]
    simp [mv]
  rw [this]
  rfl
omit hB hP in
theorem refs_ren {g : Id → Id} {i : Nat} {s : List (κ × ι)} (h1 : ∀ j, j < s.length → j ≠ i → g (2, j) = (1, j)) (h2 : g (2, i) = (0, 2)) : (mapO ek 2 s).ren g = .amap ((refs i s).map (em ek (eR (some (0, 2))))) := by
  simp only [mapO, ABlock.ren, refs]
  congr 1
  refine List.ext_getElem (by simp) fun j h3 h4 => ?_
  simp only [List.getElem_map, List.getElem_mapIdx, AVal.ren, nid_ren _ (hk _), em]
  by_cases hj : j = i
  · subst hj; rw [h2, if_pos rfl]; rfl
  · rw [h1 j (by simpa using h3) hj, if_neg hj]; rfl
omit hB hP in
theorem refs_back {g : Id → Id} {i : Nat} {s : List (κ × ι)} (h1 : ∀ j, j < s.length → j ≠ i → g (1, j) = (2, j)) (h2 : g (0, 2) = (2, i)) : (ABlock.amap ((refs i s).map (em ek (eR (some (0, 2)))))).ren g = mapO ek 2 s := by
  simp only [mapO, ABlock.ren, refs]
  congr 1
  refine List.ext_getElem (by simp) fun j h3 h4 => ?_
  simp only [List.getElem_map, List.getElem_mapIdx, nid_ren _ (hk _), em]
  by_cases hj : j = i
  · subst hj; rw [if_pos rfl]; simp only [eR, AVal.ren, h2]
  · rw [if_neg hj]; simp only [eR, AVal.ren, h1 j (by simpa using h3) hj]

def rhoP (i : Nat) (id : Id) : Option Id := if id.1 = 0 then (if id.2 = 0 then some (1, 0) else if id.2 = 1 then some (1, 1) else if id.2 = 2 then some (2, i) else none) else if id.1 = 1 then (if id.2 = i then none else some (2, id.2)) else none
omit hk hB hP in
theorem rhoP_cases {i : Nat} {id x : Id} (h : rhoP i id = some x) : (id = (0, 0) ∧ x = (1, 0)) ∨ (id = (0, 1) ∧ x = (1, 1)) ∨ (id = (0, 2) ∧ x = (2, i)) ∨ (id.1 = 1 ∧ id.2 ≠ i ∧ x = (2, id.2)) := by
  obtain ⟨a, b⟩ := id
  unfold rhoP at h
  simp only at h
  split at h
  · rename_i h0; subst h0
    split at h
    · rename_i h1; subst h1; simp only [Option.some.injEq] at h; exact .inl ⟨rfl, h.symm⟩
    · split at h
      · rename_i h1; subst h1; simp only [Option.some.injEq] at h; exact .inr (.inl ⟨rfl, h.symm⟩)
      · split at h
        · rename_i h1; subst h1; simp only [Option.some.injEq] at h; exact .inr (.inr (.inl ⟨rfl, h.symm⟩))
        · cases h
  · split at h
    · rename_i h0; subst h0
      split at h
      · cases h
      · rename_i h1; simp only [Option.some.injEq] at h; exact .inr (.inr (.inr ⟨rfl, h1, h.symm⟩))
    · cases h
omit hk hB hP in
theorem rhoP_inj {i : Nat} (a b x : Id) (ha : rhoP i a = some x) (hb : rhoP i b = some x) : a = b := by
  rcases rhoP_cases ha with ⟨h1, h2⟩ | ⟨h1, h2⟩ | ⟨h1, h2⟩ | ⟨h1, h3, h2⟩ <;> rcases rhoP_cases hb with ⟨g1, g2⟩ | ⟨g1, g2⟩ | ⟨g1, g2⟩ | ⟨g1, g3, g2⟩ <;> subst h2 <;> simp only [Prod.mk.injEq] at g2 <;> (try omega) <;> (try (rw [h1, g1]))
  ext
  · omega
  · exact g2.2
omit hk hB hP in
theorem rhoP_dom {i : Nat} (a x : Id) (ha : rhoP i a = some x) : a.1 < 3 ∧ x.1 < 3 ∧ False = False := by
  rcases rhoP_cases ha with ⟨h1, h2⟩ | ⟨h1, h2⟩ | ⟨h1, h2⟩ | ⟨h1, h3, h2⟩ <;> subst h2 <;> (try subst h1) <;> simp <;> omega
def pObj (x : Id) : Bool := decide (x = (1, 0)) || decide (x = (1, 1)) || Nat.beq x.1 2
omit hk hB hP in
theorem pObj_iff (i : Nat) (x : Id) : pObj x = true ↔ (fun _ => false) x = true ∨ ∃ j, rhoP i j = some x := by
  constructor
  · intro h
    right
    unfold pObj at h
    simp only [Bool.or_eq_true, decide_eq_true_eq] at h
    rcases h with (h | h) | h
    · exact ⟨(0, 0), by rw [h]; rfl⟩
    · exact ⟨(0, 1), by rw [h]; rfl⟩
    · have h2 := Nat.eq_of_beq_eq_true h
      by_cases hi : x.2 = i
      · exact ⟨(0, 2), by rw [show x = (2, i) by rw [← h2, ← hi]]; rfl⟩
      · exact ⟨(1, x.2), by simp [rhoP, hi, ← h2]⟩
  · rintro (h | ⟨j, h⟩)
    · cases h
    · rcases rhoP_cases h with ⟨_, rfl⟩ | ⟨_, rfl⟩ | ⟨_, rfl⟩ | ⟨_, _, rfl⟩ <;> rfl
omit hk hB hP in
theorem without_obj (s : List (κ × ι)) (t : Id) : (AHeap.without pObj (objO ek B s)).get t = none := by
  rw [AHeap.get_without]
  split
  · rfl
  · rename_i h
    cases hg : AHeap.get (objO ek B s) t with
    | none => rfl
    | some b =>
      exfalso; apply h
      have hm := get_mem hg
      unfold objO at hm
      rcases List.mem_cons.1 hm with e | hm
      · simp only [Prod.mk.injEq] at e; rw [e.1]; rfl
      · rcases List.mem_cons.1 hm with e | hm
        · simp only [Prod.mk.injEq] at e; rw [e.1]; rfl
        · obtain ⟨j, p, _, e⟩ := famO_mem hm
          simp only [Prod.mk.injEq] at e; rw [e.1]; rfl
omit hk hB hP in
theorem nidArgs {F : Id → Bool} {H : AHeap} {ρ : Id → Option Id} {n : Nat} : ∀ {ea : List AVal}, AVal.nid.nidL ea = true → ArgsTo F H ρ n ea ea
  | [], _ => trivial
  | x :: r, h => by
    simp only [AVal.nid.nidL, Bool.and_eq_true] at h
    exact ⟨.same _ h.1, nidArgs h.2⟩

omit hk hB hP in
theorem objO_get1 (s : List (κ × ι)) : AHeap.get (objO ek B s) (1, 0) = some (.one [.map (1, 1)]) := by simp [objO, AHeap.get]
omit hk hB hP in
theorem objO_get2 (s : List (κ × ι)) : AHeap.get (objO ek B s) (1, 1) = some (mapO ek 2 s) := by simp [objO, AHeap.get]
omit hk hB hP in
theorem objO_get3 {s : List (κ × ι)} {j : Nat} {p : κ × ι} (h : s[j]? = some p) : AHeap.get (objO ek B s) (2, j) = some (B p.2) := by
  unfold objO
  rw [AHeap.get_cons_other _ _ (by simp), AHeap.get_cons_other _ _ (by simp), famO_of h]
omit hk hB hP in
theorem objO_inv {s : List (κ × ι)} {id : Id} {b : ABlock} (h : AHeap.get (objO ek B s) id = some b) : (id = (1, 0) ∧ b = .one [.map (1, 1)]) ∨ (id = (1, 1) ∧ b = mapO ek 2 s) ∨ (id.1 = 2 ∧ ∃ p, s[id.2]? = some p ∧ b = B p.2) := by
  have hm := get_mem h
  unfold objO at hm
  rcases List.mem_cons.1 hm with e | hm
  · simp only [Prod.mk.injEq] at e; exact .inl e
  · rcases List.mem_cons.1 hm with e | hm
    · simp only [Prod.mk.injEq] at e; exact .inr (.inl e)
    · obtain ⟨j, p, h1, e⟩ := famO_mem hm
      simp only [Prod.mk.injEq] at e
      obtain ⟨rfl, rfl⟩ := e
      exact .inr (.inr ⟨rfl, p, h1, rfl⟩)
def litP (ek : κ → AVal) (B : ι → ABlock) (i : Nat) (s : List (κ × ι)) (x : ι) : AHeap := [((0, 0), .one [.map (0, 1)]), ((0, 1), .amap ((refs i s).map (em ek (eR (some (0, 2)))))), ((0, 2), B x)]
def oth (B : ι → ABlock) (i : Nat) (s : List (κ × ι)) : AHeap := (famO 1 B s).del (1, i)
omit hk hB in
theorem tl_oth (i : Nat) (s : List (κ × ι)) : Tl (oth B i s) := by
  have hsub : ∀ {T : AHeap} {k : Id} {x}, x ∈ T.del k → x ∈ T := by
    intro T k x
    induction T with
    | nil => intro h; exact h
    | cons y r ih =>
      obtain ⟨a, b⟩ := y
      unfold AHeap.del
      split
      · intro h; exact List.mem_cons_of_mem _ (ih h)
      · intro h
        rcases List.mem_cons.1 h with rfl | h
        · exact List.mem_cons_self ..
        · exact List.mem_cons_of_mem _ (ih h)
  have hnd : ∀ {T : AHeap} {k : Id}, (T.map (·.1)).Nodup → ((T.del k).map (·.1)).Nodup := by
    intro T k
    induction T with
    | nil => intro h; exact h
    | cons y r ih =>
      obtain ⟨a, b⟩ := y
      intro h
      simp only [List.map_cons, List.nodup_cons] at h
      unfold AHeap.del
      split
      · exact ih h.2
      · simp only [List.map_cons, List.nodup_cons]
        refine ⟨fun hm => ?_, ih h.2⟩
        obtain ⟨z, hz, he⟩ := List.mem_map.1 hm
        exact h.1 (List.mem_map.2 ⟨z, hsub hz, he⟩)
  refine ⟨fun x hx => ?_, fun x hx => ?_, hnd famO_nd⟩
  · obtain ⟨j, p, _, rfl⟩ := famO_mem (hsub hx); rfl
  · obtain ⟨j, p, _, rfl⟩ := famO_mem (hsub hx); exact hP _ _
omit hk hB hP in
theorem up_one {q : Nat} {T : AHeap} (h : ∀ x ∈ T, x.1.1 = 1 ∧ ∀ g, x.2.ren g = x.2) : up q T = T := by
  unfold up AHeap.renamed
  conv => rhs; rw [← List.map_id T]
  refine List.map_congr_left fun x hx => ?_
  obtain ⟨h1, h2⟩ := h x hx
  rw [h2]
  simp [mv, h1]

omit hk hB hP in
theorem rhoP_oth {i j : Nat} (h : j ≠ i) : rhoP i (1, j) = some (2, j) := by simp [rhoP, h]
omit hk hB hP in
theorem litP0 {i : Nat} {s : List (κ × ι)} {x : ι} {T : AHeap} : AHeap.get (litP ek B i s x ++ T) (0, 0) = some (.one [.map (0, 1)]) := by
  rw [AHeap.get_append]; unfold litP; rw [AHeap.get_cons_same]; rfl
omit hk hB hP in
theorem litP1 {i : Nat} {s : List (κ × ι)} {x : ι} {T : AHeap} : AHeap.get (litP ek B i s x ++ T) (0, 1) = some (.amap ((refs i s).map (em ek (eR (some (0, 2)))))) := by
  rw [AHeap.get_append]; unfold litP; rw [AHeap.get_cons_other _ _ (by simp), AHeap.get_cons_same]; rfl
omit hk hB hP in
theorem litP2 {i : Nat} {s : List (κ × ι)} {x : ι} {T : AHeap} : AHeap.get (litP ek B i s x ++ T) (0, 2) = some (B x) := by
  rw [AHeap.get_append]; unfold litP; rw [AHeap.get_cons_other _ _ (by simp), AHeap.get_cons_other _ _ (by simp), AHeap.get_cons_same]; rfl
omit hk hB hP in
theorem litP_none {i j : Nat} {s : List (κ × ι)} {x : ι} : (litP ek B i s x).get (1, j) = none := by
  unfold litP; rw [AHeap.get_cons_other _ _ (by simp), AHeap.get_cons_other _ _ (by simp), AHeap.get_cons_other _ _ (by simp)]; rfl
omit hk hB hP in
theorem get_ren_of {u : Id → Id} : ∀ {T : AHeap} {k : Id} {b : ABlock}, (∀ x ∈ T, u x.1 = u k → x.1 = k) → T.get k = some b → (AHeap.renamed u T).get (u k) = some (b.ren u)
  | [], k, b, _, h => by simp [AHeap.get] at h
  | (a, c) :: r, k, b, hu, h => by
    by_cases e : a = k
    · subst e
      rw [AHeap.get_cons_same] at h
      simp only [Option.some.injEq] at h
      subst h
      simp only [AHeap.renamed, List.map_cons, AHeap.get_cons_same]
    · rw [AHeap.get_cons_other _ _ e] at h
      have hne : u a ≠ u k := fun h' => e (hu (a, c) (List.mem_cons_self ..) h')
      have := get_ren_of (T := r) (fun x hx => hu x (List.mem_cons_of_mem _ hx)) h
      simp only [AHeap.renamed, List.map_cons] at this ⊢
      rw [AHeap.get_cons_other _ _ hne]; exact this
omit hk hB hP in
theorem oth_get {i : Nat} {s : List (κ × ι)} {id : Id} {b : ABlock} (h : (oth B i s).get id = some b) : id.1 = 1 ∧ id.2 ≠ i ∧ ∃ p, s[id.2]? = some p ∧ b = B p.2 := by
  unfold oth at h
  rw [AHeap.get_del] at h
  split at h
  · cases h
  · rename_i hne
    obtain ⟨h1, p, h2, h3⟩ := famO_inv h
    exact ⟨h1, fun e => hne (by rw [← h1, ← e]), p, h2, h3⟩
omit hk hB hP in
theorem oth_of {i j : Nat} {s : List (κ × ι)} {p : κ × ι} (hj : j ≠ i) (h : s[j]? = some p) : (oth B i s).get (1, j) = some (B p.2) := by
  unfold oth
  rw [AHeap.get_del, if_neg (fun e => hj (by simp only [Prod.mk.injEq, true_and] at e; exact e.symm)), famO_of h]
omit hk hB hP in
theorem litP_get {i : Nat} {s : List (κ × ι)} {x : ι} {id : Id} {b : ABlock} (h : (litP ek B i s x).get id = some b) : (id = (0, 0) ∧ b = .one [.map (0, 1)]) ∨ (id = (0, 1) ∧ b = .amap ((refs i s).map (em ek (eR (some (0, 2)))))) ∨ (id = (0, 2) ∧ b = B x) := by
  have hm := get_mem h
  unfold litP at hm
  simp only [List.mem_cons, List.not_mem_nil, or_false, Prod.mk.injEq] at hm
  exact hm
omit hk hB hP in
theorem allP_get {i : Nat} {s : List (κ × ι)} {x : ι} {id : Id} {b : ABlock} (h : AHeap.get (litP ek B i s x ++ oth B i s) id = some b) : (litP ek B i s x).get id = some b ∨ ((litP ek B i s x).get id = none ∧ (oth B i s).get id = some b) := by
  rw [AHeap.get_append] at h
  cases hl : (litP ek B i s x).get id with
  | some c => rw [hl] at h; left; simpa using h
  | none => rw [hl] at h; right; exact ⟨rfl, by simpa using h⟩
omit hk hB hP in
theorem keysP {i : Nat} {s : List (κ × ι)} {x : ι} {y : Id × ABlock} (h : y ∈ litP ek B i s x ++ oth B i s) (hn : i < s.length) : y.1.1 < 3 ∧ ∃ z, rhoP i y.1 = some z := by
  rcases List.mem_append.1 h with h | h
  · unfold litP at h
    simp only [List.mem_cons, List.not_mem_nil, or_false] at h
    rcases h with rfl | rfl | rfl
    · exact ⟨by simp, _, rfl⟩
    · exact ⟨by simp, _, rfl⟩
    · exact ⟨by simp, _, rfl⟩
  · have hsub : ∀ {T : AHeap} {k : Id} {x}, x ∈ T.del k → x ∈ T ∧ x.1 ≠ k := by
      intro T k x
      induction T with
      | nil => intro h; cases h
      | cons y r ih =>
        obtain ⟨a, b⟩ := y
        unfold AHeap.del
        split
        · intro h; exact ⟨List.mem_cons_of_mem _ (ih h).1, (ih h).2⟩
        · rename_i hne
          intro h
          rcases List.mem_cons.1 h with rfl | h
          · exact ⟨List.mem_cons_self .., hne⟩
          · exact ⟨List.mem_cons_of_mem _ (ih h).1, (ih h).2⟩
    obtain ⟨h1, h2⟩ := hsub h
    obtain ⟨j, p, h3, rfl⟩ := famO_mem h1
    exact ⟨by simp, (2, j), rhoP_oth (fun e => h2 (by rw [e]))⟩
omit hk hB hP in
theorem upP {i n m : Nat} {a x : Id} (h : rhoP i a = some x) : upId (rhoP i) 3 n m a = x := by
  unfold upId
  rw [if_pos (rhoP_dom a x h).1, h]; rfl
omit hk hB hP in
theorem mapO_set {i r : Nat} {s : List (κ × ι)} {p : κ × ι} (hi : s[i]? = some p) (x : ι) : mapO ek r (s.set i (p.1, x)) = mapO ek r s := by
  unfold mapO
  congr 1
  refine List.ext_getElem (by simp) fun j h1 h2 => ?_
  simp only [List.getElem_mapIdx, List.getElem_set]
  split
  · rename_i e
    subst e
    have := List.getElem?_eq_getElem (col_lt' hi)
    rw [hi] at this
    rw [← Option.some.inj this]
  · rfl
omit hk hB in
theorem nodupP {i : Nat} {s : List (κ × ι)} {x : ι} : ((litP ek B i s x ++ oth B i s).map (·.1)).Nodup := by
  rw [List.map_append, List.nodup_append]
  refine ⟨by simp [litP], (tl_oth hP i s).nd, fun a ha b hb hab => ?_⟩
  obtain ⟨y, hy, rfl⟩ := List.mem_map.1 ha
  obtain ⟨z, hz, rfl⟩ := List.mem_map.1 hb
  have h1 : y.1.1 = 0 := by
    unfold litP at hy
    simp only [List.mem_cons, List.not_mem_nil, or_false] at hy
    rcases hy with rfl | rfl | rfl <;> rfl
  have h2 := get_of_mem (tl_oth hP i s).nd hz
  have := (oth_get h2).1
  rw [hab] at h1
  omega
theorem ob_present {f : Fn} {ea : List AVal} (hea : AVal.nid.nidL ea = true) {s : List (κ × ι)} {i : Nat} {p : κ × ι} (hi : s[i]? = some p) {R : AVal} (hR : R.nid = true) {x' : ι}
    (h : ACalls P f (.ptr (0, 0) 0 0 :: ea) (litP ek B i s p.2 ++ oth B i s) 3 (Gives 4 R (litP ek B i s x' ++ oth B i s))) : ACalls P f (.ptr (1, 0) 0 0 :: ea) (objO ek B s) 3 (Gives 5 R (objO ek B (s.set i (p.1, x')))) := by
  have hlt := col_lt' hi
  refine ACalls.sub (ACalls.frame (F := fun _ => false) (ρ := rhoP i) (k := 3) (m := 1) h (fun a b x => rhoP_inj a b x) (fun a x hx => ⟨(rhoP_dom a x hx).1, (rhoP_dom a x hx).2.1, rfl⟩) (fun x hx => by cases hx) ⟨.ptr _ _ _ _ rfl, nidArgs hea⟩ ?_ pObj (pObj_iff i) (nodupP hP) ?_)
  · intro a b hb
    rcases allP_get hb with hb | ⟨_, hb⟩
    · rcases litP_get hb with ⟨rfl, rfl⟩ | ⟨rfl, rfl⟩ | ⟨rfl, rfl⟩
      · exact ⟨_, _, rfl, objO_get1 s, BVw.oneL ⟨.map _ _ rfl, trivial⟩⟩
      · refine ⟨_, _, rfl, objO_get2 s, ?_⟩
        have := BVw.mov (F := fun _ => false) (H := objO ek B s) (ρ := rhoP i) (n := 3) (fun id => Nat.beq id.1 2) (fun id => if id.2 = i then (0, 2) else (1, id.2)) (mapO ek 2 s) (mapO_inP hk fun j _ => rfl) (fun id hid => by
          have h2 := Nat.eq_of_beq_eq_true hid
          by_cases hj : id.2 = i
          · rw [if_pos hj]; exact ⟨by simp, by rw [show id = (2, i) by rw [← h2, ← hj]]; rfl⟩
          · rw [if_neg hj]; exact ⟨by simp, by rw [rhoP_oth hj, ← h2]⟩)
        rwa [refs_ren hk (i := i) (fun j _ hj => by simp [hj]) (by simp)] at this
      · exact ⟨_, _, rfl, objO_get3 hi, bv_same hB hP _⟩
    · obtain ⟨h1, h2, q, h3, rfl⟩ := oth_get hb
      refine ⟨(2, a.2), _, ?_, objO_get3 h3, bv_same hB hP _⟩
      rw [show a = (1, a.2) by rw [← h1]]; exact rhoP_oth h2
  · refine ⟨objO ek B (s.set i (p.1, x')), fun id blk hg => ?_, by rw [nid_ren _ hR], rfl, rfl⟩
    rw [AHeap.get_append]
    have key : ∀ {a : Id} {c : ABlock}, rhoP i a = some id → AHeap.get (litP ek B i s x' ++ oth B i s) a = some c → c.ren (upId (rhoP i) 3 3 1) = blk → ((AHeap.renamed (upId (rhoP i) 3 3 1) (litP ek B i s x' ++ oth B i s)).get id).or ((AHeap.without pObj (objO ek B s)).get id) = some blk := by
      intro a c h1 h2 h3
      have := get_ren_of (u := upId (rhoP i) 3 3 1) (T := litP ek B i s x' ++ oth B i s) (k := a) (fun y hy he => by
        obtain ⟨_, z, hz⟩ := keysP hy hlt
        rw [upP hz, upP h1] at he
        subst he
        exact rhoP_inj _ _ _ hz h1) h2
      rw [upP h1, h3] at this
      rw [this]; rfl
    rcases objO_inv hg with ⟨rfl, rfl⟩ | ⟨rfl, rfl⟩ | ⟨h1, q, h2, rfl⟩
    · exact key (a := (0, 0)) rfl litP0 rfl
    · refine key (a := (0, 1)) rfl litP1 ?_
      rw [mapO_set hi]
      exact refs_back hk (fun j _ hj => upP (rhoP_oth hj)) (upP rfl)
    · have hid : id = (2, id.2) := by rw [← h1]
      by_cases hj : id.2 = i
      · rw [hj, List.getElem?_set_self hlt] at h2
        simp only [Option.some.injEq] at h2
        subst h2
        exact key (a := (0, 2)) (by rw [hid, hj]; rfl) litP2 (hB _ _)
      · rw [List.getElem?_set_ne (fun e => hj e.symm)] at h2
        refine key (a := (1, id.2)) ?_ ?_ (hB _ _)
        · rw [hid]; exact rhoP_oth hj
        · rw [AHeap.get_append, litP_none, oth_of hj h2]; rfl

def refsN (s : List (κ × ι)) : List (κ × Ref) := s.mapIdx fun j p => (p.1, .oth j)
def litN (ek : κ → AVal) (s : List (κ × ι)) : AHeap := [((0, 0), .one [.map (0, 1)]), ((0, 1), .amap ((refsN s).map (em ek (eR none))))]
omit hB hP in
theorem refsN_back {g : Id → Id} {f : Option Id} {s : List (κ × ι)} (h1 : ∀ j, j < s.length → g (1, j) = (2, j)) : (ABlock.amap ((refsN s).map (em ek (eR f)))).ren g = mapO ek 2 s := by
  simp only [mapO, ABlock.ren, refsN]
  congr 1
  refine List.ext_getElem (by simp) fun j h3 h4 => ?_
  simp only [List.getElem_map, List.getElem_mapIdx, nid_ren _ (hk _), em, eR, AVal.ren]
  rw [h1 j (by simpa using h3)]
omit hB hP in
theorem refsN_ren {g : Id → Id} {f : Option Id} {s : List (κ × ι)} (h1 : ∀ j, j < s.length → g (2, j) = (1, j)) : (mapO ek 2 s).ren g = .amap ((refsN s).map (em ek (eR f))) := by
  simp only [mapO, ABlock.ren, refsN]
  congr 1
  refine List.ext_getElem (by simp) fun j h3 h4 => ?_
  simp only [List.getElem_map, List.getElem_mapIdx, nid_ren _ (hk _), em, eR, AVal.ren]
  rw [h1 j (by simpa using h3)]
omit hk hB hP in
theorem litN_get {s : List (κ × ι)} {id : Id} {b : ABlock} (h : AHeap.get (litN ek s ++ famO 1 B s) id = some b) : (id = (0, 0) ∧ b = .one [.map (0, 1)]) ∨ (id = (0, 1) ∧ b = .amap ((refsN s).map (em ek (eR none)))) ∨ (id.1 = 1 ∧ ∃ p, s[id.2]? = some p ∧ b = B p.2) := by
  have hm := get_mem h
  unfold litN at hm
  rcases List.mem_append.1 hm with hm | hm
  · simp only [List.mem_cons, List.not_mem_nil, or_false, Prod.mk.injEq] at hm
    rcases hm with h | h
    · exact .inl h
    · exact .inr (.inl h)
  · obtain ⟨j, p, h1, e⟩ := famO_mem hm
    simp only [Prod.mk.injEq] at e
    obtain ⟨rfl, rfl⟩ := e
    exact .inr (.inr ⟨rfl, p, h1, rfl⟩)
theorem argN {ea : List AVal} (s : List (κ × ι)) : ∀ a b, AHeap.get (litN ek s ++ famO 1 B s) a = some b → ∃ x b', rhoP s.length a = some x ∧ (objO ek B s).get x = some b' ∧ BVw (fun _ => false) (objO ek B s) (rhoP s.length) 3 b' b := by
  intro a b hb
  rcases litN_get hb with ⟨rfl, rfl⟩ | ⟨rfl, rfl⟩ | ⟨h1, q, h3, rfl⟩
  · exact ⟨_, _, rfl, objO_get1 s, BVw.oneL ⟨.map _ _ rfl, trivial⟩⟩
  · refine ⟨_, _, rfl, objO_get2 s, ?_⟩
    have := BVw.mov (F := fun _ => false) (H := objO ek B s) (ρ := rhoP s.length) (n := 3) (fun id => Nat.beq id.1 2 && decide (id.2 < s.length)) (fun id => (1, id.2)) (mapO ek 2 s) (mapO_inP hk fun j hj => by simp [hj]) (fun id hid => by
      simp only [Bool.and_eq_true, decide_eq_true_eq] at hid
      have h2 := Nat.eq_of_beq_eq_true hid.1
      exact ⟨by simp, by rw [rhoP_oth (by omega), ← h2]⟩)
    rwa [refsN_ren hk (f := none) (fun j _ => rfl)] at this
  · refine ⟨(2, a.2), _, ?_, objO_get3 h3, bv_same hB hP _⟩
    rw [show a = (1, a.2) by rw [← h1]]
    exact rhoP_oth (by have := col_lt' h3; omega)
omit hk hB hP in
theorem keysN {s : List (κ × ι)} {y : Id × ABlock} (h : y ∈ famO 1 B s) : ∃ z, rhoP s.length y.1 = some z := by
  obtain ⟨j, p, h1, rfl⟩ := famO_mem h
  exact ⟨_, rhoP_oth (by have := col_lt' h1; omega)⟩
omit hk hB hP in
theorem nodupN {lit : AHeap} {s : List (κ × ι)} (h : nodupK lit = true) (h1 : noR 1 lit = true) : ((lit ++ famO 1 B s).map (·.1)).Nodup := by
  rw [List.map_append, List.nodup_append]
  refine ⟨by simpa [nodupK] using h, famO_nd, fun a ha b hb hab => ?_⟩
  obtain ⟨y, hy, rfl⟩ := List.mem_map.1 ha
  obtain ⟨z, hz, rfl⟩ := List.mem_map.1 hb
  obtain ⟨j, p, _, rfl⟩ := famO_mem hz
  unfold noR at h1
  rw [List.all_eq_true] at h1
  exact bne_of (h1 y hy) (by rw [hab])
theorem ob_absent {f : Fn} {ea : List AVal} (hea : AVal.nid.nidL ea = true) {s : List (κ × ι)} {R : AVal} (hR : R.nid = true)
    (h : ACalls P f (.ptr (0, 0) 0 0 :: ea) (litN ek s ++ famO 1 B s) 3 (Gives 4 R (litN ek s ++ famO 1 B s))) : ACalls P f (.ptr (1, 0) 0 0 :: ea) (objO ek B s) 3 (Gives 5 R (objO ek B s)) := by
  refine ACalls.sub (ACalls.frame (F := fun _ => false) (ρ := rhoP s.length) (k := 3) (m := 1) h (fun a b x => rhoP_inj a b x) (fun a x hx => ⟨(rhoP_dom a x hx).1, (rhoP_dom a x hx).2.1, rfl⟩) (fun x hx => by cases hx) ⟨.ptr _ _ _ _ rfl, nidArgs hea⟩ (argN hk hB hP (ea := ea) s) pObj (pObj_iff _) (nodupN rfl rfl) ?_)
  refine ⟨objO ek B s, fun id blk hg => ?_, by rw [nid_ren _ hR], rfl, rfl⟩
  rw [AHeap.get_append]
  have key : ∀ {a : Id} {c : ABlock}, rhoP s.length a = some id → AHeap.get (litN ek s ++ famO 1 B s) a = some c → c.ren (upId (rhoP s.length) 3 3 1) = blk → ((AHeap.renamed (upId (rhoP s.length) 3 3 1) (litN ek s ++ famO 1 B s)).get id).or ((AHeap.without pObj (objO ek B s)).get id) = some blk := by
    intro a c h1 h2 h3
    have := get_ren_of (u := upId (rhoP s.length) 3 3 1) (T := litN ek s ++ famO 1 B s) (k := a) (fun y hy he => by
      have : ∃ z, rhoP s.length y.1 = some z := by
        rcases List.mem_append.1 hy with hy | hy
        · unfold litN at hy
          simp only [List.mem_cons, List.not_mem_nil, or_false] at hy
          rcases hy with rfl | rfl
          · exact ⟨_, rfl⟩
          · exact ⟨_, rfl⟩
        · exact keysN hy
      obtain ⟨z, hz⟩ := this
      rw [upP hz, upP h1] at he
      subst he
      exact rhoP_inj _ _ _ hz h1) h2
    rw [upP h1, h3] at this
    rw [this]; rfl
  rcases objO_inv hg with ⟨rfl, rfl⟩ | ⟨rfl, rfl⟩ | ⟨h1, q, h2, rfl⟩
  · refine key (a := (0, 0)) (c := .one [.map (0, 1)]) rfl ?_ rfl
    rw [AHeap.get_append]; unfold litN; rw [AHeap.get_cons_same]; rfl
  · refine key (a := (0, 1)) (c := .amap ((refsN s).map (em ek (eR none)))) rfl ?_ ?_
    · rw [AHeap.get_append]; unfold litN; rw [AHeap.get_cons_other _ _ (by simp), AHeap.get_cons_same]; rfl
    · exact refsN_back hk (fun j hj => upP (rhoP_oth (by omega)))
  · have hid : id = (2, id.2) := by rw [← h1]
    refine key (a := (1, id.2)) ?_ ?_ (hB _ _)
    · rw [hid]; exact rhoP_oth (by have := col_lt' h2; omega)
    · rw [AHeap.get_append, famO_of h2]
      unfold litN; rw [AHeap.get_cons_other _ _ (by simp), AHeap.get_cons_other _ _ (by simp)]; rfl
theorem ob_up {f : Fn} {args : List AVal} {s s' : List (κ × ι)} {R : AVal} (hR : R.nid = true) {n : Nat} (h : ACalls P f args (objO ek B s) 3 (Gives n R (objO ek B s'))) : ACalls P f args (objO ek B s) 3 (Gives 4 R (up 3 (objO ek B s'))) := by
  refine ACalls.fin (h.mono ?_)
  rintro r H' n' ⟨rfl, rfl, rfl⟩
  refine ⟨fun _ => false, rhoE (objO ek B s'), rhoE_ok, .same _ hR, fun id blk hg => ?_⟩
  rw [up_obj hk hB] at hg
  have e1 : ∀ p, rhoE (objO ek B s') (1, p) = some (1, p) := rhoE_1 _
  have e3 : ∀ {j q}, s'[j]? = some q → rhoE (objO ek B s') (3, j) = some (2, j) := fun {j q} hj => by
    unfold rhoE
    rw [if_pos rfl, if_pos (by rw [objO_get3 hj]; rfl)]
  have hm := get_mem hg
  unfold HeapAt
  rcases List.mem_cons.1 hm with e | hm
  · simp only [Prod.mk.injEq] at e
    obtain ⟨rfl, rfl⟩ := e
    rw [e1]; simp only; rw [objO_get1]
    exact ⟨trivial, BVw.oneL ⟨.map _ _ (e1 _), trivial⟩⟩
  · rcases List.mem_cons.1 hm with e | hm
    · simp only [Prod.mk.injEq] at e
      obtain ⟨rfl, rfl⟩ := e
      rw [e1]; simp only; rw [objO_get2]
      refine ⟨trivial, ?_⟩
      have := BVw.mov (F := fun _ => false) (H := objO ek B s') (ρ := rhoE (objO ek B s')) (n := 4) (fun id => Nat.beq id.1 2 && decide (id.2 < s'.length)) (fun id => (3, id.2)) (mapO ek 2 s') (mapO_inP hk fun j hj => by simp [hj]) (fun id hid => by
        simp only [Bool.and_eq_true, decide_eq_true_eq] at hid
        have h2 := Nat.eq_of_beq_eq_true hid.1
        refine ⟨by simp, ?_⟩
        rw [e3 (List.getElem?_eq_getElem hid.2), ← h2])
      rwa [mapO_ren (r' := 3) hk (fun j _ => rfl)] at this
    · obtain ⟨j, p, h1, e⟩ := famO_mem hm
      simp only [Prod.mk.injEq] at e
      obtain ⟨rfl, rfl⟩ := e
      rw [e3 h1]; simp only; rw [objO_get3 h1]
      exact ⟨trivial, bv_same hB hP _⟩

def objN (ek : κ → AVal) (B : ι → ABlock) (s : List (κ × ι)) (k : κ) (x : ι) : AHeap :=
  ((1, 0), .one [.map (1, 1)]) :: ((1, 1), .amap ((s.mapIdx fun j p => (ek p.1, .map (2, j))) ++ [(ek k, .map (4, 0))])) :: ((4, 0), B x) :: famO 2 B s
omit hk hB hP in
theorem objN_get3 {s : List (κ × ι)} {k : κ} {x : ι} {j : Nat} {p : κ × ι} (h : s[j]? = some p) : AHeap.get (objN ek B s k x) (2, j) = some (B p.2) := by
  unfold objN
  rw [AHeap.get_cons_other _ _ (by simp), AHeap.get_cons_other _ _ (by simp), AHeap.get_cons_other _ _ (by simp), famO_of h]
def rhoN (N : Nat) (H : AHeap) (id : Id) : Option Id := if id = (3, N) then some (4, 0) else rhoE H id
omit hk hB hP in
theorem rhoE_lt {H : AHeap} {i k : Id} (h : rhoE H i = some k) : k.1 < 3 := by
  unfold rhoE at h
  split at h
  · split at h <;> simp only [Option.some.injEq, reduceCtorEq] at h
    rw [← h]; simp
  · split at h
    · split at h <;> simp only [Option.some.injEq, reduceCtorEq] at h
      rw [← h]; assumption
    · cases h
omit hk hB hP in
theorem rhoN_ok {N : Nat} {H : AHeap} : RhoOk 3 4 (fun _ => false) H (rhoN N H) := by
  have hE := rhoE_ok (H := H)
  refine ⟨fun i j k hi hj => ?_, fun i k hi => ?_, fun i hi => ?_, fun i k hi hk => ?_, by omega⟩
  · unfold rhoN at hi hj
    split at hi
    · rename_i h1
      simp only [Option.some.injEq] at hi
      split at hj
      · rename_i h2; rw [h1, h2]
      · have := rhoE_lt hj
        rw [← hi] at this; simp at this
    · split at hj
      · simp only [Option.some.injEq] at hj
        have := rhoE_lt hi
        rw [← hj] at this; simp at this
      · exact hE.inj i j k hi hj
  · unfold rhoN at hi
    split at hi
    · rename_i h1; rw [h1]; simp
    · exact hE.dom i k hi
  · have : rhoN N H i = rhoE H i := by unfold rhoN; rw [if_neg (fun e => by rw [e] at hi; simp at hi)]
    rw [this]; exact hE.low i hi
  · unfold rhoN at hk
    split at hk
    · simp only [Option.some.injEq] at hk; left; rw [← hk]; simp
    · exact hE.high i k hi hk
theorem ob_new {f : Fn} {ea : List AVal} (hea : AVal.nid.nidL ea = true) {s : List (κ × ι)} {R : AVal} (hR : R.nid = true) {k : κ} {x : ι}
    (h : ACalls P f (.ptr (0, 0) 0 0 :: ea) (litN ek s ++ famO 1 B s) 3 (Gives 5 R ([((0, 0), .one [.map (0, 1)]), ((0, 1), .amap ((refsN s ++ [(k, Ref.foc)]).map (em ek (eR (some (4, 0)))))), ((4, 0), B x)] ++ famO 1 B s))) :
    ACalls P f (.ptr (1, 0) 0 0 :: ea) (objO ek B s) 3 (Gives 4 R (up 3 (objO ek B (s ++ [(k, x)])))) := by
  have h1 : ACalls P f (.ptr (1, 0) 0 0 :: ea) (objO ek B s) 3 (Gives 6 R (objN ek B s k x)) := by
    refine ACalls.sub (ACalls.frame (F := fun _ => false) (ρ := rhoP s.length) (k := 3) (m := 2) h (fun a b x => rhoP_inj a b x) (fun a x hx => ⟨(rhoP_dom a x hx).1, (rhoP_dom a x hx).2.1, rfl⟩) (fun x hx => by cases hx) ⟨.ptr _ _ _ _ rfl, nidArgs hea⟩ (argN hk hB hP (ea := ea) s) pObj (pObj_iff _) (nodupN rfl rfl) ?_)
    refine ⟨objN ek B s k x, fun id blk hg => ?_, by rw [nid_ren _ hR], rfl, rfl⟩
    rw [AHeap.get_append]
    generalize hL : ([((0, 0), .one [.map (0, 1)]), ((0, 1), .amap ((refsN s ++ [(k, Ref.foc)]).map (em ek (eR (some (4, 0)))))), ((4, 0), B x)] ++ famO 1 B s : AHeap) = L
    have u4 : upId (rhoP s.length) 3 3 2 (4, 0) = (4, 0) := rfl
    have key : ∀ {a : Id} {c : ABlock}, (rhoP s.length a = some id ∨ (a = (4, 0) ∧ id = (4, 0))) → AHeap.get L a = some c → c.ren (upId (rhoP s.length) 3 3 2) = blk → ((AHeap.renamed (upId (rhoP s.length) 3 3 2) L).get id).or ((AHeap.without pObj (objO ek B s)).get id) = some blk := by
      intro a c h1 h2 h3
      have ha : upId (rhoP s.length) 3 3 2 a = id := by
        rcases h1 with h1 | ⟨rfl, rfl⟩
        · exact upP h1
        · exact u4
      have := get_ren_of (u := upId (rhoP s.length) 3 3 2) (T := L) (k := a) (fun y hy he => by
        have : (∃ z, rhoP s.length y.1 = some z) ∨ y.1 = (4, 0) := by
          rw [← hL] at hy
          rcases List.mem_append.1 hy with hy | hy
          · simp only [List.mem_cons, List.not_mem_nil, or_false] at hy
            rcases hy with rfl | rfl | rfl
            · exact .inl ⟨_, rfl⟩
            · exact .inl ⟨_, rfl⟩
            · exact .inr rfl
          · exact .inl (keysN hy)
        rw [ha] at he
        rcases this with ⟨z, hz⟩ | hz
        · rw [upP hz] at he
          subst he
          rcases h1 with h1 | ⟨rfl, rfl⟩
          · exact rhoP_inj _ _ _ hz h1
          · have := (rhoP_dom _ _ hz).2.1; simp at this
        · rw [hz, u4] at he
          rcases h1 with h1 | ⟨rfl, _⟩
          · have := (rhoP_dom _ _ h1).2.1; rw [← he] at this; simp at this
          · exact hz) h2
      rw [ha, h3] at this
      rw [this]; rfl
    have hm := get_mem hg
    unfold objN at hm
    rcases List.mem_cons.1 hm with e | hm
    · simp only [Prod.mk.injEq] at e
      obtain ⟨rfl, rfl⟩ := e
      refine key (a := (0, 0)) (c := .one [.map (0, 1)]) (.inl rfl) ?_ rfl
      rw [← hL, AHeap.get_append, AHeap.get_cons_same]; rfl
    · rcases List.mem_cons.1 hm with e | hm
      · simp only [Prod.mk.injEq] at e
        obtain ⟨rfl, rfl⟩ := e
        refine key (a := (0, 1)) (c := .amap ((refsN s ++ [(k, Ref.foc)]).map (em ek (eR (some (4, 0)))))) (.inl rfl) ?_ ?_
        · rw [← hL, AHeap.get_append, AHeap.get_cons_other _ _ (by simp), AHeap.get_cons_same]; rfl
        · have := refsN_back (f := some (4, 0)) (g := upId (rhoP s.length) 3 3 2) hk (s := s) (fun j hj => upP (rhoP_oth (by omega)))
          simp only [ABlock.ren, mapO, ABlock.amap.injEq] at this
          simp only [ABlock.ren, List.map_append, this, List.map_cons, List.map_nil, em, eR, AVal.ren, nid_ren _ (hk _), u4]
      · rcases List.mem_cons.1 hm with e | hm
        · simp only [Prod.mk.injEq] at e
          obtain ⟨rfl, rfl⟩ := e
          refine key (a := (4, 0)) (c := B x) (.inr ⟨rfl, rfl⟩) ?_ (hB _ _)
          rw [← hL, AHeap.get_append, AHeap.get_cons_other _ _ (by simp), AHeap.get_cons_other _ _ (by simp), AHeap.get_cons_same]; rfl
        · obtain ⟨j, p, h1, e⟩ := famO_mem hm
          simp only [Prod.mk.injEq] at e
          obtain ⟨rfl, rfl⟩ := e
          refine key (a := (1, j)) (c := B p.2) (.inl (rhoP_oth (by have := col_lt' h1; omega))) ?_ (hB _ _)
          rw [← hL, AHeap.get_append, famO_of h1, AHeap.get_cons_other _ _ (by simp), AHeap.get_cons_other _ _ (by simp), AHeap.get_cons_other _ _ (by simp)]; rfl
  refine ACalls.fin (h1.mono ?_)
  rintro r H' n' ⟨rfl, rfl, rfl⟩
  refine ⟨fun _ => false, rhoN s.length (objN ek B s k x), rhoN_ok, .same _ hR, fun id blk hg => ?_⟩
  rw [up_obj hk hB] at hg
  have e1 : ∀ p, rhoN s.length (objN ek B s k x) (1, p) = some (1, p) := fun p => by
    unfold rhoN; rw [if_neg (by simp)]; exact rhoE_1 _ _
  have e3 : ∀ {j q}, s[j]? = some q → rhoN s.length (objN ek B s k x) (3, j) = some (2, j) := fun {j q} hj => by
    have := col_lt' hj
    unfold rhoN rhoE
    rw [if_neg (by simp; omega), if_pos rfl, if_pos (by rw [objN_get3 hj]; rfl)]
  have e4 : rhoN s.length (objN ek B s k x) (3, s.length) = some (4, 0) := by unfold rhoN; rw [if_pos rfl]
  have hm := get_mem hg
  unfold HeapAt
  rcases List.mem_cons.1 hm with e | hm
  · simp only [Prod.mk.injEq] at e
    obtain ⟨rfl, rfl⟩ := e
    rw [e1]; simp only
    rw [show AHeap.get (objN ek B s k x) (1, 0) = some (.one [.map (1, 1)]) by unfold objN; rw [AHeap.get_cons_same]]
    exact ⟨trivial, BVw.oneL ⟨.map _ _ (e1 _), trivial⟩⟩
  · rcases List.mem_cons.1 hm with e | hm
    · simp only [Prod.mk.injEq] at e
      obtain ⟨rfl, rfl⟩ := e
      rw [e1]; simp only
      rw [show AHeap.get (objN ek B s k x) (1, 1) = some (.amap ((s.mapIdx fun j p => (ek p.1, .map (2, j))) ++ [(ek k, .map (4, 0))])) by unfold objN; rw [AHeap.get_cons_other _ _ (by simp), AHeap.get_cons_same]]
      refine ⟨trivial, ?_⟩
      have hi := mapO_inP (r := 2) (p := fun id => (Nat.beq id.1 2 && decide (id.2 < s.length)) || decide (id = (4, 0))) hk (s := s) (fun j hj => by simp [hj])
      have := BVw.mov (F := fun _ => false) (H := objN ek B s k x) (ρ := rhoN s.length (objN ek B s k x)) (n := 4) (fun id => (Nat.beq id.1 2 && decide (id.2 < s.length)) || decide (id = (4, 0))) (fun id => if id.1 = 2 then (3, id.2) else (3, s.length)) (.amap ((s.mapIdx fun j p => (ek p.1, .map (2, j))) ++ [(ek k, .map (4, 0))]))
        (by
          simp only [mapO, ABlock.inP] at hi
          simp only [ABlock.inP, List.all_append, hi, List.all_cons, List.all_nil, Bool.and_true, nid_inP _ (hk _), AVal.inP, decide_true, Bool.or_true]) (fun id hid => by
        simp only [Bool.or_eq_true, Bool.and_eq_true, decide_eq_true_eq] at hid
        rcases hid with hid | rfl
        · have h2 := Nat.eq_of_beq_eq_true hid.1
          rw [if_pos h2]
          refine ⟨by simp, ?_⟩
          rw [e3 (List.getElem?_eq_getElem hid.2), ← h2]
        · exact ⟨by simp, e4⟩)
      have hr : (ABlock.amap ((s.mapIdx fun j p => (ek p.1, .map (2, j))) ++ [(ek k, .map (4, 0))])).ren (fun id => if id.1 = 2 then (3, id.2) else (3, s.length)) = mapO ek 3 (s ++ [(k, x)]) := by
        have := mapO_ren (r := 2) (r' := 3) (g := fun id => if id.1 = 2 then (3, id.2) else (3, s.length)) hk (s := s) (fun j _ => rfl)
        simp only [ABlock.ren, mapO, ABlock.amap.injEq] at this
        simp only [ABlock.ren, mapO, List.map_append, this, List.mapIdx_append, List.mapIdx_cons, List.mapIdx_nil, Nat.zero_add, List.map_cons, List.map_nil, nid_ren _ (hk _), AVal.ren]
        rfl
      rwa [hr] at this
    · obtain ⟨j, p, h1, e⟩ := famO_mem hm
      simp only [Prod.mk.injEq] at e
      obtain ⟨rfl, rfl⟩ := e
      by_cases hj : j < s.length
      · rw [List.getElem?_append_left hj] at h1
        rw [e3 h1]; simp only; rw [objN_get3 h1]
        exact ⟨trivial, bv_same hB hP _⟩
      · have hlt := col_lt' h1
        simp only [List.length_append, List.length_singleton] at hlt
        obtain rfl : j = s.length := by omega
        rw [List.getElem?_append_right (Nat.le_refl _), Nat.sub_self] at h1
        simp only [List.getElem?_cons_zero, Option.some.injEq] at h1
        subst h1
        rw [e4]; simp only
        rw [show AHeap.get (objN ek B s k x) (4, 0) = some (B x) by unfold objN; rw [AHeap.get_cons_other _ _ (by simp), AHeap.get_cons_other _ _ (by simp), AHeap.get_cons_same]]
        exact ⟨trivial, bv_same hB hP _⟩
end
end
end Go.Fx
