/-
  Own text Law3 of this claim: what functions of the given program compute, in plain Lean, and the proof; no condition.
-/
import Derived.Test.YtcllpgaaoiccgaaLaw2
namespace Go.Proofs.Ytcllpgaaoiccgaa
open Go.Fx
set_option linter.unusedVariables false
structure V (E : List (Int × G_QChunk)) : Prop where
  hk : ∀ e ∈ E, e.2.f_Seq = e.1
  h0 : ∀ e ∈ E, 0 ≤ e.1 ∧ e.1 < 1000
  hi : ∀ e ∈ E, e.2.f_Items.length ≤ 1000
  nd : (E.map (·.1)).Nodup
  hL : ∀ d ∈ E, d.2.f_Last = true → ∀ e ∈ E, e.1 ≤ d.1
theorem V.nil : V [] := by constructor <;> simp
def finE (E : List (Int × G_QChunk)) : Int := match E.find? (fun e => e.2.f_Last) with
  | some e => e.1
  | none => -1
theorem fin_cases {E : List (Int × G_QChunk)} : (finE E = -1 ∧ ∀ e ∈ E, e.2.f_Last = false) ∨ ∃ e ∈ E, e.2.f_Last = true ∧ finE E = e.1 := by
  unfold finE
  cases h : E.find? (fun e => e.2.f_Last) with
  | none =>
    left
    refine ⟨rfl, fun e he => ?_⟩
    have := List.find?_eq_none.1 h e he
    simpa using this
  | some e =>
    right
    exact ⟨e, List.mem_of_find?_eq_some h, by have := List.find?_some h; simpa using this, rfl⟩
theorem fin_last {E : List (Int × G_QChunk)} (hV : V E) {e : Int × G_QChunk} (he : e ∈ E) (hl : e.2.f_Last = true) : finE E = e.1 := by
  rcases fin_cases (E := E) with ⟨_, h⟩ | ⟨d, hd, h1, h2⟩
  · rw [h e he] at hl; cases hl
  · rw [h2]
    have a := hV.hL d hd h1 e he
    have b := hV.hL e he hl d hd
    omega
theorem lar_spec : ∀ (E : List (Int × G_QChunk)) (v : Int), v ≤ larE E v ∧ (∀ e ∈ E, e.1 ≤ larE E v) ∧ (larE E v = v ∨ ∃ e ∈ E, e.1 = larE E v)
  | [], v => by simp [larE]
  | x :: r, v => by
    have e : larE (x :: r) v = larE r (if x.1 > v then x.1 else v) := rfl
    by_cases hx : x.1 > v
    · rw [if_pos hx] at e
      obtain ⟨h1, h2, h3⟩ := lar_spec r x.1
      rw [e]
      refine ⟨by omega, fun y hy => ?_, ?_⟩
      · rcases List.mem_cons.1 hy with rfl | hy
        · exact h1
        · exact h2 y hy
      · rcases h3 with h3 | ⟨y, hy, h3⟩
        · exact .inr ⟨x, List.mem_cons_self .., h3.symm⟩
        · exact .inr ⟨y, List.mem_cons_of_mem _ hy, h3⟩
    · rw [if_neg hx] at e
      obtain ⟨h1, h2, h3⟩ := lar_spec r v
      rw [e]
      refine ⟨h1, fun y hy => ?_, ?_⟩
      · rcases List.mem_cons.1 hy with rfl | hy
        · omega
        · exact h2 y hy
      · rcases h3 with h3 | ⟨y, hy, h3⟩
        · exact .inl h3
        · exact .inr ⟨y, List.mem_cons_of_mem _ hy, h3⟩
theorem lar_perm {E L : List (Int × G_QChunk)} (h : L.Perm E) (v : Int) : larE L v = larE E v := by
  obtain ⟨a1, a2, a3⟩ := lar_spec L v
  obtain ⟨b1, b2, b3⟩ := lar_spec E v
  have h1 : larE L v ≤ larE E v := by
    rcases a3 with e | ⟨x, hx, e⟩
    · omega
    · have := b2 x (h.mem_iff.1 hx); omega
  have h2 : larE E v ≤ larE L v := by
    rcases b3 with e | ⟨x, hx, e⟩
    · omega
    · have := a2 x (h.mem_iff.2 hx); omega
  omega
theorem lar_lt {E : List (Int × G_QChunk)} (hV : V E) : larE E (-1) < 1000 := by
  rcases (lar_spec E (-1)).2.2 with e | ⟨x, hx, e⟩
  · omega
  · have := (hV.h0 x hx).2; omega
def fb (s : Int × Int) (e : Int × G_QChunk) : Int × Int := (if e.2.f_Last = true then e.1 else s.1, if e.1 > s.2 then e.1 else s.2)
theorem fb_fold {E : List (Int × G_QChunk)} (hV : V E) : ∀ (L : List (Int × G_QChunk)) (s : Int × Int), (∀ e ∈ L, e ∈ E) → L.foldl fb s = (if L.any (fun e => e.2.f_Last) = true then finE E else s.1, larE L s.2)
  | [], s, _ => rfl
  | x :: r, s, h => by
    rw [List.foldl_cons, fb_fold hV r _ (fun e he => h e (List.mem_cons_of_mem _ he))]
    refine Prod.ext ?_ rfl
    simp only [fb]
    by_cases hx : x.2.f_Last = true
    · have := fin_last hV (h x (List.mem_cons_self ..)) hx
      have h2 : (x :: r).any (fun e => e.2.f_Last) = true := by simp [hx]
      rw [if_pos h2, if_pos hx, this]
      split <;> rfl
    · have h2 : (x :: r).any (fun e => e.2.f_Last) = r.any (fun e => e.2.f_Last) := by simp [hx]
      rw [if_neg hx]
      simp only [h2]
theorem bounds_eq {E : List (Int × G_QChunk)} (hV : V E) {l : List (Int × Ref)} {t : Int} (hl : lk q_i64 l t = some .foc) : S_progress_Assembler_bounds none t l E () = some (finE E, larE E (-1), ()) := by
  unfold S_progress_Assembler_bounds
  rw [if_pos hl]
  unfold S_progress_Assembler_bounds_l1
  refine rangeF_of fun p hp => ?_
  have key : ∀ (p : List Nat) (s : Int × Int), rangeL (fun j (s : (Int × Int)) => S_progress_Assembler_bounds_b1 none l E () s.1 s.2 j) (fun s => S_progress_Assembler_bounds_d1 none l E () s.1 s.2) p s = some (((p.map fun j => E.getD j default).foldl fb s).1, ((p.map fun j => E.getD j default).foldl fb s).2, ()) := by
    intro p
    induction p with
    | nil => intro s; rfl
    | cons j p ih =>
      intro s
      unfold rangeL
      have hb : S_progress_Assembler_bounds_b1 none l E () s.1 s.2 j = some (.inl (fb s (E.getD j default))) := by
        unfold S_progress_Assembler_bounds_b1 fb
        by_cases hd : (E.getD j default).2.f_Last = true
        · rw [if_pos hd, if_pos hd]
        · rw [if_neg hd, if_neg hd]
      rw [hb]
      simp only [Option.bind_some]
      rw [ih]
      rfl
  have hperm : (p.map fun j => E.getD j default).Perm E := by
    refine (hp.map _).trans (List.Perm.of_eq ?_)
    refine List.ext_getElem (by simp) fun i h1 h2 => ?_
    simp only [List.length_map, List.length_range] at h1
    simp only [List.getElem_map, List.getElem_range, getD_at h1]
  rw [key, fb_fold hV _ _ (fun e he => hperm.mem_iff.1 he), lar_perm hperm]
  simp only
  congr 2
  rcases fin_cases (E := E) with ⟨h1, h2⟩ | ⟨e, he, h1, h2⟩
  · rw [if_neg, h1]
    intro ha
    rw [List.any_eq_true] at ha
    obtain ⟨x, hx, hxl⟩ := ha
    rw [h2 x (hperm.mem_iff.1 hx)] at hxl
    cases hxl
  · rw [if_pos]
    exact List.any_eq_true.2 ⟨e, hperm.mem_iff.2 he, h1⟩
theorem bounds0_eq {l : List (Int × Ref)} {t : Int} (hl : lk q_i64 l t = none) : S_progress_Assembler_bounds_23 none t l () = some (-1, -1, ()) := by
  unfold S_progress_Assembler_bounds_23
  rw [if_pos hl]
  unfold S_progress_Assembler_bounds_23_l1
  exact loopM_out rfl
def conf (E : List (Int × G_QChunk)) (c : G_QChunk) : Bool := (decide (finE E ≥ 0) && decide (finE E < c.f_Seq)) || (c.f_Last && decide (larE E (-1) > c.f_Seq))
theorem conf_iff {E : List (Int × G_QChunk)} (hV : V E) {c : G_QChunk} (hc : 0 ≤ c.f_Seq) : conf E c = true ↔ ∃ e ∈ E, (e.2.f_Last = true ∧ e.1 < c.f_Seq) ∨ (c.f_Last = true ∧ e.1 > c.f_Seq) := by
  unfold conf
  simp only [Bool.or_eq_true, Bool.and_eq_true, decide_eq_true_eq]
  constructor
  · rintro (⟨h1, h2⟩ | ⟨h1, h2⟩)
    · rcases fin_cases (E := E) with ⟨h3, _⟩ | ⟨e, he, h3, h4⟩
      · omega
      · exact ⟨e, he, .inl ⟨h3, by omega⟩⟩
    · rcases (lar_spec E (-1)).2.2 with h3 | ⟨e, he, h3⟩
      · omega
      · exact ⟨e, he, .inr ⟨h1, by omega⟩⟩
  · rintro ⟨e, he, ⟨h1, h2⟩ | ⟨h1, h2⟩⟩
    · left
      have := fin_last hV he h1
      have := (hV.h0 e he).1
      omega
    · right
      have := (lar_spec E (-1)).2.1 e he
      exact ⟨h1, by omega⟩
def ans (E : List (Int × G_QChunk)) (c : G_QChunk) : Option Int := match lk q_i64 E c.f_Seq with
  | some s => if s.f_Last = c.f_Last ∧ s.f_Items = c.f_Items then some 0 else some 10
  | none => if conf E c = true then some 10 else none
theorem scan0 {c : G_QChunk} : ∀ {l : List G_QChunk}, (∀ s ∈ l, rel c s = false) → scanA c l = none
  | [], _ => rfl
  | s :: r, h => by
    unfold scanA
    rw [h s (List.mem_cons_self ..)]
    simp only [Bool.false_eq_true, if_false]
    exact scan0 fun x hx => h x (List.mem_cons_of_mem _ hx)
theorem scan1 {c : G_QChunk} {b : Bool} : ∀ {l : List G_QChunk}, (∃ s ∈ l, rel c s = true) → (∀ s ∈ l, rel c s = true → ident c s = b) → scanA c l = if b then some 0 else some 10
  | [], h, _ => by obtain ⟨s, hs, _⟩ := h; cases hs
  | s :: r, h, hb => by
    unfold scanA
    by_cases hr : rel c s = true
    · rw [if_pos hr, hb s (List.mem_cons_self ..) hr]
    · rw [if_neg hr]
      refine scan1 ?_ fun x hx => hb x (List.mem_cons_of_mem _ hx)
      obtain ⟨x, hx, hxr⟩ := h
      rcases List.mem_cons.1 hx with rfl | hx
      · exact absurd hxr hr
      · exact ⟨x, hx, hxr⟩
theorem scan_eq {st : List G_QChunk} {c : G_QChunk} (hV : V (inn c.f_Token st)) (hc : 0 ≤ c.f_Seq) : scanA c st = ans (inn c.f_Token st) c := by
  have toE : ∀ s, s ∈ st → s.f_Token = c.f_Token → (s.f_Seq, s) ∈ inn c.f_Token st := fun s hs ht => inn_mem.2 ⟨hs, ht, rfl⟩
  unfold ans
  cases hl : lk q_i64 (inn c.f_Token st) c.f_Seq with
  | some s =>
    have hm := lk_mem hl
    obtain ⟨h1, h2, h3⟩ := inn_mem.1 hm
    simp only at h1 h2 h3
    have hr : rel c s = true := by simp [rel, h2, h3.symm]
    have uniq : ∀ s', s' ∈ st → s'.f_Token = c.f_Token → s'.f_Seq = c.f_Seq → s' = s := fun s' hs' ht hq => by
      have := lk_some hV.nd (toE s' hs' ht)
      rw [hq, hl] at this
      exact (Option.some.inj this).symm
    by_cases hi : s.f_Last = c.f_Last ∧ s.f_Items = c.f_Items
    · simp only
      rw [if_pos hi]
      refine scan1 (b := true) ⟨s, h1, hr⟩ fun s' hs' hr' => ?_
      unfold rel at hr'
      simp only [Bool.and_eq_true, beq_iff_eq, Bool.or_eq_true, decide_eq_true_eq] at hr'
      obtain ⟨ht, hr'⟩ := hr'
      have hE := toE s' hs' ht
      rcases hr' with (hq | ⟨hL, hq⟩) | ⟨hL, hq⟩
      · rw [uniq s' hs' ht hq]; simp [ident, h3.symm, hi]
      · have := hV.hL _ hE hL _ hm; simp only at this; omega
      · have := hV.hL _ hm (by simp only; rw [hi.1]; exact hL) _ hE; simp only at this; omega
    · simp only
      rw [if_neg hi]
      refine scan1 (b := false) ⟨s, h1, hr⟩ fun s' hs' hr' => ?_
      cases hd : ident c s' with
      | false => rfl
      | true =>
        exfalso
        unfold ident at hd
        unfold rel at hr'
        simp only [Bool.and_eq_true, beq_iff_eq, decide_eq_true_eq] at hd hr'
        have := uniq s' hs' hr'.1 hd.1
        subst this
        exact hi hd.2
  | none =>
    have hn := lk_none.1 hl
    have hne : ∀ s, s ∈ st → s.f_Token = c.f_Token → s.f_Seq ≠ c.f_Seq := fun s hs ht => hn _ (toE s hs ht)
    have hrel : ∀ s, s ∈ st → (rel c s = true ↔ s.f_Token = c.f_Token ∧ ((s.f_Last = true ∧ s.f_Seq < c.f_Seq) ∨ (c.f_Last = true ∧ s.f_Seq > c.f_Seq))) := fun s hs => by
      unfold rel
      simp only [Bool.and_eq_true, beq_iff_eq, Bool.or_eq_true, decide_eq_true_eq]
      constructor
      · rintro ⟨ht, (hq | h) | h⟩
        · exact absurd hq (hne s hs ht)
        · exact ⟨ht, .inl h⟩
        · exact ⟨ht, .inr h⟩
      · rintro ⟨ht, h | h⟩
        · exact ⟨ht, .inl (.inr h)⟩
        · exact ⟨ht, .inr h⟩
    by_cases hcf : conf (inn c.f_Token st) c = true
    · rw [if_pos hcf]
      obtain ⟨e, he, h⟩ := (conf_iff hV hc).1 hcf
      obtain ⟨g1, g2, g3⟩ := inn_mem.1 he
      refine scan1 (b := false) ⟨e.2, g1, (hrel _ g1).2 ⟨g2, by rw [← g3]; exact h⟩⟩ fun s hs hr => ?_
      have := hne s hs ((hrel s hs).1 hr).1
      simp [ident, this]
    · rw [if_neg hcf]
      refine scan0 fun s hs => ?_
      cases hr : rel c s with
      | false => rfl
      | true =>
        exfalso
        obtain ⟨ht, h⟩ := (hrel s hs).1 hr
        exact hcf ((conf_iff hV hc).2 ⟨_, toE s hs ht, h⟩)
def bad (c : G_QChunk) : Option Int := if c.f_Token < 0 ∨ c.f_Seq < 0 ∨ c.f_Seq ≥ 1000 then some 1 else if c.f_Items.length > 1000 then some 2 else none
theorem add_present {E : List (Int × G_QChunk)} (hV : V E) {l : List (Int × Ref)} {c : G_QChunk} (hl : lk q_i64 l c.f_Token = some .foc) :
    S_progress_Assembler_Add none c l E () = some (match bad c with
      | some e => (false, e, E, ())
      | none => match ans E c with
        | some e => (false, e, E, ())
        | none => (true, 0, E ++ [(c.f_Seq, c)], ())) := by
  unfold S_progress_Assembler_Add bad
  by_cases h1 : c.f_Token < 0 ∨ c.f_Seq < 0 ∨ c.f_Seq ≥ 1000
  · rw [if_pos (by simp; omega), if_pos h1]
  · rw [if_neg (by simp; omega), if_neg h1]
    by_cases h2 : c.f_Items.length > 1000
    · rw [if_pos (by simp; omega), if_pos h2]
    · rw [if_neg (by simp; omega), if_neg h2, if_pos hl]
      simp only
      unfold ans
      cases hk : lk q_i64 E c.f_Seq with
      | some s =>
        simp only [Option.isSome_some, if_true, Option.getD_some]
        have hs := hV.hi _ (lk_mem hk)
        simp only at hs
        by_cases hL : s.f_Last = c.f_Last
        · rw [if_pos (by simp [hL]), eqS (by omega), Option.bind_some]
          by_cases hI : s.f_Items = c.f_Items
          · rw [if_pos (by simp [hL, hI]), if_pos ⟨hL, hI⟩]
          · rw [if_neg (by simp [hI]), if_neg (fun h => hI h.2)]
        · rw [if_neg (by simp [hL]), Option.bind_some, if_neg (by simp), if_neg (fun h => hL h.1)]
      | none =>
        simp only [Option.isSome_none, Bool.false_eq_true, if_false]
        rw [bounds_eq hV hl, Option.bind_some]
        simp only
        by_cases hc : conf E c = true
        · rw [if_pos (by unfold conf at hc; exact hc), if_pos hc]
        · rw [if_neg (by unfold conf at hc; exact hc), if_neg hc, if_pos hl, clone_eq _ (by omega), Option.bind_some, if_pos hl, mp_new hk]
theorem add_absent {s : SAsm} {c : G_QChunk} (hn : s[ixA c.f_Token s]? = none) :
    S_progress_Assembler_Add_13 none c (refsN s) () = some (match bad c with
      | some e => .inl (false, e, ())
      | none => .inr (true, 0, refsN s ++ [(c.f_Token, Ref.foc)], [(c.f_Seq, c)], ())) := by
  have hl := lk_refsN hn
  unfold S_progress_Assembler_Add_13 bad
  by_cases h1 : c.f_Token < 0 ∨ c.f_Seq < 0 ∨ c.f_Seq ≥ 1000
  · rw [if_pos (by simp; omega), if_pos h1]
  · rw [if_neg (by simp; omega), if_neg h1]
    by_cases h2 : c.f_Items.length > 1000
    · rw [if_pos (by simp; omega), if_pos h2]
    · rw [if_neg (by simp; omega), if_neg h2, if_pos hl, bounds0_eq hl, Option.bind_some]
      simp only
      rw [if_neg (by simp; omega), if_pos hl, if_pos (noFoc_refsN s), clone_eq _ (by omega), Option.bind_some, mp_new hl, mp_new (by rfl)]
      rw [if_pos]
      · rfl
      · have : ∀ (l : List (Int × Ref)), lk q_i64 l c.f_Token = none → lk q_i64 (l ++ [(c.f_Token, Ref.foc)]) c.f_Token = some Ref.foc := by
          intro l
          induction l with
          | nil => intro _; simp [lk, q_i64]
          | cons e l ih =>
            obtain ⟨k', v'⟩ := e
            intro h
            simp only [lk, q_iff] at h
            by_cases hk : c.f_Token = k'
            · rw [if_pos hk] at h; cases h
            · rw [if_neg hk] at h
              simp only [List.cons_append, lk, q_iff]
              rw [if_neg hk, ih h]
        exact this _ hl
end Go.Proofs.Ytcllpgaaoiccgaa
