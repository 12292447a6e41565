/-
  Own text Law2 of this claim: what functions of the given program compute, in plain Lean, and the proof; no condition.
-/
import Derived.Test.YtlenhplodggefaaLaw1
import Derived.Test.YtlenhplodggefaaOk
namespace Go.Proofs.Ytlenhplodggefaa
open Go.Fx
set_option linter.unusedVariables false
def AP (d : G_QDocument) (es : List G_TextEdit) : List UInt8 × Int := if VE d.f_Text es = 0 then (A d.f_Text 0 es, 0) else ([], VE d.f_Text es)
def errN (d : G_QDocument) (es : List G_TextEdit) : Int := if (AP d es).2 ≠ 0 then (AP d es).2 else if (AP d es).1.length > 2000 ∨ d.f_Version ≥ 2147483647 then 2 else 0
def nxt (d : G_QDocument) (es : List G_TextEdit) : G_QDocument := if errN d es = 0 then ⟨d.f_Name, W (d.f_Version + 1), (AP d es).1⟩ else d
theorem applied_eq {d : G_QDocument} {es : List G_TextEdit} (hz : Sz es) : S_glossatorlaw3_applied none d es = some (nxt d es, errN d es) := by
  unfold S_glossatorlaw3_applied
  rw [apply_eq hz]
  show (if _ then _ else _) = _
  have e : (if VE d.f_Text es = 0 then (A d.f_Text 0 es, (0 : Int)) else ([], VE d.f_Text es)) = AP d es := rfl
  rw [e]
  unfold nxt S_glossatorlaw3_applied_j1
  by_cases h0 : (AP d es).2 = 0
  · by_cases h1 : (AP d es).1.length > 2000 ∨ d.f_Version ≥ 2147483647
    · have hE : errN d es = 2 := by unfold errN; rw [if_neg (fun h => h h0), if_pos h1]
      rw [hE, if_pos (by simp [h0]; omega), if_pos (by simp), if_neg (by simp)]
    · have hE : errN d es = 0 := by unfold errN; rw [if_neg (fun h => h h0), if_neg h1]
      rw [hE, if_neg (by simp [h0]; omega), if_neg (by simp [h0]), if_pos rfl]
  · have hE : errN d es = (AP d es).2 := by unfold errN; rw [if_pos h0]
    rw [hE, if_neg (by simp [h0]), if_pos (by simpa using h0), if_neg h0]
theorem dapply_eq {d : G_QDocument} {es : List G_TextEdit} (hz : Sz es) : S_docsync_apply none d es = some (if errN d es = 0 then nxt d es else ⟨[], 0, []⟩, errN d es) := by
  unfold S_docsync_apply
  rw [apply_eq hz]
  show (if _ then _ else _) = _
  have e : (if VE d.f_Text es = 0 then (A d.f_Text 0 es, (0 : Int)) else ([], VE d.f_Text es)) = AP d es := rfl
  rw [e]
  unfold nxt
  by_cases h0 : (AP d es).2 = 0
  · by_cases h1 : (AP d es).1.length > 2000 ∨ d.f_Version ≥ 2147483647
    · have hE : errN d es = 2 := by unfold errN; rw [if_neg (fun h => h h0), if_pos h1]
      rw [hE, if_neg (by simp [h0]), if_pos (by simp; omega), if_neg (by simp)]
    · have hE : errN d es = 0 := by unfold errN; rw [if_neg (fun h => h h0), if_neg h1]
      rw [hE, if_neg (by simp [h0]), if_neg (by simp; omega), if_pos rfl, if_pos rfl]
  · have hE : errN d es = (AP d es).2 := by unfold errN; rw [if_pos h0]
    rw [hE, if_pos (by simpa using h0), if_neg h0]
def runE : G_QDocument → List (List G_TextEdit) → Int × G_QDocument
  | d, [] => (0, d)
  | d, e :: r => if errN d e = 0 then runE (nxt d e) r else (errN d e, nxt d e)
def SzL (l : List (List G_TextEdit)) : Prop := ∀ x ∈ l, Sz x
def pickD (d0 : G_QDocument) (r : Int × G_QDocument) : Int × List UInt8 × Int × List UInt8 := if r.1 = 0 then (r.1, r.2.f_Name, r.2.f_Version, r.2.f_Text) else (r.1, d0.f_Name, d0.f_Version, d0.f_Text)
theorem catch_loop {l : List (List G_TextEdit)} (hz : SzL l) (hl : l.length ≤ 4611686018427387904) (d0 : G_QDocument) : ∀ (k i : Nat) (d : G_QDocument), i + k = l.length →
    S_docsync_Replica_CatchUp_l1 none l d0.f_Name d0.f_Version d0.f_Text (i : Int) d.f_Name d.f_Version d.f_Text = some (pickD d0 (runE d (l.drop i)))
  | 0, i, d, h => by
    have : i = l.length := by omega
    subst this
    unfold S_docsync_Replica_CatchUp_l1
    rw [List.drop_length, loopM_out (x := some (0, d.f_Name, d.f_Version, d.f_Text)) ?_]
    · rfl
    · unfold S_docsync_Replica_CatchUp_b1
      rw [if_neg (by simp)]
      rfl
  | k + 1, i, d, h => by
    have hi : i < l.length := by omega
    have ih := catch_loop hz hl d0 k (i + 1)
    have e1 := Wi (show i ≤ 4611686018427387904 by omega)
    have hzi : Sz l[i] := hz _ (List.getElem_mem hi)
    unfold S_docsync_Replica_CatchUp_l1 at ih ⊢
    rw [List.drop_eq_getElem_cons hi]
    have hb : S_docsync_Replica_CatchUp_b1 none l d0.f_Name d0.f_Version d0.f_Text (i : Int) d.f_Name d.f_Version d.f_Text = if errN d l[i] = 0 then some (.inl (((i + 1 : Nat) : Int), (nxt d l[i]).f_Name, (nxt d l[i]).f_Version, (nxt d l[i]).f_Text)) else some (.inr (errN d l[i], d0.f_Name, d0.f_Version, d0.f_Text)) := by
      unfold S_docsync_Replica_CatchUp_b1
      rw [if_pos (by simpa using hi), if_pos (by simpa using hi)]
      simp only [Int.toNat_natCast, getD_at hi, e1]
      rw [show S_docsync_apply none (G_QDocument.mk d.f_Name d.f_Version d.f_Text) l[i] = _ from dapply_eq hzi]
      by_cases hc : errN d l[i] = 0
      · rw [if_pos hc, if_pos hc]
        show (if _ then _ else _) = _
        rw [if_neg (by simpa using hc)]
      · rw [if_neg hc, if_neg hc]
        show (if _ then _ else _) = _
        rw [if_pos (by simpa using hc)]
        rfl
    rw [runE]
    by_cases hc : errN d l[i] = 0
    · rw [loopM_inl (s' := (((i + 1 : Nat) : Int), (nxt d l[i]).f_Name, (nxt d l[i]).f_Version, (nxt d l[i]).f_Text)) (by dsimp only; rw [hb, if_pos hc]), if_pos hc]
      exact ih _ (by omega)
    · rw [loopM_out (x := some (errN d l[i], d0.f_Name, d0.f_Version, d0.f_Text)) (by dsimp only; rw [hb, if_neg hc]; rfl), if_neg hc]
      unfold pickD
      rw [if_neg hc]
theorem catch_eq {l : List (List G_TextEdit)} (hz : SzL l) (hl : l.length ≤ 4611686018427387904) (d : G_QDocument) : S_docsync_Replica_CatchUp none l d.f_Name d.f_Version d.f_Text = some (pickD d (runE d l)) := by
  have := catch_loop hz hl d l.length 0 d (by omega)
  simpa [S_docsync_Replica_CatchUp] using this
def updE (u : G_QUpdate) (d : G_QDocument) : Int × G_QDocument := if u.f_Name ≠ d.f_Name then (5, d) else if u.f_Version = -9223372036854775808 ∨ W (u.f_Version - 1) ≠ d.f_Version then (11, d) else (errN d u.f_Edits, nxt d u.f_Edits)
theorem rapply_eq {u : G_QUpdate} (hz : Sz u.f_Edits) (d : G_QDocument) : S_docsync_Replica_Apply none u d.f_Name d.f_Version d.f_Text = some ((updE u d).1, (updE u d).2.f_Name, (updE u d).2.f_Version, (updE u d).2.f_Text) := by
  unfold S_docsync_Replica_Apply updE
  by_cases h1 : u.f_Name ≠ d.f_Name
  · rw [if_pos (by simpa using h1), if_pos h1]
  · rw [if_neg (by simpa using h1), if_neg h1]
    by_cases h2 : u.f_Version = -9223372036854775808 ∨ W (u.f_Version - 1) ≠ d.f_Version
    · rw [if_pos (by simpa using h2), if_pos h2]
    · rw [if_neg (by simpa using h2), if_neg h2]
      rw [catch_eq (l := [u.f_Edits]) (fun x hx => by simp only [List.mem_singleton] at hx; rw [hx]; exact hz) (by simp) d]
      have hr : runE d [u.f_Edits] = (errN d u.f_Edits, nxt d u.f_Edits) := by
        simp only [runE]
        by_cases hc : errN d u.f_Edits = 0
        · rw [if_pos hc, hc]
        · rw [if_neg hc]
      have hp : pickD d (runE d [u.f_Edits]) = (errN d u.f_Edits, (nxt d u.f_Edits).f_Name, (nxt d u.f_Edits).f_Version, (nxt d u.f_Edits).f_Text) := by
        rw [hr]
        unfold pickD
        by_cases hc : errN d u.f_Edits = 0
        · rw [if_pos hc]
        · rw [if_neg hc]
          unfold nxt
          rw [if_neg hc]
      rw [hp]
      rfl
theorem cap8 {α γ : Type} (f : α → γ) (l : List α) : (if (8 : Int) < ((l.map f).length : Int) then 8 else ((l.map f).length : Int)).toNat = min 8 l.length := by
  rw [List.length_map]
  by_cases h : (8 : Int) < (l.length : Int)
  · rw [if_pos h]; omega
  · rw [if_neg h]; omega
theorem cap15 {α γ : Type} (f : α → γ) (l : List α) : (if (15 : Int) < ((l.map f).length : Int) then 15 else ((l.map f).length : Int)).toNat = min 15 l.length := by
  rw [List.length_map]
  by_cases h : (15 : Int) < (l.length : Int)
  · rw [if_pos h]; omega
  · rw [if_neg h]; omega
theorem sz_mem {l : List (List G_TextEdit)} (hz : SzL l) (n : Nat) : SzL (l.take n) := fun x hx => hz x (List.mem_of_mem_take hx)
theorem law_end {a2 : List (List G_TextEdit)} (hz : SzL a2) (d d' : G_QDocument) (e : Int) (h : (e, d') = runE d (a2.take (min 8 a2.length))) :
    S_glossatorlaw3_DocsyncReplica_j5 none a2 d.f_Name d.f_Version d.f_Text d.f_Name d.f_Version d.f_Text e d'.f_Name d'.f_Version d'.f_Text = some true := by
  have key : ∀ x : G_QDocument, (e, x.f_Name, x.f_Version, x.f_Text) = pickD d (e, d') → S_glossatorlaw3_DocsyncReplica_j6 none a2 d.f_Name d.f_Version d.f_Text e x.f_Name x.f_Version x.f_Text = some true := by
    intro x hx
    unfold S_glossatorlaw3_DocsyncReplica_j6
    rw [show S_glossatorlaw3_syncExample (some 4096) = some true from rfl]
    simp only [Option.bind_some]
    rw [cap8, if_pos (by rfl), catch_eq (sz_mem hz _) (by simp only [List.length_take]; omega) d, ← h, ← hx]
    simp only [Option.bind_some, Bool.true_and, BEq.rfl, if_pos, S_docsync_Replica_Document, S_glossatorlaw3_DocsyncReplica_j7, Bool.and_self]
  unfold S_glossatorlaw3_DocsyncReplica_j5
  by_cases he : e = 0
  · rw [if_pos (by simpa using he)]
    exact key d' (by unfold pickD; rw [if_pos he])
  · rw [if_neg (by simpa using he)]
    exact key d (by unfold pickD; rw [if_neg he])
theorem hist_loop {a2 : List (List G_TextEdit)} (hz : SzL a2) (d0 : G_QDocument) (e1 : Int) (d1 : G_QDocument) (hr : (e1, d1) = runE d0 (a2.take (min 8 a2.length))) : ∀ (k i : Nat) (d : G_QDocument), i + k = min 8 a2.length → runE d ((a2.take (min 8 a2.length)).drop i) = (e1, d1) →
    S_glossatorlaw3_DocsyncReplica_l2 none a2 d0.f_Name d0.f_Version d0.f_Text d0.f_Name d0.f_Version d0.f_Text 0 (i : Int) d.f_Name d.f_Version d.f_Text = some true
  | 0, i, d, h, h1 => by
    have hlen : (a2.take (min 8 a2.length)).length = min 8 a2.length := by simp
    rw [List.drop_of_length_le (by omega)] at h1
    simp only [runE, Prod.mk.injEq] at h1
    obtain ⟨h1, h2⟩ := h1
    subst h2
    unfold S_glossatorlaw3_DocsyncReplica_l2
    rw [loopM_out (x := some true) ?_]
    unfold S_glossatorlaw3_DocsyncReplica_b2
    simp only [cap8]
    rw [if_neg (by simp; omega), h1, law_end hz d0 d e1 hr]
  | k + 1, i, d, h, h1 => by
    have hlen : (a2.take (min 8 a2.length)).length = min 8 a2.length := by simp
    have hi : i < (a2.take (min 8 a2.length)).length := by omega
    have ih := hist_loop hz d0 e1 d1 hr k (i + 1)
    have ew := Wi (show i ≤ 4611686018427387904 by omega)
    have hzi : Sz (a2.take (min 8 a2.length))[i] := sz_mem hz _ _ (List.getElem_mem hi)
    rw [List.drop_eq_getElem_cons hi, runE] at h1
    have hb : S_glossatorlaw3_DocsyncReplica_b2 none a2 d0.f_Name d0.f_Version d0.f_Text d0.f_Name d0.f_Version d0.f_Text 0 (i : Int) d.f_Name d.f_Version d.f_Text = some (.inl (errN d (a2.take (min 8 a2.length))[i], ((i + 1 : Nat) : Int), (nxt d (a2.take (min 8 a2.length))[i]).f_Name, (nxt d (a2.take (min 8 a2.length))[i]).f_Version, (nxt d (a2.take (min 8 a2.length))[i]).f_Text)) := by
      unfold S_glossatorlaw3_DocsyncReplica_b2
      simp only [cap8]
      rw [if_pos (by simp; omega), if_pos (by simp; omega)]
      simp only [Int.toNat_natCast, getD_at hi, ew]
      rw [show S_glossatorlaw3_applied none (G_QDocument.mk d.f_Name d.f_Version d.f_Text) _ = _ from applied_eq hzi]
      rfl
    by_cases hc : errN d (a2.take (min 8 a2.length))[i] = 0
    · rw [if_pos hc] at h1
      unfold S_glossatorlaw3_DocsyncReplica_l2 at ih ⊢
      rw [loopM_inl hb, hc]
      exact ih _ (by omega) h1
    · rw [if_neg hc] at h1
      simp only [Prod.mk.injEq] at h1
      obtain ⟨h1, h2⟩ := h1
      unfold S_glossatorlaw3_DocsyncReplica_l2
      rw [loopM_inl hb, loopM_out (x := some true) ?_]
      unfold S_glossatorlaw3_DocsyncReplica_b2
      dsimp only
      rw [if_neg (by simp only [Bool.and_eq_true, beq_iff_eq, not_and]; exact fun _ => hc), h1, h2, law_end hz d0 d1 e1 hr]
theorem hist_eq {a2 : List (List G_TextEdit)} (hz : SzL a2) (d : G_QDocument) : S_glossatorlaw3_DocsyncReplica_j4 none a2 d.f_Name d.f_Version d.f_Text d.f_Name d.f_Version d.f_Text = some true := by
  unfold S_glossatorlaw3_DocsyncReplica_j4
  rw [List.length_map, if_pos (by split <;> omega)]
  exact hist_loop hz d _ _ rfl (min 8 a2.length) 0 d (by omega) rfl
theorem upd_loop {a1 : List G_QUpdate} {a2 : List (List G_TextEdit)} (hz : SzL a2) (hu : ∀ u ∈ a1, Sz u.f_Edits) : ∀ (k i : Nat) (d : G_QDocument), i + k = min 15 a1.length →
    S_glossatorlaw3_DocsyncReplica_l1 none a1 a2 (i : Int) d.f_Name d.f_Version d.f_Text d.f_Name d.f_Version d.f_Text = some true
  | 0, i, d, h => by
    unfold S_glossatorlaw3_DocsyncReplica_l1
    rw [loopM_out (x := some true) ?_]
    unfold S_glossatorlaw3_DocsyncReplica_b1
    simp only [cap15]
    rw [if_neg (by simp; omega), hist_eq hz d]
  | k + 1, i, d, h => by
    have hlen : (a1.take (min 15 a1.length)).length = min 15 a1.length := by simp
    have hi : i < (a1.take (min 15 a1.length)).length := by omega
    have ih := upd_loop hz hu k (i + 1)
    have ew := Wi (show i ≤ 4611686018427387904 by omega)
    have hzi : Sz (a1.take (min 15 a1.length))[i].f_Edits := hu _ (List.mem_of_mem_take (List.getElem_mem hi))
    have j3 : ∀ (w : Int) (x : G_QDocument), (w, x) = updE (a1.take (min 15 a1.length))[i] d → S_glossatorlaw3_DocsyncReplica_j3 none a1 a2 (i : Int) d.f_Name d.f_Version d.f_Text d.f_Name d.f_Version d.f_Text w x.f_Name x.f_Version x.f_Text =
        some (.inl (((i + 1 : Nat) : Int), x.f_Name, x.f_Version, x.f_Text, x.f_Name, x.f_Version, x.f_Text)) := by
      intro w x hx
      unfold S_glossatorlaw3_DocsyncReplica_j3
      simp only [cap15]
      simp only [Int.toNat_natCast, getD_at hi, ew]
      rw [show (G_QUpdate.mk (a1.take (min 15 a1.length))[i].f_To (a1.take (min 15 a1.length))[i].f_From (a1.take (min 15 a1.length))[i].f_Name (a1.take (min 15 a1.length))[i].f_Version (a1.take (min 15 a1.length))[i].f_Edits) = (a1.take (min 15 a1.length))[i] from rfl, rapply_eq hzi d, ← hx]
      simp [S_docsync_Replica_Document]
    have hb : S_glossatorlaw3_DocsyncReplica_b1 none a1 a2 (i : Int) d.f_Name d.f_Version d.f_Text d.f_Name d.f_Version d.f_Text = some (.inl (((i + 1 : Nat) : Int), (updE (a1.take (min 15 a1.length))[i] d).2.f_Name, (updE (a1.take (min 15 a1.length))[i] d).2.f_Version, (updE (a1.take (min 15 a1.length))[i] d).2.f_Text, (updE (a1.take (min 15 a1.length))[i] d).2.f_Name, (updE (a1.take (min 15 a1.length))[i] d).2.f_Version, (updE (a1.take (min 15 a1.length))[i] d).2.f_Text)) := by
      unfold S_glossatorlaw3_DocsyncReplica_b1
      simp only [cap15]
      rw [if_pos (by simp; omega), if_pos (by simp; omega)]
      simp only [Int.toNat_natCast, getD_at hi]
      by_cases h1 : (a1.take (min 15 a1.length))[i].f_Name ≠ d.f_Name
      · have hu' : updE (a1.take (min 15 a1.length))[i] d = (5, d) := by unfold updE; rw [if_pos h1]
        rw [if_pos (by simpa using h1), j3 5 d hu'.symm, hu']
      · rw [if_neg (by simpa using h1)]
        by_cases h2 : (a1.take (min 15 a1.length))[i].f_Version = -9223372036854775808 ∨ W ((a1.take (min 15 a1.length))[i].f_Version - 1) ≠ d.f_Version
        · have hu' : updE (a1.take (min 15 a1.length))[i] d = (11, d) := by unfold updE; rw [if_neg h1, if_pos h2]
          rw [if_pos (by simpa using h2), j3 11 d hu'.symm, hu']
        · have hu' : updE (a1.take (min 15 a1.length))[i] d = (errN d (a1.take (min 15 a1.length))[i].f_Edits, nxt d (a1.take (min 15 a1.length))[i].f_Edits) := by unfold updE; rw [if_neg h1, if_neg h2]
          rw [if_neg (by simpa using h2), show S_glossatorlaw3_applied none (G_QDocument.mk d.f_Name d.f_Version d.f_Text) _ = _ from applied_eq hzi, hu']
          simp only [Option.bind_some]
          exact j3 _ _ hu'.symm
    unfold S_glossatorlaw3_DocsyncReplica_l1 at ih ⊢
    rw [loopM_inl hb]
    exact ih _ (by omega)
theorem sz_of {es : List G_TextEdit} (h : ∀ y ∈ es, ok_TextEdit y) : Sz es := fun e he => by
  have := (h e he).2.2
  have hr : reachBytes ≤ 140737488355328 := by decide
  omega
theorem lawR {a0 : G_QDocument} {a1 : List G_QUpdate} {a2 : List (List G_TextEdit)} (h : okA3 a0 a1 a2) : S_glossatorlaw3_DocsyncReplica none a0 a1 a2 = some true := by
  obtain ⟨_, h1, h2⟩ := h
  unfold S_glossatorlaw3_DocsyncReplica
  rw [show S_glossatorlaw3_syncExample (some 4096) = some true from rfl]
  simp only [Option.bind_some, Bool.not_true, Bool.false_eq_true, if_false, S_docsync_NewReplica]
  rw [List.length_map, if_pos (by split <;> omega)]
  exact upd_loop (fun x hx => sz_of (h2.2.2 x hx).2.2) (fun u hu => sz_of (h1.2.2 u hu).2.2.2.2.2.2) (min 15 a1.length) 0 a0 (by omega)
end Go.Proofs.Ytlenhplodggefaa
