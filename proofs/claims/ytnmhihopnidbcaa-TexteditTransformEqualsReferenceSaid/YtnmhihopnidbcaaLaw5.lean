/-
  Own text Law5 of this claim: what functions of the given program compute, in plain Lean, and the proof; no condition.
-/
import Derived.Test.YtnmhihopnidbcaaLaw3
namespace Go.Proofs.Ytnmhihopnidbcaa
open Go.Fx
set_option linter.unusedVariables false
/-- a list with the edits applied, from a place on -/
def AT {α : Type} (g : UInt8 → α) (src : List α) : Nat → List G_TextEdit → List α
  | off, [] => src.drop off
  | off, e :: r => (src.take e.f_Start.toNat).drop off ++ (e.f_NewText.map g ++ AT g src e.f_End.toNat r)
theorem AT_len {α : Type} {g : UInt8 → α} {src : List α} : ∀ (es : List G_TextEdit) (off : Nat) (p : Int), Ok src.length p es → (off : Int) ≤ p + 1 → off ≤ src.length → ((AT g src off es).length : Int) = src.length - off + D es
  | [], off, p, h, h1, h2 => by simp only [AT, D, List.length_drop]; omega
  | e :: r, off, p, h, h1, h2 => by
    obtain ⟨g1, g2, g3, g4⟩ := h
    have := AT_len (g := g) r e.f_End.toNat e.f_End g4 (by omega) (by omega)
    simp only [AT, D, List.length_append, List.length_drop, List.length_take, List.length_map]
    unfold dl
    omega
theorem AT_map {α β : Type} {g : UInt8 → α} (c : α → β) {src : List α} : ∀ (es : List G_TextEdit) (off : Nat), (AT g src off es).map c = AT (fun b => c (g b)) (src.map c) off es
  | [], off => by simp only [AT, List.map_drop]
  | e :: r, off => by simp only [AT, List.map_append, List.map_drop, List.map_take, List.map_map, AT_map c r]; rfl

/-- a byte that an edit puts in -/
def ins (b : UInt8) : G_tracedByte := ⟨(b.toNat : Int), -1⟩
def tb (a0 : List UInt8) (j : Nat) : G_tracedByte := ⟨((a0.getD j 0).toNat : Int), (j : Int)⟩
/-- the bytes of a text with their places -/
def T (a0 : List UInt8) : List G_tracedByte := (List.range a0.length).map (tb a0)
theorem T_len (a0 : List UInt8) : (T a0).length = a0.length := by simp [T]
theorem T_get (a0 : List UInt8) {i : Nat} (h : i < a0.length) : (T a0)[i]'(by rw [T_len]; exact h) = tb a0 i := by simp [T]
theorem trace_loop {a0 : List UInt8} (hn : a0.length ≤ 2000) : ∀ (k i : Nat), i + k = a0.length →
    S_textedit_trace_l1 none a0 (i : Int) ((T a0).take i ++ List.replicate k ⟨0, 0⟩) = some (T a0)
  | 0, i, h => by
    have : i = a0.length := by omega
    subst this
    unfold S_textedit_trace_l1
    rw [loopM_out (x := some (T a0)) ?_]
    unfold S_textedit_trace_b1
    rw [if_neg (by simp)]
    unfold S_textedit_trace_j1
    simp [← T_len a0]
  | k + 1, i, h => by
    have hi : i < a0.length := by omega
    have ih := trace_loop hn k (i + 1) (by omega)
    have e1 := Wi (show i ≤ 4611686018427387904 by omega)
    have hT : i < (T a0).length := by rw [T_len]; exact hi
    have hl : ((T a0).take i).length = i := by rw [List.length_take]; omega
    unfold S_textedit_trace_l1 at ih ⊢
    rw [loopM_inl (s' := (((i + 1 : Nat) : Int), (T a0).take (i + 1) ++ List.replicate k ⟨0, 0⟩)) ?_]
    · exact ih
    · unfold S_textedit_trace_b1
      rw [if_pos (by simp; omega), if_pos (by omega), if_pos (by simp only [List.length_append, hl, List.length_replicate]; omega), if_pos (by simp only [List.length_append, hl, List.length_replicate]; omega)]
      simp only [Int.toNat_natCast, e1, Nat.zero_add]
      rw [List.replicate_succ, List.set_append, if_neg (by omega)]
      rw [hl, Nat.sub_self, List.set_cons_zero, List.take_succ_eq_append_getElem hT, T_get a0 hi, List.append_assoc]
      rfl
theorem trace_eq {a0 : List UInt8} (hn : a0.length ≤ 2000) : S_textedit_trace none a0 = some (T a0) := by
  unfold S_textedit_trace
  rw [if_pos (by omega)]
  simpa using trace_loop hn a0.length 0 (by omega)

theorem at_in {x : List G_tracedByte} {a1 : List G_TextEdit} {i : Nat} (hi : i < a1.length) (hil : i ≤ 1000) : ∀ (k j : Nat) (acc : List G_tracedByte), j + k = a1[i].f_NewText.length → acc.length + k ≤ 1000000 → j + k ≤ 1000000 →
    S_textedit_applyTraced_l4 none x a1 (i : Int) acc (j : Int) = some (.inl (acc ++ (a1[i].f_NewText.drop j).map ins, a1[i].f_End, ((i + 1 : Nat) : Int)))
  | 0, j, acc, h, h1, h2 => by
    have : j = a1[i].f_NewText.length := by omega
    subst this
    unfold S_textedit_applyTraced_l4
    rw [loopM_out (x := some (.inl (acc, a1[i].f_End, ((i + 1 : Nat) : Int)))) ?_]
    · simp
    · unfold S_textedit_applyTraced_b4
      simp only [Int.toNat_natCast, getD_at hi]
      rw [if_neg (by simp)]
      unfold S_textedit_applyTraced_j5 S_textedit_applyTraced_j6
      simp only [Int.toNat_natCast, getD_at hi, Wi (show i ≤ 4611686018427387904 by omega)]
  | k + 1, j, acc, h, h1, h2 => by
    have hj : j < a1[i].f_NewText.length := by omega
    have ih := at_in (x := x) hi hil k (j + 1) (acc ++ [ins a1[i].f_NewText[j]]) (by omega) (by simp; omega) (by omega)
    have e1 := Wi (show j ≤ 4611686018427387904 by omega)
    unfold S_textedit_applyTraced_l4 at ih ⊢
    rw [loopM_inl (s' := (acc ++ [ins a1[i].f_NewText[j]], ((j + 1 : Nat) : Int))) ?_]
    · rw [ih, List.drop_eq_getElem_cons hj]; simp only [List.map_cons, List.append_assoc, List.cons_append, List.nil_append]
    · have hj2 : j < (a1[i].f_NewText.map ofU8).length := by simpa using hj
      unfold S_textedit_applyTraced_b4
      simp only [Int.toNat_natCast, getD_at hi, getD_at hj2, e1]
      rw [if_pos (by simpa using hj), if_pos (by simpa using hj), if_pos (by simp; omega)]
      simp [ins, ofU8]
theorem at_loop {x : List G_tracedByte} {a1 : List G_TextEdit} (hn : x.length ≤ 2000) (hl : a1.length ≤ 50) : ∀ (k i off : Nat) (p : Int) (acc : List G_tracedByte), i + k = a1.length → -1 ≤ p → Ok x.length p (a1.drop i) → (off : Int) ≤ p + 1 → off ≤ x.length →
    acc.length + (AT ins x off (a1.drop i)).length ≤ 1000000 → S_textedit_applyTraced_l3 none x a1 acc (off : Int) (i : Int) = some (acc ++ AT ins x off (a1.drop i))
  | 0, i, off, p, acc, h, hp, h1, h2, h3, h4 => by
    have : i = a1.length := by omega
    subst this
    rw [List.drop_length] at h4 ⊢
    simp only [AT] at h4 ⊢
    unfold S_textedit_applyTraced_l3
    rw [loopM_out (x := some (acc ++ x.drop off)) ?_]
    unfold S_textedit_applyTraced_b3
    rw [if_neg (by simp)]
    unfold S_textedit_applyTraced_j7
    dsimp only
    rw [Int.toNat_natCast, if_pos (by simp; omega), if_pos (by simp only [List.length_map, List.length_append]; omega)]
  | k + 1, i, off, p, acc, h, hp, h1, h2, h3, h4 => by
    have hi : i < a1.length := by omega
    have ih := at_loop hn hl k (i + 1)
    rw [List.drop_eq_getElem_cons hi] at h1 h4 ⊢
    obtain ⟨g1, g2, g3, g4⟩ := h1
    simp only [AT, List.length_append, List.length_map] at h4
    have hin := at_in (x := x) hi (by omega) a1[i].f_NewText.length 0 (acc ++ (x.take a1[i].f_Start.toNat).drop off) (by omega) (by simp only [List.length_append]; omega) (by omega)
    unfold S_textedit_applyTraced_l3 at ih ⊢
    rw [loopM_inl (s' := (acc ++ (x.take a1[i].f_Start.toNat).drop off ++ a1[i].f_NewText.map ins, a1[i].f_End, ((i + 1 : Nat) : Int))) ?_]
    · have := ih a1[i].f_End.toNat a1[i].f_End (acc ++ (x.take a1[i].f_Start.toNat).drop off ++ a1[i].f_NewText.map ins) (by omega) (by omega) g4 (by omega) (by omega) (by simp only [List.length_append, List.length_map]; omega)
      rw [show ((a1[i].f_End.toNat : Nat) : Int) = a1[i].f_End by omega] at this
      rw [this]
      simp only [AT, List.append_assoc]
    · unfold S_textedit_applyTraced_b3
      rw [if_pos (by simpa using hi), if_pos (by simpa using hi)]
      simp only [Int.toNat_natCast, getD_at hi]
      rw [if_pos (by simp; omega), if_pos (by simp only [List.length_map, List.length_append]; omega)]
      simpa using hin
theorem applyTraced_eq {x : List G_tracedByte} {a1 : List G_TextEdit} (hn : x.length ≤ 2000) (hl : a1.length ≤ 50) (hok : Ok x.length (-1) a1) (hb : (AT ins x 0 a1).length ≤ 1000000) : S_textedit_applyTraced none x a1 = some (AT ins x 0 a1) := by
  have := at_loop hn hl a1.length 0 0 (-1) [] (by omega) (by omega) hok (by omega) (by omega) (by simpa using hb)
  unfold S_textedit_applyTraced
  simpa using this
end Go.Proofs.Ytnmhihopnidbcaa
