/-
  Own text Law15 of this claim: what functions of the given program compute, in plain Lean, and the proof; no condition.
-/
import Derived.Test.YtnmhihopnidbcaaLaw14
namespace Go.Proofs.Ytnmhihopnidbcaa
open Go.Fx
set_option linter.unusedVariables false
/-- bytes with rising origins -/
def sqG {α : Type} (mk : Int → Int → α) : Int → List UInt8 → List α
  | _, [] => []
  | off, b :: r => mk (b.toNat : Int) off :: sqG mk (off + 1) r
def txt {α : Type} (mk : Int → Int → α) (ownE : Bool) (off : Int) (t : List UInt8) : List α := if ownE then sqG mk off t else t.map fun b => mk (b.toNat : Int) (-1)
/-- the ownE edits -/
def ownE (fl : Bool) (L R : List G_TextEdit) : List G_TextEdit := if fl then L else R
/-- output and offset behind the texts of place i -/
def tx {α : Type} (mk : Int → Int → α) (fl : Bool) (L R : List G_TextEdit) (i : Nat) (o : List α × Int) : List α × Int :=
  (o.1 ++ txt mk fl o.2 (insA L i) ++ txt mk (!fl) o.2 (insA R i), o.2 + (insA (ownE fl L R) i).length)
/-- .. behind its byte -/
def bt {α : Type} (mk : Int → Int → α) (fl : Bool) (s : List UInt8) (L R : List G_TextEdit) (i : Nat) (o : List α × Int) : List α × Int :=
  (o.1 ++ (if delB L i = false ∧ delB R i = false then [mk ((s.getD i 0).toNat : Int) o.2] else []), o.2 + (if delB (ownE fl L R) i = false then 1 else 0))
/-- output and offset ahead of place i -/
def It {α : Type} (mk : Int → Int → α) (fl : Bool) (s : List UInt8) (L R : List G_TextEdit) : Nat → List α × Int
  | 0 => ([], 0)
  | i + 1 => bt mk fl s L R i (tx mk fl L R i (It mk fl s L R i))
/-- the merged text -/
def Mg {α : Type} (mk : Int → Int → α) (fl : Bool) (s : List UInt8) (L R : List G_TextEdit) : List α × Int := tx mk fl L R s.length (It mk fl s L R s.length)
theorem sqG_map {α β : Type} (mk : Int → Int → α) (c : α → β) : ∀ (t : List UInt8) (off : Int), (sqG mk off t).map c = sqG (fun v o => c (mk v o)) off t
  | [], _ => rfl
  | b :: r, off => by simp [sqG, sqG_map mk c r]
theorem sq_sqG : ∀ (t : List UInt8) (off : Int), sq off t = sqG G_tracedByte.mk off t
  | [], _ => rfl
  | b :: r, off => by simp [sq, sqG, sq_sqG r]
theorem txt_map {α β : Type} (mk : Int → Int → α) (c : α → β) (w : Bool) (off : Int) (t : List UInt8) : (txt mk w off t).map c = txt (fun v o => c (mk v o)) w off t := by
  unfold txt; cases w
  · simp
  · simp [sqG_map]
theorem It_map {α β : Type} (mk : Int → Int → α) (c : α → β) (fl : Bool) (s : List UInt8) (L R : List G_TextEdit) : ∀ (i : Nat), ((It mk fl s L R i).1.map c, (It mk fl s L R i).2) = It (fun v o => c (mk v o)) fl s L R i
  | 0 => rfl
  | i + 1 => by
    have ih := It_map mk c fl s L R i
    rw [It, It, ← ih]
    unfold bt tx
    simp only [List.map_append, txt_map]
    congr 2
    split <;> rfl
end Go.Proofs.Ytnmhihopnidbcaa
