/-
  Own framework.
-/
import Derived.Test.YtkpgfihopaokgaaGreatDoorFxLb
import Derived.Shelf.Unicode.ValidAny
import Derived.Lib.LaidTab
namespace Go.Fx
open Go.Shelf Go.RowKit Go.Lib Go.Sort Go.Proofs
set_option linter.unusedVariables false
def zpb : List Value := (List.range 256).map fun c => .int .u8 (firstT c)
def zol : List Value := (List.range 32).map fun j => .int .u8 (if j % 2 = 0 then accLo (j / 2) else accHi (j / 2))
def zk3 (k : IntKind) (zs : List Int) : List Value := zs.map fun z => .int k z
theorem zgd {P : Program} {g : Nat} {nm : String} {k : IntKind} {zs : List Int} (hg : P.globalNamed nm = some g) {w : World} (h : Lib.TabIs P w nm k zs) :
 (∃ arr el fr, w.heap[g]? = some (.cells arr el fr) ∧ arr.size = (zk3 k zs).length) ∧ ∀ (i : Nat) (v : Value), (zk3 k zs)[i]? = some v → (∃ v, w.cell? ⟨g, i, none⟩ = some v) ∧ w.cell? ⟨g, i, none⟩ = some v := by
 unfold Lib.TabIs World.var? at h
 rw [hg, Option.bind_some] at h
 split at h <;> try (cases h; done)
 rename_i cs el fr hw
 simp only [Option.some.injEq] at h
 subst h
 refine ⟨⟨_, _, _, hw, by simp [zk3]⟩, fun i v hv => ?_⟩
 have : w.cell? ⟨g, i, none⟩ = some v := by
  unfold World.cell?
  simp only [hw]
  rw [← hv]
  simp [zk3]
 exact ⟨⟨_, this⟩, this⟩
end Go.Fx
