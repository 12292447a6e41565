/-
  How the arguments read, and what the bound gives; no condition.
-/
import Derived.Test.YtlfdchgaeeadjaaDoorLaw1
import Derived.Test.YtlfdchgaeeadjaaDoorFxTv
import Derived.Test.YtlfdchgaeeadjaaDoorRows
import Derived.Lib.LaidU8
import Derived.MakeChecks
namespace Go.Proofs.YtlfdchgaeeadjaaDoor
open Go.Fx Go.RowKit
set_option linter.unusedVariables false
theorem zom : laidOutB Tryd.prog = true := by kernel_rfl
theorem c3 : Tryd.prog.cellsOf 3 = 1 := by kernel_rfl
abbrev Msg := Int × Int × Int × List UInt8 × J
def Msg.val (x : Msg) : G_QMessage := ⟨x.1, x.2.1, x.2.2.1, x.2.2.2.1, x.2.2.2.2.val⟩
theorem zsx : RVsB Tryd.prog [27] (Msg × Unit) (fun x => [.agg ([.int .i64 x.1.1, .int .i64 x.1.2.1, .int .i64 x.1.2.2.1, .str x.1.2.2.2.1] ++ yu x.1.2.2.2.2.val)]) (fun x k => ∃ k1 k2, x.1.2.2.2.2.sz + x.1.2.2.2.1.length ≤ k1 ∧ True ∧ k1 + k2 ≤ k) :=
 @RVsB.cons _ 27 [] Msg Unit (fun x => .agg ([.int .i64 x.1, .int .i64 x.2.1, .int .i64 x.2.2.1, .str x.2.2.2.1] ++ yu x.2.2.2.2.val)) (fun _ => []) (fun x k => x.2.2.2.2.sz + x.2.2.2.1.length ≤ k) (fun _ _ => True) (@rv27) (@RVsB.nil _)
mutual
theorem z5v {H : Type} : ∀ d : DataW H, sz d ≤ Rows.uptoBulk d
 | .lit l => by cases l <;> simp [sz, Rows.uptoBulk]
 | .nil => by simp [sz, Rows.uptoBulk]
 | .ptr d => by have := z5v d; simp only [sz, Rows.uptoBulk]; omega
 | .slice es sp => by have := Xy es; have := Xy sp; simp only [sz, Rows.uptoBulk]; omega
 | .agg ds => by have := Xy ds; simp only [sz, Rows.uptoBulk]; omega
 | .iface _ d => by have := z5v d; simp only [sz, Rows.uptoBulk]; omega
 | .map es => by simp [sz, Rows.uptoBulk]
 | .held _ => by simp [sz, Rows.uptoBulk]
theorem Xy {H : Type} : ∀ ds : List (DataW H), szL ds ≤ Rows.uptoBulkAll ds
 | [] => by simp [szL, Rows.uptoBulkAll]
 | d :: r => by have := z5v d; have := Xy r; simp only [szL, Rows.uptoBulkAll]; omega
end
theorem z86 {H : Type} : ∀ a b : List (DataW H), Rows.uptoBulkAll a ≤ Rows.uptoBulkAll (a ++ b)
 | [], b => by simp [Rows.uptoBulkAll]
 | d :: r, b => by have := z86 r b; simp only [List.cons_append, Rows.uptoBulkAll]; omega
theorem zjr {H : Type} {ds gs : List (DataW H)} (h : Rows.uptoSmall H (ds ++ gs) = true) : szL ds ≤ 1048576 := by
 have h1 : Rows.uptoBulkAll (ds ++ gs) ≤ 1048576 := of_decide_eq_true h
 have := Xy ds
 have := z86 ds gs
 omega
theorem gn0 : Tryd.prog.globalNamed "unicode/utf8.first" = some 0 := by kernel_rfl
theorem gn1 : Tryd.prog.globalNamed "unicode/utf8.acceptRanges" = some 1 := by kernel_rfl
theorem gy0 : (Tryd.prog.globals[0]?).map (·.type) = some 116 := by kernel_rfl
theorem gy1 : (Tryd.prog.globals[1]?).map (·.type) = some 119 := by kernel_rfl
theorem cc5 : Tryd.prog.cellsOf 5 = 1 := by kernel_rfl
theorem zsf : Tryd.prog.cellsOf 116 = 256 := by kernel_rfl
theorem zpq : Tryd.prog.cellsOf 118 = 2 := by kernel_rfl
theorem zmv {w : World} (h3 : Lib.VarReads Tryd.prog w "unicode/utf8.first" Lib.firstData) (h4 : Lib.VarReads Tryd.prog w "unicode/utf8.acceptRanges" Lib.acceptData) : Lib.Utf8Tabs 0 1 w := by
 refine ⟨fun c hc => ?_, fun i hi => ?_⟩
 ·obtain ⟨g, t, cs, fuel, p, hg, hty, hvar, hd⟩ := h3
  obtain rfl := Option.some.inj (gn0.symm.trans hg)
  obtain rfl := Option.some.inj (gy0.symm.trans hty)
  have hcs := Lib.cells_of_tab Tryd.underlying116 Tryd.underlying5 cc5 zsf hd
  rw [World.var?_cell hg hvar c, ← Array.getElem?_toList, hcs]
  simp [Lib.firstTab, hc]
 ·obtain ⟨g, t, cs, fuel, p, hg, hty, hvar, hd⟩ := h4
  obtain rfl := Option.some.inj (gn1.symm.trans hg)
  obtain rfl := Option.some.inj (gy1.symm.trans hty)
  obtain ⟨fuel', d, q, hdi, he⟩ := Lib.array_elem Tryd.underlying119 hd i hi
  simp only [List.getElem?_map, List.getElem?_range hi, Option.map_some, Option.some.injEq] at hdi
  subst hdi
  rw [zpq] at he
  have hcs := Lib.ints_of_struct Tryd.underlying118 (fun j f hj => by
   match j, hj with
   | 0, hj => simp at hj; subst hj; exact ⟨Tryd.underlying5, rfl, cc5⟩
   | 1, hj => simp at hj; subst hj; exact ⟨Tryd.underlying5, rfl, cc5⟩
   | j + 2, hj => simp at hj) (by rw [zpq]; rfl) he
  have e0 := congrArg (·[0]?) hcs
  have e1 := congrArg (·[1]?) hcs
  simp only [List.getElem?_take, List.getElem?_drop] at e0 e1
  constructor
  ·rw [World.var?_cell hg hvar (2 * i), ← Array.getElem?_toList]
   simpa [Nat.mul_comm] using e0
  ·rw [World.var?_cell hg hvar (2 * i + 1), ← Array.getElem?_toList]
   simpa [Nat.mul_comm] using e1
theorem zsj : (Rows.laid_unicode_utf8_first : DataW Unit) = Lib.firstData := by kernel_rfl
theorem ztf : (Rows.laid_unicode_utf8_acceptRanges : DataW Unit) = Lib.acceptData := by kernel_rfl
theorem zma {w : World} {l : List (String × DataW Unit)} (hl : (l.all fun x => x.2.handleName?.isNone) = true) (h1 : ("unicode/utf8.first", Rows.laid_unicode_utf8_first) ∈ l) (h2 : ("unicode/utf8.acceptRanges", Rows.laid_unicode_utf8_acceptRanges) ∈ l) (h : laidMetH Tryd.prog l w) : GlobOk (old w) w := by
 rw [MakeChecks.laidMetH_plain _ _ _ hl] at h
 have r1 := Lib.laidMet.reads h h1
 have r2 := Lib.laidMet.reads h h2
 rw [zsj] at r1
 rw [ztf] at r2
 exact z4h zpc (zmv r1 r2)
end Go.Proofs.YtlfdchgaeeadjaaDoor
