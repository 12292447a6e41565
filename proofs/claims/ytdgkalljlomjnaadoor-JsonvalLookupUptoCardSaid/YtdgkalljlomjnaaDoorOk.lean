/-
  How the arguments read, and what the bound gives; no condition.
-/
import Derived.Test.YtdgkalljlomjnaaDoorLaw1
import Derived.Test.YtdgkalljlomjnaaDoorFxTv
import Derived.Test.YtdgkalljlomjnaaDoorRows
import Derived.Lib.LaidU8
import Derived.MakeChecks
namespace Go.Proofs.YtdgkalljlomjnaaDoor
open Go.Fx Go.RowKit
set_option linter.unusedVariables false
theorem zqf : laidOutB Tryd.prog = true := by kernel_rfl
theorem c9 : Tryd.prog.cellsOf 9 = 1 := by kernel_rfl
theorem c3 : Tryd.prog.cellsOf 3 = 1 := by kernel_rfl
theorem c22 : Tryd.prog.cellsOf 22 = 1 := by kernel_rfl
theorem c23 : Tryd.prog.cellsOf 23 = 1 := by kernel_rfl
theorem c25 : Tryd.prog.cellsOf 25 = 5 := by kernel_rfl
theorem rbS (F : Nat) : RB Tryd.prog F 9 (List UInt8) z7 (fun l k => l.length + 1 ≤ k) := RB.string Tryd.underlying9 c9
theorem rbI (F : Nat) : RB Tryd.prog F 3 Int (fun x => [.int .i64 x]) (fun _ _ => True) :=
 RB.map (RB.of (F := F) (RA.int Tryd.underlying3 c3)) (fun x => x) (fun _ => c3.symm) (fun _ _ _ => ⟨trivial, rfl⟩)
theorem zhk : ∀ ns : List (List UInt8), nsz ns = (ns.map fun n => n.length + 1).sum
 | [] => rfl
 | n :: r => by rw [nsz, zhk r]; rfl
theorem zeh : ∀ es : List J, J.szL es = (es.map J.sz).sum
 | [] => rfl
 | e :: r => by rw [J.szL, zeh r]; rfl
theorem rbN : ∀ F : Nat, RB Tryd.prog F 22 (List (List UInt8)) (fun l => [.isl 1 (l.map z7) false]) (fun l k => nsz l ≤ k)
 | 0 => RB.zero (fun _ => c22.symm)
 | F + 1 => RB.map (RB.slice Tryd.underlying22 c22 (by rw [c9]; decide) (rbS F)) (fun x => x) (fun _ => c22.symm) (fun l k ⟨_, _, ks, h1, h2, h3⟩ => ⟨by
  rw [zhk]
  have := z7v (f := fun n : List UInt8 => n.length + 1) h1 h2
  omega, by rw [c9]⟩)
theorem zvh : ∀ F : Nat, RB Tryd.prog F 25 J (fun j => z6 j.val) (fun j k => j.sz ≤ k) ∧ RB Tryd.prog F 23 (List J) (fun l => [.isl 5 ((l.map J.raw).map z8) false]) (fun l k => J.szL l ≤ k)
 | 0 => ⟨RB.zero (fun _ => c25.symm), RB.zero (fun _ => c23.symm)⟩
 | F + 1 => by
  obtain ⟨ih1, ih2⟩ := zvh F
  refine ⟨RB.map (RB.structN Tryd.underlying25 c25 (RG.cons (P := Tryd.prog) (off := 0) (tot := 4) (m := 1) rfl c3 (rbI F) (RG.cons (P := Tryd.prog) (off := 1) (tot := 3) (m := 1) rfl c3 (rbI F) (RG.cons (P := Tryd.prog) (off := 2) (tot := 2) (m := 1) rfl c9 (rbS F) (RG.cons (P := Tryd.prog) (off := 3) (tot := 1) (m := 1) rfl c22 (rbN F) (RG.cons (P := Tryd.prog) (off := 4) (tot := 0) (m := 1) rfl c23 ih2 (RG.nil (P := Tryd.prog) 5)))))))
   (fun x => J.mk x.1 x.2.1 x.2.2.1 x.2.2.2.1 x.2.2.2.2.1) (fun _ => c25.symm) (fun x k h => ⟨?_, rfl⟩), ?_⟩
  ·obtain ⟨k0, ⟨k1, k2, _, ⟨k3, k4, _, ⟨k5, k6, h5, ⟨k7, k8, h7, ⟨k9, k10, h9, _, q5⟩, q4⟩, q3⟩, q2⟩, q1⟩, q0⟩ := h
   rw [J.sz]
   omega
  ·refine RB.map (RB.slice Tryd.underlying23 c23 (by rw [c25]; decide) ih1) (fun x => x) (fun _ => c23.symm) (fun l k ⟨_, _, ks, h1, h2, h3⟩ => ⟨?_, ?_⟩)
   ·rw [zeh]
    have := z7v (f := J.sz) h1 h2
    omega
   ·rw [c25, List.map_map]
    congr 3
    funext j
    exact z3c j
theorem zvk : RVB Tryd.prog 25 J (fun j => .agg (z6 j.val)) (fun j k => j.sz ≤ k) := RVB.struct Tryd.underlying25 fun F => (zvh F).1
theorem rv9 : RVB Tryd.prog 9 (List UInt8) (fun l => .str l) (fun l _ => l.length ≤ reachBytes) := @RVB.of _ 9 (List UInt8) (fun l => .str l) (fun l => l.length ≤ reachBytes) (@RV.string _ 9 Tryd.underlying9 c9)
theorem zvo : RVsB Tryd.prog [25, 25, 9] (J × J × List UInt8 × Unit) (fun x => [.agg (z6 x.1.val), .agg (z6 x.2.1.val), .str x.2.2.1]) (fun x k => ∃ k1 k2, x.1.sz ≤ k1 ∧ (∃ k3 k4, x.2.1.sz ≤ k3 ∧ (∃ k5 k6, x.2.2.1.length ≤ reachBytes ∧ True ∧ k5 + k6 ≤ k4) ∧ k3 + k4 ≤ k2) ∧ k1 + k2 ≤ k) :=
 @RVsB.cons _ 25 [25, 9] J (J × List UInt8 × Unit) (fun j => .agg (z6 j.val)) (fun x => [.agg (z6 x.1.val), .str x.2.1]) (fun j k => j.sz ≤ k) (fun x k2 => ∃ k3 k4, x.1.sz ≤ k3 ∧ (∃ k5 k6, x.2.1.length ≤ reachBytes ∧ True ∧ k5 + k6 ≤ k4) ∧ k3 + k4 ≤ k2) (@zvk)
  (@RVsB.cons _ 25 [9] J (List UInt8 × Unit) (fun j => .agg (z6 j.val)) (fun x => [.str x.1]) (fun j k => j.sz ≤ k) (fun x k4 => ∃ k5 k6, x.1.length ≤ reachBytes ∧ True ∧ k5 + k6 ≤ k4) (@zvk)
   (@RVsB.cons _ 9 [] (List UInt8) Unit (fun l => .str l) (fun _ => []) (fun l _ => l.length ≤ reachBytes) (fun _ _ => True) (@rv9) (@RVsB.nil _)))
mutual
theorem z80 {H : Type} : ∀ d : DataW H, sz d ≤ Rows.uptoBulk d
 | .lit l => by cases l <;> simp [sz, Rows.uptoBulk]
 | .nil => by simp [sz, Rows.uptoBulk]
 | .ptr d => by have := z80 d; simp only [sz, Rows.uptoBulk]; omega
 | .slice es sp => by have := Wp es; have := Wp sp; simp only [sz, Rows.uptoBulk]; omega
 | .agg ds => by have := Wp ds; simp only [sz, Rows.uptoBulk]; omega
 | .iface _ d => by have := z80 d; simp only [sz, Rows.uptoBulk]; omega
 | .map es => by simp [sz, Rows.uptoBulk]
 | .held _ => by simp [sz, Rows.uptoBulk]
theorem Wp {H : Type} : ∀ ds : List (DataW H), szL ds ≤ Rows.uptoBulkAll ds
 | [] => by simp [szL, Rows.uptoBulkAll]
 | d :: r => by have := z80 d; have := Wp r; simp only [szL, Rows.uptoBulkAll]; omega
end
theorem zb8 {H : Type} : ∀ a b : List (DataW H), Rows.uptoBulkAll a ≤ Rows.uptoBulkAll (a ++ b)
 | [], b => by simp [Rows.uptoBulkAll]
 | d :: r, b => by have := zb8 r b; simp only [List.cons_append, Rows.uptoBulkAll]; omega
theorem zm4 {H : Type} {ds gs : List (DataW H)} (h : Rows.uptoSmall H (ds ++ gs) = true) : szL ds ≤ 1048576 := by
 have h1 : Rows.uptoBulkAll (ds ++ gs) ≤ 1048576 := of_decide_eq_true h
 have := Wp ds
 have := zb8 ds gs
 omega
theorem gn0 : Tryd.prog.globalNamed "unicode/utf8.first" = some 0 := by kernel_rfl
theorem gn1 : Tryd.prog.globalNamed "unicode/utf8.acceptRanges" = some 1 := by kernel_rfl
theorem gy0 : (Tryd.prog.globals[0]?).map (·.type) = some 93 := by kernel_rfl
theorem gy1 : (Tryd.prog.globals[1]?).map (·.type) = some 96 := by kernel_rfl
theorem cc5 : Tryd.prog.cellsOf 5 = 1 := by kernel_rfl
theorem zvs : Tryd.prog.cellsOf 93 = 256 := by kernel_rfl
theorem zvj : Tryd.prog.cellsOf 95 = 2 := by kernel_rfl
theorem zpd {w : World} (h3 : Lib.VarReads Tryd.prog w "unicode/utf8.first" Lib.firstData) (h4 : Lib.VarReads Tryd.prog w "unicode/utf8.acceptRanges" Lib.acceptData) : Lib.Utf8Tabs 0 1 w := by
 refine ⟨fun c hc => ?_, fun i hi => ?_⟩
 ·obtain ⟨g, t, cs, fuel, p, hg, hty, hvar, hd⟩ := h3
  obtain rfl := Option.some.inj (gn0.symm.trans hg)
  obtain rfl := Option.some.inj (gy0.symm.trans hty)
  have hcs := Lib.cells_of_tab Tryd.underlying93 Tryd.underlying5 cc5 zvs hd
  rw [World.var?_cell hg hvar c, ← Array.getElem?_toList, hcs]
  simp [Lib.firstTab, hc]
 ·obtain ⟨g, t, cs, fuel, p, hg, hty, hvar, hd⟩ := h4
  obtain rfl := Option.some.inj (gn1.symm.trans hg)
  obtain rfl := Option.some.inj (gy1.symm.trans hty)
  obtain ⟨fuel', d, q, hdi, he⟩ := Lib.array_elem Tryd.underlying96 hd i hi
  simp only [List.getElem?_map, List.getElem?_range hi, Option.map_some, Option.some.injEq] at hdi
  subst hdi
  rw [zvj] at he
  have hcs := Lib.ints_of_struct Tryd.underlying95 (fun j f hj => by
   match j, hj with
   | 0, hj => simp at hj; subst hj; exact ⟨Tryd.underlying5, rfl, cc5⟩
   | 1, hj => simp at hj; subst hj; exact ⟨Tryd.underlying5, rfl, cc5⟩
   | j + 2, hj => simp at hj) (by rw [zvj]; rfl) he
  have e0 := congrArg (·[0]?) hcs
  have e1 := congrArg (·[1]?) hcs
  simp only [List.getElem?_take, List.getElem?_drop] at e0 e1
  constructor
  ·rw [World.var?_cell hg hvar (2 * i), ← Array.getElem?_toList]
   simpa [Nat.mul_comm] using e0
  ·rw [World.var?_cell hg hvar (2 * i + 1), ← Array.getElem?_toList]
   simpa [Nat.mul_comm] using e1
theorem zuu : (Rows.laid_unicode_utf8_first : DataW Unit) = Lib.firstData := by kernel_rfl
theorem zur : (Rows.laid_unicode_utf8_acceptRanges : DataW Unit) = Lib.acceptData := by kernel_rfl
theorem zoi {w : World} {l : List (String × DataW Unit)} (hl : (l.all fun x => x.2.handleName?.isNone) = true) (h1 : ("unicode/utf8.first", Rows.laid_unicode_utf8_first) ∈ l) (h2 : ("unicode/utf8.acceptRanges", Rows.laid_unicode_utf8_acceptRanges) ∈ l) (h : laidMetH Tryd.prog l w) : GlobOk (old w) w := by
 rw [MakeChecks.laidMetH_plain _ _ _ hl] at h
 have r1 := Lib.laidMet.reads h h1
 have r2 := Lib.laidMet.reads h h2
 rw [zuu] at r1
 rw [zur] at r2
 exact z6f zs3 rfl (zpd r1 r2)
end Go.Proofs.YtdgkalljlomjnaaDoor
