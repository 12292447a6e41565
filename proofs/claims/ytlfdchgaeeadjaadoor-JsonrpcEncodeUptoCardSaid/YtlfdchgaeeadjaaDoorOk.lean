/-
  How the arguments read, and what the bound gives; no condition.
-/
import Derived.Test.YtlfdchgaeeadjaaDoorLaw1
import Derived.Test.YtlfdchgaeeadjaaDoorFxTv
import Derived.Test.YtlfdchgaeeadjaaDoorRows
import Derived.Lib.LaidU8
import Derived.MakeChecks
namespace Go.Proofs.YtlfdchgaeeadjaaDoor
open Go.Fx Go.RowKit
set_option linter.unusedVariables false
theorem znd : laidOutB Tryd.prog = true := by kernel_rfl
theorem c9 : Tryd.prog.cellsOf 9 = 1 := by kernel_rfl
theorem c3 : Tryd.prog.cellsOf 3 = 1 := by kernel_rfl
theorem c22 : Tryd.prog.cellsOf 22 = 1 := by kernel_rfl
theorem c23 : Tryd.prog.cellsOf 23 = 1 := by kernel_rfl
theorem c25 : Tryd.prog.cellsOf 25 = 5 := by kernel_rfl
theorem c27 : Tryd.prog.cellsOf 27 = 9 := by kernel_rfl
theorem rbS (F : Nat) : RB Tryd.prog F 9 (List UInt8) z6 (fun l k => l.length + 1 ≤ k) := RB.string Tryd.underlying9 c9
theorem rbI (F : Nat) : RB Tryd.prog F 3 Int (fun x => [.int .i64 x]) (fun _ _ => True) :=
 RB.map (RB.of (F := F) (RA.int Tryd.underlying3 c3)) (fun x => x) (fun _ => c3.symm) (fun _ _ _ => ⟨trivial, rfl⟩)
theorem zd3 : ∀ ns : List (List UInt8), nsz ns = (ns.map fun n => n.length + 1).sum
 | [] => rfl
 | n :: r => by rw [nsz, zd3 r]; rfl
theorem zgu : ∀ es : List J, J.szL es = (es.map J.sz).sum
 | [] => rfl
 | e :: r => by rw [J.szL, zgu r]; rfl
theorem rbN : ∀ F : Nat, RB Tryd.prog F 22 (List (List UInt8)) (fun l => [.isl 1 (l.map z6) false]) (fun l k => nsz l ≤ k)
 | 0 => RB.zero (fun _ => c22.symm)
 | F + 1 => RB.map (RB.slice Tryd.underlying22 c22 (by rw [c9]; decide) (rbS F)) (fun x => x) (fun _ => c22.symm) (fun l k ⟨_, _, ks, h1, h2, h3⟩ => ⟨by
  rw [zd3]
  have := z6c (f := fun n : List UInt8 => n.length + 1) h1 h2
  omega, by rw [c9]⟩)
theorem ztw : ∀ F : Nat, RB Tryd.prog F 25 J (fun j => y8 j.val) (fun j k => j.sz ≤ k) ∧ RB Tryd.prog F 23 (List J) (fun l => [.isl 5 ((l.map J.raw).map z7) false]) (fun l k => J.szL l ≤ k)
 | 0 => ⟨RB.zero (fun _ => c25.symm), RB.zero (fun _ => c23.symm)⟩
 | F + 1 => by
  obtain ⟨ih1, ih2⟩ := ztw F
  refine ⟨RB.map (RB.structN Tryd.underlying25 c25 (RG.cons (P := Tryd.prog) (off := 0) (tot := 4) (m := 1) rfl c3 (rbI F) (RG.cons (P := Tryd.prog) (off := 1) (tot := 3) (m := 1) rfl c3 (rbI F) (RG.cons (P := Tryd.prog) (off := 2) (tot := 2) (m := 1) rfl c9 (rbS F) (RG.cons (P := Tryd.prog) (off := 3) (tot := 1) (m := 1) rfl c22 (rbN F) (RG.cons (P := Tryd.prog) (off := 4) (tot := 0) (m := 1) rfl c23 ih2 (RG.nil (P := Tryd.prog) 5)))))))
   (fun x => J.mk x.1 x.2.1 x.2.2.1 x.2.2.2.1 x.2.2.2.2.1) (fun _ => c25.symm) (fun x k h => ⟨?_, rfl⟩), ?_⟩
  ·obtain ⟨k0, ⟨k1, k2, _, ⟨k3, k4, _, ⟨k5, k6, h5, ⟨k7, k8, h7, ⟨k9, k10, h9, _, q5⟩, q4⟩, q3⟩, q2⟩, q1⟩, q0⟩ := h
   rw [J.sz]
   omega
  ·refine RB.map (RB.slice Tryd.underlying23 c23 (by rw [c25]; decide) ih1) (fun x => x) (fun _ => c23.symm) (fun l k ⟨_, _, ks, h1, h2, h3⟩ => ⟨?_, ?_⟩)
   ·rw [zgu]
    have := z6c (f := J.sz) h1 h2
    omega
   ·rw [c25, List.map_map]
    congr 3
    funext j
    exact Xo j
abbrev Msg := Int × Int × Int × List UInt8 × J
def Msg.val (x : Msg) : G_QMessage := ⟨x.1, x.2.1, x.2.2.1, x.2.2.2.1, x.2.2.2.2.val⟩
theorem zu1 (F : Nat) : RB Tryd.prog F 27 Msg (fun x => [.int .i64 x.1, .int .i64 x.2.1, .int .i64 x.2.2.1, .str x.2.2.2.1] ++ y8 x.2.2.2.2.val) (fun x k => x.2.2.2.2.sz + x.2.2.2.1.length ≤ k) := by
 cases F with
 | zero => exact RB.zero (fun _ => c27.symm)
 | succ F =>
  refine RB.map (RB.structN Tryd.underlying27 c27 (RG.cons (P := Tryd.prog) (off := 0) (tot := 8) (m := 1) rfl c3 (rbI F) (RG.cons (P := Tryd.prog) (off := 1) (tot := 7) (m := 1) rfl c3 (rbI F) (RG.cons (P := Tryd.prog) (off := 2) (tot := 6) (m := 1) rfl c3 (rbI F) (RG.cons (P := Tryd.prog) (off := 3) (tot := 5) (m := 1) rfl c9 (rbS F) (RG.cons (P := Tryd.prog) (off := 4) (tot := 0) (m := 5) rfl c25 (ztw F).1 (RG.nil (P := Tryd.prog) 9)))))))
   (fun x => (x.1, x.2.1, x.2.2.1, x.2.2.2.1, x.2.2.2.2.1)) (fun _ => c27.symm) (fun x k h => ⟨?_, ?_⟩)
  ·obtain ⟨k0, ⟨k1, k2, _, ⟨k3, k4, _, ⟨k5, k6, _, ⟨k7, k8, h7, ⟨k9, k10, h9, _, q5⟩, q4⟩, q3⟩, q2⟩, q1⟩, q0⟩ := h
   simp only
   omega
  ·rfl
theorem zu9 : RVB Tryd.prog 27 Msg (fun x => .agg ([.int .i64 x.1, .int .i64 x.2.1, .int .i64 x.2.2.1, .str x.2.2.2.1] ++ y8 x.2.2.2.2.val)) (fun x k => x.2.2.2.2.sz + x.2.2.2.1.length ≤ k) := RVB.struct Tryd.underlying27 zu1
theorem zt5 : RVsB Tryd.prog [27] (Msg × Unit) (fun x => [.agg ([.int .i64 x.1.1, .int .i64 x.1.2.1, .int .i64 x.1.2.2.1, .str x.1.2.2.2.1] ++ y8 x.1.2.2.2.2.val)]) (fun x k => ∃ k1 k2, x.1.2.2.2.2.sz + x.1.2.2.2.1.length ≤ k1 ∧ True ∧ k1 + k2 ≤ k) :=
 @RVsB.cons _ 27 [] Msg Unit (fun x => .agg ([.int .i64 x.1, .int .i64 x.2.1, .int .i64 x.2.2.1, .str x.2.2.2.1] ++ y8 x.2.2.2.2.val)) (fun _ => []) (fun x k => x.2.2.2.2.sz + x.2.2.2.1.length ≤ k) (fun _ _ => True) (@zu9) (@RVsB.nil _)
mutual
theorem z64 {H : Type} : ∀ d : DataW H, sz d ≤ Rows.uptoBulk d
 | .lit l => by cases l <;> simp [sz, Rows.uptoBulk]
 | .nil => by simp [sz, Rows.uptoBulk]
 | .ptr d => by have := z64 d; simp only [sz, Rows.uptoBulk]; omega
 | .slice es sp => by have := Jl es; have := Jl sp; simp only [sz, Rows.uptoBulk]; omega
 | .agg ds => by have := Jl ds; simp only [sz, Rows.uptoBulk]; omega
 | .iface _ d => by have := z64 d; simp only [sz, Rows.uptoBulk]; omega
 | .map es => by simp [sz, Rows.uptoBulk]
 | .held _ => by simp [sz, Rows.uptoBulk]
theorem Jl {H : Type} : ∀ ds : List (DataW H), szL ds ≤ Rows.uptoBulkAll ds
 | [] => by simp [szL, Rows.uptoBulkAll]
 | d :: r => by have := z64 d; have := Jl r; simp only [szL, Rows.uptoBulkAll]; omega
end
theorem z8c {H : Type} : ∀ a b : List (DataW H), Rows.uptoBulkAll a ≤ Rows.uptoBulkAll (a ++ b)
 | [], b => by simp [Rows.uptoBulkAll]
 | d :: r, b => by have := z8c r b; simp only [List.cons_append, Rows.uptoBulkAll]; omega
theorem zk2 {H : Type} {ds gs : List (DataW H)} (h : Rows.uptoSmall H (ds ++ gs) = true) : szL ds ≤ 1048576 := by
 have h1 : Rows.uptoBulkAll (ds ++ gs) ≤ 1048576 := of_decide_eq_true h
 have := Jl ds
 have := z8c ds gs
 omega
theorem gn0 : Tryd.prog.globalNamed "unicode/utf8.first" = some 0 := by kernel_rfl
theorem gn1 : Tryd.prog.globalNamed "unicode/utf8.acceptRanges" = some 1 := by kernel_rfl
theorem gy0 : (Tryd.prog.globals[0]?).map (·.type) = some 116 := by kernel_rfl
theorem gy1 : (Tryd.prog.globals[1]?).map (·.type) = some 119 := by kernel_rfl
theorem cc5 : Tryd.prog.cellsOf 5 = 1 := by kernel_rfl
theorem zsl : Tryd.prog.cellsOf 116 = 256 := by kernel_rfl
theorem zrk : Tryd.prog.cellsOf 118 = 2 := by kernel_rfl
theorem zm6 {w : World} (h3 : Lib.VarReads Tryd.prog w "unicode/utf8.first" Lib.firstData) (h4 : Lib.VarReads Tryd.prog w "unicode/utf8.acceptRanges" Lib.acceptData) : Lib.Utf8Tabs 0 1 w := by
 refine ⟨fun c hc => ?_, fun i hi => ?_⟩
 ·obtain ⟨g, t, cs, fuel, p, hg, hty, hvar, hd⟩ := h3
  obtain rfl := Option.some.inj (gn0.symm.trans hg)
  obtain rfl := Option.some.inj (gy0.symm.trans hty)
  have hcs := Lib.cells_of_tab Tryd.underlying116 Tryd.underlying5 cc5 zsl hd
  rw [World.var?_cell hg hvar c, ← Array.getElem?_toList, hcs]
  simp [Lib.firstTab, hc]
 ·obtain ⟨g, t, cs, fuel, p, hg, hty, hvar, hd⟩ := h4
  obtain rfl := Option.some.inj (gn1.symm.trans hg)
  obtain rfl := Option.some.inj (gy1.symm.trans hty)
  obtain ⟨fuel', d, q, hdi, he⟩ := Lib.array_elem Tryd.underlying119 hd i hi
  simp only [List.getElem?_map, List.getElem?_range hi, Option.map_some, Option.some.injEq] at hdi
  subst hdi
  rw [zrk] at he
  have hcs := Lib.ints_of_struct Tryd.underlying118 (fun j f hj => by
   match j, hj with
   | 0, hj => simp at hj; subst hj; exact ⟨Tryd.underlying5, rfl, cc5⟩
   | 1, hj => simp at hj; subst hj; exact ⟨Tryd.underlying5, rfl, cc5⟩
   | j + 2, hj => simp at hj) (by rw [zrk]; rfl) he
  have e0 := congrArg (·[0]?) hcs
  have e1 := congrArg (·[1]?) hcs
  simp only [List.getElem?_take, List.getElem?_drop] at e0 e1
  constructor
  ·rw [World.var?_cell hg hvar (2 * i), ← Array.getElem?_toList]
   simpa [Nat.mul_comm] using e0
  ·rw [World.var?_cell hg hvar (2 * i + 1), ← Array.getElem?_toList]
   simpa [Nat.mul_comm] using e1
theorem zt4 : (Rows.laid_unicode_utf8_first : DataW Unit) = Lib.firstData := by kernel_rfl
theorem ztq : (Rows.laid_unicode_utf8_acceptRanges : DataW Unit) = Lib.acceptData := by kernel_rfl
theorem zmr {w : World} {l : List (String × DataW Unit)} (hl : (l.all fun x => x.2.handleName?.isNone) = true) (h1 : ("unicode/utf8.first", Rows.laid_unicode_utf8_first) ∈ l) (h2 : ("unicode/utf8.acceptRanges", Rows.laid_unicode_utf8_acceptRanges) ∈ l) (h : laidMetH Tryd.prog l w) : GlobOk (old w) w := by
 rw [MakeChecks.laidMetH_plain _ _ _ hl] at h
 have r1 := Lib.laidMet.reads h h1
 have r2 := Lib.laidMet.reads h h2
 rw [zt4] at r1
 rw [ztq] at r2
 exact z47 zpz (zm6 r1 r2)
end Go.Proofs.YtlfdchgaeeadjaaDoor
