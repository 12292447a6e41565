/-
  How the arguments read, and what the bound gives; no condition.
-/
import Derived.Test.YtdgkalljlomjnaaDoorLaw1
import Derived.Test.YtdgkalljlomjnaaDoorFxTv
import Derived.Test.YtdgkalljlomjnaaDoorRows
import Derived.Lib.LaidU8
import Derived.MakeChecks
namespace Go.Proofs.YtdgkalljlomjnaaDoor
open Go.Fx Go.RowKit
set_option linter.unusedVariables false
theorem zny : laidOutB Tryd.prog = true := by kernel_rfl
theorem c9 : Tryd.prog.cellsOf 9 = 1 := by kernel_rfl
theorem c3 : Tryd.prog.cellsOf 3 = 1 := by kernel_rfl
theorem c22 : Tryd.prog.cellsOf 22 = 1 := by kernel_rfl
theorem c23 : Tryd.prog.cellsOf 23 = 1 := by kernel_rfl
theorem c25 : Tryd.prog.cellsOf 25 = 5 := by kernel_rfl
theorem rbS (F : Nat) : RB Tryd.prog F 9 (List UInt8) zp (fun l k => l.length + 1 ≤ k) := RB.string Tryd.underlying9 c9
theorem rbI (F : Nat) : RB Tryd.prog F 3 Int (fun x => [.int .i64 x]) (fun _ _ => True) :=
 RB.map (RB.of (F := F) (RA.int Tryd.underlying3 c3)) (fun x => x) (fun _ => c3.symm) (fun _ _ _ => ⟨trivial, rfl⟩)
theorem zff : ∀ ns : List (List UInt8), nsz ns = (ns.map fun n => n.length + 1).sum
 | [] => rfl
 | n :: r => by rw [nsz, zff r]; rfl
theorem zf2 : ∀ es : List J, J.szL es = (es.map J.sz).sum
 | [] => rfl
 | e :: r => by rw [J.szL, zf2 r]; rfl
theorem rbN : ∀ F : Nat, RB Tryd.prog F 22 (List (List UInt8)) (fun l => [.isl 1 (l.map zp) false]) (fun l k => nsz l ≤ k)
 | 0 => RB.zero (fun _ => c22.symm)
 | F + 1 => RB.map (RB.slice Tryd.underlying22 c22 (by rw [c9]; decide) (rbS F)) (fun x => x) (fun _ => c22.symm) (fun l k ⟨_, _, ks, h1, h2, h3⟩ => ⟨by
  rw [zff]
  have := z84 (f := fun n : List UInt8 => n.length + 1) h1 h2
  omega, by rw [c9]⟩)
theorem zt3 : ∀ F : Nat, RB Tryd.prog F 25 J (fun j => z6 j.val) (fun j k => j.sz ≤ k) ∧ RB Tryd.prog F 23 (List J) (fun l => [.isl 5 ((l.map J.raw).map zz) false]) (fun l k => J.szL l ≤ k)
 | 0 => ⟨RB.zero (fun _ => c25.symm), RB.zero (fun _ => c23.symm)⟩
 | F + 1 => by
  obtain ⟨ih1, ih2⟩ := zt3 F
  refine ⟨RB.map (RB.structN Tryd.underlying25 c25 (RG.cons (P := Tryd.prog) (off := 0) (tot := 4) (m := 1) rfl c3 (rbI F) (RG.cons (P := Tryd.prog) (off := 1) (tot := 3) (m := 1) rfl c3 (rbI F) (RG.cons (P := Tryd.prog) (off := 2) (tot := 2) (m := 1) rfl c9 (rbS F) (RG.cons (P := Tryd.prog) (off := 3) (tot := 1) (m := 1) rfl c22 (rbN F) (RG.cons (P := Tryd.prog) (off := 4) (tot := 0) (m := 1) rfl c23 ih2 (RG.nil (P := Tryd.prog) 5)))))))
   (fun x => J.mk x.1 x.2.1 x.2.2.1 x.2.2.2.1 x.2.2.2.2.1) (fun _ => c25.symm) (fun x k h => ⟨?_, rfl⟩), ?_⟩
  ·obtain ⟨k0, ⟨k1, k2, _, ⟨k3, k4, _, ⟨k5, k6, h5, ⟨k7, k8, h7, ⟨k9, k10, h9, _, q5⟩, q4⟩, q3⟩, q2⟩, q1⟩, q0⟩ := h
   rw [J.sz]
   omega
  ·refine RB.map (RB.slice Tryd.underlying23 c23 (by rw [c25]; decide) ih1) (fun x => x) (fun _ => c23.symm) (fun l k ⟨_, _, ks, h1, h2, h3⟩ => ⟨?_, ?_⟩)
   ·rw [zf2]
    have := z84 (f := J.sz) h1 h2
    omega
   ·rw [c25, List.map_map]
    congr 3
    funext j
    exact zdb j
theorem zto : RVB Tryd.prog 25 J (fun j => .agg (z6 j.val)) (fun j k => j.sz ≤ k) := RVB.struct Tryd.underlying25 fun F => (zt3 F).1
theorem ztk : RVsB Tryd.prog [25] (J × Unit) (fun x => [.agg (z6 x.1.val)]) (fun x k => ∃ k1 k2, x.1.sz ≤ k1 ∧ True ∧ k1 + k2 ≤ k) :=
 @RVsB.cons _ 25 [] J Unit (fun j => .agg (z6 j.val)) (fun _ => []) (fun j k => j.sz ≤ k) (fun _ _ => True) (@zto) (@RVsB.nil _)
mutual
theorem z7g {H : Type} : ∀ d : DataW H, sz d ≤ Rows.uptoBulk d
 | .lit l => by cases l <;> simp [sz, Rows.uptoBulk]
 | .nil => by simp [sz, Rows.uptoBulk]
 | .ptr d => by have := z7g d; simp only [sz, Rows.uptoBulk]; omega
 | .slice es sp => by have := Ju es; have := Ju sp; simp only [sz, Rows.uptoBulk]; omega
 | .agg ds => by have := Ju ds; simp only [sz, Rows.uptoBulk]; omega
 | .iface _ d => by have := z7g d; simp only [sz, Rows.uptoBulk]; omega
 | .map es => by simp [sz, Rows.uptoBulk]
 | .held _ => by simp [sz, Rows.uptoBulk]
theorem Ju {H : Type} : ∀ ds : List (DataW H), szL ds ≤ Rows.uptoBulkAll ds
 | [] => by simp [szL, Rows.uptoBulkAll]
 | d :: r => by have := z7g d; have := Ju r; simp only [szL, Rows.uptoBulkAll]; omega
end
theorem zas {H : Type} : ∀ a b : List (DataW H), Rows.uptoBulkAll a ≤ Rows.uptoBulkAll (a ++ b)
 | [], b => by simp [Rows.uptoBulkAll]
 | d :: r, b => by have := zas r b; simp only [List.cons_append, Rows.uptoBulkAll]; omega
theorem zkh {H : Type} {ds gs : List (DataW H)} (h : Rows.uptoSmall H (ds ++ gs) = true) : szL ds ≤ 1048576 := by
 have h1 : Rows.uptoBulkAll (ds ++ gs) ≤ 1048576 := of_decide_eq_true h
 have := Ju ds
 have := zas ds gs
 omega
theorem gn0 : Tryd.prog.globalNamed "unicode/utf8.first" = some 0 := by kernel_rfl
theorem gn1 : Tryd.prog.globalNamed "unicode/utf8.acceptRanges" = some 1 := by kernel_rfl
theorem gy0 : (Tryd.prog.globals[0]?).map (·.type) = some 93 := by kernel_rfl
theorem gy1 : (Tryd.prog.globals[1]?).map (·.type) = some 96 := by kernel_rfl
theorem cc5 : Tryd.prog.cellsOf 5 = 1 := by kernel_rfl
theorem ztj : Tryd.prog.cellsOf 93 = 256 := by kernel_rfl
theorem zt5 : Tryd.prog.cellsOf 95 = 2 := by kernel_rfl
theorem zmf {w : World} (h3 : Lib.VarReads Tryd.prog w "unicode/utf8.first" Lib.firstData) (h4 : Lib.VarReads Tryd.prog w "unicode/utf8.acceptRanges" Lib.acceptData) : Lib.Utf8Tabs 0 1 w := by
 refine ⟨fun c hc => ?_, fun i hi => ?_⟩
 ·obtain ⟨g, t, cs, fuel, p, hg, hty, hvar, hd⟩ := h3
  obtain rfl := Option.some.inj (gn0.symm.trans hg)
  obtain rfl := Option.some.inj (gy0.symm.trans hty)
  have hcs := Lib.cells_of_tab Tryd.underlying93 Tryd.underlying5 cc5 ztj hd
  rw [World.var?_cell hg hvar c, ← Array.getElem?_toList, hcs]
  simp [Lib.firstTab, hc]
 ·obtain ⟨g, t, cs, fuel, p, hg, hty, hvar, hd⟩ := h4
  obtain rfl := Option.some.inj (gn1.symm.trans hg)
  obtain rfl := Option.some.inj (gy1.symm.trans hty)
  obtain ⟨fuel', d, q, hdi, he⟩ := Lib.array_elem Tryd.underlying96 hd i hi
  simp only [List.getElem?_map, List.getElem?_range hi, Option.map_some, Option.some.injEq] at hdi
  subst hdi
  rw [zt5] at he
  have hcs := Lib.ints_of_struct Tryd.underlying95 (fun j f hj => by
   match j, hj with
   | 0, hj => simp at hj; subst hj; exact ⟨Tryd.underlying5, rfl, cc5⟩
   | 1, hj => simp at hj; subst hj; exact ⟨Tryd.underlying5, rfl, cc5⟩
   | j + 2, hj => simp at hj) (by rw [zt5]; rfl) he
  have e0 := congrArg (·[0]?) hcs
  have e1 := congrArg (·[1]?) hcs
  simp only [List.getElem?_take, List.getElem?_drop] at e0 e1
  constructor
  ·rw [World.var?_cell hg hvar (2 * i), ← Array.getElem?_toList]
   simpa [Nat.mul_comm] using e0
  ·rw [World.var?_cell hg hvar (2 * i + 1), ← Array.getElem?_toList]
   simpa [Nat.mul_comm] using e1
theorem zs6 : (Rows.laid_unicode_utf8_first : DataW Unit) = Lib.firstData := by kernel_rfl
theorem zs1 : (Rows.laid_unicode_utf8_acceptRanges : DataW Unit) = Lib.acceptData := by kernel_rfl
theorem gn3 : Tryd.prog.globalNamed "internal/strconv.uint64pow10" = some 3 := by kernel_rfl
theorem gy3 : (Tryd.prog.globals[3]?).map (·.type) = some 117 := by kernel_rfl
theorem zsx : (Rows.laid_internal_strconv_uint64pow10 : DataW Unit) = Lib.tabData .u64 Lib.pow10Tab := by kernel_rfl
theorem zsy : ∃ e, Tryd.prog.underlying 117 = some (.array 20 e) ∧ Tryd.prog.underlying e = some (.int .u64) ∧ Tryd.prog.cellsOf e = 1 ∧ Tryd.prog.cellsOf 117 = 20 := ⟨_, Tryd.underlying117, by kernel_rfl, by kernel_rfl, by kernel_rfl⟩
theorem zqz {w : World} (h : Lib.VarReads Tryd.prog w "internal/strconv.uint64pow10" (Lib.tabData .u64 Lib.pow10Tab)) : Lib.TabIs Tryd.prog w "internal/strconv.uint64pow10" .u64 Lib.pow10Tab := by
 obtain ⟨g, t, cs, fuel, p, hg, hty, hvar, hd⟩ := h
 obtain rfl := Option.some.inj (gn3.symm.trans hg)
 obtain rfl := Option.some.inj (gy3.symm.trans hty)
 obtain ⟨e, h1, h2, h3, h4⟩ := zsy
 have hcs := Lib.cells_of_tab h1 h2 h3 h4 hd
 unfold Lib.TabIs
 rw [hvar, ← hcs]
theorem zn2 {w : World} {l : List (String × DataW Unit)} (hl : (l.all fun x => x.2.handleName?.isNone) = true) (h1 : ("unicode/utf8.first", Rows.laid_unicode_utf8_first) ∈ l) (h2 : ("unicode/utf8.acceptRanges", Rows.laid_unicode_utf8_acceptRanges) ∈ l)
 (h3 : ("internal/strconv.uint64pow10", Rows.laid_internal_strconv_uint64pow10) ∈ l) (h : laidMetH Tryd.prog l w) : GlobOk (old w) w := by
 rw [MakeChecks.laidMetH_plain _ _ _ hl] at h
 have r1 := Lib.laidMet.reads h h1
 have r2 := Lib.laidMet.reads h h2
 have r3 := Lib.laidMet.reads h h3
 rw [zs6] at r1
 rw [zs1] at r2
 rw [zsx] at r3
 have c12 := z2j (zmf r1 r2)
 have c3 := zk7 gn3 (zqz r3)
 intro x hx
 rw [zp9] at hx
 rcases List.mem_cons.1 hx with rfl | hx
 ·exact ⟨fun hm => absurd hm (by rw [zs5]; decide), fun i v hv => c12 _ (.head _) i v hv⟩
 rcases List.mem_cons.1 hx with rfl | hx
 ·exact ⟨fun hm => absurd hm (by rw [zs5]; decide), fun i v hv => c12 _ (.tail _ (.head _)) i v hv⟩
 rcases List.mem_cons.1 hx with rfl | hx
 ·exact ⟨fun _ => c3.1, c3.2⟩
 ·cases hx
end Go.Proofs.YtdgkalljlomjnaaDoor
