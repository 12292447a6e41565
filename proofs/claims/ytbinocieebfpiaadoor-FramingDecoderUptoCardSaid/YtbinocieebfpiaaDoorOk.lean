/-
  How the arguments read, and what the bound gives; no condition.
-/
import Derived.Test.YtbinocieebfpiaaDoorLaw1
import Derived.Test.YtbinocieebfpiaaDoorFxTv
import Derived.Test.YtbinocieebfpiaaDoorRows
import Derived.Lib.LaidU8
import Derived.MakeChecks
namespace Go.Proofs.YtbinocieebfpiaaDoor
open Go.Fx Go.RowKit
set_option linter.unusedVariables false
theorem zd7 : laidOutB Tryd.prog = true := by kernel_rfl
theorem c9 : Tryd.prog.cellsOf 9 = 1 := by kernel_rfl
theorem c29 : Tryd.prog.cellsOf 29 = 1 := by kernel_rfl
def nsz : List (List UInt8) → Nat
 | [] => 0
 | n :: r => n.length + 1 + nsz r
theorem z4p : ∀ ns : List (List UInt8), nsz ns = (ns.map fun n => n.length + 1).sum
 | [] => rfl
 | n :: r => by rw [nsz, z4p r]; rfl
theorem z6z : ∀ ns : List (List UInt8), tot ns ≤ nsz ns ∧ ns.length ≤ nsz ns
 | [] => by simp [tot, nsz]
 | n :: r => by
  have := z6z r
  rw [tot, nsz, List.length_cons]; omega
theorem rbS (F : Nat) : RB Tryd.prog F 9 (List UInt8) z7 (fun l k => l.length + 1 ≤ k) := RB.string Tryd.underlying9 c9
theorem rbN : ∀ F : Nat, RB Tryd.prog F 29 (List (List UInt8)) (fun l => [.isl 1 (l.map z7) false]) (fun l k => nsz l ≤ k)
 | 0 => RB.zero (fun _ => c29.symm)
 | F + 1 => RB.map (RB.slice Tryd.underlying29 c29 (by rw [c9]; decide) (rbS F)) (fun x => x) (fun _ => c29.symm) (fun l k ⟨_, _, ks, h1, h2, h3⟩ => ⟨by
  rw [z4p]
  have := z3x (f := fun n : List UInt8 => n.length + 1) h1 h2
  omega, by rw [c9]⟩)
theorem zhn : RVB Tryd.prog 29 (List (List UInt8)) (fun l => .isl 1 (l.map z7) false) (fun l k => nsz l ≤ k) := RVB.slice Tryd.underlying29 rbN
theorem zhe : RVsB Tryd.prog [29] (List (List UInt8) × Unit) (fun x => [.isl 1 (x.1.map z7) false]) (fun x k => ∃ k1 k2, nsz x.1 ≤ k1 ∧ True ∧ k1 + k2 ≤ k) :=
 @RVsB.cons _ 29 [] (List (List UInt8)) Unit (fun l => .isl 1 (l.map z7) false) (fun _ => []) (fun l k => nsz l ≤ k) (fun _ _ => True) (@zhn) (@RVsB.nil _)
mutual
theorem z00 {H : Type} : ∀ d : DataW H, sz d ≤ Rows.uptoBulk d
 | .lit l => by cases l <;> simp [sz, Rows.uptoBulk]
 | .nil => by simp [sz, Rows.uptoBulk]
 | .ptr d => by have := z00 d; simp only [sz, Rows.uptoBulk]; omega
 | .slice es sp => by have := Zj es; have := Zj sp; simp only [sz, Rows.uptoBulk]; omega
 | .agg ds => by have := Zj ds; simp only [sz, Rows.uptoBulk]; omega
 | .iface _ d => by have := z00 d; simp only [sz, Rows.uptoBulk]; omega
 | .map es => by simp [sz, Rows.uptoBulk]
 | .held _ => by simp [sz, Rows.uptoBulk]
theorem Zj {H : Type} : ∀ ds : List (DataW H), szL ds ≤ Rows.uptoBulkAll ds
 | [] => by simp [szL, Rows.uptoBulkAll]
 | d :: r => by have := z00 d; have := Zj r; simp only [szL, Rows.uptoBulkAll]; omega
end
theorem z23 {H : Type} : ∀ a b : List (DataW H), Rows.uptoBulkAll a ≤ Rows.uptoBulkAll (a ++ b)
 | [], b => by simp [Rows.uptoBulkAll]
 | d :: r, b => by have := z23 r b; simp only [List.cons_append, Rows.uptoBulkAll]; omega
theorem z8u {H : Type} {ds gs : List (DataW H)} (h : Rows.uptoSmall H (ds ++ gs) = true) : szL ds ≤ 1048576 := by
 have h1 : Rows.uptoBulkAll (ds ++ gs) ≤ 1048576 := of_decide_eq_true h
 have := Zj ds
 have := z23 ds gs
 omega
theorem gn4 : Tryd.prog.globalNamed "internal/strconv.uint64pow10" = some 4 := by kernel_rfl
theorem gy4 : (Tryd.prog.globals[4]?).map (·.type) = some 95 := by kernel_rfl
theorem zgn : (Rows.laid_internal_strconv_uint64pow10 : DataW Unit) = Lib.tabData .u64 Lib.pow10Tab := by kernel_rfl
theorem zhi : ∃ e, Tryd.prog.underlying 95 = some (.array 20 e) ∧ Tryd.prog.underlying e = some (.int .u64) ∧ Tryd.prog.cellsOf e = 1 ∧ Tryd.prog.cellsOf 95 = 20 := ⟨_, Tryd.underlying95, by kernel_rfl, by kernel_rfl, by kernel_rfl⟩
theorem zdv {w : World} (h : Lib.VarReads Tryd.prog w "internal/strconv.uint64pow10" (Lib.tabData .u64 Lib.pow10Tab)) : Lib.TabIs Tryd.prog w "internal/strconv.uint64pow10" .u64 Lib.pow10Tab := by
 obtain ⟨g, t, cs, fuel, p, hg, hty, hvar, hd⟩ := h
 obtain rfl := Option.some.inj (gn4.symm.trans hg)
 obtain rfl := Option.some.inj (gy4.symm.trans hty)
 obtain ⟨e, h1, h2, h3, h4⟩ := zhi
 have hcs := Lib.cells_of_tab h1 h2 h3 h4 hd
 unfold Lib.TabIs
 rw [hvar, ← hcs]
theorem K5 {P : Program} {w : World} {g : Nat} {t : TypeId} {zero : Array Value} {k : IntKind} (h : w.ShapedOpen P) (hg : g < P.globals.size)
 (h0 : ((begin P (fun _ _ => 0) default).world.heap[g]?).bind Obj.row? = some (zero, t)) (hz : zero.size = 1)
 (hb : P.buildable t = true) (hc : P.cellTypes P.depth t = some [t]) (hu : P.underlying t = some (.int k)) : ∃ p, w.cell? ⟨g, 0, none⟩ = some (.int k p) := by
 obtain ⟨cs, hh, hs, hr⟩ := h.1 g zero t hg h0
 obtain ⟨ts, hts, _, hall⟩ := hr hb
 rw [hc] at hts
 cases hts
 have h1 : 0 < cs.size := by omega
 obtain ⟨u, hu', hok⟩ := hall 0 cs[0] (by simp [h1])
 have : u = t := by simpa using hu'.symm
 subst this
 have hcell : w.cell? ⟨g, 0, none⟩ = some cs[0] := by simp [World.cell?, hh, h1]
 rw [hcell]
 unfold Cell.ok at hok
 rw [hu] at hok
 cases hv : cs[0] <;> rw [hv] at hok <;> simp at hok
 obtain ⟨rfl, _⟩ := hok
 exact ⟨_, rfl⟩
theorem zhm : 0 < Tryd.prog.globals.size := by rw [show Tryd.prog.globals.size = 11 by kernel_rfl]; decide
theorem zen {w : World} (h : w.ShapedOpen Tryd.prog) : ∃ m, w.cell? ⟨0, 0, none⟩ = some (.int .i64 m) :=
 K5 (t := 3) (zero := #[.int .i64 0]) h zhm (by kernel_rfl) rfl (by kernel_rfl) (by kernel_rfl) Tryd.underlying3
theorem zd6 {w : World} {l : List (String × DataW Unit)} (hl : (l.all fun x => x.2.handleName?.isNone) = true) (h1 : ("internal/strconv.uint64pow10", Rows.laid_internal_strconv_uint64pow10) ∈ l) (h : laidMetH Tryd.prog l w) (hs : w.ShapedOpen Tryd.prog) : GlobOk (old w) w := by
 rw [MakeChecks.laidMetH_plain _ _ _ hl] at h
 have r1 := Lib.laidMet.reads h h1
 rw [zgn] at r1
 have c3 := za6 gn4 (zdv r1)
 refine ⟨fun x hx => ?_, fun g hg => ?_⟩
 ·rw [zh3] at hx
  rcases List.mem_cons.1 hx with rfl | hx
  ·exact ⟨fun _ => c3.1, c3.2⟩
  ·cases hx
 ·rw [zha] at hg
  rcases List.mem_cons.1 hg with rfl | hg
  ·obtain ⟨m, hm⟩ := zen hs
   exact ⟨m, ⟨_, hm⟩, hm⟩
  ·cases hg
end Go.Proofs.YtbinocieebfpiaaDoor
