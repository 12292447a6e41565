/-
  How the arguments read, and what the bound gives; no condition.
-/
import Derived.Test.YtbinocieebfpiaaDoorLaw1
import Derived.Test.YtbinocieebfpiaaDoorFxTv
import Derived.Test.YtbinocieebfpiaaDoorRows
import Derived.Lib.LaidU8
import Derived.MakeChecks
namespace Go.Proofs.YtbinocieebfpiaaDoor
open Go.Fx Go.RowKit
set_option linter.unusedVariables false
theorem zc2 : laidOutB Tryd.prog = true := by kernel_rfl
theorem c9 : Tryd.prog.cellsOf 9 = 1 := by kernel_rfl
theorem rv9 : RVB Tryd.prog 9 (List UInt8) (fun l => .str l) (fun l k => l.length + 1 ≤ k) := RVB.string Tryd.underlying9 c9
theorem zgu : RVsB Tryd.prog [9] (List UInt8 × Unit) (fun x => [.str x.1]) (fun x k => ∃ k1 k2, x.1.length + 1 ≤ k1 ∧ True ∧ k1 + k2 ≤ k) :=
 @RVsB.cons _ 9 [] (List UInt8) Unit (fun l => .str l) (fun _ => []) (fun l k => l.length + 1 ≤ k) (fun _ _ => True) (@rv9) (@RVsB.nil _)
mutual
theorem U1 {H : Type} : ∀ d : DataW H, sz d ≤ Rows.uptoBulk d
 | .lit l => by cases l <;> simp [sz, Rows.uptoBulk]
 | .nil => by simp [sz, Rows.uptoBulk]
 | .ptr d => by have := U1 d; simp only [sz, Rows.uptoBulk]; omega
 | .slice es sp => by have := Zi es; have := Zi sp; simp only [sz, Rows.uptoBulk]; omega
 | .agg ds => by have := Zi ds; simp only [sz, Rows.uptoBulk]; omega
 | .iface _ d => by have := U1 d; simp only [sz, Rows.uptoBulk]; omega
 | .map es => by simp [sz, Rows.uptoBulk]
 | .held _ => by simp [sz, Rows.uptoBulk]
theorem Zi {H : Type} : ∀ ds : List (DataW H), szL ds ≤ Rows.uptoBulkAll ds
 | [] => by simp [szL, Rows.uptoBulkAll]
 | d :: r => by have := U1 d; have := Zi r; simp only [szL, Rows.uptoBulkAll]; omega
end
theorem z06 {H : Type} : ∀ a b : List (DataW H), Rows.uptoBulkAll a ≤ Rows.uptoBulkAll (a ++ b)
 | [], b => by simp [Rows.uptoBulkAll]
 | d :: r, b => by have := z06 r b; simp only [List.cons_append, Rows.uptoBulkAll]; omega
theorem z94 {H : Type} {ds gs : List (DataW H)} (h : Rows.uptoSmall H (ds ++ gs) = true) : szL ds ≤ 1048576 := by
 have h1 : Rows.uptoBulkAll (ds ++ gs) ≤ 1048576 := of_decide_eq_true h
 have := Zi ds
 have := z06 ds gs
 omega
theorem gn4 : Tryd.prog.globalNamed "internal/strconv.uint64pow10" = some 4 := by kernel_rfl
theorem gy4 : (Tryd.prog.globals[4]?).map (·.type) = some 95 := by kernel_rfl
theorem zfm : (Rows.laid_internal_strconv_uint64pow10 : DataW Unit) = Lib.tabData .u64 Lib.pow10Tab := by kernel_rfl
theorem zgk : ∃ e, Tryd.prog.underlying 95 = some (.array 20 e) ∧ Tryd.prog.underlying e = some (.int .u64) ∧ Tryd.prog.cellsOf e = 1 ∧ Tryd.prog.cellsOf 95 = 20 := ⟨_, Tryd.underlying95, by kernel_rfl, by kernel_rfl, by kernel_rfl⟩
theorem zcw {w : World} (h : Lib.VarReads Tryd.prog w "internal/strconv.uint64pow10" (Lib.tabData .u64 Lib.pow10Tab)) : Lib.TabIs Tryd.prog w "internal/strconv.uint64pow10" .u64 Lib.pow10Tab := by
 obtain ⟨g, t, cs, fuel, p, hg, hty, hvar, hd⟩ := h
 obtain rfl := Option.some.inj (gn4.symm.trans hg)
 obtain rfl := Option.some.inj (gy4.symm.trans hty)
 obtain ⟨e, h1, h2, h3, h4⟩ := zgk
 have hcs := Lib.cells_of_tab h1 h2 h3 h4 hd
 unfold Lib.TabIs
 rw [hvar, ← hcs]
theorem Vz {P : Program} {w : World} {g : Nat} {t : TypeId} {zero : Array Value} {k : IntKind} (h : w.ShapedOpen P) (hg : g < P.globals.size)
 (h0 : ((begin P (fun _ _ => 0) default).world.heap[g]?).bind Obj.row? = some (zero, t)) (hz : zero.size = 1)
 (hb : P.buildable t = true) (hc : P.cellTypes P.depth t = some [t]) (hu : P.underlying t = some (.int k)) : ∃ p, w.cell? ⟨g, 0, none⟩ = some (.int k p) := by
 obtain ⟨cs, hh, hs, hr⟩ := h.1 g zero t hg h0
 obtain ⟨ts, hts, _, hall⟩ := hr hb
 rw [hc] at hts
 cases hts
 have h1 : 0 < cs.size := by omega
 obtain ⟨u, hu', hok⟩ := hall 0 cs[0] (by simp [h1])
 have : u = t := by simpa using hu'.symm
 subst this
 have hcell : w.cell? ⟨g, 0, none⟩ = some cs[0] := by simp [World.cell?, hh, h1]
 rw [hcell]
 unfold Cell.ok at hok
 rw [hu] at hok
 cases hv : cs[0] <;> rw [hv] at hok <;> simp at hok
 obtain ⟨rfl, _⟩ := hok
 exact ⟨_, rfl⟩
theorem zgh : 0 < Tryd.prog.globals.size := by rw [show Tryd.prog.globals.size = 11 by kernel_rfl]; decide
theorem zdo {w : World} (h : w.ShapedOpen Tryd.prog) : ∃ m, w.cell? ⟨0, 0, none⟩ = some (.int .i64 m) :=
 Vz (t := 3) (zero := #[.int .i64 0]) h zgh (by kernel_rfl) rfl (by kernel_rfl) (by kernel_rfl) Tryd.underlying3
theorem zb1 {w : World} {l : List (String × DataW Unit)} (hl : (l.all fun x => x.2.handleName?.isNone) = true) (h1 : ("internal/strconv.uint64pow10", Rows.laid_internal_strconv_uint64pow10) ∈ l) (h : laidMetH Tryd.prog l w) (hs : w.ShapedOpen Tryd.prog) : GlobOk (old w) w := by
 rw [MakeChecks.laidMetH_plain _ _ _ hl] at h
 have r1 := Lib.laidMet.reads h h1
 rw [zfm] at r1
 have c3 := z8s gn4 (zcw r1)
 refine ⟨fun x hx => ?_, fun g hg => ?_⟩
 ·rw [zg8] at hx
  rcases List.mem_cons.1 hx with rfl | hx
  ·exact ⟨fun _ => c3.1, c3.2⟩
  ·cases hx
 ·rw [zgd] at hg
  rcases List.mem_cons.1 hg with rfl | hg
  ·obtain ⟨m, hm⟩ := zdo hs
   exact ⟨m, ⟨_, hm⟩, hm⟩
  ·cases hg
end Go.Proofs.YtbinocieebfpiaaDoor
