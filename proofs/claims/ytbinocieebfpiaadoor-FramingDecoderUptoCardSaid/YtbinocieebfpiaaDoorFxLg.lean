/-
  Own framework.
-/
import Derived.Test.YtbinocieebfpiaaDoorFxLb
import Derived.Shelf.Unicode.ValidAny
import Derived.Lib.LaidTab
namespace Go.Fx
open Go.Shelf Go.RowKit Go.Lib Go.Sort Go.Proofs
set_option linter.unusedVariables false
theorem Vs {w w' : World} (hk : Zr = false) (h : Below w.heap.size w w') : Chg w w' fun _ _ => False := by
 refine ⟨h.os, ⟨h.tape, fun hh => by rw [hk] at hh; cases hh⟩, h.output, h.size, fun b hb _ => h.block b hb, fun b k hb _ => cell?_of_heap (h.block b hb), fun b arr el fr hh => ⟨arr, ?_, rfl⟩, fun b o ho hh _ => ?_⟩
 all_goals
  have hlt : b < w.heap.size := by
   rcases Nat.lt_or_ge b w.heap.size with h' | h'
   ·exact h'
   ·rw [Array.getElem?_eq_none h'] at hh; cases hh
  rw [h.block b hlt]; exact hh
theorem PFn.libG {P : Program} {f : FuncId} {args : List AVal} {R : AVal} (hok : k6 P f) (ha : args.all Xr = true) (hR : Xr R = true)
 (h : ∀ I w, GlobOk I w → Calls P f (args.map zbg).toArray w fun e w' => e = .returned (zbg R) ∧ Chg w w' fun _ _ => False) : PFn P f args R := by
 refine ⟨za2 hR, 0, hok, fun I β w vs hI hl hr => ?_⟩
 have hvs : vs = args.map zbg := by
  refine List.ext_getElem (by rw [List.length_map]; exact hl) fun i h1 h2 => ?_
  have h3 : i < args.length := by omega
  have := hr i args[i] vs[i] (List.getElem?_eq_getElem h3) (List.getElem?_eq_getElem h1)
  rw [List.getElem_map]
  exact z1t (List.all_eq_true.1 ha _ (List.getElem_mem h3)) this
 subst hvs
 refine (h I w hI.glob).mono ?_
 rintro e w' ⟨rfl, hc⟩
 obtain ⟨g1, g2⟩ := z11 hI hc
 exact ⟨R, _, [], 0, I, β, rfl, ⟨rfl, rfl, rfl⟩, g1, .imm _ _ (zgm hR), g2⟩
def zh6 : List Value := (List.range 256).map fun c => .int .u8 (firstT c)
def zgf : List Value := (List.range 32).map fun j => .int .u8 (if j % 2 = 0 then accLo (j / 2) else accHi (j / 2))
def z7u (k : IntKind) (zs : List Int) : List Value := zs.map fun z => .int k z
theorem za6 {P : Program} {g : Nat} {nm : String} {k : IntKind} {zs : List Int} (hg : P.globalNamed nm = some g) {w : World} (h : Lib.TabIs P w nm k zs) :
 (∃ arr el fr, w.heap[g]? = some (.cells arr el fr) ∧ arr.size = (z7u k zs).length) ∧ ∀ (i : Nat) (v : Value), (z7u k zs)[i]? = some v → (∃ v, w.cell? ⟨g, i, none⟩ = some v) ∧ w.cell? ⟨g, i, none⟩ = some v := by
 unfold Lib.TabIs World.var? at h
 rw [hg, Option.bind_some] at h
 split at h <;> try (cases h; done)
 rename_i cs el fr hw
 simp only [Option.some.injEq] at h
 subst h
 refine ⟨⟨_, _, _, hw, by simp [z7u]⟩, fun i v hv => ?_⟩
 have : w.cell? ⟨g, i, none⟩ = some v := by
  unfold World.cell?
  simp only [hw]
  rw [← hv]
  simp [z7u]
 exact ⟨⟨_, this⟩, this⟩
theorem z8i {P : Program} {g : Nat} {nm : String} {k : IntKind} {zs : List Int} (hg : P.globalNamed nm = some g) (hx : (g, z7u k zs) ∈ GL) (hs : g ∈ GLS) {I : Nat → Nat → Prop} {w : World} (h : GlobOk I w) : Lib.TabIs P w nm k zs := by
 obtain ⟨h1, h2⟩ := h.1 _ hx
 obtain ⟨arr, el, fr, hw, hl⟩ := h1 hs
 unfold Lib.TabIs World.var?
 rw [hg, Option.bind_some, hw]
 simp only [Option.some.injEq]
 refine Array.ext (by simpa [z7u] using hl) fun i hi hj => ?_
 have hi' : i < zs.length := by simpa using hj
 have := (h2 i (.int k zs[i]) (by simp [z7u, hi'])).2
 unfold World.cell? at this
 simp only [hw] at this
 rw [Array.getElem?_eq_getElem hi] at this
 have this : some arr[i] = some (Value.int k zs[i]) := this
 rw [Option.some.injEq] at this
 rw [this]; simp
end Go.Fx
