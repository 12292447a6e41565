/-
  Own framework.
-/
import Derived.Test.YtdgkalljlomjnaaDoorFxLb
import Derived.Shelf.Unicode.ValidAny
import Derived.Lib.LaidTab
namespace Go.Fx
open Go.Shelf Go.RowKit Go.Lib Go.Sort Go.Proofs
set_option linter.unusedVariables false
theorem zgf {w w' : World} (hk : Ks = false) (h : Below w.heap.size w w') : Chg w w' fun _ _ => False := by
 refine ⟨h.os, ⟨h.tape, fun hh => by rw [hk] at hh; cases hh⟩, h.output, h.size, fun b hb _ => h.block b hb, fun b k hb _ => cell?_of_heap (h.block b hb), fun b arr el fr hh => ⟨arr, ?_, rfl⟩, fun b o ho hh _ => ?_⟩
 all_goals
  have hlt : b < w.heap.size := by
   rcases Nat.lt_or_ge b w.heap.size with h' | h'
   ·exact h'
   ·rw [Array.getElem?_eq_none h'] at hh; cases hh
  rw [h.block b hlt]; exact hh
theorem PFn.libG {P : Program} {f : FuncId} {args : List AVal} {R : AVal} (hok : Zk P f) (ha : args.all Uc = true) (hR : Uc R = true)
 (h : ∀ I w, GlobOk I w → Calls P f (args.map zlc).toArray w fun e w' => e = .returned (zlc R) ∧ Chg w w' fun _ _ => False) : PFn P f args R := by
 refine ⟨zan hR, 0, hok, fun I β w vs hI hl hr => ?_⟩
 have hvs : vs = args.map zlc := by
  refine List.ext_getElem (by rw [List.length_map]; exact hl) fun i h1 h2 => ?_
  have h3 : i < args.length := by omega
  have := hr i args[i] vs[i] (List.getElem?_eq_getElem h3) (List.getElem?_eq_getElem h1)
  rw [List.getElem_map]
  exact z9q (List.all_eq_true.1 ha _ (List.getElem_mem h3)) this
 subst hvs
 refine (h I w hI.glob).mono ?_
 rintro e w' ⟨rfl, hc⟩
 obtain ⟨g1, g2⟩ := zac hI hc
 exact ⟨R, _, [], 0, I, β, rfl, ⟨rfl, rfl, rfl⟩, g1, .imm _ _ (zqy hR), g2⟩
def Ky : List Value := (List.range 256).map fun c => .int .u8 (firstT c)
def Qq : List Value := (List.range 32).map fun j => .int .u8 (if j % 2 = 0 then accLo (j / 2) else accHi (j / 2))
theorem Vp {g3 g4 : Nat} (h3 : (g3, Ky) ∈ GL) (h4 : (g4, Qq) ∈ GL) {I : Nat → Nat → Prop} {w : World} (h : GlobOk I w) : Lib.Utf8Tabs g3 g4 w := by
 refine ⟨fun c hc => ((h _ h3).2 c _ (by simp [Ky, hc])).2, fun i hi => ⟨((h _ h4).2 (2 * i) _ ?_).2, ((h _ h4).2 (2 * i + 1) _ ?_).2⟩⟩
 ·have h1 : 2 * i < 32 := by omega
  simp only [Qq, List.getElem?_map, List.getElem?_range h1, Option.map_some]
  rw [if_pos (by omega), show 2 * i / 2 = i by omega]
 ·have h1 : 2 * i + 1 < 32 := by omega
  simp only [Qq, List.getElem?_map, List.getElem?_range h1, Option.map_some]
  rw [if_neg (by omega), show (2 * i + 1) / 2 = i by omega]
theorem z2j {g3 g4 : Nat} {w : World} (h : Lib.Utf8Tabs g3 g4 w) : ∀ x ∈ [(g3, Ky), (g4, Qq)], ∀ (i : Nat) (v : Value), x.2[i]? = some v → (∃ v, w.cell? ⟨x.1, i, none⟩ = some v) ∧ w.cell? ⟨x.1, i, none⟩ = some v := by
 intro x hx i v hv
 rcases List.mem_cons.1 hx with rfl | hx
 ·have hi : i < 256 := by
   rcases Nat.lt_or_ge i 256 with h' | h'
   ·exact h'
   ·rw [List.getElem?_eq_none (by simp [Ky]; exact h')] at hv; cases hv
  have hv : v = .int .u8 (firstT i) := by
   simp only [Ky, List.getElem?_map, List.getElem?_range hi, Option.map_some, Option.some.injEq] at hv
   exact hv.symm
  subst hv
  exact ⟨⟨_, h.1 i hi⟩, h.1 i hi⟩
 ·simp only [List.mem_singleton] at hx
  subst hx
  have hi : i < 32 := by
   rcases Nat.lt_or_ge i 32 with h' | h'
   ·exact h'
   ·rw [List.getElem?_eq_none (by simp [Qq]; exact h')] at hv; cases hv
  simp only [Qq, List.getElem?_map, List.getElem?_range hi, Option.map_some, Option.some.injEq] at hv
  have h2 := h.2 (i / 2) (by omega)
  by_cases he : i % 2 = 0
  ·rw [if_pos he] at hv
   subst hv
   have : i = 2 * (i / 2) := by omega
   have h3 := h2.1
   rw [← this] at h3
   exact ⟨⟨_, h3⟩, h3⟩
  ·rw [if_neg he] at hv
   subst hv
   have : i = 2 * (i / 2) + 1 := by omega
   have h3 := h2.2
   rw [← this] at h3
   exact ⟨⟨_, h3⟩, h3⟩
def zix (k : IntKind) (zs : List Int) : List Value := zs.map fun z => .int k z
theorem zk7 {P : Program} {g : Nat} {nm : String} {k : IntKind} {zs : List Int} (hg : P.globalNamed nm = some g) {w : World} (h : Lib.TabIs P w nm k zs) :
 (∃ arr el fr, w.heap[g]? = some (.cells arr el fr) ∧ arr.size = (zix k zs).length) ∧ ∀ (i : Nat) (v : Value), (zix k zs)[i]? = some v → (∃ v, w.cell? ⟨g, i, none⟩ = some v) ∧ w.cell? ⟨g, i, none⟩ = some v := by
 unfold Lib.TabIs World.var? at h
 rw [hg, Option.bind_some] at h
 split at h <;> try (cases h; done)
 rename_i cs el fr hw
 simp only [Option.some.injEq] at h
 subst h
 refine ⟨⟨_, _, _, hw, by simp [zix]⟩, fun i v hv => ?_⟩
 have : w.cell? ⟨g, i, none⟩ = some v := by
  unfold World.cell?
  simp only [hw]
  rw [← hv]
  simp [zix]
 exact ⟨⟨_, this⟩, this⟩
theorem zks {P : Program} {g : Nat} {nm : String} {k : IntKind} {zs : List Int} (hg : P.globalNamed nm = some g) (hx : (g, zix k zs) ∈ GL) (hs : g ∈ GLS) {I : Nat → Nat → Prop} {w : World} (h : GlobOk I w) : Lib.TabIs P w nm k zs := by
 obtain ⟨h1, h2⟩ := h _ hx
 obtain ⟨arr, el, fr, hw, hl⟩ := h1 hs
 unfold Lib.TabIs World.var?
 rw [hg, Option.bind_some, hw]
 simp only [Option.some.injEq]
 refine Array.ext (by simpa [zix] using hl) fun i hi hj => ?_
 have hi' : i < zs.length := by simpa using hj
 have := (h2 i (.int k zs[i]) (by simp [zix, hi'])).2
 unfold World.cell? at this
 simp only [hw] at this
 rw [Array.getElem?_eq_getElem hi] at this
 have this : some arr[i] = some (Value.int k zs[i]) := this
 rw [Option.some.injEq] at this
 rw [this]; simp
theorem z4y {P : Program} {ρ : Ren} (L : Lays.n196 P ρ) (hk : Ks = false) {f : FuncId} (hf : ρ.f 196 = f) (hok : Zk P f) (h3 : (ρ.g 3, Ky) ∈ GL) (h4 : (ρ.g 4, Qq) ∈ GL) {s : List UInt8} (hs : s.length ≤ 9223372036854775807) :
 PFn P f [.str s] (.bool (Lib.validD s)) := by
 subst hf
 refine PFn.libG hok rfl rfl fun I w hg => ?_
 refine (Any.utf8_ValidString L ⟨⟨s⟩⟩ w (by simpa [ByteArray.size] using hs) (Vp h3 h4 hg)).mono ?_
 rintro e w' ⟨rfl, hb⟩
 exact ⟨rfl, zgf hk hb⟩
end Go.Fx
