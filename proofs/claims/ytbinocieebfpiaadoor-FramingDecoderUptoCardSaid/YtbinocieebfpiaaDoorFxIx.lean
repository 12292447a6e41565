/-
  Own framework.
-/
import Derived.Test.YtbinocieebfpiaaDoorFxIt
import Derived.Shelf.Strings.Search3
import Derived.Shelf.Strings.Cut
import Derived.Shelf.Strings.Fold
import Derived.Shelf.Strings.SlTrimAscii
import Derived.Shelf.Strconv.Atoi
import Derived.Lib.AtoiErrMem
namespace Go.Fx
open Go.Shelf Go.RowKit Go.Lib Go.Sort Go.Proofs
set_option linter.unusedVariables false
theorem PFn.libV {P : Program} {f : FuncId} {args : List AVal} {R : AVal} (u : Value) (hok : k6 P f) (ha : args.all Xr = true) (hn : R.nid = true) (hR : ∀ I w, RepI I w R u)
 (h : ∀ I w, GlobOk I w → Calls P f (args.map zbg).toArray w fun e w' => e = .returned u ∧ Chg w w' fun _ _ => False) : PFn P f args R := by
 refine ⟨hn, 0, hok, fun I β w vs hI hl hr => ?_⟩
 have hvs : vs = args.map zbg := by
  refine List.ext_getElem (by rw [List.length_map]; exact hl) fun i h1 h2 => ?_
  have h3 : i < args.length := by omega
  have := hr i args[i] vs[i] (List.getElem?_eq_getElem h3) (List.getElem?_eq_getElem h1)
  rw [List.getElem_map]
  exact z1t (List.all_eq_true.1 ha _ (List.getElem_mem h3)) this
 subst hvs
 refine (h I w hI.glob).mono ?_
 rintro e w' ⟨rfl, hc⟩
 obtain ⟨g1, g2⟩ := z11 hI hc
 exact ⟨R, _, [], 0, I, β, rfl, ⟨rfl, rfl, rfl⟩, g1, .imm _ _ (hR _ _), g2⟩
variable {P : Program} {ρ : Ren}
theorem z2x (L : Lays.n143 P ρ) {f : FuncId} (hf : ρ.f 143 = f) (hok : k6 P f) (hg : ρ.g 1 ∈ GA) {s sub : List UInt8} (hs : s.length < 4294967281) : PFn P f [.str s, .str sub] (.int .i64 (Lib.index s sub)) := by
 subst hf
 refine PFn.libG hok rfl rfl fun I w hgl => ?_
 obtain ⟨m, _, hm⟩ := hgl.2 _ hg
 refine (Any.strings_Index L ⟨⟨s⟩⟩ ⟨⟨sub⟩⟩ m w (by simpa [ByteArray.size] using hs) hm).mono ?_
 rintro e w' ⟨rfl, rfl⟩
 exact ⟨rfl, Chg.refl _ _⟩
theorem z9z (n : Nat) (w : World) : Chg w (w.drewN n) fun _ _ => False := by
 have := z0l (w := w) n #[]
 rwa [grow_empty] at this
theorem z8p (L : Lays.n145 P ρ) {f : FuncId} (hf : ρ.f 145 = f) (hok : k6 P f) (hg : ρ.g 1 ∈ GA) {s sub : List UInt8} (hs : s.length < 4294967281) :
 PFn P f [.str s, .str sub] (.tup [.str (Lib.cut s sub).1, .str (Lib.cut s sub).2.1, .bool (Lib.cut s sub).2.2]) := by
 subst hf
 refine PFn.libV (.tuple #[.string ⟨(Lib.cut s sub).1.toArray⟩, .string ⟨(Lib.cut s sub).2.1.toArray⟩, .bool (Lib.cut s sub).2.2]) hok rfl rfl (fun I w => .tup _ _ rfl fun i x v hx hv => ?_) fun I w hgl => ?_
 ·match i with
  | 0 => simp at hx hv; subst hx; subst hv; exact .str _
  | 1 => simp at hx hv; subst hx; subst hv; exact .str _
  | 2 => simp at hx hv; subst hx; subst hv; exact .bool _
  | i + 3 => simp at hx
 obtain ⟨m, _, hm⟩ := hgl.2 _ hg
 refine (Any.strings_Cut L ⟨⟨s⟩⟩ ⟨⟨sub⟩⟩ m w (by simpa [ByteArray.size] using hs) hm).mono ?_
 rintro e w' ⟨rfl, n, rfl⟩
 exact ⟨rfl, z9z n w⟩
theorem z4e (L : Lays.n164 P ρ) {f : FuncId} (hf : ρ.f 164 = f) (hok : k6 P f) {s t : List UInt8} (hs : s.length < 4294967281) (h1 : s.all (fun b => decide (b.toNat < 128)) = true) (h2 : t.all (fun b => decide (b.toNat < 128)) = true) :
 PFn P f [.str s, .str t] (.bool (Lib.equalFold s t)) := by
 subst hf
 refine PFn.libG hok rfl rfl fun I w _ => ?_
 refine (Any.strings_EqualFold L ⟨⟨s⟩⟩ ⟨⟨t⟩⟩ w (by simpa [ByteArray.size] using hs) (fun j b hb => ?_) (fun j b hb => ?_)).mono ?_
 ·simpa using List.all_eq_true.1 h1 b (List.mem_of_getElem? hb)
 ·simpa using List.all_eq_true.1 h2 b (List.mem_of_getElem? hb)
 rintro e w' ⟨rfl, rfl⟩
 exact ⟨rfl, Chg.refl _ _⟩
theorem z3j (hk : Zr = false) (L : Lays.n160 P ρ) (h116 : (P.info? (ρ.t 116)).map (fun i => (i.zero, i.size)) = some (some (.agg (Array.replicate 256 (.bool false))), 256)) {f : FuncId} (hf : ρ.f 160 = f) (hok : k6 P f) {s cs : List UInt8}
 (hs : s.length ≤ 9223372036854775807) (hc : cs.length < 4294967281) (h2 : cs.all (fun b => decide (b.toNat < 128)) = true) : PFn P f [.str s, .str cs] (.str (Lib.trimS s cs)) := by
 subst hf
 refine PFn.libG hok rfl rfl fun I w _ => ?_
 refine (Any.strings_Trim_laid L h116 ⟨⟨s⟩⟩ ⟨⟨cs⟩⟩ w (by simpa [ByteArray.size] using hs) (by simpa [ByteArray.size] using hc) (fun j b hb => ?_)).mono ?_
 ·simpa using List.all_eq_true.1 h2 b (List.mem_of_getElem? hb)
 rintro e w' ⟨rfl, hb⟩
 exact ⟨rfl, Vs hk hb⟩
theorem za4 (hk : Zr = false) (L : Lays.n172 P ρ) {f : FuncId} (hf : ρ.f 172 = f) (hok : k6 P f) {s : List UInt8} {n : Int} (hs : s.length ≤ 18) (h : Lib.atoi s = some n) : PFn P f [.str s] (.tup [.int .i64 n, .val .nilIface]) := by
 subst hf
 refine PFn.libV (.tuple #[.int .i64 n, .nilIface]) hok rfl rfl (fun I w => .tup _ _ rfl fun i x v hx hv => ?_) fun I w _ => ?_
 ·match i with
  | 0 => simp at hx hv; subst hx; subst hv; exact .int _ _
  | 1 => simp at hx hv; subst hx; subst hv; exact .val _ rfl
  | i + 2 => simp at hx
 refine (Any.strconv_Atoi L ⟨⟨s⟩⟩ n (by simpa [ByteArray.size] using hs) h w).mono ?_
 rintro e w' ⟨rfl, t, rfl⟩
 exact ⟨rfl, Vs hk (bytesWorld_below _ _ _)⟩
end Go.Fx
