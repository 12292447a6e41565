/-
  Own framework.
-/
import Derived.Test.YteepckliibfnkaaGreatDoorFxSs
import Derived.Shelf.Strings.Split
namespace Go.Fx
open Go.Shelf Go.RowKit Go.Lib Go.Proofs
set_option linter.unusedVariables false
variable {P : Program} {ρ : Ren}
def z0m (c : UInt8) (s : List UInt8) : List (List UInt8) := Lib.split s [c]
set_option maxHeartbeats 1000000 in
theorem K3 (L : Lays.n146 P ρ) (hi9 : (P.info? (ρ.t 9)).map (fun i => (i.zero, i.size, i.bytes)) = some (some (.string ByteArray.empty), 1, 16)) (s : ByteArray) (c : UInt8) (w : World) (hs : s.size < 4294967281) :
 Calls P (ρ.f 146) #[.string s, .string ⟨#[c]⟩] w fun e w' =>
  e = .returned (.slice (some ⟨w.heap.size, 0, none⟩) (Lib.countB s ⟨#[c]⟩ + 1) (Lib.countB s ⟨#[c]⟩ + 1)) ∧ w' = w.alloc (.cells ((Lib.splitB ⟨#[c]⟩ 0 (Lib.countB s ⟨#[c]⟩) s).map Value.string).toArray (ρ.t 9)) := by
 have h1 : 1 ≤ (⟨#[c]⟩ : ByteArray).size := Nat.le_refl _
 have hle := Lib.countB_le ⟨#[c]⟩ h1 s.size s (Nat.le_refl _)
 have hlen := Lib.splitB_all ⟨#[c]⟩ h1 0 _ s rfl
 have hc := Any.strings_genSplit_core { L with } hi9 s ⟨#[c]⟩ 0 (-1) (Lib.countB s ⟨#[c]⟩ + 1) w hs h1 (Nat.zero_le _)
  (fun x cs hx => (Any.strings_Index_one { L with } x c _).mono fun e w' ⟨he, hw⟩ => ⟨by
   rw [he]
   show _ = Ending.returned (Value.int .i64 (Lib.index x.data.toList [c]))
   rw [Lib.index_one], hw⟩)
  ((Any.strings_Count_one { L with } s c w).mono fun e w' ⟨he, hw⟩ => ⟨by
   rw [he]
   show _ = Ending.returned (Value.int .i64 ((Lib.count s.data.toList [c] : Nat) : Int))
   rw [Lib.count_one]
   rfl, hw⟩) (by decide) (by decide) (by rw [if_pos (by decide)]; omega)
 rw [Nat.add_sub_cancel, hlen] at hc
 have e2 : Lib.cellsOf (Lib.splitB ⟨#[c]⟩ 0 (Lib.countB s ⟨#[c]⟩) s) (Lib.countB s ⟨#[c]⟩ + 1) = ((Lib.splitB ⟨#[c]⟩ 0 (Lib.countB s ⟨#[c]⟩) s).map Value.string).toArray := by rw [← hlen]; exact Lib.cellsOf_full _
 rw [e2] at hc
 have t3 := L.t3; have t9 := L.t9; have t31 := L.t31
 have a3 := L.a3; have a9 := L.a9; have a31 := L.a31
 have z3 := L.z3; have v3 := L.v3; have z9 := L.z9; have v9 := L.v9; have z31 := L.z31; have v31 := L.v31
 have e221 : ∀ args w, (callFunc (ρ.f 221) args).run P w = .ok (.enter (ρ.f 221) args) w := enters_of L.f221 (by kernel_rfl) rfl
 go_enter L.f146, Body.n146_ntmps ρ
 go_wp2_with (go_at_fn (ρ.f 221); refine hc.mono ?_; rintro e w' ⟨rfl, hw⟩; rw [hw])
 go_ret
 exact ⟨rfl, rfl⟩
theorem zk4 (L : Lays.n146 P ρ) (hi9 : (P.info? (ρ.t 9)).map (fun i => (i.zero, i.size, i.bytes)) = some (some (.string ByteArray.empty), 1, 16)) (hok : Z9 P (ρ.f 146)) {f : FuncId} (hf : ρ.f 146 = f) {s : List UInt8} (c : UInt8) (hs : s.length < 4294967281) :
 PFn P f [.str s, .str [c]] (.isl 1 ((z0m c s).map fun x => [.str x]) false) := by
 subst hf
 refine ⟨by simp [AVal.nid], 0, hok, fun I β w vs hI hlen hr => ?_⟩
 match vs, hlen with
 | [v0, v1], _ =>
  have hv0 : v0 = .string ⟨⟨s⟩⟩ := by
   cases hr 0 _ _ rfl rfl with | imm _ _ h => cases h; rfl
  have hv1 : v1 = .string ⟨⟨[c]⟩⟩ := by
   cases hr 1 _ _ rfl rfl with | imm _ _ h => cases h; rfl
  subst hv0
  subst hv1
  show Calls P (ρ.f 146) #[.string ⟨⟨s⟩⟩, .string ⟨#[c]⟩] w _
  refine (K3 L hi9 ⟨⟨s⟩⟩ c w (by simpa [ByteArray.size] using hs)).mono ?_
  rintro e w' ⟨rfl, rfl⟩
  have hd : (Lib.splitB ⟨#[c]⟩ 0 (Lib.countB ⟨⟨s⟩⟩ ⟨#[c]⟩) ⟨⟨s⟩⟩).map (·.data.toList) = z0m c s := Lib.splitB_data _ _ _ _
  have hlen := Lib.splitB_all ⟨#[c]⟩ (Nat.le_refl _) 0 _ (⟨⟨s⟩⟩ : ByteArray) rfl
  generalize hB : Lib.splitB ⟨#[c]⟩ 0 (Lib.countB ⟨⟨s⟩⟩ ⟨#[c]⟩) ⟨⟨s⟩⟩ = B at hd hlen
  have hBl : (z0m c s).length = B.length := by rw [← hd, List.length_map]
  obtain ⟨I', β', g1, g2, _, g4, _⟩ := z0j (s := 1) (es := (z0m c s).map fun x => [AVal.str x]) (H2 := []) hI (kp w (.cells (B.map Value.string).toArray (ρ.t 9))) (fun k h => Yn k _ h) (by
   refine ⟨by simp [hBl], fun i r h => ?_, fun i r j x h hj => ?_⟩
   ·rw [List.getElem?_map] at h
    obtain ⟨y, _, rfl⟩ := Option.map_eq_some_iff.1 h
    rfl
   ·rw [← hd, List.map_map, List.getElem?_map] at h
    obtain ⟨y, hy, rfl⟩ := Option.map_eq_some_iff.1 h
    cases j with
    | succ j => simp at hj
    | zero =>
     simp only [Function.comp, List.getElem?_cons_zero, Option.some.injEq] at hj
     subst hj
     refine ⟨.string y, ?_, rfl, ?_⟩
     ·rw [Nat.zero_add, Nat.mul_one, Nat.add_zero, List.getElem?_toArray, List.getElem?_map, hy]; rfl
     ·exact .str _) false (fun id blk h => by cases h)
  simp only [Bool.false_eq_true, if_false] at g1 g2
  have hrep := g4 (Lib.countB ⟨⟨s⟩⟩ ⟨#[c]⟩ + 1) false (by rw [List.length_map, hBl, hlen]; exact Nat.le_refl _) nofun
  rw [List.length_map, hBl, hlen] at hrep
  exact ⟨_, _, _, _, I', β', rfl, ⟨rfl, rfl, rfl⟩, g1, .imm _ _ hrep, g2⟩
end Go.Fx
