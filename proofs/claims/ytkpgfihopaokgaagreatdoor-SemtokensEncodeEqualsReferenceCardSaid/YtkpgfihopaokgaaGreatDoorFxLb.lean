/-
  Own framework.
-/
import Derived.Test.YtkpgfihopaokgaaGreatDoorFxMr
import Derived.Shelf.Small.Strs
import Derived.Sort.Grow
namespace Go.Fx
open Go.Shelf Go.RowKit Go.Lib Go.Sort Go.Proofs
set_option linter.unusedVariables false
def zk0 : AVal → Value
 | .bool b => .bool b
 | .int k n => .int k n
 | .str l => .string ⟨⟨l⟩⟩
 | _ => .nilFunc
def z3f : AVal → Bool
 | .bool _ => true
 | .int _ _ => true
 | .str _ => true
 | _ => false
section
variable {I : Nat → Nat → Prop} {β : Id → Option CLoc} {n : Nat} {H : AHeap} {w w' : World}
theorem z5x {x : AVal} (h : z3f x = true) {v : Value} (hr : Rep I β n w x v) : v = zk0 x := by
 cases x with
 | bool b => exact hr.bool_inv
 | int k m => exact hr.int_inv
 | str l => exact hr.str_inv
 | _ => cases h
theorem zo6 {x : AVal} (h : z3f x = true) : RepI I w x (zk0 x) := by
 cases x with
 | bool b => exact .bool b
 | int k m => exact .int k m
 | str l => exact .str l
 | _ => cases h
theorem zfd {x : AVal} (h : z3f x = true) : x.nid = true := by
 cases x with
 | bool b => rfl
 | int k m => rfl
 | str l => rfl
 | _ => cases h
theorem zev (hI : Inv I β n H w) (hc : Chg w w' fun _ _ => False) : Inv I β n H w' ∧ Ext I β n H w I β n H w' :=
 jz hI hc (Nat.le_refl n) (fun _ _ h => h.elim) (fun _ _ h => h) (fun _ _ h h' => absurd h h') (fun id hid => .inl rfl)
  (fun id d b' k hid hd _ => by rw [hI.fresh id hid] at hd; cases hd) hI.fresh (fun i j d d' b' k hi hj h h' _ => hI.inj i j d d' b' k hi hj h h') (fun _ _ _ _ _ _ h => h) (fun _ _ h => h) (fun id blk h => .inl ⟨h, rfl, fun _ _ _ _ _ h => h⟩)
theorem zfx (n : Nat) (os : Array Obj) : Chg w (grow (w.drewN n) os) fun _ _ => False := by
 refine ⟨rfl, ⟨rfl, fun _ => Nat.le_add_right _ _⟩, rfl, by simp, fun b hb _ => heap_grow_old _ os hb, fun b k hb _ => ?_, fun b arr el fr h => ⟨arr, ?_, rfl⟩, fun b o ho h _ => ?_⟩
 ·exact cell?_of_heap (heap_grow_old (w.drewN n) os hb)
 all_goals
  have hlt : b < w.heap.size := by
   rcases Nat.lt_or_ge b w.heap.size with h' | h'
   ·exact h'
   ·rw [Array.getElem?_eq_none h'] at h; cases h
  rw [show (grow (w.drewN n) os).heap[b]? = w.heap[b]? from heap_grow_old (w.drewN n) os hlt]; exact h
theorem PFn.lib {P : Program} {f : FuncId} {args : List AVal} {R : AVal} (hok : Qh P f) (ha : args.all z3f = true) (hR : z3f R = true)
 (h : ∀ w, Calls P f (args.map zk0).toArray w fun e w' => e = .returned (zk0 R) ∧ ∃ n os, w' = grow (w.drewN n) os) : PFn P f args R := by
 refine ⟨zfd hR, 0, hok, fun I β w vs hI hl hr => ?_⟩
 have hvs : vs = args.map zk0 := by
  refine List.ext_getElem (by rw [List.length_map]; exact hl) fun i h1 h2 => ?_
  have h3 : i < args.length := by omega
  have := hr i args[i] vs[i] (List.getElem?_eq_getElem h3) (List.getElem?_eq_getElem h1)
  rw [List.getElem_map]
  exact z5x (List.all_eq_true.1 ha _ (List.getElem_mem h3)) this
 subst hvs
 refine (h w).mono ?_
 rintro e w' ⟨rfl, q, os, rfl⟩
 obtain ⟨g1, g2⟩ := zev hI (zfx q os)
 exact ⟨R, _, [], 0, I, β, rfl, ⟨rfl, rfl, rfl⟩, g1, .imm _ _ (zo6 hR), g2⟩
theorem z2h {w w' : World} (h : w' = w) : ∃ n os, w' = grow (w.drewN n) os := ⟨0, #[], by rw [h, grow_empty]; rfl⟩
end
end Go.Fx
