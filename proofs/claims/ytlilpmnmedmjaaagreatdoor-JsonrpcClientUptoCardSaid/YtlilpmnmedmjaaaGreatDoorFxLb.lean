/-
  Own framework.
-/
import Derived.Test.YtlilpmnmedmjaaaGreatDoorFxMr
import Derived.Shelf.Small.Strs
import Derived.Sort.Grow
namespace Go.Fx
open Go.Shelf Go.RowKit Go.Lib Go.Sort Go.Proofs
set_option linter.unusedVariables false
def zs6:AVal→Value
 |.bool b=>.bool b
 |.int k n=>.int k n
 |.str l=>.string ⟨⟨l⟩⟩
 |_=>.nilFunc
def z16:AVal→Bool
 |.bool _=>true
 |.int _ _=>true
 |.str _=>true
 |_=>false
section
variable {I:Nat→Nat→Prop} {β:Id→Option CLoc} {n:Nat} {H:AHeap} {w w':World}
theorem zeu{x:AVal}(h:z16 x=true){v:Value}(hr:Rep I β n w x v):v=zs6 x:=by
 cases x with
 |bool b=>exact hr.bool_inv
 |int k m=>exact hr.int_inv
 |str l=>exact hr.str_inv
 |_=>cases h
theorem zyb{x:AVal}(h:z16 x=true):RepI I w x (zs6 x):=by
 cases x with
 |bool b=>exact .bool b
 |int k m=>exact .int k m
 |str l=>exact .str l
 |_=>cases h
theorem zf8{x:AVal}(h:z16 x=true):x.nid=true:=by
 cases x with
 |bool b=>rfl
 |int k m=>rfl
 |str l=>rfl
 |_=>cases h
theorem zf1(hI:Inv I β n H w)(hc:Chg w w' fun _ _=>False):Inv I β n H w'∧Ext I β n H w I β n H w':=
 kw hI hc (Nat.le_refl n) (fun _ _ h=>h.elim) (fun _ _ h=>h) (fun _ _ h h'=>absurd h h') (fun id hid=>.inl rfl)
  (fun id d b' k hid hd _=>by rw[hI.fresh id hid] at hd;cases hd) hI.fresh (fun i j d d' b' k hi hj h h' _=>hI.inj i j d d' b' k hi hj h h') (fun _ _ _ _ _ _ h=>h) (fun _ _ h=>h) (fun id blk h=>.inl ⟨h,rfl,fun _ _ _ _ _ h=>h⟩)
theorem zqy(n:Nat)(os:Array Obj):Chg w (grow (w.drewN n) os) fun _ _=>False:=by
 refine⟨rfl,⟨rfl,fun _=>Nat.le_add_right _ _⟩,rfl,by simp,fun b hb _=>heap_grow_old _ os hb,fun b k hb _=>?_,fun b arr el fr h=>⟨arr,?_,rfl⟩,fun b o ho h _=>?_⟩
 ·exact cell?_of_heap (heap_grow_old (w.drewN n) os hb)
 all_goals
  have hlt:b<w.heap.size:=by
   rcases Nat.lt_or_ge b w.heap.size with h'|h'
   ·exact h'
   ·rw[Array.getElem?_eq_none h'] at h;cases h
  rw[show(grow (w.drewN n) os).heap[b]?=w.heap[b]? from heap_grow_old (w.drewN n) os hlt];exact h
theorem PFn.lib{P:Program}{f:FuncId}{args:List AVal}{R:AVal}(hok:uk P f)(ha:args.all z16=true)(hR:z16 R=true)
 (h:∀w,Calls P f (args.map zs6).toArray w fun e w'=>e=.returned (zs6 R)∧∃n os,w'=grow (w.drewN n) os):PFn P f args R:=by
 refine⟨zf8 hR,0,hok,fun I β w vs hI hl hr=>?_⟩
 have hvs:vs=args.map zs6:=by
  refine List.ext_getElem (by rw[List.length_map];exact hl) fun i h1 h2=>?_
  have h3:i<args.length:=by omega
  have:=hr i args[i] vs[i] (List.getElem?_eq_getElem h3) (List.getElem?_eq_getElem h1)
  rw[List.getElem_map]
  exact zeu (List.all_eq_true.1 ha _ (List.getElem_mem h3)) this
 subst hvs
 refine(h w).mono ?_
 rintro e w' ⟨rfl,q,os,rfl⟩
 obtain⟨g1,g2⟩:=zf1 hI (zqy q os)
 exact⟨R,_,[],0,I,β,rfl,⟨rfl,rfl,rfl⟩,g1,.imm _ _ (zyb hR),g2⟩
theorem zn5{w w':World}(h:w'=w):∃n os,w'=grow (w.drewN n) os:=⟨0,#[],by rw[h,grow_empty];rfl⟩
end
end Go.Fx
