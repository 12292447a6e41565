/-
  Own text GenA of this claim: what functions of the given program compute, in plain Lean, and the proof; no condition.
-/
import Derived.Test.YtcllpgaaoiccgaaChecked
import Derived.Test.YtcllpgaaoiccgaaFxN
import Derived.Test.YtcllpgaaoiccgaaFxRf
import Derived.Test.YtcllpgaaoiccgaaFxMd
import Derived.Test.YtcllpgaaoiccgaaFxOd
import Derived.Test.YtcllpgaaoiccgaaFxMr
import Derived.KernelRfl
namespace Go.Proofs.Ytcllpgaaoiccgaa
open Go.Fx
set_option linter.unusedVariables false
structure G_QChunk where
  f_Token : Int
  f_Seq : Int
  f_Last : Bool
  f_Items : List Int
instance : Inhabited G_QChunk := ⟨(G_QChunk.mk 0 0 false [])⟩
def e_i64 (x : Int) : List AVal := [.int .i64 x]
def e_QChunk (x : G_QChunk) : List AVal := [.int .i64 x.f_Token, .int .i64 x.f_Seq, .bool x.f_Last, .isl 1 (x.f_Items.map e_i64) false]
def a_i64 (x : Int) : AVal := .int .i64 x
theorem a_i64_nid (x : Int) : (a_i64 x).nid = true := rfl
def a_QChunk (x : G_QChunk) : AVal := .agg [.int .i64 x.f_Token, .int .i64 x.f_Seq, .bool x.f_Last, .isl 1 (x.f_Items.map e_i64) false]
theorem a_QChunk_nid (x : G_QChunk) : (a_QChunk x).nid = true := rfl
def q_i64 (x y : Int) : Bool := (x == y && true)
theorem q_i64_ok (x y : Int) : keyEq [.int] (a_i64 x) (a_i64 y) = some (q_i64 x y) := rfl
theorem e_i64_ok (x : Int) : AVal.nid.nidL (e_i64 x) = true ∧ ∀ y ∈ e_i64 x, y.imm = some y := ⟨rfl, by simp [e_i64, AVal.imm]⟩
theorem e_QChunk_ok (x : G_QChunk) : AVal.nid.nidL (e_QChunk x) = true ∧ ∀ y ∈ e_QChunk x, y.imm = some y := ⟨rfl, by simp [e_QChunk, AVal.imm]⟩
def f22_c1 : LCode := (.seq (.region [⟨some 14, .bin .lss (.t 13) (.t 12), none⟩])
 (.seq (.cond (.t 14)
  .skip
  (.exit 0))
 (.seq (.block 1
  (.seq (.region [⟨some 15, .mv (.t 13), none⟩,
    ⟨some 5, .mv (.t 15), none⟩])
  (.seq (.quiet [⟨some 16, .mv (.t 0), none⟩,
    ⟨some 17, .mv (.t 5), none⟩,
    ⟨some 18, .iaddr 1 (.t 16) (.t 17), none⟩,
    ⟨some 19, .load false 1 (.t 18), none⟩,
    ⟨some 20, .mv (.t 1), none⟩,
    ⟨some 21, .mv (.t 5), none⟩,
    ⟨some 22, .iaddr 1 (.t 20) (.t 21), none⟩,
    ⟨some 23, .load false 1 (.t 22), none⟩,
    ⟨some 24, .bin .neq (.t 19) (.t 23), none⟩])
  (.cond (.t 24)
   (.seq (.region [⟨some 4, .mv (.c (.bool false)), none⟩])
   .ret)
   .skip))))
 (.region [⟨some 25, .bin .add (.t 13) (.c (.int .i64 1)), none⟩,
   ⟨some 13, .mv (.t 25), none⟩]))))
def f22_c0 : LCode := (.seq (.region [⟨some 4, .mv (.c (.bool true)), none⟩])
 .ret)
def f22_c2 : LCode := (.seq (.region [⟨some 4, .mv (.c (.bool false)), none⟩])
 (.seq (.seq (.region [⟨some 6, .mv (.t 0), none⟩,
   ⟨some 7, .len false (.t 6), none⟩,
   ⟨some 8, .mv (.t 1), none⟩,
   ⟨some 9, .len false (.t 8), none⟩,
   ⟨some 10, .bin .neq (.t 7) (.t 9), none⟩])
 (.cond (.t 10)
  (.seq (.region [⟨some 4, .mv (.c (.bool false)), none⟩])
  .ret)
  .skip))
 (.seq (.seq (.region [⟨some 11, .mv (.t 0), none⟩,
   ⟨some 12, .len false (.t 11), none⟩,
   ⟨some 13, .mv (.c (.int .i64 0)), none⟩])
 (.block 0
  (.loop
   f22_c1)))
 f22_c0)))
def f22_lay : Lay := ⟨26, [], false⟩
def f22_res : List LRes := [.t 4]
def f22_L : LFn := ⟨2, f22_lay, f22_c2, f22_res⟩
theorem f22_low : lowFn Try.prog [] 22 = some f22_L := by kernel_rfl
theorem f22_fok : FnOk Try.prog 22 := ⟨_, Try.func22, rfl, rfl⟩
def f22_Q (a0 : List Int) (a1 : List Int) (o : Bool) : Exit → Env → AHeap → Nat → Prop := FinK f22_res (PureEnd (.bool o))

def f22_L1_env (a0 : List Int) (a1 : List Int) (s : Int) : Env := [(0, .isl 1 (a0.map e_i64) false), (1, .isl 1 (a1.map e_i64) false), (12, .int .i64 ((a0.map e_i64).length : Int)), (13, .int .i64 s)]
def f22_L1_hp (a0 : List Int) (a1 : List Int) (s : Int) : AHeap := []
def f22_L1_Q (a0 : List Int) (a1 : List Int) (o : Bool) : Exit → Env → AHeap → Nat → Prop := (QBlock 0 (QSeq Try.prog f22_lay 0 f22_c0 (f22_Q a0 a1 o)))

noncomputable def S_slices_Equal_int_j1 (m : Option Nat) : Option Bool :=
  some true

noncomputable def S_slices_Equal_int_b1 (m : Option Nat) (a0 : List Int) (a1 : List Int) (v1 : Int) : Option (Int ⊕ Bool) :=
  if (decide (v1 < ((a0.map e_i64).length : Int))) = true then
    if (0 : Int) ≤ v1 ∧ v1 < ((a0.map e_i64).length : Int) then
    if (0 : Int) ≤ v1 ∧ v1 < ((a1.map e_i64).length : Int) then
    if ((a0.getD v1.toNat default) != (a1.getD v1.toNat default)) = true then
      Option.map Sum.inr (
        some false)
    else
      some (.inl (W (v1 + 1)))
    else none
    else none
  else
    Option.map Sum.inr (
      S_slices_Equal_int_j1 m)

noncomputable def S_slices_Equal_int_l1 (m : Option Nat) (a0 : List Int) (a1 : List Int) (v1 : Int) : Option Bool := loopM m (fun (s : Int) => S_slices_Equal_int_b1 m a0 a1 s) v1

theorem f22_j1_ok {a0 : List Int} {a1 : List Int} {m : Option Nat} {o : Bool} (h : S_slices_Equal_int_j1 m = some o) :
    LWp Try.prog f22_lay 0 f22_c0 (f22_Q a0 a1 o) [] [] 0 := by
  unfold S_slices_Equal_int_j1 at h
  refine seqI ?_
  refine regI ?_
  refine retI ?_
  cases h
  exact And.intro trivial (And.intro rfl (Vw.same _ rfl))

theorem f22_L1_bok {a0 : List Int} {a1 : List Int} {v1 : Int} {m : Option Nat} {o : Int ⊕ Bool} (h : S_slices_Equal_int_b1 m a0 a1 v1 = some o) :
    LWp Try.prog f22_lay 0 f22_c1 (BodyQ 0 0 (f22_L1_env a0 a1) (f22_L1_hp a0 a1) (f22_L1_Q a0 a1) o) [(0, .isl 1 (a0.map e_i64) false), (1, .isl 1 (a1.map e_i64) false), (12, .int .i64 ((a0.map e_i64).length : Int)), (13, .int .i64 v1)] [] 0 := by
  unfold S_slices_Equal_int_b1 at h
  refine seqI ?_
  refine regI ?_
  refine seqI ?_
  refine condI (v := (decide (v1 < ((a0.map e_i64).length : Int)))) rfl trivial (fun h10 => ?_) (fun h10 => ?_)
  · have h := ite_tt h10 h
    refine skipI ?_
    refine seqI ?_
    refine blockI ?_
    refine seqI ?_
    refine regI ?_
    refine seqI ?_
    refine quietI ?_
    obtain ⟨h11, h⟩ := ite_some h
    refine And.intro h11 ?_
    show yqs _ _ [(18, .iptr 1 (a0.map e_i64) v1.toNat 0), (17, .int .i64 v1), (16, .isl 1 (a0.map e_i64) false), (5, .int .i64 v1), (15, .int .i64 v1), (14, .bool (decide (v1 < ((a0.map e_i64).length : Int)))), (0, .isl 1 (a0.map e_i64) false), (1, .isl 1 (a1.map e_i64) false), (12, .int .i64 ((a0.map e_i64).length : Int)), (13, .int .i64 v1)] _ _
    refine Exists.intro (e_i64 (a0.getD v1.toNat default)) (And.intro (getD_enc e_i64 _ _ (idx_ltL e_i64 h11)) (And.intro (And.intro (idx_lt h11) (Nat.le_of_ble_eq_true rfl)) ?_))
    obtain ⟨h12, h⟩ := ite_some h
    refine And.intro h12 ?_
    refine Exists.intro (e_i64 (a1.getD v1.toNat default)) (And.intro (getD_enc e_i64 _ _ (idx_ltL e_i64 h12)) (And.intro (And.intro (idx_lt h12) (Nat.le_of_ble_eq_true rfl)) ?_))
    refine LWp.sim (e := [(0, .isl 1 (a0.map e_i64) false), (1, .isl 1 (a1.map e_i64) false), (12, .int .i64 ((a0.map e_i64).length : Int)), (13, .int .i64 v1), (24, .bool ((a0.getD v1.toNat default) != (a1.getD v1.toNat default)))]) (L := []) (n := 0) ?_ ?_
    · exact simI (M := []) rfl (And.intro (Vw.same _ rfl) (And.intro (Vw.same _ rfl) (And.intro (Vw.same _ rfl) (And.intro (Vw.same _ rfl) (And.intro (Vw.same _ rfl) trivial))))) trivial
    refine condI (v := ((a0.getD v1.toNat default) != (a1.getD v1.toNat default))) rfl trivial (fun h13 => ?_) (fun h13 => ?_)
    · have h := ite_tt h13 h
      refine seqI ?_
      refine regI ?_
      refine retI ?_
      obtain ⟨o, hq, rfl⟩ := Option.map_eq_some_iff.1 h
      replace h := hq; clear hq
      refine And.intro nofun ?_
      cases h
      exact And.intro trivial (And.intro rfl (Vw.same _ rfl))
    · have h := ite_ff h13 h
      refine skipI ?_
      refine regI ?_
      cases h
      exact And.intro rfl (simI (M := []) rfl (And.intro (Vw.same _ rfl) (And.intro (Vw.same _ rfl) (And.intro (Vw.same _ rfl) (And.intro (Vw.same _ rfl) trivial)))) trivial)
  · have h := ite_ff h10 h
    refine exitI ?_
    obtain ⟨o, hq, rfl⟩ := Option.map_eq_some_iff.1 h
    replace h := hq; clear hq
    refine And.intro nofun ?_
    refine LWp.sim ?_ (f22_j1_ok h)
    exact simI (M := []) rfl trivial trivial

theorem f22_L1_ok {a0 : List Int} {a1 : List Int} {v1 : Int} {m : Option Nat} {o : Bool} (h : S_slices_Equal_int_l1 m a0 a1 v1 = some o) :
    LWp Try.prog f22_lay 0 (.loop f22_c1) (QBlock 0 (QSeq Try.prog f22_lay 0 f22_c0 (f22_Q a0 a1 o))) [(0, .isl 1 (a0.map e_i64) false), (1, .isl 1 (a1.map e_i64) false), (12, .int .i64 ((a0.map e_i64).length : Int)), (13, .int .i64 v1)] [] 0 :=
  LWp_loopM (m := m) (s := (v1 : Int)) (r := o) (fun (s : Int) => S_slices_Equal_int_b1 m a0 a1 s) (f22_L1_env a0 a1) (f22_L1_hp a0 a1) (f22_L1_Q a0 a1) (fun s o h => f22_L1_bok h) h

noncomputable def S_slices_Equal_int (m : Option Nat) (a0 : List Int) (a1 : List Int) : Option Bool :=
  if (((a0.map e_i64).length : Int) != ((a1.map e_i64).length : Int)) = true then
    some false
  else
    S_slices_Equal_int_l1 m a0 a1 0

theorem f22_start {a0 : List Int} {a1 : List Int} {m : Option Nat} {o : Bool} (h : S_slices_Equal_int m a0 a1 = some o) : LWp Try.prog f22_lay 0 f22_c2 (f22_Q a0 a1 o) (initEnv 0 [.isl 1 (a0.map e_i64) false, .isl 1 (a1.map e_i64) false]) [] 0 := by
  unfold S_slices_Equal_int at h
  refine seqI ?_
  refine regI ?_
  refine seqI ?_
  refine seqI ?_
  refine regI ?_
  refine condI (v := (((a0.map e_i64).length : Int) != ((a1.map e_i64).length : Int))) rfl trivial (fun h1 => ?_) (fun h1 => ?_)
  · have h := ite_tt h1 h
    refine seqI ?_
    refine regI ?_
    refine retI ?_
    cases h
    exact And.intro trivial (And.intro rfl (Vw.same _ rfl))
  · have h := ite_ff h1 h
    refine skipI ?_
    refine seqI ?_
    refine seqI ?_
    refine regI ?_
    refine LWp.sim (e := [(0, .isl 1 (a0.map e_i64) false), (1, .isl 1 (a1.map e_i64) false), (12, .int .i64 ((a0.map e_i64).length : Int)), (13, .int .i64 0)]) (L := []) (n := 0) ?_ ?_
    · exact simI (M := []) rfl (And.intro (Vw.same _ rfl) (And.intro (Vw.same _ rfl) (And.intro (Vw.same _ rfl) (And.intro (Vw.same _ rfl) trivial)))) trivial
    refine blockI ?_
    refine LWp.sim ?_ (f22_L1_ok h)
    exact simI (M := []) rfl (And.intro (Vw.same _ rfl) (And.intro (Vw.same _ rfl) (And.intro (Vw.same _ rfl) (And.intro (Vw.same _ rfl) trivial)))) trivial

theorem f22_ok {a0 : List Int} {a1 : List Int} {m : Option Nat} {o : Bool} (h : S_slices_Equal_int m a0 a1 = some o) : PFn Try.prog 22 [.isl 1 (a0.map e_i64) false, .isl 1 (a1.map e_i64) false] (.bool o) := PFn.ofFnW (L := f22_L) f22_low f22_fok (Nat.le_of_ble_eq_true rfl) rfl (f22_start h)

def f23b0_c2 : LCode := (.seq (.cond (.t 16)
  .skip
  (.exit 0))
 (.block 1
  (.seq (.region [⟨some 17, .entry (.t 14), none⟩,
    ⟨some 18, .ext 0 (.t 17), none⟩,
    ⟨some 19, .ext 1 (.t 17), none⟩,
    ⟨some 7, .alloc [(.int .i64 0), (.int .i64 0), (.bool false), (.isl 1 [] true)], none⟩,
    ⟨some 6, .mv (.t 18), none⟩,
    ⟨none, .store 4 (.t 7) (.t 19), none⟩])
  (.seq (.region [⟨some 20, .mv (.t 5), none⟩,
    ⟨some 21, .mv (.t 6), none⟩,
    ⟨some 22, .mnx true [(.t 20), (.t 21)], none⟩,
    ⟨some 5, .mv (.t 22), none⟩])
  (.seq (.region [⟨some 23, .faddr 2 (.t 7), none⟩,
    ⟨some 24, .load false 1 (.t 23), none⟩])
  (.cond (.t 24)
   (.region [⟨some 25, .mv (.t 6), none⟩,
     ⟨some 4, .mv (.t 25), none⟩])
   .skip))))))
def f23b0_c1 : LCode := (.seq (.region [⟨some 15, .next (.t 14), none⟩,
   ⟨some 16, .ext 0 (.t 15), none⟩])
 f23b0_c2)
def f23b0_c0 : LCode := (.seq (.region [⟨some 26, .mv (.t 4), none⟩,
   ⟨some 27, .mv (.t 5), none⟩,
   ⟨some 4, .mv (.t 26), none⟩,
   ⟨some 5, .mv (.t 27), none⟩])
 .ret)
def f23b0_c3 : LCode := (.seq (.region [⟨some 4, .mv (.c (.int .i64 0)), none⟩,
   ⟨some 5, .mv (.c (.int .i64 0)), none⟩])
 (.seq (.region [⟨some 4, .mv (.c (.int .i64 (-1))), none⟩,
   ⟨some 5, .mv (.c (.int .i64 (-1))), none⟩])
 (.seq (.seq (.region [⟨some 8, .mv (.t 0), none⟩,
   ⟨some 9, .nilck (.t 8), none⟩,
   ⟨some 10, .faddr 0 (.t 9), none⟩,
   ⟨some 11, .load false 1 (.t 10), none⟩,
   ⟨some 12, .mv (.t 1), none⟩,
   ⟨some 13, .mlook [.int] false false false [(.val (.map none))] (.t 11) (.t 12), none⟩,
   ⟨some 14, .range (.t 13), none⟩])
 (.block 0
  (.loop
   f23b0_c1)))
 f23b0_c0)))
def f23b0_lay : Lay := ⟨28, [], false⟩
def f23b0_res : List LRes := [.t 4, .t 5]
def f23b0_L : LFn := ⟨2, f23b0_lay, f23b0_c3, f23b0_res⟩
theorem f23b0_low : lowFn Try.prog [] 23 = some f23b0_L := by kernel_rfl
theorem f23b0_fok : FnOk Try.prog 23 := ⟨_, Try.func23, rfl, rfl⟩
def f23b0_Q {σ : Type} (Hc : σ → AHeap) (a0 : Int) (a1 : List (Int × Ref)) (a2 : List (Int × G_QChunk)) (z0 : σ) (o : Int × Int × σ) : Exit → Env → AHeap → Nat → Prop := FinK f23b0_res (FinTo 3 4 (.tup [.int .i64 o.1, .int .i64 o.2.1]) ([((0, 0), .one [.map (0, 1)]), ((0, 1), .amap (a1.map (em a_i64 (eR (some (0, 2)))))), ((0, 2), .amap (a2.map (em a_i64 a_QChunk)))] ++ up 3 (Hc o.2.2)))

def f23b0_L1_env {σ : Type} (Hc : σ → AHeap) (arr1 : Array MapEntry) (ck1 : Nat) (a1 : List (Int × Ref)) (a2 : List (Int × G_QChunk)) (z0 : σ) (seen2 : List Nat) (s : (Int × Int)) : Env := [(4, .int .i64 s.1), (5, .int .i64 s.2), (14, .ptr (4, 0) 0 0)]
def f23b0_L1_hp {σ : Type} (Hc : σ → AHeap) (arr1 : Array MapEntry) (ck1 : Nat) (a1 : List (Int × Ref)) (a2 : List (Int × G_QChunk)) (z0 : σ) (seen2 : List Nat) (s : (Int × Int)) : AHeap := ([((0, 0), .one [.map (0, 1)]), ((0, 1), .amap (a1.map (em a_i64 (eR (some (0, 2)))))), ((0, 2), .rmap (a2.map (em a_i64 a_QChunk)) arr1 ck1), ((4, 0), .itr (some (0, 2)) arr1 ck1 seen2)] ++ up 3 (Hc z0))
def f23b0_L1_Q {σ : Type} (Hc : σ → AHeap) (a0 : Int) (a1 : List (Int × Ref)) (a2 : List (Int × G_QChunk)) (z0 : σ) (o : (Int × Int × σ)) : Exit → Env → AHeap → Nat → Prop := (QBlock 0 (QSeq Try.prog f23b0_lay 3 f23b0_c0 (f23b0_Q Hc a0 a1 a2 z0 o)))

noncomputable def S_progress_Assembler_bounds_j1 {σ : Type} (m : Option Nat) (a1 : List (Int × Ref)) (a2 : List (Int × G_QChunk)) (v1 : Int) (v2 : Int) (z0 : σ) : Option (Int × Int × σ) :=
  some (v1, v2, z0)

noncomputable def S_progress_Assembler_bounds_d1 {σ : Type} (m : Option Nat) (a1 : List (Int × Ref)) (a2 : List (Int × G_QChunk)) (z0 : σ) (v1 : Int) (v2 : Int) : Option ((Int × Int) ⊕ (Int × Int × σ)) :=
  Option.map Sum.inr (
    S_progress_Assembler_bounds_j1 m a1 a2 v1 v2 z0)

noncomputable def S_progress_Assembler_bounds_b1 {σ : Type} (m : Option Nat) (a1 : List (Int × Ref)) (a2 : List (Int × G_QChunk)) (z0 : σ) (v1 : Int) (v2 : Int) (v3 : Nat) : Option ((Int × Int) ⊕ (Int × Int × σ)) :=
  if ((a2.getD v3 default).2).f_Last = true then
    some (.inl ((a2.getD v3 default).1, (if (a2.getD v3 default).1 > v2 then (a2.getD v3 default).1 else v2)))
  else
    some (.inl (v1, (if (a2.getD v3 default).1 > v2 then (a2.getD v3 default).1 else v2)))

noncomputable def S_progress_Assembler_bounds_l1 {σ : Type} (m : Option Nat) (a1 : List (Int × Ref)) (a2 : List (Int × G_QChunk)) (z0 : σ) (v1 : Int) (v2 : Int) : Option (Int × Int × σ) := rangeF a2.length (fun j (s : (Int × Int)) => S_progress_Assembler_bounds_b1 m a1 a2 z0 s.1 s.2 j) (fun s => S_progress_Assembler_bounds_d1 m a1 a2 z0 s.1 s.2) (a2.length + 1) [] (v1, v2)

theorem f23b0_j1_ok {σ : Type} {Hc : σ → AHeap} (ht : ∀ s, Tl (Hc s)) {a0 : Int} {a1 : List (Int × Ref)} {a2 : List (Int × G_QChunk)} {v1 : Int} {v2 : Int} {z0 : σ} {m : Option Nat} {o : (Int × Int × σ)} (h : S_progress_Assembler_bounds_j1 m a1 a2 v1 v2 z0 = some o) :
    LWp Try.prog f23b0_lay 3 f23b0_c0 (f23b0_Q Hc a0 a1 a2 z0 o) [(4, .int .i64 v1), (5, .int .i64 v2)] ([((0, 0), .one [.map (0, 1)]), ((0, 1), .amap (a1.map (em a_i64 (eR (some (0, 2)))))), ((0, 2), .amap (a2.map (em a_i64 a_QChunk)))] ++ up 3 (Hc z0)) 4 := by
  unfold S_progress_Assembler_bounds_j1 at h
  refine seqI ?_
  refine regI ?_
  refine retI ?_
  cases h
  exact And.intro trivial (And.intro trivial (finT (n' := 4) (q := 3) (lit' := [((0, 0), .one [.map (0, 1)]), ((0, 1), .amap (a1.map (em a_i64 (eR (some (0, 2)))))), ((0, 2), .amap (a2.map (em a_i64 a_QChunk)))]) (ht _) [] [] rfl rfl (Vw.same _ rfl) (And.intro (And.intro rfl (BVw.oneL (And.intro (Vw.map _ _ rfl) trivial))) (And.intro (And.intro rfl (BVw.refmF a_i64_nid a1 rfl rfl (rhoT_1 (chkT_ok (n := 4) (q := 3) (lit' := [((0, 0), .one [.map (0, 1)]), ((0, 1), .amap (a1.map (em a_i64 (eR (some (0, 2)))))), ((0, 2), .amap (a2.map (em a_i64 a_QChunk)))]) rfl)))) (And.intro (And.intro rfl (BVw.ofMap a_i64 a_QChunk a_QChunk_nid a2)) trivial)))))

theorem f23b0_L1_bok {arr1 : Array MapEntry} {ck1 : Nat} {seen2 : List Nat} {σ : Type} {Hc : σ → AHeap} (ht : ∀ s, Tl (Hc s)) {a0 : Int} {a1 : List (Int × Ref)} {a2 : List (Int × G_QChunk)} {z0 : σ} {v1 : Int} {v2 : Int} {m : Option Nat} {k : Nat} {o : (Int × Int × σ)} (h : rangeF a2.length (fun j (s : (Int × Int)) => S_progress_Assembler_bounds_b1 m a1 a2 z0 s.1 s.2 j) (fun s => S_progress_Assembler_bounds_d1 m a1 a2 z0 s.1 s.2) (k + 1) seen2 (v1, v2) = some o) :
    LWp Try.prog f23b0_lay 3 f23b0_c1 (BodyF 3 5 (rangeF a2.length (fun j (s : (Int × Int)) => S_progress_Assembler_bounds_b1 m a1 a2 z0 s.1 s.2 j) (fun s => S_progress_Assembler_bounds_d1 m a1 a2 z0 s.1 s.2)) (f23b0_L1_env Hc arr1 ck1 a1 a2 z0) (f23b0_L1_hp Hc arr1 ck1 a1 a2 z0) (f23b0_L1_Q Hc a0 a1 a2 z0) k o) [(4, .int .i64 v1), (5, .int .i64 v2), (14, .ptr (4, 0) 0 0)] ([((0, 0), .one [.map (0, 1)]), ((0, 1), .amap (a1.map (em a_i64 (eR (some (0, 2)))))), ((0, 2), .rmap (a2.map (em a_i64 a_QChunk)) arr1 ck1), ((4, 0), .itr (some (0, 2)) arr1 ck1 seen2)] ++ up 3 (Hc z0)) 5 := by
  refine seqI ?_
  refine regI ?_
  refine And.intro (And.intro rfl rfl) (And.intro (fun h6 => ?_) (fun v3 h4 h5 => ?_))
  · obtain ⟨o2, h, hm, hr⟩ := rangeF_done h (fun j hj => h6 j (len_lt hj))
    unfold S_progress_Assembler_bounds_d1 at h
    refine LWp.mono ?_ (BodyQ_F hm hr)
    refine seqI ?_
    refine condI (v := false) rfl trivial (fun hc => Bool.noConfusion hc) (fun hc => ?_)
    refine exitI ?_
    obtain ⟨o, hq, rfl⟩ := Option.map_eq_some_iff.1 h
    replace h := hq; clear hq
    refine And.intro nofun ?_
    refine LWp.sim ?_ (f23b0_j1_ok ht h)
    exact simT (M := []) (lit' := [((0, 0), .one [.map (0, 1)]), ((0, 1), .amap (a1.map (em a_i64 (eR (some (0, 2)))))), ((0, 2), .rmap (a2.map (em a_i64 a_QChunk)) arr1 ck1), ((4, 0), .itr (some (0, 2)) arr1 ck1 seen2)]) (ht _) rfl (And.intro (Vw.same _ rfl) (And.intro (Vw.same _ rfl) trivial)) (And.intro (And.intro rfl (BVw.oneL (And.intro (Vw.map _ _ rfl) trivial))) (And.intro (And.intro rfl (BVw.refmF a_i64_nid a1 rfl rfl (rhoT_1 (chkT_ok (n := 4) (q := 3) (lit' := [((0, 0), .one [.map (0, 1)]), ((0, 1), .amap (a1.map (em a_i64 (eR (some (0, 2)))))), ((0, 2), .rmap (a2.map (em a_i64 a_QChunk)) arr1 ck1), ((4, 0), .itr (some (0, 2)) arr1 ck1 seen2)]) rfl)))) (And.intro (And.intro rfl (BVw.ofRmapA a_i64 a_QChunk a_QChunk_nid a2)) trivial)))
  · obtain ⟨o2, h, hm, hr⟩ := rangeF_more h (lt_len h4) h5
    unfold S_progress_Assembler_bounds_b1 at h
    refine LWp.mono ?_ (BodyQ_F hm hr)
    refine seqI ?_
    refine condI (v := true) rfl trivial (fun hc => ?_) (fun hc => Bool.noConfusion hc)
    refine skipI ?_
    refine blockI ?_
    refine seqI ?_
    refine regI ?_
    refine And.intro (And.intro rfl rfl) (Exists.intro ((em a_i64 a_QChunk) (a2.getD v3 default)) (And.intro (ent_enc h4) ?_))
    refine seqI ?_
    refine regI ?_
    refine LWp.sim (e := [(4, .int .i64 v1), (5, .int .i64 (if (a2.getD v3 default).1 > v2 then (a2.getD v3 default).1 else v2)), (6, .int .i64 ((a2.getD v3 default).1)), (7, .ptr (4, 0) 0 0), (14, .ptr (5, 0) 0 0)]) (L := ([((0, 0), .one [.map (0, 1)]), ((0, 1), .amap (a1.map (em a_i64 (eR (some (0, 2)))))), ((0, 2), .rmap (a2.map (em a_i64 a_QChunk)) arr1 ck1), ((4, 0), .one [.int .i64 (((a2.getD v3 default).2).f_Token), .int .i64 (((a2.getD v3 default).2).f_Seq), .bool (((a2.getD v3 default).2).f_Last), .isl 1 ((((a2.getD v3 default).2).f_Items).map e_i64) false]), ((5, 0), .itr (some (0, 2)) arr1 ck1 (v3 :: seen2))] ++ up 3 (Hc z0))) (n := 6) ?_ ?_
    · exact simT (M := [((4, 0), (5, 0)), ((5, 0), (4, 0))]) (lit' := [((5, 0), .one [.int .i64 (((a2.getD v3 default).2).f_Token), .int .i64 (((a2.getD v3 default).2).f_Seq), .bool (((a2.getD v3 default).2).f_Last), .isl 1 ((((a2.getD v3 default).2).f_Items).map e_i64) false]), ((0, 0), .one [.map (0, 1)]), ((0, 1), .amap (a1.map (em a_i64 (eR (some (0, 2)))))), ((0, 2), .rmap (a2.map (em a_i64 a_QChunk)) arr1 ck1), ((4, 0), .itr (some (0, 2)) arr1 ck1 (v3 :: seen2))]) (ht _) rfl (And.intro (Vw.same _ rfl) (And.intro (Vw.same _ rfl) (And.intro (Vw.same _ rfl) (And.intro (Vw.ptr _ _ _ _ rfl) (And.intro (Vw.ptr _ _ _ _ rfl) trivial))))) (And.intro (And.intro rfl (BVw.oneL (And.intro (Vw.map _ _ rfl) trivial))) (And.intro (And.intro rfl (BVw.refmF a_i64_nid a1 rfl rfl (rhoT_1 (chkT_ok (n := 6) (q := 3) (lit' := [((5, 0), .one [.int .i64 (((a2.getD v3 default).2).f_Token), .int .i64 (((a2.getD v3 default).2).f_Seq), .bool (((a2.getD v3 default).2).f_Last), .isl 1 ((((a2.getD v3 default).2).f_Items).map e_i64) false]), ((0, 0), .one [.map (0, 1)]), ((0, 1), .amap (a1.map (em a_i64 (eR (some (0, 2)))))), ((0, 2), .rmap (a2.map (em a_i64 a_QChunk)) arr1 ck1), ((4, 0), .itr (some (0, 2)) arr1 ck1 (v3 :: seen2))]) rfl)))) (And.intro (And.intro rfl (BVw.ofRmap a_i64 a_QChunk a_QChunk_nid a2)) (And.intro (And.intro rfl (BVw.oneL (And.intro (Vw.same _ rfl) (And.intro (Vw.same _ rfl) (And.intro (Vw.same _ rfl) (And.intro (Vw.same _ rfl) trivial)))))) (And.intro (And.intro rfl (BVw.itr _ _ _ _ _ rfl)) trivial)))))
    refine seqI ?_
    refine regI ?_
    refine condI (v := ((a2.getD v3 default).2).f_Last) rfl trivial (fun h7 => ?_) (fun h7 => ?_)
    · have h := ite_tt h7 h
      refine regI ?_
      cases h
      exact And.intro rfl (simT (M := [((4, 0), (5, 0))]) (lit' := [((0, 0), .one [.map (0, 1)]), ((0, 1), .amap (a1.map (em a_i64 (eR (some (0, 2)))))), ((0, 2), .rmap (a2.map (em a_i64 a_QChunk)) arr1 ck1), ((4, 0), .one [.int .i64 (((a2.getD v3 default).2).f_Token), .int .i64 (((a2.getD v3 default).2).f_Seq), .bool (((a2.getD v3 default).2).f_Last), .isl 1 ((((a2.getD v3 default).2).f_Items).map e_i64) false]), ((5, 0), .itr (some (0, 2)) arr1 ck1 (v3 :: seen2))]) (ht _) rfl (And.intro (Vw.same _ rfl) (And.intro (Vw.same _ rfl) (And.intro (Vw.ptr _ _ _ _ rfl) trivial))) (And.intro (And.intro rfl (BVw.oneL (And.intro (Vw.map _ _ rfl) trivial))) (And.intro (And.intro rfl (BVw.refmF a_i64_nid a1 rfl rfl (rhoT_1 (chkT_ok (n := 5) (q := 3) (lit' := [((0, 0), .one [.map (0, 1)]), ((0, 1), .amap (a1.map (em a_i64 (eR (some (0, 2)))))), ((0, 2), .rmap (a2.map (em a_i64 a_QChunk)) arr1 ck1), ((4, 0), .one [.int .i64 (((a2.getD v3 default).2).f_Token), .int .i64 (((a2.getD v3 default).2).f_Seq), .bool (((a2.getD v3 default).2).f_Last), .isl 1 ((((a2.getD v3 default).2).f_Items).map e_i64) false]), ((5, 0), .itr (some (0, 2)) arr1 ck1 (v3 :: seen2))]) rfl)))) (And.intro (And.intro rfl (BVw.ofRmap a_i64 a_QChunk a_QChunk_nid a2)) (And.intro (And.intro rfl (BVw.itr _ _ _ _ _ rfl)) trivial)))))
    · have h := ite_ff h7 h
      refine skipI ?_
      cases h
      exact And.intro rfl (simT (M := [((4, 0), (5, 0))]) (lit' := [((0, 0), .one [.map (0, 1)]), ((0, 1), .amap (a1.map (em a_i64 (eR (some (0, 2)))))), ((0, 2), .rmap (a2.map (em a_i64 a_QChunk)) arr1 ck1), ((4, 0), .one [.int .i64 (((a2.getD v3 default).2).f_Token), .int .i64 (((a2.getD v3 default).2).f_Seq), .bool (((a2.getD v3 default).2).f_Last), .isl 1 ((((a2.getD v3 default).2).f_Items).map e_i64) false]), ((5, 0), .itr (some (0, 2)) arr1 ck1 (v3 :: seen2))]) (ht _) rfl (And.intro (Vw.same _ rfl) (And.intro (Vw.same _ rfl) (And.intro (Vw.ptr _ _ _ _ rfl) trivial))) (And.intro (And.intro rfl (BVw.oneL (And.intro (Vw.map _ _ rfl) trivial))) (And.intro (And.intro rfl (BVw.refmF a_i64_nid a1 rfl rfl (rhoT_1 (chkT_ok (n := 5) (q := 3) (lit' := [((0, 0), .one [.map (0, 1)]), ((0, 1), .amap (a1.map (em a_i64 (eR (some (0, 2)))))), ((0, 2), .rmap (a2.map (em a_i64 a_QChunk)) arr1 ck1), ((4, 0), .one [.int .i64 (((a2.getD v3 default).2).f_Token), .int .i64 (((a2.getD v3 default).2).f_Seq), .bool (((a2.getD v3 default).2).f_Last), .isl 1 ((((a2.getD v3 default).2).f_Items).map e_i64) false]), ((5, 0), .itr (some (0, 2)) arr1 ck1 (v3 :: seen2))]) rfl)))) (And.intro (And.intro rfl (BVw.ofRmap a_i64 a_QChunk a_QChunk_nid a2)) (And.intro (And.intro rfl (BVw.itr _ _ _ _ _ rfl)) trivial)))))

theorem f23b0_L1_ok {arr1 : Array MapEntry} {ck1 : Nat} {σ : Type} {Hc : σ → AHeap} (ht : ∀ s, Tl (Hc s)) {a0 : Int} {a1 : List (Int × Ref)} {a2 : List (Int × G_QChunk)} {z0 : σ} {v1 : Int} {v2 : Int} {m : Option Nat} {o : (Int × Int × σ)} (h : S_progress_Assembler_bounds_l1 m a1 a2 z0 v1 v2 = some o) :
    LWp Try.prog f23b0_lay 3 (.loop f23b0_c1) (QBlock 0 (QSeq Try.prog f23b0_lay 3 f23b0_c0 (f23b0_Q Hc a0 a1 a2 z0 o))) [(4, .int .i64 v1), (5, .int .i64 v2), (14, .ptr (4, 0) 0 0)] ([((0, 0), .one [.map (0, 1)]), ((0, 1), .amap (a1.map (em a_i64 (eR (some (0, 2)))))), ((0, 2), .rmap (a2.map (em a_i64 a_QChunk)) arr1 ck1), ((4, 0), .itr (some (0, 2)) arr1 ck1 [])] ++ up 3 (Hc z0)) 5 :=
  LWp_range (s := ((v1, v2) : (Int × Int))) (rangeF a2.length (fun j (s : (Int × Int)) => S_progress_Assembler_bounds_b1 m a1 a2 z0 s.1 s.2 j) (fun s => S_progress_Assembler_bounds_d1 m a1 a2 z0 s.1 s.2)) (f23b0_L1_env Hc arr1 ck1 a1 a2 z0) (f23b0_L1_hp Hc arr1 ck1 a1 a2 z0) (f23b0_L1_Q Hc a0 a1 a2 z0) (fun _ _ _ h => rangeF_zero h) (fun k sn s r h => f23b0_L1_bok ht (v1 := s.1) (v2 := s.2) h) h

noncomputable def S_progress_Assembler_bounds {σ : Type} (m : Option Nat) (a0 : Int) (a1 : List (Int × Ref)) (a2 : List (Int × G_QChunk)) (z0 : σ) : Option (Int × Int × σ) :=
  if lk q_i64 a1 a0 = some Ref.foc then
  S_progress_Assembler_bounds_l1 m a1 a2 z0 (-1) (-1)
  else none

theorem f23b0_start {σ : Type} {Hc : σ → AHeap} (ht : ∀ s, Tl (Hc s)) {a0 : Int} {a1 : List (Int × Ref)} {a2 : List (Int × G_QChunk)} {z0 : σ} {m : Option Nat} {o : Int × Int × σ} (h : S_progress_Assembler_bounds m a0 a1 a2 z0 = some o) : LWp Try.prog f23b0_lay 3 f23b0_c3 (f23b0_Q Hc a0 a1 a2 z0 o) (initEnv 0 [.ptr (0, 0) 0 0, .int .i64 a0]) ([((0, 0), .one [.map (0, 1)]), ((0, 1), .amap (a1.map (em a_i64 (eR (some (0, 2)))))), ((0, 2), .amap (a2.map (em a_i64 a_QChunk)))] ++ Hc z0) 3 := by
  unfold S_progress_Assembler_bounds at h
  refine LWp.sim (e := [(0, .ptr (0, 0) 0 0), (1, .int .i64 a0)]) (L := ([((0, 0), .one [.map (0, 1)]), ((0, 1), .amap (a1.map (em a_i64 (eR (some (0, 2)))))), ((0, 2), .amap (a2.map (em a_i64 a_QChunk)))] ++ up 3 (Hc z0))) (n := 4) (entryT (T := Hc z0) (e' := initEnv 0 [.ptr (0, 0) 0 0, .int .i64 a0]) (e := [(0, .ptr (0, 0) 0 0), (1, .int .i64 a0)]) (lit' := [((0, 0), .one [.map (0, 1)]), ((0, 1), .amap (a1.map (em a_i64 (eR (some (0, 2)))))), ((0, 2), .amap (a2.map (em a_i64 a_QChunk)))]) (lit := [((0, 0), .one [.map (0, 1)]), ((0, 1), .amap (a1.map (em a_i64 (eR (some (0, 2)))))), ((0, 2), .amap (a2.map (em a_i64 a_QChunk)))]) (ht z0) rfl rfl (And.intro (Vw.ptr _ _ _ _ rfl) (And.intro (Vw.same _ rfl) trivial)) (And.intro (And.intro rfl (BVw.oneL (And.intro (Vw.map _ _ rfl) trivial))) (And.intro (And.intro rfl (BVw.refmF a_i64_nid a1 rfl rfl (rhoE_1 _))) (And.intro (And.intro rfl (BVw.ofMap a_i64 a_QChunk a_QChunk_nid a2)) trivial)))) ?_
  refine seqI ?_
  refine regI ?_
  refine seqI ?_
  refine regI ?_
  refine seqI ?_
  refine seqI ?_
  refine regI ?_
  obtain ⟨h1, h⟩ := ite_some h
  refine Exists.intro (.map (0, 2)) (And.intro (mlookF (ek := a_i64) q_i64_ok h1) (And.intro (mfind_some (ek := a_i64) (ev := eR (some (0, 2))) q_i64_ok _ _) ?_))
  refine fun arr1 ck1 => ?_
  show yops _ _ _ [(14, .ptr (4, 0) 0 0), (13, .map (0, 2)), (12, .int .i64 a0), (11, .map (0, 1)), (10, .ptr (0, 0) 0 0), (9, .ptr (0, 0) 0 0), (8, .ptr (0, 0) 0 0), (5, .int .i64 (-1)), (4, .int .i64 (-1)), (5, .int .i64 0), (4, .int .i64 0), (0, .ptr (0, 0) 0 0), (1, .int .i64 a0)] _ _
  refine LWp.sim (e := [(4, .int .i64 (-1)), (5, .int .i64 (-1)), (14, .ptr (4, 0) 0 0)]) (L := ([((0, 0), .one [.map (0, 1)]), ((0, 1), .amap (a1.map (em a_i64 (eR (some (0, 2)))))), ((0, 2), .rmap (a2.map (em a_i64 a_QChunk)) arr1 ck1), ((4, 0), .itr (some (0, 2)) arr1 ck1 [])] ++ up 3 (Hc z0))) (n := 5) ?_ ?_
  · exact simT (M := [((4, 0), (4, 0))]) (lit' := [((4, 0), .itr (some (0, 2)) arr1 ck1 []), ((0, 0), .one [.map (0, 1)]), ((0, 1), .amap (a1.map (em a_i64 (eR (some (0, 2)))))), ((0, 2), .rmap (a2.map (em a_i64 a_QChunk)) arr1 ck1)]) (ht _) rfl (And.intro (Vw.same _ rfl) (And.intro (Vw.same _ rfl) (And.intro (Vw.ptr _ _ _ _ rfl) trivial))) (And.intro (And.intro rfl (BVw.oneL (And.intro (Vw.map _ _ rfl) trivial))) (And.intro (And.intro rfl (BVw.refmF a_i64_nid a1 rfl rfl (rhoT_1 (chkT_ok (n := 5) (q := 3) (lit' := [((4, 0), .itr (some (0, 2)) arr1 ck1 []), ((0, 0), .one [.map (0, 1)]), ((0, 1), .amap (a1.map (em a_i64 (eR (some (0, 2)))))), ((0, 2), .rmap (a2.map (em a_i64 a_QChunk)) arr1 ck1)]) rfl)))) (And.intro (And.intro rfl (BVw.ofRmap a_i64 a_QChunk a_QChunk_nid a2)) (And.intro (And.intro rfl (BVw.itr _ _ _ _ _ rfl)) trivial))))
  refine blockI ?_
  refine LWp.sim ?_ (f23b0_L1_ok ht (arr1 := arr1) (ck1 := ck1) h)
  exact simT (M := [((4, 0), (4, 0))]) (lit' := [((0, 0), .one [.map (0, 1)]), ((0, 1), .amap (a1.map (em a_i64 (eR (some (0, 2)))))), ((0, 2), .rmap (a2.map (em a_i64 a_QChunk)) arr1 ck1), ((4, 0), .itr (some (0, 2)) arr1 ck1 [])]) (ht _) rfl (And.intro (Vw.same _ rfl) (And.intro (Vw.same _ rfl) (And.intro (Vw.ptr _ _ _ _ rfl) trivial))) (And.intro (And.intro rfl (BVw.oneL (And.intro (Vw.map _ _ rfl) trivial))) (And.intro (And.intro rfl (BVw.refmF a_i64_nid a1 rfl rfl (rhoT_1 (chkT_ok (n := 5) (q := 3) (lit' := [((0, 0), .one [.map (0, 1)]), ((0, 1), .amap (a1.map (em a_i64 (eR (some (0, 2)))))), ((0, 2), .rmap (a2.map (em a_i64 a_QChunk)) arr1 ck1), ((4, 0), .itr (some (0, 2)) arr1 ck1 [])]) rfl)))) (And.intro (And.intro rfl (BVw.ofRmap a_i64 a_QChunk a_QChunk_nid a2)) (And.intro (And.intro rfl (BVw.itr _ _ _ _ _ rfl)) trivial))))

theorem f23b0_ok {σ : Type} {Hc : σ → AHeap} (ht : ∀ s, Tl (Hc s)) {a0 : Int} {a1 : List (Int × Ref)} {a2 : List (Int × G_QChunk)} {z0 : σ} {m : Option Nat} {o : Int × Int × σ} (h : S_progress_Assembler_bounds m a0 a1 a2 z0 = some o) : ACalls Try.prog 23 [.ptr (0, 0) 0 0, .int .i64 a0] ([((0, 0), .one [.map (0, 1)]), ((0, 1), .amap (a1.map (em a_i64 (eR (some (0, 2)))))), ((0, 2), .amap (a2.map (em a_i64 a_QChunk)))] ++ Hc z0) 3 (Gives 4 (.tup [.int .i64 o.1, .int .i64 o.2.1]) ([((0, 0), .one [.map (0, 1)]), ((0, 1), .amap (a1.map (em a_i64 (eR (some (0, 2)))))), ((0, 2), .amap (a2.map (em a_i64 a_QChunk)))] ++ up 3 (Hc o.2.2))) := bfn_of (L := f23b0_L) f23b0_low f23b0_fok (Nat.le_of_ble_eq_true rfl) (f23b0_start ht h)

def f20_c0 : LCode := (.seq (.region [⟨some 2, .mv (.c (.val (.slice none 0 0))), none⟩])
 (.seq (.seq (.region [⟨some 3, .mv (.t 0), none⟩,
   ⟨some 4, .eq false .slice (.t 3) (.c (.val (.slice none 0 0))), none⟩])
 (.cond (.t 4)
  (.seq (.region [⟨some 2, .mv (.c (.val (.slice none 0 0))), none⟩])
  .ret)
  .skip))
 (.seq (.region [⟨some 5, .mkSl true 1 [(.int .i64 0)] 0 [], none⟩,
   ⟨some 6, .mv (.t 0), none⟩,
   ⟨some 7, .app true 1 8 (.t 5) (.t 6), none⟩,
   ⟨some 2, .mv (.t 7), none⟩])
 .ret)))
def f20_lay : Lay := ⟨8, [], false⟩
def f20_res : List LRes := [.t 2]
def f20_L : LFn := ⟨1, f20_lay, f20_c0, f20_res⟩
theorem f20_low : lowFn Try.prog [] 20 = some f20_L := by kernel_rfl
theorem f20_fok : FnOk Try.prog 20 := ⟨_, Try.func20, rfl, rfl⟩
noncomputable def S_slices_Clone_int (m : Option Nat) (a0 : List Int) : Option (List Int) :=
  if (a0.map e_i64) ≠ [] then
  if ((([] : List Int) ++ a0).map e_i64).length * 8 ≤ 140737488355328 then
  some (([] : List Int) ++ a0)
  else none
  else none

def f20_Q (a0 : List Int) (o : (List Int)) : Exit → Env → AHeap → Nat → Prop := FinK f20_res (PureEnd (.isl 1 (o.map e_i64) false))

theorem f20_start {a0 : List Int} {m : Option Nat} {o : (List Int)} (h : S_slices_Clone_int m a0 = some o) : LWp Try.prog f20_lay 0 f20_c0 (f20_Q a0 o) (initEnv 0 [.isl 1 (a0.map e_i64) false]) [] 0 := by
  unfold S_slices_Clone_int at h
  refine seqI ?_
  refine regI ?_
  refine seqI ?_
  refine seqI ?_
  refine regI ?_
  obtain ⟨h1, h⟩ := ite_some h
  refine And.intro h1 ?_
  refine condI (v := false) rfl trivial (fun hc => Bool.noConfusion hc) (fun hc => ?_)
  refine skipI ?_
  refine seqI ?_
  refine regI ?_
  obtain ⟨h2, h⟩ := ite_some h
  refine Exists.intro ((([] : List Int) ++ a0).map e_i64) (And.intro (app_enc e_i64 ([] : List Int) a0) (And.intro (And.intro rfl h2) ?_))
  refine retI ?_
  cases h
  exact And.intro trivial (And.intro rfl (Vw.oslI _ _ _))

theorem f20_ok {a0 : List Int} {m : Option Nat} {o : (List Int)} (h : S_slices_Clone_int m a0 = some o) : PFn Try.prog 20 [.isl 1 (a0.map e_i64) false] (.isl 1 (o.map e_i64) false) := PFn.ofFnW (L := f20_L) f20_low f20_fok (Nat.le_of_ble_eq_true rfl) rfl (f20_start h)

noncomputable def S_slices_Clone_intE (m : Option Nat) : List Int → Option (List Int)
  | [] => some []
  | x :: r => S_slices_Clone_int m (x :: r)
theorem f20_okE {m : Option Nat} {a0 o : List Int} (h : S_slices_Clone_intE m a0 = some o) : PFn Try.prog 20 [(.isl 1 (a0.map e_i64) false)] (.isl 1 (o.map e_i64) false) := by
  cases a0 with
  | nil =>
    cases h
    exact sclone_nil (c := 3) (zs := [(.int .i64 0)]) (b := 8) f20_fok Try.func20 ⟨_, _, _, _, _, _, _, _, _, _, _, _, _, _, _, _, _, _, _, _, _, _, _, _, _, _, _, _, rfl, rfl, rfl⟩ (by kernel_rfl) (by kernel_rfl) (by kernel_rfl) (by kernel_rfl) (by decide) (by decide) rfl
  | cons x r => exact f20_ok (m := m) h

def f13b0_c0 : LCode := (.seq (.region [⟨some 3, .box (.t 1), none⟩,
   ⟨some 4, .mv (.c (.bool false)), none⟩,
   ⟨some 5, .mv (.c (.int .i64 0)), none⟩])
 (.seq (.block 0
  (.seq (.region [⟨some 11, .faddr 0 (.t 3), none⟩,
    ⟨some 12, .load false 1 (.t 11), none⟩,
    ⟨some 13, .bin .lss (.t 12) (.c (.int .i64 0)), none⟩,
    ⟨some 14, .mv (.t 13), none⟩,
    ⟨some 15, .faddr 1 (.t 3), some (14, false)⟩,
    ⟨some 16, .load false 1 (.t 15), some (14, false)⟩,
    ⟨some 17, .bin .lss (.t 16) (.c (.int .i64 0)), some (14, false)⟩,
    ⟨some 18, .pick (.t 14) (.c (.bool true)) (.t 17), none⟩,
    ⟨some 19, .mv (.t 18), none⟩,
    ⟨some 20, .faddr 1 (.t 3), some (19, false)⟩,
    ⟨some 21, .load false 1 (.t 20), some (19, false)⟩,
    ⟨some 22, .bin .geq (.t 21) (.c (.int .i64 1000)), some (19, false)⟩,
    ⟨some 23, .pick (.t 19) (.c (.bool true)) (.t 22), none⟩,
    ⟨some 10, .mv (.t 23), none⟩])
  (.cond (.t 10)
   (.seq (.region [⟨some 4, .mv (.c (.bool false)), none⟩,
     ⟨some 5, .mv (.c (.int .i64 1)), none⟩])
   .ret)
   (.seq (.region [⟨some 25, .faddr 3 (.t 3), none⟩,
     ⟨some 26, .load false 1 (.t 25), none⟩,
     ⟨some 27, .len false (.t 26), none⟩,
     ⟨some 28, .bin .gtr (.t 27) (.c (.int .i64 1000)), none⟩,
     ⟨some 24, .mv (.t 28), none⟩])
   (.cond (.t 24)
    (.seq (.region [⟨some 4, .mv (.c (.bool false)), none⟩,
      ⟨some 5, .mv (.c (.int .i64 2)), none⟩])
    .ret)
    .skip)))))
 (.seq (.seq (.draw [⟨⟨some 30, .mv (.t 0), none⟩, []⟩,
   ⟨⟨some 31, .nilck (.t 30), none⟩, []⟩,
   ⟨⟨some 32, .faddr 0 (.t 31), none⟩, []⟩,
   ⟨⟨some 33, .load false 1 (.t 32), none⟩, []⟩,
   ⟨⟨some 34, .faddr 0 (.t 3), none⟩, []⟩,
   ⟨⟨some 35, .load false 1 (.t 34), none⟩, []⟩,
   ⟨⟨some 36, .mlook [.int] false false false [(.val (.map none))] (.t 33) (.t 35), none⟩, []⟩,
   ⟨⟨some 37, .faddr 1 (.t 3), none⟩, []⟩,
   ⟨⟨some 38, .load false 1 (.t 37), none⟩, []⟩,
   ⟨⟨some 39, .mlook [.int] false true true [(.int .i64 0), (.int .i64 0), (.bool false), (.isl 1 [] true)] (.t 36) (.t 38), none⟩, []⟩,
   ⟨⟨some 29, .mv (.t 39), none⟩, []⟩,
   ⟨⟨some 40, .ext 0 (.t 29), none⟩, []⟩,
   ⟨⟨some 41, .ext 1 (.t 29), none⟩, []⟩,
   ⟨⟨some 6, .alloc [(.int .i64 0), (.int .i64 0), (.bool false), (.isl 1 [] true)], none⟩, [3, 5, 6, 8, 9]⟩,
   ⟨⟨none, .store 4 (.t 6) (.t 40), none⟩, []⟩,
   ⟨⟨some 7, .mv (.t 41), none⟩, []⟩])
 (.seq (.region [⟨some 42, .mv (.t 7), none⟩])
 (.cond (.t 42)
  (.seq (.seq (.region [⟨some 43, .faddr 2 (.t 6), none⟩,
    ⟨some 44, .load false 1 (.t 43), none⟩,
    ⟨some 45, .faddr 2 (.t 3), none⟩,
    ⟨some 46, .load false 1 (.t 45), none⟩,
    ⟨some 47, .eq false .bool (.t 44) (.t 46), none⟩,
    ⟨some 48, .mv (.t 47), none⟩,
    ⟨some 49, .faddr 3 (.t 6), some (48, true)⟩,
    ⟨some 50, .load false 1 (.t 49), some (48, true)⟩,
    ⟨some 51, .faddr 3 (.t 3), some (48, true)⟩,
    ⟨some 52, .load false 1 (.t 51), some (48, true)⟩,
    ⟨some 53, .call 22 [(.t 50), (.t 52)], some (48, true)⟩,
    ⟨some 54, .pick (.t 48) (.t 53) (.c (.bool false)), none⟩])
  (.cond (.t 54)
   (.seq (.region [⟨some 4, .mv (.c (.bool false)), none⟩,
     ⟨some 5, .mv (.c (.int .i64 0)), none⟩])
   .ret)
   .skip))
  (.seq (.region [⟨some 4, .mv (.c (.bool false)), none⟩,
    ⟨some 5, .mv (.c (.int .i64 10)), none⟩])
  .ret))
  .skip)))
 (.seq (.seq (.region [⟨some 56, .mv (.t 0), none⟩,
   ⟨some 57, .faddr 0 (.t 3), none⟩,
   ⟨some 58, .load false 1 (.t 57), none⟩,
   ⟨some 59, .call 23 [(.t 56), (.t 58)], none⟩,
   ⟨some 55, .mv (.t 59), none⟩,
   ⟨some 60, .ext 0 (.t 55), none⟩,
   ⟨some 61, .ext 1 (.t 55), none⟩,
   ⟨some 8, .mv (.t 60), none⟩,
   ⟨some 9, .mv (.t 61), none⟩])
 (.seq (.region [⟨some 62, .mv (.t 8), none⟩,
   ⟨some 63, .bin .geq (.t 62) (.c (.int .i64 0)), none⟩,
   ⟨some 64, .mv (.t 63), none⟩,
   ⟨some 65, .mv (.t 8), some (64, true)⟩,
   ⟨some 66, .faddr 1 (.t 3), some (64, true)⟩,
   ⟨some 67, .load false 1 (.t 66), some (64, true)⟩,
   ⟨some 68, .bin .lss (.t 65) (.t 67), some (64, true)⟩,
   ⟨some 69, .pick (.t 64) (.t 68) (.c (.bool false)), none⟩,
   ⟨some 70, .mv (.t 69), none⟩,
   ⟨some 71, .faddr 2 (.t 3), some (70, false)⟩,
   ⟨some 72, .load false 1 (.t 71), some (70, false)⟩,
   ⟨some 73, .mv (.t 72), some (70, false)⟩,
   ⟨some 74, .mv (.t 9), some (73, true)⟩,
   ⟨some 75, .faddr 1 (.t 3), some (73, true)⟩,
   ⟨some 76, .load false 1 (.t 75), some (73, true)⟩,
   ⟨some 77, .bin .gtr (.t 74) (.t 76), some (73, true)⟩,
   ⟨some 78, .pick (.t 73) (.t 77) (.c (.bool false)), some (70, false)⟩,
   ⟨some 79, .pick (.t 70) (.c (.bool true)) (.t 78), none⟩])
 (.cond (.t 79)
  (.seq (.region [⟨some 4, .mv (.c (.bool false)), none⟩,
    ⟨some 5, .mv (.c (.int .i64 10)), none⟩])
  .ret)
  .skip)))
 (.seq (.seq (.quiet [⟨some 80, .mv (.t 0), none⟩,
   ⟨some 81, .nilck (.t 80), none⟩,
   ⟨some 82, .faddr 0 (.t 81), none⟩,
   ⟨some 83, .load false 1 (.t 82), none⟩,
   ⟨some 84, .faddr 0 (.t 3), none⟩,
   ⟨some 85, .load false 1 (.t 84), none⟩,
   ⟨some 86, .mlook [.int] false false false [(.val (.map none))] (.t 83) (.t 85), none⟩,
   ⟨some 87, .eq false .map (.t 86) (.c (.val (.map none))), none⟩])
 (.cond (.t 87)
  (.draw [⟨⟨some 88, .mv (.t 0), none⟩, []⟩,
    ⟨⟨some 89, .nilck (.t 88), none⟩, []⟩,
    ⟨⟨some 90, .faddr 0 (.t 89), none⟩, []⟩,
    ⟨⟨some 91, .load false 1 (.t 90), none⟩, []⟩,
    ⟨⟨some 92, .faddr 0 (.t 3), none⟩, []⟩,
    ⟨⟨some 93, .load false 1 (.t 92), none⟩, []⟩,
    ⟨⟨some 94, .mkmap none, none⟩, [3, 5]⟩,
    ⟨⟨none, .mset [.int] false false [(.val (.map none))] (.t 91) (.t 93) (.t 94), none⟩, []⟩])
  .skip))
 (.seq (.region [⟨some 95, .faddr 3 (.t 3), none⟩,
   ⟨some 96, .load false 1 (.t 95), none⟩,
   ⟨some 97, .call 20 [(.t 96)], none⟩,
   ⟨some 98, .faddr 3 (.t 3), none⟩,
   ⟨none, .store 1 (.t 98) (.t 97), none⟩])
 (.seq (.draw [⟨⟨some 99, .mv (.t 0), none⟩, []⟩,
   ⟨⟨some 100, .nilck (.t 99), none⟩, []⟩,
   ⟨⟨some 101, .faddr 0 (.t 100), none⟩, []⟩,
   ⟨⟨some 102, .load false 1 (.t 101), none⟩, []⟩,
   ⟨⟨some 103, .faddr 0 (.t 3), none⟩, []⟩,
   ⟨⟨some 104, .load false 1 (.t 103), none⟩, []⟩,
   ⟨⟨some 105, .mlook [.int] false false false [(.val (.map none))] (.t 102) (.t 104), none⟩, []⟩,
   ⟨⟨some 106, .faddr 1 (.t 3), none⟩, []⟩,
   ⟨⟨some 107, .load false 1 (.t 106), none⟩, []⟩,
   ⟨⟨some 108, .load true 4 (.t 3), none⟩, []⟩,
   ⟨⟨none, .mset [.int] false true [(.int .i64 0), (.int .i64 0), (.bool false), (.isl 1 [] true)] (.t 105) (.t 107) (.t 108), none⟩, []⟩])
 (.seq (.region [⟨some 4, .mv (.c (.bool true)), none⟩,
   ⟨some 5, .mv (.c (.int .i64 0)), none⟩])
 .ret))))))))
def f13b0_lay : Lay := ⟨109, [], false⟩
def f13b0_res : List LRes := [.t 4, .t 5]
def f13b0_L : LFn := ⟨2, f13b0_lay, f13b0_c0, f13b0_res⟩
theorem f13b0_low : lowFn Try.prog [] 13 = some f13b0_L := by kernel_rfl
theorem f13b0_fok : FnOk Try.prog 13 := ⟨_, Try.func13, rfl, rfl⟩
noncomputable def S_progress_Assembler_Add {σ : Type} (m : Option Nat) (a0 : G_QChunk) (a1 : List (Int × Ref)) (a2 : List (Int × G_QChunk)) (z0 : σ) : Option (Bool × Int × (List (Int × G_QChunk)) × σ) :=
  if (((decide (a0.f_Token < 0)) || (decide (a0.f_Seq < 0))) || (decide (a0.f_Seq ≥ 1000))) = true then
    some (false, 1, a2, z0)
  else
    if (decide (((a0.f_Items.map e_i64).length : Int) > 1000)) = true then
      some (false, 2, a2, z0)
    else
      if lk q_i64 a1 a0.f_Token = some Ref.foc then
      if (lk q_i64 a2 a0.f_Seq).isSome = true then
        (if ((((lk q_i64 a2 a0.f_Seq).getD (G_QChunk.mk 0 0 false [])).f_Last == a0.f_Last) == true) = true then S_slices_Equal_int m (((lk q_i64 a2 a0.f_Seq).getD (G_QChunk.mk 0 0 false [])).f_Items) a0.f_Items else some default).bind fun v1 =>
        if ((((lk q_i64 a2 a0.f_Seq).getD (G_QChunk.mk 0 0 false [])).f_Last == a0.f_Last) && v1) = true then
          some (false, 0, a2, z0)
        else
          some (false, 10, a2, z0)
      else
        (S_progress_Assembler_bounds m a0.f_Token a1 a2 z0).bind fun v2 =>
        if (((decide (v2.1 ≥ 0)) && (decide (v2.1 < a0.f_Seq))) || (a0.f_Last && (decide (v2.2.1 > a0.f_Seq)))) = true then
          some (false, 10, a2, v2.2.2)
        else
          if lk q_i64 a1 a0.f_Token = some Ref.foc then
          (S_slices_Clone_intE m a0.f_Items).bind fun v3 =>
          if lk q_i64 a1 a0.f_Token = some Ref.foc then
          some (true, 0, (mp q_i64 a2 a0.f_Seq (G_QChunk.mk a0.f_Token a0.f_Seq a0.f_Last v3)), v2.2.2)
          else none
          else none
      else none

def f13b0_Q {σ : Type} (Hc : σ → AHeap) (a0 : G_QChunk) (a1 : List (Int × Ref)) (a2 : List (Int × G_QChunk)) (z0 : σ) (o : Bool × Int × (List (Int × G_QChunk)) × σ) : Exit → Env → AHeap → Nat → Prop := FinK f13b0_res (FinTo 3 4 (.tup [.bool o.1, .int .i64 o.2.1]) ([((0, 0), .one [.map (0, 1)]), ((0, 1), .amap (a1.map (em a_i64 (eR (some (0, 2)))))), ((0, 2), .amap (o.2.2.1.map (em a_i64 a_QChunk)))] ++ up 3 (Hc o.2.2.2)))

theorem f13b0_start {σ : Type} {Hc : σ → AHeap} (ht : ∀ s, Tl (Hc s)) {a0 : G_QChunk} {a1 : List (Int × Ref)} {a2 : List (Int × G_QChunk)} {z0 : σ} {m : Option Nat} {o : Bool × Int × (List (Int × G_QChunk)) × σ} (h : S_progress_Assembler_Add m a0 a1 a2 z0 = some o) : LWp Try.prog f13b0_lay 3 f13b0_c0 (f13b0_Q Hc a0 a1 a2 z0 o) (initEnv 0 [.ptr (0, 0) 0 0, .agg [.int .i64 a0.f_Token, .int .i64 a0.f_Seq, .bool a0.f_Last, .isl 1 (a0.f_Items.map e_i64) false]]) ([((0, 0), .one [.map (0, 1)]), ((0, 1), .amap (a1.map (em a_i64 (eR (some (0, 2)))))), ((0, 2), .amap (a2.map (em a_i64 a_QChunk)))] ++ Hc z0) 3 := by
  unfold S_progress_Assembler_Add at h
  refine LWp.sim (e := [(0, .ptr (0, 0) 0 0), (1, .agg [.int .i64 a0.f_Token, .int .i64 a0.f_Seq, .bool a0.f_Last, .isl 1 (a0.f_Items.map e_i64) false])]) (L := ([((0, 0), .one [.map (0, 1)]), ((0, 1), .amap (a1.map (em a_i64 (eR (some (0, 2)))))), ((0, 2), .amap (a2.map (em a_i64 a_QChunk)))] ++ up 3 (Hc z0))) (n := 4) (entryT (T := Hc z0) (e' := initEnv 0 [.ptr (0, 0) 0 0, .agg [.int .i64 a0.f_Token, .int .i64 a0.f_Seq, .bool a0.f_Last, .isl 1 (a0.f_Items.map e_i64) false]]) (e := [(0, .ptr (0, 0) 0 0), (1, .agg [.int .i64 a0.f_Token, .int .i64 a0.f_Seq, .bool a0.f_Last, .isl 1 (a0.f_Items.map e_i64) false])]) (lit' := [((0, 0), .one [.map (0, 1)]), ((0, 1), .amap (a1.map (em a_i64 (eR (some (0, 2)))))), ((0, 2), .amap (a2.map (em a_i64 a_QChunk)))]) (lit := [((0, 0), .one [.map (0, 1)]), ((0, 1), .amap (a1.map (em a_i64 (eR (some (0, 2)))))), ((0, 2), .amap (a2.map (em a_i64 a_QChunk)))]) (ht z0) rfl rfl (And.intro (Vw.ptr _ _ _ _ rfl) (And.intro (Vw.same _ rfl) trivial)) (And.intro (And.intro rfl (BVw.oneL (And.intro (Vw.map _ _ rfl) trivial))) (And.intro (And.intro rfl (BVw.refmF a_i64_nid a1 rfl rfl (rhoE_1 _))) (And.intro (And.intro rfl (BVw.ofMap a_i64 a_QChunk a_QChunk_nid a2)) trivial)))) ?_
  refine seqI ?_
  refine regI ?_
  refine seqI ?_
  refine blockI ?_
  refine seqI ?_
  refine regI ?_
  refine And.intro (fun hp => hp) ?_
  show yops _ _ _ [(16, .cnd ((decide (a0.f_Token < 0)) == false) (.int .i64 a0.f_Seq)), (15, .cnd ((decide (a0.f_Token < 0)) == false) (.ptr (4, 0) 0 1)), (14, .bool (decide (a0.f_Token < 0))), (13, .bool (decide (a0.f_Token < 0))), (12, .int .i64 a0.f_Token), (11, .ptr (4, 0) 0 0), (5, .int .i64 0), (4, .bool false), (3, .ptr (4, 0) 0 0), (0, .ptr (0, 0) 0 0), (1, .agg [.int .i64 a0.f_Token, .int .i64 a0.f_Seq, .bool a0.f_Last, .isl 1 (a0.f_Items.map e_i64) false])] _ _
  refine And.intro (fun hp => hp) ?_
  refine And.intro (fun hc => (bqf hc)) ?_
  refine And.intro (fun hp => hp) ?_
  show yops _ _ _ [(21, .cnd (((decide (a0.f_Token < 0)) || (decide (a0.f_Seq < 0))) == false) (.int .i64 a0.f_Seq)), (20, .cnd (((decide (a0.f_Token < 0)) || (decide (a0.f_Seq < 0))) == false) (.ptr (4, 0) 0 1)), (19, .bool ((decide (a0.f_Token < 0)) || (decide (a0.f_Seq < 0)))), (18, .bool ((decide (a0.f_Token < 0)) || (decide (a0.f_Seq < 0)))), (17, .cnd ((decide (a0.f_Token < 0)) == false) (.bool (decide (a0.f_Seq < 0)))), (16, .cnd ((decide (a0.f_Token < 0)) == false) (.int .i64 a0.f_Seq)), (15, .cnd ((decide (a0.f_Token < 0)) == false) (.ptr (4, 0) 0 1)), (14, .bool (decide (a0.f_Token < 0))), (13, .bool (decide (a0.f_Token < 0))), (12, .int .i64 a0.f_Token), (11, .ptr (4, 0) 0 0), (5, .int .i64 0), (4, .bool false), (3, .ptr (4, 0) 0 0), (0, .ptr (0, 0) 0 0), (1, .agg [.int .i64 a0.f_Token, .int .i64 a0.f_Seq, .bool a0.f_Last, .isl 1 (a0.f_Items.map e_i64) false])] _ _
  refine And.intro (fun hp => hp) ?_
  refine And.intro (fun hc => (bqf hc)) ?_
  refine LWp.sim (e := [(0, .ptr (0, 0) 0 0), (3, .ptr (4, 0) 0 0), (10, .bool (((decide (a0.f_Token < 0)) || (decide (a0.f_Seq < 0))) || (decide (a0.f_Seq ≥ 1000))))]) (L := ([((0, 0), .one [.map (0, 1)]), ((0, 1), .amap (a1.map (em a_i64 (eR (some (0, 2)))))), ((0, 2), .amap (a2.map (em a_i64 a_QChunk))), ((4, 0), .one [.int .i64 a0.f_Token, .int .i64 a0.f_Seq, .bool a0.f_Last, .isl 1 (a0.f_Items.map e_i64) false])] ++ up 3 (Hc z0))) (n := 5) ?_ ?_
  · exact simT (M := [((4, 0), (4, 0))]) (lit' := [((4, 0), .one [.int .i64 a0.f_Token, .int .i64 a0.f_Seq, .bool a0.f_Last, .isl 1 (a0.f_Items.map e_i64) false]), ((0, 0), .one [.map (0, 1)]), ((0, 1), .amap (a1.map (em a_i64 (eR (some (0, 2)))))), ((0, 2), .amap (a2.map (em a_i64 a_QChunk)))]) (ht _) rfl (And.intro (Vw.ptr _ _ _ _ rfl) (And.intro (Vw.ptr _ _ _ _ rfl) (And.intro (Vw.same _ rfl) trivial))) (And.intro (And.intro rfl (BVw.oneL (And.intro (Vw.map _ _ rfl) trivial))) (And.intro (And.intro rfl (BVw.refmF a_i64_nid a1 rfl rfl (rhoT_1 (chkT_ok (n := 5) (q := 3) (lit' := [((4, 0), .one [.int .i64 a0.f_Token, .int .i64 a0.f_Seq, .bool a0.f_Last, .isl 1 (a0.f_Items.map e_i64) false]), ((0, 0), .one [.map (0, 1)]), ((0, 1), .amap (a1.map (em a_i64 (eR (some (0, 2)))))), ((0, 2), .amap (a2.map (em a_i64 a_QChunk)))]) rfl)))) (And.intro (And.intro rfl (BVw.ofMap a_i64 a_QChunk a_QChunk_nid a2)) (And.intro (And.intro rfl (BVw.oneL (And.intro (Vw.same _ rfl) (And.intro (Vw.same _ rfl) (And.intro (Vw.same _ rfl) (And.intro (Vw.same _ rfl) trivial)))))) trivial))))
  refine condI (v := (((decide (a0.f_Token < 0)) || (decide (a0.f_Seq < 0))) || (decide (a0.f_Seq ≥ 1000)))) rfl trivial (fun h1 => ?_) (fun h1 => ?_)
  · have h := ite_tt h1 h
    refine seqI ?_
    refine regI ?_
    refine retI ?_
    cases h
    exact And.intro trivial (And.intro trivial (finT (n' := 5) (q := 3) (lit' := [((0, 0), .one [.map (0, 1)]), ((0, 1), .amap (a1.map (em a_i64 (eR (some (0, 2)))))), ((0, 2), .amap (a2.map (em a_i64 a_QChunk))), ((4, 0), .one [.int .i64 a0.f_Token, .int .i64 a0.f_Seq, .bool a0.f_Last, .isl 1 (a0.f_Items.map e_i64) false])]) (ht _) [] [] rfl rfl (Vw.same _ rfl) (And.intro (And.intro rfl (BVw.oneL (And.intro (Vw.map _ _ rfl) trivial))) (And.intro (And.intro rfl (BVw.refmF a_i64_nid a1 rfl rfl (rhoT_1 (chkT_ok (n := 4) (q := 3) (lit' := [((0, 0), .one [.map (0, 1)]), ((0, 1), .amap (a1.map (em a_i64 (eR (some (0, 2)))))), ((0, 2), .amap (a2.map (em a_i64 a_QChunk))), ((4, 0), .one [.int .i64 a0.f_Token, .int .i64 a0.f_Seq, .bool a0.f_Last, .isl 1 (a0.f_Items.map e_i64) false])]) rfl)))) (And.intro (And.intro rfl (BVw.ofMap a_i64 a_QChunk a_QChunk_nid a2)) trivial)))))
  · have h := ite_ff h1 h
    refine seqI ?_
    refine regI ?_
    refine condI (v := (decide (((a0.f_Items.map e_i64).length : Int) > 1000))) rfl trivial (fun h2 => ?_) (fun h2 => ?_)
    · have h := ite_tt h2 h
      refine seqI ?_
      refine regI ?_
      refine retI ?_
      cases h
      exact And.intro trivial (And.intro trivial (finT (n' := 5) (q := 3) (lit' := [((0, 0), .one [.map (0, 1)]), ((0, 1), .amap (a1.map (em a_i64 (eR (some (0, 2)))))), ((0, 2), .amap (a2.map (em a_i64 a_QChunk))), ((4, 0), .one [.int .i64 a0.f_Token, .int .i64 a0.f_Seq, .bool a0.f_Last, .isl 1 (a0.f_Items.map e_i64) false])]) (ht _) [] [] rfl rfl (Vw.same _ rfl) (And.intro (And.intro rfl (BVw.oneL (And.intro (Vw.map _ _ rfl) trivial))) (And.intro (And.intro rfl (BVw.refmF a_i64_nid a1 rfl rfl (rhoT_1 (chkT_ok (n := 4) (q := 3) (lit' := [((0, 0), .one [.map (0, 1)]), ((0, 1), .amap (a1.map (em a_i64 (eR (some (0, 2)))))), ((0, 2), .amap (a2.map (em a_i64 a_QChunk))), ((4, 0), .one [.int .i64 a0.f_Token, .int .i64 a0.f_Seq, .bool a0.f_Last, .isl 1 (a0.f_Items.map e_i64) false])]) rfl)))) (And.intro (And.intro rfl (BVw.ofMap a_i64 a_QChunk a_QChunk_nid a2)) trivial)))))
    · have h := ite_ff h2 h
      refine skipI ?_
      refine seqI ?_
      refine seqI ?_
      refine drawI ?_
      obtain ⟨h3, h⟩ := ite_some h
      refine Exists.intro (.map (0, 2)) (And.intro (mlookF (ek := a_i64) q_i64_ok h3) (And.intro (mfind_some (ek := a_i64) (ev := eR (some (0, 2))) q_i64_ok _ _) ?_))
      refine Exists.intro (.tup [.agg [.int .i64 (((lk q_i64 a2 a0.f_Seq).getD (G_QChunk.mk 0 0 false [])).f_Token), .int .i64 (((lk q_i64 a2 a0.f_Seq).getD (G_QChunk.mk 0 0 false [])).f_Seq), .bool (((lk q_i64 a2 a0.f_Seq).getD (G_QChunk.mk 0 0 false [])).f_Last), .isl 1 ((((lk q_i64 a2 a0.f_Seq).getD (G_QChunk.mk 0 0 false [])).f_Items).map e_i64) false], .bool ((lk q_i64 a2 a0.f_Seq).isSome)]) (And.intro (mlook_ok (ek := a_i64) (ev := a_QChunk) (z := (G_QChunk.mk 0 0 false [])) q_i64_ok rfl a0.f_Seq a2) (And.intro (mfind_some (ek := a_i64) (ev := a_QChunk) q_i64_ok _ _) ?_))
      refine And.intro (And.intro (mfind_some (ek := a_i64) (ev := a_QChunk) q_i64_ok _ _) (mlook_ok (ek := a_i64) (ev := a_QChunk) (z := (G_QChunk.mk 0 0 false [])) q_i64_ok rfl a0.f_Seq a2)) ?_
      refine And.intro rfl ?_
      refine And.intro (And.intro (mfind_some (ek := a_i64) (ev := eR (some (0, 2))) q_i64_ok _ _) (mlookF (ek := a_i64) q_i64_ok h3)) ?_
      refine And.intro rfl ?_
      refine And.intro rfl ?_
      refine LWp.sim (e := [(0, .ptr (0, 0) 0 0), (3, .ptr (4, 0) 0 0), (6, .ptr (5, 0) 0 0), (7, .bool ((lk q_i64 a2 a0.f_Seq).isSome))]) (L := ([((0, 0), .one [.map (0, 1)]), ((0, 1), .amap (a1.map (em a_i64 (eR (some (0, 2)))))), ((0, 2), .amap (a2.map (em a_i64 a_QChunk))), ((4, 0), .one [.int .i64 a0.f_Token, .int .i64 a0.f_Seq, .bool a0.f_Last, .isl 1 (a0.f_Items.map e_i64) false]), ((5, 0), .one [.int .i64 (((lk q_i64 a2 a0.f_Seq).getD (G_QChunk.mk 0 0 false [])).f_Token), .int .i64 (((lk q_i64 a2 a0.f_Seq).getD (G_QChunk.mk 0 0 false [])).f_Seq), .bool (((lk q_i64 a2 a0.f_Seq).getD (G_QChunk.mk 0 0 false [])).f_Last), .isl 1 ((((lk q_i64 a2 a0.f_Seq).getD (G_QChunk.mk 0 0 false [])).f_Items).map e_i64) false])] ++ up 3 (Hc z0))) (n := 6) ?_ ?_
      · exact simT (M := [((4, 0), (4, 0)), ((5, 0), (5, 0))]) (lit' := [((5, 0), .one [.int .i64 (((lk q_i64 a2 a0.f_Seq).getD (G_QChunk.mk 0 0 false [])).f_Token), .int .i64 (((lk q_i64 a2 a0.f_Seq).getD (G_QChunk.mk 0 0 false [])).f_Seq), .bool (((lk q_i64 a2 a0.f_Seq).getD (G_QChunk.mk 0 0 false [])).f_Last), .isl 1 ((((lk q_i64 a2 a0.f_Seq).getD (G_QChunk.mk 0 0 false [])).f_Items).map e_i64) false]), ((0, 0), .one [.map (0, 1)]), ((0, 1), .amap (a1.map (em a_i64 (eR (some (0, 2)))))), ((0, 2), .amap (a2.map (em a_i64 a_QChunk))), ((4, 0), .one [.int .i64 a0.f_Token, .int .i64 a0.f_Seq, .bool a0.f_Last, .isl 1 (a0.f_Items.map e_i64) false])]) (ht _) rfl (And.intro (Vw.ptr _ _ _ _ rfl) (And.intro (Vw.ptr _ _ _ _ rfl) (And.intro (Vw.ptr _ _ _ _ rfl) (And.intro (Vw.same _ rfl) trivial)))) (And.intro (And.intro rfl (BVw.oneL (And.intro (Vw.map _ _ rfl) trivial))) (And.intro (And.intro rfl (BVw.refmF a_i64_nid a1 rfl rfl (rhoT_1 (chkT_ok (n := 6) (q := 3) (lit' := [((5, 0), .one [.int .i64 (((lk q_i64 a2 a0.f_Seq).getD (G_QChunk.mk 0 0 false [])).f_Token), .int .i64 (((lk q_i64 a2 a0.f_Seq).getD (G_QChunk.mk 0 0 false [])).f_Seq), .bool (((lk q_i64 a2 a0.f_Seq).getD (G_QChunk.mk 0 0 false [])).f_Last), .isl 1 ((((lk q_i64 a2 a0.f_Seq).getD (G_QChunk.mk 0 0 false [])).f_Items).map e_i64) false]), ((0, 0), .one [.map (0, 1)]), ((0, 1), .amap (a1.map (em a_i64 (eR (some (0, 2)))))), ((0, 2), .amap (a2.map (em a_i64 a_QChunk))), ((4, 0), .one [.int .i64 a0.f_Token, .int .i64 a0.f_Seq, .bool a0.f_Last, .isl 1 (a0.f_Items.map e_i64) false])]) rfl)))) (And.intro (And.intro rfl (BVw.ofMap a_i64 a_QChunk a_QChunk_nid a2)) (And.intro (And.intro rfl (BVw.oneL (And.intro (Vw.same _ rfl) (And.intro (Vw.same _ rfl) (And.intro (Vw.same _ rfl) (And.intro (Vw.same _ rfl) trivial)))))) (And.intro (And.intro rfl (BVw.oneL (And.intro (Vw.same _ rfl) (And.intro (Vw.same _ rfl) (And.intro (Vw.same _ rfl) (And.intro (Vw.same _ rfl) trivial)))))) trivial)))))
      refine seqI ?_
      refine regI ?_
      refine condI (v := (lk q_i64 a2 a0.f_Seq).isSome) rfl trivial (fun h4 => ?_) (fun h4 => ?_)
      · have h := ite_tt h4 h
        refine seqI ?_
        refine seqI ?_
        refine regI ?_
        refine And.intro (fun hp => hp) ?_
        show yops _ _ _ [(50, .cnd ((((lk q_i64 a2 a0.f_Seq).getD (G_QChunk.mk 0 0 false [])).f_Last == a0.f_Last) == true) (.isl 1 ((((lk q_i64 a2 a0.f_Seq).getD (G_QChunk.mk 0 0 false [])).f_Items).map e_i64) false)), (49, .cnd ((((lk q_i64 a2 a0.f_Seq).getD (G_QChunk.mk 0 0 false [])).f_Last == a0.f_Last) == true) (.ptr (5, 0) 0 3)), (48, .bool (((lk q_i64 a2 a0.f_Seq).getD (G_QChunk.mk 0 0 false [])).f_Last == a0.f_Last)), (47, .bool (((lk q_i64 a2 a0.f_Seq).getD (G_QChunk.mk 0 0 false [])).f_Last == a0.f_Last)), (46, .bool a0.f_Last), (45, .ptr (4, 0) 0 2), (44, .bool (((lk q_i64 a2 a0.f_Seq).getD (G_QChunk.mk 0 0 false [])).f_Last)), (43, .ptr (5, 0) 0 2), (42, .bool ((lk q_i64 a2 a0.f_Seq).isSome)), (0, .ptr (0, 0) 0 0), (3, .ptr (4, 0) 0 0), (6, .ptr (5, 0) 0 0), (7, .bool ((lk q_i64 a2 a0.f_Seq).isSome))] _ _
        refine And.intro (fun hp => hp) ?_
        obtain ⟨v1, h5, h⟩ := bind_some h
        refine Or.inl (Exists.intro (.bool v1) (And.intro (fun hp => And.intro (And.intro hp hp) (PFn.call (f22_ok (ite_tt hp h5)) (And.intro (Vw.same _ rfl) (And.intro (Vw.same _ rfl) trivial)) (And.intro rfl (And.intro rfl rfl)))) ?_))
        refine And.intro (fun hc => (bqt hc)) ?_
        refine LWp.sim (e := [(54, .bool ((((lk q_i64 a2 a0.f_Seq).getD (G_QChunk.mk 0 0 false [])).f_Last == a0.f_Last) && v1))]) (L := ([((0, 0), .one [.map (0, 1)]), ((0, 1), .amap (a1.map (em a_i64 (eR (some (0, 2)))))), ((0, 2), .amap (a2.map (em a_i64 a_QChunk)))] ++ up 3 (Hc z0))) (n := 4) ?_ ?_
        · exact simT (M := []) (lit' := [((0, 0), .one [.map (0, 1)]), ((0, 1), .amap (a1.map (em a_i64 (eR (some (0, 2)))))), ((0, 2), .amap (a2.map (em a_i64 a_QChunk))), ((4, 0), .one [.int .i64 a0.f_Token, .int .i64 a0.f_Seq, .bool a0.f_Last, .isl 1 (a0.f_Items.map e_i64) false]), ((5, 0), .one [.int .i64 (((lk q_i64 a2 a0.f_Seq).getD (G_QChunk.mk 0 0 false [])).f_Token), .int .i64 (((lk q_i64 a2 a0.f_Seq).getD (G_QChunk.mk 0 0 false [])).f_Seq), .bool (((lk q_i64 a2 a0.f_Seq).getD (G_QChunk.mk 0 0 false [])).f_Last), .isl 1 ((((lk q_i64 a2 a0.f_Seq).getD (G_QChunk.mk 0 0 false [])).f_Items).map e_i64) false])]) (ht _) rfl (And.intro (Vw.same _ rfl) trivial) (And.intro (And.intro rfl (BVw.oneL (And.intro (Vw.map _ _ rfl) trivial))) (And.intro (And.intro rfl (BVw.refmF a_i64_nid a1 rfl rfl (rhoT_1 (chkT_ok (n := 4) (q := 3) (lit' := [((0, 0), .one [.map (0, 1)]), ((0, 1), .amap (a1.map (em a_i64 (eR (some (0, 2)))))), ((0, 2), .amap (a2.map (em a_i64 a_QChunk))), ((4, 0), .one [.int .i64 a0.f_Token, .int .i64 a0.f_Seq, .bool a0.f_Last, .isl 1 (a0.f_Items.map e_i64) false]), ((5, 0), .one [.int .i64 (((lk q_i64 a2 a0.f_Seq).getD (G_QChunk.mk 0 0 false [])).f_Token), .int .i64 (((lk q_i64 a2 a0.f_Seq).getD (G_QChunk.mk 0 0 false [])).f_Seq), .bool (((lk q_i64 a2 a0.f_Seq).getD (G_QChunk.mk 0 0 false [])).f_Last), .isl 1 ((((lk q_i64 a2 a0.f_Seq).getD (G_QChunk.mk 0 0 false [])).f_Items).map e_i64) false])]) rfl)))) (And.intro (And.intro rfl (BVw.ofMap a_i64 a_QChunk a_QChunk_nid a2)) trivial)))
        refine condI (v := ((((lk q_i64 a2 a0.f_Seq).getD (G_QChunk.mk 0 0 false [])).f_Last == a0.f_Last) && v1)) rfl trivial (fun h6 => ?_) (fun h6 => ?_)
        · have h := ite_tt h6 h
          refine seqI ?_
          refine regI ?_
          refine retI ?_
          cases h
          exact And.intro trivial (And.intro trivial (finT (n' := 4) (q := 3) (lit' := [((0, 0), .one [.map (0, 1)]), ((0, 1), .amap (a1.map (em a_i64 (eR (some (0, 2)))))), ((0, 2), .amap (a2.map (em a_i64 a_QChunk)))]) (ht _) [] [] rfl rfl (Vw.same _ rfl) (And.intro (And.intro rfl (BVw.oneL (And.intro (Vw.map _ _ rfl) trivial))) (And.intro (And.intro rfl (BVw.refmF a_i64_nid a1 rfl rfl (rhoT_1 (chkT_ok (n := 4) (q := 3) (lit' := [((0, 0), .one [.map (0, 1)]), ((0, 1), .amap (a1.map (em a_i64 (eR (some (0, 2)))))), ((0, 2), .amap (a2.map (em a_i64 a_QChunk)))]) rfl)))) (And.intro (And.intro rfl (BVw.ofMap a_i64 a_QChunk a_QChunk_nid a2)) trivial)))))
        · have h := ite_ff h6 h
          refine skipI ?_
          refine seqI ?_
          refine regI ?_
          refine retI ?_
          cases h
          exact And.intro trivial (And.intro trivial (finT (n' := 4) (q := 3) (lit' := [((0, 0), .one [.map (0, 1)]), ((0, 1), .amap (a1.map (em a_i64 (eR (some (0, 2)))))), ((0, 2), .amap (a2.map (em a_i64 a_QChunk)))]) (ht _) [] [] rfl rfl (Vw.same _ rfl) (And.intro (And.intro rfl (BVw.oneL (And.intro (Vw.map _ _ rfl) trivial))) (And.intro (And.intro rfl (BVw.refmF a_i64_nid a1 rfl rfl (rhoT_1 (chkT_ok (n := 4) (q := 3) (lit' := [((0, 0), .one [.map (0, 1)]), ((0, 1), .amap (a1.map (em a_i64 (eR (some (0, 2)))))), ((0, 2), .amap (a2.map (em a_i64 a_QChunk)))]) rfl)))) (And.intro (And.intro rfl (BVw.ofMap a_i64 a_QChunk a_QChunk_nid a2)) trivial)))))
      · have h := ite_ff h4 h
        refine skipI ?_
        refine seqI ?_
        refine seqI ?_
        refine regI ?_
        obtain ⟨v2, h7, h⟩ := bind_some h
        refine bcallT (m := 1) (q := 3) (lit0 := [((0, 0), .one [.map (0, 1)]), ((0, 1), .amap (a1.map (em a_i64 (eR (some (0, 2)))))), ((0, 2), .amap (a2.map (em a_i64 a_QChunk)))]) (lit := [((0, 0), .one [.map (0, 1)]), ((0, 1), .amap (a1.map (em a_i64 (eR (some (0, 2)))))), ((0, 2), .amap (a2.map (em a_i64 a_QChunk))), ((4, 0), .one [.int .i64 a0.f_Token, .int .i64 a0.f_Seq, .bool a0.f_Last, .isl 1 (a0.f_Items.map e_i64) false]), ((5, 0), .one [.int .i64 (((lk q_i64 a2 a0.f_Seq).getD (G_QChunk.mk 0 0 false [])).f_Token), .int .i64 (((lk q_i64 a2 a0.f_Seq).getD (G_QChunk.mk 0 0 false [])).f_Seq), .bool (((lk q_i64 a2 a0.f_Seq).getD (G_QChunk.mk 0 0 false [])).f_Last), .isl 1 ((((lk q_i64 a2 a0.f_Seq).getD (G_QChunk.mk 0 0 false [])).f_Items).map e_i64) false])]) (L := [((0, 0), .one [.map (0, 1)]), ((0, 1), .amap (a1.map (em a_i64 (eR (some (0, 2)))))), ((0, 2), .amap (a2.map (em a_i64 a_QChunk)))]) (L' := [((0, 0), .one [.map (0, 1)]), ((0, 1), .amap (a1.map (em a_i64 (eR (some (0, 2)))))), ((0, 2), .amap (a2.map (em a_i64 a_QChunk)))]) (rest := [((4, 0), .one [.int .i64 a0.f_Token, .int .i64 a0.f_Seq, .bool a0.f_Last, .isl 1 (a0.f_Items.map e_i64) false]), ((5, 0), .one [.int .i64 (((lk q_i64 a2 a0.f_Seq).getD (G_QChunk.mk 0 0 false [])).f_Token), .int .i64 (((lk q_i64 a2 a0.f_Seq).getD (G_QChunk.mk 0 0 false [])).f_Seq), .bool (((lk q_i64 a2 a0.f_Seq).getD (G_QChunk.mk 0 0 false [])).f_Last), .isl 1 ((((lk q_i64 a2 a0.f_Seq).getD (G_QChunk.mk 0 0 false [])).f_Items).map e_i64) false])]) (R' := .tup [.int .i64 v2.1, .int .i64 v2.2.1]) (ht _) (ht _) [((0, 0), (0, 0)), ((0, 1), (0, 1)), ((0, 2), (0, 2))] (f23b0_ok ht h7) rfl rfl rfl rfl rfl rfl (And.intro (Vw.ptr _ _ _ _ rfl) (And.intro (Vw.same _ rfl) trivial)) (And.intro (h0I (0, 0) rfl rfl (BVw.oneL (And.intro (Vw.map _ _ rfl) trivial))) (And.intro (h0I (0, 1) rfl rfl (BVw.refmF a_i64_nid a1 rfl rfl (lookT_1 _ _))) (And.intro (h0I (0, 2) rfl rfl (BVw.ofMap a_i64 a_QChunk a_QChunk_nid a2)) trivial))) (nid_ren _ rfl) (And.intro rfl (And.intro rfl (And.intro rfl (And.intro (refm_ren a_i64_nid (fun _ => rfl) rfl _) (And.intro rfl (And.intro (map_ren a_i64 a_QChunk a_i64_nid a_QChunk_nid _) trivial)))))) rfl ?_
        show yops _ _ _ [(59, .tup [.int .i64 v2.1, .int .i64 v2.2.1]), (58, .int .i64 a0.f_Token), (57, .ptr (4, 0) 0 0), (56, .ptr (0, 0) 0 0), (42, .bool ((lk q_i64 a2 a0.f_Seq).isSome)), (0, .ptr (0, 0) 0 0), (3, .ptr (4, 0) 0 0), (6, .ptr (5, 0) 0 0), (7, .bool ((lk q_i64 a2 a0.f_Seq).isSome))] _ _
        refine LWp.sim (e := [(0, .ptr (0, 0) 0 0), (3, .ptr (4, 0) 0 0), (8, .int .i64 v2.1), (9, .int .i64 v2.2.1)]) (L := ([((0, 0), .one [.map (0, 1)]), ((0, 1), .amap (a1.map (em a_i64 (eR (some (0, 2)))))), ((0, 2), .amap (a2.map (em a_i64 a_QChunk))), ((4, 0), .one [.int .i64 a0.f_Token, .int .i64 a0.f_Seq, .bool a0.f_Last, .isl 1 (a0.f_Items.map e_i64) false])] ++ up 3 (Hc v2.2.2))) (n := 5) ?_ ?_
        · exact simT (M := [((4, 0), (4, 0))]) (lit' := [((0, 0), .one [.map (0, 1)]), ((0, 1), .amap (a1.map (em a_i64 (eR (some (0, 2)))))), ((0, 2), .amap (a2.map (em a_i64 a_QChunk))), ((4, 0), .one [.int .i64 a0.f_Token, .int .i64 a0.f_Seq, .bool a0.f_Last, .isl 1 (a0.f_Items.map e_i64) false]), ((5, 0), .one [.int .i64 (((lk q_i64 a2 a0.f_Seq).getD (G_QChunk.mk 0 0 false [])).f_Token), .int .i64 (((lk q_i64 a2 a0.f_Seq).getD (G_QChunk.mk 0 0 false [])).f_Seq), .bool (((lk q_i64 a2 a0.f_Seq).getD (G_QChunk.mk 0 0 false [])).f_Last), .isl 1 ((((lk q_i64 a2 a0.f_Seq).getD (G_QChunk.mk 0 0 false [])).f_Items).map e_i64) false])]) (ht _) rfl (And.intro (Vw.ptr _ _ _ _ rfl) (And.intro (Vw.ptr _ _ _ _ rfl) (And.intro (Vw.same _ rfl) (And.intro (Vw.same _ rfl) trivial)))) (And.intro (And.intro rfl (BVw.oneL (And.intro (Vw.map _ _ rfl) trivial))) (And.intro (And.intro rfl (BVw.refmF a_i64_nid a1 rfl rfl (rhoT_1 (chkT_ok (n := 5) (q := 6) (lit' := [((0, 0), .one [.map (0, 1)]), ((0, 1), .amap (a1.map (em a_i64 (eR (some (0, 2)))))), ((0, 2), .amap (a2.map (em a_i64 a_QChunk))), ((4, 0), .one [.int .i64 a0.f_Token, .int .i64 a0.f_Seq, .bool a0.f_Last, .isl 1 (a0.f_Items.map e_i64) false]), ((5, 0), .one [.int .i64 (((lk q_i64 a2 a0.f_Seq).getD (G_QChunk.mk 0 0 false [])).f_Token), .int .i64 (((lk q_i64 a2 a0.f_Seq).getD (G_QChunk.mk 0 0 false [])).f_Seq), .bool (((lk q_i64 a2 a0.f_Seq).getD (G_QChunk.mk 0 0 false [])).f_Last), .isl 1 ((((lk q_i64 a2 a0.f_Seq).getD (G_QChunk.mk 0 0 false [])).f_Items).map e_i64) false])]) rfl)))) (And.intro (And.intro rfl (BVw.ofMap a_i64 a_QChunk a_QChunk_nid a2)) (And.intro (And.intro rfl (BVw.oneL (And.intro (Vw.same _ rfl) (And.intro (Vw.same _ rfl) (And.intro (Vw.same _ rfl) (And.intro (Vw.same _ rfl) trivial)))))) trivial))))
        refine seqI ?_
        refine regI ?_
        refine And.intro (fun hp => hp) ?_
        show yops _ _ _ [(67, .cnd ((decide (v2.1 ≥ 0)) == true) (.int .i64 a0.f_Seq)), (66, .cnd ((decide (v2.1 ≥ 0)) == true) (.ptr (4, 0) 0 1)), (65, .cnd ((decide (v2.1 ≥ 0)) == true) (.int .i64 v2.1)), (64, .bool (decide (v2.1 ≥ 0))), (63, .bool (decide (v2.1 ≥ 0))), (62, .int .i64 v2.1), (0, .ptr (0, 0) 0 0), (3, .ptr (4, 0) 0 0), (8, .int .i64 v2.1), (9, .int .i64 v2.2.1)] _ _
        refine And.intro (fun hp => (And.intro hp hp)) ?_
        refine And.intro (fun hc => (bqt hc)) ?_
        refine And.intro (fun hp => hp) ?_
        show yops _ _ _ [(72, .cnd (((decide (v2.1 ≥ 0)) && (decide (v2.1 < a0.f_Seq))) == false) (.bool a0.f_Last)), (71, .cnd (((decide (v2.1 ≥ 0)) && (decide (v2.1 < a0.f_Seq))) == false) (.ptr (4, 0) 0 2)), (70, .bool ((decide (v2.1 ≥ 0)) && (decide (v2.1 < a0.f_Seq)))), (69, .bool ((decide (v2.1 ≥ 0)) && (decide (v2.1 < a0.f_Seq)))), (68, .cnd ((decide (v2.1 ≥ 0)) == true) (.bool (decide (v2.1 < a0.f_Seq)))), (67, .cnd ((decide (v2.1 ≥ 0)) == true) (.int .i64 a0.f_Seq)), (66, .cnd ((decide (v2.1 ≥ 0)) == true) (.ptr (4, 0) 0 1)), (65, .cnd ((decide (v2.1 ≥ 0)) == true) (.int .i64 v2.1)), (64, .bool (decide (v2.1 ≥ 0))), (63, .bool (decide (v2.1 ≥ 0))), (62, .int .i64 v2.1), (0, .ptr (0, 0) 0 0), (3, .ptr (4, 0) 0 0), (8, .int .i64 v2.1), (9, .int .i64 v2.2.1)] _ _
        refine And.intro (fun hp => hp) ?_
        refine And.intro (fun hp => hp) ?_
        refine And.intro (fun hp => (And.intro hp hp)) ?_
        show yops _ _ _ [(77, .cnd ((((decide (v2.1 ≥ 0)) && (decide (v2.1 < a0.f_Seq))) == false) && (a0.f_Last == true)) (.bool (decide (v2.2.1 > a0.f_Seq)))), (76, .cnd ((((decide (v2.1 ≥ 0)) && (decide (v2.1 < a0.f_Seq))) == false) && (a0.f_Last == true)) (.int .i64 a0.f_Seq)), (75, .cnd ((((decide (v2.1 ≥ 0)) && (decide (v2.1 < a0.f_Seq))) == false) && (a0.f_Last == true)) (.ptr (4, 0) 0 1)), (74, .cnd ((((decide (v2.1 ≥ 0)) && (decide (v2.1 < a0.f_Seq))) == false) && (a0.f_Last == true)) (.int .i64 v2.2.1)), (73, .cnd (((decide (v2.1 ≥ 0)) && (decide (v2.1 < a0.f_Seq))) == false) (.bool a0.f_Last)), (72, .cnd (((decide (v2.1 ≥ 0)) && (decide (v2.1 < a0.f_Seq))) == false) (.bool a0.f_Last)), (71, .cnd (((decide (v2.1 ≥ 0)) && (decide (v2.1 < a0.f_Seq))) == false) (.ptr (4, 0) 0 2)), (70, .bool ((decide (v2.1 ≥ 0)) && (decide (v2.1 < a0.f_Seq)))), (69, .bool ((decide (v2.1 ≥ 0)) && (decide (v2.1 < a0.f_Seq)))), (68, .cnd ((decide (v2.1 ≥ 0)) == true) (.bool (decide (v2.1 < a0.f_Seq)))), (67, .cnd ((decide (v2.1 ≥ 0)) == true) (.int .i64 a0.f_Seq)), (66, .cnd ((decide (v2.1 ≥ 0)) == true) (.ptr (4, 0) 0 1)), (65, .cnd ((decide (v2.1 ≥ 0)) == true) (.int .i64 v2.1)), (64, .bool (decide (v2.1 ≥ 0))), (63, .bool (decide (v2.1 ≥ 0))), (62, .int .i64 v2.1), (0, .ptr (0, 0) 0 0), (3, .ptr (4, 0) 0 0), (8, .int .i64 v2.1), (9, .int .i64 v2.2.1)] _ _
        refine And.intro (fun hp => (And.intro hp (fun hc => (and_i hp (bqt hc))))) ?_
        refine And.intro (fun hc => (bqf hc)) ?_
        refine LWp.sim (e := [(0, .ptr (0, 0) 0 0), (3, .ptr (4, 0) 0 0), (79, .bool (((decide (v2.1 ≥ 0)) && (decide (v2.1 < a0.f_Seq))) || (a0.f_Last && (decide (v2.2.1 > a0.f_Seq)))))]) (L := ([((0, 0), .one [.map (0, 1)]), ((0, 1), .amap (a1.map (em a_i64 (eR (some (0, 2)))))), ((0, 2), .amap (a2.map (em a_i64 a_QChunk))), ((4, 0), .one [.int .i64 a0.f_Token, .int .i64 a0.f_Seq, .bool a0.f_Last, .isl 1 (a0.f_Items.map e_i64) false])] ++ up 3 (Hc v2.2.2))) (n := 5) ?_ ?_
        · exact simT (M := [((4, 0), (4, 0))]) (lit' := [((0, 0), .one [.map (0, 1)]), ((0, 1), .amap (a1.map (em a_i64 (eR (some (0, 2)))))), ((0, 2), .amap (a2.map (em a_i64 a_QChunk))), ((4, 0), .one [.int .i64 a0.f_Token, .int .i64 a0.f_Seq, .bool a0.f_Last, .isl 1 (a0.f_Items.map e_i64) false])]) (ht _) rfl (And.intro (Vw.ptr _ _ _ _ rfl) (And.intro (Vw.ptr _ _ _ _ rfl) (And.intro (Vw.same _ rfl) trivial))) (And.intro (And.intro rfl (BVw.oneL (And.intro (Vw.map _ _ rfl) trivial))) (And.intro (And.intro rfl (BVw.refmF a_i64_nid a1 rfl rfl (rhoT_1 (chkT_ok (n := 5) (q := 3) (lit' := [((0, 0), .one [.map (0, 1)]), ((0, 1), .amap (a1.map (em a_i64 (eR (some (0, 2)))))), ((0, 2), .amap (a2.map (em a_i64 a_QChunk))), ((4, 0), .one [.int .i64 a0.f_Token, .int .i64 a0.f_Seq, .bool a0.f_Last, .isl 1 (a0.f_Items.map e_i64) false])]) rfl)))) (And.intro (And.intro rfl (BVw.ofMap a_i64 a_QChunk a_QChunk_nid a2)) (And.intro (And.intro rfl (BVw.oneL (And.intro (Vw.same _ rfl) (And.intro (Vw.same _ rfl) (And.intro (Vw.same _ rfl) (And.intro (Vw.same _ rfl) trivial)))))) trivial))))
        refine condI (v := (((decide (v2.1 ≥ 0)) && (decide (v2.1 < a0.f_Seq))) || (a0.f_Last && (decide (v2.2.1 > a0.f_Seq))))) rfl trivial (fun h8 => ?_) (fun h8 => ?_)
        · have h := ite_tt h8 h
          refine seqI ?_
          refine regI ?_
          refine retI ?_
          cases h
          exact And.intro trivial (And.intro trivial (finT (n' := 5) (q := 3) (lit' := [((0, 0), .one [.map (0, 1)]), ((0, 1), .amap (a1.map (em a_i64 (eR (some (0, 2)))))), ((0, 2), .amap (a2.map (em a_i64 a_QChunk))), ((4, 0), .one [.int .i64 a0.f_Token, .int .i64 a0.f_Seq, .bool a0.f_Last, .isl 1 (a0.f_Items.map e_i64) false])]) (ht _) [] [] rfl rfl (Vw.same _ rfl) (And.intro (And.intro rfl (BVw.oneL (And.intro (Vw.map _ _ rfl) trivial))) (And.intro (And.intro rfl (BVw.refmF a_i64_nid a1 rfl rfl (rhoT_1 (chkT_ok (n := 4) (q := 3) (lit' := [((0, 0), .one [.map (0, 1)]), ((0, 1), .amap (a1.map (em a_i64 (eR (some (0, 2)))))), ((0, 2), .amap (a2.map (em a_i64 a_QChunk))), ((4, 0), .one [.int .i64 a0.f_Token, .int .i64 a0.f_Seq, .bool a0.f_Last, .isl 1 (a0.f_Items.map e_i64) false])]) rfl)))) (And.intro (And.intro rfl (BVw.ofMap a_i64 a_QChunk a_QChunk_nid a2)) trivial)))))
        · have h := ite_ff h8 h
          refine skipI ?_
          refine seqI ?_
          refine seqI ?_
          refine quietI ?_
          obtain ⟨h9, h⟩ := ite_some h
          refine Exists.intro (.map (0, 2)) (And.intro (mlookF (ek := a_i64) q_i64_ok h9) (And.intro (mfind_some (ek := a_i64) (ev := eR (some (0, 2))) q_i64_ok _ _) ?_))
          refine LWp.sim (e := [(0, .ptr (0, 0) 0 0), (3, .ptr (4, 0) 0 0), (87, .bool false)]) (L := ([((0, 0), .one [.map (0, 1)]), ((0, 1), .amap (a1.map (em a_i64 (eR (some (0, 2)))))), ((0, 2), .amap (a2.map (em a_i64 a_QChunk))), ((4, 0), .one [.int .i64 a0.f_Token, .int .i64 a0.f_Seq, .bool a0.f_Last, .isl 1 (a0.f_Items.map e_i64) false])] ++ up 3 (Hc v2.2.2))) (n := 5) ?_ ?_
          · exact simT (M := [((4, 0), (4, 0))]) (lit' := [((0, 0), .one [.map (0, 1)]), ((0, 1), .amap (a1.map (em a_i64 (eR (some (0, 2)))))), ((0, 2), .amap (a2.map (em a_i64 a_QChunk))), ((4, 0), .one [.int .i64 a0.f_Token, .int .i64 a0.f_Seq, .bool a0.f_Last, .isl 1 (a0.f_Items.map e_i64) false])]) (ht _) rfl (And.intro (Vw.ptr _ _ _ _ rfl) (And.intro (Vw.ptr _ _ _ _ rfl) (And.intro (Vw.same _ rfl) trivial))) (And.intro (And.intro rfl (BVw.oneL (And.intro (Vw.map _ _ rfl) trivial))) (And.intro (And.intro rfl (BVw.refmF a_i64_nid a1 rfl rfl (rhoT_1 (chkT_ok (n := 5) (q := 3) (lit' := [((0, 0), .one [.map (0, 1)]), ((0, 1), .amap (a1.map (em a_i64 (eR (some (0, 2)))))), ((0, 2), .amap (a2.map (em a_i64 a_QChunk))), ((4, 0), .one [.int .i64 a0.f_Token, .int .i64 a0.f_Seq, .bool a0.f_Last, .isl 1 (a0.f_Items.map e_i64) false])]) rfl)))) (And.intro (And.intro rfl (BVw.ofMap a_i64 a_QChunk a_QChunk_nid a2)) (And.intro (And.intro rfl (BVw.oneL (And.intro (Vw.same _ rfl) (And.intro (Vw.same _ rfl) (And.intro (Vw.same _ rfl) (And.intro (Vw.same _ rfl) trivial)))))) trivial))))
          refine condI (v := false) rfl trivial (fun hc => Bool.noConfusion hc) (fun hc => ?_)
          refine skipI ?_
          refine seqI ?_
          refine regI ?_
          obtain ⟨v3, h10, h⟩ := bind_some h
          refine PFn.call (f20_okE h10) (And.intro (Vw.same _ rfl) trivial) ?_
          refine seqI ?_
          refine drawO rfl ?_
          obtain ⟨h11, h⟩ := ite_some h
          refine Exists.intro (.map (0, 2)) (And.intro (mlookF (ek := a_i64) q_i64_ok h11) (And.intro (mfind_some (ek := a_i64) (ev := eR (some (0, 2))) q_i64_ok _ _) ?_))
          refine Exists.intro ((mp q_i64 a2 a0.f_Seq (G_QChunk.mk a0.f_Token a0.f_Seq a0.f_Last v3)).map (em a_i64 a_QChunk)) (And.intro (mput_enc (ek := a_i64) (ev := a_QChunk) q_i64_ok a0.f_Seq (G_QChunk.mk a0.f_Token a0.f_Seq a0.f_Last v3) a2) ?_)
          refine LWp.sim (e := []) (L := ([((0, 0), .one [.map (0, 1)]), ((0, 1), .amap (a1.map (em a_i64 (eR (some (0, 2)))))), ((0, 2), .amap ((mp q_i64 a2 a0.f_Seq (G_QChunk.mk a0.f_Token a0.f_Seq a0.f_Last v3)).map (em a_i64 a_QChunk)))] ++ up 3 (Hc v2.2.2))) (n := 4) ?_ ?_
          · exact simT (M := []) (lit' := [((0, 0), .one [.map (0, 1)]), ((0, 1), .amap (a1.map (em a_i64 (eR (some (0, 2)))))), ((0, 2), .amap ((mp q_i64 a2 a0.f_Seq (G_QChunk.mk a0.f_Token a0.f_Seq a0.f_Last v3)).map (em a_i64 a_QChunk))), ((4, 0), .one [.int .i64 a0.f_Token, .int .i64 a0.f_Seq, .bool a0.f_Last, .isl 1 (v3.map e_i64) false])]) (ht _) rfl trivial (And.intro (And.intro rfl (BVw.oneL (And.intro (Vw.map _ _ rfl) trivial))) (And.intro (And.intro rfl (BVw.refmF a_i64_nid a1 rfl rfl (rhoT_1 (chkT_ok (n := 4) (q := 3) (lit' := [((0, 0), .one [.map (0, 1)]), ((0, 1), .amap (a1.map (em a_i64 (eR (some (0, 2)))))), ((0, 2), .amap ((mp q_i64 a2 a0.f_Seq (G_QChunk.mk a0.f_Token a0.f_Seq a0.f_Last v3)).map (em a_i64 a_QChunk))), ((4, 0), .one [.int .i64 a0.f_Token, .int .i64 a0.f_Seq, .bool a0.f_Last, .isl 1 (v3.map e_i64) false])]) rfl)))) (And.intro (And.intro rfl (BVw.ofMap a_i64 a_QChunk a_QChunk_nid (mp q_i64 a2 a0.f_Seq (G_QChunk.mk a0.f_Token a0.f_Seq a0.f_Last v3)))) trivial)))
          refine seqI ?_
          refine regI ?_
          refine retI ?_
          cases h
          exact And.intro trivial (And.intro trivial (finT (n' := 4) (q := 3) (lit' := [((0, 0), .one [.map (0, 1)]), ((0, 1), .amap (a1.map (em a_i64 (eR (some (0, 2)))))), ((0, 2), .amap ((mp q_i64 a2 a0.f_Seq (G_QChunk.mk a0.f_Token a0.f_Seq a0.f_Last v3)).map (em a_i64 a_QChunk)))]) (ht _) [] [] rfl rfl (Vw.same _ rfl) (And.intro (And.intro rfl (BVw.oneL (And.intro (Vw.map _ _ rfl) trivial))) (And.intro (And.intro rfl (BVw.refmF a_i64_nid a1 rfl rfl (rhoT_1 (chkT_ok (n := 4) (q := 3) (lit' := [((0, 0), .one [.map (0, 1)]), ((0, 1), .amap (a1.map (em a_i64 (eR (some (0, 2)))))), ((0, 2), .amap ((mp q_i64 a2 a0.f_Seq (G_QChunk.mk a0.f_Token a0.f_Seq a0.f_Last v3)).map (em a_i64 a_QChunk)))]) rfl)))) (And.intro (And.intro rfl (BVw.ofMap a_i64 a_QChunk a_QChunk_nid (mp q_i64 a2 a0.f_Seq (G_QChunk.mk a0.f_Token a0.f_Seq a0.f_Last v3)))) trivial)))))

theorem f13b0_ok {σ : Type} {Hc : σ → AHeap} (ht : ∀ s, Tl (Hc s)) {a0 : G_QChunk} {a1 : List (Int × Ref)} {a2 : List (Int × G_QChunk)} {z0 : σ} {m : Option Nat} {o : Bool × Int × (List (Int × G_QChunk)) × σ} (h : S_progress_Assembler_Add m a0 a1 a2 z0 = some o) : ACalls Try.prog 13 [.ptr (0, 0) 0 0, .agg [.int .i64 a0.f_Token, .int .i64 a0.f_Seq, .bool a0.f_Last, .isl 1 (a0.f_Items.map e_i64) false]] ([((0, 0), .one [.map (0, 1)]), ((0, 1), .amap (a1.map (em a_i64 (eR (some (0, 2)))))), ((0, 2), .amap (a2.map (em a_i64 a_QChunk)))] ++ Hc z0) 3 (Gives 4 (.tup [.bool o.1, .int .i64 o.2.1]) ([((0, 0), .one [.map (0, 1)]), ((0, 1), .amap (a1.map (em a_i64 (eR (some (0, 2)))))), ((0, 2), .amap (o.2.2.1.map (em a_i64 a_QChunk)))] ++ up 3 (Hc o.2.2.2))) := bfn_of (L := f13b0_L) f13b0_low f13b0_fok (Nat.le_of_ble_eq_true rfl) (f13b0_start ht h)

def f23b1_c1 : LCode := (.seq (.region [⟨some 15, .next (.t 14), none⟩,
   ⟨some 16, .ext 0 (.t 15), none⟩])
 (.seq (.cond (.t 16)
  .skip
  (.exit 0))
 (.block 1
  (.seq (.region [⟨some 17, .entry (.t 14), none⟩,
    ⟨some 18, .ext 0 (.t 17), none⟩,
    ⟨some 19, .ext 1 (.t 17), none⟩,
    ⟨some 7, .alloc [(.int .i64 0), (.int .i64 0), (.bool false), (.isl 1 [] true)], none⟩,
    ⟨some 6, .mv (.t 18), none⟩,
    ⟨none, .store 4 (.t 7) (.t 19), none⟩])
  (.seq (.region [⟨some 20, .mv (.t 5), none⟩,
    ⟨some 21, .mv (.t 6), none⟩,
    ⟨some 22, .mnx true [(.t 20), (.t 21)], none⟩,
    ⟨some 5, .mv (.t 22), none⟩])
  (.seq (.region [⟨some 23, .faddr 2 (.t 7), none⟩,
    ⟨some 24, .load false 1 (.t 23), none⟩])
  (.cond (.t 24)
   (.region [⟨some 25, .mv (.t 6), none⟩,
     ⟨some 4, .mv (.t 25), none⟩])
   .skip)))))))
def f23b1_c0 : LCode := (.seq (.region [⟨some 26, .mv (.t 4), none⟩,
   ⟨some 27, .mv (.t 5), none⟩,
   ⟨some 4, .mv (.t 26), none⟩,
   ⟨some 5, .mv (.t 27), none⟩])
 .ret)
def f23b1_c2 : LCode := (.seq (.region [⟨some 4, .mv (.c (.int .i64 0)), none⟩,
   ⟨some 5, .mv (.c (.int .i64 0)), none⟩])
 (.seq (.region [⟨some 4, .mv (.c (.int .i64 (-1))), none⟩,
   ⟨some 5, .mv (.c (.int .i64 (-1))), none⟩])
 (.seq (.seq (.region [⟨some 8, .mv (.t 0), none⟩,
   ⟨some 9, .nilck (.t 8), none⟩,
   ⟨some 10, .faddr 0 (.t 9), none⟩,
   ⟨some 11, .load false 1 (.t 10), none⟩,
   ⟨some 12, .mv (.t 1), none⟩,
   ⟨some 13, .mlook [.int] false false false [(.val (.map none))] (.t 11) (.t 12), none⟩,
   ⟨some 14, .range (.t 13), none⟩])
 (.block 0
  (.loop
   f23b1_c1)))
 f23b1_c0)))
def f23b1_lay : Lay := ⟨28, [], false⟩
def f23b1_res : List LRes := [.t 4, .t 5]
def f23b1_L : LFn := ⟨2, f23b1_lay, f23b1_c2, f23b1_res⟩
theorem f23b1_low : lowFn Try.prog [] 23 = some f23b1_L := by kernel_rfl
theorem f23b1_fok : FnOk Try.prog 23 := ⟨_, Try.func23, rfl, rfl⟩
def f23b1_Q {σ : Type} (Hc : σ → AHeap) (a0 : Int) (a1 : List (Int × Ref)) (z0 : σ) (o : Int × Int × σ) : Exit → Env → AHeap → Nat → Prop := FinK f23b1_res (FinTo 3 4 (.tup [.int .i64 o.1, .int .i64 o.2.1]) ([((0, 0), .one [.map (0, 1)]), ((0, 1), .amap (a1.map (em a_i64 (eR none))))] ++ up 3 (Hc o.2.2)))

def f23b1_L1_env {σ : Type} (Hc : σ → AHeap) (a1 : List (Int × Ref)) (z0 : σ) (s : Unit) : Env := [(4, .int .i64 (-1)), (5, .int .i64 (-1)), (14, .ptr (4, 0) 0 0)]
def f23b1_L1_hp {σ : Type} (Hc : σ → AHeap) (a1 : List (Int × Ref)) (z0 : σ) (s : Unit) : AHeap := ([((0, 0), .one [.map (0, 1)]), ((0, 1), .amap (a1.map (em a_i64 (eR none)))), ((4, 0), .itr none #[] 0 [])] ++ up 3 (Hc z0))
def f23b1_L1_Q {σ : Type} (Hc : σ → AHeap) (a0 : Int) (a1 : List (Int × Ref)) (z0 : σ) (o : (Int × Int × σ)) : Exit → Env → AHeap → Nat → Prop := (QBlock 0 (QSeq Try.prog f23b1_lay 3 f23b1_c0 (f23b1_Q Hc a0 a1 z0 o)))

noncomputable def S_progress_Assembler_bounds_23_j1 {σ : Type} (m : Option Nat) (a1 : List (Int × Ref)) (z0 : σ) : Option (Int × Int × σ) :=
  some ((-1), (-1), z0)

noncomputable def S_progress_Assembler_bounds_23_b1 {σ : Type} (m : Option Nat) (a1 : List (Int × Ref)) (z0 : σ) : Option (Unit ⊕ (Int × Int × σ)) :=
  Option.map Sum.inr (
    S_progress_Assembler_bounds_23_j1 m a1 z0)

noncomputable def S_progress_Assembler_bounds_23_l1 {σ : Type} (m : Option Nat) (a1 : List (Int × Ref)) (z0 : σ) : Option (Int × Int × σ) := loopM m (fun (s : Unit) => S_progress_Assembler_bounds_23_b1 m a1 z0) ()

theorem f23b1_j1_ok {σ : Type} {Hc : σ → AHeap} (ht : ∀ s, Tl (Hc s)) {a0 : Int} {a1 : List (Int × Ref)} {z0 : σ} {m : Option Nat} {o : (Int × Int × σ)} (h : S_progress_Assembler_bounds_23_j1 m a1 z0 = some o) :
    LWp Try.prog f23b1_lay 3 f23b1_c0 (f23b1_Q Hc a0 a1 z0 o) [(4, .int .i64 (-1)), (5, .int .i64 (-1))] ([((0, 0), .one [.map (0, 1)]), ((0, 1), .amap (a1.map (em a_i64 (eR none))))] ++ up 3 (Hc z0)) 4 := by
  unfold S_progress_Assembler_bounds_23_j1 at h
  refine seqI ?_
  refine regI ?_
  refine retI ?_
  cases h
  exact And.intro trivial (And.intro trivial (finT (n' := 4) (q := 3) (lit' := [((0, 0), .one [.map (0, 1)]), ((0, 1), .amap (a1.map (em a_i64 (eR none))))]) (ht _) [] [] rfl rfl (Vw.same _ rfl) (And.intro (And.intro rfl (BVw.oneL (And.intro (Vw.map _ _ rfl) trivial))) (And.intro (And.intro rfl (BVw.refmN a_i64_nid a1 rfl (rhoT_1 (chkT_ok (n := 4) (q := 3) (lit' := [((0, 0), .one [.map (0, 1)]), ((0, 1), .amap (a1.map (em a_i64 (eR none))))]) rfl)))) trivial))))

theorem f23b1_L1_bok {σ : Type} {Hc : σ → AHeap} (ht : ∀ s, Tl (Hc s)) {a0 : Int} {a1 : List (Int × Ref)} {z0 : σ} {m : Option Nat} {o : Unit ⊕ (Int × Int × σ)} (h : S_progress_Assembler_bounds_23_b1 m a1 z0 = some o) :
    LWp Try.prog f23b1_lay 3 f23b1_c1 (BodyQ 3 5 (f23b1_L1_env Hc a1 z0) (f23b1_L1_hp Hc a1 z0) (f23b1_L1_Q Hc a0 a1 z0) o) [(4, .int .i64 (-1)), (5, .int .i64 (-1)), (14, .ptr (4, 0) 0 0)] ([((0, 0), .one [.map (0, 1)]), ((0, 1), .amap (a1.map (em a_i64 (eR none)))), ((4, 0), .itr none #[] 0 [])] ++ up 3 (Hc z0)) 5 := by
  unfold S_progress_Assembler_bounds_23_b1 at h
  refine seqI ?_
  refine regI ?_
  refine seqI ?_
  refine condI (v := false) rfl trivial (fun hc => Bool.noConfusion hc) (fun hc => ?_)
  refine exitI ?_
  obtain ⟨o, hq, rfl⟩ := Option.map_eq_some_iff.1 h
  replace h := hq; clear hq
  refine And.intro nofun ?_
  refine LWp.sim ?_ (f23b1_j1_ok ht h)
  exact simT (M := []) (lit' := [((0, 0), .one [.map (0, 1)]), ((0, 1), .amap (a1.map (em a_i64 (eR none)))), ((4, 0), .itr none #[] 0 [])]) (ht _) rfl (And.intro (Vw.same _ rfl) (And.intro (Vw.same _ rfl) trivial)) (And.intro (And.intro rfl (BVw.oneL (And.intro (Vw.map _ _ rfl) trivial))) (And.intro (And.intro rfl (BVw.refmN a_i64_nid a1 rfl (rhoT_1 (chkT_ok (n := 4) (q := 3) (lit' := [((0, 0), .one [.map (0, 1)]), ((0, 1), .amap (a1.map (em a_i64 (eR none)))), ((4, 0), .itr none #[] 0 [])]) rfl)))) trivial))

theorem f23b1_L1_ok {σ : Type} {Hc : σ → AHeap} (ht : ∀ s, Tl (Hc s)) {a0 : Int} {a1 : List (Int × Ref)} {z0 : σ} {m : Option Nat} {o : (Int × Int × σ)} (h : S_progress_Assembler_bounds_23_l1 m a1 z0 = some o) :
    LWp Try.prog f23b1_lay 3 (.loop f23b1_c1) (QBlock 0 (QSeq Try.prog f23b1_lay 3 f23b1_c0 (f23b1_Q Hc a0 a1 z0 o))) [(4, .int .i64 (-1)), (5, .int .i64 (-1)), (14, .ptr (4, 0) 0 0)] ([((0, 0), .one [.map (0, 1)]), ((0, 1), .amap (a1.map (em a_i64 (eR none)))), ((4, 0), .itr none #[] 0 [])] ++ up 3 (Hc z0)) 5 :=
  LWp_loopM (m := m) (s := (() : Unit)) (r := o) (fun (s : Unit) => S_progress_Assembler_bounds_23_b1 m a1 z0) (f23b1_L1_env Hc a1 z0) (f23b1_L1_hp Hc a1 z0) (f23b1_L1_Q Hc a0 a1 z0) (fun s o h => f23b1_L1_bok ht h) h

noncomputable def S_progress_Assembler_bounds_23 {σ : Type} (m : Option Nat) (a0 : Int) (a1 : List (Int × Ref)) (z0 : σ) : Option (Int × Int × σ) :=
  if lk q_i64 a1 a0 = none then
  S_progress_Assembler_bounds_23_l1 m a1 z0
  else none

theorem f23b1_start {σ : Type} {Hc : σ → AHeap} (ht : ∀ s, Tl (Hc s)) {a0 : Int} {a1 : List (Int × Ref)} {z0 : σ} {m : Option Nat} {o : Int × Int × σ} (h : S_progress_Assembler_bounds_23 m a0 a1 z0 = some o) : LWp Try.prog f23b1_lay 3 f23b1_c2 (f23b1_Q Hc a0 a1 z0 o) (initEnv 0 [.ptr (0, 0) 0 0, .int .i64 a0]) ([((0, 0), .one [.map (0, 1)]), ((0, 1), .amap (a1.map (em a_i64 (eR none))))] ++ Hc z0) 3 := by
  unfold S_progress_Assembler_bounds_23 at h
  refine LWp.sim (e := [(0, .ptr (0, 0) 0 0), (1, .int .i64 a0)]) (L := ([((0, 0), .one [.map (0, 1)]), ((0, 1), .amap (a1.map (em a_i64 (eR none))))] ++ up 3 (Hc z0))) (n := 4) (entryT (T := Hc z0) (e' := initEnv 0 [.ptr (0, 0) 0 0, .int .i64 a0]) (e := [(0, .ptr (0, 0) 0 0), (1, .int .i64 a0)]) (lit' := [((0, 0), .one [.map (0, 1)]), ((0, 1), .amap (a1.map (em a_i64 (eR none))))]) (lit := [((0, 0), .one [.map (0, 1)]), ((0, 1), .amap (a1.map (em a_i64 (eR none))))]) (ht z0) rfl rfl (And.intro (Vw.ptr _ _ _ _ rfl) (And.intro (Vw.same _ rfl) trivial)) (And.intro (And.intro rfl (BVw.oneL (And.intro (Vw.map _ _ rfl) trivial))) (And.intro (And.intro rfl (BVw.refmN a_i64_nid a1 rfl (rhoE_1 _))) trivial))) ?_
  refine seqI ?_
  refine regI ?_
  refine seqI ?_
  refine regI ?_
  refine seqI ?_
  refine seqI ?_
  refine regI ?_
  obtain ⟨h1, h⟩ := ite_some h
  refine Exists.intro (.val (.map none)) (And.intro (mlookN (ek := a_i64) q_i64_ok rfl h1) (And.intro (mfind_some (ek := a_i64) (ev := eR none) q_i64_ok _ _) ?_))
  refine LWp.sim (e := [(4, .int .i64 (-1)), (5, .int .i64 (-1)), (14, .ptr (4, 0) 0 0)]) (L := ([((0, 0), .one [.map (0, 1)]), ((0, 1), .amap (a1.map (em a_i64 (eR none)))), ((4, 0), .itr none #[] 0 [])] ++ up 3 (Hc z0))) (n := 5) ?_ ?_
  · exact simT (M := [((4, 0), (4, 0))]) (lit' := [((4, 0), .itr none #[] 0 []), ((0, 0), .one [.map (0, 1)]), ((0, 1), .amap (a1.map (em a_i64 (eR none))))]) (ht _) rfl (And.intro (Vw.same _ rfl) (And.intro (Vw.same _ rfl) (And.intro (Vw.ptr _ _ _ _ rfl) trivial))) (And.intro (And.intro rfl (BVw.oneL (And.intro (Vw.map _ _ rfl) trivial))) (And.intro (And.intro rfl (BVw.refmN a_i64_nid a1 rfl (rhoT_1 (chkT_ok (n := 5) (q := 3) (lit' := [((4, 0), .itr none #[] 0 []), ((0, 0), .one [.map (0, 1)]), ((0, 1), .amap (a1.map (em a_i64 (eR none))))]) rfl)))) (And.intro (And.intro rfl BVw.itr0) trivial)))
  refine blockI ?_
  refine LWp.sim ?_ (f23b1_L1_ok ht h)
  exact simT (M := [((4, 0), (4, 0))]) (lit' := [((0, 0), .one [.map (0, 1)]), ((0, 1), .amap (a1.map (em a_i64 (eR none)))), ((4, 0), .itr none #[] 0 [])]) (ht _) rfl (And.intro (Vw.same _ rfl) (And.intro (Vw.same _ rfl) (And.intro (Vw.ptr _ _ _ _ rfl) trivial))) (And.intro (And.intro rfl (BVw.oneL (And.intro (Vw.map _ _ rfl) trivial))) (And.intro (And.intro rfl (BVw.refmN a_i64_nid a1 rfl (rhoT_1 (chkT_ok (n := 5) (q := 3) (lit' := [((0, 0), .one [.map (0, 1)]), ((0, 1), .amap (a1.map (em a_i64 (eR none)))), ((4, 0), .itr none #[] 0 [])]) rfl)))) (And.intro (And.intro rfl BVw.itr0) trivial)))

theorem f23b1_ok {σ : Type} {Hc : σ → AHeap} (ht : ∀ s, Tl (Hc s)) {a0 : Int} {a1 : List (Int × Ref)} {z0 : σ} {m : Option Nat} {o : Int × Int × σ} (h : S_progress_Assembler_bounds_23 m a0 a1 z0 = some o) : ACalls Try.prog 23 [.ptr (0, 0) 0 0, .int .i64 a0] ([((0, 0), .one [.map (0, 1)]), ((0, 1), .amap (a1.map (em a_i64 (eR none))))] ++ Hc z0) 3 (Gives 4 (.tup [.int .i64 o.1, .int .i64 o.2.1]) ([((0, 0), .one [.map (0, 1)]), ((0, 1), .amap (a1.map (em a_i64 (eR none))))] ++ up 3 (Hc o.2.2))) := bfn_of (L := f23b1_L) f23b1_low f23b1_fok (Nat.le_of_ble_eq_true rfl) (f23b1_start ht h)

def f13b1_c0 : LCode := (.seq (.region [⟨some 3, .box (.t 1), none⟩,
   ⟨some 4, .mv (.c (.bool false)), none⟩,
   ⟨some 5, .mv (.c (.int .i64 0)), none⟩])
 (.seq (.block 0
  (.seq (.region [⟨some 11, .faddr 0 (.t 3), none⟩,
    ⟨some 12, .load false 1 (.t 11), none⟩,
    ⟨some 13, .bin .lss (.t 12) (.c (.int .i64 0)), none⟩,
    ⟨some 14, .mv (.t 13), none⟩,
    ⟨some 15, .faddr 1 (.t 3), some (14, false)⟩,
    ⟨some 16, .load false 1 (.t 15), some (14, false)⟩,
    ⟨some 17, .bin .lss (.t 16) (.c (.int .i64 0)), some (14, false)⟩,
    ⟨some 18, .pick (.t 14) (.c (.bool true)) (.t 17), none⟩,
    ⟨some 19, .mv (.t 18), none⟩,
    ⟨some 20, .faddr 1 (.t 3), some (19, false)⟩,
    ⟨some 21, .load false 1 (.t 20), some (19, false)⟩,
    ⟨some 22, .bin .geq (.t 21) (.c (.int .i64 1000)), some (19, false)⟩,
    ⟨some 23, .pick (.t 19) (.c (.bool true)) (.t 22), none⟩,
    ⟨some 10, .mv (.t 23), none⟩])
  (.cond (.t 10)
   (.seq (.region [⟨some 4, .mv (.c (.bool false)), none⟩,
     ⟨some 5, .mv (.c (.int .i64 1)), none⟩])
   .ret)
   (.seq (.region [⟨some 25, .faddr 3 (.t 3), none⟩,
     ⟨some 26, .load false 1 (.t 25), none⟩,
     ⟨some 27, .len false (.t 26), none⟩,
     ⟨some 28, .bin .gtr (.t 27) (.c (.int .i64 1000)), none⟩,
     ⟨some 24, .mv (.t 28), none⟩])
   (.cond (.t 24)
    (.seq (.region [⟨some 4, .mv (.c (.bool false)), none⟩,
      ⟨some 5, .mv (.c (.int .i64 2)), none⟩])
    .ret)
    .skip)))))
 (.seq (.seq (.draw [⟨⟨some 30, .mv (.t 0), none⟩, []⟩,
   ⟨⟨some 31, .nilck (.t 30), none⟩, []⟩,
   ⟨⟨some 32, .faddr 0 (.t 31), none⟩, []⟩,
   ⟨⟨some 33, .load false 1 (.t 32), none⟩, []⟩,
   ⟨⟨some 34, .faddr 0 (.t 3), none⟩, []⟩,
   ⟨⟨some 35, .load false 1 (.t 34), none⟩, []⟩,
   ⟨⟨some 36, .mlook [.int] false false false [(.val (.map none))] (.t 33) (.t 35), none⟩, []⟩,
   ⟨⟨some 37, .faddr 1 (.t 3), none⟩, []⟩,
   ⟨⟨some 38, .load false 1 (.t 37), none⟩, []⟩,
   ⟨⟨some 39, .mlook [.int] false true true [(.int .i64 0), (.int .i64 0), (.bool false), (.isl 1 [] true)] (.t 36) (.t 38), none⟩, []⟩,
   ⟨⟨some 29, .mv (.t 39), none⟩, []⟩,
   ⟨⟨some 40, .ext 0 (.t 29), none⟩, []⟩,
   ⟨⟨some 41, .ext 1 (.t 29), none⟩, []⟩,
   ⟨⟨some 6, .alloc [(.int .i64 0), (.int .i64 0), (.bool false), (.isl 1 [] true)], none⟩, [3, 5, 6, 8, 9]⟩,
   ⟨⟨none, .store 4 (.t 6) (.t 40), none⟩, []⟩,
   ⟨⟨some 7, .mv (.t 41), none⟩, []⟩])
 (.seq (.region [⟨some 42, .mv (.t 7), none⟩])
 (.cond (.t 42)
  (.seq (.seq (.region [⟨some 43, .faddr 2 (.t 6), none⟩,
    ⟨some 44, .load false 1 (.t 43), none⟩,
    ⟨some 45, .faddr 2 (.t 3), none⟩,
    ⟨some 46, .load false 1 (.t 45), none⟩,
    ⟨some 47, .eq false .bool (.t 44) (.t 46), none⟩,
    ⟨some 48, .mv (.t 47), none⟩,
    ⟨some 49, .faddr 3 (.t 6), some (48, true)⟩,
    ⟨some 50, .load false 1 (.t 49), some (48, true)⟩,
    ⟨some 51, .faddr 3 (.t 3), some (48, true)⟩,
    ⟨some 52, .load false 1 (.t 51), some (48, true)⟩,
    ⟨some 53, .call 22 [(.t 50), (.t 52)], some (48, true)⟩,
    ⟨some 54, .pick (.t 48) (.t 53) (.c (.bool false)), none⟩])
  (.cond (.t 54)
   (.seq (.region [⟨some 4, .mv (.c (.bool false)), none⟩,
     ⟨some 5, .mv (.c (.int .i64 0)), none⟩])
   .ret)
   .skip))
  (.seq (.region [⟨some 4, .mv (.c (.bool false)), none⟩,
    ⟨some 5, .mv (.c (.int .i64 10)), none⟩])
  .ret))
  .skip)))
 (.seq (.seq (.region [⟨some 56, .mv (.t 0), none⟩,
   ⟨some 57, .faddr 0 (.t 3), none⟩,
   ⟨some 58, .load false 1 (.t 57), none⟩,
   ⟨some 59, .call 23 [(.t 56), (.t 58)], none⟩,
   ⟨some 55, .mv (.t 59), none⟩,
   ⟨some 60, .ext 0 (.t 55), none⟩,
   ⟨some 61, .ext 1 (.t 55), none⟩,
   ⟨some 8, .mv (.t 60), none⟩,
   ⟨some 9, .mv (.t 61), none⟩])
 (.seq (.region [⟨some 62, .mv (.t 8), none⟩,
   ⟨some 63, .bin .geq (.t 62) (.c (.int .i64 0)), none⟩,
   ⟨some 64, .mv (.t 63), none⟩,
   ⟨some 65, .mv (.t 8), some (64, true)⟩,
   ⟨some 66, .faddr 1 (.t 3), some (64, true)⟩,
   ⟨some 67, .load false 1 (.t 66), some (64, true)⟩,
   ⟨some 68, .bin .lss (.t 65) (.t 67), some (64, true)⟩,
   ⟨some 69, .pick (.t 64) (.t 68) (.c (.bool false)), none⟩,
   ⟨some 70, .mv (.t 69), none⟩,
   ⟨some 71, .faddr 2 (.t 3), some (70, false)⟩,
   ⟨some 72, .load false 1 (.t 71), some (70, false)⟩,
   ⟨some 73, .mv (.t 72), some (70, false)⟩,
   ⟨some 74, .mv (.t 9), some (73, true)⟩,
   ⟨some 75, .faddr 1 (.t 3), some (73, true)⟩,
   ⟨some 76, .load false 1 (.t 75), some (73, true)⟩,
   ⟨some 77, .bin .gtr (.t 74) (.t 76), some (73, true)⟩,
   ⟨some 78, .pick (.t 73) (.t 77) (.c (.bool false)), some (70, false)⟩,
   ⟨some 79, .pick (.t 70) (.c (.bool true)) (.t 78), none⟩])
 (.cond (.t 79)
  (.seq (.region [⟨some 4, .mv (.c (.bool false)), none⟩,
    ⟨some 5, .mv (.c (.int .i64 10)), none⟩])
  .ret)
  .skip)))
 (.seq (.seq (.quiet [⟨some 80, .mv (.t 0), none⟩,
   ⟨some 81, .nilck (.t 80), none⟩,
   ⟨some 82, .faddr 0 (.t 81), none⟩,
   ⟨some 83, .load false 1 (.t 82), none⟩,
   ⟨some 84, .faddr 0 (.t 3), none⟩,
   ⟨some 85, .load false 1 (.t 84), none⟩,
   ⟨some 86, .mlook [.int] false false false [(.val (.map none))] (.t 83) (.t 85), none⟩,
   ⟨some 87, .eq false .map (.t 86) (.c (.val (.map none))), none⟩])
 (.cond (.t 87)
  (.draw [⟨⟨some 88, .mv (.t 0), none⟩, []⟩,
    ⟨⟨some 89, .nilck (.t 88), none⟩, []⟩,
    ⟨⟨some 90, .faddr 0 (.t 89), none⟩, []⟩,
    ⟨⟨some 91, .load false 1 (.t 90), none⟩, []⟩,
    ⟨⟨some 92, .faddr 0 (.t 3), none⟩, []⟩,
    ⟨⟨some 93, .load false 1 (.t 92), none⟩, []⟩,
    ⟨⟨some 94, .mkmap none, none⟩, [3, 5]⟩,
    ⟨⟨none, .mset [.int] false false [(.val (.map none))] (.t 91) (.t 93) (.t 94), none⟩, []⟩])
  .skip))
 (.seq (.region [⟨some 95, .faddr 3 (.t 3), none⟩,
   ⟨some 96, .load false 1 (.t 95), none⟩,
   ⟨some 97, .call 20 [(.t 96)], none⟩,
   ⟨some 98, .faddr 3 (.t 3), none⟩,
   ⟨none, .store 1 (.t 98) (.t 97), none⟩])
 (.seq (.draw [⟨⟨some 99, .mv (.t 0), none⟩, []⟩,
   ⟨⟨some 100, .nilck (.t 99), none⟩, []⟩,
   ⟨⟨some 101, .faddr 0 (.t 100), none⟩, []⟩,
   ⟨⟨some 102, .load false 1 (.t 101), none⟩, []⟩,
   ⟨⟨some 103, .faddr 0 (.t 3), none⟩, []⟩,
   ⟨⟨some 104, .load false 1 (.t 103), none⟩, []⟩,
   ⟨⟨some 105, .mlook [.int] false false false [(.val (.map none))] (.t 102) (.t 104), none⟩, []⟩,
   ⟨⟨some 106, .faddr 1 (.t 3), none⟩, []⟩,
   ⟨⟨some 107, .load false 1 (.t 106), none⟩, []⟩,
   ⟨⟨some 108, .load true 4 (.t 3), none⟩, []⟩,
   ⟨⟨none, .mset [.int] false true [(.int .i64 0), (.int .i64 0), (.bool false), (.isl 1 [] true)] (.t 105) (.t 107) (.t 108), none⟩, []⟩])
 (.seq (.region [⟨some 4, .mv (.c (.bool true)), none⟩,
   ⟨some 5, .mv (.c (.int .i64 0)), none⟩])
 .ret))))))))
def f13b1_lay : Lay := ⟨109, [], false⟩
def f13b1_res : List LRes := [.t 4, .t 5]
def f13b1_L : LFn := ⟨2, f13b1_lay, f13b1_c0, f13b1_res⟩
theorem f13b1_low : lowFn Try.prog [] 13 = some f13b1_L := by kernel_rfl
theorem f13b1_fok : FnOk Try.prog 13 := ⟨_, Try.func13, rfl, rfl⟩
noncomputable def S_progress_Assembler_Add_13 {σ : Type} (m : Option Nat) (a0 : G_QChunk) (a1 : List (Int × Ref)) (z0 : σ) : Option ((Bool × Int × σ) ⊕ (Bool × Int × (List (Int × Ref)) × (List (Int × G_QChunk)) × σ)) :=
  if (((decide (a0.f_Token < 0)) || (decide (a0.f_Seq < 0))) || (decide (a0.f_Seq ≥ 1000))) = true then
    some (.inl (false, 1, z0))
  else
    if (decide (((a0.f_Items.map e_i64).length : Int) > 1000)) = true then
      some (.inl (false, 2, z0))
    else
      if lk q_i64 a1 a0.f_Token = none then
      (S_progress_Assembler_bounds_23 m a0.f_Token a1 z0).bind fun v1 =>
      if (((decide (v1.1 ≥ 0)) && (decide (v1.1 < a0.f_Seq))) || (a0.f_Last && (decide (v1.2.1 > a0.f_Seq)))) = true then
        some (.inl (false, 10, v1.2.2))
      else
        if lk q_i64 a1 a0.f_Token = none then
        if noFoc a1 = true then
        (S_slices_Clone_intE m a0.f_Items).bind fun v2 =>
        if lk q_i64 (mp q_i64 a1 a0.f_Token Ref.foc) a0.f_Token = some Ref.foc then
        some (.inr (true, 0, (mp q_i64 a1 a0.f_Token Ref.foc), (mp q_i64 ([] : List (Int × G_QChunk)) a0.f_Seq (G_QChunk.mk a0.f_Token a0.f_Seq a0.f_Last v2)), v1.2.2))
        else none
        else none
        else none
      else none

def f13b1_Q {σ : Type} (Hc : σ → AHeap) (a0 : G_QChunk) (a1 : List (Int × Ref)) (z0 : σ) (o : (Bool × Int × σ) ⊕ (Bool × Int × (List (Int × Ref)) × (List (Int × G_QChunk)) × σ)) : Exit → Env → AHeap → Nat → Prop := FinK f13b1_res (match o with | (.inl o) => FinTo 3 4 (.tup [.bool o.1, .int .i64 o.2.1]) ([((0, 0), .one [.map (0, 1)]), ((0, 1), .amap (a1.map (em a_i64 (eR none))))] ++ up 3 (Hc o.2.2)) | (.inr o) => FinTo 3 5 (.tup [.bool o.1, .int .i64 o.2.1]) ([((0, 0), .one [.map (0, 1)]), ((0, 1), .amap (o.2.2.1.map (em a_i64 (eR (some (4, 0)))))), ((4, 0), .amap (o.2.2.2.1.map (em a_i64 a_QChunk)))] ++ up 3 (Hc o.2.2.2.2)))

theorem f13b1_start {σ : Type} {Hc : σ → AHeap} (ht : ∀ s, Tl (Hc s)) {a0 : G_QChunk} {a1 : List (Int × Ref)} {z0 : σ} {m : Option Nat} {o : (Bool × Int × σ) ⊕ (Bool × Int × (List (Int × Ref)) × (List (Int × G_QChunk)) × σ)} (h : S_progress_Assembler_Add_13 m a0 a1 z0 = some o) : LWp Try.prog f13b1_lay 3 f13b1_c0 (f13b1_Q Hc a0 a1 z0 o) (initEnv 0 [.ptr (0, 0) 0 0, .agg [.int .i64 a0.f_Token, .int .i64 a0.f_Seq, .bool a0.f_Last, .isl 1 (a0.f_Items.map e_i64) false]]) ([((0, 0), .one [.map (0, 1)]), ((0, 1), .amap (a1.map (em a_i64 (eR none))))] ++ Hc z0) 3 := by
  unfold S_progress_Assembler_Add_13 at h
  refine LWp.sim (e := [(0, .ptr (0, 0) 0 0), (1, .agg [.int .i64 a0.f_Token, .int .i64 a0.f_Seq, .bool a0.f_Last, .isl 1 (a0.f_Items.map e_i64) false])]) (L := ([((0, 0), .one [.map (0, 1)]), ((0, 1), .amap (a1.map (em a_i64 (eR none))))] ++ up 3 (Hc z0))) (n := 4) (entryT (T := Hc z0) (e' := initEnv 0 [.ptr (0, 0) 0 0, .agg [.int .i64 a0.f_Token, .int .i64 a0.f_Seq, .bool a0.f_Last, .isl 1 (a0.f_Items.map e_i64) false]]) (e := [(0, .ptr (0, 0) 0 0), (1, .agg [.int .i64 a0.f_Token, .int .i64 a0.f_Seq, .bool a0.f_Last, .isl 1 (a0.f_Items.map e_i64) false])]) (lit' := [((0, 0), .one [.map (0, 1)]), ((0, 1), .amap (a1.map (em a_i64 (eR none))))]) (lit := [((0, 0), .one [.map (0, 1)]), ((0, 1), .amap (a1.map (em a_i64 (eR none))))]) (ht z0) rfl rfl (And.intro (Vw.ptr _ _ _ _ rfl) (And.intro (Vw.same _ rfl) trivial)) (And.intro (And.intro rfl (BVw.oneL (And.intro (Vw.map _ _ rfl) trivial))) (And.intro (And.intro rfl (BVw.refmN a_i64_nid a1 rfl (rhoE_1 _))) trivial))) ?_
  refine seqI ?_
  refine regI ?_
  refine seqI ?_
  refine blockI ?_
  refine seqI ?_
  refine regI ?_
  refine And.intro (fun hp => hp) ?_
  show yops _ _ _ [(16, .cnd ((decide (a0.f_Token < 0)) == false) (.int .i64 a0.f_Seq)), (15, .cnd ((decide (a0.f_Token < 0)) == false) (.ptr (4, 0) 0 1)), (14, .bool (decide (a0.f_Token < 0))), (13, .bool (decide (a0.f_Token < 0))), (12, .int .i64 a0.f_Token), (11, .ptr (4, 0) 0 0), (5, .int .i64 0), (4, .bool false), (3, .ptr (4, 0) 0 0), (0, .ptr (0, 0) 0 0), (1, .agg [.int .i64 a0.f_Token, .int .i64 a0.f_Seq, .bool a0.f_Last, .isl 1 (a0.f_Items.map e_i64) false])] _ _
  refine And.intro (fun hp => hp) ?_
  refine And.intro (fun hc => (bqf hc)) ?_
  refine And.intro (fun hp => hp) ?_
  show yops _ _ _ [(21, .cnd (((decide (a0.f_Token < 0)) || (decide (a0.f_Seq < 0))) == false) (.int .i64 a0.f_Seq)), (20, .cnd (((decide (a0.f_Token < 0)) || (decide (a0.f_Seq < 0))) == false) (.ptr (4, 0) 0 1)), (19, .bool ((decide (a0.f_Token < 0)) || (decide (a0.f_Seq < 0)))), (18, .bool ((decide (a0.f_Token < 0)) || (decide (a0.f_Seq < 0)))), (17, .cnd ((decide (a0.f_Token < 0)) == false) (.bool (decide (a0.f_Seq < 0)))), (16, .cnd ((decide (a0.f_Token < 0)) == false) (.int .i64 a0.f_Seq)), (15, .cnd ((decide (a0.f_Token < 0)) == false) (.ptr (4, 0) 0 1)), (14, .bool (decide (a0.f_Token < 0))), (13, .bool (decide (a0.f_Token < 0))), (12, .int .i64 a0.f_Token), (11, .ptr (4, 0) 0 0), (5, .int .i64 0), (4, .bool false), (3, .ptr (4, 0) 0 0), (0, .ptr (0, 0) 0 0), (1, .agg [.int .i64 a0.f_Token, .int .i64 a0.f_Seq, .bool a0.f_Last, .isl 1 (a0.f_Items.map e_i64) false])] _ _
  refine And.intro (fun hp => hp) ?_
  refine And.intro (fun hc => (bqf hc)) ?_
  refine LWp.sim (e := [(0, .ptr (0, 0) 0 0), (3, .ptr (4, 0) 0 0), (10, .bool (((decide (a0.f_Token < 0)) || (decide (a0.f_Seq < 0))) || (decide (a0.f_Seq ≥ 1000))))]) (L := ([((0, 0), .one [.map (0, 1)]), ((0, 1), .amap (a1.map (em a_i64 (eR none)))), ((4, 0), .one [.int .i64 a0.f_Token, .int .i64 a0.f_Seq, .bool a0.f_Last, .isl 1 (a0.f_Items.map e_i64) false])] ++ up 3 (Hc z0))) (n := 5) ?_ ?_
  · exact simT (M := [((4, 0), (4, 0))]) (lit' := [((4, 0), .one [.int .i64 a0.f_Token, .int .i64 a0.f_Seq, .bool a0.f_Last, .isl 1 (a0.f_Items.map e_i64) false]), ((0, 0), .one [.map (0, 1)]), ((0, 1), .amap (a1.map (em a_i64 (eR none))))]) (ht _) rfl (And.intro (Vw.ptr _ _ _ _ rfl) (And.intro (Vw.ptr _ _ _ _ rfl) (And.intro (Vw.same _ rfl) trivial))) (And.intro (And.intro rfl (BVw.oneL (And.intro (Vw.map _ _ rfl) trivial))) (And.intro (And.intro rfl (BVw.refmN a_i64_nid a1 rfl (rhoT_1 (chkT_ok (n := 5) (q := 3) (lit' := [((4, 0), .one [.int .i64 a0.f_Token, .int .i64 a0.f_Seq, .bool a0.f_Last, .isl 1 (a0.f_Items.map e_i64) false]), ((0, 0), .one [.map (0, 1)]), ((0, 1), .amap (a1.map (em a_i64 (eR none))))]) rfl)))) (And.intro (And.intro rfl (BVw.oneL (And.intro (Vw.same _ rfl) (And.intro (Vw.same _ rfl) (And.intro (Vw.same _ rfl) (And.intro (Vw.same _ rfl) trivial)))))) trivial)))
  refine condI (v := (((decide (a0.f_Token < 0)) || (decide (a0.f_Seq < 0))) || (decide (a0.f_Seq ≥ 1000)))) rfl trivial (fun h1 => ?_) (fun h1 => ?_)
  · have h := ite_tt h1 h
    refine seqI ?_
    refine regI ?_
    refine retI ?_
    cases h
    exact And.intro trivial (And.intro trivial (finT (n' := 5) (q := 3) (lit' := [((0, 0), .one [.map (0, 1)]), ((0, 1), .amap (a1.map (em a_i64 (eR none)))), ((4, 0), .one [.int .i64 a0.f_Token, .int .i64 a0.f_Seq, .bool a0.f_Last, .isl 1 (a0.f_Items.map e_i64) false])]) (ht _) [] [] rfl rfl (Vw.same _ rfl) (And.intro (And.intro rfl (BVw.oneL (And.intro (Vw.map _ _ rfl) trivial))) (And.intro (And.intro rfl (BVw.refmN a_i64_nid a1 rfl (rhoT_1 (chkT_ok (n := 4) (q := 3) (lit' := [((0, 0), .one [.map (0, 1)]), ((0, 1), .amap (a1.map (em a_i64 (eR none)))), ((4, 0), .one [.int .i64 a0.f_Token, .int .i64 a0.f_Seq, .bool a0.f_Last, .isl 1 (a0.f_Items.map e_i64) false])]) rfl)))) trivial))))
  · have h := ite_ff h1 h
    refine seqI ?_
    refine regI ?_
    refine condI (v := (decide (((a0.f_Items.map e_i64).length : Int) > 1000))) rfl trivial (fun h2 => ?_) (fun h2 => ?_)
    · have h := ite_tt h2 h
      refine seqI ?_
      refine regI ?_
      refine retI ?_
      cases h
      exact And.intro trivial (And.intro trivial (finT (n' := 5) (q := 3) (lit' := [((0, 0), .one [.map (0, 1)]), ((0, 1), .amap (a1.map (em a_i64 (eR none)))), ((4, 0), .one [.int .i64 a0.f_Token, .int .i64 a0.f_Seq, .bool a0.f_Last, .isl 1 (a0.f_Items.map e_i64) false])]) (ht _) [] [] rfl rfl (Vw.same _ rfl) (And.intro (And.intro rfl (BVw.oneL (And.intro (Vw.map _ _ rfl) trivial))) (And.intro (And.intro rfl (BVw.refmN a_i64_nid a1 rfl (rhoT_1 (chkT_ok (n := 4) (q := 3) (lit' := [((0, 0), .one [.map (0, 1)]), ((0, 1), .amap (a1.map (em a_i64 (eR none)))), ((4, 0), .one [.int .i64 a0.f_Token, .int .i64 a0.f_Seq, .bool a0.f_Last, .isl 1 (a0.f_Items.map e_i64) false])]) rfl)))) trivial))))
    · have h := ite_ff h2 h
      refine skipI ?_
      refine seqI ?_
      refine seqI ?_
      refine drawI ?_
      obtain ⟨h3, h⟩ := ite_some h
      refine Exists.intro (.val (.map none)) (And.intro (mlookN (ek := a_i64) q_i64_ok rfl h3) (And.intro (mfind_some (ek := a_i64) (ev := eR none) q_i64_ok _ _) ?_))
      refine And.intro rfl ?_
      refine And.intro rfl ?_
      refine And.intro (And.intro (mfind_some (ek := a_i64) (ev := eR none) q_i64_ok _ _) (mlookN (ek := a_i64) q_i64_ok rfl h3)) ?_
      refine And.intro rfl ?_
      refine And.intro rfl ?_
      refine LWp.sim (e := [(0, .ptr (0, 0) 0 0), (3, .ptr (4, 0) 0 0), (6, .ptr (5, 0) 0 0), (7, .bool false)]) (L := ([((0, 0), .one [.map (0, 1)]), ((0, 1), .amap (a1.map (em a_i64 (eR none)))), ((4, 0), .one [.int .i64 a0.f_Token, .int .i64 a0.f_Seq, .bool a0.f_Last, .isl 1 (a0.f_Items.map e_i64) false]), ((5, 0), .one [.int .i64 ((G_QChunk.mk 0 0 false []).f_Token), .int .i64 ((G_QChunk.mk 0 0 false []).f_Seq), .bool ((G_QChunk.mk 0 0 false []).f_Last), .isl 1 (((G_QChunk.mk 0 0 false []).f_Items).map e_i64) false])] ++ up 3 (Hc z0))) (n := 6) ?_ ?_
      · exact simT (M := [((4, 0), (4, 0)), ((5, 0), (5, 0))]) (lit' := [((5, 0), .one [.int .i64 ((G_QChunk.mk 0 0 false []).f_Token), .int .i64 ((G_QChunk.mk 0 0 false []).f_Seq), .bool ((G_QChunk.mk 0 0 false []).f_Last), .isl 1 (((G_QChunk.mk 0 0 false []).f_Items).map e_i64) false]), ((0, 0), .one [.map (0, 1)]), ((0, 1), .amap (a1.map (em a_i64 (eR none)))), ((4, 0), .one [.int .i64 a0.f_Token, .int .i64 a0.f_Seq, .bool a0.f_Last, .isl 1 (a0.f_Items.map e_i64) false])]) (ht _) rfl (And.intro (Vw.ptr _ _ _ _ rfl) (And.intro (Vw.ptr _ _ _ _ rfl) (And.intro (Vw.ptr _ _ _ _ rfl) (And.intro (Vw.same _ rfl) trivial)))) (And.intro (And.intro rfl (BVw.oneL (And.intro (Vw.map _ _ rfl) trivial))) (And.intro (And.intro rfl (BVw.refmN a_i64_nid a1 rfl (rhoT_1 (chkT_ok (n := 6) (q := 3) (lit' := [((5, 0), .one [.int .i64 ((G_QChunk.mk 0 0 false []).f_Token), .int .i64 ((G_QChunk.mk 0 0 false []).f_Seq), .bool ((G_QChunk.mk 0 0 false []).f_Last), .isl 1 (((G_QChunk.mk 0 0 false []).f_Items).map e_i64) false]), ((0, 0), .one [.map (0, 1)]), ((0, 1), .amap (a1.map (em a_i64 (eR none)))), ((4, 0), .one [.int .i64 a0.f_Token, .int .i64 a0.f_Seq, .bool a0.f_Last, .isl 1 (a0.f_Items.map e_i64) false])]) rfl)))) (And.intro (And.intro rfl (BVw.oneL (And.intro (Vw.same _ rfl) (And.intro (Vw.same _ rfl) (And.intro (Vw.same _ rfl) (And.intro (Vw.same _ rfl) trivial)))))) (And.intro (And.intro rfl (BVw.oneL (And.intro (Vw.same _ rfl) (And.intro (Vw.same _ rfl) (And.intro (Vw.same _ rfl) (And.intro (Vw.same _ rfl) trivial)))))) trivial))))
      refine seqI ?_
      refine regI ?_
      refine condI (v := false) rfl trivial (fun hc => Bool.noConfusion hc) (fun hc => ?_)
      refine skipI ?_
      refine seqI ?_
      refine seqI ?_
      refine regI ?_
      obtain ⟨v1, h4, h⟩ := bind_some h
      refine bcallT (m := 1) (q := 3) (lit0 := [((0, 0), .one [.map (0, 1)]), ((0, 1), .amap (a1.map (em a_i64 (eR none))))]) (lit := [((0, 0), .one [.map (0, 1)]), ((0, 1), .amap (a1.map (em a_i64 (eR none)))), ((4, 0), .one [.int .i64 a0.f_Token, .int .i64 a0.f_Seq, .bool a0.f_Last, .isl 1 (a0.f_Items.map e_i64) false]), ((5, 0), .one [.int .i64 ((G_QChunk.mk 0 0 false []).f_Token), .int .i64 ((G_QChunk.mk 0 0 false []).f_Seq), .bool ((G_QChunk.mk 0 0 false []).f_Last), .isl 1 (((G_QChunk.mk 0 0 false []).f_Items).map e_i64) false])]) (L := [((0, 0), .one [.map (0, 1)]), ((0, 1), .amap (a1.map (em a_i64 (eR none))))]) (L' := [((0, 0), .one [.map (0, 1)]), ((0, 1), .amap (a1.map (em a_i64 (eR none))))]) (rest := [((4, 0), .one [.int .i64 a0.f_Token, .int .i64 a0.f_Seq, .bool a0.f_Last, .isl 1 (a0.f_Items.map e_i64) false]), ((5, 0), .one [.int .i64 ((G_QChunk.mk 0 0 false []).f_Token), .int .i64 ((G_QChunk.mk 0 0 false []).f_Seq), .bool ((G_QChunk.mk 0 0 false []).f_Last), .isl 1 (((G_QChunk.mk 0 0 false []).f_Items).map e_i64) false])]) (R' := .tup [.int .i64 v1.1, .int .i64 v1.2.1]) (ht _) (ht _) [((0, 0), (0, 0)), ((0, 1), (0, 1))] (f23b1_ok ht h4) rfl rfl rfl rfl rfl rfl (And.intro (Vw.ptr _ _ _ _ rfl) (And.intro (Vw.same _ rfl) trivial)) (And.intro (h0I (0, 0) rfl rfl (BVw.oneL (And.intro (Vw.map _ _ rfl) trivial))) (And.intro (h0I (0, 1) rfl rfl (BVw.refmN a_i64_nid a1 rfl (lookT_1 _ _))) trivial)) (nid_ren _ rfl) (And.intro rfl (And.intro rfl (And.intro rfl (And.intro (refm_ren a_i64_nid (fun _ => rfl) rfl _) trivial)))) rfl ?_
      show yops _ _ _ [(59, .tup [.int .i64 v1.1, .int .i64 v1.2.1]), (58, .int .i64 a0.f_Token), (57, .ptr (4, 0) 0 0), (56, .ptr (0, 0) 0 0), (42, .bool false), (0, .ptr (0, 0) 0 0), (3, .ptr (4, 0) 0 0), (6, .ptr (5, 0) 0 0), (7, .bool false)] _ _
      refine LWp.sim (e := [(0, .ptr (0, 0) 0 0), (3, .ptr (4, 0) 0 0), (8, .int .i64 v1.1), (9, .int .i64 v1.2.1)]) (L := ([((0, 0), .one [.map (0, 1)]), ((0, 1), .amap (a1.map (em a_i64 (eR none)))), ((4, 0), .one [.int .i64 a0.f_Token, .int .i64 a0.f_Seq, .bool a0.f_Last, .isl 1 (a0.f_Items.map e_i64) false])] ++ up 3 (Hc v1.2.2))) (n := 5) ?_ ?_
      · exact simT (M := [((4, 0), (4, 0))]) (lit' := [((0, 0), .one [.map (0, 1)]), ((0, 1), .amap (a1.map (em a_i64 (eR none)))), ((4, 0), .one [.int .i64 a0.f_Token, .int .i64 a0.f_Seq, .bool a0.f_Last, .isl 1 (a0.f_Items.map e_i64) false]), ((5, 0), .one [.int .i64 ((G_QChunk.mk 0 0 false []).f_Token), .int .i64 ((G_QChunk.mk 0 0 false []).f_Seq), .bool ((G_QChunk.mk 0 0 false []).f_Last), .isl 1 (((G_QChunk.mk 0 0 false []).f_Items).map e_i64) false])]) (ht _) rfl (And.intro (Vw.ptr _ _ _ _ rfl) (And.intro (Vw.ptr _ _ _ _ rfl) (And.intro (Vw.same _ rfl) (And.intro (Vw.same _ rfl) trivial)))) (And.intro (And.intro rfl (BVw.oneL (And.intro (Vw.map _ _ rfl) trivial))) (And.intro (And.intro rfl (BVw.refmN a_i64_nid a1 rfl (rhoT_1 (chkT_ok (n := 5) (q := 6) (lit' := [((0, 0), .one [.map (0, 1)]), ((0, 1), .amap (a1.map (em a_i64 (eR none)))), ((4, 0), .one [.int .i64 a0.f_Token, .int .i64 a0.f_Seq, .bool a0.f_Last, .isl 1 (a0.f_Items.map e_i64) false]), ((5, 0), .one [.int .i64 ((G_QChunk.mk 0 0 false []).f_Token), .int .i64 ((G_QChunk.mk 0 0 false []).f_Seq), .bool ((G_QChunk.mk 0 0 false []).f_Last), .isl 1 (((G_QChunk.mk 0 0 false []).f_Items).map e_i64) false])]) rfl)))) (And.intro (And.intro rfl (BVw.oneL (And.intro (Vw.same _ rfl) (And.intro (Vw.same _ rfl) (And.intro (Vw.same _ rfl) (And.intro (Vw.same _ rfl) trivial)))))) trivial)))
      refine seqI ?_
      refine regI ?_
      refine And.intro (fun hp => hp) ?_
      show yops _ _ _ [(67, .cnd ((decide (v1.1 ≥ 0)) == true) (.int .i64 a0.f_Seq)), (66, .cnd ((decide (v1.1 ≥ 0)) == true) (.ptr (4, 0) 0 1)), (65, .cnd ((decide (v1.1 ≥ 0)) == true) (.int .i64 v1.1)), (64, .bool (decide (v1.1 ≥ 0))), (63, .bool (decide (v1.1 ≥ 0))), (62, .int .i64 v1.1), (0, .ptr (0, 0) 0 0), (3, .ptr (4, 0) 0 0), (8, .int .i64 v1.1), (9, .int .i64 v1.2.1)] _ _
      refine And.intro (fun hp => (And.intro hp hp)) ?_
      refine And.intro (fun hc => (bqt hc)) ?_
      refine And.intro (fun hp => hp) ?_
      show yops _ _ _ [(72, .cnd (((decide (v1.1 ≥ 0)) && (decide (v1.1 < a0.f_Seq))) == false) (.bool a0.f_Last)), (71, .cnd (((decide (v1.1 ≥ 0)) && (decide (v1.1 < a0.f_Seq))) == false) (.ptr (4, 0) 0 2)), (70, .bool ((decide (v1.1 ≥ 0)) && (decide (v1.1 < a0.f_Seq)))), (69, .bool ((decide (v1.1 ≥ 0)) && (decide (v1.1 < a0.f_Seq)))), (68, .cnd ((decide (v1.1 ≥ 0)) == true) (.bool (decide (v1.1 < a0.f_Seq)))), (67, .cnd ((decide (v1.1 ≥ 0)) == true) (.int .i64 a0.f_Seq)), (66, .cnd ((decide (v1.1 ≥ 0)) == true) (.ptr (4, 0) 0 1)), (65, .cnd ((decide (v1.1 ≥ 0)) == true) (.int .i64 v1.1)), (64, .bool (decide (v1.1 ≥ 0))), (63, .bool (decide (v1.1 ≥ 0))), (62, .int .i64 v1.1), (0, .ptr (0, 0) 0 0), (3, .ptr (4, 0) 0 0), (8, .int .i64 v1.1), (9, .int .i64 v1.2.1)] _ _
      refine And.intro (fun hp => hp) ?_
      refine And.intro (fun hp => hp) ?_
      refine And.intro (fun hp => (And.intro hp hp)) ?_
      show yops _ _ _ [(77, .cnd ((((decide (v1.1 ≥ 0)) && (decide (v1.1 < a0.f_Seq))) == false) && (a0.f_Last == true)) (.bool (decide (v1.2.1 > a0.f_Seq)))), (76, .cnd ((((decide (v1.1 ≥ 0)) && (decide (v1.1 < a0.f_Seq))) == false) && (a0.f_Last == true)) (.int .i64 a0.f_Seq)), (75, .cnd ((((decide (v1.1 ≥ 0)) && (decide (v1.1 < a0.f_Seq))) == false) && (a0.f_Last == true)) (.ptr (4, 0) 0 1)), (74, .cnd ((((decide (v1.1 ≥ 0)) && (decide (v1.1 < a0.f_Seq))) == false) && (a0.f_Last == true)) (.int .i64 v1.2.1)), (73, .cnd (((decide (v1.1 ≥ 0)) && (decide (v1.1 < a0.f_Seq))) == false) (.bool a0.f_Last)), (72, .cnd (((decide (v1.1 ≥ 0)) && (decide (v1.1 < a0.f_Seq))) == false) (.bool a0.f_Last)), (71, .cnd (((decide (v1.1 ≥ 0)) && (decide (v1.1 < a0.f_Seq))) == false) (.ptr (4, 0) 0 2)), (70, .bool ((decide (v1.1 ≥ 0)) && (decide (v1.1 < a0.f_Seq)))), (69, .bool ((decide (v1.1 ≥ 0)) && (decide (v1.1 < a0.f_Seq)))), (68, .cnd ((decide (v1.1 ≥ 0)) == true) (.bool (decide (v1.1 < a0.f_Seq)))), (67, .cnd ((decide (v1.1 ≥ 0)) == true) (.int .i64 a0.f_Seq)), (66, .cnd ((decide (v1.1 ≥ 0)) == true) (.ptr (4, 0) 0 1)), (65, .cnd ((decide (v1.1 ≥ 0)) == true) (.int .i64 v1.1)), (64, .bool (decide (v1.1 ≥ 0))), (63, .bool (decide (v1.1 ≥ 0))), (62, .int .i64 v1.1), (0, .ptr (0, 0) 0 0), (3, .ptr (4, 0) 0 0), (8, .int .i64 v1.1), (9, .int .i64 v1.2.1)] _ _
      refine And.intro (fun hp => (And.intro hp (fun hc => (and_i hp (bqt hc))))) ?_
      refine And.intro (fun hc => (bqf hc)) ?_
      refine LWp.sim (e := [(0, .ptr (0, 0) 0 0), (3, .ptr (4, 0) 0 0), (79, .bool (((decide (v1.1 ≥ 0)) && (decide (v1.1 < a0.f_Seq))) || (a0.f_Last && (decide (v1.2.1 > a0.f_Seq)))))]) (L := ([((0, 0), .one [.map (0, 1)]), ((0, 1), .amap (a1.map (em a_i64 (eR none)))), ((4, 0), .one [.int .i64 a0.f_Token, .int .i64 a0.f_Seq, .bool a0.f_Last, .isl 1 (a0.f_Items.map e_i64) false])] ++ up 3 (Hc v1.2.2))) (n := 5) ?_ ?_
      · exact simT (M := [((4, 0), (4, 0))]) (lit' := [((0, 0), .one [.map (0, 1)]), ((0, 1), .amap (a1.map (em a_i64 (eR none)))), ((4, 0), .one [.int .i64 a0.f_Token, .int .i64 a0.f_Seq, .bool a0.f_Last, .isl 1 (a0.f_Items.map e_i64) false])]) (ht _) rfl (And.intro (Vw.ptr _ _ _ _ rfl) (And.intro (Vw.ptr _ _ _ _ rfl) (And.intro (Vw.same _ rfl) trivial))) (And.intro (And.intro rfl (BVw.oneL (And.intro (Vw.map _ _ rfl) trivial))) (And.intro (And.intro rfl (BVw.refmN a_i64_nid a1 rfl (rhoT_1 (chkT_ok (n := 5) (q := 3) (lit' := [((0, 0), .one [.map (0, 1)]), ((0, 1), .amap (a1.map (em a_i64 (eR none)))), ((4, 0), .one [.int .i64 a0.f_Token, .int .i64 a0.f_Seq, .bool a0.f_Last, .isl 1 (a0.f_Items.map e_i64) false])]) rfl)))) (And.intro (And.intro rfl (BVw.oneL (And.intro (Vw.same _ rfl) (And.intro (Vw.same _ rfl) (And.intro (Vw.same _ rfl) (And.intro (Vw.same _ rfl) trivial)))))) trivial)))
      refine condI (v := (((decide (v1.1 ≥ 0)) && (decide (v1.1 < a0.f_Seq))) || (a0.f_Last && (decide (v1.2.1 > a0.f_Seq))))) rfl trivial (fun h5 => ?_) (fun h5 => ?_)
      · have h := ite_tt h5 h
        refine seqI ?_
        refine regI ?_
        refine retI ?_
        cases h
        exact And.intro trivial (And.intro trivial (finT (n' := 5) (q := 3) (lit' := [((0, 0), .one [.map (0, 1)]), ((0, 1), .amap (a1.map (em a_i64 (eR none)))), ((4, 0), .one [.int .i64 a0.f_Token, .int .i64 a0.f_Seq, .bool a0.f_Last, .isl 1 (a0.f_Items.map e_i64) false])]) (ht _) [] [] rfl rfl (Vw.same _ rfl) (And.intro (And.intro rfl (BVw.oneL (And.intro (Vw.map _ _ rfl) trivial))) (And.intro (And.intro rfl (BVw.refmN a_i64_nid a1 rfl (rhoT_1 (chkT_ok (n := 4) (q := 3) (lit' := [((0, 0), .one [.map (0, 1)]), ((0, 1), .amap (a1.map (em a_i64 (eR none)))), ((4, 0), .one [.int .i64 a0.f_Token, .int .i64 a0.f_Seq, .bool a0.f_Last, .isl 1 (a0.f_Items.map e_i64) false])]) rfl)))) trivial))))
      · have h := ite_ff h5 h
        refine skipI ?_
        refine seqI ?_
        refine seqI ?_
        refine quietI ?_
        obtain ⟨h6, h⟩ := ite_some h
        refine Exists.intro (.val (.map none)) (And.intro (mlookN (ek := a_i64) q_i64_ok rfl h6) (And.intro (mfind_some (ek := a_i64) (ev := eR none) q_i64_ok _ _) ?_))
        refine LWp.sim (e := [(0, .ptr (0, 0) 0 0), (3, .ptr (4, 0) 0 0), (87, .bool true)]) (L := ([((0, 0), .one [.map (0, 1)]), ((0, 1), .amap (a1.map (em a_i64 (eR none)))), ((4, 0), .one [.int .i64 a0.f_Token, .int .i64 a0.f_Seq, .bool a0.f_Last, .isl 1 (a0.f_Items.map e_i64) false])] ++ up 3 (Hc v1.2.2))) (n := 5) ?_ ?_
        · exact simT (M := [((4, 0), (4, 0))]) (lit' := [((0, 0), .one [.map (0, 1)]), ((0, 1), .amap (a1.map (em a_i64 (eR none)))), ((4, 0), .one [.int .i64 a0.f_Token, .int .i64 a0.f_Seq, .bool a0.f_Last, .isl 1 (a0.f_Items.map e_i64) false])]) (ht _) rfl (And.intro (Vw.ptr _ _ _ _ rfl) (And.intro (Vw.ptr _ _ _ _ rfl) (And.intro (Vw.same _ rfl) trivial))) (And.intro (And.intro rfl (BVw.oneL (And.intro (Vw.map _ _ rfl) trivial))) (And.intro (And.intro rfl (BVw.refmN a_i64_nid a1 rfl (rhoT_1 (chkT_ok (n := 5) (q := 3) (lit' := [((0, 0), .one [.map (0, 1)]), ((0, 1), .amap (a1.map (em a_i64 (eR none)))), ((4, 0), .one [.int .i64 a0.f_Token, .int .i64 a0.f_Seq, .bool a0.f_Last, .isl 1 (a0.f_Items.map e_i64) false])]) rfl)))) (And.intro (And.intro rfl (BVw.oneL (And.intro (Vw.same _ rfl) (And.intro (Vw.same _ rfl) (And.intro (Vw.same _ rfl) (And.intro (Vw.same _ rfl) trivial)))))) trivial)))
        refine condI (v := true) rfl trivial (fun hc => ?_) (fun hc => Bool.noConfusion hc)
        refine drawI ?_
        refine And.intro rfl ?_
        refine And.intro rfl ?_
        obtain ⟨h7, h⟩ := ite_some h
        refine Exists.intro ((mp q_i64 a1 a0.f_Token Ref.foc).map (em a_i64 (eR (some (5, 0))))) (And.intro (mput_ref (ek := a_i64) q_i64_ok h7 a0.f_Token) ?_)
        refine LWp.sim (e := [(0, .ptr (0, 0) 0 0), (3, .ptr (4, 0) 0 0)]) (L := ([((0, 0), .one [.map (0, 1)]), ((0, 1), .amap ((mp q_i64 a1 a0.f_Token Ref.foc).map (em a_i64 (eR (some (5, 0)))))), ((4, 0), .one [.int .i64 a0.f_Token, .int .i64 a0.f_Seq, .bool a0.f_Last, .isl 1 (a0.f_Items.map e_i64) false]), ((5, 0), .amap (([] : List (Int × G_QChunk)).map (em a_i64 a_QChunk)))] ++ up 3 (Hc v1.2.2))) (n := 6) ?_ ?_
        · exact simT (M := [((4, 0), (4, 0)), ((5, 0), (5, 0))]) (lit' := [((5, 0), .amap (([] : List (Int × G_QChunk)).map (em a_i64 a_QChunk))), ((0, 0), .one [.map (0, 1)]), ((0, 1), .amap ((mp q_i64 a1 a0.f_Token Ref.foc).map (em a_i64 (eR (some (5, 0)))))), ((4, 0), .one [.int .i64 a0.f_Token, .int .i64 a0.f_Seq, .bool a0.f_Last, .isl 1 (a0.f_Items.map e_i64) false])]) (ht _) rfl (And.intro (Vw.ptr _ _ _ _ rfl) (And.intro (Vw.ptr _ _ _ _ rfl) trivial)) (And.intro (And.intro rfl (BVw.oneL (And.intro (Vw.map _ _ rfl) trivial))) (And.intro (And.intro rfl (BVw.refmF a_i64_nid (mp q_i64 a1 a0.f_Token Ref.foc) rfl rfl (rhoT_1 (chkT_ok (n := 6) (q := 3) (lit' := [((5, 0), .amap (([] : List (Int × G_QChunk)).map (em a_i64 a_QChunk))), ((0, 0), .one [.map (0, 1)]), ((0, 1), .amap ((mp q_i64 a1 a0.f_Token Ref.foc).map (em a_i64 (eR (some (5, 0)))))), ((4, 0), .one [.int .i64 a0.f_Token, .int .i64 a0.f_Seq, .bool a0.f_Last, .isl 1 (a0.f_Items.map e_i64) false])]) rfl)))) (And.intro (And.intro rfl (BVw.oneL (And.intro (Vw.same _ rfl) (And.intro (Vw.same _ rfl) (And.intro (Vw.same _ rfl) (And.intro (Vw.same _ rfl) trivial)))))) (And.intro (And.intro rfl (BVw.ofMap a_i64 a_QChunk a_QChunk_nid ([] : List (Int × G_QChunk)))) trivial))))
        refine seqI ?_
        refine regI ?_
        obtain ⟨v2, h8, h⟩ := bind_some h
        refine PFn.call (f20_okE h8) (And.intro (Vw.same _ rfl) trivial) ?_
        refine seqI ?_
        refine drawO rfl ?_
        obtain ⟨h9, h⟩ := ite_some h
        refine Exists.intro (.map (5, 0)) (And.intro (mlookF (ek := a_i64) q_i64_ok h9) (And.intro (mfind_some (ek := a_i64) (ev := eR (some (5, 0))) q_i64_ok _ _) ?_))
        refine Exists.intro ((mp q_i64 ([] : List (Int × G_QChunk)) a0.f_Seq (G_QChunk.mk a0.f_Token a0.f_Seq a0.f_Last v2)).map (em a_i64 a_QChunk)) (And.intro (mput_enc (ek := a_i64) (ev := a_QChunk) q_i64_ok a0.f_Seq (G_QChunk.mk a0.f_Token a0.f_Seq a0.f_Last v2) ([] : List (Int × G_QChunk))) ?_)
        refine LWp.sim (e := []) (L := ([((0, 0), .one [.map (0, 1)]), ((0, 1), .amap ((mp q_i64 a1 a0.f_Token Ref.foc).map (em a_i64 (eR (some (4, 0)))))), ((4, 0), .amap ((mp q_i64 ([] : List (Int × G_QChunk)) a0.f_Seq (G_QChunk.mk a0.f_Token a0.f_Seq a0.f_Last v2)).map (em a_i64 a_QChunk)))] ++ up 3 (Hc v1.2.2))) (n := 5) ?_ ?_
        · exact simT (M := [((4, 0), (5, 0))]) (lit' := [((0, 0), .one [.map (0, 1)]), ((0, 1), .amap ((mp q_i64 a1 a0.f_Token Ref.foc).map (em a_i64 (eR (some (5, 0)))))), ((4, 0), .one [.int .i64 a0.f_Token, .int .i64 a0.f_Seq, .bool a0.f_Last, .isl 1 (v2.map e_i64) false]), ((5, 0), .amap ((mp q_i64 ([] : List (Int × G_QChunk)) a0.f_Seq (G_QChunk.mk a0.f_Token a0.f_Seq a0.f_Last v2)).map (em a_i64 a_QChunk)))]) (ht _) rfl trivial (And.intro (And.intro rfl (BVw.oneL (And.intro (Vw.map _ _ rfl) trivial))) (And.intro (And.intro rfl (BVw.refmF a_i64_nid (mp q_i64 a1 a0.f_Token Ref.foc) rfl rfl (rhoT_1 (chkT_ok (n := 5) (q := 3) (lit' := [((0, 0), .one [.map (0, 1)]), ((0, 1), .amap ((mp q_i64 a1 a0.f_Token Ref.foc).map (em a_i64 (eR (some (5, 0)))))), ((4, 0), .one [.int .i64 a0.f_Token, .int .i64 a0.f_Seq, .bool a0.f_Last, .isl 1 (v2.map e_i64) false]), ((5, 0), .amap ((mp q_i64 ([] : List (Int × G_QChunk)) a0.f_Seq (G_QChunk.mk a0.f_Token a0.f_Seq a0.f_Last v2)).map (em a_i64 a_QChunk)))]) rfl)))) (And.intro (And.intro rfl (BVw.ofMap a_i64 a_QChunk a_QChunk_nid (mp q_i64 ([] : List (Int × G_QChunk)) a0.f_Seq (G_QChunk.mk a0.f_Token a0.f_Seq a0.f_Last v2)))) trivial)))
        refine seqI ?_
        refine regI ?_
        refine retI ?_
        cases h
        exact And.intro trivial (And.intro trivial (finT (n' := 5) (q := 3) (lit' := [((0, 0), .one [.map (0, 1)]), ((0, 1), .amap ((mp q_i64 a1 a0.f_Token Ref.foc).map (em a_i64 (eR (some (4, 0)))))), ((4, 0), .amap ((mp q_i64 ([] : List (Int × G_QChunk)) a0.f_Seq (G_QChunk.mk a0.f_Token a0.f_Seq a0.f_Last v2)).map (em a_i64 a_QChunk)))]) (ht _) [((4, 0), (4, 0))] [] rfl rfl (Vw.same _ rfl) (And.intro (And.intro rfl (BVw.oneL (And.intro (Vw.map _ _ rfl) trivial))) (And.intro (And.intro rfl (BVw.refmF a_i64_nid (mp q_i64 a1 a0.f_Token Ref.foc) rfl rfl (rhoT_1 (chkT_ok (n := 5) (q := 3) (lit' := [((0, 0), .one [.map (0, 1)]), ((0, 1), .amap ((mp q_i64 a1 a0.f_Token Ref.foc).map (em a_i64 (eR (some (4, 0)))))), ((4, 0), .amap ((mp q_i64 ([] : List (Int × G_QChunk)) a0.f_Seq (G_QChunk.mk a0.f_Token a0.f_Seq a0.f_Last v2)).map (em a_i64 a_QChunk)))]) rfl)))) (And.intro (And.intro rfl (BVw.ofMap a_i64 a_QChunk a_QChunk_nid (mp q_i64 ([] : List (Int × G_QChunk)) a0.f_Seq (G_QChunk.mk a0.f_Token a0.f_Seq a0.f_Last v2)))) trivial)))))

theorem f13b1_ok0 {σ : Type} {Hc : σ → AHeap} (ht : ∀ s, Tl (Hc s)) {a0 : G_QChunk} {a1 : List (Int × Ref)} {z0 : σ} {m : Option Nat} {o : Bool × Int × σ} (h : S_progress_Assembler_Add_13 m a0 a1 z0 = some ((.inl o))) : ACalls Try.prog 13 [.ptr (0, 0) 0 0, .agg [.int .i64 a0.f_Token, .int .i64 a0.f_Seq, .bool a0.f_Last, .isl 1 (a0.f_Items.map e_i64) false]] ([((0, 0), .one [.map (0, 1)]), ((0, 1), .amap (a1.map (em a_i64 (eR none))))] ++ Hc z0) 3 (Gives 4 (.tup [.bool o.1, .int .i64 o.2.1]) ([((0, 0), .one [.map (0, 1)]), ((0, 1), .amap (a1.map (em a_i64 (eR none))))] ++ up 3 (Hc o.2.2))) := bfn_of (L := f13b1_L) f13b1_low f13b1_fok (Nat.le_of_ble_eq_true rfl) (f13b1_start ht h)

theorem f13b1_ok1 {σ : Type} {Hc : σ → AHeap} (ht : ∀ s, Tl (Hc s)) {a0 : G_QChunk} {a1 : List (Int × Ref)} {z0 : σ} {m : Option Nat} {o : Bool × Int × (List (Int × Ref)) × (List (Int × G_QChunk)) × σ} (h : S_progress_Assembler_Add_13 m a0 a1 z0 = some ((.inr o))) : ACalls Try.prog 13 [.ptr (0, 0) 0 0, .agg [.int .i64 a0.f_Token, .int .i64 a0.f_Seq, .bool a0.f_Last, .isl 1 (a0.f_Items.map e_i64) false]] ([((0, 0), .one [.map (0, 1)]), ((0, 1), .amap (a1.map (em a_i64 (eR none))))] ++ Hc z0) 3 (Gives 5 (.tup [.bool o.1, .int .i64 o.2.1]) ([((0, 0), .one [.map (0, 1)]), ((0, 1), .amap (o.2.2.1.map (em a_i64 (eR (some (4, 0)))))), ((4, 0), .amap (o.2.2.2.1.map (em a_i64 a_QChunk)))] ++ up 3 (Hc o.2.2.2.2))) := bfn_of (L := f13b1_L) f13b1_low f13b1_fok (Nat.le_of_ble_eq_true rfl) (f13b1_start ht h)

def f15b0_c1 : LCode := (.seq (.region [⟨some 33, .bin .lss (.t 32) (.t 31), none⟩])
 (.seq (.cond (.t 33)
  .skip
  (.exit 0))
 (.seq (.block 1
  (.seq (.region [⟨some 34, .mv (.t 32), none⟩,
    ⟨some 9, .mv (.t 34), none⟩])
  (.region [⟨some 35, .mv (.t 8), none⟩,
    ⟨some 36, .mv (.t 0), none⟩,
    ⟨some 37, .nilck (.t 36), none⟩,
    ⟨some 38, .faddr 0 (.t 37), none⟩,
    ⟨some 39, .load false 1 (.t 38), none⟩,
    ⟨some 40, .mv (.t 1), none⟩,
    ⟨some 41, .mlook [.int] false false false [(.val (.map none))] (.t 39) (.t 40), none⟩,
    ⟨some 42, .mv (.t 9), none⟩,
    ⟨some 43, .mlook [.int] false true false [(.int .i64 0), (.int .i64 0), (.bool false), (.isl 1 [] true)] (.t 41) (.t 42), none⟩,
    ⟨some 44, .field false 1 3 (.t 43), none⟩,
    ⟨some 45, .app true 1 8 (.t 35) (.t 44), none⟩,
    ⟨some 8, .mv (.t 45), none⟩])))
 (.region [⟨some 46, .bin .add (.t 32) (.c (.int .i64 1)), none⟩,
   ⟨some 32, .mv (.t 46), none⟩]))))
def f15b0_c0 : LCode := (.seq (.region [⟨some 47, .mv (.t 8), none⟩,
   ⟨some 4, .mv (.t 47), none⟩,
   ⟨some 5, .mv (.c (.bool true)), none⟩])
 .ret)
def f15b0_c2 : LCode := (.seq (.region [⟨some 4, .mv (.c (.val (.slice none 0 0))), none⟩,
   ⟨some 5, .mv (.c (.bool false)), none⟩])
 (.seq (.region [⟨some 11, .mv (.t 0), none⟩,
   ⟨some 12, .mv (.t 1), none⟩,
   ⟨some 13, .call 23 [(.t 11), (.t 12)], none⟩,
   ⟨some 10, .mv (.t 13), none⟩,
   ⟨some 14, .ext 0 (.t 10), none⟩,
   ⟨some 15, .ext 1 (.t 10), none⟩,
   ⟨some 6, .mv (.t 14), none⟩,
   ⟨some 7, .mv (.t 15), none⟩])
 (.seq (.seq (.region [⟨some 16, .mv (.t 6), none⟩,
   ⟨some 17, .bin .lss (.t 16) (.c (.int .i64 0)), none⟩,
   ⟨some 18, .mv (.t 17), none⟩,
   ⟨some 19, .mv (.t 0), some (18, false)⟩,
   ⟨some 20, .nilck (.t 19), some (18, false)⟩,
   ⟨some 21, .faddr 0 (.t 20), some (18, false)⟩,
   ⟨some 22, .load false 1 (.t 21), some (18, false)⟩,
   ⟨some 23, .mv (.t 1), some (18, false)⟩,
   ⟨some 24, .mlook [.int] false false false [(.val (.map none))] (.t 22) (.t 23), some (18, false)⟩,
   ⟨some 25, .mlen (.t 24), some (18, false)⟩,
   ⟨some 26, .mv (.t 6), some (18, false)⟩,
   ⟨some 27, .bin .add (.t 26) (.c (.int .i64 1)), some (18, false)⟩,
   ⟨some 28, .bin .neq (.t 25) (.t 27), some (18, false)⟩,
   ⟨some 29, .pick (.t 18) (.c (.bool true)) (.t 28), none⟩])
 (.cond (.t 29)
  (.seq (.region [⟨some 4, .mv (.c (.val (.slice none 0 0))), none⟩,
    ⟨some 5, .mv (.c (.bool false)), none⟩])
  .ret)
  .skip))
 (.seq (.region [⟨some 8, .mv (.c (.val (.slice none 0 0))), none⟩])
 (.seq (.seq (.region [⟨some 30, .mv (.t 6), none⟩,
   ⟨some 31, .bin .add (.t 30) (.c (.int .i64 1)), none⟩,
   ⟨some 32, .mv (.c (.int .i64 0)), none⟩])
 (.block 0
  (.loop
   f15b0_c1)))
 f15b0_c0)))))
def f15b0_lay : Lay := ⟨48, [], false⟩
def f15b0_res : List LRes := [.t 4, .t 5]
def f15b0_L : LFn := ⟨2, f15b0_lay, f15b0_c2, f15b0_res⟩
theorem f15b0_low : lowFn Try.prog [] 15 = some f15b0_L := by kernel_rfl
theorem f15b0_fok : FnOk Try.prog 15 := ⟨_, Try.func15, rfl, rfl⟩
def f15b0_Q {σ : Type} (Hc : σ → AHeap) (a0 : Int) (a1 : List (Int × Ref)) (a2 : List (Int × G_QChunk)) (z0 : σ) (o : (List Int) × Bool × σ) : Exit → Env → AHeap → Nat → Prop := FinK f15b0_res (FinTo 3 4 (.tup [.isl 1 (o.1.map e_i64) false, .bool o.2.1]) ([((0, 0), .one [.map (0, 1)]), ((0, 1), .amap (a1.map (em a_i64 (eR (some (0, 2)))))), ((0, 2), .amap (a2.map (em a_i64 a_QChunk)))] ++ up 3 (Hc o.2.2)))

def f15b0_L1_env {σ : Type} (Hc : σ → AHeap) (a0 : Int) (a1 : List (Int × Ref)) (a2 : List (Int × G_QChunk)) (v1 : Int × Int × σ) (s : ((List Int) × Int)) : Env := [(0, .ptr (0, 0) 0 0), (1, .int .i64 a0), (8, .osl (4, 0) 1 (s.1.map e_i64)), (31, .int .i64 (W (v1.1 + 1))), (32, .int .i64 s.2)]
def f15b0_L1_hp {σ : Type} (Hc : σ → AHeap) (a0 : Int) (a1 : List (Int × Ref)) (a2 : List (Int × G_QChunk)) (v1 : Int × Int × σ) (s : ((List Int) × Int)) : AHeap := ([((0, 0), .one [.map (0, 1)]), ((0, 1), .amap (a1.map (em a_i64 (eR (some (0, 2)))))), ((0, 2), .amap (a2.map (em a_i64 a_QChunk))), ((4, 0), .tok)] ++ up 3 (Hc v1.2.2))
def f15b0_L1_Q {σ : Type} (Hc : σ → AHeap) (a0 : Int) (a1 : List (Int × Ref)) (a2 : List (Int × G_QChunk)) (z0 : σ) (o : ((List Int) × Bool × σ)) : Exit → Env → AHeap → Nat → Prop := (QBlock 0 (QSeq Try.prog f15b0_lay 3 f15b0_c0 (f15b0_Q Hc a0 a1 a2 z0 o)))

noncomputable def S_progress_Assembler_Result_j1 {σ : Type} (m : Option Nat) (a1 : List (Int × Ref)) (a2 : List (Int × G_QChunk)) (v1 : Int × Int × σ) (v2 : List Int) : Option ((List Int) × Bool × σ) :=
  some (v2, true, v1.2.2)

noncomputable def S_progress_Assembler_Result_b1 {σ : Type} (m : Option Nat) (a0 : Int) (a1 : List (Int × Ref)) (a2 : List (Int × G_QChunk)) (v1 : Int × Int × σ) (v2 : List Int) (v3 : Int) : Option (((List Int) × Int) ⊕ ((List Int) × Bool × σ)) :=
  if (decide (v3 < (W (v1.1 + 1)))) = true then
    if lk q_i64 a1 a0 = some Ref.foc then
    if ((v2 ++ ((lk q_i64 a2 v3).getD (G_QChunk.mk 0 0 false [])).f_Items).map e_i64).length * 8 ≤ 140737488355328 then
    some (.inl ((v2 ++ ((lk q_i64 a2 v3).getD (G_QChunk.mk 0 0 false [])).f_Items), (W (v3 + 1))))
    else none
    else none
  else
    Option.map Sum.inr (
      S_progress_Assembler_Result_j1 m a1 a2 v1 v2)

noncomputable def S_progress_Assembler_Result_l1 {σ : Type} (m : Option Nat) (a0 : Int) (a1 : List (Int × Ref)) (a2 : List (Int × G_QChunk)) (v1 : Int × Int × σ) (v2 : List Int) (v3 : Int) : Option ((List Int) × Bool × σ) := loopM m (fun (s : ((List Int) × Int)) => S_progress_Assembler_Result_b1 m a0 a1 a2 v1 s.1 s.2) (v2, v3)

theorem f15b0_j1_ok {σ : Type} {Hc : σ → AHeap} (ht : ∀ s, Tl (Hc s)) {a0 : Int} {z0 : σ} {a1 : List (Int × Ref)} {a2 : List (Int × G_QChunk)} {v1 : Int × Int × σ} {v2 : List Int} {m : Option Nat} {o : ((List Int) × Bool × σ)} (h : S_progress_Assembler_Result_j1 m a1 a2 v1 v2 = some o) :
    LWp Try.prog f15b0_lay 3 f15b0_c0 (f15b0_Q Hc a0 a1 a2 z0 o) [(8, .osl (4, 0) 1 (v2.map e_i64))] ([((0, 0), .one [.map (0, 1)]), ((0, 1), .amap (a1.map (em a_i64 (eR (some (0, 2)))))), ((0, 2), .amap (a2.map (em a_i64 a_QChunk))), ((4, 0), .tok)] ++ up 3 (Hc v1.2.2)) 5 := by
  unfold S_progress_Assembler_Result_j1 at h
  refine seqI ?_
  refine regI ?_
  refine retI ?_
  cases h
  exact And.intro trivial (And.intro trivial (finT (n' := 5) (q := 3) (lit' := [((0, 0), .one [.map (0, 1)]), ((0, 1), .amap (a1.map (em a_i64 (eR (some (0, 2)))))), ((0, 2), .amap (a2.map (em a_i64 a_QChunk))), ((4, 0), .tok)]) (ht _) [] [] rfl rfl (Vw.tupL (And.intro (Vw.oslI _ _ _) (And.intro (Vw.same _ rfl) trivial))) (And.intro (And.intro rfl (BVw.oneL (And.intro (Vw.map _ _ rfl) trivial))) (And.intro (And.intro rfl (BVw.refmF a_i64_nid a1 rfl rfl (rhoT_1 (chkT_ok (n := 4) (q := 3) (lit' := [((0, 0), .one [.map (0, 1)]), ((0, 1), .amap (a1.map (em a_i64 (eR (some (0, 2)))))), ((0, 2), .amap (a2.map (em a_i64 a_QChunk))), ((4, 0), .tok)]) rfl)))) (And.intro (And.intro rfl (BVw.ofMap a_i64 a_QChunk a_QChunk_nid a2)) trivial)))))

theorem f15b0_L1_bok {σ : Type} {Hc : σ → AHeap} (ht : ∀ s, Tl (Hc s)) {z0 : σ} {a0 : Int} {a1 : List (Int × Ref)} {a2 : List (Int × G_QChunk)} {v1 : Int × Int × σ} {v2 : List Int} {v3 : Int} {m : Option Nat} {o : ((List Int) × Int) ⊕ ((List Int) × Bool × σ)} (h : S_progress_Assembler_Result_b1 m a0 a1 a2 v1 v2 v3 = some o) :
    LWp Try.prog f15b0_lay 3 f15b0_c1 (BodyQ 3 5 (f15b0_L1_env Hc a0 a1 a2 v1) (f15b0_L1_hp Hc a0 a1 a2 v1) (f15b0_L1_Q Hc a0 a1 a2 z0) o) [(0, .ptr (0, 0) 0 0), (1, .int .i64 a0), (8, .osl (4, 0) 1 (v2.map e_i64)), (31, .int .i64 (W (v1.1 + 1))), (32, .int .i64 v3)] ([((0, 0), .one [.map (0, 1)]), ((0, 1), .amap (a1.map (em a_i64 (eR (some (0, 2)))))), ((0, 2), .amap (a2.map (em a_i64 a_QChunk))), ((4, 0), .tok)] ++ up 3 (Hc v1.2.2)) 5 := by
  unfold S_progress_Assembler_Result_b1 at h
  refine seqI ?_
  refine regI ?_
  refine seqI ?_
  refine condI (v := (decide (v3 < (W (v1.1 + 1))))) rfl trivial (fun h10 => ?_) (fun h10 => ?_)
  · have h := ite_tt h10 h
    refine skipI ?_
    refine seqI ?_
    refine blockI ?_
    refine seqI ?_
    refine regI ?_
    refine regI ?_
    obtain ⟨h11, h⟩ := ite_some h
    refine Exists.intro (.map (0, 2)) (And.intro (mlookF (ek := a_i64) q_i64_ok h11) (And.intro (mfind_some (ek := a_i64) (ev := eR (some (0, 2))) q_i64_ok _ _) ?_))
    refine Exists.intro (.agg [.int .i64 (((lk q_i64 a2 v3).getD (G_QChunk.mk 0 0 false [])).f_Token), .int .i64 (((lk q_i64 a2 v3).getD (G_QChunk.mk 0 0 false [])).f_Seq), .bool (((lk q_i64 a2 v3).getD (G_QChunk.mk 0 0 false [])).f_Last), .isl 1 ((((lk q_i64 a2 v3).getD (G_QChunk.mk 0 0 false [])).f_Items).map e_i64) false]) (And.intro (mlook1 (ek := a_i64) (ev := a_QChunk) (z := (G_QChunk.mk 0 0 false [])) q_i64_ok rfl v3 a2) (And.intro (mfind_some (ek := a_i64) (ev := a_QChunk) q_i64_ok _ _) ?_))
    obtain ⟨h12, h⟩ := ite_some h
    refine Exists.intro ((v2 ++ ((lk q_i64 a2 v3).getD (G_QChunk.mk 0 0 false [])).f_Items).map e_i64) (And.intro (app_enc e_i64 v2 (((lk q_i64 a2 v3).getD (G_QChunk.mk 0 0 false [])).f_Items)) (And.intro h12 ?_))
    rw [del_tail (lit2 := [((0, 0), .one [.map (0, 1)]), ((0, 1), .amap (a1.map (em a_i64 (eR (some (0, 2)))))), ((0, 2), .amap (a2.map (em a_i64 a_QChunk)))]) (ht _) rfl rfl]
    refine LWp.sim (e := [(0, .ptr (0, 0) 0 0), (1, .int .i64 a0), (8, .osl (4, 0) 1 ((v2 ++ ((lk q_i64 a2 v3).getD (G_QChunk.mk 0 0 false [])).f_Items).map e_i64)), (31, .int .i64 (W (v1.1 + 1))), (32, .int .i64 v3)]) (L := ([((0, 0), .one [.map (0, 1)]), ((0, 1), .amap (a1.map (em a_i64 (eR (some (0, 2)))))), ((0, 2), .amap (a2.map (em a_i64 a_QChunk))), ((4, 0), .tok)] ++ up 3 (Hc v1.2.2))) (n := 5) ?_ ?_
    · exact simT (M := [((4, 0), (5, 0))]) (lit' := [((5, 0), .tok), ((0, 0), .one [.map (0, 1)]), ((0, 1), .amap (a1.map (em a_i64 (eR (some (0, 2)))))), ((0, 2), .amap (a2.map (em a_i64 a_QChunk)))]) (ht _) rfl (And.intro (Vw.ptr _ _ _ _ rfl) (And.intro (Vw.same _ rfl) (And.intro (Vw.osl _ _ _ _ rfl) (And.intro (Vw.same _ rfl) (And.intro (Vw.same _ rfl) trivial))))) (And.intro (And.intro rfl (BVw.oneL (And.intro (Vw.map _ _ rfl) trivial))) (And.intro (And.intro rfl (BVw.refmF a_i64_nid a1 rfl rfl (rhoT_1 (chkT_ok (n := 5) (q := 3) (lit' := [((5, 0), .tok), ((0, 0), .one [.map (0, 1)]), ((0, 1), .amap (a1.map (em a_i64 (eR (some (0, 2)))))), ((0, 2), .amap (a2.map (em a_i64 a_QChunk)))]) rfl)))) (And.intro (And.intro rfl (BVw.ofMap a_i64 a_QChunk a_QChunk_nid a2)) (And.intro (And.intro rfl BVw.tok) trivial))))
    refine regI ?_
    cases h
    exact And.intro rfl (simT (M := [((4, 0), (4, 0))]) (lit' := [((0, 0), .one [.map (0, 1)]), ((0, 1), .amap (a1.map (em a_i64 (eR (some (0, 2)))))), ((0, 2), .amap (a2.map (em a_i64 a_QChunk))), ((4, 0), .tok)]) (ht _) rfl (And.intro (Vw.ptr _ _ _ _ rfl) (And.intro (Vw.same _ rfl) (And.intro (Vw.osl _ _ _ _ rfl) (And.intro (Vw.same _ rfl) (And.intro (Vw.same _ rfl) trivial))))) (And.intro (And.intro rfl (BVw.oneL (And.intro (Vw.map _ _ rfl) trivial))) (And.intro (And.intro rfl (BVw.refmF a_i64_nid a1 rfl rfl (rhoT_1 (chkT_ok (n := 5) (q := 3) (lit' := [((0, 0), .one [.map (0, 1)]), ((0, 1), .amap (a1.map (em a_i64 (eR (some (0, 2)))))), ((0, 2), .amap (a2.map (em a_i64 a_QChunk))), ((4, 0), .tok)]) rfl)))) (And.intro (And.intro rfl (BVw.ofMap a_i64 a_QChunk a_QChunk_nid a2)) (And.intro (And.intro rfl BVw.tok) trivial)))))
  · have h := ite_ff h10 h
    refine exitI ?_
    obtain ⟨o, hq, rfl⟩ := Option.map_eq_some_iff.1 h
    replace h := hq; clear hq
    refine And.intro nofun ?_
    refine LWp.sim ?_ (f15b0_j1_ok ht h)
    exact simT (M := [((4, 0), (4, 0))]) (lit' := [((0, 0), .one [.map (0, 1)]), ((0, 1), .amap (a1.map (em a_i64 (eR (some (0, 2)))))), ((0, 2), .amap (a2.map (em a_i64 a_QChunk))), ((4, 0), .tok)]) (ht _) rfl (And.intro (Vw.osl _ _ _ _ rfl) trivial) (And.intro (And.intro rfl (BVw.oneL (And.intro (Vw.map _ _ rfl) trivial))) (And.intro (And.intro rfl (BVw.refmF a_i64_nid a1 rfl rfl (rhoT_1 (chkT_ok (n := 5) (q := 3) (lit' := [((0, 0), .one [.map (0, 1)]), ((0, 1), .amap (a1.map (em a_i64 (eR (some (0, 2)))))), ((0, 2), .amap (a2.map (em a_i64 a_QChunk))), ((4, 0), .tok)]) rfl)))) (And.intro (And.intro rfl (BVw.ofMap a_i64 a_QChunk a_QChunk_nid a2)) (And.intro (And.intro rfl BVw.tok) trivial))))

theorem f15b0_L1_ok {σ : Type} {Hc : σ → AHeap} (ht : ∀ s, Tl (Hc s)) {z0 : σ} {a0 : Int} {a1 : List (Int × Ref)} {a2 : List (Int × G_QChunk)} {v1 : Int × Int × σ} {v2 : List Int} {v3 : Int} {m : Option Nat} {o : ((List Int) × Bool × σ)} (h : S_progress_Assembler_Result_l1 m a0 a1 a2 v1 v2 v3 = some o) :
    LWp Try.prog f15b0_lay 3 (.loop f15b0_c1) (QBlock 0 (QSeq Try.prog f15b0_lay 3 f15b0_c0 (f15b0_Q Hc a0 a1 a2 z0 o))) [(0, .ptr (0, 0) 0 0), (1, .int .i64 a0), (8, .osl (4, 0) 1 (v2.map e_i64)), (31, .int .i64 (W (v1.1 + 1))), (32, .int .i64 v3)] ([((0, 0), .one [.map (0, 1)]), ((0, 1), .amap (a1.map (em a_i64 (eR (some (0, 2)))))), ((0, 2), .amap (a2.map (em a_i64 a_QChunk))), ((4, 0), .tok)] ++ up 3 (Hc v1.2.2)) 5 :=
  LWp_loopM (m := m) (s := ((v2, v3) : ((List Int) × Int))) (r := o) (fun (s : ((List Int) × Int)) => S_progress_Assembler_Result_b1 m a0 a1 a2 v1 s.1 s.2) (f15b0_L1_env Hc a0 a1 a2 v1) (f15b0_L1_hp Hc a0 a1 a2 v1) (f15b0_L1_Q Hc a0 a1 a2 z0) (fun s o h => f15b0_L1_bok ht h) h

noncomputable def S_progress_Assembler_Result {σ : Type} (m : Option Nat) (a0 : Int) (a1 : List (Int × Ref)) (a2 : List (Int × G_QChunk)) (z0 : σ) : Option ((List Int) × Bool × σ) :=
  (S_progress_Assembler_bounds m a0 a1 a2 z0).bind fun v1 =>
  if (((decide (v1.1 < 0)) == false) = true → lk q_i64 a1 a0 = some Ref.foc) then
  if ((decide (v1.1 < 0)) || (((a2.map (em a_i64 a_QChunk)).length : Int) != (W (v1.1 + 1)))) = true then
    some ([], false, v1.2.2)
  else
    S_progress_Assembler_Result_l1 m a0 a1 a2 v1 [] 0
  else none

theorem f15b0_start {σ : Type} {Hc : σ → AHeap} (ht : ∀ s, Tl (Hc s)) {a0 : Int} {a1 : List (Int × Ref)} {a2 : List (Int × G_QChunk)} {z0 : σ} {m : Option Nat} {o : (List Int) × Bool × σ} (h : S_progress_Assembler_Result m a0 a1 a2 z0 = some o) : LWp Try.prog f15b0_lay 3 f15b0_c2 (f15b0_Q Hc a0 a1 a2 z0 o) (initEnv 0 [.ptr (0, 0) 0 0, .int .i64 a0]) ([((0, 0), .one [.map (0, 1)]), ((0, 1), .amap (a1.map (em a_i64 (eR (some (0, 2)))))), ((0, 2), .amap (a2.map (em a_i64 a_QChunk)))] ++ Hc z0) 3 := by
  unfold S_progress_Assembler_Result at h
  refine LWp.sim (e := [(0, .ptr (0, 0) 0 0), (1, .int .i64 a0)]) (L := ([((0, 0), .one [.map (0, 1)]), ((0, 1), .amap (a1.map (em a_i64 (eR (some (0, 2)))))), ((0, 2), .amap (a2.map (em a_i64 a_QChunk)))] ++ up 3 (Hc z0))) (n := 4) (entryT (T := Hc z0) (e' := initEnv 0 [.ptr (0, 0) 0 0, .int .i64 a0]) (e := [(0, .ptr (0, 0) 0 0), (1, .int .i64 a0)]) (lit' := [((0, 0), .one [.map (0, 1)]), ((0, 1), .amap (a1.map (em a_i64 (eR (some (0, 2)))))), ((0, 2), .amap (a2.map (em a_i64 a_QChunk)))]) (lit := [((0, 0), .one [.map (0, 1)]), ((0, 1), .amap (a1.map (em a_i64 (eR (some (0, 2)))))), ((0, 2), .amap (a2.map (em a_i64 a_QChunk)))]) (ht z0) rfl rfl (And.intro (Vw.ptr _ _ _ _ rfl) (And.intro (Vw.same _ rfl) trivial)) (And.intro (And.intro rfl (BVw.oneL (And.intro (Vw.map _ _ rfl) trivial))) (And.intro (And.intro rfl (BVw.refmF a_i64_nid a1 rfl rfl (rhoE_1 _))) (And.intro (And.intro rfl (BVw.ofMap a_i64 a_QChunk a_QChunk_nid a2)) trivial)))) ?_
  refine seqI ?_
  refine regI ?_
  refine seqI ?_
  refine regI ?_
  obtain ⟨v1, h1, h⟩ := bind_some h
  refine bcallT (m := 1) (q := 3) (lit0 := [((0, 0), .one [.map (0, 1)]), ((0, 1), .amap (a1.map (em a_i64 (eR (some (0, 2)))))), ((0, 2), .amap (a2.map (em a_i64 a_QChunk)))]) (lit := [((0, 0), .one [.map (0, 1)]), ((0, 1), .amap (a1.map (em a_i64 (eR (some (0, 2)))))), ((0, 2), .amap (a2.map (em a_i64 a_QChunk)))]) (L := [((0, 0), .one [.map (0, 1)]), ((0, 1), .amap (a1.map (em a_i64 (eR (some (0, 2)))))), ((0, 2), .amap (a2.map (em a_i64 a_QChunk)))]) (L' := [((0, 0), .one [.map (0, 1)]), ((0, 1), .amap (a1.map (em a_i64 (eR (some (0, 2)))))), ((0, 2), .amap (a2.map (em a_i64 a_QChunk)))]) (rest := []) (R' := .tup [.int .i64 v1.1, .int .i64 v1.2.1]) (ht _) (ht _) [((0, 0), (0, 0)), ((0, 1), (0, 1)), ((0, 2), (0, 2))] (f23b0_ok ht h1) rfl rfl rfl rfl rfl rfl (And.intro (Vw.ptr _ _ _ _ rfl) (And.intro (Vw.same _ rfl) trivial)) (And.intro (h0I (0, 0) rfl rfl (BVw.oneL (And.intro (Vw.map _ _ rfl) trivial))) (And.intro (h0I (0, 1) rfl rfl (BVw.refmF a_i64_nid a1 rfl rfl (lookT_1 _ _))) (And.intro (h0I (0, 2) rfl rfl (BVw.ofMap a_i64 a_QChunk a_QChunk_nid a2)) trivial))) (nid_ren _ rfl) (And.intro rfl (And.intro rfl (And.intro rfl (And.intro (refm_ren a_i64_nid (fun _ => rfl) rfl _) (And.intro rfl (And.intro (map_ren a_i64 a_QChunk a_i64_nid a_QChunk_nid _) trivial)))))) rfl ?_
  show yops _ _ _ [(13, .tup [.int .i64 v1.1, .int .i64 v1.2.1]), (12, .int .i64 a0), (11, .ptr (0, 0) 0 0), (5, .bool false), (4, .val (.slice none 0 0)), (0, .ptr (0, 0) 0 0), (1, .int .i64 a0)] _ _
  refine LWp.sim (e := [(0, .ptr (0, 0) 0 0), (1, .int .i64 a0), (6, .int .i64 v1.1)]) (L := ([((0, 0), .one [.map (0, 1)]), ((0, 1), .amap (a1.map (em a_i64 (eR (some (0, 2)))))), ((0, 2), .amap (a2.map (em a_i64 a_QChunk)))] ++ up 3 (Hc v1.2.2))) (n := 4) ?_ ?_
  · exact simT (M := []) (lit' := [((0, 0), .one [.map (0, 1)]), ((0, 1), .amap (a1.map (em a_i64 (eR (some (0, 2)))))), ((0, 2), .amap (a2.map (em a_i64 a_QChunk)))]) (ht _) rfl (And.intro (Vw.ptr _ _ _ _ rfl) (And.intro (Vw.same _ rfl) (And.intro (Vw.same _ rfl) trivial))) (And.intro (And.intro rfl (BVw.oneL (And.intro (Vw.map _ _ rfl) trivial))) (And.intro (And.intro rfl (BVw.refmF a_i64_nid a1 rfl rfl (rhoT_1 (chkT_ok (n := 4) (q := 4) (lit' := [((0, 0), .one [.map (0, 1)]), ((0, 1), .amap (a1.map (em a_i64 (eR (some (0, 2)))))), ((0, 2), .amap (a2.map (em a_i64 a_QChunk)))]) rfl)))) (And.intro (And.intro rfl (BVw.ofMap a_i64 a_QChunk a_QChunk_nid a2)) trivial)))
  refine seqI ?_
  refine seqI ?_
  refine regI ?_
  refine And.intro (fun hp => hp) ?_
  show yops _ _ _ [(20, .cnd ((decide (v1.1 < 0)) == false) (.ptr (0, 0) 0 0)), (19, .cnd ((decide (v1.1 < 0)) == false) (.ptr (0, 0) 0 0)), (18, .bool (decide (v1.1 < 0))), (17, .bool (decide (v1.1 < 0))), (16, .int .i64 v1.1), (0, .ptr (0, 0) 0 0), (1, .int .i64 a0), (6, .int .i64 v1.1)] _ _
  refine And.intro (fun hp => hp) ?_
  refine And.intro (fun hp => hp) ?_
  obtain ⟨h2, h⟩ := ite_some h
  refine Exists.intro (.map (0, 2)) (And.intro (fun hp => And.intro (mlookF (ek := a_i64) q_i64_ok (h2 hp)) (And.intro (And.intro hp hp) (mfind_some (ek := a_i64) (ev := eR (some (0, 2))) q_i64_ok _ _))) ?_)
  refine And.intro (fun hp => hp) ?_
  show yops _ _ _ [(25, .cnd ((decide (v1.1 < 0)) == false) (.int .i64 ((a2.map (em a_i64 a_QChunk)).length : Int))), (24, .cnd ((decide (v1.1 < 0)) == false) (.map (0, 2))), (23, .cnd ((decide (v1.1 < 0)) == false) (.int .i64 a0)), (22, .cnd ((decide (v1.1 < 0)) == false) (.map (0, 1))), (21, .cnd ((decide (v1.1 < 0)) == false) (.ptr (0, 0) 0 0)), (20, .cnd ((decide (v1.1 < 0)) == false) (.ptr (0, 0) 0 0)), (19, .cnd ((decide (v1.1 < 0)) == false) (.ptr (0, 0) 0 0)), (18, .bool (decide (v1.1 < 0))), (17, .bool (decide (v1.1 < 0))), (16, .int .i64 v1.1), (0, .ptr (0, 0) 0 0), (1, .int .i64 a0), (6, .int .i64 v1.1)] _ _
  refine And.intro (fun hp => hp) ?_
  refine And.intro (fun hp => (And.intro hp hp)) ?_
  refine And.intro (fun hc => (bqf hc)) ?_
  refine LWp.sim (e := [(0, .ptr (0, 0) 0 0), (1, .int .i64 a0), (6, .int .i64 v1.1), (29, .bool ((decide (v1.1 < 0)) || (((a2.map (em a_i64 a_QChunk)).length : Int) != (W (v1.1 + 1)))))]) (L := ([((0, 0), .one [.map (0, 1)]), ((0, 1), .amap (a1.map (em a_i64 (eR (some (0, 2)))))), ((0, 2), .amap (a2.map (em a_i64 a_QChunk)))] ++ up 3 (Hc v1.2.2))) (n := 4) ?_ ?_
  · exact simT (M := []) (lit' := [((0, 0), .one [.map (0, 1)]), ((0, 1), .amap (a1.map (em a_i64 (eR (some (0, 2)))))), ((0, 2), .amap (a2.map (em a_i64 a_QChunk)))]) (ht _) rfl (And.intro (Vw.ptr _ _ _ _ rfl) (And.intro (Vw.same _ rfl) (And.intro (Vw.same _ rfl) (And.intro (Vw.same _ rfl) trivial)))) (And.intro (And.intro rfl (BVw.oneL (And.intro (Vw.map _ _ rfl) trivial))) (And.intro (And.intro rfl (BVw.refmF a_i64_nid a1 rfl rfl (rhoT_1 (chkT_ok (n := 4) (q := 3) (lit' := [((0, 0), .one [.map (0, 1)]), ((0, 1), .amap (a1.map (em a_i64 (eR (some (0, 2)))))), ((0, 2), .amap (a2.map (em a_i64 a_QChunk)))]) rfl)))) (And.intro (And.intro rfl (BVw.ofMap a_i64 a_QChunk a_QChunk_nid a2)) trivial)))
  refine condI (v := ((decide (v1.1 < 0)) || (((a2.map (em a_i64 a_QChunk)).length : Int) != (W (v1.1 + 1))))) rfl trivial (fun h3 => ?_) (fun h3 => ?_)
  · have h := ite_tt h3 h
    refine seqI ?_
    refine regI ?_
    refine retI ?_
    cases h
    exact And.intro trivial (And.intro trivial (finT (n' := 4) (q := 3) (lit' := [((0, 0), .one [.map (0, 1)]), ((0, 1), .amap (a1.map (em a_i64 (eR (some (0, 2)))))), ((0, 2), .amap (a2.map (em a_i64 a_QChunk)))]) (ht _) [] [] rfl rfl (Vw.tupL (And.intro (Vw.nilI _ _) (And.intro (Vw.same _ rfl) trivial))) (And.intro (And.intro rfl (BVw.oneL (And.intro (Vw.map _ _ rfl) trivial))) (And.intro (And.intro rfl (BVw.refmF a_i64_nid a1 rfl rfl (rhoT_1 (chkT_ok (n := 4) (q := 3) (lit' := [((0, 0), .one [.map (0, 1)]), ((0, 1), .amap (a1.map (em a_i64 (eR (some (0, 2)))))), ((0, 2), .amap (a2.map (em a_i64 a_QChunk)))]) rfl)))) (And.intro (And.intro rfl (BVw.ofMap a_i64 a_QChunk a_QChunk_nid a2)) trivial)))))
  · have h := ite_ff h3 h
    refine skipI ?_
    refine seqI ?_
    refine regI ?_
    refine seqI ?_
    refine seqI ?_
    refine regI ?_
    refine blockI ?_
    refine LWp.sim ?_ (f15b0_L1_ok ht h)
    exact simT (M := []) (lit' := [((0, 0), .one [.map (0, 1)]), ((0, 1), .amap (a1.map (em a_i64 (eR (some (0, 2)))))), ((0, 2), .amap (a2.map (em a_i64 a_QChunk)))]) (ht _) rfl (And.intro (Vw.ptr _ _ _ _ rfl) (And.intro (Vw.same _ rfl) (And.intro (Vw.nilO _ _ (by decide)) (And.intro (Vw.same _ rfl) (And.intro (Vw.same _ rfl) trivial))))) (And.intro (And.intro rfl (BVw.oneL (And.intro (Vw.map _ _ rfl) trivial))) (And.intro (And.intro rfl (BVw.refmF a_i64_nid a1 rfl rfl (rhoT_1 (chkT_ok (n := 5) (q := 3) (lit' := [((0, 0), .one [.map (0, 1)]), ((0, 1), .amap (a1.map (em a_i64 (eR (some (0, 2)))))), ((0, 2), .amap (a2.map (em a_i64 a_QChunk)))]) rfl)))) (And.intro (And.intro rfl (BVw.ofMap a_i64 a_QChunk a_QChunk_nid a2)) (And.intro (And.intro rfl (And.intro (by decide) (by decide))) trivial))))

theorem f15b0_ok {σ : Type} {Hc : σ → AHeap} (ht : ∀ s, Tl (Hc s)) {a0 : Int} {a1 : List (Int × Ref)} {a2 : List (Int × G_QChunk)} {z0 : σ} {m : Option Nat} {o : (List Int) × Bool × σ} (h : S_progress_Assembler_Result m a0 a1 a2 z0 = some o) : ACalls Try.prog 15 [.ptr (0, 0) 0 0, .int .i64 a0] ([((0, 0), .one [.map (0, 1)]), ((0, 1), .amap (a1.map (em a_i64 (eR (some (0, 2)))))), ((0, 2), .amap (a2.map (em a_i64 a_QChunk)))] ++ Hc z0) 3 (Gives 4 (.tup [.isl 1 (o.1.map e_i64) false, .bool o.2.1]) ([((0, 0), .one [.map (0, 1)]), ((0, 1), .amap (a1.map (em a_i64 (eR (some (0, 2)))))), ((0, 2), .amap (a2.map (em a_i64 a_QChunk)))] ++ up 3 (Hc o.2.2))) := bfn_of (L := f15b0_L) f15b0_low f15b0_fok (Nat.le_of_ble_eq_true rfl) (f15b0_start ht h)

def f15b1_c1 : LCode := (.seq (.region [⟨some 33, .bin .lss (.t 32) (.t 31), none⟩])
 (.seq (.cond (.t 33)
  .skip
  (.exit 0))
 (.seq (.block 1
  (.seq (.region [⟨some 34, .mv (.t 32), none⟩,
    ⟨some 9, .mv (.t 34), none⟩])
  (.region [⟨some 35, .mv (.t 8), none⟩,
    ⟨some 36, .mv (.t 0), none⟩,
    ⟨some 37, .nilck (.t 36), none⟩,
    ⟨some 38, .faddr 0 (.t 37), none⟩,
    ⟨some 39, .load false 1 (.t 38), none⟩,
    ⟨some 40, .mv (.t 1), none⟩,
    ⟨some 41, .mlook [.int] false false false [(.val (.map none))] (.t 39) (.t 40), none⟩,
    ⟨some 42, .mv (.t 9), none⟩,
    ⟨some 43, .mlook [.int] false true false [(.int .i64 0), (.int .i64 0), (.bool false), (.isl 1 [] true)] (.t 41) (.t 42), none⟩,
    ⟨some 44, .field false 1 3 (.t 43), none⟩,
    ⟨some 45, .app true 1 8 (.t 35) (.t 44), none⟩,
    ⟨some 8, .mv (.t 45), none⟩])))
 (.region [⟨some 46, .bin .add (.t 32) (.c (.int .i64 1)), none⟩,
   ⟨some 32, .mv (.t 46), none⟩]))))
def f15b1_c0 : LCode := (.seq (.region [⟨some 47, .mv (.t 8), none⟩,
   ⟨some 4, .mv (.t 47), none⟩,
   ⟨some 5, .mv (.c (.bool true)), none⟩])
 .ret)
def f15b1_c2 : LCode := (.seq (.region [⟨some 4, .mv (.c (.val (.slice none 0 0))), none⟩,
   ⟨some 5, .mv (.c (.bool false)), none⟩])
 (.seq (.region [⟨some 11, .mv (.t 0), none⟩,
   ⟨some 12, .mv (.t 1), none⟩,
   ⟨some 13, .call 23 [(.t 11), (.t 12)], none⟩,
   ⟨some 10, .mv (.t 13), none⟩,
   ⟨some 14, .ext 0 (.t 10), none⟩,
   ⟨some 15, .ext 1 (.t 10), none⟩,
   ⟨some 6, .mv (.t 14), none⟩,
   ⟨some 7, .mv (.t 15), none⟩])
 (.seq (.seq (.region [⟨some 16, .mv (.t 6), none⟩,
   ⟨some 17, .bin .lss (.t 16) (.c (.int .i64 0)), none⟩,
   ⟨some 18, .mv (.t 17), none⟩,
   ⟨some 19, .mv (.t 0), some (18, false)⟩,
   ⟨some 20, .nilck (.t 19), some (18, false)⟩,
   ⟨some 21, .faddr 0 (.t 20), some (18, false)⟩,
   ⟨some 22, .load false 1 (.t 21), some (18, false)⟩,
   ⟨some 23, .mv (.t 1), some (18, false)⟩,
   ⟨some 24, .mlook [.int] false false false [(.val (.map none))] (.t 22) (.t 23), some (18, false)⟩,
   ⟨some 25, .mlen (.t 24), some (18, false)⟩,
   ⟨some 26, .mv (.t 6), some (18, false)⟩,
   ⟨some 27, .bin .add (.t 26) (.c (.int .i64 1)), some (18, false)⟩,
   ⟨some 28, .bin .neq (.t 25) (.t 27), some (18, false)⟩,
   ⟨some 29, .pick (.t 18) (.c (.bool true)) (.t 28), none⟩])
 (.cond (.t 29)
  (.seq (.region [⟨some 4, .mv (.c (.val (.slice none 0 0))), none⟩,
    ⟨some 5, .mv (.c (.bool false)), none⟩])
  .ret)
  .skip))
 (.seq (.region [⟨some 8, .mv (.c (.val (.slice none 0 0))), none⟩])
 (.seq (.seq (.region [⟨some 30, .mv (.t 6), none⟩,
   ⟨some 31, .bin .add (.t 30) (.c (.int .i64 1)), none⟩,
   ⟨some 32, .mv (.c (.int .i64 0)), none⟩])
 (.block 0
  (.loop
   f15b1_c1)))
 f15b1_c0)))))
def f15b1_lay : Lay := ⟨48, [], false⟩
def f15b1_res : List LRes := [.t 4, .t 5]
def f15b1_L : LFn := ⟨2, f15b1_lay, f15b1_c2, f15b1_res⟩
theorem f15b1_low : lowFn Try.prog [] 15 = some f15b1_L := by kernel_rfl
theorem f15b1_fok : FnOk Try.prog 15 := ⟨_, Try.func15, rfl, rfl⟩
def f15b1_Q {σ : Type} (Hc : σ → AHeap) (a0 : Int) (a1 : List (Int × Ref)) (z0 : σ) (o : (List Int) × Bool × σ) : Exit → Env → AHeap → Nat → Prop := FinK f15b1_res (FinTo 3 4 (.tup [.isl 1 (o.1.map e_i64) false, .bool o.2.1]) ([((0, 0), .one [.map (0, 1)]), ((0, 1), .amap (a1.map (em a_i64 (eR none))))] ++ up 3 (Hc o.2.2)))

def f15b1_L1_env {σ : Type} (Hc : σ → AHeap) (a0 : Int) (a1 : List (Int × Ref)) (v1 : Int × Int × σ) (s : ((List Int) × Int)) : Env := [(0, .ptr (0, 0) 0 0), (1, .int .i64 a0), (8, .osl (4, 0) 1 (s.1.map e_i64)), (31, .int .i64 (W (v1.1 + 1))), (32, .int .i64 s.2)]
def f15b1_L1_hp {σ : Type} (Hc : σ → AHeap) (a0 : Int) (a1 : List (Int × Ref)) (v1 : Int × Int × σ) (s : ((List Int) × Int)) : AHeap := ([((0, 0), .one [.map (0, 1)]), ((0, 1), .amap (a1.map (em a_i64 (eR none)))), ((4, 0), .tok)] ++ up 3 (Hc v1.2.2))
def f15b1_L1_Q {σ : Type} (Hc : σ → AHeap) (a0 : Int) (a1 : List (Int × Ref)) (z0 : σ) (o : ((List Int) × Bool × σ)) : Exit → Env → AHeap → Nat → Prop := (QBlock 0 (QSeq Try.prog f15b1_lay 3 f15b1_c0 (f15b1_Q Hc a0 a1 z0 o)))

noncomputable def S_progress_Assembler_Result_15_j1 {σ : Type} (m : Option Nat) (a1 : List (Int × Ref)) (v1 : Int × Int × σ) (v2 : List Int) : Option ((List Int) × Bool × σ) :=
  some (v2, true, v1.2.2)

noncomputable def S_progress_Assembler_Result_15_b1 {σ : Type} (m : Option Nat) (a0 : Int) (a1 : List (Int × Ref)) (v1 : Int × Int × σ) (v2 : List Int) (v3 : Int) : Option (((List Int) × Int) ⊕ ((List Int) × Bool × σ)) :=
  if (decide (v3 < (W (v1.1 + 1)))) = true then
    if lk q_i64 a1 a0 = none then
    if ((v2 ++ (G_QChunk.mk 0 0 false []).f_Items).map e_i64).length * 8 ≤ 140737488355328 then
    some (.inl ((v2 ++ (G_QChunk.mk 0 0 false []).f_Items), (W (v3 + 1))))
    else none
    else none
  else
    Option.map Sum.inr (
      S_progress_Assembler_Result_15_j1 m a1 v1 v2)

noncomputable def S_progress_Assembler_Result_15_l1 {σ : Type} (m : Option Nat) (a0 : Int) (a1 : List (Int × Ref)) (v1 : Int × Int × σ) (v2 : List Int) (v3 : Int) : Option ((List Int) × Bool × σ) := loopM m (fun (s : ((List Int) × Int)) => S_progress_Assembler_Result_15_b1 m a0 a1 v1 s.1 s.2) (v2, v3)

theorem f15b1_j1_ok {σ : Type} {Hc : σ → AHeap} (ht : ∀ s, Tl (Hc s)) {a0 : Int} {z0 : σ} {a1 : List (Int × Ref)} {v1 : Int × Int × σ} {v2 : List Int} {m : Option Nat} {o : ((List Int) × Bool × σ)} (h : S_progress_Assembler_Result_15_j1 m a1 v1 v2 = some o) :
    LWp Try.prog f15b1_lay 3 f15b1_c0 (f15b1_Q Hc a0 a1 z0 o) [(8, .osl (4, 0) 1 (v2.map e_i64))] ([((0, 0), .one [.map (0, 1)]), ((0, 1), .amap (a1.map (em a_i64 (eR none)))), ((4, 0), .tok)] ++ up 3 (Hc v1.2.2)) 5 := by
  unfold S_progress_Assembler_Result_15_j1 at h
  refine seqI ?_
  refine regI ?_
  refine retI ?_
  cases h
  exact And.intro trivial (And.intro trivial (finT (n' := 5) (q := 3) (lit' := [((0, 0), .one [.map (0, 1)]), ((0, 1), .amap (a1.map (em a_i64 (eR none)))), ((4, 0), .tok)]) (ht _) [] [] rfl rfl (Vw.tupL (And.intro (Vw.oslI _ _ _) (And.intro (Vw.same _ rfl) trivial))) (And.intro (And.intro rfl (BVw.oneL (And.intro (Vw.map _ _ rfl) trivial))) (And.intro (And.intro rfl (BVw.refmN a_i64_nid a1 rfl (rhoT_1 (chkT_ok (n := 4) (q := 3) (lit' := [((0, 0), .one [.map (0, 1)]), ((0, 1), .amap (a1.map (em a_i64 (eR none)))), ((4, 0), .tok)]) rfl)))) trivial))))

theorem f15b1_L1_bok {σ : Type} {Hc : σ → AHeap} (ht : ∀ s, Tl (Hc s)) {z0 : σ} {a0 : Int} {a1 : List (Int × Ref)} {v1 : Int × Int × σ} {v2 : List Int} {v3 : Int} {m : Option Nat} {o : ((List Int) × Int) ⊕ ((List Int) × Bool × σ)} (h : S_progress_Assembler_Result_15_b1 m a0 a1 v1 v2 v3 = some o) :
    LWp Try.prog f15b1_lay 3 f15b1_c1 (BodyQ 3 5 (f15b1_L1_env Hc a0 a1 v1) (f15b1_L1_hp Hc a0 a1 v1) (f15b1_L1_Q Hc a0 a1 z0) o) [(0, .ptr (0, 0) 0 0), (1, .int .i64 a0), (8, .osl (4, 0) 1 (v2.map e_i64)), (31, .int .i64 (W (v1.1 + 1))), (32, .int .i64 v3)] ([((0, 0), .one [.map (0, 1)]), ((0, 1), .amap (a1.map (em a_i64 (eR none)))), ((4, 0), .tok)] ++ up 3 (Hc v1.2.2)) 5 := by
  unfold S_progress_Assembler_Result_15_b1 at h
  refine seqI ?_
  refine regI ?_
  refine seqI ?_
  refine condI (v := (decide (v3 < (W (v1.1 + 1))))) rfl trivial (fun h10 => ?_) (fun h10 => ?_)
  · have h := ite_tt h10 h
    refine skipI ?_
    refine seqI ?_
    refine blockI ?_
    refine seqI ?_
    refine regI ?_
    refine regI ?_
    obtain ⟨h11, h⟩ := ite_some h
    refine Exists.intro (.val (.map none)) (And.intro (mlookN (ek := a_i64) q_i64_ok rfl h11) (And.intro (mfind_some (ek := a_i64) (ev := eR none) q_i64_ok _ _) ?_))
    obtain ⟨h12, h⟩ := ite_some h
    refine Exists.intro ((v2 ++ (G_QChunk.mk 0 0 false []).f_Items).map e_i64) (And.intro (app_enc e_i64 v2 ((G_QChunk.mk 0 0 false []).f_Items)) (And.intro h12 ?_))
    rw [del_tail (lit2 := [((0, 0), .one [.map (0, 1)]), ((0, 1), .amap (a1.map (em a_i64 (eR none))))]) (ht _) rfl rfl]
    refine LWp.sim (e := [(0, .ptr (0, 0) 0 0), (1, .int .i64 a0), (8, .osl (4, 0) 1 ((v2 ++ (G_QChunk.mk 0 0 false []).f_Items).map e_i64)), (31, .int .i64 (W (v1.1 + 1))), (32, .int .i64 v3)]) (L := ([((0, 0), .one [.map (0, 1)]), ((0, 1), .amap (a1.map (em a_i64 (eR none)))), ((4, 0), .tok)] ++ up 3 (Hc v1.2.2))) (n := 5) ?_ ?_
    · exact simT (M := [((4, 0), (5, 0))]) (lit' := [((5, 0), .tok), ((0, 0), .one [.map (0, 1)]), ((0, 1), .amap (a1.map (em a_i64 (eR none))))]) (ht _) rfl (And.intro (Vw.ptr _ _ _ _ rfl) (And.intro (Vw.same _ rfl) (And.intro (Vw.osl _ _ _ _ rfl) (And.intro (Vw.same _ rfl) (And.intro (Vw.same _ rfl) trivial))))) (And.intro (And.intro rfl (BVw.oneL (And.intro (Vw.map _ _ rfl) trivial))) (And.intro (And.intro rfl (BVw.refmN a_i64_nid a1 rfl (rhoT_1 (chkT_ok (n := 5) (q := 3) (lit' := [((5, 0), .tok), ((0, 0), .one [.map (0, 1)]), ((0, 1), .amap (a1.map (em a_i64 (eR none))))]) rfl)))) (And.intro (And.intro rfl BVw.tok) trivial)))
    refine regI ?_
    cases h
    exact And.intro rfl (simT (M := [((4, 0), (4, 0))]) (lit' := [((0, 0), .one [.map (0, 1)]), ((0, 1), .amap (a1.map (em a_i64 (eR none)))), ((4, 0), .tok)]) (ht _) rfl (And.intro (Vw.ptr _ _ _ _ rfl) (And.intro (Vw.same _ rfl) (And.intro (Vw.osl _ _ _ _ rfl) (And.intro (Vw.same _ rfl) (And.intro (Vw.same _ rfl) trivial))))) (And.intro (And.intro rfl (BVw.oneL (And.intro (Vw.map _ _ rfl) trivial))) (And.intro (And.intro rfl (BVw.refmN a_i64_nid a1 rfl (rhoT_1 (chkT_ok (n := 5) (q := 3) (lit' := [((0, 0), .one [.map (0, 1)]), ((0, 1), .amap (a1.map (em a_i64 (eR none)))), ((4, 0), .tok)]) rfl)))) (And.intro (And.intro rfl BVw.tok) trivial))))
  · have h := ite_ff h10 h
    refine exitI ?_
    obtain ⟨o, hq, rfl⟩ := Option.map_eq_some_iff.1 h
    replace h := hq; clear hq
    refine And.intro nofun ?_
    refine LWp.sim ?_ (f15b1_j1_ok ht h)
    exact simT (M := [((4, 0), (4, 0))]) (lit' := [((0, 0), .one [.map (0, 1)]), ((0, 1), .amap (a1.map (em a_i64 (eR none)))), ((4, 0), .tok)]) (ht _) rfl (And.intro (Vw.osl _ _ _ _ rfl) trivial) (And.intro (And.intro rfl (BVw.oneL (And.intro (Vw.map _ _ rfl) trivial))) (And.intro (And.intro rfl (BVw.refmN a_i64_nid a1 rfl (rhoT_1 (chkT_ok (n := 5) (q := 3) (lit' := [((0, 0), .one [.map (0, 1)]), ((0, 1), .amap (a1.map (em a_i64 (eR none)))), ((4, 0), .tok)]) rfl)))) (And.intro (And.intro rfl BVw.tok) trivial)))

theorem f15b1_L1_ok {σ : Type} {Hc : σ → AHeap} (ht : ∀ s, Tl (Hc s)) {z0 : σ} {a0 : Int} {a1 : List (Int × Ref)} {v1 : Int × Int × σ} {v2 : List Int} {v3 : Int} {m : Option Nat} {o : ((List Int) × Bool × σ)} (h : S_progress_Assembler_Result_15_l1 m a0 a1 v1 v2 v3 = some o) :
    LWp Try.prog f15b1_lay 3 (.loop f15b1_c1) (QBlock 0 (QSeq Try.prog f15b1_lay 3 f15b1_c0 (f15b1_Q Hc a0 a1 z0 o))) [(0, .ptr (0, 0) 0 0), (1, .int .i64 a0), (8, .osl (4, 0) 1 (v2.map e_i64)), (31, .int .i64 (W (v1.1 + 1))), (32, .int .i64 v3)] ([((0, 0), .one [.map (0, 1)]), ((0, 1), .amap (a1.map (em a_i64 (eR none)))), ((4, 0), .tok)] ++ up 3 (Hc v1.2.2)) 5 :=
  LWp_loopM (m := m) (s := ((v2, v3) : ((List Int) × Int))) (r := o) (fun (s : ((List Int) × Int)) => S_progress_Assembler_Result_15_b1 m a0 a1 v1 s.1 s.2) (f15b1_L1_env Hc a0 a1 v1) (f15b1_L1_hp Hc a0 a1 v1) (f15b1_L1_Q Hc a0 a1 z0) (fun s o h => f15b1_L1_bok ht h) h

noncomputable def S_progress_Assembler_Result_15 {σ : Type} (m : Option Nat) (a0 : Int) (a1 : List (Int × Ref)) (z0 : σ) : Option ((List Int) × Bool × σ) :=
  (S_progress_Assembler_bounds_23 m a0 a1 z0).bind fun v1 =>
  if (((decide (v1.1 < 0)) == false) = true → lk q_i64 a1 a0 = none) then
  if ((decide (v1.1 < 0)) || ((0 : Int) != (W (v1.1 + 1)))) = true then
    some ([], false, v1.2.2)
  else
    S_progress_Assembler_Result_15_l1 m a0 a1 v1 [] 0
  else none

theorem f15b1_start {σ : Type} {Hc : σ → AHeap} (ht : ∀ s, Tl (Hc s)) {a0 : Int} {a1 : List (Int × Ref)} {z0 : σ} {m : Option Nat} {o : (List Int) × Bool × σ} (h : S_progress_Assembler_Result_15 m a0 a1 z0 = some o) : LWp Try.prog f15b1_lay 3 f15b1_c2 (f15b1_Q Hc a0 a1 z0 o) (initEnv 0 [.ptr (0, 0) 0 0, .int .i64 a0]) ([((0, 0), .one [.map (0, 1)]), ((0, 1), .amap (a1.map (em a_i64 (eR none))))] ++ Hc z0) 3 := by
  unfold S_progress_Assembler_Result_15 at h
  refine LWp.sim (e := [(0, .ptr (0, 0) 0 0), (1, .int .i64 a0)]) (L := ([((0, 0), .one [.map (0, 1)]), ((0, 1), .amap (a1.map (em a_i64 (eR none))))] ++ up 3 (Hc z0))) (n := 4) (entryT (T := Hc z0) (e' := initEnv 0 [.ptr (0, 0) 0 0, .int .i64 a0]) (e := [(0, .ptr (0, 0) 0 0), (1, .int .i64 a0)]) (lit' := [((0, 0), .one [.map (0, 1)]), ((0, 1), .amap (a1.map (em a_i64 (eR none))))]) (lit := [((0, 0), .one [.map (0, 1)]), ((0, 1), .amap (a1.map (em a_i64 (eR none))))]) (ht z0) rfl rfl (And.intro (Vw.ptr _ _ _ _ rfl) (And.intro (Vw.same _ rfl) trivial)) (And.intro (And.intro rfl (BVw.oneL (And.intro (Vw.map _ _ rfl) trivial))) (And.intro (And.intro rfl (BVw.refmN a_i64_nid a1 rfl (rhoE_1 _))) trivial))) ?_
  refine seqI ?_
  refine regI ?_
  refine seqI ?_
  refine regI ?_
  obtain ⟨v1, h1, h⟩ := bind_some h
  refine bcallT (m := 1) (q := 3) (lit0 := [((0, 0), .one [.map (0, 1)]), ((0, 1), .amap (a1.map (em a_i64 (eR none))))]) (lit := [((0, 0), .one [.map (0, 1)]), ((0, 1), .amap (a1.map (em a_i64 (eR none))))]) (L := [((0, 0), .one [.map (0, 1)]), ((0, 1), .amap (a1.map (em a_i64 (eR none))))]) (L' := [((0, 0), .one [.map (0, 1)]), ((0, 1), .amap (a1.map (em a_i64 (eR none))))]) (rest := []) (R' := .tup [.int .i64 v1.1, .int .i64 v1.2.1]) (ht _) (ht _) [((0, 0), (0, 0)), ((0, 1), (0, 1))] (f23b1_ok ht h1) rfl rfl rfl rfl rfl rfl (And.intro (Vw.ptr _ _ _ _ rfl) (And.intro (Vw.same _ rfl) trivial)) (And.intro (h0I (0, 0) rfl rfl (BVw.oneL (And.intro (Vw.map _ _ rfl) trivial))) (And.intro (h0I (0, 1) rfl rfl (BVw.refmN a_i64_nid a1 rfl (lookT_1 _ _))) trivial)) (nid_ren _ rfl) (And.intro rfl (And.intro rfl (And.intro rfl (And.intro (refm_ren a_i64_nid (fun _ => rfl) rfl _) trivial)))) rfl ?_
  show yops _ _ _ [(13, .tup [.int .i64 v1.1, .int .i64 v1.2.1]), (12, .int .i64 a0), (11, .ptr (0, 0) 0 0), (5, .bool false), (4, .val (.slice none 0 0)), (0, .ptr (0, 0) 0 0), (1, .int .i64 a0)] _ _
  refine LWp.sim (e := [(0, .ptr (0, 0) 0 0), (1, .int .i64 a0), (6, .int .i64 v1.1)]) (L := ([((0, 0), .one [.map (0, 1)]), ((0, 1), .amap (a1.map (em a_i64 (eR none))))] ++ up 3 (Hc v1.2.2))) (n := 4) ?_ ?_
  · exact simT (M := []) (lit' := [((0, 0), .one [.map (0, 1)]), ((0, 1), .amap (a1.map (em a_i64 (eR none))))]) (ht _) rfl (And.intro (Vw.ptr _ _ _ _ rfl) (And.intro (Vw.same _ rfl) (And.intro (Vw.same _ rfl) trivial))) (And.intro (And.intro rfl (BVw.oneL (And.intro (Vw.map _ _ rfl) trivial))) (And.intro (And.intro rfl (BVw.refmN a_i64_nid a1 rfl (rhoT_1 (chkT_ok (n := 4) (q := 4) (lit' := [((0, 0), .one [.map (0, 1)]), ((0, 1), .amap (a1.map (em a_i64 (eR none))))]) rfl)))) trivial))
  refine seqI ?_
  refine seqI ?_
  refine regI ?_
  refine And.intro (fun hp => hp) ?_
  show yops _ _ _ [(20, .cnd ((decide (v1.1 < 0)) == false) (.ptr (0, 0) 0 0)), (19, .cnd ((decide (v1.1 < 0)) == false) (.ptr (0, 0) 0 0)), (18, .bool (decide (v1.1 < 0))), (17, .bool (decide (v1.1 < 0))), (16, .int .i64 v1.1), (0, .ptr (0, 0) 0 0), (1, .int .i64 a0), (6, .int .i64 v1.1)] _ _
  refine And.intro (fun hp => hp) ?_
  refine And.intro (fun hp => hp) ?_
  obtain ⟨h2, h⟩ := ite_some h
  refine Exists.intro (.val (.map none)) (And.intro (fun hp => And.intro (mlookN (ek := a_i64) q_i64_ok rfl (h2 hp)) (And.intro (And.intro hp hp) (mfind_some (ek := a_i64) (ev := eR none) q_i64_ok _ _))) ?_)
  refine And.intro (fun hp => hp) ?_
  show yops _ _ _ [(25, .cnd ((decide (v1.1 < 0)) == false) (.int .i64 0)), (24, .cnd ((decide (v1.1 < 0)) == false) (.val (.map none))), (23, .cnd ((decide (v1.1 < 0)) == false) (.int .i64 a0)), (22, .cnd ((decide (v1.1 < 0)) == false) (.map (0, 1))), (21, .cnd ((decide (v1.1 < 0)) == false) (.ptr (0, 0) 0 0)), (20, .cnd ((decide (v1.1 < 0)) == false) (.ptr (0, 0) 0 0)), (19, .cnd ((decide (v1.1 < 0)) == false) (.ptr (0, 0) 0 0)), (18, .bool (decide (v1.1 < 0))), (17, .bool (decide (v1.1 < 0))), (16, .int .i64 v1.1), (0, .ptr (0, 0) 0 0), (1, .int .i64 a0), (6, .int .i64 v1.1)] _ _
  refine And.intro (fun hp => hp) ?_
  refine And.intro (fun hp => (And.intro hp hp)) ?_
  refine And.intro (fun hc => (bqf hc)) ?_
  refine LWp.sim (e := [(0, .ptr (0, 0) 0 0), (1, .int .i64 a0), (6, .int .i64 v1.1), (29, .bool ((decide (v1.1 < 0)) || ((0 : Int) != (W (v1.1 + 1)))))]) (L := ([((0, 0), .one [.map (0, 1)]), ((0, 1), .amap (a1.map (em a_i64 (eR none))))] ++ up 3 (Hc v1.2.2))) (n := 4) ?_ ?_
  · exact simT (M := []) (lit' := [((0, 0), .one [.map (0, 1)]), ((0, 1), .amap (a1.map (em a_i64 (eR none))))]) (ht _) rfl (And.intro (Vw.ptr _ _ _ _ rfl) (And.intro (Vw.same _ rfl) (And.intro (Vw.same _ rfl) (And.intro (Vw.same _ rfl) trivial)))) (And.intro (And.intro rfl (BVw.oneL (And.intro (Vw.map _ _ rfl) trivial))) (And.intro (And.intro rfl (BVw.refmN a_i64_nid a1 rfl (rhoT_1 (chkT_ok (n := 4) (q := 3) (lit' := [((0, 0), .one [.map (0, 1)]), ((0, 1), .amap (a1.map (em a_i64 (eR none))))]) rfl)))) trivial))
  refine condI (v := ((decide (v1.1 < 0)) || ((0 : Int) != (W (v1.1 + 1))))) rfl trivial (fun h3 => ?_) (fun h3 => ?_)
  · have h := ite_tt h3 h
    refine seqI ?_
    refine regI ?_
    refine retI ?_
    cases h
    exact And.intro trivial (And.intro trivial (finT (n' := 4) (q := 3) (lit' := [((0, 0), .one [.map (0, 1)]), ((0, 1), .amap (a1.map (em a_i64 (eR none))))]) (ht _) [] [] rfl rfl (Vw.tupL (And.intro (Vw.nilI _ _) (And.intro (Vw.same _ rfl) trivial))) (And.intro (And.intro rfl (BVw.oneL (And.intro (Vw.map _ _ rfl) trivial))) (And.intro (And.intro rfl (BVw.refmN a_i64_nid a1 rfl (rhoT_1 (chkT_ok (n := 4) (q := 3) (lit' := [((0, 0), .one [.map (0, 1)]), ((0, 1), .amap (a1.map (em a_i64 (eR none))))]) rfl)))) trivial))))
  · have h := ite_ff h3 h
    refine skipI ?_
    refine seqI ?_
    refine regI ?_
    refine seqI ?_
    refine seqI ?_
    refine regI ?_
    refine blockI ?_
    refine LWp.sim ?_ (f15b1_L1_ok ht h)
    exact simT (M := []) (lit' := [((0, 0), .one [.map (0, 1)]), ((0, 1), .amap (a1.map (em a_i64 (eR none))))]) (ht _) rfl (And.intro (Vw.ptr _ _ _ _ rfl) (And.intro (Vw.same _ rfl) (And.intro (Vw.nilO _ _ (by decide)) (And.intro (Vw.same _ rfl) (And.intro (Vw.same _ rfl) trivial))))) (And.intro (And.intro rfl (BVw.oneL (And.intro (Vw.map _ _ rfl) trivial))) (And.intro (And.intro rfl (BVw.refmN a_i64_nid a1 rfl (rhoT_1 (chkT_ok (n := 5) (q := 3) (lit' := [((0, 0), .one [.map (0, 1)]), ((0, 1), .amap (a1.map (em a_i64 (eR none))))]) rfl)))) (And.intro (And.intro rfl (And.intro (by decide) (by decide))) trivial)))

theorem f15b1_ok {σ : Type} {Hc : σ → AHeap} (ht : ∀ s, Tl (Hc s)) {a0 : Int} {a1 : List (Int × Ref)} {z0 : σ} {m : Option Nat} {o : (List Int) × Bool × σ} (h : S_progress_Assembler_Result_15 m a0 a1 z0 = some o) : ACalls Try.prog 15 [.ptr (0, 0) 0 0, .int .i64 a0] ([((0, 0), .one [.map (0, 1)]), ((0, 1), .amap (a1.map (em a_i64 (eR none))))] ++ Hc z0) 3 (Gives 4 (.tup [.isl 1 (o.1.map e_i64) false, .bool o.2.1]) ([((0, 0), .one [.map (0, 1)]), ((0, 1), .amap (a1.map (em a_i64 (eR none))))] ++ up 3 (Hc o.2.2))) := bfn_of (L := f15b1_L) f15b1_low f15b1_fok (Nat.le_of_ble_eq_true rfl) (f15b1_start ht h)

def f17b0_c1 : LCode := (.region [⟨some 39, .bin .add (.t 19) (.c (.int .i64 1)), none⟩,
   ⟨some 19, .mv (.t 39), none⟩])
def f17b0_c2 : LCode := (.seq (.region [⟨some 20, .bin .lss (.t 19) (.t 18), none⟩])
 (.seq (.cond (.t 20)
  .skip
  (.exit 0))
 (.seq (.block 1
  (.seq (.region [⟨some 21, .mv (.t 19), none⟩,
    ⟨some 8, .mv (.t 21), none⟩])
  (.seq (.region [⟨some 23, .mv (.t 0), none⟩,
    ⟨some 24, .nilck (.t 23), none⟩,
    ⟨some 25, .faddr 0 (.t 24), none⟩,
    ⟨some 26, .load false 1 (.t 25), none⟩,
    ⟨some 27, .mv (.t 1), none⟩,
    ⟨some 28, .mlook [.int] false false false [(.val (.map none))] (.t 26) (.t 27), none⟩,
    ⟨some 29, .mv (.t 8), none⟩,
    ⟨some 30, .mlook [.int] false true true [(.int .i64 0), (.int .i64 0), (.bool false), (.isl 1 [] true)] (.t 28) (.t 29), none⟩,
    ⟨some 22, .mv (.t 30), none⟩,
    ⟨some 31, .ext 0 (.t 22), none⟩,
    ⟨some 32, .ext 1 (.t 22), none⟩,
    ⟨some 9, .alloc [(.int .i64 0), (.int .i64 0), (.bool false), (.isl 1 [] true)], none⟩,
    ⟨none, .store 4 (.t 9) (.t 31), none⟩,
    ⟨some 10, .mv (.t 32), none⟩])
  (.seq (.region [⟨some 33, .mv (.t 10), none⟩,
    ⟨some 34, .un .not (.t 33), none⟩])
  (.cond (.t 34)
   (.region [⟨some 35, .mv (.t 7), none⟩,
     ⟨some 36, .mv (.t 8), none⟩,
     ⟨some 37, .mkSl true 1 [(.int .i64 0)] 1 [(0, (.t 36))], none⟩,
     ⟨some 38, .app true 1 8 (.t 35) (.t 37), none⟩,
     ⟨some 7, .mv (.t 38), none⟩])
   .skip)))))
 f17b0_c1)))
def f17b0_c0 : LCode := (.seq (.region [⟨some 40, .mv (.t 7), none⟩,
   ⟨some 4, .mv (.t 40), none⟩])
 .ret)
def f17b0_c3 : LCode := (.seq (.region [⟨some 4, .mv (.c (.val (.slice none 0 0))), none⟩])
 (.seq (.region [⟨some 12, .mv (.t 0), none⟩,
   ⟨some 13, .mv (.t 1), none⟩,
   ⟨some 14, .call 23 [(.t 12), (.t 13)], none⟩,
   ⟨some 11, .mv (.t 14), none⟩,
   ⟨some 15, .ext 0 (.t 11), none⟩,
   ⟨some 16, .ext 1 (.t 11), none⟩,
   ⟨some 5, .mv (.t 15), none⟩,
   ⟨some 6, .mv (.t 16), none⟩])
 (.seq (.region [⟨some 7, .mv (.c (.val (.slice none 0 0))), none⟩])
 (.seq (.seq (.region [⟨some 17, .mv (.t 6), none⟩,
   ⟨some 18, .mnx true [(.t 17), (.c (.int .i64 0))], none⟩,
   ⟨some 19, .mv (.c (.int .i64 0)), none⟩])
 (.block 0
  (.loop
   f17b0_c2)))
 f17b0_c0))))
def f17b0_lay : Lay := ⟨41, [], false⟩
def f17b0_res : List LRes := [.t 4]
def f17b0_L : LFn := ⟨2, f17b0_lay, f17b0_c3, f17b0_res⟩
theorem f17b0_low : lowFn Try.prog [] 17 = some f17b0_L := by kernel_rfl
theorem f17b0_fok : FnOk Try.prog 17 := ⟨_, Try.func17, rfl, rfl⟩
def f17b0_Q {σ : Type} (Hc : σ → AHeap) (a0 : Int) (a1 : List (Int × Ref)) (a2 : List (Int × G_QChunk)) (z0 : σ) (o : (List Int) × σ) : Exit → Env → AHeap → Nat → Prop := FinK f17b0_res (FinTo 3 4 (.isl 1 (o.1.map e_i64) false) ([((0, 0), .one [.map (0, 1)]), ((0, 1), .amap (a1.map (em a_i64 (eR (some (0, 2)))))), ((0, 2), .amap (a2.map (em a_i64 a_QChunk)))] ++ up 3 (Hc o.2)))

def f17b0_L1_env {σ : Type} (Hc : σ → AHeap) (a0 : Int) (a1 : List (Int × Ref)) (a2 : List (Int × G_QChunk)) (v1 : Int × Int × σ) (s : ((List Int) × Int)) : Env := [(0, .ptr (0, 0) 0 0), (1, .int .i64 a0), (7, .osl (4, 0) 1 (s.1.map e_i64)), (18, .int .i64 (if 0 > v1.2.1 then 0 else v1.2.1)), (19, .int .i64 s.2)]
def f17b0_L1_hp {σ : Type} (Hc : σ → AHeap) (a0 : Int) (a1 : List (Int × Ref)) (a2 : List (Int × G_QChunk)) (v1 : Int × Int × σ) (s : ((List Int) × Int)) : AHeap := ([((0, 0), .one [.map (0, 1)]), ((0, 1), .amap (a1.map (em a_i64 (eR (some (0, 2)))))), ((0, 2), .amap (a2.map (em a_i64 a_QChunk))), ((4, 0), .tok)] ++ up 3 (Hc v1.2.2))
def f17b0_L1_Q {σ : Type} (Hc : σ → AHeap) (a0 : Int) (a1 : List (Int × Ref)) (a2 : List (Int × G_QChunk)) (z0 : σ) (o : ((List Int) × σ)) : Exit → Env → AHeap → Nat → Prop := (QBlock 0 (QSeq Try.prog f17b0_lay 3 f17b0_c0 (f17b0_Q Hc a0 a1 a2 z0 o)))

noncomputable def S_progress_Assembler_Missing_j3 {σ : Type} (m : Option Nat) (a0 : Int) (a1 : List (Int × Ref)) (a2 : List (Int × G_QChunk)) (v1 : Int × Int × σ) (v4 : Int) (v6 : List Int) : Option (((List Int) × Int) ⊕ ((List Int) × σ)) :=
  some (.inl (v6, (W (v4 + 1))))

theorem f17b0_j3_ok {σ : Type} {Hc : σ → AHeap} (ht : ∀ s, Tl (Hc s)) {z0 : σ} {a0 : Int} {a1 : List (Int × Ref)} {a2 : List (Int × G_QChunk)} {v1 : Int × Int × σ} {v4 : Int} {v6 : List Int} {m : Option Nat} {o : (((List Int) × Int) ⊕ ((List Int) × σ))} (h : S_progress_Assembler_Missing_j3 m a0 a1 a2 v1 v4 v6 = some o) :
    LWp Try.prog f17b0_lay 3 f17b0_c1 (BodyQ 3 5 (f17b0_L1_env Hc a0 a1 a2 v1) (f17b0_L1_hp Hc a0 a1 a2 v1) (f17b0_L1_Q Hc a0 a1 a2 z0) o) [(0, .ptr (0, 0) 0 0), (1, .int .i64 a0), (7, .osl (4, 0) 1 (v6.map e_i64)), (18, .int .i64 (if 0 > v1.2.1 then 0 else v1.2.1)), (19, .int .i64 v4)] ([((0, 0), .one [.map (0, 1)]), ((0, 1), .amap (a1.map (em a_i64 (eR (some (0, 2)))))), ((0, 2), .amap (a2.map (em a_i64 a_QChunk))), ((4, 0), .tok)] ++ up 3 (Hc v1.2.2)) 5 := by
  unfold S_progress_Assembler_Missing_j3 at h
  refine regI ?_
  cases h
  exact And.intro rfl (simT (M := [((4, 0), (4, 0))]) (lit' := [((0, 0), .one [.map (0, 1)]), ((0, 1), .amap (a1.map (em a_i64 (eR (some (0, 2)))))), ((0, 2), .amap (a2.map (em a_i64 a_QChunk))), ((4, 0), .tok)]) (ht _) rfl (And.intro (Vw.ptr _ _ _ _ rfl) (And.intro (Vw.same _ rfl) (And.intro (Vw.osl _ _ _ _ rfl) (And.intro (Vw.same _ rfl) (And.intro (Vw.same _ rfl) trivial))))) (And.intro (And.intro rfl (BVw.oneL (And.intro (Vw.map _ _ rfl) trivial))) (And.intro (And.intro rfl (BVw.refmF a_i64_nid a1 rfl rfl (rhoT_1 (chkT_ok (n := 5) (q := 3) (lit' := [((0, 0), .one [.map (0, 1)]), ((0, 1), .amap (a1.map (em a_i64 (eR (some (0, 2)))))), ((0, 2), .amap (a2.map (em a_i64 a_QChunk))), ((4, 0), .tok)]) rfl)))) (And.intro (And.intro rfl (BVw.ofMap a_i64 a_QChunk a_QChunk_nid a2)) (And.intro (And.intro rfl BVw.tok) trivial)))))

noncomputable def S_progress_Assembler_Missing_j4 {σ : Type} (m : Option Nat) (a1 : List (Int × Ref)) (a2 : List (Int × G_QChunk)) (v1 : Int × Int × σ) (v3 : List Int) : Option ((List Int) × σ) :=
  some (v3, v1.2.2)

noncomputable def S_progress_Assembler_Missing_b1 {σ : Type} (m : Option Nat) (a0 : Int) (a1 : List (Int × Ref)) (a2 : List (Int × G_QChunk)) (v1 : Int × Int × σ) (v3 : List Int) (v4 : Int) : Option (((List Int) × Int) ⊕ ((List Int) × σ)) :=
  if (decide (v4 < (if 0 > v1.2.1 then 0 else v1.2.1))) = true then
    if lk q_i64 a1 a0 = some Ref.foc then
    if (!((lk q_i64 a2 v4).isSome)) = true then
      if ((v3 ++ ([v4] : List Int)).map e_i64).length * 8 ≤ 140737488355328 then
      S_progress_Assembler_Missing_j3 m a0 a1 a2 v1 v4 (v3 ++ ([v4] : List Int))
      else none
    else
      S_progress_Assembler_Missing_j3 m a0 a1 a2 v1 v4 v3
    else none
  else
    Option.map Sum.inr (
      S_progress_Assembler_Missing_j4 m a1 a2 v1 v3)

noncomputable def S_progress_Assembler_Missing_l1 {σ : Type} (m : Option Nat) (a0 : Int) (a1 : List (Int × Ref)) (a2 : List (Int × G_QChunk)) (v1 : Int × Int × σ) (v3 : List Int) (v4 : Int) : Option ((List Int) × σ) := loopM m (fun (s : ((List Int) × Int)) => S_progress_Assembler_Missing_b1 m a0 a1 a2 v1 s.1 s.2) (v3, v4)

theorem f17b0_j4_ok {σ : Type} {Hc : σ → AHeap} (ht : ∀ s, Tl (Hc s)) {a0 : Int} {z0 : σ} {a1 : List (Int × Ref)} {a2 : List (Int × G_QChunk)} {v1 : Int × Int × σ} {v3 : List Int} {m : Option Nat} {o : ((List Int) × σ)} (h : S_progress_Assembler_Missing_j4 m a1 a2 v1 v3 = some o) :
    LWp Try.prog f17b0_lay 3 f17b0_c0 (f17b0_Q Hc a0 a1 a2 z0 o) [(7, .osl (4, 0) 1 (v3.map e_i64))] ([((0, 0), .one [.map (0, 1)]), ((0, 1), .amap (a1.map (em a_i64 (eR (some (0, 2)))))), ((0, 2), .amap (a2.map (em a_i64 a_QChunk))), ((4, 0), .tok)] ++ up 3 (Hc v1.2.2)) 5 := by
  unfold S_progress_Assembler_Missing_j4 at h
  refine seqI ?_
  refine regI ?_
  refine retI ?_
  cases h
  exact And.intro trivial (finT (n' := 5) (q := 3) (lit' := [((0, 0), .one [.map (0, 1)]), ((0, 1), .amap (a1.map (em a_i64 (eR (some (0, 2)))))), ((0, 2), .amap (a2.map (em a_i64 a_QChunk))), ((4, 0), .tok)]) (ht _) [] [] rfl rfl (Vw.oslI _ _ _) (And.intro (And.intro rfl (BVw.oneL (And.intro (Vw.map _ _ rfl) trivial))) (And.intro (And.intro rfl (BVw.refmF a_i64_nid a1 rfl rfl (rhoT_1 (chkT_ok (n := 4) (q := 3) (lit' := [((0, 0), .one [.map (0, 1)]), ((0, 1), .amap (a1.map (em a_i64 (eR (some (0, 2)))))), ((0, 2), .amap (a2.map (em a_i64 a_QChunk))), ((4, 0), .tok)]) rfl)))) (And.intro (And.intro rfl (BVw.ofMap a_i64 a_QChunk a_QChunk_nid a2)) trivial))))

theorem f17b0_L1_bok {σ : Type} {Hc : σ → AHeap} (ht : ∀ s, Tl (Hc s)) {z0 : σ} {a0 : Int} {a1 : List (Int × Ref)} {a2 : List (Int × G_QChunk)} {v1 : Int × Int × σ} {v3 : List Int} {v4 : Int} {m : Option Nat} {o : ((List Int) × Int) ⊕ ((List Int) × σ)} (h : S_progress_Assembler_Missing_b1 m a0 a1 a2 v1 v3 v4 = some o) :
    LWp Try.prog f17b0_lay 3 f17b0_c2 (BodyQ 3 5 (f17b0_L1_env Hc a0 a1 a2 v1) (f17b0_L1_hp Hc a0 a1 a2 v1) (f17b0_L1_Q Hc a0 a1 a2 z0) o) [(0, .ptr (0, 0) 0 0), (1, .int .i64 a0), (7, .osl (4, 0) 1 (v3.map e_i64)), (18, .int .i64 (if 0 > v1.2.1 then 0 else v1.2.1)), (19, .int .i64 v4)] ([((0, 0), .one [.map (0, 1)]), ((0, 1), .amap (a1.map (em a_i64 (eR (some (0, 2)))))), ((0, 2), .amap (a2.map (em a_i64 a_QChunk))), ((4, 0), .tok)] ++ up 3 (Hc v1.2.2)) 5 := by
  unfold S_progress_Assembler_Missing_b1 at h
  refine seqI ?_
  refine regI ?_
  refine seqI ?_
  refine condI (v := (decide (v4 < (if 0 > v1.2.1 then 0 else v1.2.1)))) rfl trivial (fun h10 => ?_) (fun h10 => ?_)
  · have h := ite_tt h10 h
    refine skipI ?_
    refine seqI ?_
    refine blockI ?_
    refine seqI ?_
    refine regI ?_
    refine seqI ?_
    refine regI ?_
    obtain ⟨h11, h⟩ := ite_some h
    refine Exists.intro (.map (0, 2)) (And.intro (mlookF (ek := a_i64) q_i64_ok h11) (And.intro (mfind_some (ek := a_i64) (ev := eR (some (0, 2))) q_i64_ok _ _) ?_))
    refine Exists.intro (.tup [.agg [.int .i64 (((lk q_i64 a2 v4).getD (G_QChunk.mk 0 0 false [])).f_Token), .int .i64 (((lk q_i64 a2 v4).getD (G_QChunk.mk 0 0 false [])).f_Seq), .bool (((lk q_i64 a2 v4).getD (G_QChunk.mk 0 0 false [])).f_Last), .isl 1 ((((lk q_i64 a2 v4).getD (G_QChunk.mk 0 0 false [])).f_Items).map e_i64) false], .bool ((lk q_i64 a2 v4).isSome)]) (And.intro (mlook_ok (ek := a_i64) (ev := a_QChunk) (z := (G_QChunk.mk 0 0 false [])) q_i64_ok rfl v4 a2) (And.intro (mfind_some (ek := a_i64) (ev := a_QChunk) q_i64_ok _ _) ?_))
    refine LWp.sim (e := [(0, .ptr (0, 0) 0 0), (1, .int .i64 a0), (7, .osl (4, 0) 1 (v3.map e_i64)), (8, .int .i64 v4), (10, .bool ((lk q_i64 a2 v4).isSome)), (18, .int .i64 (if 0 > v1.2.1 then 0 else v1.2.1)), (19, .int .i64 v4)]) (L := ([((0, 0), .one [.map (0, 1)]), ((0, 1), .amap (a1.map (em a_i64 (eR (some (0, 2)))))), ((0, 2), .amap (a2.map (em a_i64 a_QChunk))), ((4, 0), .tok)] ++ up 3 (Hc v1.2.2))) (n := 5) ?_ ?_
    · exact simT (M := [((4, 0), (4, 0))]) (lit' := [((5, 0), .one [.int .i64 (((lk q_i64 a2 v4).getD (G_QChunk.mk 0 0 false [])).f_Token), .int .i64 (((lk q_i64 a2 v4).getD (G_QChunk.mk 0 0 false [])).f_Seq), .bool (((lk q_i64 a2 v4).getD (G_QChunk.mk 0 0 false [])).f_Last), .isl 1 ((((lk q_i64 a2 v4).getD (G_QChunk.mk 0 0 false [])).f_Items).map e_i64) false]), ((0, 0), .one [.map (0, 1)]), ((0, 1), .amap (a1.map (em a_i64 (eR (some (0, 2)))))), ((0, 2), .amap (a2.map (em a_i64 a_QChunk))), ((4, 0), .tok)]) (ht _) rfl (And.intro (Vw.ptr _ _ _ _ rfl) (And.intro (Vw.same _ rfl) (And.intro (Vw.osl _ _ _ _ rfl) (And.intro (Vw.same _ rfl) (And.intro (Vw.same _ rfl) (And.intro (Vw.same _ rfl) (And.intro (Vw.same _ rfl) trivial))))))) (And.intro (And.intro rfl (BVw.oneL (And.intro (Vw.map _ _ rfl) trivial))) (And.intro (And.intro rfl (BVw.refmF a_i64_nid a1 rfl rfl (rhoT_1 (chkT_ok (n := 5) (q := 3) (lit' := [((5, 0), .one [.int .i64 (((lk q_i64 a2 v4).getD (G_QChunk.mk 0 0 false [])).f_Token), .int .i64 (((lk q_i64 a2 v4).getD (G_QChunk.mk 0 0 false [])).f_Seq), .bool (((lk q_i64 a2 v4).getD (G_QChunk.mk 0 0 false [])).f_Last), .isl 1 ((((lk q_i64 a2 v4).getD (G_QChunk.mk 0 0 false [])).f_Items).map e_i64) false]), ((0, 0), .one [.map (0, 1)]), ((0, 1), .amap (a1.map (em a_i64 (eR (some (0, 2)))))), ((0, 2), .amap (a2.map (em a_i64 a_QChunk))), ((4, 0), .tok)]) rfl)))) (And.intro (And.intro rfl (BVw.ofMap a_i64 a_QChunk a_QChunk_nid a2)) (And.intro (And.intro rfl BVw.tok) trivial))))
    refine seqI ?_
    refine regI ?_
    refine condI (v := (!((lk q_i64 a2 v4).isSome))) rfl trivial (fun h12 => ?_) (fun h12 => ?_)
    · have h := ite_tt h12 h
      refine regI ?_
      obtain ⟨h13, h⟩ := ite_some h
      refine Exists.intro ((v3 ++ ([v4] : List Int)).map e_i64) (And.intro (app_enc e_i64 v3 ([v4] : List Int)) (And.intro h13 ?_))
      rw [del_tail (lit2 := [((0, 0), .one [.map (0, 1)]), ((0, 1), .amap (a1.map (em a_i64 (eR (some (0, 2)))))), ((0, 2), .amap (a2.map (em a_i64 a_QChunk)))]) (ht _) rfl rfl]
      refine LWp.sim ?_ (f17b0_j3_ok ht h)
      exact simT (M := [((4, 0), (5, 0))]) (lit' := [((5, 0), .tok), ((0, 0), .one [.map (0, 1)]), ((0, 1), .amap (a1.map (em a_i64 (eR (some (0, 2)))))), ((0, 2), .amap (a2.map (em a_i64 a_QChunk)))]) (ht _) rfl (And.intro (Vw.ptr _ _ _ _ rfl) (And.intro (Vw.same _ rfl) (And.intro (Vw.osl _ _ _ _ rfl) (And.intro (Vw.same _ rfl) (And.intro (Vw.same _ rfl) trivial))))) (And.intro (And.intro rfl (BVw.oneL (And.intro (Vw.map _ _ rfl) trivial))) (And.intro (And.intro rfl (BVw.refmF a_i64_nid a1 rfl rfl (rhoT_1 (chkT_ok (n := 5) (q := 3) (lit' := [((5, 0), .tok), ((0, 0), .one [.map (0, 1)]), ((0, 1), .amap (a1.map (em a_i64 (eR (some (0, 2)))))), ((0, 2), .amap (a2.map (em a_i64 a_QChunk)))]) rfl)))) (And.intro (And.intro rfl (BVw.ofMap a_i64 a_QChunk a_QChunk_nid a2)) (And.intro (And.intro rfl BVw.tok) trivial))))
    · have h := ite_ff h12 h
      refine skipI ?_
      refine LWp.sim ?_ (f17b0_j3_ok ht h)
      exact simT (M := [((4, 0), (4, 0))]) (lit' := [((0, 0), .one [.map (0, 1)]), ((0, 1), .amap (a1.map (em a_i64 (eR (some (0, 2)))))), ((0, 2), .amap (a2.map (em a_i64 a_QChunk))), ((4, 0), .tok)]) (ht _) rfl (And.intro (Vw.ptr _ _ _ _ rfl) (And.intro (Vw.same _ rfl) (And.intro (Vw.osl _ _ _ _ rfl) (And.intro (Vw.same _ rfl) (And.intro (Vw.same _ rfl) trivial))))) (And.intro (And.intro rfl (BVw.oneL (And.intro (Vw.map _ _ rfl) trivial))) (And.intro (And.intro rfl (BVw.refmF a_i64_nid a1 rfl rfl (rhoT_1 (chkT_ok (n := 5) (q := 3) (lit' := [((0, 0), .one [.map (0, 1)]), ((0, 1), .amap (a1.map (em a_i64 (eR (some (0, 2)))))), ((0, 2), .amap (a2.map (em a_i64 a_QChunk))), ((4, 0), .tok)]) rfl)))) (And.intro (And.intro rfl (BVw.ofMap a_i64 a_QChunk a_QChunk_nid a2)) (And.intro (And.intro rfl BVw.tok) trivial))))
  · have h := ite_ff h10 h
    refine exitI ?_
    obtain ⟨o, hq, rfl⟩ := Option.map_eq_some_iff.1 h
    replace h := hq; clear hq
    refine And.intro nofun ?_
    refine LWp.sim ?_ (f17b0_j4_ok ht h)
    exact simT (M := [((4, 0), (4, 0))]) (lit' := [((0, 0), .one [.map (0, 1)]), ((0, 1), .amap (a1.map (em a_i64 (eR (some (0, 2)))))), ((0, 2), .amap (a2.map (em a_i64 a_QChunk))), ((4, 0), .tok)]) (ht _) rfl (And.intro (Vw.osl _ _ _ _ rfl) trivial) (And.intro (And.intro rfl (BVw.oneL (And.intro (Vw.map _ _ rfl) trivial))) (And.intro (And.intro rfl (BVw.refmF a_i64_nid a1 rfl rfl (rhoT_1 (chkT_ok (n := 5) (q := 3) (lit' := [((0, 0), .one [.map (0, 1)]), ((0, 1), .amap (a1.map (em a_i64 (eR (some (0, 2)))))), ((0, 2), .amap (a2.map (em a_i64 a_QChunk))), ((4, 0), .tok)]) rfl)))) (And.intro (And.intro rfl (BVw.ofMap a_i64 a_QChunk a_QChunk_nid a2)) (And.intro (And.intro rfl BVw.tok) trivial))))

theorem f17b0_L1_ok {σ : Type} {Hc : σ → AHeap} (ht : ∀ s, Tl (Hc s)) {z0 : σ} {a0 : Int} {a1 : List (Int × Ref)} {a2 : List (Int × G_QChunk)} {v1 : Int × Int × σ} {v3 : List Int} {v4 : Int} {m : Option Nat} {o : ((List Int) × σ)} (h : S_progress_Assembler_Missing_l1 m a0 a1 a2 v1 v3 v4 = some o) :
    LWp Try.prog f17b0_lay 3 (.loop f17b0_c2) (QBlock 0 (QSeq Try.prog f17b0_lay 3 f17b0_c0 (f17b0_Q Hc a0 a1 a2 z0 o))) [(0, .ptr (0, 0) 0 0), (1, .int .i64 a0), (7, .osl (4, 0) 1 (v3.map e_i64)), (18, .int .i64 (if 0 > v1.2.1 then 0 else v1.2.1)), (19, .int .i64 v4)] ([((0, 0), .one [.map (0, 1)]), ((0, 1), .amap (a1.map (em a_i64 (eR (some (0, 2)))))), ((0, 2), .amap (a2.map (em a_i64 a_QChunk))), ((4, 0), .tok)] ++ up 3 (Hc v1.2.2)) 5 :=
  LWp_loopM (m := m) (s := ((v3, v4) : ((List Int) × Int))) (r := o) (fun (s : ((List Int) × Int)) => S_progress_Assembler_Missing_b1 m a0 a1 a2 v1 s.1 s.2) (f17b0_L1_env Hc a0 a1 a2 v1) (f17b0_L1_hp Hc a0 a1 a2 v1) (f17b0_L1_Q Hc a0 a1 a2 z0) (fun s o h => f17b0_L1_bok ht h) h

noncomputable def S_progress_Assembler_Missing {σ : Type} (m : Option Nat) (a0 : Int) (a1 : List (Int × Ref)) (a2 : List (Int × G_QChunk)) (z0 : σ) : Option ((List Int) × σ) :=
  (S_progress_Assembler_bounds m a0 a1 a2 z0).bind fun v1 =>
  S_progress_Assembler_Missing_l1 m a0 a1 a2 v1 [] 0

theorem f17b0_start {σ : Type} {Hc : σ → AHeap} (ht : ∀ s, Tl (Hc s)) {a0 : Int} {a1 : List (Int × Ref)} {a2 : List (Int × G_QChunk)} {z0 : σ} {m : Option Nat} {o : (List Int) × σ} (h : S_progress_Assembler_Missing m a0 a1 a2 z0 = some o) : LWp Try.prog f17b0_lay 3 f17b0_c3 (f17b0_Q Hc a0 a1 a2 z0 o) (initEnv 0 [.ptr (0, 0) 0 0, .int .i64 a0]) ([((0, 0), .one [.map (0, 1)]), ((0, 1), .amap (a1.map (em a_i64 (eR (some (0, 2)))))), ((0, 2), .amap (a2.map (em a_i64 a_QChunk)))] ++ Hc z0) 3 := by
  unfold S_progress_Assembler_Missing at h
  refine LWp.sim (e := [(0, .ptr (0, 0) 0 0), (1, .int .i64 a0)]) (L := ([((0, 0), .one [.map (0, 1)]), ((0, 1), .amap (a1.map (em a_i64 (eR (some (0, 2)))))), ((0, 2), .amap (a2.map (em a_i64 a_QChunk)))] ++ up 3 (Hc z0))) (n := 4) (entryT (T := Hc z0) (e' := initEnv 0 [.ptr (0, 0) 0 0, .int .i64 a0]) (e := [(0, .ptr (0, 0) 0 0), (1, .int .i64 a0)]) (lit' := [((0, 0), .one [.map (0, 1)]), ((0, 1), .amap (a1.map (em a_i64 (eR (some (0, 2)))))), ((0, 2), .amap (a2.map (em a_i64 a_QChunk)))]) (lit := [((0, 0), .one [.map (0, 1)]), ((0, 1), .amap (a1.map (em a_i64 (eR (some (0, 2)))))), ((0, 2), .amap (a2.map (em a_i64 a_QChunk)))]) (ht z0) rfl rfl (And.intro (Vw.ptr _ _ _ _ rfl) (And.intro (Vw.same _ rfl) trivial)) (And.intro (And.intro rfl (BVw.oneL (And.intro (Vw.map _ _ rfl) trivial))) (And.intro (And.intro rfl (BVw.refmF a_i64_nid a1 rfl rfl (rhoE_1 _))) (And.intro (And.intro rfl (BVw.ofMap a_i64 a_QChunk a_QChunk_nid a2)) trivial)))) ?_
  refine seqI ?_
  refine regI ?_
  refine seqI ?_
  refine regI ?_
  obtain ⟨v1, h1, h⟩ := bind_some h
  refine bcallT (m := 1) (q := 3) (lit0 := [((0, 0), .one [.map (0, 1)]), ((0, 1), .amap (a1.map (em a_i64 (eR (some (0, 2)))))), ((0, 2), .amap (a2.map (em a_i64 a_QChunk)))]) (lit := [((0, 0), .one [.map (0, 1)]), ((0, 1), .amap (a1.map (em a_i64 (eR (some (0, 2)))))), ((0, 2), .amap (a2.map (em a_i64 a_QChunk)))]) (L := [((0, 0), .one [.map (0, 1)]), ((0, 1), .amap (a1.map (em a_i64 (eR (some (0, 2)))))), ((0, 2), .amap (a2.map (em a_i64 a_QChunk)))]) (L' := [((0, 0), .one [.map (0, 1)]), ((0, 1), .amap (a1.map (em a_i64 (eR (some (0, 2)))))), ((0, 2), .amap (a2.map (em a_i64 a_QChunk)))]) (rest := []) (R' := .tup [.int .i64 v1.1, .int .i64 v1.2.1]) (ht _) (ht _) [((0, 0), (0, 0)), ((0, 1), (0, 1)), ((0, 2), (0, 2))] (f23b0_ok ht h1) rfl rfl rfl rfl rfl rfl (And.intro (Vw.ptr _ _ _ _ rfl) (And.intro (Vw.same _ rfl) trivial)) (And.intro (h0I (0, 0) rfl rfl (BVw.oneL (And.intro (Vw.map _ _ rfl) trivial))) (And.intro (h0I (0, 1) rfl rfl (BVw.refmF a_i64_nid a1 rfl rfl (lookT_1 _ _))) (And.intro (h0I (0, 2) rfl rfl (BVw.ofMap a_i64 a_QChunk a_QChunk_nid a2)) trivial))) (nid_ren _ rfl) (And.intro rfl (And.intro rfl (And.intro rfl (And.intro (refm_ren a_i64_nid (fun _ => rfl) rfl _) (And.intro rfl (And.intro (map_ren a_i64 a_QChunk a_i64_nid a_QChunk_nid _) trivial)))))) rfl ?_
  refine LWp.sim (e := [(0, .ptr (0, 0) 0 0), (1, .int .i64 a0), (6, .int .i64 v1.2.1)]) (L := ([((0, 0), .one [.map (0, 1)]), ((0, 1), .amap (a1.map (em a_i64 (eR (some (0, 2)))))), ((0, 2), .amap (a2.map (em a_i64 a_QChunk)))] ++ up 3 (Hc v1.2.2))) (n := 4) ?_ ?_
  · exact simT (M := []) (lit' := [((0, 0), .one [.map (0, 1)]), ((0, 1), .amap (a1.map (em a_i64 (eR (some (0, 2)))))), ((0, 2), .amap (a2.map (em a_i64 a_QChunk)))]) (ht _) rfl (And.intro (Vw.ptr _ _ _ _ rfl) (And.intro (Vw.same _ rfl) (And.intro (Vw.same _ rfl) trivial))) (And.intro (And.intro rfl (BVw.oneL (And.intro (Vw.map _ _ rfl) trivial))) (And.intro (And.intro rfl (BVw.refmF a_i64_nid a1 rfl rfl (rhoT_1 (chkT_ok (n := 4) (q := 4) (lit' := [((0, 0), .one [.map (0, 1)]), ((0, 1), .amap (a1.map (em a_i64 (eR (some (0, 2)))))), ((0, 2), .amap (a2.map (em a_i64 a_QChunk)))]) rfl)))) (And.intro (And.intro rfl (BVw.ofMap a_i64 a_QChunk a_QChunk_nid a2)) trivial)))
  refine seqI ?_
  refine regI ?_
  refine seqI ?_
  refine seqI ?_
  refine regI ?_
  refine blockI ?_
  refine LWp.sim ?_ (f17b0_L1_ok ht h)
  exact simT (M := []) (lit' := [((0, 0), .one [.map (0, 1)]), ((0, 1), .amap (a1.map (em a_i64 (eR (some (0, 2)))))), ((0, 2), .amap (a2.map (em a_i64 a_QChunk)))]) (ht _) rfl (And.intro (Vw.ptr _ _ _ _ rfl) (And.intro (Vw.same _ rfl) (And.intro (Vw.nilO _ _ (by decide)) (And.intro (Vw.same _ rfl) (And.intro (Vw.same _ rfl) trivial))))) (And.intro (And.intro rfl (BVw.oneL (And.intro (Vw.map _ _ rfl) trivial))) (And.intro (And.intro rfl (BVw.refmF a_i64_nid a1 rfl rfl (rhoT_1 (chkT_ok (n := 5) (q := 3) (lit' := [((0, 0), .one [.map (0, 1)]), ((0, 1), .amap (a1.map (em a_i64 (eR (some (0, 2)))))), ((0, 2), .amap (a2.map (em a_i64 a_QChunk)))]) rfl)))) (And.intro (And.intro rfl (BVw.ofMap a_i64 a_QChunk a_QChunk_nid a2)) (And.intro (And.intro rfl (And.intro (by decide) (by decide))) trivial))))

theorem f17b0_ok {σ : Type} {Hc : σ → AHeap} (ht : ∀ s, Tl (Hc s)) {a0 : Int} {a1 : List (Int × Ref)} {a2 : List (Int × G_QChunk)} {z0 : σ} {m : Option Nat} {o : (List Int) × σ} (h : S_progress_Assembler_Missing m a0 a1 a2 z0 = some o) : ACalls Try.prog 17 [.ptr (0, 0) 0 0, .int .i64 a0] ([((0, 0), .one [.map (0, 1)]), ((0, 1), .amap (a1.map (em a_i64 (eR (some (0, 2)))))), ((0, 2), .amap (a2.map (em a_i64 a_QChunk)))] ++ Hc z0) 3 (Gives 4 (.isl 1 (o.1.map e_i64) false) ([((0, 0), .one [.map (0, 1)]), ((0, 1), .amap (a1.map (em a_i64 (eR (some (0, 2)))))), ((0, 2), .amap (a2.map (em a_i64 a_QChunk)))] ++ up 3 (Hc o.2))) := bfn_of (L := f17b0_L) f17b0_low f17b0_fok (Nat.le_of_ble_eq_true rfl) (f17b0_start ht h)

def f17b1_c1 : LCode := (.region [⟨some 39, .bin .add (.t 19) (.c (.int .i64 1)), none⟩,
   ⟨some 19, .mv (.t 39), none⟩])
def f17b1_c2 : LCode := (.seq (.region [⟨some 20, .bin .lss (.t 19) (.t 18), none⟩])
 (.seq (.cond (.t 20)
  .skip
  (.exit 0))
 (.seq (.block 1
  (.seq (.region [⟨some 21, .mv (.t 19), none⟩,
    ⟨some 8, .mv (.t 21), none⟩])
  (.seq (.region [⟨some 23, .mv (.t 0), none⟩,
    ⟨some 24, .nilck (.t 23), none⟩,
    ⟨some 25, .faddr 0 (.t 24), none⟩,
    ⟨some 26, .load false 1 (.t 25), none⟩,
    ⟨some 27, .mv (.t 1), none⟩,
    ⟨some 28, .mlook [.int] false false false [(.val (.map none))] (.t 26) (.t 27), none⟩,
    ⟨some 29, .mv (.t 8), none⟩,
    ⟨some 30, .mlook [.int] false true true [(.int .i64 0), (.int .i64 0), (.bool false), (.isl 1 [] true)] (.t 28) (.t 29), none⟩,
    ⟨some 22, .mv (.t 30), none⟩,
    ⟨some 31, .ext 0 (.t 22), none⟩,
    ⟨some 32, .ext 1 (.t 22), none⟩,
    ⟨some 9, .alloc [(.int .i64 0), (.int .i64 0), (.bool false), (.isl 1 [] true)], none⟩,
    ⟨none, .store 4 (.t 9) (.t 31), none⟩,
    ⟨some 10, .mv (.t 32), none⟩])
  (.seq (.region [⟨some 33, .mv (.t 10), none⟩,
    ⟨some 34, .un .not (.t 33), none⟩])
  (.cond (.t 34)
   (.region [⟨some 35, .mv (.t 7), none⟩,
     ⟨some 36, .mv (.t 8), none⟩,
     ⟨some 37, .mkSl true 1 [(.int .i64 0)] 1 [(0, (.t 36))], none⟩,
     ⟨some 38, .app true 1 8 (.t 35) (.t 37), none⟩,
     ⟨some 7, .mv (.t 38), none⟩])
   .skip)))))
 f17b1_c1)))
def f17b1_c0 : LCode := (.seq (.region [⟨some 40, .mv (.t 7), none⟩,
   ⟨some 4, .mv (.t 40), none⟩])
 .ret)
def f17b1_c3 : LCode := (.seq (.region [⟨some 4, .mv (.c (.val (.slice none 0 0))), none⟩])
 (.seq (.region [⟨some 12, .mv (.t 0), none⟩,
   ⟨some 13, .mv (.t 1), none⟩,
   ⟨some 14, .call 23 [(.t 12), (.t 13)], none⟩,
   ⟨some 11, .mv (.t 14), none⟩,
   ⟨some 15, .ext 0 (.t 11), none⟩,
   ⟨some 16, .ext 1 (.t 11), none⟩,
   ⟨some 5, .mv (.t 15), none⟩,
   ⟨some 6, .mv (.t 16), none⟩])
 (.seq (.region [⟨some 7, .mv (.c (.val (.slice none 0 0))), none⟩])
 (.seq (.seq (.region [⟨some 17, .mv (.t 6), none⟩,
   ⟨some 18, .mnx true [(.t 17), (.c (.int .i64 0))], none⟩,
   ⟨some 19, .mv (.c (.int .i64 0)), none⟩])
 (.block 0
  (.loop
   f17b1_c2)))
 f17b1_c0))))
def f17b1_lay : Lay := ⟨41, [], false⟩
def f17b1_res : List LRes := [.t 4]
def f17b1_L : LFn := ⟨2, f17b1_lay, f17b1_c3, f17b1_res⟩
theorem f17b1_low : lowFn Try.prog [] 17 = some f17b1_L := by kernel_rfl
theorem f17b1_fok : FnOk Try.prog 17 := ⟨_, Try.func17, rfl, rfl⟩
def f17b1_Q {σ : Type} (Hc : σ → AHeap) (a0 : Int) (a1 : List (Int × Ref)) (z0 : σ) (o : (List Int) × σ) : Exit → Env → AHeap → Nat → Prop := FinK f17b1_res (FinTo 3 4 (.isl 1 (o.1.map e_i64) false) ([((0, 0), .one [.map (0, 1)]), ((0, 1), .amap (a1.map (em a_i64 (eR none))))] ++ up 3 (Hc o.2)))

def f17b1_L1_env {σ : Type} (Hc : σ → AHeap) (a0 : Int) (a1 : List (Int × Ref)) (v1 : Int × Int × σ) (s : ((List Int) × Int)) : Env := [(0, .ptr (0, 0) 0 0), (1, .int .i64 a0), (7, .osl (4, 0) 1 (s.1.map e_i64)), (18, .int .i64 (if 0 > v1.2.1 then 0 else v1.2.1)), (19, .int .i64 s.2)]
def f17b1_L1_hp {σ : Type} (Hc : σ → AHeap) (a0 : Int) (a1 : List (Int × Ref)) (v1 : Int × Int × σ) (s : ((List Int) × Int)) : AHeap := ([((0, 0), .one [.map (0, 1)]), ((0, 1), .amap (a1.map (em a_i64 (eR none)))), ((4, 0), .tok)] ++ up 3 (Hc v1.2.2))
def f17b1_L1_Q {σ : Type} (Hc : σ → AHeap) (a0 : Int) (a1 : List (Int × Ref)) (z0 : σ) (o : ((List Int) × σ)) : Exit → Env → AHeap → Nat → Prop := (QBlock 0 (QSeq Try.prog f17b1_lay 3 f17b1_c0 (f17b1_Q Hc a0 a1 z0 o)))

noncomputable def S_progress_Assembler_Missing_17_j3 {σ : Type} (m : Option Nat) (a0 : Int) (a1 : List (Int × Ref)) (v1 : Int × Int × σ) (v4 : Int) (v6 : List Int) : Option (((List Int) × Int) ⊕ ((List Int) × σ)) :=
  some (.inl (v6, (W (v4 + 1))))

theorem f17b1_j3_ok {σ : Type} {Hc : σ → AHeap} (ht : ∀ s, Tl (Hc s)) {z0 : σ} {a0 : Int} {a1 : List (Int × Ref)} {v1 : Int × Int × σ} {v4 : Int} {v6 : List Int} {m : Option Nat} {o : (((List Int) × Int) ⊕ ((List Int) × σ))} (h : S_progress_Assembler_Missing_17_j3 m a0 a1 v1 v4 v6 = some o) :
    LWp Try.prog f17b1_lay 3 f17b1_c1 (BodyQ 3 5 (f17b1_L1_env Hc a0 a1 v1) (f17b1_L1_hp Hc a0 a1 v1) (f17b1_L1_Q Hc a0 a1 z0) o) [(0, .ptr (0, 0) 0 0), (1, .int .i64 a0), (7, .osl (4, 0) 1 (v6.map e_i64)), (18, .int .i64 (if 0 > v1.2.1 then 0 else v1.2.1)), (19, .int .i64 v4)] ([((0, 0), .one [.map (0, 1)]), ((0, 1), .amap (a1.map (em a_i64 (eR none)))), ((4, 0), .tok)] ++ up 3 (Hc v1.2.2)) 5 := by
  unfold S_progress_Assembler_Missing_17_j3 at h
  refine regI ?_
  cases h
  exact And.intro rfl (simT (M := [((4, 0), (4, 0))]) (lit' := [((0, 0), .one [.map (0, 1)]), ((0, 1), .amap (a1.map (em a_i64 (eR none)))), ((4, 0), .tok)]) (ht _) rfl (And.intro (Vw.ptr _ _ _ _ rfl) (And.intro (Vw.same _ rfl) (And.intro (Vw.osl _ _ _ _ rfl) (And.intro (Vw.same _ rfl) (And.intro (Vw.same _ rfl) trivial))))) (And.intro (And.intro rfl (BVw.oneL (And.intro (Vw.map _ _ rfl) trivial))) (And.intro (And.intro rfl (BVw.refmN a_i64_nid a1 rfl (rhoT_1 (chkT_ok (n := 5) (q := 3) (lit' := [((0, 0), .one [.map (0, 1)]), ((0, 1), .amap (a1.map (em a_i64 (eR none)))), ((4, 0), .tok)]) rfl)))) (And.intro (And.intro rfl BVw.tok) trivial))))

noncomputable def S_progress_Assembler_Missing_17_j4 {σ : Type} (m : Option Nat) (a1 : List (Int × Ref)) (v1 : Int × Int × σ) (v3 : List Int) : Option ((List Int) × σ) :=
  some (v3, v1.2.2)

noncomputable def S_progress_Assembler_Missing_17_b1 {σ : Type} (m : Option Nat) (a0 : Int) (a1 : List (Int × Ref)) (v1 : Int × Int × σ) (v3 : List Int) (v4 : Int) : Option (((List Int) × Int) ⊕ ((List Int) × σ)) :=
  if (decide (v4 < (if 0 > v1.2.1 then 0 else v1.2.1))) = true then
    if lk q_i64 a1 a0 = none then
    if (!false) = true then
      if ((v3 ++ ([v4] : List Int)).map e_i64).length * 8 ≤ 140737488355328 then
      S_progress_Assembler_Missing_17_j3 m a0 a1 v1 v4 (v3 ++ ([v4] : List Int))
      else none
    else
      S_progress_Assembler_Missing_17_j3 m a0 a1 v1 v4 v3
    else none
  else
    Option.map Sum.inr (
      S_progress_Assembler_Missing_17_j4 m a1 v1 v3)

noncomputable def S_progress_Assembler_Missing_17_l1 {σ : Type} (m : Option Nat) (a0 : Int) (a1 : List (Int × Ref)) (v1 : Int × Int × σ) (v3 : List Int) (v4 : Int) : Option ((List Int) × σ) := loopM m (fun (s : ((List Int) × Int)) => S_progress_Assembler_Missing_17_b1 m a0 a1 v1 s.1 s.2) (v3, v4)

theorem f17b1_j4_ok {σ : Type} {Hc : σ → AHeap} (ht : ∀ s, Tl (Hc s)) {a0 : Int} {z0 : σ} {a1 : List (Int × Ref)} {v1 : Int × Int × σ} {v3 : List Int} {m : Option Nat} {o : ((List Int) × σ)} (h : S_progress_Assembler_Missing_17_j4 m a1 v1 v3 = some o) :
    LWp Try.prog f17b1_lay 3 f17b1_c0 (f17b1_Q Hc a0 a1 z0 o) [(7, .osl (4, 0) 1 (v3.map e_i64))] ([((0, 0), .one [.map (0, 1)]), ((0, 1), .amap (a1.map (em a_i64 (eR none)))), ((4, 0), .tok)] ++ up 3 (Hc v1.2.2)) 5 := by
  unfold S_progress_Assembler_Missing_17_j4 at h
  refine seqI ?_
  refine regI ?_
  refine retI ?_
  cases h
  exact And.intro trivial (finT (n' := 5) (q := 3) (lit' := [((0, 0), .one [.map (0, 1)]), ((0, 1), .amap (a1.map (em a_i64 (eR none)))), ((4, 0), .tok)]) (ht _) [] [] rfl rfl (Vw.oslI _ _ _) (And.intro (And.intro rfl (BVw.oneL (And.intro (Vw.map _ _ rfl) trivial))) (And.intro (And.intro rfl (BVw.refmN a_i64_nid a1 rfl (rhoT_1 (chkT_ok (n := 4) (q := 3) (lit' := [((0, 0), .one [.map (0, 1)]), ((0, 1), .amap (a1.map (em a_i64 (eR none)))), ((4, 0), .tok)]) rfl)))) trivial)))

theorem f17b1_L1_bok {σ : Type} {Hc : σ → AHeap} (ht : ∀ s, Tl (Hc s)) {z0 : σ} {a0 : Int} {a1 : List (Int × Ref)} {v1 : Int × Int × σ} {v3 : List Int} {v4 : Int} {m : Option Nat} {o : ((List Int) × Int) ⊕ ((List Int) × σ)} (h : S_progress_Assembler_Missing_17_b1 m a0 a1 v1 v3 v4 = some o) :
    LWp Try.prog f17b1_lay 3 f17b1_c2 (BodyQ 3 5 (f17b1_L1_env Hc a0 a1 v1) (f17b1_L1_hp Hc a0 a1 v1) (f17b1_L1_Q Hc a0 a1 z0) o) [(0, .ptr (0, 0) 0 0), (1, .int .i64 a0), (7, .osl (4, 0) 1 (v3.map e_i64)), (18, .int .i64 (if 0 > v1.2.1 then 0 else v1.2.1)), (19, .int .i64 v4)] ([((0, 0), .one [.map (0, 1)]), ((0, 1), .amap (a1.map (em a_i64 (eR none)))), ((4, 0), .tok)] ++ up 3 (Hc v1.2.2)) 5 := by
  unfold S_progress_Assembler_Missing_17_b1 at h
  refine seqI ?_
  refine regI ?_
  refine seqI ?_
  refine condI (v := (decide (v4 < (if 0 > v1.2.1 then 0 else v1.2.1)))) rfl trivial (fun h10 => ?_) (fun h10 => ?_)
  · have h := ite_tt h10 h
    refine skipI ?_
    refine seqI ?_
    refine blockI ?_
    refine seqI ?_
    refine regI ?_
    refine seqI ?_
    refine regI ?_
    obtain ⟨h11, h⟩ := ite_some h
    refine Exists.intro (.val (.map none)) (And.intro (mlookN (ek := a_i64) q_i64_ok rfl h11) (And.intro (mfind_some (ek := a_i64) (ev := eR none) q_i64_ok _ _) ?_))
    refine LWp.sim (e := [(0, .ptr (0, 0) 0 0), (1, .int .i64 a0), (7, .osl (4, 0) 1 (v3.map e_i64)), (8, .int .i64 v4), (10, .bool false), (18, .int .i64 (if 0 > v1.2.1 then 0 else v1.2.1)), (19, .int .i64 v4)]) (L := ([((0, 0), .one [.map (0, 1)]), ((0, 1), .amap (a1.map (em a_i64 (eR none)))), ((4, 0), .tok)] ++ up 3 (Hc v1.2.2))) (n := 5) ?_ ?_
    · exact simT (M := [((4, 0), (4, 0))]) (lit' := [((5, 0), .one [.int .i64 ((G_QChunk.mk 0 0 false []).f_Token), .int .i64 ((G_QChunk.mk 0 0 false []).f_Seq), .bool ((G_QChunk.mk 0 0 false []).f_Last), .isl 1 (((G_QChunk.mk 0 0 false []).f_Items).map e_i64) false]), ((0, 0), .one [.map (0, 1)]), ((0, 1), .amap (a1.map (em a_i64 (eR none)))), ((4, 0), .tok)]) (ht _) rfl (And.intro (Vw.ptr _ _ _ _ rfl) (And.intro (Vw.same _ rfl) (And.intro (Vw.osl _ _ _ _ rfl) (And.intro (Vw.same _ rfl) (And.intro (Vw.same _ rfl) (And.intro (Vw.same _ rfl) (And.intro (Vw.same _ rfl) trivial))))))) (And.intro (And.intro rfl (BVw.oneL (And.intro (Vw.map _ _ rfl) trivial))) (And.intro (And.intro rfl (BVw.refmN a_i64_nid a1 rfl (rhoT_1 (chkT_ok (n := 5) (q := 3) (lit' := [((5, 0), .one [.int .i64 ((G_QChunk.mk 0 0 false []).f_Token), .int .i64 ((G_QChunk.mk 0 0 false []).f_Seq), .bool ((G_QChunk.mk 0 0 false []).f_Last), .isl 1 (((G_QChunk.mk 0 0 false []).f_Items).map e_i64) false]), ((0, 0), .one [.map (0, 1)]), ((0, 1), .amap (a1.map (em a_i64 (eR none)))), ((4, 0), .tok)]) rfl)))) (And.intro (And.intro rfl BVw.tok) trivial)))
    refine seqI ?_
    refine regI ?_
    refine condI (v := (!false)) rfl trivial (fun h12 => ?_) (fun h12 => ?_)
    · have h := ite_tt h12 h
      refine regI ?_
      obtain ⟨h13, h⟩ := ite_some h
      refine Exists.intro ((v3 ++ ([v4] : List Int)).map e_i64) (And.intro (app_enc e_i64 v3 ([v4] : List Int)) (And.intro h13 ?_))
      rw [del_tail (lit2 := [((0, 0), .one [.map (0, 1)]), ((0, 1), .amap (a1.map (em a_i64 (eR none))))]) (ht _) rfl rfl]
      refine LWp.sim ?_ (f17b1_j3_ok ht h)
      exact simT (M := [((4, 0), (5, 0))]) (lit' := [((5, 0), .tok), ((0, 0), .one [.map (0, 1)]), ((0, 1), .amap (a1.map (em a_i64 (eR none))))]) (ht _) rfl (And.intro (Vw.ptr _ _ _ _ rfl) (And.intro (Vw.same _ rfl) (And.intro (Vw.osl _ _ _ _ rfl) (And.intro (Vw.same _ rfl) (And.intro (Vw.same _ rfl) trivial))))) (And.intro (And.intro rfl (BVw.oneL (And.intro (Vw.map _ _ rfl) trivial))) (And.intro (And.intro rfl (BVw.refmN a_i64_nid a1 rfl (rhoT_1 (chkT_ok (n := 5) (q := 3) (lit' := [((5, 0), .tok), ((0, 0), .one [.map (0, 1)]), ((0, 1), .amap (a1.map (em a_i64 (eR none))))]) rfl)))) (And.intro (And.intro rfl BVw.tok) trivial)))
    · have h := ite_ff h12 h
      refine skipI ?_
      refine LWp.sim ?_ (f17b1_j3_ok ht h)
      exact simT (M := [((4, 0), (4, 0))]) (lit' := [((0, 0), .one [.map (0, 1)]), ((0, 1), .amap (a1.map (em a_i64 (eR none)))), ((4, 0), .tok)]) (ht _) rfl (And.intro (Vw.ptr _ _ _ _ rfl) (And.intro (Vw.same _ rfl) (And.intro (Vw.osl _ _ _ _ rfl) (And.intro (Vw.same _ rfl) (And.intro (Vw.same _ rfl) trivial))))) (And.intro (And.intro rfl (BVw.oneL (And.intro (Vw.map _ _ rfl) trivial))) (And.intro (And.intro rfl (BVw.refmN a_i64_nid a1 rfl (rhoT_1 (chkT_ok (n := 5) (q := 3) (lit' := [((0, 0), .one [.map (0, 1)]), ((0, 1), .amap (a1.map (em a_i64 (eR none)))), ((4, 0), .tok)]) rfl)))) (And.intro (And.intro rfl BVw.tok) trivial)))
  · have h := ite_ff h10 h
    refine exitI ?_
    obtain ⟨o, hq, rfl⟩ := Option.map_eq_some_iff.1 h
    replace h := hq; clear hq
    refine And.intro nofun ?_
    refine LWp.sim ?_ (f17b1_j4_ok ht h)
    exact simT (M := [((4, 0), (4, 0))]) (lit' := [((0, 0), .one [.map (0, 1)]), ((0, 1), .amap (a1.map (em a_i64 (eR none)))), ((4, 0), .tok)]) (ht _) rfl (And.intro (Vw.osl _ _ _ _ rfl) trivial) (And.intro (And.intro rfl (BVw.oneL (And.intro (Vw.map _ _ rfl) trivial))) (And.intro (And.intro rfl (BVw.refmN a_i64_nid a1 rfl (rhoT_1 (chkT_ok (n := 5) (q := 3) (lit' := [((0, 0), .one [.map (0, 1)]), ((0, 1), .amap (a1.map (em a_i64 (eR none)))), ((4, 0), .tok)]) rfl)))) (And.intro (And.intro rfl BVw.tok) trivial)))

theorem f17b1_L1_ok {σ : Type} {Hc : σ → AHeap} (ht : ∀ s, Tl (Hc s)) {z0 : σ} {a0 : Int} {a1 : List (Int × Ref)} {v1 : Int × Int × σ} {v3 : List Int} {v4 : Int} {m : Option Nat} {o : ((List Int) × σ)} (h : S_progress_Assembler_Missing_17_l1 m a0 a1 v1 v3 v4 = some o) :
    LWp Try.prog f17b1_lay 3 (.loop f17b1_c2) (QBlock 0 (QSeq Try.prog f17b1_lay 3 f17b1_c0 (f17b1_Q Hc a0 a1 z0 o))) [(0, .ptr (0, 0) 0 0), (1, .int .i64 a0), (7, .osl (4, 0) 1 (v3.map e_i64)), (18, .int .i64 (if 0 > v1.2.1 then 0 else v1.2.1)), (19, .int .i64 v4)] ([((0, 0), .one [.map (0, 1)]), ((0, 1), .amap (a1.map (em a_i64 (eR none)))), ((4, 0), .tok)] ++ up 3 (Hc v1.2.2)) 5 :=
  LWp_loopM (m := m) (s := ((v3, v4) : ((List Int) × Int))) (r := o) (fun (s : ((List Int) × Int)) => S_progress_Assembler_Missing_17_b1 m a0 a1 v1 s.1 s.2) (f17b1_L1_env Hc a0 a1 v1) (f17b1_L1_hp Hc a0 a1 v1) (f17b1_L1_Q Hc a0 a1 z0) (fun s o h => f17b1_L1_bok ht h) h

noncomputable def S_progress_Assembler_Missing_17 {σ : Type} (m : Option Nat) (a0 : Int) (a1 : List (Int × Ref)) (z0 : σ) : Option ((List Int) × σ) :=
  (S_progress_Assembler_bounds_23 m a0 a1 z0).bind fun v1 =>
  S_progress_Assembler_Missing_17_l1 m a0 a1 v1 [] 0

theorem f17b1_start {σ : Type} {Hc : σ → AHeap} (ht : ∀ s, Tl (Hc s)) {a0 : Int} {a1 : List (Int × Ref)} {z0 : σ} {m : Option Nat} {o : (List Int) × σ} (h : S_progress_Assembler_Missing_17 m a0 a1 z0 = some o) : LWp Try.prog f17b1_lay 3 f17b1_c3 (f17b1_Q Hc a0 a1 z0 o) (initEnv 0 [.ptr (0, 0) 0 0, .int .i64 a0]) ([((0, 0), .one [.map (0, 1)]), ((0, 1), .amap (a1.map (em a_i64 (eR none))))] ++ Hc z0) 3 := by
  unfold S_progress_Assembler_Missing_17 at h
  refine LWp.sim (e := [(0, .ptr (0, 0) 0 0), (1, .int .i64 a0)]) (L := ([((0, 0), .one [.map (0, 1)]), ((0, 1), .amap (a1.map (em a_i64 (eR none))))] ++ up 3 (Hc z0))) (n := 4) (entryT (T := Hc z0) (e' := initEnv 0 [.ptr (0, 0) 0 0, .int .i64 a0]) (e := [(0, .ptr (0, 0) 0 0), (1, .int .i64 a0)]) (lit' := [((0, 0), .one [.map (0, 1)]), ((0, 1), .amap (a1.map (em a_i64 (eR none))))]) (lit := [((0, 0), .one [.map (0, 1)]), ((0, 1), .amap (a1.map (em a_i64 (eR none))))]) (ht z0) rfl rfl (And.intro (Vw.ptr _ _ _ _ rfl) (And.intro (Vw.same _ rfl) trivial)) (And.intro (And.intro rfl (BVw.oneL (And.intro (Vw.map _ _ rfl) trivial))) (And.intro (And.intro rfl (BVw.refmN a_i64_nid a1 rfl (rhoE_1 _))) trivial))) ?_
  refine seqI ?_
  refine regI ?_
  refine seqI ?_
  refine regI ?_
  obtain ⟨v1, h1, h⟩ := bind_some h
  refine bcallT (m := 1) (q := 3) (lit0 := [((0, 0), .one [.map (0, 1)]), ((0, 1), .amap (a1.map (em a_i64 (eR none))))]) (lit := [((0, 0), .one [.map (0, 1)]), ((0, 1), .amap (a1.map (em a_i64 (eR none))))]) (L := [((0, 0), .one [.map (0, 1)]), ((0, 1), .amap (a1.map (em a_i64 (eR none))))]) (L' := [((0, 0), .one [.map (0, 1)]), ((0, 1), .amap (a1.map (em a_i64 (eR none))))]) (rest := []) (R' := .tup [.int .i64 v1.1, .int .i64 v1.2.1]) (ht _) (ht _) [((0, 0), (0, 0)), ((0, 1), (0, 1))] (f23b1_ok ht h1) rfl rfl rfl rfl rfl rfl (And.intro (Vw.ptr _ _ _ _ rfl) (And.intro (Vw.same _ rfl) trivial)) (And.intro (h0I (0, 0) rfl rfl (BVw.oneL (And.intro (Vw.map _ _ rfl) trivial))) (And.intro (h0I (0, 1) rfl rfl (BVw.refmN a_i64_nid a1 rfl (lookT_1 _ _))) trivial)) (nid_ren _ rfl) (And.intro rfl (And.intro rfl (And.intro rfl (And.intro (refm_ren a_i64_nid (fun _ => rfl) rfl _) trivial)))) rfl ?_
  refine LWp.sim (e := [(0, .ptr (0, 0) 0 0), (1, .int .i64 a0), (6, .int .i64 v1.2.1)]) (L := ([((0, 0), .one [.map (0, 1)]), ((0, 1), .amap (a1.map (em a_i64 (eR none))))] ++ up 3 (Hc v1.2.2))) (n := 4) ?_ ?_
  · exact simT (M := []) (lit' := [((0, 0), .one [.map (0, 1)]), ((0, 1), .amap (a1.map (em a_i64 (eR none))))]) (ht _) rfl (And.intro (Vw.ptr _ _ _ _ rfl) (And.intro (Vw.same _ rfl) (And.intro (Vw.same _ rfl) trivial))) (And.intro (And.intro rfl (BVw.oneL (And.intro (Vw.map _ _ rfl) trivial))) (And.intro (And.intro rfl (BVw.refmN a_i64_nid a1 rfl (rhoT_1 (chkT_ok (n := 4) (q := 4) (lit' := [((0, 0), .one [.map (0, 1)]), ((0, 1), .amap (a1.map (em a_i64 (eR none))))]) rfl)))) trivial))
  refine seqI ?_
  refine regI ?_
  refine seqI ?_
  refine seqI ?_
  refine regI ?_
  refine blockI ?_
  refine LWp.sim ?_ (f17b1_L1_ok ht h)
  exact simT (M := []) (lit' := [((0, 0), .one [.map (0, 1)]), ((0, 1), .amap (a1.map (em a_i64 (eR none))))]) (ht _) rfl (And.intro (Vw.ptr _ _ _ _ rfl) (And.intro (Vw.same _ rfl) (And.intro (Vw.nilO _ _ (by decide)) (And.intro (Vw.same _ rfl) (And.intro (Vw.same _ rfl) trivial))))) (And.intro (And.intro rfl (BVw.oneL (And.intro (Vw.map _ _ rfl) trivial))) (And.intro (And.intro rfl (BVw.refmN a_i64_nid a1 rfl (rhoT_1 (chkT_ok (n := 5) (q := 3) (lit' := [((0, 0), .one [.map (0, 1)]), ((0, 1), .amap (a1.map (em a_i64 (eR none))))]) rfl)))) (And.intro (And.intro rfl (And.intro (by decide) (by decide))) trivial)))

theorem f17b1_ok {σ : Type} {Hc : σ → AHeap} (ht : ∀ s, Tl (Hc s)) {a0 : Int} {a1 : List (Int × Ref)} {z0 : σ} {m : Option Nat} {o : (List Int) × σ} (h : S_progress_Assembler_Missing_17 m a0 a1 z0 = some o) : ACalls Try.prog 17 [.ptr (0, 0) 0 0, .int .i64 a0] ([((0, 0), .one [.map (0, 1)]), ((0, 1), .amap (a1.map (em a_i64 (eR none))))] ++ Hc z0) 3 (Gives 4 (.isl 1 (o.1.map e_i64) false) ([((0, 0), .one [.map (0, 1)]), ((0, 1), .amap (a1.map (em a_i64 (eR none))))] ++ up 3 (Hc o.2))) := bfn_of (L := f17b1_L) f17b1_low f17b1_fok (Nat.le_of_ble_eq_true rfl) (f17b1_start ht h)

def bA (x : List (Int × G_QChunk)) : ABlock := .amap (x.map (em a_i64 a_QChunk))
abbrev SAsm := List (Int × List (Int × G_QChunk))
def hcA (s : SAsm) : AHeap := objO a_i64 bA s
theorem bA_ren (x : List (Int × G_QChunk)) (g : Fx.Id → Fx.Id) : (bA x).ren g = bA x := map_ren a_i64 a_QChunk a_i64_nid a_QChunk_nid x
theorem bA_inP (x : List (Int × G_QChunk)) (p : Fx.Id → Bool) : (bA x).inP p = true := map_inP a_i64 a_QChunk a_i64_nid a_QChunk_nid x
theorem tlA (s : SAsm) : Tl (hcA s) := tl_obj a_i64_nid bA_inP s
theorem othA_up (i : Nat) (s : SAsm) (q : Nat) : up q (oth bA i s) = oth bA i s := up_one fun x hx => by
  have hg := get_of_mem (tl_oth bA_inP i s).nd hx
  obtain ⟨h1, _, p, _, h2⟩ := oth_get hg
  exact ⟨h1, fun g => by rw [h2, bA_ren]⟩
theorem famA_up (s : SAsm) (q : Nat) : up q (famO 1 bA s) = famO 1 bA s := up_one fun x hx => by
  obtain ⟨j, p, _, rfl⟩ := famO_mem hx
  exact ⟨rfl, fun g => bA_ren _ _⟩
theorem tl_famA (s : SAsm) : Tl (famO 1 bA s) := ⟨fun x hx => by obtain ⟨j, p, _, rfl⟩ := famO_mem hx; rfl, fun x hx => by obtain ⟨j, p, _, rfl⟩ := famO_mem hx; exact bA_inP _ _, famO_nd⟩
def ixA (k : Int) (s : SAsm) : Nat := s.findIdx fun p => q_i64 k p.1
noncomputable def gAdd (m : Option Nat) (s : SAsm) (c : G_QChunk) : Option ((Bool × Int) × SAsm) :=
  match s[ixA c.f_Token s]? with
  | some p => (S_progress_Assembler_Add m c (refs (ixA c.f_Token s) s) p.2 ()).map fun o => ((o.1, o.2.1), s.set (ixA c.f_Token s) (p.1, o.2.2.1))
  | none => match S_progress_Assembler_Add_13 m c (refsN s) () with
    | some (.inl o) => some ((o.1, o.2.1), s)
    | some (.inr o) => if o.2.2.1 = refsN s ++ [(c.f_Token, Ref.foc)] then some ((o.1, o.2.1), s ++ [(c.f_Token, o.2.2.2.1)]) else none
    | none => none
noncomputable def gResult (m : Option Nat) (s : SAsm) (k : Int) : Option (List Int × Bool) :=
  match s[ixA k s]? with
  | some p => (S_progress_Assembler_Result m k (refs (ixA k s) s) p.2 ()).map fun o => (o.1, o.2.1)
  | none => (S_progress_Assembler_Result_15 m k (refsN s) ()).map fun o => (o.1, o.2.1)
noncomputable def gMissing (m : Option Nat) (s : SAsm) (k : Int) : Option (List Int) :=
  match s[ixA k s]? with
  | some p => (S_progress_Assembler_Missing m k (refs (ixA k s) s) p.2 ()).map fun o => o.1
  | none => (S_progress_Assembler_Missing_17 m k (refsN s) ()).map fun o => o.1
noncomputable def gResultS (m : Option Nat) (s : SAsm) (x : Int) : Option ((List Int × Bool) × SAsm) := (gResult m s x).map fun o => (o, s)
theorem setSame {s : SAsm} {i : Nat} {p : Int × List (Int × G_QChunk)} (h : s[i]? = some p) : s.set i (p.1, p.2) = s := by
  refine List.ext_getElem? fun j => ?_
  rw [List.getElem?_set]
  split
  · rename_i e
    subst e
    rw [h]
    split
    · rfl
    · rename_i hl
      rw [List.getElem?_eq_none (by omega)] at h
      cases h
  · rfl
theorem cloAdd (m : Option Nat) : Clo Try.prog (.func 13) [.ptr (1, 0) 0 0] [] hcA (fun (x : G_QChunk) => [.agg [.int .i64 x.f_Token, .int .i64 x.f_Seq, .bool x.f_Last, .isl 1 (x.f_Items.map e_i64) false]]) (fun (b : Bool × Int) => .tup [.bool b.1, .int .i64 b.2]) (gAdd m) := by
  refine ⟨tlA, rfl, rfl, fun _ => rfl, .inl ⟨_, rfl⟩, fun s x o h => ?_⟩
  unfold gAdd at h
  split at h
  · rename_i p hp
    obtain ⟨o1, h1, rfl⟩ := Option.map_eq_some_iff.1 h
    have := f13b0_ok (Hc := fun _ : Unit => oth bA (ixA x.f_Token s) s) (fun _ => tl_oth bA_inP _ s) h1
    rw [othA_up] at this
    exact ob_up a_i64_nid bA_ren bA_inP rfl (ob_present a_i64_nid bA_ren bA_inP rfl hp rfl this)
  · split at h
    · rename_i o1 h1
      simp only [Option.some.injEq] at h
      subst h
      have := f13b1_ok0 (Hc := fun _ : Unit => famO 1 bA s) (fun _ => tl_famA s) h1
      rw [famA_up] at this
      exact ob_up a_i64_nid bA_ren bA_inP rfl (ob_absent a_i64_nid bA_ren bA_inP rfl rfl this)
    · rename_i o1 h1
      split at h
      · rename_i he
        simp only [Option.some.injEq] at h
        subst h
        have := f13b1_ok1 (Hc := fun _ : Unit => famO 1 bA s) (fun _ => tl_famA s) h1
        rw [famA_up, he] at this
        exact ob_new a_i64_nid bA_ren bA_inP rfl rfl this
      · cases h
    · cases h
theorem cloResult (m : Option Nat) : Clo Try.prog (.func 15) [.ptr (1, 0) 0 0] [] hcA (fun (x : Int) => [.int .i64 x]) (fun (b : List Int × Bool) => .tup [.isl 1 (b.1.map e_i64) false, .bool b.2]) (gResultS m) := by
  refine ⟨tlA, rfl, rfl, fun _ => rfl, .inl ⟨_, rfl⟩, fun s x o h => ?_⟩
  unfold gResultS at h
  obtain ⟨o2, h2, rfl⟩ := Option.map_eq_some_iff.1 h
  unfold gResult at h2
  split at h2
  · rename_i p hp
    obtain ⟨o1, h1, rfl⟩ := Option.map_eq_some_iff.1 h2
    have := f15b0_ok (Hc := fun _ : Unit => oth bA (ixA x s) s) (fun _ => tl_oth bA_inP _ s) h1
    rw [othA_up] at this
    have := ob_present a_i64_nid bA_ren bA_inP rfl hp rfl this
    rw [setSame hp] at this
    exact ob_up a_i64_nid bA_ren bA_inP rfl this
  · obtain ⟨o1, h1, rfl⟩ := Option.map_eq_some_iff.1 h2
    have := f15b1_ok (Hc := fun _ : Unit => famO 1 bA s) (fun _ => tl_famA s) h1
    rw [famA_up] at this
    exact ob_up a_i64_nid bA_ren bA_inP rfl (ob_absent a_i64_nid bA_ren bA_inP rfl rfl this)
theorem rdMissing (m : Option Nat) : Rdo Try.prog 17 (.ptr (1, 0) 0 0) hcA (fun (x : Int) => [.int .i64 x]) (fun (b : List Int) => .isl 1 (b.map e_i64) false) (gMissing m) := by
  refine ⟨tlA, rfl, fun _ => rfl, fun s x o h => ?_⟩
  unfold gMissing at h
  split at h
  · rename_i p hp
    obtain ⟨o1, h1, rfl⟩ := Option.map_eq_some_iff.1 h
    have := f17b0_ok (Hc := fun _ : Unit => oth bA (ixA x s) s) (fun _ => tl_oth bA_inP _ s) h1
    rw [othA_up] at this
    have := ob_present a_i64_nid bA_ren bA_inP rfl hp rfl this
    rw [setSame hp] at this
    exact this
  · obtain ⟨o1, h1, rfl⟩ := Option.map_eq_some_iff.1 h
    have := f17b1_ok (Hc := fun _ : Unit => famO 1 bA s) (fun _ => tl_famA s) h1
    rw [famA_up] at this
    exact ob_absent a_i64_nid bA_ren bA_inP rfl rfl this

def f19b0_c0 : LCode := (.seq (.region [⟨some 8, .mkfn (.func 26) [] [(.t 2), (.t 3)], none⟩,
   ⟨some 4, .mv (.t 8), none⟩])
 .ret)
def f19b0_c1 : LCode := (.seq (.region [⟨some 2, .box (.t 0), none⟩,
   ⟨some 3, .box (.t 1), none⟩,
   ⟨some 4, .mv (.c (.val .nilFunc)), none⟩])
 (.seq (.seq (.region [⟨some 5, .load false 1 (.t 3), none⟩,
   ⟨some 6, .bin .lss (.t 5) (.c (.int .i64 1)), none⟩])
 (.cond (.t 6)
  (.region [⟨some 7, .bad, none⟩,
    ⟨none, .bad, none⟩])
  .skip))
 f19b0_c0))
def f19b0_lay : Lay := ⟨9, [], false⟩
def f19b0_res : List LRes := [.t 4]
def f19b0_L : LFn := ⟨2, f19b0_lay, f19b0_c1, f19b0_res⟩
theorem f19b0_low : lowFn Try.prog [] 19 = some f19b0_L := by kernel_rfl
theorem f19b0_fok : FnOk Try.prog 19 := ⟨_, Try.func19, rfl, rfl⟩
noncomputable def S_slices_Chunk_int_j1 (m : Option Nat) (a0 : List Int) (a1 : Int) : Option Unit :=
  some ()

def f19b0_Q (a0 : List Int) (a1 : Int) (o : Unit) : Exit → Env → AHeap → Nat → Prop := FinK f19b0_res (FinTo 3 5 (.fn (.func 26) [] [.ptr (3, 0) 0 0, .ptr (4, 0) 0 0]) [((3, 0), .one [.isl 1 (a0.map e_i64) false]), ((4, 0), .one [.int .i64 a1])])

theorem f19b0_j1_ok {a0 : List Int} {a1 : Int} {m : Option Nat} {o : Unit} (h : S_slices_Chunk_int_j1 m a0 a1 = some o) :
    LWp Try.prog f19b0_lay 3 f19b0_c0 (f19b0_Q a0 a1 o) [(2, .ptr (3, 0) 0 0), (3, .ptr (4, 0) 0 0)] [((3, 0), .one [.isl 1 (a0.map e_i64) false]), ((4, 0), .one [.int .i64 a1])] 5 := by
  unfold S_slices_Chunk_int_j1 at h
  refine seqI ?_
  refine regI ?_
  refine retI ?_
  cases h
  exact And.intro trivial (finI (n' := 5) [((3, 0), (3, 0)), ((4, 0), (4, 0))] [] rfl rfl (Vw.fnL trivial (And.intro (Vw.ptr _ _ _ _ rfl) (And.intro (Vw.ptr _ _ _ _ rfl) trivial))) (And.intro (And.intro rfl (BVw.oneL (And.intro (Vw.same _ rfl) trivial))) (And.intro (And.intro rfl (BVw.oneL (And.intro (Vw.same _ rfl) trivial))) trivial)))

noncomputable def S_slices_Chunk_int (m : Option Nat) (a0 : List Int) (a1 : Int) : Option Unit :=
  if (decide (a1 < 1)) = true then
    none
  else
    S_slices_Chunk_int_j1 m a0 a1

theorem f19b0_start {a0 : List Int} {a1 : Int} {m : Option Nat} {o : Unit} (h : S_slices_Chunk_int m a0 a1 = some o) : LWp Try.prog f19b0_lay 3 f19b0_c1 (f19b0_Q a0 a1 o) (initEnv 0 [.isl 1 (a0.map e_i64) false, .int .i64 a1]) [] 3 := by
  unfold S_slices_Chunk_int at h
  refine seqI ?_
  refine regI ?_
  refine seqI ?_
  refine seqI ?_
  refine regI ?_
  refine condI (v := (decide (a1 < 1))) rfl trivial (fun h1 => ?_) (fun h1 => ?_)
  · have h := ite_tt h1 h
    cases h
  · have h := ite_ff h1 h
    refine skipI ?_
    refine LWp.sim ?_ (f19b0_j1_ok h)
    exact simI (M := [((3, 0), (3, 0)), ((4, 0), (4, 0))]) rfl (And.intro (Vw.ptr _ _ _ _ rfl) (And.intro (Vw.ptr _ _ _ _ rfl) trivial)) (And.intro (And.intro rfl (BVw.oneL (And.intro (Vw.same _ rfl) trivial))) (And.intro (And.intro rfl (BVw.oneL (And.intro (Vw.same _ rfl) trivial))) trivial))

theorem f19b0_ok {a0 : List Int} {a1 : Int} {m : Option Nat} {o : Unit} (h : S_slices_Chunk_int m a0 a1 = some o) : ACalls Try.prog 19 [.isl 1 (a0.map e_i64) false, .int .i64 a1] [] 3 (Gives 5 (.fn (.func 26) [] [.ptr (3, 0) 0 0, .ptr (4, 0) 0 0]) [((3, 0), .one [.isl 1 (a0.map e_i64) false]), ((4, 0), .one [.int .i64 a1])]) := bfn_of (L := f19b0_L) f19b0_low f19b0_fok (Nat.le_of_ble_eq_true rfl) (f19b0_start h)

def f1000000c0_c0 : LCode := (.region [⟨some 9, .mv (.t 31), none⟩])
def f1000000c0_c1 : LCode := (.block 2
  (.draw [⟨⟨some 32, .load false 1 (.t 8), none⟩, []⟩,
    ⟨⟨some 33, .load false 1 (.t 3), none⟩, []⟩,
    ⟨⟨some 34, .load false 1 (.t 8), none⟩, []⟩,
    ⟨⟨some 35, .len false (.t 34), none⟩, []⟩,
    ⟨⟨some 36, .mv (.t 9), none⟩, []⟩,
    ⟨⟨some 37, .call 20 [(.t 36)], none⟩, [0, 1, 2]⟩,
    ⟨⟨some 38, .build [(.int .i64 0), (.int .i64 0), (.bool false), (.isl 1 [] true)] [(0, 1, (.t 33)), (1, 1, (.t 35)), (3, 1, (.t 37))], none⟩, []⟩,
    ⟨⟨some 39, .mkSl true 4 [(.int .i64 0), (.int .i64 0), (.bool false), (.isl 1 [] true)] 1 [(0, (.t 38))], none⟩, []⟩,
    ⟨⟨some 40, .app false 4 48 (.t 32) (.t 39), none⟩, []⟩,
    ⟨⟨none, .store 1 (.t 8) (.t 40), none⟩, []⟩]))
def f1000000c0_lay : Lay := ⟨48, [40], true⟩
def f1000000c0_lay0 : Lay := ⟨48, [40], false⟩
noncomputable def S_progress_Split_roundc (m : Option Nat) (a0 : Int) (a1 : List G_QChunk) (a2 : List Int) : Option (Bool × (List G_QChunk)) :=
  (S_slices_Clone_intE m a2).bind fun v1 =>
  if ((a1 ++ ([(G_QChunk.mk a0 ((a1.length : Nat) : Int) false v1)] : List G_QChunk)).map e_QChunk).length * 48 ≤ 140737488355328 then
  some (true, (a1 ++ ([(G_QChunk.mk a0 ((a1.length : Nat) : Int) false v1)] : List G_QChunk)))
  else none

def f1000000c0_Q (l : Nat) (r : Loop) (a0 : Int) (a1 : List G_QChunk) (a2 : List Int) (o : Bool × (List G_QChunk)) : Exit → Env → AHeap → Nat → Prop := QRnd (1, 2) l r (FinTo 3 4 (.bool o.1) [((1, 0), .one [.int .i64 a0]), ((1, 1), .one [.msl (3, 0) 4 0 o.2.length false]), ((1, 2), .lrec l r [(3, .ptr (1, 0) 0 0), (8, .ptr (1, 1) 0 0)]), ((3, 0), .rows 4 (o.2.map e_QChunk))])

theorem f1000000c0_start {l : Nat} {r : Loop} {a0 : Int} {a1 : List G_QChunk} {a2 : List Int} {m : Option Nat} {o : Bool × (List G_QChunk)} (h : S_progress_Split_roundc m a0 a1 a2 = some o) : LWp Try.prog f1000000c0_lay 3 f1000000c0_c0 (QAsg (1, 2) l r Try.prog f1000000c0_lay0 3 f1000000c0_c1 (f1000000c0_Q l r a0 a1 a2 o)) (putPs [(3, .ptr (1, 0) 0 0), (8, .ptr (1, 1) 0 0)] [31] [.isl 1 (a2.map e_i64) false]) [((1, 0), .one [.int .i64 a0]), ((1, 1), .one [.msl (2, 0) 4 0 a1.length false]), ((1, 2), .lrec l r [(3, .ptr (1, 0) 0 0), (8, .ptr (1, 1) 0 0)]), ((2, 0), .rows 4 (a1.map e_QChunk))] 3 := by
  unfold S_progress_Split_roundc at h
  refine regI ?_
  refine And.intro rfl (Exists.intro _ (And.intro rfl ?_))
  refine LWp.sim (e := [(3, .ptr (1, 0) 0 0), (8, .ptr (1, 1) 0 0), (9, .isl 1 (a2.map e_i64) false)]) (L := [((1, 0), .one [.int .i64 a0]), ((1, 1), .one [.msl (3, 0) 4 0 a1.length false]), ((1, 2), .lrec l (busy r) [(3, .ptr (1, 0) 0 0), (8, .ptr (1, 1) 0 0)]), ((3, 0), .rows 4 (a1.map e_QChunk))]) (n := 4) ?_ ?_
  · exact simI (M := [((3, 0), (2, 0))]) rfl (And.intro (Vw.ptr _ _ _ _ rfl) (And.intro (Vw.ptr _ _ _ _ rfl) (And.intro (Vw.same _ rfl) trivial))) (And.intro (And.intro rfl (BVw.oneL (And.intro (Vw.same _ rfl) trivial))) (And.intro (And.intro rfl (BVw.oneL (And.intro (Vw.mslE rfl (by first | rfl | omega | (simp; done) | (simp only [List.length_map, List.length_replicate, Int.toNat_natCast] at *; omega)) rfl) trivial))) (And.intro (And.intro rfl (BVw.lrecL (And.intro (And.intro rfl (Vw.ptr _ _ _ _ rfl)) (And.intro (And.intro rfl (Vw.ptr _ _ _ _ rfl)) trivial)))) (And.intro (And.intro rfl (BVw.enc e_QChunk (fun _ => rfl) _ a1)) trivial))))
  refine blockI ?_
  refine drawI ?_
  obtain ⟨v1, h1, h⟩ := bind_some h
  refine PFn.call (f20_okE h1) (And.intro (Vw.same _ rfl) trivial) ?_
  refine And.intro rfl ?_
  refine And.intro rfl ?_
  refine And.intro rfl ?_
  obtain ⟨h2, h⟩ := ite_some h
  refine And.intro (fun h => Bool.noConfusion h) (And.intro (lenW e_QChunk (by first | rfl | omega | (simp; done) | (simp only [List.length_map, List.length_replicate, Int.toNat_natCast] at *; omega))) (Exists.intro ((a1 ++ ([(G_QChunk.mk a0 ((a1.length : Nat) : Int) false v1)] : List G_QChunk)).map e_QChunk) (And.intro (appW e_QChunk a1 ([(G_QChunk.mk a0 ((a1.length : Nat) : Int) false v1)] : List G_QChunk) (by first | rfl | omega | (simp; done) | (simp only [List.length_map, List.length_replicate, Int.toNat_natCast] at *; omega))) (And.intro h2 ?_))))
  cases h
  exact And.intro rfl (Exists.intro _ (And.intro rfl (finI (n' := 5) [((3, 0), (4, 0))] [] rfl rfl (Vw.same _ rfl) (And.intro (And.intro rfl (BVw.oneL (And.intro (Vw.same _ rfl) trivial))) (And.intro (And.intro rfl (BVw.oneL (And.intro (Vw.mslE rfl (by first | rfl | omega | (simp; done) | (simp only [List.length_map, List.length_replicate, Int.toNat_natCast] at *; omega)) rfl) trivial))) (And.intro (And.intro rfl (BVw.lrecL (And.intro (And.intro rfl (Vw.ptr _ _ _ _ rfl)) (And.intro (And.intro rfl (Vw.ptr _ _ _ _ rfl)) trivial)))) (And.intro (And.intro rfl (BVw.enc e_QChunk (fun _ => rfl) _ (a1 ++ ([(G_QChunk.mk a0 ((a1.length : Nat) : Int) false v1)] : List G_QChunk)))) trivial)))))))

theorem f1000000c0_ok {l : Nat} {r : Loop} {a0 : Int} {a1 : List G_QChunk} {a2 : List Int} {m : Option Nat} {o : Bool × (List G_QChunk)} (hr : RecOf Try.prog f1000000c0_lay0 [31] f1000000c0_c0 f1000000c0_c1 r) (h : S_progress_Split_roundc m a0 a1 a2 = some o) : ACalls Try.prog (.yield l) [.isl 1 (a2.map e_i64) false] [((1, 0), .one [.int .i64 a0]), ((1, 1), .one [.msl (2, 0) 4 0 a1.length false]), ((1, 2), .lrec l r [(3, .ptr (1, 0) 0 0), (8, .ptr (1, 1) 0 0)]), ((2, 0), .rows 4 (a1.map e_QChunk))] 3 (Gives 4 (.bool o.1) [((1, 0), .one [.int .i64 a0]), ((1, 1), .one [.msl (3, 0) 4 0 o.2.length false]), ((1, 2), .lrec l r [(3, .ptr (1, 0) 0 0), (8, .ptr (1, 1) 0 0)]), ((3, 0), .rows 4 (o.2.map e_QChunk))]) := ACalls.fin (yields_of (k := (1, 2)) hr rfl rfl rfl (f1000000c0_start h))

def f26b0_c0 : LCode := (.seq (.seq (.region [⟨some 6, .mv (.t 4), none⟩,
   ⟨some 7, .load false 1 (.t 1), none⟩,
   ⟨some 8, .len false (.t 7), none⟩,
   ⟨some 9, .bin .lss (.t 6) (.t 8), none⟩])
 (.cond (.t 9)
  .skip
  (.exit 0)))
 (.seq (.block 1
  (.seq (.quiet [⟨some 13, .load false 1 (.t 2), none⟩,
    ⟨some 14, .load false 1 (.t 1), none⟩,
    ⟨some 15, .mv (.t 4), none⟩,
    ⟨some 16, .slSl 1 (.t 14) (some (.t 15)) none none, none⟩,
    ⟨some 17, .len false (.t 16), none⟩,
    ⟨some 18, .mnx false [(.t 13), (.t 17)], none⟩,
    ⟨some 5, .mv (.t 18), none⟩])
  (.seq (.region [⟨some 19, .mv (.t 0), none⟩,
    ⟨some 20, .load false 1 (.t 1), none⟩,
    ⟨some 21, .mv (.t 4), none⟩,
    ⟨some 22, .mv (.t 4), none⟩,
    ⟨some 23, .mv (.t 5), none⟩,
    ⟨some 24, .bin .add (.t 22) (.t 23), none⟩,
    ⟨some 25, .mv (.t 4), none⟩,
    ⟨some 26, .mv (.t 5), none⟩,
    ⟨some 27, .bin .add (.t 25) (.t 26), none⟩,
    ⟨some 28, .slSl 1 (.t 20) (some (.t 21)) (some (.t 24)) (some (.t 27)), none⟩,
    ⟨some 29, .callv (.t 19) [(.t 28)], none⟩,
    ⟨some 30, .un .not (.t 29), none⟩])
  (.cond (.t 30)
   .ret
   .skip))))
 (.region [⟨some 10, .mv (.t 4), none⟩,
   ⟨some 11, .load false 1 (.t 2), none⟩,
   ⟨some 12, .bin .add (.t 10) (.t 11), none⟩,
   ⟨some 4, .mv (.t 12), none⟩])))
def f26b0_c1 : LCode := (.seq (.region [⟨some 4, .mv (.c (.int .i64 0)), none⟩])
 (.block 0
  (.loop
   f26b0_c0)))
def f26b0_lay : Lay := ⟨31, [], false⟩
def f26b0_res : List LRes := []
def f26b0_L : LFn := ⟨3, f26b0_lay, f26b0_c1, f26b0_res⟩
theorem f26b0_low : lowFn Try.prog [] 26 = some f26b0_L := by kernel_rfl
theorem f26b0_fok : FnOk Try.prog 26 := ⟨_, Try.func26, rfl, rfl⟩
def f26b0_Q {σ : Type} (Hc : σ → AHeap) (fi0 : Fn) (ff0 fc0 : List AVal) (a0 : List Int) (a1 : Int) (z0 : σ) (o : σ) : Exit → Env → AHeap → Nat → Prop := FinK f26b0_res (FinTo 3 4 (.tup []) ([((0, 0), .one [.isl 1 (a0.map e_i64) false]), ((0, 1), .one [.int .i64 a1])] ++ up 3 (Hc o)))

def f26b0_L1_env {σ : Type} (Hc : σ → AHeap) (fi0 : Fn) (ff0 fc0 : List AVal) (a0 : List Int) (a1 : Int) (s : (Int × σ)) : Env := [(0, .fn fi0 ff0 fc0), (1, .ptr (0, 0) 0 0), (2, .ptr (0, 1) 0 0), (4, .int .i64 s.1)]
def f26b0_L1_hp {σ : Type} (Hc : σ → AHeap) (fi0 : Fn) (ff0 fc0 : List AVal) (a0 : List Int) (a1 : Int) (s : (Int × σ)) : AHeap := ([((0, 0), .one [.isl 1 (a0.map e_i64) false]), ((0, 1), .one [.int .i64 a1])] ++ up 3 (Hc s.2))
def f26b0_L1_Q {σ : Type} (Hc : σ → AHeap) (fi0 : Fn) (ff0 fc0 : List AVal) (a0 : List Int) (a1 : Int) (z0 : σ) (o : σ) : Exit → Env → AHeap → Nat → Prop := (QBlock 0 (f26b0_Q Hc fi0 ff0 fc0 a0 a1 z0 o))

noncomputable def S_slices_Chunk_int_1_b1 {σ : Type} (g0 : σ → (List Int) → Option (Bool × σ)) (m : Option Nat) (a0 : List Int) (a1 : Int) (v2 : Int) (v3 : σ) : Option ((Int × σ) ⊕ σ) :=
  if (decide (v2 < ((a0.map e_i64).length : Int))) = true then
    if (0 : Int) ≤ v2 ∧ v2 ≤ ((a0.map e_i64).length : Int) then
    if (0 : Int) ≤ v2 ∧ v2 ≤ (W (v2 + (if (((a0.drop v2.toNat).map e_i64).length : Int) < a1 then (((a0.drop v2.toNat).map e_i64).length : Int) else a1))) ∧ (W (v2 + (if (((a0.drop v2.toNat).map e_i64).length : Int) < a1 then (((a0.drop v2.toNat).map e_i64).length : Int) else a1))) ≤ (W (v2 + (if (((a0.drop v2.toNat).map e_i64).length : Int) < a1 then (((a0.drop v2.toNat).map e_i64).length : Int) else a1))) ∧ (W (v2 + (if (((a0.drop v2.toNat).map e_i64).length : Int) < a1 then (((a0.drop v2.toNat).map e_i64).length : Int) else a1))) ≤ ((a0.map e_i64).length : Int) then
    (g0 v3 ((a0.take (W (v2 + (if (((a0.drop v2.toNat).map e_i64).length : Int) < a1 then (((a0.drop v2.toNat).map e_i64).length : Int) else a1))).toNat).drop v2.toNat)).bind fun v5 =>
    if (!v5.1) = true then
      Option.map Sum.inr (
        some v5.2)
    else
      some (.inl ((W (v2 + a1)), v5.2))
    else none
    else none
  else
    Option.map Sum.inr (
      some v3)

noncomputable def S_slices_Chunk_int_1_l1 {σ : Type} (g0 : σ → (List Int) → Option (Bool × σ)) (m : Option Nat) (a0 : List Int) (a1 : Int) (v2 : Int) (v3 : σ) : Option σ := loopM m (fun (s : (Int × σ)) => S_slices_Chunk_int_1_b1 g0 m a0 a1 s.1 s.2) (v2, v3)

theorem f26b0_L1_bok {σ : Type} {Hc : σ → AHeap} {fi0 : Fn} {ff0 fc0 : List AVal} {g0 : σ → (List Int) → Option (Bool × σ)} (hg0 : Clo Try.prog fi0 ff0 fc0 Hc (fun (x : (List Int)) => [.isl 1 (x.map e_i64) false]) (fun (b : Bool) => .bool b) g0) {z0 : σ} {a0 : List Int} {a1 : Int} {v2 : Int} {v3 : σ} {m : Option Nat} {o : (Int × σ) ⊕ σ} (h : S_slices_Chunk_int_1_b1 g0 m a0 a1 v2 v3 = some o) :
    LWp Try.prog f26b0_lay 3 f26b0_c0 (BodyQ 3 4 (f26b0_L1_env Hc fi0 ff0 fc0 a0 a1) (f26b0_L1_hp Hc fi0 ff0 fc0 a0 a1) (f26b0_L1_Q Hc fi0 ff0 fc0 a0 a1 z0) o) [(0, .fn fi0 ff0 fc0), (1, .ptr (0, 0) 0 0), (2, .ptr (0, 1) 0 0), (4, .int .i64 v2)] ([((0, 0), .one [.isl 1 (a0.map e_i64) false]), ((0, 1), .one [.int .i64 a1])] ++ up 3 (Hc v3)) 4 := by
  unfold S_slices_Chunk_int_1_b1 at h
  refine seqI ?_
  refine seqI ?_
  refine regI ?_
  refine condI (v := (decide (v2 < ((a0.map e_i64).length : Int)))) rfl trivial (fun h10 => ?_) (fun h10 => ?_)
  · have h := ite_tt h10 h
    refine skipI ?_
    refine seqI ?_
    refine blockI ?_
    refine seqI ?_
    refine quietI ?_
    obtain ⟨h11, h⟩ := ite_some h
    refine Exists.intro (.isl 1 ((a0.drop v2.toNat).map e_i64) false) (And.intro (sl_eq e_i64 (slA e_i64 a0 _) rfl) (And.intro (And.intro rfl (And.intro (And.left h11) (And.intro (And.right h11) (Int.le_refl _)))) ?_))
    refine LWp.sim (e := [(0, .fn fi0 ff0 fc0), (1, .ptr (0, 0) 0 0), (2, .ptr (0, 1) 0 0), (4, .int .i64 v2), (5, .int .i64 (if (((a0.drop v2.toNat).map e_i64).length : Int) < a1 then (((a0.drop v2.toNat).map e_i64).length : Int) else a1))]) (L := ([((0, 0), .one [.isl 1 (a0.map e_i64) false]), ((0, 1), .one [.int .i64 a1])] ++ up 3 (Hc v3))) (n := 4) ?_ ?_
    · exact simT (M := []) (lit' := [((0, 0), .one [.isl 1 (a0.map e_i64) false]), ((0, 1), .one [.int .i64 a1])]) (hg0.tl _) rfl (And.intro (Vw.clo hg0.hf hg0.hc (by decide) (rhoT_1 (chkT_ok (n := 4) (q := 3) (lit' := [((0, 0), .one [.isl 1 (a0.map e_i64) false]), ((0, 1), .one [.int .i64 a1])]) rfl))) (And.intro (Vw.ptr _ _ _ _ rfl) (And.intro (Vw.ptr _ _ _ _ rfl) (And.intro (Vw.same _ rfl) (And.intro (Vw.same _ rfl) trivial))))) (And.intro (And.intro rfl (BVw.oneL (And.intro (Vw.same _ rfl) trivial))) (And.intro (And.intro rfl (BVw.oneL (And.intro (Vw.same _ rfl) trivial))) trivial))
    refine seqI ?_
    refine regI ?_
    obtain ⟨h12, h⟩ := ite_some h
    refine Exists.intro (.isl 1 (((a0.take (W (v2 + (if (((a0.drop v2.toNat).map e_i64).length : Int) < a1 then (((a0.drop v2.toNat).map e_i64).length : Int) else a1))).toNat).drop v2.toNat).map e_i64) (decide ((W (v2 + (if (((a0.drop v2.toNat).map e_i64).length : Int) < a1 then (((a0.drop v2.toNat).map e_i64).length : Int) else a1))) = (W (v2 + (if (((a0.drop v2.toNat).map e_i64).length : Int) < a1 then (((a0.drop v2.toNat).map e_i64).length : Int) else a1)))))) (And.intro (sl_eq e_i64 (slAB e_i64 a0 _ _) rfl) (And.intro (And.intro rfl h12) ?_))
    obtain ⟨v5, h13, h⟩ := bind_some h
    refine Clo.use (q := 3) (lit := [((0, 0), .one [.isl 1 (a0.map e_i64) false]), ((0, 1), .one [.int .i64 a1])]) hg0 h13 rfl rfl (And.intro (Vw.islF _ _ _) trivial) ?_
    show yops _ _ _ [(29, .bool v5.1), (28, .isl 1 (((a0.take (W (v2 + (if (((a0.drop v2.toNat).map e_i64).length : Int) < a1 then (((a0.drop v2.toNat).map e_i64).length : Int) else a1))).toNat).drop v2.toNat).map e_i64) (decide ((W (v2 + (if (((a0.drop v2.toNat).map e_i64).length : Int) < a1 then (((a0.drop v2.toNat).map e_i64).length : Int) else a1))) = (W (v2 + (if (((a0.drop v2.toNat).map e_i64).length : Int) < a1 then (((a0.drop v2.toNat).map e_i64).length : Int) else a1)))))), (27, .int .i64 (W (v2 + (if (((a0.drop v2.toNat).map e_i64).length : Int) < a1 then (((a0.drop v2.toNat).map e_i64).length : Int) else a1)))), (26, .int .i64 (if (((a0.drop v2.toNat).map e_i64).length : Int) < a1 then (((a0.drop v2.toNat).map e_i64).length : Int) else a1)), (25, .int .i64 v2), (24, .int .i64 (W (v2 + (if (((a0.drop v2.toNat).map e_i64).length : Int) < a1 then (((a0.drop v2.toNat).map e_i64).length : Int) else a1)))), (23, .int .i64 (if (((a0.drop v2.toNat).map e_i64).length : Int) < a1 then (((a0.drop v2.toNat).map e_i64).length : Int) else a1)), (22, .int .i64 v2), (21, .int .i64 v2), (20, .isl 1 (a0.map e_i64) false), (19, .fn fi0 ff0 fc0), (0, .fn fi0 ff0 fc0), (1, .ptr (0, 0) 0 0), (2, .ptr (0, 1) 0 0), (4, .int .i64 v2), (5, .int .i64 (if (((a0.drop v2.toNat).map e_i64).length : Int) < a1 then (((a0.drop v2.toNat).map e_i64).length : Int) else a1))] _ _
    refine LWp.sim (e := [(0, .fn fi0 ff0 fc0), (1, .ptr (0, 0) 0 0), (2, .ptr (0, 1) 0 0), (4, .int .i64 v2), (30, .bool (!v5.1))]) (L := ([((0, 0), .one [.isl 1 (a0.map e_i64) false]), ((0, 1), .one [.int .i64 a1])] ++ up 3 (Hc v5.2))) (n := 4) ?_ ?_
    · exact simT (M := []) (lit' := [((0, 0), .one [.isl 1 (a0.map e_i64) false]), ((0, 1), .one [.int .i64 a1])]) (hg0.tl _) rfl (And.intro (Vw.clo hg0.hf hg0.hc (by decide) (rhoT_1 (chkT_ok (n := 4) (q := 4) (lit' := [((0, 0), .one [.isl 1 (a0.map e_i64) false]), ((0, 1), .one [.int .i64 a1])]) rfl))) (And.intro (Vw.ptr _ _ _ _ rfl) (And.intro (Vw.ptr _ _ _ _ rfl) (And.intro (Vw.same _ rfl) (And.intro (Vw.same _ rfl) trivial))))) (And.intro (And.intro rfl (BVw.oneL (And.intro (Vw.same _ rfl) trivial))) (And.intro (And.intro rfl (BVw.oneL (And.intro (Vw.same _ rfl) trivial))) trivial))
    refine condI (v := (!v5.1)) rfl trivial (fun h14 => ?_) (fun h14 => ?_)
    · have h := ite_tt h14 h
      refine retI ?_
      obtain ⟨o, hq, rfl⟩ := Option.map_eq_some_iff.1 h
      replace h := hq; clear hq
      refine And.intro nofun ?_
      cases h
      exact finT (n' := 4) (q := 3) (lit' := [((0, 0), .one [.isl 1 (a0.map e_i64) false]), ((0, 1), .one [.int .i64 a1])]) (hg0.tl _) [] [] rfl rfl (Vw.same _ rfl) (And.intro (And.intro rfl (BVw.oneL (And.intro (Vw.same _ rfl) trivial))) (And.intro (And.intro rfl (BVw.oneL (And.intro (Vw.same _ rfl) trivial))) trivial))
    · have h := ite_ff h14 h
      refine skipI ?_
      refine regI ?_
      cases h
      exact And.intro rfl (simT (M := []) (lit' := [((0, 0), .one [.isl 1 (a0.map e_i64) false]), ((0, 1), .one [.int .i64 a1])]) (hg0.tl _) rfl (And.intro (Vw.clo hg0.hf hg0.hc (by decide) (rhoT_1 (chkT_ok (n := 4) (q := 3) (lit' := [((0, 0), .one [.isl 1 (a0.map e_i64) false]), ((0, 1), .one [.int .i64 a1])]) rfl))) (And.intro (Vw.ptr _ _ _ _ rfl) (And.intro (Vw.ptr _ _ _ _ rfl) (And.intro (Vw.same _ rfl) trivial)))) (And.intro (And.intro rfl (BVw.oneL (And.intro (Vw.same _ rfl) trivial))) (And.intro (And.intro rfl (BVw.oneL (And.intro (Vw.same _ rfl) trivial))) trivial)))
  · have h := ite_ff h10 h
    refine exitI ?_
    obtain ⟨o, hq, rfl⟩ := Option.map_eq_some_iff.1 h
    replace h := hq; clear hq
    refine And.intro nofun ?_
    cases h
    exact finT (n' := 4) (q := 3) (lit' := [((0, 0), .one [.isl 1 (a0.map e_i64) false]), ((0, 1), .one [.int .i64 a1])]) (hg0.tl _) [] [] rfl rfl (Vw.same _ rfl) (And.intro (And.intro rfl (BVw.oneL (And.intro (Vw.same _ rfl) trivial))) (And.intro (And.intro rfl (BVw.oneL (And.intro (Vw.same _ rfl) trivial))) trivial))

theorem f26b0_L1_ok {σ : Type} {Hc : σ → AHeap} {fi0 : Fn} {ff0 fc0 : List AVal} {g0 : σ → (List Int) → Option (Bool × σ)} (hg0 : Clo Try.prog fi0 ff0 fc0 Hc (fun (x : (List Int)) => [.isl 1 (x.map e_i64) false]) (fun (b : Bool) => .bool b) g0) {z0 : σ} {a0 : List Int} {a1 : Int} {v2 : Int} {v3 : σ} {m : Option Nat} {o : σ} (h : S_slices_Chunk_int_1_l1 g0 m a0 a1 v2 v3 = some o) :
    LWp Try.prog f26b0_lay 3 (.loop f26b0_c0) (QBlock 0 (f26b0_Q Hc fi0 ff0 fc0 a0 a1 z0 o)) [(0, .fn fi0 ff0 fc0), (1, .ptr (0, 0) 0 0), (2, .ptr (0, 1) 0 0), (4, .int .i64 v2)] ([((0, 0), .one [.isl 1 (a0.map e_i64) false]), ((0, 1), .one [.int .i64 a1])] ++ up 3 (Hc v3)) 4 :=
  LWp_loopM (m := m) (s := ((v2, v3) : (Int × σ))) (r := o) (fun (s : (Int × σ)) => S_slices_Chunk_int_1_b1 g0 m a0 a1 s.1 s.2) (f26b0_L1_env Hc fi0 ff0 fc0 a0 a1) (f26b0_L1_hp Hc fi0 ff0 fc0 a0 a1) (f26b0_L1_Q Hc fi0 ff0 fc0 a0 a1 z0) (fun s o h => f26b0_L1_bok hg0 h) h

noncomputable def S_slices_Chunk_int_1 {σ : Type} (g0 : σ → (List Int) → Option (Bool × σ)) (m : Option Nat) (a0 : List Int) (a1 : Int) (z0 : σ) : Option σ :=
  S_slices_Chunk_int_1_l1 g0 m a0 a1 0 z0

theorem f26b0_start {σ : Type} {Hc : σ → AHeap} {fi0 : Fn} {ff0 fc0 : List AVal} {g0 : σ → (List Int) → Option (Bool × σ)} (hg0 : Clo Try.prog fi0 ff0 fc0 Hc (fun (x : (List Int)) => [.isl 1 (x.map e_i64) false]) (fun (b : Bool) => .bool b) g0) {a0 : List Int} {a1 : Int} {z0 : σ} {m : Option Nat} {o : σ} (h : S_slices_Chunk_int_1 g0 m a0 a1 z0 = some o) : LWp Try.prog f26b0_lay 3 f26b0_c1 (f26b0_Q Hc fi0 ff0 fc0 a0 a1 z0 o) (initEnv 0 [.fn fi0 ff0 fc0, .ptr (0, 0) 0 0, .ptr (0, 1) 0 0]) ([((0, 0), .one [.isl 1 (a0.map e_i64) false]), ((0, 1), .one [.int .i64 a1])] ++ Hc z0) 3 := by
  unfold S_slices_Chunk_int_1 at h
  refine LWp.sim (e := [(0, .fn fi0 ff0 fc0), (1, .ptr (0, 0) 0 0), (2, .ptr (0, 1) 0 0)]) (L := ([((0, 0), .one [.isl 1 (a0.map e_i64) false]), ((0, 1), .one [.int .i64 a1])] ++ up 3 (Hc z0))) (n := 4) (entryT (T := Hc z0) (e' := initEnv 0 [.fn fi0 ff0 fc0, .ptr (0, 0) 0 0, .ptr (0, 1) 0 0]) (e := [(0, .fn fi0 ff0 fc0), (1, .ptr (0, 0) 0 0), (2, .ptr (0, 1) 0 0)]) (lit' := [((0, 0), .one [.isl 1 (a0.map e_i64) false]), ((0, 1), .one [.int .i64 a1])]) (lit := [((0, 0), .one [.isl 1 (a0.map e_i64) false]), ((0, 1), .one [.int .i64 a1])]) (hg0.tl z0) rfl rfl (And.intro (Vw.clo hg0.hf hg0.hc (by decide) (rhoE_1 _)) (And.intro (Vw.ptr _ _ _ _ rfl) (And.intro (Vw.ptr _ _ _ _ rfl) trivial))) (And.intro (And.intro rfl (BVw.oneL (And.intro (Vw.same _ rfl) trivial))) (And.intro (And.intro rfl (BVw.oneL (And.intro (Vw.same _ rfl) trivial))) trivial))) ?_
  refine seqI ?_
  refine regI ?_
  refine blockI ?_
  refine LWp.sim ?_ (f26b0_L1_ok hg0 h)
  exact simT (M := []) (lit' := [((0, 0), .one [.isl 1 (a0.map e_i64) false]), ((0, 1), .one [.int .i64 a1])]) (hg0.tl _) rfl (And.intro (Vw.clo hg0.hf hg0.hc (by decide) (rhoT_1 (chkT_ok (n := 4) (q := 3) (lit' := [((0, 0), .one [.isl 1 (a0.map e_i64) false]), ((0, 1), .one [.int .i64 a1])]) rfl))) (And.intro (Vw.ptr _ _ _ _ rfl) (And.intro (Vw.ptr _ _ _ _ rfl) (And.intro (Vw.same _ rfl) trivial)))) (And.intro (And.intro rfl (BVw.oneL (And.intro (Vw.same _ rfl) trivial))) (And.intro (And.intro rfl (BVw.oneL (And.intro (Vw.same _ rfl) trivial))) trivial))

theorem f26b0_ok {σ : Type} {Hc : σ → AHeap} {fi0 : Fn} {ff0 fc0 : List AVal} {g0 : σ → (List Int) → Option (Bool × σ)} (hg0 : Clo Try.prog fi0 ff0 fc0 Hc (fun (x : (List Int)) => [.isl 1 (x.map e_i64) false]) (fun (b : Bool) => .bool b) g0) {a0 : List Int} {a1 : Int} {z0 : σ} {m : Option Nat} {o : σ} (h : S_slices_Chunk_int_1 g0 m a0 a1 z0 = some o) : ACalls Try.prog 26 [.fn fi0 ff0 fc0, .ptr (0, 0) 0 0, .ptr (0, 1) 0 0] ([((0, 0), .one [.isl 1 (a0.map e_i64) false]), ((0, 1), .one [.int .i64 a1])] ++ Hc z0) 3 (Gives 4 (.tup []) ([((0, 0), .one [.isl 1 (a0.map e_i64) false]), ((0, 1), .one [.int .i64 a1])] ++ up 3 (Hc o))) := bfn_of (L := f26b0_L) f26b0_low f26b0_fok (Nat.le_of_ble_eq_true rfl) (f26b0_start hg0 h)

def f6_c0 : LCode := (.seq (.region [⟨some 3, .box (.t 0), none⟩,
   ⟨some 6, .mv (.c (.val (.slice none 0 0))), none⟩,
   ⟨some 7, .mv (.c (.int .i64 0)), none⟩])
 (.seq (.block 0
  (.seq (.region [⟨some 11, .load false 1 (.t 3), none⟩,
    ⟨some 12, .bin .lss (.t 11) (.c (.int .i64 0)), none⟩,
    ⟨some 13, .mv (.t 12), none⟩,
    ⟨some 14, .mv (.t 2), some (13, false)⟩,
    ⟨some 15, .bin .lss (.t 14) (.c (.int .i64 1)), some (13, false)⟩,
    ⟨some 16, .pick (.t 13) (.c (.bool true)) (.t 15), none⟩,
    ⟨some 10, .mv (.t 16), none⟩])
  (.cond (.t 10)
   (.seq (.region [⟨some 6, .mv (.c (.val (.slice none 0 0))), none⟩,
     ⟨some 7, .mv (.c (.int .i64 1)), none⟩])
   .ret)
   (.seq (.region [⟨some 18, .mv (.t 1), none⟩,
     ⟨some 19, .len false (.t 18), none⟩,
     ⟨some 20, .bin .gtr (.t 19) (.c (.int .i64 1000)), none⟩,
     ⟨some 17, .mv (.t 20), none⟩])
   (.cond (.t 17)
    (.seq (.region [⟨some 6, .mv (.c (.val (.slice none 0 0))), none⟩,
      ⟨some 7, .mv (.c (.int .i64 2)), none⟩])
    .ret)
    (.seq (.region [⟨some 22, .mv (.t 1), none⟩,
      ⟨some 23, .len false (.t 22), none⟩,
      ⟨some 24, .bin .eql (.t 23) (.c (.int .i64 0)), none⟩,
      ⟨some 21, .mv (.t 24), none⟩])
    (.cond (.t 21)
     (.seq (.region [⟨some 25, .load false 1 (.t 3), none⟩,
       ⟨some 26, .build [(.int .i64 0), (.int .i64 0), (.bool false), (.isl 1 [] true)] [(0, 1, (.t 25)), (2, 1, (.c (.bool true)))], none⟩,
       ⟨some 27, .mkSl true 4 [(.int .i64 0), (.int .i64 0), (.bool false), (.isl 1 [] true)] 1 [(0, (.t 26))], none⟩,
       ⟨some 6, .mv (.t 27), none⟩,
       ⟨some 7, .mv (.c (.int .i64 0)), none⟩])
     .ret)
     .skip)))))))
 (.seq (.region [⟨some 8, .alloc [(.isl 4 [] true)], none⟩])
 (.seq (.seq (.region [⟨some 28, .mv (.t 1), none⟩,
   ⟨some 29, .mv (.t 2), none⟩,
   ⟨some 30, .call 19 [(.t 28), (.t 29)], none⟩])
 (.block 1
  (.rng (.t 30) [31]
   (.region [⟨some 9, .mv (.t 31), none⟩])
   (.block 2
    (.draw [⟨⟨some 32, .load false 1 (.t 8), none⟩, []⟩,
      ⟨⟨some 33, .load false 1 (.t 3), none⟩, []⟩,
      ⟨⟨some 34, .load false 1 (.t 8), none⟩, []⟩,
      ⟨⟨some 35, .len false (.t 34), none⟩, []⟩,
      ⟨⟨some 36, .mv (.t 9), none⟩, []⟩,
      ⟨⟨some 37, .call 20 [(.t 36)], none⟩, [0, 1, 2]⟩,
      ⟨⟨some 38, .build [(.int .i64 0), (.int .i64 0), (.bool false), (.isl 1 [] true)] [(0, 1, (.t 33)), (1, 1, (.t 35)), (3, 1, (.t 37))], none⟩, []⟩,
      ⟨⟨some 39, .mkSl true 4 [(.int .i64 0), (.int .i64 0), (.bool false), (.isl 1 [] true)] 1 [(0, (.t 38))], none⟩, []⟩,
      ⟨⟨some 40, .app false 4 48 (.t 32) (.t 39), none⟩, []⟩,
      ⟨⟨none, .store 1 (.t 8) (.t 40), none⟩, []⟩])))))
 (.seq (.region [⟨some 41, .load false 1 (.t 8), none⟩,
   ⟨some 42, .load false 1 (.t 8), none⟩,
   ⟨some 43, .len false (.t 42), none⟩,
   ⟨some 44, .bin .sub (.t 43) (.c (.int .i64 1)), none⟩,
   ⟨some 45, .iaddr 4 (.t 41) (.t 44), none⟩,
   ⟨some 46, .faddr 2 (.t 45), none⟩,
   ⟨none, .store 1 (.t 46) (.c (.bool true)), none⟩])
 (.seq (.region [⟨some 47, .load false 1 (.t 8), none⟩,
   ⟨some 6, .mv (.t 47), none⟩,
   ⟨some 7, .mv (.c (.int .i64 0)), none⟩])
 .ret))))))
def f6_lay : Lay := ⟨48, [40], false⟩
def f6_res : List LRes := [.t 6, .t 7]
def f6_L : LFn := ⟨3, f6_lay, f6_c0, f6_res⟩
theorem f6_low : lowFn Try.prog [40] 6 = some f6_L := by kernel_rfl
theorem f6_fok : FnOk Try.prog 6 := ⟨_, Try.func6, rfl, rfl⟩
noncomputable def S_progress_Split (m : Option Nat) (a0 : Int) (a1 : List Int) (a2 : Int) : Option ((List G_QChunk) × Int) :=
  if ((decide (a0 < 0)) || (decide (a2 < 1))) = true then
    some ([], 1)
  else
    if (decide (((a1.map e_i64).length : Int) > 1000)) = true then
      some ([], 2)
    else
      if (((a1.map e_i64).length : Int) == 0) = true then
        some (([(G_QChunk.mk a0 0 true ([] : List Int))] : List G_QChunk), 0)
      else
        (S_slices_Chunk_int m a1 a2).bind fun v1 =>
        (S_slices_Chunk_int_1 (fun (s : (List G_QChunk)) (x : (List Int)) => (S_progress_Split_roundc m a0 s x).map fun o => (o.1, o.2)) m a1 a2 ([] : List G_QChunk)).bind fun v2 =>
        if (0 : Int) ≤ (W (((v2.length : Nat) : Int) - 1)) ∧ (W (((v2.length : Nat) : Int) - 1)) < ((v2.length : Nat) : Int) then
        if (0 + (W (((v2.length : Nat) : Int) - 1)).toNat) < v2.length then
        some ((v2.set (0 + (W (((v2.length : Nat) : Int) - 1)).toNat) (G_QChunk.mk ((v2.getD (0 + (W (((v2.length : Nat) : Int) - 1)).toNat) default).f_Token) ((v2.getD (0 + (W (((v2.length : Nat) : Int) - 1)).toNat) default).f_Seq) true ((v2.getD (0 + (W (((v2.length : Nat) : Int) - 1)).toNat) default).f_Items))), 0)
        else none
        else none

def f6_Q (a0 : Int) (a1 : List Int) (a2 : Int) (o : (List G_QChunk) × Int) : Exit → Env → AHeap → Nat → Prop := FinK f6_res (PureEnd (.tup [.isl 4 (o.1.map e_QChunk) false, .int .i64 o.2]))

theorem f6_start {a0 : Int} {a1 : List Int} {a2 : Int} {m : Option Nat} {o : (List G_QChunk) × Int} (h : S_progress_Split m a0 a1 a2 = some o) : LWp Try.prog f6_lay 0 f6_c0 (f6_Q a0 a1 a2 o) (initEnv 0 [.int .i64 a0, .isl 1 (a1.map e_i64) false, .int .i64 a2]) [] 0 := by
  unfold S_progress_Split at h
  refine seqI ?_
  refine regI ?_
  refine seqI ?_
  refine blockI ?_
  refine seqI ?_
  refine regI ?_
  refine And.intro (fun hp => hp) ?_
  show yops _ _ _ [(15, .cnd ((decide (a0 < 0)) == false) (.bool (decide (a2 < 1)))), (14, .cnd ((decide (a0 < 0)) == false) (.int .i64 a2)), (13, .bool (decide (a0 < 0))), (12, .bool (decide (a0 < 0))), (11, .int .i64 a0), (7, .int .i64 0), (6, .val (.slice none 0 0)), (3, .ptr (0, 0) 0 0), (0, .int .i64 a0), (1, .isl 1 (a1.map e_i64) false), (2, .int .i64 a2)] _ _
  refine And.intro (fun hc => (bqf hc)) ?_
  refine LWp.sim (e := [(1, .isl 1 (a1.map e_i64) false), (2, .int .i64 a2), (3, .ptr (0, 0) 0 0), (10, .bool ((decide (a0 < 0)) || (decide (a2 < 1))))]) (L := [((0, 0), .one [.int .i64 a0])]) (n := 1) ?_ ?_
  · exact simI (M := [((0, 0), (0, 0))]) rfl (And.intro (Vw.same _ rfl) (And.intro (Vw.same _ rfl) (And.intro (Vw.ptr _ _ _ _ rfl) (And.intro (Vw.same _ rfl) trivial)))) (And.intro (And.intro rfl (BVw.oneL (And.intro (Vw.same _ rfl) trivial))) trivial)
  refine condI (v := ((decide (a0 < 0)) || (decide (a2 < 1)))) rfl trivial (fun h1 => ?_) (fun h1 => ?_)
  · have h := ite_tt h1 h
    refine seqI ?_
    refine regI ?_
    refine retI ?_
    cases h
    exact And.intro trivial (And.intro trivial (And.intro rfl (Vw.tupL (And.intro (Vw.nilI _ _) (And.intro (Vw.same _ rfl) trivial)))))
  · have h := ite_ff h1 h
    refine seqI ?_
    refine regI ?_
    refine condI (v := (decide (((a1.map e_i64).length : Int) > 1000))) rfl trivial (fun h2 => ?_) (fun h2 => ?_)
    · have h := ite_tt h2 h
      refine seqI ?_
      refine regI ?_
      refine retI ?_
      cases h
      exact And.intro trivial (And.intro trivial (And.intro rfl (Vw.tupL (And.intro (Vw.nilI _ _) (And.intro (Vw.same _ rfl) trivial)))))
    · have h := ite_ff h2 h
      refine seqI ?_
      refine regI ?_
      refine LWp.sim (e := [(1, .isl 1 (a1.map e_i64) false), (2, .int .i64 a2), (3, .ptr (0, 0) 0 0), (21, .bool (((a1.map e_i64).length : Int) == 0))]) (L := [((0, 0), .one [.int .i64 a0])]) (n := 1) ?_ ?_
      · exact simI (M := [((0, 0), (0, 0))]) rfl (And.intro (Vw.same _ rfl) (And.intro (Vw.same _ rfl) (And.intro (Vw.ptr _ _ _ _ rfl) (And.intro (Vw.same _ rfl) trivial)))) (And.intro (And.intro rfl (BVw.oneL (And.intro (Vw.same _ rfl) trivial))) trivial)
      refine condI (v := (((a1.map e_i64).length : Int) == 0)) rfl trivial (fun h3 => ?_) (fun h3 => ?_)
      · have h := ite_tt h3 h
        refine seqI ?_
        refine regI ?_
        refine retI ?_
        cases h
        exact And.intro trivial (And.intro trivial (And.intro rfl (Vw.tupL (And.intro (Vw.islF _ _ _) (And.intro (Vw.same _ rfl) trivial)))))
      · have h := ite_ff h3 h
        refine skipI ?_
        refine seqI ?_
        refine regI ?_
        refine LWp.ghost 4 ?_
        refine LWp.sim (e := [(1, .isl 1 (a1.map e_i64) false), (2, .int .i64 a2), (3, .ptr (0, 0) 0 0), (8, .ptr (1, 0) 0 0)]) (L := [((0, 0), .one [.int .i64 a0]), ((1, 0), .one [.msl (2, 0) 4 0 (([] : List G_QChunk).length) false]), ((2, 0), .rows 4 (([] : List G_QChunk).map e_QChunk))]) (n := 3) ?_ ?_
        · exact simI (M := [((0, 0), (0, 0)), ((1, 0), (1, 0)), ((2, 0), (2, 0))]) rfl (And.intro (Vw.same _ rfl) (And.intro (Vw.same _ rfl) (And.intro (Vw.ptr _ _ _ _ rfl) (And.intro (Vw.ptr _ _ _ _ rfl) trivial)))) (And.intro (And.intro rfl (BVw.oneL (And.intro (Vw.same _ rfl) trivial))) (And.intro (And.intro rfl (BVw.oneL (And.intro (Vw.islM _ _ _ _ _ _ rfl rfl) trivial))) (And.intro (And.intro rfl (BVw.enc e_QChunk (fun _ => rfl) _ ([] : List G_QChunk))) trivial)))
        refine seqI ?_
        refine seqI ?_
        refine regI ?_
        obtain ⟨v1, h4, h⟩ := bind_some h
        refine bcall (k := 3) (m := 2) (L' := [((3, 0), .one [.isl 1 (a1.map e_i64) false]), ((4, 0), .one [.int .i64 a2])]) (rest := [((0, 0), .one [.int .i64 a0]), ((1, 0), .one [.msl (2, 0) 4 0 (([] : List G_QChunk).length) false]), ((2, 0), .rows 4 (([] : List G_QChunk).map e_QChunk))]) (R' := .fn (.func 26) [] [.ptr (3, 0) 0 0, .ptr (4, 0) 0 0]) [] (f19b0_ok h4) rfl rfl rfl (And.intro (Vw.same _ rfl) (And.intro (Vw.same _ rfl) trivial)) trivial rfl (And.intro rfl (And.intro rfl (And.intro rfl (And.intro rfl trivial)))) rfl ?_
        refine blockI ?_
        refine LWp.sim (e := [(3, .ptr (0, 0) 0 0), (8, .ptr (1, 0) 0 0), (30, .fn (.func 26) [] [.ptr (2, 0) 0 0, .ptr (3, 0) 0 0])]) (L := [((0, 0), .one [.int .i64 a0]), ((1, 0), .one [.msl (4, 0) 4 0 (([] : List G_QChunk).length) false]), ((2, 0), .one [.isl 1 (a1.map e_i64) false]), ((3, 0), .one [.int .i64 a2]), ((4, 0), .rows 4 (([] : List G_QChunk).map e_QChunk))]) (n := 5) ?_ ?_
        · exact simI (M := [((0, 0), (0, 0)), ((1, 0), (1, 0)), ((2, 0), (3, 0)), ((3, 0), (4, 0)), ((4, 0), (2, 0))]) rfl (And.intro (Vw.ptr _ _ _ _ rfl) (And.intro (Vw.ptr _ _ _ _ rfl) (And.intro (Vw.fnL trivial (And.intro (Vw.ptr _ _ _ _ rfl) (And.intro (Vw.ptr _ _ _ _ rfl) trivial))) trivial))) (And.intro (And.intro rfl (BVw.oneL (And.intro (Vw.same _ rfl) trivial))) (And.intro (And.intro rfl (BVw.oneL (And.intro (Vw.mslE rfl (by first | rfl | omega | (simp; done) | (simp only [List.length_map, List.length_replicate, Int.toNat_natCast] at *; omega)) rfl) trivial))) (And.intro (And.intro rfl (BVw.oneL (And.intro (Vw.same _ rfl) trivial))) (And.intro (And.intro rfl (BVw.oneL (And.intro (Vw.same _ rfl) trivial))) (And.intro (And.intro rfl (BVw.enc e_QChunk (fun _ => rfl) _ ([] : List G_QChunk))) trivial)))))
        refine LWp_rng (gf := 26) (lb := [.ptr (2, 0) 0 0, .ptr (3, 0) 0 0]) [(3, .ptr (0, 0) 0 0), (8, .ptr (1, 0) 0 0)] rfl trivial (And.intro (rfl) (And.intro (rfl) trivial)) (fun l r hr => ?_)
        obtain ⟨v2, h5, h⟩ := bind_some h
        refine bcall (k := 3) (m := 1) (L' := [((2, 0), .one [.isl 1 (a1.map e_i64) false]), ((3, 0), .one [.int .i64 a2]), ((0, 0), .one [.int .i64 a0]), ((1, 0), .one [.msl (6, 0) 4 0 v2.length false]), ((5, 0), .lrec l r [(3, .ptr (0, 0) 0 0), (8, .ptr (1, 0) 0 0)]), ((6, 0), .rows 4 (v2.map e_QChunk))]) (rest := []) (R' := .tup []) [((0, 0), (2, 0)), ((0, 1), (3, 0)), ((1, 0), (0, 0)), ((1, 1), (1, 0)), ((2, 0), (4, 0)), ((1, 2), (5, 0))] (f26b0_ok (show Clo Try.prog (.yield l) [] [] (fun (s : (List G_QChunk)) => [((1, 0), .one [.int .i64 a0]), ((1, 1), .one [.msl (2, 0) 4 0 s.length false]), ((1, 2), .lrec l r [(3, .ptr (1, 0) 0 0), (8, .ptr (1, 1) 0 0)]), ((2, 0), .rows 4 (s.map e_QChunk))]) (fun (x : (List Int)) => [.isl 1 (x.map e_i64) false]) (fun (b : Bool) => .bool b) (fun (s : (List G_QChunk)) (x : (List Int)) => (S_progress_Split_roundc m a0 s x).map fun o => (o.1, o.2)) from Clo.mkY (fun s => Tl.lit rfl (And.intro (rfl) (And.intro (rfl) (And.intro (rfl) (And.intro (rows_inP e_QChunk (fun _ => rfl) _ _) trivial)))) rfl) (fun _ => rfl) (fun s x o h => by obtain ⟨o1, h1, rfl⟩ := Option.map_eq_some_iff.1 h; exact Exists.intro _ (And.intro (f1000000c0_ok hr h1) (And.intro rfl (And.intro rfl (And.intro rfl (And.intro rfl (And.intro rfl (And.intro rfl (And.intro rfl (And.intro (rows_ren e_QChunk (fun _ => rfl) _ _) trivial))))))))))) h5) rfl rfl rfl (And.intro (Vw.same _ rfl) (And.intro (Vw.ptr _ _ _ _ rfl) (And.intro (Vw.ptr _ _ _ _ rfl) trivial))) (And.intro (h0I (2, 0) rfl rfl (BVw.oneL (And.intro (Vw.same _ rfl) trivial))) (And.intro (h0I (3, 0) rfl rfl (BVw.oneL (And.intro (Vw.same _ rfl) trivial))) (And.intro (h0I (0, 0) rfl rfl (BVw.oneL (And.intro (Vw.same _ rfl) trivial))) (And.intro (h0I (1, 0) rfl rfl (BVw.oneL (And.intro (Vw.mslE rfl (by first | rfl | omega | (simp; done) | (simp only [List.length_map, List.length_replicate, Int.toNat_natCast] at *; omega)) rfl) trivial))) (And.intro (h0I (5, 0) rfl rfl (BVw.lrecL (And.intro (And.intro rfl (Vw.ptr _ _ _ _ rfl)) (And.intro (And.intro rfl (Vw.ptr _ _ _ _ rfl)) trivial)))) (And.intro (h0I (4, 0) rfl rfl (BVw.enc e_QChunk (fun _ => rfl) _ ([] : List G_QChunk))) trivial)))))) (nid_ren _ rfl) (And.intro rfl (And.intro rfl (And.intro rfl (And.intro rfl (And.intro rfl (And.intro rfl (And.intro rfl (And.intro rfl (And.intro rfl (And.intro rfl (And.intro rfl (And.intro ((congrArg (ABlock.ren _) (rows_ren e_QChunk (fun _ => rfl) _ _)).trans (rows_ren e_QChunk (fun _ => rfl) _ _)) trivial)))))))))))) rfl ?_
        refine Exists.intro (5, 0) (Exists.intro _ (And.intro rfl ?_))
        refine LWp.sim (e := [(8, .ptr (0, 0) 0 0)]) (L := [((0, 0), .one [.msl (1, 0) 4 0 v2.length false]), ((1, 0), .rows 4 (v2.map e_QChunk))]) (n := 2) ?_ ?_
        · exact simI (M := [((0, 0), (1, 0)), ((1, 0), (6, 0))]) rfl (And.intro (Vw.ptr _ _ _ _ rfl) trivial) (And.intro (And.intro rfl (BVw.oneL (And.intro (Vw.mslE rfl (by first | rfl | omega | (simp; done) | (simp only [List.length_map, List.length_replicate, Int.toNat_natCast] at *; omega)) rfl) trivial))) (And.intro (And.intro rfl (BVw.enc e_QChunk (fun _ => rfl) _ v2)) trivial))
        refine seqI ?_
        refine regI ?_
        obtain ⟨h6, h⟩ := ite_some h
        refine And.intro h6 ?_
        show yops _ _ _ [(45, .ptr (1, 0) (0 + (W (((v2.length : Nat) : Int) - 1)).toNat) 0), (44, .int .i64 (W (((v2.length : Nat) : Int) - 1))), (43, .int .i64 ((v2.length : Nat) : Int)), (42, .msl (1, 0) 4 0 v2.length false), (41, .msl (1, 0) 4 0 v2.length false), (8, .ptr (0, 0) 0 0)] _ _
        obtain ⟨h7, h⟩ := ite_some h
        refine Exists.intro ((v2.set (0 + (W (((v2.length : Nat) : Int) - 1)).toNat) (G_QChunk.mk ((v2.getD (0 + (W (((v2.length : Nat) : Int) - 1)).toNat) default).f_Token) ((v2.getD (0 + (W (((v2.length : Nat) : Int) - 1)).toNat) default).f_Seq) true ((v2.getD (0 + (W (((v2.length : Nat) : Int) - 1)).toNat) default).f_Items))).map e_QChunk) (And.intro (set_enc e_QChunk _ _ _ _ _ h7 rfl) (And.intro (And.intro rfl (And.intro (lt_map e_QChunk h7) (Nat.le_of_ble_eq_true rfl))) ?_))
        refine seqI ?_
        refine regI ?_
        refine LWp.sim (e := [(6, .msl (0, 0) 4 0 v2.length false), (7, .int .i64 0)]) (L := [((0, 0), .rows 4 ((v2.set (0 + (W (((v2.length : Nat) : Int) - 1)).toNat) (G_QChunk.mk ((v2.getD (0 + (W (((v2.length : Nat) : Int) - 1)).toNat) default).f_Token) ((v2.getD (0 + (W (((v2.length : Nat) : Int) - 1)).toNat) default).f_Seq) true ((v2.getD (0 + (W (((v2.length : Nat) : Int) - 1)).toNat) default).f_Items))).map e_QChunk))]) (n := 1) ?_ ?_
        · exact simI (M := [((0, 0), (1, 0))]) rfl (And.intro (Vw.mslE rfl (by first | rfl | omega | (simp; done) | (simp only [List.length_map, List.length_replicate, Int.toNat_natCast] at *; omega)) rfl) (And.intro (Vw.same _ rfl) trivial)) (And.intro (And.intro rfl (BVw.enc e_QChunk (fun _ => rfl) _ (v2.set (0 + (W (((v2.length : Nat) : Int) - 1)).toNat) (G_QChunk.mk ((v2.getD (0 + (W (((v2.length : Nat) : Int) - 1)).toNat) default).f_Token) ((v2.getD (0 + (W (((v2.length : Nat) : Int) - 1)).toNat) default).f_Seq) true ((v2.getD (0 + (W (((v2.length : Nat) : Int) - 1)).toNat) default).f_Items))))) trivial)
        refine retI ?_
        cases h
        exact And.intro trivial (And.intro trivial (And.intro rfl (Vw.tupL (And.intro (Vw.frzB e_QChunk e_QChunk_ok (fun h => h) rfl rfl (by first | rfl | omega | (simp; done) | (simp only [List.length_map, List.length_replicate, Int.toNat_natCast] at *; omega))) (And.intro (Vw.same _ rfl) trivial)))))

theorem f6_ok {a0 : Int} {a1 : List Int} {a2 : Int} {m : Option Nat} {o : (List G_QChunk) × Int} (h : S_progress_Split m a0 a1 a2 = some o) : PFn Try.prog 6 [.int .i64 a0, .isl 1 (a1.map e_i64) false, .int .i64 a2] (.tup [.isl 4 (o.1.map e_QChunk) false, .int .i64 o.2]) := PFn.ofFnW (L := f6_L) f6_low f6_fok (Nat.le_of_ble_eq_true rfl) rfl (f6_start h)

end Go.Proofs.Ytcllpgaaoiccgaa
