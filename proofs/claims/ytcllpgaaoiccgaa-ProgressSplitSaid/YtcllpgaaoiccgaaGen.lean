/-
  Own text Gen of this claim: what functions of the given program compute, in plain Lean, and the proof; no condition.
-/
import Derived.Test.YtcllpgaaoiccgaaChecked
import Derived.Test.YtcllpgaaoiccgaaFxN
import Derived.Test.YtcllpgaaoiccgaaFxRf
import Derived.Test.YtcllpgaaoiccgaaFxMd
import Derived.KernelRfl
namespace Go.Proofs.Ytcllpgaaoiccgaa
open Go.Fx
set_option linter.unusedVariables false
structure G_QChunk where
  f_Token : Int
  f_Seq : Int
  f_Last : Bool
  f_Items : List Int
instance : Inhabited G_QChunk := ⟨(G_QChunk.mk 0 0 false [])⟩
def e_i64 (x : Int) : List AVal := [.int .i64 x]
def e_QChunk (x : G_QChunk) : List AVal := [.int .i64 x.f_Token, .int .i64 x.f_Seq, .bool x.f_Last, .isl 1 (x.f_Items.map e_i64) false]
theorem e_i64_ok (x : Int) : AVal.nid.nidL (e_i64 x) = true ∧ ∀ y ∈ e_i64 x, y.imm = some y := ⟨rfl, by simp [e_i64, AVal.imm]⟩
theorem e_QChunk_ok (x : G_QChunk) : AVal.nid.nidL (e_QChunk x) = true ∧ ∀ y ∈ e_QChunk x, y.imm = some y := ⟨rfl, by simp [e_QChunk, AVal.imm]⟩
def f19b0_c0 : LCode := (.seq (.region [⟨some 8, .mkfn (.func 26) [] [(.t 2), (.t 3)], none⟩,
   ⟨some 4, .mv (.t 8), none⟩])
 .ret)
def f19b0_c1 : LCode := (.seq (.region [⟨some 2, .box (.t 0), none⟩,
   ⟨some 3, .box (.t 1), none⟩,
   ⟨some 4, .mv (.c (.val .nilFunc)), none⟩])
 (.seq (.seq (.region [⟨some 5, .load false 1 (.t 3), none⟩,
   ⟨some 6, .bin .lss (.t 5) (.c (.int .i64 1)), none⟩])
 (.cond (.t 6)
  (.region [⟨some 7, .bad, none⟩,
    ⟨none, .bad, none⟩])
  .skip))
 f19b0_c0))
def f19b0_lay : Lay := ⟨9, [], false⟩
def f19b0_res : List LRes := [.t 4]
def f19b0_L : LFn := ⟨2, f19b0_lay, f19b0_c1, f19b0_res⟩
theorem f19b0_low : lowFn Try.prog [] 19 = some f19b0_L := by kernel_rfl
theorem f19b0_fok : FnOk Try.prog 19 := ⟨_, Try.func19, rfl, rfl⟩
noncomputable def S_slices_Chunk_int_j1 (m : Option Nat) (a0 : List Int) (a1 : Int) : Option Unit :=
  some ()

def f19b0_Q (a0 : List Int) (a1 : Int) (o : Unit) : Exit → Env → AHeap → Nat → Prop := FinK f19b0_res (FinTo 3 5 (.fn (.func 26) [] [.ptr (3, 0) 0 0, .ptr (4, 0) 0 0]) [((3, 0), .one [.isl 1 (a0.map e_i64) false]), ((4, 0), .one [.int .i64 a1])])

theorem f19b0_j1_ok {a0 : List Int} {a1 : Int} {m : Option Nat} {o : Unit} (h : S_slices_Chunk_int_j1 m a0 a1 = some o) :
    LWp Try.prog f19b0_lay 3 f19b0_c0 (f19b0_Q a0 a1 o) [(2, .ptr (3, 0) 0 0), (3, .ptr (4, 0) 0 0)] [((3, 0), .one [.isl 1 (a0.map e_i64) false]), ((4, 0), .one [.int .i64 a1])] 5 := by
  unfold S_slices_Chunk_int_j1 at h
  refine seqI ?_
  refine regI ?_
  refine retI ?_
  cases h
  exact And.intro trivial (finI (n' := 5) [((3, 0), (3, 0)), ((4, 0), (4, 0))] [] rfl rfl (Vw.fnL trivial (And.intro (Vw.ptr _ _ _ _ rfl) (And.intro (Vw.ptr _ _ _ _ rfl) trivial))) (And.intro (And.intro rfl (BVw.oneL (And.intro (Vw.same _ rfl) trivial))) (And.intro (And.intro rfl (BVw.oneL (And.intro (Vw.same _ rfl) trivial))) trivial)))

noncomputable def S_slices_Chunk_int (m : Option Nat) (a0 : List Int) (a1 : Int) : Option Unit :=
  if (decide (a1 < 1)) = true then
    none
  else
    S_slices_Chunk_int_j1 m a0 a1

theorem f19b0_start {a0 : List Int} {a1 : Int} {m : Option Nat} {o : Unit} (h : S_slices_Chunk_int m a0 a1 = some o) : LWp Try.prog f19b0_lay 3 f19b0_c1 (f19b0_Q a0 a1 o) (initEnv 0 [.isl 1 (a0.map e_i64) false, .int .i64 a1]) [] 3 := by
  unfold S_slices_Chunk_int at h
  refine seqI ?_
  refine regI ?_
  refine seqI ?_
  refine seqI ?_
  refine regI ?_
  refine condI (v := (decide (a1 < 1))) rfl trivial (fun h1 => ?_) (fun h1 => ?_)
  · have h := ite_tt h1 h
    cases h
  · have h := ite_ff h1 h
    refine skipI ?_
    refine LWp.sim ?_ (f19b0_j1_ok h)
    exact simI (M := [((3, 0), (3, 0)), ((4, 0), (4, 0))]) rfl (And.intro (Vw.ptr _ _ _ _ rfl) (And.intro (Vw.ptr _ _ _ _ rfl) trivial)) (And.intro (And.intro rfl (BVw.oneL (And.intro (Vw.same _ rfl) trivial))) (And.intro (And.intro rfl (BVw.oneL (And.intro (Vw.same _ rfl) trivial))) trivial))

theorem f19b0_ok {a0 : List Int} {a1 : Int} {m : Option Nat} {o : Unit} (h : S_slices_Chunk_int m a0 a1 = some o) : ACalls Try.prog 19 [.isl 1 (a0.map e_i64) false, .int .i64 a1] [] 3 (Gives 5 (.fn (.func 26) [] [.ptr (3, 0) 0 0, .ptr (4, 0) 0 0]) [((3, 0), .one [.isl 1 (a0.map e_i64) false]), ((4, 0), .one [.int .i64 a1])]) := bfn_of (L := f19b0_L) f19b0_low f19b0_fok (Nat.le_of_ble_eq_true rfl) (f19b0_start h)

def f20_c0 : LCode := (.seq (.region [⟨some 2, .mv (.c (.val (.slice none 0 0))), none⟩])
 (.seq (.seq (.region [⟨some 3, .mv (.t 0), none⟩,
   ⟨some 4, .eq false .slice (.t 3) (.c (.val (.slice none 0 0))), none⟩])
 (.cond (.t 4)
  (.seq (.region [⟨some 2, .mv (.c (.val (.slice none 0 0))), none⟩])
  .ret)
  .skip))
 (.seq (.region [⟨some 5, .mkSl true 1 [(.int .i64 0)] 0 [], none⟩,
   ⟨some 6, .mv (.t 0), none⟩,
   ⟨some 7, .app true 1 8 (.t 5) (.t 6), none⟩,
   ⟨some 2, .mv (.t 7), none⟩])
 .ret)))
def f20_lay : Lay := ⟨8, [], false⟩
def f20_res : List LRes := [.t 2]
def f20_L : LFn := ⟨1, f20_lay, f20_c0, f20_res⟩
theorem f20_low : lowFn Try.prog [] 20 = some f20_L := by kernel_rfl
theorem f20_fok : FnOk Try.prog 20 := ⟨_, Try.func20, rfl, rfl⟩
noncomputable def S_slices_Clone_int (m : Option Nat) (a0 : List Int) : Option (List Int) :=
  if (a0.map e_i64) ≠ [] then
  if ((([] : List Int) ++ a0).map e_i64).length * 8 ≤ 140737488355328 then
  some (([] : List Int) ++ a0)
  else none
  else none

def f20_Q (a0 : List Int) (o : (List Int)) : Exit → Env → AHeap → Nat → Prop := FinK f20_res (PureEnd (.isl 1 (o.map e_i64) false))

theorem f20_start {a0 : List Int} {m : Option Nat} {o : (List Int)} (h : S_slices_Clone_int m a0 = some o) : LWp Try.prog f20_lay 0 f20_c0 (f20_Q a0 o) (initEnv 0 [.isl 1 (a0.map e_i64) false]) [] 0 := by
  unfold S_slices_Clone_int at h
  refine seqI ?_
  refine regI ?_
  refine seqI ?_
  refine seqI ?_
  refine regI ?_
  obtain ⟨h1, h⟩ := ite_some h
  refine And.intro h1 ?_
  refine condI (v := false) rfl trivial (fun hc => Bool.noConfusion hc) (fun hc => ?_)
  refine skipI ?_
  refine seqI ?_
  refine regI ?_
  obtain ⟨h2, h⟩ := ite_some h
  refine Exists.intro ((([] : List Int) ++ a0).map e_i64) (And.intro (app_enc e_i64 ([] : List Int) a0) (And.intro (And.intro rfl h2) ?_))
  refine retI ?_
  cases h
  exact And.intro trivial (And.intro rfl (Vw.oslI _ _ _))

theorem f20_ok {a0 : List Int} {m : Option Nat} {o : (List Int)} (h : S_slices_Clone_int m a0 = some o) : PFn Try.prog 20 [.isl 1 (a0.map e_i64) false] (.isl 1 (o.map e_i64) false) := PFn.ofFnW (L := f20_L) f20_low f20_fok (Nat.le_of_ble_eq_true rfl) rfl (f20_start h)

noncomputable def S_slices_Clone_intE (m : Option Nat) : List Int → Option (List Int)
  | [] => some []
  | x :: r => S_slices_Clone_int m (x :: r)
theorem f20_okE {m : Option Nat} {a0 o : List Int} (h : S_slices_Clone_intE m a0 = some o) : PFn Try.prog 20 [(.isl 1 (a0.map e_i64) false)] (.isl 1 (o.map e_i64) false) := by
  cases a0 with
  | nil =>
    cases h
    exact sclone_nil (c := 3) (zs := [(.int .i64 0)]) (b := 8) f20_fok Try.func20 ⟨_, _, _, _, _, _, _, _, _, _, _, _, _, _, _, _, _, _, _, _, _, _, _, _, _, _, _, _, rfl, rfl, rfl⟩ (by kernel_rfl) (by kernel_rfl) (by kernel_rfl) (by kernel_rfl) (by decide) (by decide) rfl
  | cons x r => exact f20_ok (m := m) h

def f1000000c0_c0 : LCode := (.region [⟨some 9, .mv (.t 31), none⟩])
def f1000000c0_c1 : LCode := (.block 2
  (.draw [⟨⟨some 32, .load false 1 (.t 8), none⟩, []⟩,
    ⟨⟨some 33, .load false 1 (.t 3), none⟩, []⟩,
    ⟨⟨some 34, .load false 1 (.t 8), none⟩, []⟩,
    ⟨⟨some 35, .len false (.t 34), none⟩, []⟩,
    ⟨⟨some 36, .mv (.t 9), none⟩, []⟩,
    ⟨⟨some 37, .call 20 [(.t 36)], none⟩, [0, 1, 2]⟩,
    ⟨⟨some 38, .build [(.int .i64 0), (.int .i64 0), (.bool false), (.isl 1 [] true)] [(0, 1, (.t 33)), (1, 1, (.t 35)), (3, 1, (.t 37))], none⟩, []⟩,
    ⟨⟨some 39, .mkSl true 4 [(.int .i64 0), (.int .i64 0), (.bool false), (.isl 1 [] true)] 1 [(0, (.t 38))], none⟩, [0]⟩,
    ⟨⟨some 40, .app false 4 48 (.t 32) (.t 39), none⟩, []⟩,
    ⟨⟨none, .store 1 (.t 8) (.t 40), none⟩, []⟩]))
def f1000000c0_lay : Lay := ⟨48, [40], true⟩
def f1000000c0_lay0 : Lay := ⟨48, [40], false⟩
noncomputable def S_progress_Split_roundc (m : Option Nat) (a0 : Int) (a1 : List G_QChunk) (a2 : List Int) : Option (Bool × (List G_QChunk)) :=
  (S_slices_Clone_intE m a2).bind fun v1 =>
  if ((a1 ++ ([(G_QChunk.mk a0 ((a1.length : Nat) : Int) false v1)] : List G_QChunk)).map e_QChunk).length * 48 ≤ 140737488355328 then
  some (true, (a1 ++ ([(G_QChunk.mk a0 ((a1.length : Nat) : Int) false v1)] : List G_QChunk)))
  else none

def f1000000c0_Q (l : Nat) (r : Loop) (a0 : Int) (a1 : List G_QChunk) (a2 : List Int) (o : Bool × (List G_QChunk)) : Exit → Env → AHeap → Nat → Prop := QRnd (1, 2) l r (FinTo 3 4 (.bool o.1) [((1, 0), .one [.int .i64 a0]), ((1, 1), .one [.msl (3, 0) 4 0 o.2.length false]), ((1, 2), .lrec l r [(3, .ptr (1, 0) 0 0), (8, .ptr (1, 1) 0 0)]), ((3, 0), .rows 4 (o.2.map e_QChunk))])

theorem f1000000c0_start {l : Nat} {r : Loop} {a0 : Int} {a1 : List G_QChunk} {a2 : List Int} {m : Option Nat} {o : Bool × (List G_QChunk)} (h : S_progress_Split_roundc m a0 a1 a2 = some o) : LWp Try.prog f1000000c0_lay 3 f1000000c0_c0 (QAsg (1, 2) l r Try.prog f1000000c0_lay0 3 f1000000c0_c1 (f1000000c0_Q l r a0 a1 a2 o)) (putPs [(3, .ptr (1, 0) 0 0), (8, .ptr (1, 1) 0 0)] [31] [.isl 1 (a2.map e_i64) false]) [((1, 0), .one [.int .i64 a0]), ((1, 1), .one [.msl (2, 0) 4 0 a1.length false]), ((1, 2), .lrec l r [(3, .ptr (1, 0) 0 0), (8, .ptr (1, 1) 0 0)]), ((2, 0), .rows 4 (a1.map e_QChunk))] 3 := by
  unfold S_progress_Split_roundc at h
  refine regI ?_
  refine And.intro rfl (Exists.intro _ (And.intro rfl ?_))
  refine LWp.sim (e := [(3, .ptr (1, 0) 0 0), (8, .ptr (1, 1) 0 0), (9, .isl 1 (a2.map e_i64) false)]) (L := [((1, 0), .one [.int .i64 a0]), ((1, 1), .one [.msl (3, 0) 4 0 a1.length false]), ((1, 2), .lrec l (busy r) [(3, .ptr (1, 0) 0 0), (8, .ptr (1, 1) 0 0)]), ((3, 0), .rows 4 (a1.map e_QChunk))]) (n := 4) ?_ ?_
  · exact simI (M := [((3, 0), (2, 0))]) rfl (And.intro (Vw.ptr _ _ _ _ rfl) (And.intro (Vw.ptr _ _ _ _ rfl) (And.intro (Vw.same _ rfl) trivial))) (And.intro (And.intro rfl (BVw.oneL (And.intro (Vw.same _ rfl) trivial))) (And.intro (And.intro rfl (BVw.oneL (And.intro (Vw.mslE rfl (by first | rfl | simp) rfl) trivial))) (And.intro (And.intro rfl (BVw.lrecL (And.intro (And.intro rfl (Vw.ptr _ _ _ _ rfl)) (And.intro (And.intro rfl (Vw.ptr _ _ _ _ rfl)) trivial)))) (And.intro (And.intro rfl (BVw.enc e_QChunk (fun _ => rfl) _ a1)) trivial))))
  refine blockI ?_
  refine drawI ?_
  obtain ⟨v1, h1, h⟩ := bind_some h
  refine PFn.call (f20_okE h1) (And.intro (Vw.same _ rfl) trivial) ?_
  refine And.intro rfl ?_
  refine And.intro rfl ?_
  refine And.intro rfl ?_
  refine And.intro rfl ?_
  obtain ⟨h2, h⟩ := ite_some h
  refine And.intro (fun h => Bool.noConfusion h) (And.intro (lenW e_QChunk (by first | rfl | simp)) (Exists.intro ((a1 ++ ([(G_QChunk.mk a0 ((a1.length : Nat) : Int) false v1)] : List G_QChunk)).map e_QChunk) (And.intro (appW e_QChunk a1 ([(G_QChunk.mk a0 ((a1.length : Nat) : Int) false v1)] : List G_QChunk) (by first | rfl | simp)) (And.intro h2 ?_))))
  cases h
  exact And.intro rfl (Exists.intro _ (And.intro rfl (finI (n' := 5) [((3, 0), (4, 0))] [] rfl rfl (Vw.same _ rfl) (And.intro (And.intro rfl (BVw.oneL (And.intro (Vw.same _ rfl) trivial))) (And.intro (And.intro rfl (BVw.oneL (And.intro (Vw.mslE rfl (by first | rfl | simp) rfl) trivial))) (And.intro (And.intro rfl (BVw.lrecL (And.intro (And.intro rfl (Vw.ptr _ _ _ _ rfl)) (And.intro (And.intro rfl (Vw.ptr _ _ _ _ rfl)) trivial)))) (And.intro (And.intro rfl (BVw.enc e_QChunk (fun _ => rfl) _ (a1 ++ ([(G_QChunk.mk a0 ((a1.length : Nat) : Int) false v1)] : List G_QChunk)))) trivial)))))))

theorem f1000000c0_ok {l : Nat} {r : Loop} {a0 : Int} {a1 : List G_QChunk} {a2 : List Int} {m : Option Nat} {o : Bool × (List G_QChunk)} (hr : RecOf Try.prog f1000000c0_lay0 [31] f1000000c0_c0 f1000000c0_c1 r) (h : S_progress_Split_roundc m a0 a1 a2 = some o) : ACalls Try.prog (.yield l) [.isl 1 (a2.map e_i64) false] [((1, 0), .one [.int .i64 a0]), ((1, 1), .one [.msl (2, 0) 4 0 a1.length false]), ((1, 2), .lrec l r [(3, .ptr (1, 0) 0 0), (8, .ptr (1, 1) 0 0)]), ((2, 0), .rows 4 (a1.map e_QChunk))] 3 (Gives 4 (.bool o.1) [((1, 0), .one [.int .i64 a0]), ((1, 1), .one [.msl (3, 0) 4 0 o.2.length false]), ((1, 2), .lrec l r [(3, .ptr (1, 0) 0 0), (8, .ptr (1, 1) 0 0)]), ((3, 0), .rows 4 (o.2.map e_QChunk))]) := ACalls.fin (yields_of (k := (1, 2)) hr rfl rfl rfl (f1000000c0_start h))

def f26b0_c0 : LCode := (.seq (.seq (.region [⟨some 6, .mv (.t 4), none⟩,
   ⟨some 7, .load false 1 (.t 1), none⟩,
   ⟨some 8, .len false (.t 7), none⟩,
   ⟨some 9, .bin .lss (.t 6) (.t 8), none⟩])
 (.cond (.t 9)
  .skip
  (.exit 0)))
 (.seq (.block 1
  (.seq (.quiet [⟨some 13, .load false 1 (.t 2), none⟩,
    ⟨some 14, .load false 1 (.t 1), none⟩,
    ⟨some 15, .mv (.t 4), none⟩,
    ⟨some 16, .slSl 1 (.t 14) (some (.t 15)) none none, none⟩,
    ⟨some 17, .len false (.t 16), none⟩,
    ⟨some 18, .mnx false [(.t 13), (.t 17)], none⟩,
    ⟨some 5, .mv (.t 18), none⟩])
  (.seq (.region [⟨some 19, .mv (.t 0), none⟩,
    ⟨some 20, .load false 1 (.t 1), none⟩,
    ⟨some 21, .mv (.t 4), none⟩,
    ⟨some 22, .mv (.t 4), none⟩,
    ⟨some 23, .mv (.t 5), none⟩,
    ⟨some 24, .bin .add (.t 22) (.t 23), none⟩,
    ⟨some 25, .mv (.t 4), none⟩,
    ⟨some 26, .mv (.t 5), none⟩,
    ⟨some 27, .bin .add (.t 25) (.t 26), none⟩,
    ⟨some 28, .slSl 1 (.t 20) (some (.t 21)) (some (.t 24)) (some (.t 27)), none⟩,
    ⟨some 29, .callv (.t 19) [(.t 28)], none⟩,
    ⟨some 30, .un .not (.t 29), none⟩])
  (.cond (.t 30)
   .ret
   .skip))))
 (.region [⟨some 10, .mv (.t 4), none⟩,
   ⟨some 11, .load false 1 (.t 2), none⟩,
   ⟨some 12, .bin .add (.t 10) (.t 11), none⟩,
   ⟨some 4, .mv (.t 12), none⟩])))
def f26b0_c1 : LCode := (.seq (.region [⟨some 4, .mv (.c (.int .i64 0)), none⟩])
 (.block 0
  (.loop
   f26b0_c0)))
def f26b0_lay : Lay := ⟨31, [], false⟩
def f26b0_res : List LRes := []
def f26b0_L : LFn := ⟨3, f26b0_lay, f26b0_c1, f26b0_res⟩
theorem f26b0_low : lowFn Try.prog [] 26 = some f26b0_L := by kernel_rfl
theorem f26b0_fok : FnOk Try.prog 26 := ⟨_, Try.func26, rfl, rfl⟩
def f26b0_Q {σ : Type} (Hc : σ → AHeap) (fi0 : Fn) (ff0 fc0 : List AVal) (a0 : List Int) (a1 : Int) (z0 : σ) (o : σ) : Exit → Env → AHeap → Nat → Prop := FinK f26b0_res (FinTo 3 4 (.tup []) ([((0, 0), .one [.isl 1 (a0.map e_i64) false]), ((0, 1), .one [.int .i64 a1])] ++ up 3 (Hc o)))

def f26b0_L1_env {σ : Type} (Hc : σ → AHeap) (fi0 : Fn) (ff0 fc0 : List AVal) (a0 : List Int) (a1 : Int) (s : (Int × σ)) : Env := [(0, .fn fi0 ff0 fc0), (1, .ptr (0, 0) 0 0), (2, .ptr (0, 1) 0 0), (4, .int .i64 s.1)]
def f26b0_L1_hp {σ : Type} (Hc : σ → AHeap) (fi0 : Fn) (ff0 fc0 : List AVal) (a0 : List Int) (a1 : Int) (s : (Int × σ)) : AHeap := ([((0, 0), .one [.isl 1 (a0.map e_i64) false]), ((0, 1), .one [.int .i64 a1])] ++ up 3 (Hc s.2))
def f26b0_L1_Q {σ : Type} (Hc : σ → AHeap) (fi0 : Fn) (ff0 fc0 : List AVal) (a0 : List Int) (a1 : Int) (z0 : σ) (o : σ) : Exit → Env → AHeap → Nat → Prop := (QBlock 0 (f26b0_Q Hc fi0 ff0 fc0 a0 a1 z0 o))

noncomputable def S_slices_Chunk_int_1_b1 {σ : Type} (g0 : σ → (List Int) → Option (Bool × σ)) (m : Option Nat) (a0 : List Int) (a1 : Int) (v2 : Int) (v3 : σ) : Option ((Int × σ) ⊕ σ) :=
  if (decide (v2 < ((a0.map e_i64).length : Int))) = true then
    if (0 : Int) ≤ v2 ∧ v2 ≤ ((a0.map e_i64).length : Int) then
    if (0 : Int) ≤ v2 ∧ v2 ≤ (W (v2 + (if (((a0.drop v2.toNat).map e_i64).length : Int) < a1 then (((a0.drop v2.toNat).map e_i64).length : Int) else a1))) ∧ (W (v2 + (if (((a0.drop v2.toNat).map e_i64).length : Int) < a1 then (((a0.drop v2.toNat).map e_i64).length : Int) else a1))) ≤ (W (v2 + (if (((a0.drop v2.toNat).map e_i64).length : Int) < a1 then (((a0.drop v2.toNat).map e_i64).length : Int) else a1))) ∧ (W (v2 + (if (((a0.drop v2.toNat).map e_i64).length : Int) < a1 then (((a0.drop v2.toNat).map e_i64).length : Int) else a1))) ≤ ((a0.map e_i64).length : Int) then
    (g0 v3 ((a0.take (W (v2 + (if (((a0.drop v2.toNat).map e_i64).length : Int) < a1 then (((a0.drop v2.toNat).map e_i64).length : Int) else a1))).toNat).drop v2.toNat)).bind fun v5 =>
    if (!v5.1) = true then
      Option.map Sum.inr (
        some v5.2)
    else
      some (.inl ((W (v2 + a1)), v5.2))
    else none
    else none
  else
    Option.map Sum.inr (
      some v3)

noncomputable def S_slices_Chunk_int_1_l1 {σ : Type} (g0 : σ → (List Int) → Option (Bool × σ)) (m : Option Nat) (a0 : List Int) (a1 : Int) (v2 : Int) (v3 : σ) : Option σ := loopM m (fun (s : (Int × σ)) => S_slices_Chunk_int_1_b1 g0 m a0 a1 s.1 s.2) (v2, v3)

theorem f26b0_L1_bok {σ : Type} {Hc : σ → AHeap} {fi0 : Fn} {ff0 fc0 : List AVal} {g0 : σ → (List Int) → Option (Bool × σ)} (hg0 : Clo Try.prog fi0 ff0 fc0 Hc (fun (x : (List Int)) => [.isl 1 (x.map e_i64) false]) (fun (b : Bool) => .bool b) g0) {z0 : σ} {a0 : List Int} {a1 : Int} {v2 : Int} {v3 : σ} {m : Option Nat} {o : (Int × σ) ⊕ σ} (h : S_slices_Chunk_int_1_b1 g0 m a0 a1 v2 v3 = some o) :
    LWp Try.prog f26b0_lay 3 f26b0_c0 (BodyQ 3 4 (f26b0_L1_env Hc fi0 ff0 fc0 a0 a1) (f26b0_L1_hp Hc fi0 ff0 fc0 a0 a1) (f26b0_L1_Q Hc fi0 ff0 fc0 a0 a1 z0) o) [(0, .fn fi0 ff0 fc0), (1, .ptr (0, 0) 0 0), (2, .ptr (0, 1) 0 0), (4, .int .i64 v2)] ([((0, 0), .one [.isl 1 (a0.map e_i64) false]), ((0, 1), .one [.int .i64 a1])] ++ up 3 (Hc v3)) 4 := by
  unfold S_slices_Chunk_int_1_b1 at h
  refine seqI ?_
  refine seqI ?_
  refine regI ?_
  refine condI (v := (decide (v2 < ((a0.map e_i64).length : Int)))) rfl trivial (fun h10 => ?_) (fun h10 => ?_)
  · have h := ite_tt h10 h
    refine skipI ?_
    refine seqI ?_
    refine blockI ?_
    refine seqI ?_
    refine quietI ?_
    obtain ⟨h11, h⟩ := ite_some h
    refine Exists.intro (.isl 1 ((a0.drop v2.toNat).map e_i64) false) (And.intro (sl_eq e_i64 (slA e_i64 a0 _) rfl) (And.intro (And.intro rfl (And.intro (And.left h11) (And.intro (And.right h11) (Int.le_refl _)))) ?_))
    refine LWp.sim (e := [(0, .fn fi0 ff0 fc0), (1, .ptr (0, 0) 0 0), (2, .ptr (0, 1) 0 0), (4, .int .i64 v2), (5, .int .i64 (if (((a0.drop v2.toNat).map e_i64).length : Int) < a1 then (((a0.drop v2.toNat).map e_i64).length : Int) else a1))]) (L := ([((0, 0), .one [.isl 1 (a0.map e_i64) false]), ((0, 1), .one [.int .i64 a1])] ++ up 3 (Hc v3))) (n := 4) ?_ ?_
    · exact simT (M := []) (lit' := [((0, 0), .one [.isl 1 (a0.map e_i64) false]), ((0, 1), .one [.int .i64 a1])]) (hg0.tl _) rfl (And.intro (Vw.clo hg0.hf hg0.hc (by decide) (rhoT_1 (chkT_ok (n := 4) (q := 3) (lit' := [((0, 0), .one [.isl 1 (a0.map e_i64) false]), ((0, 1), .one [.int .i64 a1])]) rfl))) (And.intro (Vw.ptr _ _ _ _ rfl) (And.intro (Vw.ptr _ _ _ _ rfl) (And.intro (Vw.same _ rfl) (And.intro (Vw.same _ rfl) trivial))))) (And.intro (And.intro rfl (BVw.oneL (And.intro (Vw.same _ rfl) trivial))) (And.intro (And.intro rfl (BVw.oneL (And.intro (Vw.same _ rfl) trivial))) trivial))
    refine seqI ?_
    refine regI ?_
    obtain ⟨h12, h⟩ := ite_some h
    refine Exists.intro (.isl 1 (((a0.take (W (v2 + (if (((a0.drop v2.toNat).map e_i64).length : Int) < a1 then (((a0.drop v2.toNat).map e_i64).length : Int) else a1))).toNat).drop v2.toNat).map e_i64) (decide ((W (v2 + (if (((a0.drop v2.toNat).map e_i64).length : Int) < a1 then (((a0.drop v2.toNat).map e_i64).length : Int) else a1))) = (W (v2 + (if (((a0.drop v2.toNat).map e_i64).length : Int) < a1 then (((a0.drop v2.toNat).map e_i64).length : Int) else a1)))))) (And.intro (sl_eq e_i64 (slAB e_i64 a0 _ _) rfl) (And.intro (And.intro rfl h12) ?_))
    obtain ⟨v5, h13, h⟩ := bind_some h
    refine Clo.use (q := 3) (lit := [((0, 0), .one [.isl 1 (a0.map e_i64) false]), ((0, 1), .one [.int .i64 a1])]) hg0 h13 rfl rfl (And.intro (Vw.islF _ _ _) trivial) ?_
    show yops _ _ _ [(29, .bool v5.1), (28, .isl 1 (((a0.take (W (v2 + (if (((a0.drop v2.toNat).map e_i64).length : Int) < a1 then (((a0.drop v2.toNat).map e_i64).length : Int) else a1))).toNat).drop v2.toNat).map e_i64) (decide ((W (v2 + (if (((a0.drop v2.toNat).map e_i64).length : Int) < a1 then (((a0.drop v2.toNat).map e_i64).length : Int) else a1))) = (W (v2 + (if (((a0.drop v2.toNat).map e_i64).length : Int) < a1 then (((a0.drop v2.toNat).map e_i64).length : Int) else a1)))))), (27, .int .i64 (W (v2 + (if (((a0.drop v2.toNat).map e_i64).length : Int) < a1 then (((a0.drop v2.toNat).map e_i64).length : Int) else a1)))), (26, .int .i64 (if (((a0.drop v2.toNat).map e_i64).length : Int) < a1 then (((a0.drop v2.toNat).map e_i64).length : Int) else a1)), (25, .int .i64 v2), (24, .int .i64 (W (v2 + (if (((a0.drop v2.toNat).map e_i64).length : Int) < a1 then (((a0.drop v2.toNat).map e_i64).length : Int) else a1)))), (23, .int .i64 (if (((a0.drop v2.toNat).map e_i64).length : Int) < a1 then (((a0.drop v2.toNat).map e_i64).length : Int) else a1)), (22, .int .i64 v2), (21, .int .i64 v2), (20, .isl 1 (a0.map e_i64) false), (19, .fn fi0 ff0 fc0), (0, .fn fi0 ff0 fc0), (1, .ptr (0, 0) 0 0), (2, .ptr (0, 1) 0 0), (4, .int .i64 v2), (5, .int .i64 (if (((a0.drop v2.toNat).map e_i64).length : Int) < a1 then (((a0.drop v2.toNat).map e_i64).length : Int) else a1))] _ _
    refine LWp.sim (e := [(0, .fn fi0 ff0 fc0), (1, .ptr (0, 0) 0 0), (2, .ptr (0, 1) 0 0), (4, .int .i64 v2), (30, .bool (!v5.1))]) (L := ([((0, 0), .one [.isl 1 (a0.map e_i64) false]), ((0, 1), .one [.int .i64 a1])] ++ up 3 (Hc v5.2))) (n := 4) ?_ ?_
    · exact simT (M := []) (lit' := [((0, 0), .one [.isl 1 (a0.map e_i64) false]), ((0, 1), .one [.int .i64 a1])]) (hg0.tl _) rfl (And.intro (Vw.clo hg0.hf hg0.hc (by decide) (rhoT_1 (chkT_ok (n := 4) (q := 4) (lit' := [((0, 0), .one [.isl 1 (a0.map e_i64) false]), ((0, 1), .one [.int .i64 a1])]) rfl))) (And.intro (Vw.ptr _ _ _ _ rfl) (And.intro (Vw.ptr _ _ _ _ rfl) (And.intro (Vw.same _ rfl) (And.intro (Vw.same _ rfl) trivial))))) (And.intro (And.intro rfl (BVw.oneL (And.intro (Vw.same _ rfl) trivial))) (And.intro (And.intro rfl (BVw.oneL (And.intro (Vw.same _ rfl) trivial))) trivial))
    refine condI (v := (!v5.1)) rfl trivial (fun h14 => ?_) (fun h14 => ?_)
    · have h := ite_tt h14 h
      refine retI ?_
      obtain ⟨o, hq, rfl⟩ := Option.map_eq_some_iff.1 h
      replace h := hq; clear hq
      refine And.intro nofun ?_
      cases h
      exact finT (n' := 4) (q := 3) (lit' := [((0, 0), .one [.isl 1 (a0.map e_i64) false]), ((0, 1), .one [.int .i64 a1])]) (hg0.tl _) [] [] rfl rfl (Vw.same _ rfl) (And.intro (And.intro rfl (BVw.oneL (And.intro (Vw.same _ rfl) trivial))) (And.intro (And.intro rfl (BVw.oneL (And.intro (Vw.same _ rfl) trivial))) trivial))
    · have h := ite_ff h14 h
      refine skipI ?_
      refine regI ?_
      cases h
      exact And.intro rfl (simT (M := []) (lit' := [((0, 0), .one [.isl 1 (a0.map e_i64) false]), ((0, 1), .one [.int .i64 a1])]) (hg0.tl _) rfl (And.intro (Vw.clo hg0.hf hg0.hc (by decide) (rhoT_1 (chkT_ok (n := 4) (q := 3) (lit' := [((0, 0), .one [.isl 1 (a0.map e_i64) false]), ((0, 1), .one [.int .i64 a1])]) rfl))) (And.intro (Vw.ptr _ _ _ _ rfl) (And.intro (Vw.ptr _ _ _ _ rfl) (And.intro (Vw.same _ rfl) trivial)))) (And.intro (And.intro rfl (BVw.oneL (And.intro (Vw.same _ rfl) trivial))) (And.intro (And.intro rfl (BVw.oneL (And.intro (Vw.same _ rfl) trivial))) trivial)))
  · have h := ite_ff h10 h
    refine exitI ?_
    obtain ⟨o, hq, rfl⟩ := Option.map_eq_some_iff.1 h
    replace h := hq; clear hq
    refine And.intro nofun ?_
    cases h
    exact finT (n' := 4) (q := 3) (lit' := [((0, 0), .one [.isl 1 (a0.map e_i64) false]), ((0, 1), .one [.int .i64 a1])]) (hg0.tl _) [] [] rfl rfl (Vw.same _ rfl) (And.intro (And.intro rfl (BVw.oneL (And.intro (Vw.same _ rfl) trivial))) (And.intro (And.intro rfl (BVw.oneL (And.intro (Vw.same _ rfl) trivial))) trivial))

theorem f26b0_L1_ok {σ : Type} {Hc : σ → AHeap} {fi0 : Fn} {ff0 fc0 : List AVal} {g0 : σ → (List Int) → Option (Bool × σ)} (hg0 : Clo Try.prog fi0 ff0 fc0 Hc (fun (x : (List Int)) => [.isl 1 (x.map e_i64) false]) (fun (b : Bool) => .bool b) g0) {z0 : σ} {a0 : List Int} {a1 : Int} {v2 : Int} {v3 : σ} {m : Option Nat} {o : σ} (h : S_slices_Chunk_int_1_l1 g0 m a0 a1 v2 v3 = some o) :
    LWp Try.prog f26b0_lay 3 (.loop f26b0_c0) (QBlock 0 (f26b0_Q Hc fi0 ff0 fc0 a0 a1 z0 o)) [(0, .fn fi0 ff0 fc0), (1, .ptr (0, 0) 0 0), (2, .ptr (0, 1) 0 0), (4, .int .i64 v2)] ([((0, 0), .one [.isl 1 (a0.map e_i64) false]), ((0, 1), .one [.int .i64 a1])] ++ up 3 (Hc v3)) 4 :=
  LWp_loopM (m := m) (s := ((v2, v3) : (Int × σ))) (r := o) (fun (s : (Int × σ)) => S_slices_Chunk_int_1_b1 g0 m a0 a1 s.1 s.2) (f26b0_L1_env Hc fi0 ff0 fc0 a0 a1) (f26b0_L1_hp Hc fi0 ff0 fc0 a0 a1) (f26b0_L1_Q Hc fi0 ff0 fc0 a0 a1 z0) (fun s o h => f26b0_L1_bok hg0 h) h

noncomputable def S_slices_Chunk_int_1 {σ : Type} (g0 : σ → (List Int) → Option (Bool × σ)) (m : Option Nat) (a0 : List Int) (a1 : Int) (z0 : σ) : Option σ :=
  S_slices_Chunk_int_1_l1 g0 m a0 a1 0 z0

theorem f26b0_start {σ : Type} {Hc : σ → AHeap} {fi0 : Fn} {ff0 fc0 : List AVal} {g0 : σ → (List Int) → Option (Bool × σ)} (hg0 : Clo Try.prog fi0 ff0 fc0 Hc (fun (x : (List Int)) => [.isl 1 (x.map e_i64) false]) (fun (b : Bool) => .bool b) g0) {a0 : List Int} {a1 : Int} {z0 : σ} {m : Option Nat} {o : σ} (h : S_slices_Chunk_int_1 g0 m a0 a1 z0 = some o) : LWp Try.prog f26b0_lay 3 f26b0_c1 (f26b0_Q Hc fi0 ff0 fc0 a0 a1 z0 o) (initEnv 0 [.fn fi0 ff0 fc0, .ptr (0, 0) 0 0, .ptr (0, 1) 0 0]) ([((0, 0), .one [.isl 1 (a0.map e_i64) false]), ((0, 1), .one [.int .i64 a1])] ++ Hc z0) 3 := by
  unfold S_slices_Chunk_int_1 at h
  refine LWp.sim (e := [(0, .fn fi0 ff0 fc0), (1, .ptr (0, 0) 0 0), (2, .ptr (0, 1) 0 0)]) (L := ([((0, 0), .one [.isl 1 (a0.map e_i64) false]), ((0, 1), .one [.int .i64 a1])] ++ up 3 (Hc z0))) (n := 4) (entryT (T := Hc z0) (e' := initEnv 0 [.fn fi0 ff0 fc0, .ptr (0, 0) 0 0, .ptr (0, 1) 0 0]) (e := [(0, .fn fi0 ff0 fc0), (1, .ptr (0, 0) 0 0), (2, .ptr (0, 1) 0 0)]) (lit' := [((0, 0), .one [.isl 1 (a0.map e_i64) false]), ((0, 1), .one [.int .i64 a1])]) (lit := [((0, 0), .one [.isl 1 (a0.map e_i64) false]), ((0, 1), .one [.int .i64 a1])]) (hg0.tl z0) rfl rfl (And.intro (Vw.clo hg0.hf hg0.hc (by decide) (rhoE_1 _)) (And.intro (Vw.ptr _ _ _ _ rfl) (And.intro (Vw.ptr _ _ _ _ rfl) trivial))) (And.intro (And.intro rfl (BVw.oneL (And.intro (Vw.same _ rfl) trivial))) (And.intro (And.intro rfl (BVw.oneL (And.intro (Vw.same _ rfl) trivial))) trivial))) ?_
  refine seqI ?_
  refine regI ?_
  refine blockI ?_
  refine LWp.sim ?_ (f26b0_L1_ok hg0 h)
  exact simT (M := []) (lit' := [((0, 0), .one [.isl 1 (a0.map e_i64) false]), ((0, 1), .one [.int .i64 a1])]) (hg0.tl _) rfl (And.intro (Vw.clo hg0.hf hg0.hc (by decide) (rhoT_1 (chkT_ok (n := 4) (q := 3) (lit' := [((0, 0), .one [.isl 1 (a0.map e_i64) false]), ((0, 1), .one [.int .i64 a1])]) rfl))) (And.intro (Vw.ptr _ _ _ _ rfl) (And.intro (Vw.ptr _ _ _ _ rfl) (And.intro (Vw.same _ rfl) trivial)))) (And.intro (And.intro rfl (BVw.oneL (And.intro (Vw.same _ rfl) trivial))) (And.intro (And.intro rfl (BVw.oneL (And.intro (Vw.same _ rfl) trivial))) trivial))

theorem f26b0_ok {σ : Type} {Hc : σ → AHeap} {fi0 : Fn} {ff0 fc0 : List AVal} {g0 : σ → (List Int) → Option (Bool × σ)} (hg0 : Clo Try.prog fi0 ff0 fc0 Hc (fun (x : (List Int)) => [.isl 1 (x.map e_i64) false]) (fun (b : Bool) => .bool b) g0) {a0 : List Int} {a1 : Int} {z0 : σ} {m : Option Nat} {o : σ} (h : S_slices_Chunk_int_1 g0 m a0 a1 z0 = some o) : ACalls Try.prog 26 [.fn fi0 ff0 fc0, .ptr (0, 0) 0 0, .ptr (0, 1) 0 0] ([((0, 0), .one [.isl 1 (a0.map e_i64) false]), ((0, 1), .one [.int .i64 a1])] ++ Hc z0) 3 (Gives 4 (.tup []) ([((0, 0), .one [.isl 1 (a0.map e_i64) false]), ((0, 1), .one [.int .i64 a1])] ++ up 3 (Hc o))) := bfn_of (L := f26b0_L) f26b0_low f26b0_fok (Nat.le_of_ble_eq_true rfl) (f26b0_start hg0 h)

def f6_c0 : LCode := (.seq (.region [⟨some 3, .box (.t 0), none⟩,
   ⟨some 6, .mv (.c (.val (.slice none 0 0))), none⟩,
   ⟨some 7, .mv (.c (.int .i64 0)), none⟩])
 (.seq (.block 0
  (.seq (.region [⟨some 11, .load false 1 (.t 3), none⟩,
    ⟨some 12, .bin .lss (.t 11) (.c (.int .i64 0)), none⟩,
    ⟨some 13, .mv (.t 12), none⟩,
    ⟨some 14, .mv (.t 2), some (13, false)⟩,
    ⟨some 15, .bin .lss (.t 14) (.c (.int .i64 1)), some (13, false)⟩,
    ⟨some 16, .pick (.t 13) (.c (.bool true)) (.t 15), none⟩,
    ⟨some 10, .mv (.t 16), none⟩])
  (.cond (.t 10)
   (.seq (.region [⟨some 6, .mv (.c (.val (.slice none 0 0))), none⟩,
     ⟨some 7, .mv (.c (.int .i64 1)), none⟩])
   .ret)
   (.seq (.region [⟨some 18, .mv (.t 1), none⟩,
     ⟨some 19, .len false (.t 18), none⟩,
     ⟨some 20, .bin .gtr (.t 19) (.c (.int .i64 1000)), none⟩,
     ⟨some 17, .mv (.t 20), none⟩])
   (.cond (.t 17)
    (.seq (.region [⟨some 6, .mv (.c (.val (.slice none 0 0))), none⟩,
      ⟨some 7, .mv (.c (.int .i64 2)), none⟩])
    .ret)
    (.seq (.region [⟨some 22, .mv (.t 1), none⟩,
      ⟨some 23, .len false (.t 22), none⟩,
      ⟨some 24, .bin .eql (.t 23) (.c (.int .i64 0)), none⟩,
      ⟨some 21, .mv (.t 24), none⟩])
    (.cond (.t 21)
     (.seq (.region [⟨some 25, .load false 1 (.t 3), none⟩,
       ⟨some 26, .build [(.int .i64 0), (.int .i64 0), (.bool false), (.isl 1 [] true)] [(0, 1, (.t 25)), (2, 1, (.c (.bool true)))], none⟩,
       ⟨some 27, .mkSl true 4 [(.int .i64 0), (.int .i64 0), (.bool false), (.isl 1 [] true)] 1 [(0, (.t 26))], none⟩,
       ⟨some 6, .mv (.t 27), none⟩,
       ⟨some 7, .mv (.c (.int .i64 0)), none⟩])
     .ret)
     .skip)))))))
 (.seq (.region [⟨some 8, .alloc [(.isl 4 [] true)], none⟩])
 (.seq (.seq (.region [⟨some 28, .mv (.t 1), none⟩,
   ⟨some 29, .mv (.t 2), none⟩,
   ⟨some 30, .call 19 [(.t 28), (.t 29)], none⟩])
 (.block 1
  (.rng (.t 30) [31]
   (.region [⟨some 9, .mv (.t 31), none⟩])
   (.block 2
    (.draw [⟨⟨some 32, .load false 1 (.t 8), none⟩, []⟩,
      ⟨⟨some 33, .load false 1 (.t 3), none⟩, []⟩,
      ⟨⟨some 34, .load false 1 (.t 8), none⟩, []⟩,
      ⟨⟨some 35, .len false (.t 34), none⟩, []⟩,
      ⟨⟨some 36, .mv (.t 9), none⟩, []⟩,
      ⟨⟨some 37, .call 20 [(.t 36)], none⟩, [0, 1, 2]⟩,
      ⟨⟨some 38, .build [(.int .i64 0), (.int .i64 0), (.bool false), (.isl 1 [] true)] [(0, 1, (.t 33)), (1, 1, (.t 35)), (3, 1, (.t 37))], none⟩, []⟩,
      ⟨⟨some 39, .mkSl true 4 [(.int .i64 0), (.int .i64 0), (.bool false), (.isl 1 [] true)] 1 [(0, (.t 38))], none⟩, [0]⟩,
      ⟨⟨some 40, .app false 4 48 (.t 32) (.t 39), none⟩, []⟩,
      ⟨⟨none, .store 1 (.t 8) (.t 40), none⟩, []⟩])))))
 (.seq (.region [⟨some 41, .load false 1 (.t 8), none⟩,
   ⟨some 42, .load false 1 (.t 8), none⟩,
   ⟨some 43, .len false (.t 42), none⟩,
   ⟨some 44, .bin .sub (.t 43) (.c (.int .i64 1)), none⟩,
   ⟨some 45, .iaddr 4 (.t 41) (.t 44), none⟩,
   ⟨some 46, .faddr 2 (.t 45), none⟩,
   ⟨none, .store 1 (.t 46) (.c (.bool true)), none⟩])
 (.seq (.region [⟨some 47, .load false 1 (.t 8), none⟩,
   ⟨some 6, .mv (.t 47), none⟩,
   ⟨some 7, .mv (.c (.int .i64 0)), none⟩])
 .ret))))))
def f6_lay : Lay := ⟨48, [40], false⟩
def f6_res : List LRes := [.t 6, .t 7]
def f6_L : LFn := ⟨3, f6_lay, f6_c0, f6_res⟩
theorem f6_low : lowFn Try.prog [40] 6 = some f6_L := by kernel_rfl
theorem f6_fok : FnOk Try.prog 6 := ⟨_, Try.func6, rfl, rfl⟩
noncomputable def S_progress_Split (m : Option Nat) (a0 : Int) (a1 : List Int) (a2 : Int) : Option ((List G_QChunk) × Int) :=
  if ((decide (a0 < 0)) || (decide (a2 < 1))) = true then
    some ([], 1)
  else
    if (decide (((a1.map e_i64).length : Int) > 1000)) = true then
      some ([], 2)
    else
      if (((a1.map e_i64).length : Int) == 0) = true then
        some (([(G_QChunk.mk a0 0 true ([] : List Int))] : List G_QChunk), 0)
      else
        (S_slices_Chunk_int m a1 a2).bind fun v1 =>
        (S_slices_Chunk_int_1 (fun (s : (List G_QChunk)) (x : (List Int)) => (S_progress_Split_roundc m a0 s x).map fun o => (o.1, o.2)) m a1 a2 ([] : List G_QChunk)).bind fun v2 =>
        if (0 : Int) ≤ (W (((v2.length : Nat) : Int) - 1)) ∧ (W (((v2.length : Nat) : Int) - 1)) < ((v2.length : Nat) : Int) then
        if (0 + (W (((v2.length : Nat) : Int) - 1)).toNat) < v2.length then
        some ((v2.set (0 + (W (((v2.length : Nat) : Int) - 1)).toNat) (G_QChunk.mk ((v2.getD (0 + (W (((v2.length : Nat) : Int) - 1)).toNat) default).f_Token) ((v2.getD (0 + (W (((v2.length : Nat) : Int) - 1)).toNat) default).f_Seq) true ((v2.getD (0 + (W (((v2.length : Nat) : Int) - 1)).toNat) default).f_Items))), 0)
        else none
        else none

def f6_Q (a0 : Int) (a1 : List Int) (a2 : Int) (o : (List G_QChunk) × Int) : Exit → Env → AHeap → Nat → Prop := FinK f6_res (PureEnd (.tup [.isl 4 (o.1.map e_QChunk) false, .int .i64 o.2]))

theorem f6_start {a0 : Int} {a1 : List Int} {a2 : Int} {m : Option Nat} {o : (List G_QChunk) × Int} (h : S_progress_Split m a0 a1 a2 = some o) : LWp Try.prog f6_lay 0 f6_c0 (f6_Q a0 a1 a2 o) (initEnv 0 [.int .i64 a0, .isl 1 (a1.map e_i64) false, .int .i64 a2]) [] 0 := by
  unfold S_progress_Split at h
  refine seqI ?_
  refine regI ?_
  refine seqI ?_
  refine blockI ?_
  refine seqI ?_
  refine regI ?_
  refine And.intro (fun hp => hp) ?_
  show yops _ _ _ [(15, .cnd ((decide (a0 < 0)) == false) (.bool (decide (a2 < 1)))), (14, .cnd ((decide (a0 < 0)) == false) (.int .i64 a2)), (13, .bool (decide (a0 < 0))), (12, .bool (decide (a0 < 0))), (11, .int .i64 a0), (7, .int .i64 0), (6, .val (.slice none 0 0)), (3, .ptr (0, 0) 0 0), (0, .int .i64 a0), (1, .isl 1 (a1.map e_i64) false), (2, .int .i64 a2)] _ _
  refine And.intro (fun hc => (bqf hc)) ?_
  refine LWp.sim (e := [(1, .isl 1 (a1.map e_i64) false), (2, .int .i64 a2), (3, .ptr (0, 0) 0 0), (10, .bool ((decide (a0 < 0)) || (decide (a2 < 1))))]) (L := [((0, 0), .one [.int .i64 a0])]) (n := 1) ?_ ?_
  · exact simI (M := [((0, 0), (0, 0))]) rfl (And.intro (Vw.same _ rfl) (And.intro (Vw.same _ rfl) (And.intro (Vw.ptr _ _ _ _ rfl) (And.intro (Vw.same _ rfl) trivial)))) (And.intro (And.intro rfl (BVw.oneL (And.intro (Vw.same _ rfl) trivial))) trivial)
  refine condI (v := ((decide (a0 < 0)) || (decide (a2 < 1)))) rfl trivial (fun h1 => ?_) (fun h1 => ?_)
  · have h := ite_tt h1 h
    refine seqI ?_
    refine regI ?_
    refine retI ?_
    cases h
    exact And.intro trivial (And.intro trivial (And.intro rfl (Vw.tupL (And.intro (Vw.nilI _ _) (And.intro (Vw.same _ rfl) trivial)))))
  · have h := ite_ff h1 h
    refine seqI ?_
    refine regI ?_
    refine condI (v := (decide (((a1.map e_i64).length : Int) > 1000))) rfl trivial (fun h2 => ?_) (fun h2 => ?_)
    · have h := ite_tt h2 h
      refine seqI ?_
      refine regI ?_
      refine retI ?_
      cases h
      exact And.intro trivial (And.intro trivial (And.intro rfl (Vw.tupL (And.intro (Vw.nilI _ _) (And.intro (Vw.same _ rfl) trivial)))))
    · have h := ite_ff h2 h
      refine seqI ?_
      refine regI ?_
      refine LWp.sim (e := [(1, .isl 1 (a1.map e_i64) false), (2, .int .i64 a2), (3, .ptr (0, 0) 0 0), (21, .bool (((a1.map e_i64).length : Int) == 0))]) (L := [((0, 0), .one [.int .i64 a0])]) (n := 1) ?_ ?_
      · exact simI (M := [((0, 0), (0, 0))]) rfl (And.intro (Vw.same _ rfl) (And.intro (Vw.same _ rfl) (And.intro (Vw.ptr _ _ _ _ rfl) (And.intro (Vw.same _ rfl) trivial)))) (And.intro (And.intro rfl (BVw.oneL (And.intro (Vw.same _ rfl) trivial))) trivial)
      refine condI (v := (((a1.map e_i64).length : Int) == 0)) rfl trivial (fun h3 => ?_) (fun h3 => ?_)
      · have h := ite_tt h3 h
        refine seqI ?_
        refine regI ?_
        refine retI ?_
        cases h
        exact And.intro trivial (And.intro trivial (And.intro rfl (Vw.tupL (And.intro (Vw.islF _ _ _) (And.intro (Vw.same _ rfl) trivial)))))
      · have h := ite_ff h3 h
        refine skipI ?_
        refine seqI ?_
        refine regI ?_
        refine LWp.ghost (b := (1, 0)) 4 rfl rfl ?_
        refine LWp.sim (e := [(1, .isl 1 (a1.map e_i64) false), (2, .int .i64 a2), (3, .ptr (0, 0) 0 0), (8, .ptr (1, 0) 0 0)]) (L := [((0, 0), .one [.int .i64 a0]), ((1, 0), .one [.msl (2, 0) 4 0 (([] : List G_QChunk).length) false]), ((2, 0), .rows 4 (([] : List G_QChunk).map e_QChunk))]) (n := 3) ?_ ?_
        · exact simI (M := [((0, 0), (0, 0)), ((1, 0), (1, 0)), ((2, 0), (2, 0))]) rfl (And.intro (Vw.same _ rfl) (And.intro (Vw.same _ rfl) (And.intro (Vw.ptr _ _ _ _ rfl) (And.intro (Vw.ptr _ _ _ _ rfl) trivial)))) (And.intro (And.intro rfl (BVw.oneL (And.intro (Vw.same _ rfl) trivial))) (And.intro (And.intro rfl (BVw.oneL (And.intro (Vw.islM _ _ _ _ _ _ rfl rfl) trivial))) (And.intro (And.intro rfl (BVw.enc e_QChunk (fun _ => rfl) _ ([] : List G_QChunk))) trivial)))
        refine seqI ?_
        refine seqI ?_
        refine regI ?_
        obtain ⟨v1, h4, h⟩ := bind_some h
        refine bcall (k := 3) (m := 2) (L' := [((3, 0), .one [.isl 1 (a1.map e_i64) false]), ((4, 0), .one [.int .i64 a2])]) (rest := [((0, 0), .one [.int .i64 a0]), ((1, 0), .one [.msl (2, 0) 4 0 (([] : List G_QChunk).length) false]), ((2, 0), .rows 4 (([] : List G_QChunk).map e_QChunk))]) (R' := .fn (.func 26) [] [.ptr (3, 0) 0 0, .ptr (4, 0) 0 0]) [] (f19b0_ok h4) rfl rfl rfl (And.intro (Vw.same _ rfl) (And.intro (Vw.same _ rfl) trivial)) trivial rfl (And.intro rfl (And.intro rfl (And.intro rfl (And.intro rfl trivial)))) rfl ?_
        refine blockI ?_
        refine LWp.sim (e := [(3, .ptr (0, 0) 0 0), (8, .ptr (1, 0) 0 0), (30, .fn (.func 26) [] [.ptr (2, 0) 0 0, .ptr (3, 0) 0 0])]) (L := [((0, 0), .one [.int .i64 a0]), ((1, 0), .one [.msl (4, 0) 4 0 (([] : List G_QChunk).length) false]), ((2, 0), .one [.isl 1 (a1.map e_i64) false]), ((3, 0), .one [.int .i64 a2]), ((4, 0), .rows 4 (([] : List G_QChunk).map e_QChunk))]) (n := 5) ?_ ?_
        · exact simI (M := [((0, 0), (0, 0)), ((1, 0), (1, 0)), ((2, 0), (3, 0)), ((3, 0), (4, 0)), ((4, 0), (2, 0))]) rfl (And.intro (Vw.ptr _ _ _ _ rfl) (And.intro (Vw.ptr _ _ _ _ rfl) (And.intro (Vw.fnL trivial (And.intro (Vw.ptr _ _ _ _ rfl) (And.intro (Vw.ptr _ _ _ _ rfl) trivial))) trivial))) (And.intro (And.intro rfl (BVw.oneL (And.intro (Vw.same _ rfl) trivial))) (And.intro (And.intro rfl (BVw.oneL (And.intro (Vw.mslE rfl (by first | rfl | simp) rfl) trivial))) (And.intro (And.intro rfl (BVw.oneL (And.intro (Vw.same _ rfl) trivial))) (And.intro (And.intro rfl (BVw.oneL (And.intro (Vw.same _ rfl) trivial))) (And.intro (And.intro rfl (BVw.enc e_QChunk (fun _ => rfl) _ ([] : List G_QChunk))) trivial)))))
        refine LWp_rng (gf := 26) (lb := [.ptr (2, 0) 0 0, .ptr (3, 0) 0 0]) [(3, .ptr (0, 0) 0 0), (8, .ptr (1, 0) 0 0)] rfl trivial (And.intro (rfl) (And.intro (rfl) trivial)) (fun l r hr => ?_)
        obtain ⟨v2, h5, h⟩ := bind_some h
        refine bcall (k := 3) (m := 1) (L' := [((2, 0), .one [.isl 1 (a1.map e_i64) false]), ((3, 0), .one [.int .i64 a2]), ((0, 0), .one [.int .i64 a0]), ((1, 0), .one [.msl (6, 0) 4 0 v2.length false]), ((5, 0), .lrec l r [(3, .ptr (0, 0) 0 0), (8, .ptr (1, 0) 0 0)]), ((6, 0), .rows 4 (v2.map e_QChunk))]) (rest := []) (R' := .tup []) [((0, 0), (2, 0)), ((0, 1), (3, 0)), ((1, 0), (0, 0)), ((1, 1), (1, 0)), ((2, 0), (4, 0)), ((1, 2), (5, 0))] (f26b0_ok (show Clo Try.prog (.yield l) [] [] (fun (s : (List G_QChunk)) => [((1, 0), .one [.int .i64 a0]), ((1, 1), .one [.msl (2, 0) 4 0 s.length false]), ((1, 2), .lrec l r [(3, .ptr (1, 0) 0 0), (8, .ptr (1, 1) 0 0)]), ((2, 0), .rows 4 (s.map e_QChunk))]) (fun (x : (List Int)) => [.isl 1 (x.map e_i64) false]) (fun (b : Bool) => .bool b) (fun (s : (List G_QChunk)) (x : (List Int)) => (S_progress_Split_roundc m a0 s x).map fun o => (o.1, o.2)) from Clo.mkY (fun s => Tl.lit rfl (And.intro (rfl) (And.intro (rfl) (And.intro (rfl) (And.intro (rows_inP e_QChunk (fun _ => rfl) _ _) trivial)))) rfl) (fun _ => rfl) (fun s x o h => by obtain ⟨o1, h1, rfl⟩ := Option.map_eq_some_iff.1 h; exact Exists.intro _ (And.intro (f1000000c0_ok hr h1) (And.intro rfl (And.intro rfl (And.intro rfl (And.intro rfl (And.intro rfl (And.intro rfl (And.intro rfl (And.intro (rows_ren e_QChunk (fun _ => rfl) _ _) trivial))))))))))) h5) rfl rfl rfl (And.intro (Vw.same _ rfl) (And.intro (Vw.ptr _ _ _ _ rfl) (And.intro (Vw.ptr _ _ _ _ rfl) trivial))) (And.intro (h0I (2, 0) rfl rfl (BVw.oneL (And.intro (Vw.same _ rfl) trivial))) (And.intro (h0I (3, 0) rfl rfl (BVw.oneL (And.intro (Vw.same _ rfl) trivial))) (And.intro (h0I (0, 0) rfl rfl (BVw.oneL (And.intro (Vw.same _ rfl) trivial))) (And.intro (h0I (1, 0) rfl rfl (BVw.oneL (And.intro (Vw.mslE rfl (by first | rfl | simp) rfl) trivial))) (And.intro (h0I (5, 0) rfl rfl (BVw.lrecL (And.intro (And.intro rfl (Vw.ptr _ _ _ _ rfl)) (And.intro (And.intro rfl (Vw.ptr _ _ _ _ rfl)) trivial)))) (And.intro (h0I (4, 0) rfl rfl (BVw.enc e_QChunk (fun _ => rfl) _ ([] : List G_QChunk))) trivial)))))) (nid_ren _ rfl) (And.intro rfl (And.intro rfl (And.intro rfl (And.intro rfl (And.intro rfl (And.intro rfl (And.intro rfl (And.intro rfl (And.intro rfl (And.intro rfl (And.intro rfl (And.intro ((congrArg (ABlock.ren _) (rows_ren e_QChunk (fun _ => rfl) _ _)).trans (rows_ren e_QChunk (fun _ => rfl) _ _)) trivial)))))))))))) rfl ?_
        refine Exists.intro (5, 0) (Exists.intro _ (And.intro rfl ?_))
        refine LWp.sim (e := [(8, .ptr (0, 0) 0 0)]) (L := [((0, 0), .one [.msl (1, 0) 4 0 v2.length false]), ((1, 0), .rows 4 (v2.map e_QChunk))]) (n := 2) ?_ ?_
        · exact simI (M := [((0, 0), (1, 0)), ((1, 0), (6, 0))]) rfl (And.intro (Vw.ptr _ _ _ _ rfl) trivial) (And.intro (And.intro rfl (BVw.oneL (And.intro (Vw.mslE rfl (by first | rfl | simp) rfl) trivial))) (And.intro (And.intro rfl (BVw.enc e_QChunk (fun _ => rfl) _ v2)) trivial))
        refine seqI ?_
        refine regI ?_
        obtain ⟨h6, h⟩ := ite_some h
        refine And.intro h6 ?_
        show yops _ _ _ [(45, .ptr (1, 0) (0 + (W (((v2.length : Nat) : Int) - 1)).toNat) 0), (44, .int .i64 (W (((v2.length : Nat) : Int) - 1))), (43, .int .i64 ((v2.length : Nat) : Int)), (42, .msl (1, 0) 4 0 v2.length false), (41, .msl (1, 0) 4 0 v2.length false), (8, .ptr (0, 0) 0 0)] _ _
        obtain ⟨h7, h⟩ := ite_some h
        refine Exists.intro ((v2.set (0 + (W (((v2.length : Nat) : Int) - 1)).toNat) (G_QChunk.mk ((v2.getD (0 + (W (((v2.length : Nat) : Int) - 1)).toNat) default).f_Token) ((v2.getD (0 + (W (((v2.length : Nat) : Int) - 1)).toNat) default).f_Seq) true ((v2.getD (0 + (W (((v2.length : Nat) : Int) - 1)).toNat) default).f_Items))).map e_QChunk) (And.intro (set_enc e_QChunk _ _ _ _ _ h7 rfl) (And.intro (And.intro rfl (And.intro (lt_map e_QChunk h7) (Nat.le_of_ble_eq_true rfl))) ?_))
        refine seqI ?_
        refine regI ?_
        refine LWp.sim (e := [(6, .msl (0, 0) 4 0 v2.length false), (7, .int .i64 0)]) (L := [((0, 0), .rows 4 ((v2.set (0 + (W (((v2.length : Nat) : Int) - 1)).toNat) (G_QChunk.mk ((v2.getD (0 + (W (((v2.length : Nat) : Int) - 1)).toNat) default).f_Token) ((v2.getD (0 + (W (((v2.length : Nat) : Int) - 1)).toNat) default).f_Seq) true ((v2.getD (0 + (W (((v2.length : Nat) : Int) - 1)).toNat) default).f_Items))).map e_QChunk))]) (n := 1) ?_ ?_
        · exact simI (M := [((0, 0), (1, 0))]) rfl (And.intro (Vw.mslE rfl (by first | rfl | simp) rfl) (And.intro (Vw.same _ rfl) trivial)) (And.intro (And.intro rfl (BVw.enc e_QChunk (fun _ => rfl) _ (v2.set (0 + (W (((v2.length : Nat) : Int) - 1)).toNat) (G_QChunk.mk ((v2.getD (0 + (W (((v2.length : Nat) : Int) - 1)).toNat) default).f_Token) ((v2.getD (0 + (W (((v2.length : Nat) : Int) - 1)).toNat) default).f_Seq) true ((v2.getD (0 + (W (((v2.length : Nat) : Int) - 1)).toNat) default).f_Items))))) trivial)
        refine retI ?_
        cases h
        exact And.intro trivial (And.intro trivial (And.intro rfl (Vw.tupL (And.intro (Vw.frzB e_QChunk e_QChunk_ok (fun h => h) rfl rfl (by first | rfl | simp)) (And.intro (Vw.same _ rfl) trivial)))))

theorem f6_ok {a0 : Int} {a1 : List Int} {a2 : Int} {m : Option Nat} {o : (List G_QChunk) × Int} (h : S_progress_Split m a0 a1 a2 = some o) : PFn Try.prog 6 [.int .i64 a0, .isl 1 (a1.map e_i64) false, .int .i64 a2] (.tup [.isl 4 (o.1.map e_QChunk) false, .int .i64 o.2]) := PFn.ofFnW (L := f6_L) f6_low f6_fok (Nat.le_of_ble_eq_true rfl) rfl (f6_start h)

def f9_c1 : LCode := (.region [⟨some 63, .bin .add (.t 34) (.c (.int .i64 1)), none⟩,
   ⟨some 34, .mv (.t 63), none⟩])
def f9_c2 : LCode := (.seq (.region [⟨some 35, .bin .lss (.t 34) (.t 33), none⟩])
 (.seq (.cond (.t 35)
  .skip
  (.exit 1))
 (.seq (.block 2
  (.seq (.region [⟨some 36, .iaddr 1 (.t 32) (.t 34), none⟩,
    ⟨some 37, .load false 1 (.t 36), none⟩,
    ⟨some 11, .mv (.t 37), none⟩])
  (.seq (.region [⟨some 38, .mv (.t 11), none⟩,
    ⟨some 39, .mnx true [(.t 38), (.c (.int .i64 0))], none⟩,
    ⟨some 40, .mv (.t 1), none⟩,
    ⟨some 41, .mnx false [(.t 39), (.t 40)], none⟩,
    ⟨some 42, .bin .mul (.t 41) (.c (.int .i64 100)), none⟩,
    ⟨some 43, .mv (.t 1), none⟩,
    ⟨some 44, .bin .quo (.t 42) (.t 43), none⟩,
    ⟨some 12, .mv (.t 44), none⟩])
  (.seq (.region [⟨some 45, .mv (.t 12), none⟩,
    ⟨some 46, .bin .eql (.t 45) (.c (.int .i64 100)), none⟩,
    ⟨some 47, .mv (.t 46), none⟩,
    ⟨some 48, .mv (.t 9), some (47, true)⟩,
    ⟨some 49, .bin .lss (.t 48) (.c (.int .i64 100)), some (47, true)⟩,
    ⟨some 50, .pick (.t 47) (.t 49) (.c (.bool false)), none⟩,
    ⟨some 51, .mv (.t 50), none⟩,
    ⟨some 52, .mv (.t 12), some (51, false)⟩,
    ⟨some 53, .mv (.t 9), some (51, false)⟩,
    ⟨some 54, .mv (.t 2), some (51, false)⟩,
    ⟨some 55, .bin .add (.t 53) (.t 54), some (51, false)⟩,
    ⟨some 56, .bin .geq (.t 52) (.t 55), some (51, false)⟩,
    ⟨some 57, .pick (.t 51) (.c (.bool true)) (.t 56), none⟩])
  (.cond (.t 57)
   (.seq (.region [⟨some 58, .mv (.t 8), none⟩,
     ⟨some 59, .mv (.t 12), none⟩,
     ⟨some 60, .mkSl true 1 [(.int .i64 0)] 1 [(0, (.t 59))], none⟩,
     ⟨some 61, .app true 1 8 (.t 58) (.t 60), none⟩,
     ⟨some 8, .mv (.t 61), none⟩])
   (.region [⟨some 62, .mv (.t 12), none⟩,
     ⟨some 9, .mv (.t 62), none⟩]))
   .skip)))))
 f9_c1)))
def f9_c0 : LCode := (.seq (.region [⟨some 64, .mv (.t 8), none⟩,
   ⟨some 6, .mv (.t 64), none⟩,
   ⟨some 7, .mv (.c (.int .i64 0)), none⟩])
 .ret)
def f9_c3 : LCode := (.seq (.region [⟨some 6, .mv (.c (.val (.slice none 0 0))), none⟩,
   ⟨some 7, .mv (.c (.int .i64 0)), none⟩])
 (.seq (.block 0
  (.seq (.region [⟨some 14, .mv (.t 1), none⟩,
    ⟨some 15, .bin .lss (.t 14) (.c (.int .i64 1)), none⟩,
    ⟨some 16, .mv (.t 15), none⟩,
    ⟨some 17, .mv (.t 1), some (16, false)⟩,
    ⟨some 18, .bin .gtr (.t 17) (.c (.int .i64 2147483647)), some (16, false)⟩,
    ⟨some 19, .pick (.t 16) (.c (.bool true)) (.t 18), none⟩,
    ⟨some 20, .mv (.t 19), none⟩,
    ⟨some 21, .mv (.t 2), some (20, false)⟩,
    ⟨some 22, .bin .lss (.t 21) (.c (.int .i64 1)), some (20, false)⟩,
    ⟨some 23, .pick (.t 20) (.c (.bool true)) (.t 22), none⟩,
    ⟨some 24, .mv (.t 23), none⟩,
    ⟨some 25, .mv (.t 2), some (24, false)⟩,
    ⟨some 26, .bin .gtr (.t 25) (.c (.int .i64 100)), some (24, false)⟩,
    ⟨some 27, .pick (.t 24) (.c (.bool true)) (.t 26), none⟩,
    ⟨some 13, .mv (.t 27), none⟩])
  (.cond (.t 13)
   (.seq (.region [⟨some 6, .mv (.c (.val (.slice none 0 0))), none⟩,
     ⟨some 7, .mv (.c (.int .i64 1)), none⟩])
   .ret)
   (.seq (.region [⟨some 29, .mv (.t 0), none⟩,
     ⟨some 30, .len false (.t 29), none⟩,
     ⟨some 31, .bin .gtr (.t 30) (.c (.int .i64 1000)), none⟩,
     ⟨some 28, .mv (.t 31), none⟩])
   (.cond (.t 28)
    (.seq (.region [⟨some 6, .mv (.c (.val (.slice none 0 0))), none⟩,
      ⟨some 7, .mv (.c (.int .i64 2)), none⟩])
    .ret)
    .skip)))))
 (.seq (.region [⟨some 8, .mv (.c (.val (.slice none 0 0))), none⟩])
 (.seq (.region [⟨some 9, .mv (.c (.int .i64 0)), none⟩])
 (.seq (.seq (.region [⟨some 32, .mv (.t 0), none⟩,
   ⟨some 33, .len false (.t 32), none⟩,
   ⟨some 34, .mv (.c (.int .i64 0)), none⟩])
 (.block 1
  (.loop
   f9_c2)))
 f9_c0)))))
def f9_lay : Lay := ⟨65, [], false⟩
def f9_res : List LRes := [.t 6, .t 7]
def f9_L : LFn := ⟨3, f9_lay, f9_c3, f9_res⟩
theorem f9_low : lowFn Try.prog [] 9 = some f9_L := by kernel_rfl
theorem f9_fok : FnOk Try.prog 9 := ⟨_, Try.func9, rfl, rfl⟩
def f9_Q (a0 : List Int) (a1 : Int) (a2 : Int) (o : (List Int) × Int) : Exit → Env → AHeap → Nat → Prop := FinK f9_res (PureEnd (.tup [.isl 1 (o.1.map e_i64) false, .int .i64 o.2]))

def f9_L1_env (a0 : List Int) (a1 : Int) (a2 : Int) (s : ((List Int) × Int × Int)) : Env := [(1, .int .i64 a1), (2, .int .i64 a2), (8, .osl (0, 0) 1 (s.1.map e_i64)), (9, .int .i64 s.2.1), (32, .isl 1 (a0.map e_i64) false), (33, .int .i64 ((a0.map e_i64).length : Int)), (34, .int .i64 s.2.2)]
def f9_L1_hp (a0 : List Int) (a1 : Int) (a2 : Int) (s : ((List Int) × Int × Int)) : AHeap := [((0, 0), .tok)]
def f9_L1_Q (a0 : List Int) (a1 : Int) (a2 : Int) (o : ((List Int) × Int)) : Exit → Env → AHeap → Nat → Prop := (QBlock 1 (QSeq Try.prog f9_lay 0 f9_c0 (f9_Q a0 a1 a2 o)))

noncomputable def S_progress_Percentages_j3 (m : Option Nat) (a0 : List Int) (a1 : Int) (a2 : Int) (v5 : Int) (v8 : List Int) (v9 : Int) : Option (((List Int) × Int × Int) ⊕ ((List Int) × Int)) :=
  some (.inl (v8, v9, (W (v5 + 1))))

theorem f9_j3_ok {a0 : List Int} {a1 : Int} {a2 : Int} {v5 : Int} {v8 : List Int} {v9 : Int} {m : Option Nat} {o : (((List Int) × Int × Int) ⊕ ((List Int) × Int))} (h : S_progress_Percentages_j3 m a0 a1 a2 v5 v8 v9 = some o) :
    LWp Try.prog f9_lay 0 f9_c1 (BodyQ 0 1 (f9_L1_env a0 a1 a2) (f9_L1_hp a0 a1 a2) (f9_L1_Q a0 a1 a2) o) [(1, .int .i64 a1), (2, .int .i64 a2), (8, .osl (0, 0) 1 (v8.map e_i64)), (9, .int .i64 v9), (32, .isl 1 (a0.map e_i64) false), (33, .int .i64 ((a0.map e_i64).length : Int)), (34, .int .i64 v5)] [((0, 0), .tok)] 1 := by
  unfold S_progress_Percentages_j3 at h
  refine regI ?_
  cases h
  exact And.intro rfl (simI (M := [((0, 0), (0, 0))]) rfl (And.intro (Vw.same _ rfl) (And.intro (Vw.same _ rfl) (And.intro (Vw.osl _ _ _ _ rfl) (And.intro (Vw.same _ rfl) (And.intro (Vw.same _ rfl) (And.intro (Vw.same _ rfl) (And.intro (Vw.same _ rfl) trivial))))))) (And.intro (And.intro rfl BVw.tok) trivial))

noncomputable def S_progress_Percentages_j4 (m : Option Nat) (v3 : List Int) : Option ((List Int) × Int) :=
  some (v3, 0)

noncomputable def S_progress_Percentages_b1 (m : Option Nat) (a0 : List Int) (a1 : Int) (a2 : Int) (v3 : List Int) (v4 : Int) (v5 : Int) : Option (((List Int) × Int × Int) ⊕ ((List Int) × Int)) :=
  if (decide (v5 < ((a0.map e_i64).length : Int))) = true then
    if (0 : Int) ≤ v5 ∧ v5 < ((a0.map e_i64).length : Int) then
    if a1 ≠ 0 then
    if ((((W ((W ((if a1 < (if 0 > (a0.getD v5.toNat default) then 0 else (a0.getD v5.toNat default)) then a1 else (if 0 > (a0.getD v5.toNat default) then 0 else (a0.getD v5.toNat default))) * 100)).tdiv a1)) == 100) && (decide (v4 < 100))) || (decide ((W ((W ((if a1 < (if 0 > (a0.getD v5.toNat default) then 0 else (a0.getD v5.toNat default)) then a1 else (if 0 > (a0.getD v5.toNat default) then 0 else (a0.getD v5.toNat default))) * 100)).tdiv a1)) ≥ (W (v4 + a2))))) = true then
      if ((v3 ++ ([(W ((W ((if a1 < (if 0 > (a0.getD v5.toNat default) then 0 else (a0.getD v5.toNat default)) then a1 else (if 0 > (a0.getD v5.toNat default) then 0 else (a0.getD v5.toNat default))) * 100)).tdiv a1))] : List Int)).map e_i64).length * 8 ≤ 140737488355328 then
      S_progress_Percentages_j3 m a0 a1 a2 v5 (v3 ++ ([(W ((W ((if a1 < (if 0 > (a0.getD v5.toNat default) then 0 else (a0.getD v5.toNat default)) then a1 else (if 0 > (a0.getD v5.toNat default) then 0 else (a0.getD v5.toNat default))) * 100)).tdiv a1))] : List Int)) (W ((W ((if a1 < (if 0 > (a0.getD v5.toNat default) then 0 else (a0.getD v5.toNat default)) then a1 else (if 0 > (a0.getD v5.toNat default) then 0 else (a0.getD v5.toNat default))) * 100)).tdiv a1))
      else none
    else
      S_progress_Percentages_j3 m a0 a1 a2 v5 v3 v4
    else none
    else none
  else
    Option.map Sum.inr (
      S_progress_Percentages_j4 m v3)

noncomputable def S_progress_Percentages_l1 (m : Option Nat) (a0 : List Int) (a1 : Int) (a2 : Int) (v3 : List Int) (v4 : Int) (v5 : Int) : Option ((List Int) × Int) := loopM m (fun (s : ((List Int) × Int × Int)) => S_progress_Percentages_b1 m a0 a1 a2 s.1 s.2.1 s.2.2) (v3, v4, v5)

theorem f9_j4_ok {a0 : List Int} {a1 : Int} {a2 : Int} {v3 : List Int} {m : Option Nat} {o : ((List Int) × Int)} (h : S_progress_Percentages_j4 m v3 = some o) :
    LWp Try.prog f9_lay 0 f9_c0 (f9_Q a0 a1 a2 o) [(8, .osl (0, 0) 1 (v3.map e_i64))] [((0, 0), .tok)] 1 := by
  unfold S_progress_Percentages_j4 at h
  refine seqI ?_
  refine regI ?_
  refine retI ?_
  cases h
  exact And.intro trivial (And.intro trivial (And.intro rfl (Vw.tupL (And.intro (Vw.oslI _ _ _) (And.intro (Vw.same _ rfl) trivial)))))

theorem f9_L1_bok {a0 : List Int} {a1 : Int} {a2 : Int} {v3 : List Int} {v4 : Int} {v5 : Int} {m : Option Nat} {o : ((List Int) × Int × Int) ⊕ ((List Int) × Int)} (h : S_progress_Percentages_b1 m a0 a1 a2 v3 v4 v5 = some o) :
    LWp Try.prog f9_lay 0 f9_c2 (BodyQ 0 1 (f9_L1_env a0 a1 a2) (f9_L1_hp a0 a1 a2) (f9_L1_Q a0 a1 a2) o) [(1, .int .i64 a1), (2, .int .i64 a2), (8, .osl (0, 0) 1 (v3.map e_i64)), (9, .int .i64 v4), (32, .isl 1 (a0.map e_i64) false), (33, .int .i64 ((a0.map e_i64).length : Int)), (34, .int .i64 v5)] [((0, 0), .tok)] 1 := by
  unfold S_progress_Percentages_b1 at h
  refine seqI ?_
  refine regI ?_
  refine seqI ?_
  refine condI (v := (decide (v5 < ((a0.map e_i64).length : Int)))) rfl trivial (fun h13 => ?_) (fun h13 => ?_)
  · have h := ite_tt h13 h
    refine skipI ?_
    refine seqI ?_
    refine blockI ?_
    refine seqI ?_
    refine regI ?_
    obtain ⟨h14, h⟩ := ite_some h
    refine And.intro h14 ?_
    refine Exists.intro (e_i64 (a0.getD v5.toNat default)) (And.intro (getD_enc e_i64 _ _ (idx_ltL e_i64 h14)) (And.intro (And.intro (idx_lt h14) (Nat.le_of_ble_eq_true rfl)) ?_))
    refine seqI ?_
    refine regI ?_
    obtain ⟨h15, h⟩ := ite_some h
    refine And.intro h15 ?_
    show yops _ _ _ [(44, .int .i64 (W ((W ((if a1 < (if 0 > (a0.getD v5.toNat default) then 0 else (a0.getD v5.toNat default)) then a1 else (if 0 > (a0.getD v5.toNat default) then 0 else (a0.getD v5.toNat default))) * 100)).tdiv a1))), (43, .int .i64 a1), (42, .int .i64 (W ((if a1 < (if 0 > (a0.getD v5.toNat default) then 0 else (a0.getD v5.toNat default)) then a1 else (if 0 > (a0.getD v5.toNat default) then 0 else (a0.getD v5.toNat default))) * 100))), (41, .int .i64 (if a1 < (if 0 > (a0.getD v5.toNat default) then 0 else (a0.getD v5.toNat default)) then a1 else (if 0 > (a0.getD v5.toNat default) then 0 else (a0.getD v5.toNat default)))), (40, .int .i64 a1), (39, .int .i64 (if 0 > (a0.getD v5.toNat default) then 0 else (a0.getD v5.toNat default))), (38, .int .i64 (a0.getD v5.toNat default)), (11, .int .i64 (a0.getD v5.toNat default)), (37, .int .i64 (a0.getD v5.toNat default)), (36, .iptr 1 (a0.map e_i64) v5.toNat 0), (35, .bool (decide (v5 < ((a0.map e_i64).length : Int)))), (1, .int .i64 a1), (2, .int .i64 a2), (8, .osl (0, 0) 1 (v3.map e_i64)), (9, .int .i64 v4), (32, .isl 1 (a0.map e_i64) false), (33, .int .i64 ((a0.map e_i64).length : Int)), (34, .int .i64 v5)] _ _
    refine LWp.sim (e := [(1, .int .i64 a1), (2, .int .i64 a2), (8, .osl (0, 0) 1 (v3.map e_i64)), (9, .int .i64 v4), (12, .int .i64 (W ((W ((if a1 < (if 0 > (a0.getD v5.toNat default) then 0 else (a0.getD v5.toNat default)) then a1 else (if 0 > (a0.getD v5.toNat default) then 0 else (a0.getD v5.toNat default))) * 100)).tdiv a1))), (32, .isl 1 (a0.map e_i64) false), (33, .int .i64 ((a0.map e_i64).length : Int)), (34, .int .i64 v5)]) (L := [((0, 0), .tok)]) (n := 1) ?_ ?_
    · exact simI (M := [((0, 0), (0, 0))]) rfl (And.intro (Vw.same _ rfl) (And.intro (Vw.same _ rfl) (And.intro (Vw.osl _ _ _ _ rfl) (And.intro (Vw.same _ rfl) (And.intro (Vw.same _ rfl) (And.intro (Vw.same _ rfl) (And.intro (Vw.same _ rfl) (And.intro (Vw.same _ rfl) trivial)))))))) (And.intro (And.intro rfl BVw.tok) trivial)
    refine seqI ?_
    refine regI ?_
    refine And.intro (fun hp => hp) ?_
    show yops _ _ _ [(49, .cnd (((W ((W ((if a1 < (if 0 > (a0.getD v5.toNat default) then 0 else (a0.getD v5.toNat default)) then a1 else (if 0 > (a0.getD v5.toNat default) then 0 else (a0.getD v5.toNat default))) * 100)).tdiv a1)) == 100) == true) (.bool (decide (v4 < 100)))), (48, .cnd (((W ((W ((if a1 < (if 0 > (a0.getD v5.toNat default) then 0 else (a0.getD v5.toNat default)) then a1 else (if 0 > (a0.getD v5.toNat default) then 0 else (a0.getD v5.toNat default))) * 100)).tdiv a1)) == 100) == true) (.int .i64 v4)), (47, .bool ((W ((W ((if a1 < (if 0 > (a0.getD v5.toNat default) then 0 else (a0.getD v5.toNat default)) then a1 else (if 0 > (a0.getD v5.toNat default) then 0 else (a0.getD v5.toNat default))) * 100)).tdiv a1)) == 100)), (46, .bool ((W ((W ((if a1 < (if 0 > (a0.getD v5.toNat default) then 0 else (a0.getD v5.toNat default)) then a1 else (if 0 > (a0.getD v5.toNat default) then 0 else (a0.getD v5.toNat default))) * 100)).tdiv a1)) == 100)), (45, .int .i64 (W ((W ((if a1 < (if 0 > (a0.getD v5.toNat default) then 0 else (a0.getD v5.toNat default)) then a1 else (if 0 > (a0.getD v5.toNat default) then 0 else (a0.getD v5.toNat default))) * 100)).tdiv a1))), (1, .int .i64 a1), (2, .int .i64 a2), (8, .osl (0, 0) 1 (v3.map e_i64)), (9, .int .i64 v4), (12, .int .i64 (W ((W ((if a1 < (if 0 > (a0.getD v5.toNat default) then 0 else (a0.getD v5.toNat default)) then a1 else (if 0 > (a0.getD v5.toNat default) then 0 else (a0.getD v5.toNat default))) * 100)).tdiv a1))), (32, .isl 1 (a0.map e_i64) false), (33, .int .i64 ((a0.map e_i64).length : Int)), (34, .int .i64 v5)] _ _
    refine And.intro (fun hc => (bqt hc)) ?_
    refine And.intro (fun hp => (And.intro hp hp)) ?_
    show yops _ _ _ [(55, .cnd ((((W ((W ((if a1 < (if 0 > (a0.getD v5.toNat default) then 0 else (a0.getD v5.toNat default)) then a1 else (if 0 > (a0.getD v5.toNat default) then 0 else (a0.getD v5.toNat default))) * 100)).tdiv a1)) == 100) && (decide (v4 < 100))) == false) (.int .i64 (W (v4 + a2)))), (54, .cnd ((((W ((W ((if a1 < (if 0 > (a0.getD v5.toNat default) then 0 else (a0.getD v5.toNat default)) then a1 else (if 0 > (a0.getD v5.toNat default) then 0 else (a0.getD v5.toNat default))) * 100)).tdiv a1)) == 100) && (decide (v4 < 100))) == false) (.int .i64 a2)), (53, .cnd ((((W ((W ((if a1 < (if 0 > (a0.getD v5.toNat default) then 0 else (a0.getD v5.toNat default)) then a1 else (if 0 > (a0.getD v5.toNat default) then 0 else (a0.getD v5.toNat default))) * 100)).tdiv a1)) == 100) && (decide (v4 < 100))) == false) (.int .i64 v4)), (52, .cnd ((((W ((W ((if a1 < (if 0 > (a0.getD v5.toNat default) then 0 else (a0.getD v5.toNat default)) then a1 else (if 0 > (a0.getD v5.toNat default) then 0 else (a0.getD v5.toNat default))) * 100)).tdiv a1)) == 100) && (decide (v4 < 100))) == false) (.int .i64 (W ((W ((if a1 < (if 0 > (a0.getD v5.toNat default) then 0 else (a0.getD v5.toNat default)) then a1 else (if 0 > (a0.getD v5.toNat default) then 0 else (a0.getD v5.toNat default))) * 100)).tdiv a1)))), (51, .bool (((W ((W ((if a1 < (if 0 > (a0.getD v5.toNat default) then 0 else (a0.getD v5.toNat default)) then a1 else (if 0 > (a0.getD v5.toNat default) then 0 else (a0.getD v5.toNat default))) * 100)).tdiv a1)) == 100) && (decide (v4 < 100)))), (50, .bool (((W ((W ((if a1 < (if 0 > (a0.getD v5.toNat default) then 0 else (a0.getD v5.toNat default)) then a1 else (if 0 > (a0.getD v5.toNat default) then 0 else (a0.getD v5.toNat default))) * 100)).tdiv a1)) == 100) && (decide (v4 < 100)))), (49, .cnd (((W ((W ((if a1 < (if 0 > (a0.getD v5.toNat default) then 0 else (a0.getD v5.toNat default)) then a1 else (if 0 > (a0.getD v5.toNat default) then 0 else (a0.getD v5.toNat default))) * 100)).tdiv a1)) == 100) == true) (.bool (decide (v4 < 100)))), (48, .cnd (((W ((W ((if a1 < (if 0 > (a0.getD v5.toNat default) then 0 else (a0.getD v5.toNat default)) then a1 else (if 0 > (a0.getD v5.toNat default) then 0 else (a0.getD v5.toNat default))) * 100)).tdiv a1)) == 100) == true) (.int .i64 v4)), (47, .bool ((W ((W ((if a1 < (if 0 > (a0.getD v5.toNat default) then 0 else (a0.getD v5.toNat default)) then a1 else (if 0 > (a0.getD v5.toNat default) then 0 else (a0.getD v5.toNat default))) * 100)).tdiv a1)) == 100)), (46, .bool ((W ((W ((if a1 < (if 0 > (a0.getD v5.toNat default) then 0 else (a0.getD v5.toNat default)) then a1 else (if 0 > (a0.getD v5.toNat default) then 0 else (a0.getD v5.toNat default))) * 100)).tdiv a1)) == 100)), (45, .int .i64 (W ((W ((if a1 < (if 0 > (a0.getD v5.toNat default) then 0 else (a0.getD v5.toNat default)) then a1 else (if 0 > (a0.getD v5.toNat default) then 0 else (a0.getD v5.toNat default))) * 100)).tdiv a1))), (1, .int .i64 a1), (2, .int .i64 a2), (8, .osl (0, 0) 1 (v3.map e_i64)), (9, .int .i64 v4), (12, .int .i64 (W ((W ((if a1 < (if 0 > (a0.getD v5.toNat default) then 0 else (a0.getD v5.toNat default)) then a1 else (if 0 > (a0.getD v5.toNat default) then 0 else (a0.getD v5.toNat default))) * 100)).tdiv a1))), (32, .isl 1 (a0.map e_i64) false), (33, .int .i64 ((a0.map e_i64).length : Int)), (34, .int .i64 v5)] _ _
    refine And.intro (fun hp => (And.intro hp hp)) ?_
    refine And.intro (fun hc => (bqf hc)) ?_
    refine LWp.sim (e := [(1, .int .i64 a1), (2, .int .i64 a2), (8, .osl (0, 0) 1 (v3.map e_i64)), (9, .int .i64 v4), (12, .int .i64 (W ((W ((if a1 < (if 0 > (a0.getD v5.toNat default) then 0 else (a0.getD v5.toNat default)) then a1 else (if 0 > (a0.getD v5.toNat default) then 0 else (a0.getD v5.toNat default))) * 100)).tdiv a1))), (32, .isl 1 (a0.map e_i64) false), (33, .int .i64 ((a0.map e_i64).length : Int)), (34, .int .i64 v5), (57, .bool ((((W ((W ((if a1 < (if 0 > (a0.getD v5.toNat default) then 0 else (a0.getD v5.toNat default)) then a1 else (if 0 > (a0.getD v5.toNat default) then 0 else (a0.getD v5.toNat default))) * 100)).tdiv a1)) == 100) && (decide (v4 < 100))) || (decide ((W ((W ((if a1 < (if 0 > (a0.getD v5.toNat default) then 0 else (a0.getD v5.toNat default)) then a1 else (if 0 > (a0.getD v5.toNat default) then 0 else (a0.getD v5.toNat default))) * 100)).tdiv a1)) ≥ (W (v4 + a2))))))]) (L := [((0, 0), .tok)]) (n := 1) ?_ ?_
    · exact simI (M := [((0, 0), (0, 0))]) rfl (And.intro (Vw.same _ rfl) (And.intro (Vw.same _ rfl) (And.intro (Vw.osl _ _ _ _ rfl) (And.intro (Vw.same _ rfl) (And.intro (Vw.same _ rfl) (And.intro (Vw.same _ rfl) (And.intro (Vw.same _ rfl) (And.intro (Vw.same _ rfl) (And.intro (Vw.same _ rfl) trivial))))))))) (And.intro (And.intro rfl BVw.tok) trivial)
    refine condI (v := ((((W ((W ((if a1 < (if 0 > (a0.getD v5.toNat default) then 0 else (a0.getD v5.toNat default)) then a1 else (if 0 > (a0.getD v5.toNat default) then 0 else (a0.getD v5.toNat default))) * 100)).tdiv a1)) == 100) && (decide (v4 < 100))) || (decide ((W ((W ((if a1 < (if 0 > (a0.getD v5.toNat default) then 0 else (a0.getD v5.toNat default)) then a1 else (if 0 > (a0.getD v5.toNat default) then 0 else (a0.getD v5.toNat default))) * 100)).tdiv a1)) ≥ (W (v4 + a2)))))) rfl trivial (fun h16 => ?_) (fun h16 => ?_)
    · have h := ite_tt h16 h
      refine seqI ?_
      refine regI ?_
      obtain ⟨h17, h⟩ := ite_some h
      refine Exists.intro ((v3 ++ ([(W ((W ((if a1 < (if 0 > (a0.getD v5.toNat default) then 0 else (a0.getD v5.toNat default)) then a1 else (if 0 > (a0.getD v5.toNat default) then 0 else (a0.getD v5.toNat default))) * 100)).tdiv a1))] : List Int)).map e_i64) (And.intro (app_enc e_i64 v3 ([(W ((W ((if a1 < (if 0 > (a0.getD v5.toNat default) then 0 else (a0.getD v5.toNat default)) then a1 else (if 0 > (a0.getD v5.toNat default) then 0 else (a0.getD v5.toNat default))) * 100)).tdiv a1))] : List Int)) (And.intro h17 ?_))
      refine regI ?_
      refine LWp.sim ?_ (f9_j3_ok h)
      exact simI (M := [((0, 0), (1, 0))]) rfl (And.intro (Vw.same _ rfl) (And.intro (Vw.same _ rfl) (And.intro (Vw.osl _ _ _ _ rfl) (And.intro (Vw.same _ rfl) (And.intro (Vw.same _ rfl) (And.intro (Vw.same _ rfl) (And.intro (Vw.same _ rfl) trivial))))))) (And.intro (And.intro rfl BVw.tok) trivial)
    · have h := ite_ff h16 h
      refine skipI ?_
      refine LWp.sim ?_ (f9_j3_ok h)
      exact simI (M := [((0, 0), (0, 0))]) rfl (And.intro (Vw.same _ rfl) (And.intro (Vw.same _ rfl) (And.intro (Vw.osl _ _ _ _ rfl) (And.intro (Vw.same _ rfl) (And.intro (Vw.same _ rfl) (And.intro (Vw.same _ rfl) (And.intro (Vw.same _ rfl) trivial))))))) (And.intro (And.intro rfl BVw.tok) trivial)
  · have h := ite_ff h13 h
    refine exitI ?_
    obtain ⟨o, hq, rfl⟩ := Option.map_eq_some_iff.1 h
    replace h := hq; clear hq
    refine And.intro nofun ?_
    refine LWp.sim ?_ (f9_j4_ok h)
    exact simI (M := [((0, 0), (0, 0))]) rfl (And.intro (Vw.osl _ _ _ _ rfl) trivial) (And.intro (And.intro rfl BVw.tok) trivial)

theorem f9_L1_ok {a0 : List Int} {a1 : Int} {a2 : Int} {v3 : List Int} {v4 : Int} {v5 : Int} {m : Option Nat} {o : ((List Int) × Int)} (h : S_progress_Percentages_l1 m a0 a1 a2 v3 v4 v5 = some o) :
    LWp Try.prog f9_lay 0 (.loop f9_c2) (QBlock 1 (QSeq Try.prog f9_lay 0 f9_c0 (f9_Q a0 a1 a2 o))) [(1, .int .i64 a1), (2, .int .i64 a2), (8, .osl (0, 0) 1 (v3.map e_i64)), (9, .int .i64 v4), (32, .isl 1 (a0.map e_i64) false), (33, .int .i64 ((a0.map e_i64).length : Int)), (34, .int .i64 v5)] [((0, 0), .tok)] 1 :=
  LWp_loopM (m := m) (s := ((v3, v4, v5) : ((List Int) × Int × Int))) (r := o) (fun (s : ((List Int) × Int × Int)) => S_progress_Percentages_b1 m a0 a1 a2 s.1 s.2.1 s.2.2) (f9_L1_env a0 a1 a2) (f9_L1_hp a0 a1 a2) (f9_L1_Q a0 a1 a2) (fun s o h => f9_L1_bok h) h

noncomputable def S_progress_Percentages (m : Option Nat) (a0 : List Int) (a1 : Int) (a2 : Int) : Option ((List Int) × Int) :=
  if ((((decide (a1 < 1)) || (decide (a1 > 2147483647))) || (decide (a2 < 1))) || (decide (a2 > 100))) = true then
    some ([], 1)
  else
    if (decide (((a0.map e_i64).length : Int) > 1000)) = true then
      some ([], 2)
    else
      S_progress_Percentages_l1 m a0 a1 a2 [] 0 0

theorem f9_start {a0 : List Int} {a1 : Int} {a2 : Int} {m : Option Nat} {o : (List Int) × Int} (h : S_progress_Percentages m a0 a1 a2 = some o) : LWp Try.prog f9_lay 0 f9_c3 (f9_Q a0 a1 a2 o) (initEnv 0 [.isl 1 (a0.map e_i64) false, .int .i64 a1, .int .i64 a2]) [] 0 := by
  unfold S_progress_Percentages at h
  refine seqI ?_
  refine regI ?_
  refine seqI ?_
  refine blockI ?_
  refine seqI ?_
  refine regI ?_
  refine And.intro (fun hp => hp) ?_
  show yops _ _ _ [(18, .cnd ((decide (a1 < 1)) == false) (.bool (decide (a1 > 2147483647)))), (17, .cnd ((decide (a1 < 1)) == false) (.int .i64 a1)), (16, .bool (decide (a1 < 1))), (15, .bool (decide (a1 < 1))), (14, .int .i64 a1), (7, .int .i64 0), (6, .val (.slice none 0 0)), (0, .isl 1 (a0.map e_i64) false), (1, .int .i64 a1), (2, .int .i64 a2)] _ _
  refine And.intro (fun hc => (bqf hc)) ?_
  refine And.intro (fun hp => hp) ?_
  refine And.intro (fun hc => (bqf hc)) ?_
  show yops _ _ _ [(23, .bool (((decide (a1 < 1)) || (decide (a1 > 2147483647))) || (decide (a2 < 1)))), (22, .cnd (((decide (a1 < 1)) || (decide (a1 > 2147483647))) == false) (.bool (decide (a2 < 1)))), (21, .cnd (((decide (a1 < 1)) || (decide (a1 > 2147483647))) == false) (.int .i64 a2)), (20, .bool ((decide (a1 < 1)) || (decide (a1 > 2147483647)))), (19, .bool ((decide (a1 < 1)) || (decide (a1 > 2147483647)))), (18, .cnd ((decide (a1 < 1)) == false) (.bool (decide (a1 > 2147483647)))), (17, .cnd ((decide (a1 < 1)) == false) (.int .i64 a1)), (16, .bool (decide (a1 < 1))), (15, .bool (decide (a1 < 1))), (14, .int .i64 a1), (7, .int .i64 0), (6, .val (.slice none 0 0)), (0, .isl 1 (a0.map e_i64) false), (1, .int .i64 a1), (2, .int .i64 a2)] _ _
  refine And.intro (fun hp => hp) ?_
  refine And.intro (fun hc => (bqf hc)) ?_
  refine LWp.sim (e := [(0, .isl 1 (a0.map e_i64) false), (1, .int .i64 a1), (2, .int .i64 a2), (13, .bool ((((decide (a1 < 1)) || (decide (a1 > 2147483647))) || (decide (a2 < 1))) || (decide (a2 > 100))))]) (L := []) (n := 0) ?_ ?_
  · exact simI (M := []) rfl (And.intro (Vw.same _ rfl) (And.intro (Vw.same _ rfl) (And.intro (Vw.same _ rfl) (And.intro (Vw.same _ rfl) trivial)))) trivial
  refine condI (v := ((((decide (a1 < 1)) || (decide (a1 > 2147483647))) || (decide (a2 < 1))) || (decide (a2 > 100)))) rfl trivial (fun h1 => ?_) (fun h1 => ?_)
  · have h := ite_tt h1 h
    refine seqI ?_
    refine regI ?_
    refine retI ?_
    cases h
    exact And.intro trivial (And.intro trivial (And.intro rfl (Vw.tupL (And.intro (Vw.nilI _ _) (And.intro (Vw.same _ rfl) trivial)))))
  · have h := ite_ff h1 h
    refine seqI ?_
    refine regI ?_
    refine condI (v := (decide (((a0.map e_i64).length : Int) > 1000))) rfl trivial (fun h2 => ?_) (fun h2 => ?_)
    · have h := ite_tt h2 h
      refine seqI ?_
      refine regI ?_
      refine retI ?_
      cases h
      exact And.intro trivial (And.intro trivial (And.intro rfl (Vw.tupL (And.intro (Vw.nilI _ _) (And.intro (Vw.same _ rfl) trivial)))))
    · have h := ite_ff h2 h
      refine skipI ?_
      refine seqI ?_
      refine regI ?_
      refine seqI ?_
      refine regI ?_
      refine seqI ?_
      refine seqI ?_
      refine regI ?_
      refine LWp.sim (e := [(1, .int .i64 a1), (2, .int .i64 a2), (8, .val (.slice none 0 0)), (9, .int .i64 0), (32, .isl 1 (a0.map e_i64) false), (33, .int .i64 ((a0.map e_i64).length : Int)), (34, .int .i64 0)]) (L := []) (n := 0) ?_ ?_
      · exact simI (M := []) rfl (And.intro (Vw.same _ rfl) (And.intro (Vw.same _ rfl) (And.intro (Vw.same _ rfl) (And.intro (Vw.same _ rfl) (And.intro (Vw.same _ rfl) (And.intro (Vw.same _ rfl) (And.intro (Vw.same _ rfl) trivial))))))) trivial
      refine blockI ?_
      refine LWp.sim ?_ (f9_L1_ok h)
      exact simI (M := []) rfl (And.intro (Vw.same _ rfl) (And.intro (Vw.same _ rfl) (And.intro (Vw.nilO _ _ (by decide)) (And.intro (Vw.same _ rfl) (And.intro (Vw.same _ rfl) (And.intro (Vw.same _ rfl) (And.intro (Vw.same _ rfl) trivial))))))) (And.intro (And.intro rfl (And.intro (by decide) (by decide))) trivial)

theorem f9_ok {a0 : List Int} {a1 : Int} {a2 : Int} {m : Option Nat} {o : (List Int) × Int} (h : S_progress_Percentages m a0 a1 a2 = some o) : PFn Try.prog 9 [.isl 1 (a0.map e_i64) false, .int .i64 a1, .int .i64 a2] (.tup [.isl 1 (o.1.map e_i64) false, .int .i64 o.2]) := PFn.ofFnW (L := f9_L) f9_low f9_fok (Nat.le_of_ble_eq_true rfl) rfl (f9_start h)

def f10_c1 : LCode := (.seq (.region [⟨some 15, .bin .lss (.t 14) (.t 13), none⟩])
 (.seq (.cond (.t 15)
  .skip
  (.exit 0))
 (.seq (.block 1
  (.seq (.region [⟨some 16, .mv (.t 14), none⟩,
    ⟨some 17, .iaddr 1 (.t 12) (.t 14), none⟩,
    ⟨some 18, .load false 1 (.t 17), none⟩,
    ⟨some 5, .mv (.t 16), none⟩,
    ⟨some 6, .mv (.t 18), none⟩])
  (.seq (.region [⟨some 19, .mv (.t 6), none⟩,
    ⟨some 20, .mv (.t 1), none⟩,
    ⟨some 21, .mv (.t 5), none⟩,
    ⟨some 22, .iaddr 1 (.t 20) (.t 21), none⟩,
    ⟨some 23, .load false 1 (.t 22), none⟩,
    ⟨some 24, .bin .neq (.t 19) (.t 23), none⟩])
  (.cond (.t 24)
   (.seq (.region [⟨some 4, .mv (.c (.bool false)), none⟩])
   .ret)
   .skip))))
 (.region [⟨some 25, .bin .add (.t 14) (.c (.int .i64 1)), none⟩,
   ⟨some 14, .mv (.t 25), none⟩]))))
def f10_c0 : LCode := (.seq (.region [⟨some 4, .mv (.c (.bool true)), none⟩])
 .ret)
def f10_c2 : LCode := (.seq (.region [⟨some 4, .mv (.c (.bool false)), none⟩])
 (.seq (.seq (.region [⟨some 7, .mv (.t 0), none⟩,
   ⟨some 8, .len false (.t 7), none⟩,
   ⟨some 9, .mv (.t 1), none⟩,
   ⟨some 10, .len false (.t 9), none⟩,
   ⟨some 11, .bin .neq (.t 8) (.t 10), none⟩])
 (.cond (.t 11)
  (.seq (.region [⟨some 4, .mv (.c (.bool false)), none⟩])
  .ret)
  .skip))
 (.seq (.seq (.region [⟨some 12, .mv (.t 0), none⟩,
   ⟨some 13, .len false (.t 12), none⟩,
   ⟨some 14, .mv (.c (.int .i64 0)), none⟩])
 (.block 0
  (.loop
   f10_c1)))
 f10_c0)))
def f10_lay : Lay := ⟨26, [], false⟩
def f10_res : List LRes := [.t 4]
def f10_L : LFn := ⟨2, f10_lay, f10_c2, f10_res⟩
theorem f10_low : lowFn Try.prog [] 10 = some f10_L := by kernel_rfl
theorem f10_fok : FnOk Try.prog 10 := ⟨_, Try.func10, rfl, rfl⟩
def f10_Q (a0 : List Int) (a1 : List Int) (o : Bool) : Exit → Env → AHeap → Nat → Prop := FinK f10_res (PureEnd (.bool o))

def f10_L1_env (a0 : List Int) (a1 : List Int) (s : Int) : Env := [(1, .isl 1 (a1.map e_i64) false), (12, .isl 1 (a0.map e_i64) false), (13, .int .i64 ((a0.map e_i64).length : Int)), (14, .int .i64 s)]
def f10_L1_hp (a0 : List Int) (a1 : List Int) (s : Int) : AHeap := []
def f10_L1_Q (a0 : List Int) (a1 : List Int) (o : Bool) : Exit → Env → AHeap → Nat → Prop := (QBlock 0 (QSeq Try.prog f10_lay 0 f10_c0 (f10_Q a0 a1 o)))

noncomputable def S_glossatorref3_Equal_int_j1 (m : Option Nat) : Option Bool :=
  some true

noncomputable def S_glossatorref3_Equal_int_b1 (m : Option Nat) (a0 : List Int) (a1 : List Int) (v1 : Int) : Option (Int ⊕ Bool) :=
  if (decide (v1 < ((a0.map e_i64).length : Int))) = true then
    if (0 : Int) ≤ v1 ∧ v1 < ((a0.map e_i64).length : Int) then
    if (0 : Int) ≤ v1 ∧ v1 < ((a1.map e_i64).length : Int) then
    if ((a0.getD v1.toNat default) != (a1.getD v1.toNat default)) = true then
      Option.map Sum.inr (
        some false)
    else
      some (.inl (W (v1 + 1)))
    else none
    else none
  else
    Option.map Sum.inr (
      S_glossatorref3_Equal_int_j1 m)

noncomputable def S_glossatorref3_Equal_int_l1 (m : Option Nat) (a0 : List Int) (a1 : List Int) (v1 : Int) : Option Bool := loopM m (fun (s : Int) => S_glossatorref3_Equal_int_b1 m a0 a1 s) v1

theorem f10_j1_ok {a0 : List Int} {a1 : List Int} {m : Option Nat} {o : Bool} (h : S_glossatorref3_Equal_int_j1 m = some o) :
    LWp Try.prog f10_lay 0 f10_c0 (f10_Q a0 a1 o) [] [] 0 := by
  unfold S_glossatorref3_Equal_int_j1 at h
  refine seqI ?_
  refine regI ?_
  refine retI ?_
  cases h
  exact And.intro trivial (And.intro rfl (Vw.same _ rfl))

theorem f10_L1_bok {a0 : List Int} {a1 : List Int} {v1 : Int} {m : Option Nat} {o : Int ⊕ Bool} (h : S_glossatorref3_Equal_int_b1 m a0 a1 v1 = some o) :
    LWp Try.prog f10_lay 0 f10_c1 (BodyQ 0 0 (f10_L1_env a0 a1) (f10_L1_hp a0 a1) (f10_L1_Q a0 a1) o) [(1, .isl 1 (a1.map e_i64) false), (12, .isl 1 (a0.map e_i64) false), (13, .int .i64 ((a0.map e_i64).length : Int)), (14, .int .i64 v1)] [] 0 := by
  unfold S_glossatorref3_Equal_int_b1 at h
  refine seqI ?_
  refine regI ?_
  refine seqI ?_
  refine condI (v := (decide (v1 < ((a0.map e_i64).length : Int)))) rfl trivial (fun h10 => ?_) (fun h10 => ?_)
  · have h := ite_tt h10 h
    refine skipI ?_
    refine seqI ?_
    refine blockI ?_
    refine seqI ?_
    refine regI ?_
    obtain ⟨h11, h⟩ := ite_some h
    refine And.intro h11 ?_
    refine Exists.intro (e_i64 (a0.getD v1.toNat default)) (And.intro (getD_enc e_i64 _ _ (idx_ltL e_i64 h11)) (And.intro (And.intro (idx_lt h11) (Nat.le_of_ble_eq_true rfl)) ?_))
    refine seqI ?_
    refine regI ?_
    obtain ⟨h12, h⟩ := ite_some h
    refine And.intro h12 ?_
    show yops _ _ _ [(22, .iptr 1 (a1.map e_i64) v1.toNat 0), (21, .int .i64 v1), (20, .isl 1 (a1.map e_i64) false), (19, .int .i64 (a0.getD v1.toNat default)), (6, .int .i64 (a0.getD v1.toNat default)), (5, .int .i64 v1), (18, .int .i64 (a0.getD v1.toNat default)), (17, .iptr 1 (a0.map e_i64) v1.toNat 0), (16, .int .i64 v1), (15, .bool (decide (v1 < ((a0.map e_i64).length : Int)))), (1, .isl 1 (a1.map e_i64) false), (12, .isl 1 (a0.map e_i64) false), (13, .int .i64 ((a0.map e_i64).length : Int)), (14, .int .i64 v1)] _ _
    refine Exists.intro (e_i64 (a1.getD v1.toNat default)) (And.intro (getD_enc e_i64 _ _ (idx_ltL e_i64 h12)) (And.intro (And.intro (idx_lt h12) (Nat.le_of_ble_eq_true rfl)) ?_))
    refine LWp.sim (e := [(1, .isl 1 (a1.map e_i64) false), (12, .isl 1 (a0.map e_i64) false), (13, .int .i64 ((a0.map e_i64).length : Int)), (14, .int .i64 v1), (24, .bool ((a0.getD v1.toNat default) != (a1.getD v1.toNat default)))]) (L := []) (n := 0) ?_ ?_
    · exact simI (M := []) rfl (And.intro (Vw.same _ rfl) (And.intro (Vw.same _ rfl) (And.intro (Vw.same _ rfl) (And.intro (Vw.same _ rfl) (And.intro (Vw.same _ rfl) trivial))))) trivial
    refine condI (v := ((a0.getD v1.toNat default) != (a1.getD v1.toNat default))) rfl trivial (fun h13 => ?_) (fun h13 => ?_)
    · have h := ite_tt h13 h
      refine seqI ?_
      refine regI ?_
      refine retI ?_
      obtain ⟨o, hq, rfl⟩ := Option.map_eq_some_iff.1 h
      replace h := hq; clear hq
      refine And.intro nofun ?_
      cases h
      exact And.intro trivial (And.intro rfl (Vw.same _ rfl))
    · have h := ite_ff h13 h
      refine skipI ?_
      refine regI ?_
      cases h
      exact And.intro rfl (simI (M := []) rfl (And.intro (Vw.same _ rfl) (And.intro (Vw.same _ rfl) (And.intro (Vw.same _ rfl) (And.intro (Vw.same _ rfl) trivial)))) trivial)
  · have h := ite_ff h10 h
    refine exitI ?_
    obtain ⟨o, hq, rfl⟩ := Option.map_eq_some_iff.1 h
    replace h := hq; clear hq
    refine And.intro nofun ?_
    refine LWp.sim ?_ (f10_j1_ok h)
    exact simI (M := []) rfl trivial trivial

theorem f10_L1_ok {a0 : List Int} {a1 : List Int} {v1 : Int} {m : Option Nat} {o : Bool} (h : S_glossatorref3_Equal_int_l1 m a0 a1 v1 = some o) :
    LWp Try.prog f10_lay 0 (.loop f10_c1) (QBlock 0 (QSeq Try.prog f10_lay 0 f10_c0 (f10_Q a0 a1 o))) [(1, .isl 1 (a1.map e_i64) false), (12, .isl 1 (a0.map e_i64) false), (13, .int .i64 ((a0.map e_i64).length : Int)), (14, .int .i64 v1)] [] 0 :=
  LWp_loopM (m := m) (s := (v1 : Int)) (r := o) (fun (s : Int) => S_glossatorref3_Equal_int_b1 m a0 a1 s) (f10_L1_env a0 a1) (f10_L1_hp a0 a1) (f10_L1_Q a0 a1) (fun s o h => f10_L1_bok h) h

noncomputable def S_glossatorref3_Equal_int (m : Option Nat) (a0 : List Int) (a1 : List Int) : Option Bool :=
  if (((a0.map e_i64).length : Int) != ((a1.map e_i64).length : Int)) = true then
    some false
  else
    S_glossatorref3_Equal_int_l1 m a0 a1 0

theorem f10_start {a0 : List Int} {a1 : List Int} {m : Option Nat} {o : Bool} (h : S_glossatorref3_Equal_int m a0 a1 = some o) : LWp Try.prog f10_lay 0 f10_c2 (f10_Q a0 a1 o) (initEnv 0 [.isl 1 (a0.map e_i64) false, .isl 1 (a1.map e_i64) false]) [] 0 := by
  unfold S_glossatorref3_Equal_int at h
  refine seqI ?_
  refine regI ?_
  refine seqI ?_
  refine seqI ?_
  refine regI ?_
  refine condI (v := (((a0.map e_i64).length : Int) != ((a1.map e_i64).length : Int))) rfl trivial (fun h1 => ?_) (fun h1 => ?_)
  · have h := ite_tt h1 h
    refine seqI ?_
    refine regI ?_
    refine retI ?_
    cases h
    exact And.intro trivial (And.intro rfl (Vw.same _ rfl))
  · have h := ite_ff h1 h
    refine skipI ?_
    refine seqI ?_
    refine seqI ?_
    refine regI ?_
    refine LWp.sim (e := [(1, .isl 1 (a1.map e_i64) false), (12, .isl 1 (a0.map e_i64) false), (13, .int .i64 ((a0.map e_i64).length : Int)), (14, .int .i64 0)]) (L := []) (n := 0) ?_ ?_
    · exact simI (M := []) rfl (And.intro (Vw.same _ rfl) (And.intro (Vw.same _ rfl) (And.intro (Vw.same _ rfl) (And.intro (Vw.same _ rfl) trivial)))) trivial
    refine blockI ?_
    refine LWp.sim ?_ (f10_L1_ok h)
    exact simI (M := []) rfl (And.intro (Vw.same _ rfl) (And.intro (Vw.same _ rfl) (And.intro (Vw.same _ rfl) (And.intro (Vw.same _ rfl) trivial)))) trivial

theorem f10_ok {a0 : List Int} {a1 : List Int} {m : Option Nat} {o : Bool} (h : S_glossatorref3_Equal_int m a0 a1 = some o) : PFn Try.prog 10 [.isl 1 (a0.map e_i64) false, .isl 1 (a1.map e_i64) false] (.bool o) := PFn.ofFnW (L := f10_L) f10_low f10_fok (Nat.le_of_ble_eq_true rfl) rfl (f10_start h)

def f5_c0 : LCode := (.seq (.region [⟨some 0, .mv (.c (.bool false)), none⟩])
 (.seq (.region [⟨some 6, .mkSl true 1 [(.int .i64 0)] 5 [(0, (.c (.int .i64 1))), (1, (.c (.int .i64 2))), (2, (.c (.int .i64 3))), (3, (.c (.int .i64 4))), (4, (.c (.int .i64 5)))], none⟩,
   ⟨some 7, .call 6 [(.c (.int .i64 7)), (.t 6), (.c (.int .i64 2))], none⟩,
   ⟨some 5, .mv (.t 7), none⟩,
   ⟨some 8, .ext 0 (.t 5), none⟩,
   ⟨some 9, .ext 1 (.t 5), none⟩,
   ⟨some 1, .mv (.t 8), none⟩,
   ⟨some 2, .mv (.t 9), none⟩])
 (.seq (.region [⟨some 11, .mkSl true 1 [(.int .i64 0)] 4 [(0, (.c (.int .i64 1))), (1, (.c (.int .i64 2))), (2, (.c (.int .i64 5))), (3, (.c (.int .i64 10)))], none⟩,
   ⟨some 12, .call 9 [(.t 11), (.c (.int .i64 10)), (.c (.int .i64 15))], none⟩,
   ⟨some 10, .mv (.t 12), none⟩,
   ⟨some 13, .ext 0 (.t 10), none⟩,
   ⟨some 14, .ext 1 (.t 10), none⟩,
   ⟨some 3, .mv (.t 13), none⟩,
   ⟨some 4, .mv (.t 14), none⟩])
 (.seq (.region [⟨some 15, .mv (.t 2), none⟩,
   ⟨some 16, .bin .eql (.t 15) (.c (.int .i64 0)), none⟩,
   ⟨some 17, .mv (.t 16), none⟩,
   ⟨some 18, .mv (.t 1), some (17, true)⟩,
   ⟨some 19, .len false (.t 18), some (17, true)⟩,
   ⟨some 20, .bin .eql (.t 19) (.c (.int .i64 3)), some (17, true)⟩,
   ⟨some 21, .pick (.t 17) (.t 20) (.c (.bool false)), none⟩,
   ⟨some 22, .mv (.t 21), none⟩,
   ⟨some 23, .mv (.t 1), some (22, true)⟩,
   ⟨some 24, .iaddr 4 (.t 23) (.c (.int .i64 2)), some (22, true)⟩,
   ⟨some 25, .faddr 2 (.t 24), some (22, true)⟩,
   ⟨some 26, .load false 1 (.t 25), some (22, true)⟩,
   ⟨some 27, .pick (.t 22) (.t 26) (.c (.bool false)), none⟩,
   ⟨some 28, .mv (.t 27), none⟩,
   ⟨some 29, .mv (.t 1), some (28, true)⟩,
   ⟨some 30, .iaddr 4 (.t 29) (.c (.int .i64 2)), some (28, true)⟩,
   ⟨some 31, .faddr 3 (.t 30), some (28, true)⟩,
   ⟨some 32, .load false 1 (.t 31), some (28, true)⟩,
   ⟨some 33, .mkSl true 1 [(.int .i64 0)] 1 [(0, (.c (.int .i64 5)))], some (28, true)⟩,
   ⟨some 34, .call 10 [(.t 32), (.t 33)], some (28, true)⟩,
   ⟨some 35, .pick (.t 28) (.t 34) (.c (.bool false)), none⟩,
   ⟨some 36, .mv (.t 35), none⟩,
   ⟨some 37, .mv (.t 4), some (36, true)⟩,
   ⟨some 38, .bin .eql (.t 37) (.c (.int .i64 0)), some (36, true)⟩,
   ⟨some 39, .pick (.t 36) (.t 38) (.c (.bool false)), none⟩,
   ⟨some 40, .mv (.t 39), none⟩,
   ⟨some 41, .mv (.t 3), some (40, true)⟩,
   ⟨some 42, .mkSl true 1 [(.int .i64 0)] 3 [(0, (.c (.int .i64 20))), (1, (.c (.int .i64 50))), (2, (.c (.int .i64 100)))], some (40, true)⟩,
   ⟨some 43, .call 10 [(.t 41), (.t 42)], some (40, true)⟩,
   ⟨some 44, .pick (.t 40) (.t 43) (.c (.bool false)), none⟩,
   ⟨some 0, .mv (.t 44), none⟩])
 .ret))))
def f5_lay : Lay := ⟨45, [], false⟩
def f5_res : List LRes := [.t 0]
def f5_L : LFn := ⟨0, f5_lay, f5_c0, f5_res⟩
theorem f5_low : lowFn Try.prog [] 5 = some f5_L := by kernel_rfl
theorem f5_fok : FnOk Try.prog 5 := ⟨_, Try.func5, rfl, rfl⟩
noncomputable def S_glossatorlaw3_chunkExample (m : Option Nat) : Option Bool :=
  (S_progress_Split m 7 ([1, 2, 3, 4, 5] : List Int) 2).bind fun v1 =>
  (S_progress_Percentages m ([1, 2, 5, 10] : List Int) 10 15).bind fun v2 =>
  if ((((v1.2 == 0) && (((v1.1.map e_QChunk).length : Int) == 3)) == true) = true → (0 : Int) ≤ 2 ∧ 2 < ((v1.1.map e_QChunk).length : Int)) then
  if (((((v1.2 == 0) && (((v1.1.map e_QChunk).length : Int) == 3)) && (v1.1.getD ((2 : Int).toNat) default).f_Last) == true) = true → (0 : Int) ≤ 2 ∧ 2 < ((v1.1.map e_QChunk).length : Int)) then
  (if ((((v1.2 == 0) && (((v1.1.map e_QChunk).length : Int) == 3)) && (v1.1.getD ((2 : Int).toNat) default).f_Last) == true) = true then S_glossatorref3_Equal_int m ((v1.1.getD ((2 : Int).toNat) default).f_Items) ([5] : List Int) else some default).bind fun v3 =>
  (if ((((((v1.2 == 0) && (((v1.1.map e_QChunk).length : Int) == 3)) && (v1.1.getD ((2 : Int).toNat) default).f_Last) && v3) && (v2.2 == 0)) == true) = true then S_glossatorref3_Equal_int m v2.1 ([20, 50, 100] : List Int) else some default).bind fun v4 =>
  some ((((((v1.2 == 0) && (((v1.1.map e_QChunk).length : Int) == 3)) && (v1.1.getD ((2 : Int).toNat) default).f_Last) && v3) && (v2.2 == 0)) && v4)
  else none
  else none

def f5_Q (o : Bool) : Exit → Env → AHeap → Nat → Prop := FinK f5_res (PureEnd (.bool o))

theorem f5_start {m : Option Nat} {o : Bool} (h : S_glossatorlaw3_chunkExample m = some o) : LWp Try.prog f5_lay 0 f5_c0 (f5_Q o) (initEnv 0 []) [] 0 := by
  unfold S_glossatorlaw3_chunkExample at h
  refine seqI ?_
  refine regI ?_
  refine seqI ?_
  refine regI ?_
  obtain ⟨v1, h1, h⟩ := bind_some h
  refine PFn.call (f6_ok h1) (And.intro (Vw.same _ rfl) (And.intro (Vw.islF _ _ _) (And.intro (Vw.same _ rfl) trivial))) ?_
  refine LWp.sim (e := [(1, .isl 4 (v1.1.map e_QChunk) false), (2, .int .i64 v1.2)]) (L := []) (n := 0) ?_ ?_
  · exact simI (M := []) rfl (And.intro (Vw.same _ rfl) (And.intro (Vw.same _ rfl) trivial)) trivial
  refine seqI ?_
  refine regI ?_
  obtain ⟨v2, h2, h⟩ := bind_some h
  refine PFn.call (f9_ok h2) (And.intro (Vw.islF _ _ _) (And.intro (Vw.same _ rfl) (And.intro (Vw.same _ rfl) trivial))) ?_
  refine seqI ?_
  refine regI ?_
  refine And.intro (fun hp => hp) ?_
  show yops _ _ _ [(19, .cnd ((v1.2 == 0) == true) (.int .i64 ((v1.1.map e_QChunk).length : Int))), (18, .cnd ((v1.2 == 0) == true) (.isl 4 (v1.1.map e_QChunk) false)), (17, .bool (v1.2 == 0)), (16, .bool (v1.2 == 0)), (15, .int .i64 v1.2), (4, .int .i64 v2.2), (3, .isl 1 (v2.1.map e_i64) false), (14, .int .i64 v2.2), (13, .isl 1 (v2.1.map e_i64) false), (10, .tup [.isl 1 (v2.1.map e_i64) false, .int .i64 v2.2]), (12, .tup [.isl 1 (v2.1.map e_i64) false, .int .i64 v2.2]), (11, .isl 1 (([1, 2, 5, 10] : List Int).map e_i64) true), (1, .isl 4 (v1.1.map e_QChunk) false), (2, .int .i64 v1.2)] _ _
  refine And.intro (fun hp => hp) ?_
  refine And.intro (fun hc => (bqt hc)) ?_
  obtain ⟨h3, h⟩ := ite_some h
  refine And.intro (fun hp => (And.intro hp (h3 hp))) ?_
  show yops _ _ _ [(24, .cnd (((v1.2 == 0) && (((v1.1.map e_QChunk).length : Int) == 3)) == true) (.iptr 4 (v1.1.map e_QChunk) ((2 : Int).toNat) 0)), (23, .cnd (((v1.2 == 0) && (((v1.1.map e_QChunk).length : Int) == 3)) == true) (.isl 4 (v1.1.map e_QChunk) false)), (22, .bool ((v1.2 == 0) && (((v1.1.map e_QChunk).length : Int) == 3))), (21, .bool ((v1.2 == 0) && (((v1.1.map e_QChunk).length : Int) == 3))), (20, .cnd ((v1.2 == 0) == true) (.bool (((v1.1.map e_QChunk).length : Int) == 3))), (19, .cnd ((v1.2 == 0) == true) (.int .i64 ((v1.1.map e_QChunk).length : Int))), (18, .cnd ((v1.2 == 0) == true) (.isl 4 (v1.1.map e_QChunk) false)), (17, .bool (v1.2 == 0)), (16, .bool (v1.2 == 0)), (15, .int .i64 v1.2), (4, .int .i64 v2.2), (3, .isl 1 (v2.1.map e_i64) false), (14, .int .i64 v2.2), (13, .isl 1 (v2.1.map e_i64) false), (10, .tup [.isl 1 (v2.1.map e_i64) false, .int .i64 v2.2]), (12, .tup [.isl 1 (v2.1.map e_i64) false, .int .i64 v2.2]), (11, .isl 1 (([1, 2, 5, 10] : List Int).map e_i64) true), (1, .isl 4 (v1.1.map e_QChunk) false), (2, .int .i64 v1.2)] _ _
  refine And.intro (fun hp => hp) ?_
  refine Exists.intro (e_QChunk (v1.1.getD ((2 : Int).toNat) default)) (And.intro (fun hp => And.intro (getD_enc e_QChunk _ _ (idx_ltL e_QChunk (h3 hp))) (And.intro hp (And.intro (idx_lt (h3 hp)) (Nat.le_of_ble_eq_true rfl)))) ?_)
  refine And.intro (fun hc => (bqt hc)) ?_
  obtain ⟨h4, h⟩ := ite_some h
  refine And.intro (fun hp => (And.intro hp (h4 hp))) ?_
  show yops _ _ _ [(30, .cnd ((((v1.2 == 0) && (((v1.1.map e_QChunk).length : Int) == 3)) && (v1.1.getD ((2 : Int).toNat) default).f_Last) == true) (.iptr 4 (v1.1.map e_QChunk) ((2 : Int).toNat) 0)), (29, .cnd ((((v1.2 == 0) && (((v1.1.map e_QChunk).length : Int) == 3)) && (v1.1.getD ((2 : Int).toNat) default).f_Last) == true) (.isl 4 (v1.1.map e_QChunk) false)), (28, .bool (((v1.2 == 0) && (((v1.1.map e_QChunk).length : Int) == 3)) && (v1.1.getD ((2 : Int).toNat) default).f_Last)), (27, .bool (((v1.2 == 0) && (((v1.1.map e_QChunk).length : Int) == 3)) && (v1.1.getD ((2 : Int).toNat) default).f_Last)), (26, .cnd (((v1.2 == 0) && (((v1.1.map e_QChunk).length : Int) == 3)) == true) (.bool ((v1.1.getD ((2 : Int).toNat) default).f_Last))), (25, .cnd (((v1.2 == 0) && (((v1.1.map e_QChunk).length : Int) == 3)) == true) (.iptr 4 (v1.1.map e_QChunk) ((2 : Int).toNat) 2)), (24, .cnd (((v1.2 == 0) && (((v1.1.map e_QChunk).length : Int) == 3)) == true) (.iptr 4 (v1.1.map e_QChunk) ((2 : Int).toNat) 0)), (23, .cnd (((v1.2 == 0) && (((v1.1.map e_QChunk).length : Int) == 3)) == true) (.isl 4 (v1.1.map e_QChunk) false)), (22, .bool ((v1.2 == 0) && (((v1.1.map e_QChunk).length : Int) == 3))), (21, .bool ((v1.2 == 0) && (((v1.1.map e_QChunk).length : Int) == 3))), (20, .cnd ((v1.2 == 0) == true) (.bool (((v1.1.map e_QChunk).length : Int) == 3))), (19, .cnd ((v1.2 == 0) == true) (.int .i64 ((v1.1.map e_QChunk).length : Int))), (18, .cnd ((v1.2 == 0) == true) (.isl 4 (v1.1.map e_QChunk) false)), (17, .bool (v1.2 == 0)), (16, .bool (v1.2 == 0)), (15, .int .i64 v1.2), (4, .int .i64 v2.2), (3, .isl 1 (v2.1.map e_i64) false), (14, .int .i64 v2.2), (13, .isl 1 (v2.1.map e_i64) false), (10, .tup [.isl 1 (v2.1.map e_i64) false, .int .i64 v2.2]), (12, .tup [.isl 1 (v2.1.map e_i64) false, .int .i64 v2.2]), (11, .isl 1 (([1, 2, 5, 10] : List Int).map e_i64) true), (1, .isl 4 (v1.1.map e_QChunk) false), (2, .int .i64 v1.2)] _ _
  refine And.intro (fun hp => hp) ?_
  refine Exists.intro (e_QChunk (v1.1.getD ((2 : Int).toNat) default)) (And.intro (fun hp => And.intro (getD_enc e_QChunk _ _ (idx_ltL e_QChunk (h4 hp))) (And.intro hp (And.intro (idx_lt (h4 hp)) (Nat.le_of_ble_eq_true rfl)))) ?_)
  refine Or.inl (Exists.intro (.isl 1 (([5] : List Int).map e_i64) true) (And.intro (fun hp => And.intro rfl (And.intro rfl rfl)) ?_))
  obtain ⟨v3, h5, h⟩ := bind_some h
  refine Or.inl (Exists.intro (.bool v3) (And.intro (fun hp => And.intro (And.intro hp hp) (PFn.call (f10_ok (ite_tt hp h5)) (And.intro (Vw.same _ rfl) (And.intro (Vw.islF _ _ _) trivial)) (And.intro rfl (And.intro rfl rfl)))) ?_))
  refine And.intro (fun hc => (bqt hc)) ?_
  show yops _ _ _ [(35, .bool ((((v1.2 == 0) && (((v1.1.map e_QChunk).length : Int) == 3)) && (v1.1.getD ((2 : Int).toNat) default).f_Last) && v3)), (34, .cnd ((((v1.2 == 0) && (((v1.1.map e_QChunk).length : Int) == 3)) && (v1.1.getD ((2 : Int).toNat) default).f_Last) == true) (.bool v3)), (33, .cnd ((((v1.2 == 0) && (((v1.1.map e_QChunk).length : Int) == 3)) && (v1.1.getD ((2 : Int).toNat) default).f_Last) == true) (.isl 1 (([5] : List Int).map e_i64) true)), (32, .cnd ((((v1.2 == 0) && (((v1.1.map e_QChunk).length : Int) == 3)) && (v1.1.getD ((2 : Int).toNat) default).f_Last) == true) (.isl 1 (((v1.1.getD ((2 : Int).toNat) default).f_Items).map e_i64) false)), (31, .cnd ((((v1.2 == 0) && (((v1.1.map e_QChunk).length : Int) == 3)) && (v1.1.getD ((2 : Int).toNat) default).f_Last) == true) (.iptr 4 (v1.1.map e_QChunk) ((2 : Int).toNat) 3)), (30, .cnd ((((v1.2 == 0) && (((v1.1.map e_QChunk).length : Int) == 3)) && (v1.1.getD ((2 : Int).toNat) default).f_Last) == true) (.iptr 4 (v1.1.map e_QChunk) ((2 : Int).toNat) 0)), (29, .cnd ((((v1.2 == 0) && (((v1.1.map e_QChunk).length : Int) == 3)) && (v1.1.getD ((2 : Int).toNat) default).f_Last) == true) (.isl 4 (v1.1.map e_QChunk) false)), (28, .bool (((v1.2 == 0) && (((v1.1.map e_QChunk).length : Int) == 3)) && (v1.1.getD ((2 : Int).toNat) default).f_Last)), (27, .bool (((v1.2 == 0) && (((v1.1.map e_QChunk).length : Int) == 3)) && (v1.1.getD ((2 : Int).toNat) default).f_Last)), (26, .cnd (((v1.2 == 0) && (((v1.1.map e_QChunk).length : Int) == 3)) == true) (.bool ((v1.1.getD ((2 : Int).toNat) default).f_Last))), (25, .cnd (((v1.2 == 0) && (((v1.1.map e_QChunk).length : Int) == 3)) == true) (.iptr 4 (v1.1.map e_QChunk) ((2 : Int).toNat) 2)), (24, .cnd (((v1.2 == 0) && (((v1.1.map e_QChunk).length : Int) == 3)) == true) (.iptr 4 (v1.1.map e_QChunk) ((2 : Int).toNat) 0)), (23, .cnd (((v1.2 == 0) && (((v1.1.map e_QChunk).length : Int) == 3)) == true) (.isl 4 (v1.1.map e_QChunk) false)), (22, .bool ((v1.2 == 0) && (((v1.1.map e_QChunk).length : Int) == 3))), (21, .bool ((v1.2 == 0) && (((v1.1.map e_QChunk).length : Int) == 3))), (20, .cnd ((v1.2 == 0) == true) (.bool (((v1.1.map e_QChunk).length : Int) == 3))), (19, .cnd ((v1.2 == 0) == true) (.int .i64 ((v1.1.map e_QChunk).length : Int))), (18, .cnd ((v1.2 == 0) == true) (.isl 4 (v1.1.map e_QChunk) false)), (17, .bool (v1.2 == 0)), (16, .bool (v1.2 == 0)), (15, .int .i64 v1.2), (4, .int .i64 v2.2), (3, .isl 1 (v2.1.map e_i64) false), (14, .int .i64 v2.2), (13, .isl 1 (v2.1.map e_i64) false), (10, .tup [.isl 1 (v2.1.map e_i64) false, .int .i64 v2.2]), (12, .tup [.isl 1 (v2.1.map e_i64) false, .int .i64 v2.2]), (11, .isl 1 (([1, 2, 5, 10] : List Int).map e_i64) true), (1, .isl 4 (v1.1.map e_QChunk) false), (2, .int .i64 v1.2)] _ _
  refine And.intro (fun hp => hp) ?_
  refine And.intro (fun hc => (bqt hc)) ?_
  refine Or.inl (Exists.intro (.isl 1 (([20, 50, 100] : List Int).map e_i64) true) (And.intro (fun hp => And.intro rfl (And.intro rfl rfl)) ?_))
  obtain ⟨v4, h6, h⟩ := bind_some h
  refine Or.inl (Exists.intro (.bool v4) (And.intro (fun hp => And.intro (And.intro hp hp) (PFn.call (f10_ok (ite_tt hp h6)) (And.intro (Vw.same _ rfl) (And.intro (Vw.islF _ _ _) trivial)) (And.intro rfl (And.intro rfl rfl)))) ?_))
  refine And.intro (fun hc => (bqt hc)) ?_
  show yops _ _ _ [(44, .bool ((((((v1.2 == 0) && (((v1.1.map e_QChunk).length : Int) == 3)) && (v1.1.getD ((2 : Int).toNat) default).f_Last) && v3) && (v2.2 == 0)) && v4)), (43, .cnd ((((((v1.2 == 0) && (((v1.1.map e_QChunk).length : Int) == 3)) && (v1.1.getD ((2 : Int).toNat) default).f_Last) && v3) && (v2.2 == 0)) == true) (.bool v4)), (42, .cnd ((((((v1.2 == 0) && (((v1.1.map e_QChunk).length : Int) == 3)) && (v1.1.getD ((2 : Int).toNat) default).f_Last) && v3) && (v2.2 == 0)) == true) (.isl 1 (([20, 50, 100] : List Int).map e_i64) true)), (41, .cnd ((((((v1.2 == 0) && (((v1.1.map e_QChunk).length : Int) == 3)) && (v1.1.getD ((2 : Int).toNat) default).f_Last) && v3) && (v2.2 == 0)) == true) (.isl 1 (v2.1.map e_i64) false)), (40, .bool (((((v1.2 == 0) && (((v1.1.map e_QChunk).length : Int) == 3)) && (v1.1.getD ((2 : Int).toNat) default).f_Last) && v3) && (v2.2 == 0))), (39, .bool (((((v1.2 == 0) && (((v1.1.map e_QChunk).length : Int) == 3)) && (v1.1.getD ((2 : Int).toNat) default).f_Last) && v3) && (v2.2 == 0))), (38, .cnd (((((v1.2 == 0) && (((v1.1.map e_QChunk).length : Int) == 3)) && (v1.1.getD ((2 : Int).toNat) default).f_Last) && v3) == true) (.bool (v2.2 == 0))), (37, .cnd (((((v1.2 == 0) && (((v1.1.map e_QChunk).length : Int) == 3)) && (v1.1.getD ((2 : Int).toNat) default).f_Last) && v3) == true) (.int .i64 v2.2)), (36, .bool ((((v1.2 == 0) && (((v1.1.map e_QChunk).length : Int) == 3)) && (v1.1.getD ((2 : Int).toNat) default).f_Last) && v3)), (35, .bool ((((v1.2 == 0) && (((v1.1.map e_QChunk).length : Int) == 3)) && (v1.1.getD ((2 : Int).toNat) default).f_Last) && v3)), (34, .cnd ((((v1.2 == 0) && (((v1.1.map e_QChunk).length : Int) == 3)) && (v1.1.getD ((2 : Int).toNat) default).f_Last) == true) (.bool v3)), (33, .cnd ((((v1.2 == 0) && (((v1.1.map e_QChunk).length : Int) == 3)) && (v1.1.getD ((2 : Int).toNat) default).f_Last) == true) (.isl 1 (([5] : List Int).map e_i64) true)), (32, .cnd ((((v1.2 == 0) && (((v1.1.map e_QChunk).length : Int) == 3)) && (v1.1.getD ((2 : Int).toNat) default).f_Last) == true) (.isl 1 (((v1.1.getD ((2 : Int).toNat) default).f_Items).map e_i64) false)), (31, .cnd ((((v1.2 == 0) && (((v1.1.map e_QChunk).length : Int) == 3)) && (v1.1.getD ((2 : Int).toNat) default).f_Last) == true) (.iptr 4 (v1.1.map e_QChunk) ((2 : Int).toNat) 3)), (30, .cnd ((((v1.2 == 0) && (((v1.1.map e_QChunk).length : Int) == 3)) && (v1.1.getD ((2 : Int).toNat) default).f_Last) == true) (.iptr 4 (v1.1.map e_QChunk) ((2 : Int).toNat) 0)), (29, .cnd ((((v1.2 == 0) && (((v1.1.map e_QChunk).length : Int) == 3)) && (v1.1.getD ((2 : Int).toNat) default).f_Last) == true) (.isl 4 (v1.1.map e_QChunk) false)), (28, .bool (((v1.2 == 0) && (((v1.1.map e_QChunk).length : Int) == 3)) && (v1.1.getD ((2 : Int).toNat) default).f_Last)), (27, .bool (((v1.2 == 0) && (((v1.1.map e_QChunk).length : Int) == 3)) && (v1.1.getD ((2 : Int).toNat) default).f_Last)), (26, .cnd (((v1.2 == 0) && (((v1.1.map e_QChunk).length : Int) == 3)) == true) (.bool ((v1.1.getD ((2 : Int).toNat) default).f_Last))), (25, .cnd (((v1.2 == 0) && (((v1.1.map e_QChunk).length : Int) == 3)) == true) (.iptr 4 (v1.1.map e_QChunk) ((2 : Int).toNat) 2)), (24, .cnd (((v1.2 == 0) && (((v1.1.map e_QChunk).length : Int) == 3)) == true) (.iptr 4 (v1.1.map e_QChunk) ((2 : Int).toNat) 0)), (23, .cnd (((v1.2 == 0) && (((v1.1.map e_QChunk).length : Int) == 3)) == true) (.isl 4 (v1.1.map e_QChunk) false)), (22, .bool ((v1.2 == 0) && (((v1.1.map e_QChunk).length : Int) == 3))), (21, .bool ((v1.2 == 0) && (((v1.1.map e_QChunk).length : Int) == 3))), (20, .cnd ((v1.2 == 0) == true) (.bool (((v1.1.map e_QChunk).length : Int) == 3))), (19, .cnd ((v1.2 == 0) == true) (.int .i64 ((v1.1.map e_QChunk).length : Int))), (18, .cnd ((v1.2 == 0) == true) (.isl 4 (v1.1.map e_QChunk) false)), (17, .bool (v1.2 == 0)), (16, .bool (v1.2 == 0)), (15, .int .i64 v1.2), (4, .int .i64 v2.2), (3, .isl 1 (v2.1.map e_i64) false), (14, .int .i64 v2.2), (13, .isl 1 (v2.1.map e_i64) false), (10, .tup [.isl 1 (v2.1.map e_i64) false, .int .i64 v2.2]), (12, .tup [.isl 1 (v2.1.map e_i64) false, .int .i64 v2.2]), (11, .isl 1 (([1, 2, 5, 10] : List Int).map e_i64) true), (1, .isl 4 (v1.1.map e_QChunk) false), (2, .int .i64 v1.2)] _ _
  refine LWp.sim (e := [(0, .bool ((((((v1.2 == 0) && (((v1.1.map e_QChunk).length : Int) == 3)) && (v1.1.getD ((2 : Int).toNat) default).f_Last) && v3) && (v2.2 == 0)) && v4))]) (L := []) (n := 0) ?_ ?_
  · exact simI (M := []) rfl (And.intro (Vw.same _ rfl) trivial) trivial
  refine retI ?_
  cases h
  exact And.intro trivial (And.intro rfl (Vw.same _ rfl))

theorem f5_ok {m : Option Nat} {o : Bool} (h : S_glossatorlaw3_chunkExample m = some o) : PFn Try.prog 5 [] (.bool o) := PFn.ofFnW (L := f5_L) f5_low f5_fok (Nat.le_of_ble_eq_true rfl) rfl (f5_start h)

def f21_c0 : LCode := (.seq (.region [⟨some 2, .mv (.c (.val (.slice none 0 0))), none⟩])
 (.seq (.region [⟨some 3, .mv (.t 0), none⟩,
   ⟨some 4, .app true 1 8 (.c (.val (.slice none 0 0))) (.t 3), none⟩,
   ⟨some 2, .mv (.t 4), none⟩])
 .ret))
def f21_lay : Lay := ⟨5, [], false⟩
def f21_res : List LRes := [.t 2]
def f21_L : LFn := ⟨1, f21_lay, f21_c0, f21_res⟩
theorem f21_low : lowFn Try.prog [] 21 = some f21_L := by kernel_rfl
theorem f21_fok : FnOk Try.prog 21 := ⟨_, Try.func21, rfl, rfl⟩
noncomputable def S_glossatorref3_Clone_int (m : Option Nat) (a0 : List Int) : Option (List Int) :=
  if (a0.map e_i64).length * 8 ≤ 140737488355328 then
  some a0
  else none

def f21_Q (a0 : List Int) (o : (List Int)) : Exit → Env → AHeap → Nat → Prop := FinK f21_res (PureEnd (.isl 1 (o.map e_i64) false))

theorem f21_start {a0 : List Int} {m : Option Nat} {o : (List Int)} (h : S_glossatorref3_Clone_int m a0 = some o) : LWp Try.prog f21_lay 0 f21_c0 (f21_Q a0 o) (initEnv 0 [.isl 1 (a0.map e_i64) false]) [] 0 := by
  unfold S_glossatorref3_Clone_int at h
  refine seqI ?_
  refine regI ?_
  refine seqI ?_
  refine regI ?_
  obtain ⟨h1, h⟩ := ite_some h
  refine Exists.intro (a0.map e_i64) (And.intro rfl (And.intro h1 ?_))
  refine retI ?_
  cases h
  exact And.intro trivial (And.intro rfl (Vw.oslI _ _ _))

theorem f21_ok {a0 : List Int} {m : Option Nat} {o : (List Int)} (h : S_glossatorref3_Clone_int m a0 = some o) : PFn Try.prog 21 [.isl 1 (a0.map e_i64) false] (.isl 1 (o.map e_i64) false) := PFn.ofFnW (L := f21_L) f21_low f21_fok (Nat.le_of_ble_eq_true rfl) rfl (f21_start h)

def f8_c0 : LCode := (.block 1
  (.seq (.region [⟨some 10, .mv (.t 2), none⟩,
    ⟨some 11, .mv (.t 1), none⟩,
    ⟨some 12, .len false (.t 11), none⟩,
    ⟨some 13, .mnx false [(.t 10), (.t 12)], none⟩,
    ⟨some 8, .mv (.t 13), none⟩])
  (.seq (.region [⟨some 14, .mv (.t 0), none⟩,
    ⟨some 15, .mv (.t 7), none⟩,
    ⟨some 16, .len false (.t 15), none⟩,
    ⟨some 17, .mv (.t 1), none⟩,
    ⟨some 18, .mv (.t 8), none⟩,
    ⟨some 19, .slSl 1 (.t 17) none (some (.t 18)) none, none⟩,
    ⟨some 20, .call 21 [(.t 19)], none⟩,
    ⟨some 21, .build [(.int .i64 0), (.int .i64 0), (.bool false), (.isl 1 [] true)] [(0, 1, (.t 14)), (1, 1, (.t 16)), (3, 1, (.t 20))], none⟩,
    ⟨some 9, .alloc [(.int .i64 0), (.int .i64 0), (.bool false), (.isl 1 [] true)], none⟩,
    ⟨none, .store 4 (.t 9) (.t 21), none⟩])
  (.seq (.region [⟨some 22, .mv (.t 1), none⟩,
    ⟨some 23, .mv (.t 8), none⟩,
    ⟨some 24, .slSl 1 (.t 22) (some (.t 23)) none none, none⟩,
    ⟨some 1, .mv (.t 24), none⟩])
  (.seq (.region [⟨some 25, .mv (.t 1), none⟩,
    ⟨some 26, .len false (.t 25), none⟩,
    ⟨some 27, .bin .eql (.t 26) (.c (.int .i64 0)), none⟩,
    ⟨some 28, .faddr 2 (.t 9), none⟩,
    ⟨none, .store 1 (.t 28) (.t 27), none⟩])
  (.seq (.region [⟨some 29, .mv (.t 7), none⟩,
    ⟨some 30, .load true 4 (.t 9), none⟩,
    ⟨some 31, .mkSl true 4 [(.int .i64 0), (.int .i64 0), (.bool false), (.isl 1 [] true)] 1 [(0, (.t 30))], none⟩,
    ⟨some 32, .app true 4 48 (.t 29) (.t 31), none⟩,
    ⟨some 7, .mv (.t 32), none⟩])
  (.seq (.region [⟨some 33, .faddr 2 (.t 9), none⟩,
    ⟨some 34, .load false 1 (.t 33), none⟩])
  (.cond (.t 34)
   (.seq (.region [⟨some 35, .mv (.t 7), none⟩,
     ⟨some 6, .mv (.t 35), none⟩])
   .ret)
   .skip))))))))
def f8_c1 : LCode := (.seq (.region [⟨some 6, .mv (.c (.val (.slice none 0 0))), none⟩])
 (.seq (.region [⟨some 7, .mv (.c (.val (.slice none 0 0))), none⟩])
 (.block 0
  (.loop
   f8_c0))))
def f8_lay : Lay := ⟨36, [], false⟩
def f8_res : List LRes := [.t 6]
def f8_L : LFn := ⟨3, f8_lay, f8_c1, f8_res⟩
theorem f8_low : lowFn Try.prog [] 8 = some f8_L := by kernel_rfl
theorem f8_fok : FnOk Try.prog 8 := ⟨_, Try.func8, rfl, rfl⟩
def f8_Q (a0 : Int) (a1 : List Int) (a2 : Int) (o : (List G_QChunk)) : Exit → Env → AHeap → Nat → Prop := FinK f8_res (PureEnd (.isl 4 (o.map e_QChunk) false))

def f8_L1_env (a0 : Int) (a2 : Int) (s : ((List Int) × (List G_QChunk))) : Env := [(0, .int .i64 a0), (1, .isl 1 (s.1.map e_i64) false), (2, .int .i64 a2), (7, .osl (0, 0) 4 (s.2.map e_QChunk))]
def f8_L1_hp (a0 : Int) (a2 : Int) (s : ((List Int) × (List G_QChunk))) : AHeap := [((0, 0), .tok)]
def f8_L1_Q (a0 : Int) (a1 : List Int) (a2 : Int) (o : (List G_QChunk)) : Exit → Env → AHeap → Nat → Prop := (QBlock 0 (f8_Q a0 a1 a2 o))

noncomputable def S_glossatorref3_Split_b1 (m : Option Nat) (a0 : Int) (a2 : Int) (v2 : List Int) (v3 : List G_QChunk) : Option (((List Int) × (List G_QChunk)) ⊕ (List G_QChunk)) :=
  if (0 : Int) ≤ (if ((v2.map e_i64).length : Int) < a2 then ((v2.map e_i64).length : Int) else a2) ∧ (if ((v2.map e_i64).length : Int) < a2 then ((v2.map e_i64).length : Int) else a2) ≤ ((v2.map e_i64).length : Int) then
  (S_glossatorref3_Clone_int m (v2.take (if ((v2.map e_i64).length : Int) < a2 then ((v2.map e_i64).length : Int) else a2).toNat)).bind fun v5 =>
  if (0 : Int) ≤ (if ((v2.map e_i64).length : Int) < a2 then ((v2.map e_i64).length : Int) else a2) ∧ (if ((v2.map e_i64).length : Int) < a2 then ((v2.map e_i64).length : Int) else a2) ≤ ((v2.map e_i64).length : Int) then
  if ((v3 ++ ([(G_QChunk.mk a0 ((v3.map e_QChunk).length : Int) ((((v2.drop (if ((v2.map e_i64).length : Int) < a2 then ((v2.map e_i64).length : Int) else a2).toNat).map e_i64).length : Int) == 0) v5)] : List G_QChunk)).map e_QChunk).length * 48 ≤ 140737488355328 then
  if ((((v2.drop (if ((v2.map e_i64).length : Int) < a2 then ((v2.map e_i64).length : Int) else a2).toNat).map e_i64).length : Int) == 0) = true then
    Option.map Sum.inr (
      some (v3 ++ ([(G_QChunk.mk a0 ((v3.map e_QChunk).length : Int) ((((v2.drop (if ((v2.map e_i64).length : Int) < a2 then ((v2.map e_i64).length : Int) else a2).toNat).map e_i64).length : Int) == 0) v5)] : List G_QChunk)))
  else
    some (.inl ((v2.drop (if ((v2.map e_i64).length : Int) < a2 then ((v2.map e_i64).length : Int) else a2).toNat), (v3 ++ ([(G_QChunk.mk a0 ((v3.map e_QChunk).length : Int) ((((v2.drop (if ((v2.map e_i64).length : Int) < a2 then ((v2.map e_i64).length : Int) else a2).toNat).map e_i64).length : Int) == 0) v5)] : List G_QChunk))))
  else none
  else none
  else none

noncomputable def S_glossatorref3_Split_l1 (m : Option Nat) (a0 : Int) (a2 : Int) (v2 : List Int) (v3 : List G_QChunk) : Option (List G_QChunk) := loopM m (fun (s : ((List Int) × (List G_QChunk))) => S_glossatorref3_Split_b1 m a0 a2 s.1 s.2) (v2, v3)

theorem f8_L1_bok {a1 : List Int} {a0 : Int} {a2 : Int} {v2 : List Int} {v3 : List G_QChunk} {m : Option Nat} {o : ((List Int) × (List G_QChunk)) ⊕ (List G_QChunk)} (h : S_glossatorref3_Split_b1 m a0 a2 v2 v3 = some o) :
    LWp Try.prog f8_lay 0 f8_c0 (BodyQ 0 1 (f8_L1_env a0 a2) (f8_L1_hp a0 a2) (f8_L1_Q a0 a1 a2) o) [(0, .int .i64 a0), (1, .isl 1 (v2.map e_i64) false), (2, .int .i64 a2), (7, .osl (0, 0) 4 (v3.map e_QChunk))] [((0, 0), .tok)] 1 := by
  unfold S_glossatorref3_Split_b1 at h
  refine blockI ?_
  refine seqI ?_
  refine regI ?_
  refine seqI ?_
  refine regI ?_
  obtain ⟨h11, h⟩ := ite_some h
  refine Exists.intro (.isl 1 ((v2.take (if ((v2.map e_i64).length : Int) < a2 then ((v2.map e_i64).length : Int) else a2).toNat).map e_i64) false) (And.intro (sl_eq e_i64 (slB e_i64 v2 _) rfl) (And.intro (And.intro rfl (And.intro (Int.le_refl _) h11)) ?_))
  obtain ⟨v5, h12, h⟩ := bind_some h
  refine PFn.call (f21_ok h12) (And.intro (Vw.same _ rfl) trivial) ?_
  show yops _ _ _ [(20, .isl 1 (v5.map e_i64) false), (19, .isl 1 ((v2.take (if ((v2.map e_i64).length : Int) < a2 then ((v2.map e_i64).length : Int) else a2).toNat).map e_i64) false), (18, .int .i64 (if ((v2.map e_i64).length : Int) < a2 then ((v2.map e_i64).length : Int) else a2)), (17, .isl 1 (v2.map e_i64) false), (16, .int .i64 ((v3.map e_QChunk).length : Int)), (15, .osl (0, 0) 4 (v3.map e_QChunk)), (14, .int .i64 a0), (8, .int .i64 (if ((v2.map e_i64).length : Int) < a2 then ((v2.map e_i64).length : Int) else a2)), (13, .int .i64 (if ((v2.map e_i64).length : Int) < a2 then ((v2.map e_i64).length : Int) else a2)), (12, .int .i64 ((v2.map e_i64).length : Int)), (11, .isl 1 (v2.map e_i64) false), (10, .int .i64 a2), (0, .int .i64 a0), (1, .isl 1 (v2.map e_i64) false), (2, .int .i64 a2), (7, .osl (0, 0) 4 (v3.map e_QChunk))] _ _
  refine LWp.sim (e := [(0, .int .i64 a0), (1, .isl 1 (v2.map e_i64) false), (2, .int .i64 a2), (7, .osl (0, 0) 4 (v3.map e_QChunk)), (8, .int .i64 (if ((v2.map e_i64).length : Int) < a2 then ((v2.map e_i64).length : Int) else a2)), (9, .ptr (1, 0) 0 0)]) (L := [((0, 0), .tok), ((1, 0), .one [.int .i64 a0, .int .i64 ((v3.map e_QChunk).length : Int), .bool false, .isl 1 (v5.map e_i64) false])]) (n := 2) ?_ ?_
  · exact simI (M := [((0, 0), (0, 0)), ((1, 0), (1, 0))]) rfl (And.intro (Vw.same _ rfl) (And.intro (Vw.same _ rfl) (And.intro (Vw.same _ rfl) (And.intro (Vw.osl _ _ _ _ rfl) (And.intro (Vw.same _ rfl) (And.intro (Vw.ptr _ _ _ _ rfl) trivial)))))) (And.intro (And.intro rfl BVw.tok) (And.intro (And.intro rfl (BVw.oneL (And.intro (Vw.same _ rfl) (And.intro (Vw.same _ rfl) (And.intro (Vw.same _ rfl) (And.intro (Vw.same _ rfl) trivial)))))) trivial))
  refine seqI ?_
  refine regI ?_
  obtain ⟨h13, h⟩ := ite_some h
  refine Exists.intro (.isl 1 ((v2.drop (if ((v2.map e_i64).length : Int) < a2 then ((v2.map e_i64).length : Int) else a2).toNat).map e_i64) false) (And.intro (sl_eq e_i64 (slA e_i64 v2 _) rfl) (And.intro (And.intro rfl (And.intro (And.left h13) (And.intro (And.right h13) (Int.le_refl _)))) ?_))
  refine seqI ?_
  refine regI ?_
  refine LWp.sim (e := [(0, .int .i64 a0), (1, .isl 1 ((v2.drop (if ((v2.map e_i64).length : Int) < a2 then ((v2.map e_i64).length : Int) else a2).toNat).map e_i64) false), (2, .int .i64 a2), (7, .osl (0, 0) 4 (v3.map e_QChunk)), (9, .ptr (1, 0) 0 0)]) (L := [((0, 0), .tok), ((1, 0), .one [.int .i64 a0, .int .i64 ((v3.map e_QChunk).length : Int), .bool ((((v2.drop (if ((v2.map e_i64).length : Int) < a2 then ((v2.map e_i64).length : Int) else a2).toNat).map e_i64).length : Int) == 0), .isl 1 (v5.map e_i64) false])]) (n := 2) ?_ ?_
  · exact simI (M := [((0, 0), (0, 0)), ((1, 0), (1, 0))]) rfl (And.intro (Vw.same _ rfl) (And.intro (Vw.same _ rfl) (And.intro (Vw.same _ rfl) (And.intro (Vw.osl _ _ _ _ rfl) (And.intro (Vw.ptr _ _ _ _ rfl) trivial))))) (And.intro (And.intro rfl BVw.tok) (And.intro (And.intro rfl (BVw.oneL (And.intro (Vw.same _ rfl) (And.intro (Vw.same _ rfl) (And.intro (Vw.same _ rfl) (And.intro (Vw.same _ rfl) trivial)))))) trivial))
  refine seqI ?_
  refine regI ?_
  obtain ⟨h14, h⟩ := ite_some h
  refine Exists.intro ((v3 ++ ([(G_QChunk.mk a0 ((v3.map e_QChunk).length : Int) ((((v2.drop (if ((v2.map e_i64).length : Int) < a2 then ((v2.map e_i64).length : Int) else a2).toNat).map e_i64).length : Int) == 0) v5)] : List G_QChunk)).map e_QChunk) (And.intro (app_enc e_QChunk v3 ([(G_QChunk.mk a0 ((v3.map e_QChunk).length : Int) ((((v2.drop (if ((v2.map e_i64).length : Int) < a2 then ((v2.map e_i64).length : Int) else a2).toNat).map e_i64).length : Int) == 0) v5)] : List G_QChunk)) (And.intro h14 ?_))
  refine seqI ?_
  refine regI ?_
  refine condI (v := ((((v2.drop (if ((v2.map e_i64).length : Int) < a2 then ((v2.map e_i64).length : Int) else a2).toNat).map e_i64).length : Int) == 0)) rfl trivial (fun h15 => ?_) (fun h15 => ?_)
  · have h := ite_tt h15 h
    refine seqI ?_
    refine regI ?_
    refine LWp.sim (e := [(6, .osl (0, 0) 4 ((v3 ++ ([(G_QChunk.mk a0 ((v3.map e_QChunk).length : Int) ((((v2.drop (if ((v2.map e_i64).length : Int) < a2 then ((v2.map e_i64).length : Int) else a2).toNat).map e_i64).length : Int) == 0) v5)] : List G_QChunk)).map e_QChunk))]) (L := [((0, 0), .tok)]) (n := 1) ?_ ?_
    · exact simI (M := [((0, 0), (2, 0))]) rfl (And.intro (Vw.osl _ _ _ _ rfl) trivial) (And.intro (And.intro rfl BVw.tok) trivial)
    refine retI ?_
    obtain ⟨o, hq, rfl⟩ := Option.map_eq_some_iff.1 h
    replace h := hq; clear hq
    refine And.intro nofun ?_
    cases h
    exact And.intro trivial (And.intro rfl (Vw.oslI _ _ _))
  · have h := ite_ff h15 h
    refine skipI ?_
    cases h
    exact And.intro rfl (simI (M := [((0, 0), (2, 0))]) rfl (And.intro (Vw.same _ rfl) (And.intro (Vw.same _ rfl) (And.intro (Vw.same _ rfl) (And.intro (Vw.osl _ _ _ _ rfl) trivial)))) (And.intro (And.intro rfl BVw.tok) trivial))

theorem f8_L1_ok {a1 : List Int} {a0 : Int} {a2 : Int} {v2 : List Int} {v3 : List G_QChunk} {m : Option Nat} {o : (List G_QChunk)} (h : S_glossatorref3_Split_l1 m a0 a2 v2 v3 = some o) :
    LWp Try.prog f8_lay 0 (.loop f8_c0) (QBlock 0 (f8_Q a0 a1 a2 o)) [(0, .int .i64 a0), (1, .isl 1 (v2.map e_i64) false), (2, .int .i64 a2), (7, .osl (0, 0) 4 (v3.map e_QChunk))] [((0, 0), .tok)] 1 :=
  LWp_loopM (m := m) (s := ((v2, v3) : ((List Int) × (List G_QChunk)))) (r := o) (fun (s : ((List Int) × (List G_QChunk))) => S_glossatorref3_Split_b1 m a0 a2 s.1 s.2) (f8_L1_env a0 a2) (f8_L1_hp a0 a2) (f8_L1_Q a0 a1 a2) (fun s o h => f8_L1_bok h) h

noncomputable def S_glossatorref3_Split (m : Option Nat) (a0 : Int) (a1 : List Int) (a2 : Int) : Option (List G_QChunk) :=
  S_glossatorref3_Split_l1 m a0 a2 a1 []

theorem f8_start {a0 : Int} {a1 : List Int} {a2 : Int} {m : Option Nat} {o : (List G_QChunk)} (h : S_glossatorref3_Split m a0 a1 a2 = some o) : LWp Try.prog f8_lay 0 f8_c1 (f8_Q a0 a1 a2 o) (initEnv 0 [.int .i64 a0, .isl 1 (a1.map e_i64) false, .int .i64 a2]) [] 0 := by
  unfold S_glossatorref3_Split at h
  refine seqI ?_
  refine regI ?_
  refine seqI ?_
  refine regI ?_
  refine blockI ?_
  refine LWp.sim ?_ (f8_L1_ok h)
  exact simI (M := []) rfl (And.intro (Vw.same _ rfl) (And.intro (Vw.same _ rfl) (And.intro (Vw.same _ rfl) (And.intro (Vw.nilO _ _ (by decide)) trivial)))) (And.intro (And.intro rfl (And.intro (by decide) (by decide))) trivial)

theorem f8_ok {a0 : Int} {a1 : List Int} {a2 : Int} {m : Option Nat} {o : (List G_QChunk)} (h : S_glossatorref3_Split m a0 a1 a2 = some o) : PFn Try.prog 8 [.int .i64 a0, .isl 1 (a1.map e_i64) false, .int .i64 a2] (.isl 4 (o.map e_QChunk) false) := PFn.ofFnW (L := f8_L) f8_low f8_fok (Nat.le_of_ble_eq_true rfl) rfl (f8_start h)

def f7_c1 : LCode := (.seq (.region [⟨some 15, .bin .lss (.t 14) (.t 13), none⟩])
 (.seq (.cond (.t 15)
  .skip
  (.exit 0))
 (.seq (.block 1
  (.seq (.region [⟨some 16, .mv (.t 14), none⟩,
    ⟨some 17, .iaddr 4 (.t 12) (.t 14), none⟩,
    ⟨some 18, .load true 4 (.t 17), none⟩,
    ⟨some 6, .alloc [(.int .i64 0), (.int .i64 0), (.bool false), (.isl 1 [] true)], none⟩,
    ⟨some 5, .mv (.t 16), none⟩,
    ⟨none, .store 4 (.t 6) (.t 18), none⟩])
  (.seq (.draw [⟨⟨some 19, .faddr 0 (.t 6), none⟩, []⟩,
    ⟨⟨some 20, .load false 1 (.t 19), none⟩, []⟩,
    ⟨⟨some 21, .mv (.t 1), none⟩, []⟩,
    ⟨⟨some 22, .mv (.t 5), none⟩, []⟩,
    ⟨⟨some 23, .iaddr 4 (.t 21) (.t 22), none⟩, []⟩,
    ⟨⟨some 24, .faddr 0 (.t 23), none⟩, []⟩,
    ⟨⟨some 25, .load false 1 (.t 24), none⟩, []⟩,
    ⟨⟨some 26, .bin .neq (.t 20) (.t 25), none⟩, []⟩,
    ⟨⟨some 27, .mv (.t 26), none⟩, []⟩,
    ⟨⟨some 28, .faddr 1 (.t 6), some (27, false)⟩, []⟩,
    ⟨⟨some 29, .load false 1 (.t 28), some (27, false)⟩, []⟩,
    ⟨⟨some 30, .mv (.t 1), some (27, false)⟩, []⟩,
    ⟨⟨some 31, .mv (.t 5), some (27, false)⟩, []⟩,
    ⟨⟨some 32, .iaddr 4 (.t 30) (.t 31), some (27, false)⟩, []⟩,
    ⟨⟨some 33, .faddr 1 (.t 32), some (27, false)⟩, []⟩,
    ⟨⟨some 34, .load false 1 (.t 33), some (27, false)⟩, []⟩,
    ⟨⟨some 35, .bin .neq (.t 29) (.t 34), some (27, false)⟩, []⟩,
    ⟨⟨some 36, .pick (.t 27) (.c (.bool true)) (.t 35), none⟩, []⟩,
    ⟨⟨some 37, .mv (.t 36), none⟩, []⟩,
    ⟨⟨some 38, .faddr 2 (.t 6), some (37, false)⟩, []⟩,
    ⟨⟨some 39, .load false 1 (.t 38), some (37, false)⟩, []⟩,
    ⟨⟨some 40, .mv (.t 1), some (37, false)⟩, []⟩,
    ⟨⟨some 41, .mv (.t 5), some (37, false)⟩, []⟩,
    ⟨⟨some 42, .iaddr 4 (.t 40) (.t 41), some (37, false)⟩, []⟩,
    ⟨⟨some 43, .faddr 2 (.t 42), some (37, false)⟩, []⟩,
    ⟨⟨some 44, .load false 1 (.t 43), some (37, false)⟩, []⟩,
    ⟨⟨some 45, .eq true .bool (.t 39) (.t 44), some (37, false)⟩, []⟩,
    ⟨⟨some 46, .pick (.t 37) (.c (.bool true)) (.t 45), none⟩, []⟩,
    ⟨⟨some 47, .mv (.t 46), none⟩, []⟩,
    ⟨⟨some 48, .faddr 3 (.t 6), some (47, false)⟩, []⟩,
    ⟨⟨some 49, .load false 1 (.t 48), some (47, false)⟩, []⟩,
    ⟨⟨some 50, .mv (.t 1), some (47, false)⟩, []⟩,
    ⟨⟨some 51, .mv (.t 5), some (47, false)⟩, []⟩,
    ⟨⟨some 52, .iaddr 4 (.t 50) (.t 51), some (47, false)⟩, []⟩,
    ⟨⟨some 53, .faddr 3 (.t 52), some (47, false)⟩, []⟩,
    ⟨⟨some 54, .load false 1 (.t 53), some (47, false)⟩, []⟩,
    ⟨⟨some 55, .call 10 [(.t 49), (.t 54)], some (47, false)⟩, []⟩,
    ⟨⟨some 56, .un .not (.t 55), some (47, false)⟩, []⟩,
    ⟨⟨some 57, .pick (.t 47) (.c (.bool true)) (.t 56), none⟩, []⟩])
  (.cond (.t 57)
   (.seq (.region [⟨some 4, .mv (.c (.bool false)), none⟩])
   .ret)
   .skip))))
 (.region [⟨some 58, .bin .add (.t 14) (.c (.int .i64 1)), none⟩,
   ⟨some 14, .mv (.t 58), none⟩]))))
def f7_c0 : LCode := (.seq (.region [⟨some 4, .mv (.c (.bool true)), none⟩])
 .ret)
def f7_c2 : LCode := (.seq (.region [⟨some 4, .mv (.c (.bool false)), none⟩])
 (.seq (.seq (.region [⟨some 7, .mv (.t 0), none⟩,
   ⟨some 8, .len false (.t 7), none⟩,
   ⟨some 9, .mv (.t 1), none⟩,
   ⟨some 10, .len false (.t 9), none⟩,
   ⟨some 11, .bin .neq (.t 8) (.t 10), none⟩])
 (.cond (.t 11)
  (.seq (.region [⟨some 4, .mv (.c (.bool false)), none⟩])
  .ret)
  .skip))
 (.seq (.seq (.region [⟨some 12, .mv (.t 0), none⟩,
   ⟨some 13, .len false (.t 12), none⟩,
   ⟨some 14, .mv (.c (.int .i64 0)), none⟩])
 (.block 0
  (.loop
   f7_c1)))
 f7_c0)))
def f7_lay : Lay := ⟨59, [], false⟩
def f7_res : List LRes := [.t 4]
def f7_L : LFn := ⟨2, f7_lay, f7_c2, f7_res⟩
theorem f7_low : lowFn Try.prog [] 7 = some f7_L := by kernel_rfl
theorem f7_fok : FnOk Try.prog 7 := ⟨_, Try.func7, rfl, rfl⟩
def f7_Q (a0 : List G_QChunk) (a1 : List G_QChunk) (o : Bool) : Exit → Env → AHeap → Nat → Prop := FinK f7_res (PureEnd (.bool o))

def f7_L1_env (a0 : List G_QChunk) (a1 : List G_QChunk) (s : Int) : Env := [(1, .isl 4 (a1.map e_QChunk) false), (12, .isl 4 (a0.map e_QChunk) false), (13, .int .i64 ((a0.map e_QChunk).length : Int)), (14, .int .i64 s)]
def f7_L1_hp (a0 : List G_QChunk) (a1 : List G_QChunk) (s : Int) : AHeap := []
def f7_L1_Q (a0 : List G_QChunk) (a1 : List G_QChunk) (o : Bool) : Exit → Env → AHeap → Nat → Prop := (QBlock 0 (QSeq Try.prog f7_lay 0 f7_c0 (f7_Q a0 a1 o)))

noncomputable def S_glossatorref3_EqualChunks_j1 (m : Option Nat) : Option Bool :=
  some true

noncomputable def S_glossatorref3_EqualChunks_b1 (m : Option Nat) (a0 : List G_QChunk) (a1 : List G_QChunk) (v2 : Int) : Option (Int ⊕ Bool) :=
  if (decide (v2 < ((a0.map e_QChunk).length : Int))) = true then
    if (0 : Int) ≤ v2 ∧ v2 < ((a0.map e_QChunk).length : Int) then
    if (0 : Int) ≤ v2 ∧ v2 < ((a1.map e_QChunk).length : Int) then
    if ((((a0.getD v2.toNat default).f_Token != (a1.getD v2.toNat default).f_Token) == false) = true → (0 : Int) ≤ v2 ∧ v2 < ((a1.map e_QChunk).length : Int)) then
    if (((((a0.getD v2.toNat default).f_Token != (a1.getD v2.toNat default).f_Token) || ((a0.getD v2.toNat default).f_Seq != (a1.getD v2.toNat default).f_Seq)) == false) = true → (0 : Int) ≤ v2 ∧ v2 < ((a1.map e_QChunk).length : Int)) then
    if ((((((a0.getD v2.toNat default).f_Token != (a1.getD v2.toNat default).f_Token) || ((a0.getD v2.toNat default).f_Seq != (a1.getD v2.toNat default).f_Seq)) || (!((a0.getD v2.toNat default).f_Last == (a1.getD v2.toNat default).f_Last))) == false) = true → (0 : Int) ≤ v2 ∧ v2 < ((a1.map e_QChunk).length : Int)) then
    (if (((((a0.getD v2.toNat default).f_Token != (a1.getD v2.toNat default).f_Token) || ((a0.getD v2.toNat default).f_Seq != (a1.getD v2.toNat default).f_Seq)) || (!((a0.getD v2.toNat default).f_Last == (a1.getD v2.toNat default).f_Last))) == false) = true then S_glossatorref3_Equal_int m ((a0.getD v2.toNat default).f_Items) ((a1.getD v2.toNat default).f_Items) else some default).bind fun v4 =>
    if (((((a0.getD v2.toNat default).f_Token != (a1.getD v2.toNat default).f_Token) || ((a0.getD v2.toNat default).f_Seq != (a1.getD v2.toNat default).f_Seq)) || (!((a0.getD v2.toNat default).f_Last == (a1.getD v2.toNat default).f_Last))) || (!v4)) = true then
      Option.map Sum.inr (
        some false)
    else
      some (.inl (W (v2 + 1)))
    else none
    else none
    else none
    else none
    else none
  else
    Option.map Sum.inr (
      S_glossatorref3_EqualChunks_j1 m)

noncomputable def S_glossatorref3_EqualChunks_l1 (m : Option Nat) (a0 : List G_QChunk) (a1 : List G_QChunk) (v2 : Int) : Option Bool := loopM m (fun (s : Int) => S_glossatorref3_EqualChunks_b1 m a0 a1 s) v2

theorem f7_j1_ok {a0 : List G_QChunk} {a1 : List G_QChunk} {m : Option Nat} {o : Bool} (h : S_glossatorref3_EqualChunks_j1 m = some o) :
    LWp Try.prog f7_lay 0 f7_c0 (f7_Q a0 a1 o) [] [] 0 := by
  unfold S_glossatorref3_EqualChunks_j1 at h
  refine seqI ?_
  refine regI ?_
  refine retI ?_
  cases h
  exact And.intro trivial (And.intro rfl (Vw.same _ rfl))

theorem f7_L1_bok {a0 : List G_QChunk} {a1 : List G_QChunk} {v2 : Int} {m : Option Nat} {o : Int ⊕ Bool} (h : S_glossatorref3_EqualChunks_b1 m a0 a1 v2 = some o) :
    LWp Try.prog f7_lay 0 f7_c1 (BodyQ 0 0 (f7_L1_env a0 a1) (f7_L1_hp a0 a1) (f7_L1_Q a0 a1) o) [(1, .isl 4 (a1.map e_QChunk) false), (12, .isl 4 (a0.map e_QChunk) false), (13, .int .i64 ((a0.map e_QChunk).length : Int)), (14, .int .i64 v2)] [] 0 := by
  unfold S_glossatorref3_EqualChunks_b1 at h
  refine seqI ?_
  refine regI ?_
  refine seqI ?_
  refine condI (v := (decide (v2 < ((a0.map e_QChunk).length : Int)))) rfl trivial (fun h18 => ?_) (fun h18 => ?_)
  · have h := ite_tt h18 h
    refine skipI ?_
    refine seqI ?_
    refine blockI ?_
    refine seqI ?_
    refine regI ?_
    obtain ⟨h19, h⟩ := ite_some h
    refine And.intro h19 ?_
    refine Exists.intro (e_QChunk (a0.getD v2.toNat default)) (And.intro (getD_enc e_QChunk _ _ (idx_ltL e_QChunk h19)) (And.intro (And.intro (idx_lt h19) (Nat.le_of_ble_eq_true rfl)) ?_))
    refine seqI ?_
    refine drawO rfl ?_
    obtain ⟨h20, h⟩ := ite_some h
    refine And.intro h20 ?_
    show yops _ _ _ [(23, .iptr 4 (a1.map e_QChunk) v2.toNat 0), (22, .int .i64 v2), (21, .isl 4 (a1.map e_QChunk) false), (20, .int .i64 ((a0.getD v2.toNat default).f_Token)), (19, .ptr (0, 0) 0 0), (5, .int .i64 v2), (6, .ptr (0, 0) 0 0), (18, .agg [.int .i64 ((a0.getD v2.toNat default).f_Token), .int .i64 ((a0.getD v2.toNat default).f_Seq), .bool ((a0.getD v2.toNat default).f_Last), .isl 1 (((a0.getD v2.toNat default).f_Items).map e_i64) false]), (17, .iptr 4 (a0.map e_QChunk) v2.toNat 0), (16, .int .i64 v2), (15, .bool (decide (v2 < ((a0.map e_QChunk).length : Int)))), (1, .isl 4 (a1.map e_QChunk) false), (12, .isl 4 (a0.map e_QChunk) false), (13, .int .i64 ((a0.map e_QChunk).length : Int)), (14, .int .i64 v2)] _ _
    refine Exists.intro (e_QChunk (a1.getD v2.toNat default)) (And.intro (getD_enc e_QChunk _ _ (idx_ltL e_QChunk h20)) (And.intro (And.intro (idx_lt h20) (Nat.le_of_ble_eq_true rfl)) ?_))
    refine And.intro (fun hp => hp) ?_
    show yops _ _ _ [(29, .cnd (((a0.getD v2.toNat default).f_Token != (a1.getD v2.toNat default).f_Token) == false) (.int .i64 ((a0.getD v2.toNat default).f_Seq))), (28, .cnd (((a0.getD v2.toNat default).f_Token != (a1.getD v2.toNat default).f_Token) == false) (.ptr (0, 0) 0 1)), (27, .bool ((a0.getD v2.toNat default).f_Token != (a1.getD v2.toNat default).f_Token)), (26, .bool ((a0.getD v2.toNat default).f_Token != (a1.getD v2.toNat default).f_Token)), (25, .int .i64 ((a1.getD v2.toNat default).f_Token)), (24, .iptr 4 (a1.map e_QChunk) v2.toNat 0), (23, .iptr 4 (a1.map e_QChunk) v2.toNat 0), (22, .int .i64 v2), (21, .isl 4 (a1.map e_QChunk) false), (20, .int .i64 ((a0.getD v2.toNat default).f_Token)), (19, .ptr (0, 0) 0 0), (5, .int .i64 v2), (6, .ptr (0, 0) 0 0), (18, .agg [.int .i64 ((a0.getD v2.toNat default).f_Token), .int .i64 ((a0.getD v2.toNat default).f_Seq), .bool ((a0.getD v2.toNat default).f_Last), .isl 1 (((a0.getD v2.toNat default).f_Items).map e_i64) false]), (17, .iptr 4 (a0.map e_QChunk) v2.toNat 0), (16, .int .i64 v2), (15, .bool (decide (v2 < ((a0.map e_QChunk).length : Int)))), (1, .isl 4 (a1.map e_QChunk) false), (12, .isl 4 (a0.map e_QChunk) false), (13, .int .i64 ((a0.map e_QChunk).length : Int)), (14, .int .i64 v2)] _ _
    obtain ⟨h21, h⟩ := ite_some h
    refine And.intro (fun hp => (And.intro (And.intro hp hp) (h21 hp))) ?_
    refine And.intro (fun hp => hp) ?_
    refine Exists.intro (e_QChunk (a1.getD v2.toNat default)) (And.intro (fun hp => And.intro (getD_enc e_QChunk _ _ (idx_ltL e_QChunk (h21 hp))) (And.intro hp (And.intro (idx_lt (h21 hp)) (Nat.le_of_ble_eq_true rfl)))) ?_)
    refine And.intro (fun hp => (And.intro hp hp)) ?_
    show yops _ _ _ [(35, .cnd (((a0.getD v2.toNat default).f_Token != (a1.getD v2.toNat default).f_Token) == false) (.bool ((a0.getD v2.toNat default).f_Seq != (a1.getD v2.toNat default).f_Seq))), (34, .cnd (((a0.getD v2.toNat default).f_Token != (a1.getD v2.toNat default).f_Token) == false) (.int .i64 ((a1.getD v2.toNat default).f_Seq))), (33, .cnd (((a0.getD v2.toNat default).f_Token != (a1.getD v2.toNat default).f_Token) == false) (.iptr 4 (a1.map e_QChunk) v2.toNat 1)), (32, .cnd (((a0.getD v2.toNat default).f_Token != (a1.getD v2.toNat default).f_Token) == false) (.iptr 4 (a1.map e_QChunk) v2.toNat 0)), (31, .cnd (((a0.getD v2.toNat default).f_Token != (a1.getD v2.toNat default).f_Token) == false) (.int .i64 v2)), (30, .cnd (((a0.getD v2.toNat default).f_Token != (a1.getD v2.toNat default).f_Token) == false) (.isl 4 (a1.map e_QChunk) false)), (29, .cnd (((a0.getD v2.toNat default).f_Token != (a1.getD v2.toNat default).f_Token) == false) (.int .i64 ((a0.getD v2.toNat default).f_Seq))), (28, .cnd (((a0.getD v2.toNat default).f_Token != (a1.getD v2.toNat default).f_Token) == false) (.ptr (0, 0) 0 1)), (27, .bool ((a0.getD v2.toNat default).f_Token != (a1.getD v2.toNat default).f_Token)), (26, .bool ((a0.getD v2.toNat default).f_Token != (a1.getD v2.toNat default).f_Token)), (25, .int .i64 ((a1.getD v2.toNat default).f_Token)), (24, .iptr 4 (a1.map e_QChunk) v2.toNat 0), (23, .iptr 4 (a1.map e_QChunk) v2.toNat 0), (22, .int .i64 v2), (21, .isl 4 (a1.map e_QChunk) false), (20, .int .i64 ((a0.getD v2.toNat default).f_Token)), (19, .ptr (0, 0) 0 0), (5, .int .i64 v2), (6, .ptr (0, 0) 0 0), (18, .agg [.int .i64 ((a0.getD v2.toNat default).f_Token), .int .i64 ((a0.getD v2.toNat default).f_Seq), .bool ((a0.getD v2.toNat default).f_Last), .isl 1 (((a0.getD v2.toNat default).f_Items).map e_i64) false]), (17, .iptr 4 (a0.map e_QChunk) v2.toNat 0), (16, .int .i64 v2), (15, .bool (decide (v2 < ((a0.map e_QChunk).length : Int)))), (1, .isl 4 (a1.map e_QChunk) false), (12, .isl 4 (a0.map e_QChunk) false), (13, .int .i64 ((a0.map e_QChunk).length : Int)), (14, .int .i64 v2)] _ _
    refine And.intro (fun hc => (bqf hc)) ?_
    refine And.intro (fun hp => hp) ?_
    obtain ⟨h22, h⟩ := ite_some h
    refine And.intro (fun hp => (And.intro (And.intro hp hp) (h22 hp))) ?_
    show yops _ _ _ [(42, .cnd ((((a0.getD v2.toNat default).f_Token != (a1.getD v2.toNat default).f_Token) || ((a0.getD v2.toNat default).f_Seq != (a1.getD v2.toNat default).f_Seq)) == false) (.iptr 4 (a1.map e_QChunk) v2.toNat 0)), (41, .cnd ((((a0.getD v2.toNat default).f_Token != (a1.getD v2.toNat default).f_Token) || ((a0.getD v2.toNat default).f_Seq != (a1.getD v2.toNat default).f_Seq)) == false) (.int .i64 v2)), (40, .cnd ((((a0.getD v2.toNat default).f_Token != (a1.getD v2.toNat default).f_Token) || ((a0.getD v2.toNat default).f_Seq != (a1.getD v2.toNat default).f_Seq)) == false) (.isl 4 (a1.map e_QChunk) false)), (39, .cnd ((((a0.getD v2.toNat default).f_Token != (a1.getD v2.toNat default).f_Token) || ((a0.getD v2.toNat default).f_Seq != (a1.getD v2.toNat default).f_Seq)) == false) (.bool ((a0.getD v2.toNat default).f_Last))), (38, .cnd ((((a0.getD v2.toNat default).f_Token != (a1.getD v2.toNat default).f_Token) || ((a0.getD v2.toNat default).f_Seq != (a1.getD v2.toNat default).f_Seq)) == false) (.ptr (0, 0) 0 2)), (37, .bool (((a0.getD v2.toNat default).f_Token != (a1.getD v2.toNat default).f_Token) || ((a0.getD v2.toNat default).f_Seq != (a1.getD v2.toNat default).f_Seq))), (36, .bool (((a0.getD v2.toNat default).f_Token != (a1.getD v2.toNat default).f_Token) || ((a0.getD v2.toNat default).f_Seq != (a1.getD v2.toNat default).f_Seq))), (35, .cnd (((a0.getD v2.toNat default).f_Token != (a1.getD v2.toNat default).f_Token) == false) (.bool ((a0.getD v2.toNat default).f_Seq != (a1.getD v2.toNat default).f_Seq))), (34, .cnd (((a0.getD v2.toNat default).f_Token != (a1.getD v2.toNat default).f_Token) == false) (.int .i64 ((a1.getD v2.toNat default).f_Seq))), (33, .cnd (((a0.getD v2.toNat default).f_Token != (a1.getD v2.toNat default).f_Token) == false) (.iptr 4 (a1.map e_QChunk) v2.toNat 1)), (32, .cnd (((a0.getD v2.toNat default).f_Token != (a1.getD v2.toNat default).f_Token) == false) (.iptr 4 (a1.map e_QChunk) v2.toNat 0)), (31, .cnd (((a0.getD v2.toNat default).f_Token != (a1.getD v2.toNat default).f_Token) == false) (.int .i64 v2)), (30, .cnd (((a0.getD v2.toNat default).f_Token != (a1.getD v2.toNat default).f_Token) == false) (.isl 4 (a1.map e_QChunk) false)), (29, .cnd (((a0.getD v2.toNat default).f_Token != (a1.getD v2.toNat default).f_Token) == false) (.int .i64 ((a0.getD v2.toNat default).f_Seq))), (28, .cnd (((a0.getD v2.toNat default).f_Token != (a1.getD v2.toNat default).f_Token) == false) (.ptr (0, 0) 0 1)), (27, .bool ((a0.getD v2.toNat default).f_Token != (a1.getD v2.toNat default).f_Token)), (26, .bool ((a0.getD v2.toNat default).f_Token != (a1.getD v2.toNat default).f_Token)), (25, .int .i64 ((a1.getD v2.toNat default).f_Token)), (24, .iptr 4 (a1.map e_QChunk) v2.toNat 0), (23, .iptr 4 (a1.map e_QChunk) v2.toNat 0), (22, .int .i64 v2), (21, .isl 4 (a1.map e_QChunk) false), (20, .int .i64 ((a0.getD v2.toNat default).f_Token)), (19, .ptr (0, 0) 0 0), (5, .int .i64 v2), (6, .ptr (0, 0) 0 0), (18, .agg [.int .i64 ((a0.getD v2.toNat default).f_Token), .int .i64 ((a0.getD v2.toNat default).f_Seq), .bool ((a0.getD v2.toNat default).f_Last), .isl 1 (((a0.getD v2.toNat default).f_Items).map e_i64) false]), (17, .iptr 4 (a0.map e_QChunk) v2.toNat 0), (16, .int .i64 v2), (15, .bool (decide (v2 < ((a0.map e_QChunk).length : Int)))), (1, .isl 4 (a1.map e_QChunk) false), (12, .isl 4 (a0.map e_QChunk) false), (13, .int .i64 ((a0.map e_QChunk).length : Int)), (14, .int .i64 v2)] _ _
    refine And.intro (fun hp => hp) ?_
    refine Exists.intro (e_QChunk (a1.getD v2.toNat default)) (And.intro (fun hp => And.intro (getD_enc e_QChunk _ _ (idx_ltL e_QChunk (h22 hp))) (And.intro hp (And.intro (idx_lt (h22 hp)) (Nat.le_of_ble_eq_true rfl)))) ?_)
    refine And.intro (fun hp => (And.intro hp hp)) ?_
    refine And.intro (fun hc => (bqf hc)) ?_
    refine And.intro (fun hp => hp) ?_
    show yops _ _ _ [(49, .cnd (((((a0.getD v2.toNat default).f_Token != (a1.getD v2.toNat default).f_Token) || ((a0.getD v2.toNat default).f_Seq != (a1.getD v2.toNat default).f_Seq)) || (!((a0.getD v2.toNat default).f_Last == (a1.getD v2.toNat default).f_Last))) == false) (.isl 1 (((a0.getD v2.toNat default).f_Items).map e_i64) false)), (48, .cnd (((((a0.getD v2.toNat default).f_Token != (a1.getD v2.toNat default).f_Token) || ((a0.getD v2.toNat default).f_Seq != (a1.getD v2.toNat default).f_Seq)) || (!((a0.getD v2.toNat default).f_Last == (a1.getD v2.toNat default).f_Last))) == false) (.ptr (0, 0) 0 3)), (47, .bool ((((a0.getD v2.toNat default).f_Token != (a1.getD v2.toNat default).f_Token) || ((a0.getD v2.toNat default).f_Seq != (a1.getD v2.toNat default).f_Seq)) || (!((a0.getD v2.toNat default).f_Last == (a1.getD v2.toNat default).f_Last)))), (46, .bool ((((a0.getD v2.toNat default).f_Token != (a1.getD v2.toNat default).f_Token) || ((a0.getD v2.toNat default).f_Seq != (a1.getD v2.toNat default).f_Seq)) || (!((a0.getD v2.toNat default).f_Last == (a1.getD v2.toNat default).f_Last)))), (45, .cnd ((((a0.getD v2.toNat default).f_Token != (a1.getD v2.toNat default).f_Token) || ((a0.getD v2.toNat default).f_Seq != (a1.getD v2.toNat default).f_Seq)) == false) (.bool (!((a0.getD v2.toNat default).f_Last == (a1.getD v2.toNat default).f_Last)))), (44, .cnd ((((a0.getD v2.toNat default).f_Token != (a1.getD v2.toNat default).f_Token) || ((a0.getD v2.toNat default).f_Seq != (a1.getD v2.toNat default).f_Seq)) == false) (.bool ((a1.getD v2.toNat default).f_Last))), (43, .cnd ((((a0.getD v2.toNat default).f_Token != (a1.getD v2.toNat default).f_Token) || ((a0.getD v2.toNat default).f_Seq != (a1.getD v2.toNat default).f_Seq)) == false) (.iptr 4 (a1.map e_QChunk) v2.toNat 2)), (42, .cnd ((((a0.getD v2.toNat default).f_Token != (a1.getD v2.toNat default).f_Token) || ((a0.getD v2.toNat default).f_Seq != (a1.getD v2.toNat default).f_Seq)) == false) (.iptr 4 (a1.map e_QChunk) v2.toNat 0)), (41, .cnd ((((a0.getD v2.toNat default).f_Token != (a1.getD v2.toNat default).f_Token) || ((a0.getD v2.toNat default).f_Seq != (a1.getD v2.toNat default).f_Seq)) == false) (.int .i64 v2)), (40, .cnd ((((a0.getD v2.toNat default).f_Token != (a1.getD v2.toNat default).f_Token) || ((a0.getD v2.toNat default).f_Seq != (a1.getD v2.toNat default).f_Seq)) == false) (.isl 4 (a1.map e_QChunk) false)), (39, .cnd ((((a0.getD v2.toNat default).f_Token != (a1.getD v2.toNat default).f_Token) || ((a0.getD v2.toNat default).f_Seq != (a1.getD v2.toNat default).f_Seq)) == false) (.bool ((a0.getD v2.toNat default).f_Last))), (38, .cnd ((((a0.getD v2.toNat default).f_Token != (a1.getD v2.toNat default).f_Token) || ((a0.getD v2.toNat default).f_Seq != (a1.getD v2.toNat default).f_Seq)) == false) (.ptr (0, 0) 0 2)), (37, .bool (((a0.getD v2.toNat default).f_Token != (a1.getD v2.toNat default).f_Token) || ((a0.getD v2.toNat default).f_Seq != (a1.getD v2.toNat default).f_Seq))), (36, .bool (((a0.getD v2.toNat default).f_Token != (a1.getD v2.toNat default).f_Token) || ((a0.getD v2.toNat default).f_Seq != (a1.getD v2.toNat default).f_Seq))), (35, .cnd (((a0.getD v2.toNat default).f_Token != (a1.getD v2.toNat default).f_Token) == false) (.bool ((a0.getD v2.toNat default).f_Seq != (a1.getD v2.toNat default).f_Seq))), (34, .cnd (((a0.getD v2.toNat default).f_Token != (a1.getD v2.toNat default).f_Token) == false) (.int .i64 ((a1.getD v2.toNat default).f_Seq))), (33, .cnd (((a0.getD v2.toNat default).f_Token != (a1.getD v2.toNat default).f_Token) == false) (.iptr 4 (a1.map e_QChunk) v2.toNat 1)), (32, .cnd (((a0.getD v2.toNat default).f_Token != (a1.getD v2.toNat default).f_Token) == false) (.iptr 4 (a1.map e_QChunk) v2.toNat 0)), (31, .cnd (((a0.getD v2.toNat default).f_Token != (a1.getD v2.toNat default).f_Token) == false) (.int .i64 v2)), (30, .cnd (((a0.getD v2.toNat default).f_Token != (a1.getD v2.toNat default).f_Token) == false) (.isl 4 (a1.map e_QChunk) false)), (29, .cnd (((a0.getD v2.toNat default).f_Token != (a1.getD v2.toNat default).f_Token) == false) (.int .i64 ((a0.getD v2.toNat default).f_Seq))), (28, .cnd (((a0.getD v2.toNat default).f_Token != (a1.getD v2.toNat default).f_Token) == false) (.ptr (0, 0) 0 1)), (27, .bool ((a0.getD v2.toNat default).f_Token != (a1.getD v2.toNat default).f_Token)), (26, .bool ((a0.getD v2.toNat default).f_Token != (a1.getD v2.toNat default).f_Token)), (25, .int .i64 ((a1.getD v2.toNat default).f_Token)), (24, .iptr 4 (a1.map e_QChunk) v2.toNat 0), (23, .iptr 4 (a1.map e_QChunk) v2.toNat 0), (22, .int .i64 v2), (21, .isl 4 (a1.map e_QChunk) false), (20, .int .i64 ((a0.getD v2.toNat default).f_Token)), (19, .ptr (0, 0) 0 0), (5, .int .i64 v2), (6, .ptr (0, 0) 0 0), (18, .agg [.int .i64 ((a0.getD v2.toNat default).f_Token), .int .i64 ((a0.getD v2.toNat default).f_Seq), .bool ((a0.getD v2.toNat default).f_Last), .isl 1 (((a0.getD v2.toNat default).f_Items).map e_i64) false]), (17, .iptr 4 (a0.map e_QChunk) v2.toNat 0), (16, .int .i64 v2), (15, .bool (decide (v2 < ((a0.map e_QChunk).length : Int)))), (1, .isl 4 (a1.map e_QChunk) false), (12, .isl 4 (a0.map e_QChunk) false), (13, .int .i64 ((a0.map e_QChunk).length : Int)), (14, .int .i64 v2)] _ _
    obtain ⟨h23, h⟩ := ite_some h
    refine And.intro (fun hp => (And.intro (And.intro hp hp) (h23 hp))) ?_
    refine And.intro (fun hp => hp) ?_
    refine Exists.intro (e_QChunk (a1.getD v2.toNat default)) (And.intro (fun hp => And.intro (getD_enc e_QChunk _ _ (idx_ltL e_QChunk (h23 hp))) (And.intro hp (And.intro (idx_lt (h23 hp)) (Nat.le_of_ble_eq_true rfl)))) ?_)
    obtain ⟨v4, h24, h⟩ := bind_some h
    refine Or.inl (Exists.intro (.bool v4) (And.intro (fun hp => And.intro (And.intro hp hp) (PFn.call (f10_ok (ite_tt hp h24)) (And.intro (Vw.same _ rfl) (And.intro (Vw.same _ rfl) trivial)) (And.intro rfl (And.intro rfl rfl)))) ?_))
    refine And.intro (fun hp => hp) ?_
    show yops _ _ _ [(56, .cnd (((((a0.getD v2.toNat default).f_Token != (a1.getD v2.toNat default).f_Token) || ((a0.getD v2.toNat default).f_Seq != (a1.getD v2.toNat default).f_Seq)) || (!((a0.getD v2.toNat default).f_Last == (a1.getD v2.toNat default).f_Last))) == false) (.bool (!v4))), (55, .cnd (((((a0.getD v2.toNat default).f_Token != (a1.getD v2.toNat default).f_Token) || ((a0.getD v2.toNat default).f_Seq != (a1.getD v2.toNat default).f_Seq)) || (!((a0.getD v2.toNat default).f_Last == (a1.getD v2.toNat default).f_Last))) == false) (.bool v4)), (54, .cnd (((((a0.getD v2.toNat default).f_Token != (a1.getD v2.toNat default).f_Token) || ((a0.getD v2.toNat default).f_Seq != (a1.getD v2.toNat default).f_Seq)) || (!((a0.getD v2.toNat default).f_Last == (a1.getD v2.toNat default).f_Last))) == false) (.isl 1 (((a1.getD v2.toNat default).f_Items).map e_i64) false)), (53, .cnd (((((a0.getD v2.toNat default).f_Token != (a1.getD v2.toNat default).f_Token) || ((a0.getD v2.toNat default).f_Seq != (a1.getD v2.toNat default).f_Seq)) || (!((a0.getD v2.toNat default).f_Last == (a1.getD v2.toNat default).f_Last))) == false) (.iptr 4 (a1.map e_QChunk) v2.toNat 3)), (52, .cnd (((((a0.getD v2.toNat default).f_Token != (a1.getD v2.toNat default).f_Token) || ((a0.getD v2.toNat default).f_Seq != (a1.getD v2.toNat default).f_Seq)) || (!((a0.getD v2.toNat default).f_Last == (a1.getD v2.toNat default).f_Last))) == false) (.iptr 4 (a1.map e_QChunk) v2.toNat 0)), (51, .cnd (((((a0.getD v2.toNat default).f_Token != (a1.getD v2.toNat default).f_Token) || ((a0.getD v2.toNat default).f_Seq != (a1.getD v2.toNat default).f_Seq)) || (!((a0.getD v2.toNat default).f_Last == (a1.getD v2.toNat default).f_Last))) == false) (.int .i64 v2)), (50, .cnd (((((a0.getD v2.toNat default).f_Token != (a1.getD v2.toNat default).f_Token) || ((a0.getD v2.toNat default).f_Seq != (a1.getD v2.toNat default).f_Seq)) || (!((a0.getD v2.toNat default).f_Last == (a1.getD v2.toNat default).f_Last))) == false) (.isl 4 (a1.map e_QChunk) false)), (49, .cnd (((((a0.getD v2.toNat default).f_Token != (a1.getD v2.toNat default).f_Token) || ((a0.getD v2.toNat default).f_Seq != (a1.getD v2.toNat default).f_Seq)) || (!((a0.getD v2.toNat default).f_Last == (a1.getD v2.toNat default).f_Last))) == false) (.isl 1 (((a0.getD v2.toNat default).f_Items).map e_i64) false)), (48, .cnd (((((a0.getD v2.toNat default).f_Token != (a1.getD v2.toNat default).f_Token) || ((a0.getD v2.toNat default).f_Seq != (a1.getD v2.toNat default).f_Seq)) || (!((a0.getD v2.toNat default).f_Last == (a1.getD v2.toNat default).f_Last))) == false) (.ptr (0, 0) 0 3)), (47, .bool ((((a0.getD v2.toNat default).f_Token != (a1.getD v2.toNat default).f_Token) || ((a0.getD v2.toNat default).f_Seq != (a1.getD v2.toNat default).f_Seq)) || (!((a0.getD v2.toNat default).f_Last == (a1.getD v2.toNat default).f_Last)))), (46, .bool ((((a0.getD v2.toNat default).f_Token != (a1.getD v2.toNat default).f_Token) || ((a0.getD v2.toNat default).f_Seq != (a1.getD v2.toNat default).f_Seq)) || (!((a0.getD v2.toNat default).f_Last == (a1.getD v2.toNat default).f_Last)))), (45, .cnd ((((a0.getD v2.toNat default).f_Token != (a1.getD v2.toNat default).f_Token) || ((a0.getD v2.toNat default).f_Seq != (a1.getD v2.toNat default).f_Seq)) == false) (.bool (!((a0.getD v2.toNat default).f_Last == (a1.getD v2.toNat default).f_Last)))), (44, .cnd ((((a0.getD v2.toNat default).f_Token != (a1.getD v2.toNat default).f_Token) || ((a0.getD v2.toNat default).f_Seq != (a1.getD v2.toNat default).f_Seq)) == false) (.bool ((a1.getD v2.toNat default).f_Last))), (43, .cnd ((((a0.getD v2.toNat default).f_Token != (a1.getD v2.toNat default).f_Token) || ((a0.getD v2.toNat default).f_Seq != (a1.getD v2.toNat default).f_Seq)) == false) (.iptr 4 (a1.map e_QChunk) v2.toNat 2)), (42, .cnd ((((a0.getD v2.toNat default).f_Token != (a1.getD v2.toNat default).f_Token) || ((a0.getD v2.toNat default).f_Seq != (a1.getD v2.toNat default).f_Seq)) == false) (.iptr 4 (a1.map e_QChunk) v2.toNat 0)), (41, .cnd ((((a0.getD v2.toNat default).f_Token != (a1.getD v2.toNat default).f_Token) || ((a0.getD v2.toNat default).f_Seq != (a1.getD v2.toNat default).f_Seq)) == false) (.int .i64 v2)), (40, .cnd ((((a0.getD v2.toNat default).f_Token != (a1.getD v2.toNat default).f_Token) || ((a0.getD v2.toNat default).f_Seq != (a1.getD v2.toNat default).f_Seq)) == false) (.isl 4 (a1.map e_QChunk) false)), (39, .cnd ((((a0.getD v2.toNat default).f_Token != (a1.getD v2.toNat default).f_Token) || ((a0.getD v2.toNat default).f_Seq != (a1.getD v2.toNat default).f_Seq)) == false) (.bool ((a0.getD v2.toNat default).f_Last))), (38, .cnd ((((a0.getD v2.toNat default).f_Token != (a1.getD v2.toNat default).f_Token) || ((a0.getD v2.toNat default).f_Seq != (a1.getD v2.toNat default).f_Seq)) == false) (.ptr (0, 0) 0 2)), (37, .bool (((a0.getD v2.toNat default).f_Token != (a1.getD v2.toNat default).f_Token) || ((a0.getD v2.toNat default).f_Seq != (a1.getD v2.toNat default).f_Seq))), (36, .bool (((a0.getD v2.toNat default).f_Token != (a1.getD v2.toNat default).f_Token) || ((a0.getD v2.toNat default).f_Seq != (a1.getD v2.toNat default).f_Seq))), (35, .cnd (((a0.getD v2.toNat default).f_Token != (a1.getD v2.toNat default).f_Token) == false) (.bool ((a0.getD v2.toNat default).f_Seq != (a1.getD v2.toNat default).f_Seq))), (34, .cnd (((a0.getD v2.toNat default).f_Token != (a1.getD v2.toNat default).f_Token) == false) (.int .i64 ((a1.getD v2.toNat default).f_Seq))), (33, .cnd (((a0.getD v2.toNat default).f_Token != (a1.getD v2.toNat default).f_Token) == false) (.iptr 4 (a1.map e_QChunk) v2.toNat 1)), (32, .cnd (((a0.getD v2.toNat default).f_Token != (a1.getD v2.toNat default).f_Token) == false) (.iptr 4 (a1.map e_QChunk) v2.toNat 0)), (31, .cnd (((a0.getD v2.toNat default).f_Token != (a1.getD v2.toNat default).f_Token) == false) (.int .i64 v2)), (30, .cnd (((a0.getD v2.toNat default).f_Token != (a1.getD v2.toNat default).f_Token) == false) (.isl 4 (a1.map e_QChunk) false)), (29, .cnd (((a0.getD v2.toNat default).f_Token != (a1.getD v2.toNat default).f_Token) == false) (.int .i64 ((a0.getD v2.toNat default).f_Seq))), (28, .cnd (((a0.getD v2.toNat default).f_Token != (a1.getD v2.toNat default).f_Token) == false) (.ptr (0, 0) 0 1)), (27, .bool ((a0.getD v2.toNat default).f_Token != (a1.getD v2.toNat default).f_Token)), (26, .bool ((a0.getD v2.toNat default).f_Token != (a1.getD v2.toNat default).f_Token)), (25, .int .i64 ((a1.getD v2.toNat default).f_Token)), (24, .iptr 4 (a1.map e_QChunk) v2.toNat 0), (23, .iptr 4 (a1.map e_QChunk) v2.toNat 0), (22, .int .i64 v2), (21, .isl 4 (a1.map e_QChunk) false), (20, .int .i64 ((a0.getD v2.toNat default).f_Token)), (19, .ptr (0, 0) 0 0), (5, .int .i64 v2), (6, .ptr (0, 0) 0 0), (18, .agg [.int .i64 ((a0.getD v2.toNat default).f_Token), .int .i64 ((a0.getD v2.toNat default).f_Seq), .bool ((a0.getD v2.toNat default).f_Last), .isl 1 (((a0.getD v2.toNat default).f_Items).map e_i64) false]), (17, .iptr 4 (a0.map e_QChunk) v2.toNat 0), (16, .int .i64 v2), (15, .bool (decide (v2 < ((a0.map e_QChunk).length : Int)))), (1, .isl 4 (a1.map e_QChunk) false), (12, .isl 4 (a0.map e_QChunk) false), (13, .int .i64 ((a0.map e_QChunk).length : Int)), (14, .int .i64 v2)] _ _
    refine And.intro (fun hc => (bqf hc)) ?_
    refine LWp.sim (e := [(1, .isl 4 (a1.map e_QChunk) false), (12, .isl 4 (a0.map e_QChunk) false), (13, .int .i64 ((a0.map e_QChunk).length : Int)), (14, .int .i64 v2), (57, .bool (((((a0.getD v2.toNat default).f_Token != (a1.getD v2.toNat default).f_Token) || ((a0.getD v2.toNat default).f_Seq != (a1.getD v2.toNat default).f_Seq)) || (!((a0.getD v2.toNat default).f_Last == (a1.getD v2.toNat default).f_Last))) || (!v4)))]) (L := []) (n := 0) ?_ ?_
    · exact simI (M := []) rfl (And.intro (Vw.same _ rfl) (And.intro (Vw.same _ rfl) (And.intro (Vw.same _ rfl) (And.intro (Vw.same _ rfl) (And.intro (Vw.same _ rfl) trivial))))) trivial
    refine condI (v := (((((a0.getD v2.toNat default).f_Token != (a1.getD v2.toNat default).f_Token) || ((a0.getD v2.toNat default).f_Seq != (a1.getD v2.toNat default).f_Seq)) || (!((a0.getD v2.toNat default).f_Last == (a1.getD v2.toNat default).f_Last))) || (!v4))) rfl trivial (fun h25 => ?_) (fun h25 => ?_)
    · have h := ite_tt h25 h
      refine seqI ?_
      refine regI ?_
      refine retI ?_
      obtain ⟨o, hq, rfl⟩ := Option.map_eq_some_iff.1 h
      replace h := hq; clear hq
      refine And.intro nofun ?_
      cases h
      exact And.intro trivial (And.intro rfl (Vw.same _ rfl))
    · have h := ite_ff h25 h
      refine skipI ?_
      refine regI ?_
      cases h
      exact And.intro rfl (simI (M := []) rfl (And.intro (Vw.same _ rfl) (And.intro (Vw.same _ rfl) (And.intro (Vw.same _ rfl) (And.intro (Vw.same _ rfl) trivial)))) trivial)
  · have h := ite_ff h18 h
    refine exitI ?_
    obtain ⟨o, hq, rfl⟩ := Option.map_eq_some_iff.1 h
    replace h := hq; clear hq
    refine And.intro nofun ?_
    refine LWp.sim ?_ (f7_j1_ok h)
    exact simI (M := []) rfl trivial trivial

theorem f7_L1_ok {a0 : List G_QChunk} {a1 : List G_QChunk} {v2 : Int} {m : Option Nat} {o : Bool} (h : S_glossatorref3_EqualChunks_l1 m a0 a1 v2 = some o) :
    LWp Try.prog f7_lay 0 (.loop f7_c1) (QBlock 0 (QSeq Try.prog f7_lay 0 f7_c0 (f7_Q a0 a1 o))) [(1, .isl 4 (a1.map e_QChunk) false), (12, .isl 4 (a0.map e_QChunk) false), (13, .int .i64 ((a0.map e_QChunk).length : Int)), (14, .int .i64 v2)] [] 0 :=
  LWp_loopM (m := m) (s := (v2 : Int)) (r := o) (fun (s : Int) => S_glossatorref3_EqualChunks_b1 m a0 a1 s) (f7_L1_env a0 a1) (f7_L1_hp a0 a1) (f7_L1_Q a0 a1) (fun s o h => f7_L1_bok h) h

noncomputable def S_glossatorref3_EqualChunks (m : Option Nat) (a0 : List G_QChunk) (a1 : List G_QChunk) : Option Bool :=
  if (((a0.map e_QChunk).length : Int) != ((a1.map e_QChunk).length : Int)) = true then
    some false
  else
    S_glossatorref3_EqualChunks_l1 m a0 a1 0

theorem f7_start {a0 : List G_QChunk} {a1 : List G_QChunk} {m : Option Nat} {o : Bool} (h : S_glossatorref3_EqualChunks m a0 a1 = some o) : LWp Try.prog f7_lay 0 f7_c2 (f7_Q a0 a1 o) (initEnv 0 [.isl 4 (a0.map e_QChunk) false, .isl 4 (a1.map e_QChunk) false]) [] 0 := by
  unfold S_glossatorref3_EqualChunks at h
  refine seqI ?_
  refine regI ?_
  refine seqI ?_
  refine seqI ?_
  refine regI ?_
  refine condI (v := (((a0.map e_QChunk).length : Int) != ((a1.map e_QChunk).length : Int))) rfl trivial (fun h1 => ?_) (fun h1 => ?_)
  · have h := ite_tt h1 h
    refine seqI ?_
    refine regI ?_
    refine retI ?_
    cases h
    exact And.intro trivial (And.intro rfl (Vw.same _ rfl))
  · have h := ite_ff h1 h
    refine skipI ?_
    refine seqI ?_
    refine seqI ?_
    refine regI ?_
    refine LWp.sim (e := [(1, .isl 4 (a1.map e_QChunk) false), (12, .isl 4 (a0.map e_QChunk) false), (13, .int .i64 ((a0.map e_QChunk).length : Int)), (14, .int .i64 0)]) (L := []) (n := 0) ?_ ?_
    · exact simI (M := []) rfl (And.intro (Vw.same _ rfl) (And.intro (Vw.same _ rfl) (And.intro (Vw.same _ rfl) (And.intro (Vw.same _ rfl) trivial)))) trivial
    refine blockI ?_
    refine LWp.sim ?_ (f7_L1_ok h)
    exact simI (M := []) rfl (And.intro (Vw.same _ rfl) (And.intro (Vw.same _ rfl) (And.intro (Vw.same _ rfl) (And.intro (Vw.same _ rfl) trivial)))) trivial

theorem f7_ok {a0 : List G_QChunk} {a1 : List G_QChunk} {m : Option Nat} {o : Bool} (h : S_glossatorref3_EqualChunks m a0 a1 = some o) : PFn Try.prog 7 [.isl 4 (a0.map e_QChunk) false, .isl 4 (a1.map e_QChunk) false] (.bool o) := PFn.ofFnW (L := f7_L) f7_low f7_fok (Nat.le_of_ble_eq_true rfl) rfl (f7_start h)

def f11_c2 : LCode := (.seq (.region [⟨some 28, .mv (.t 7), none⟩,
   ⟨some 29, .mv (.t 7), none⟩,
   ⟨some 30, .len false (.t 29), none⟩,
   ⟨some 31, .bin .sub (.t 30) (.c (.int .i64 1)), none⟩,
   ⟨some 32, .iaddr 1 (.t 28) (.t 31), none⟩,
   ⟨some 33, .load false 1 (.t 32), none⟩,
   ⟨some 11, .mv (.t 33), none⟩])
 (.seq (.region [⟨some 34, .mv (.t 10), none⟩,
   ⟨some 35, .mv (.t 11), none⟩,
   ⟨some 36, .bin .sub (.t 34) (.t 35), none⟩,
   ⟨some 37, .mv (.t 2), none⟩,
   ⟨some 38, .bin .geq (.t 36) (.t 37), none⟩,
   ⟨some 39, .mv (.t 38), none⟩,
   ⟨some 40, .mv (.t 10), some (39, false)⟩,
   ⟨some 41, .bin .eql (.t 40) (.c (.int .i64 100)), some (39, false)⟩,
   ⟨some 42, .mv (.t 41), some (39, false)⟩,
   ⟨some 43, .mv (.t 11), some (42, true)⟩,
   ⟨some 44, .bin .neq (.t 43) (.c (.int .i64 100)), some (42, true)⟩,
   ⟨some 45, .pick (.t 42) (.t 44) (.c (.bool false)), some (39, false)⟩,
   ⟨some 46, .pick (.t 39) (.c (.bool true)) (.t 45), none⟩])
 (.cond (.t 46)
  (.region [⟨some 47, .mv (.t 7), none⟩,
    ⟨some 48, .mv (.t 10), none⟩,
    ⟨some 49, .mkSl true 1 [(.int .i64 0)] 1 [(0, (.t 48))], none⟩,
    ⟨some 50, .app true 1 8 (.t 47) (.t 49), none⟩,
    ⟨some 7, .mv (.t 50), none⟩])
  .skip)))
def f11_c0 : LCode := (.region [⟨some 51, .bin .add (.t 15) (.c (.int .i64 1)), none⟩,
   ⟨some 15, .mv (.t 51), none⟩])
def f11_c3 : LCode := (.seq (.region [⟨some 16, .bin .lss (.t 15) (.t 14), none⟩])
 (.seq (.cond (.t 16)
  .skip
  (.exit 0))
 (.seq (.block 1
  (.seq (.region [⟨some 17, .iaddr 1 (.t 13) (.t 15), none⟩,
    ⟨some 18, .load false 1 (.t 17), none⟩,
    ⟨some 9, .mv (.t 18), none⟩])
  (.seq (.region [⟨some 10, .mv (.c (.int .i64 0)), none⟩])
  (.seq (.seq (.region [⟨some 19, .mv (.t 9), none⟩,
    ⟨some 20, .mv (.t 1), none⟩,
    ⟨some 21, .bin .geq (.t 19) (.t 20), none⟩])
  (.cond (.t 21)
   (.region [⟨some 10, .mv (.c (.int .i64 100)), none⟩])
   (.seq (.region [⟨some 22, .mv (.t 9), none⟩,
     ⟨some 23, .bin .gtr (.t 22) (.c (.int .i64 0)), none⟩])
   (.cond (.t 23)
    (.region [⟨some 24, .mv (.t 9), none⟩,
      ⟨some 25, .bin .mul (.t 24) (.c (.int .i64 100)), none⟩,
      ⟨some 26, .mv (.t 1), none⟩,
      ⟨some 27, .bin .quo (.t 25) (.t 26), none⟩,
      ⟨some 10, .mv (.t 27), none⟩])
    .skip))))
  f11_c2))))
 f11_c0)))
def f11_c1 : LCode := (.seq (.region [⟨some 52, .mv (.t 7), none⟩,
   ⟨some 53, .slSl 1 (.t 52) (some (.c (.int .i64 1))) none none, none⟩,
   ⟨some 6, .mv (.t 53), none⟩])
 .ret)
def f11_c4 : LCode := (.seq (.region [⟨some 6, .mv (.c (.val (.slice none 0 0))), none⟩])
 (.seq (.region [⟨some 12, .mkSl true 1 [(.int .i64 0)] 1 [(0, (.c (.int .i64 0)))], none⟩,
   ⟨some 7, .mv (.t 12), none⟩])
 (.seq (.seq (.region [⟨some 13, .mv (.t 0), none⟩,
   ⟨some 14, .len false (.t 13), none⟩,
   ⟨some 15, .mv (.c (.int .i64 0)), none⟩])
 (.block 0
  (.loop
   f11_c3)))
 f11_c1)))
def f11_lay : Lay := ⟨54, [], false⟩
def f11_res : List LRes := [.t 6]
def f11_L : LFn := ⟨3, f11_lay, f11_c4, f11_res⟩
theorem f11_low : lowFn Try.prog [] 11 = some f11_L := by kernel_rfl
theorem f11_fok : FnOk Try.prog 11 := ⟨_, Try.func11, rfl, rfl⟩
def f11_Q (a0 : List Int) (a1 : Int) (a2 : Int) (o : (List Int)) : Exit → Env → AHeap → Nat → Prop := FinK f11_res (PureEnd (.isl 1 (o.map e_i64) false))

def f11_L1_env (a0 : List Int) (a1 : Int) (a2 : Int) (s : ((List Int) × Int)) : Env := [(1, .int .i64 a1), (2, .int .i64 a2), (7, .osl (0, 0) 1 (s.1.map e_i64)), (13, .isl 1 (a0.map e_i64) false), (14, .int .i64 ((a0.map e_i64).length : Int)), (15, .int .i64 s.2)]
def f11_L1_hp (a0 : List Int) (a1 : Int) (a2 : Int) (s : ((List Int) × Int)) : AHeap := [((0, 0), .tok)]
def f11_L1_Q (a0 : List Int) (a1 : Int) (a2 : Int) (o : (List Int)) : Exit → Env → AHeap → Nat → Prop := (QBlock 0 (QSeq Try.prog f11_lay 0 f11_c1 (f11_Q a0 a1 a2 o)))

noncomputable def S_glossatorref3_Percentages_j6 (m : Option Nat) (a0 : List Int) (a1 : Int) (a2 : Int) (v4 : Int) (v8 : List Int) : Option (((List Int) × Int) ⊕ (List Int)) :=
  some (.inl (v8, (W (v4 + 1))))

theorem f11_j6_ok {a0 : List Int} {a1 : Int} {a2 : Int} {v4 : Int} {v8 : List Int} {m : Option Nat} {o : (((List Int) × Int) ⊕ (List Int))} (h : S_glossatorref3_Percentages_j6 m a0 a1 a2 v4 v8 = some o) :
    LWp Try.prog f11_lay 0 f11_c0 (BodyQ 0 1 (f11_L1_env a0 a1 a2) (f11_L1_hp a0 a1 a2) (f11_L1_Q a0 a1 a2) o) [(1, .int .i64 a1), (2, .int .i64 a2), (7, .osl (0, 0) 1 (v8.map e_i64)), (13, .isl 1 (a0.map e_i64) false), (14, .int .i64 ((a0.map e_i64).length : Int)), (15, .int .i64 v4)] [((0, 0), .tok)] 1 := by
  unfold S_glossatorref3_Percentages_j6 at h
  refine regI ?_
  cases h
  exact And.intro rfl (simI (M := [((0, 0), (0, 0))]) rfl (And.intro (Vw.same _ rfl) (And.intro (Vw.same _ rfl) (And.intro (Vw.osl _ _ _ _ rfl) (And.intro (Vw.same _ rfl) (And.intro (Vw.same _ rfl) (And.intro (Vw.same _ rfl) trivial)))))) (And.intro (And.intro rfl BVw.tok) trivial))

noncomputable def S_glossatorref3_Percentages_j5 (m : Option Nat) (a0 : List Int) (a1 : Int) (a2 : Int) (v3 : List Int) (v4 : Int) (v7 : Int) : Option (((List Int) × Int) ⊕ (List Int)) :=
  if (0 : Int) ≤ (W (((v3.map e_i64).length : Int) - 1)) ∧ (W (((v3.map e_i64).length : Int) - 1)) < ((v3.map e_i64).length : Int) then
  if ((decide ((W (v7 - (v3.getD ((W (((v3.map e_i64).length : Int) - 1)).toNat) default))) ≥ a2)) || ((v7 == 100) && ((v3.getD ((W (((v3.map e_i64).length : Int) - 1)).toNat) default) != 100))) = true then
    if ((v3 ++ ([v7] : List Int)).map e_i64).length * 8 ≤ 140737488355328 then
    S_glossatorref3_Percentages_j6 m a0 a1 a2 v4 (v3 ++ ([v7] : List Int))
    else none
  else
    S_glossatorref3_Percentages_j6 m a0 a1 a2 v4 v3
  else none

theorem f11_j5_ok {a0 : List Int} {a1 : Int} {a2 : Int} {v3 : List Int} {v4 : Int} {v7 : Int} {m : Option Nat} {o : (((List Int) × Int) ⊕ (List Int))} (h : S_glossatorref3_Percentages_j5 m a0 a1 a2 v3 v4 v7 = some o) :
    LWp Try.prog f11_lay 0 f11_c2 (QBlock 1 (QSeq Try.prog f11_lay 0 f11_c0 (BodyQ 0 1 (f11_L1_env a0 a1 a2) (f11_L1_hp a0 a1 a2) (f11_L1_Q a0 a1 a2) o))) [(1, .int .i64 a1), (2, .int .i64 a2), (7, .osl (0, 0) 1 (v3.map e_i64)), (10, .int .i64 v7), (13, .isl 1 (a0.map e_i64) false), (14, .int .i64 ((a0.map e_i64).length : Int)), (15, .int .i64 v4)] [((0, 0), .tok)] 1 := by
  unfold S_glossatorref3_Percentages_j5 at h
  refine seqI ?_
  refine regI ?_
  obtain ⟨h22, h⟩ := ite_some h
  refine And.intro h22 ?_
  show yops _ _ _ [(32, .iptr 1 (v3.map e_i64) ((W (((v3.map e_i64).length : Int) - 1)).toNat) 0), (31, .int .i64 (W (((v3.map e_i64).length : Int) - 1))), (30, .int .i64 ((v3.map e_i64).length : Int)), (29, .osl (0, 0) 1 (v3.map e_i64)), (28, .osl (0, 0) 1 (v3.map e_i64)), (1, .int .i64 a1), (2, .int .i64 a2), (7, .osl (0, 0) 1 (v3.map e_i64)), (10, .int .i64 v7), (13, .isl 1 (a0.map e_i64) false), (14, .int .i64 ((a0.map e_i64).length : Int)), (15, .int .i64 v4)] _ _
  refine Exists.intro (e_i64 (v3.getD ((W (((v3.map e_i64).length : Int) - 1)).toNat) default)) (And.intro (getD_enc e_i64 _ _ (idx_ltL e_i64 h22)) (And.intro (And.intro (idx_lt h22) (Nat.le_of_ble_eq_true rfl)) ?_))
  refine seqI ?_
  refine regI ?_
  refine And.intro (fun hp => hp) ?_
  show yops _ _ _ [(41, .cnd ((decide ((W (v7 - (v3.getD ((W (((v3.map e_i64).length : Int) - 1)).toNat) default))) ≥ a2)) == false) (.bool (v7 == 100))), (40, .cnd ((decide ((W (v7 - (v3.getD ((W (((v3.map e_i64).length : Int) - 1)).toNat) default))) ≥ a2)) == false) (.int .i64 v7)), (39, .bool (decide ((W (v7 - (v3.getD ((W (((v3.map e_i64).length : Int) - 1)).toNat) default))) ≥ a2))), (38, .bool (decide ((W (v7 - (v3.getD ((W (((v3.map e_i64).length : Int) - 1)).toNat) default))) ≥ a2))), (37, .int .i64 a2), (36, .int .i64 (W (v7 - (v3.getD ((W (((v3.map e_i64).length : Int) - 1)).toNat) default)))), (35, .int .i64 (v3.getD ((W (((v3.map e_i64).length : Int) - 1)).toNat) default)), (34, .int .i64 v7), (11, .int .i64 (v3.getD ((W (((v3.map e_i64).length : Int) - 1)).toNat) default)), (33, .int .i64 (v3.getD ((W (((v3.map e_i64).length : Int) - 1)).toNat) default)), (32, .iptr 1 (v3.map e_i64) ((W (((v3.map e_i64).length : Int) - 1)).toNat) 0), (31, .int .i64 (W (((v3.map e_i64).length : Int) - 1))), (30, .int .i64 ((v3.map e_i64).length : Int)), (29, .osl (0, 0) 1 (v3.map e_i64)), (28, .osl (0, 0) 1 (v3.map e_i64)), (1, .int .i64 a1), (2, .int .i64 a2), (7, .osl (0, 0) 1 (v3.map e_i64)), (10, .int .i64 v7), (13, .isl 1 (a0.map e_i64) false), (14, .int .i64 ((a0.map e_i64).length : Int)), (15, .int .i64 v4)] _ _
  refine And.intro (fun hp => hp) ?_
  refine And.intro (fun hp => hp) ?_
  refine And.intro (fun hp => (And.intro hp (fun hc => (and_i hp (bqt hc))))) ?_
  refine And.intro (fun hc => (bqf hc)) ?_
  show yops _ _ _ [(46, .bool ((decide ((W (v7 - (v3.getD ((W (((v3.map e_i64).length : Int) - 1)).toNat) default))) ≥ a2)) || ((v7 == 100) && ((v3.getD ((W (((v3.map e_i64).length : Int) - 1)).toNat) default) != 100)))), (45, .cnd ((decide ((W (v7 - (v3.getD ((W (((v3.map e_i64).length : Int) - 1)).toNat) default))) ≥ a2)) == false) (.bool ((v7 == 100) && ((v3.getD ((W (((v3.map e_i64).length : Int) - 1)).toNat) default) != 100)))), (44, .cnd (((decide ((W (v7 - (v3.getD ((W (((v3.map e_i64).length : Int) - 1)).toNat) default))) ≥ a2)) == false) && ((v7 == 100) == true)) (.bool ((v3.getD ((W (((v3.map e_i64).length : Int) - 1)).toNat) default) != 100))), (43, .cnd (((decide ((W (v7 - (v3.getD ((W (((v3.map e_i64).length : Int) - 1)).toNat) default))) ≥ a2)) == false) && ((v7 == 100) == true)) (.int .i64 (v3.getD ((W (((v3.map e_i64).length : Int) - 1)).toNat) default))), (42, .cnd ((decide ((W (v7 - (v3.getD ((W (((v3.map e_i64).length : Int) - 1)).toNat) default))) ≥ a2)) == false) (.bool (v7 == 100))), (41, .cnd ((decide ((W (v7 - (v3.getD ((W (((v3.map e_i64).length : Int) - 1)).toNat) default))) ≥ a2)) == false) (.bool (v7 == 100))), (40, .cnd ((decide ((W (v7 - (v3.getD ((W (((v3.map e_i64).length : Int) - 1)).toNat) default))) ≥ a2)) == false) (.int .i64 v7)), (39, .bool (decide ((W (v7 - (v3.getD ((W (((v3.map e_i64).length : Int) - 1)).toNat) default))) ≥ a2))), (38, .bool (decide ((W (v7 - (v3.getD ((W (((v3.map e_i64).length : Int) - 1)).toNat) default))) ≥ a2))), (37, .int .i64 a2), (36, .int .i64 (W (v7 - (v3.getD ((W (((v3.map e_i64).length : Int) - 1)).toNat) default)))), (35, .int .i64 (v3.getD ((W (((v3.map e_i64).length : Int) - 1)).toNat) default)), (34, .int .i64 v7), (11, .int .i64 (v3.getD ((W (((v3.map e_i64).length : Int) - 1)).toNat) default)), (33, .int .i64 (v3.getD ((W (((v3.map e_i64).length : Int) - 1)).toNat) default)), (32, .iptr 1 (v3.map e_i64) ((W (((v3.map e_i64).length : Int) - 1)).toNat) 0), (31, .int .i64 (W (((v3.map e_i64).length : Int) - 1))), (30, .int .i64 ((v3.map e_i64).length : Int)), (29, .osl (0, 0) 1 (v3.map e_i64)), (28, .osl (0, 0) 1 (v3.map e_i64)), (1, .int .i64 a1), (2, .int .i64 a2), (7, .osl (0, 0) 1 (v3.map e_i64)), (10, .int .i64 v7), (13, .isl 1 (a0.map e_i64) false), (14, .int .i64 ((a0.map e_i64).length : Int)), (15, .int .i64 v4)] _ _
  refine LWp.sim (e := [(1, .int .i64 a1), (2, .int .i64 a2), (7, .osl (0, 0) 1 (v3.map e_i64)), (10, .int .i64 v7), (13, .isl 1 (a0.map e_i64) false), (14, .int .i64 ((a0.map e_i64).length : Int)), (15, .int .i64 v4), (46, .bool ((decide ((W (v7 - (v3.getD ((W (((v3.map e_i64).length : Int) - 1)).toNat) default))) ≥ a2)) || ((v7 == 100) && ((v3.getD ((W (((v3.map e_i64).length : Int) - 1)).toNat) default) != 100))))]) (L := [((0, 0), .tok)]) (n := 1) ?_ ?_
  · exact simI (M := [((0, 0), (0, 0))]) rfl (And.intro (Vw.same _ rfl) (And.intro (Vw.same _ rfl) (And.intro (Vw.osl _ _ _ _ rfl) (And.intro (Vw.same _ rfl) (And.intro (Vw.same _ rfl) (And.intro (Vw.same _ rfl) (And.intro (Vw.same _ rfl) (And.intro (Vw.same _ rfl) trivial)))))))) (And.intro (And.intro rfl BVw.tok) trivial)
  refine condI (v := ((decide ((W (v7 - (v3.getD ((W (((v3.map e_i64).length : Int) - 1)).toNat) default))) ≥ a2)) || ((v7 == 100) && ((v3.getD ((W (((v3.map e_i64).length : Int) - 1)).toNat) default) != 100)))) rfl trivial (fun h23 => ?_) (fun h23 => ?_)
  · have h := ite_tt h23 h
    refine regI ?_
    obtain ⟨h24, h⟩ := ite_some h
    refine Exists.intro ((v3 ++ ([v7] : List Int)).map e_i64) (And.intro (app_enc e_i64 v3 ([v7] : List Int)) (And.intro h24 ?_))
    refine LWp.sim ?_ (f11_j6_ok h)
    exact simI (M := [((0, 0), (1, 0))]) rfl (And.intro (Vw.same _ rfl) (And.intro (Vw.same _ rfl) (And.intro (Vw.osl _ _ _ _ rfl) (And.intro (Vw.same _ rfl) (And.intro (Vw.same _ rfl) (And.intro (Vw.same _ rfl) trivial)))))) (And.intro (And.intro rfl BVw.tok) trivial)
  · have h := ite_ff h23 h
    refine skipI ?_
    refine LWp.sim ?_ (f11_j6_ok h)
    exact simI (M := [((0, 0), (0, 0))]) rfl (And.intro (Vw.same _ rfl) (And.intro (Vw.same _ rfl) (And.intro (Vw.osl _ _ _ _ rfl) (And.intro (Vw.same _ rfl) (And.intro (Vw.same _ rfl) (And.intro (Vw.same _ rfl) trivial)))))) (And.intro (And.intro rfl BVw.tok) trivial)

noncomputable def S_glossatorref3_Percentages_j7 (m : Option Nat) (v3 : List Int) : Option (List Int) :=
  if (0 : Int) ≤ 1 ∧ 1 ≤ ((v3.map e_i64).length : Int) then
  some (v3.drop (1 : Int).toNat)
  else none

noncomputable def S_glossatorref3_Percentages_b1 (m : Option Nat) (a0 : List Int) (a1 : Int) (a2 : Int) (v3 : List Int) (v4 : Int) : Option (((List Int) × Int) ⊕ (List Int)) :=
  if (decide (v4 < ((a0.map e_i64).length : Int))) = true then
    if (0 : Int) ≤ v4 ∧ v4 < ((a0.map e_i64).length : Int) then
    if (decide ((a0.getD v4.toNat default) ≥ a1)) = true then
      S_glossatorref3_Percentages_j5 m a0 a1 a2 v3 v4 100
    else
      if (decide ((a0.getD v4.toNat default) > 0)) = true then
        if a1 ≠ 0 then
        S_glossatorref3_Percentages_j5 m a0 a1 a2 v3 v4 (W ((W ((a0.getD v4.toNat default) * 100)).tdiv a1))
        else none
      else
        S_glossatorref3_Percentages_j5 m a0 a1 a2 v3 v4 0
    else none
  else
    Option.map Sum.inr (
      S_glossatorref3_Percentages_j7 m v3)

noncomputable def S_glossatorref3_Percentages_l1 (m : Option Nat) (a0 : List Int) (a1 : Int) (a2 : Int) (v3 : List Int) (v4 : Int) : Option (List Int) := loopM m (fun (s : ((List Int) × Int)) => S_glossatorref3_Percentages_b1 m a0 a1 a2 s.1 s.2) (v3, v4)

theorem f11_j7_ok {a0 : List Int} {a1 : Int} {a2 : Int} {v3 : List Int} {m : Option Nat} {o : (List Int)} (h : S_glossatorref3_Percentages_j7 m v3 = some o) :
    LWp Try.prog f11_lay 0 f11_c1 (f11_Q a0 a1 a2 o) [(7, .osl (0, 0) 1 (v3.map e_i64))] [((0, 0), .tok)] 1 := by
  unfold S_glossatorref3_Percentages_j7 at h
  refine seqI ?_
  refine regI ?_
  obtain ⟨h25, h⟩ := ite_some h
  refine Exists.intro (.osl (0, 0) 1 ((v3.drop (1 : Int).toNat).map e_i64)) (And.intro (osl_enc e_i64 _ _ _ _) (And.intro (And.intro rfl h25) ?_))
  refine retI ?_
  cases h
  exact And.intro trivial (And.intro rfl (Vw.oslI _ _ _))

theorem f11_L1_bok {a0 : List Int} {a1 : Int} {a2 : Int} {v3 : List Int} {v4 : Int} {m : Option Nat} {o : ((List Int) × Int) ⊕ (List Int)} (h : S_glossatorref3_Percentages_b1 m a0 a1 a2 v3 v4 = some o) :
    LWp Try.prog f11_lay 0 f11_c3 (BodyQ 0 1 (f11_L1_env a0 a1 a2) (f11_L1_hp a0 a1 a2) (f11_L1_Q a0 a1 a2) o) [(1, .int .i64 a1), (2, .int .i64 a2), (7, .osl (0, 0) 1 (v3.map e_i64)), (13, .isl 1 (a0.map e_i64) false), (14, .int .i64 ((a0.map e_i64).length : Int)), (15, .int .i64 v4)] [((0, 0), .tok)] 1 := by
  unfold S_glossatorref3_Percentages_b1 at h
  refine seqI ?_
  refine regI ?_
  refine seqI ?_
  refine condI (v := (decide (v4 < ((a0.map e_i64).length : Int)))) rfl trivial (fun h17 => ?_) (fun h17 => ?_)
  · have h := ite_tt h17 h
    refine skipI ?_
    refine seqI ?_
    refine blockI ?_
    refine seqI ?_
    refine regI ?_
    obtain ⟨h18, h⟩ := ite_some h
    refine And.intro h18 ?_
    refine Exists.intro (e_i64 (a0.getD v4.toNat default)) (And.intro (getD_enc e_i64 _ _ (idx_ltL e_i64 h18)) (And.intro (And.intro (idx_lt h18) (Nat.le_of_ble_eq_true rfl)) ?_))
    refine seqI ?_
    refine regI ?_
    refine seqI ?_
    refine seqI ?_
    refine regI ?_
    refine LWp.sim (e := [(1, .int .i64 a1), (2, .int .i64 a2), (7, .osl (0, 0) 1 (v3.map e_i64)), (9, .int .i64 (a0.getD v4.toNat default)), (10, .int .i64 0), (13, .isl 1 (a0.map e_i64) false), (14, .int .i64 ((a0.map e_i64).length : Int)), (15, .int .i64 v4), (21, .bool (decide ((a0.getD v4.toNat default) ≥ a1)))]) (L := [((0, 0), .tok)]) (n := 1) ?_ ?_
    · exact simI (M := [((0, 0), (0, 0))]) rfl (And.intro (Vw.same _ rfl) (And.intro (Vw.same _ rfl) (And.intro (Vw.osl _ _ _ _ rfl) (And.intro (Vw.same _ rfl) (And.intro (Vw.same _ rfl) (And.intro (Vw.same _ rfl) (And.intro (Vw.same _ rfl) (And.intro (Vw.same _ rfl) (And.intro (Vw.same _ rfl) trivial))))))))) (And.intro (And.intro rfl BVw.tok) trivial)
    refine condI (v := (decide ((a0.getD v4.toNat default) ≥ a1))) rfl trivial (fun h19 => ?_) (fun h19 => ?_)
    · have h := ite_tt h19 h
      refine regI ?_
      refine LWp.sim ?_ (f11_j5_ok h)
      exact simI (M := [((0, 0), (0, 0))]) rfl (And.intro (Vw.same _ rfl) (And.intro (Vw.same _ rfl) (And.intro (Vw.osl _ _ _ _ rfl) (And.intro (Vw.same _ rfl) (And.intro (Vw.same _ rfl) (And.intro (Vw.same _ rfl) (And.intro (Vw.same _ rfl) trivial))))))) (And.intro (And.intro rfl BVw.tok) trivial)
    · have h := ite_ff h19 h
      refine seqI ?_
      refine regI ?_
      refine condI (v := (decide ((a0.getD v4.toNat default) > 0))) rfl trivial (fun h20 => ?_) (fun h20 => ?_)
      · have h := ite_tt h20 h
        refine regI ?_
        obtain ⟨h21, h⟩ := ite_some h
        refine And.intro h21 ?_
        show yops _ _ _ [(27, .int .i64 (W ((W ((a0.getD v4.toNat default) * 100)).tdiv a1))), (26, .int .i64 a1), (25, .int .i64 (W ((a0.getD v4.toNat default) * 100))), (24, .int .i64 (a0.getD v4.toNat default)), (23, .bool (decide ((a0.getD v4.toNat default) > 0))), (22, .int .i64 (a0.getD v4.toNat default)), (1, .int .i64 a1), (2, .int .i64 a2), (7, .osl (0, 0) 1 (v3.map e_i64)), (9, .int .i64 (a0.getD v4.toNat default)), (10, .int .i64 0), (13, .isl 1 (a0.map e_i64) false), (14, .int .i64 ((a0.map e_i64).length : Int)), (15, .int .i64 v4), (21, .bool (decide ((a0.getD v4.toNat default) ≥ a1)))] _ _
        refine LWp.sim ?_ (f11_j5_ok h)
        exact simI (M := [((0, 0), (0, 0))]) rfl (And.intro (Vw.same _ rfl) (And.intro (Vw.same _ rfl) (And.intro (Vw.osl _ _ _ _ rfl) (And.intro (Vw.same _ rfl) (And.intro (Vw.same _ rfl) (And.intro (Vw.same _ rfl) (And.intro (Vw.same _ rfl) trivial))))))) (And.intro (And.intro rfl BVw.tok) trivial)
      · have h := ite_ff h20 h
        refine skipI ?_
        refine LWp.sim ?_ (f11_j5_ok h)
        exact simI (M := [((0, 0), (0, 0))]) rfl (And.intro (Vw.same _ rfl) (And.intro (Vw.same _ rfl) (And.intro (Vw.osl _ _ _ _ rfl) (And.intro (Vw.same _ rfl) (And.intro (Vw.same _ rfl) (And.intro (Vw.same _ rfl) (And.intro (Vw.same _ rfl) trivial))))))) (And.intro (And.intro rfl BVw.tok) trivial)
  · have h := ite_ff h17 h
    refine exitI ?_
    obtain ⟨o, hq, rfl⟩ := Option.map_eq_some_iff.1 h
    replace h := hq; clear hq
    refine And.intro nofun ?_
    refine LWp.sim ?_ (f11_j7_ok h)
    exact simI (M := [((0, 0), (0, 0))]) rfl (And.intro (Vw.osl _ _ _ _ rfl) trivial) (And.intro (And.intro rfl BVw.tok) trivial)

theorem f11_L1_ok {a0 : List Int} {a1 : Int} {a2 : Int} {v3 : List Int} {v4 : Int} {m : Option Nat} {o : (List Int)} (h : S_glossatorref3_Percentages_l1 m a0 a1 a2 v3 v4 = some o) :
    LWp Try.prog f11_lay 0 (.loop f11_c3) (QBlock 0 (QSeq Try.prog f11_lay 0 f11_c1 (f11_Q a0 a1 a2 o))) [(1, .int .i64 a1), (2, .int .i64 a2), (7, .osl (0, 0) 1 (v3.map e_i64)), (13, .isl 1 (a0.map e_i64) false), (14, .int .i64 ((a0.map e_i64).length : Int)), (15, .int .i64 v4)] [((0, 0), .tok)] 1 :=
  LWp_loopM (m := m) (s := ((v3, v4) : ((List Int) × Int))) (r := o) (fun (s : ((List Int) × Int)) => S_glossatorref3_Percentages_b1 m a0 a1 a2 s.1 s.2) (f11_L1_env a0 a1 a2) (f11_L1_hp a0 a1 a2) (f11_L1_Q a0 a1 a2) (fun s o h => f11_L1_bok h) h

noncomputable def S_glossatorref3_Percentages (m : Option Nat) (a0 : List Int) (a1 : Int) (a2 : Int) : Option (List Int) :=
  S_glossatorref3_Percentages_l1 m a0 a1 a2 ([0] : List Int) 0

theorem f11_start {a0 : List Int} {a1 : Int} {a2 : Int} {m : Option Nat} {o : (List Int)} (h : S_glossatorref3_Percentages m a0 a1 a2 = some o) : LWp Try.prog f11_lay 0 f11_c4 (f11_Q a0 a1 a2 o) (initEnv 0 [.isl 1 (a0.map e_i64) false, .int .i64 a1, .int .i64 a2]) [] 0 := by
  unfold S_glossatorref3_Percentages at h
  refine seqI ?_
  refine regI ?_
  refine seqI ?_
  refine regI ?_
  refine seqI ?_
  refine seqI ?_
  refine regI ?_
  refine blockI ?_
  refine LWp.sim ?_ (f11_L1_ok h)
  exact simI (M := []) rfl (And.intro (Vw.same _ rfl) (And.intro (Vw.same _ rfl) (And.intro (Vw.islO _ _ _ (by decide)) (And.intro (Vw.same _ rfl) (And.intro (Vw.same _ rfl) (And.intro (Vw.same _ rfl) trivial)))))) (And.intro (And.intro rfl (And.intro (by decide) (by decide))) trivial)

theorem f11_ok {a0 : List Int} {a1 : Int} {a2 : Int} {m : Option Nat} {o : (List Int)} (h : S_glossatorref3_Percentages m a0 a1 a2 = some o) : PFn Try.prog 11 [.isl 1 (a0.map e_i64) false, .int .i64 a1, .int .i64 a2] (.isl 1 (o.map e_i64) false) := PFn.ofFnW (L := f11_L) f11_low f11_fok (Nat.le_of_ble_eq_true rfl) rfl (f11_start h)

def f3_c0 : LCode := (.seq (.region [⟨some 87, .call 5 [], none⟩,
   ⟨some 88, .mv (.t 87), none⟩,
   ⟨some 89, .mv (.t 15), some (88, true)⟩,
   ⟨some 90, .mv (.t 13), some (88, true)⟩,
   ⟨some 91, .bin .eql (.t 89) (.t 90), some (88, true)⟩,
   ⟨some 92, .pick (.t 88) (.t 91) (.c (.bool false)), none⟩,
   ⟨some 93, .mv (.t 92), none⟩,
   ⟨some 94, .mv (.t 13), some (93, true)⟩,
   ⟨some 95, .bin .eql (.t 94) (.c (.int .i64 0)), some (93, true)⟩,
   ⟨some 96, .mv (.t 95), some (93, true)⟩,
   ⟨some 97, .mv (.t 14), some (96, true)⟩,
   ⟨some 98, .mv (.t 1), some (96, true)⟩,
   ⟨some 99, .mv (.t 3), some (96, true)⟩,
   ⟨some 100, .mv (.t 4), some (96, true)⟩,
   ⟨some 101, .call 11 [(.t 98), (.t 99), (.t 100)], some (96, true)⟩,
   ⟨some 102, .call 10 [(.t 97), (.t 101)], some (96, true)⟩,
   ⟨some 103, .pick (.t 96) (.t 102) (.c (.bool false)), some (93, true)⟩,
   ⟨some 104, .mv (.t 103), some (93, true)⟩,
   ⟨some 105, .mv (.t 13), some (104, false)⟩,
   ⟨some 106, .bin .neq (.t 105) (.c (.int .i64 0)), some (104, false)⟩,
   ⟨some 107, .mv (.t 106), some (104, false)⟩,
   ⟨some 108, .mv (.t 14), some (107, true)⟩,
   ⟨some 109, .len false (.t 108), some (107, true)⟩,
   ⟨some 110, .bin .eql (.t 109) (.c (.int .i64 0)), some (107, true)⟩,
   ⟨some 111, .pick (.t 107) (.t 110) (.c (.bool false)), some (104, false)⟩,
   ⟨some 112, .pick (.t 104) (.c (.bool true)) (.t 111), some (93, true)⟩,
   ⟨some 113, .pick (.t 93) (.t 112) (.c (.bool false)), none⟩,
   ⟨some 10, .mv (.t 113), none⟩])
 .ret)
def f3_c1 : LCode := (.seq (.seq (.region [⟨some 36, .mv (.t 12), none⟩,
   ⟨some 37, .mv (.t 13), none⟩,
   ⟨some 38, .bin .neq (.t 36) (.t 37), none⟩,
   ⟨some 39, .mv (.t 38), none⟩,
   ⟨some 40, .mv (.t 13), some (39, false)⟩,
   ⟨some 41, .bin .eql (.t 40) (.c (.int .i64 0)), some (39, false)⟩,
   ⟨some 42, .mv (.t 41), some (39, false)⟩,
   ⟨some 43, .mv (.t 11), some (42, true)⟩,
   ⟨some 44, .mv (.t 0), some (42, true)⟩,
   ⟨some 45, .mv (.t 1), some (42, true)⟩,
   ⟨some 46, .mv (.t 2), some (42, true)⟩,
   ⟨some 47, .call 8 [(.t 44), (.t 45), (.t 46)], some (42, true)⟩,
   ⟨some 48, .call 7 [(.t 43), (.t 47)], some (42, true)⟩,
   ⟨some 49, .un .not (.t 48), some (42, true)⟩,
   ⟨some 50, .pick (.t 42) (.t 49) (.c (.bool false)), some (39, false)⟩,
   ⟨some 51, .pick (.t 39) (.c (.bool true)) (.t 50), none⟩,
   ⟨some 52, .mv (.t 51), none⟩,
   ⟨some 53, .mv (.t 13), some (52, false)⟩,
   ⟨some 54, .bin .neq (.t 53) (.c (.int .i64 0)), some (52, false)⟩,
   ⟨some 55, .mv (.t 54), some (52, false)⟩,
   ⟨some 56, .mv (.t 11), some (55, true)⟩,
   ⟨some 57, .len false (.t 56), some (55, true)⟩,
   ⟨some 58, .bin .gtr (.t 57) (.c (.int .i64 0)), some (55, true)⟩,
   ⟨some 59, .pick (.t 55) (.t 58) (.c (.bool false)), some (52, false)⟩,
   ⟨some 60, .pick (.t 52) (.c (.bool true)) (.t 59), none⟩])
 (.cond (.t 60)
  (.seq (.region [⟨some 10, .mv (.c (.bool false)), none⟩])
  .ret)
  .skip))
 (.seq (.region [⟨some 62, .mv (.t 1), none⟩,
   ⟨some 63, .mv (.t 3), none⟩,
   ⟨some 64, .mv (.t 4), none⟩,
   ⟨some 65, .call 9 [(.t 62), (.t 63), (.t 64)], none⟩,
   ⟨some 61, .mv (.t 65), none⟩,
   ⟨some 66, .ext 0 (.t 61), none⟩,
   ⟨some 67, .ext 1 (.t 61), none⟩,
   ⟨some 14, .mv (.t 66), none⟩,
   ⟨some 15, .mv (.t 67), none⟩])
 (.seq (.region [⟨some 13, .mv (.c (.int .i64 0)), none⟩])
 (.seq (.block 1
  (.seq (.region [⟨some 69, .mv (.t 3), none⟩,
    ⟨some 70, .bin .lss (.t 69) (.c (.int .i64 1)), none⟩,
    ⟨some 71, .mv (.t 70), none⟩,
    ⟨some 72, .mv (.t 3), some (71, false)⟩,
    ⟨some 73, .bin .gtr (.t 72) (.c (.int .i64 2147483647)), some (71, false)⟩,
    ⟨some 74, .pick (.t 71) (.c (.bool true)) (.t 73), none⟩,
    ⟨some 75, .mv (.t 74), none⟩,
    ⟨some 76, .mv (.t 4), some (75, false)⟩,
    ⟨some 77, .bin .lss (.t 76) (.c (.int .i64 1)), some (75, false)⟩,
    ⟨some 78, .pick (.t 75) (.c (.bool true)) (.t 77), none⟩,
    ⟨some 79, .mv (.t 78), none⟩,
    ⟨some 80, .mv (.t 4), some (79, false)⟩,
    ⟨some 81, .bin .gtr (.t 80) (.c (.int .i64 100)), some (79, false)⟩,
    ⟨some 82, .pick (.t 79) (.c (.bool true)) (.t 81), none⟩,
    ⟨some 68, .mv (.t 82), none⟩])
  (.cond (.t 68)
   (.region [⟨some 13, .mv (.c (.int .i64 1)), none⟩])
   (.seq (.region [⟨some 84, .mv (.t 1), none⟩,
     ⟨some 85, .len false (.t 84), none⟩,
     ⟨some 86, .bin .gtr (.t 85) (.c (.int .i64 1000)), none⟩,
     ⟨some 83, .mv (.t 86), none⟩])
   (.cond (.t 83)
    (.region [⟨some 13, .mv (.c (.int .i64 2)), none⟩])
    .skip)))))
 f3_c0))))
def f3_c2 : LCode := (.seq (.region [⟨some 10, .mv (.c (.bool false)), none⟩])
 (.seq (.seq (.region [⟨some 16, .call 5 [], none⟩,
   ⟨some 17, .un .not (.t 16), none⟩])
 (.cond (.t 17)
  (.seq (.region [⟨some 10, .mv (.c (.bool false)), none⟩])
  .ret)
  .skip))
 (.seq (.region [⟨some 19, .mv (.t 0), none⟩,
   ⟨some 20, .mv (.t 1), none⟩,
   ⟨some 21, .mv (.t 2), none⟩,
   ⟨some 22, .call 6 [(.t 19), (.t 20), (.t 21)], none⟩,
   ⟨some 18, .mv (.t 22), none⟩,
   ⟨some 23, .ext 0 (.t 18), none⟩,
   ⟨some 24, .ext 1 (.t 18), none⟩,
   ⟨some 11, .mv (.t 23), none⟩,
   ⟨some 12, .mv (.t 24), none⟩])
 (.seq (.region [⟨some 13, .mv (.c (.int .i64 0)), none⟩])
 (.seq (.block 0
  (.seq (.region [⟨some 26, .mv (.t 0), none⟩,
    ⟨some 27, .bin .lss (.t 26) (.c (.int .i64 0)), none⟩,
    ⟨some 28, .mv (.t 27), none⟩,
    ⟨some 29, .mv (.t 2), some (28, false)⟩,
    ⟨some 30, .bin .lss (.t 29) (.c (.int .i64 1)), some (28, false)⟩,
    ⟨some 31, .pick (.t 28) (.c (.bool true)) (.t 30), none⟩,
    ⟨some 25, .mv (.t 31), none⟩])
  (.cond (.t 25)
   (.region [⟨some 13, .mv (.c (.int .i64 1)), none⟩])
   (.seq (.region [⟨some 33, .mv (.t 1), none⟩,
     ⟨some 34, .len false (.t 33), none⟩,
     ⟨some 35, .bin .gtr (.t 34) (.c (.int .i64 1000)), none⟩,
     ⟨some 32, .mv (.t 35), none⟩])
   (.cond (.t 32)
    (.region [⟨some 13, .mv (.c (.int .i64 2)), none⟩])
    .skip)))))
 f3_c1)))))
def f3_lay : Lay := ⟨114, [], false⟩
def f3_res : List LRes := [.t 10]
def f3_L : LFn := ⟨5, f3_lay, f3_c2, f3_res⟩
theorem f3_low : lowFn Try.prog [] 3 = some f3_L := by kernel_rfl
theorem f3_fok : FnOk Try.prog 3 := ⟨_, Try.func3, rfl, rfl⟩
noncomputable def S_glossatorlaw3_ProgressSplit_j2 (m : Option Nat) (a1 : List Int) (a3 : Int) (a4 : Int) (v6 : (List Int) × Int) (v7 : Int) : Option Bool :=
  (S_glossatorlaw3_chunkExample (some 4096)).bind fun v8 =>
  (if (((v8 && (v6.2 == v7)) == true) && ((v7 == 0) == true)) = true then S_glossatorref3_Percentages m a1 a3 a4 else some default).bind fun v9 =>
  (if (((v8 && (v6.2 == v7)) == true) && ((v7 == 0) == true)) = true then S_glossatorref3_Equal_int m v6.1 v9 else some default).bind fun v10 =>
  some ((v8 && (v6.2 == v7)) && (((v7 == 0) && v10) || ((v7 != 0) && (((v6.1.map e_i64).length : Int) == 0))))

def f3_Q (a0 : Int) (a1 : List Int) (a2 : Int) (a3 : Int) (a4 : Int) (o : Bool) : Exit → Env → AHeap → Nat → Prop := FinK f3_res (PureEnd (.bool o))

theorem f3_j2_ok {a0 : Int} {a2 : Int} {a1 : List Int} {a3 : Int} {a4 : Int} {v6 : (List Int) × Int} {v7 : Int} {m : Option Nat} {o : Bool} (h : S_glossatorlaw3_ProgressSplit_j2 m a1 a3 a4 v6 v7 = some o) :
    LWp Try.prog f3_lay 0 f3_c0 (f3_Q a0 a1 a2 a3 a4 o) [(1, .isl 1 (a1.map e_i64) false), (3, .int .i64 a3), (4, .int .i64 a4), (13, .int .i64 v7), (14, .isl 1 (v6.1.map e_i64) false), (15, .int .i64 v6.2)] [] 0 := by
  unfold S_glossatorlaw3_ProgressSplit_j2 at h
  refine seqI ?_
  refine regI ?_
  obtain ⟨v8, h12, h⟩ := bind_some h
  refine PFn.call (f5_ok h12) trivial ?_
  refine And.intro (fun hp => (And.intro hp hp)) ?_
  show yops _ _ _ [(91, .cnd (v8 == true) (.bool (v6.2 == v7))), (90, .cnd (v8 == true) (.int .i64 v7)), (89, .cnd (v8 == true) (.int .i64 v6.2)), (88, .bool v8), (87, .bool v8), (1, .isl 1 (a1.map e_i64) false), (3, .int .i64 a3), (4, .int .i64 a4), (13, .int .i64 v7), (14, .isl 1 (v6.1.map e_i64) false), (15, .int .i64 v6.2)] _ _
  refine And.intro (fun hc => (bqt hc)) ?_
  refine And.intro (fun hp => hp) ?_
  refine And.intro (fun hp => hp) ?_
  show yops _ _ _ [(96, .cnd ((v8 && (v6.2 == v7)) == true) (.bool (v7 == 0))), (95, .cnd ((v8 && (v6.2 == v7)) == true) (.bool (v7 == 0))), (94, .cnd ((v8 && (v6.2 == v7)) == true) (.int .i64 v7)), (93, .bool (v8 && (v6.2 == v7))), (92, .bool (v8 && (v6.2 == v7))), (91, .cnd (v8 == true) (.bool (v6.2 == v7))), (90, .cnd (v8 == true) (.int .i64 v7)), (89, .cnd (v8 == true) (.int .i64 v6.2)), (88, .bool v8), (87, .bool v8), (1, .isl 1 (a1.map e_i64) false), (3, .int .i64 a3), (4, .int .i64 a4), (13, .int .i64 v7), (14, .isl 1 (v6.1.map e_i64) false), (15, .int .i64 v6.2)] _ _
  obtain ⟨v9, h13, h⟩ := bind_some h
  refine Or.inl (Exists.intro (.isl 1 (v9.map e_i64) false) (And.intro (fun hp => And.intro (And.intro hp (And.intro hp hp)) (PFn.call (f11_ok (ite_tt hp h13)) (And.intro (Vw.same _ rfl) (And.intro (Vw.same _ rfl) (And.intro (Vw.same _ rfl) trivial))) (And.intro rfl (And.intro rfl rfl)))) ?_))
  obtain ⟨v10, h14, h⟩ := bind_some h
  refine Or.inl (Exists.intro (.bool v10) (And.intro (fun hp => And.intro (And.intro hp hp) (PFn.call (f10_ok (ite_tt hp h14)) (And.intro (Vw.same _ rfl) (And.intro (Vw.same _ rfl) trivial)) (And.intro rfl (And.intro rfl rfl)))) ?_))
  refine And.intro (fun hp => (And.intro hp (fun hc => (and_i hp (bqt hc))))) ?_
  show yops _ _ _ [(103, .cnd ((v8 && (v6.2 == v7)) == true) (.bool ((v7 == 0) && v10))), (102, .cnd (((v8 && (v6.2 == v7)) == true) && ((v7 == 0) == true)) (.bool v10)), (101, .cnd (((v8 && (v6.2 == v7)) == true) && ((v7 == 0) == true)) (.isl 1 (v9.map e_i64) false)), (100, .cnd (((v8 && (v6.2 == v7)) == true) && ((v7 == 0) == true)) (.int .i64 a4)), (99, .cnd (((v8 && (v6.2 == v7)) == true) && ((v7 == 0) == true)) (.int .i64 a3)), (98, .cnd (((v8 && (v6.2 == v7)) == true) && ((v7 == 0) == true)) (.isl 1 (a1.map e_i64) false)), (97, .cnd (((v8 && (v6.2 == v7)) == true) && ((v7 == 0) == true)) (.isl 1 (v6.1.map e_i64) false)), (96, .cnd ((v8 && (v6.2 == v7)) == true) (.bool (v7 == 0))), (95, .cnd ((v8 && (v6.2 == v7)) == true) (.bool (v7 == 0))), (94, .cnd ((v8 && (v6.2 == v7)) == true) (.int .i64 v7)), (93, .bool (v8 && (v6.2 == v7))), (92, .bool (v8 && (v6.2 == v7))), (91, .cnd (v8 == true) (.bool (v6.2 == v7))), (90, .cnd (v8 == true) (.int .i64 v7)), (89, .cnd (v8 == true) (.int .i64 v6.2)), (88, .bool v8), (87, .bool v8), (1, .isl 1 (a1.map e_i64) false), (3, .int .i64 a3), (4, .int .i64 a4), (13, .int .i64 v7), (14, .isl 1 (v6.1.map e_i64) false), (15, .int .i64 v6.2)] _ _
  refine And.intro (fun hp => hp) ?_
  refine And.intro (fun hp => hp) ?_
  refine And.intro (fun hp => hp) ?_
  refine And.intro (fun hp => hp) ?_
  show yops _ _ _ [(109, .cnd ((((v8 && (v6.2 == v7)) == true) && (((v7 == 0) && v10) == false)) && ((v7 != 0) == true)) (.int .i64 ((v6.1.map e_i64).length : Int))), (108, .cnd ((((v8 && (v6.2 == v7)) == true) && (((v7 == 0) && v10) == false)) && ((v7 != 0) == true)) (.isl 1 (v6.1.map e_i64) false)), (107, .cnd (((v8 && (v6.2 == v7)) == true) && (((v7 == 0) && v10) == false)) (.bool (v7 != 0))), (106, .cnd (((v8 && (v6.2 == v7)) == true) && (((v7 == 0) && v10) == false)) (.bool (v7 != 0))), (105, .cnd (((v8 && (v6.2 == v7)) == true) && (((v7 == 0) && v10) == false)) (.int .i64 v7)), (104, .cnd ((v8 && (v6.2 == v7)) == true) (.bool ((v7 == 0) && v10))), (103, .cnd ((v8 && (v6.2 == v7)) == true) (.bool ((v7 == 0) && v10))), (102, .cnd (((v8 && (v6.2 == v7)) == true) && ((v7 == 0) == true)) (.bool v10)), (101, .cnd (((v8 && (v6.2 == v7)) == true) && ((v7 == 0) == true)) (.isl 1 (v9.map e_i64) false)), (100, .cnd (((v8 && (v6.2 == v7)) == true) && ((v7 == 0) == true)) (.int .i64 a4)), (99, .cnd (((v8 && (v6.2 == v7)) == true) && ((v7 == 0) == true)) (.int .i64 a3)), (98, .cnd (((v8 && (v6.2 == v7)) == true) && ((v7 == 0) == true)) (.isl 1 (a1.map e_i64) false)), (97, .cnd (((v8 && (v6.2 == v7)) == true) && ((v7 == 0) == true)) (.isl 1 (v6.1.map e_i64) false)), (96, .cnd ((v8 && (v6.2 == v7)) == true) (.bool (v7 == 0))), (95, .cnd ((v8 && (v6.2 == v7)) == true) (.bool (v7 == 0))), (94, .cnd ((v8 && (v6.2 == v7)) == true) (.int .i64 v7)), (93, .bool (v8 && (v6.2 == v7))), (92, .bool (v8 && (v6.2 == v7))), (91, .cnd (v8 == true) (.bool (v6.2 == v7))), (90, .cnd (v8 == true) (.int .i64 v7)), (89, .cnd (v8 == true) (.int .i64 v6.2)), (88, .bool v8), (87, .bool v8), (1, .isl 1 (a1.map e_i64) false), (3, .int .i64 a3), (4, .int .i64 a4), (13, .int .i64 v7), (14, .isl 1 (v6.1.map e_i64) false), (15, .int .i64 v6.2)] _ _
  refine And.intro (fun hp => hp) ?_
  refine And.intro (fun hp => (And.intro hp (fun hc => (and_i hp (bqt hc))))) ?_
  refine And.intro (fun hp => (And.intro hp (fun hc => (and_i hp (bqf hc))))) ?_
  refine And.intro (fun hc => (bqt hc)) ?_
  refine LWp.sim (e := [(10, .bool ((v8 && (v6.2 == v7)) && (((v7 == 0) && v10) || ((v7 != 0) && (((v6.1.map e_i64).length : Int) == 0)))))]) (L := []) (n := 0) ?_ ?_
  · exact simI (M := []) rfl (And.intro (Vw.same _ rfl) trivial) trivial
  refine retI ?_
  cases h
  exact And.intro trivial (And.intro rfl (Vw.same _ rfl))

noncomputable def S_glossatorlaw3_ProgressSplit_j1 (m : Option Nat) (a0 : Int) (a1 : List Int) (a2 : Int) (a3 : Int) (a4 : Int) (v2 : (List G_QChunk) × Int) (v3 : Int) : Option Bool :=
  (if (((v2.2 != v3) == false) && ((v3 == 0) == true)) = true then S_glossatorref3_Split m a0 a1 a2 else some default).bind fun v4 =>
  (if (((v2.2 != v3) == false) && ((v3 == 0) == true)) = true then S_glossatorref3_EqualChunks m v2.1 v4 else some default).bind fun v5 =>
  if (((v2.2 != v3) || ((v3 == 0) && (!v5))) || ((v3 != 0) && (decide (((v2.1.map e_QChunk).length : Int) > 0)))) = true then
    some false
  else
    (S_progress_Percentages m a1 a3 a4).bind fun v6 =>
    if ((((decide (a3 < 1)) || (decide (a3 > 2147483647))) || (decide (a4 < 1))) || (decide (a4 > 100))) = true then
      S_glossatorlaw3_ProgressSplit_j2 m a1 a3 a4 v6 1
    else
      if (decide (((a1.map e_i64).length : Int) > 1000)) = true then
        S_glossatorlaw3_ProgressSplit_j2 m a1 a3 a4 v6 2
      else
        S_glossatorlaw3_ProgressSplit_j2 m a1 a3 a4 v6 0

theorem f3_j1_ok {a0 : Int} {a1 : List Int} {a2 : Int} {a3 : Int} {a4 : Int} {v2 : (List G_QChunk) × Int} {v3 : Int} {m : Option Nat} {o : Bool} (h : S_glossatorlaw3_ProgressSplit_j1 m a0 a1 a2 a3 a4 v2 v3 = some o) :
    LWp Try.prog f3_lay 0 f3_c1 (f3_Q a0 a1 a2 a3 a4 o) [(0, .int .i64 a0), (1, .isl 1 (a1.map e_i64) false), (2, .int .i64 a2), (3, .int .i64 a3), (4, .int .i64 a4), (11, .isl 4 (v2.1.map e_QChunk) false), (12, .int .i64 v2.2), (13, .int .i64 v3)] [] 0 := by
  unfold S_glossatorlaw3_ProgressSplit_j1 at h
  refine seqI ?_
  refine seqI ?_
  refine regI ?_
  refine And.intro (fun hp => hp) ?_
  show yops _ _ _ [(41, .cnd ((v2.2 != v3) == false) (.bool (v3 == 0))), (40, .cnd ((v2.2 != v3) == false) (.int .i64 v3)), (39, .bool (v2.2 != v3)), (38, .bool (v2.2 != v3)), (37, .int .i64 v3), (36, .int .i64 v2.2), (0, .int .i64 a0), (1, .isl 1 (a1.map e_i64) false), (2, .int .i64 a2), (3, .int .i64 a3), (4, .int .i64 a4), (11, .isl 4 (v2.1.map e_QChunk) false), (12, .int .i64 v2.2), (13, .int .i64 v3)] _ _
  refine And.intro (fun hp => hp) ?_
  obtain ⟨v4, h6, h⟩ := bind_some h
  refine Or.inl (Exists.intro (.isl 4 (v4.map e_QChunk) false) (And.intro (fun hp => And.intro (And.intro hp (And.intro hp hp)) (PFn.call (f8_ok (ite_tt hp h6)) (And.intro (Vw.same _ rfl) (And.intro (Vw.same _ rfl) (And.intro (Vw.same _ rfl) trivial))) (And.intro rfl (And.intro rfl rfl)))) ?_))
  obtain ⟨v5, h7, h⟩ := bind_some h
  refine Or.inl (Exists.intro (.bool v5) (And.intro (fun hp => And.intro (And.intro hp hp) (PFn.call (f7_ok (ite_tt hp h7)) (And.intro (Vw.same _ rfl) (And.intro (Vw.same _ rfl) trivial)) (And.intro rfl (And.intro rfl rfl)))) ?_))
  refine And.intro (fun hp => hp) ?_
  show yops _ _ _ [(49, .cnd (((v2.2 != v3) == false) && ((v3 == 0) == true)) (.bool (!v5))), (48, .cnd (((v2.2 != v3) == false) && ((v3 == 0) == true)) (.bool v5)), (47, .cnd (((v2.2 != v3) == false) && ((v3 == 0) == true)) (.isl 4 (v4.map e_QChunk) false)), (46, .cnd (((v2.2 != v3) == false) && ((v3 == 0) == true)) (.int .i64 a2)), (45, .cnd (((v2.2 != v3) == false) && ((v3 == 0) == true)) (.isl 1 (a1.map e_i64) false)), (44, .cnd (((v2.2 != v3) == false) && ((v3 == 0) == true)) (.int .i64 a0)), (43, .cnd (((v2.2 != v3) == false) && ((v3 == 0) == true)) (.isl 4 (v2.1.map e_QChunk) false)), (42, .cnd ((v2.2 != v3) == false) (.bool (v3 == 0))), (41, .cnd ((v2.2 != v3) == false) (.bool (v3 == 0))), (40, .cnd ((v2.2 != v3) == false) (.int .i64 v3)), (39, .bool (v2.2 != v3)), (38, .bool (v2.2 != v3)), (37, .int .i64 v3), (36, .int .i64 v2.2), (0, .int .i64 a0), (1, .isl 1 (a1.map e_i64) false), (2, .int .i64 a2), (3, .int .i64 a3), (4, .int .i64 a4), (11, .isl 4 (v2.1.map e_QChunk) false), (12, .int .i64 v2.2), (13, .int .i64 v3)] _ _
  refine And.intro (fun hp => (And.intro hp (fun hc => (and_i hp (bqt hc))))) ?_
  refine And.intro (fun hc => (bqf hc)) ?_
  refine And.intro (fun hp => hp) ?_
  show yops _ _ _ [(54, .cnd (((v2.2 != v3) || ((v3 == 0) && (!v5))) == false) (.bool (v3 != 0))), (53, .cnd (((v2.2 != v3) || ((v3 == 0) && (!v5))) == false) (.int .i64 v3)), (52, .bool ((v2.2 != v3) || ((v3 == 0) && (!v5)))), (51, .bool ((v2.2 != v3) || ((v3 == 0) && (!v5)))), (50, .cnd ((v2.2 != v3) == false) (.bool ((v3 == 0) && (!v5)))), (49, .cnd (((v2.2 != v3) == false) && ((v3 == 0) == true)) (.bool (!v5))), (48, .cnd (((v2.2 != v3) == false) && ((v3 == 0) == true)) (.bool v5)), (47, .cnd (((v2.2 != v3) == false) && ((v3 == 0) == true)) (.isl 4 (v4.map e_QChunk) false)), (46, .cnd (((v2.2 != v3) == false) && ((v3 == 0) == true)) (.int .i64 a2)), (45, .cnd (((v2.2 != v3) == false) && ((v3 == 0) == true)) (.isl 1 (a1.map e_i64) false)), (44, .cnd (((v2.2 != v3) == false) && ((v3 == 0) == true)) (.int .i64 a0)), (43, .cnd (((v2.2 != v3) == false) && ((v3 == 0) == true)) (.isl 4 (v2.1.map e_QChunk) false)), (42, .cnd ((v2.2 != v3) == false) (.bool (v3 == 0))), (41, .cnd ((v2.2 != v3) == false) (.bool (v3 == 0))), (40, .cnd ((v2.2 != v3) == false) (.int .i64 v3)), (39, .bool (v2.2 != v3)), (38, .bool (v2.2 != v3)), (37, .int .i64 v3), (36, .int .i64 v2.2), (0, .int .i64 a0), (1, .isl 1 (a1.map e_i64) false), (2, .int .i64 a2), (3, .int .i64 a3), (4, .int .i64 a4), (11, .isl 4 (v2.1.map e_QChunk) false), (12, .int .i64 v2.2), (13, .int .i64 v3)] _ _
  refine And.intro (fun hp => hp) ?_
  refine And.intro (fun hp => hp) ?_
  refine And.intro (fun hp => hp) ?_
  refine And.intro (fun hp => (And.intro hp (fun hc => (and_i hp (bqt hc))))) ?_
  show yops _ _ _ [(59, .cnd (((v2.2 != v3) || ((v3 == 0) && (!v5))) == false) (.bool ((v3 != 0) && (decide (((v2.1.map e_QChunk).length : Int) > 0))))), (58, .cnd ((((v2.2 != v3) || ((v3 == 0) && (!v5))) == false) && ((v3 != 0) == true)) (.bool (decide (((v2.1.map e_QChunk).length : Int) > 0)))), (57, .cnd ((((v2.2 != v3) || ((v3 == 0) && (!v5))) == false) && ((v3 != 0) == true)) (.int .i64 ((v2.1.map e_QChunk).length : Int))), (56, .cnd ((((v2.2 != v3) || ((v3 == 0) && (!v5))) == false) && ((v3 != 0) == true)) (.isl 4 (v2.1.map e_QChunk) false)), (55, .cnd (((v2.2 != v3) || ((v3 == 0) && (!v5))) == false) (.bool (v3 != 0))), (54, .cnd (((v2.2 != v3) || ((v3 == 0) && (!v5))) == false) (.bool (v3 != 0))), (53, .cnd (((v2.2 != v3) || ((v3 == 0) && (!v5))) == false) (.int .i64 v3)), (52, .bool ((v2.2 != v3) || ((v3 == 0) && (!v5)))), (51, .bool ((v2.2 != v3) || ((v3 == 0) && (!v5)))), (50, .cnd ((v2.2 != v3) == false) (.bool ((v3 == 0) && (!v5)))), (49, .cnd (((v2.2 != v3) == false) && ((v3 == 0) == true)) (.bool (!v5))), (48, .cnd (((v2.2 != v3) == false) && ((v3 == 0) == true)) (.bool v5)), (47, .cnd (((v2.2 != v3) == false) && ((v3 == 0) == true)) (.isl 4 (v4.map e_QChunk) false)), (46, .cnd (((v2.2 != v3) == false) && ((v3 == 0) == true)) (.int .i64 a2)), (45, .cnd (((v2.2 != v3) == false) && ((v3 == 0) == true)) (.isl 1 (a1.map e_i64) false)), (44, .cnd (((v2.2 != v3) == false) && ((v3 == 0) == true)) (.int .i64 a0)), (43, .cnd (((v2.2 != v3) == false) && ((v3 == 0) == true)) (.isl 4 (v2.1.map e_QChunk) false)), (42, .cnd ((v2.2 != v3) == false) (.bool (v3 == 0))), (41, .cnd ((v2.2 != v3) == false) (.bool (v3 == 0))), (40, .cnd ((v2.2 != v3) == false) (.int .i64 v3)), (39, .bool (v2.2 != v3)), (38, .bool (v2.2 != v3)), (37, .int .i64 v3), (36, .int .i64 v2.2), (0, .int .i64 a0), (1, .isl 1 (a1.map e_i64) false), (2, .int .i64 a2), (3, .int .i64 a3), (4, .int .i64 a4), (11, .isl 4 (v2.1.map e_QChunk) false), (12, .int .i64 v2.2), (13, .int .i64 v3)] _ _
  refine And.intro (fun hc => (bqf hc)) ?_
  refine LWp.sim (e := [(1, .isl 1 (a1.map e_i64) false), (3, .int .i64 a3), (4, .int .i64 a4), (60, .bool (((v2.2 != v3) || ((v3 == 0) && (!v5))) || ((v3 != 0) && (decide (((v2.1.map e_QChunk).length : Int) > 0)))))]) (L := []) (n := 0) ?_ ?_
  · exact simI (M := []) rfl (And.intro (Vw.same _ rfl) (And.intro (Vw.same _ rfl) (And.intro (Vw.same _ rfl) (And.intro (Vw.same _ rfl) trivial)))) trivial
  refine condI (v := (((v2.2 != v3) || ((v3 == 0) && (!v5))) || ((v3 != 0) && (decide (((v2.1.map e_QChunk).length : Int) > 0))))) rfl trivial (fun h8 => ?_) (fun h8 => ?_)
  · have h := ite_tt h8 h
    refine seqI ?_
    refine regI ?_
    refine retI ?_
    cases h
    exact And.intro trivial (And.intro rfl (Vw.same _ rfl))
  · have h := ite_ff h8 h
    refine skipI ?_
    refine seqI ?_
    refine regI ?_
    obtain ⟨v6, h9, h⟩ := bind_some h
    refine PFn.call (f9_ok h9) (And.intro (Vw.same _ rfl) (And.intro (Vw.same _ rfl) (And.intro (Vw.same _ rfl) trivial))) ?_
    refine LWp.sim (e := [(1, .isl 1 (a1.map e_i64) false), (3, .int .i64 a3), (4, .int .i64 a4), (14, .isl 1 (v6.1.map e_i64) false), (15, .int .i64 v6.2)]) (L := []) (n := 0) ?_ ?_
    · exact simI (M := []) rfl (And.intro (Vw.same _ rfl) (And.intro (Vw.same _ rfl) (And.intro (Vw.same _ rfl) (And.intro (Vw.same _ rfl) (And.intro (Vw.same _ rfl) trivial))))) trivial
    refine seqI ?_
    refine regI ?_
    refine seqI ?_
    refine blockI ?_
    refine seqI ?_
    refine regI ?_
    refine And.intro (fun hp => hp) ?_
    show yops _ _ _ [(73, .cnd ((decide (a3 < 1)) == false) (.bool (decide (a3 > 2147483647)))), (72, .cnd ((decide (a3 < 1)) == false) (.int .i64 a3)), (71, .bool (decide (a3 < 1))), (70, .bool (decide (a3 < 1))), (69, .int .i64 a3), (13, .int .i64 0), (1, .isl 1 (a1.map e_i64) false), (3, .int .i64 a3), (4, .int .i64 a4), (14, .isl 1 (v6.1.map e_i64) false), (15, .int .i64 v6.2)] _ _
    refine And.intro (fun hc => (bqf hc)) ?_
    refine And.intro (fun hp => hp) ?_
    refine And.intro (fun hc => (bqf hc)) ?_
    show yops _ _ _ [(78, .bool (((decide (a3 < 1)) || (decide (a3 > 2147483647))) || (decide (a4 < 1)))), (77, .cnd (((decide (a3 < 1)) || (decide (a3 > 2147483647))) == false) (.bool (decide (a4 < 1)))), (76, .cnd (((decide (a3 < 1)) || (decide (a3 > 2147483647))) == false) (.int .i64 a4)), (75, .bool ((decide (a3 < 1)) || (decide (a3 > 2147483647)))), (74, .bool ((decide (a3 < 1)) || (decide (a3 > 2147483647)))), (73, .cnd ((decide (a3 < 1)) == false) (.bool (decide (a3 > 2147483647)))), (72, .cnd ((decide (a3 < 1)) == false) (.int .i64 a3)), (71, .bool (decide (a3 < 1))), (70, .bool (decide (a3 < 1))), (69, .int .i64 a3), (13, .int .i64 0), (1, .isl 1 (a1.map e_i64) false), (3, .int .i64 a3), (4, .int .i64 a4), (14, .isl 1 (v6.1.map e_i64) false), (15, .int .i64 v6.2)] _ _
    refine And.intro (fun hp => hp) ?_
    refine And.intro (fun hc => (bqf hc)) ?_
    refine LWp.sim (e := [(1, .isl 1 (a1.map e_i64) false), (3, .int .i64 a3), (4, .int .i64 a4), (13, .int .i64 0), (14, .isl 1 (v6.1.map e_i64) false), (15, .int .i64 v6.2), (68, .bool ((((decide (a3 < 1)) || (decide (a3 > 2147483647))) || (decide (a4 < 1))) || (decide (a4 > 100))))]) (L := []) (n := 0) ?_ ?_
    · exact simI (M := []) rfl (And.intro (Vw.same _ rfl) (And.intro (Vw.same _ rfl) (And.intro (Vw.same _ rfl) (And.intro (Vw.same _ rfl) (And.intro (Vw.same _ rfl) (And.intro (Vw.same _ rfl) (And.intro (Vw.same _ rfl) trivial))))))) trivial
    refine condI (v := ((((decide (a3 < 1)) || (decide (a3 > 2147483647))) || (decide (a4 < 1))) || (decide (a4 > 100)))) rfl trivial (fun h10 => ?_) (fun h10 => ?_)
    · have h := ite_tt h10 h
      refine regI ?_
      refine LWp.sim ?_ (f3_j2_ok h)
      exact simI (M := []) rfl (And.intro (Vw.same _ rfl) (And.intro (Vw.same _ rfl) (And.intro (Vw.same _ rfl) (And.intro (Vw.same _ rfl) (And.intro (Vw.same _ rfl) (And.intro (Vw.same _ rfl) trivial)))))) trivial
    · have h := ite_ff h10 h
      refine seqI ?_
      refine regI ?_
      refine condI (v := (decide (((a1.map e_i64).length : Int) > 1000))) rfl trivial (fun h11 => ?_) (fun h11 => ?_)
      · have h := ite_tt h11 h
        refine regI ?_
        refine LWp.sim ?_ (f3_j2_ok h)
        exact simI (M := []) rfl (And.intro (Vw.same _ rfl) (And.intro (Vw.same _ rfl) (And.intro (Vw.same _ rfl) (And.intro (Vw.same _ rfl) (And.intro (Vw.same _ rfl) (And.intro (Vw.same _ rfl) trivial)))))) trivial
      · have h := ite_ff h11 h
        refine skipI ?_
        refine LWp.sim ?_ (f3_j2_ok h)
        exact simI (M := []) rfl (And.intro (Vw.same _ rfl) (And.intro (Vw.same _ rfl) (And.intro (Vw.same _ rfl) (And.intro (Vw.same _ rfl) (And.intro (Vw.same _ rfl) (And.intro (Vw.same _ rfl) trivial)))))) trivial

noncomputable def S_glossatorlaw3_ProgressSplit (m : Option Nat) (a0 : Int) (a1 : List Int) (a2 : Int) (a3 : Int) (a4 : Int) : Option Bool :=
  (S_glossatorlaw3_chunkExample (some 4096)).bind fun v1 =>
  if (!v1) = true then
    some false
  else
    (S_progress_Split m a0 a1 a2).bind fun v2 =>
    if ((decide (a0 < 0)) || (decide (a2 < 1))) = true then
      S_glossatorlaw3_ProgressSplit_j1 m a0 a1 a2 a3 a4 v2 1
    else
      if (decide (((a1.map e_i64).length : Int) > 1000)) = true then
        S_glossatorlaw3_ProgressSplit_j1 m a0 a1 a2 a3 a4 v2 2
      else
        S_glossatorlaw3_ProgressSplit_j1 m a0 a1 a2 a3 a4 v2 0

theorem f3_start {a0 : Int} {a1 : List Int} {a2 : Int} {a3 : Int} {a4 : Int} {m : Option Nat} {o : Bool} (h : S_glossatorlaw3_ProgressSplit m a0 a1 a2 a3 a4 = some o) : LWp Try.prog f3_lay 0 f3_c2 (f3_Q a0 a1 a2 a3 a4 o) (initEnv 0 [.int .i64 a0, .isl 1 (a1.map e_i64) false, .int .i64 a2, .int .i64 a3, .int .i64 a4]) [] 0 := by
  unfold S_glossatorlaw3_ProgressSplit at h
  refine seqI ?_
  refine regI ?_
  refine seqI ?_
  refine seqI ?_
  refine regI ?_
  obtain ⟨v1, h1, h⟩ := bind_some h
  refine PFn.call (f5_ok h1) trivial ?_
  refine condI (v := (!v1)) rfl trivial (fun h2 => ?_) (fun h2 => ?_)
  · have h := ite_tt h2 h
    refine seqI ?_
    refine regI ?_
    refine retI ?_
    cases h
    exact And.intro trivial (And.intro rfl (Vw.same _ rfl))
  · have h := ite_ff h2 h
    refine skipI ?_
    refine seqI ?_
    refine regI ?_
    obtain ⟨v2, h3, h⟩ := bind_some h
    refine PFn.call (f6_ok h3) (And.intro (Vw.same _ rfl) (And.intro (Vw.same _ rfl) (And.intro (Vw.same _ rfl) trivial))) ?_
    show yops _ _ _ [(22, .tup [.isl 4 (v2.1.map e_QChunk) false, .int .i64 v2.2]), (21, .int .i64 a2), (20, .isl 1 (a1.map e_i64) false), (19, .int .i64 a0), (17, .bool (!v1)), (16, .bool v1), (10, .bool false), (0, .int .i64 a0), (1, .isl 1 (a1.map e_i64) false), (2, .int .i64 a2), (3, .int .i64 a3), (4, .int .i64 a4)] _ _
    refine LWp.sim (e := [(0, .int .i64 a0), (1, .isl 1 (a1.map e_i64) false), (2, .int .i64 a2), (3, .int .i64 a3), (4, .int .i64 a4), (11, .isl 4 (v2.1.map e_QChunk) false), (12, .int .i64 v2.2)]) (L := []) (n := 0) ?_ ?_
    · exact simI (M := []) rfl (And.intro (Vw.same _ rfl) (And.intro (Vw.same _ rfl) (And.intro (Vw.same _ rfl) (And.intro (Vw.same _ rfl) (And.intro (Vw.same _ rfl) (And.intro (Vw.same _ rfl) (And.intro (Vw.same _ rfl) trivial))))))) trivial
    refine seqI ?_
    refine regI ?_
    refine seqI ?_
    refine blockI ?_
    refine seqI ?_
    refine regI ?_
    refine And.intro (fun hp => hp) ?_
    show yops _ _ _ [(30, .cnd ((decide (a0 < 0)) == false) (.bool (decide (a2 < 1)))), (29, .cnd ((decide (a0 < 0)) == false) (.int .i64 a2)), (28, .bool (decide (a0 < 0))), (27, .bool (decide (a0 < 0))), (26, .int .i64 a0), (13, .int .i64 0), (0, .int .i64 a0), (1, .isl 1 (a1.map e_i64) false), (2, .int .i64 a2), (3, .int .i64 a3), (4, .int .i64 a4), (11, .isl 4 (v2.1.map e_QChunk) false), (12, .int .i64 v2.2)] _ _
    refine And.intro (fun hc => (bqf hc)) ?_
    refine LWp.sim (e := [(0, .int .i64 a0), (1, .isl 1 (a1.map e_i64) false), (2, .int .i64 a2), (3, .int .i64 a3), (4, .int .i64 a4), (11, .isl 4 (v2.1.map e_QChunk) false), (12, .int .i64 v2.2), (13, .int .i64 0), (25, .bool ((decide (a0 < 0)) || (decide (a2 < 1))))]) (L := []) (n := 0) ?_ ?_
    · exact simI (M := []) rfl (And.intro (Vw.same _ rfl) (And.intro (Vw.same _ rfl) (And.intro (Vw.same _ rfl) (And.intro (Vw.same _ rfl) (And.intro (Vw.same _ rfl) (And.intro (Vw.same _ rfl) (And.intro (Vw.same _ rfl) (And.intro (Vw.same _ rfl) (And.intro (Vw.same _ rfl) trivial))))))))) trivial
    refine condI (v := ((decide (a0 < 0)) || (decide (a2 < 1)))) rfl trivial (fun h4 => ?_) (fun h4 => ?_)
    · have h := ite_tt h4 h
      refine regI ?_
      refine LWp.sim ?_ (f3_j1_ok h)
      exact simI (M := []) rfl (And.intro (Vw.same _ rfl) (And.intro (Vw.same _ rfl) (And.intro (Vw.same _ rfl) (And.intro (Vw.same _ rfl) (And.intro (Vw.same _ rfl) (And.intro (Vw.same _ rfl) (And.intro (Vw.same _ rfl) (And.intro (Vw.same _ rfl) trivial)))))))) trivial
    · have h := ite_ff h4 h
      refine seqI ?_
      refine regI ?_
      refine condI (v := (decide (((a1.map e_i64).length : Int) > 1000))) rfl trivial (fun h5 => ?_) (fun h5 => ?_)
      · have h := ite_tt h5 h
        refine regI ?_
        refine LWp.sim ?_ (f3_j1_ok h)
        exact simI (M := []) rfl (And.intro (Vw.same _ rfl) (And.intro (Vw.same _ rfl) (And.intro (Vw.same _ rfl) (And.intro (Vw.same _ rfl) (And.intro (Vw.same _ rfl) (And.intro (Vw.same _ rfl) (And.intro (Vw.same _ rfl) (And.intro (Vw.same _ rfl) trivial)))))))) trivial
      · have h := ite_ff h5 h
        refine skipI ?_
        refine LWp.sim ?_ (f3_j1_ok h)
        exact simI (M := []) rfl (And.intro (Vw.same _ rfl) (And.intro (Vw.same _ rfl) (And.intro (Vw.same _ rfl) (And.intro (Vw.same _ rfl) (And.intro (Vw.same _ rfl) (And.intro (Vw.same _ rfl) (And.intro (Vw.same _ rfl) (And.intro (Vw.same _ rfl) trivial)))))))) trivial

theorem f3_ok {a0 : Int} {a1 : List Int} {a2 : Int} {a3 : Int} {a4 : Int} {m : Option Nat} {o : Bool} (h : S_glossatorlaw3_ProgressSplit m a0 a1 a2 a3 a4 = some o) : PFn Try.prog 3 [.int .i64 a0, .isl 1 (a1.map e_i64) false, .int .i64 a2, .int .i64 a3, .int .i64 a4] (.bool o) := PFn.ofFnW (L := f3_L) f3_low f3_fok (Nat.le_of_ble_eq_true rfl) rfl (f3_start h)
end Go.Proofs.Ytcllpgaaoiccgaa
