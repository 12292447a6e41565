/-
  Own text GenA of this claim: what functions of the given program compute, in plain Lean, and the proof; no condition.
-/
import Derived.Test.YtaggohiooalcaaaChecked
import Derived.Test.YtaggohiooalcaaaFxN
import Derived.Test.YtaggohiooalcaaaFxMd
import Derived.KernelRfl
namespace Go.Proofs.Ytaggohiooalcaaa
open Go.Fx
set_option linter.unusedVariables false
structure G_QKey where
  f_Kind : Int
  f_A : Int
  f_B : Int
instance : Inhabited G_QKey := ⟨(G_QKey.mk 0 0 0)⟩
structure G_QValue where
  f_Nums : List Int
  f_Text : List UInt8
instance : Inhabited G_QValue := ⟨(G_QValue.mk [] [])⟩
structure G_cell where
  f_value : G_QValue
  f_changedAt : Int
  f_durability : Int
instance : Inhabited G_cell := ⟨(G_cell.mk (G_QValue.mk [] []) 0 0)⟩
structure G_Input where
  f_Value : G_QValue
  f_Changed : Int
  f_Durability : Int
instance : Inhabited G_Input := ⟨(G_Input.mk (G_QValue.mk [] []) 0 0)⟩
structure G_input where
  f_key : G_QKey
  f_last : G_Input
instance : Inhabited G_input := ⟨(G_input.mk (G_QKey.mk 0 0 0) (G_Input.mk (G_QValue.mk [] []) 0 0))⟩
def e_QKey (x : G_QKey) : List AVal := [.int .i64 x.f_Kind, .int .i64 x.f_A, .int .i64 x.f_B]
def e_i64 (x : Int) : List AVal := [.int .i64 x]
def e_QValue (x : G_QValue) : List AVal := [.isl 1 (x.f_Nums.map e_i64) false, .str x.f_Text]
def e_cell (x : G_cell) : List AVal := [.isl 1 (x.f_value.f_Nums.map e_i64) false, .str x.f_value.f_Text, .int .i64 x.f_changedAt, .int .i64 x.f_durability]
def e_input (x : G_input) : List AVal := [.int .i64 x.f_key.f_Kind, .int .i64 x.f_key.f_A, .int .i64 x.f_key.f_B, .isl 1 (x.f_last.f_Value.f_Nums.map e_i64) false, .str x.f_last.f_Value.f_Text, .int .i64 x.f_last.f_Changed, .int .i64 x.f_last.f_Durability]
def a_QKey (x : G_QKey) : AVal := .agg [.int .i64 x.f_Kind, .int .i64 x.f_A, .int .i64 x.f_B]
theorem a_QKey_nid (x : G_QKey) : (a_QKey x).nid = true := rfl
def a_cell (x : G_cell) : AVal := .agg [.isl 1 (x.f_value.f_Nums.map e_i64) false, .str x.f_value.f_Text, .int .i64 x.f_changedAt, .int .i64 x.f_durability]
theorem a_cell_nid (x : G_cell) : (a_cell x).nid = true := rfl
def q_QKey (x y : G_QKey) : Bool := (x.f_Kind == y.f_Kind && (x.f_A == y.f_A && (x.f_B == y.f_B && true)))
theorem q_QKey_ok (x y : G_QKey) : keyEq [.int, .int, .int] (a_QKey x) (a_QKey y) = some (q_QKey x y) := rfl
theorem e_QKey_ok (x : G_QKey) : AVal.nid.nidL (e_QKey x) = true ∧ ∀ y ∈ e_QKey x, y.imm = some y := ⟨rfl, by simp [e_QKey, AVal.imm]⟩
theorem e_i64_ok (x : Int) : AVal.nid.nidL (e_i64 x) = true ∧ ∀ y ∈ e_i64 x, y.imm = some y := ⟨rfl, by simp [e_i64, AVal.imm]⟩
theorem e_QValue_ok (x : G_QValue) : AVal.nid.nidL (e_QValue x) = true ∧ ∀ y ∈ e_QValue x, y.imm = some y := ⟨rfl, by simp [e_QValue, AVal.imm]⟩
theorem e_cell_ok (x : G_cell) : AVal.nid.nidL (e_cell x) = true ∧ ∀ y ∈ e_cell x, y.imm = some y := ⟨rfl, by simp [e_cell, AVal.imm]⟩
theorem e_input_ok (x : G_input) : AVal.nid.nidL (e_input x) = true ∧ ∀ y ∈ e_input x, y.imm = some y := ⟨rfl, by simp [e_input, AVal.imm]⟩
def f5b0_c0 : LCode := (.seq (.region [⟨some 0, .mv (.c (.val (.pointer none))), none⟩])
 (.seq (.region [⟨some 1, .mkmap none, none⟩,
   ⟨some 2, .build [(.int .i64 0), (.int .i64 0), (.int .i64 0), (.int .i64 0), (.val (.map none))] [(4, 1, (.t 1))], none⟩,
   ⟨some 3, .box (.t 2), none⟩,
   ⟨some 0, .mv (.t 3), none⟩])
 .ret))
def f5b0_lay : Lay := ⟨4, []⟩
def f5b0_res : List LRes := [.t 0]
def f5b0_L : LFn := ⟨0, f5b0_lay, f5b0_c0, f5b0_res⟩
theorem f5b0_low : lowFn Try.prog [] 5 = some f5b0_L := by kernel_rfl
theorem f5b0_fok : FnOk Try.prog 5 := ⟨_, Try.func5, rfl, rfl⟩
noncomputable def S_inputs_New (m : Option Nat) : Option Unit :=
  some ()

def f5b0_Q (o : Unit) : Exit → Env → AHeap → Nat → Prop := FinK f5b0_res (FinTo 3 5 (.ptr (3, 0) 0 0) [((3, 0), .one [.int .i64 0, .int .i64 0, .int .i64 0, .int .i64 0, .map (4, 0)]), ((4, 0), .amap (([] : List (G_QKey × G_cell)).map (em a_QKey a_cell)))])

theorem f5b0_start {m : Option Nat} {o : Unit} (h : S_inputs_New m = some o) : LWp Try.prog f5b0_lay 3 f5b0_c0 (f5b0_Q o) (initEnv 0 []) [] 3 := by
  unfold S_inputs_New at h
  refine seqI ?_
  refine regI ?_
  refine seqI ?_
  refine regI ?_
  refine retI ?_
  cases h
  exact And.intro trivial (finI (n' := 5) [((3, 0), (4, 0)), ((4, 0), (3, 0))] [] rfl rfl (Vw.ptr _ _ _ _ rfl) (And.intro (And.intro rfl (BVw.oneL (And.intro (Vw.same _ rfl) (And.intro (Vw.same _ rfl) (And.intro (Vw.same _ rfl) (And.intro (Vw.same _ rfl) (And.intro (Vw.map _ _ rfl) trivial))))))) (And.intro (And.intro rfl (BVw.ofMap a_QKey a_cell a_cell_nid ([] : List (G_QKey × G_cell)))) trivial)))

theorem f5b0_ok {m : Option Nat} {o : Unit} (h : S_inputs_New m = some o) : ACalls Try.prog 5 [] [] 3 (Gives 5 (.ptr (3, 0) 0 0) [((3, 0), .one [.int .i64 0, .int .i64 0, .int .i64 0, .int .i64 0, .map (4, 0)]), ((4, 0), .amap (([] : List (G_QKey × G_cell)).map (em a_QKey a_cell)))]) := bfn_of (L := f5b0_L) f5b0_low f5b0_fok (Nat.le_of_ble_eq_true rfl) (f5b0_start h)

def f16_c1 : LCode := (.seq (.region [⟨some 14, .bin .lss (.t 13) (.t 12), none⟩])
 (.seq (.cond (.t 14)
  .skip
  (.exit 0))
 (.seq (.block 1
  (.seq (.region [⟨some 15, .mv (.t 13), none⟩,
    ⟨some 5, .mv (.t 15), none⟩])
  (.seq (.quiet [⟨some 16, .mv (.t 0), none⟩,
    ⟨some 17, .mv (.t 5), none⟩,
    ⟨some 18, .iaddr 1 (.t 16) (.t 17), none⟩,
    ⟨some 19, .load false 1 (.t 18), none⟩,
    ⟨some 20, .mv (.t 1), none⟩,
    ⟨some 21, .mv (.t 5), none⟩,
    ⟨some 22, .iaddr 1 (.t 20) (.t 21), none⟩,
    ⟨some 23, .load false 1 (.t 22), none⟩,
    ⟨some 24, .bin .neq (.t 19) (.t 23), none⟩])
  (.cond (.t 24)
   (.seq (.region [⟨some 4, .mv (.c (.bool false)), none⟩])
   .ret)
   .skip))))
 (.region [⟨some 25, .bin .add (.t 13) (.c (.int .i64 1)), none⟩,
   ⟨some 13, .mv (.t 25), none⟩]))))
def f16_c0 : LCode := (.seq (.region [⟨some 4, .mv (.c (.bool true)), none⟩])
 .ret)
def f16_c2 : LCode := (.seq (.region [⟨some 4, .mv (.c (.bool false)), none⟩])
 (.seq (.seq (.region [⟨some 6, .mv (.t 0), none⟩,
   ⟨some 7, .len false (.t 6), none⟩,
   ⟨some 8, .mv (.t 1), none⟩,
   ⟨some 9, .len false (.t 8), none⟩,
   ⟨some 10, .bin .neq (.t 7) (.t 9), none⟩])
 (.cond (.t 10)
  (.seq (.region [⟨some 4, .mv (.c (.bool false)), none⟩])
  .ret)
  .skip))
 (.seq (.seq (.region [⟨some 11, .mv (.t 0), none⟩,
   ⟨some 12, .len false (.t 11), none⟩,
   ⟨some 13, .mv (.c (.int .i64 0)), none⟩])
 (.block 0
  (.loop
   f16_c1)))
 f16_c0)))
def f16_lay : Lay := ⟨26, []⟩
def f16_res : List LRes := [.t 4]
def f16_L : LFn := ⟨2, f16_lay, f16_c2, f16_res⟩
theorem f16_low : lowFn Try.prog [] 16 = some f16_L := by kernel_rfl
theorem f16_fok : FnOk Try.prog 16 := ⟨_, Try.func16, rfl, rfl⟩
def f16_Q (a0 : List Int) (a1 : List Int) (o : Bool) : Exit → Env → AHeap → Nat → Prop := FinK f16_res (PureEnd (.bool o))

def f16_L1_env (a0 : List Int) (a1 : List Int) (s : Int) : Env := [(0, .isl 1 (a0.map e_i64) false), (1, .isl 1 (a1.map e_i64) false), (12, .int .i64 ((a0.map e_i64).length : Int)), (13, .int .i64 s)]
def f16_L1_hp (a0 : List Int) (a1 : List Int) (s : Int) : AHeap := []
def f16_L1_Q (a0 : List Int) (a1 : List Int) (o : Bool) : Exit → Env → AHeap → Nat → Prop := (QBlock 0 (QSeq Try.prog f16_lay 0 f16_c0 (f16_Q a0 a1 o)))

noncomputable def S_slices_Equal_int_j1 (m : Option Nat) : Option Bool :=
  some true

noncomputable def S_slices_Equal_int_b1 (m : Option Nat) (a0 : List Int) (a1 : List Int) (v1 : Int) : Option (Int ⊕ Bool) :=
  if (decide (v1 < ((a0.map e_i64).length : Int))) = true then
    if (0 : Int) ≤ v1 ∧ v1 < ((a0.map e_i64).length : Int) then
    if (0 : Int) ≤ v1 ∧ v1 < ((a1.map e_i64).length : Int) then
    if ((a0.getD v1.toNat default) != (a1.getD v1.toNat default)) = true then
      Option.map Sum.inr (
        some false)
    else
      some (.inl (W (v1 + 1)))
    else none
    else none
  else
    Option.map Sum.inr (
      S_slices_Equal_int_j1 m)

noncomputable def S_slices_Equal_int_l1 (m : Option Nat) (a0 : List Int) (a1 : List Int) (v1 : Int) : Option Bool := loopM m (fun (s : Int) => S_slices_Equal_int_b1 m a0 a1 s) v1

theorem f16_j1_ok {a0 : List Int} {a1 : List Int} {m : Option Nat} {o : Bool} (h : S_slices_Equal_int_j1 m = some o) :
    LWp Try.prog f16_lay 0 f16_c0 (f16_Q a0 a1 o) [] [] 0 := by
  unfold S_slices_Equal_int_j1 at h
  refine seqI ?_
  refine regI ?_
  refine retI ?_
  cases h
  exact And.intro trivial (And.intro rfl (Vw.same _ rfl))

theorem f16_L1_bok {a0 : List Int} {a1 : List Int} {v1 : Int} {m : Option Nat} {o : Int ⊕ Bool} (h : S_slices_Equal_int_b1 m a0 a1 v1 = some o) :
    LWp Try.prog f16_lay 0 f16_c1 (BodyQ 0 0 (f16_L1_env a0 a1) (f16_L1_hp a0 a1) (f16_L1_Q a0 a1) o) [(0, .isl 1 (a0.map e_i64) false), (1, .isl 1 (a1.map e_i64) false), (12, .int .i64 ((a0.map e_i64).length : Int)), (13, .int .i64 v1)] [] 0 := by
  unfold S_slices_Equal_int_b1 at h
  refine seqI ?_
  refine regI ?_
  refine seqI ?_
  refine condI (v := (decide (v1 < ((a0.map e_i64).length : Int)))) rfl trivial (fun h10 => ?_) (fun h10 => ?_)
  · have h := ite_tt h10 h
    refine skipI ?_
    refine seqI ?_
    refine blockI ?_
    refine seqI ?_
    refine regI ?_
    refine seqI ?_
    refine quietI ?_
    obtain ⟨h11, h⟩ := ite_some h
    refine And.intro h11 ?_
    show yqs _ _ [(18, .iptr 1 (a0.map e_i64) v1.toNat 0), (17, .int .i64 v1), (16, .isl 1 (a0.map e_i64) false), (5, .int .i64 v1), (15, .int .i64 v1), (14, .bool (decide (v1 < ((a0.map e_i64).length : Int)))), (0, .isl 1 (a0.map e_i64) false), (1, .isl 1 (a1.map e_i64) false), (12, .int .i64 ((a0.map e_i64).length : Int)), (13, .int .i64 v1)] _ _
    refine Exists.intro (e_i64 (a0.getD v1.toNat default)) (And.intro (getD_enc e_i64 _ _ (idx_ltL e_i64 h11)) (And.intro (And.intro (idx_lt h11) (Nat.le_of_ble_eq_true rfl)) ?_))
    obtain ⟨h12, h⟩ := ite_some h
    refine And.intro h12 ?_
    refine Exists.intro (e_i64 (a1.getD v1.toNat default)) (And.intro (getD_enc e_i64 _ _ (idx_ltL e_i64 h12)) (And.intro (And.intro (idx_lt h12) (Nat.le_of_ble_eq_true rfl)) ?_))
    refine LWp.sim (e := [(0, .isl 1 (a0.map e_i64) false), (1, .isl 1 (a1.map e_i64) false), (12, .int .i64 ((a0.map e_i64).length : Int)), (13, .int .i64 v1), (24, .bool ((a0.getD v1.toNat default) != (a1.getD v1.toNat default)))]) (L := []) (n := 0) (simI (M := []) rfl (And.intro (Vw.same _ rfl) (And.intro (Vw.same _ rfl) (And.intro (Vw.same _ rfl) (And.intro (Vw.same _ rfl) (And.intro (Vw.same _ rfl) trivial))))) trivial) ?_
    refine condI (v := ((a0.getD v1.toNat default) != (a1.getD v1.toNat default))) rfl trivial (fun h13 => ?_) (fun h13 => ?_)
    · have h := ite_tt h13 h
      refine seqI ?_
      refine regI ?_
      refine retI ?_
      obtain ⟨o, hq, rfl⟩ := Option.map_eq_some_iff.1 h
      replace h := hq; clear hq
      refine And.intro nofun ?_
      cases h
      exact And.intro trivial (And.intro rfl (Vw.same _ rfl))
    · have h := ite_ff h13 h
      refine skipI ?_
      refine regI ?_
      cases h
      exact And.intro rfl (simI (M := []) rfl (And.intro (Vw.same _ rfl) (And.intro (Vw.same _ rfl) (And.intro (Vw.same _ rfl) (And.intro (Vw.same _ rfl) trivial)))) trivial)
  · have h := ite_ff h10 h
    refine exitI ?_
    obtain ⟨o, hq, rfl⟩ := Option.map_eq_some_iff.1 h
    replace h := hq; clear hq
    refine And.intro nofun ?_
    refine LWp.sim ?_ (f16_j1_ok h)
    exact simI (M := []) rfl trivial trivial

theorem f16_L1_ok {a0 : List Int} {a1 : List Int} {v1 : Int} {m : Option Nat} {o : Bool} (h : S_slices_Equal_int_l1 m a0 a1 v1 = some o) :
    LWp Try.prog f16_lay 0 (.loop f16_c1) (QBlock 0 (QSeq Try.prog f16_lay 0 f16_c0 (f16_Q a0 a1 o))) [(0, .isl 1 (a0.map e_i64) false), (1, .isl 1 (a1.map e_i64) false), (12, .int .i64 ((a0.map e_i64).length : Int)), (13, .int .i64 v1)] [] 0 :=
  LWp_loopM (m := m) (s := (v1 : Int)) (r := o) (fun (s : Int) => S_slices_Equal_int_b1 m a0 a1 s) (f16_L1_env a0 a1) (f16_L1_hp a0 a1) (f16_L1_Q a0 a1) (fun s o h => f16_L1_bok h) h

noncomputable def S_slices_Equal_int (m : Option Nat) (a0 : List Int) (a1 : List Int) : Option Bool :=
  if (((a0.map e_i64).length : Int) != ((a1.map e_i64).length : Int)) = true then
    some false
  else
    S_slices_Equal_int_l1 m a0 a1 0

theorem f16_start {a0 : List Int} {a1 : List Int} {m : Option Nat} {o : Bool} (h : S_slices_Equal_int m a0 a1 = some o) : LWp Try.prog f16_lay 0 f16_c2 (f16_Q a0 a1 o) (initEnv 0 [.isl 1 (a0.map e_i64) false, .isl 1 (a1.map e_i64) false]) [] 0 := by
  unfold S_slices_Equal_int at h
  refine seqI ?_
  refine regI ?_
  refine seqI ?_
  refine seqI ?_
  refine regI ?_
  refine condI (v := (((a0.map e_i64).length : Int) != ((a1.map e_i64).length : Int))) rfl trivial (fun h1 => ?_) (fun h1 => ?_)
  · have h := ite_tt h1 h
    refine seqI ?_
    refine regI ?_
    refine retI ?_
    cases h
    exact And.intro trivial (And.intro rfl (Vw.same _ rfl))
  · have h := ite_ff h1 h
    refine skipI ?_
    refine seqI ?_
    refine seqI ?_
    refine regI ?_
    refine LWp.sim (e := [(0, .isl 1 (a0.map e_i64) false), (1, .isl 1 (a1.map e_i64) false), (12, .int .i64 ((a0.map e_i64).length : Int)), (13, .int .i64 0)]) (L := []) (n := 0) (simI (M := []) rfl (And.intro (Vw.same _ rfl) (And.intro (Vw.same _ rfl) (And.intro (Vw.same _ rfl) (And.intro (Vw.same _ rfl) trivial)))) trivial) ?_
    refine blockI ?_
    refine LWp.sim ?_ (f16_L1_ok h)
    exact simI (M := []) rfl (And.intro (Vw.same _ rfl) (And.intro (Vw.same _ rfl) (And.intro (Vw.same _ rfl) (And.intro (Vw.same _ rfl) trivial)))) trivial

theorem f16_ok {a0 : List Int} {a1 : List Int} {m : Option Nat} {o : Bool} (h : S_slices_Equal_int m a0 a1 = some o) : PFn Try.prog 16 [.isl 1 (a0.map e_i64) false, .isl 1 (a1.map e_i64) false] (.bool o) := PFn.ofFnW (L := f16_L) f16_low f16_fok (Nat.le_of_ble_eq_true rfl) rfl (f16_start h)

def f12_c0 : LCode := (.seq (.region [⟨some 2, .box (.t 0), none⟩,
   ⟨some 3, .box (.t 1), none⟩,
   ⟨some 4, .mv (.c (.bool false)), none⟩])
 (.seq (.region [⟨some 5, .faddr 1 (.t 2), none⟩,
   ⟨some 6, .load false 1 (.t 5), none⟩,
   ⟨some 7, .faddr 1 (.t 3), none⟩,
   ⟨some 8, .load false 1 (.t 7), none⟩,
   ⟨some 9, .bin .eql (.t 6) (.t 8), none⟩,
   ⟨some 10, .mv (.t 9), none⟩,
   ⟨some 11, .faddr 0 (.t 2), some (10, true)⟩,
   ⟨some 12, .load false 1 (.t 11), some (10, true)⟩,
   ⟨some 13, .faddr 0 (.t 3), some (10, true)⟩,
   ⟨some 14, .load false 1 (.t 13), some (10, true)⟩,
   ⟨some 15, .call 16 [(.t 12), (.t 14)], some (10, true)⟩,
   ⟨some 16, .pick (.t 10) (.t 15) (.c (.bool false)), none⟩,
   ⟨some 4, .mv (.t 16), none⟩])
 .ret))
def f12_lay : Lay := ⟨17, []⟩
def f12_res : List LRes := [.t 4]
def f12_L : LFn := ⟨2, f12_lay, f12_c0, f12_res⟩
theorem f12_low : lowFn Try.prog [] 12 = some f12_L := by kernel_rfl
theorem f12_fok : FnOk Try.prog 12 := ⟨_, Try.func12, rfl, rfl⟩
noncomputable def S_inputs_Equal (m : Option Nat) (a0 : G_QValue) (a1 : G_QValue) : Option Bool :=
  (if ((a0.f_Text == a1.f_Text) == true) = true then S_slices_Equal_int m a0.f_Nums a1.f_Nums else some default).bind fun v1 =>
  some ((a0.f_Text == a1.f_Text) && v1)

def f12_Q (a0 : G_QValue) (a1 : G_QValue) (o : Bool) : Exit → Env → AHeap → Nat → Prop := FinK f12_res (PureEnd (.bool o))

theorem f12_start {a0 : G_QValue} {a1 : G_QValue} {m : Option Nat} {o : Bool} (h : S_inputs_Equal m a0 a1 = some o) : LWp Try.prog f12_lay 0 f12_c0 (f12_Q a0 a1 o) (initEnv 0 [.agg [.isl 1 (a0.f_Nums.map e_i64) false, .str a0.f_Text], .agg [.isl 1 (a1.f_Nums.map e_i64) false, .str a1.f_Text]]) [] 0 := by
  unfold S_inputs_Equal at h
  refine seqI ?_
  refine regI ?_
  refine seqI ?_
  refine regI ?_
  refine And.intro (fun hp => hp) ?_
  show yops _ _ _ [(12, .cnd ((a0.f_Text == a1.f_Text) == true) (.isl 1 (a0.f_Nums.map e_i64) false)), (11, .cnd ((a0.f_Text == a1.f_Text) == true) (.ptr (0, 0) 0 0)), (10, .bool (a0.f_Text == a1.f_Text)), (9, .bool (a0.f_Text == a1.f_Text)), (8, .str a1.f_Text), (7, .ptr (1, 0) 0 1), (6, .str a0.f_Text), (5, .ptr (0, 0) 0 1), (4, .bool false), (3, .ptr (1, 0) 0 0), (2, .ptr (0, 0) 0 0), (0, .agg [.isl 1 (a0.f_Nums.map e_i64) false, .str a0.f_Text]), (1, .agg [.isl 1 (a1.f_Nums.map e_i64) false, .str a1.f_Text])] _ _
  refine And.intro (fun hp => hp) ?_
  obtain ⟨v1, h1, h⟩ := bind_some h
  refine Or.inl (Exists.intro (.bool v1) (And.intro (fun hp => And.intro (And.intro hp hp) (PFn.call (f16_ok (ite_tt hp h1)) (And.intro (Vw.same _ rfl) (And.intro (Vw.same _ rfl) trivial)) (And.intro rfl (And.intro rfl rfl)))) ?_))
  refine And.intro (fun hc => (bqt hc)) ?_
  refine LWp.sim (e := [(4, .bool ((a0.f_Text == a1.f_Text) && v1))]) (L := []) (n := 0) (simI (M := []) rfl (And.intro (Vw.same _ rfl) trivial) trivial) ?_
  refine retI ?_
  cases h
  exact And.intro trivial (And.intro rfl (Vw.same _ rfl))

theorem f12_ok {a0 : G_QValue} {a1 : G_QValue} {m : Option Nat} {o : Bool} (h : S_inputs_Equal m a0 a1 = some o) : PFn Try.prog 12 [.agg [.isl 1 (a0.f_Nums.map e_i64) false, .str a0.f_Text], .agg [.isl 1 (a1.f_Nums.map e_i64) false, .str a1.f_Text]] (.bool o) := PFn.ofFnW (L := f12_L) f12_low f12_fok (Nat.le_of_ble_eq_true rfl) rfl (f12_start h)

def f17_c0 : LCode := (.seq (.region [⟨some 2, .mv (.c (.val (.slice none 0 0))), none⟩])
 (.seq (.seq (.region [⟨some 3, .mv (.t 0), none⟩,
   ⟨some 4, .eq false .slice (.t 3) (.c (.val (.slice none 0 0))), none⟩])
 (.cond (.t 4)
  (.seq (.region [⟨some 2, .mv (.c (.val (.slice none 0 0))), none⟩])
  .ret)
  .skip))
 (.seq (.region [⟨some 5, .mkSl true 1 [(.int .i64 0)] 0 [], none⟩,
   ⟨some 6, .mv (.t 0), none⟩,
   ⟨some 7, .app true 1 8 (.t 5) (.t 6), none⟩,
   ⟨some 2, .mv (.t 7), none⟩])
 .ret)))
def f17_lay : Lay := ⟨8, []⟩
def f17_res : List LRes := [.t 2]
def f17_L : LFn := ⟨1, f17_lay, f17_c0, f17_res⟩
theorem f17_low : lowFn Try.prog [] 17 = some f17_L := by kernel_rfl
theorem f17_fok : FnOk Try.prog 17 := ⟨_, Try.func17, rfl, rfl⟩
noncomputable def S_slices_Clone_int (m : Option Nat) (a0 : List Int) : Option (List Int) :=
  if (a0.map e_i64) ≠ [] then
  if ((([] : List Int) ++ a0).map e_i64).length * 8 ≤ 140737488355328 then
  some (([] : List Int) ++ a0)
  else none
  else none

def f17_Q (a0 : List Int) (o : (List Int)) : Exit → Env → AHeap → Nat → Prop := FinK f17_res (PureEnd (.isl 1 (o.map e_i64) false))

theorem f17_start {a0 : List Int} {m : Option Nat} {o : (List Int)} (h : S_slices_Clone_int m a0 = some o) : LWp Try.prog f17_lay 0 f17_c0 (f17_Q a0 o) (initEnv 0 [.isl 1 (a0.map e_i64) false]) [] 0 := by
  unfold S_slices_Clone_int at h
  refine seqI ?_
  refine regI ?_
  refine seqI ?_
  refine seqI ?_
  refine regI ?_
  obtain ⟨h1, h⟩ := ite_some h
  refine And.intro h1 ?_
  refine condI (v := false) rfl trivial (fun hc => Bool.noConfusion hc) (fun hc => ?_)
  refine skipI ?_
  refine seqI ?_
  refine regI ?_
  obtain ⟨h2, h⟩ := ite_some h
  refine Exists.intro ((([] : List Int) ++ a0).map e_i64) (And.intro (app_enc e_i64 ([] : List Int) a0) (And.intro (And.intro rfl h2) ?_))
  refine retI ?_
  cases h
  exact And.intro trivial (And.intro rfl (Vw.oslI _ _ _))

theorem f17_ok {a0 : List Int} {m : Option Nat} {o : (List Int)} (h : S_slices_Clone_int m a0 = some o) : PFn Try.prog 17 [.isl 1 (a0.map e_i64) false] (.isl 1 (o.map e_i64) false) := PFn.ofFnW (L := f17_L) f17_low f17_fok (Nat.le_of_ble_eq_true rfl) rfl (f17_start h)

noncomputable def S_slices_Clone_intE (m : Option Nat) : List Int → Option (List Int)
  | [] => some []
  | x :: r => S_slices_Clone_int m (x :: r)
theorem f17_okE {m : Option Nat} {a0 o : List Int} (h : S_slices_Clone_intE m a0 = some o) : PFn Try.prog 17 [(.isl 1 (a0.map e_i64) false)] (.isl 1 (o.map e_i64) false) := by
  cases a0 with
  | nil =>
    cases h
    exact sclone_nil (c := 3) (zs := [(.int .i64 0)]) (b := 8) f17_fok Try.func17 ⟨_, _, _, _, _, _, _, _, _, _, _, _, _, _, _, _, _, _, _, _, _, _, _, _, _, _, _, _, rfl, rfl, rfl⟩ (by kernel_rfl) (by kernel_rfl) (by kernel_rfl) (by kernel_rfl) (by decide) (by decide) rfl
  | cons x r => exact f17_ok (m := m) h

def f13_c0 : LCode := (.seq (.region [⟨some 1, .box (.t 0), none⟩,
   ⟨some 2, .alloc [(.isl 1 [] true), (.str [])], none⟩])
 (.seq (.draw [⟨⟨some 3, .faddr 0 (.t 1), none⟩, []⟩,
   ⟨⟨some 4, .load false 1 (.t 3), none⟩, []⟩,
   ⟨⟨some 6, .faddr 1 (.t 1), none⟩, []⟩,
   ⟨⟨some 7, .load false 1 (.t 6), none⟩, []⟩,
   ⟨⟨some 5, .call 17 [(.t 4)], none⟩, [3]⟩,
   ⟨⟨some 8, .build [(.isl 1 [] true), (.str [])] [(0, 1, (.t 5)), (1, 1, (.t 7))], none⟩, []⟩,
   ⟨⟨none, .store 2 (.t 2) (.t 8), none⟩, []⟩])
 .ret))
def f13_lay : Lay := ⟨9, []⟩
def f13_res : List LRes := [.cell 2 true 2]
def f13_L : LFn := ⟨1, f13_lay, f13_c0, f13_res⟩
theorem f13_low : lowFn Try.prog [] 13 = some f13_L := by kernel_rfl
theorem f13_fok : FnOk Try.prog 13 := ⟨_, Try.func13, rfl, rfl⟩
noncomputable def S_inputs_clone (m : Option Nat) (a0 : G_QValue) : Option G_QValue :=
  (S_slices_Clone_intE m a0.f_Nums).bind fun v1 =>
  some (G_QValue.mk v1 a0.f_Text)

def f13_Q (a0 : G_QValue) (o : G_QValue) : Exit → Env → AHeap → Nat → Prop := FinK f13_res (PureEnd (.agg [.isl 1 (o.f_Nums.map e_i64) false, .str o.f_Text]))

theorem f13_start {a0 : G_QValue} {m : Option Nat} {o : G_QValue} (h : S_inputs_clone m a0 = some o) : LWp Try.prog f13_lay 0 f13_c0 (f13_Q a0 o) (initEnv 0 [.agg [.isl 1 (a0.f_Nums.map e_i64) false, .str a0.f_Text]]) [] 0 := by
  unfold S_inputs_clone at h
  refine seqI ?_
  refine regI ?_
  refine seqI ?_
  refine drawI ?_
  obtain ⟨v1, h1, h⟩ := bind_some h
  refine PFn.call (f17_okE h1) (And.intro (Vw.same _ rfl) trivial) ?_
  refine And.intro rfl ?_
  refine LWp.sim (e := [(2, .ptr (0, 0) 0 0)]) (L := [((0, 0), .one [.isl 1 (v1.map e_i64) false, .str a0.f_Text])]) (n := 1) (simI (M := [((0, 0), (1, 0))]) rfl (And.intro (Vw.ptr _ _ _ _ rfl) trivial) (And.intro (And.intro rfl (BVw.oneL (And.intro (Vw.same _ rfl) (And.intro (Vw.same _ rfl) trivial)))) trivial)) ?_
  refine retI ?_
  cases h
  exact And.intro (And.intro trivial (And.intro rfl (Nat.le_of_ble_eq_true rfl))) (And.intro rfl (Vw.same _ rfl))

theorem f13_ok {a0 : G_QValue} {m : Option Nat} {o : G_QValue} (h : S_inputs_clone m a0 = some o) : PFn Try.prog 13 [.agg [.isl 1 (a0.f_Nums.map e_i64) false, .str a0.f_Text]] (.agg [.isl 1 (o.f_Nums.map e_i64) false, .str o.f_Text]) := PFn.ofFnW (L := f13_L) f13_low f13_fok (Nat.le_of_ble_eq_true rfl) rfl (f13_start h)

def f6b0_c1 : LCode := (.region [⟨some 61, .bin .add (.t 49) (.c (.int .i64 1)), none⟩,
   ⟨some 49, .mv (.t 61), none⟩])
def f6b0_c2 : LCode := (.seq (.region [⟨some 50, .bin .lss (.t 49) (.t 48), none⟩])
 (.seq (.cond (.t 50)
  .skip
  (.exit 0))
 (.seq (.block 1
  (.seq (.region [⟨some 51, .mv (.t 49), none⟩,
    ⟨some 11, .mv (.t 51), none⟩])
  (.draw [⟨⟨some 52, .mv (.t 0), none⟩, []⟩,
    ⟨⟨some 53, .mv (.t 11), none⟩, []⟩,
    ⟨⟨some 54, .mv (.t 0), none⟩, []⟩,
    ⟨⟨some 55, .nilck (.t 54), none⟩, []⟩,
    ⟨⟨some 56, .faddr 0 (.t 55), none⟩, []⟩,
    ⟨⟨some 57, .load false 1 (.t 56), none⟩, []⟩,
    ⟨⟨some 58, .nilck (.t 52), none⟩, []⟩,
    ⟨⟨some 59, .faddr 1 (.t 58), none⟩, []⟩,
    ⟨⟨some 60, .iaddrA 3 1 (.t 59) (.t 53), none⟩, []⟩,
    ⟨⟨none, .store 1 (.t 60) (.t 57), none⟩, []⟩])))
 f6b0_c1)))
def f6b0_c0 : LCode := (.seq (.draw [⟨⟨some 62, .mv (.t 0), none⟩, []⟩,
   ⟨⟨some 63, .nilck (.t 62), none⟩, []⟩,
   ⟨⟨some 64, .faddr 4 (.t 63), none⟩, []⟩,
   ⟨⟨some 65, .load false 1 (.t 64), none⟩, []⟩,
   ⟨⟨some 66, .load true 3 (.t 5), none⟩, []⟩,
   ⟨⟨some 67, .load true 2 (.t 6), none⟩, []⟩,
   ⟨⟨some 69, .mv (.t 0), none⟩, []⟩,
   ⟨⟨some 70, .nilck (.t 69), none⟩, []⟩,
   ⟨⟨some 71, .faddr 0 (.t 70), none⟩, []⟩,
   ⟨⟨some 72, .load false 1 (.t 71), none⟩, []⟩,
   ⟨⟨some 73, .mv (.t 3), none⟩, []⟩,
   ⟨⟨some 68, .call 13 [(.t 67)], none⟩, [3, 4, 9]⟩,
   ⟨⟨some 74, .build [(.isl 1 [] true), (.str []), (.int .i64 0), (.int .i64 0)] [(0, 2, (.t 68)), (2, 1, (.t 72)), (3, 1, (.t 73))], none⟩, []⟩,
   ⟨⟨none, .mset [.int, .int, .int] true true [(.isl 1 [] true), (.str []), (.int .i64 0), (.int .i64 0)] (.t 65) (.t 66) (.t 74), none⟩, []⟩])
 (.seq (.region [⟨some 8, .mv (.c (.bool true)), none⟩,
   ⟨some 9, .mv (.c (.int .i64 0)), none⟩])
 .ret))
def f6b0_c3 : LCode := (.seq (.region [⟨some 5, .box (.t 1), none⟩,
   ⟨some 6, .box (.t 2), none⟩,
   ⟨some 8, .mv (.c (.bool false)), none⟩,
   ⟨some 9, .mv (.c (.int .i64 0)), none⟩])
 (.seq (.seq (.region [⟨some 12, .faddr 0 (.t 5), none⟩,
   ⟨some 13, .load false 1 (.t 12), none⟩,
   ⟨some 14, .bin .neq (.t 13) (.c (.int .i64 0)), none⟩])
 (.cond (.t 14)
  (.seq (.region [⟨some 8, .mv (.c (.bool false)), none⟩,
    ⟨some 9, .mv (.c (.int .i64 7)), none⟩])
  .ret)
  .skip))
 (.seq (.seq (.region [⟨some 15, .mv (.t 3), none⟩,
   ⟨some 16, .bin .lss (.t 15) (.c (.int .i64 0)), none⟩,
   ⟨some 17, .mv (.t 16), none⟩,
   ⟨some 18, .mv (.t 3), some (17, false)⟩,
   ⟨some 19, .bin .geq (.t 18) (.c (.int .i64 3)), some (17, false)⟩,
   ⟨some 20, .pick (.t 17) (.c (.bool true)) (.t 19), none⟩])
 (.cond (.t 20)
  (.seq (.region [⟨some 8, .mv (.c (.bool false)), none⟩,
    ⟨some 9, .mv (.c (.int .i64 1)), none⟩])
  .ret)
  .skip))
 (.seq (.draw [⟨⟨some 21, .mv (.t 0), none⟩, []⟩,
   ⟨⟨some 22, .nilck (.t 21), none⟩, []⟩,
   ⟨⟨some 23, .faddr 4 (.t 22), none⟩, []⟩,
   ⟨⟨some 24, .load false 1 (.t 23), none⟩, []⟩,
   ⟨⟨some 25, .load true 3 (.t 5), none⟩, []⟩,
   ⟨⟨some 26, .mlook [.int, .int, .int] true true false [(.isl 1 [] true), (.str []), (.int .i64 0), (.int .i64 0)] (.t 24) (.t 25), none⟩, []⟩,
   ⟨⟨some 10, .alloc [(.isl 1 [] true), (.str []), (.int .i64 0), (.int .i64 0)], none⟩, [3, 4, 5]⟩,
   ⟨⟨none, .store 4 (.t 10) (.t 26), none⟩, []⟩])
 (.seq (.seq (.region [⟨some 27, .faddr 3 (.t 10), none⟩,
   ⟨some 28, .load false 1 (.t 27), none⟩,
   ⟨some 29, .mv (.t 3), none⟩,
   ⟨some 30, .bin .eql (.t 28) (.t 29), none⟩,
   ⟨some 31, .mv (.t 30), none⟩,
   ⟨some 32, .faddr 0 (.t 10), some (31, true)⟩,
   ⟨some 33, .load true 2 (.t 32), some (31, true)⟩,
   ⟨some 34, .load true 2 (.t 6), some (31, true)⟩,
   ⟨some 35, .call 12 [(.t 33), (.t 34)], some (31, true)⟩,
   ⟨some 36, .pick (.t 31) (.t 35) (.c (.bool false)), none⟩])
 (.cond (.t 36)
  (.seq (.region [⟨some 8, .mv (.c (.bool false)), none⟩,
    ⟨some 9, .mv (.c (.int .i64 0)), none⟩])
  .ret)
  .skip))
 (.seq (.region [⟨some 37, .mv (.t 0), none⟩,
   ⟨some 38, .nilck (.t 37), none⟩,
   ⟨some 39, .faddr 0 (.t 38), none⟩,
   ⟨some 40, .load false 1 (.t 39), none⟩,
   ⟨some 41, .bin .add (.t 40) (.c (.int .i64 1)), none⟩,
   ⟨some 42, .nilck (.t 37), none⟩,
   ⟨some 43, .faddr 0 (.t 42), none⟩,
   ⟨none, .store 1 (.t 43) (.t 41), none⟩])
 (.seq (.seq (.region [⟨some 44, .faddr 3 (.t 10), none⟩,
   ⟨some 45, .load false 1 (.t 44), none⟩,
   ⟨some 46, .mv (.t 3), none⟩,
   ⟨some 47, .mnx true [(.t 45), (.t 46)], none⟩,
   ⟨some 48, .bin .add (.t 47) (.c (.int .i64 1)), none⟩,
   ⟨some 49, .mv (.c (.int .i64 0)), none⟩])
 (.block 0
  (.loop
   f6b0_c2)))
 f6b0_c0)))))))
def f6b0_lay : Lay := ⟨75, []⟩
def f6b0_res : List LRes := [.t 8, .t 9]
def f6b0_L : LFn := ⟨4, f6b0_lay, f6b0_c3, f6b0_res⟩
theorem f6b0_low : lowFn Try.prog [] 6 = some f6b0_L := by kernel_rfl
theorem f6b0_fok : FnOk Try.prog 6 := ⟨_, Try.func6, rfl, rfl⟩
def f6b0_Q (a0 : G_QKey) (a1 : G_QValue) (a2 : Int) (a3 : Int) (a4 : Int) (a5 : Int) (a6 : Int) (a7 : List (G_QKey × G_cell)) (o : Bool × Int × Int × Int × Int × Int × (List (G_QKey × G_cell))) : Exit → Env → AHeap → Nat → Prop := FinK f6b0_res (FinTo 3 3 (.tup [.bool o.1, .int .i64 o.2.1]) [((0, 0), .one [.int .i64 o.2.2.1, .int .i64 o.2.2.2.1, .int .i64 o.2.2.2.2.1, .int .i64 o.2.2.2.2.2.1, .map (0, 1)]), ((0, 1), .amap (o.2.2.2.2.2.2.map (em a_QKey a_cell)))])

def f6b0_L1_env (a0 : G_QKey) (a1 : G_QValue) (a2 : Int) (a3 : Int) (a7 : List (G_QKey × G_cell)) (s : (Int × Int × Int × Int)) : Env := [(0, .ptr (0, 0) 0 0), (3, .int .i64 a2), (5, .ptr (3, 0) 0 0), (6, .ptr (4, 0) 0 0), (48, .int .i64 (W ((if a2 > ((lk q_QKey a7 a0).getD (G_cell.mk (G_QValue.mk [] []) 0 0)).f_durability then a2 else ((lk q_QKey a7 a0).getD (G_cell.mk (G_QValue.mk [] []) 0 0)).f_durability) + 1))), (49, .int .i64 s.2.2.2)]
def f6b0_L1_hp (a0 : G_QKey) (a1 : G_QValue) (a2 : Int) (a3 : Int) (a7 : List (G_QKey × G_cell)) (s : (Int × Int × Int × Int)) : AHeap := [((0, 0), .one [.int .i64 (W (a3 + 1)), .int .i64 s.1, .int .i64 s.2.1, .int .i64 s.2.2.1, .map (0, 1)]), ((0, 1), .amap (a7.map (em a_QKey a_cell))), ((3, 0), .one [.int .i64 a0.f_Kind, .int .i64 a0.f_A, .int .i64 a0.f_B]), ((4, 0), .one [.isl 1 (a1.f_Nums.map e_i64) false, .str a1.f_Text])]
def f6b0_L1_Q (a0 : G_QKey) (a1 : G_QValue) (a2 : Int) (a3 : Int) (a4 : Int) (a5 : Int) (a6 : Int) (a7 : List (G_QKey × G_cell)) (o : (Bool × Int × Int × Int × Int × Int × (List (G_QKey × G_cell)))) : Exit → Env → AHeap → Nat → Prop := (QBlock 0 (QSeq Try.prog f6b0_lay 3 f6b0_c0 (f6b0_Q a0 a1 a2 a3 a4 a5 a6 a7 o)))

noncomputable def S_inputs_Store_Set_j3 (m : Option Nat) (a0 : G_QKey) (a1 : G_QValue) (a2 : Int) (a3 : Int) (a7 : List (G_QKey × G_cell)) (v8 : Int) (v12 : Int) (v13 : Int) (v14 : Int) : Option ((Int × Int × Int × Int) ⊕ (Bool × Int × Int × Int × Int × Int × (List (G_QKey × G_cell)))) :=
  some (.inl (v12, v13, v14, (W (v8 + 1))))

theorem f6b0_j3_ok {a4 : Int} {a5 : Int} {a6 : Int} {a0 : G_QKey} {a1 : G_QValue} {a2 : Int} {a3 : Int} {a7 : List (G_QKey × G_cell)} {v8 : Int} {v12 : Int} {v13 : Int} {v14 : Int} {m : Option Nat} {o : ((Int × Int × Int × Int) ⊕ (Bool × Int × Int × Int × Int × Int × (List (G_QKey × G_cell))))} (h : S_inputs_Store_Set_j3 m a0 a1 a2 a3 a7 v8 v12 v13 v14 = some o) :
    LWp Try.prog f6b0_lay 3 f6b0_c1 (BodyQ 3 5 (f6b0_L1_env a0 a1 a2 a3 a7) (f6b0_L1_hp a0 a1 a2 a3 a7) (f6b0_L1_Q a0 a1 a2 a3 a4 a5 a6 a7) o) [(0, .ptr (0, 0) 0 0), (3, .int .i64 a2), (5, .ptr (3, 0) 0 0), (6, .ptr (4, 0) 0 0), (48, .int .i64 (W ((if a2 > ((lk q_QKey a7 a0).getD (G_cell.mk (G_QValue.mk [] []) 0 0)).f_durability then a2 else ((lk q_QKey a7 a0).getD (G_cell.mk (G_QValue.mk [] []) 0 0)).f_durability) + 1))), (49, .int .i64 v8)] [((0, 0), .one [.int .i64 (W (a3 + 1)), .int .i64 v12, .int .i64 v13, .int .i64 v14, .map (0, 1)]), ((0, 1), .amap (a7.map (em a_QKey a_cell))), ((3, 0), .one [.int .i64 a0.f_Kind, .int .i64 a0.f_A, .int .i64 a0.f_B]), ((4, 0), .one [.isl 1 (a1.f_Nums.map e_i64) false, .str a1.f_Text])] 5 := by
  unfold S_inputs_Store_Set_j3 at h
  refine regI ?_
  cases h
  exact And.intro rfl (simI (M := [((3, 0), (3, 0)), ((4, 0), (4, 0))]) rfl (And.intro (Vw.ptr _ _ _ _ rfl) (And.intro (Vw.same _ rfl) (And.intro (Vw.ptr _ _ _ _ rfl) (And.intro (Vw.ptr _ _ _ _ rfl) (And.intro (Vw.same _ rfl) (And.intro (Vw.same _ rfl) trivial)))))) (And.intro (And.intro rfl (BVw.oneL (And.intro (Vw.same _ rfl) (And.intro (Vw.same _ rfl) (And.intro (Vw.same _ rfl) (And.intro (Vw.same _ rfl) (And.intro (Vw.map _ _ rfl) trivial))))))) (And.intro (And.intro rfl (BVw.ofMap a_QKey a_cell a_cell_nid a7)) (And.intro (And.intro rfl (BVw.oneL (And.intro (Vw.same _ rfl) (And.intro (Vw.same _ rfl) (And.intro (Vw.same _ rfl) trivial))))) (And.intro (And.intro rfl (BVw.oneL (And.intro (Vw.same _ rfl) (And.intro (Vw.same _ rfl) trivial)))) trivial)))))

noncomputable def S_inputs_Store_Set_j4 (m : Option Nat) (a0 : G_QKey) (a1 : G_QValue) (a2 : Int) (a3 : Int) (a7 : List (G_QKey × G_cell)) (v5 : Int) (v6 : Int) (v7 : Int) : Option (Bool × Int × Int × Int × Int × Int × (List (G_QKey × G_cell))) :=
  (S_inputs_clone m a1).bind fun v15 =>
  some (true, 0, (W (a3 + 1)), v5, v6, v7, (mp q_QKey a7 a0 (G_cell.mk v15 (W (a3 + 1)) a2)))

noncomputable def S_inputs_Store_Set_b1 (m : Option Nat) (a0 : G_QKey) (a1 : G_QValue) (a2 : Int) (a3 : Int) (a7 : List (G_QKey × G_cell)) (v5 : Int) (v6 : Int) (v7 : Int) (v8 : Int) : Option ((Int × Int × Int × Int) ⊕ (Bool × Int × Int × Int × Int × Int × (List (G_QKey × G_cell)))) :=
  if (decide (v8 < (W ((if a2 > ((lk q_QKey a7 a0).getD (G_cell.mk (G_QValue.mk [] []) 0 0)).f_durability then a2 else ((lk q_QKey a7 a0).getD (G_cell.mk (G_QValue.mk [] []) 0 0)).f_durability) + 1)))) = true then
    if (0 : Int) ≤ v8 ∧ v8 < 3 then
    if (v8 == 0) = true then
      S_inputs_Store_Set_j3 m a0 a1 a2 a3 a7 v8 (W (a3 + 1)) v6 v7
    else
      if (v8 == 1) = true then
        S_inputs_Store_Set_j3 m a0 a1 a2 a3 a7 v8 v5 (W (a3 + 1)) v7
      else
        S_inputs_Store_Set_j3 m a0 a1 a2 a3 a7 v8 v5 v6 (W (a3 + 1))
    else none
  else
    Option.map Sum.inr (
      S_inputs_Store_Set_j4 m a0 a1 a2 a3 a7 v5 v6 v7)

noncomputable def S_inputs_Store_Set_l1 (m : Option Nat) (a0 : G_QKey) (a1 : G_QValue) (a2 : Int) (a3 : Int) (a7 : List (G_QKey × G_cell)) (v5 : Int) (v6 : Int) (v7 : Int) (v8 : Int) : Option (Bool × Int × Int × Int × Int × Int × (List (G_QKey × G_cell))) := loopM m (fun (s : (Int × Int × Int × Int)) => S_inputs_Store_Set_b1 m a0 a1 a2 a3 a7 s.1 s.2.1 s.2.2.1 s.2.2.2) (v5, v6, v7, v8)

theorem f6b0_j4_ok {a4 : Int} {a5 : Int} {a6 : Int} {a0 : G_QKey} {a1 : G_QValue} {a2 : Int} {a3 : Int} {a7 : List (G_QKey × G_cell)} {v5 : Int} {v6 : Int} {v7 : Int} {m : Option Nat} {o : (Bool × Int × Int × Int × Int × Int × (List (G_QKey × G_cell)))} (h : S_inputs_Store_Set_j4 m a0 a1 a2 a3 a7 v5 v6 v7 = some o) :
    LWp Try.prog f6b0_lay 3 f6b0_c0 (f6b0_Q a0 a1 a2 a3 a4 a5 a6 a7 o) [(0, .ptr (0, 0) 0 0), (3, .int .i64 a2), (5, .ptr (3, 0) 0 0), (6, .ptr (4, 0) 0 0)] [((0, 0), .one [.int .i64 (W (a3 + 1)), .int .i64 v5, .int .i64 v6, .int .i64 v7, .map (0, 1)]), ((0, 1), .amap (a7.map (em a_QKey a_cell))), ((3, 0), .one [.int .i64 a0.f_Kind, .int .i64 a0.f_A, .int .i64 a0.f_B]), ((4, 0), .one [.isl 1 (a1.f_Nums.map e_i64) false, .str a1.f_Text])] 5 := by
  unfold S_inputs_Store_Set_j4 at h
  refine seqI ?_
  refine drawI ?_
  obtain ⟨v15, h11, h⟩ := bind_some h
  refine PFn.call (f13_ok h11) (And.intro (Vw.same _ rfl) trivial) ?_
  refine And.intro rfl ?_
  refine And.intro rfl ?_
  refine And.intro rfl ?_
  refine Exists.intro ((mp q_QKey a7 a0 (G_cell.mk v15 (W (a3 + 1)) a2)).map (em a_QKey a_cell)) (And.intro (mput_enc (ek := a_QKey) (ev := a_cell) q_QKey_ok a0 (G_cell.mk v15 (W (a3 + 1)) a2) a7) ?_)
  refine LWp.sim (e := []) (L := [((0, 0), .one [.int .i64 (W (a3 + 1)), .int .i64 v5, .int .i64 v6, .int .i64 v7, .map (0, 1)]), ((0, 1), .amap ((mp q_QKey a7 a0 (G_cell.mk v15 (W (a3 + 1)) a2)).map (em a_QKey a_cell)))]) (n := 3) (simI (M := []) rfl trivial (And.intro (And.intro rfl (BVw.oneL (And.intro (Vw.same _ rfl) (And.intro (Vw.same _ rfl) (And.intro (Vw.same _ rfl) (And.intro (Vw.same _ rfl) (And.intro (Vw.map _ _ rfl) trivial))))))) (And.intro (And.intro rfl (BVw.ofMap a_QKey a_cell a_cell_nid (mp q_QKey a7 a0 (G_cell.mk v15 (W (a3 + 1)) a2)))) trivial))) ?_
  refine seqI ?_
  refine regI ?_
  refine retI ?_
  cases h
  exact And.intro trivial (And.intro trivial (finI (n' := 3) [] [] rfl rfl (Vw.same _ rfl) (And.intro (And.intro rfl (BVw.oneL (And.intro (Vw.same _ rfl) (And.intro (Vw.same _ rfl) (And.intro (Vw.same _ rfl) (And.intro (Vw.same _ rfl) (And.intro (Vw.map _ _ rfl) trivial))))))) (And.intro (And.intro rfl (BVw.ofMap a_QKey a_cell a_cell_nid (mp q_QKey a7 a0 (G_cell.mk v15 (W (a3 + 1)) a2)))) trivial))))

theorem f6b0_L1_bok {a4 : Int} {a5 : Int} {a6 : Int} {a0 : G_QKey} {a1 : G_QValue} {a2 : Int} {a3 : Int} {a7 : List (G_QKey × G_cell)} {v5 : Int} {v6 : Int} {v7 : Int} {v8 : Int} {m : Option Nat} {o : (Int × Int × Int × Int) ⊕ (Bool × Int × Int × Int × Int × Int × (List (G_QKey × G_cell)))} (h : S_inputs_Store_Set_b1 m a0 a1 a2 a3 a7 v5 v6 v7 v8 = some o) :
    LWp Try.prog f6b0_lay 3 f6b0_c2 (BodyQ 3 5 (f6b0_L1_env a0 a1 a2 a3 a7) (f6b0_L1_hp a0 a1 a2 a3 a7) (f6b0_L1_Q a0 a1 a2 a3 a4 a5 a6 a7) o) [(0, .ptr (0, 0) 0 0), (3, .int .i64 a2), (5, .ptr (3, 0) 0 0), (6, .ptr (4, 0) 0 0), (48, .int .i64 (W ((if a2 > ((lk q_QKey a7 a0).getD (G_cell.mk (G_QValue.mk [] []) 0 0)).f_durability then a2 else ((lk q_QKey a7 a0).getD (G_cell.mk (G_QValue.mk [] []) 0 0)).f_durability) + 1))), (49, .int .i64 v8)] [((0, 0), .one [.int .i64 (W (a3 + 1)), .int .i64 v5, .int .i64 v6, .int .i64 v7, .map (0, 1)]), ((0, 1), .amap (a7.map (em a_QKey a_cell))), ((3, 0), .one [.int .i64 a0.f_Kind, .int .i64 a0.f_A, .int .i64 a0.f_B]), ((4, 0), .one [.isl 1 (a1.f_Nums.map e_i64) false, .str a1.f_Text])] 5 := by
  unfold S_inputs_Store_Set_b1 at h
  refine seqI ?_
  refine regI ?_
  refine seqI ?_
  refine condI (v := (decide (v8 < (W ((if a2 > ((lk q_QKey a7 a0).getD (G_cell.mk (G_QValue.mk [] []) 0 0)).f_durability then a2 else ((lk q_QKey a7 a0).getD (G_cell.mk (G_QValue.mk [] []) 0 0)).f_durability) + 1))))) rfl trivial (fun h9 => ?_) (fun h9 => ?_)
  · have h := ite_tt h9 h
    refine skipI ?_
    refine seqI ?_
    refine blockI ?_
    refine seqI ?_
    refine regI ?_
    refine drawO rfl ?_
    obtain ⟨h10, h⟩ := ite_some h
    refine And.intro h10 (And.intro (fun hj => ?_) (And.intro (fun hj => ?_) (And.intro (fun hj => ?_) trivial)))
    · have h := ite_tt (fork_eq hj) h
      refine LWp.sim ?_ (f6b0_j3_ok h)
      exact simI (M := [((3, 0), (3, 0)), ((4, 0), (4, 0))]) rfl (And.intro (Vw.ptr _ _ _ _ rfl) (And.intro (Vw.same _ rfl) (And.intro (Vw.ptr _ _ _ _ rfl) (And.intro (Vw.ptr _ _ _ _ rfl) (And.intro (Vw.same _ rfl) (And.intro (Vw.same _ rfl) trivial)))))) (And.intro (And.intro rfl (BVw.oneL (And.intro (Vw.same _ rfl) (And.intro (Vw.same _ rfl) (And.intro (Vw.same _ rfl) (And.intro (Vw.same _ rfl) (And.intro (Vw.map _ _ rfl) trivial))))))) (And.intro (And.intro rfl (BVw.ofMap a_QKey a_cell a_cell_nid a7)) (And.intro (And.intro rfl (BVw.oneL (And.intro (Vw.same _ rfl) (And.intro (Vw.same _ rfl) (And.intro (Vw.same _ rfl) trivial))))) (And.intro (And.intro rfl (BVw.oneL (And.intro (Vw.same _ rfl) (And.intro (Vw.same _ rfl) trivial)))) trivial))))
    · have h := ite_ff (fork_ne hj (show ((1 : Nat) : Int) ≠ 0 by decide)) h
      have h := ite_tt (fork_eq hj) h
      refine LWp.sim ?_ (f6b0_j3_ok h)
      exact simI (M := [((3, 0), (3, 0)), ((4, 0), (4, 0))]) rfl (And.intro (Vw.ptr _ _ _ _ rfl) (And.intro (Vw.same _ rfl) (And.intro (Vw.ptr _ _ _ _ rfl) (And.intro (Vw.ptr _ _ _ _ rfl) (And.intro (Vw.same _ rfl) (And.intro (Vw.same _ rfl) trivial)))))) (And.intro (And.intro rfl (BVw.oneL (And.intro (Vw.same _ rfl) (And.intro (Vw.same _ rfl) (And.intro (Vw.same _ rfl) (And.intro (Vw.same _ rfl) (And.intro (Vw.map _ _ rfl) trivial))))))) (And.intro (And.intro rfl (BVw.ofMap a_QKey a_cell a_cell_nid a7)) (And.intro (And.intro rfl (BVw.oneL (And.intro (Vw.same _ rfl) (And.intro (Vw.same _ rfl) (And.intro (Vw.same _ rfl) trivial))))) (And.intro (And.intro rfl (BVw.oneL (And.intro (Vw.same _ rfl) (And.intro (Vw.same _ rfl) trivial)))) trivial))))
    · have h := ite_ff (fork_ne hj (show ((2 : Nat) : Int) ≠ 0 by decide)) h
      have h := ite_ff (fork_ne hj (show ((2 : Nat) : Int) ≠ 1 by decide)) h
      refine LWp.sim ?_ (f6b0_j3_ok h)
      exact simI (M := [((3, 0), (3, 0)), ((4, 0), (4, 0))]) rfl (And.intro (Vw.ptr _ _ _ _ rfl) (And.intro (Vw.same _ rfl) (And.intro (Vw.ptr _ _ _ _ rfl) (And.intro (Vw.ptr _ _ _ _ rfl) (And.intro (Vw.same _ rfl) (And.intro (Vw.same _ rfl) trivial)))))) (And.intro (And.intro rfl (BVw.oneL (And.intro (Vw.same _ rfl) (And.intro (Vw.same _ rfl) (And.intro (Vw.same _ rfl) (And.intro (Vw.same _ rfl) (And.intro (Vw.map _ _ rfl) trivial))))))) (And.intro (And.intro rfl (BVw.ofMap a_QKey a_cell a_cell_nid a7)) (And.intro (And.intro rfl (BVw.oneL (And.intro (Vw.same _ rfl) (And.intro (Vw.same _ rfl) (And.intro (Vw.same _ rfl) trivial))))) (And.intro (And.intro rfl (BVw.oneL (And.intro (Vw.same _ rfl) (And.intro (Vw.same _ rfl) trivial)))) trivial))))
  · have h := ite_ff h9 h
    refine exitI ?_
    obtain ⟨o, hq, rfl⟩ := Option.map_eq_some_iff.1 h
    replace h := hq; clear hq
    refine And.intro nofun ?_
    refine LWp.sim ?_ (f6b0_j4_ok h)
    exact simI (M := [((3, 0), (3, 0)), ((4, 0), (4, 0))]) rfl (And.intro (Vw.ptr _ _ _ _ rfl) (And.intro (Vw.same _ rfl) (And.intro (Vw.ptr _ _ _ _ rfl) (And.intro (Vw.ptr _ _ _ _ rfl) trivial)))) (And.intro (And.intro rfl (BVw.oneL (And.intro (Vw.same _ rfl) (And.intro (Vw.same _ rfl) (And.intro (Vw.same _ rfl) (And.intro (Vw.same _ rfl) (And.intro (Vw.map _ _ rfl) trivial))))))) (And.intro (And.intro rfl (BVw.ofMap a_QKey a_cell a_cell_nid a7)) (And.intro (And.intro rfl (BVw.oneL (And.intro (Vw.same _ rfl) (And.intro (Vw.same _ rfl) (And.intro (Vw.same _ rfl) trivial))))) (And.intro (And.intro rfl (BVw.oneL (And.intro (Vw.same _ rfl) (And.intro (Vw.same _ rfl) trivial)))) trivial))))

theorem f6b0_L1_ok {a4 : Int} {a5 : Int} {a6 : Int} {a0 : G_QKey} {a1 : G_QValue} {a2 : Int} {a3 : Int} {a7 : List (G_QKey × G_cell)} {v5 : Int} {v6 : Int} {v7 : Int} {v8 : Int} {m : Option Nat} {o : (Bool × Int × Int × Int × Int × Int × (List (G_QKey × G_cell)))} (h : S_inputs_Store_Set_l1 m a0 a1 a2 a3 a7 v5 v6 v7 v8 = some o) :
    LWp Try.prog f6b0_lay 3 (.loop f6b0_c2) (QBlock 0 (QSeq Try.prog f6b0_lay 3 f6b0_c0 (f6b0_Q a0 a1 a2 a3 a4 a5 a6 a7 o))) [(0, .ptr (0, 0) 0 0), (3, .int .i64 a2), (5, .ptr (3, 0) 0 0), (6, .ptr (4, 0) 0 0), (48, .int .i64 (W ((if a2 > ((lk q_QKey a7 a0).getD (G_cell.mk (G_QValue.mk [] []) 0 0)).f_durability then a2 else ((lk q_QKey a7 a0).getD (G_cell.mk (G_QValue.mk [] []) 0 0)).f_durability) + 1))), (49, .int .i64 v8)] [((0, 0), .one [.int .i64 (W (a3 + 1)), .int .i64 v5, .int .i64 v6, .int .i64 v7, .map (0, 1)]), ((0, 1), .amap (a7.map (em a_QKey a_cell))), ((3, 0), .one [.int .i64 a0.f_Kind, .int .i64 a0.f_A, .int .i64 a0.f_B]), ((4, 0), .one [.isl 1 (a1.f_Nums.map e_i64) false, .str a1.f_Text])] 5 :=
  LWp_loopM (m := m) (s := ((v5, v6, v7, v8) : (Int × Int × Int × Int))) (r := o) (fun (s : (Int × Int × Int × Int)) => S_inputs_Store_Set_b1 m a0 a1 a2 a3 a7 s.1 s.2.1 s.2.2.1 s.2.2.2) (f6b0_L1_env a0 a1 a2 a3 a7) (f6b0_L1_hp a0 a1 a2 a3 a7) (f6b0_L1_Q a0 a1 a2 a3 a4 a5 a6 a7) (fun s o h => f6b0_L1_bok h) h

noncomputable def S_inputs_Store_Set (m : Option Nat) (a0 : G_QKey) (a1 : G_QValue) (a2 : Int) (a3 : Int) (a4 : Int) (a5 : Int) (a6 : Int) (a7 : List (G_QKey × G_cell)) : Option (Bool × Int × Int × Int × Int × Int × (List (G_QKey × G_cell))) :=
  if (a0.f_Kind != 0) = true then
    some (false, 7, a3, a4, a5, a6, a7)
  else
    if ((decide (a2 < 0)) || (decide (a2 ≥ 3))) = true then
      some (false, 1, a3, a4, a5, a6, a7)
    else
      (if ((((lk q_QKey a7 a0).getD (G_cell.mk (G_QValue.mk [] []) 0 0)).f_durability == a2) == true) = true then S_inputs_Equal m (G_QValue.mk ((((lk q_QKey a7 a0).getD (G_cell.mk (G_QValue.mk [] []) 0 0)).f_value).f_Nums) ((((lk q_QKey a7 a0).getD (G_cell.mk (G_QValue.mk [] []) 0 0)).f_value).f_Text)) a1 else some default).bind fun v1 =>
      if ((((lk q_QKey a7 a0).getD (G_cell.mk (G_QValue.mk [] []) 0 0)).f_durability == a2) && v1) = true then
        some (false, 0, a3, a4, a5, a6, a7)
      else
        S_inputs_Store_Set_l1 m a0 a1 a2 a3 a7 a4 a5 a6 0

theorem f6b0_start {a0 : G_QKey} {a1 : G_QValue} {a2 : Int} {a3 : Int} {a4 : Int} {a5 : Int} {a6 : Int} {a7 : List (G_QKey × G_cell)} {m : Option Nat} {o : Bool × Int × Int × Int × Int × Int × (List (G_QKey × G_cell))} (h : S_inputs_Store_Set m a0 a1 a2 a3 a4 a5 a6 a7 = some o) : LWp Try.prog f6b0_lay 3 f6b0_c3 (f6b0_Q a0 a1 a2 a3 a4 a5 a6 a7 o) (initEnv 0 [.ptr (0, 0) 0 0, .agg [.int .i64 a0.f_Kind, .int .i64 a0.f_A, .int .i64 a0.f_B], .agg [.isl 1 (a1.f_Nums.map e_i64) false, .str a1.f_Text], .int .i64 a2]) [((0, 0), .one [.int .i64 a3, .int .i64 a4, .int .i64 a5, .int .i64 a6, .map (0, 1)]), ((0, 1), .amap (a7.map (em a_QKey a_cell)))] 3 := by
  unfold S_inputs_Store_Set at h
  refine seqI ?_
  refine regI ?_
  refine seqI ?_
  refine seqI ?_
  refine regI ?_
  refine condI (v := (a0.f_Kind != 0)) rfl trivial (fun h1 => ?_) (fun h1 => ?_)
  · have h := ite_tt h1 h
    refine seqI ?_
    refine regI ?_
    refine LWp.sim (e := [(8, .bool false), (9, .int .i64 7)]) (L := [((0, 0), .one [.int .i64 a3, .int .i64 a4, .int .i64 a5, .int .i64 a6, .map (0, 1)]), ((0, 1), .amap (a7.map (em a_QKey a_cell)))]) (n := 3) (simI (M := []) rfl (And.intro (Vw.same _ rfl) (And.intro (Vw.same _ rfl) trivial)) (And.intro (And.intro rfl (BVw.oneL (And.intro (Vw.same _ rfl) (And.intro (Vw.same _ rfl) (And.intro (Vw.same _ rfl) (And.intro (Vw.same _ rfl) (And.intro (Vw.map _ _ rfl) trivial))))))) (And.intro (And.intro rfl (BVw.ofMap a_QKey a_cell a_cell_nid a7)) trivial))) ?_
    refine retI ?_
    cases h
    exact And.intro trivial (And.intro trivial (finI (n' := 3) [] [] rfl rfl (Vw.same _ rfl) (And.intro (And.intro rfl (BVw.oneL (And.intro (Vw.same _ rfl) (And.intro (Vw.same _ rfl) (And.intro (Vw.same _ rfl) (And.intro (Vw.same _ rfl) (And.intro (Vw.map _ _ rfl) trivial))))))) (And.intro (And.intro rfl (BVw.ofMap a_QKey a_cell a_cell_nid a7)) trivial))))
  · have h := ite_ff h1 h
    refine skipI ?_
    refine seqI ?_
    refine seqI ?_
    refine regI ?_
    refine And.intro (fun hp => hp) ?_
    show yops _ _ _ [(19, .cnd ((decide (a2 < 0)) == false) (.bool (decide (a2 ≥ 3)))), (18, .cnd ((decide (a2 < 0)) == false) (.int .i64 a2)), (17, .bool (decide (a2 < 0))), (16, .bool (decide (a2 < 0))), (15, .int .i64 a2), (14, .bool (a0.f_Kind != 0)), (13, .int .i64 a0.f_Kind), (12, .ptr (3, 0) 0 0), (9, .int .i64 0), (8, .bool false), (6, .ptr (4, 0) 0 0), (5, .ptr (3, 0) 0 0), (0, .ptr (0, 0) 0 0), (1, .agg [.int .i64 a0.f_Kind, .int .i64 a0.f_A, .int .i64 a0.f_B]), (2, .agg [.isl 1 (a1.f_Nums.map e_i64) false, .str a1.f_Text]), (3, .int .i64 a2)] _ _
    refine And.intro (fun hc => (bqf hc)) ?_
    refine LWp.sim (e := [(0, .ptr (0, 0) 0 0), (3, .int .i64 a2), (5, .ptr (3, 0) 0 0), (6, .ptr (4, 0) 0 0), (20, .bool ((decide (a2 < 0)) || (decide (a2 ≥ 3))))]) (L := [((0, 0), .one [.int .i64 a3, .int .i64 a4, .int .i64 a5, .int .i64 a6, .map (0, 1)]), ((0, 1), .amap (a7.map (em a_QKey a_cell))), ((3, 0), .one [.int .i64 a0.f_Kind, .int .i64 a0.f_A, .int .i64 a0.f_B]), ((4, 0), .one [.isl 1 (a1.f_Nums.map e_i64) false, .str a1.f_Text])]) (n := 5) (simI (M := [((3, 0), (3, 0)), ((4, 0), (4, 0))]) rfl (And.intro (Vw.ptr _ _ _ _ rfl) (And.intro (Vw.same _ rfl) (And.intro (Vw.ptr _ _ _ _ rfl) (And.intro (Vw.ptr _ _ _ _ rfl) (And.intro (Vw.same _ rfl) trivial))))) (And.intro (And.intro rfl (BVw.oneL (And.intro (Vw.same _ rfl) (And.intro (Vw.same _ rfl) (And.intro (Vw.same _ rfl) (And.intro (Vw.same _ rfl) (And.intro (Vw.map _ _ rfl) trivial))))))) (And.intro (And.intro rfl (BVw.ofMap a_QKey a_cell a_cell_nid a7)) (And.intro (And.intro rfl (BVw.oneL (And.intro (Vw.same _ rfl) (And.intro (Vw.same _ rfl) (And.intro (Vw.same _ rfl) trivial))))) (And.intro (And.intro rfl (BVw.oneL (And.intro (Vw.same _ rfl) (And.intro (Vw.same _ rfl) trivial)))) trivial))))) ?_
    refine condI (v := ((decide (a2 < 0)) || (decide (a2 ≥ 3)))) rfl trivial (fun h2 => ?_) (fun h2 => ?_)
    · have h := ite_tt h2 h
      refine seqI ?_
      refine regI ?_
      refine retI ?_
      cases h
      exact And.intro trivial (And.intro trivial (finI (n' := 5) [] [] rfl rfl (Vw.same _ rfl) (And.intro (And.intro rfl (BVw.oneL (And.intro (Vw.same _ rfl) (And.intro (Vw.same _ rfl) (And.intro (Vw.same _ rfl) (And.intro (Vw.same _ rfl) (And.intro (Vw.map _ _ rfl) trivial))))))) (And.intro (And.intro rfl (BVw.ofMap a_QKey a_cell a_cell_nid a7)) trivial))))
    · have h := ite_ff h2 h
      refine skipI ?_
      refine seqI ?_
      refine drawI ?_
      refine Exists.intro (.agg [.isl 1 (((((lk q_QKey a7 a0).getD (G_cell.mk (G_QValue.mk [] []) 0 0)).f_value).f_Nums).map e_i64) false, .str ((((lk q_QKey a7 a0).getD (G_cell.mk (G_QValue.mk [] []) 0 0)).f_value).f_Text), .int .i64 (((lk q_QKey a7 a0).getD (G_cell.mk (G_QValue.mk [] []) 0 0)).f_changedAt), .int .i64 (((lk q_QKey a7 a0).getD (G_cell.mk (G_QValue.mk [] []) 0 0)).f_durability)]) (And.intro (mlook1 (ek := a_QKey) (ev := a_cell) (z := (G_cell.mk (G_QValue.mk [] []) 0 0)) q_QKey_ok rfl a0 a7) (And.intro (mfind_some (ek := a_QKey) (ev := a_cell) q_QKey_ok _ _) ?_))
      refine And.intro (And.intro (mfind_some (ek := a_QKey) (ev := a_cell) q_QKey_ok _ _) (mlook1 (ek := a_QKey) (ev := a_cell) (z := (G_cell.mk (G_QValue.mk [] []) 0 0)) q_QKey_ok rfl a0 a7)) ?_
      refine And.intro rfl ?_
      refine And.intro rfl ?_
      refine LWp.sim (e := [(0, .ptr (0, 0) 0 0), (3, .int .i64 a2), (5, .ptr (3, 0) 0 0), (6, .ptr (4, 0) 0 0), (10, .ptr (5, 0) 0 0)]) (L := [((0, 0), .one [.int .i64 a3, .int .i64 a4, .int .i64 a5, .int .i64 a6, .map (0, 1)]), ((0, 1), .amap (a7.map (em a_QKey a_cell))), ((3, 0), .one [.int .i64 a0.f_Kind, .int .i64 a0.f_A, .int .i64 a0.f_B]), ((4, 0), .one [.isl 1 (a1.f_Nums.map e_i64) false, .str a1.f_Text]), ((5, 0), .one [.isl 1 (((((lk q_QKey a7 a0).getD (G_cell.mk (G_QValue.mk [] []) 0 0)).f_value).f_Nums).map e_i64) false, .str ((((lk q_QKey a7 a0).getD (G_cell.mk (G_QValue.mk [] []) 0 0)).f_value).f_Text), .int .i64 (((lk q_QKey a7 a0).getD (G_cell.mk (G_QValue.mk [] []) 0 0)).f_changedAt), .int .i64 (((lk q_QKey a7 a0).getD (G_cell.mk (G_QValue.mk [] []) 0 0)).f_durability)])]) (n := 6) (simI (M := [((3, 0), (3, 0)), ((4, 0), (4, 0)), ((5, 0), (5, 0))]) rfl (And.intro (Vw.ptr _ _ _ _ rfl) (And.intro (Vw.same _ rfl) (And.intro (Vw.ptr _ _ _ _ rfl) (And.intro (Vw.ptr _ _ _ _ rfl) (And.intro (Vw.ptr _ _ _ _ rfl) trivial))))) (And.intro (And.intro rfl (BVw.oneL (And.intro (Vw.same _ rfl) (And.intro (Vw.same _ rfl) (And.intro (Vw.same _ rfl) (And.intro (Vw.same _ rfl) (And.intro (Vw.map _ _ rfl) trivial))))))) (And.intro (And.intro rfl (BVw.ofMap a_QKey a_cell a_cell_nid a7)) (And.intro (And.intro rfl (BVw.oneL (And.intro (Vw.same _ rfl) (And.intro (Vw.same _ rfl) (And.intro (Vw.same _ rfl) trivial))))) (And.intro (And.intro rfl (BVw.oneL (And.intro (Vw.same _ rfl) (And.intro (Vw.same _ rfl) trivial)))) (And.intro (And.intro rfl (BVw.oneL (And.intro (Vw.same _ rfl) (And.intro (Vw.same _ rfl) (And.intro (Vw.same _ rfl) (And.intro (Vw.same _ rfl) trivial)))))) trivial)))))) ?_
      refine seqI ?_
      refine seqI ?_
      refine regI ?_
      refine And.intro (fun hp => hp) ?_
      show yops _ _ _ [(33, .cnd ((((lk q_QKey a7 a0).getD (G_cell.mk (G_QValue.mk [] []) 0 0)).f_durability == a2) == true) (.agg [.isl 1 (((((lk q_QKey a7 a0).getD (G_cell.mk (G_QValue.mk [] []) 0 0)).f_value).f_Nums).map e_i64) false, .str ((((lk q_QKey a7 a0).getD (G_cell.mk (G_QValue.mk [] []) 0 0)).f_value).f_Text)])), (32, .cnd ((((lk q_QKey a7 a0).getD (G_cell.mk (G_QValue.mk [] []) 0 0)).f_durability == a2) == true) (.ptr (5, 0) 0 0)), (31, .bool (((lk q_QKey a7 a0).getD (G_cell.mk (G_QValue.mk [] []) 0 0)).f_durability == a2)), (30, .bool (((lk q_QKey a7 a0).getD (G_cell.mk (G_QValue.mk [] []) 0 0)).f_durability == a2)), (29, .int .i64 a2), (28, .int .i64 (((lk q_QKey a7 a0).getD (G_cell.mk (G_QValue.mk [] []) 0 0)).f_durability)), (27, .ptr (5, 0) 0 3), (0, .ptr (0, 0) 0 0), (3, .int .i64 a2), (5, .ptr (3, 0) 0 0), (6, .ptr (4, 0) 0 0), (10, .ptr (5, 0) 0 0)] _ _
      obtain ⟨v1, h3, h⟩ := bind_some h
      refine Or.inl (Exists.intro (.bool v1) (And.intro (fun hp => And.intro (And.intro hp hp) (PFn.call (f12_ok (ite_tt hp h3)) (And.intro (Vw.same _ rfl) (And.intro (Vw.same _ rfl) trivial)) (And.intro rfl (And.intro rfl rfl)))) ?_))
      refine And.intro (fun hc => (bqt hc)) ?_
      refine LWp.sim (e := [(0, .ptr (0, 0) 0 0), (3, .int .i64 a2), (5, .ptr (3, 0) 0 0), (6, .ptr (4, 0) 0 0), (10, .ptr (5, 0) 0 0), (36, .bool ((((lk q_QKey a7 a0).getD (G_cell.mk (G_QValue.mk [] []) 0 0)).f_durability == a2) && v1))]) (L := [((0, 0), .one [.int .i64 a3, .int .i64 a4, .int .i64 a5, .int .i64 a6, .map (0, 1)]), ((0, 1), .amap (a7.map (em a_QKey a_cell))), ((3, 0), .one [.int .i64 a0.f_Kind, .int .i64 a0.f_A, .int .i64 a0.f_B]), ((4, 0), .one [.isl 1 (a1.f_Nums.map e_i64) false, .str a1.f_Text]), ((5, 0), .one [.isl 1 (((((lk q_QKey a7 a0).getD (G_cell.mk (G_QValue.mk [] []) 0 0)).f_value).f_Nums).map e_i64) false, .str ((((lk q_QKey a7 a0).getD (G_cell.mk (G_QValue.mk [] []) 0 0)).f_value).f_Text), .int .i64 (((lk q_QKey a7 a0).getD (G_cell.mk (G_QValue.mk [] []) 0 0)).f_changedAt), .int .i64 (((lk q_QKey a7 a0).getD (G_cell.mk (G_QValue.mk [] []) 0 0)).f_durability)])]) (n := 6) (simI (M := [((3, 0), (3, 0)), ((4, 0), (4, 0)), ((5, 0), (5, 0))]) rfl (And.intro (Vw.ptr _ _ _ _ rfl) (And.intro (Vw.same _ rfl) (And.intro (Vw.ptr _ _ _ _ rfl) (And.intro (Vw.ptr _ _ _ _ rfl) (And.intro (Vw.ptr _ _ _ _ rfl) (And.intro (Vw.same _ rfl) trivial)))))) (And.intro (And.intro rfl (BVw.oneL (And.intro (Vw.same _ rfl) (And.intro (Vw.same _ rfl) (And.intro (Vw.same _ rfl) (And.intro (Vw.same _ rfl) (And.intro (Vw.map _ _ rfl) trivial))))))) (And.intro (And.intro rfl (BVw.ofMap a_QKey a_cell a_cell_nid a7)) (And.intro (And.intro rfl (BVw.oneL (And.intro (Vw.same _ rfl) (And.intro (Vw.same _ rfl) (And.intro (Vw.same _ rfl) trivial))))) (And.intro (And.intro rfl (BVw.oneL (And.intro (Vw.same _ rfl) (And.intro (Vw.same _ rfl) trivial)))) (And.intro (And.intro rfl (BVw.oneL (And.intro (Vw.same _ rfl) (And.intro (Vw.same _ rfl) (And.intro (Vw.same _ rfl) (And.intro (Vw.same _ rfl) trivial)))))) trivial)))))) ?_
      refine condI (v := ((((lk q_QKey a7 a0).getD (G_cell.mk (G_QValue.mk [] []) 0 0)).f_durability == a2) && v1)) rfl trivial (fun h4 => ?_) (fun h4 => ?_)
      · have h := ite_tt h4 h
        refine seqI ?_
        refine regI ?_
        refine retI ?_
        cases h
        exact And.intro trivial (And.intro trivial (finI (n' := 6) [] [] rfl rfl (Vw.same _ rfl) (And.intro (And.intro rfl (BVw.oneL (And.intro (Vw.same _ rfl) (And.intro (Vw.same _ rfl) (And.intro (Vw.same _ rfl) (And.intro (Vw.same _ rfl) (And.intro (Vw.map _ _ rfl) trivial))))))) (And.intro (And.intro rfl (BVw.ofMap a_QKey a_cell a_cell_nid a7)) trivial))))
      · have h := ite_ff h4 h
        refine skipI ?_
        refine seqI ?_
        refine regI ?_
        refine LWp.sim (e := [(0, .ptr (0, 0) 0 0), (3, .int .i64 a2), (5, .ptr (3, 0) 0 0), (6, .ptr (4, 0) 0 0), (10, .ptr (5, 0) 0 0)]) (L := [((0, 0), .one [.int .i64 (W (a3 + 1)), .int .i64 a4, .int .i64 a5, .int .i64 a6, .map (0, 1)]), ((0, 1), .amap (a7.map (em a_QKey a_cell))), ((3, 0), .one [.int .i64 a0.f_Kind, .int .i64 a0.f_A, .int .i64 a0.f_B]), ((4, 0), .one [.isl 1 (a1.f_Nums.map e_i64) false, .str a1.f_Text]), ((5, 0), .one [.isl 1 (((((lk q_QKey a7 a0).getD (G_cell.mk (G_QValue.mk [] []) 0 0)).f_value).f_Nums).map e_i64) false, .str ((((lk q_QKey a7 a0).getD (G_cell.mk (G_QValue.mk [] []) 0 0)).f_value).f_Text), .int .i64 (((lk q_QKey a7 a0).getD (G_cell.mk (G_QValue.mk [] []) 0 0)).f_changedAt), .int .i64 (((lk q_QKey a7 a0).getD (G_cell.mk (G_QValue.mk [] []) 0 0)).f_durability)])]) (n := 6) (simI (M := [((3, 0), (3, 0)), ((4, 0), (4, 0)), ((5, 0), (5, 0))]) rfl (And.intro (Vw.ptr _ _ _ _ rfl) (And.intro (Vw.same _ rfl) (And.intro (Vw.ptr _ _ _ _ rfl) (And.intro (Vw.ptr _ _ _ _ rfl) (And.intro (Vw.ptr _ _ _ _ rfl) trivial))))) (And.intro (And.intro rfl (BVw.oneL (And.intro (Vw.same _ rfl) (And.intro (Vw.same _ rfl) (And.intro (Vw.same _ rfl) (And.intro (Vw.same _ rfl) (And.intro (Vw.map _ _ rfl) trivial))))))) (And.intro (And.intro rfl (BVw.ofMap a_QKey a_cell a_cell_nid a7)) (And.intro (And.intro rfl (BVw.oneL (And.intro (Vw.same _ rfl) (And.intro (Vw.same _ rfl) (And.intro (Vw.same _ rfl) trivial))))) (And.intro (And.intro rfl (BVw.oneL (And.intro (Vw.same _ rfl) (And.intro (Vw.same _ rfl) trivial)))) (And.intro (And.intro rfl (BVw.oneL (And.intro (Vw.same _ rfl) (And.intro (Vw.same _ rfl) (And.intro (Vw.same _ rfl) (And.intro (Vw.same _ rfl) trivial)))))) trivial)))))) ?_
        refine seqI ?_
        refine seqI ?_
        refine regI ?_
        refine blockI ?_
        refine LWp.sim ?_ (f6b0_L1_ok h)
        exact simI (M := [((3, 0), (3, 0)), ((4, 0), (4, 0))]) rfl (And.intro (Vw.ptr _ _ _ _ rfl) (And.intro (Vw.same _ rfl) (And.intro (Vw.ptr _ _ _ _ rfl) (And.intro (Vw.ptr _ _ _ _ rfl) (And.intro (Vw.same _ rfl) (And.intro (Vw.same _ rfl) trivial)))))) (And.intro (And.intro rfl (BVw.oneL (And.intro (Vw.same _ rfl) (And.intro (Vw.same _ rfl) (And.intro (Vw.same _ rfl) (And.intro (Vw.same _ rfl) (And.intro (Vw.map _ _ rfl) trivial))))))) (And.intro (And.intro rfl (BVw.ofMap a_QKey a_cell a_cell_nid a7)) (And.intro (And.intro rfl (BVw.oneL (And.intro (Vw.same _ rfl) (And.intro (Vw.same _ rfl) (And.intro (Vw.same _ rfl) trivial))))) (And.intro (And.intro rfl (BVw.oneL (And.intro (Vw.same _ rfl) (And.intro (Vw.same _ rfl) trivial)))) trivial))))

theorem f6b0_ok {a0 : G_QKey} {a1 : G_QValue} {a2 : Int} {a3 : Int} {a4 : Int} {a5 : Int} {a6 : Int} {a7 : List (G_QKey × G_cell)} {m : Option Nat} {o : Bool × Int × Int × Int × Int × Int × (List (G_QKey × G_cell))} (h : S_inputs_Store_Set m a0 a1 a2 a3 a4 a5 a6 a7 = some o) : ACalls Try.prog 6 [.ptr (0, 0) 0 0, .agg [.int .i64 a0.f_Kind, .int .i64 a0.f_A, .int .i64 a0.f_B], .agg [.isl 1 (a1.f_Nums.map e_i64) false, .str a1.f_Text], .int .i64 a2] [((0, 0), .one [.int .i64 a3, .int .i64 a4, .int .i64 a5, .int .i64 a6, .map (0, 1)]), ((0, 1), .amap (a7.map (em a_QKey a_cell)))] 3 (Gives 3 (.tup [.bool o.1, .int .i64 o.2.1]) [((0, 0), .one [.int .i64 o.2.2.1, .int .i64 o.2.2.2.1, .int .i64 o.2.2.2.2.1, .int .i64 o.2.2.2.2.2.1, .map (0, 1)]), ((0, 1), .amap (o.2.2.2.2.2.2.map (em a_QKey a_cell)))]) := bfn_of (L := f6b0_L) f6b0_low f6b0_fok (Nat.le_of_ble_eq_true rfl) (f6b0_start h)

def f8b0_c0 : LCode := (.seq (.region [⟨some 2, .mv (.c (.int .i64 0)), none⟩])
 (.seq (.region [⟨some 3, .mv (.t 0), none⟩,
   ⟨some 4, .nilck (.t 3), none⟩,
   ⟨some 5, .faddr 0 (.t 4), none⟩,
   ⟨some 6, .load false 1 (.t 5), none⟩,
   ⟨some 2, .mv (.t 6), none⟩])
 .ret))
def f8b0_lay : Lay := ⟨7, []⟩
def f8b0_res : List LRes := [.t 2]
def f8b0_L : LFn := ⟨1, f8b0_lay, f8b0_c0, f8b0_res⟩
theorem f8b0_low : lowFn Try.prog [] 8 = some f8b0_L := by kernel_rfl
theorem f8b0_fok : FnOk Try.prog 8 := ⟨_, Try.func8, rfl, rfl⟩
noncomputable def S_inputs_Store_Revision (m : Option Nat) (a0 : Int) (a1 : Int) (a2 : Int) (a3 : Int) (a4 : List (G_QKey × G_cell)) : Option Int :=
  some a0

def f8b0_Q (a0 : Int) (a1 : Int) (a2 : Int) (a3 : Int) (a4 : List (G_QKey × G_cell)) (o : Int) : Exit → Env → AHeap → Nat → Prop := FinK f8b0_res (FinTo 3 3 (.int .i64 o) [((0, 0), .one [.int .i64 a0, .int .i64 a1, .int .i64 a2, .int .i64 a3, .map (0, 1)]), ((0, 1), .amap (a4.map (em a_QKey a_cell)))])

theorem f8b0_start {a0 : Int} {a1 : Int} {a2 : Int} {a3 : Int} {a4 : List (G_QKey × G_cell)} {m : Option Nat} {o : Int} (h : S_inputs_Store_Revision m a0 a1 a2 a3 a4 = some o) : LWp Try.prog f8b0_lay 3 f8b0_c0 (f8b0_Q a0 a1 a2 a3 a4 o) (initEnv 0 [.ptr (0, 0) 0 0]) [((0, 0), .one [.int .i64 a0, .int .i64 a1, .int .i64 a2, .int .i64 a3, .map (0, 1)]), ((0, 1), .amap (a4.map (em a_QKey a_cell)))] 3 := by
  unfold S_inputs_Store_Revision at h
  refine seqI ?_
  refine regI ?_
  refine seqI ?_
  refine regI ?_
  refine retI ?_
  cases h
  exact And.intro trivial (finI (n' := 3) [] [] rfl rfl (Vw.same _ rfl) (And.intro (And.intro rfl (BVw.oneL (And.intro (Vw.same _ rfl) (And.intro (Vw.same _ rfl) (And.intro (Vw.same _ rfl) (And.intro (Vw.same _ rfl) (And.intro (Vw.map _ _ rfl) trivial))))))) (And.intro (And.intro rfl (BVw.ofMap a_QKey a_cell a_cell_nid a4)) trivial)))

theorem f8b0_ok {a0 : Int} {a1 : Int} {a2 : Int} {a3 : Int} {a4 : List (G_QKey × G_cell)} {m : Option Nat} {o : Int} (h : S_inputs_Store_Revision m a0 a1 a2 a3 a4 = some o) : ACalls Try.prog 8 [.ptr (0, 0) 0 0] [((0, 0), .one [.int .i64 a0, .int .i64 a1, .int .i64 a2, .int .i64 a3, .map (0, 1)]), ((0, 1), .amap (a4.map (em a_QKey a_cell)))] 3 (Gives 3 (.int .i64 o) [((0, 0), .one [.int .i64 a0, .int .i64 a1, .int .i64 a2, .int .i64 a3, .map (0, 1)]), ((0, 1), .amap (a4.map (em a_QKey a_cell)))]) := bfn_of (L := f8b0_L) f8b0_low f8b0_fok (Nat.le_of_ble_eq_true rfl) (f8b0_start h)

def f11b0_c0 : LCode := .ret
def f11b0_c1 : LCode := (.seq (.region [⟨some 4, .mv (.c (.int .i64 0)), none⟩])
 (.seq (.seq (.region [⟨some 5, .mv (.t 1), none⟩,
   ⟨some 6, .bin .lss (.t 5) (.c (.int .i64 0)), none⟩,
   ⟨some 7, .mv (.t 6), none⟩,
   ⟨some 8, .mv (.t 1), some (7, false)⟩,
   ⟨some 9, .bin .geq (.t 8) (.c (.int .i64 3)), some (7, false)⟩,
   ⟨some 10, .pick (.t 7) (.c (.bool true)) (.t 9), none⟩])
 (.cond (.t 10)
  (.seq (.region [⟨some 4, .mv (.c (.int .i64 0)), none⟩])
  .ret)
  .skip))
 (.seq (.region [⟨some 11, .mv (.t 0), none⟩,
   ⟨some 12, .mv (.t 1), none⟩,
   ⟨some 13, .nilck (.t 11), none⟩,
   ⟨some 14, .faddr 1 (.t 13), none⟩,
   ⟨some 15, .iaddrA 3 1 (.t 14) (.t 12), none⟩,
   ⟨some 16, .load false 1 (.t 15), none⟩,
   ⟨some 4, .mv (.t 16), none⟩])
 f11b0_c0)))
def f11b0_lay : Lay := ⟨17, []⟩
def f11b0_res : List LRes := [.t 4]
def f11b0_L : LFn := ⟨2, f11b0_lay, f11b0_c1, f11b0_res⟩
theorem f11b0_low : lowFn Try.prog [] 11 = some f11b0_L := by kernel_rfl
theorem f11b0_fok : FnOk Try.prog 11 := ⟨_, Try.func11, rfl, rfl⟩
noncomputable def S_inputs_Store_LastChange_j1 (m : Option Nat) (a1 : Int) (a2 : Int) (a3 : Int) (a4 : Int) (a5 : List (G_QKey × G_cell)) (v1 : Int) : Option Int :=
  some v1

def f11b0_Q (a0 : Int) (a1 : Int) (a2 : Int) (a3 : Int) (a4 : Int) (a5 : List (G_QKey × G_cell)) (o : Int) : Exit → Env → AHeap → Nat → Prop := FinK f11b0_res (FinTo 3 3 (.int .i64 o) [((0, 0), .one [.int .i64 a1, .int .i64 a2, .int .i64 a3, .int .i64 a4, .map (0, 1)]), ((0, 1), .amap (a5.map (em a_QKey a_cell)))])

theorem f11b0_j1_ok {a0 : Int} {a1 : Int} {a2 : Int} {a3 : Int} {a4 : Int} {a5 : List (G_QKey × G_cell)} {v1 : Int} {m : Option Nat} {o : Int} (h : S_inputs_Store_LastChange_j1 m a1 a2 a3 a4 a5 v1 = some o) :
    LWp Try.prog f11b0_lay 3 f11b0_c0 (f11b0_Q a0 a1 a2 a3 a4 a5 o) [(4, .int .i64 v1)] [((0, 0), .one [.int .i64 a1, .int .i64 a2, .int .i64 a3, .int .i64 a4, .map (0, 1)]), ((0, 1), .amap (a5.map (em a_QKey a_cell)))] 3 := by
  unfold S_inputs_Store_LastChange_j1 at h
  refine retI ?_
  cases h
  exact And.intro trivial (finI (n' := 3) [] [] rfl rfl (Vw.same _ rfl) (And.intro (And.intro rfl (BVw.oneL (And.intro (Vw.same _ rfl) (And.intro (Vw.same _ rfl) (And.intro (Vw.same _ rfl) (And.intro (Vw.same _ rfl) (And.intro (Vw.map _ _ rfl) trivial))))))) (And.intro (And.intro rfl (BVw.ofMap a_QKey a_cell a_cell_nid a5)) trivial)))

noncomputable def S_inputs_Store_LastChange (m : Option Nat) (a0 : Int) (a1 : Int) (a2 : Int) (a3 : Int) (a4 : Int) (a5 : List (G_QKey × G_cell)) : Option Int :=
  if ((decide (a0 < 0)) || (decide (a0 ≥ 3))) = true then
    some 0
  else
    if (0 : Int) ≤ a0 ∧ a0 < 3 then
    if (a0 == 0) = true then
      S_inputs_Store_LastChange_j1 m a1 a2 a3 a4 a5 a2
    else
      if (a0 == 1) = true then
        S_inputs_Store_LastChange_j1 m a1 a2 a3 a4 a5 a3
      else
        S_inputs_Store_LastChange_j1 m a1 a2 a3 a4 a5 a4
    else none

theorem f11b0_start {a0 : Int} {a1 : Int} {a2 : Int} {a3 : Int} {a4 : Int} {a5 : List (G_QKey × G_cell)} {m : Option Nat} {o : Int} (h : S_inputs_Store_LastChange m a0 a1 a2 a3 a4 a5 = some o) : LWp Try.prog f11b0_lay 3 f11b0_c1 (f11b0_Q a0 a1 a2 a3 a4 a5 o) (initEnv 0 [.ptr (0, 0) 0 0, .int .i64 a0]) [((0, 0), .one [.int .i64 a1, .int .i64 a2, .int .i64 a3, .int .i64 a4, .map (0, 1)]), ((0, 1), .amap (a5.map (em a_QKey a_cell)))] 3 := by
  unfold S_inputs_Store_LastChange at h
  refine seqI ?_
  refine regI ?_
  refine seqI ?_
  refine seqI ?_
  refine regI ?_
  refine And.intro (fun hp => hp) ?_
  show yops _ _ _ [(9, .cnd ((decide (a0 < 0)) == false) (.bool (decide (a0 ≥ 3)))), (8, .cnd ((decide (a0 < 0)) == false) (.int .i64 a0)), (7, .bool (decide (a0 < 0))), (6, .bool (decide (a0 < 0))), (5, .int .i64 a0), (4, .int .i64 0), (0, .ptr (0, 0) 0 0), (1, .int .i64 a0)] _ _
  refine And.intro (fun hc => (bqf hc)) ?_
  refine condI (v := ((decide (a0 < 0)) || (decide (a0 ≥ 3)))) rfl trivial (fun h1 => ?_) (fun h1 => ?_)
  · have h := ite_tt h1 h
    refine seqI ?_
    refine regI ?_
    refine LWp.sim (e := [(4, .int .i64 0)]) (L := [((0, 0), .one [.int .i64 a1, .int .i64 a2, .int .i64 a3, .int .i64 a4, .map (0, 1)]), ((0, 1), .amap (a5.map (em a_QKey a_cell)))]) (n := 3) (simI (M := []) rfl (And.intro (Vw.same _ rfl) trivial) (And.intro (And.intro rfl (BVw.oneL (And.intro (Vw.same _ rfl) (And.intro (Vw.same _ rfl) (And.intro (Vw.same _ rfl) (And.intro (Vw.same _ rfl) (And.intro (Vw.map _ _ rfl) trivial))))))) (And.intro (And.intro rfl (BVw.ofMap a_QKey a_cell a_cell_nid a5)) trivial))) ?_
    refine retI ?_
    cases h
    exact And.intro trivial (finI (n' := 3) [] [] rfl rfl (Vw.same _ rfl) (And.intro (And.intro rfl (BVw.oneL (And.intro (Vw.same _ rfl) (And.intro (Vw.same _ rfl) (And.intro (Vw.same _ rfl) (And.intro (Vw.same _ rfl) (And.intro (Vw.map _ _ rfl) trivial))))))) (And.intro (And.intro rfl (BVw.ofMap a_QKey a_cell a_cell_nid a5)) trivial)))
  · have h := ite_ff h1 h
    refine skipI ?_
    refine seqI ?_
    refine regI ?_
    obtain ⟨h2, h⟩ := ite_some h
    refine And.intro h2 (And.intro (fun hj => ?_) (And.intro (fun hj => ?_) (And.intro (fun hj => ?_) trivial)))
    · have h := ite_tt (fork_eq hj) h
      refine LWp.sim ?_ (f11b0_j1_ok h)
      exact simI (M := []) rfl (And.intro (Vw.same _ rfl) trivial) (And.intro (And.intro rfl (BVw.oneL (And.intro (Vw.same _ rfl) (And.intro (Vw.same _ rfl) (And.intro (Vw.same _ rfl) (And.intro (Vw.same _ rfl) (And.intro (Vw.map _ _ rfl) trivial))))))) (And.intro (And.intro rfl (BVw.ofMap a_QKey a_cell a_cell_nid a5)) trivial))
    · have h := ite_ff (fork_ne hj (show ((1 : Nat) : Int) ≠ 0 by decide)) h
      have h := ite_tt (fork_eq hj) h
      refine LWp.sim ?_ (f11b0_j1_ok h)
      exact simI (M := []) rfl (And.intro (Vw.same _ rfl) trivial) (And.intro (And.intro rfl (BVw.oneL (And.intro (Vw.same _ rfl) (And.intro (Vw.same _ rfl) (And.intro (Vw.same _ rfl) (And.intro (Vw.same _ rfl) (And.intro (Vw.map _ _ rfl) trivial))))))) (And.intro (And.intro rfl (BVw.ofMap a_QKey a_cell a_cell_nid a5)) trivial))
    · have h := ite_ff (fork_ne hj (show ((2 : Nat) : Int) ≠ 0 by decide)) h
      have h := ite_ff (fork_ne hj (show ((2 : Nat) : Int) ≠ 1 by decide)) h
      refine LWp.sim ?_ (f11b0_j1_ok h)
      exact simI (M := []) rfl (And.intro (Vw.same _ rfl) trivial) (And.intro (And.intro rfl (BVw.oneL (And.intro (Vw.same _ rfl) (And.intro (Vw.same _ rfl) (And.intro (Vw.same _ rfl) (And.intro (Vw.same _ rfl) (And.intro (Vw.map _ _ rfl) trivial))))))) (And.intro (And.intro rfl (BVw.ofMap a_QKey a_cell a_cell_nid a5)) trivial))

theorem f11b0_ok {a0 : Int} {a1 : Int} {a2 : Int} {a3 : Int} {a4 : Int} {a5 : List (G_QKey × G_cell)} {m : Option Nat} {o : Int} (h : S_inputs_Store_LastChange m a0 a1 a2 a3 a4 a5 = some o) : ACalls Try.prog 11 [.ptr (0, 0) 0 0, .int .i64 a0] [((0, 0), .one [.int .i64 a1, .int .i64 a2, .int .i64 a3, .int .i64 a4, .map (0, 1)]), ((0, 1), .amap (a5.map (em a_QKey a_cell)))] 3 (Gives 3 (.int .i64 o) [((0, 0), .one [.int .i64 a1, .int .i64 a2, .int .i64 a3, .int .i64 a4, .map (0, 1)]), ((0, 1), .amap (a5.map (em a_QKey a_cell)))]) := bfn_of (L := f11b0_L) f11b0_low f11b0_fok (Nat.le_of_ble_eq_true rfl) (f11b0_start h)

def f4_c0 : LCode := (.seq (.region [⟨some 0, .mv (.c (.bool false)), none⟩])
 (.seq (.region [⟨some 6, .call 5 [], none⟩,
   ⟨some 1, .mv (.t 6), none⟩])
 (.seq (.seq (.region [⟨some 7, .mv (.t 1), none⟩,
   ⟨some 8, .eq false .ptr (.t 7) (.c (.val (.pointer none))), none⟩])
 (.cond (.t 8)
  (.seq (.region [⟨some 0, .mv (.c (.bool false)), none⟩])
  .ret)
  .skip))
 (.seq (.region [⟨some 10, .mv (.t 1), none⟩,
   ⟨some 11, .build [(.int .i64 0), (.int .i64 0), (.int .i64 0)] [(1, 1, (.c (.int .i64 3)))], none⟩,
   ⟨some 12, .build [(.isl 1 [] true), (.str [])] [(1, 1, (.c (.str [97])))], none⟩,
   ⟨some 13, .call 6 [(.t 10), (.t 11), (.t 12), (.c (.int .i64 1))], none⟩,
   ⟨some 9, .mv (.t 13), none⟩,
   ⟨some 14, .ext 0 (.t 9), none⟩,
   ⟨some 15, .ext 1 (.t 9), none⟩,
   ⟨some 2, .mv (.t 14), none⟩,
   ⟨some 3, .mv (.t 15), none⟩])
 (.seq (.region [⟨some 17, .mv (.t 1), none⟩,
   ⟨some 18, .build [(.int .i64 0), (.int .i64 0), (.int .i64 0)] [(1, 1, (.c (.int .i64 3)))], none⟩,
   ⟨some 19, .build [(.isl 1 [] true), (.str [])] [(1, 1, (.c (.str [97])))], none⟩,
   ⟨some 20, .call 6 [(.t 17), (.t 18), (.t 19), (.c (.int .i64 1))], none⟩,
   ⟨some 16, .mv (.t 20), none⟩,
   ⟨some 21, .ext 0 (.t 16), none⟩,
   ⟨some 22, .ext 1 (.t 16), none⟩,
   ⟨some 4, .mv (.t 21), none⟩,
   ⟨some 5, .mv (.t 22), none⟩])
 (.seq (.region [⟨some 23, .mv (.t 2), none⟩,
   ⟨some 24, .mv (.t 23), none⟩,
   ⟨some 25, .mv (.t 3), some (24, true)⟩,
   ⟨some 26, .bin .eql (.t 25) (.c (.int .i64 0)), some (24, true)⟩,
   ⟨some 27, .pick (.t 24) (.t 26) (.c (.bool false)), none⟩,
   ⟨some 28, .mv (.t 27), none⟩,
   ⟨some 29, .mv (.t 4), some (28, true)⟩,
   ⟨some 30, .un .not (.t 29), some (28, true)⟩,
   ⟨some 31, .pick (.t 28) (.t 30) (.c (.bool false)), none⟩,
   ⟨some 32, .mv (.t 31), none⟩,
   ⟨some 33, .mv (.t 5), some (32, true)⟩,
   ⟨some 34, .bin .eql (.t 33) (.c (.int .i64 0)), some (32, true)⟩,
   ⟨some 35, .pick (.t 32) (.t 34) (.c (.bool false)), none⟩,
   ⟨some 36, .mv (.t 35), none⟩,
   ⟨some 37, .mv (.t 1), some (36, true)⟩,
   ⟨some 38, .call 8 [(.t 37)], some (36, true)⟩,
   ⟨some 39, .bin .eql (.t 38) (.c (.int .i64 1)), some (36, true)⟩,
   ⟨some 40, .pick (.t 36) (.t 39) (.c (.bool false)), none⟩,
   ⟨some 41, .mv (.t 40), none⟩,
   ⟨some 42, .mv (.t 1), some (41, true)⟩,
   ⟨some 43, .call 11 [(.t 42), (.c (.int .i64 1))], some (41, true)⟩,
   ⟨some 44, .bin .eql (.t 43) (.c (.int .i64 1)), some (41, true)⟩,
   ⟨some 45, .pick (.t 41) (.t 44) (.c (.bool false)), none⟩,
   ⟨some 46, .mv (.t 45), none⟩,
   ⟨some 47, .mv (.t 1), some (46, true)⟩,
   ⟨some 48, .call 11 [(.t 47), (.c (.int .i64 2))], some (46, true)⟩,
   ⟨some 49, .bin .eql (.t 48) (.c (.int .i64 0)), some (46, true)⟩,
   ⟨some 50, .pick (.t 46) (.t 49) (.c (.bool false)), none⟩,
   ⟨some 0, .mv (.t 50), none⟩])
 .ret))))))
def f4_lay : Lay := ⟨51, []⟩
def f4_res : List LRes := [.t 0]
def f4_L : LFn := ⟨0, f4_lay, f4_c0, f4_res⟩
theorem f4_low : lowFn Try.prog [] 4 = some f4_L := by kernel_rfl
theorem f4_fok : FnOk Try.prog 4 := ⟨_, Try.func4, rfl, rfl⟩
noncomputable def S_glossatorlaw3_storeExample (m : Option Nat) : Option Bool :=
  (S_inputs_New m).bind fun v1 =>
  (S_inputs_Store_Set m (G_QKey.mk 0 3 0) (G_QValue.mk ([] : List Int) ([97] : List UInt8)) 1 0 0 0 0 ([] : List (G_QKey × G_cell))).bind fun v2 =>
  (S_inputs_Store_Set m (G_QKey.mk 0 3 0) (G_QValue.mk ([] : List Int) ([97] : List UInt8)) 1 v2.2.2.1 v2.2.2.2.1 v2.2.2.2.2.1 v2.2.2.2.2.2.1 v2.2.2.2.2.2.2).bind fun v3 =>
  (if ((((v2.1 && (v2.2.1 == 0)) && (!v3.1)) && (v3.2.1 == 0)) == true) = true then S_inputs_Store_Revision m v3.2.2.1 v3.2.2.2.1 v3.2.2.2.2.1 v3.2.2.2.2.2.1 v3.2.2.2.2.2.2 else some default).bind fun v4 =>
  (if (((((v2.1 && (v2.2.1 == 0)) && (!v3.1)) && (v3.2.1 == 0)) && (v4 == 1)) == true) = true then S_inputs_Store_LastChange m 1 v3.2.2.1 v3.2.2.2.1 v3.2.2.2.2.1 v3.2.2.2.2.2.1 v3.2.2.2.2.2.2 else some default).bind fun v5 =>
  (if ((((((v2.1 && (v2.2.1 == 0)) && (!v3.1)) && (v3.2.1 == 0)) && (v4 == 1)) && (v5 == 1)) == true) = true then S_inputs_Store_LastChange m 2 v3.2.2.1 v3.2.2.2.1 v3.2.2.2.2.1 v3.2.2.2.2.2.1 v3.2.2.2.2.2.2 else some default).bind fun v6 =>
  some ((((((v2.1 && (v2.2.1 == 0)) && (!v3.1)) && (v3.2.1 == 0)) && (v4 == 1)) && (v5 == 1)) && (v6 == 0))

def f4_Q (o : Bool) : Exit → Env → AHeap → Nat → Prop := FinK f4_res (PureEnd (.bool o))

theorem f4_start {m : Option Nat} {o : Bool} (h : S_glossatorlaw3_storeExample m = some o) : LWp Try.prog f4_lay 0 f4_c0 (f4_Q o) (initEnv 0 []) [] 0 := by
  unfold S_glossatorlaw3_storeExample at h
  refine seqI ?_
  refine regI ?_
  refine seqI ?_
  refine regI ?_
  obtain ⟨v1, h1, h⟩ := bind_some h
  refine bcall (k := 3) (m := 2) (L' := [((0, 0), .one [.int .i64 0, .int .i64 0, .int .i64 0, .int .i64 0, .map (1, 0)]), ((1, 0), .amap (([] : List (G_QKey × G_cell)).map (em a_QKey a_cell)))]) (rest := []) (R' := .ptr (0, 0) 0 0) [] (f5b0_ok h1) rfl rfl rfl trivial trivial rfl (And.intro rfl (And.intro rfl (And.intro rfl (And.intro (map_ren a_QKey a_cell a_QKey_nid a_cell_nid ([] : List (G_QKey × G_cell))) trivial)))) rfl ?_
  refine seqI ?_
  refine seqI ?_
  refine regI ?_
  refine condI (v := false) rfl trivial (fun hc => Bool.noConfusion hc) (fun hc => ?_)
  refine skipI ?_
  refine seqI ?_
  refine regI ?_
  obtain ⟨v2, h2, h⟩ := bind_some h
  refine bcall (k := 3) (m := 0) (L' := [((0, 0), .one [.int .i64 v2.2.2.1, .int .i64 v2.2.2.2.1, .int .i64 v2.2.2.2.2.1, .int .i64 v2.2.2.2.2.2.1, .map (1, 0)]), ((1, 0), .amap (v2.2.2.2.2.2.2.map (em a_QKey a_cell)))]) (rest := []) (R' := .tup [.bool v2.1, .int .i64 v2.2.1]) [((0, 0), (0, 0)), ((0, 1), (1, 0))] (f6b0_ok h2) rfl rfl rfl (And.intro (Vw.ptr _ _ _ _ rfl) (And.intro (Vw.same _ rfl) (And.intro (Vw.aggL (And.intro (Vw.islF _ _ _) (And.intro (Vw.same _ rfl) trivial))) (And.intro (Vw.same _ rfl) trivial)))) (And.intro (h0I (0, 0) rfl rfl (BVw.oneL (And.intro (Vw.same _ rfl) (And.intro (Vw.same _ rfl) (And.intro (Vw.same _ rfl) (And.intro (Vw.same _ rfl) (And.intro (Vw.map _ _ rfl) trivial))))))) (And.intro (h0I (1, 0) rfl rfl (BVw.ofMap a_QKey a_cell a_cell_nid ([] : List (G_QKey × G_cell)))) trivial)) (nid_ren _ rfl) (And.intro rfl (And.intro rfl (And.intro rfl (And.intro (map_ren a_QKey a_cell a_QKey_nid a_cell_nid v2.2.2.2.2.2.2) trivial)))) rfl ?_
  show yops _ _ _ [(13, .tup [.bool v2.1, .int .i64 v2.2.1]), (12, .agg [.isl 1 (([] : List Int).map e_i64) true, .str ([97] : List UInt8)]), (11, .agg [.int .i64 0, .int .i64 3, .int .i64 0]), (10, .ptr (0, 0) 0 0), (8, .bool false), (7, .ptr (0, 0) 0 0), (1, .ptr (0, 0) 0 0), (6, .ptr (0, 0) 0 0), (0, .bool false)] _ _
  refine LWp.sim (e := [(1, .ptr (0, 0) 0 0), (2, .bool v2.1), (3, .int .i64 v2.2.1)]) (L := [((0, 0), .one [.int .i64 v2.2.2.1, .int .i64 v2.2.2.2.1, .int .i64 v2.2.2.2.2.1, .int .i64 v2.2.2.2.2.2.1, .map (1, 0)]), ((1, 0), .amap (v2.2.2.2.2.2.2.map (em a_QKey a_cell)))]) (n := 2) (simI (M := [((0, 0), (0, 0)), ((1, 0), (1, 0))]) rfl (And.intro (Vw.ptr _ _ _ _ rfl) (And.intro (Vw.same _ rfl) (And.intro (Vw.same _ rfl) trivial))) (And.intro (And.intro rfl (BVw.oneL (And.intro (Vw.same _ rfl) (And.intro (Vw.same _ rfl) (And.intro (Vw.same _ rfl) (And.intro (Vw.same _ rfl) (And.intro (Vw.map _ _ rfl) trivial))))))) (And.intro (And.intro rfl (BVw.ofMap a_QKey a_cell a_cell_nid v2.2.2.2.2.2.2)) trivial))) ?_
  refine seqI ?_
  refine regI ?_
  obtain ⟨v3, h3, h⟩ := bind_some h
  refine bcall (k := 3) (m := 0) (L' := [((0, 0), .one [.int .i64 v3.2.2.1, .int .i64 v3.2.2.2.1, .int .i64 v3.2.2.2.2.1, .int .i64 v3.2.2.2.2.2.1, .map (1, 0)]), ((1, 0), .amap (v3.2.2.2.2.2.2.map (em a_QKey a_cell)))]) (rest := []) (R' := .tup [.bool v3.1, .int .i64 v3.2.1]) [((0, 0), (0, 0)), ((0, 1), (1, 0))] (f6b0_ok h3) rfl rfl rfl (And.intro (Vw.ptr _ _ _ _ rfl) (And.intro (Vw.same _ rfl) (And.intro (Vw.aggL (And.intro (Vw.islF _ _ _) (And.intro (Vw.same _ rfl) trivial))) (And.intro (Vw.same _ rfl) trivial)))) (And.intro (h0I (0, 0) rfl rfl (BVw.oneL (And.intro (Vw.same _ rfl) (And.intro (Vw.same _ rfl) (And.intro (Vw.same _ rfl) (And.intro (Vw.same _ rfl) (And.intro (Vw.map _ _ rfl) trivial))))))) (And.intro (h0I (1, 0) rfl rfl (BVw.ofMap a_QKey a_cell a_cell_nid v2.2.2.2.2.2.2)) trivial)) (nid_ren _ rfl) (And.intro rfl (And.intro rfl (And.intro rfl (And.intro (map_ren a_QKey a_cell a_QKey_nid a_cell_nid v3.2.2.2.2.2.2) trivial)))) rfl ?_
  refine LWp.sim (e := [(1, .ptr (0, 0) 0 0), (2, .bool v2.1), (3, .int .i64 v2.2.1), (4, .bool v3.1), (5, .int .i64 v3.2.1)]) (L := [((0, 0), .one [.int .i64 v3.2.2.1, .int .i64 v3.2.2.2.1, .int .i64 v3.2.2.2.2.1, .int .i64 v3.2.2.2.2.2.1, .map (1, 0)]), ((1, 0), .amap (v3.2.2.2.2.2.2.map (em a_QKey a_cell)))]) (n := 2) (simI (M := [((0, 0), (0, 0)), ((1, 0), (1, 0))]) rfl (And.intro (Vw.ptr _ _ _ _ rfl) (And.intro (Vw.same _ rfl) (And.intro (Vw.same _ rfl) (And.intro (Vw.same _ rfl) (And.intro (Vw.same _ rfl) trivial))))) (And.intro (And.intro rfl (BVw.oneL (And.intro (Vw.same _ rfl) (And.intro (Vw.same _ rfl) (And.intro (Vw.same _ rfl) (And.intro (Vw.same _ rfl) (And.intro (Vw.map _ _ rfl) trivial))))))) (And.intro (And.intro rfl (BVw.ofMap a_QKey a_cell a_cell_nid v3.2.2.2.2.2.2)) trivial))) ?_
  refine seqI ?_
  refine regI ?_
  refine And.intro (fun hp => hp) ?_
  refine And.intro (fun hc => (bqt hc)) ?_
  show yops _ _ _ [(27, .bool (v2.1 && (v2.2.1 == 0))), (26, .cnd (v2.1 == true) (.bool (v2.2.1 == 0))), (25, .cnd (v2.1 == true) (.int .i64 v2.2.1)), (24, .bool v2.1), (23, .bool v2.1), (1, .ptr (0, 0) 0 0), (2, .bool v2.1), (3, .int .i64 v2.2.1), (4, .bool v3.1), (5, .int .i64 v3.2.1)] _ _
  refine And.intro (fun hp => hp) ?_
  refine And.intro (fun hc => (bqt hc)) ?_
  refine And.intro (fun hp => hp) ?_
  show yops _ _ _ [(34, .cnd (((v2.1 && (v2.2.1 == 0)) && (!v3.1)) == true) (.bool (v3.2.1 == 0))), (33, .cnd (((v2.1 && (v2.2.1 == 0)) && (!v3.1)) == true) (.int .i64 v3.2.1)), (32, .bool ((v2.1 && (v2.2.1 == 0)) && (!v3.1))), (31, .bool ((v2.1 && (v2.2.1 == 0)) && (!v3.1))), (30, .cnd ((v2.1 && (v2.2.1 == 0)) == true) (.bool (!v3.1))), (29, .cnd ((v2.1 && (v2.2.1 == 0)) == true) (.bool v3.1)), (28, .bool (v2.1 && (v2.2.1 == 0))), (27, .bool (v2.1 && (v2.2.1 == 0))), (26, .cnd (v2.1 == true) (.bool (v2.2.1 == 0))), (25, .cnd (v2.1 == true) (.int .i64 v2.2.1)), (24, .bool v2.1), (23, .bool v2.1), (1, .ptr (0, 0) 0 0), (2, .bool v2.1), (3, .int .i64 v2.2.1), (4, .bool v3.1), (5, .int .i64 v3.2.1)] _ _
  refine And.intro (fun hc => (bqt hc)) ?_
  obtain ⟨v4, h4, h⟩ := bind_some h
  refine Or.inl (Exists.intro (.int .i64 v4) (And.intro (fun hp => And.intro hp (ACalls.same rfl (bcall (k := 3) (m := 0) (L' := [((0, 0), .one [.int .i64 v3.2.2.1, .int .i64 v3.2.2.2.1, .int .i64 v3.2.2.2.2.1, .int .i64 v3.2.2.2.2.2.1, .map (1, 0)]), ((1, 0), .amap (v3.2.2.2.2.2.2.map (em a_QKey a_cell)))]) (rest := []) (R' := .int .i64 v4) [((0, 0), (0, 0)), ((0, 1), (1, 0))] (f8b0_ok (ite_tt hp h4)) rfl rfl rfl (And.intro (Vw.ptr _ _ _ _ rfl) trivial) (And.intro (h0I (0, 0) rfl rfl (BVw.oneL (And.intro (Vw.same _ rfl) (And.intro (Vw.same _ rfl) (And.intro (Vw.same _ rfl) (And.intro (Vw.same _ rfl) (And.intro (Vw.map _ _ rfl) trivial))))))) (And.intro (h0I (1, 0) rfl rfl (BVw.ofMap a_QKey a_cell a_cell_nid v3.2.2.2.2.2.2)) trivial)) (nid_ren _ rfl) (And.intro rfl (And.intro rfl (And.intro rfl (And.intro (map_ren a_QKey a_cell a_QKey_nid a_cell_nid v3.2.2.2.2.2.2) trivial)))) rfl (And.intro rfl (HeapTo.get (And.intro (And.intro rfl (BVw.oneL (And.intro (Vw.same _ rfl) (And.intro (Vw.same _ rfl) (And.intro (Vw.same _ rfl) (And.intro (Vw.same _ rfl) (And.intro (Vw.map _ _ rfl) trivial))))))) (And.intro (And.intro rfl (BVw.ofMap a_QKey a_cell a_cell_nid v3.2.2.2.2.2.2)) trivial))))))) ?_))
  refine And.intro (fun hp => hp) ?_
  show yops _ _ _ [(39, .cnd ((((v2.1 && (v2.2.1 == 0)) && (!v3.1)) && (v3.2.1 == 0)) == true) (.bool (v4 == 1))), (38, .cnd ((((v2.1 && (v2.2.1 == 0)) && (!v3.1)) && (v3.2.1 == 0)) == true) (.int .i64 v4)), (37, .cnd ((((v2.1 && (v2.2.1 == 0)) && (!v3.1)) && (v3.2.1 == 0)) == true) (.ptr (0, 0) 0 0)), (36, .bool (((v2.1 && (v2.2.1 == 0)) && (!v3.1)) && (v3.2.1 == 0))), (35, .bool (((v2.1 && (v2.2.1 == 0)) && (!v3.1)) && (v3.2.1 == 0))), (34, .cnd (((v2.1 && (v2.2.1 == 0)) && (!v3.1)) == true) (.bool (v3.2.1 == 0))), (33, .cnd (((v2.1 && (v2.2.1 == 0)) && (!v3.1)) == true) (.int .i64 v3.2.1)), (32, .bool ((v2.1 && (v2.2.1 == 0)) && (!v3.1))), (31, .bool ((v2.1 && (v2.2.1 == 0)) && (!v3.1))), (30, .cnd ((v2.1 && (v2.2.1 == 0)) == true) (.bool (!v3.1))), (29, .cnd ((v2.1 && (v2.2.1 == 0)) == true) (.bool v3.1)), (28, .bool (v2.1 && (v2.2.1 == 0))), (27, .bool (v2.1 && (v2.2.1 == 0))), (26, .cnd (v2.1 == true) (.bool (v2.2.1 == 0))), (25, .cnd (v2.1 == true) (.int .i64 v2.2.1)), (24, .bool v2.1), (23, .bool v2.1), (1, .ptr (0, 0) 0 0), (2, .bool v2.1), (3, .int .i64 v2.2.1), (4, .bool v3.1), (5, .int .i64 v3.2.1)] _ _
  refine And.intro (fun hc => (bqt hc)) ?_
  obtain ⟨v5, h5, h⟩ := bind_some h
  refine Or.inl (Exists.intro (.int .i64 v5) (And.intro (fun hp => And.intro hp (ACalls.same rfl (bcall (k := 3) (m := 0) (L' := [((0, 0), .one [.int .i64 v3.2.2.1, .int .i64 v3.2.2.2.1, .int .i64 v3.2.2.2.2.1, .int .i64 v3.2.2.2.2.2.1, .map (1, 0)]), ((1, 0), .amap (v3.2.2.2.2.2.2.map (em a_QKey a_cell)))]) (rest := []) (R' := .int .i64 v5) [((0, 0), (0, 0)), ((0, 1), (1, 0))] (f11b0_ok (ite_tt hp h5)) rfl rfl rfl (And.intro (Vw.ptr _ _ _ _ rfl) (And.intro (Vw.same _ rfl) trivial)) (And.intro (h0I (0, 0) rfl rfl (BVw.oneL (And.intro (Vw.same _ rfl) (And.intro (Vw.same _ rfl) (And.intro (Vw.same _ rfl) (And.intro (Vw.same _ rfl) (And.intro (Vw.map _ _ rfl) trivial))))))) (And.intro (h0I (1, 0) rfl rfl (BVw.ofMap a_QKey a_cell a_cell_nid v3.2.2.2.2.2.2)) trivial)) (nid_ren _ rfl) (And.intro rfl (And.intro rfl (And.intro rfl (And.intro (map_ren a_QKey a_cell a_QKey_nid a_cell_nid v3.2.2.2.2.2.2) trivial)))) rfl (And.intro rfl (HeapTo.get (And.intro (And.intro rfl (BVw.oneL (And.intro (Vw.same _ rfl) (And.intro (Vw.same _ rfl) (And.intro (Vw.same _ rfl) (And.intro (Vw.same _ rfl) (And.intro (Vw.map _ _ rfl) trivial))))))) (And.intro (And.intro rfl (BVw.ofMap a_QKey a_cell a_cell_nid v3.2.2.2.2.2.2)) trivial))))))) ?_))
  refine And.intro (fun hp => hp) ?_
  show yops _ _ _ [(44, .cnd (((((v2.1 && (v2.2.1 == 0)) && (!v3.1)) && (v3.2.1 == 0)) && (v4 == 1)) == true) (.bool (v5 == 1))), (43, .cnd (((((v2.1 && (v2.2.1 == 0)) && (!v3.1)) && (v3.2.1 == 0)) && (v4 == 1)) == true) (.int .i64 v5)), (42, .cnd (((((v2.1 && (v2.2.1 == 0)) && (!v3.1)) && (v3.2.1 == 0)) && (v4 == 1)) == true) (.ptr (0, 0) 0 0)), (41, .bool ((((v2.1 && (v2.2.1 == 0)) && (!v3.1)) && (v3.2.1 == 0)) && (v4 == 1))), (40, .bool ((((v2.1 && (v2.2.1 == 0)) && (!v3.1)) && (v3.2.1 == 0)) && (v4 == 1))), (39, .cnd ((((v2.1 && (v2.2.1 == 0)) && (!v3.1)) && (v3.2.1 == 0)) == true) (.bool (v4 == 1))), (38, .cnd ((((v2.1 && (v2.2.1 == 0)) && (!v3.1)) && (v3.2.1 == 0)) == true) (.int .i64 v4)), (37, .cnd ((((v2.1 && (v2.2.1 == 0)) && (!v3.1)) && (v3.2.1 == 0)) == true) (.ptr (0, 0) 0 0)), (36, .bool (((v2.1 && (v2.2.1 == 0)) && (!v3.1)) && (v3.2.1 == 0))), (35, .bool (((v2.1 && (v2.2.1 == 0)) && (!v3.1)) && (v3.2.1 == 0))), (34, .cnd (((v2.1 && (v2.2.1 == 0)) && (!v3.1)) == true) (.bool (v3.2.1 == 0))), (33, .cnd (((v2.1 && (v2.2.1 == 0)) && (!v3.1)) == true) (.int .i64 v3.2.1)), (32, .bool ((v2.1 && (v2.2.1 == 0)) && (!v3.1))), (31, .bool ((v2.1 && (v2.2.1 == 0)) && (!v3.1))), (30, .cnd ((v2.1 && (v2.2.1 == 0)) == true) (.bool (!v3.1))), (29, .cnd ((v2.1 && (v2.2.1 == 0)) == true) (.bool v3.1)), (28, .bool (v2.1 && (v2.2.1 == 0))), (27, .bool (v2.1 && (v2.2.1 == 0))), (26, .cnd (v2.1 == true) (.bool (v2.2.1 == 0))), (25, .cnd (v2.1 == true) (.int .i64 v2.2.1)), (24, .bool v2.1), (23, .bool v2.1), (1, .ptr (0, 0) 0 0), (2, .bool v2.1), (3, .int .i64 v2.2.1), (4, .bool v3.1), (5, .int .i64 v3.2.1)] _ _
  refine And.intro (fun hc => (bqt hc)) ?_
  obtain ⟨v6, h6, h⟩ := bind_some h
  refine Or.inl (Exists.intro (.int .i64 v6) (And.intro (fun hp => And.intro hp (ACalls.same rfl (bcall (k := 3) (m := 0) (L' := [((0, 0), .one [.int .i64 v3.2.2.1, .int .i64 v3.2.2.2.1, .int .i64 v3.2.2.2.2.1, .int .i64 v3.2.2.2.2.2.1, .map (1, 0)]), ((1, 0), .amap (v3.2.2.2.2.2.2.map (em a_QKey a_cell)))]) (rest := []) (R' := .int .i64 v6) [((0, 0), (0, 0)), ((0, 1), (1, 0))] (f11b0_ok (ite_tt hp h6)) rfl rfl rfl (And.intro (Vw.ptr _ _ _ _ rfl) (And.intro (Vw.same _ rfl) trivial)) (And.intro (h0I (0, 0) rfl rfl (BVw.oneL (And.intro (Vw.same _ rfl) (And.intro (Vw.same _ rfl) (And.intro (Vw.same _ rfl) (And.intro (Vw.same _ rfl) (And.intro (Vw.map _ _ rfl) trivial))))))) (And.intro (h0I (1, 0) rfl rfl (BVw.ofMap a_QKey a_cell a_cell_nid v3.2.2.2.2.2.2)) trivial)) (nid_ren _ rfl) (And.intro rfl (And.intro rfl (And.intro rfl (And.intro (map_ren a_QKey a_cell a_QKey_nid a_cell_nid v3.2.2.2.2.2.2) trivial)))) rfl (And.intro rfl (HeapTo.get (And.intro (And.intro rfl (BVw.oneL (And.intro (Vw.same _ rfl) (And.intro (Vw.same _ rfl) (And.intro (Vw.same _ rfl) (And.intro (Vw.same _ rfl) (And.intro (Vw.map _ _ rfl) trivial))))))) (And.intro (And.intro rfl (BVw.ofMap a_QKey a_cell a_cell_nid v3.2.2.2.2.2.2)) trivial))))))) ?_))
  refine And.intro (fun hp => hp) ?_
  show yops _ _ _ [(49, .cnd ((((((v2.1 && (v2.2.1 == 0)) && (!v3.1)) && (v3.2.1 == 0)) && (v4 == 1)) && (v5 == 1)) == true) (.bool (v6 == 0))), (48, .cnd ((((((v2.1 && (v2.2.1 == 0)) && (!v3.1)) && (v3.2.1 == 0)) && (v4 == 1)) && (v5 == 1)) == true) (.int .i64 v6)), (47, .cnd ((((((v2.1 && (v2.2.1 == 0)) && (!v3.1)) && (v3.2.1 == 0)) && (v4 == 1)) && (v5 == 1)) == true) (.ptr (0, 0) 0 0)), (46, .bool (((((v2.1 && (v2.2.1 == 0)) && (!v3.1)) && (v3.2.1 == 0)) && (v4 == 1)) && (v5 == 1))), (45, .bool (((((v2.1 && (v2.2.1 == 0)) && (!v3.1)) && (v3.2.1 == 0)) && (v4 == 1)) && (v5 == 1))), (44, .cnd (((((v2.1 && (v2.2.1 == 0)) && (!v3.1)) && (v3.2.1 == 0)) && (v4 == 1)) == true) (.bool (v5 == 1))), (43, .cnd (((((v2.1 && (v2.2.1 == 0)) && (!v3.1)) && (v3.2.1 == 0)) && (v4 == 1)) == true) (.int .i64 v5)), (42, .cnd (((((v2.1 && (v2.2.1 == 0)) && (!v3.1)) && (v3.2.1 == 0)) && (v4 == 1)) == true) (.ptr (0, 0) 0 0)), (41, .bool ((((v2.1 && (v2.2.1 == 0)) && (!v3.1)) && (v3.2.1 == 0)) && (v4 == 1))), (40, .bool ((((v2.1 && (v2.2.1 == 0)) && (!v3.1)) && (v3.2.1 == 0)) && (v4 == 1))), (39, .cnd ((((v2.1 && (v2.2.1 == 0)) && (!v3.1)) && (v3.2.1 == 0)) == true) (.bool (v4 == 1))), (38, .cnd ((((v2.1 && (v2.2.1 == 0)) && (!v3.1)) && (v3.2.1 == 0)) == true) (.int .i64 v4)), (37, .cnd ((((v2.1 && (v2.2.1 == 0)) && (!v3.1)) && (v3.2.1 == 0)) == true) (.ptr (0, 0) 0 0)), (36, .bool (((v2.1 && (v2.2.1 == 0)) && (!v3.1)) && (v3.2.1 == 0))), (35, .bool (((v2.1 && (v2.2.1 == 0)) && (!v3.1)) && (v3.2.1 == 0))), (34, .cnd (((v2.1 && (v2.2.1 == 0)) && (!v3.1)) == true) (.bool (v3.2.1 == 0))), (33, .cnd (((v2.1 && (v2.2.1 == 0)) && (!v3.1)) == true) (.int .i64 v3.2.1)), (32, .bool ((v2.1 && (v2.2.1 == 0)) && (!v3.1))), (31, .bool ((v2.1 && (v2.2.1 == 0)) && (!v3.1))), (30, .cnd ((v2.1 && (v2.2.1 == 0)) == true) (.bool (!v3.1))), (29, .cnd ((v2.1 && (v2.2.1 == 0)) == true) (.bool v3.1)), (28, .bool (v2.1 && (v2.2.1 == 0))), (27, .bool (v2.1 && (v2.2.1 == 0))), (26, .cnd (v2.1 == true) (.bool (v2.2.1 == 0))), (25, .cnd (v2.1 == true) (.int .i64 v2.2.1)), (24, .bool v2.1), (23, .bool v2.1), (1, .ptr (0, 0) 0 0), (2, .bool v2.1), (3, .int .i64 v2.2.1), (4, .bool v3.1), (5, .int .i64 v3.2.1)] _ _
  refine And.intro (fun hc => (bqt hc)) ?_
  refine LWp.sim (e := [(0, .bool ((((((v2.1 && (v2.2.1 == 0)) && (!v3.1)) && (v3.2.1 == 0)) && (v4 == 1)) && (v5 == 1)) && (v6 == 0)))]) (L := []) (n := 0) (simI (M := []) rfl (And.intro (Vw.same _ rfl) trivial) trivial) ?_
  refine retI ?_
  cases h
  exact And.intro trivial (And.intro rfl (Vw.same _ rfl))

theorem f4_ok {m : Option Nat} {o : Bool} (h : S_glossatorlaw3_storeExample m = some o) : PFn Try.prog 4 [] (.bool o) := PFn.ofFnW (L := f4_L) f4_low f4_fok (Nat.le_of_ble_eq_true rfl) rfl (f4_start h)

def f14_c1 : LCode := (.seq (.region [⟨some 15, .bin .lss (.t 14) (.t 13), none⟩])
 (.seq (.cond (.t 15)
  .skip
  (.exit 0))
 (.seq (.block 1
  (.seq (.region [⟨some 16, .mv (.t 14), none⟩,
    ⟨some 17, .iaddr 1 (.t 12) (.t 14), none⟩,
    ⟨some 18, .load false 1 (.t 17), none⟩,
    ⟨some 5, .mv (.t 16), none⟩,
    ⟨some 6, .mv (.t 18), none⟩])
  (.seq (.region [⟨some 19, .mv (.t 6), none⟩,
    ⟨some 20, .mv (.t 1), none⟩,
    ⟨some 21, .mv (.t 5), none⟩,
    ⟨some 22, .iaddr 1 (.t 20) (.t 21), none⟩,
    ⟨some 23, .load false 1 (.t 22), none⟩,
    ⟨some 24, .bin .neq (.t 19) (.t 23), none⟩])
  (.cond (.t 24)
   (.seq (.region [⟨some 4, .mv (.c (.bool false)), none⟩])
   .ret)
   .skip))))
 (.region [⟨some 25, .bin .add (.t 14) (.c (.int .i64 1)), none⟩,
   ⟨some 14, .mv (.t 25), none⟩]))))
def f14_c0 : LCode := (.seq (.region [⟨some 4, .mv (.c (.bool true)), none⟩])
 .ret)
def f14_c2 : LCode := (.seq (.region [⟨some 4, .mv (.c (.bool false)), none⟩])
 (.seq (.seq (.region [⟨some 7, .mv (.t 0), none⟩,
   ⟨some 8, .len false (.t 7), none⟩,
   ⟨some 9, .mv (.t 1), none⟩,
   ⟨some 10, .len false (.t 9), none⟩,
   ⟨some 11, .bin .neq (.t 8) (.t 10), none⟩])
 (.cond (.t 11)
  (.seq (.region [⟨some 4, .mv (.c (.bool false)), none⟩])
  .ret)
  .skip))
 (.seq (.seq (.region [⟨some 12, .mv (.t 0), none⟩,
   ⟨some 13, .len false (.t 12), none⟩,
   ⟨some 14, .mv (.c (.int .i64 0)), none⟩])
 (.block 0
  (.loop
   f14_c1)))
 f14_c0)))
def f14_lay : Lay := ⟨26, []⟩
def f14_res : List LRes := [.t 4]
def f14_L : LFn := ⟨2, f14_lay, f14_c2, f14_res⟩
theorem f14_low : lowFn Try.prog [] 14 = some f14_L := by kernel_rfl
theorem f14_fok : FnOk Try.prog 14 := ⟨_, Try.func14, rfl, rfl⟩
def f14_Q (a0 : List Int) (a1 : List Int) (o : Bool) : Exit → Env → AHeap → Nat → Prop := FinK f14_res (PureEnd (.bool o))

def f14_L1_env (a0 : List Int) (a1 : List Int) (s : Int) : Env := [(1, .isl 1 (a1.map e_i64) false), (12, .isl 1 (a0.map e_i64) false), (13, .int .i64 ((a0.map e_i64).length : Int)), (14, .int .i64 s)]
def f14_L1_hp (a0 : List Int) (a1 : List Int) (s : Int) : AHeap := []
def f14_L1_Q (a0 : List Int) (a1 : List Int) (o : Bool) : Exit → Env → AHeap → Nat → Prop := (QBlock 0 (QSeq Try.prog f14_lay 0 f14_c0 (f14_Q a0 a1 o)))

noncomputable def S_glossatorref3_Equal_int_j1 (m : Option Nat) : Option Bool :=
  some true

noncomputable def S_glossatorref3_Equal_int_b1 (m : Option Nat) (a0 : List Int) (a1 : List Int) (v1 : Int) : Option (Int ⊕ Bool) :=
  if (decide (v1 < ((a0.map e_i64).length : Int))) = true then
    if (0 : Int) ≤ v1 ∧ v1 < ((a0.map e_i64).length : Int) then
    if (0 : Int) ≤ v1 ∧ v1 < ((a1.map e_i64).length : Int) then
    if ((a0.getD v1.toNat default) != (a1.getD v1.toNat default)) = true then
      Option.map Sum.inr (
        some false)
    else
      some (.inl (W (v1 + 1)))
    else none
    else none
  else
    Option.map Sum.inr (
      S_glossatorref3_Equal_int_j1 m)

noncomputable def S_glossatorref3_Equal_int_l1 (m : Option Nat) (a0 : List Int) (a1 : List Int) (v1 : Int) : Option Bool := loopM m (fun (s : Int) => S_glossatorref3_Equal_int_b1 m a0 a1 s) v1

theorem f14_j1_ok {a0 : List Int} {a1 : List Int} {m : Option Nat} {o : Bool} (h : S_glossatorref3_Equal_int_j1 m = some o) :
    LWp Try.prog f14_lay 0 f14_c0 (f14_Q a0 a1 o) [] [] 0 := by
  unfold S_glossatorref3_Equal_int_j1 at h
  refine seqI ?_
  refine regI ?_
  refine retI ?_
  cases h
  exact And.intro trivial (And.intro rfl (Vw.same _ rfl))

theorem f14_L1_bok {a0 : List Int} {a1 : List Int} {v1 : Int} {m : Option Nat} {o : Int ⊕ Bool} (h : S_glossatorref3_Equal_int_b1 m a0 a1 v1 = some o) :
    LWp Try.prog f14_lay 0 f14_c1 (BodyQ 0 0 (f14_L1_env a0 a1) (f14_L1_hp a0 a1) (f14_L1_Q a0 a1) o) [(1, .isl 1 (a1.map e_i64) false), (12, .isl 1 (a0.map e_i64) false), (13, .int .i64 ((a0.map e_i64).length : Int)), (14, .int .i64 v1)] [] 0 := by
  unfold S_glossatorref3_Equal_int_b1 at h
  refine seqI ?_
  refine regI ?_
  refine seqI ?_
  refine condI (v := (decide (v1 < ((a0.map e_i64).length : Int)))) rfl trivial (fun h10 => ?_) (fun h10 => ?_)
  · have h := ite_tt h10 h
    refine skipI ?_
    refine seqI ?_
    refine blockI ?_
    refine seqI ?_
    refine regI ?_
    obtain ⟨h11, h⟩ := ite_some h
    refine And.intro h11 ?_
    refine Exists.intro (e_i64 (a0.getD v1.toNat default)) (And.intro (getD_enc e_i64 _ _ (idx_ltL e_i64 h11)) (And.intro (And.intro (idx_lt h11) (Nat.le_of_ble_eq_true rfl)) ?_))
    refine seqI ?_
    refine regI ?_
    obtain ⟨h12, h⟩ := ite_some h
    refine And.intro h12 ?_
    show yops _ _ _ [(22, .iptr 1 (a1.map e_i64) v1.toNat 0), (21, .int .i64 v1), (20, .isl 1 (a1.map e_i64) false), (19, .int .i64 (a0.getD v1.toNat default)), (6, .int .i64 (a0.getD v1.toNat default)), (5, .int .i64 v1), (18, .int .i64 (a0.getD v1.toNat default)), (17, .iptr 1 (a0.map e_i64) v1.toNat 0), (16, .int .i64 v1), (15, .bool (decide (v1 < ((a0.map e_i64).length : Int)))), (1, .isl 1 (a1.map e_i64) false), (12, .isl 1 (a0.map e_i64) false), (13, .int .i64 ((a0.map e_i64).length : Int)), (14, .int .i64 v1)] _ _
    refine Exists.intro (e_i64 (a1.getD v1.toNat default)) (And.intro (getD_enc e_i64 _ _ (idx_ltL e_i64 h12)) (And.intro (And.intro (idx_lt h12) (Nat.le_of_ble_eq_true rfl)) ?_))
    refine LWp.sim (e := [(1, .isl 1 (a1.map e_i64) false), (12, .isl 1 (a0.map e_i64) false), (13, .int .i64 ((a0.map e_i64).length : Int)), (14, .int .i64 v1), (24, .bool ((a0.getD v1.toNat default) != (a1.getD v1.toNat default)))]) (L := []) (n := 0) (simI (M := []) rfl (And.intro (Vw.same _ rfl) (And.intro (Vw.same _ rfl) (And.intro (Vw.same _ rfl) (And.intro (Vw.same _ rfl) (And.intro (Vw.same _ rfl) trivial))))) trivial) ?_
    refine condI (v := ((a0.getD v1.toNat default) != (a1.getD v1.toNat default))) rfl trivial (fun h13 => ?_) (fun h13 => ?_)
    · have h := ite_tt h13 h
      refine seqI ?_
      refine regI ?_
      refine retI ?_
      obtain ⟨o, hq, rfl⟩ := Option.map_eq_some_iff.1 h
      replace h := hq; clear hq
      refine And.intro nofun ?_
      cases h
      exact And.intro trivial (And.intro rfl (Vw.same _ rfl))
    · have h := ite_ff h13 h
      refine skipI ?_
      refine regI ?_
      cases h
      exact And.intro rfl (simI (M := []) rfl (And.intro (Vw.same _ rfl) (And.intro (Vw.same _ rfl) (And.intro (Vw.same _ rfl) (And.intro (Vw.same _ rfl) trivial)))) trivial)
  · have h := ite_ff h10 h
    refine exitI ?_
    obtain ⟨o, hq, rfl⟩ := Option.map_eq_some_iff.1 h
    replace h := hq; clear hq
    refine And.intro nofun ?_
    refine LWp.sim ?_ (f14_j1_ok h)
    exact simI (M := []) rfl trivial trivial

theorem f14_L1_ok {a0 : List Int} {a1 : List Int} {v1 : Int} {m : Option Nat} {o : Bool} (h : S_glossatorref3_Equal_int_l1 m a0 a1 v1 = some o) :
    LWp Try.prog f14_lay 0 (.loop f14_c1) (QBlock 0 (QSeq Try.prog f14_lay 0 f14_c0 (f14_Q a0 a1 o))) [(1, .isl 1 (a1.map e_i64) false), (12, .isl 1 (a0.map e_i64) false), (13, .int .i64 ((a0.map e_i64).length : Int)), (14, .int .i64 v1)] [] 0 :=
  LWp_loopM (m := m) (s := (v1 : Int)) (r := o) (fun (s : Int) => S_glossatorref3_Equal_int_b1 m a0 a1 s) (f14_L1_env a0 a1) (f14_L1_hp a0 a1) (f14_L1_Q a0 a1) (fun s o h => f14_L1_bok h) h

noncomputable def S_glossatorref3_Equal_int (m : Option Nat) (a0 : List Int) (a1 : List Int) : Option Bool :=
  if (((a0.map e_i64).length : Int) != ((a1.map e_i64).length : Int)) = true then
    some false
  else
    S_glossatorref3_Equal_int_l1 m a0 a1 0

theorem f14_start {a0 : List Int} {a1 : List Int} {m : Option Nat} {o : Bool} (h : S_glossatorref3_Equal_int m a0 a1 = some o) : LWp Try.prog f14_lay 0 f14_c2 (f14_Q a0 a1 o) (initEnv 0 [.isl 1 (a0.map e_i64) false, .isl 1 (a1.map e_i64) false]) [] 0 := by
  unfold S_glossatorref3_Equal_int at h
  refine seqI ?_
  refine regI ?_
  refine seqI ?_
  refine seqI ?_
  refine regI ?_
  refine condI (v := (((a0.map e_i64).length : Int) != ((a1.map e_i64).length : Int))) rfl trivial (fun h1 => ?_) (fun h1 => ?_)
  · have h := ite_tt h1 h
    refine seqI ?_
    refine regI ?_
    refine retI ?_
    cases h
    exact And.intro trivial (And.intro rfl (Vw.same _ rfl))
  · have h := ite_ff h1 h
    refine skipI ?_
    refine seqI ?_
    refine seqI ?_
    refine regI ?_
    refine LWp.sim (e := [(1, .isl 1 (a1.map e_i64) false), (12, .isl 1 (a0.map e_i64) false), (13, .int .i64 ((a0.map e_i64).length : Int)), (14, .int .i64 0)]) (L := []) (n := 0) (simI (M := []) rfl (And.intro (Vw.same _ rfl) (And.intro (Vw.same _ rfl) (And.intro (Vw.same _ rfl) (And.intro (Vw.same _ rfl) trivial)))) trivial) ?_
    refine blockI ?_
    refine LWp.sim ?_ (f14_L1_ok h)
    exact simI (M := []) rfl (And.intro (Vw.same _ rfl) (And.intro (Vw.same _ rfl) (And.intro (Vw.same _ rfl) (And.intro (Vw.same _ rfl) trivial)))) trivial

theorem f14_ok {a0 : List Int} {a1 : List Int} {m : Option Nat} {o : Bool} (h : S_glossatorref3_Equal_int m a0 a1 = some o) : PFn Try.prog 14 [.isl 1 (a0.map e_i64) false, .isl 1 (a1.map e_i64) false] (.bool o) := PFn.ofFnW (L := f14_L) f14_low f14_fok (Nat.le_of_ble_eq_true rfl) rfl (f14_start h)

def f7_c0 : LCode := (.seq (.region [⟨some 2, .box (.t 0), none⟩,
   ⟨some 3, .box (.t 1), none⟩,
   ⟨some 4, .mv (.c (.bool false)), none⟩])
 (.seq (.region [⟨some 5, .faddr 1 (.t 2), none⟩,
   ⟨some 6, .load false 1 (.t 5), none⟩,
   ⟨some 7, .faddr 1 (.t 3), none⟩,
   ⟨some 8, .load false 1 (.t 7), none⟩,
   ⟨some 9, .bin .eql (.t 6) (.t 8), none⟩,
   ⟨some 10, .mv (.t 9), none⟩,
   ⟨some 11, .faddr 0 (.t 2), some (10, true)⟩,
   ⟨some 12, .load false 1 (.t 11), some (10, true)⟩,
   ⟨some 13, .faddr 0 (.t 3), some (10, true)⟩,
   ⟨some 14, .load false 1 (.t 13), some (10, true)⟩,
   ⟨some 15, .call 14 [(.t 12), (.t 14)], some (10, true)⟩,
   ⟨some 16, .pick (.t 10) (.t 15) (.c (.bool false)), none⟩,
   ⟨some 4, .mv (.t 16), none⟩])
 .ret))
def f7_lay : Lay := ⟨17, []⟩
def f7_res : List LRes := [.t 4]
def f7_L : LFn := ⟨2, f7_lay, f7_c0, f7_res⟩
theorem f7_low : lowFn Try.prog [] 7 = some f7_L := by kernel_rfl
theorem f7_fok : FnOk Try.prog 7 := ⟨_, Try.func7, rfl, rfl⟩
noncomputable def S_glossatorref3_EqualValues (m : Option Nat) (a0 : G_QValue) (a1 : G_QValue) : Option Bool :=
  (if ((a0.f_Text == a1.f_Text) == true) = true then S_glossatorref3_Equal_int m a0.f_Nums a1.f_Nums else some default).bind fun v1 =>
  some ((a0.f_Text == a1.f_Text) && v1)

def f7_Q (a0 : G_QValue) (a1 : G_QValue) (o : Bool) : Exit → Env → AHeap → Nat → Prop := FinK f7_res (PureEnd (.bool o))

theorem f7_start {a0 : G_QValue} {a1 : G_QValue} {m : Option Nat} {o : Bool} (h : S_glossatorref3_EqualValues m a0 a1 = some o) : LWp Try.prog f7_lay 0 f7_c0 (f7_Q a0 a1 o) (initEnv 0 [.agg [.isl 1 (a0.f_Nums.map e_i64) false, .str a0.f_Text], .agg [.isl 1 (a1.f_Nums.map e_i64) false, .str a1.f_Text]]) [] 0 := by
  unfold S_glossatorref3_EqualValues at h
  refine seqI ?_
  refine regI ?_
  refine seqI ?_
  refine regI ?_
  refine And.intro (fun hp => hp) ?_
  show yops _ _ _ [(12, .cnd ((a0.f_Text == a1.f_Text) == true) (.isl 1 (a0.f_Nums.map e_i64) false)), (11, .cnd ((a0.f_Text == a1.f_Text) == true) (.ptr (0, 0) 0 0)), (10, .bool (a0.f_Text == a1.f_Text)), (9, .bool (a0.f_Text == a1.f_Text)), (8, .str a1.f_Text), (7, .ptr (1, 0) 0 1), (6, .str a0.f_Text), (5, .ptr (0, 0) 0 1), (4, .bool false), (3, .ptr (1, 0) 0 0), (2, .ptr (0, 0) 0 0), (0, .agg [.isl 1 (a0.f_Nums.map e_i64) false, .str a0.f_Text]), (1, .agg [.isl 1 (a1.f_Nums.map e_i64) false, .str a1.f_Text])] _ _
  refine And.intro (fun hp => hp) ?_
  obtain ⟨v1, h1, h⟩ := bind_some h
  refine Or.inl (Exists.intro (.bool v1) (And.intro (fun hp => And.intro (And.intro hp hp) (PFn.call (f14_ok (ite_tt hp h1)) (And.intro (Vw.same _ rfl) (And.intro (Vw.same _ rfl) trivial)) (And.intro rfl (And.intro rfl rfl)))) ?_))
  refine And.intro (fun hc => (bqt hc)) ?_
  refine LWp.sim (e := [(4, .bool ((a0.f_Text == a1.f_Text) && v1))]) (L := []) (n := 0) (simI (M := []) rfl (And.intro (Vw.same _ rfl) trivial) trivial) ?_
  refine retI ?_
  cases h
  exact And.intro trivial (And.intro rfl (Vw.same _ rfl))

theorem f7_ok {a0 : G_QValue} {a1 : G_QValue} {m : Option Nat} {o : Bool} (h : S_glossatorref3_EqualValues m a0 a1 = some o) : PFn Try.prog 7 [.agg [.isl 1 (a0.f_Nums.map e_i64) false, .str a0.f_Text], .agg [.isl 1 (a1.f_Nums.map e_i64) false, .str a1.f_Text]] (.bool o) := PFn.ofFnW (L := f7_L) f7_low f7_fok (Nat.le_of_ble_eq_true rfl) rfl (f7_start h)

def f9b0_c0 : LCode := (.seq (.region [⟨some 3, .box (.t 1), none⟩,
   ⟨some 4, .alloc [(.isl 1 [] true), (.str [])], none⟩,
   ⟨some 5, .mv (.c (.int .i64 0)), none⟩,
   ⟨some 6, .mv (.c (.int .i64 0)), none⟩])
 (.seq (.draw [⟨⟨some 8, .mv (.t 0), none⟩, []⟩,
   ⟨⟨some 9, .nilck (.t 8), none⟩, []⟩,
   ⟨⟨some 10, .faddr 4 (.t 9), none⟩, []⟩,
   ⟨⟨some 11, .load false 1 (.t 10), none⟩, []⟩,
   ⟨⟨some 12, .load true 3 (.t 3), none⟩, []⟩,
   ⟨⟨some 13, .mlook [.int, .int, .int] true true false [(.isl 1 [] true), (.str []), (.int .i64 0), (.int .i64 0)] (.t 11) (.t 12), none⟩, []⟩,
   ⟨⟨some 7, .alloc [(.isl 1 [] true), (.str []), (.int .i64 0), (.int .i64 0)], none⟩, [3, 4, 5]⟩,
   ⟨⟨none, .store 4 (.t 7) (.t 13), none⟩, []⟩])
 (.seq (.draw [⟨⟨some 14, .faddr 0 (.t 7), none⟩, []⟩,
   ⟨⟨some 15, .load true 2 (.t 14), none⟩, []⟩,
   ⟨⟨some 17, .faddr 2 (.t 7), none⟩, []⟩,
   ⟨⟨some 18, .load false 1 (.t 17), none⟩, []⟩,
   ⟨⟨some 19, .faddr 3 (.t 7), none⟩, []⟩,
   ⟨⟨some 20, .load false 1 (.t 19), none⟩, []⟩,
   ⟨⟨some 16, .call 13 [(.t 15)], none⟩, [3, 5]⟩,
   ⟨⟨none, .store 2 (.t 4) (.t 16), none⟩, [3, 5]⟩,
   ⟨⟨some 5, .mv (.t 18), none⟩, []⟩,
   ⟨⟨some 6, .mv (.t 20), none⟩, []⟩])
 .ret)))
def f9b0_lay : Lay := ⟨21, []⟩
def f9b0_res : List LRes := [.cell 4 true 2, .t 5, .t 6]
def f9b0_L : LFn := ⟨2, f9b0_lay, f9b0_c0, f9b0_res⟩
theorem f9b0_low : lowFn Try.prog [] 9 = some f9b0_L := by kernel_rfl
theorem f9b0_fok : FnOk Try.prog 9 := ⟨_, Try.func9, rfl, rfl⟩
noncomputable def S_inputs_Store_Get (m : Option Nat) (a0 : G_QKey) (a1 : Int) (a2 : Int) (a3 : Int) (a4 : Int) (a5 : List (G_QKey × G_cell)) : Option (G_QValue × Int × Int) :=
  (S_inputs_clone m (G_QValue.mk ((((lk q_QKey a5 a0).getD (G_cell.mk (G_QValue.mk [] []) 0 0)).f_value).f_Nums) ((((lk q_QKey a5 a0).getD (G_cell.mk (G_QValue.mk [] []) 0 0)).f_value).f_Text))).bind fun v1 =>
  some (v1, ((lk q_QKey a5 a0).getD (G_cell.mk (G_QValue.mk [] []) 0 0)).f_changedAt, ((lk q_QKey a5 a0).getD (G_cell.mk (G_QValue.mk [] []) 0 0)).f_durability)

def f9b0_Q (a0 : G_QKey) (a1 : Int) (a2 : Int) (a3 : Int) (a4 : Int) (a5 : List (G_QKey × G_cell)) (o : G_QValue × Int × Int) : Exit → Env → AHeap → Nat → Prop := FinK f9b0_res (FinTo 3 3 (.tup [.agg [.isl 1 (o.1.f_Nums.map e_i64) false, .str o.1.f_Text], .int .i64 o.2.1, .int .i64 o.2.2]) [((0, 0), .one [.int .i64 a1, .int .i64 a2, .int .i64 a3, .int .i64 a4, .map (0, 1)]), ((0, 1), .amap (a5.map (em a_QKey a_cell)))])

theorem f9b0_start {a0 : G_QKey} {a1 : Int} {a2 : Int} {a3 : Int} {a4 : Int} {a5 : List (G_QKey × G_cell)} {m : Option Nat} {o : G_QValue × Int × Int} (h : S_inputs_Store_Get m a0 a1 a2 a3 a4 a5 = some o) : LWp Try.prog f9b0_lay 3 f9b0_c0 (f9b0_Q a0 a1 a2 a3 a4 a5 o) (initEnv 0 [.ptr (0, 0) 0 0, .agg [.int .i64 a0.f_Kind, .int .i64 a0.f_A, .int .i64 a0.f_B]]) [((0, 0), .one [.int .i64 a1, .int .i64 a2, .int .i64 a3, .int .i64 a4, .map (0, 1)]), ((0, 1), .amap (a5.map (em a_QKey a_cell)))] 3 := by
  unfold S_inputs_Store_Get at h
  refine seqI ?_
  refine regI ?_
  refine seqI ?_
  refine drawI ?_
  refine Exists.intro (.agg [.isl 1 (((((lk q_QKey a5 a0).getD (G_cell.mk (G_QValue.mk [] []) 0 0)).f_value).f_Nums).map e_i64) false, .str ((((lk q_QKey a5 a0).getD (G_cell.mk (G_QValue.mk [] []) 0 0)).f_value).f_Text), .int .i64 (((lk q_QKey a5 a0).getD (G_cell.mk (G_QValue.mk [] []) 0 0)).f_changedAt), .int .i64 (((lk q_QKey a5 a0).getD (G_cell.mk (G_QValue.mk [] []) 0 0)).f_durability)]) (And.intro (mlook1 (ek := a_QKey) (ev := a_cell) (z := (G_cell.mk (G_QValue.mk [] []) 0 0)) q_QKey_ok rfl a0 a5) (And.intro (mfind_some (ek := a_QKey) (ev := a_cell) q_QKey_ok _ _) ?_))
  refine And.intro (And.intro (mfind_some (ek := a_QKey) (ev := a_cell) q_QKey_ok _ _) (mlook1 (ek := a_QKey) (ev := a_cell) (z := (G_cell.mk (G_QValue.mk [] []) 0 0)) q_QKey_ok rfl a0 a5)) ?_
  refine And.intro rfl ?_
  refine And.intro rfl ?_
  refine LWp.sim (e := [(4, .ptr (3, 0) 0 0), (7, .ptr (4, 0) 0 0)]) (L := [((0, 0), .one [.int .i64 a1, .int .i64 a2, .int .i64 a3, .int .i64 a4, .map (0, 1)]), ((0, 1), .amap (a5.map (em a_QKey a_cell))), ((3, 0), .one [.isl 1 (([] : List Int).map e_i64) true, .str ([] : List UInt8)]), ((4, 0), .one [.isl 1 (((((lk q_QKey a5 a0).getD (G_cell.mk (G_QValue.mk [] []) 0 0)).f_value).f_Nums).map e_i64) false, .str ((((lk q_QKey a5 a0).getD (G_cell.mk (G_QValue.mk [] []) 0 0)).f_value).f_Text), .int .i64 (((lk q_QKey a5 a0).getD (G_cell.mk (G_QValue.mk [] []) 0 0)).f_changedAt), .int .i64 (((lk q_QKey a5 a0).getD (G_cell.mk (G_QValue.mk [] []) 0 0)).f_durability)])]) (n := 5) (simI (M := [((3, 0), (4, 0)), ((4, 0), (5, 0))]) rfl (And.intro (Vw.ptr _ _ _ _ rfl) (And.intro (Vw.ptr _ _ _ _ rfl) trivial)) (And.intro (And.intro rfl (BVw.oneL (And.intro (Vw.same _ rfl) (And.intro (Vw.same _ rfl) (And.intro (Vw.same _ rfl) (And.intro (Vw.same _ rfl) (And.intro (Vw.map _ _ rfl) trivial))))))) (And.intro (And.intro rfl (BVw.ofMap a_QKey a_cell a_cell_nid a5)) (And.intro (And.intro rfl (BVw.oneL (And.intro (Vw.same _ rfl) (And.intro (Vw.same _ rfl) trivial)))) (And.intro (And.intro rfl (BVw.oneL (And.intro (Vw.same _ rfl) (And.intro (Vw.same _ rfl) (And.intro (Vw.same _ rfl) (And.intro (Vw.same _ rfl) trivial)))))) trivial))))) ?_
  refine seqI ?_
  refine drawI ?_
  obtain ⟨v1, h1, h⟩ := bind_some h
  refine PFn.call (f13_ok h1) (And.intro (Vw.same _ rfl) trivial) ?_
  refine And.intro rfl ?_
  refine And.intro rfl ?_
  refine And.intro rfl ?_
  refine And.intro rfl ?_
  refine LWp.sim (e := [(4, .ptr (3, 0) 0 0), (5, .int .i64 (((lk q_QKey a5 a0).getD (G_cell.mk (G_QValue.mk [] []) 0 0)).f_changedAt)), (6, .int .i64 (((lk q_QKey a5 a0).getD (G_cell.mk (G_QValue.mk [] []) 0 0)).f_durability))]) (L := [((0, 0), .one [.int .i64 a1, .int .i64 a2, .int .i64 a3, .int .i64 a4, .map (0, 1)]), ((0, 1), .amap (a5.map (em a_QKey a_cell))), ((3, 0), .one [.isl 1 (v1.f_Nums.map e_i64) false, .str v1.f_Text])]) (n := 4) (simI (M := [((3, 0), (3, 0))]) rfl (And.intro (Vw.ptr _ _ _ _ rfl) (And.intro (Vw.same _ rfl) (And.intro (Vw.same _ rfl) trivial))) (And.intro (And.intro rfl (BVw.oneL (And.intro (Vw.same _ rfl) (And.intro (Vw.same _ rfl) (And.intro (Vw.same _ rfl) (And.intro (Vw.same _ rfl) (And.intro (Vw.map _ _ rfl) trivial))))))) (And.intro (And.intro rfl (BVw.ofMap a_QKey a_cell a_cell_nid a5)) (And.intro (And.intro rfl (BVw.oneL (And.intro (Vw.same _ rfl) (And.intro (Vw.same _ rfl) trivial)))) trivial)))) ?_
  refine retI ?_
  cases h
  exact And.intro (And.intro trivial (And.intro rfl (Nat.le_of_ble_eq_true rfl))) (And.intro trivial (And.intro trivial (finI (n' := 4) [] [] rfl rfl (Vw.same _ rfl) (And.intro (And.intro rfl (BVw.oneL (And.intro (Vw.same _ rfl) (And.intro (Vw.same _ rfl) (And.intro (Vw.same _ rfl) (And.intro (Vw.same _ rfl) (And.intro (Vw.map _ _ rfl) trivial))))))) (And.intro (And.intro rfl (BVw.ofMap a_QKey a_cell a_cell_nid a5)) trivial)))))

theorem f9b0_ok {a0 : G_QKey} {a1 : Int} {a2 : Int} {a3 : Int} {a4 : Int} {a5 : List (G_QKey × G_cell)} {m : Option Nat} {o : G_QValue × Int × Int} (h : S_inputs_Store_Get m a0 a1 a2 a3 a4 a5 = some o) : ACalls Try.prog 9 [.ptr (0, 0) 0 0, .agg [.int .i64 a0.f_Kind, .int .i64 a0.f_A, .int .i64 a0.f_B]] [((0, 0), .one [.int .i64 a1, .int .i64 a2, .int .i64 a3, .int .i64 a4, .map (0, 1)]), ((0, 1), .amap (a5.map (em a_QKey a_cell)))] 3 (Gives 3 (.tup [.agg [.isl 1 (o.1.f_Nums.map e_i64) false, .str o.1.f_Text], .int .i64 o.2.1, .int .i64 o.2.2]) [((0, 0), .one [.int .i64 a1, .int .i64 a2, .int .i64 a3, .int .i64 a4, .map (0, 1)]), ((0, 1), .amap (a5.map (em a_QKey a_cell)))]) := bfn_of (L := f9b0_L) f9b0_low f9b0_fok (Nat.le_of_ble_eq_true rfl) (f9b0_start h)

def S_maps_Clone_inputs_cell (m : Option Nat) (a0 : List (G_QKey × G_cell)) : Option Unit := some ()
theorem f15b0_fok : FnOk Try.prog 15 := ⟨_, Try.func15, rfl, rfl⟩
theorem f15b0_ok {m : Option Nat} {a0 : List (G_QKey × G_cell)} {o : Unit} (h : S_maps_Clone_inputs_cell m a0 = some o) : ACalls Try.prog 15 [.map (0, 0)] [((0, 0), .amap (a0.map (em a_QKey a_cell)))] 3 (Gives 4 (.map (3, 0)) [((3, 0), .amap (a0.map (em a_QKey a_cell))), ((0, 0), .amap (a0.map (em a_QKey a_cell)))]) := clone_acalls f15b0_fok (clones_of (kt := 34) (et := 51) Try.func15 Try.func18 (by kernel_rfl) (by kernel_rfl) (by kernel_rfl) (by kernel_rfl) (by kernel_rfl) rfl rfl rfl) _

def f10b0_c0 : LCode := (.seq (.region [⟨some 2, .mv (.c (.val (.pointer none))), none⟩])
 (.seq (.draw [⟨⟨some 3, .mv (.t 0), none⟩, []⟩,
   ⟨⟨some 4, .nilck (.t 3), none⟩, []⟩,
   ⟨⟨some 5, .faddr 0 (.t 4), none⟩, []⟩,
   ⟨⟨some 6, .load false 1 (.t 5), none⟩, []⟩,
   ⟨⟨some 7, .mv (.t 0), none⟩, []⟩,
   ⟨⟨some 8, .nilck (.t 7), none⟩, []⟩,
   ⟨⟨some 9, .faddr 1 (.t 8), none⟩, []⟩,
   ⟨⟨some 10, .load true 3 (.t 9), none⟩, []⟩,
   ⟨⟨some 11, .mv (.t 0), none⟩, []⟩,
   ⟨⟨some 12, .nilck (.t 11), none⟩, []⟩,
   ⟨⟨some 13, .faddr 4 (.t 12), none⟩, []⟩,
   ⟨⟨some 14, .load false 1 (.t 13), none⟩, []⟩,
   ⟨⟨some 15, .call 15 [(.t 14)], none⟩, [3, 7]⟩,
   ⟨⟨some 16, .build [(.int .i64 0), (.int .i64 0), (.int .i64 0), (.int .i64 0), (.val (.map none))] [(0, 1, (.t 6)), (1, 3, (.t 10)), (4, 1, (.t 15))], none⟩, []⟩,
   ⟨⟨some 17, .box (.t 16), none⟩, []⟩,
   ⟨⟨some 2, .mv (.t 17), none⟩, []⟩])
 .ret))
def f10b0_lay : Lay := ⟨18, []⟩
def f10b0_res : List LRes := [.t 2]
def f10b0_L : LFn := ⟨1, f10b0_lay, f10b0_c0, f10b0_res⟩
theorem f10b0_low : lowFn Try.prog [] 10 = some f10b0_L := by kernel_rfl
theorem f10b0_fok : FnOk Try.prog 10 := ⟨_, Try.func10, rfl, rfl⟩
noncomputable def S_inputs_Store_Fork (m : Option Nat) (a0 : Int) (a1 : Int) (a2 : Int) (a3 : Int) (a4 : List (G_QKey × G_cell)) : Option Unit :=
  (S_maps_Clone_inputs_cell m a4).bind fun v1 =>
  some ()

def f10b0_Q (a0 : Int) (a1 : Int) (a2 : Int) (a3 : Int) (a4 : List (G_QKey × G_cell)) (o : Unit) : Exit → Env → AHeap → Nat → Prop := FinK f10b0_res (FinTo 3 5 (.ptr (3, 0) 0 0) [((0, 0), .one [.int .i64 a0, .int .i64 a1, .int .i64 a2, .int .i64 a3, .map (0, 1)]), ((0, 1), .amap (a4.map (em a_QKey a_cell))), ((3, 0), .one [.int .i64 a0, .int .i64 a1, .int .i64 a2, .int .i64 a3, .map (4, 0)]), ((4, 0), .amap (a4.map (em a_QKey a_cell)))])

theorem f10b0_start {a0 : Int} {a1 : Int} {a2 : Int} {a3 : Int} {a4 : List (G_QKey × G_cell)} {m : Option Nat} {o : Unit} (h : S_inputs_Store_Fork m a0 a1 a2 a3 a4 = some o) : LWp Try.prog f10b0_lay 3 f10b0_c0 (f10b0_Q a0 a1 a2 a3 a4 o) (initEnv 0 [.ptr (0, 0) 0 0]) [((0, 0), .one [.int .i64 a0, .int .i64 a1, .int .i64 a2, .int .i64 a3, .map (0, 1)]), ((0, 1), .amap (a4.map (em a_QKey a_cell)))] 3 := by
  unfold S_inputs_Store_Fork at h
  refine seqI ?_
  refine regI ?_
  refine seqI ?_
  refine drawI ?_
  obtain ⟨v1, h1, h⟩ := bind_some h
  refine bcall (k := 3) (m := 1) (L' := [((3, 0), .amap (a4.map (em a_QKey a_cell))), ((0, 1), .amap (a4.map (em a_QKey a_cell)))]) (rest := [((0, 0), .one [.int .i64 a0, .int .i64 a1, .int .i64 a2, .int .i64 a3, .map (0, 1)])]) (R' := .map (3, 0)) [((0, 0), (0, 1))] (f15b0_ok h1) rfl rfl rfl (And.intro (Vw.map _ _ rfl) trivial) (And.intro (h0I (0, 1) rfl rfl (BVw.ofMap a_QKey a_cell a_cell_nid a4)) trivial) rfl (And.intro rfl (And.intro (map_ren a_QKey a_cell a_QKey_nid a_cell_nid a4) (And.intro rfl (And.intro (map_ren a_QKey a_cell a_QKey_nid a_cell_nid a4) trivial)))) rfl ?_
  refine And.intro rfl ?_
  refine And.intro rfl ?_
  refine LWp.sim (e := [(2, .ptr (3, 0) 0 0)]) (L := [((0, 0), .one [.int .i64 a0, .int .i64 a1, .int .i64 a2, .int .i64 a3, .map (0, 1)]), ((0, 1), .amap (a4.map (em a_QKey a_cell))), ((3, 0), .one [.int .i64 a0, .int .i64 a1, .int .i64 a2, .int .i64 a3, .map (4, 0)]), ((4, 0), .amap (a4.map (em a_QKey a_cell)))]) (n := 5) (simI (M := [((3, 0), (5, 0)), ((4, 0), (3, 0))]) rfl (And.intro (Vw.ptr _ _ _ _ rfl) trivial) (And.intro (And.intro rfl (BVw.oneL (And.intro (Vw.same _ rfl) (And.intro (Vw.same _ rfl) (And.intro (Vw.same _ rfl) (And.intro (Vw.same _ rfl) (And.intro (Vw.map _ _ rfl) trivial))))))) (And.intro (And.intro rfl (BVw.ofMap a_QKey a_cell a_cell_nid a4)) (And.intro (And.intro rfl (BVw.oneL (And.intro (Vw.same _ rfl) (And.intro (Vw.same _ rfl) (And.intro (Vw.same _ rfl) (And.intro (Vw.same _ rfl) (And.intro (Vw.map _ _ rfl) trivial))))))) (And.intro (And.intro rfl (BVw.ofMap a_QKey a_cell a_cell_nid a4)) trivial))))) ?_
  refine retI ?_
  cases h
  exact And.intro trivial (finI (n' := 5) [((3, 0), (3, 0)), ((4, 0), (4, 0))] [] rfl rfl (Vw.ptr _ _ _ _ rfl) (And.intro (And.intro rfl (BVw.oneL (And.intro (Vw.same _ rfl) (And.intro (Vw.same _ rfl) (And.intro (Vw.same _ rfl) (And.intro (Vw.same _ rfl) (And.intro (Vw.map _ _ rfl) trivial))))))) (And.intro (And.intro rfl (BVw.ofMap a_QKey a_cell a_cell_nid a4)) (And.intro (And.intro rfl (BVw.oneL (And.intro (Vw.same _ rfl) (And.intro (Vw.same _ rfl) (And.intro (Vw.same _ rfl) (And.intro (Vw.same _ rfl) (And.intro (Vw.map _ _ rfl) trivial))))))) (And.intro (And.intro rfl (BVw.ofMap a_QKey a_cell a_cell_nid a4)) trivial)))))

theorem f10b0_ok {a0 : Int} {a1 : Int} {a2 : Int} {a3 : Int} {a4 : List (G_QKey × G_cell)} {m : Option Nat} {o : Unit} (h : S_inputs_Store_Fork m a0 a1 a2 a3 a4 = some o) : ACalls Try.prog 10 [.ptr (0, 0) 0 0] [((0, 0), .one [.int .i64 a0, .int .i64 a1, .int .i64 a2, .int .i64 a3, .map (0, 1)]), ((0, 1), .amap (a4.map (em a_QKey a_cell)))] 3 (Gives 5 (.ptr (3, 0) 0 0) [((0, 0), .one [.int .i64 a0, .int .i64 a1, .int .i64 a2, .int .i64 a3, .map (0, 1)]), ((0, 1), .amap (a4.map (em a_QKey a_cell))), ((3, 0), .one [.int .i64 a0, .int .i64 a1, .int .i64 a2, .int .i64 a3, .map (4, 0)]), ((4, 0), .amap (a4.map (em a_QKey a_cell)))]) := bfn_of (L := f10b0_L) f10b0_low f10b0_fok (Nat.le_of_ble_eq_true rfl) (f10b0_start h)

end Go.Proofs.Ytaggohiooalcaaa
