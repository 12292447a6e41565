/-
  Own text GenA of this claim: what functions of the given program compute, in plain Lean, and the proof; no condition.
-/
import Derived.Test.YtjbndlijmgnpnaaChecked
import Derived.Test.YtjbndlijmgnpnaaFxN
import Derived.Test.YtjbndlijmgnpnaaFxRf
import Derived.Test.YtjbndlijmgnpnaaFxMd
import Derived.KernelRfl
namespace Go.Proofs.Ytjbndlijmgnpnaa
open Go.Fx
set_option linter.unusedVariables false
structure G_QOp where
  f_Op : Int
  f_A : Int
  f_B : Int
instance : Inhabited G_QOp := ⟨(G_QOp.mk 0 0 0)⟩
structure G_QProgram where
  f_Inputs : Int
  f_Queries : List (List G_QOp)
instance : Inhabited G_QProgram := ⟨(G_QProgram.mk 0 [])⟩
structure G_QKey where
  f_Kind : Int
  f_A : Int
  f_B : Int
instance : Inhabited G_QKey := ⟨(G_QKey.mk 0 0 0)⟩
structure G_QValue where
  f_Nums : List Int
  f_Text : List UInt8
instance : Inhabited G_QValue := ⟨(G_QValue.mk [] [])⟩
def e_QOp (x : G_QOp) : List AVal := [.int .i64 x.f_Op, .int .i64 x.f_A, .int .i64 x.f_B]
def e_sl_QOp (x : List G_QOp) : List AVal := [.isl 3 (x.map e_QOp) false]
def e_i64 (x : Int) : List AVal := [.int .i64 x]
def e_QValue (x : G_QValue) : List AVal := [.isl 1 (x.f_Nums.map e_i64) false, .str x.f_Text]
def e_QKey (x : G_QKey) : List AVal := [.int .i64 x.f_Kind, .int .i64 x.f_A, .int .i64 x.f_B]
def a_i64 (x : Int) : AVal := .int .i64 x
theorem a_i64_nid (x : Int) : (a_i64 x).nid = true := rfl
def q_i64 (x y : Int) : Bool := (x == y && true)
theorem q_i64_ok (x y : Int) : keyEq [.int] (a_i64 x) (a_i64 y) = some (q_i64 x y) := rfl
theorem e_QOp_ok (x : G_QOp) : AVal.nid.nidL (e_QOp x) = true ∧ ∀ y ∈ e_QOp x, y.imm = some y := ⟨rfl, by simp [e_QOp, AVal.imm]⟩
theorem e_sl_QOp_ok (x : List G_QOp) : AVal.nid.nidL (e_sl_QOp x) = true ∧ ∀ y ∈ e_sl_QOp x, y.imm = some y := ⟨rfl, by simp [e_sl_QOp, AVal.imm]⟩
theorem e_i64_ok (x : Int) : AVal.nid.nidL (e_i64 x) = true ∧ ∀ y ∈ e_i64 x, y.imm = some y := ⟨rfl, by simp [e_i64, AVal.imm]⟩
theorem e_QValue_ok (x : G_QValue) : AVal.nid.nidL (e_QValue x) = true ∧ ∀ y ∈ e_QValue x, y.imm = some y := ⟨rfl, by simp [e_QValue, AVal.imm]⟩
theorem e_QKey_ok (x : G_QKey) : AVal.nid.nidL (e_QKey x) = true ∧ ∀ y ∈ e_QKey x, y.imm = some y := ⟨rfl, by simp [e_QKey, AVal.imm]⟩
def f24c0_c0 : LCode := (.seq (.region [⟨some 2, .mv (.c (.bool false)), none⟩])
 (.seq (.region [⟨some 3, .mv (.t 0), none⟩,
   ⟨some 4, .len false (.t 3), none⟩,
   ⟨some 5, .bin .gtr (.t 4) (.c (.int .i64 20)), none⟩,
   ⟨some 2, .mv (.t 5), none⟩])
 .ret))
def f24c0_lay : Lay := ⟨6, [], false⟩
def f24c0_res : List LRes := [.t 2]
def f24c0_L : LFn := ⟨1, f24c0_lay, f24c0_c0, f24c0_res⟩
theorem f24c0_low : lowFn Try.prog [] 24 = some f24c0_L := by kernel_rfl
theorem f24c0_fok : FnOk Try.prog 24 := ⟨_, Try.func24, rfl, rfl⟩
noncomputable def S_querylang_Check_1c (m : Option Nat) (a0 : List G_QOp) : Option Bool :=
  some (decide (((a0.map e_QOp).length : Int) > 20))

def f24c0_Q (a0 : List G_QOp) (o : Bool) : Exit → Env → AHeap → Nat → Prop := FinK f24c0_res (FinTo 3 4 (.bool o) [])

theorem f24c0_start {a0 : List G_QOp} {m : Option Nat} {o : Bool} (h : S_querylang_Check_1c m a0 = some o) : LWp Try.prog f24c0_lay 3 f24c0_c0 (f24c0_Q a0 o) (initEnv 0 [.isl 3 (a0.map e_QOp) false]) [] 3 := by
  unfold S_querylang_Check_1c at h
  refine seqI ?_
  refine regI ?_
  refine seqI ?_
  refine regI ?_
  refine retI ?_
  cases h
  exact And.intro trivial (finI (n' := 3) [] [] rfl rfl (Vw.same _ rfl) trivial)

theorem f24c0_ok {a0 : List G_QOp} {m : Option Nat} {o : Bool} (h : S_querylang_Check_1c m a0 = some o) : ACalls Try.prog 24 [.isl 3 (a0.map e_QOp) false] [] 3 (Gives 4 (.bool o) []) := bfn_of (L := f24c0_L) f24c0_low f24c0_fok (Nat.le_of_ble_eq_true rfl) (f24c0_start h)

def f41b0_c1 : LCode := (.seq (.region [⟨some 9, .bin .lss (.t 8) (.t 7), none⟩])
 (.seq (.cond (.t 9)
  .skip
  (.exit 0))
 (.seq (.block 1
  (.seq (.region [⟨some 10, .mv (.t 8), none⟩,
    ⟨some 5, .mv (.t 10), none⟩])
  (.seq (.region [⟨some 11, .mv (.t 1), none⟩,
    ⟨some 12, .mv (.t 0), none⟩,
    ⟨some 13, .mv (.t 5), none⟩,
    ⟨some 14, .iaddr 1 (.t 12) (.t 13), none⟩,
    ⟨some 15, .load false 1 (.t 14), none⟩,
    ⟨some 16, .callv (.t 11) [(.t 15)], none⟩])
  (.cond (.t 16)
   (.seq (.region [⟨some 17, .mv (.t 5), none⟩,
     ⟨some 4, .mv (.t 17), none⟩])
   .ret)
   .skip))))
 (.region [⟨some 18, .bin .add (.t 8) (.c (.int .i64 1)), none⟩,
   ⟨some 8, .mv (.t 18), none⟩]))))
def f41b0_c0 : LCode := (.seq (.region [⟨some 4, .mv (.c (.int .i64 (-1))), none⟩])
 .ret)
def f41b0_c2 : LCode := (.seq (.region [⟨some 4, .mv (.c (.int .i64 0)), none⟩])
 (.seq (.seq (.region [⟨some 6, .mv (.t 0), none⟩,
   ⟨some 7, .len false (.t 6), none⟩,
   ⟨some 8, .mv (.c (.int .i64 0)), none⟩])
 (.block 0
  (.loop
   f41b0_c1)))
 f41b0_c0))
def f41b0_lay : Lay := ⟨19, [], false⟩
def f41b0_res : List LRes := [.t 4]
def f41b0_L : LFn := ⟨2, f41b0_lay, f41b0_c2, f41b0_res⟩
theorem f41b0_low : lowFn Try.prog [] 41 = some f41b0_L := by kernel_rfl
theorem f41b0_fok : FnOk Try.prog 41 := ⟨_, Try.func41, rfl, rfl⟩
def f41b0_Q {σ : Type} (Hc : σ → AHeap) (fi0 : Fn) (ff0 fc0 : List AVal) (a0 : List (List G_QOp)) (z0 : σ) (o : Int × σ) : Exit → Env → AHeap → Nat → Prop := FinK f41b0_res (FinTo 3 4 (.int .i64 o.1) ([] ++ up 3 (Hc o.2)))

def f41b0_L1_env {σ : Type} (Hc : σ → AHeap) (fi0 : Fn) (ff0 fc0 : List AVal) (a0 : List (List G_QOp)) (s : (Int × σ)) : Env := [(0, .isl 1 (a0.map e_sl_QOp) false), (1, .fn fi0 ff0 fc0), (7, .int .i64 ((a0.map e_sl_QOp).length : Int)), (8, .int .i64 s.1)]
def f41b0_L1_hp {σ : Type} (Hc : σ → AHeap) (fi0 : Fn) (ff0 fc0 : List AVal) (a0 : List (List G_QOp)) (s : (Int × σ)) : AHeap := ([] ++ up 3 (Hc s.2))
def f41b0_L1_Q {σ : Type} (Hc : σ → AHeap) (fi0 : Fn) (ff0 fc0 : List AVal) (a0 : List (List G_QOp)) (z0 : σ) (o : (Int × σ)) : Exit → Env → AHeap → Nat → Prop := (QBlock 0 (QSeq Try.prog f41b0_lay 3 f41b0_c0 (f41b0_Q Hc fi0 ff0 fc0 a0 z0 o)))

noncomputable def S_slices_IndexFunc_api_QOp_j1 {σ : Type} (g0 : σ → (List G_QOp) → Option (Bool × σ)) (m : Option Nat) (v3 : σ) : Option (Int × σ) :=
  some ((-1), v3)

noncomputable def S_slices_IndexFunc_api_QOp_b1 {σ : Type} (g0 : σ → (List G_QOp) → Option (Bool × σ)) (m : Option Nat) (a0 : List (List G_QOp)) (v2 : Int) (v3 : σ) : Option ((Int × σ) ⊕ (Int × σ)) :=
  if (decide (v2 < ((a0.map e_sl_QOp).length : Int))) = true then
    if (0 : Int) ≤ v2 ∧ v2 < ((a0.map e_sl_QOp).length : Int) then
    (g0 v3 (a0.getD v2.toNat default)).bind fun v5 =>
    if v5.1 = true then
      Option.map Sum.inr (
        some (v2, v5.2))
    else
      some (.inl ((W (v2 + 1)), v5.2))
    else none
  else
    Option.map Sum.inr (
      S_slices_IndexFunc_api_QOp_j1 g0 m v3)

noncomputable def S_slices_IndexFunc_api_QOp_l1 {σ : Type} (g0 : σ → (List G_QOp) → Option (Bool × σ)) (m : Option Nat) (a0 : List (List G_QOp)) (v2 : Int) (v3 : σ) : Option (Int × σ) := loopM m (fun (s : (Int × σ)) => S_slices_IndexFunc_api_QOp_b1 g0 m a0 s.1 s.2) (v2, v3)

theorem f41b0_j1_ok {σ : Type} {Hc : σ → AHeap} {fi0 : Fn} {ff0 fc0 : List AVal} {g0 : σ → (List G_QOp) → Option (Bool × σ)} (hg0 : Clo Try.prog fi0 ff0 fc0 Hc (fun (x : (List G_QOp)) => [.isl 3 (x.map e_QOp) false]) (fun (b : Bool) => .bool b) g0) {a0 : List (List G_QOp)} {z0 : σ} {v3 : σ} {m : Option Nat} {o : (Int × σ)} (h : S_slices_IndexFunc_api_QOp_j1 g0 m v3 = some o) :
    LWp Try.prog f41b0_lay 3 f41b0_c0 (f41b0_Q Hc fi0 ff0 fc0 a0 z0 o) [] ([] ++ up 3 (Hc v3)) 4 := by
  unfold S_slices_IndexFunc_api_QOp_j1 at h
  refine seqI ?_
  refine regI ?_
  refine retI ?_
  cases h
  exact And.intro trivial (finT (n' := 4) (q := 3) (lit' := []) (hg0.tl _) [] [] rfl rfl (Vw.same _ rfl) trivial)

theorem f41b0_L1_bok {σ : Type} {Hc : σ → AHeap} {fi0 : Fn} {ff0 fc0 : List AVal} {g0 : σ → (List G_QOp) → Option (Bool × σ)} (hg0 : Clo Try.prog fi0 ff0 fc0 Hc (fun (x : (List G_QOp)) => [.isl 3 (x.map e_QOp) false]) (fun (b : Bool) => .bool b) g0) {z0 : σ} {a0 : List (List G_QOp)} {v2 : Int} {v3 : σ} {m : Option Nat} {o : (Int × σ) ⊕ (Int × σ)} (h : S_slices_IndexFunc_api_QOp_b1 g0 m a0 v2 v3 = some o) :
    LWp Try.prog f41b0_lay 3 f41b0_c1 (BodyQ 3 4 (f41b0_L1_env Hc fi0 ff0 fc0 a0) (f41b0_L1_hp Hc fi0 ff0 fc0 a0) (f41b0_L1_Q Hc fi0 ff0 fc0 a0 z0) o) [(0, .isl 1 (a0.map e_sl_QOp) false), (1, .fn fi0 ff0 fc0), (7, .int .i64 ((a0.map e_sl_QOp).length : Int)), (8, .int .i64 v2)] ([] ++ up 3 (Hc v3)) 4 := by
  unfold S_slices_IndexFunc_api_QOp_b1 at h
  refine seqI ?_
  refine regI ?_
  refine seqI ?_
  refine condI (v := (decide (v2 < ((a0.map e_sl_QOp).length : Int)))) rfl trivial (fun h9 => ?_) (fun h9 => ?_)
  · have h := ite_tt h9 h
    refine skipI ?_
    refine seqI ?_
    refine blockI ?_
    refine seqI ?_
    refine regI ?_
    refine seqI ?_
    refine regI ?_
    obtain ⟨h10, h⟩ := ite_some h
    refine And.intro h10 ?_
    show yops _ _ _ [(14, .iptr 1 (a0.map e_sl_QOp) v2.toNat 0), (13, .int .i64 v2), (12, .isl 1 (a0.map e_sl_QOp) false), (11, .fn fi0 ff0 fc0), (5, .int .i64 v2), (10, .int .i64 v2), (9, .bool (decide (v2 < ((a0.map e_sl_QOp).length : Int)))), (0, .isl 1 (a0.map e_sl_QOp) false), (1, .fn fi0 ff0 fc0), (7, .int .i64 ((a0.map e_sl_QOp).length : Int)), (8, .int .i64 v2)] _ _
    refine Exists.intro (e_sl_QOp (a0.getD v2.toNat default)) (And.intro (getD_enc e_sl_QOp _ _ (idx_ltL e_sl_QOp h10)) (And.intro (And.intro (idx_lt h10) (Nat.le_of_ble_eq_true rfl)) ?_))
    obtain ⟨v5, h11, h⟩ := bind_some h
    refine Clo.use (q := 3) (lit := []) hg0 h11 rfl rfl (And.intro (Vw.same _ rfl) trivial) ?_
    refine LWp.sim (e := [(0, .isl 1 (a0.map e_sl_QOp) false), (1, .fn fi0 ff0 fc0), (5, .int .i64 v2), (7, .int .i64 ((a0.map e_sl_QOp).length : Int)), (8, .int .i64 v2), (16, .bool v5.1)]) (L := ([] ++ up 3 (Hc v5.2))) (n := 4) ?_ ?_
    · exact simT (M := []) (lit' := []) (hg0.tl _) rfl (And.intro (Vw.same _ rfl) (And.intro (Vw.clo hg0.hf hg0.hc (by decide) (rhoT_1 (chkT_ok (n := 4) (q := 4) (lit' := []) rfl))) (And.intro (Vw.same _ rfl) (And.intro (Vw.same _ rfl) (And.intro (Vw.same _ rfl) (And.intro (Vw.same _ rfl) trivial)))))) trivial
    refine condI (v := v5.1) rfl trivial (fun h12 => ?_) (fun h12 => ?_)
    · have h := ite_tt h12 h
      refine seqI ?_
      refine regI ?_
      refine retI ?_
      obtain ⟨o, hq, rfl⟩ := Option.map_eq_some_iff.1 h
      replace h := hq; clear hq
      refine And.intro nofun ?_
      cases h
      exact And.intro trivial (finT (n' := 4) (q := 3) (lit' := []) (hg0.tl _) [] [] rfl rfl (Vw.same _ rfl) trivial)
    · have h := ite_ff h12 h
      refine skipI ?_
      refine regI ?_
      cases h
      exact And.intro rfl (simT (M := []) (lit' := []) (hg0.tl _) rfl (And.intro (Vw.same _ rfl) (And.intro (Vw.clo hg0.hf hg0.hc (by decide) (rhoT_1 (chkT_ok (n := 4) (q := 3) (lit' := []) rfl))) (And.intro (Vw.same _ rfl) (And.intro (Vw.same _ rfl) trivial)))) trivial)
  · have h := ite_ff h9 h
    refine exitI ?_
    obtain ⟨o, hq, rfl⟩ := Option.map_eq_some_iff.1 h
    replace h := hq; clear hq
    refine And.intro nofun ?_
    refine LWp.sim ?_ (f41b0_j1_ok hg0 h)
    exact simT (M := []) (lit' := []) (hg0.tl _) rfl trivial trivial

theorem f41b0_L1_ok {σ : Type} {Hc : σ → AHeap} {fi0 : Fn} {ff0 fc0 : List AVal} {g0 : σ → (List G_QOp) → Option (Bool × σ)} (hg0 : Clo Try.prog fi0 ff0 fc0 Hc (fun (x : (List G_QOp)) => [.isl 3 (x.map e_QOp) false]) (fun (b : Bool) => .bool b) g0) {z0 : σ} {a0 : List (List G_QOp)} {v2 : Int} {v3 : σ} {m : Option Nat} {o : (Int × σ)} (h : S_slices_IndexFunc_api_QOp_l1 g0 m a0 v2 v3 = some o) :
    LWp Try.prog f41b0_lay 3 (.loop f41b0_c1) (QBlock 0 (QSeq Try.prog f41b0_lay 3 f41b0_c0 (f41b0_Q Hc fi0 ff0 fc0 a0 z0 o))) [(0, .isl 1 (a0.map e_sl_QOp) false), (1, .fn fi0 ff0 fc0), (7, .int .i64 ((a0.map e_sl_QOp).length : Int)), (8, .int .i64 v2)] ([] ++ up 3 (Hc v3)) 4 :=
  LWp_loopM (m := m) (s := ((v2, v3) : (Int × σ))) (r := o) (fun (s : (Int × σ)) => S_slices_IndexFunc_api_QOp_b1 g0 m a0 s.1 s.2) (f41b0_L1_env Hc fi0 ff0 fc0 a0) (f41b0_L1_hp Hc fi0 ff0 fc0 a0) (f41b0_L1_Q Hc fi0 ff0 fc0 a0 z0) (fun s o h => f41b0_L1_bok hg0 h) h

noncomputable def S_slices_IndexFunc_api_QOp {σ : Type} (g0 : σ → (List G_QOp) → Option (Bool × σ)) (m : Option Nat) (a0 : List (List G_QOp)) (z0 : σ) : Option (Int × σ) :=
  S_slices_IndexFunc_api_QOp_l1 g0 m a0 0 z0

theorem f41b0_start {σ : Type} {Hc : σ → AHeap} {fi0 : Fn} {ff0 fc0 : List AVal} {g0 : σ → (List G_QOp) → Option (Bool × σ)} (hg0 : Clo Try.prog fi0 ff0 fc0 Hc (fun (x : (List G_QOp)) => [.isl 3 (x.map e_QOp) false]) (fun (b : Bool) => .bool b) g0) {a0 : List (List G_QOp)} {z0 : σ} {m : Option Nat} {o : Int × σ} (h : S_slices_IndexFunc_api_QOp g0 m a0 z0 = some o) : LWp Try.prog f41b0_lay 3 f41b0_c2 (f41b0_Q Hc fi0 ff0 fc0 a0 z0 o) (initEnv 0 [.isl 1 (a0.map e_sl_QOp) false, .fn fi0 ff0 fc0]) ([] ++ Hc z0) 3 := by
  unfold S_slices_IndexFunc_api_QOp at h
  refine LWp.sim (e := [(0, .isl 1 (a0.map e_sl_QOp) false), (1, .fn fi0 ff0 fc0)]) (L := ([] ++ up 3 (Hc z0))) (n := 4) (entryT (T := Hc z0) (e' := initEnv 0 [.isl 1 (a0.map e_sl_QOp) false, .fn fi0 ff0 fc0]) (e := [(0, .isl 1 (a0.map e_sl_QOp) false), (1, .fn fi0 ff0 fc0)]) (lit' := []) (lit := []) (hg0.tl z0) rfl rfl (And.intro (Vw.same _ rfl) (And.intro (Vw.clo hg0.hf hg0.hc (by decide) (rhoE_1 _)) trivial)) trivial) ?_
  refine seqI ?_
  refine regI ?_
  refine seqI ?_
  refine seqI ?_
  refine regI ?_
  refine blockI ?_
  refine LWp.sim ?_ (f41b0_L1_ok hg0 h)
  exact simT (M := []) (lit' := []) (hg0.tl _) rfl (And.intro (Vw.same _ rfl) (And.intro (Vw.clo hg0.hf hg0.hc (by decide) (rhoT_1 (chkT_ok (n := 4) (q := 3) (lit' := []) rfl))) (And.intro (Vw.same _ rfl) (And.intro (Vw.same _ rfl) trivial)))) trivial

theorem f41b0_ok {σ : Type} {Hc : σ → AHeap} {fi0 : Fn} {ff0 fc0 : List AVal} {g0 : σ → (List G_QOp) → Option (Bool × σ)} (hg0 : Clo Try.prog fi0 ff0 fc0 Hc (fun (x : (List G_QOp)) => [.isl 3 (x.map e_QOp) false]) (fun (b : Bool) => .bool b) g0) {a0 : List (List G_QOp)} {z0 : σ} {m : Option Nat} {o : Int × σ} (h : S_slices_IndexFunc_api_QOp g0 m a0 z0 = some o) : ACalls Try.prog 41 [.isl 1 (a0.map e_sl_QOp) false, .fn fi0 ff0 fc0] ([] ++ Hc z0) 3 (Gives 4 (.int .i64 o.1) ([] ++ up 3 (Hc o.2))) := bfn_of (L := f41b0_L) f41b0_low f41b0_fok (Nat.le_of_ble_eq_true rfl) (f41b0_start hg0 h)

def f25b0_c0 : LCode := (.seq (.region [⟨some 4, .mv (.c (.bool false)), none⟩])
 (.seq (.region [⟨some 5, .mv (.t 0), none⟩,
   ⟨some 6, .mv (.t 1), none⟩,
   ⟨some 7, .call 41 [(.t 5), (.t 6)], none⟩,
   ⟨some 8, .bin .geq (.t 7) (.c (.int .i64 0)), none⟩,
   ⟨some 4, .mv (.t 8), none⟩])
 .ret))
def f25b0_lay : Lay := ⟨9, [], false⟩
def f25b0_res : List LRes := [.t 4]
def f25b0_L : LFn := ⟨2, f25b0_lay, f25b0_c0, f25b0_res⟩
theorem f25b0_low : lowFn Try.prog [] 25 = some f25b0_L := by kernel_rfl
theorem f25b0_fok : FnOk Try.prog 25 := ⟨_, Try.func25, rfl, rfl⟩
noncomputable def S_slices_ContainsFunc_api_QOp {σ : Type} (g0 : σ → (List G_QOp) → Option (Bool × σ)) (m : Option Nat) (a0 : List (List G_QOp)) (z0 : σ) : Option (Bool × σ) :=
  (S_slices_IndexFunc_api_QOp g0 m a0 z0).bind fun v1 =>
  some ((decide (v1.1 ≥ 0)), v1.2)

def f25b0_Q {σ : Type} (Hc : σ → AHeap) (fi0 : Fn) (ff0 fc0 : List AVal) (a0 : List (List G_QOp)) (z0 : σ) (o : Bool × σ) : Exit → Env → AHeap → Nat → Prop := FinK f25b0_res (FinTo 3 4 (.bool o.1) ([] ++ up 3 (Hc o.2)))

theorem f25b0_start {σ : Type} {Hc : σ → AHeap} {fi0 : Fn} {ff0 fc0 : List AVal} {g0 : σ → (List G_QOp) → Option (Bool × σ)} (hg0 : Clo Try.prog fi0 ff0 fc0 Hc (fun (x : (List G_QOp)) => [.isl 3 (x.map e_QOp) false]) (fun (b : Bool) => .bool b) g0) {a0 : List (List G_QOp)} {z0 : σ} {m : Option Nat} {o : Bool × σ} (h : S_slices_ContainsFunc_api_QOp g0 m a0 z0 = some o) : LWp Try.prog f25b0_lay 3 f25b0_c0 (f25b0_Q Hc fi0 ff0 fc0 a0 z0 o) (initEnv 0 [.isl 1 (a0.map e_sl_QOp) false, .fn fi0 ff0 fc0]) ([] ++ Hc z0) 3 := by
  unfold S_slices_ContainsFunc_api_QOp at h
  refine LWp.sim (e := [(0, .isl 1 (a0.map e_sl_QOp) false), (1, .fn fi0 ff0 fc0)]) (L := ([] ++ up 3 (Hc z0))) (n := 4) (entryT (T := Hc z0) (e' := initEnv 0 [.isl 1 (a0.map e_sl_QOp) false, .fn fi0 ff0 fc0]) (e := [(0, .isl 1 (a0.map e_sl_QOp) false), (1, .fn fi0 ff0 fc0)]) (lit' := []) (lit := []) (hg0.tl z0) rfl rfl (And.intro (Vw.same _ rfl) (And.intro (Vw.clo hg0.hf hg0.hc (by decide) (rhoE_1 _)) trivial)) trivial) ?_
  refine seqI ?_
  refine regI ?_
  refine seqI ?_
  refine regI ?_
  obtain ⟨v1, h1, h⟩ := bind_some h
  refine bcallT (m := 1) (q := 3) (lit0 := []) (lit := []) (L := []) (L' := []) (rest := []) (R' := .int .i64 v1.1) (hg0.tl _) (hg0.tl _) [] (f41b0_ok hg0 h1) rfl rfl rfl rfl rfl rfl (And.intro (Vw.same _ rfl) (And.intro (Vw.clo hg0.hf hg0.hc (by decide) (lookT_1 _ _)) trivial)) trivial (nid_ren _ rfl) trivial rfl ?_
  refine retI ?_
  cases h
  exact And.intro trivial (finT (n' := 6) (q := 4) (lit' := []) (hg0.tl _) [] [] rfl rfl (Vw.same _ rfl) trivial)

theorem f25b0_ok {σ : Type} {Hc : σ → AHeap} {fi0 : Fn} {ff0 fc0 : List AVal} {g0 : σ → (List G_QOp) → Option (Bool × σ)} (hg0 : Clo Try.prog fi0 ff0 fc0 Hc (fun (x : (List G_QOp)) => [.isl 3 (x.map e_QOp) false]) (fun (b : Bool) => .bool b) g0) {a0 : List (List G_QOp)} {z0 : σ} {m : Option Nat} {o : Bool × σ} (h : S_slices_ContainsFunc_api_QOp g0 m a0 z0 = some o) : ACalls Try.prog 25 [.isl 1 (a0.map e_sl_QOp) false, .fn fi0 ff0 fc0] ([] ++ Hc z0) 3 (Gives 4 (.bool o.1) ([] ++ up 3 (Hc o.2))) := bfn_of (L := f25b0_L) f25b0_low f25b0_fok (Nat.le_of_ble_eq_true rfl) (f25b0_start hg0 h)

def f48b0_c0 : LCode := (.seq (.region [⟨some 3, .mv (.c (.bool false)), none⟩])
 (.seq (.region [⟨some 4, .mv (.t 0), none⟩,
   ⟨some 5, .bin .geq (.t 4) (.c (.int .i64 0)), none⟩,
   ⟨some 6, .mv (.t 5), none⟩,
   ⟨some 7, .mv (.t 0), some (6, true)⟩,
   ⟨some 8, .load false 1 (.t 1), some (6, true)⟩,
   ⟨some 9, .bin .lss (.t 7) (.t 8), some (6, true)⟩,
   ⟨some 10, .pick (.t 6) (.t 9) (.c (.bool false)), none⟩,
   ⟨some 3, .mv (.t 10), none⟩])
 .ret))
def f48b0_lay : Lay := ⟨11, [], false⟩
def f48b0_res : List LRes := [.t 3]
def f48b0_L : LFn := ⟨2, f48b0_lay, f48b0_c0, f48b0_res⟩
theorem f48b0_low : lowFn Try.prog [] 48 = some f48b0_L := by kernel_rfl
theorem f48b0_fok : FnOk Try.prog 48 := ⟨_, Try.func48, rfl, rfl⟩
noncomputable def S_querylang_operands_1 (m : Option Nat) (a0 : Int) (a1 : Int) : Option Bool :=
  some ((decide (a0 ≥ 0)) && (decide (a0 < a1)))

def f48b0_Q (a0 : Int) (a1 : Int) (o : Bool) : Exit → Env → AHeap → Nat → Prop := FinK f48b0_res (FinTo 3 3 (.bool o) [((0, 0), .one [.int .i64 a1])])

theorem f48b0_start {a0 : Int} {a1 : Int} {m : Option Nat} {o : Bool} (h : S_querylang_operands_1 m a0 a1 = some o) : LWp Try.prog f48b0_lay 3 f48b0_c0 (f48b0_Q a0 a1 o) (initEnv 0 [.int .i64 a0, .ptr (0, 0) 0 0]) [((0, 0), .one [.int .i64 a1])] 3 := by
  unfold S_querylang_operands_1 at h
  refine seqI ?_
  refine regI ?_
  refine seqI ?_
  refine regI ?_
  refine And.intro (fun hp => (And.intro hp hp)) ?_
  show yops _ _ _ [(9, .cnd ((decide (a0 ≥ 0)) == true) (.bool (decide (a0 < a1)))), (8, .cnd ((decide (a0 ≥ 0)) == true) (.int .i64 a1)), (7, .cnd ((decide (a0 ≥ 0)) == true) (.int .i64 a0)), (6, .bool (decide (a0 ≥ 0))), (5, .bool (decide (a0 ≥ 0))), (4, .int .i64 a0), (3, .bool false), (0, .int .i64 a0), (1, .ptr (0, 0) 0 0)] _ _
  refine And.intro (fun hc => (bqt hc)) ?_
  refine LWp.sim (e := [(3, .bool ((decide (a0 ≥ 0)) && (decide (a0 < a1))))]) (L := [((0, 0), .one [.int .i64 a1])]) (n := 3) ?_ ?_
  · exact simI (M := []) rfl (And.intro (Vw.same _ rfl) trivial) (And.intro (And.intro rfl (BVw.oneL (And.intro (Vw.same _ rfl) trivial))) trivial)
  refine retI ?_
  cases h
  exact And.intro trivial (finI (n' := 3) [] [] rfl rfl (Vw.same _ rfl) (And.intro (And.intro rfl (BVw.oneL (And.intro (Vw.same _ rfl) trivial))) trivial))

theorem f48b0_ok {a0 : Int} {a1 : Int} {m : Option Nat} {o : Bool} (h : S_querylang_operands_1 m a0 a1 = some o) : ACalls Try.prog 48 [.int .i64 a0, .ptr (0, 0) 0 0] [((0, 0), .one [.int .i64 a1])] 3 (Gives 3 (.bool o) [((0, 0), .one [.int .i64 a1])]) := bfn_of (L := f48b0_L) f48b0_low f48b0_fok (Nat.le_of_ble_eq_true rfl) (f48b0_start h)

def f42_c0 : LCode := (.seq (.region [⟨some 3, .box (.t 0), none⟩,
   ⟨some 4, .box (.t 1), none⟩,
   ⟨some 5, .box (.t 2), none⟩,
   ⟨some 6, .mv (.c (.int .i64 0)), none⟩,
   ⟨some 7, .mv (.c (.bool false)), none⟩])
 (.seq (.region [⟨some 9, .mkfn (.func 48) [] [(.t 4)], none⟩,
   ⟨some 8, .mv (.t 9), none⟩])
 (.seq (.seq (.region [⟨some 10, .faddr 0 (.t 5), none⟩,
   ⟨some 11, .load false 1 (.t 10), none⟩])
 (.block 0
  (.seq (.region [⟨some 13, .bin .eql (.t 11) (.c (.int .i64 1)), none⟩,
    ⟨some 12, .mv (.t 13), none⟩])
  (.cond (.t 12)
   (.seq (.quiet [⟨some 14, .faddr 2 (.t 5), none⟩,
     ⟨some 15, .load false 1 (.t 14), none⟩,
     ⟨some 16, .bin .eql (.t 15) (.c (.int .i64 0)), none⟩,
     ⟨some 6, .mv (.c (.int .i64 0)), none⟩,
     ⟨some 7, .mv (.t 16), none⟩])
   .ret)
   (.seq (.region [⟨some 18, .bin .eql (.t 11) (.c (.int .i64 2)), none⟩,
     ⟨some 17, .mv (.t 18), none⟩])
   (.cond (.t 17)
    (.seq (.quiet [⟨some 19, .faddr 2 (.t 5), none⟩,
      ⟨some 20, .load false 1 (.t 19), none⟩,
      ⟨some 21, .bin .eql (.t 20) (.c (.int .i64 0)), none⟩,
      ⟨some 22, .mv (.t 21), none⟩,
      ⟨some 23, .faddr 1 (.t 5), some (22, true)⟩,
      ⟨some 24, .load false 1 (.t 23), some (22, true)⟩,
      ⟨some 25, .bin .geq (.t 24) (.c (.int .i64 0)), some (22, true)⟩,
      ⟨some 26, .pick (.t 22) (.t 25) (.c (.bool false)), none⟩,
      ⟨some 27, .mv (.t 26), none⟩,
      ⟨some 28, .faddr 1 (.t 5), some (27, true)⟩,
      ⟨some 29, .load false 1 (.t 28), some (27, true)⟩,
      ⟨some 30, .faddr 0 (.t 3), some (27, true)⟩,
      ⟨some 31, .load false 1 (.t 30), some (27, true)⟩,
      ⟨some 32, .bin .lss (.t 29) (.t 31), some (27, true)⟩,
      ⟨some 33, .pick (.t 27) (.t 32) (.c (.bool false)), none⟩,
      ⟨some 6, .mv (.c (.int .i64 0)), none⟩,
      ⟨some 7, .mv (.t 33), none⟩])
    .ret)
    (.seq (.region [⟨some 35, .bin .eql (.t 11) (.c (.int .i64 3)), none⟩,
      ⟨some 34, .mv (.t 35), none⟩])
    (.cond (.t 34)
     (.seq (.region [⟨some 36, .faddr 2 (.t 5), none⟩,
       ⟨some 37, .load false 1 (.t 36), none⟩,
       ⟨some 38, .bin .eql (.t 37) (.c (.int .i64 0)), none⟩,
       ⟨some 39, .mv (.t 38), none⟩,
       ⟨some 40, .mv (.t 8), some (39, true)⟩,
       ⟨some 41, .faddr 1 (.t 5), some (39, true)⟩,
       ⟨some 42, .load false 1 (.t 41), some (39, true)⟩,
       ⟨some 43, .callv (.t 40) [(.t 42)], some (39, true)⟩,
       ⟨some 44, .pick (.t 39) (.t 43) (.c (.bool false)), none⟩,
       ⟨some 6, .mv (.c (.int .i64 0)), none⟩,
       ⟨some 7, .mv (.t 44), none⟩])
     .ret)
     (.seq (.region [⟨some 46, .bin .eql (.t 11) (.c (.int .i64 4)), none⟩,
       ⟨some 45, .mv (.t 46), none⟩])
     (.cond (.t 45)
      (.seq (.quiet [⟨some 47, .faddr 1 (.t 5), none⟩,
        ⟨some 48, .load false 1 (.t 47), none⟩,
        ⟨some 49, .bin .eql (.t 48) (.c (.int .i64 0)), none⟩,
        ⟨some 50, .mv (.t 49), none⟩,
        ⟨some 51, .faddr 2 (.t 5), some (50, true)⟩,
        ⟨some 52, .load false 1 (.t 51), some (50, true)⟩,
        ⟨some 53, .bin .eql (.t 52) (.c (.int .i64 0)), some (50, true)⟩,
        ⟨some 54, .pick (.t 50) (.t 53) (.c (.bool false)), none⟩,
        ⟨some 55, .mv (.t 54), none⟩,
        ⟨some 56, .load false 1 (.t 4), some (55, true)⟩,
        ⟨some 57, .bin .gtr (.t 56) (.c (.int .i64 0)), some (55, true)⟩,
        ⟨some 58, .pick (.t 55) (.t 57) (.c (.bool false)), none⟩,
        ⟨some 6, .mv (.c (.int .i64 1)), none⟩,
        ⟨some 7, .mv (.t 58), none⟩])
      .ret)
      (.seq (.region [⟨some 60, .bin .eql (.t 11) (.c (.int .i64 5)), none⟩,
        ⟨some 59, .mv (.t 60), none⟩])
      (.cond (.t 59)
       (.seq (.region [⟨some 61, .mv (.t 8), none⟩,
         ⟨some 62, .faddr 1 (.t 5), none⟩,
         ⟨some 63, .load false 1 (.t 62), none⟩,
         ⟨some 64, .callv (.t 61) [(.t 63)], none⟩,
         ⟨some 65, .mv (.t 64), none⟩,
         ⟨some 66, .mv (.t 8), some (65, true)⟩,
         ⟨some 67, .faddr 2 (.t 5), some (65, true)⟩,
         ⟨some 68, .load false 1 (.t 67), some (65, true)⟩,
         ⟨some 69, .callv (.t 66) [(.t 68)], some (65, true)⟩,
         ⟨some 70, .pick (.t 65) (.t 69) (.c (.bool false)), none⟩,
         ⟨some 6, .mv (.c (.int .i64 1)), none⟩,
         ⟨some 7, .mv (.t 70), none⟩])
       .ret)
       .skip))))))))))))
 (.seq (.quiet [⟨some 71, .faddr 1 (.t 5), none⟩,
   ⟨some 72, .load false 1 (.t 71), none⟩,
   ⟨some 73, .bin .eql (.t 72) (.c (.int .i64 0)), none⟩,
   ⟨some 74, .mv (.t 73), none⟩,
   ⟨some 75, .faddr 2 (.t 5), some (74, true)⟩,
   ⟨some 76, .load false 1 (.t 75), some (74, true)⟩,
   ⟨some 77, .bin .eql (.t 76) (.c (.int .i64 0)), some (74, true)⟩,
   ⟨some 78, .pick (.t 74) (.t 77) (.c (.bool false)), none⟩,
   ⟨some 6, .mv (.c (.int .i64 2)), none⟩,
   ⟨some 7, .mv (.t 78), none⟩])
 .ret))))
def f42_lay : Lay := ⟨79, [], false⟩
def f42_res : List LRes := [.t 6, .t 7]
def f42_L : LFn := ⟨3, f42_lay, f42_c0, f42_res⟩
theorem f42_low : lowFn Try.prog [] 42 = some f42_L := by kernel_rfl
theorem f42_fok : FnOk Try.prog 42 := ⟨_, Try.func42, rfl, rfl⟩
noncomputable def S_querylang_operands (m : Option Nat) (a0 : G_QProgram) (a1 : Int) (a2 : G_QOp) : Option (Int × Bool) :=
  if (a2.f_Op == 1) = true then
    some (0, (a2.f_B == 0))
  else
    if (a2.f_Op == 2) = true then
      some (0, (((a2.f_B == 0) && (decide (a2.f_A ≥ 0))) && (decide (a2.f_A < a0.f_Inputs))))
    else
      if (a2.f_Op == 3) = true then
        (if ((a2.f_B == 0) == true) = true then S_querylang_operands_1 m a2.f_A a1 else some default).bind fun v1 =>
        some (0, ((a2.f_B == 0) && v1))
      else
        if (a2.f_Op == 4) = true then
          some (1, (((a2.f_A == 0) && (a2.f_B == 0)) && (decide (a1 > 0))))
        else
          if (a2.f_Op == 5) = true then
            (S_querylang_operands_1 m a2.f_A a1).bind fun v2 =>
            (if (v2 == true) = true then S_querylang_operands_1 m a2.f_B a1 else some default).bind fun v3 =>
            some (1, (v2 && v3))
          else
            some (2, ((a2.f_A == 0) && (a2.f_B == 0)))

def f42_Q (a0 : G_QProgram) (a1 : Int) (a2 : G_QOp) (o : Int × Bool) : Exit → Env → AHeap → Nat → Prop := FinK f42_res (PureEnd (.tup [.int .i64 o.1, .bool o.2]))

theorem f42_start {a0 : G_QProgram} {a1 : Int} {a2 : G_QOp} {m : Option Nat} {o : Int × Bool} (h : S_querylang_operands m a0 a1 a2 = some o) : LWp Try.prog f42_lay 0 f42_c0 (f42_Q a0 a1 a2 o) (initEnv 0 [.agg [.int .i64 a0.f_Inputs, .isl 1 (a0.f_Queries.map e_sl_QOp) false], .int .i64 a1, .agg [.int .i64 a2.f_Op, .int .i64 a2.f_A, .int .i64 a2.f_B]]) [] 0 := by
  unfold S_querylang_operands at h
  refine seqI ?_
  refine regI ?_
  refine seqI ?_
  refine regI ?_
  refine seqI ?_
  refine seqI ?_
  refine regI ?_
  refine LWp.sim (e := [(3, .ptr (0, 0) 0 0), (4, .ptr (1, 0) 0 0), (5, .ptr (2, 0) 0 0), (8, .fn (.func 48) [] [.ptr (1, 0) 0 0]), (11, .int .i64 a2.f_Op)]) (L := [((0, 0), .one [.int .i64 a0.f_Inputs, .isl 1 (a0.f_Queries.map e_sl_QOp) false]), ((1, 0), .one [.int .i64 a1]), ((2, 0), .one [.int .i64 a2.f_Op, .int .i64 a2.f_A, .int .i64 a2.f_B])]) (n := 3) ?_ ?_
  · exact simI (M := [((0, 0), (0, 0)), ((1, 0), (1, 0)), ((2, 0), (2, 0))]) rfl (And.intro (Vw.ptr _ _ _ _ rfl) (And.intro (Vw.ptr _ _ _ _ rfl) (And.intro (Vw.ptr _ _ _ _ rfl) (And.intro (Vw.fnL trivial (And.intro (Vw.ptr _ _ _ _ rfl) trivial)) (And.intro (Vw.same _ rfl) trivial))))) (And.intro (And.intro rfl (BVw.oneL (And.intro (Vw.same _ rfl) (And.intro (Vw.same _ rfl) trivial)))) (And.intro (And.intro rfl (BVw.oneL (And.intro (Vw.same _ rfl) trivial))) (And.intro (And.intro rfl (BVw.oneL (And.intro (Vw.same _ rfl) (And.intro (Vw.same _ rfl) (And.intro (Vw.same _ rfl) trivial))))) trivial)))
  refine blockI ?_
  refine seqI ?_
  refine regI ?_
  refine condI (v := (a2.f_Op == 1)) rfl trivial (fun h1 => ?_) (fun h1 => ?_)
  · have h := ite_tt h1 h
    refine seqI ?_
    refine quietI ?_
    refine retI ?_
    cases h
    exact And.intro trivial (And.intro trivial (And.intro rfl (Vw.same _ rfl)))
  · have h := ite_ff h1 h
    refine seqI ?_
    refine regI ?_
    refine condI (v := (a2.f_Op == 2)) rfl trivial (fun h2 => ?_) (fun h2 => ?_)
    · have h := ite_tt h2 h
      refine seqI ?_
      refine quietI ?_
      refine And.intro (fun hp => hp) ?_
      show yqs _ _ [(24, .cnd ((a2.f_B == 0) == true) (.int .i64 a2.f_A)), (23, .cnd ((a2.f_B == 0) == true) (.ptr (2, 0) 0 1)), (22, .bool (a2.f_B == 0)), (21, .bool (a2.f_B == 0)), (20, .int .i64 a2.f_B), (19, .ptr (2, 0) 0 2), (17, .bool (a2.f_Op == 2)), (18, .bool (a2.f_Op == 2)), (12, .bool (a2.f_Op == 1)), (13, .bool (a2.f_Op == 1)), (3, .ptr (0, 0) 0 0), (4, .ptr (1, 0) 0 0), (5, .ptr (2, 0) 0 0), (8, .fn (.func 48) [] [.ptr (1, 0) 0 0]), (11, .int .i64 a2.f_Op)] _ _
      refine And.intro (fun hp => hp) ?_
      refine And.intro (fun hc => (bqt hc)) ?_
      refine And.intro (fun hp => hp) ?_
      show yqs _ _ [(29, .cnd (((a2.f_B == 0) && (decide (a2.f_A ≥ 0))) == true) (.int .i64 a2.f_A)), (28, .cnd (((a2.f_B == 0) && (decide (a2.f_A ≥ 0))) == true) (.ptr (2, 0) 0 1)), (27, .bool ((a2.f_B == 0) && (decide (a2.f_A ≥ 0)))), (26, .bool ((a2.f_B == 0) && (decide (a2.f_A ≥ 0)))), (25, .cnd ((a2.f_B == 0) == true) (.bool (decide (a2.f_A ≥ 0)))), (24, .cnd ((a2.f_B == 0) == true) (.int .i64 a2.f_A)), (23, .cnd ((a2.f_B == 0) == true) (.ptr (2, 0) 0 1)), (22, .bool (a2.f_B == 0)), (21, .bool (a2.f_B == 0)), (20, .int .i64 a2.f_B), (19, .ptr (2, 0) 0 2), (17, .bool (a2.f_Op == 2)), (18, .bool (a2.f_Op == 2)), (12, .bool (a2.f_Op == 1)), (13, .bool (a2.f_Op == 1)), (3, .ptr (0, 0) 0 0), (4, .ptr (1, 0) 0 0), (5, .ptr (2, 0) 0 0), (8, .fn (.func 48) [] [.ptr (1, 0) 0 0]), (11, .int .i64 a2.f_Op)] _ _
      refine And.intro (fun hp => hp) ?_
      refine And.intro (fun hp => (And.intro hp hp)) ?_
      refine And.intro (fun hc => (bqt hc)) ?_
      refine LWp.sim (e := [(6, .int .i64 0), (7, .bool (((a2.f_B == 0) && (decide (a2.f_A ≥ 0))) && (decide (a2.f_A < a0.f_Inputs))))]) (L := []) (n := 0) ?_ ?_
      · exact simI (M := []) rfl (And.intro (Vw.same _ rfl) (And.intro (Vw.same _ rfl) trivial)) trivial
      refine retI ?_
      cases h
      exact And.intro trivial (And.intro trivial (And.intro rfl (Vw.same _ rfl)))
    · have h := ite_ff h2 h
      refine seqI ?_
      refine regI ?_
      refine condI (v := (a2.f_Op == 3)) rfl trivial (fun h3 => ?_) (fun h3 => ?_)
      · have h := ite_tt h3 h
        refine seqI ?_
        refine regI ?_
        refine And.intro (fun hp => hp) ?_
        show yops _ _ _ [(42, .cnd ((a2.f_B == 0) == true) (.int .i64 a2.f_A)), (41, .cnd ((a2.f_B == 0) == true) (.ptr (2, 0) 0 1)), (40, .cnd ((a2.f_B == 0) == true) (.fn (.func 48) [] [.ptr (1, 0) 0 0])), (39, .bool (a2.f_B == 0)), (38, .bool (a2.f_B == 0)), (37, .int .i64 a2.f_B), (36, .ptr (2, 0) 0 2), (34, .bool (a2.f_Op == 3)), (35, .bool (a2.f_Op == 3)), (17, .bool (a2.f_Op == 2)), (18, .bool (a2.f_Op == 2)), (12, .bool (a2.f_Op == 1)), (13, .bool (a2.f_Op == 1)), (3, .ptr (0, 0) 0 0), (4, .ptr (1, 0) 0 0), (5, .ptr (2, 0) 0 0), (8, .fn (.func 48) [] [.ptr (1, 0) 0 0]), (11, .int .i64 a2.f_Op)] _ _
        obtain ⟨v1, h4, h⟩ := bind_some h
        refine Or.inl (Exists.intro (.bool v1) (And.intro (fun hp => And.intro (And.intro hp hp) (ACalls.same rfl (bcall (k := 3) (m := 0) (L' := [((1, 0), .one [.int .i64 a1])]) (rest := [((0, 0), .one [.int .i64 a0.f_Inputs, .isl 1 (a0.f_Queries.map e_sl_QOp) false]), ((2, 0), .one [.int .i64 a2.f_Op, .int .i64 a2.f_A, .int .i64 a2.f_B])]) (R' := .bool v1) [((0, 0), (1, 0))] (f48b0_ok (ite_tt hp h4)) rfl rfl rfl (And.intro (Vw.same _ rfl) (And.intro (Vw.ptr _ _ _ _ rfl) trivial)) (And.intro (h0I (1, 0) rfl rfl (BVw.oneL (And.intro (Vw.same _ rfl) trivial))) trivial) (nid_ren _ rfl) (And.intro rfl (And.intro rfl trivial)) rfl (And.intro rfl (HeapTo.get (And.intro (And.intro rfl (BVw.oneL (And.intro (Vw.same _ rfl) (And.intro (Vw.same _ rfl) trivial)))) (And.intro (And.intro rfl (BVw.oneL (And.intro (Vw.same _ rfl) trivial))) (And.intro (And.intro rfl (BVw.oneL (And.intro (Vw.same _ rfl) (And.intro (Vw.same _ rfl) (And.intro (Vw.same _ rfl) trivial))))) trivial)))))))) ?_))
        refine And.intro (fun hc => (bqt hc)) ?_
        refine LWp.sim (e := [(6, .int .i64 0), (7, .bool ((a2.f_B == 0) && v1))]) (L := []) (n := 0) ?_ ?_
        · exact simI (M := []) rfl (And.intro (Vw.same _ rfl) (And.intro (Vw.same _ rfl) trivial)) trivial
        refine retI ?_
        cases h
        exact And.intro trivial (And.intro trivial (And.intro rfl (Vw.same _ rfl)))
      · have h := ite_ff h3 h
        refine seqI ?_
        refine regI ?_
        refine LWp.sim (e := [(4, .ptr (0, 0) 0 0), (5, .ptr (1, 0) 0 0), (8, .fn (.func 48) [] [.ptr (0, 0) 0 0]), (11, .int .i64 a2.f_Op), (45, .bool (a2.f_Op == 4))]) (L := [((0, 0), .one [.int .i64 a1]), ((1, 0), .one [.int .i64 a2.f_Op, .int .i64 a2.f_A, .int .i64 a2.f_B])]) (n := 2) ?_ ?_
        · exact simI (M := [((0, 0), (1, 0)), ((1, 0), (2, 0))]) rfl (And.intro (Vw.ptr _ _ _ _ rfl) (And.intro (Vw.ptr _ _ _ _ rfl) (And.intro (Vw.fnL trivial (And.intro (Vw.ptr _ _ _ _ rfl) trivial)) (And.intro (Vw.same _ rfl) (And.intro (Vw.same _ rfl) trivial))))) (And.intro (And.intro rfl (BVw.oneL (And.intro (Vw.same _ rfl) trivial))) (And.intro (And.intro rfl (BVw.oneL (And.intro (Vw.same _ rfl) (And.intro (Vw.same _ rfl) (And.intro (Vw.same _ rfl) trivial))))) trivial))
        refine condI (v := (a2.f_Op == 4)) rfl trivial (fun h5 => ?_) (fun h5 => ?_)
        · have h := ite_tt h5 h
          refine seqI ?_
          refine quietI ?_
          refine And.intro (fun hp => hp) ?_
          show yqs _ _ [(52, .cnd ((a2.f_A == 0) == true) (.int .i64 a2.f_B)), (51, .cnd ((a2.f_A == 0) == true) (.ptr (1, 0) 0 2)), (50, .bool (a2.f_A == 0)), (49, .bool (a2.f_A == 0)), (48, .int .i64 a2.f_A), (47, .ptr (1, 0) 0 1), (4, .ptr (0, 0) 0 0), (5, .ptr (1, 0) 0 0), (8, .fn (.func 48) [] [.ptr (0, 0) 0 0]), (11, .int .i64 a2.f_Op), (45, .bool (a2.f_Op == 4))] _ _
          refine And.intro (fun hp => hp) ?_
          refine And.intro (fun hc => (bqt hc)) ?_
          refine And.intro (fun hp => hp) ?_
          show yqs _ _ [(57, .cnd (((a2.f_A == 0) && (a2.f_B == 0)) == true) (.bool (decide (a1 > 0)))), (56, .cnd (((a2.f_A == 0) && (a2.f_B == 0)) == true) (.int .i64 a1)), (55, .bool ((a2.f_A == 0) && (a2.f_B == 0))), (54, .bool ((a2.f_A == 0) && (a2.f_B == 0))), (53, .cnd ((a2.f_A == 0) == true) (.bool (a2.f_B == 0))), (52, .cnd ((a2.f_A == 0) == true) (.int .i64 a2.f_B)), (51, .cnd ((a2.f_A == 0) == true) (.ptr (1, 0) 0 2)), (50, .bool (a2.f_A == 0)), (49, .bool (a2.f_A == 0)), (48, .int .i64 a2.f_A), (47, .ptr (1, 0) 0 1), (4, .ptr (0, 0) 0 0), (5, .ptr (1, 0) 0 0), (8, .fn (.func 48) [] [.ptr (0, 0) 0 0]), (11, .int .i64 a2.f_Op), (45, .bool (a2.f_Op == 4))] _ _
          refine And.intro (fun hc => (bqt hc)) ?_
          refine LWp.sim (e := [(6, .int .i64 1), (7, .bool (((a2.f_A == 0) && (a2.f_B == 0)) && (decide (a1 > 0))))]) (L := []) (n := 0) ?_ ?_
          · exact simI (M := []) rfl (And.intro (Vw.same _ rfl) (And.intro (Vw.same _ rfl) trivial)) trivial
          refine retI ?_
          cases h
          exact And.intro trivial (And.intro trivial (And.intro rfl (Vw.same _ rfl)))
        · have h := ite_ff h5 h
          refine seqI ?_
          refine regI ?_
          refine condI (v := (a2.f_Op == 5)) rfl trivial (fun h6 => ?_) (fun h6 => ?_)
          · have h := ite_tt h6 h
            refine seqI ?_
            refine regI ?_
            obtain ⟨v2, h7, h⟩ := bind_some h
            refine bcall (k := 3) (m := 0) (L' := [((0, 0), .one [.int .i64 a1])]) (rest := [((1, 0), .one [.int .i64 a2.f_Op, .int .i64 a2.f_A, .int .i64 a2.f_B])]) (R' := .bool v2) [((0, 0), (0, 0))] (f48b0_ok h7) rfl rfl rfl (And.intro (Vw.same _ rfl) (And.intro (Vw.ptr _ _ _ _ rfl) trivial)) (And.intro (h0I (0, 0) rfl rfl (BVw.oneL (And.intro (Vw.same _ rfl) trivial))) trivial) (nid_ren _ rfl) (And.intro rfl (And.intro rfl trivial)) rfl ?_
            show yops _ _ _ [(64, .bool v2), (63, .int .i64 a2.f_A), (62, .ptr (1, 0) 0 1), (61, .fn (.func 48) [] [.ptr (0, 0) 0 0]), (59, .bool (a2.f_Op == 5)), (60, .bool (a2.f_Op == 5)), (4, .ptr (0, 0) 0 0), (5, .ptr (1, 0) 0 0), (8, .fn (.func 48) [] [.ptr (0, 0) 0 0]), (11, .int .i64 a2.f_Op), (45, .bool (a2.f_Op == 4))] _ _
            refine And.intro (fun hp => hp) ?_
            obtain ⟨v3, h8, h⟩ := bind_some h
            refine Or.inl (Exists.intro (.bool v3) (And.intro (fun hp => And.intro (And.intro hp hp) (ACalls.same rfl (bcall (k := 3) (m := 0) (L' := [((0, 0), .one [.int .i64 a1])]) (rest := [((1, 0), .one [.int .i64 a2.f_Op, .int .i64 a2.f_A, .int .i64 a2.f_B])]) (R' := .bool v3) [((0, 0), (0, 0))] (f48b0_ok (ite_tt hp h8)) rfl rfl rfl (And.intro (Vw.same _ rfl) (And.intro (Vw.ptr _ _ _ _ rfl) trivial)) (And.intro (h0I (0, 0) rfl rfl (BVw.oneL (And.intro (Vw.same _ rfl) trivial))) trivial) (nid_ren _ rfl) (And.intro rfl (And.intro rfl trivial)) rfl (And.intro rfl (HeapTo.get (And.intro (And.intro rfl (BVw.oneL (And.intro (Vw.same _ rfl) trivial))) (And.intro (And.intro rfl (BVw.oneL (And.intro (Vw.same _ rfl) (And.intro (Vw.same _ rfl) (And.intro (Vw.same _ rfl) trivial))))) trivial))))))) ?_))
            refine And.intro (fun hc => (bqt hc)) ?_
            show yops _ _ _ [(70, .bool (v2 && v3)), (69, .cnd (v2 == true) (.bool v3)), (68, .cnd (v2 == true) (.int .i64 a2.f_B)), (67, .cnd (v2 == true) (.ptr (1, 0) 0 2)), (66, .cnd (v2 == true) (.fn (.func 48) [] [.ptr (0, 0) 0 0])), (65, .bool v2), (64, .bool v2), (63, .int .i64 a2.f_A), (62, .ptr (1, 0) 0 1), (61, .fn (.func 48) [] [.ptr (0, 0) 0 0]), (59, .bool (a2.f_Op == 5)), (60, .bool (a2.f_Op == 5)), (4, .ptr (0, 0) 0 0), (5, .ptr (1, 0) 0 0), (8, .fn (.func 48) [] [.ptr (0, 0) 0 0]), (11, .int .i64 a2.f_Op), (45, .bool (a2.f_Op == 4))] _ _
            refine LWp.sim (e := [(6, .int .i64 1), (7, .bool (v2 && v3))]) (L := []) (n := 0) ?_ ?_
            · exact simI (M := []) rfl (And.intro (Vw.same _ rfl) (And.intro (Vw.same _ rfl) trivial)) trivial
            refine retI ?_
            cases h
            exact And.intro trivial (And.intro trivial (And.intro rfl (Vw.same _ rfl)))
          · have h := ite_ff h6 h
            refine skipI ?_
            refine seqI ?_
            refine quietI ?_
            refine And.intro (fun hp => hp) ?_
            show yqs _ _ [(76, .cnd ((a2.f_A == 0) == true) (.int .i64 a2.f_B)), (75, .cnd ((a2.f_A == 0) == true) (.ptr (1, 0) 0 2)), (74, .bool (a2.f_A == 0)), (73, .bool (a2.f_A == 0)), (72, .int .i64 a2.f_A), (71, .ptr (1, 0) 0 1), (59, .bool (a2.f_Op == 5)), (60, .bool (a2.f_Op == 5)), (4, .ptr (0, 0) 0 0), (5, .ptr (1, 0) 0 0), (8, .fn (.func 48) [] [.ptr (0, 0) 0 0]), (11, .int .i64 a2.f_Op), (45, .bool (a2.f_Op == 4))] _ _
            refine And.intro (fun hp => hp) ?_
            refine And.intro (fun hc => (bqt hc)) ?_
            refine LWp.sim (e := [(6, .int .i64 2), (7, .bool ((a2.f_A == 0) && (a2.f_B == 0)))]) (L := []) (n := 0) ?_ ?_
            · exact simI (M := []) rfl (And.intro (Vw.same _ rfl) (And.intro (Vw.same _ rfl) trivial)) trivial
            refine retI ?_
            cases h
            exact And.intro trivial (And.intro trivial (And.intro rfl (Vw.same _ rfl)))

theorem f42_ok {a0 : G_QProgram} {a1 : Int} {a2 : G_QOp} {m : Option Nat} {o : Int × Bool} (h : S_querylang_operands m a0 a1 a2 = some o) : PFn Try.prog 42 [.agg [.int .i64 a0.f_Inputs, .isl 1 (a0.f_Queries.map e_sl_QOp) false], .int .i64 a1, .agg [.int .i64 a2.f_Op, .int .i64 a2.f_A, .int .i64 a2.f_B]] (.tup [.int .i64 o.1, .bool o.2]) := PFn.ofFnW (L := f42_L) f42_low f42_fok (Nat.le_of_ble_eq_true rfl) rfl (f42_start h)

def f26_c1 : LCode := (.seq (.region [⟨some 17, .bin .lss (.t 16) (.t 15), none⟩])
 (.seq (.cond (.t 17)
  .skip
  (.exit 0))
 (.seq (.block 1
  (.seq (.region [⟨some 18, .iaddr 3 (.t 14) (.t 16), none⟩,
    ⟨some 19, .load true 3 (.t 18), none⟩,
    ⟨some 7, .alloc [(.int .i64 0), (.int .i64 0), (.int .i64 0)], none⟩,
    ⟨none, .store 3 (.t 7) (.t 19), none⟩])
  (.seq (.seq (.region [⟨some 20, .faddr 0 (.t 7), none⟩,
    ⟨some 21, .load false 1 (.t 20), none⟩,
    ⟨some 22, .bin .lss (.t 21) (.c (.int .i64 1)), none⟩,
    ⟨some 23, .mv (.t 22), none⟩,
    ⟨some 24, .faddr 0 (.t 7), some (23, false)⟩,
    ⟨some 25, .load false 1 (.t 24), some (23, false)⟩,
    ⟨some 26, .bin .geq (.t 25) (.c (.int .i64 12)), some (23, false)⟩,
    ⟨some 27, .pick (.t 23) (.c (.bool true)) (.t 26), none⟩])
  (.cond (.t 27)
   (.seq (.region [⟨some 4, .mv (.c (.int .i64 7)), none⟩])
   .ret)
   .skip))
  (.seq (.region [⟨some 29, .load true 2 (.t 2), none⟩,
    ⟨some 30, .mv (.t 1), none⟩,
    ⟨some 31, .load true 3 (.t 7), none⟩,
    ⟨some 32, .call 42 [(.t 29), (.t 30), (.t 31)], none⟩,
    ⟨some 28, .mv (.t 32), none⟩,
    ⟨some 33, .ext 0 (.t 28), none⟩,
    ⟨some 34, .ext 1 (.t 28), none⟩,
    ⟨some 8, .mv (.t 33), none⟩,
    ⟨some 9, .mv (.t 34), none⟩])
  (.seq (.seq (.region [⟨some 35, .mv (.t 9), none⟩,
    ⟨some 36, .un .not (.t 35), none⟩,
    ⟨some 37, .mv (.t 36), none⟩,
    ⟨some 38, .mv (.t 5), some (37, false)⟩,
    ⟨some 39, .mv (.t 8), some (37, false)⟩,
    ⟨some 40, .bin .lss (.t 38) (.t 39), some (37, false)⟩,
    ⟨some 41, .pick (.t 37) (.c (.bool true)) (.t 40), none⟩])
  (.cond (.t 41)
   (.seq (.region [⟨some 4, .mv (.c (.int .i64 3)), none⟩])
   .ret)
   .skip))
  (.region [⟨some 42, .mv (.t 5), none⟩,
    ⟨some 43, .mv (.t 8), none⟩,
    ⟨some 44, .bin .sub (.c (.int .i64 1)) (.t 43), none⟩,
    ⟨some 45, .bin .add (.t 42) (.t 44), none⟩,
    ⟨some 5, .mv (.t 45), none⟩]))))))
 (.region [⟨some 46, .bin .add (.t 16) (.c (.int .i64 1)), none⟩,
   ⟨some 16, .mv (.t 46), none⟩]))))
def f26_c0 : LCode := (.seq (.seq (.region [⟨some 47, .mv (.t 5), none⟩,
   ⟨some 48, .bin .neq (.t 47) (.c (.int .i64 1)), none⟩])
 (.cond (.t 48)
  (.seq (.region [⟨some 4, .mv (.c (.int .i64 3)), none⟩])
  .ret)
  .skip))
 (.seq (.region [⟨some 4, .mv (.c (.int .i64 0)), none⟩])
 .ret))
def f26_c2 : LCode := (.seq (.region [⟨some 2, .box (.t 0), none⟩,
   ⟨some 4, .mv (.c (.int .i64 0)), none⟩])
 (.seq (.region [⟨some 5, .mv (.c (.int .i64 0)), none⟩])
 (.seq (.seq (.region [⟨some 10, .faddr 1 (.t 2), none⟩,
   ⟨some 11, .load false 1 (.t 10), none⟩,
   ⟨some 12, .mv (.t 1), none⟩,
   ⟨some 13, .iaddr 1 (.t 11) (.t 12), none⟩,
   ⟨some 14, .load false 1 (.t 13), none⟩,
   ⟨some 15, .len false (.t 14), none⟩,
   ⟨some 16, .mv (.c (.int .i64 0)), none⟩])
 (.block 0
  (.loop
   f26_c1)))
 f26_c0)))
def f26_lay : Lay := ⟨49, [], false⟩
def f26_res : List LRes := [.t 4]
def f26_L : LFn := ⟨2, f26_lay, f26_c2, f26_res⟩
theorem f26_low : lowFn Try.prog [] 26 = some f26_L := by kernel_rfl
theorem f26_fok : FnOk Try.prog 26 := ⟨_, Try.func26, rfl, rfl⟩
def f26_Q (a0 : G_QProgram) (a1 : Int) (o : Int) : Exit → Env → AHeap → Nat → Prop := FinK f26_res (PureEnd (.int .i64 o))

def f26_L1_env (a0 : G_QProgram) (a1 : Int) (s : (Int × Int)) : Env := [(1, .int .i64 a1), (2, .ptr (0, 0) 0 0), (5, .int .i64 s.1), (14, .isl 3 ((a0.f_Queries.getD a1.toNat default).map e_QOp) false), (15, .int .i64 (((a0.f_Queries.getD a1.toNat default).map e_QOp).length : Int)), (16, .int .i64 s.2)]
def f26_L1_hp (a0 : G_QProgram) (a1 : Int) (s : (Int × Int)) : AHeap := [((0, 0), .one [.int .i64 a0.f_Inputs, .isl 1 (a0.f_Queries.map e_sl_QOp) false])]
def f26_L1_Q (a0 : G_QProgram) (a1 : Int) (o : Int) : Exit → Env → AHeap → Nat → Prop := (QBlock 0 (QSeq Try.prog f26_lay 0 f26_c0 (f26_Q a0 a1 o)))

noncomputable def S_querylang_checkQuery_j1 (m : Option Nat) (v2 : Int) : Option Int :=
  if (v2 != 1) = true then
    some 3
  else
    some 0

noncomputable def S_querylang_checkQuery_b1 (m : Option Nat) (a0 : G_QProgram) (a1 : Int) (v2 : Int) (v3 : Int) : Option ((Int × Int) ⊕ Int) :=
  if (decide (v3 < (((a0.f_Queries.getD a1.toNat default).map e_QOp).length : Int))) = true then
    if (0 : Int) ≤ v3 ∧ v3 < (((a0.f_Queries.getD a1.toNat default).map e_QOp).length : Int) then
    if ((decide (((a0.f_Queries.getD a1.toNat default).getD v3.toNat default).f_Op < 1)) || (decide (((a0.f_Queries.getD a1.toNat default).getD v3.toNat default).f_Op ≥ 12))) = true then
      Option.map Sum.inr (
        some 7)
    else
      (S_querylang_operands m a0 a1 (G_QOp.mk (((a0.f_Queries.getD a1.toNat default).getD v3.toNat default).f_Op) (((a0.f_Queries.getD a1.toNat default).getD v3.toNat default).f_A) (((a0.f_Queries.getD a1.toNat default).getD v3.toNat default).f_B))).bind fun v5 =>
      if ((!v5.2) || (decide (v2 < v5.1))) = true then
        Option.map Sum.inr (
          some 3)
      else
        some (.inl ((W (v2 + (W ((1 : Int) - v5.1)))), (W (v3 + 1))))
    else none
  else
    Option.map Sum.inr (
      S_querylang_checkQuery_j1 m v2)

noncomputable def S_querylang_checkQuery_l1 (m : Option Nat) (a0 : G_QProgram) (a1 : Int) (v2 : Int) (v3 : Int) : Option Int := loopM m (fun (s : (Int × Int)) => S_querylang_checkQuery_b1 m a0 a1 s.1 s.2) (v2, v3)

theorem f26_j1_ok {a0 : G_QProgram} {a1 : Int} {v2 : Int} {m : Option Nat} {o : Int} (h : S_querylang_checkQuery_j1 m v2 = some o) :
    LWp Try.prog f26_lay 0 f26_c0 (f26_Q a0 a1 o) [(5, .int .i64 v2)] [] 0 := by
  unfold S_querylang_checkQuery_j1 at h
  refine seqI ?_
  refine seqI ?_
  refine regI ?_
  refine condI (v := (v2 != 1)) rfl trivial (fun h17 => ?_) (fun h17 => ?_)
  · have h := ite_tt h17 h
    refine seqI ?_
    refine regI ?_
    refine retI ?_
    cases h
    exact And.intro trivial (And.intro rfl (Vw.same _ rfl))
  · have h := ite_ff h17 h
    refine skipI ?_
    refine seqI ?_
    refine regI ?_
    refine retI ?_
    cases h
    exact And.intro trivial (And.intro rfl (Vw.same _ rfl))

theorem f26_L1_bok {a0 : G_QProgram} {a1 : Int} {v2 : Int} {v3 : Int} {m : Option Nat} {o : (Int × Int) ⊕ Int} (h : S_querylang_checkQuery_b1 m a0 a1 v2 v3 = some o) :
    LWp Try.prog f26_lay 0 f26_c1 (BodyQ 0 1 (f26_L1_env a0 a1) (f26_L1_hp a0 a1) (f26_L1_Q a0 a1) o) [(1, .int .i64 a1), (2, .ptr (0, 0) 0 0), (5, .int .i64 v2), (14, .isl 3 ((a0.f_Queries.getD a1.toNat default).map e_QOp) false), (15, .int .i64 (((a0.f_Queries.getD a1.toNat default).map e_QOp).length : Int)), (16, .int .i64 v3)] [((0, 0), .one [.int .i64 a0.f_Inputs, .isl 1 (a0.f_Queries.map e_sl_QOp) false])] 1 := by
  unfold S_querylang_checkQuery_b1 at h
  refine seqI ?_
  refine regI ?_
  refine seqI ?_
  refine condI (v := (decide (v3 < (((a0.f_Queries.getD a1.toNat default).map e_QOp).length : Int)))) rfl trivial (fun h12 => ?_) (fun h12 => ?_)
  · have h := ite_tt h12 h
    refine skipI ?_
    refine seqI ?_
    refine blockI ?_
    refine seqI ?_
    refine regI ?_
    obtain ⟨h13, h⟩ := ite_some h
    refine And.intro h13 ?_
    refine Exists.intro (e_QOp ((a0.f_Queries.getD a1.toNat default).getD v3.toNat default)) (And.intro (getD_enc e_QOp _ _ (idx_ltL e_QOp h13)) (And.intro (And.intro (idx_lt h13) (Nat.le_of_ble_eq_true rfl)) ?_))
    refine seqI ?_
    refine seqI ?_
    refine regI ?_
    refine And.intro (fun hp => hp) ?_
    show yops _ _ _ [(25, .cnd ((decide (((a0.f_Queries.getD a1.toNat default).getD v3.toNat default).f_Op < 1)) == false) (.int .i64 (((a0.f_Queries.getD a1.toNat default).getD v3.toNat default).f_Op))), (24, .cnd ((decide (((a0.f_Queries.getD a1.toNat default).getD v3.toNat default).f_Op < 1)) == false) (.ptr (1, 0) 0 0)), (23, .bool (decide (((a0.f_Queries.getD a1.toNat default).getD v3.toNat default).f_Op < 1))), (22, .bool (decide (((a0.f_Queries.getD a1.toNat default).getD v3.toNat default).f_Op < 1))), (21, .int .i64 (((a0.f_Queries.getD a1.toNat default).getD v3.toNat default).f_Op)), (20, .ptr (1, 0) 0 0), (7, .ptr (1, 0) 0 0), (19, .agg [.int .i64 (((a0.f_Queries.getD a1.toNat default).getD v3.toNat default).f_Op), .int .i64 (((a0.f_Queries.getD a1.toNat default).getD v3.toNat default).f_A), .int .i64 (((a0.f_Queries.getD a1.toNat default).getD v3.toNat default).f_B)]), (18, .iptr 3 ((a0.f_Queries.getD a1.toNat default).map e_QOp) v3.toNat 0), (17, .bool (decide (v3 < (((a0.f_Queries.getD a1.toNat default).map e_QOp).length : Int)))), (1, .int .i64 a1), (2, .ptr (0, 0) 0 0), (5, .int .i64 v2), (14, .isl 3 ((a0.f_Queries.getD a1.toNat default).map e_QOp) false), (15, .int .i64 (((a0.f_Queries.getD a1.toNat default).map e_QOp).length : Int)), (16, .int .i64 v3)] _ _
    refine And.intro (fun hp => hp) ?_
    refine And.intro (fun hc => (bqf hc)) ?_
    refine LWp.sim (e := [(1, .int .i64 a1), (2, .ptr (0, 0) 0 0), (5, .int .i64 v2), (7, .ptr (1, 0) 0 0), (14, .isl 3 ((a0.f_Queries.getD a1.toNat default).map e_QOp) false), (15, .int .i64 (((a0.f_Queries.getD a1.toNat default).map e_QOp).length : Int)), (16, .int .i64 v3), (27, .bool ((decide (((a0.f_Queries.getD a1.toNat default).getD v3.toNat default).f_Op < 1)) || (decide (((a0.f_Queries.getD a1.toNat default).getD v3.toNat default).f_Op ≥ 12))))]) (L := [((0, 0), .one [.int .i64 a0.f_Inputs, .isl 1 (a0.f_Queries.map e_sl_QOp) false]), ((1, 0), .one [.int .i64 (((a0.f_Queries.getD a1.toNat default).getD v3.toNat default).f_Op), .int .i64 (((a0.f_Queries.getD a1.toNat default).getD v3.toNat default).f_A), .int .i64 (((a0.f_Queries.getD a1.toNat default).getD v3.toNat default).f_B)])]) (n := 2) ?_ ?_
    · exact simI (M := [((0, 0), (0, 0)), ((1, 0), (1, 0))]) rfl (And.intro (Vw.same _ rfl) (And.intro (Vw.ptr _ _ _ _ rfl) (And.intro (Vw.same _ rfl) (And.intro (Vw.ptr _ _ _ _ rfl) (And.intro (Vw.same _ rfl) (And.intro (Vw.same _ rfl) (And.intro (Vw.same _ rfl) (And.intro (Vw.same _ rfl) trivial)))))))) (And.intro (And.intro rfl (BVw.oneL (And.intro (Vw.same _ rfl) (And.intro (Vw.same _ rfl) trivial)))) (And.intro (And.intro rfl (BVw.oneL (And.intro (Vw.same _ rfl) (And.intro (Vw.same _ rfl) (And.intro (Vw.same _ rfl) trivial))))) trivial))
    refine condI (v := ((decide (((a0.f_Queries.getD a1.toNat default).getD v3.toNat default).f_Op < 1)) || (decide (((a0.f_Queries.getD a1.toNat default).getD v3.toNat default).f_Op ≥ 12)))) rfl trivial (fun h14 => ?_) (fun h14 => ?_)
    · have h := ite_tt h14 h
      refine seqI ?_
      refine regI ?_
      refine retI ?_
      obtain ⟨o, hq, rfl⟩ := Option.map_eq_some_iff.1 h
      replace h := hq; clear hq
      refine And.intro nofun ?_
      cases h
      exact And.intro trivial (And.intro rfl (Vw.same _ rfl))
    · have h := ite_ff h14 h
      refine skipI ?_
      refine seqI ?_
      refine regI ?_
      obtain ⟨v5, h15, h⟩ := bind_some h
      refine PFn.call (f42_ok h15) (And.intro (Vw.same _ rfl) (And.intro (Vw.same _ rfl) (And.intro (Vw.same _ rfl) trivial))) ?_
      refine LWp.sim (e := [(1, .int .i64 a1), (2, .ptr (0, 0) 0 0), (5, .int .i64 v2), (8, .int .i64 v5.1), (9, .bool v5.2), (14, .isl 3 ((a0.f_Queries.getD a1.toNat default).map e_QOp) false), (15, .int .i64 (((a0.f_Queries.getD a1.toNat default).map e_QOp).length : Int)), (16, .int .i64 v3)]) (L := [((0, 0), .one [.int .i64 a0.f_Inputs, .isl 1 (a0.f_Queries.map e_sl_QOp) false])]) (n := 1) ?_ ?_
      · exact simI (M := [((0, 0), (0, 0))]) rfl (And.intro (Vw.same _ rfl) (And.intro (Vw.ptr _ _ _ _ rfl) (And.intro (Vw.same _ rfl) (And.intro (Vw.same _ rfl) (And.intro (Vw.same _ rfl) (And.intro (Vw.same _ rfl) (And.intro (Vw.same _ rfl) (And.intro (Vw.same _ rfl) trivial)))))))) (And.intro (And.intro rfl (BVw.oneL (And.intro (Vw.same _ rfl) (And.intro (Vw.same _ rfl) trivial)))) trivial)
      refine seqI ?_
      refine seqI ?_
      refine regI ?_
      refine And.intro (fun hp => (And.intro hp hp)) ?_
      show yops _ _ _ [(40, .cnd ((!v5.2) == false) (.bool (decide (v2 < v5.1)))), (39, .cnd ((!v5.2) == false) (.int .i64 v5.1)), (38, .cnd ((!v5.2) == false) (.int .i64 v2)), (37, .bool (!v5.2)), (36, .bool (!v5.2)), (35, .bool v5.2), (1, .int .i64 a1), (2, .ptr (0, 0) 0 0), (5, .int .i64 v2), (8, .int .i64 v5.1), (9, .bool v5.2), (14, .isl 3 ((a0.f_Queries.getD a1.toNat default).map e_QOp) false), (15, .int .i64 (((a0.f_Queries.getD a1.toNat default).map e_QOp).length : Int)), (16, .int .i64 v3)] _ _
      refine And.intro (fun hc => (bqf hc)) ?_
      refine condI (v := ((!v5.2) || (decide (v2 < v5.1)))) rfl trivial (fun h16 => ?_) (fun h16 => ?_)
      · have h := ite_tt h16 h
        refine seqI ?_
        refine regI ?_
        refine LWp.sim (e := [(4, .int .i64 3)]) (L := []) (n := 0) ?_ ?_
        · exact simI (M := []) rfl (And.intro (Vw.same _ rfl) trivial) trivial
        refine retI ?_
        obtain ⟨o, hq, rfl⟩ := Option.map_eq_some_iff.1 h
        replace h := hq; clear hq
        refine And.intro nofun ?_
        cases h
        exact And.intro trivial (And.intro rfl (Vw.same _ rfl))
      · have h := ite_ff h16 h
        refine skipI ?_
        refine regI ?_
        refine LWp.sim (e := [(1, .int .i64 a1), (2, .ptr (0, 0) 0 0), (5, .int .i64 (W (v2 + (W ((1 : Int) - v5.1))))), (14, .isl 3 ((a0.f_Queries.getD a1.toNat default).map e_QOp) false), (15, .int .i64 (((a0.f_Queries.getD a1.toNat default).map e_QOp).length : Int)), (16, .int .i64 v3)]) (L := [((0, 0), .one [.int .i64 a0.f_Inputs, .isl 1 (a0.f_Queries.map e_sl_QOp) false])]) (n := 1) ?_ ?_
        · exact simI (M := [((0, 0), (0, 0))]) rfl (And.intro (Vw.same _ rfl) (And.intro (Vw.ptr _ _ _ _ rfl) (And.intro (Vw.same _ rfl) (And.intro (Vw.same _ rfl) (And.intro (Vw.same _ rfl) (And.intro (Vw.same _ rfl) trivial)))))) (And.intro (And.intro rfl (BVw.oneL (And.intro (Vw.same _ rfl) (And.intro (Vw.same _ rfl) trivial)))) trivial)
        refine regI ?_
        cases h
        exact And.intro rfl (simI (M := [((0, 0), (0, 0))]) rfl (And.intro (Vw.same _ rfl) (And.intro (Vw.ptr _ _ _ _ rfl) (And.intro (Vw.same _ rfl) (And.intro (Vw.same _ rfl) (And.intro (Vw.same _ rfl) (And.intro (Vw.same _ rfl) trivial)))))) (And.intro (And.intro rfl (BVw.oneL (And.intro (Vw.same _ rfl) (And.intro (Vw.same _ rfl) trivial)))) trivial))
  · have h := ite_ff h12 h
    refine exitI ?_
    obtain ⟨o, hq, rfl⟩ := Option.map_eq_some_iff.1 h
    replace h := hq; clear hq
    refine And.intro nofun ?_
    refine LWp.sim ?_ (f26_j1_ok h)
    exact simI (M := []) rfl (And.intro (Vw.same _ rfl) trivial) trivial

theorem f26_L1_ok {a0 : G_QProgram} {a1 : Int} {v2 : Int} {v3 : Int} {m : Option Nat} {o : Int} (h : S_querylang_checkQuery_l1 m a0 a1 v2 v3 = some o) :
    LWp Try.prog f26_lay 0 (.loop f26_c1) (QBlock 0 (QSeq Try.prog f26_lay 0 f26_c0 (f26_Q a0 a1 o))) [(1, .int .i64 a1), (2, .ptr (0, 0) 0 0), (5, .int .i64 v2), (14, .isl 3 ((a0.f_Queries.getD a1.toNat default).map e_QOp) false), (15, .int .i64 (((a0.f_Queries.getD a1.toNat default).map e_QOp).length : Int)), (16, .int .i64 v3)] [((0, 0), .one [.int .i64 a0.f_Inputs, .isl 1 (a0.f_Queries.map e_sl_QOp) false])] 1 :=
  LWp_loopM (m := m) (s := ((v2, v3) : (Int × Int))) (r := o) (fun (s : (Int × Int)) => S_querylang_checkQuery_b1 m a0 a1 s.1 s.2) (f26_L1_env a0 a1) (f26_L1_hp a0 a1) (f26_L1_Q a0 a1) (fun s o h => f26_L1_bok h) h

noncomputable def S_querylang_checkQuery (m : Option Nat) (a0 : G_QProgram) (a1 : Int) : Option Int :=
  if (0 : Int) ≤ a1 ∧ a1 < ((a0.f_Queries.map e_sl_QOp).length : Int) then
  S_querylang_checkQuery_l1 m a0 a1 0 0
  else none

theorem f26_start {a0 : G_QProgram} {a1 : Int} {m : Option Nat} {o : Int} (h : S_querylang_checkQuery m a0 a1 = some o) : LWp Try.prog f26_lay 0 f26_c2 (f26_Q a0 a1 o) (initEnv 0 [.agg [.int .i64 a0.f_Inputs, .isl 1 (a0.f_Queries.map e_sl_QOp) false], .int .i64 a1]) [] 0 := by
  unfold S_querylang_checkQuery at h
  refine seqI ?_
  refine regI ?_
  refine seqI ?_
  refine regI ?_
  refine seqI ?_
  refine seqI ?_
  refine regI ?_
  obtain ⟨h1, h⟩ := ite_some h
  refine And.intro h1 ?_
  show yops _ _ _ [(13, .iptr 1 (a0.f_Queries.map e_sl_QOp) a1.toNat 0), (12, .int .i64 a1), (11, .isl 1 (a0.f_Queries.map e_sl_QOp) false), (10, .ptr (0, 0) 0 1), (5, .int .i64 0), (4, .int .i64 0), (2, .ptr (0, 0) 0 0), (0, .agg [.int .i64 a0.f_Inputs, .isl 1 (a0.f_Queries.map e_sl_QOp) false]), (1, .int .i64 a1)] _ _
  refine Exists.intro (e_sl_QOp (a0.f_Queries.getD a1.toNat default)) (And.intro (getD_enc e_sl_QOp _ _ (idx_ltL e_sl_QOp h1)) (And.intro (And.intro (idx_lt h1) (Nat.le_of_ble_eq_true rfl)) ?_))
  refine LWp.sim (e := [(1, .int .i64 a1), (2, .ptr (0, 0) 0 0), (5, .int .i64 0), (14, .isl 3 ((a0.f_Queries.getD a1.toNat default).map e_QOp) false), (15, .int .i64 (((a0.f_Queries.getD a1.toNat default).map e_QOp).length : Int)), (16, .int .i64 0)]) (L := [((0, 0), .one [.int .i64 a0.f_Inputs, .isl 1 (a0.f_Queries.map e_sl_QOp) false])]) (n := 1) ?_ ?_
  · exact simI (M := [((0, 0), (0, 0))]) rfl (And.intro (Vw.same _ rfl) (And.intro (Vw.ptr _ _ _ _ rfl) (And.intro (Vw.same _ rfl) (And.intro (Vw.same _ rfl) (And.intro (Vw.same _ rfl) (And.intro (Vw.same _ rfl) trivial)))))) (And.intro (And.intro rfl (BVw.oneL (And.intro (Vw.same _ rfl) (And.intro (Vw.same _ rfl) trivial)))) trivial)
  refine blockI ?_
  refine LWp.sim ?_ (f26_L1_ok h)
  exact simI (M := [((0, 0), (0, 0))]) rfl (And.intro (Vw.same _ rfl) (And.intro (Vw.ptr _ _ _ _ rfl) (And.intro (Vw.same _ rfl) (And.intro (Vw.same _ rfl) (And.intro (Vw.same _ rfl) (And.intro (Vw.same _ rfl) trivial)))))) (And.intro (And.intro rfl (BVw.oneL (And.intro (Vw.same _ rfl) (And.intro (Vw.same _ rfl) trivial)))) trivial)

theorem f26_ok {a0 : G_QProgram} {a1 : Int} {m : Option Nat} {o : Int} (h : S_querylang_checkQuery m a0 a1 = some o) : PFn Try.prog 26 [.agg [.int .i64 a0.f_Inputs, .isl 1 (a0.f_Queries.map e_sl_QOp) false], .int .i64 a1] (.int .i64 o) := PFn.ofFnW (L := f26_L) f26_low f26_fok (Nat.le_of_ble_eq_true rfl) rfl (f26_start h)

def f8_c1 : LCode := (.seq (.region [⟨some 28, .bin .lss (.t 27) (.t 26), none⟩])
 (.seq (.cond (.t 28)
  .skip
  (.exit 0))
 (.seq (.block 1
  (.seq (.region [⟨some 29, .mv (.t 27), none⟩,
    ⟨some 4, .mv (.t 29), none⟩])
  (.seq (.region [⟨some 30, .load true 2 (.t 1), none⟩,
    ⟨some 31, .mv (.t 4), none⟩,
    ⟨some 32, .call 26 [(.t 30), (.t 31)], none⟩,
    ⟨some 5, .mv (.t 32), none⟩])
  (.seq (.region [⟨some 33, .mv (.t 5), none⟩,
    ⟨some 34, .bin .neq (.t 33) (.c (.int .i64 0)), none⟩])
  (.cond (.t 34)
   (.seq (.region [⟨some 35, .mv (.t 5), none⟩,
     ⟨some 2, .mv (.t 35), none⟩])
   .ret)
   .skip)))))
 (.region [⟨some 36, .bin .add (.t 27) (.c (.int .i64 1)), none⟩,
   ⟨some 27, .mv (.t 36), none⟩]))))
def f8_c0 : LCode := (.seq (.region [⟨some 2, .mv (.c (.int .i64 0)), none⟩])
 .ret)
def f8_c2 : LCode := (.seq (.region [⟨some 1, .box (.t 0), none⟩,
   ⟨some 2, .mv (.c (.int .i64 0)), none⟩])
 (.seq (.region [⟨some 3, .mv (.c (.fn (.func 24) [] [])), none⟩])
 (.seq (.seq (.region [⟨some 6, .faddr 0 (.t 1), none⟩,
   ⟨some 7, .load false 1 (.t 6), none⟩,
   ⟨some 8, .bin .gtr (.t 7) (.c (.int .i64 40)), none⟩,
   ⟨some 9, .mv (.t 8), none⟩,
   ⟨some 10, .faddr 1 (.t 1), some (9, false)⟩,
   ⟨some 11, .load false 1 (.t 10), some (9, false)⟩,
   ⟨some 12, .len false (.t 11), some (9, false)⟩,
   ⟨some 13, .bin .gtr (.t 12) (.c (.int .i64 40)), some (9, false)⟩,
   ⟨some 14, .pick (.t 9) (.c (.bool true)) (.t 13), none⟩,
   ⟨some 15, .mv (.t 14), none⟩,
   ⟨some 16, .faddr 1 (.t 1), some (15, false)⟩,
   ⟨some 17, .load false 1 (.t 16), some (15, false)⟩,
   ⟨some 18, .mv (.t 3), some (15, false)⟩,
   ⟨some 19, .call 25 [(.t 17), (.t 18)], some (15, false)⟩,
   ⟨some 20, .pick (.t 15) (.c (.bool true)) (.t 19), none⟩])
 (.cond (.t 20)
  (.seq (.region [⟨some 2, .mv (.c (.int .i64 2)), none⟩])
  .ret)
  .skip))
 (.seq (.seq (.region [⟨some 21, .faddr 0 (.t 1), none⟩,
   ⟨some 22, .load false 1 (.t 21), none⟩,
   ⟨some 23, .bin .lss (.t 22) (.c (.int .i64 0)), none⟩])
 (.cond (.t 23)
  (.seq (.region [⟨some 2, .mv (.c (.int .i64 1)), none⟩])
  .ret)
  .skip))
 (.seq (.seq (.region [⟨some 24, .faddr 1 (.t 1), none⟩,
   ⟨some 25, .load false 1 (.t 24), none⟩,
   ⟨some 26, .len false (.t 25), none⟩,
   ⟨some 27, .mv (.c (.int .i64 0)), none⟩])
 (.block 0
  (.loop
   f8_c1)))
 f8_c0)))))
def f8_lay : Lay := ⟨37, [], false⟩
def f8_res : List LRes := [.t 2]
def f8_L : LFn := ⟨1, f8_lay, f8_c2, f8_res⟩
theorem f8_low : lowFn Try.prog [] 8 = some f8_L := by kernel_rfl
theorem f8_fok : FnOk Try.prog 8 := ⟨_, Try.func8, rfl, rfl⟩
def f8_Q (a0 : G_QProgram) (o : Int) : Exit → Env → AHeap → Nat → Prop := FinK f8_res (PureEnd (.int .i64 o))

def f8_L1_env (a0 : G_QProgram) (s : Int) : Env := [(1, .ptr (0, 0) 0 0), (26, .int .i64 ((a0.f_Queries.map e_sl_QOp).length : Int)), (27, .int .i64 s)]
def f8_L1_hp (a0 : G_QProgram) (s : Int) : AHeap := [((0, 0), .one [.int .i64 a0.f_Inputs, .isl 1 (a0.f_Queries.map e_sl_QOp) false])]
def f8_L1_Q (a0 : G_QProgram) (o : Int) : Exit → Env → AHeap → Nat → Prop := (QBlock 0 (QSeq Try.prog f8_lay 0 f8_c0 (f8_Q a0 o)))

noncomputable def S_querylang_Check_j1 (m : Option Nat) : Option Int :=
  some 0

noncomputable def S_querylang_Check_b1 (m : Option Nat) (a0 : G_QProgram) (v3 : Int) : Option (Int ⊕ Int) :=
  if (decide (v3 < ((a0.f_Queries.map e_sl_QOp).length : Int))) = true then
    (S_querylang_checkQuery m a0 v3).bind fun v5 =>
    if (v5 != 0) = true then
      Option.map Sum.inr (
        some v5)
    else
      some (.inl (W (v3 + 1)))
  else
    Option.map Sum.inr (
      S_querylang_Check_j1 m)

noncomputable def S_querylang_Check_l1 (m : Option Nat) (a0 : G_QProgram) (v3 : Int) : Option Int := loopM m (fun (s : Int) => S_querylang_Check_b1 m a0 s) v3

theorem f8_j1_ok {a0 : G_QProgram} {m : Option Nat} {o : Int} (h : S_querylang_Check_j1 m = some o) :
    LWp Try.prog f8_lay 0 f8_c0 (f8_Q a0 o) [] [] 0 := by
  unfold S_querylang_Check_j1 at h
  refine seqI ?_
  refine regI ?_
  refine retI ?_
  cases h
  exact And.intro trivial (And.intro rfl (Vw.same _ rfl))

theorem f8_L1_bok {a0 : G_QProgram} {v3 : Int} {m : Option Nat} {o : Int ⊕ Int} (h : S_querylang_Check_b1 m a0 v3 = some o) :
    LWp Try.prog f8_lay 0 f8_c1 (BodyQ 0 1 (f8_L1_env a0) (f8_L1_hp a0) (f8_L1_Q a0) o) [(1, .ptr (0, 0) 0 0), (26, .int .i64 ((a0.f_Queries.map e_sl_QOp).length : Int)), (27, .int .i64 v3)] [((0, 0), .one [.int .i64 a0.f_Inputs, .isl 1 (a0.f_Queries.map e_sl_QOp) false])] 1 := by
  unfold S_querylang_Check_b1 at h
  refine seqI ?_
  refine regI ?_
  refine seqI ?_
  refine condI (v := (decide (v3 < ((a0.f_Queries.map e_sl_QOp).length : Int)))) rfl trivial (fun h10 => ?_) (fun h10 => ?_)
  · have h := ite_tt h10 h
    refine skipI ?_
    refine seqI ?_
    refine blockI ?_
    refine seqI ?_
    refine regI ?_
    refine seqI ?_
    refine regI ?_
    obtain ⟨v5, h11, h⟩ := bind_some h
    refine PFn.call (f26_ok h11) (And.intro (Vw.same _ rfl) (And.intro (Vw.same _ rfl) trivial)) ?_
    show yops _ _ _ [(32, .int .i64 v5), (31, .int .i64 v3), (30, .agg [.int .i64 a0.f_Inputs, .isl 1 (a0.f_Queries.map e_sl_QOp) false]), (4, .int .i64 v3), (29, .int .i64 v3), (28, .bool (decide (v3 < ((a0.f_Queries.map e_sl_QOp).length : Int)))), (1, .ptr (0, 0) 0 0), (26, .int .i64 ((a0.f_Queries.map e_sl_QOp).length : Int)), (27, .int .i64 v3)] _ _
    refine seqI ?_
    refine regI ?_
    refine LWp.sim (e := [(1, .ptr (0, 0) 0 0), (5, .int .i64 v5), (26, .int .i64 ((a0.f_Queries.map e_sl_QOp).length : Int)), (27, .int .i64 v3), (34, .bool (v5 != 0))]) (L := [((0, 0), .one [.int .i64 a0.f_Inputs, .isl 1 (a0.f_Queries.map e_sl_QOp) false])]) (n := 1) ?_ ?_
    · exact simI (M := [((0, 0), (0, 0))]) rfl (And.intro (Vw.ptr _ _ _ _ rfl) (And.intro (Vw.same _ rfl) (And.intro (Vw.same _ rfl) (And.intro (Vw.same _ rfl) (And.intro (Vw.same _ rfl) trivial))))) (And.intro (And.intro rfl (BVw.oneL (And.intro (Vw.same _ rfl) (And.intro (Vw.same _ rfl) trivial)))) trivial)
    refine condI (v := (v5 != 0)) rfl trivial (fun h12 => ?_) (fun h12 => ?_)
    · have h := ite_tt h12 h
      refine seqI ?_
      refine regI ?_
      refine retI ?_
      obtain ⟨o, hq, rfl⟩ := Option.map_eq_some_iff.1 h
      replace h := hq; clear hq
      refine And.intro nofun ?_
      cases h
      exact And.intro trivial (And.intro rfl (Vw.same _ rfl))
    · have h := ite_ff h12 h
      refine skipI ?_
      refine regI ?_
      cases h
      exact And.intro rfl (simI (M := [((0, 0), (0, 0))]) rfl (And.intro (Vw.ptr _ _ _ _ rfl) (And.intro (Vw.same _ rfl) (And.intro (Vw.same _ rfl) trivial))) (And.intro (And.intro rfl (BVw.oneL (And.intro (Vw.same _ rfl) (And.intro (Vw.same _ rfl) trivial)))) trivial))
  · have h := ite_ff h10 h
    refine exitI ?_
    obtain ⟨o, hq, rfl⟩ := Option.map_eq_some_iff.1 h
    replace h := hq; clear hq
    refine And.intro nofun ?_
    refine LWp.sim ?_ (f8_j1_ok h)
    exact simI (M := []) rfl trivial trivial

theorem f8_L1_ok {a0 : G_QProgram} {v3 : Int} {m : Option Nat} {o : Int} (h : S_querylang_Check_l1 m a0 v3 = some o) :
    LWp Try.prog f8_lay 0 (.loop f8_c1) (QBlock 0 (QSeq Try.prog f8_lay 0 f8_c0 (f8_Q a0 o))) [(1, .ptr (0, 0) 0 0), (26, .int .i64 ((a0.f_Queries.map e_sl_QOp).length : Int)), (27, .int .i64 v3)] [((0, 0), .one [.int .i64 a0.f_Inputs, .isl 1 (a0.f_Queries.map e_sl_QOp) false])] 1 :=
  LWp_loopM (m := m) (s := (v3 : Int)) (r := o) (fun (s : Int) => S_querylang_Check_b1 m a0 s) (f8_L1_env a0) (f8_L1_hp a0) (f8_L1_Q a0) (fun s o h => f8_L1_bok h) h

noncomputable def S_querylang_Check (m : Option Nat) (a0 : G_QProgram) : Option Int :=
  (if (((decide (a0.f_Inputs > 40)) || (decide (((a0.f_Queries.map e_sl_QOp).length : Int) > 40))) == false) = true then S_slices_ContainsFunc_api_QOp (fun (s : Unit) (x : (List G_QOp)) => (S_querylang_Check_1c m x).map fun o => (o, ())) m a0.f_Queries () else some default).bind fun v1 =>
  if (((decide (a0.f_Inputs > 40)) || (decide (((a0.f_Queries.map e_sl_QOp).length : Int) > 40))) || v1.1) = true then
    some 2
  else
    if (decide (a0.f_Inputs < 0)) = true then
      some 1
    else
      S_querylang_Check_l1 m a0 0

theorem f8_start {a0 : G_QProgram} {m : Option Nat} {o : Int} (h : S_querylang_Check m a0 = some o) : LWp Try.prog f8_lay 0 f8_c2 (f8_Q a0 o) (initEnv 0 [.agg [.int .i64 a0.f_Inputs, .isl 1 (a0.f_Queries.map e_sl_QOp) false]]) [] 0 := by
  unfold S_querylang_Check at h
  refine seqI ?_
  refine regI ?_
  refine seqI ?_
  refine regI ?_
  refine seqI ?_
  refine seqI ?_
  refine regI ?_
  refine And.intro (fun hp => hp) ?_
  show yops _ _ _ [(11, .cnd ((decide (a0.f_Inputs > 40)) == false) (.isl 1 (a0.f_Queries.map e_sl_QOp) false)), (10, .cnd ((decide (a0.f_Inputs > 40)) == false) (.ptr (0, 0) 0 1)), (9, .bool (decide (a0.f_Inputs > 40))), (8, .bool (decide (a0.f_Inputs > 40))), (7, .int .i64 a0.f_Inputs), (6, .ptr (0, 0) 0 0), (3, .fn (.func 24) [] []), (2, .int .i64 0), (1, .ptr (0, 0) 0 0), (0, .agg [.int .i64 a0.f_Inputs, .isl 1 (a0.f_Queries.map e_sl_QOp) false])] _ _
  refine And.intro (fun hp => hp) ?_
  refine And.intro (fun hp => hp) ?_
  refine And.intro (fun hc => (bqf hc)) ?_
  refine And.intro (fun hp => hp) ?_
  show yops _ _ _ [(17, .cnd (((decide (a0.f_Inputs > 40)) || (decide (((a0.f_Queries.map e_sl_QOp).length : Int) > 40))) == false) (.isl 1 (a0.f_Queries.map e_sl_QOp) false)), (16, .cnd (((decide (a0.f_Inputs > 40)) || (decide (((a0.f_Queries.map e_sl_QOp).length : Int) > 40))) == false) (.ptr (0, 0) 0 1)), (15, .bool ((decide (a0.f_Inputs > 40)) || (decide (((a0.f_Queries.map e_sl_QOp).length : Int) > 40)))), (14, .bool ((decide (a0.f_Inputs > 40)) || (decide (((a0.f_Queries.map e_sl_QOp).length : Int) > 40)))), (13, .cnd ((decide (a0.f_Inputs > 40)) == false) (.bool (decide (((a0.f_Queries.map e_sl_QOp).length : Int) > 40)))), (12, .cnd ((decide (a0.f_Inputs > 40)) == false) (.int .i64 ((a0.f_Queries.map e_sl_QOp).length : Int))), (11, .cnd ((decide (a0.f_Inputs > 40)) == false) (.isl 1 (a0.f_Queries.map e_sl_QOp) false)), (10, .cnd ((decide (a0.f_Inputs > 40)) == false) (.ptr (0, 0) 0 1)), (9, .bool (decide (a0.f_Inputs > 40))), (8, .bool (decide (a0.f_Inputs > 40))), (7, .int .i64 a0.f_Inputs), (6, .ptr (0, 0) 0 0), (3, .fn (.func 24) [] []), (2, .int .i64 0), (1, .ptr (0, 0) 0 0), (0, .agg [.int .i64 a0.f_Inputs, .isl 1 (a0.f_Queries.map e_sl_QOp) false])] _ _
  obtain ⟨v1, h1, h⟩ := bind_some h
  refine Or.inl (Exists.intro (.bool v1.1) (And.intro (fun hp => And.intro (And.intro hp hp) (ACalls.same rfl (bcall (k := 3) (m := 1) (L' := []) (rest := [((0, 0), .one [.int .i64 a0.f_Inputs, .isl 1 (a0.f_Queries.map e_sl_QOp) false])]) (R' := .bool v1.1) [] (f25b0_ok (show Clo Try.prog (.func 24) [] [] (fun (s : Unit) => []) (fun (x : (List G_QOp)) => [.isl 3 (x.map e_QOp) false]) (fun (b : Bool) => .bool b) (fun (s : Unit) (x : (List G_QOp)) => (S_querylang_Check_1c m x).map fun o => (o, ())) from Clo.mk' (fun s => Tl.lit rfl trivial rfl) rfl rfl (fun _ => rfl) (fun s x o h => by obtain ⟨o1, h1, rfl⟩ := Option.map_eq_some_iff.1 h; exact Exists.intro _ (And.intro (f24c0_ok h1) trivial))) (ite_tt hp h1)) rfl rfl rfl (And.intro (Vw.same _ rfl) (And.intro (Vw.same _ rfl) trivial)) trivial (nid_ren _ rfl) trivial rfl (And.intro rfl (HeapTo.get (And.intro (And.intro rfl (BVw.oneL (And.intro (Vw.same _ rfl) (And.intro (Vw.same _ rfl) trivial)))) trivial)))))) ?_))
  refine And.intro (fun hc => (bqf hc)) ?_
  refine LWp.sim (e := [(1, .ptr (0, 0) 0 0), (20, .bool (((decide (a0.f_Inputs > 40)) || (decide (((a0.f_Queries.map e_sl_QOp).length : Int) > 40))) || v1.1))]) (L := [((0, 0), .one [.int .i64 a0.f_Inputs, .isl 1 (a0.f_Queries.map e_sl_QOp) false])]) (n := 1) ?_ ?_
  · exact simI (M := [((0, 0), (0, 0))]) rfl (And.intro (Vw.ptr _ _ _ _ rfl) (And.intro (Vw.same _ rfl) trivial)) (And.intro (And.intro rfl (BVw.oneL (And.intro (Vw.same _ rfl) (And.intro (Vw.same _ rfl) trivial)))) trivial)
  refine condI (v := (((decide (a0.f_Inputs > 40)) || (decide (((a0.f_Queries.map e_sl_QOp).length : Int) > 40))) || v1.1)) rfl trivial (fun h2 => ?_) (fun h2 => ?_)
  · have h := ite_tt h2 h
    refine seqI ?_
    refine regI ?_
    refine retI ?_
    cases h
    exact And.intro trivial (And.intro rfl (Vw.same _ rfl))
  · have h := ite_ff h2 h
    refine skipI ?_
    refine seqI ?_
    refine seqI ?_
    refine regI ?_
    refine condI (v := (decide (a0.f_Inputs < 0))) rfl trivial (fun h3 => ?_) (fun h3 => ?_)
    · have h := ite_tt h3 h
      refine seqI ?_
      refine regI ?_
      refine retI ?_
      cases h
      exact And.intro trivial (And.intro rfl (Vw.same _ rfl))
    · have h := ite_ff h3 h
      refine skipI ?_
      refine seqI ?_
      refine seqI ?_
      refine regI ?_
      refine blockI ?_
      refine LWp.sim ?_ (f8_L1_ok h)
      exact simI (M := [((0, 0), (0, 0))]) rfl (And.intro (Vw.ptr _ _ _ _ rfl) (And.intro (Vw.same _ rfl) (And.intro (Vw.same _ rfl) trivial))) (And.intro (And.intro rfl (BVw.oneL (And.intro (Vw.same _ rfl) (And.intro (Vw.same _ rfl) trivial)))) trivial)

theorem f8_ok {a0 : G_QProgram} {m : Option Nat} {o : Int} (h : S_querylang_Check m a0 = some o) : PFn Try.prog 8 [.agg [.int .i64 a0.f_Inputs, .isl 1 (a0.f_Queries.map e_sl_QOp) false]] (.int .i64 o) := PFn.ofFnW (L := f8_L) f8_low f8_fok (Nat.le_of_ble_eq_true rfl) rfl (f8_start h)

def f28b0_c0 : LCode := (.seq (.region [⟨some 3, .box (.t 0), none⟩,
   ⟨some 6, .mv (.c (.val (.pointer none))), none⟩,
   ⟨some 7, .mv (.c (.int .i64 0)), none⟩])
 (.seq (.seq (.region [⟨some 9, .load true 2 (.t 3), none⟩,
   ⟨some 10, .call 8 [(.t 9)], none⟩,
   ⟨some 8, .mv (.t 10), none⟩])
 (.seq (.region [⟨some 11, .mv (.t 8), none⟩,
   ⟨some 12, .bin .neq (.t 11) (.c (.int .i64 0)), none⟩])
 (.cond (.t 12)
  (.seq (.region [⟨some 13, .mv (.t 8), none⟩,
    ⟨some 6, .mv (.c (.val (.pointer none))), none⟩,
    ⟨some 7, .mv (.t 13), none⟩])
  .ret)
  .skip)))
 (.seq (.seq (.region [⟨some 14, .mv (.t 1), none⟩,
   ⟨some 15, .len false (.t 14), none⟩,
   ⟨some 16, .faddr 0 (.t 3), none⟩,
   ⟨some 17, .load false 1 (.t 16), none⟩,
   ⟨some 18, .bin .neq (.t 15) (.t 17), none⟩,
   ⟨some 19, .mv (.t 18), none⟩,
   ⟨some 20, .mv (.t 2), some (19, false)⟩,
   ⟨some 21, .bin .lss (.t 20) (.c (.int .i64 0)), some (19, false)⟩,
   ⟨some 22, .pick (.t 19) (.c (.bool true)) (.t 21), none⟩,
   ⟨some 23, .mv (.t 22), none⟩,
   ⟨some 24, .mv (.t 2), some (23, false)⟩,
   ⟨some 25, .faddr 1 (.t 3), some (23, false)⟩,
   ⟨some 26, .load false 1 (.t 25), some (23, false)⟩,
   ⟨some 27, .len false (.t 26), some (23, false)⟩,
   ⟨some 28, .bin .geq (.t 24) (.t 27), some (23, false)⟩,
   ⟨some 29, .pick (.t 23) (.c (.bool true)) (.t 28), none⟩])
 (.cond (.t 29)
  (.seq (.region [⟨some 6, .mv (.c (.val (.pointer none))), none⟩,
    ⟨some 7, .mv (.c (.int .i64 1)), none⟩])
  .ret)
  .skip))
 (.seq (.region [⟨some 30, .load true 2 (.t 3), none⟩,
   ⟨some 31, .mv (.t 1), none⟩,
   ⟨some 32, .mkmap none, none⟩,
   ⟨some 33, .build [(.int .i64 0), (.isl 1 [] true), (.isl 1 [] true), (.val (.map none))] [(0, 2, (.t 30)), (2, 1, (.t 31)), (3, 1, (.t 32))], none⟩,
   ⟨some 34, .box (.t 33), none⟩,
   ⟨some 6, .mv (.t 34), none⟩,
   ⟨some 7, .mv (.c (.int .i64 0)), none⟩])
 .ret))))
def f28b0_lay : Lay := ⟨35, [], false⟩
def f28b0_res : List LRes := [.t 6, .t 7]
def f28b0_L : LFn := ⟨3, f28b0_lay, f28b0_c0, f28b0_res⟩
theorem f28b0_low : lowFn Try.prog [] 28 = some f28b0_L := by kernel_rfl
theorem f28b0_fok : FnOk Try.prog 28 := ⟨_, Try.func28, rfl, rfl⟩
noncomputable def S_querylang_newEvaluator (m : Option Nat) (a0 : G_QProgram) (a1 : List Int) (a2 : Int) : Option (Int ⊕ (Int × Int × (List (List G_QOp)))) :=
  (S_querylang_Check m a0).bind fun v1 =>
  if (v1 != 0) = true then
    some (.inl v1)
  else
    if (((((a1.map e_i64).length : Int) != a0.f_Inputs) || (decide (a2 < 0))) || (decide (a2 ≥ ((a0.f_Queries.map e_sl_QOp).length : Int)))) = true then
      some (.inl 1)
    else
      some (.inr (0, a0.f_Inputs, a0.f_Queries))

def f28b0_Q (a0 : G_QProgram) (a1 : List Int) (a2 : Int) (o : Int ⊕ (Int × Int × (List (List G_QOp)))) : Exit → Env → AHeap → Nat → Prop := FinK f28b0_res (match o with | (.inl o) => FinTo 3 3 (.tup [.val (.pointer none), .int .i64 o]) [] | (.inr o) => FinTo 3 5 (.tup [.ptr (3, 0) 0 0, .int .i64 o.1]) [((3, 0), .one [.int .i64 o.2.1, .isl 1 (o.2.2.map e_sl_QOp) false, .isl 1 (a1.map e_i64) false, .map (4, 0)]), ((4, 0), .amap (([] : List (Int × Int)).map (em a_i64 a_i64)))])

theorem f28b0_start {a0 : G_QProgram} {a1 : List Int} {a2 : Int} {m : Option Nat} {o : Int ⊕ (Int × Int × (List (List G_QOp)))} (h : S_querylang_newEvaluator m a0 a1 a2 = some o) : LWp Try.prog f28b0_lay 3 f28b0_c0 (f28b0_Q a0 a1 a2 o) (initEnv 0 [.agg [.int .i64 a0.f_Inputs, .isl 1 (a0.f_Queries.map e_sl_QOp) false], .isl 1 (a1.map e_i64) false, .int .i64 a2]) [] 3 := by
  unfold S_querylang_newEvaluator at h
  refine seqI ?_
  refine regI ?_
  refine seqI ?_
  refine seqI ?_
  refine regI ?_
  obtain ⟨v1, h1, h⟩ := bind_some h
  refine PFn.call (f8_ok h1) (And.intro (Vw.same _ rfl) trivial) ?_
  show yops _ _ _ [(10, .int .i64 v1), (9, .agg [.int .i64 a0.f_Inputs, .isl 1 (a0.f_Queries.map e_sl_QOp) false]), (7, .int .i64 0), (6, .val (.pointer none)), (3, .ptr (3, 0) 0 0), (0, .agg [.int .i64 a0.f_Inputs, .isl 1 (a0.f_Queries.map e_sl_QOp) false]), (1, .isl 1 (a1.map e_i64) false), (2, .int .i64 a2)] _ _
  refine seqI ?_
  refine regI ?_
  refine LWp.sim (e := [(1, .isl 1 (a1.map e_i64) false), (2, .int .i64 a2), (3, .ptr (3, 0) 0 0), (8, .int .i64 v1), (12, .bool (v1 != 0))]) (L := [((3, 0), .one [.int .i64 a0.f_Inputs, .isl 1 (a0.f_Queries.map e_sl_QOp) false])]) (n := 4) ?_ ?_
  · exact simI (M := [((3, 0), (3, 0))]) rfl (And.intro (Vw.same _ rfl) (And.intro (Vw.same _ rfl) (And.intro (Vw.ptr _ _ _ _ rfl) (And.intro (Vw.same _ rfl) (And.intro (Vw.same _ rfl) trivial))))) (And.intro (And.intro rfl (BVw.oneL (And.intro (Vw.same _ rfl) (And.intro (Vw.same _ rfl) trivial)))) trivial)
  refine condI (v := (v1 != 0)) rfl trivial (fun h2 => ?_) (fun h2 => ?_)
  · have h := ite_tt h2 h
    refine seqI ?_
    refine regI ?_
    refine retI ?_
    cases h
    exact And.intro trivial (And.intro trivial (finI (n' := 4) [] [] rfl rfl (Vw.same _ rfl) trivial))
  · have h := ite_ff h2 h
    refine skipI ?_
    refine seqI ?_
    refine seqI ?_
    refine regI ?_
    refine And.intro (fun hp => hp) ?_
    show yops _ _ _ [(21, .cnd ((((a1.map e_i64).length : Int) != a0.f_Inputs) == false) (.bool (decide (a2 < 0)))), (20, .cnd ((((a1.map e_i64).length : Int) != a0.f_Inputs) == false) (.int .i64 a2)), (19, .bool (((a1.map e_i64).length : Int) != a0.f_Inputs)), (18, .bool (((a1.map e_i64).length : Int) != a0.f_Inputs)), (17, .int .i64 a0.f_Inputs), (16, .ptr (3, 0) 0 0), (15, .int .i64 ((a1.map e_i64).length : Int)), (14, .isl 1 (a1.map e_i64) false), (1, .isl 1 (a1.map e_i64) false), (2, .int .i64 a2), (3, .ptr (3, 0) 0 0), (8, .int .i64 v1), (12, .bool (v1 != 0))] _ _
    refine And.intro (fun hc => (bqf hc)) ?_
    refine And.intro (fun hp => hp) ?_
    show yops _ _ _ [(26, .cnd (((((a1.map e_i64).length : Int) != a0.f_Inputs) || (decide (a2 < 0))) == false) (.isl 1 (a0.f_Queries.map e_sl_QOp) false)), (25, .cnd (((((a1.map e_i64).length : Int) != a0.f_Inputs) || (decide (a2 < 0))) == false) (.ptr (3, 0) 0 1)), (24, .cnd (((((a1.map e_i64).length : Int) != a0.f_Inputs) || (decide (a2 < 0))) == false) (.int .i64 a2)), (23, .bool ((((a1.map e_i64).length : Int) != a0.f_Inputs) || (decide (a2 < 0)))), (22, .bool ((((a1.map e_i64).length : Int) != a0.f_Inputs) || (decide (a2 < 0)))), (21, .cnd ((((a1.map e_i64).length : Int) != a0.f_Inputs) == false) (.bool (decide (a2 < 0)))), (20, .cnd ((((a1.map e_i64).length : Int) != a0.f_Inputs) == false) (.int .i64 a2)), (19, .bool (((a1.map e_i64).length : Int) != a0.f_Inputs)), (18, .bool (((a1.map e_i64).length : Int) != a0.f_Inputs)), (17, .int .i64 a0.f_Inputs), (16, .ptr (3, 0) 0 0), (15, .int .i64 ((a1.map e_i64).length : Int)), (14, .isl 1 (a1.map e_i64) false), (1, .isl 1 (a1.map e_i64) false), (2, .int .i64 a2), (3, .ptr (3, 0) 0 0), (8, .int .i64 v1), (12, .bool (v1 != 0))] _ _
    refine And.intro (fun hp => hp) ?_
    refine And.intro (fun hp => (And.intro hp hp)) ?_
    refine And.intro (fun hc => (bqf hc)) ?_
    refine LWp.sim (e := [(1, .isl 1 (a1.map e_i64) false), (3, .ptr (3, 0) 0 0), (29, .bool (((((a1.map e_i64).length : Int) != a0.f_Inputs) || (decide (a2 < 0))) || (decide (a2 ≥ ((a0.f_Queries.map e_sl_QOp).length : Int)))))]) (L := [((3, 0), .one [.int .i64 a0.f_Inputs, .isl 1 (a0.f_Queries.map e_sl_QOp) false])]) (n := 4) ?_ ?_
    · exact simI (M := [((3, 0), (3, 0))]) rfl (And.intro (Vw.same _ rfl) (And.intro (Vw.ptr _ _ _ _ rfl) (And.intro (Vw.same _ rfl) trivial))) (And.intro (And.intro rfl (BVw.oneL (And.intro (Vw.same _ rfl) (And.intro (Vw.same _ rfl) trivial)))) trivial)
    refine condI (v := (((((a1.map e_i64).length : Int) != a0.f_Inputs) || (decide (a2 < 0))) || (decide (a2 ≥ ((a0.f_Queries.map e_sl_QOp).length : Int))))) rfl trivial (fun h3 => ?_) (fun h3 => ?_)
    · have h := ite_tt h3 h
      refine seqI ?_
      refine regI ?_
      refine retI ?_
      cases h
      exact And.intro trivial (And.intro trivial (finI (n' := 4) [] [] rfl rfl (Vw.same _ rfl) trivial))
    · have h := ite_ff h3 h
      refine skipI ?_
      refine seqI ?_
      refine regI ?_
      refine retI ?_
      cases h
      exact And.intro trivial (And.intro trivial (finI (n' := 6) [((3, 0), (5, 0)), ((4, 0), (4, 0))] [] rfl rfl (Vw.tupL (And.intro (Vw.ptr _ _ _ _ rfl) (And.intro (Vw.same _ rfl) trivial))) (And.intro (And.intro rfl (BVw.oneL (And.intro (Vw.same _ rfl) (And.intro (Vw.same _ rfl) (And.intro (Vw.same _ rfl) (And.intro (Vw.map _ _ rfl) trivial)))))) (And.intro (And.intro rfl (BVw.ofMap a_i64 a_i64 a_i64_nid ([] : List (Int × Int)))) trivial))))

theorem f28b0_ok0 {a0 : G_QProgram} {a1 : List Int} {a2 : Int} {m : Option Nat} {o : Int} (h : S_querylang_newEvaluator m a0 a1 a2 = some ((.inl o))) : ACalls Try.prog 28 [.agg [.int .i64 a0.f_Inputs, .isl 1 (a0.f_Queries.map e_sl_QOp) false], .isl 1 (a1.map e_i64) false, .int .i64 a2] [] 3 (Gives 3 (.tup [.val (.pointer none), .int .i64 o]) []) := bfn_of (L := f28b0_L) f28b0_low f28b0_fok (Nat.le_of_ble_eq_true rfl) (f28b0_start h)

theorem f28b0_ok1 {a0 : G_QProgram} {a1 : List Int} {a2 : Int} {m : Option Nat} {o : Int × Int × (List (List G_QOp))} (h : S_querylang_newEvaluator m a0 a1 a2 = some ((.inr o))) : ACalls Try.prog 28 [.agg [.int .i64 a0.f_Inputs, .isl 1 (a0.f_Queries.map e_sl_QOp) false], .isl 1 (a1.map e_i64) false, .int .i64 a2] [] 3 (Gives 5 (.tup [.ptr (3, 0) 0 0, .int .i64 o.1]) [((3, 0), .one [.int .i64 o.2.1, .isl 1 (o.2.2.map e_sl_QOp) false, .isl 1 (a1.map e_i64) false, .map (4, 0)]), ((4, 0), .amap (([] : List (Int × Int)).map (em a_i64 a_i64)))]) := bfn_of (L := f28b0_L) f28b0_low f28b0_fok (Nat.le_of_ble_eq_true rfl) (f28b0_start h)

def f39_c0 : LCode := (.seq (.region [⟨some 9, .mv (.t 0), none⟩,
   ⟨some 2, .mv (.t 9), none⟩])
 .ret)
def f39_c1 : LCode := (.seq (.region [⟨some 2, .mv (.c (.int .i64 0)), none⟩])
 (.seq (.seq (.region [⟨some 3, .mv (.t 0), none⟩,
   ⟨some 4, .bin .rem (.t 3) (.c (.int .i64 1000003)), none⟩,
   ⟨some 0, .mv (.t 4), none⟩])
 (.seq (.region [⟨some 5, .mv (.t 0), none⟩,
   ⟨some 6, .bin .lss (.t 5) (.c (.int .i64 0)), none⟩])
 (.cond (.t 6)
  (.region [⟨some 7, .mv (.t 0), none⟩,
    ⟨some 8, .bin .add (.t 7) (.c (.int .i64 1000003)), none⟩,
    ⟨some 0, .mv (.t 8), none⟩])
  .skip)))
 f39_c0))
def f39_lay : Lay := ⟨10, [], false⟩
def f39_res : List LRes := [.t 2]
def f39_L : LFn := ⟨1, f39_lay, f39_c1, f39_res⟩
theorem f39_low : lowFn Try.prog [] 39 = some f39_L := by kernel_rfl
theorem f39_fok : FnOk Try.prog 39 := ⟨_, Try.func39, rfl, rfl⟩
noncomputable def S_querylang_reduce_j1 (m : Option Nat) (v1 : Int) : Option Int :=
  some v1

def f39_Q (a0 : Int) (o : Int) : Exit → Env → AHeap → Nat → Prop := FinK f39_res (PureEnd (.int .i64 o))

theorem f39_j1_ok {a0 : Int} {v1 : Int} {m : Option Nat} {o : Int} (h : S_querylang_reduce_j1 m v1 = some o) :
    LWp Try.prog f39_lay 0 f39_c0 (f39_Q a0 o) [(0, .int .i64 v1)] [] 0 := by
  unfold S_querylang_reduce_j1 at h
  refine seqI ?_
  refine regI ?_
  refine retI ?_
  cases h
  exact And.intro trivial (And.intro rfl (Vw.same _ rfl))

noncomputable def S_querylang_reduce (m : Option Nat) (a0 : Int) : Option Int :=
  if (decide ((a0.tmod 1000003) < 0)) = true then
    S_querylang_reduce_j1 m (W ((a0.tmod 1000003) + 1000003))
  else
    S_querylang_reduce_j1 m (a0.tmod 1000003)

theorem f39_start {a0 : Int} {m : Option Nat} {o : Int} (h : S_querylang_reduce m a0 = some o) : LWp Try.prog f39_lay 0 f39_c1 (f39_Q a0 o) (initEnv 0 [.int .i64 a0]) [] 0 := by
  unfold S_querylang_reduce at h
  refine seqI ?_
  refine regI ?_
  refine seqI ?_
  refine seqI ?_
  refine regI ?_
  refine And.intro (by decide) ?_
  refine seqI ?_
  refine regI ?_
  refine condI (v := (decide ((a0.tmod 1000003) < 0))) rfl trivial (fun h1 => ?_) (fun h1 => ?_)
  · have h := ite_tt h1 h
    refine regI ?_
    refine LWp.sim ?_ (f39_j1_ok h)
    exact simI (M := []) rfl (And.intro (Vw.same _ rfl) trivial) trivial
  · have h := ite_ff h1 h
    refine skipI ?_
    refine LWp.sim ?_ (f39_j1_ok h)
    exact simI (M := []) rfl (And.intro (Vw.same _ rfl) trivial) trivial

theorem f39_ok {a0 : Int} {m : Option Nat} {o : Int} (h : S_querylang_reduce m a0 = some o) : PFn Try.prog 39 [.int .i64 a0] (.int .i64 o) := PFn.ofFnW (L := f39_L) f39_low f39_fok (Nat.le_of_ble_eq_true rfl) rfl (f39_start h)

def f43b0_c0 : LCode := (.seq (.region [⟨some 1, .mv (.c (.int .i64 0)), none⟩])
 (.seq (.region [⟨some 3, .load false 1 (.t 0), none⟩,
   ⟨some 4, .load false 1 (.t 0), none⟩,
   ⟨some 5, .len false (.t 4), none⟩,
   ⟨some 6, .bin .sub (.t 5) (.c (.int .i64 1)), none⟩,
   ⟨some 7, .iaddr 1 (.t 3) (.t 6), none⟩,
   ⟨some 8, .load false 1 (.t 7), none⟩,
   ⟨some 2, .mv (.t 8), none⟩])
 (.seq (.region [⟨some 9, .load false 1 (.t 0), none⟩,
   ⟨some 10, .load false 1 (.t 0), none⟩,
   ⟨some 11, .len false (.t 10), none⟩,
   ⟨some 12, .bin .sub (.t 11) (.c (.int .i64 1)), none⟩,
   ⟨some 13, .slSl 1 (.t 9) none (some (.t 12)) none, none⟩,
   ⟨none, .store 1 (.t 0) (.t 13), none⟩])
 (.seq (.region [⟨some 14, .mv (.t 2), none⟩,
   ⟨some 1, .mv (.t 14), none⟩])
 .ret))))
def f43b0_lay : Lay := ⟨15, [], false⟩
def f43b0_res : List LRes := [.t 1]
def f43b0_L : LFn := ⟨1, f43b0_lay, f43b0_c0, f43b0_res⟩
theorem f43b0_low : lowFn Try.prog [] 43 = some f43b0_L := by kernel_rfl
theorem f43b0_fok : FnOk Try.prog 43 := ⟨_, Try.func43, rfl, rfl⟩
noncomputable def S_querylang_run_1 (m : Option Nat) (a0 : List Int) : Option (Int × Nat) :=
  if (0 : Int) ≤ (W (((a0.length : Nat) : Int) - 1)) ∧ (W (((a0.length : Nat) : Int) - 1)) < ((a0.length : Nat) : Int) then
  if (0 + (W (((a0.length : Nat) : Int) - 1)).toNat) < a0.length then
  if (0 : Int) ≤ (W (((a0.length : Nat) : Int) - 1)) ∧ (W (((a0.length : Nat) : Int) - 1)) ≤ ((a0.length : Nat) : Int) then
  some ((a0.getD (0 + (W (((a0.length : Nat) : Int) - 1)).toNat) default), (W (((a0.length : Nat) : Int) - 1)).toNat)
  else none
  else none
  else none

def f43b0_Q (a0 : List Int) (o : Int × Nat) : Exit → Env → AHeap → Nat → Prop := FinK f43b0_res (FinTo 3 4 (.int .i64 o.1) [((0, 0), .one [.msl (3, 0) 1 0 o.2 false]), ((3, 0), .rows 1 (a0.map e_i64))])

theorem f43b0_start {a0 : List Int} {m : Option Nat} {o : Int × Nat} (h : S_querylang_run_1 m a0 = some o) : LWp Try.prog f43b0_lay 3 f43b0_c0 (f43b0_Q a0 o) (initEnv 0 [.ptr (0, 0) 0 0]) [((0, 0), .one [.msl (0, 1) 1 0 a0.length false]), ((0, 1), .rows 1 (a0.map e_i64))] 3 := by
  unfold S_querylang_run_1 at h
  refine seqI ?_
  refine regI ?_
  refine seqI ?_
  refine regI ?_
  obtain ⟨h1, h⟩ := ite_some h
  refine And.intro h1 ?_
  show yops _ _ _ [(7, .ptr (0, 1) (0 + (W (((a0.length : Nat) : Int) - 1)).toNat) 0), (6, .int .i64 (W (((a0.length : Nat) : Int) - 1))), (5, .int .i64 ((a0.length : Nat) : Int)), (4, .msl (0, 1) 1 0 a0.length false), (3, .msl (0, 1) 1 0 a0.length false), (1, .int .i64 0), (0, .ptr (0, 0) 0 0)] _ _
  obtain ⟨h2, h⟩ := ite_some h
  refine Exists.intro (e_i64 (a0.getD (0 + (W (((a0.length : Nat) : Int) - 1)).toNat) default)) (And.intro (getD_enc e_i64 _ _ h2) (And.intro (And.intro (lt_map e_i64 h2) (Nat.le_of_ble_eq_true rfl)) ?_))
  refine LWp.sim (e := [(0, .ptr (0, 0) 0 0), (2, .int .i64 (a0.getD (0 + (W (((a0.length : Nat) : Int) - 1)).toNat) default))]) (L := [((0, 0), .one [.msl (3, 0) 1 0 a0.length false]), ((3, 0), .rows 1 (a0.map e_i64))]) (n := 4) ?_ ?_
  · exact simI (M := [((3, 0), (0, 1))]) rfl (And.intro (Vw.ptr _ _ _ _ rfl) (And.intro (Vw.same _ rfl) trivial)) (And.intro (And.intro rfl (BVw.oneL (And.intro (Vw.mslE rfl (by first | rfl | simp) rfl) trivial))) (And.intro (And.intro rfl (BVw.enc e_i64 (fun _ => rfl) _ a0)) trivial))
  refine seqI ?_
  refine regI ?_
  obtain ⟨h3, h⟩ := ite_some h
  refine Exists.intro (.msl (3, 0) 1 0 ((W (((a0.length : Nat) : Int) - 1)).toNat) false) (And.intro (by simp) (And.intro (And.intro rfl (And.intro (Int.le_refl _) h3)) ?_))
  refine seqI ?_
  refine regI ?_
  refine LWp.sim (e := [(1, .int .i64 (a0.getD (0 + (W (((a0.length : Nat) : Int) - 1)).toNat) default))]) (L := [((0, 0), .one [.msl (3, 0) 1 0 ((W (((a0.length : Nat) : Int) - 1)).toNat) false]), ((3, 0), .rows 1 (a0.map e_i64))]) (n := 4) ?_ ?_
  · exact simI (M := [((3, 0), (3, 0))]) rfl (And.intro (Vw.same _ rfl) trivial) (And.intro (And.intro rfl (BVw.oneL (And.intro (Vw.msl _ _ _ _ _ _ rfl) trivial))) (And.intro (And.intro rfl (BVw.enc e_i64 (fun _ => rfl) _ a0)) trivial))
  refine retI ?_
  cases h
  exact And.intro trivial (finI (n' := 4) [((3, 0), (3, 0))] [] rfl rfl (Vw.same _ rfl) (And.intro (And.intro rfl (BVw.oneL (And.intro (Vw.msl _ _ _ _ _ _ rfl) trivial))) (And.intro (And.intro rfl (BVw.enc e_i64 (fun _ => rfl) _ a0)) trivial)))

theorem f43b0_ok {a0 : List Int} {m : Option Nat} {o : Int × Nat} (h : S_querylang_run_1 m a0 = some o) : ACalls Try.prog 43 [.ptr (0, 0) 0 0] [((0, 0), .one [.msl (0, 1) 1 0 a0.length false]), ((0, 1), .rows 1 (a0.map e_i64))] 3 (Gives 4 (.int .i64 o.1) [((0, 0), .one [.msl (3, 0) 1 0 o.2 false]), ((3, 0), .rows 1 (a0.map e_i64))]) := bfn_of (L := f43b0_L) f43b0_low f43b0_fok (Nat.le_of_ble_eq_true rfl) (f43b0_start h)

def f44_c0 : LCode := (.seq (.region [⟨some 3, .box (.t 0), none⟩,
   ⟨some 6, .alloc [(.int .i64 0), (.int .i64 0), (.int .i64 0)], none⟩,
   ⟨some 7, .mv (.c (.bool false)), none⟩])
 (.seq (.block 0
  (.seq (.region [⟨some 9, .faddr 0 (.t 3), none⟩,
    ⟨some 10, .load false 1 (.t 9), none⟩,
    ⟨some 11, .bin .eql (.t 10) (.c (.int .i64 2)), none⟩,
    ⟨some 8, .mv (.t 11), none⟩])
  (.cond (.t 8)
   (.seq (.region [⟨some 12, .faddr 1 (.t 3), none⟩,
     ⟨some 13, .load false 1 (.t 12), none⟩,
     ⟨some 14, .build [(.int .i64 0), (.int .i64 0), (.int .i64 0)] [(1, 1, (.t 13))], none⟩,
     ⟨none, .store 3 (.t 6) (.t 14), none⟩,
     ⟨some 7, .mv (.c (.bool true)), none⟩])
   .ret)
   (.seq (.region [⟨some 16, .faddr 0 (.t 3), none⟩,
     ⟨some 17, .load false 1 (.t 16), none⟩,
     ⟨some 18, .bin .eql (.t 17) (.c (.int .i64 3)), none⟩,
     ⟨some 15, .mv (.t 18), none⟩])
   (.cond (.t 15)
    (.seq (.region [⟨some 19, .faddr 1 (.t 3), none⟩,
      ⟨some 20, .load false 1 (.t 19), none⟩,
      ⟨some 21, .build [(.int .i64 0), (.int .i64 0), (.int .i64 0)] [(0, 1, (.c (.int .i64 1))), (1, 1, (.t 20))], none⟩,
      ⟨none, .store 3 (.t 6) (.t 21), none⟩,
      ⟨some 7, .mv (.c (.bool true)), none⟩])
    .ret)
    (.seq (.region [⟨some 23, .faddr 0 (.t 3), none⟩,
      ⟨some 24, .load false 1 (.t 23), none⟩,
      ⟨some 25, .bin .eql (.t 24) (.c (.int .i64 4)), none⟩,
      ⟨some 22, .mv (.t 25), none⟩])
    (.cond (.t 22)
     (.seq (.region [⟨some 26, .mv (.t 2), none⟩,
       ⟨some 27, .mv (.t 1), none⟩,
       ⟨some 28, .bin .rem (.t 26) (.t 27), none⟩,
       ⟨some 29, .build [(.int .i64 0), (.int .i64 0), (.int .i64 0)] [(0, 1, (.c (.int .i64 1))), (1, 1, (.t 28))], none⟩,
       ⟨none, .store 3 (.t 6) (.t 29), none⟩,
       ⟨some 7, .mv (.c (.bool true)), none⟩])
     .ret)
     (.seq (.region [⟨some 31, .faddr 0 (.t 3), none⟩,
       ⟨some 32, .load false 1 (.t 31), none⟩,
       ⟨some 33, .bin .eql (.t 32) (.c (.int .i64 5)), none⟩,
       ⟨some 34, .mv (.t 33), none⟩,
       ⟨some 35, .mv (.t 2), some (34, true)⟩,
       ⟨some 36, .bin .neq (.t 35) (.c (.int .i64 0)), some (34, true)⟩,
       ⟨some 37, .pick (.t 34) (.t 36) (.c (.bool false)), none⟩,
       ⟨some 30, .mv (.t 37), none⟩])
     (.cond (.t 30)
      (.seq (.region [⟨some 38, .faddr 1 (.t 3), none⟩,
        ⟨some 39, .load false 1 (.t 38), none⟩,
        ⟨some 40, .build [(.int .i64 0), (.int .i64 0), (.int .i64 0)] [(0, 1, (.c (.int .i64 1))), (1, 1, (.t 39))], none⟩,
        ⟨none, .store 3 (.t 6) (.t 40), none⟩,
        ⟨some 7, .mv (.c (.bool true)), none⟩])
      .ret)
      (.seq (.region [⟨some 42, .faddr 0 (.t 3), none⟩,
        ⟨some 43, .load false 1 (.t 42), none⟩,
        ⟨some 44, .bin .eql (.t 43) (.c (.int .i64 5)), none⟩,
        ⟨some 41, .mv (.t 44), none⟩])
      (.cond (.t 41)
       (.seq (.region [⟨some 45, .faddr 2 (.t 3), none⟩,
         ⟨some 46, .load false 1 (.t 45), none⟩,
         ⟨some 47, .build [(.int .i64 0), (.int .i64 0), (.int .i64 0)] [(0, 1, (.c (.int .i64 1))), (1, 1, (.t 46))], none⟩,
         ⟨none, .store 3 (.t 6) (.t 47), none⟩,
         ⟨some 7, .mv (.c (.bool true)), none⟩])
       .ret)
       .skip)))))))))))
 (.seq (.region [⟨some 48, .build [(.int .i64 0), (.int .i64 0), (.int .i64 0)] [], none⟩,
   ⟨none, .store 3 (.t 6) (.t 48), none⟩,
   ⟨some 7, .mv (.c (.bool false)), none⟩])
 .ret)))
def f44_lay : Lay := ⟨49, [], false⟩
def f44_res : List LRes := [.cell 6 true 3, .t 7]
def f44_L : LFn := ⟨3, f44_lay, f44_c0, f44_res⟩
theorem f44_low : lowFn Try.prog [] 44 = some f44_L := by kernel_rfl
theorem f44_fok : FnOk Try.prog 44 := ⟨_, Try.func44, rfl, rfl⟩
noncomputable def S_querylang_operandKey (m : Option Nat) (a0 : G_QOp) (a1 : Int) (a2 : Int) : Option (G_QKey × Bool) :=
  if (a0.f_Op == 2) = true then
    some ((G_QKey.mk 0 a0.f_A 0), true)
  else
    if (a0.f_Op == 3) = true then
      some ((G_QKey.mk 1 a0.f_A 0), true)
    else
      if (a0.f_Op == 4) = true then
        if a1 ≠ 0 then
        some ((G_QKey.mk 1 (a2.tmod a1) 0), true)
        else none
      else
        if ((a0.f_Op == 5) && (a2 != 0)) = true then
          some ((G_QKey.mk 1 a0.f_A 0), true)
        else
          if (a0.f_Op == 5) = true then
            some ((G_QKey.mk 1 a0.f_B 0), true)
          else
            some ((G_QKey.mk 0 0 0), false)

def f44_Q (a0 : G_QOp) (a1 : Int) (a2 : Int) (o : G_QKey × Bool) : Exit → Env → AHeap → Nat → Prop := FinK f44_res (PureEnd (.tup [.agg [.int .i64 o.1.f_Kind, .int .i64 o.1.f_A, .int .i64 o.1.f_B], .bool o.2]))

theorem f44_start {a0 : G_QOp} {a1 : Int} {a2 : Int} {m : Option Nat} {o : G_QKey × Bool} (h : S_querylang_operandKey m a0 a1 a2 = some o) : LWp Try.prog f44_lay 0 f44_c0 (f44_Q a0 a1 a2 o) (initEnv 0 [.agg [.int .i64 a0.f_Op, .int .i64 a0.f_A, .int .i64 a0.f_B], .int .i64 a1, .int .i64 a2]) [] 0 := by
  unfold S_querylang_operandKey at h
  refine seqI ?_
  refine regI ?_
  refine seqI ?_
  refine blockI ?_
  refine seqI ?_
  refine regI ?_
  refine condI (v := (a0.f_Op == 2)) rfl trivial (fun h1 => ?_) (fun h1 => ?_)
  · have h := ite_tt h1 h
    refine seqI ?_
    refine regI ?_
    refine LWp.sim (e := [(6, .ptr (0, 0) 0 0), (7, .bool true)]) (L := [((0, 0), .one [.int .i64 0, .int .i64 a0.f_A, .int .i64 0])]) (n := 1) ?_ ?_
    · exact simI (M := [((0, 0), (1, 0))]) rfl (And.intro (Vw.ptr _ _ _ _ rfl) (And.intro (Vw.same _ rfl) trivial)) (And.intro (And.intro rfl (BVw.oneL (And.intro (Vw.same _ rfl) (And.intro (Vw.same _ rfl) (And.intro (Vw.same _ rfl) trivial))))) trivial)
    refine retI ?_
    cases h
    exact And.intro (And.intro trivial (And.intro rfl (Nat.le_of_ble_eq_true rfl))) (And.intro trivial (And.intro rfl (Vw.same _ rfl)))
  · have h := ite_ff h1 h
    refine seqI ?_
    refine regI ?_
    refine LWp.sim (e := [(1, .int .i64 a1), (2, .int .i64 a2), (3, .ptr (0, 0) 0 0), (6, .ptr (1, 0) 0 0), (15, .bool (a0.f_Op == 3))]) (L := [((0, 0), .one [.int .i64 a0.f_Op, .int .i64 a0.f_A, .int .i64 a0.f_B]), ((1, 0), .one [.int .i64 0, .int .i64 0, .int .i64 0])]) (n := 2) ?_ ?_
    · exact simI (M := [((0, 0), (0, 0)), ((1, 0), (1, 0))]) rfl (And.intro (Vw.same _ rfl) (And.intro (Vw.same _ rfl) (And.intro (Vw.ptr _ _ _ _ rfl) (And.intro (Vw.ptr _ _ _ _ rfl) (And.intro (Vw.same _ rfl) trivial))))) (And.intro (And.intro rfl (BVw.oneL (And.intro (Vw.same _ rfl) (And.intro (Vw.same _ rfl) (And.intro (Vw.same _ rfl) trivial))))) (And.intro (And.intro rfl (BVw.oneL (And.intro (Vw.same _ rfl) (And.intro (Vw.same _ rfl) (And.intro (Vw.same _ rfl) trivial))))) trivial))
    refine condI (v := (a0.f_Op == 3)) rfl trivial (fun h2 => ?_) (fun h2 => ?_)
    · have h := ite_tt h2 h
      refine seqI ?_
      refine regI ?_
      refine retI ?_
      cases h
      exact And.intro (And.intro trivial (And.intro rfl (Nat.le_of_ble_eq_true rfl))) (And.intro trivial (And.intro rfl (Vw.same _ rfl)))
    · have h := ite_ff h2 h
      refine seqI ?_
      refine regI ?_
      refine condI (v := (a0.f_Op == 4)) rfl trivial (fun h3 => ?_) (fun h3 => ?_)
      · have h := ite_tt h3 h
        refine seqI ?_
        refine regI ?_
        obtain ⟨h4, h⟩ := ite_some h
        refine And.intro h4 ?_
        show yops _ _ _ [(28, .int .i64 (a2.tmod a1)), (27, .int .i64 a1), (26, .int .i64 a2), (22, .bool (a0.f_Op == 4)), (25, .bool (a0.f_Op == 4)), (24, .int .i64 a0.f_Op), (23, .ptr (0, 0) 0 0), (1, .int .i64 a1), (2, .int .i64 a2), (3, .ptr (0, 0) 0 0), (6, .ptr (1, 0) 0 0), (15, .bool (a0.f_Op == 3))] _ _
        refine LWp.sim (e := [(6, .ptr (0, 0) 0 0), (7, .bool true)]) (L := [((0, 0), .one [.int .i64 1, .int .i64 (a2.tmod a1), .int .i64 0])]) (n := 1) ?_ ?_
        · exact simI (M := [((0, 0), (1, 0))]) rfl (And.intro (Vw.ptr _ _ _ _ rfl) (And.intro (Vw.same _ rfl) trivial)) (And.intro (And.intro rfl (BVw.oneL (And.intro (Vw.same _ rfl) (And.intro (Vw.same _ rfl) (And.intro (Vw.same _ rfl) trivial))))) trivial)
        refine retI ?_
        cases h
        exact And.intro (And.intro trivial (And.intro rfl (Nat.le_of_ble_eq_true rfl))) (And.intro trivial (And.intro rfl (Vw.same _ rfl)))
      · have h := ite_ff h3 h
        refine seqI ?_
        refine regI ?_
        refine And.intro (fun hp => hp) ?_
        show yops _ _ _ [(36, .cnd ((a0.f_Op == 5) == true) (.bool (a2 != 0))), (35, .cnd ((a0.f_Op == 5) == true) (.int .i64 a2)), (34, .bool (a0.f_Op == 5)), (33, .bool (a0.f_Op == 5)), (32, .int .i64 a0.f_Op), (31, .ptr (0, 0) 0 0), (22, .bool (a0.f_Op == 4)), (25, .bool (a0.f_Op == 4)), (24, .int .i64 a0.f_Op), (23, .ptr (0, 0) 0 0), (1, .int .i64 a1), (2, .int .i64 a2), (3, .ptr (0, 0) 0 0), (6, .ptr (1, 0) 0 0), (15, .bool (a0.f_Op == 3))] _ _
        refine And.intro (fun hc => (bqt hc)) ?_
        refine LWp.sim (e := [(3, .ptr (0, 0) 0 0), (6, .ptr (1, 0) 0 0), (30, .bool ((a0.f_Op == 5) && (a2 != 0)))]) (L := [((0, 0), .one [.int .i64 a0.f_Op, .int .i64 a0.f_A, .int .i64 a0.f_B]), ((1, 0), .one [.int .i64 0, .int .i64 0, .int .i64 0])]) (n := 2) ?_ ?_
        · exact simI (M := [((0, 0), (0, 0)), ((1, 0), (1, 0))]) rfl (And.intro (Vw.ptr _ _ _ _ rfl) (And.intro (Vw.ptr _ _ _ _ rfl) (And.intro (Vw.same _ rfl) trivial))) (And.intro (And.intro rfl (BVw.oneL (And.intro (Vw.same _ rfl) (And.intro (Vw.same _ rfl) (And.intro (Vw.same _ rfl) trivial))))) (And.intro (And.intro rfl (BVw.oneL (And.intro (Vw.same _ rfl) (And.intro (Vw.same _ rfl) (And.intro (Vw.same _ rfl) trivial))))) trivial))
        refine condI (v := ((a0.f_Op == 5) && (a2 != 0))) rfl trivial (fun h5 => ?_) (fun h5 => ?_)
        · have h := ite_tt h5 h
          refine seqI ?_
          refine regI ?_
          refine retI ?_
          cases h
          exact And.intro (And.intro trivial (And.intro rfl (Nat.le_of_ble_eq_true rfl))) (And.intro trivial (And.intro rfl (Vw.same _ rfl)))
        · have h := ite_ff h5 h
          refine seqI ?_
          refine regI ?_
          refine condI (v := (a0.f_Op == 5)) rfl trivial (fun h6 => ?_) (fun h6 => ?_)
          · have h := ite_tt h6 h
            refine seqI ?_
            refine regI ?_
            refine LWp.sim (e := [(6, .ptr (0, 0) 0 0), (7, .bool true)]) (L := [((0, 0), .one [.int .i64 1, .int .i64 a0.f_B, .int .i64 0])]) (n := 1) ?_ ?_
            · exact simI (M := [((0, 0), (1, 0))]) rfl (And.intro (Vw.ptr _ _ _ _ rfl) (And.intro (Vw.same _ rfl) trivial)) (And.intro (And.intro rfl (BVw.oneL (And.intro (Vw.same _ rfl) (And.intro (Vw.same _ rfl) (And.intro (Vw.same _ rfl) trivial))))) trivial)
            refine retI ?_
            cases h
            exact And.intro (And.intro trivial (And.intro rfl (Nat.le_of_ble_eq_true rfl))) (And.intro trivial (And.intro rfl (Vw.same _ rfl)))
          · have h := ite_ff h6 h
            refine skipI ?_
            refine seqI ?_
            refine regI ?_
            refine retI ?_
            cases h
            exact And.intro (And.intro trivial (And.intro rfl (Nat.le_of_ble_eq_true rfl))) (And.intro trivial (And.intro rfl (Vw.same _ rfl)))

theorem f44_ok {a0 : G_QOp} {a1 : Int} {a2 : Int} {m : Option Nat} {o : G_QKey × Bool} (h : S_querylang_operandKey m a0 a1 a2 = some o) : PFn Try.prog 44 [.agg [.int .i64 a0.f_Op, .int .i64 a0.f_A, .int .i64 a0.f_B], .int .i64 a1, .int .i64 a2] (.tup [.agg [.int .i64 o.1.f_Kind, .int .i64 o.1.f_A, .int .i64 o.1.f_B], .bool o.2]) := PFn.ofFnW (L := f44_L) f44_low f44_fok (Nat.le_of_ble_eq_true rfl) rfl (f44_start h)

def f43b1_c0 : LCode := (.seq (.region [⟨some 1, .mv (.c (.int .i64 0)), none⟩])
 (.seq (.region [⟨some 3, .load false 1 (.t 0), none⟩,
   ⟨some 4, .load false 1 (.t 0), none⟩,
   ⟨some 5, .len false (.t 4), none⟩,
   ⟨some 6, .bin .sub (.t 5) (.c (.int .i64 1)), none⟩,
   ⟨some 7, .iaddr 1 (.t 3) (.t 6), none⟩,
   ⟨some 8, .load false 1 (.t 7), none⟩,
   ⟨some 2, .mv (.t 8), none⟩])
 (.seq (.region [⟨some 9, .load false 1 (.t 0), none⟩,
   ⟨some 10, .load false 1 (.t 0), none⟩,
   ⟨some 11, .len false (.t 10), none⟩,
   ⟨some 12, .bin .sub (.t 11) (.c (.int .i64 1)), none⟩,
   ⟨some 13, .slSl 1 (.t 9) none (some (.t 12)) none, none⟩,
   ⟨none, .store 1 (.t 0) (.t 13), none⟩])
 (.seq (.region [⟨some 14, .mv (.t 2), none⟩,
   ⟨some 1, .mv (.t 14), none⟩])
 .ret))))
def f43b1_lay : Lay := ⟨15, [], false⟩
def f43b1_res : List LRes := [.t 1]
def f43b1_L : LFn := ⟨1, f43b1_lay, f43b1_c0, f43b1_res⟩
theorem f43b1_low : lowFn Try.prog [] 43 = some f43b1_L := by kernel_rfl
theorem f43b1_fok : FnOk Try.prog 43 := ⟨_, Try.func43, rfl, rfl⟩
noncomputable def S_querylang_run_1_43 (m : Option Nat) (a0 : Nat) (a1 : List Int) : Option (Int × Nat) :=
  if (0 : Int) ≤ (W (((a0 : Nat) : Int) - 1)) ∧ (W (((a0 : Nat) : Int) - 1)) < ((a0 : Nat) : Int) then
  if (0 + (W (((a0 : Nat) : Int) - 1)).toNat) < a1.length then
  if (0 : Int) ≤ (W (((a0 : Nat) : Int) - 1)) ∧ (W (((a0 : Nat) : Int) - 1)) ≤ ((a0 : Nat) : Int) then
  some ((a1.getD (0 + (W (((a0 : Nat) : Int) - 1)).toNat) default), (W (((a0 : Nat) : Int) - 1)).toNat)
  else none
  else none
  else none

def f43b1_Q (a0 : Nat) (a1 : List Int) (o : Int × Nat) : Exit → Env → AHeap → Nat → Prop := FinK f43b1_res (FinTo 3 4 (.int .i64 o.1) [((0, 0), .one [.msl (3, 0) 1 0 o.2 false]), ((3, 0), .rows 1 (a1.map e_i64))])

theorem f43b1_start {a0 : Nat} {a1 : List Int} {m : Option Nat} {o : Int × Nat} (h : S_querylang_run_1_43 m a0 a1 = some o) : LWp Try.prog f43b1_lay 3 f43b1_c0 (f43b1_Q a0 a1 o) (initEnv 0 [.ptr (0, 0) 0 0]) [((0, 0), .one [.msl (0, 1) 1 0 a0 false]), ((0, 1), .rows 1 (a1.map e_i64))] 3 := by
  unfold S_querylang_run_1_43 at h
  refine seqI ?_
  refine regI ?_
  refine seqI ?_
  refine regI ?_
  obtain ⟨h1, h⟩ := ite_some h
  refine And.intro h1 ?_
  show yops _ _ _ [(7, .ptr (0, 1) (0 + (W (((a0 : Nat) : Int) - 1)).toNat) 0), (6, .int .i64 (W (((a0 : Nat) : Int) - 1))), (5, .int .i64 ((a0 : Nat) : Int)), (4, .msl (0, 1) 1 0 a0 false), (3, .msl (0, 1) 1 0 a0 false), (1, .int .i64 0), (0, .ptr (0, 0) 0 0)] _ _
  obtain ⟨h2, h⟩ := ite_some h
  refine Exists.intro (e_i64 (a1.getD (0 + (W (((a0 : Nat) : Int) - 1)).toNat) default)) (And.intro (getD_enc e_i64 _ _ h2) (And.intro (And.intro (lt_map e_i64 h2) (Nat.le_of_ble_eq_true rfl)) ?_))
  refine LWp.sim (e := [(0, .ptr (0, 0) 0 0), (2, .int .i64 (a1.getD (0 + (W (((a0 : Nat) : Int) - 1)).toNat) default))]) (L := [((0, 0), .one [.msl (3, 0) 1 0 a0 false]), ((3, 0), .rows 1 (a1.map e_i64))]) (n := 4) ?_ ?_
  · exact simI (M := [((3, 0), (0, 1))]) rfl (And.intro (Vw.ptr _ _ _ _ rfl) (And.intro (Vw.same _ rfl) trivial)) (And.intro (And.intro rfl (BVw.oneL (And.intro (Vw.msl _ _ _ _ _ _ rfl) trivial))) (And.intro (And.intro rfl (BVw.enc e_i64 (fun _ => rfl) _ a1)) trivial))
  refine seqI ?_
  refine regI ?_
  obtain ⟨h3, h⟩ := ite_some h
  refine Exists.intro (.msl (3, 0) 1 0 ((W (((a0 : Nat) : Int) - 1)).toNat) false) (And.intro (by simp) (And.intro (And.intro rfl (And.intro (Int.le_refl _) h3)) ?_))
  refine seqI ?_
  refine regI ?_
  refine LWp.sim (e := [(1, .int .i64 (a1.getD (0 + (W (((a0 : Nat) : Int) - 1)).toNat) default))]) (L := [((0, 0), .one [.msl (3, 0) 1 0 ((W (((a0 : Nat) : Int) - 1)).toNat) false]), ((3, 0), .rows 1 (a1.map e_i64))]) (n := 4) ?_ ?_
  · exact simI (M := [((3, 0), (3, 0))]) rfl (And.intro (Vw.same _ rfl) trivial) (And.intro (And.intro rfl (BVw.oneL (And.intro (Vw.msl _ _ _ _ _ _ rfl) trivial))) (And.intro (And.intro rfl (BVw.enc e_i64 (fun _ => rfl) _ a1)) trivial))
  refine retI ?_
  cases h
  exact And.intro trivial (finI (n' := 4) [((3, 0), (3, 0))] [] rfl rfl (Vw.same _ rfl) (And.intro (And.intro rfl (BVw.oneL (And.intro (Vw.msl _ _ _ _ _ _ rfl) trivial))) (And.intro (And.intro rfl (BVw.enc e_i64 (fun _ => rfl) _ a1)) trivial)))

theorem f43b1_ok {a0 : Nat} {a1 : List Int} {m : Option Nat} {o : Int × Nat} (h : S_querylang_run_1_43 m a0 a1 = some o) : ACalls Try.prog 43 [.ptr (0, 0) 0 0] [((0, 0), .one [.msl (0, 1) 1 0 a0 false]), ((0, 1), .rows 1 (a1.map e_i64))] 3 (Gives 4 (.int .i64 o.1) [((0, 0), .one [.msl (3, 0) 1 0 o.2 false]), ((3, 0), .rows 1 (a1.map e_i64))]) := bfn_of (L := f43b1_L) f43b1_low f43b1_fok (Nat.le_of_ble_eq_true rfl) (f43b1_start h)

def f45_c0 : LCode := (.seq (.region [⟨some 6, .mv (.c (.int .i64 0)), none⟩])
 (.seq (.seq (.region [⟨some 7, .mv (.t 0), none⟩])
 (.block 0
  (.seq (.region [⟨some 9, .bin .eql (.t 7) (.c (.int .i64 6)), none⟩,
    ⟨some 8, .mv (.t 9), none⟩])
  (.cond (.t 8)
   (.seq (.region [⟨some 10, .mv (.t 1), none⟩,
     ⟨some 11, .mv (.t 2), none⟩,
     ⟨some 12, .bin .add (.t 10) (.t 11), none⟩,
     ⟨some 13, .call 39 [(.t 12)], none⟩,
     ⟨some 6, .mv (.t 13), none⟩])
   .ret)
   (.seq (.region [⟨some 15, .bin .eql (.t 7) (.c (.int .i64 7)), none⟩,
     ⟨some 14, .mv (.t 15), none⟩])
   (.cond (.t 14)
    (.seq (.region [⟨some 16, .mv (.t 1), none⟩,
      ⟨some 17, .mv (.t 2), none⟩,
      ⟨some 18, .bin .sub (.t 16) (.t 17), none⟩,
      ⟨some 19, .call 39 [(.t 18)], none⟩,
      ⟨some 6, .mv (.t 19), none⟩])
    .ret)
    (.seq (.region [⟨some 21, .bin .eql (.t 7) (.c (.int .i64 8)), none⟩,
      ⟨some 20, .mv (.t 21), none⟩])
    (.cond (.t 20)
     (.seq (.region [⟨some 22, .mv (.t 1), none⟩,
       ⟨some 23, .mv (.t 2), none⟩,
       ⟨some 24, .bin .mul (.t 22) (.t 23), none⟩,
       ⟨some 25, .call 39 [(.t 24)], none⟩,
       ⟨some 6, .mv (.t 25), none⟩])
     .ret)
     (.seq (.region [⟨some 27, .bin .eql (.t 7) (.c (.int .i64 9)), none⟩,
       ⟨some 26, .mv (.t 27), none⟩])
     (.cond (.t 26)
      (.seq (.region [⟨some 28, .mv (.t 1), none⟩,
        ⟨some 29, .mv (.t 2), none⟩,
        ⟨some 30, .mnx false [(.t 28), (.t 29)], none⟩,
        ⟨some 6, .mv (.t 30), none⟩])
      .ret)
      (.seq (.region [⟨some 32, .bin .eql (.t 7) (.c (.int .i64 10)), none⟩,
        ⟨some 31, .mv (.t 32), none⟩])
      (.cond (.t 31)
       (.seq (.region [⟨some 33, .mv (.t 1), none⟩,
         ⟨some 34, .mv (.t 2), none⟩,
         ⟨some 35, .mnx true [(.t 33), (.t 34)], none⟩,
         ⟨some 6, .mv (.t 35), none⟩])
       .ret)
       .skip))))))))))))
 (.seq (.seq (.region [⟨some 36, .mv (.t 1), none⟩,
   ⟨some 37, .mv (.t 2), none⟩,
   ⟨some 38, .bin .lss (.t 36) (.t 37), none⟩])
 (.cond (.t 38)
  (.seq (.region [⟨some 6, .mv (.c (.int .i64 1)), none⟩])
  .ret)
  .skip))
 (.seq (.region [⟨some 6, .mv (.c (.int .i64 0)), none⟩])
 .ret))))
def f45_lay : Lay := ⟨39, [], false⟩
def f45_res : List LRes := [.t 6]
def f45_L : LFn := ⟨3, f45_lay, f45_c0, f45_res⟩
theorem f45_low : lowFn Try.prog [] 45 = some f45_L := by kernel_rfl
theorem f45_fok : FnOk Try.prog 45 := ⟨_, Try.func45, rfl, rfl⟩
noncomputable def S_querylang_binary (m : Option Nat) (a0 : Int) (a1 : Int) (a2 : Int) : Option Int :=
  if (a0 == 6) = true then
    (S_querylang_reduce m (W (a1 + a2))).bind fun v1 =>
    some v1
  else
    if (a0 == 7) = true then
      (S_querylang_reduce m (W (a1 - a2))).bind fun v2 =>
      some v2
    else
      if (a0 == 8) = true then
        (S_querylang_reduce m (W (a1 * a2))).bind fun v3 =>
        some v3
      else
        if (a0 == 9) = true then
          some (if a2 < a1 then a2 else a1)
        else
          if (a0 == 10) = true then
            some (if a2 > a1 then a2 else a1)
          else
            if (decide (a1 < a2)) = true then
              some 1
            else
              some 0

def f45_Q (a0 : Int) (a1 : Int) (a2 : Int) (o : Int) : Exit → Env → AHeap → Nat → Prop := FinK f45_res (PureEnd (.int .i64 o))

theorem f45_start {a0 : Int} {a1 : Int} {a2 : Int} {m : Option Nat} {o : Int} (h : S_querylang_binary m a0 a1 a2 = some o) : LWp Try.prog f45_lay 0 f45_c0 (f45_Q a0 a1 a2 o) (initEnv 0 [.int .i64 a0, .int .i64 a1, .int .i64 a2]) [] 0 := by
  unfold S_querylang_binary at h
  refine seqI ?_
  refine regI ?_
  refine seqI ?_
  refine seqI ?_
  refine regI ?_
  refine blockI ?_
  refine seqI ?_
  refine regI ?_
  refine condI (v := (a0 == 6)) rfl trivial (fun h1 => ?_) (fun h1 => ?_)
  · have h := ite_tt h1 h
    refine seqI ?_
    refine regI ?_
    obtain ⟨v1, h2, h⟩ := bind_some h
    refine PFn.call (f39_ok h2) (And.intro (Vw.same _ rfl) trivial) ?_
    show yops _ _ _ [(13, .int .i64 v1), (12, .int .i64 (W (a1 + a2))), (11, .int .i64 a2), (10, .int .i64 a1), (8, .bool (a0 == 6)), (9, .bool (a0 == 6)), (7, .int .i64 a0), (6, .int .i64 0), (0, .int .i64 a0), (1, .int .i64 a1), (2, .int .i64 a2)] _ _
    refine LWp.sim (e := [(6, .int .i64 v1)]) (L := []) (n := 0) ?_ ?_
    · exact simI (M := []) rfl (And.intro (Vw.same _ rfl) trivial) trivial
    refine retI ?_
    cases h
    exact And.intro trivial (And.intro rfl (Vw.same _ rfl))
  · have h := ite_ff h1 h
    refine seqI ?_
    refine regI ?_
    refine condI (v := (a0 == 7)) rfl trivial (fun h3 => ?_) (fun h3 => ?_)
    · have h := ite_tt h3 h
      refine seqI ?_
      refine regI ?_
      obtain ⟨v2, h4, h⟩ := bind_some h
      refine PFn.call (f39_ok h4) (And.intro (Vw.same _ rfl) trivial) ?_
      show yops _ _ _ [(19, .int .i64 v2), (18, .int .i64 (W (a1 - a2))), (17, .int .i64 a2), (16, .int .i64 a1), (14, .bool (a0 == 7)), (15, .bool (a0 == 7)), (8, .bool (a0 == 6)), (9, .bool (a0 == 6)), (7, .int .i64 a0), (6, .int .i64 0), (0, .int .i64 a0), (1, .int .i64 a1), (2, .int .i64 a2)] _ _
      refine LWp.sim (e := [(6, .int .i64 v2)]) (L := []) (n := 0) ?_ ?_
      · exact simI (M := []) rfl (And.intro (Vw.same _ rfl) trivial) trivial
      refine retI ?_
      cases h
      exact And.intro trivial (And.intro rfl (Vw.same _ rfl))
    · have h := ite_ff h3 h
      refine seqI ?_
      refine regI ?_
      refine LWp.sim (e := [(1, .int .i64 a1), (2, .int .i64 a2), (7, .int .i64 a0), (20, .bool (a0 == 8))]) (L := []) (n := 0) ?_ ?_
      · exact simI (M := []) rfl (And.intro (Vw.same _ rfl) (And.intro (Vw.same _ rfl) (And.intro (Vw.same _ rfl) (And.intro (Vw.same _ rfl) trivial)))) trivial
      refine condI (v := (a0 == 8)) rfl trivial (fun h5 => ?_) (fun h5 => ?_)
      · have h := ite_tt h5 h
        refine seqI ?_
        refine regI ?_
        obtain ⟨v3, h6, h⟩ := bind_some h
        refine PFn.call (f39_ok h6) (And.intro (Vw.same _ rfl) trivial) ?_
        refine retI ?_
        cases h
        exact And.intro trivial (And.intro rfl (Vw.same _ rfl))
      · have h := ite_ff h5 h
        refine seqI ?_
        refine regI ?_
        refine condI (v := (a0 == 9)) rfl trivial (fun h7 => ?_) (fun h7 => ?_)
        · have h := ite_tt h7 h
          refine seqI ?_
          refine regI ?_
          refine retI ?_
          cases h
          exact And.intro trivial (And.intro rfl (Vw.same _ rfl))
        · have h := ite_ff h7 h
          refine seqI ?_
          refine regI ?_
          refine condI (v := (a0 == 10)) rfl trivial (fun h8 => ?_) (fun h8 => ?_)
          · have h := ite_tt h8 h
            refine seqI ?_
            refine regI ?_
            refine LWp.sim (e := [(6, .int .i64 (if a2 > a1 then a2 else a1))]) (L := []) (n := 0) ?_ ?_
            · exact simI (M := []) rfl (And.intro (Vw.same _ rfl) trivial) trivial
            refine retI ?_
            cases h
            exact And.intro trivial (And.intro rfl (Vw.same _ rfl))
          · have h := ite_ff h8 h
            refine skipI ?_
            refine seqI ?_
            refine seqI ?_
            refine regI ?_
            refine condI (v := (decide (a1 < a2))) rfl trivial (fun h9 => ?_) (fun h9 => ?_)
            · have h := ite_tt h9 h
              refine seqI ?_
              refine regI ?_
              refine LWp.sim (e := [(6, .int .i64 1)]) (L := []) (n := 0) ?_ ?_
              · exact simI (M := []) rfl (And.intro (Vw.same _ rfl) trivial) trivial
              refine retI ?_
              cases h
              exact And.intro trivial (And.intro rfl (Vw.same _ rfl))
            · have h := ite_ff h9 h
              refine skipI ?_
              refine seqI ?_
              refine regI ?_
              refine LWp.sim (e := [(6, .int .i64 0)]) (L := []) (n := 0) ?_ ?_
              · exact simI (M := []) rfl (And.intro (Vw.same _ rfl) trivial) trivial
              refine retI ?_
              cases h
              exact And.intro trivial (And.intro rfl (Vw.same _ rfl))

theorem f45_ok {a0 : Int} {a1 : Int} {a2 : Int} {m : Option Nat} {o : Int} (h : S_querylang_binary m a0 a1 a2 = some o) : PFn Try.prog 45 [.int .i64 a0, .int .i64 a1, .int .i64 a2] (.int .i64 o) := PFn.ofFnW (L := f45_L) f45_low f45_fok (Nat.le_of_ble_eq_true rfl) rfl (f45_start h)

def f31b0_c2 : LCode := (.seq (.seq (.region [⟨some 34, .load true 3 (.t 10), none⟩,
   ⟨some 35, .mv (.t 1), none⟩,
   ⟨some 36, .mv (.t 11), none⟩,
   ⟨some 37, .call 44 [(.t 34), (.t 35), (.t 36)], none⟩,
   ⟨some 33, .mv (.t 37), none⟩,
   ⟨some 38, .ext 0 (.t 33), none⟩,
   ⟨some 39, .ext 1 (.t 33), none⟩,
   ⟨some 12, .alloc [(.int .i64 0), (.int .i64 0), (.int .i64 0)], none⟩,
   ⟨none, .store 3 (.t 12) (.t 38), none⟩,
   ⟨some 13, .mv (.t 39), none⟩])
 (.seq (.region [⟨some 40, .mv (.t 13), none⟩])
 (.cond (.t 40)
  (.seq (.draw [⟨⟨some 41, .load false 1 (.t 7), none⟩, []⟩,
    ⟨⟨some 42, .mv (.t 2), none⟩, []⟩,
    ⟨⟨some 43, .load true 3 (.t 12), none⟩, []⟩,
    ⟨⟨some 44, .callv (.t 42) [(.t 43)], none⟩, [0]⟩,
    ⟨⟨some 45, .mkSl true 1 [(.int .i64 0)] 1 [(0, (.t 44))], none⟩, [0]⟩,
    ⟨⟨some 46, .app false 1 8 (.t 41) (.t 45), none⟩, []⟩,
    ⟨⟨none, .store 1 (.t 7) (.t 46), none⟩, []⟩])
  (.exit 1))
  .skip)))
 (.seq (.seq (.region [⟨some 47, .faddr 0 (.t 10), none⟩,
   ⟨some 48, .load false 1 (.t 47), none⟩,
   ⟨some 49, .bin .eql (.t 48) (.c (.int .i64 1)), none⟩])
 (.cond (.t 49)
  (.seq (.draw [⟨⟨some 50, .load false 1 (.t 7), none⟩, []⟩,
    ⟨⟨some 51, .faddr 1 (.t 10), none⟩, []⟩,
    ⟨⟨some 52, .load false 1 (.t 51), none⟩, []⟩,
    ⟨⟨some 53, .call 39 [(.t 52)], none⟩, [0]⟩,
    ⟨⟨some 54, .mkSl true 1 [(.int .i64 0)] 1 [(0, (.t 53))], none⟩, [0]⟩,
    ⟨⟨some 55, .app false 1 8 (.t 50) (.t 54), none⟩, []⟩,
    ⟨⟨none, .store 1 (.t 7) (.t 55), none⟩, []⟩])
  (.exit 1))
  .skip))
 (.seq (.region [⟨some 56, .mv (.t 8), none⟩,
   ⟨some 57, .callv (.t 56) [], none⟩,
   ⟨some 14, .mv (.t 57), none⟩])
 (.seq (.region [⟨some 58, .mv (.t 8), none⟩,
   ⟨some 59, .callv (.t 58) [], none⟩,
   ⟨some 15, .mv (.t 59), none⟩])
 (.draw [⟨⟨some 60, .load false 1 (.t 7), none⟩, []⟩,
   ⟨⟨some 61, .faddr 0 (.t 10), none⟩, []⟩,
   ⟨⟨some 62, .load false 1 (.t 61), none⟩, []⟩,
   ⟨⟨some 63, .mv (.t 15), none⟩, []⟩,
   ⟨⟨some 64, .mv (.t 14), none⟩, []⟩,
   ⟨⟨some 65, .call 45 [(.t 62), (.t 63), (.t 64)], none⟩, [0]⟩,
   ⟨⟨some 66, .mkSl true 1 [(.int .i64 0)] 1 [(0, (.t 65))], none⟩, [0]⟩,
   ⟨⟨some 67, .app false 1 8 (.t 60) (.t 66), none⟩, []⟩,
   ⟨⟨none, .store 1 (.t 7) (.t 67), none⟩, []⟩])))))
def f31b0_c0 : LCode := (.region [⟨some 68, .bin .add (.t 19) (.c (.int .i64 1)), none⟩,
   ⟨some 19, .mv (.t 68), none⟩])
def f31b0_c3 : LCode := (.seq (.region [⟨some 20, .bin .lss (.t 19) (.t 18), none⟩])
 (.seq (.cond (.t 20)
  .skip
  (.exit 0))
 (.seq (.block 1
  (.seq (.region [⟨some 21, .iaddr 3 (.t 17) (.t 19), none⟩,
    ⟨some 22, .load true 3 (.t 21), none⟩,
    ⟨some 10, .alloc [(.int .i64 0), (.int .i64 0), (.int .i64 0)], none⟩,
    ⟨none, .store 3 (.t 10) (.t 22), none⟩])
  (.seq (.region [⟨some 11, .mv (.c (.int .i64 0)), none⟩])
  (.seq (.seq (.region [⟨some 23, .faddr 0 (.t 10), none⟩,
    ⟨some 24, .load false 1 (.t 23), none⟩,
    ⟨some 25, .bin .eql (.t 24) (.c (.int .i64 4)), none⟩,
    ⟨some 26, .mv (.t 25), none⟩,
    ⟨some 27, .faddr 0 (.t 10), some (26, false)⟩,
    ⟨some 28, .load false 1 (.t 27), some (26, false)⟩,
    ⟨some 29, .bin .eql (.t 28) (.c (.int .i64 5)), some (26, false)⟩,
    ⟨some 30, .pick (.t 26) (.c (.bool true)) (.t 29), none⟩])
  (.cond (.t 30)
   (.region [⟨some 31, .mv (.t 8), none⟩,
     ⟨some 32, .callv (.t 31) [], none⟩,
     ⟨some 11, .mv (.t 32), none⟩])
   .skip))
  f31b0_c2))))
 f31b0_c0)))
def f31b0_c1 : LCode := (.seq (.region [⟨some 69, .load false 1 (.t 7), none⟩,
   ⟨some 70, .iaddr 1 (.t 69) (.c (.int .i64 0)), none⟩,
   ⟨some 71, .load false 1 (.t 70), none⟩,
   ⟨some 6, .mv (.t 71), none⟩])
 .ret)
def f31b0_c4 : LCode := (.seq (.region [⟨some 6, .mv (.c (.int .i64 0)), none⟩])
 (.seq (.region [⟨some 7, .alloc [(.isl 1 [] true)], none⟩])
 (.seq (.region [⟨some 16, .mkfn (.func 43) [] [(.t 7)], none⟩,
   ⟨some 8, .mv (.t 16), none⟩])
 (.seq (.seq (.region [⟨some 17, .mv (.t 0), none⟩,
   ⟨some 18, .len false (.t 17), none⟩,
   ⟨some 19, .mv (.c (.int .i64 0)), none⟩])
 (.block 0
  (.loop
   f31b0_c3)))
 f31b0_c1))))
def f31b0_lay : Lay := ⟨72, [7, 46, 55, 67], false⟩
def f31b0_res : List LRes := [.t 6]
def f31b0_L : LFn := ⟨3, f31b0_lay, f31b0_c4, f31b0_res⟩
theorem f31b0_low : lowFn Try.prog [7, 46, 55, 67] 31 = some f31b0_L := by kernel_rfl
theorem f31b0_fok : FnOk Try.prog 31 := ⟨_, Try.func31, rfl, rfl⟩
def f31b0_Q {σ : Type} (Hc : σ → AHeap) (fi0 : Fn) (ff0 fc0 : List AVal) (a0 : List G_QOp) (a1 : Int) (z0 : σ) (o : Int × σ) : Exit → Env → AHeap → Nat → Prop := FinK f31b0_res (FinTo 3 4 (.int .i64 o.1) ([] ++ up 3 (Hc o.2)))

def f31b0_L1_env {σ : Type} (Hc : σ → AHeap) (fi0 : Fn) (ff0 fc0 : List AVal) (a0 : List G_QOp) (a1 : Int) (s : (Int × (List Int) × σ)) : Env := [(1, .int .i64 a1), (2, .fn fi0 ff0 fc0), (7, .ptr (4, 0) 0 0), (8, .fn (.func 43) [] [.ptr (4, 0) 0 0]), (17, .isl 3 (a0.map e_QOp) false), (18, .int .i64 ((a0.map e_QOp).length : Int)), (19, .int .i64 s.1)]
def f31b0_L1_hp {σ : Type} (Hc : σ → AHeap) (fi0 : Fn) (ff0 fc0 : List AVal) (a0 : List G_QOp) (a1 : Int) (s : (Int × (List Int) × σ)) : AHeap := ([((4, 0), .one [.msl (5, 0) 1 0 s.2.1.length false]), ((5, 0), .rows 1 (s.2.1.map e_i64))] ++ up 3 (Hc s.2.2))
def f31b0_L1_Q {σ : Type} (Hc : σ → AHeap) (fi0 : Fn) (ff0 fc0 : List AVal) (a0 : List G_QOp) (a1 : Int) (z0 : σ) (o : (Int × σ)) : Exit → Env → AHeap → Nat → Prop := (QBlock 0 (QSeq Try.prog f31b0_lay 3 f31b0_c1 (f31b0_Q Hc fi0 ff0 fc0 a0 a1 z0 o)))

noncomputable def S_querylang_run_j6 {σ : Type} (g0 : σ → G_QKey → Option (Int × σ)) (m : Option Nat) (a0 : List G_QOp) (a1 : Int) (v12 : Int) (v35 : List Int) (v36 : σ) : Option ((Int × (List Int) × σ) ⊕ (Int × σ)) :=
  some (.inl ((W (v12 + 1)), v35, v36))

noncomputable def S_querylang_run_j5 {σ : Type} (g0 : σ → G_QKey → Option (Int × σ)) (m : Option Nat) (a0 : List G_QOp) (a1 : Int) (v12 : Int) (v13 : List Int) (v14 : σ) (v27 : Int) (v28 : Nat) : Option ((Int × (List Int) × σ) ⊕ (Int × σ)) :=
  (S_querylang_operandKey m (G_QOp.mk ((a0.getD v12.toNat default).f_Op) ((a0.getD v12.toNat default).f_A) ((a0.getD v12.toNat default).f_B)) a1 v27).bind fun v29 =>
  if v29.2 = true then
    (g0 v14 (G_QKey.mk v29.1.f_Kind v29.1.f_A v29.1.f_B)).bind fun v30 =>
    if 0 + v28 ≤ (v13.map e_i64).length then
    if (((v13.drop 0).take v28 ++ ([v30.1] : List Int)).map e_i64).length * 8 ≤ 140737488355328 then
    S_querylang_run_j6 g0 m a0 a1 v12 ((v13.drop 0).take v28 ++ ([v30.1] : List Int)) v30.2
    else none
    else none
  else
    if ((a0.getD v12.toNat default).f_Op == 1) = true then
      (S_querylang_reduce m ((a0.getD v12.toNat default).f_A)).bind fun v31 =>
      if 0 + v28 ≤ (v13.map e_i64).length then
      if (((v13.drop 0).take v28 ++ ([v31] : List Int)).map e_i64).length * 8 ≤ 140737488355328 then
      S_querylang_run_j6 g0 m a0 a1 v12 ((v13.drop 0).take v28 ++ ([v31] : List Int)) v14
      else none
      else none
    else
      (S_querylang_run_1_43 m v28 v13).bind fun v32 =>
      (S_querylang_run_1_43 m v32.2 v13).bind fun v33 =>
      (S_querylang_binary m ((a0.getD v12.toNat default).f_Op) v33.1 v32.1).bind fun v34 =>
      if 0 + v33.2 ≤ (v13.map e_i64).length then
      if (((v13.drop 0).take v33.2 ++ ([v34] : List Int)).map e_i64).length * 8 ≤ 140737488355328 then
      S_querylang_run_j6 g0 m a0 a1 v12 ((v13.drop 0).take v33.2 ++ ([v34] : List Int)) v14
      else none
      else none

theorem f31b0_j6_ok {σ : Type} {Hc : σ → AHeap} {fi0 : Fn} {ff0 fc0 : List AVal} {g0 : σ → G_QKey → Option (Int × σ)} (hg0 : Clo Try.prog fi0 ff0 fc0 Hc (fun (x : G_QKey) => [.agg [.int .i64 x.f_Kind, .int .i64 x.f_A, .int .i64 x.f_B]]) (fun (b : Int) => .int .i64 b) g0) {z0 : σ} {a0 : List G_QOp} {a1 : Int} {v12 : Int} {v35 : List Int} {v36 : σ} {m : Option Nat} {o : ((Int × (List Int) × σ) ⊕ (Int × σ))} (h : S_querylang_run_j6 g0 m a0 a1 v12 v35 v36 = some o) :
    LWp Try.prog f31b0_lay 3 f31b0_c0 (BodyQ 3 6 (f31b0_L1_env Hc fi0 ff0 fc0 a0 a1) (f31b0_L1_hp Hc fi0 ff0 fc0 a0 a1) (f31b0_L1_Q Hc fi0 ff0 fc0 a0 a1 z0) o) [(1, .int .i64 a1), (2, .fn fi0 ff0 fc0), (7, .ptr (4, 0) 0 0), (8, .fn (.func 43) [] [.ptr (4, 0) 0 0]), (17, .isl 3 (a0.map e_QOp) false), (18, .int .i64 ((a0.map e_QOp).length : Int)), (19, .int .i64 v12)] ([((4, 0), .one [.msl (5, 0) 1 0 v35.length false]), ((5, 0), .rows 1 (v35.map e_i64))] ++ up 3 (Hc v36)) 6 := by
  unfold S_querylang_run_j6 at h
  refine regI ?_
  cases h
  exact And.intro rfl (simT (M := [((4, 0), (4, 0)), ((5, 0), (5, 0))]) (lit' := [((4, 0), .one [.msl (5, 0) 1 0 v35.length false]), ((5, 0), .rows 1 (v35.map e_i64))]) (hg0.tl _) rfl (And.intro (Vw.same _ rfl) (And.intro (Vw.clo hg0.hf hg0.hc (by decide) (rhoT_1 (chkT_ok (n := 6) (q := 3) (lit' := [((4, 0), .one [.msl (5, 0) 1 0 v35.length false]), ((5, 0), .rows 1 (v35.map e_i64))]) rfl))) (And.intro (Vw.ptr _ _ _ _ rfl) (And.intro (Vw.fnL trivial (And.intro (Vw.ptr _ _ _ _ rfl) trivial)) (And.intro (Vw.same _ rfl) (And.intro (Vw.same _ rfl) (And.intro (Vw.same _ rfl) trivial))))))) (And.intro (And.intro rfl (BVw.oneL (And.intro (Vw.mslE rfl (by first | rfl | simp) rfl) trivial))) (And.intro (And.intro rfl (BVw.enc e_i64 (fun _ => rfl) _ v35)) trivial)))

theorem f31b0_j5_ok {σ : Type} {Hc : σ → AHeap} {fi0 : Fn} {ff0 fc0 : List AVal} {g0 : σ → G_QKey → Option (Int × σ)} (hg0 : Clo Try.prog fi0 ff0 fc0 Hc (fun (x : G_QKey) => [.agg [.int .i64 x.f_Kind, .int .i64 x.f_A, .int .i64 x.f_B]]) (fun (b : Int) => .int .i64 b) g0) {z0 : σ} {a0 : List G_QOp} {a1 : Int} {v12 : Int} {v13 : List Int} {v14 : σ} {v27 : Int} {v28 : Nat} {m : Option Nat} {o : ((Int × (List Int) × σ) ⊕ (Int × σ))} (h : S_querylang_run_j5 g0 m a0 a1 v12 v13 v14 v27 v28 = some o) :
    LWp Try.prog f31b0_lay 3 f31b0_c2 (QBlock 1 (QSeq Try.prog f31b0_lay 3 f31b0_c0 (BodyQ 3 6 (f31b0_L1_env Hc fi0 ff0 fc0 a0 a1) (f31b0_L1_hp Hc fi0 ff0 fc0 a0 a1) (f31b0_L1_Q Hc fi0 ff0 fc0 a0 a1 z0) o))) [(1, .int .i64 a1), (2, .fn fi0 ff0 fc0), (7, .ptr (4, 0) 0 0), (8, .fn (.func 43) [] [.ptr (4, 0) 0 0]), (10, .ptr (5, 0) 0 0), (11, .int .i64 v27), (17, .isl 3 (a0.map e_QOp) false), (18, .int .i64 ((a0.map e_QOp).length : Int)), (19, .int .i64 v12)] ([((4, 0), .one [.msl (6, 0) 1 0 v28 false]), ((5, 0), .one [.int .i64 ((a0.getD v12.toNat default).f_Op), .int .i64 ((a0.getD v12.toNat default).f_A), .int .i64 ((a0.getD v12.toNat default).f_B)]), ((6, 0), .rows 1 (v13.map e_i64))] ++ up 3 (Hc v14)) 7 := by
  unfold S_querylang_run_j5 at h
  refine seqI ?_
  refine seqI ?_
  refine regI ?_
  obtain ⟨v29, h41, h⟩ := bind_some h
  refine PFn.call (f44_ok h41) (And.intro (Vw.same _ rfl) (And.intro (Vw.same _ rfl) (And.intro (Vw.same _ rfl) trivial))) ?_
  refine LWp.sim (e := [(1, .int .i64 a1), (2, .fn fi0 ff0 fc0), (7, .ptr (4, 0) 0 0), (8, .fn (.func 43) [] [.ptr (4, 0) 0 0]), (10, .ptr (5, 0) 0 0), (12, .ptr (6, 0) 0 0), (13, .bool v29.2), (17, .isl 3 (a0.map e_QOp) false), (18, .int .i64 ((a0.map e_QOp).length : Int)), (19, .int .i64 v12)]) (L := ([((4, 0), .one [.msl (7, 0) 1 0 v28 false]), ((5, 0), .one [.int .i64 ((a0.getD v12.toNat default).f_Op), .int .i64 ((a0.getD v12.toNat default).f_A), .int .i64 ((a0.getD v12.toNat default).f_B)]), ((6, 0), .one [.int .i64 v29.1.f_Kind, .int .i64 v29.1.f_A, .int .i64 v29.1.f_B]), ((7, 0), .rows 1 (v13.map e_i64))] ++ up 3 (Hc v14))) (n := 8) ?_ ?_
  · exact simT (M := [((4, 0), (4, 0)), ((5, 0), (5, 0)), ((6, 0), (7, 0)), ((7, 0), (6, 0))]) (lit' := [((7, 0), .one [.int .i64 v29.1.f_Kind, .int .i64 v29.1.f_A, .int .i64 v29.1.f_B]), ((4, 0), .one [.msl (6, 0) 1 0 v28 false]), ((5, 0), .one [.int .i64 ((a0.getD v12.toNat default).f_Op), .int .i64 ((a0.getD v12.toNat default).f_A), .int .i64 ((a0.getD v12.toNat default).f_B)]), ((6, 0), .rows 1 (v13.map e_i64))]) (hg0.tl _) rfl (And.intro (Vw.same _ rfl) (And.intro (Vw.clo hg0.hf hg0.hc (by decide) (rhoT_1 (chkT_ok (n := 8) (q := 3) (lit' := [((7, 0), .one [.int .i64 v29.1.f_Kind, .int .i64 v29.1.f_A, .int .i64 v29.1.f_B]), ((4, 0), .one [.msl (6, 0) 1 0 v28 false]), ((5, 0), .one [.int .i64 ((a0.getD v12.toNat default).f_Op), .int .i64 ((a0.getD v12.toNat default).f_A), .int .i64 ((a0.getD v12.toNat default).f_B)]), ((6, 0), .rows 1 (v13.map e_i64))]) rfl))) (And.intro (Vw.ptr _ _ _ _ rfl) (And.intro (Vw.fnL trivial (And.intro (Vw.ptr _ _ _ _ rfl) trivial)) (And.intro (Vw.ptr _ _ _ _ rfl) (And.intro (Vw.ptr _ _ _ _ rfl) (And.intro (Vw.same _ rfl) (And.intro (Vw.same _ rfl) (And.intro (Vw.same _ rfl) (And.intro (Vw.same _ rfl) trivial)))))))))) (And.intro (And.intro rfl (BVw.oneL (And.intro (Vw.msl _ _ _ _ _ _ rfl) trivial))) (And.intro (And.intro rfl (BVw.oneL (And.intro (Vw.same _ rfl) (And.intro (Vw.same _ rfl) (And.intro (Vw.same _ rfl) trivial))))) (And.intro (And.intro rfl (BVw.oneL (And.intro (Vw.same _ rfl) (And.intro (Vw.same _ rfl) (And.intro (Vw.same _ rfl) trivial))))) (And.intro (And.intro rfl (BVw.enc e_i64 (fun _ => rfl) _ v13)) trivial))))
  refine seqI ?_
  refine regI ?_
  refine condI (v := v29.2) rfl trivial (fun h42 => ?_) (fun h42 => ?_)
  · have h := ite_tt h42 h
    refine seqI ?_
    refine drawI ?_
    obtain ⟨v30, h43, h⟩ := bind_some h
    refine Clo.use (q := 3) (lit := [((4, 0), .one [.msl (7, 0) 1 0 v28 false]), ((5, 0), .one [.int .i64 ((a0.getD v12.toNat default).f_Op), .int .i64 ((a0.getD v12.toNat default).f_A), .int .i64 ((a0.getD v12.toNat default).f_B)]), ((6, 0), .one [.int .i64 v29.1.f_Kind, .int .i64 v29.1.f_A, .int .i64 v29.1.f_B]), ((7, 0), .rows 1 (v13.map e_i64))]) hg0 h43 rfl rfl (And.intro (Vw.same _ rfl) trivial) ?_
    refine And.intro rfl ?_
    refine And.intro rfl ?_
    obtain ⟨h44, h⟩ := ite_some h
    obtain ⟨h45, h⟩ := ite_some h
    refine And.intro (fun h => Bool.noConfusion h) (And.intro h44 (Exists.intro (((v13.drop 0).take v28 ++ ([v30.1] : List Int)).map e_i64) (And.intro (appM e_i64 v13 ([v30.1] : List Int) _ _) (And.intro h45 ?_))))
    rw [del_tail (lit2 := [((4, 0), .one [.msl (7, 0) 1 0 v28 false]), ((5, 0), .one [.int .i64 ((a0.getD v12.toNat default).f_Op), .int .i64 ((a0.getD v12.toNat default).f_A), .int .i64 ((a0.getD v12.toNat default).f_B)]), ((6, 0), .one [.int .i64 v29.1.f_Kind, .int .i64 v29.1.f_A, .int .i64 v29.1.f_B])]) (hg0.tl _) rfl rfl]
    refine LWp.sim (e := [(1, .int .i64 a1), (2, .fn fi0 ff0 fc0), (7, .ptr (4, 0) 0 0), (8, .fn (.func 43) [] [.ptr (4, 0) 0 0]), (17, .isl 3 (a0.map e_QOp) false), (18, .int .i64 ((a0.map e_QOp).length : Int)), (19, .int .i64 v12)]) (L := ([((4, 0), .one [.msl (5, 0) 1 0 ((((v13.drop 0).take v28 ++ ([v30.1] : List Int)).map e_i64).length) false]), ((5, 0), .rows 1 (((v13.drop 0).take v28 ++ ([v30.1] : List Int)).map e_i64))] ++ up 3 (Hc v30.2))) (n := 6) ?_ ?_
    · exact simT (M := [((4, 0), (4, 0)), ((5, 0), (10, 0))]) (lit' := [((10, 0), .rows 1 (((v13.drop 0).take v28 ++ ([v30.1] : List Int)).map e_i64)), ((4, 0), .one [.msl (10, 0) 1 0 ((((v13.drop 0).take v28 ++ ([v30.1] : List Int)).map e_i64).length) false]), ((5, 0), .one [.int .i64 ((a0.getD v12.toNat default).f_Op), .int .i64 ((a0.getD v12.toNat default).f_A), .int .i64 ((a0.getD v12.toNat default).f_B)]), ((6, 0), .one [.int .i64 v29.1.f_Kind, .int .i64 v29.1.f_A, .int .i64 v29.1.f_B])]) (hg0.tl _) rfl (And.intro (Vw.same _ rfl) (And.intro (Vw.clo hg0.hf hg0.hc (by decide) (rhoT_1 (chkT_ok (n := 6) (q := 8) (lit' := [((10, 0), .rows 1 (((v13.drop 0).take v28 ++ ([v30.1] : List Int)).map e_i64)), ((4, 0), .one [.msl (10, 0) 1 0 ((((v13.drop 0).take v28 ++ ([v30.1] : List Int)).map e_i64).length) false]), ((5, 0), .one [.int .i64 ((a0.getD v12.toNat default).f_Op), .int .i64 ((a0.getD v12.toNat default).f_A), .int .i64 ((a0.getD v12.toNat default).f_B)]), ((6, 0), .one [.int .i64 v29.1.f_Kind, .int .i64 v29.1.f_A, .int .i64 v29.1.f_B])]) rfl))) (And.intro (Vw.ptr _ _ _ _ rfl) (And.intro (Vw.fnL trivial (And.intro (Vw.ptr _ _ _ _ rfl) trivial)) (And.intro (Vw.same _ rfl) (And.intro (Vw.same _ rfl) (And.intro (Vw.same _ rfl) trivial))))))) (And.intro (And.intro rfl (BVw.oneL (And.intro (Vw.mslE rfl (by first | rfl | simp) rfl) trivial))) (And.intro (And.intro rfl (BVw.enc e_i64 (fun _ => rfl) _ ((v13.drop 0).take v28 ++ ([v30.1] : List Int)))) trivial))
    refine exitI ?_
    refine LWp.sim ?_ (f31b0_j6_ok hg0 h)
    exact simT (M := [((4, 0), (4, 0)), ((5, 0), (5, 0))]) (lit' := [((4, 0), .one [.msl (5, 0) 1 0 ((((v13.drop 0).take v28 ++ ([v30.1] : List Int)).map e_i64).length) false]), ((5, 0), .rows 1 (((v13.drop 0).take v28 ++ ([v30.1] : List Int)).map e_i64))]) (hg0.tl _) rfl (And.intro (Vw.same _ rfl) (And.intro (Vw.clo hg0.hf hg0.hc (by decide) (rhoT_1 (chkT_ok (n := 6) (q := 3) (lit' := [((4, 0), .one [.msl (5, 0) 1 0 ((((v13.drop 0).take v28 ++ ([v30.1] : List Int)).map e_i64).length) false]), ((5, 0), .rows 1 (((v13.drop 0).take v28 ++ ([v30.1] : List Int)).map e_i64))]) rfl))) (And.intro (Vw.ptr _ _ _ _ rfl) (And.intro (Vw.fnL trivial (And.intro (Vw.ptr _ _ _ _ rfl) trivial)) (And.intro (Vw.same _ rfl) (And.intro (Vw.same _ rfl) (And.intro (Vw.same _ rfl) trivial))))))) (And.intro (And.intro rfl (BVw.oneL (And.intro (Vw.mslE rfl (by first | rfl | simp) rfl) trivial))) (And.intro (And.intro rfl (BVw.enc e_i64 (fun _ => rfl) _ ((v13.drop 0).take v28 ++ ([v30.1] : List Int)))) trivial))
  · have h := ite_ff h42 h
    refine skipI ?_
    refine seqI ?_
    refine seqI ?_
    refine regI ?_
    refine condI (v := ((a0.getD v12.toNat default).f_Op == 1)) rfl trivial (fun h46 => ?_) (fun h46 => ?_)
    · have h := ite_tt h46 h
      refine seqI ?_
      refine drawI ?_
      obtain ⟨v31, h47, h⟩ := bind_some h
      refine PFn.call (f39_ok h47) (And.intro (Vw.same _ rfl) trivial) ?_
      refine And.intro rfl ?_
      refine And.intro rfl ?_
      obtain ⟨h48, h⟩ := ite_some h
      obtain ⟨h49, h⟩ := ite_some h
      refine And.intro (fun h => Bool.noConfusion h) (And.intro h48 (Exists.intro (((v13.drop 0).take v28 ++ ([v31] : List Int)).map e_i64) (And.intro (appM e_i64 v13 ([v31] : List Int) _ _) (And.intro h49 ?_))))
      rw [del_tail (lit2 := [((4, 0), .one [.msl (7, 0) 1 0 v28 false]), ((5, 0), .one [.int .i64 ((a0.getD v12.toNat default).f_Op), .int .i64 ((a0.getD v12.toNat default).f_A), .int .i64 ((a0.getD v12.toNat default).f_B)]), ((6, 0), .one [.int .i64 v29.1.f_Kind, .int .i64 v29.1.f_A, .int .i64 v29.1.f_B])]) (hg0.tl _) rfl rfl]
      refine LWp.sim (e := [(1, .int .i64 a1), (2, .fn fi0 ff0 fc0), (7, .ptr (4, 0) 0 0), (8, .fn (.func 43) [] [.ptr (4, 0) 0 0]), (17, .isl 3 (a0.map e_QOp) false), (18, .int .i64 ((a0.map e_QOp).length : Int)), (19, .int .i64 v12)]) (L := ([((4, 0), .one [.msl (5, 0) 1 0 ((((v13.drop 0).take v28 ++ ([v31] : List Int)).map e_i64).length) false]), ((5, 0), .rows 1 (((v13.drop 0).take v28 ++ ([v31] : List Int)).map e_i64))] ++ up 3 (Hc v14))) (n := 6) ?_ ?_
      · exact simT (M := [((4, 0), (4, 0)), ((5, 0), (8, 0))]) (lit' := [((8, 0), .rows 1 (((v13.drop 0).take v28 ++ ([v31] : List Int)).map e_i64)), ((4, 0), .one [.msl (8, 0) 1 0 ((((v13.drop 0).take v28 ++ ([v31] : List Int)).map e_i64).length) false]), ((5, 0), .one [.int .i64 ((a0.getD v12.toNat default).f_Op), .int .i64 ((a0.getD v12.toNat default).f_A), .int .i64 ((a0.getD v12.toNat default).f_B)]), ((6, 0), .one [.int .i64 v29.1.f_Kind, .int .i64 v29.1.f_A, .int .i64 v29.1.f_B])]) (hg0.tl _) rfl (And.intro (Vw.same _ rfl) (And.intro (Vw.clo hg0.hf hg0.hc (by decide) (rhoT_1 (chkT_ok (n := 6) (q := 3) (lit' := [((8, 0), .rows 1 (((v13.drop 0).take v28 ++ ([v31] : List Int)).map e_i64)), ((4, 0), .one [.msl (8, 0) 1 0 ((((v13.drop 0).take v28 ++ ([v31] : List Int)).map e_i64).length) false]), ((5, 0), .one [.int .i64 ((a0.getD v12.toNat default).f_Op), .int .i64 ((a0.getD v12.toNat default).f_A), .int .i64 ((a0.getD v12.toNat default).f_B)]), ((6, 0), .one [.int .i64 v29.1.f_Kind, .int .i64 v29.1.f_A, .int .i64 v29.1.f_B])]) rfl))) (And.intro (Vw.ptr _ _ _ _ rfl) (And.intro (Vw.fnL trivial (And.intro (Vw.ptr _ _ _ _ rfl) trivial)) (And.intro (Vw.same _ rfl) (And.intro (Vw.same _ rfl) (And.intro (Vw.same _ rfl) trivial))))))) (And.intro (And.intro rfl (BVw.oneL (And.intro (Vw.mslE rfl (by first | rfl | simp) rfl) trivial))) (And.intro (And.intro rfl (BVw.enc e_i64 (fun _ => rfl) _ ((v13.drop 0).take v28 ++ ([v31] : List Int)))) trivial))
      refine exitI ?_
      refine LWp.sim ?_ (f31b0_j6_ok hg0 h)
      exact simT (M := [((4, 0), (4, 0)), ((5, 0), (5, 0))]) (lit' := [((4, 0), .one [.msl (5, 0) 1 0 ((((v13.drop 0).take v28 ++ ([v31] : List Int)).map e_i64).length) false]), ((5, 0), .rows 1 (((v13.drop 0).take v28 ++ ([v31] : List Int)).map e_i64))]) (hg0.tl _) rfl (And.intro (Vw.same _ rfl) (And.intro (Vw.clo hg0.hf hg0.hc (by decide) (rhoT_1 (chkT_ok (n := 6) (q := 3) (lit' := [((4, 0), .one [.msl (5, 0) 1 0 ((((v13.drop 0).take v28 ++ ([v31] : List Int)).map e_i64).length) false]), ((5, 0), .rows 1 (((v13.drop 0).take v28 ++ ([v31] : List Int)).map e_i64))]) rfl))) (And.intro (Vw.ptr _ _ _ _ rfl) (And.intro (Vw.fnL trivial (And.intro (Vw.ptr _ _ _ _ rfl) trivial)) (And.intro (Vw.same _ rfl) (And.intro (Vw.same _ rfl) (And.intro (Vw.same _ rfl) trivial))))))) (And.intro (And.intro rfl (BVw.oneL (And.intro (Vw.mslE rfl (by first | rfl | simp) rfl) trivial))) (And.intro (And.intro rfl (BVw.enc e_i64 (fun _ => rfl) _ ((v13.drop 0).take v28 ++ ([v31] : List Int)))) trivial))
    · have h := ite_ff h46 h
      refine skipI ?_
      refine seqI ?_
      refine regI ?_
      obtain ⟨v32, h50, h⟩ := bind_some h
      refine bcall (k := 3) (m := 1) (L' := [((4, 0), .one [.msl (8, 0) 1 0 v32.2 false]), ((8, 0), .rows 1 (v13.map e_i64))]) (rest := ([((5, 0), .one [.int .i64 ((a0.getD v12.toNat default).f_Op), .int .i64 ((a0.getD v12.toNat default).f_A), .int .i64 ((a0.getD v12.toNat default).f_B)]), ((6, 0), .one [.int .i64 v29.1.f_Kind, .int .i64 v29.1.f_A, .int .i64 v29.1.f_B])] ++ up 3 (Hc v14))) (R' := .int .i64 v32.1) [((0, 0), (4, 0)), ((0, 1), (7, 0))] (f43b1_ok h50) rfl rfl rfl (And.intro (Vw.ptr _ _ _ _ rfl) trivial) (And.intro (h0I (4, 0) rfl rfl (BVw.oneL (And.intro (Vw.msl _ _ _ _ _ _ rfl) trivial))) (And.intro (h0I (7, 0) rfl rfl (BVw.enc e_i64 (fun _ => rfl) _ v13)) trivial)) (nid_ren _ rfl) (And.intro rfl (And.intro rfl (And.intro rfl (And.intro (rows_ren e_i64 (fun _ => rfl) _ _) trivial)))) (without_tail (A' := [((5, 0), .one [.int .i64 ((a0.getD v12.toNat default).f_Op), .int .i64 ((a0.getD v12.toNat default).f_A), .int .i64 ((a0.getD v12.toNat default).f_B)]), ((6, 0), .one [.int .i64 v29.1.f_Kind, .int .i64 v29.1.f_A, .int .i64 v29.1.f_B])]) (hg0.tl _) rfl rfl) ?_
      show yops _ _ _ [(57, .int .i64 v32.1), (56, .fn (.func 43) [] [.ptr (4, 0) 0 0]), (49, .bool ((a0.getD v12.toNat default).f_Op == 1)), (48, .int .i64 ((a0.getD v12.toNat default).f_Op)), (47, .ptr (5, 0) 0 0), (40, .bool v29.2), (1, .int .i64 a1), (2, .fn fi0 ff0 fc0), (7, .ptr (4, 0) 0 0), (8, .fn (.func 43) [] [.ptr (4, 0) 0 0]), (10, .ptr (5, 0) 0 0), (12, .ptr (6, 0) 0 0), (13, .bool v29.2), (17, .isl 3 (a0.map e_QOp) false), (18, .int .i64 ((a0.map e_QOp).length : Int)), (19, .int .i64 v12)] _ _
      refine seqI ?_
      refine regI ?_
      obtain ⟨v33, h51, h⟩ := bind_some h
      refine bcall (k := 3) (m := 1) (L' := [((4, 0), .one [.msl (10, 0) 1 0 v33.2 false]), ((10, 0), .rows 1 (v13.map e_i64))]) (rest := ([((5, 0), .one [.int .i64 ((a0.getD v12.toNat default).f_Op), .int .i64 ((a0.getD v12.toNat default).f_A), .int .i64 ((a0.getD v12.toNat default).f_B)]), ((6, 0), .one [.int .i64 v29.1.f_Kind, .int .i64 v29.1.f_A, .int .i64 v29.1.f_B])] ++ up 3 (Hc v14))) (R' := .int .i64 v33.1) [((0, 0), (4, 0)), ((0, 1), (8, 0))] (f43b1_ok h51) rfl rfl rfl (And.intro (Vw.ptr _ _ _ _ rfl) trivial) (And.intro (h0I (4, 0) rfl rfl (BVw.oneL (And.intro (Vw.msl _ _ _ _ _ _ rfl) trivial))) (And.intro (h0I (8, 0) rfl rfl (BVw.enc e_i64 (fun _ => rfl) _ v13)) trivial)) (nid_ren _ rfl) (And.intro rfl (And.intro rfl (And.intro rfl (And.intro (rows_ren e_i64 (fun _ => rfl) _ _) trivial)))) (without_tail (A' := [((5, 0), .one [.int .i64 ((a0.getD v12.toNat default).f_Op), .int .i64 ((a0.getD v12.toNat default).f_A), .int .i64 ((a0.getD v12.toNat default).f_B)]), ((6, 0), .one [.int .i64 v29.1.f_Kind, .int .i64 v29.1.f_A, .int .i64 v29.1.f_B])]) (hg0.tl _) rfl rfl) ?_
      refine LWp.sim (e := [(1, .int .i64 a1), (2, .fn fi0 ff0 fc0), (7, .ptr (4, 0) 0 0), (8, .fn (.func 43) [] [.ptr (4, 0) 0 0]), (10, .ptr (5, 0) 0 0), (14, .int .i64 v32.1), (15, .int .i64 v33.1), (17, .isl 3 (a0.map e_QOp) false), (18, .int .i64 ((a0.map e_QOp).length : Int)), (19, .int .i64 v12)]) (L := ([((4, 0), .one [.msl (6, 0) 1 0 v33.2 false]), ((5, 0), .one [.int .i64 ((a0.getD v12.toNat default).f_Op), .int .i64 ((a0.getD v12.toNat default).f_A), .int .i64 ((a0.getD v12.toNat default).f_B)]), ((6, 0), .rows 1 (v13.map e_i64))] ++ up 3 (Hc v14))) (n := 7) ?_ ?_
      · exact simT (M := [((4, 0), (4, 0)), ((5, 0), (5, 0)), ((6, 0), (10, 0))]) (lit' := [((4, 0), .one [.msl (10, 0) 1 0 v33.2 false]), ((10, 0), .rows 1 (v13.map e_i64)), ((5, 0), .one [.int .i64 ((a0.getD v12.toNat default).f_Op), .int .i64 ((a0.getD v12.toNat default).f_A), .int .i64 ((a0.getD v12.toNat default).f_B)]), ((6, 0), .one [.int .i64 v29.1.f_Kind, .int .i64 v29.1.f_A, .int .i64 v29.1.f_B])]) (hg0.tl _) rfl (And.intro (Vw.same _ rfl) (And.intro (Vw.clo hg0.hf hg0.hc (by decide) (rhoT_1 (chkT_ok (n := 7) (q := 3) (lit' := [((4, 0), .one [.msl (10, 0) 1 0 v33.2 false]), ((10, 0), .rows 1 (v13.map e_i64)), ((5, 0), .one [.int .i64 ((a0.getD v12.toNat default).f_Op), .int .i64 ((a0.getD v12.toNat default).f_A), .int .i64 ((a0.getD v12.toNat default).f_B)]), ((6, 0), .one [.int .i64 v29.1.f_Kind, .int .i64 v29.1.f_A, .int .i64 v29.1.f_B])]) rfl))) (And.intro (Vw.ptr _ _ _ _ rfl) (And.intro (Vw.fnL trivial (And.intro (Vw.ptr _ _ _ _ rfl) trivial)) (And.intro (Vw.ptr _ _ _ _ rfl) (And.intro (Vw.same _ rfl) (And.intro (Vw.same _ rfl) (And.intro (Vw.same _ rfl) (And.intro (Vw.same _ rfl) (And.intro (Vw.same _ rfl) trivial)))))))))) (And.intro (And.intro rfl (BVw.oneL (And.intro (Vw.msl _ _ _ _ _ _ rfl) trivial))) (And.intro (And.intro rfl (BVw.oneL (And.intro (Vw.same _ rfl) (And.intro (Vw.same _ rfl) (And.intro (Vw.same _ rfl) trivial))))) (And.intro (And.intro rfl (BVw.enc e_i64 (fun _ => rfl) _ v13)) trivial)))
      refine drawI ?_
      obtain ⟨v34, h52, h⟩ := bind_some h
      refine PFn.call (f45_ok h52) (And.intro (Vw.same _ rfl) (And.intro (Vw.same _ rfl) (And.intro (Vw.same _ rfl) trivial))) ?_
      refine And.intro rfl ?_
      refine And.intro rfl ?_
      obtain ⟨h53, h⟩ := ite_some h
      obtain ⟨h54, h⟩ := ite_some h
      refine And.intro (fun h => Bool.noConfusion h) (And.intro h53 (Exists.intro (((v13.drop 0).take v33.2 ++ ([v34] : List Int)).map e_i64) (And.intro (appM e_i64 v13 ([v34] : List Int) _ _) (And.intro h54 ?_))))
      rw [del_tail (lit2 := [((4, 0), .one [.msl (6, 0) 1 0 v33.2 false]), ((5, 0), .one [.int .i64 ((a0.getD v12.toNat default).f_Op), .int .i64 ((a0.getD v12.toNat default).f_A), .int .i64 ((a0.getD v12.toNat default).f_B)])]) (hg0.tl _) rfl rfl]
      refine LWp.sim ?_ (f31b0_j6_ok hg0 h)
      exact simT (M := [((4, 0), (4, 0)), ((5, 0), (7, 0))]) (lit' := [((7, 0), .rows 1 (((v13.drop 0).take v33.2 ++ ([v34] : List Int)).map e_i64)), ((4, 0), .one [.msl (7, 0) 1 0 ((((v13.drop 0).take v33.2 ++ ([v34] : List Int)).map e_i64).length) false]), ((5, 0), .one [.int .i64 ((a0.getD v12.toNat default).f_Op), .int .i64 ((a0.getD v12.toNat default).f_A), .int .i64 ((a0.getD v12.toNat default).f_B)])]) (hg0.tl _) rfl (And.intro (Vw.same _ rfl) (And.intro (Vw.clo hg0.hf hg0.hc (by decide) (rhoT_1 (chkT_ok (n := 6) (q := 3) (lit' := [((7, 0), .rows 1 (((v13.drop 0).take v33.2 ++ ([v34] : List Int)).map e_i64)), ((4, 0), .one [.msl (7, 0) 1 0 ((((v13.drop 0).take v33.2 ++ ([v34] : List Int)).map e_i64).length) false]), ((5, 0), .one [.int .i64 ((a0.getD v12.toNat default).f_Op), .int .i64 ((a0.getD v12.toNat default).f_A), .int .i64 ((a0.getD v12.toNat default).f_B)])]) rfl))) (And.intro (Vw.ptr _ _ _ _ rfl) (And.intro (Vw.fnL trivial (And.intro (Vw.ptr _ _ _ _ rfl) trivial)) (And.intro (Vw.same _ rfl) (And.intro (Vw.same _ rfl) (And.intro (Vw.same _ rfl) trivial))))))) (And.intro (And.intro rfl (BVw.oneL (And.intro (Vw.mslE rfl (by first | rfl | simp) rfl) trivial))) (And.intro (And.intro rfl (BVw.enc e_i64 (fun _ => rfl) _ ((v13.drop 0).take v33.2 ++ ([v34] : List Int)))) trivial))

noncomputable def S_querylang_run_j7 {σ : Type} (g0 : σ → G_QKey → Option (Int × σ)) (m : Option Nat) (v13 : List Int) (v14 : σ) : Option (Int × σ) :=
  if (0 : Int) ≤ 0 ∧ 0 < ((v13.length : Nat) : Int) then
  if (0 + (0 : Int).toNat) < v13.length then
  some ((v13.getD (0 + (0 : Int).toNat) default), v14)
  else none
  else none

noncomputable def S_querylang_run_b1 {σ : Type} (g0 : σ → G_QKey → Option (Int × σ)) (m : Option Nat) (a0 : List G_QOp) (a1 : Int) (v12 : Int) (v13 : List Int) (v14 : σ) : Option ((Int × (List Int) × σ) ⊕ (Int × σ)) :=
  if (decide (v12 < ((a0.map e_QOp).length : Int))) = true then
    if (0 : Int) ≤ v12 ∧ v12 < ((a0.map e_QOp).length : Int) then
    if (((a0.getD v12.toNat default).f_Op == 4) || ((a0.getD v12.toNat default).f_Op == 5)) = true then
      (S_querylang_run_1 m v13).bind fun v26 =>
      S_querylang_run_j5 g0 m a0 a1 v12 v13 v14 v26.1 v26.2
    else
      S_querylang_run_j5 g0 m a0 a1 v12 v13 v14 0 v13.length
    else none
  else
    Option.map Sum.inr (
      S_querylang_run_j7 g0 m v13 v14)

noncomputable def S_querylang_run_l1 {σ : Type} (g0 : σ → G_QKey → Option (Int × σ)) (m : Option Nat) (a0 : List G_QOp) (a1 : Int) (v12 : Int) (v13 : List Int) (v14 : σ) : Option (Int × σ) := loopM m (fun (s : (Int × (List Int) × σ)) => S_querylang_run_b1 g0 m a0 a1 s.1 s.2.1 s.2.2) (v12, v13, v14)

theorem f31b0_j7_ok {σ : Type} {Hc : σ → AHeap} {fi0 : Fn} {ff0 fc0 : List AVal} {g0 : σ → G_QKey → Option (Int × σ)} (hg0 : Clo Try.prog fi0 ff0 fc0 Hc (fun (x : G_QKey) => [.agg [.int .i64 x.f_Kind, .int .i64 x.f_A, .int .i64 x.f_B]]) (fun (b : Int) => .int .i64 b) g0) {a0 : List G_QOp} {a1 : Int} {z0 : σ} {v13 : List Int} {v14 : σ} {m : Option Nat} {o : (Int × σ)} (h : S_querylang_run_j7 g0 m v13 v14 = some o) :
    LWp Try.prog f31b0_lay 3 f31b0_c1 (f31b0_Q Hc fi0 ff0 fc0 a0 a1 z0 o) [(7, .ptr (4, 0) 0 0)] ([((4, 0), .one [.msl (5, 0) 1 0 v13.length false]), ((5, 0), .rows 1 (v13.map e_i64))] ++ up 3 (Hc v14)) 6 := by
  unfold S_querylang_run_j7 at h
  refine seqI ?_
  refine regI ?_
  obtain ⟨h55, h⟩ := ite_some h
  refine And.intro h55 ?_
  obtain ⟨h56, h⟩ := ite_some h
  refine Exists.intro (e_i64 (v13.getD (0 + (0 : Int).toNat) default)) (And.intro (getD_enc e_i64 _ _ h56) (And.intro (And.intro (lt_map e_i64 h56) (Nat.le_of_ble_eq_true rfl)) ?_))
  refine retI ?_
  cases h
  exact And.intro trivial (finT (n' := 6) (q := 3) (lit' := [((4, 0), .one [.msl (5, 0) 1 0 v13.length false]), ((5, 0), .rows 1 (v13.map e_i64))]) (hg0.tl _) [] [] rfl rfl (Vw.same _ rfl) trivial)

theorem f31b0_L1_bok {σ : Type} {Hc : σ → AHeap} {fi0 : Fn} {ff0 fc0 : List AVal} {g0 : σ → G_QKey → Option (Int × σ)} (hg0 : Clo Try.prog fi0 ff0 fc0 Hc (fun (x : G_QKey) => [.agg [.int .i64 x.f_Kind, .int .i64 x.f_A, .int .i64 x.f_B]]) (fun (b : Int) => .int .i64 b) g0) {z0 : σ} {a0 : List G_QOp} {a1 : Int} {v12 : Int} {v13 : List Int} {v14 : σ} {m : Option Nat} {o : (Int × (List Int) × σ) ⊕ (Int × σ)} (h : S_querylang_run_b1 g0 m a0 a1 v12 v13 v14 = some o) :
    LWp Try.prog f31b0_lay 3 f31b0_c3 (BodyQ 3 6 (f31b0_L1_env Hc fi0 ff0 fc0 a0 a1) (f31b0_L1_hp Hc fi0 ff0 fc0 a0 a1) (f31b0_L1_Q Hc fi0 ff0 fc0 a0 a1 z0) o) [(1, .int .i64 a1), (2, .fn fi0 ff0 fc0), (7, .ptr (4, 0) 0 0), (8, .fn (.func 43) [] [.ptr (4, 0) 0 0]), (17, .isl 3 (a0.map e_QOp) false), (18, .int .i64 ((a0.map e_QOp).length : Int)), (19, .int .i64 v12)] ([((4, 0), .one [.msl (5, 0) 1 0 v13.length false]), ((5, 0), .rows 1 (v13.map e_i64))] ++ up 3 (Hc v14)) 6 := by
  unfold S_querylang_run_b1 at h
  refine seqI ?_
  refine regI ?_
  refine seqI ?_
  refine condI (v := (decide (v12 < ((a0.map e_QOp).length : Int)))) rfl trivial (fun h37 => ?_) (fun h37 => ?_)
  · have h := ite_tt h37 h
    refine skipI ?_
    refine seqI ?_
    refine blockI ?_
    refine seqI ?_
    refine regI ?_
    obtain ⟨h38, h⟩ := ite_some h
    refine And.intro h38 ?_
    refine Exists.intro (e_QOp (a0.getD v12.toNat default)) (And.intro (getD_enc e_QOp _ _ (idx_ltL e_QOp h38)) (And.intro (And.intro (idx_lt h38) (Nat.le_of_ble_eq_true rfl)) ?_))
    refine seqI ?_
    refine regI ?_
    refine seqI ?_
    refine seqI ?_
    refine regI ?_
    refine And.intro (fun hp => hp) ?_
    show yops _ _ _ [(28, .cnd (((a0.getD v12.toNat default).f_Op == 4) == false) (.int .i64 ((a0.getD v12.toNat default).f_Op))), (27, .cnd (((a0.getD v12.toNat default).f_Op == 4) == false) (.ptr (6, 0) 0 0)), (26, .bool ((a0.getD v12.toNat default).f_Op == 4)), (25, .bool ((a0.getD v12.toNat default).f_Op == 4)), (24, .int .i64 ((a0.getD v12.toNat default).f_Op)), (23, .ptr (6, 0) 0 0), (11, .int .i64 0), (10, .ptr (6, 0) 0 0), (22, .agg [.int .i64 ((a0.getD v12.toNat default).f_Op), .int .i64 ((a0.getD v12.toNat default).f_A), .int .i64 ((a0.getD v12.toNat default).f_B)]), (21, .iptr 3 (a0.map e_QOp) v12.toNat 0), (20, .bool (decide (v12 < ((a0.map e_QOp).length : Int)))), (1, .int .i64 a1), (2, .fn fi0 ff0 fc0), (7, .ptr (4, 0) 0 0), (8, .fn (.func 43) [] [.ptr (4, 0) 0 0]), (17, .isl 3 (a0.map e_QOp) false), (18, .int .i64 ((a0.map e_QOp).length : Int)), (19, .int .i64 v12)] _ _
    refine And.intro (fun hp => hp) ?_
    refine And.intro (fun hc => (bqf hc)) ?_
    refine LWp.sim (e := [(1, .int .i64 a1), (2, .fn fi0 ff0 fc0), (7, .ptr (4, 0) 0 0), (8, .fn (.func 43) [] [.ptr (4, 0) 0 0]), (10, .ptr (5, 0) 0 0), (11, .int .i64 0), (17, .isl 3 (a0.map e_QOp) false), (18, .int .i64 ((a0.map e_QOp).length : Int)), (19, .int .i64 v12), (30, .bool (((a0.getD v12.toNat default).f_Op == 4) || ((a0.getD v12.toNat default).f_Op == 5)))]) (L := ([((4, 0), .one [.msl (6, 0) 1 0 v13.length false]), ((5, 0), .one [.int .i64 ((a0.getD v12.toNat default).f_Op), .int .i64 ((a0.getD v12.toNat default).f_A), .int .i64 ((a0.getD v12.toNat default).f_B)]), ((6, 0), .rows 1 (v13.map e_i64))] ++ up 3 (Hc v14))) (n := 7) ?_ ?_
    · exact simT (M := [((4, 0), (4, 0)), ((5, 0), (6, 0)), ((6, 0), (5, 0))]) (lit' := [((6, 0), .one [.int .i64 ((a0.getD v12.toNat default).f_Op), .int .i64 ((a0.getD v12.toNat default).f_A), .int .i64 ((a0.getD v12.toNat default).f_B)]), ((4, 0), .one [.msl (5, 0) 1 0 v13.length false]), ((5, 0), .rows 1 (v13.map e_i64))]) (hg0.tl _) rfl (And.intro (Vw.same _ rfl) (And.intro (Vw.clo hg0.hf hg0.hc (by decide) (rhoT_1 (chkT_ok (n := 7) (q := 3) (lit' := [((6, 0), .one [.int .i64 ((a0.getD v12.toNat default).f_Op), .int .i64 ((a0.getD v12.toNat default).f_A), .int .i64 ((a0.getD v12.toNat default).f_B)]), ((4, 0), .one [.msl (5, 0) 1 0 v13.length false]), ((5, 0), .rows 1 (v13.map e_i64))]) rfl))) (And.intro (Vw.ptr _ _ _ _ rfl) (And.intro (Vw.fnL trivial (And.intro (Vw.ptr _ _ _ _ rfl) trivial)) (And.intro (Vw.ptr _ _ _ _ rfl) (And.intro (Vw.same _ rfl) (And.intro (Vw.same _ rfl) (And.intro (Vw.same _ rfl) (And.intro (Vw.same _ rfl) (And.intro (Vw.same _ rfl) trivial)))))))))) (And.intro (And.intro rfl (BVw.oneL (And.intro (Vw.mslE rfl (by first | rfl | simp) rfl) trivial))) (And.intro (And.intro rfl (BVw.oneL (And.intro (Vw.same _ rfl) (And.intro (Vw.same _ rfl) (And.intro (Vw.same _ rfl) trivial))))) (And.intro (And.intro rfl (BVw.enc e_i64 (fun _ => rfl) _ v13)) trivial)))
    refine condI (v := (((a0.getD v12.toNat default).f_Op == 4) || ((a0.getD v12.toNat default).f_Op == 5))) rfl trivial (fun h39 => ?_) (fun h39 => ?_)
    · have h := ite_tt h39 h
      refine regI ?_
      obtain ⟨v26, h40, h⟩ := bind_some h
      refine bcall (k := 3) (m := 1) (L' := [((4, 0), .one [.msl (7, 0) 1 0 v26.2 false]), ((7, 0), .rows 1 (v13.map e_i64))]) (rest := ([((5, 0), .one [.int .i64 ((a0.getD v12.toNat default).f_Op), .int .i64 ((a0.getD v12.toNat default).f_A), .int .i64 ((a0.getD v12.toNat default).f_B)])] ++ up 3 (Hc v14))) (R' := .int .i64 v26.1) [((0, 0), (4, 0)), ((0, 1), (6, 0))] (f43b0_ok h40) rfl rfl rfl (And.intro (Vw.ptr _ _ _ _ rfl) trivial) (And.intro (h0I (4, 0) rfl rfl (BVw.oneL (And.intro (Vw.mslE rfl (by first | rfl | simp) rfl) trivial))) (And.intro (h0I (6, 0) rfl rfl (BVw.enc e_i64 (fun _ => rfl) _ v13)) trivial)) (nid_ren _ rfl) (And.intro rfl (And.intro rfl (And.intro rfl (And.intro (rows_ren e_i64 (fun _ => rfl) _ _) trivial)))) (without_tail (A' := [((5, 0), .one [.int .i64 ((a0.getD v12.toNat default).f_Op), .int .i64 ((a0.getD v12.toNat default).f_A), .int .i64 ((a0.getD v12.toNat default).f_B)])]) (hg0.tl _) rfl rfl) ?_
      refine LWp.sim ?_ (f31b0_j5_ok hg0 h)
      exact simT (M := [((4, 0), (4, 0)), ((5, 0), (5, 0)), ((6, 0), (7, 0))]) (lit' := [((4, 0), .one [.msl (7, 0) 1 0 v26.2 false]), ((7, 0), .rows 1 (v13.map e_i64)), ((5, 0), .one [.int .i64 ((a0.getD v12.toNat default).f_Op), .int .i64 ((a0.getD v12.toNat default).f_A), .int .i64 ((a0.getD v12.toNat default).f_B)])]) (hg0.tl _) rfl (And.intro (Vw.same _ rfl) (And.intro (Vw.clo hg0.hf hg0.hc (by decide) (rhoT_1 (chkT_ok (n := 7) (q := 3) (lit' := [((4, 0), .one [.msl (7, 0) 1 0 v26.2 false]), ((7, 0), .rows 1 (v13.map e_i64)), ((5, 0), .one [.int .i64 ((a0.getD v12.toNat default).f_Op), .int .i64 ((a0.getD v12.toNat default).f_A), .int .i64 ((a0.getD v12.toNat default).f_B)])]) rfl))) (And.intro (Vw.ptr _ _ _ _ rfl) (And.intro (Vw.fnL trivial (And.intro (Vw.ptr _ _ _ _ rfl) trivial)) (And.intro (Vw.ptr _ _ _ _ rfl) (And.intro (Vw.same _ rfl) (And.intro (Vw.same _ rfl) (And.intro (Vw.same _ rfl) (And.intro (Vw.same _ rfl) trivial))))))))) (And.intro (And.intro rfl (BVw.oneL (And.intro (Vw.msl _ _ _ _ _ _ rfl) trivial))) (And.intro (And.intro rfl (BVw.oneL (And.intro (Vw.same _ rfl) (And.intro (Vw.same _ rfl) (And.intro (Vw.same _ rfl) trivial))))) (And.intro (And.intro rfl (BVw.enc e_i64 (fun _ => rfl) _ v13)) trivial)))
    · have h := ite_ff h39 h
      refine skipI ?_
      refine LWp.sim ?_ (f31b0_j5_ok hg0 h)
      exact simT (M := [((4, 0), (4, 0)), ((5, 0), (5, 0)), ((6, 0), (6, 0))]) (lit' := [((4, 0), .one [.msl (6, 0) 1 0 v13.length false]), ((5, 0), .one [.int .i64 ((a0.getD v12.toNat default).f_Op), .int .i64 ((a0.getD v12.toNat default).f_A), .int .i64 ((a0.getD v12.toNat default).f_B)]), ((6, 0), .rows 1 (v13.map e_i64))]) (hg0.tl _) rfl (And.intro (Vw.same _ rfl) (And.intro (Vw.clo hg0.hf hg0.hc (by decide) (rhoT_1 (chkT_ok (n := 7) (q := 3) (lit' := [((4, 0), .one [.msl (6, 0) 1 0 v13.length false]), ((5, 0), .one [.int .i64 ((a0.getD v12.toNat default).f_Op), .int .i64 ((a0.getD v12.toNat default).f_A), .int .i64 ((a0.getD v12.toNat default).f_B)]), ((6, 0), .rows 1 (v13.map e_i64))]) rfl))) (And.intro (Vw.ptr _ _ _ _ rfl) (And.intro (Vw.fnL trivial (And.intro (Vw.ptr _ _ _ _ rfl) trivial)) (And.intro (Vw.ptr _ _ _ _ rfl) (And.intro (Vw.same _ rfl) (And.intro (Vw.same _ rfl) (And.intro (Vw.same _ rfl) (And.intro (Vw.same _ rfl) trivial))))))))) (And.intro (And.intro rfl (BVw.oneL (And.intro (Vw.mslE rfl (by first | rfl | simp) rfl) trivial))) (And.intro (And.intro rfl (BVw.oneL (And.intro (Vw.same _ rfl) (And.intro (Vw.same _ rfl) (And.intro (Vw.same _ rfl) trivial))))) (And.intro (And.intro rfl (BVw.enc e_i64 (fun _ => rfl) _ v13)) trivial)))
  · have h := ite_ff h37 h
    refine exitI ?_
    obtain ⟨o, hq, rfl⟩ := Option.map_eq_some_iff.1 h
    replace h := hq; clear hq
    refine And.intro nofun ?_
    refine LWp.sim ?_ (f31b0_j7_ok hg0 h)
    exact simT (M := [((4, 0), (4, 0)), ((5, 0), (5, 0))]) (lit' := [((4, 0), .one [.msl (5, 0) 1 0 v13.length false]), ((5, 0), .rows 1 (v13.map e_i64))]) (hg0.tl _) rfl (And.intro (Vw.ptr _ _ _ _ rfl) trivial) (And.intro (And.intro rfl (BVw.oneL (And.intro (Vw.mslE rfl (by first | rfl | simp) rfl) trivial))) (And.intro (And.intro rfl (BVw.enc e_i64 (fun _ => rfl) _ v13)) trivial))

theorem f31b0_L1_ok {σ : Type} {Hc : σ → AHeap} {fi0 : Fn} {ff0 fc0 : List AVal} {g0 : σ → G_QKey → Option (Int × σ)} (hg0 : Clo Try.prog fi0 ff0 fc0 Hc (fun (x : G_QKey) => [.agg [.int .i64 x.f_Kind, .int .i64 x.f_A, .int .i64 x.f_B]]) (fun (b : Int) => .int .i64 b) g0) {z0 : σ} {a0 : List G_QOp} {a1 : Int} {v12 : Int} {v13 : List Int} {v14 : σ} {m : Option Nat} {o : (Int × σ)} (h : S_querylang_run_l1 g0 m a0 a1 v12 v13 v14 = some o) :
    LWp Try.prog f31b0_lay 3 (.loop f31b0_c3) (QBlock 0 (QSeq Try.prog f31b0_lay 3 f31b0_c1 (f31b0_Q Hc fi0 ff0 fc0 a0 a1 z0 o))) [(1, .int .i64 a1), (2, .fn fi0 ff0 fc0), (7, .ptr (4, 0) 0 0), (8, .fn (.func 43) [] [.ptr (4, 0) 0 0]), (17, .isl 3 (a0.map e_QOp) false), (18, .int .i64 ((a0.map e_QOp).length : Int)), (19, .int .i64 v12)] ([((4, 0), .one [.msl (5, 0) 1 0 v13.length false]), ((5, 0), .rows 1 (v13.map e_i64))] ++ up 3 (Hc v14)) 6 :=
  LWp_loopM (m := m) (s := ((v12, v13, v14) : (Int × (List Int) × σ))) (r := o) (fun (s : (Int × (List Int) × σ)) => S_querylang_run_b1 g0 m a0 a1 s.1 s.2.1 s.2.2) (f31b0_L1_env Hc fi0 ff0 fc0 a0 a1) (f31b0_L1_hp Hc fi0 ff0 fc0 a0 a1) (f31b0_L1_Q Hc fi0 ff0 fc0 a0 a1 z0) (fun s o h => f31b0_L1_bok hg0 h) h

noncomputable def S_querylang_run {σ : Type} (g0 : σ → G_QKey → Option (Int × σ)) (m : Option Nat) (a0 : List G_QOp) (a1 : Int) (z0 : σ) : Option (Int × σ) :=
  S_querylang_run_l1 g0 m a0 a1 0 ([] : List Int) z0

theorem f31b0_start {σ : Type} {Hc : σ → AHeap} {fi0 : Fn} {ff0 fc0 : List AVal} {g0 : σ → G_QKey → Option (Int × σ)} (hg0 : Clo Try.prog fi0 ff0 fc0 Hc (fun (x : G_QKey) => [.agg [.int .i64 x.f_Kind, .int .i64 x.f_A, .int .i64 x.f_B]]) (fun (b : Int) => .int .i64 b) g0) {a0 : List G_QOp} {a1 : Int} {z0 : σ} {m : Option Nat} {o : Int × σ} (h : S_querylang_run g0 m a0 a1 z0 = some o) : LWp Try.prog f31b0_lay 3 f31b0_c4 (f31b0_Q Hc fi0 ff0 fc0 a0 a1 z0 o) (initEnv 0 [.isl 3 (a0.map e_QOp) false, .int .i64 a1, .fn fi0 ff0 fc0]) ([] ++ Hc z0) 3 := by
  unfold S_querylang_run at h
  refine LWp.sim (e := [(0, .isl 3 (a0.map e_QOp) false), (1, .int .i64 a1), (2, .fn fi0 ff0 fc0)]) (L := ([] ++ up 3 (Hc z0))) (n := 4) (entryT (T := Hc z0) (e' := initEnv 0 [.isl 3 (a0.map e_QOp) false, .int .i64 a1, .fn fi0 ff0 fc0]) (e := [(0, .isl 3 (a0.map e_QOp) false), (1, .int .i64 a1), (2, .fn fi0 ff0 fc0)]) (lit' := []) (lit := []) (hg0.tl z0) rfl rfl (And.intro (Vw.same _ rfl) (And.intro (Vw.same _ rfl) (And.intro (Vw.clo hg0.hf hg0.hc (by decide) (rhoE_1 _)) trivial))) trivial) ?_
  refine seqI ?_
  refine regI ?_
  refine seqI ?_
  refine regI ?_
  refine LWp.ghost (b := (4, 0)) 1 rfl rfl ?_
  refine LWp.sim (e := [(0, .isl 3 (a0.map e_QOp) false), (1, .int .i64 a1), (2, .fn fi0 ff0 fc0), (7, .ptr (4, 0) 0 0)]) (L := ([((4, 0), .one [.msl (5, 0) 1 0 (([] : List Int).length) false]), ((5, 0), .rows 1 (([] : List Int).map e_i64))] ++ up 3 (Hc z0))) (n := 6) ?_ ?_
  · exact simT (M := [((4, 0), (4, 0)), ((5, 0), (5, 0))]) (lit' := [((5, 0), .rows 1 (([] : List Int).map e_i64)), ((4, 0), .one [.isl 1 (([] : List Int).map e_i64) true])]) (hg0.tl _) rfl (And.intro (Vw.same _ rfl) (And.intro (Vw.same _ rfl) (And.intro (Vw.clo hg0.hf hg0.hc (by decide) (rhoT_1 (chkT_ok (n := 6) (q := 3) (lit' := [((5, 0), .rows 1 (([] : List Int).map e_i64)), ((4, 0), .one [.isl 1 (([] : List Int).map e_i64) true])]) rfl))) (And.intro (Vw.ptr _ _ _ _ rfl) trivial)))) (And.intro (And.intro rfl (BVw.oneL (And.intro (Vw.islM _ _ _ _ _ _ rfl rfl) trivial))) (And.intro (And.intro rfl (BVw.enc e_i64 (fun _ => rfl) _ ([] : List Int))) trivial))
  refine seqI ?_
  refine regI ?_
  refine seqI ?_
  refine seqI ?_
  refine regI ?_
  refine blockI ?_
  refine LWp.sim ?_ (f31b0_L1_ok hg0 h)
  exact simT (M := [((4, 0), (4, 0)), ((5, 0), (5, 0))]) (lit' := [((4, 0), .one [.msl (5, 0) 1 0 (([] : List Int).length) false]), ((5, 0), .rows 1 (([] : List Int).map e_i64))]) (hg0.tl _) rfl (And.intro (Vw.same _ rfl) (And.intro (Vw.clo hg0.hf hg0.hc (by decide) (rhoT_1 (chkT_ok (n := 6) (q := 3) (lit' := [((4, 0), .one [.msl (5, 0) 1 0 (([] : List Int).length) false]), ((5, 0), .rows 1 (([] : List Int).map e_i64))]) rfl))) (And.intro (Vw.ptr _ _ _ _ rfl) (And.intro (Vw.fnL trivial (And.intro (Vw.ptr _ _ _ _ rfl) trivial)) (And.intro (Vw.same _ rfl) (And.intro (Vw.same _ rfl) (And.intro (Vw.same _ rfl) trivial))))))) (And.intro (And.intro rfl (BVw.oneL (And.intro (Vw.mslE rfl (by first | rfl | simp) rfl) trivial))) (And.intro (And.intro rfl (BVw.enc e_i64 (fun _ => rfl) _ ([] : List Int))) trivial))

theorem f31b0_ok {σ : Type} {Hc : σ → AHeap} {fi0 : Fn} {ff0 fc0 : List AVal} {g0 : σ → G_QKey → Option (Int × σ)} (hg0 : Clo Try.prog fi0 ff0 fc0 Hc (fun (x : G_QKey) => [.agg [.int .i64 x.f_Kind, .int .i64 x.f_A, .int .i64 x.f_B]]) (fun (b : Int) => .int .i64 b) g0) {a0 : List G_QOp} {a1 : Int} {z0 : σ} {m : Option Nat} {o : Int × σ} (h : S_querylang_run g0 m a0 a1 z0 = some o) : ACalls Try.prog 31 [.isl 3 (a0.map e_QOp) false, .int .i64 a1, .fn fi0 ff0 fc0] ([] ++ Hc z0) 3 (Gives 4 (.int .i64 o.1) ([] ++ up 3 (Hc o.2))) := bfn_of (L := f31b0_L) f31b0_low f31b0_fok (Nat.le_of_ble_eq_true rfl) (f31b0_start hg0 h)

def f29c2_c0 : LCode := (.seq (.region [⟨some 52, .mv (.t 5), none⟩,
   ⟨some 4, .mv (.t 52), none⟩])
 .ret)
def f29c2_c1 : LCode := (.seq (.region [⟨some 3, .box (.t 1), none⟩,
   ⟨some 4, .mv (.c (.int .i64 0)), none⟩])
 (.seq (.seq (.region [⟨some 7, .faddr 0 (.t 3), none⟩,
   ⟨some 8, .load false 1 (.t 7), none⟩,
   ⟨some 9, .bin .eql (.t 8) (.c (.int .i64 0)), none⟩])
 (.cond (.t 9)
  (.seq (.draw [⟨⟨some 10, .mv (.t 0), none⟩, []⟩,
    ⟨⟨some 11, .nilck (.t 10), none⟩, []⟩,
    ⟨⟨some 12, .faddr 2 (.t 11), none⟩, []⟩,
    ⟨⟨some 13, .load false 1 (.t 12), none⟩, []⟩,
    ⟨⟨some 14, .faddr 1 (.t 3), none⟩, []⟩,
    ⟨⟨some 15, .load false 1 (.t 14), none⟩, []⟩,
    ⟨⟨some 16, .iaddr 1 (.t 13) (.t 15), none⟩, []⟩,
    ⟨⟨some 17, .load false 1 (.t 16), none⟩, []⟩,
    ⟨⟨some 18, .call 39 [(.t 17)], none⟩, []⟩,
    ⟨⟨some 4, .mv (.t 18), none⟩, []⟩])
  .ret)
  .skip))
 (.seq (.quiet [⟨some 20, .mv (.t 0), none⟩,
   ⟨some 21, .nilck (.t 20), none⟩,
   ⟨some 22, .faddr 3 (.t 21), none⟩,
   ⟨some 23, .load false 1 (.t 22), none⟩,
   ⟨some 24, .faddr 1 (.t 3), none⟩,
   ⟨some 25, .load false 1 (.t 24), none⟩,
   ⟨some 26, .mlook [.int] false false true [(.int .i64 0)] (.t 23) (.t 25), none⟩,
   ⟨some 19, .mv (.t 26), none⟩,
   ⟨some 27, .ext 0 (.t 19), none⟩,
   ⟨some 28, .ext 1 (.t 19), none⟩,
   ⟨some 5, .mv (.t 27), none⟩,
   ⟨some 6, .mv (.t 28), none⟩])
 (.seq (.seq (.region [⟨some 29, .mv (.t 6), none⟩,
   ⟨some 30, .un .not (.t 29), none⟩])
 (.cond (.t 30)
  (.seq (.draw [⟨⟨some 31, .mv (.t 0), none⟩, []⟩,
    ⟨⟨some 32, .nilck (.t 31), none⟩, []⟩,
    ⟨⟨some 33, .faddr 0 (.t 32), none⟩, []⟩,
    ⟨⟨some 34, .faddr 1 (.t 33), none⟩, []⟩,
    ⟨⟨some 35, .load false 1 (.t 34), none⟩, []⟩,
    ⟨⟨some 36, .faddr 1 (.t 3), none⟩, []⟩,
    ⟨⟨some 37, .load false 1 (.t 36), none⟩, []⟩,
    ⟨⟨some 38, .iaddr 1 (.t 35) (.t 37), none⟩, []⟩,
    ⟨⟨some 39, .load false 1 (.t 38), none⟩, []⟩,
    ⟨⟨some 40, .faddr 1 (.t 3), none⟩, []⟩,
    ⟨⟨some 41, .load false 1 (.t 40), none⟩, []⟩,
    ⟨⟨some 42, .mv (.t 0), none⟩, []⟩,
    ⟨⟨some 43, .mkfn (.func 29) [(.t 42)] [], none⟩, []⟩,
    ⟨⟨some 44, .call 31 [(.t 39), (.t 41), (.t 43)], none⟩, []⟩,
    ⟨⟨some 5, .mv (.t 44), none⟩, []⟩])
  (.draw [⟨⟨some 45, .mv (.t 0), none⟩, []⟩,
    ⟨⟨some 46, .nilck (.t 45), none⟩, []⟩,
    ⟨⟨some 47, .faddr 3 (.t 46), none⟩, []⟩,
    ⟨⟨some 48, .load false 1 (.t 47), none⟩, []⟩,
    ⟨⟨some 49, .faddr 1 (.t 3), none⟩, []⟩,
    ⟨⟨some 50, .load false 1 (.t 49), none⟩, []⟩,
    ⟨⟨some 51, .mv (.t 5), none⟩, []⟩,
    ⟨⟨none, .mset [.int] false false [(.int .i64 0)] (.t 48) (.t 50) (.t 51), none⟩, []⟩]))
  .skip))
 f29c2_c0))))
def f29c2_lay : Lay := ⟨53, [], false⟩
def f29c2_res : List LRes := [.t 4]
def f29c2_L : LFn := ⟨2, f29c2_lay, f29c2_c1, f29c2_res⟩
theorem f29c2_low : lowFn Try.prog [] 29 = some f29c2_L := by kernel_rfl
theorem f29c2_fok : FnOk Try.prog 29 := ⟨_, Try.func29, rfl, rfl⟩
noncomputable def S_querylang_evaluator_getc_29_2_j1 (rec0 : Int → (List (List G_QOp)) → (List Int) → (List (Int × Int)) → G_QKey → Option (Int × Int × (List (List G_QOp)) × (List Int) × (List (Int × Int)))) (m : Option Nat) (v3 : Int) (v4 : List (List G_QOp)) (v5 : List Int) (v6 : Int) (v7 : List (Int × Int)) : Option (Int × Int × (List (List G_QOp)) × (List Int) × (List (Int × Int))) :=
  some (v6, v3, v4, v5, v7)

def f29c2_Q (a0 : Int) (a1 : List (List G_QOp)) (a2 : List Int) (a3 : List (Int × Int)) (a4 : G_QKey) (o : Int × Int × (List (List G_QOp)) × (List Int) × (List (Int × Int))) : Exit → Env → AHeap → Nat → Prop := FinK f29c2_res (FinTo 3 4 (.int .i64 o.1) [((1, 0), .one [.int .i64 o.2.1, .isl 1 (o.2.2.1.map e_sl_QOp) false, .isl 1 (o.2.2.2.1.map e_i64) false, .map (3, 0)]), ((3, 0), .amap (o.2.2.2.2.map (em a_i64 a_i64)))])

theorem f29c2_j1_ok {rec0 : Int → (List (List G_QOp)) → (List Int) → (List (Int × Int)) → G_QKey → Option (Int × Int × (List (List G_QOp)) × (List Int) × (List (Int × Int)))} (hrec0 : ∀ {a0 : Int} {a1 : List (List G_QOp)} {a2 : List Int} {a3 : List (Int × Int)} {a4 : G_QKey} {o : Int × Int × (List (List G_QOp)) × (List Int) × (List (Int × Int))}, rec0 a0 a1 a2 a3 a4 = some o → ACalls Try.prog 29 [.ptr (1, 0) 0 0, .agg [.int .i64 a4.f_Kind, .int .i64 a4.f_A, .int .i64 a4.f_B]] [((1, 0), .one [.int .i64 a0, .isl 1 (a1.map e_sl_QOp) false, .isl 1 (a2.map e_i64) false, .map (2, 0)]), ((2, 0), .amap (a3.map (em a_i64 a_i64)))] 3 (Gives 4 (.int .i64 o.1) [((1, 0), .one [.int .i64 o.2.1, .isl 1 (o.2.2.1.map e_sl_QOp) false, .isl 1 (o.2.2.2.1.map e_i64) false, .map (3, 0)]), ((3, 0), .amap (o.2.2.2.2.map (em a_i64 a_i64)))])) {a0 : Int} {a1 : List (List G_QOp)} {a2 : List Int} {a3 : List (Int × Int)} {a4 : G_QKey} {v3 : Int} {v4 : List (List G_QOp)} {v5 : List Int} {v6 : Int} {v7 : List (Int × Int)} {m : Option Nat} {o : (Int × Int × (List (List G_QOp)) × (List Int) × (List (Int × Int)))} (h : S_querylang_evaluator_getc_29_2_j1 rec0 m v3 v4 v5 v6 v7 = some o) :
    LWp Try.prog f29c2_lay 3 f29c2_c0 (f29c2_Q a0 a1 a2 a3 a4 o) [(5, .int .i64 v6)] [((1, 0), .one [.int .i64 v3, .isl 1 (v4.map e_sl_QOp) false, .isl 1 (v5.map e_i64) false, .map (3, 0)]), ((3, 0), .amap (v7.map (em a_i64 a_i64)))] 4 := by
  unfold S_querylang_evaluator_getc_29_2_j1 at h
  refine seqI ?_
  refine regI ?_
  refine retI ?_
  cases h
  exact And.intro trivial (finI (n' := 4) [((3, 0), (3, 0))] [] rfl rfl (Vw.same _ rfl) (And.intro (And.intro rfl (BVw.oneL (And.intro (Vw.same _ rfl) (And.intro (Vw.same _ rfl) (And.intro (Vw.same _ rfl) (And.intro (Vw.map _ _ rfl) trivial)))))) (And.intro (And.intro rfl (BVw.ofMap a_i64 a_i64 a_i64_nid v7)) trivial)))

noncomputable def S_querylang_evaluator_getc_29_2 (rec0 : Int → (List (List G_QOp)) → (List Int) → (List (Int × Int)) → G_QKey → Option (Int × Int × (List (List G_QOp)) × (List Int) × (List (Int × Int)))) (m : Option Nat) (a0 : Int) (a1 : List (List G_QOp)) (a2 : List Int) (a3 : List (Int × Int)) (a4 : G_QKey) : Option (Int × Int × (List (List G_QOp)) × (List Int) × (List (Int × Int))) :=
  if (a4.f_Kind == 0) = true then
    if (0 : Int) ≤ a4.f_A ∧ a4.f_A < ((a2.map e_i64).length : Int) then
    (S_querylang_reduce m (a2.getD a4.f_A.toNat default)).bind fun v1 =>
    some (v1, a0, a1, a2, a3)
    else none
  else
    if (!((lk q_i64 a3 a4.f_A).isSome)) = true then
      if (0 : Int) ≤ a4.f_A ∧ a4.f_A < ((a1.map e_sl_QOp).length : Int) then
      (S_querylang_run (fun (s : (Int × (List (List G_QOp)) × (List Int) × (List (Int × Int)))) (x : G_QKey) => (rec0 s.1 s.2.1 s.2.2.1 s.2.2.2 x).map fun o => (o.1, (o.2.1, o.2.2.1, o.2.2.2.1, o.2.2.2.2))) m (a1.getD a4.f_A.toNat default) a4.f_A (a0, a1, a2, a3)).bind fun v2 =>
      S_querylang_evaluator_getc_29_2_j1 rec0 m v2.2.1 v2.2.2.1 v2.2.2.2.1 v2.1 (mp q_i64 v2.2.2.2.2 a4.f_A v2.1)
      else none
    else
      S_querylang_evaluator_getc_29_2_j1 rec0 m a0 a1 a2 ((lk q_i64 a3 a4.f_A).getD 0) a3

theorem f29c2_start {rec0 : Int → (List (List G_QOp)) → (List Int) → (List (Int × Int)) → G_QKey → Option (Int × Int × (List (List G_QOp)) × (List Int) × (List (Int × Int)))} (hrec0 : ∀ {a0 : Int} {a1 : List (List G_QOp)} {a2 : List Int} {a3 : List (Int × Int)} {a4 : G_QKey} {o : Int × Int × (List (List G_QOp)) × (List Int) × (List (Int × Int))}, rec0 a0 a1 a2 a3 a4 = some o → ACalls Try.prog 29 [.ptr (1, 0) 0 0, .agg [.int .i64 a4.f_Kind, .int .i64 a4.f_A, .int .i64 a4.f_B]] [((1, 0), .one [.int .i64 a0, .isl 1 (a1.map e_sl_QOp) false, .isl 1 (a2.map e_i64) false, .map (2, 0)]), ((2, 0), .amap (a3.map (em a_i64 a_i64)))] 3 (Gives 4 (.int .i64 o.1) [((1, 0), .one [.int .i64 o.2.1, .isl 1 (o.2.2.1.map e_sl_QOp) false, .isl 1 (o.2.2.2.1.map e_i64) false, .map (3, 0)]), ((3, 0), .amap (o.2.2.2.2.map (em a_i64 a_i64)))])) {a0 : Int} {a1 : List (List G_QOp)} {a2 : List Int} {a3 : List (Int × Int)} {a4 : G_QKey} {m : Option Nat} {o : Int × Int × (List (List G_QOp)) × (List Int) × (List (Int × Int))} (h : S_querylang_evaluator_getc_29_2 rec0 m a0 a1 a2 a3 a4 = some o) : LWp Try.prog f29c2_lay 3 f29c2_c1 (f29c2_Q a0 a1 a2 a3 a4 o) (initEnv 0 [.ptr (1, 0) 0 0, .agg [.int .i64 a4.f_Kind, .int .i64 a4.f_A, .int .i64 a4.f_B]]) [((1, 0), .one [.int .i64 a0, .isl 1 (a1.map e_sl_QOp) false, .isl 1 (a2.map e_i64) false, .map (2, 0)]), ((2, 0), .amap (a3.map (em a_i64 a_i64)))] 3 := by
  unfold S_querylang_evaluator_getc_29_2 at h
  refine seqI ?_
  refine regI ?_
  refine seqI ?_
  refine seqI ?_
  refine regI ?_
  refine condI (v := (a4.f_Kind == 0)) rfl trivial (fun h1 => ?_) (fun h1 => ?_)
  · have h := ite_tt h1 h
    refine seqI ?_
    refine drawO rfl ?_
    obtain ⟨h2, h⟩ := ite_some h
    refine And.intro h2 ?_
    show yops _ _ _ [(16, .iptr 1 (a2.map e_i64) a4.f_A.toNat 0), (15, .int .i64 a4.f_A), (14, .ptr (3, 0) 0 1), (13, .isl 1 (a2.map e_i64) false), (12, .ptr (1, 0) 0 2), (11, .ptr (1, 0) 0 0), (10, .ptr (1, 0) 0 0), (9, .bool (a4.f_Kind == 0)), (8, .int .i64 a4.f_Kind), (7, .ptr (3, 0) 0 0), (4, .int .i64 0), (3, .ptr (3, 0) 0 0), (0, .ptr (1, 0) 0 0), (1, .agg [.int .i64 a4.f_Kind, .int .i64 a4.f_A, .int .i64 a4.f_B])] _ _
    refine Exists.intro (e_i64 (a2.getD a4.f_A.toNat default)) (And.intro (getD_enc e_i64 _ _ (idx_ltL e_i64 h2)) (And.intro (And.intro (idx_lt h2) (Nat.le_of_ble_eq_true rfl)) ?_))
    obtain ⟨v1, h3, h⟩ := bind_some h
    refine PFn.call (f39_ok h3) (And.intro (Vw.same _ rfl) trivial) ?_
    refine LWp.sim (e := [(4, .int .i64 v1)]) (L := [((1, 0), .one [.int .i64 a0, .isl 1 (a1.map e_sl_QOp) false, .isl 1 (a2.map e_i64) false, .map (3, 0)]), ((3, 0), .amap (a3.map (em a_i64 a_i64)))]) (n := 4) ?_ ?_
    · exact simI (M := [((3, 0), (2, 0))]) rfl (And.intro (Vw.same _ rfl) trivial) (And.intro (And.intro rfl (BVw.oneL (And.intro (Vw.same _ rfl) (And.intro (Vw.same _ rfl) (And.intro (Vw.same _ rfl) (And.intro (Vw.map _ _ rfl) trivial)))))) (And.intro (And.intro rfl (BVw.ofMap a_i64 a_i64 a_i64_nid a3)) trivial))
    refine retI ?_
    cases h
    exact And.intro trivial (finI (n' := 4) [((3, 0), (3, 0))] [] rfl rfl (Vw.same _ rfl) (And.intro (And.intro rfl (BVw.oneL (And.intro (Vw.same _ rfl) (And.intro (Vw.same _ rfl) (And.intro (Vw.same _ rfl) (And.intro (Vw.map _ _ rfl) trivial)))))) (And.intro (And.intro rfl (BVw.ofMap a_i64 a_i64 a_i64_nid a3)) trivial)))
  · have h := ite_ff h1 h
    refine skipI ?_
    refine seqI ?_
    refine quietI ?_
    refine Exists.intro (.tup [.int .i64 ((lk q_i64 a3 a4.f_A).getD 0), .bool ((lk q_i64 a3 a4.f_A).isSome)]) (And.intro (mlook_ok (ek := a_i64) (ev := a_i64) (z := 0) q_i64_ok rfl a4.f_A a3) (And.intro (mfind_some (ek := a_i64) (ev := a_i64) q_i64_ok _ _) ?_))
    refine LWp.sim (e := [(0, .ptr (1, 0) 0 0), (3, .ptr (3, 0) 0 0), (5, .int .i64 ((lk q_i64 a3 a4.f_A).getD 0)), (6, .bool ((lk q_i64 a3 a4.f_A).isSome))]) (L := [((1, 0), .one [.int .i64 a0, .isl 1 (a1.map e_sl_QOp) false, .isl 1 (a2.map e_i64) false, .map (4, 0)]), ((3, 0), .one [.int .i64 a4.f_Kind, .int .i64 a4.f_A, .int .i64 a4.f_B]), ((4, 0), .amap (a3.map (em a_i64 a_i64)))]) (n := 5) ?_ ?_
    · exact simI (M := [((3, 0), (3, 0)), ((4, 0), (2, 0))]) rfl (And.intro (Vw.ptr _ _ _ _ rfl) (And.intro (Vw.ptr _ _ _ _ rfl) (And.intro (Vw.same _ rfl) (And.intro (Vw.same _ rfl) trivial)))) (And.intro (And.intro rfl (BVw.oneL (And.intro (Vw.same _ rfl) (And.intro (Vw.same _ rfl) (And.intro (Vw.same _ rfl) (And.intro (Vw.map _ _ rfl) trivial)))))) (And.intro (And.intro rfl (BVw.oneL (And.intro (Vw.same _ rfl) (And.intro (Vw.same _ rfl) (And.intro (Vw.same _ rfl) trivial))))) (And.intro (And.intro rfl (BVw.ofMap a_i64 a_i64 a_i64_nid a3)) trivial)))
    refine seqI ?_
    refine seqI ?_
    refine regI ?_
    refine condI (v := (!((lk q_i64 a3 a4.f_A).isSome))) rfl trivial (fun h4 => ?_) (fun h4 => ?_)
    · have h := ite_tt h4 h
      refine seqI ?_
      refine drawO rfl ?_
      obtain ⟨h5, h⟩ := ite_some h
      refine And.intro h5 ?_
      show yops _ _ _ [(38, .iptr 1 (a1.map e_sl_QOp) a4.f_A.toNat 0), (37, .int .i64 a4.f_A), (36, .ptr (3, 0) 0 1), (35, .isl 1 (a1.map e_sl_QOp) false), (34, .ptr (1, 0) 0 1), (33, .ptr (1, 0) 0 0), (32, .ptr (1, 0) 0 0), (31, .ptr (1, 0) 0 0), (30, .bool (!((lk q_i64 a3 a4.f_A).isSome))), (29, .bool ((lk q_i64 a3 a4.f_A).isSome)), (0, .ptr (1, 0) 0 0), (3, .ptr (3, 0) 0 0), (5, .int .i64 ((lk q_i64 a3 a4.f_A).getD 0)), (6, .bool ((lk q_i64 a3 a4.f_A).isSome))] _ _
      refine Exists.intro (e_sl_QOp (a1.getD a4.f_A.toNat default)) (And.intro (getD_enc e_sl_QOp _ _ (idx_ltL e_sl_QOp h5)) (And.intro (And.intro (idx_lt h5) (Nat.le_of_ble_eq_true rfl)) ?_))
      obtain ⟨v2, h6, h⟩ := bind_some h
      refine bcall (k := 3) (m := 1) (L' := [((1, 0), .one [.int .i64 v2.2.1, .isl 1 (v2.2.2.1.map e_sl_QOp) false, .isl 1 (v2.2.2.2.1.map e_i64) false, .map (5, 0)]), ((5, 0), .amap (v2.2.2.2.2.map (em a_i64 a_i64)))]) (rest := [((3, 0), .one [.int .i64 a4.f_Kind, .int .i64 a4.f_A, .int .i64 a4.f_B])]) (R' := .int .i64 v2.1) [((1, 0), (1, 0)), ((2, 0), (4, 0))] (f31b0_ok (show Clo Try.prog (.func 29) [.ptr (1, 0) 0 0] [] (fun (s : (Int × (List (List G_QOp)) × (List Int) × (List (Int × Int)))) => [((1, 0), .one [.int .i64 s.1, .isl 1 (s.2.1.map e_sl_QOp) false, .isl 1 (s.2.2.1.map e_i64) false, .map (2, 0)]), ((2, 0), .amap (s.2.2.2.map (em a_i64 a_i64)))]) (fun (x : G_QKey) => [.agg [.int .i64 x.f_Kind, .int .i64 x.f_A, .int .i64 x.f_B]]) (fun (b : Int) => .int .i64 b) (fun (s : (Int × (List (List G_QOp)) × (List Int) × (List (Int × Int)))) (x : G_QKey) => (rec0 s.1 s.2.1 s.2.2.1 s.2.2.2 x).map fun o => (o.1, (o.2.1, o.2.2.1, o.2.2.2.1, o.2.2.2.2))) from Clo.mk' (fun s => Tl.lit rfl (And.intro (rfl) (And.intro (map_inP a_i64 a_i64 a_i64_nid a_i64_nid _) trivial)) rfl) rfl rfl (fun _ => rfl) (fun s x o h => by obtain ⟨o1, h1, rfl⟩ := Option.map_eq_some_iff.1 h; exact Exists.intro _ (And.intro (hrec0 h1) (And.intro rfl (And.intro rfl (And.intro rfl (And.intro (map_ren a_i64 a_i64 a_i64_nid a_i64_nid _) trivial))))))) h6) rfl rfl rfl (And.intro (Vw.same _ rfl) (And.intro (Vw.same _ rfl) (And.intro (Vw.fnL (And.intro (Vw.ptr _ _ _ _ rfl) trivial) trivial) trivial))) (And.intro (h0I (1, 0) rfl rfl (BVw.oneL (And.intro (Vw.same _ rfl) (And.intro (Vw.same _ rfl) (And.intro (Vw.same _ rfl) (And.intro (Vw.map _ _ rfl) trivial)))))) (And.intro (h0I (4, 0) rfl rfl (BVw.ofMap a_i64 a_i64 a_i64_nid a3)) trivial)) (nid_ren _ rfl) (And.intro rfl (And.intro rfl (And.intro rfl (And.intro ((congrArg (ABlock.ren _) (map_ren a_i64 a_i64 a_i64_nid a_i64_nid _)).trans (map_ren a_i64 a_i64 a_i64_nid a_i64_nid _)) trivial)))) rfl ?_
      show yops _ _ _ [(44, .int .i64 v2.1), (43, .fn (.func 29) [.ptr (1, 0) 0 0] []), (42, .ptr (1, 0) 0 0), (41, .int .i64 a4.f_A), (40, .ptr (3, 0) 0 1), (39, .isl 3 ((a1.getD a4.f_A.toNat default).map e_QOp) false), (38, .iptr 1 (a1.map e_sl_QOp) a4.f_A.toNat 0), (37, .int .i64 a4.f_A), (36, .ptr (3, 0) 0 1), (35, .isl 1 (a1.map e_sl_QOp) false), (34, .ptr (1, 0) 0 1), (33, .ptr (1, 0) 0 0), (32, .ptr (1, 0) 0 0), (31, .ptr (1, 0) 0 0), (30, .bool (!((lk q_i64 a3 a4.f_A).isSome))), (29, .bool ((lk q_i64 a3 a4.f_A).isSome)), (0, .ptr (1, 0) 0 0), (3, .ptr (3, 0) 0 0), (5, .int .i64 ((lk q_i64 a3 a4.f_A).getD 0)), (6, .bool ((lk q_i64 a3 a4.f_A).isSome))] _ _
      refine LWp.sim (e := [(0, .ptr (1, 0) 0 0), (3, .ptr (3, 0) 0 0), (5, .int .i64 v2.1)]) (L := [((1, 0), .one [.int .i64 v2.2.1, .isl 1 (v2.2.2.1.map e_sl_QOp) false, .isl 1 (v2.2.2.2.1.map e_i64) false, .map (4, 0)]), ((3, 0), .one [.int .i64 a4.f_Kind, .int .i64 a4.f_A, .int .i64 a4.f_B]), ((4, 0), .amap (v2.2.2.2.2.map (em a_i64 a_i64)))]) (n := 5) ?_ ?_
      · exact simI (M := [((3, 0), (3, 0)), ((4, 0), (5, 0))]) rfl (And.intro (Vw.ptr _ _ _ _ rfl) (And.intro (Vw.ptr _ _ _ _ rfl) (And.intro (Vw.same _ rfl) trivial))) (And.intro (And.intro rfl (BVw.oneL (And.intro (Vw.same _ rfl) (And.intro (Vw.same _ rfl) (And.intro (Vw.same _ rfl) (And.intro (Vw.map _ _ rfl) trivial)))))) (And.intro (And.intro rfl (BVw.oneL (And.intro (Vw.same _ rfl) (And.intro (Vw.same _ rfl) (And.intro (Vw.same _ rfl) trivial))))) (And.intro (And.intro rfl (BVw.ofMap a_i64 a_i64 a_i64_nid v2.2.2.2.2)) trivial)))
      refine drawO rfl ?_
      refine Exists.intro ((mp q_i64 v2.2.2.2.2 a4.f_A v2.1).map (em a_i64 a_i64)) (And.intro (mput_enc (ek := a_i64) (ev := a_i64) q_i64_ok a4.f_A v2.1 v2.2.2.2.2) ?_)
      refine LWp.sim ?_ (f29c2_j1_ok hrec0 h)
      exact simI (M := [((3, 0), (4, 0))]) rfl (And.intro (Vw.same _ rfl) trivial) (And.intro (And.intro rfl (BVw.oneL (And.intro (Vw.same _ rfl) (And.intro (Vw.same _ rfl) (And.intro (Vw.same _ rfl) (And.intro (Vw.map _ _ rfl) trivial)))))) (And.intro (And.intro rfl (BVw.ofMap a_i64 a_i64 a_i64_nid (mp q_i64 v2.2.2.2.2 a4.f_A v2.1))) trivial))
    · have h := ite_ff h4 h
      refine skipI ?_
      refine LWp.sim ?_ (f29c2_j1_ok hrec0 h)
      exact simI (M := [((3, 0), (4, 0))]) rfl (And.intro (Vw.same _ rfl) trivial) (And.intro (And.intro rfl (BVw.oneL (And.intro (Vw.same _ rfl) (And.intro (Vw.same _ rfl) (And.intro (Vw.same _ rfl) (And.intro (Vw.map _ _ rfl) trivial)))))) (And.intro (And.intro rfl (BVw.ofMap a_i64 a_i64 a_i64_nid a3)) trivial))

theorem f29c2_ok {rec0 : Int → (List (List G_QOp)) → (List Int) → (List (Int × Int)) → G_QKey → Option (Int × Int × (List (List G_QOp)) × (List Int) × (List (Int × Int)))} (hrec0 : ∀ {a0 : Int} {a1 : List (List G_QOp)} {a2 : List Int} {a3 : List (Int × Int)} {a4 : G_QKey} {o : Int × Int × (List (List G_QOp)) × (List Int) × (List (Int × Int))}, rec0 a0 a1 a2 a3 a4 = some o → ACalls Try.prog 29 [.ptr (1, 0) 0 0, .agg [.int .i64 a4.f_Kind, .int .i64 a4.f_A, .int .i64 a4.f_B]] [((1, 0), .one [.int .i64 a0, .isl 1 (a1.map e_sl_QOp) false, .isl 1 (a2.map e_i64) false, .map (2, 0)]), ((2, 0), .amap (a3.map (em a_i64 a_i64)))] 3 (Gives 4 (.int .i64 o.1) [((1, 0), .one [.int .i64 o.2.1, .isl 1 (o.2.2.1.map e_sl_QOp) false, .isl 1 (o.2.2.2.1.map e_i64) false, .map (3, 0)]), ((3, 0), .amap (o.2.2.2.2.map (em a_i64 a_i64)))])) {a0 : Int} {a1 : List (List G_QOp)} {a2 : List Int} {a3 : List (Int × Int)} {a4 : G_QKey} {m : Option Nat} {o : Int × Int × (List (List G_QOp)) × (List Int) × (List (Int × Int))} (h : S_querylang_evaluator_getc_29_2 rec0 m a0 a1 a2 a3 a4 = some o) : ACalls Try.prog 29 [.ptr (1, 0) 0 0, .agg [.int .i64 a4.f_Kind, .int .i64 a4.f_A, .int .i64 a4.f_B]] [((1, 0), .one [.int .i64 a0, .isl 1 (a1.map e_sl_QOp) false, .isl 1 (a2.map e_i64) false, .map (2, 0)]), ((2, 0), .amap (a3.map (em a_i64 a_i64)))] 3 (Gives 4 (.int .i64 o.1) [((1, 0), .one [.int .i64 o.2.1, .isl 1 (o.2.2.1.map e_sl_QOp) false, .isl 1 (o.2.2.2.1.map e_i64) false, .map (3, 0)]), ((3, 0), .amap (o.2.2.2.2.map (em a_i64 a_i64)))]) := bfn_of (L := f29c2_L) f29c2_low f29c2_fok (Nat.le_of_ble_eq_true rfl) (f29c2_start hrec0 h)

noncomputable def S_querylang_evaluator_getc_29_2_I (m : Option Nat) : Nat → Int → (List (List G_QOp)) → (List Int) → (List (Int × Int)) → G_QKey → Option (Int × Int × (List (List G_QOp)) × (List Int) × (List (Int × Int)))
  | 0 => fun _ _ _ _ _ => none
  | k + 1 => S_querylang_evaluator_getc_29_2 (S_querylang_evaluator_getc_29_2_I m k) m
noncomputable def S_querylang_evaluator_getc_29_2_F (m : Option Nat) (a0 : Int) (a1 : List (List G_QOp)) (a2 : List Int) (a3 : List (Int × Int)) (a4 : G_QKey) : Option (Int × Int × (List (List G_QOp)) × (List Int) × (List (Int × Int))) := recN m (fun k => S_querylang_evaluator_getc_29_2_I m k a0 a1 a2 a3 a4)
theorem f29c2_okI {m : Option Nat} : ∀ (k : Nat) {a0 : Int} {a1 : List (List G_QOp)} {a2 : List Int} {a3 : List (Int × Int)} {a4 : G_QKey} {o : Int × Int × (List (List G_QOp)) × (List Int) × (List (Int × Int))}, S_querylang_evaluator_getc_29_2_I m k a0 a1 a2 a3 a4 = some o → ACalls Try.prog 29 [.ptr (1, 0) 0 0, .agg [.int .i64 a4.f_Kind, .int .i64 a4.f_A, .int .i64 a4.f_B]] [((1, 0), .one [.int .i64 a0, .isl 1 (a1.map e_sl_QOp) false, .isl 1 (a2.map e_i64) false, .map (2, 0)]), ((2, 0), .amap (a3.map (em a_i64 a_i64)))] 3 (Gives 4 (.int .i64 o.1) [((1, 0), .one [.int .i64 o.2.1, .isl 1 (o.2.2.1.map e_sl_QOp) false, .isl 1 (o.2.2.2.1.map e_i64) false, .map (3, 0)]), ((3, 0), .amap (o.2.2.2.2.map (em a_i64 a_i64)))])
  | 0, _, _, _, _, _, _, h => nomatch h
  | k + 1, _, _, _, _, _, _, h => f29c2_ok (fun h => f29c2_okI k h) h
theorem f29c2_okF {a0 : Int} {a1 : List (List G_QOp)} {a2 : List Int} {a3 : List (Int × Int)} {a4 : G_QKey} {m : Option Nat} {o : Int × Int × (List (List G_QOp)) × (List Int) × (List (Int × Int))} (h : S_querylang_evaluator_getc_29_2_F m a0 a1 a2 a3 a4 = some o) : ACalls Try.prog 29 [.ptr (1, 0) 0 0, .agg [.int .i64 a4.f_Kind, .int .i64 a4.f_A, .int .i64 a4.f_B]] [((1, 0), .one [.int .i64 a0, .isl 1 (a1.map e_sl_QOp) false, .isl 1 (a2.map e_i64) false, .map (2, 0)]), ((2, 0), .amap (a3.map (em a_i64 a_i64)))] 3 (Gives 4 (.int .i64 o.1) [((1, 0), .one [.int .i64 o.2.1, .isl 1 (o.2.2.1.map e_sl_QOp) false, .isl 1 (o.2.2.2.1.map e_i64) false, .map (3, 0)]), ((3, 0), .amap (o.2.2.2.2.map (em a_i64 a_i64)))]) := (recN_some h).elim fun k h => f29c2_okI k h

def f29b2_c0 : LCode := (.seq (.region [⟨some 52, .mv (.t 5), none⟩,
   ⟨some 4, .mv (.t 52), none⟩])
 .ret)
def f29b2_c1 : LCode := (.seq (.region [⟨some 3, .box (.t 1), none⟩,
   ⟨some 4, .mv (.c (.int .i64 0)), none⟩])
 (.seq (.seq (.region [⟨some 7, .faddr 0 (.t 3), none⟩,
   ⟨some 8, .load false 1 (.t 7), none⟩,
   ⟨some 9, .bin .eql (.t 8) (.c (.int .i64 0)), none⟩])
 (.cond (.t 9)
  (.seq (.draw [⟨⟨some 10, .mv (.t 0), none⟩, []⟩,
    ⟨⟨some 11, .nilck (.t 10), none⟩, []⟩,
    ⟨⟨some 12, .faddr 2 (.t 11), none⟩, []⟩,
    ⟨⟨some 13, .load false 1 (.t 12), none⟩, []⟩,
    ⟨⟨some 14, .faddr 1 (.t 3), none⟩, []⟩,
    ⟨⟨some 15, .load false 1 (.t 14), none⟩, []⟩,
    ⟨⟨some 16, .iaddr 1 (.t 13) (.t 15), none⟩, []⟩,
    ⟨⟨some 17, .load false 1 (.t 16), none⟩, []⟩,
    ⟨⟨some 18, .call 39 [(.t 17)], none⟩, []⟩,
    ⟨⟨some 4, .mv (.t 18), none⟩, []⟩])
  .ret)
  .skip))
 (.seq (.quiet [⟨some 20, .mv (.t 0), none⟩,
   ⟨some 21, .nilck (.t 20), none⟩,
   ⟨some 22, .faddr 3 (.t 21), none⟩,
   ⟨some 23, .load false 1 (.t 22), none⟩,
   ⟨some 24, .faddr 1 (.t 3), none⟩,
   ⟨some 25, .load false 1 (.t 24), none⟩,
   ⟨some 26, .mlook [.int] false false true [(.int .i64 0)] (.t 23) (.t 25), none⟩,
   ⟨some 19, .mv (.t 26), none⟩,
   ⟨some 27, .ext 0 (.t 19), none⟩,
   ⟨some 28, .ext 1 (.t 19), none⟩,
   ⟨some 5, .mv (.t 27), none⟩,
   ⟨some 6, .mv (.t 28), none⟩])
 (.seq (.seq (.region [⟨some 29, .mv (.t 6), none⟩,
   ⟨some 30, .un .not (.t 29), none⟩])
 (.cond (.t 30)
  (.seq (.draw [⟨⟨some 31, .mv (.t 0), none⟩, []⟩,
    ⟨⟨some 32, .nilck (.t 31), none⟩, []⟩,
    ⟨⟨some 33, .faddr 0 (.t 32), none⟩, []⟩,
    ⟨⟨some 34, .faddr 1 (.t 33), none⟩, []⟩,
    ⟨⟨some 35, .load false 1 (.t 34), none⟩, []⟩,
    ⟨⟨some 36, .faddr 1 (.t 3), none⟩, []⟩,
    ⟨⟨some 37, .load false 1 (.t 36), none⟩, []⟩,
    ⟨⟨some 38, .iaddr 1 (.t 35) (.t 37), none⟩, []⟩,
    ⟨⟨some 39, .load false 1 (.t 38), none⟩, []⟩,
    ⟨⟨some 40, .faddr 1 (.t 3), none⟩, []⟩,
    ⟨⟨some 41, .load false 1 (.t 40), none⟩, []⟩,
    ⟨⟨some 42, .mv (.t 0), none⟩, []⟩,
    ⟨⟨some 43, .mkfn (.func 29) [(.t 42)] [], none⟩, []⟩,
    ⟨⟨some 44, .call 31 [(.t 39), (.t 41), (.t 43)], none⟩, []⟩,
    ⟨⟨some 5, .mv (.t 44), none⟩, []⟩])
  (.draw [⟨⟨some 45, .mv (.t 0), none⟩, []⟩,
    ⟨⟨some 46, .nilck (.t 45), none⟩, []⟩,
    ⟨⟨some 47, .faddr 3 (.t 46), none⟩, []⟩,
    ⟨⟨some 48, .load false 1 (.t 47), none⟩, []⟩,
    ⟨⟨some 49, .faddr 1 (.t 3), none⟩, []⟩,
    ⟨⟨some 50, .load false 1 (.t 49), none⟩, []⟩,
    ⟨⟨some 51, .mv (.t 5), none⟩, []⟩,
    ⟨⟨none, .mset [.int] false false [(.int .i64 0)] (.t 48) (.t 50) (.t 51), none⟩, []⟩]))
  .skip))
 f29b2_c0))))
def f29b2_lay : Lay := ⟨53, [], false⟩
def f29b2_res : List LRes := [.t 4]
def f29b2_L : LFn := ⟨2, f29b2_lay, f29b2_c1, f29b2_res⟩
theorem f29b2_low : lowFn Try.prog [] 29 = some f29b2_L := by kernel_rfl
theorem f29b2_fok : FnOk Try.prog 29 := ⟨_, Try.func29, rfl, rfl⟩
noncomputable def S_querylang_evaluator_get_29_2_j1 (m : Option Nat) (v3 : Int) (v4 : List (List G_QOp)) (v5 : List Int) (v6 : Int) (v7 : List (Int × Int)) : Option (Int × Int × (List (List G_QOp)) × (List Int) × (List (Int × Int))) :=
  some (v6, v3, v4, v5, v7)

def f29b2_Q (a0 : G_QKey) (a1 : Int) (a2 : List (List G_QOp)) (a3 : List Int) (a4 : List (Int × Int)) (o : Int × Int × (List (List G_QOp)) × (List Int) × (List (Int × Int))) : Exit → Env → AHeap → Nat → Prop := FinK f29b2_res (FinTo 3 4 (.int .i64 o.1) [((0, 0), .one [.int .i64 o.2.1, .isl 1 (o.2.2.1.map e_sl_QOp) false, .isl 1 (o.2.2.2.1.map e_i64) false, .map (3, 0)]), ((3, 0), .amap (o.2.2.2.2.map (em a_i64 a_i64)))])

theorem f29b2_j1_ok {a0 : G_QKey} {a1 : Int} {a2 : List (List G_QOp)} {a3 : List Int} {a4 : List (Int × Int)} {v3 : Int} {v4 : List (List G_QOp)} {v5 : List Int} {v6 : Int} {v7 : List (Int × Int)} {m : Option Nat} {o : (Int × Int × (List (List G_QOp)) × (List Int) × (List (Int × Int)))} (h : S_querylang_evaluator_get_29_2_j1 m v3 v4 v5 v6 v7 = some o) :
    LWp Try.prog f29b2_lay 3 f29b2_c0 (f29b2_Q a0 a1 a2 a3 a4 o) [(5, .int .i64 v6)] [((0, 0), .one [.int .i64 v3, .isl 1 (v4.map e_sl_QOp) false, .isl 1 (v5.map e_i64) false, .map (3, 0)]), ((3, 0), .amap (v7.map (em a_i64 a_i64)))] 4 := by
  unfold S_querylang_evaluator_get_29_2_j1 at h
  refine seqI ?_
  refine regI ?_
  refine retI ?_
  cases h
  exact And.intro trivial (finI (n' := 4) [((3, 0), (3, 0))] [] rfl rfl (Vw.same _ rfl) (And.intro (And.intro rfl (BVw.oneL (And.intro (Vw.same _ rfl) (And.intro (Vw.same _ rfl) (And.intro (Vw.same _ rfl) (And.intro (Vw.map _ _ rfl) trivial)))))) (And.intro (And.intro rfl (BVw.ofMap a_i64 a_i64 a_i64_nid v7)) trivial)))

noncomputable def S_querylang_evaluator_get_29_2 (m : Option Nat) (a0 : G_QKey) (a1 : Int) (a2 : List (List G_QOp)) (a3 : List Int) (a4 : List (Int × Int)) : Option (Int × Int × (List (List G_QOp)) × (List Int) × (List (Int × Int))) :=
  if (a0.f_Kind == 0) = true then
    if (0 : Int) ≤ a0.f_A ∧ a0.f_A < ((a3.map e_i64).length : Int) then
    (S_querylang_reduce m (a3.getD a0.f_A.toNat default)).bind fun v1 =>
    some (v1, a1, a2, a3, a4)
    else none
  else
    if (!((lk q_i64 a4 a0.f_A).isSome)) = true then
      if (0 : Int) ≤ a0.f_A ∧ a0.f_A < ((a2.map e_sl_QOp).length : Int) then
      (S_querylang_run (fun (s : (Int × (List (List G_QOp)) × (List Int) × (List (Int × Int)))) (x : G_QKey) => (S_querylang_evaluator_getc_29_2_F m s.1 s.2.1 s.2.2.1 s.2.2.2 x).map fun o => (o.1, (o.2.1, o.2.2.1, o.2.2.2.1, o.2.2.2.2))) m (a2.getD a0.f_A.toNat default) a0.f_A (a1, a2, a3, a4)).bind fun v2 =>
      S_querylang_evaluator_get_29_2_j1 m v2.2.1 v2.2.2.1 v2.2.2.2.1 v2.1 (mp q_i64 v2.2.2.2.2 a0.f_A v2.1)
      else none
    else
      S_querylang_evaluator_get_29_2_j1 m a1 a2 a3 ((lk q_i64 a4 a0.f_A).getD 0) a4

theorem f29b2_start {a0 : G_QKey} {a1 : Int} {a2 : List (List G_QOp)} {a3 : List Int} {a4 : List (Int × Int)} {m : Option Nat} {o : Int × Int × (List (List G_QOp)) × (List Int) × (List (Int × Int))} (h : S_querylang_evaluator_get_29_2 m a0 a1 a2 a3 a4 = some o) : LWp Try.prog f29b2_lay 3 f29b2_c1 (f29b2_Q a0 a1 a2 a3 a4 o) (initEnv 0 [.ptr (0, 0) 0 0, .agg [.int .i64 a0.f_Kind, .int .i64 a0.f_A, .int .i64 a0.f_B]]) [((0, 0), .one [.int .i64 a1, .isl 1 (a2.map e_sl_QOp) false, .isl 1 (a3.map e_i64) false, .map (0, 1)]), ((0, 1), .amap (a4.map (em a_i64 a_i64)))] 3 := by
  unfold S_querylang_evaluator_get_29_2 at h
  refine seqI ?_
  refine regI ?_
  refine seqI ?_
  refine seqI ?_
  refine regI ?_
  refine condI (v := (a0.f_Kind == 0)) rfl trivial (fun h1 => ?_) (fun h1 => ?_)
  · have h := ite_tt h1 h
    refine seqI ?_
    refine drawO rfl ?_
    obtain ⟨h2, h⟩ := ite_some h
    refine And.intro h2 ?_
    show yops _ _ _ [(16, .iptr 1 (a3.map e_i64) a0.f_A.toNat 0), (15, .int .i64 a0.f_A), (14, .ptr (3, 0) 0 1), (13, .isl 1 (a3.map e_i64) false), (12, .ptr (0, 0) 0 2), (11, .ptr (0, 0) 0 0), (10, .ptr (0, 0) 0 0), (9, .bool (a0.f_Kind == 0)), (8, .int .i64 a0.f_Kind), (7, .ptr (3, 0) 0 0), (4, .int .i64 0), (3, .ptr (3, 0) 0 0), (0, .ptr (0, 0) 0 0), (1, .agg [.int .i64 a0.f_Kind, .int .i64 a0.f_A, .int .i64 a0.f_B])] _ _
    refine Exists.intro (e_i64 (a3.getD a0.f_A.toNat default)) (And.intro (getD_enc e_i64 _ _ (idx_ltL e_i64 h2)) (And.intro (And.intro (idx_lt h2) (Nat.le_of_ble_eq_true rfl)) ?_))
    obtain ⟨v1, h3, h⟩ := bind_some h
    refine PFn.call (f39_ok h3) (And.intro (Vw.same _ rfl) trivial) ?_
    refine LWp.sim (e := [(4, .int .i64 v1)]) (L := [((0, 0), .one [.int .i64 a1, .isl 1 (a2.map e_sl_QOp) false, .isl 1 (a3.map e_i64) false, .map (3, 0)]), ((3, 0), .amap (a4.map (em a_i64 a_i64)))]) (n := 4) ?_ ?_
    · exact simI (M := [((3, 0), (0, 1))]) rfl (And.intro (Vw.same _ rfl) trivial) (And.intro (And.intro rfl (BVw.oneL (And.intro (Vw.same _ rfl) (And.intro (Vw.same _ rfl) (And.intro (Vw.same _ rfl) (And.intro (Vw.map _ _ rfl) trivial)))))) (And.intro (And.intro rfl (BVw.ofMap a_i64 a_i64 a_i64_nid a4)) trivial))
    refine retI ?_
    cases h
    exact And.intro trivial (finI (n' := 4) [((3, 0), (3, 0))] [] rfl rfl (Vw.same _ rfl) (And.intro (And.intro rfl (BVw.oneL (And.intro (Vw.same _ rfl) (And.intro (Vw.same _ rfl) (And.intro (Vw.same _ rfl) (And.intro (Vw.map _ _ rfl) trivial)))))) (And.intro (And.intro rfl (BVw.ofMap a_i64 a_i64 a_i64_nid a4)) trivial)))
  · have h := ite_ff h1 h
    refine skipI ?_
    refine seqI ?_
    refine quietI ?_
    refine Exists.intro (.tup [.int .i64 ((lk q_i64 a4 a0.f_A).getD 0), .bool ((lk q_i64 a4 a0.f_A).isSome)]) (And.intro (mlook_ok (ek := a_i64) (ev := a_i64) (z := 0) q_i64_ok rfl a0.f_A a4) (And.intro (mfind_some (ek := a_i64) (ev := a_i64) q_i64_ok _ _) ?_))
    refine LWp.sim (e := [(0, .ptr (0, 0) 0 0), (3, .ptr (3, 0) 0 0), (5, .int .i64 ((lk q_i64 a4 a0.f_A).getD 0)), (6, .bool ((lk q_i64 a4 a0.f_A).isSome))]) (L := [((0, 0), .one [.int .i64 a1, .isl 1 (a2.map e_sl_QOp) false, .isl 1 (a3.map e_i64) false, .map (4, 0)]), ((3, 0), .one [.int .i64 a0.f_Kind, .int .i64 a0.f_A, .int .i64 a0.f_B]), ((4, 0), .amap (a4.map (em a_i64 a_i64)))]) (n := 5) ?_ ?_
    · exact simI (M := [((3, 0), (3, 0)), ((4, 0), (0, 1))]) rfl (And.intro (Vw.ptr _ _ _ _ rfl) (And.intro (Vw.ptr _ _ _ _ rfl) (And.intro (Vw.same _ rfl) (And.intro (Vw.same _ rfl) trivial)))) (And.intro (And.intro rfl (BVw.oneL (And.intro (Vw.same _ rfl) (And.intro (Vw.same _ rfl) (And.intro (Vw.same _ rfl) (And.intro (Vw.map _ _ rfl) trivial)))))) (And.intro (And.intro rfl (BVw.oneL (And.intro (Vw.same _ rfl) (And.intro (Vw.same _ rfl) (And.intro (Vw.same _ rfl) trivial))))) (And.intro (And.intro rfl (BVw.ofMap a_i64 a_i64 a_i64_nid a4)) trivial)))
    refine seqI ?_
    refine seqI ?_
    refine regI ?_
    refine condI (v := (!((lk q_i64 a4 a0.f_A).isSome))) rfl trivial (fun h4 => ?_) (fun h4 => ?_)
    · have h := ite_tt h4 h
      refine seqI ?_
      refine drawO rfl ?_
      obtain ⟨h5, h⟩ := ite_some h
      refine And.intro h5 ?_
      show yops _ _ _ [(38, .iptr 1 (a2.map e_sl_QOp) a0.f_A.toNat 0), (37, .int .i64 a0.f_A), (36, .ptr (3, 0) 0 1), (35, .isl 1 (a2.map e_sl_QOp) false), (34, .ptr (0, 0) 0 1), (33, .ptr (0, 0) 0 0), (32, .ptr (0, 0) 0 0), (31, .ptr (0, 0) 0 0), (30, .bool (!((lk q_i64 a4 a0.f_A).isSome))), (29, .bool ((lk q_i64 a4 a0.f_A).isSome)), (0, .ptr (0, 0) 0 0), (3, .ptr (3, 0) 0 0), (5, .int .i64 ((lk q_i64 a4 a0.f_A).getD 0)), (6, .bool ((lk q_i64 a4 a0.f_A).isSome))] _ _
      refine Exists.intro (e_sl_QOp (a2.getD a0.f_A.toNat default)) (And.intro (getD_enc e_sl_QOp _ _ (idx_ltL e_sl_QOp h5)) (And.intro (And.intro (idx_lt h5) (Nat.le_of_ble_eq_true rfl)) ?_))
      obtain ⟨v2, h6, h⟩ := bind_some h
      refine bcall (k := 3) (m := 1) (L' := [((0, 0), .one [.int .i64 v2.2.1, .isl 1 (v2.2.2.1.map e_sl_QOp) false, .isl 1 (v2.2.2.2.1.map e_i64) false, .map (5, 0)]), ((5, 0), .amap (v2.2.2.2.2.map (em a_i64 a_i64)))]) (rest := [((3, 0), .one [.int .i64 a0.f_Kind, .int .i64 a0.f_A, .int .i64 a0.f_B])]) (R' := .int .i64 v2.1) [((1, 0), (0, 0)), ((2, 0), (4, 0))] (f31b0_ok (show Clo Try.prog (.func 29) [.ptr (1, 0) 0 0] [] (fun (s : (Int × (List (List G_QOp)) × (List Int) × (List (Int × Int)))) => [((1, 0), .one [.int .i64 s.1, .isl 1 (s.2.1.map e_sl_QOp) false, .isl 1 (s.2.2.1.map e_i64) false, .map (2, 0)]), ((2, 0), .amap (s.2.2.2.map (em a_i64 a_i64)))]) (fun (x : G_QKey) => [.agg [.int .i64 x.f_Kind, .int .i64 x.f_A, .int .i64 x.f_B]]) (fun (b : Int) => .int .i64 b) (fun (s : (Int × (List (List G_QOp)) × (List Int) × (List (Int × Int)))) (x : G_QKey) => (S_querylang_evaluator_getc_29_2_F m s.1 s.2.1 s.2.2.1 s.2.2.2 x).map fun o => (o.1, (o.2.1, o.2.2.1, o.2.2.2.1, o.2.2.2.2))) from Clo.mk' (fun s => Tl.lit rfl (And.intro (rfl) (And.intro (map_inP a_i64 a_i64 a_i64_nid a_i64_nid _) trivial)) rfl) rfl rfl (fun _ => rfl) (fun s x o h => by obtain ⟨o1, h1, rfl⟩ := Option.map_eq_some_iff.1 h; exact Exists.intro _ (And.intro (f29c2_okF h1) (And.intro rfl (And.intro rfl (And.intro rfl (And.intro (map_ren a_i64 a_i64 a_i64_nid a_i64_nid _) trivial))))))) h6) rfl rfl rfl (And.intro (Vw.same _ rfl) (And.intro (Vw.same _ rfl) (And.intro (Vw.fnL (And.intro (Vw.ptr _ _ _ _ rfl) trivial) trivial) trivial))) (And.intro (h0I (0, 0) rfl rfl (BVw.oneL (And.intro (Vw.same _ rfl) (And.intro (Vw.same _ rfl) (And.intro (Vw.same _ rfl) (And.intro (Vw.map _ _ rfl) trivial)))))) (And.intro (h0I (4, 0) rfl rfl (BVw.ofMap a_i64 a_i64 a_i64_nid a4)) trivial)) (nid_ren _ rfl) (And.intro rfl (And.intro rfl (And.intro rfl (And.intro ((congrArg (ABlock.ren _) (map_ren a_i64 a_i64 a_i64_nid a_i64_nid _)).trans (map_ren a_i64 a_i64 a_i64_nid a_i64_nid _)) trivial)))) rfl ?_
      show yops _ _ _ [(44, .int .i64 v2.1), (43, .fn (.func 29) [.ptr (0, 0) 0 0] []), (42, .ptr (0, 0) 0 0), (41, .int .i64 a0.f_A), (40, .ptr (3, 0) 0 1), (39, .isl 3 ((a2.getD a0.f_A.toNat default).map e_QOp) false), (38, .iptr 1 (a2.map e_sl_QOp) a0.f_A.toNat 0), (37, .int .i64 a0.f_A), (36, .ptr (3, 0) 0 1), (35, .isl 1 (a2.map e_sl_QOp) false), (34, .ptr (0, 0) 0 1), (33, .ptr (0, 0) 0 0), (32, .ptr (0, 0) 0 0), (31, .ptr (0, 0) 0 0), (30, .bool (!((lk q_i64 a4 a0.f_A).isSome))), (29, .bool ((lk q_i64 a4 a0.f_A).isSome)), (0, .ptr (0, 0) 0 0), (3, .ptr (3, 0) 0 0), (5, .int .i64 ((lk q_i64 a4 a0.f_A).getD 0)), (6, .bool ((lk q_i64 a4 a0.f_A).isSome))] _ _
      refine LWp.sim (e := [(0, .ptr (0, 0) 0 0), (3, .ptr (3, 0) 0 0), (5, .int .i64 v2.1)]) (L := [((0, 0), .one [.int .i64 v2.2.1, .isl 1 (v2.2.2.1.map e_sl_QOp) false, .isl 1 (v2.2.2.2.1.map e_i64) false, .map (4, 0)]), ((3, 0), .one [.int .i64 a0.f_Kind, .int .i64 a0.f_A, .int .i64 a0.f_B]), ((4, 0), .amap (v2.2.2.2.2.map (em a_i64 a_i64)))]) (n := 5) ?_ ?_
      · exact simI (M := [((3, 0), (3, 0)), ((4, 0), (5, 0))]) rfl (And.intro (Vw.ptr _ _ _ _ rfl) (And.intro (Vw.ptr _ _ _ _ rfl) (And.intro (Vw.same _ rfl) trivial))) (And.intro (And.intro rfl (BVw.oneL (And.intro (Vw.same _ rfl) (And.intro (Vw.same _ rfl) (And.intro (Vw.same _ rfl) (And.intro (Vw.map _ _ rfl) trivial)))))) (And.intro (And.intro rfl (BVw.oneL (And.intro (Vw.same _ rfl) (And.intro (Vw.same _ rfl) (And.intro (Vw.same _ rfl) trivial))))) (And.intro (And.intro rfl (BVw.ofMap a_i64 a_i64 a_i64_nid v2.2.2.2.2)) trivial)))
      refine drawO rfl ?_
      refine Exists.intro ((mp q_i64 v2.2.2.2.2 a0.f_A v2.1).map (em a_i64 a_i64)) (And.intro (mput_enc (ek := a_i64) (ev := a_i64) q_i64_ok a0.f_A v2.1 v2.2.2.2.2) ?_)
      refine LWp.sim ?_ (f29b2_j1_ok h)
      exact simI (M := [((3, 0), (4, 0))]) rfl (And.intro (Vw.same _ rfl) trivial) (And.intro (And.intro rfl (BVw.oneL (And.intro (Vw.same _ rfl) (And.intro (Vw.same _ rfl) (And.intro (Vw.same _ rfl) (And.intro (Vw.map _ _ rfl) trivial)))))) (And.intro (And.intro rfl (BVw.ofMap a_i64 a_i64 a_i64_nid (mp q_i64 v2.2.2.2.2 a0.f_A v2.1))) trivial))
    · have h := ite_ff h4 h
      refine skipI ?_
      refine LWp.sim ?_ (f29b2_j1_ok h)
      exact simI (M := [((3, 0), (4, 0))]) rfl (And.intro (Vw.same _ rfl) trivial) (And.intro (And.intro rfl (BVw.oneL (And.intro (Vw.same _ rfl) (And.intro (Vw.same _ rfl) (And.intro (Vw.same _ rfl) (And.intro (Vw.map _ _ rfl) trivial)))))) (And.intro (And.intro rfl (BVw.ofMap a_i64 a_i64 a_i64_nid a4)) trivial))

theorem f29b2_ok {a0 : G_QKey} {a1 : Int} {a2 : List (List G_QOp)} {a3 : List Int} {a4 : List (Int × Int)} {m : Option Nat} {o : Int × Int × (List (List G_QOp)) × (List Int) × (List (Int × Int))} (h : S_querylang_evaluator_get_29_2 m a0 a1 a2 a3 a4 = some o) : ACalls Try.prog 29 [.ptr (0, 0) 0 0, .agg [.int .i64 a0.f_Kind, .int .i64 a0.f_A, .int .i64 a0.f_B]] [((0, 0), .one [.int .i64 a1, .isl 1 (a2.map e_sl_QOp) false, .isl 1 (a3.map e_i64) false, .map (0, 1)]), ((0, 1), .amap (a4.map (em a_i64 a_i64)))] 3 (Gives 4 (.int .i64 o.1) [((0, 0), .one [.int .i64 o.2.1, .isl 1 (o.2.2.1.map e_sl_QOp) false, .isl 1 (o.2.2.2.1.map e_i64) false, .map (3, 0)]), ((3, 0), .amap (o.2.2.2.2.map (em a_i64 a_i64)))]) := bfn_of (L := f29b2_L) f29b2_low f29b2_fok (Nat.le_of_ble_eq_true rfl) (f29b2_start h)

def f10_c0 : LCode := (.seq (.region [⟨some 3, .box (.t 0), none⟩,
   ⟨some 6, .mv (.c (.int .i64 0)), none⟩,
   ⟨some 7, .mv (.c (.int .i64 0)), none⟩])
 (.seq (.region [⟨some 11, .load true 2 (.t 3), none⟩,
   ⟨some 12, .mv (.t 1), none⟩,
   ⟨some 13, .mv (.t 2), none⟩,
   ⟨some 14, .call 28 [(.t 11), (.t 12), (.t 13)], none⟩,
   ⟨some 10, .mv (.t 14), none⟩,
   ⟨some 15, .ext 0 (.t 10), none⟩,
   ⟨some 16, .ext 1 (.t 10), none⟩,
   ⟨some 8, .mv (.t 15), none⟩,
   ⟨some 9, .mv (.t 16), none⟩])
 (.seq (.seq (.region [⟨some 17, .mv (.t 9), none⟩,
   ⟨some 18, .bin .neq (.t 17) (.c (.int .i64 0)), none⟩])
 (.cond (.t 18)
  (.seq (.region [⟨some 19, .mv (.t 9), none⟩,
    ⟨some 6, .mv (.c (.int .i64 0)), none⟩,
    ⟨some 7, .mv (.t 19), none⟩])
  .ret)
  .skip))
 (.seq (.region [⟨some 20, .mv (.t 8), none⟩,
   ⟨some 21, .mv (.t 2), none⟩,
   ⟨some 22, .build [(.int .i64 0), (.int .i64 0), (.int .i64 0)] [(0, 1, (.c (.int .i64 1))), (1, 1, (.t 21))], none⟩,
   ⟨some 23, .call 29 [(.t 20), (.t 22)], none⟩,
   ⟨some 6, .mv (.t 23), none⟩,
   ⟨some 7, .mv (.c (.int .i64 0)), none⟩])
 .ret))))
def f10_lay : Lay := ⟨24, [], false⟩
def f10_res : List LRes := [.t 6, .t 7]
def f10_L : LFn := ⟨3, f10_lay, f10_c0, f10_res⟩
theorem f10_low : lowFn Try.prog [] 10 = some f10_L := by kernel_rfl
theorem f10_fok : FnOk Try.prog 10 := ⟨_, Try.func10, rfl, rfl⟩
noncomputable def S_querylang_Eval (m : Option Nat) (a0 : G_QProgram) (a1 : List Int) (a2 : Int) : Option (Int × Int) :=
  (S_querylang_newEvaluator m a0 a1 a2).bind fun v1 => match v1 with
  | (.inl v2) =>
    if (v2 != 0) = true then
      some (0, v2)
    else
      none
  | (.inr v3) =>
    if (v3.1 != 0) = true then
      some (0, v3.1)
    else
      (S_querylang_evaluator_get_29_2 m (G_QKey.mk 1 a2 0) v3.2.1 v3.2.2 a1 ([] : List (Int × Int))).bind fun v4 =>
      some (v4.1, 0)

def f10_Q (a0 : G_QProgram) (a1 : List Int) (a2 : Int) (o : Int × Int) : Exit → Env → AHeap → Nat → Prop := FinK f10_res (PureEnd (.tup [.int .i64 o.1, .int .i64 o.2]))

theorem f10_start {a0 : G_QProgram} {a1 : List Int} {a2 : Int} {m : Option Nat} {o : Int × Int} (h : S_querylang_Eval m a0 a1 a2 = some o) : LWp Try.prog f10_lay 0 f10_c0 (f10_Q a0 a1 a2 o) (initEnv 0 [.agg [.int .i64 a0.f_Inputs, .isl 1 (a0.f_Queries.map e_sl_QOp) false], .isl 1 (a1.map e_i64) false, .int .i64 a2]) [] 0 := by
  unfold S_querylang_Eval at h
  refine seqI ?_
  refine regI ?_
  refine seqI ?_
  refine regI ?_
  obtain ⟨v1, h1, h⟩ := bind_some h
  rcases v1 with v2 | v3
  · dsimp only at h
    refine bcall (k := 3) (m := 0) (L' := []) (rest := [((0, 0), .one [.int .i64 a0.f_Inputs, .isl 1 (a0.f_Queries.map e_sl_QOp) false])]) (R' := .tup [.val (.pointer none), .int .i64 v2]) [] (f28b0_ok0 h1) rfl rfl rfl (And.intro (Vw.same _ rfl) (And.intro (Vw.same _ rfl) (And.intro (Vw.same _ rfl) trivial))) trivial (nid_ren _ rfl) trivial rfl ?_
    show yops _ _ _ [(14, .tup [.val (.pointer none), .int .i64 v2]), (13, .int .i64 a2), (12, .isl 1 (a1.map e_i64) false), (11, .agg [.int .i64 a0.f_Inputs, .isl 1 (a0.f_Queries.map e_sl_QOp) false]), (7, .int .i64 0), (6, .int .i64 0), (3, .ptr (0, 0) 0 0), (0, .agg [.int .i64 a0.f_Inputs, .isl 1 (a0.f_Queries.map e_sl_QOp) false]), (1, .isl 1 (a1.map e_i64) false), (2, .int .i64 a2)] _ _
    refine LWp.sim (e := [(2, .int .i64 a2), (8, .val (.pointer none)), (9, .int .i64 v2)]) (L := []) (n := 0) ?_ ?_
    · exact simI (M := []) rfl (And.intro (Vw.same _ rfl) (And.intro (Vw.same _ rfl) (And.intro (Vw.same _ rfl) trivial))) trivial
    refine seqI ?_
    refine seqI ?_
    refine regI ?_
    refine condI (v := (v2 != 0)) rfl trivial (fun h2 => ?_) (fun h2 => ?_)
    · have h := ite_tt h2 h
      refine seqI ?_
      refine regI ?_
      refine retI ?_
      cases h
      exact And.intro trivial (And.intro trivial (And.intro rfl (Vw.same _ rfl)))
    · have h := ite_ff h2 h
      refine skipI ?_
      refine seqI ?_
      refine regI ?_
      cases h
  · dsimp only at h
    refine bcall (k := 3) (m := 2) (L' := [((1, 0), .one [.int .i64 v3.2.1, .isl 1 (v3.2.2.map e_sl_QOp) false, .isl 1 (a1.map e_i64) false, .map (2, 0)]), ((2, 0), .amap (([] : List (Int × Int)).map (em a_i64 a_i64)))]) (rest := [((0, 0), .one [.int .i64 a0.f_Inputs, .isl 1 (a0.f_Queries.map e_sl_QOp) false])]) (R' := .tup [.ptr (1, 0) 0 0, .int .i64 v3.1]) [] (f28b0_ok1 h1) rfl rfl rfl (And.intro (Vw.same _ rfl) (And.intro (Vw.same _ rfl) (And.intro (Vw.same _ rfl) trivial))) trivial rfl (And.intro rfl (And.intro rfl (And.intro rfl (And.intro (map_ren a_i64 a_i64 a_i64_nid a_i64_nid _) trivial)))) rfl ?_
    show yops _ _ _ [(14, .tup [.ptr (1, 0) 0 0, .int .i64 v3.1]), (13, .int .i64 a2), (12, .isl 1 (a1.map e_i64) false), (11, .agg [.int .i64 a0.f_Inputs, .isl 1 (a0.f_Queries.map e_sl_QOp) false]), (7, .int .i64 0), (6, .int .i64 0), (3, .ptr (0, 0) 0 0), (0, .agg [.int .i64 a0.f_Inputs, .isl 1 (a0.f_Queries.map e_sl_QOp) false]), (1, .isl 1 (a1.map e_i64) false), (2, .int .i64 a2)] _ _
    refine LWp.sim (e := [(2, .int .i64 a2), (8, .ptr (0, 0) 0 0), (9, .int .i64 v3.1)]) (L := [((0, 0), .one [.int .i64 v3.2.1, .isl 1 (v3.2.2.map e_sl_QOp) false, .isl 1 (a1.map e_i64) false, .map (1, 0)]), ((1, 0), .amap (([] : List (Int × Int)).map (em a_i64 a_i64)))]) (n := 2) ?_ ?_
    · exact simI (M := [((0, 0), (1, 0)), ((1, 0), (2, 0))]) rfl (And.intro (Vw.same _ rfl) (And.intro (Vw.ptr _ _ _ _ rfl) (And.intro (Vw.same _ rfl) trivial))) (And.intro (And.intro rfl (BVw.oneL (And.intro (Vw.same _ rfl) (And.intro (Vw.same _ rfl) (And.intro (Vw.same _ rfl) (And.intro (Vw.map _ _ rfl) trivial)))))) (And.intro (And.intro rfl (BVw.ofMap a_i64 a_i64 a_i64_nid ([] : List (Int × Int)))) trivial))
    refine seqI ?_
    refine seqI ?_
    refine regI ?_
    refine condI (v := (v3.1 != 0)) rfl trivial (fun h3 => ?_) (fun h3 => ?_)
    · have h := ite_tt h3 h
      refine seqI ?_
      refine regI ?_
      refine retI ?_
      cases h
      exact And.intro trivial (And.intro trivial (And.intro rfl (Vw.same _ rfl)))
    · have h := ite_ff h3 h
      refine skipI ?_
      refine seqI ?_
      refine regI ?_
      obtain ⟨v4, h4, h⟩ := bind_some h
      refine bcall (k := 3) (m := 1) (L' := [((0, 0), .one [.int .i64 v4.2.1, .isl 1 (v4.2.2.1.map e_sl_QOp) false, .isl 1 (v4.2.2.2.1.map e_i64) false, .map (2, 0)]), ((2, 0), .amap (v4.2.2.2.2.map (em a_i64 a_i64)))]) (rest := []) (R' := .int .i64 v4.1) [((0, 0), (0, 0)), ((0, 1), (1, 0))] (f29b2_ok h4) rfl rfl rfl (And.intro (Vw.ptr _ _ _ _ rfl) (And.intro (Vw.same _ rfl) trivial)) (And.intro (h0I (0, 0) rfl rfl (BVw.oneL (And.intro (Vw.same _ rfl) (And.intro (Vw.same _ rfl) (And.intro (Vw.same _ rfl) (And.intro (Vw.map _ _ rfl) trivial)))))) (And.intro (h0I (1, 0) rfl rfl (BVw.ofMap a_i64 a_i64 a_i64_nid ([] : List (Int × Int)))) trivial)) (nid_ren _ rfl) (And.intro rfl (And.intro rfl (And.intro rfl (And.intro (map_ren a_i64 a_i64 a_i64_nid a_i64_nid _) trivial)))) rfl ?_
      show yops _ _ _ [(23, .int .i64 v4.1), (22, .agg [.int .i64 1, .int .i64 a2, .int .i64 0]), (21, .int .i64 a2), (20, .ptr (0, 0) 0 0), (18, .bool (v3.1 != 0)), (17, .int .i64 v3.1), (2, .int .i64 a2), (8, .ptr (0, 0) 0 0), (9, .int .i64 v3.1)] _ _
      refine LWp.sim (e := [(6, .int .i64 v4.1), (7, .int .i64 0)]) (L := []) (n := 0) ?_ ?_
      · exact simI (M := []) rfl (And.intro (Vw.same _ rfl) (And.intro (Vw.same _ rfl) trivial)) trivial
      refine retI ?_
      cases h
      exact And.intro trivial (And.intro trivial (And.intro rfl (Vw.same _ rfl)))

theorem f10_ok {a0 : G_QProgram} {a1 : List Int} {a2 : Int} {m : Option Nat} {o : Int × Int} (h : S_querylang_Eval m a0 a1 a2 = some o) : PFn Try.prog 10 [.agg [.int .i64 a0.f_Inputs, .isl 1 (a0.f_Queries.map e_sl_QOp) false], .isl 1 (a1.map e_i64) false, .int .i64 a2] (.tup [.int .i64 o.1, .int .i64 o.2]) := PFn.ofFnW (L := f10_L) f10_low f10_fok (Nat.le_of_ble_eq_true rfl) rfl (f10_start h)

def f7_c0 : LCode := (.seq (.region [⟨some 0, .mv (.c (.bool false)), none⟩])
 (.seq (.region [⟨some 4, .build [(.int .i64 0), (.int .i64 0), (.int .i64 0)] [(0, 1, (.c (.int .i64 2)))], none⟩,
   ⟨some 5, .build [(.int .i64 0), (.int .i64 0), (.int .i64 0)] [(0, 1, (.c (.int .i64 1))), (1, 1, (.c (.int .i64 (-1))))], none⟩,
   ⟨some 6, .build [(.int .i64 0), (.int .i64 0), (.int .i64 0)] [(0, 1, (.c (.int .i64 8)))], none⟩,
   ⟨some 7, .mkSl true 3 [(.int .i64 0), (.int .i64 0), (.int .i64 0)] 3 [(0, (.t 4)), (1, (.t 5)), (2, (.t 6))], none⟩,
   ⟨some 8, .mkSl true 1 [(.isl 3 [] true)] 1 [(0, (.t 7))], none⟩,
   ⟨some 9, .build [(.int .i64 0), (.isl 1 [] true)] [(0, 1, (.c (.int .i64 1))), (1, 1, (.t 8))], none⟩,
   ⟨some 1, .alloc [(.int .i64 0), (.isl 1 [] true)], none⟩,
   ⟨none, .store 2 (.t 1) (.t 9), none⟩])
 (.seq (.region [⟨some 11, .load true 2 (.t 1), none⟩,
   ⟨some 12, .mkSl true 1 [(.int .i64 0)] 1 [(0, (.c (.int .i64 5)))], none⟩,
   ⟨some 13, .call 10 [(.t 11), (.t 12), (.c (.int .i64 0))], none⟩,
   ⟨some 10, .mv (.t 13), none⟩,
   ⟨some 14, .ext 0 (.t 10), none⟩,
   ⟨some 15, .ext 1 (.t 10), none⟩,
   ⟨some 2, .mv (.t 14), none⟩,
   ⟨some 3, .mv (.t 15), none⟩])
 (.seq (.region [⟨some 16, .mv (.t 3), none⟩,
   ⟨some 17, .bin .eql (.t 16) (.c (.int .i64 0)), none⟩,
   ⟨some 18, .mv (.t 17), none⟩,
   ⟨some 19, .mv (.t 2), some (18, true)⟩,
   ⟨some 20, .bin .eql (.t 19) (.c (.int .i64 999998)), some (18, true)⟩,
   ⟨some 21, .pick (.t 18) (.t 20) (.c (.bool false)), none⟩,
   ⟨some 0, .mv (.t 21), none⟩])
 .ret))))
def f7_lay : Lay := ⟨22, [], false⟩
def f7_res : List LRes := [.t 0]
def f7_L : LFn := ⟨0, f7_lay, f7_c0, f7_res⟩
theorem f7_low : lowFn Try.prog [] 7 = some f7_L := by kernel_rfl
theorem f7_fok : FnOk Try.prog 7 := ⟨_, Try.func7, rfl, rfl⟩
noncomputable def S_glossatorlaw3_queryExample (m : Option Nat) : Option Bool :=
  (S_querylang_Eval m (G_QProgram.mk 1 ([([(G_QOp.mk 2 0 0), (G_QOp.mk 1 (-1) 0), (G_QOp.mk 8 0 0)] : List G_QOp)] : List (List G_QOp))) ([5] : List Int) 0).bind fun v1 =>
  some ((v1.2 == 0) && (v1.1 == 999998))

def f7_Q (o : Bool) : Exit → Env → AHeap → Nat → Prop := FinK f7_res (PureEnd (.bool o))

theorem f7_start {m : Option Nat} {o : Bool} (h : S_glossatorlaw3_queryExample m = some o) : LWp Try.prog f7_lay 0 f7_c0 (f7_Q o) (initEnv 0 []) [] 0 := by
  unfold S_glossatorlaw3_queryExample at h
  refine seqI ?_
  refine regI ?_
  refine seqI ?_
  refine regI ?_
  refine LWp.sim (e := [(1, .ptr (0, 0) 0 0)]) (L := [((0, 0), .one [.int .i64 1, .isl 1 (([([(G_QOp.mk 2 0 0), (G_QOp.mk 1 (-1) 0), (G_QOp.mk 8 0 0)] : List G_QOp)] : List (List G_QOp)).map e_sl_QOp) true])]) (n := 1) ?_ ?_
  · exact simI (M := [((0, 0), (0, 0))]) rfl (And.intro (Vw.ptr _ _ _ _ rfl) trivial) (And.intro (And.intro rfl (BVw.oneL (And.intro (Vw.same _ rfl) (And.intro (Vw.same _ rfl) trivial)))) trivial)
  refine seqI ?_
  refine regI ?_
  obtain ⟨v1, h1, h⟩ := bind_some h
  refine PFn.call (f10_ok h1) (And.intro (Vw.aggL (And.intro (Vw.same _ rfl) (And.intro (Vw.islF _ _ _) trivial))) (And.intro (Vw.islF _ _ _) (And.intro (Vw.same _ rfl) trivial))) ?_
  refine LWp.sim (e := [(2, .int .i64 v1.1), (3, .int .i64 v1.2)]) (L := []) (n := 0) ?_ ?_
  · exact simI (M := []) rfl (And.intro (Vw.same _ rfl) (And.intro (Vw.same _ rfl) trivial)) trivial
  refine seqI ?_
  refine regI ?_
  refine And.intro (fun hp => hp) ?_
  show yops _ _ _ [(20, .cnd ((v1.2 == 0) == true) (.bool (v1.1 == 999998))), (19, .cnd ((v1.2 == 0) == true) (.int .i64 v1.1)), (18, .bool (v1.2 == 0)), (17, .bool (v1.2 == 0)), (16, .int .i64 v1.2), (2, .int .i64 v1.1), (3, .int .i64 v1.2)] _ _
  refine And.intro (fun hc => (bqt hc)) ?_
  refine retI ?_
  cases h
  exact And.intro trivial (And.intro rfl (Vw.same _ rfl))

theorem f7_ok {m : Option Nat} {o : Bool} (h : S_glossatorlaw3_queryExample m = some o) : PFn Try.prog 7 [] (.bool o) := PFn.ofFnW (L := f7_L) f7_low f7_fok (Nat.le_of_ble_eq_true rfl) rfl (f7_start h)

def f36_c0 : LCode := (.seq (.region [⟨some 2, .mv (.c (.val (.slice none 0 0))), none⟩])
 (.seq (.seq (.region [⟨some 3, .mv (.t 0), none⟩,
   ⟨some 4, .eq false .slice (.t 3) (.c (.val (.slice none 0 0))), none⟩])
 (.cond (.t 4)
  (.seq (.region [⟨some 2, .mv (.c (.val (.slice none 0 0))), none⟩])
  .ret)
  .skip))
 (.seq (.region [⟨some 5, .mkSl true 3 [(.int .i64 0), (.int .i64 0), (.int .i64 0)] 0 [], none⟩,
   ⟨some 6, .mv (.t 0), none⟩,
   ⟨some 7, .app true 3 24 (.t 5) (.t 6), none⟩,
   ⟨some 2, .mv (.t 7), none⟩])
 .ret)))
def f36_lay : Lay := ⟨8, [], false⟩
def f36_res : List LRes := [.t 2]
def f36_L : LFn := ⟨1, f36_lay, f36_c0, f36_res⟩
theorem f36_low : lowFn Try.prog [] 36 = some f36_L := by kernel_rfl
theorem f36_fok : FnOk Try.prog 36 := ⟨_, Try.func36, rfl, rfl⟩
noncomputable def S_slices_Clone_api_QOp (m : Option Nat) (a0 : List G_QOp) : Option (List G_QOp) :=
  if (a0.map e_QOp) ≠ [] then
  if ((([] : List G_QOp) ++ a0).map e_QOp).length * 24 ≤ 140737488355328 then
  some (([] : List G_QOp) ++ a0)
  else none
  else none

def f36_Q (a0 : List G_QOp) (o : (List G_QOp)) : Exit → Env → AHeap → Nat → Prop := FinK f36_res (PureEnd (.isl 3 (o.map e_QOp) false))

theorem f36_start {a0 : List G_QOp} {m : Option Nat} {o : (List G_QOp)} (h : S_slices_Clone_api_QOp m a0 = some o) : LWp Try.prog f36_lay 0 f36_c0 (f36_Q a0 o) (initEnv 0 [.isl 3 (a0.map e_QOp) false]) [] 0 := by
  unfold S_slices_Clone_api_QOp at h
  refine seqI ?_
  refine regI ?_
  refine seqI ?_
  refine seqI ?_
  refine regI ?_
  obtain ⟨h1, h⟩ := ite_some h
  refine And.intro h1 ?_
  refine condI (v := false) rfl trivial (fun hc => Bool.noConfusion hc) (fun hc => ?_)
  refine skipI ?_
  refine seqI ?_
  refine regI ?_
  obtain ⟨h2, h⟩ := ite_some h
  refine Exists.intro ((([] : List G_QOp) ++ a0).map e_QOp) (And.intro (app_enc e_QOp ([] : List G_QOp) a0) (And.intro (And.intro rfl h2) ?_))
  refine retI ?_
  cases h
  exact And.intro trivial (And.intro rfl (Vw.oslI _ _ _))

theorem f36_ok {a0 : List G_QOp} {m : Option Nat} {o : (List G_QOp)} (h : S_slices_Clone_api_QOp m a0 = some o) : PFn Try.prog 36 [.isl 3 (a0.map e_QOp) false] (.isl 3 (o.map e_QOp) false) := PFn.ofFnW (L := f36_L) f36_low f36_fok (Nat.le_of_ble_eq_true rfl) rfl (f36_start h)

noncomputable def S_slices_Clone_api_QOpE (m : Option Nat) : List G_QOp → Option (List G_QOp)
  | [] => some []
  | x :: r => S_slices_Clone_api_QOp m (x :: r)
theorem f36_okE {m : Option Nat} {a0 o : List G_QOp} (h : S_slices_Clone_api_QOpE m a0 = some o) : PFn Try.prog 36 [(.isl 3 (a0.map e_QOp) false)] (.isl 3 (o.map e_QOp) false) := by
  cases a0 with
  | nil =>
    cases h
    exact sclone_nil (c := 57) (zs := [(.int .i64 0), (.int .i64 0), (.int .i64 0)]) (b := 24) f36_fok Try.func36 ⟨_, _, _, _, _, _, _, _, _, _, _, _, _, _, _, _, _, _, _, _, _, _, _, _, _, _, _, _, rfl, rfl, rfl⟩ (by kernel_rfl) (by kernel_rfl) (by kernel_rfl) (by kernel_rfl) (by decide) (by decide) rfl
  | cons x r => exact f36_ok (m := m) h

def f18b0_c1 : LCode := (.seq (.region [⟨some 18, .bin .lss (.t 17) (.t 16), none⟩])
 (.seq (.cond (.t 18)
  .skip
  (.exit 0))
 (.seq (.block 1
  (.seq (.region [⟨some 19, .mv (.t 17), none⟩,
    ⟨some 20, .iaddr 1 (.t 15) (.t 17), none⟩,
    ⟨some 21, .load false 1 (.t 20), none⟩,
    ⟨some 5, .mv (.t 19), none⟩,
    ⟨some 6, .mv (.t 21), none⟩])
  (.draw [⟨⟨some 22, .load false 1 (.t 4), none⟩, []⟩,
    ⟨⟨some 23, .mv (.t 5), none⟩, []⟩,
    ⟨⟨some 24, .mv (.t 6), none⟩, []⟩,
    ⟨⟨some 25, .call 36 [(.t 24)], none⟩, [0]⟩,
    ⟨⟨some 26, .iaddr 1 (.t 22) (.t 23), none⟩, []⟩,
    ⟨⟨none, .store 1 (.t 26) (.t 25), none⟩, []⟩])))
 (.region [⟨some 27, .bin .add (.t 17) (.c (.int .i64 1)), none⟩,
   ⟨some 17, .mv (.t 27), none⟩]))))
def f18b0_c0 : LCode := (.seq (.region [⟨some 28, .mkfn (.func 37) [] [(.t 3), (.t 4)], none⟩,
   ⟨some 2, .mv (.t 28), none⟩])
 .ret)
def f18b0_c2 : LCode := (.seq (.region [⟨some 1, .box (.t 0), none⟩,
   ⟨some 2, .mv (.c (.val .nilFunc)), none⟩])
 (.seq (.region [⟨some 7, .load true 2 (.t 1), none⟩,
   ⟨some 8, .call 8 [(.t 7)], none⟩,
   ⟨some 9, .bin .eql (.t 8) (.c (.int .i64 0)), none⟩,
   ⟨some 3, .alloc [(.bool false)], none⟩,
   ⟨none, .store 1 (.t 3) (.t 9), none⟩])
 (.seq (.region [⟨some 10, .faddr 1 (.t 1), none⟩,
   ⟨some 11, .load false 1 (.t 10), none⟩,
   ⟨some 12, .len false (.t 11), none⟩,
   ⟨some 13, .mkslice false 1 24 [(.isl 3 [] true)] (.t 12) (.t 12), none⟩,
   ⟨some 4, .alloc [(.isl 1 [] true)], none⟩,
   ⟨none, .store 1 (.t 4) (.t 13), none⟩])
 (.seq (.seq (.region [⟨some 14, .faddr 1 (.t 1), none⟩,
   ⟨some 15, .load false 1 (.t 14), none⟩,
   ⟨some 16, .len false (.t 15), none⟩,
   ⟨some 17, .mv (.c (.int .i64 0)), none⟩])
 (.block 0
  (.loop
   f18b0_c1)))
 f18b0_c0))))
def f18b0_lay : Lay := ⟨29, [13], false⟩
def f18b0_res : List LRes := [.t 2]
def f18b0_L : LFn := ⟨1, f18b0_lay, f18b0_c2, f18b0_res⟩
theorem f18b0_low : lowFn Try.prog [13] 18 = some f18b0_L := by kernel_rfl
theorem f18b0_fok : FnOk Try.prog 18 := ⟨_, Try.func18, rfl, rfl⟩
def f18b0_Q (a0 : G_QProgram) (o : Bool × (List (List G_QOp))) : Exit → Env → AHeap → Nat → Prop := FinK f18b0_res (FinTo 3 6 (.fn (.func 37) [] [.ptr (3, 0) 0 0, .ptr (4, 0) 0 0]) [((3, 0), .one [.bool o.1]), ((4, 0), .one [.msl (5, 0) 1 0 o.2.length true]), ((5, 0), .rows 1 (o.2.map e_sl_QOp))])

def f18b0_L1_env (a0 : G_QProgram) (v1 : Int) (s : (Int × (List (List G_QOp)))) : Env := [(3, .ptr (3, 0) 0 0), (4, .ptr (4, 0) 0 0), (15, .isl 1 (a0.f_Queries.map e_sl_QOp) false), (16, .int .i64 ((a0.f_Queries.map e_sl_QOp).length : Int)), (17, .int .i64 s.1)]
def f18b0_L1_hp (a0 : G_QProgram) (v1 : Int) (s : (Int × (List (List G_QOp)))) : AHeap := [((3, 0), .one [.bool (v1 == 0)]), ((4, 0), .one [.msl (5, 0) 1 0 s.2.length true]), ((5, 0), .rows 1 (s.2.map e_sl_QOp))]
def f18b0_L1_Q (a0 : G_QProgram) (o : (Bool × (List (List G_QOp)))) : Exit → Env → AHeap → Nat → Prop := (QBlock 0 (QSeq Try.prog f18b0_lay 3 f18b0_c0 (f18b0_Q a0 o)))

noncomputable def S_querylang_Compile_j1 (m : Option Nat) (v1 : Int) (v4 : List (List G_QOp)) : Option (Bool × (List (List G_QOp))) :=
  some ((v1 == 0), v4)

noncomputable def S_querylang_Compile_b1 (m : Option Nat) (a0 : G_QProgram) (v1 : Int) (v3 : Int) (v4 : List (List G_QOp)) : Option ((Int × (List (List G_QOp))) ⊕ (Bool × (List (List G_QOp)))) :=
  if (decide (v3 < ((a0.f_Queries.map e_sl_QOp).length : Int))) = true then
    if (0 : Int) ≤ v3 ∧ v3 < ((a0.f_Queries.map e_sl_QOp).length : Int) then
    (S_slices_Clone_api_QOpE m (a0.f_Queries.getD v3.toNat default)).bind fun v6 =>
    if (0 : Int) ≤ v3 ∧ v3 < ((v4.length : Nat) : Int) then
    if (0 + v3.toNat) < v4.length then
    some (.inl ((W (v3 + 1)), (v4.set (0 + v3.toNat) v6)))
    else none
    else none
    else none
  else
    Option.map Sum.inr (
      S_querylang_Compile_j1 m v1 v4)

noncomputable def S_querylang_Compile_l1 (m : Option Nat) (a0 : G_QProgram) (v1 : Int) (v3 : Int) (v4 : List (List G_QOp)) : Option (Bool × (List (List G_QOp))) := loopM m (fun (s : (Int × (List (List G_QOp)))) => S_querylang_Compile_b1 m a0 v1 s.1 s.2) (v3, v4)

theorem f18b0_j1_ok {a0 : G_QProgram} {v1 : Int} {v4 : List (List G_QOp)} {m : Option Nat} {o : (Bool × (List (List G_QOp)))} (h : S_querylang_Compile_j1 m v1 v4 = some o) :
    LWp Try.prog f18b0_lay 3 f18b0_c0 (f18b0_Q a0 o) [(3, .ptr (3, 0) 0 0), (4, .ptr (4, 0) 0 0)] [((3, 0), .one [.bool (v1 == 0)]), ((4, 0), .one [.msl (5, 0) 1 0 v4.length true]), ((5, 0), .rows 1 (v4.map e_sl_QOp))] 6 := by
  unfold S_querylang_Compile_j1 at h
  refine seqI ?_
  refine regI ?_
  refine retI ?_
  cases h
  exact And.intro trivial (finI (n' := 6) [((3, 0), (3, 0)), ((4, 0), (4, 0)), ((5, 0), (5, 0))] [] rfl rfl (Vw.fnL trivial (And.intro (Vw.ptr _ _ _ _ rfl) (And.intro (Vw.ptr _ _ _ _ rfl) trivial))) (And.intro (And.intro rfl (BVw.oneL (And.intro (Vw.same _ rfl) trivial))) (And.intro (And.intro rfl (BVw.oneL (And.intro (Vw.mslE rfl (by first | rfl | simp) rfl) trivial))) (And.intro (And.intro rfl (BVw.enc e_sl_QOp (fun _ => rfl) _ v4)) trivial))))

theorem f18b0_L1_bok {a0 : G_QProgram} {v1 : Int} {v3 : Int} {v4 : List (List G_QOp)} {m : Option Nat} {o : (Int × (List (List G_QOp))) ⊕ (Bool × (List (List G_QOp)))} (h : S_querylang_Compile_b1 m a0 v1 v3 v4 = some o) :
    LWp Try.prog f18b0_lay 3 f18b0_c1 (BodyQ 3 6 (f18b0_L1_env a0 v1) (f18b0_L1_hp a0 v1) (f18b0_L1_Q a0) o) [(3, .ptr (3, 0) 0 0), (4, .ptr (4, 0) 0 0), (15, .isl 1 (a0.f_Queries.map e_sl_QOp) false), (16, .int .i64 ((a0.f_Queries.map e_sl_QOp).length : Int)), (17, .int .i64 v3)] [((3, 0), .one [.bool (v1 == 0)]), ((4, 0), .one [.msl (5, 0) 1 0 v4.length true]), ((5, 0), .rows 1 (v4.map e_sl_QOp))] 6 := by
  unfold S_querylang_Compile_b1 at h
  refine seqI ?_
  refine regI ?_
  refine seqI ?_
  refine condI (v := (decide (v3 < ((a0.f_Queries.map e_sl_QOp).length : Int)))) rfl trivial (fun h13 => ?_) (fun h13 => ?_)
  · have h := ite_tt h13 h
    refine skipI ?_
    refine seqI ?_
    refine blockI ?_
    refine seqI ?_
    refine regI ?_
    obtain ⟨h14, h⟩ := ite_some h
    refine And.intro h14 ?_
    refine Exists.intro (e_sl_QOp (a0.f_Queries.getD v3.toNat default)) (And.intro (getD_enc e_sl_QOp _ _ (idx_ltL e_sl_QOp h14)) (And.intro (And.intro (idx_lt h14) (Nat.le_of_ble_eq_true rfl)) ?_))
    refine drawI ?_
    obtain ⟨v6, h15, h⟩ := bind_some h
    refine PFn.call (f36_okE h15) (And.intro (Vw.same _ rfl) trivial) ?_
    refine And.intro rfl ?_
    obtain ⟨h16, h⟩ := ite_some h
    refine And.intro h16 ?_
    show yd _ _ _ _ _ [(26, .ptr (5, 0) (0 + v3.toNat) 0), (25, .isl 3 (v6.map e_QOp) false), (24, .isl 3 ((a0.f_Queries.getD v3.toNat default).map e_QOp) false), (23, .int .i64 v3), (22, .msl (5, 0) 1 0 v4.length true), (6, .isl 3 ((a0.f_Queries.getD v3.toNat default).map e_QOp) false), (5, .int .i64 v3), (21, .isl 3 ((a0.f_Queries.getD v3.toNat default).map e_QOp) false), (20, .iptr 1 (a0.f_Queries.map e_sl_QOp) v3.toNat 0), (19, .int .i64 v3), (18, .bool (decide (v3 < ((a0.f_Queries.map e_sl_QOp).length : Int)))), (3, .ptr (3, 0) 0 0), (4, .ptr (4, 0) 0 0), (15, .isl 1 (a0.f_Queries.map e_sl_QOp) false), (16, .int .i64 ((a0.f_Queries.map e_sl_QOp).length : Int)), (17, .int .i64 v3)] _ _
    obtain ⟨h17, h⟩ := ite_some h
    refine Exists.intro ((v4.set (0 + v3.toNat) v6).map e_sl_QOp) (And.intro (set_enc e_sl_QOp _ _ _ _ _ h17 rfl) (And.intro (And.intro rfl (And.intro (lt_map e_sl_QOp h17) (Nat.le_of_ble_eq_true rfl))) ?_))
    refine LWp.sim (e := [(3, .ptr (3, 0) 0 0), (4, .ptr (4, 0) 0 0), (15, .isl 1 (a0.f_Queries.map e_sl_QOp) false), (16, .int .i64 ((a0.f_Queries.map e_sl_QOp).length : Int)), (17, .int .i64 v3)]) (L := [((3, 0), .one [.bool (v1 == 0)]), ((4, 0), .one [.msl (5, 0) 1 0 v4.length true]), ((5, 0), .rows 1 ((v4.set (0 + v3.toNat) v6).map e_sl_QOp))]) (n := 6) ?_ ?_
    · exact simI (M := [((3, 0), (3, 0)), ((4, 0), (4, 0)), ((5, 0), (5, 0))]) rfl (And.intro (Vw.ptr _ _ _ _ rfl) (And.intro (Vw.ptr _ _ _ _ rfl) (And.intro (Vw.same _ rfl) (And.intro (Vw.same _ rfl) (And.intro (Vw.same _ rfl) trivial))))) (And.intro (And.intro rfl (BVw.oneL (And.intro (Vw.same _ rfl) trivial))) (And.intro (And.intro rfl (BVw.oneL (And.intro (Vw.mslE rfl (by first | rfl | simp) rfl) trivial))) (And.intro (And.intro rfl (BVw.enc e_sl_QOp (fun _ => rfl) _ (v4.set (0 + v3.toNat) v6))) trivial)))
    refine regI ?_
    cases h
    exact And.intro rfl (simI (M := [((3, 0), (3, 0)), ((4, 0), (4, 0)), ((5, 0), (5, 0))]) rfl (And.intro (Vw.ptr _ _ _ _ rfl) (And.intro (Vw.ptr _ _ _ _ rfl) (And.intro (Vw.same _ rfl) (And.intro (Vw.same _ rfl) (And.intro (Vw.same _ rfl) trivial))))) (And.intro (And.intro rfl (BVw.oneL (And.intro (Vw.same _ rfl) trivial))) (And.intro (And.intro rfl (BVw.oneL (And.intro (Vw.mslE rfl (by first | rfl | simp) rfl) trivial))) (And.intro (And.intro rfl (BVw.enc e_sl_QOp (fun _ => rfl) _ (v4.set (0 + v3.toNat) v6))) trivial))))
  · have h := ite_ff h13 h
    refine exitI ?_
    obtain ⟨o, hq, rfl⟩ := Option.map_eq_some_iff.1 h
    replace h := hq; clear hq
    refine And.intro nofun ?_
    refine LWp.sim ?_ (f18b0_j1_ok h)
    exact simI (M := [((3, 0), (3, 0)), ((4, 0), (4, 0)), ((5, 0), (5, 0))]) rfl (And.intro (Vw.ptr _ _ _ _ rfl) (And.intro (Vw.ptr _ _ _ _ rfl) trivial)) (And.intro (And.intro rfl (BVw.oneL (And.intro (Vw.same _ rfl) trivial))) (And.intro (And.intro rfl (BVw.oneL (And.intro (Vw.mslE rfl (by first | rfl | simp) rfl) trivial))) (And.intro (And.intro rfl (BVw.enc e_sl_QOp (fun _ => rfl) _ v4)) trivial)))

theorem f18b0_L1_ok {a0 : G_QProgram} {v1 : Int} {v3 : Int} {v4 : List (List G_QOp)} {m : Option Nat} {o : (Bool × (List (List G_QOp)))} (h : S_querylang_Compile_l1 m a0 v1 v3 v4 = some o) :
    LWp Try.prog f18b0_lay 3 (.loop f18b0_c1) (QBlock 0 (QSeq Try.prog f18b0_lay 3 f18b0_c0 (f18b0_Q a0 o))) [(3, .ptr (3, 0) 0 0), (4, .ptr (4, 0) 0 0), (15, .isl 1 (a0.f_Queries.map e_sl_QOp) false), (16, .int .i64 ((a0.f_Queries.map e_sl_QOp).length : Int)), (17, .int .i64 v3)] [((3, 0), .one [.bool (v1 == 0)]), ((4, 0), .one [.msl (5, 0) 1 0 v4.length true]), ((5, 0), .rows 1 (v4.map e_sl_QOp))] 6 :=
  LWp_loopM (m := m) (s := ((v3, v4) : (Int × (List (List G_QOp))))) (r := o) (fun (s : (Int × (List (List G_QOp)))) => S_querylang_Compile_b1 m a0 v1 s.1 s.2) (f18b0_L1_env a0 v1) (f18b0_L1_hp a0 v1) (f18b0_L1_Q a0) (fun s o h => f18b0_L1_bok h) h

noncomputable def S_querylang_Compile (m : Option Nat) (a0 : G_QProgram) : Option (Bool × (List (List G_QOp))) :=
  (S_querylang_Check m a0).bind fun v1 =>
  if (0 : Int) ≤ ((a0.f_Queries.map e_sl_QOp).length : Int) ∧ ((a0.f_Queries.map e_sl_QOp).length : Int) ≤ ((a0.f_Queries.map e_sl_QOp).length : Int) ∧ ((a0.f_Queries.map e_sl_QOp).length : Int) * 24 ≤ 140737488355328 then
  S_querylang_Compile_l1 m a0 v1 0 (List.replicate ((a0.f_Queries.map e_sl_QOp).length : Int).toNat ([] : List G_QOp))
  else none

theorem f18b0_start {a0 : G_QProgram} {m : Option Nat} {o : Bool × (List (List G_QOp))} (h : S_querylang_Compile m a0 = some o) : LWp Try.prog f18b0_lay 3 f18b0_c2 (f18b0_Q a0 o) (initEnv 0 [.agg [.int .i64 a0.f_Inputs, .isl 1 (a0.f_Queries.map e_sl_QOp) false]]) [] 3 := by
  unfold S_querylang_Compile at h
  refine seqI ?_
  refine regI ?_
  refine seqI ?_
  refine regI ?_
  obtain ⟨v1, h1, h⟩ := bind_some h
  refine PFn.call (f8_ok h1) (And.intro (Vw.same _ rfl) trivial) ?_
  refine seqI ?_
  refine regI ?_
  obtain ⟨h2, h⟩ := ite_some h
  refine Exists.intro ((List.replicate ((a0.f_Queries.map e_sl_QOp).length : Int).toNat ([] : List G_QOp)).map e_sl_QOp) (Exists.intro true (And.intro (repl_enc e_sl_QOp ((a0.f_Queries.map e_sl_QOp).length : Int).toNat ([] : List G_QOp)) (And.intro (by simp) (And.intro h2 ?_))))
  refine LWp.sim (e := [(1, .ptr (3, 0) 0 0), (3, .ptr (4, 0) 0 0), (4, .ptr (5, 0) 0 0)]) (L := [((3, 0), .one [.int .i64 a0.f_Inputs, .isl 1 (a0.f_Queries.map e_sl_QOp) false]), ((4, 0), .one [.bool (v1 == 0)]), ((5, 0), .one [.msl (6, 0) 1 0 (((List.replicate ((a0.f_Queries.map e_sl_QOp).length : Int).toNat ([] : List G_QOp)).map e_sl_QOp).length) true]), ((6, 0), .rows 1 ((List.replicate ((a0.f_Queries.map e_sl_QOp).length : Int).toNat ([] : List G_QOp)).map e_sl_QOp))]) (n := 7) ?_ ?_
  · exact simI (M := [((3, 0), (3, 0)), ((4, 0), (4, 0)), ((5, 0), (6, 0)), ((6, 0), (5, 0))]) rfl (And.intro (Vw.ptr _ _ _ _ rfl) (And.intro (Vw.ptr _ _ _ _ rfl) (And.intro (Vw.ptr _ _ _ _ rfl) trivial))) (And.intro (And.intro rfl (BVw.oneL (And.intro (Vw.same _ rfl) (And.intro (Vw.same _ rfl) trivial)))) (And.intro (And.intro rfl (BVw.oneL (And.intro (Vw.same _ rfl) trivial))) (And.intro (And.intro rfl (BVw.oneL (And.intro (Vw.mslE rfl (by first | rfl | simp) rfl) trivial))) (And.intro (And.intro rfl (BVw.enc e_sl_QOp (fun _ => rfl) _ (List.replicate ((a0.f_Queries.map e_sl_QOp).length : Int).toNat ([] : List G_QOp)))) trivial))))
  refine seqI ?_
  refine seqI ?_
  refine regI ?_
  refine blockI ?_
  refine LWp.sim ?_ (f18b0_L1_ok h)
  exact simI (M := [((3, 0), (4, 0)), ((4, 0), (5, 0)), ((5, 0), (6, 0))]) rfl (And.intro (Vw.ptr _ _ _ _ rfl) (And.intro (Vw.ptr _ _ _ _ rfl) (And.intro (Vw.same _ rfl) (And.intro (Vw.same _ rfl) (And.intro (Vw.same _ rfl) trivial))))) (And.intro (And.intro rfl (BVw.oneL (And.intro (Vw.same _ rfl) trivial))) (And.intro (And.intro rfl (BVw.oneL (And.intro (Vw.mslE rfl (by first | rfl | simp) rfl) trivial))) (And.intro (And.intro rfl (BVw.enc e_sl_QOp (fun _ => rfl) _ (List.replicate ((a0.f_Queries.map e_sl_QOp).length : Int).toNat ([] : List G_QOp)))) trivial)))

theorem f18b0_ok {a0 : G_QProgram} {m : Option Nat} {o : Bool × (List (List G_QOp))} (h : S_querylang_Compile m a0 = some o) : ACalls Try.prog 18 [.agg [.int .i64 a0.f_Inputs, .isl 1 (a0.f_Queries.map e_sl_QOp) false]] [] 3 (Gives 6 (.fn (.func 37) [] [.ptr (3, 0) 0 0, .ptr (4, 0) 0 0]) [((3, 0), .one [.bool o.1]), ((4, 0), .one [.msl (5, 0) 1 0 o.2.length true]), ((5, 0), .rows 1 (o.2.map e_sl_QOp))]) := bfn_of (L := f18b0_L) f18b0_low f18b0_fok (Nat.le_of_ble_eq_true rfl) (f18b0_start h)

def f17_c0 : LCode := (.seq (.region [⟨some 14, .mv (.t 5), none⟩,
   ⟨some 4, .mv (.t 14), none⟩])
 .ret)
def f17_c1 : LCode := (.seq (.region [⟨some 4, .mv (.c (.int .i64 0)), none⟩])
 (.seq (.region [⟨some 6, .mv (.t 0), none⟩,
   ⟨some 7, .mv (.t 1), none⟩,
   ⟨some 8, .bin .rem (.t 6) (.t 7), none⟩,
   ⟨some 5, .mv (.t 8), none⟩])
 (.seq (.seq (.region [⟨some 9, .mv (.t 5), none⟩,
   ⟨some 10, .bin .lss (.t 9) (.c (.int .i64 0)), none⟩])
 (.cond (.t 10)
  (.region [⟨some 11, .mv (.t 5), none⟩,
    ⟨some 12, .mv (.t 1), none⟩,
    ⟨some 13, .bin .add (.t 11) (.t 12), none⟩,
    ⟨some 5, .mv (.t 13), none⟩])
  .skip))
 f17_c0)))
def f17_lay : Lay := ⟨15, [], false⟩
def f17_res : List LRes := [.t 4]
def f17_L : LFn := ⟨2, f17_lay, f17_c1, f17_res⟩
theorem f17_low : lowFn Try.prog [] 17 = some f17_L := by kernel_rfl
theorem f17_fok : FnOk Try.prog 17 := ⟨_, Try.func17, rfl, rfl⟩
noncomputable def S_glossatorref3_Mod_j1 (m : Option Nat) (v1 : Int) : Option Int :=
  some v1

def f17_Q (a0 : Int) (a1 : Int) (o : Int) : Exit → Env → AHeap → Nat → Prop := FinK f17_res (PureEnd (.int .i64 o))

theorem f17_j1_ok {a0 : Int} {a1 : Int} {v1 : Int} {m : Option Nat} {o : Int} (h : S_glossatorref3_Mod_j1 m v1 = some o) :
    LWp Try.prog f17_lay 0 f17_c0 (f17_Q a0 a1 o) [(5, .int .i64 v1)] [] 0 := by
  unfold S_glossatorref3_Mod_j1 at h
  refine seqI ?_
  refine regI ?_
  refine retI ?_
  cases h
  exact And.intro trivial (And.intro rfl (Vw.same _ rfl))

noncomputable def S_glossatorref3_Mod (m : Option Nat) (a0 : Int) (a1 : Int) : Option Int :=
  if a1 ≠ 0 then
  if (decide ((a0.tmod a1) < 0)) = true then
    S_glossatorref3_Mod_j1 m (W ((a0.tmod a1) + a1))
  else
    S_glossatorref3_Mod_j1 m (a0.tmod a1)
  else none

theorem f17_start {a0 : Int} {a1 : Int} {m : Option Nat} {o : Int} (h : S_glossatorref3_Mod m a0 a1 = some o) : LWp Try.prog f17_lay 0 f17_c1 (f17_Q a0 a1 o) (initEnv 0 [.int .i64 a0, .int .i64 a1]) [] 0 := by
  unfold S_glossatorref3_Mod at h
  refine seqI ?_
  refine regI ?_
  refine seqI ?_
  refine regI ?_
  obtain ⟨h1, h⟩ := ite_some h
  refine And.intro h1 ?_
  refine seqI ?_
  refine seqI ?_
  refine regI ?_
  refine condI (v := (decide ((a0.tmod a1) < 0))) rfl trivial (fun h2 => ?_) (fun h2 => ?_)
  · have h := ite_tt h2 h
    refine regI ?_
    refine LWp.sim ?_ (f17_j1_ok h)
    exact simI (M := []) rfl (And.intro (Vw.same _ rfl) trivial) trivial
  · have h := ite_ff h2 h
    refine skipI ?_
    refine LWp.sim ?_ (f17_j1_ok h)
    exact simI (M := []) rfl (And.intro (Vw.same _ rfl) trivial) trivial

theorem f17_ok {a0 : Int} {a1 : Int} {m : Option Nat} {o : Int} (h : S_glossatorref3_Mod m a0 a1 = some o) : PFn Try.prog 17 [.int .i64 a0, .int .i64 a1] (.int .i64 o) := PFn.ofFnW (L := f17_L) f17_low f17_fok (Nat.le_of_ble_eq_true rfl) rfl (f17_start h)

def f16b0_c0 : LCode := (.seq (.region [⟨some 2, .box (.t 0), none⟩,
   ⟨some 3, .alloc [(.isl 1 [] true), (.str [])], none⟩])
 (.seq (.seq (.region [⟨some 4, .load false 1 (.t 1), none⟩,
   ⟨some 5, .len false (.t 4), none⟩,
   ⟨some 6, .bin .eql (.t 5) (.c (.int .i64 0)), none⟩])
 (.cond (.t 6)
  (.seq (.region [⟨some 7, .build [(.isl 1 [] true), (.str [])] [], none⟩,
    ⟨none, .store 2 (.t 3) (.t 7), none⟩])
  .ret)
  .skip))
 (.seq (.draw [⟨⟨some 8, .load false 1 (.t 1), none⟩, []⟩,
   ⟨⟨some 9, .faddr 0 (.t 2), none⟩, []⟩,
   ⟨⟨some 10, .load false 1 (.t 9), none⟩, []⟩,
   ⟨⟨some 11, .bin .mul (.t 10) (.c (.int .i64 7)), none⟩, []⟩,
   ⟨⟨some 12, .faddr 1 (.t 2), none⟩, []⟩,
   ⟨⟨some 13, .load false 1 (.t 12), none⟩, []⟩,
   ⟨⟨some 14, .bin .add (.t 11) (.t 13), none⟩, []⟩,
   ⟨⟨some 15, .load false 1 (.t 1), none⟩, []⟩,
   ⟨⟨some 16, .len false (.t 15), none⟩, []⟩,
   ⟨⟨some 17, .call 17 [(.t 14), (.t 16)], none⟩, [0]⟩,
   ⟨⟨some 18, .iaddr 2 (.t 8) (.t 17), none⟩, []⟩,
   ⟨⟨some 19, .load true 2 (.t 18), none⟩, []⟩,
   ⟨⟨none, .store 2 (.t 3) (.t 19), none⟩, []⟩])
 .ret)))
def f16b0_lay : Lay := ⟨20, [], false⟩
def f16b0_res : List LRes := [.cell 3 true 2]
def f16b0_L : LFn := ⟨2, f16b0_lay, f16b0_c0, f16b0_res⟩
theorem f16b0_low : lowFn Try.prog [] 16 = some f16b0_L := by kernel_rfl
theorem f16b0_fok : FnOk Try.prog 16 := ⟨_, Try.func16, rfl, rfl⟩
noncomputable def S_glossatorlaw3_QuerylangCompile_1 (m : Option Nat) (a0 : G_QKey) (a1 : List G_QValue) : Option G_QValue :=
  if (((a1.map e_QValue).length : Int) == 0) = true then
    some (G_QValue.mk ([] : List Int) ([] : List UInt8))
  else
    (S_glossatorref3_Mod m (W ((W (a0.f_Kind * 7)) + a0.f_A)) ((a1.map e_QValue).length : Int)).bind fun v1 =>
    if (0 : Int) ≤ v1 ∧ v1 < ((a1.map e_QValue).length : Int) then
    some (G_QValue.mk ((a1.getD v1.toNat default).f_Nums) ((a1.getD v1.toNat default).f_Text))
    else none

def f16b0_Q (a0 : G_QKey) (a1 : List G_QValue) (o : G_QValue) : Exit → Env → AHeap → Nat → Prop := FinK f16b0_res (FinTo 3 3 (.agg [.isl 1 (o.f_Nums.map e_i64) false, .str o.f_Text]) [((0, 0), .one [.isl 2 (a1.map e_QValue) false])])

theorem f16b0_start {a0 : G_QKey} {a1 : List G_QValue} {m : Option Nat} {o : G_QValue} (h : S_glossatorlaw3_QuerylangCompile_1 m a0 a1 = some o) : LWp Try.prog f16b0_lay 3 f16b0_c0 (f16b0_Q a0 a1 o) (initEnv 0 [.agg [.int .i64 a0.f_Kind, .int .i64 a0.f_A, .int .i64 a0.f_B], .ptr (0, 0) 0 0]) [((0, 0), .one [.isl 2 (a1.map e_QValue) false])] 3 := by
  unfold S_glossatorlaw3_QuerylangCompile_1 at h
  refine seqI ?_
  refine regI ?_
  refine seqI ?_
  refine seqI ?_
  refine regI ?_
  refine condI (v := (((a1.map e_QValue).length : Int) == 0)) rfl trivial (fun h1 => ?_) (fun h1 => ?_)
  · have h := ite_tt h1 h
    refine seqI ?_
    refine regI ?_
    refine retI ?_
    cases h
    exact And.intro (And.intro trivial (And.intro rfl (Nat.le_of_ble_eq_true rfl))) (finI (n' := 5) [] [] rfl rfl (Vw.aggL (And.intro (Vw.islF _ _ _) (And.intro (Vw.same _ rfl) trivial))) (And.intro (And.intro rfl (BVw.oneL (And.intro (Vw.same _ rfl) trivial))) trivial))
  · have h := ite_ff h1 h
    refine skipI ?_
    refine seqI ?_
    refine drawI ?_
    obtain ⟨v1, h2, h⟩ := bind_some h
    refine PFn.call (f17_ok h2) (And.intro (Vw.same _ rfl) (And.intro (Vw.same _ rfl) trivial)) ?_
    refine And.intro rfl ?_
    obtain ⟨h3, h⟩ := ite_some h
    refine And.intro h3 ?_
    show yd _ _ _ _ _ [(18, .iptr 2 (a1.map e_QValue) v1.toNat 0), (17, .int .i64 v1), (16, .int .i64 ((a1.map e_QValue).length : Int)), (15, .isl 2 (a1.map e_QValue) false), (14, .int .i64 (W ((W (a0.f_Kind * 7)) + a0.f_A))), (13, .int .i64 a0.f_A), (12, .ptr (3, 0) 0 1), (11, .int .i64 (W (a0.f_Kind * 7))), (10, .int .i64 a0.f_Kind), (9, .ptr (3, 0) 0 0), (8, .isl 2 (a1.map e_QValue) false), (6, .bool (((a1.map e_QValue).length : Int) == 0)), (5, .int .i64 ((a1.map e_QValue).length : Int)), (4, .isl 2 (a1.map e_QValue) false), (3, .ptr (4, 0) 0 0), (2, .ptr (3, 0) 0 0), (0, .agg [.int .i64 a0.f_Kind, .int .i64 a0.f_A, .int .i64 a0.f_B]), (1, .ptr (0, 0) 0 0)] _ _
    refine Exists.intro (e_QValue (a1.getD v1.toNat default)) (And.intro (getD_enc e_QValue _ _ (idx_ltL e_QValue h3)) (And.intro (And.intro (idx_lt h3) (Nat.le_of_ble_eq_true rfl)) ?_))
    refine LWp.sim (e := [(3, .ptr (3, 0) 0 0)]) (L := [((0, 0), .one [.isl 2 (a1.map e_QValue) false]), ((3, 0), .one [.isl 1 (((a1.getD v1.toNat default).f_Nums).map e_i64) false, .str ((a1.getD v1.toNat default).f_Text)])]) (n := 4) ?_ ?_
    · exact simI (M := [((3, 0), (4, 0))]) rfl (And.intro (Vw.ptr _ _ _ _ rfl) trivial) (And.intro (And.intro rfl (BVw.oneL (And.intro (Vw.same _ rfl) trivial))) (And.intro (And.intro rfl (BVw.oneL (And.intro (Vw.same _ rfl) (And.intro (Vw.same _ rfl) trivial)))) trivial))
    refine retI ?_
    cases h
    exact And.intro (And.intro trivial (And.intro rfl (Nat.le_of_ble_eq_true rfl))) (finI (n' := 4) [] [] rfl rfl (Vw.same _ rfl) (And.intro (And.intro rfl (BVw.oneL (And.intro (Vw.same _ rfl) trivial))) trivial))

theorem f16b0_ok {a0 : G_QKey} {a1 : List G_QValue} {m : Option Nat} {o : G_QValue} (h : S_glossatorlaw3_QuerylangCompile_1 m a0 a1 = some o) : ACalls Try.prog 16 [.agg [.int .i64 a0.f_Kind, .int .i64 a0.f_A, .int .i64 a0.f_B], .ptr (0, 0) 0 0] [((0, 0), .one [.isl 2 (a1.map e_QValue) false])] 3 (Gives 3 (.agg [.isl 1 (o.f_Nums.map e_i64) false, .str o.f_Text]) [((0, 0), .one [.isl 2 (a1.map e_QValue) false])]) := bfn_of (L := f16b0_L) f16b0_low f16b0_fok (Nat.le_of_ble_eq_true rfl) (f16b0_start h)

def f19c0_c0 : LCode := (.seq (.region [⟨some 3, .box (.t 0), none⟩,
   ⟨some 4, .alloc [(.isl 1 [] true), (.str [])], none⟩])
 (.seq (.region [⟨some 5, .load false 1 (.t 1), none⟩,
   ⟨some 6, .load true 3 (.t 3), none⟩,
   ⟨some 7, .mkSl true 3 [(.int .i64 0), (.int .i64 0), (.int .i64 0)] 1 [(0, (.t 6))], none⟩,
   ⟨some 8, .app false 3 24 (.t 5) (.t 7), none⟩,
   ⟨none, .store 1 (.t 1) (.t 8), none⟩])
 (.seq (.region [⟨some 9, .load false 1 (.t 2), none⟩,
   ⟨some 10, .load true 3 (.t 3), none⟩,
   ⟨some 11, .callv (.t 9) [(.t 10)], none⟩,
   ⟨none, .store 2 (.t 4) (.t 11), none⟩])
 .ret)))
def f19c0_lay : Lay := ⟨12, [8], false⟩
def f19c0_res : List LRes := [.cell 4 true 2]
def f19c0_L : LFn := ⟨3, f19c0_lay, f19c0_c0, f19c0_res⟩
theorem f19c0_low : lowFn Try.prog [8] 19 = some f19c0_L := by kernel_rfl
theorem f19c0_fok : FnOk Try.prog 19 := ⟨_, Try.func19, rfl, rfl⟩
noncomputable def S_glossatorlaw3_QuerylangCompile_2c (m : Option Nat) (a0 : List G_QKey) (a1 : List G_QValue) (a2 : G_QKey) : Option (G_QValue × (List G_QKey)) :=
  if ((a0 ++ ([a2] : List G_QKey)).map e_QKey).length * 24 ≤ 140737488355328 then
  (S_glossatorlaw3_QuerylangCompile_1 m a2 a1).bind fun v1 =>
  some (v1, (a0 ++ ([a2] : List G_QKey)))
  else none

def f19c0_Q (a0 : List G_QKey) (a1 : List G_QValue) (a2 : G_QKey) (o : G_QValue × (List G_QKey)) : Exit → Env → AHeap → Nat → Prop := FinK f19c0_res (FinTo 3 4 (.agg [.isl 1 (o.1.f_Nums.map e_i64) false, .str o.1.f_Text]) [((1, 0), .one [.msl (3, 0) 3 0 o.2.length false]), ((1, 1), .one [.fn (.func 16) [] [.ptr (1, 2) 0 0]]), ((1, 2), .one [.isl 2 (a1.map e_QValue) false]), ((3, 0), .rows 3 (o.2.map e_QKey))])

theorem f19c0_start {a0 : List G_QKey} {a1 : List G_QValue} {a2 : G_QKey} {m : Option Nat} {o : G_QValue × (List G_QKey)} (h : S_glossatorlaw3_QuerylangCompile_2c m a0 a1 a2 = some o) : LWp Try.prog f19c0_lay 3 f19c0_c0 (f19c0_Q a0 a1 a2 o) (initEnv 0 [.agg [.int .i64 a2.f_Kind, .int .i64 a2.f_A, .int .i64 a2.f_B], .ptr (1, 0) 0 0, .ptr (1, 1) 0 0]) [((1, 0), .one [.msl (2, 0) 3 0 a0.length false]), ((1, 1), .one [.fn (.func 16) [] [.ptr (1, 2) 0 0]]), ((1, 2), .one [.isl 2 (a1.map e_QValue) false]), ((2, 0), .rows 3 (a0.map e_QKey))] 3 := by
  unfold S_glossatorlaw3_QuerylangCompile_2c at h
  refine seqI ?_
  refine regI ?_
  refine seqI ?_
  refine regI ?_
  obtain ⟨h1, h⟩ := ite_some h
  refine And.intro (fun h => Bool.noConfusion h) (And.intro (lenW e_QKey (by first | rfl | simp)) (Exists.intro ((a0 ++ ([a2] : List G_QKey)).map e_QKey) (And.intro (appW e_QKey a0 ([a2] : List G_QKey) (by first | rfl | simp)) (And.intro h1 ?_))))
  refine seqI ?_
  refine regI ?_
  obtain ⟨v1, h2, h⟩ := bind_some h
  refine bcall (k := 3) (m := 0) (L' := [((1, 2), .one [.isl 2 (a1.map e_QValue) false])]) (rest := [((5, 0), .rows 3 ((a0 ++ ([a2] : List G_QKey)).map e_QKey)), ((4, 0), .one [.isl 1 (([] : List Int).map e_i64) true, .str ([] : List UInt8)]), ((3, 0), .one [.int .i64 a2.f_Kind, .int .i64 a2.f_A, .int .i64 a2.f_B]), ((1, 0), .one [.msl (5, 0) 3 0 (((a0 ++ ([a2] : List G_QKey)).map e_QKey).length) false]), ((1, 1), .one [.fn (.func 16) [] [.ptr (1, 2) 0 0]])]) (R' := .agg [.isl 1 (v1.f_Nums.map e_i64) false, .str v1.f_Text]) [((0, 0), (1, 2))] (f16b0_ok h2) rfl rfl rfl (And.intro (Vw.same _ rfl) (And.intro (Vw.ptr _ _ _ _ rfl) trivial)) (And.intro (h0I (1, 2) rfl rfl (BVw.oneL (And.intro (Vw.same _ rfl) trivial))) trivial) (nid_ren _ rfl) (And.intro rfl (And.intro rfl trivial)) rfl ?_
  show yops _ _ _ [(11, .agg [.isl 1 (v1.f_Nums.map e_i64) false, .str v1.f_Text]), (10, .agg [.int .i64 a2.f_Kind, .int .i64 a2.f_A, .int .i64 a2.f_B]), (9, .fn (.func 16) [] [.ptr (1, 2) 0 0]), (8, .msl (5, 0) 3 0 (((a0 ++ ([a2] : List G_QKey)).map e_QKey).length) false), (7, .isl 3 (([a2] : List G_QKey).map e_QKey) true), (6, .agg [.int .i64 a2.f_Kind, .int .i64 a2.f_A, .int .i64 a2.f_B]), (5, .msl (2, 0) 3 0 a0.length false), (4, .ptr (4, 0) 0 0), (3, .ptr (3, 0) 0 0), (0, .agg [.int .i64 a2.f_Kind, .int .i64 a2.f_A, .int .i64 a2.f_B]), (1, .ptr (1, 0) 0 0), (2, .ptr (1, 1) 0 0)] _ _
  refine LWp.sim (e := [(4, .ptr (3, 0) 0 0)]) (L := [((1, 0), .one [.msl (4, 0) 3 0 (((a0 ++ ([a2] : List G_QKey)).map e_QKey).length) false]), ((1, 1), .one [.fn (.func 16) [] [.ptr (1, 2) 0 0]]), ((1, 2), .one [.isl 2 (a1.map e_QValue) false]), ((3, 0), .one [.isl 1 (v1.f_Nums.map e_i64) false, .str v1.f_Text]), ((4, 0), .rows 3 ((a0 ++ ([a2] : List G_QKey)).map e_QKey))]) (n := 5) ?_ ?_
  · exact simI (M := [((3, 0), (4, 0)), ((4, 0), (5, 0))]) rfl (And.intro (Vw.ptr _ _ _ _ rfl) trivial) (And.intro (And.intro rfl (BVw.oneL (And.intro (Vw.mslE rfl (by first | rfl | simp) rfl) trivial))) (And.intro (And.intro rfl (BVw.oneL (And.intro (Vw.fnL trivial (And.intro (Vw.ptr _ _ _ _ rfl) trivial)) trivial))) (And.intro (And.intro rfl (BVw.oneL (And.intro (Vw.same _ rfl) trivial))) (And.intro (And.intro rfl (BVw.oneL (And.intro (Vw.same _ rfl) (And.intro (Vw.same _ rfl) trivial)))) (And.intro (And.intro rfl (BVw.enc e_QKey (fun _ => rfl) _ (a0 ++ ([a2] : List G_QKey)))) trivial)))))
  refine retI ?_
  cases h
  exact And.intro (And.intro trivial (And.intro rfl (Nat.le_of_ble_eq_true rfl))) (finI (n' := 5) [((3, 0), (4, 0))] [] rfl rfl (Vw.same _ rfl) (And.intro (And.intro rfl (BVw.oneL (And.intro (Vw.mslE rfl (by first | rfl | simp) rfl) trivial))) (And.intro (And.intro rfl (BVw.oneL (And.intro (Vw.fnL trivial (And.intro (Vw.ptr _ _ _ _ rfl) trivial)) trivial))) (And.intro (And.intro rfl (BVw.oneL (And.intro (Vw.same _ rfl) trivial))) (And.intro (And.intro rfl (BVw.enc e_QKey (fun _ => rfl) _ (a0 ++ ([a2] : List G_QKey)))) trivial)))))

theorem f19c0_ok {a0 : List G_QKey} {a1 : List G_QValue} {a2 : G_QKey} {m : Option Nat} {o : G_QValue × (List G_QKey)} (h : S_glossatorlaw3_QuerylangCompile_2c m a0 a1 a2 = some o) : ACalls Try.prog 19 [.agg [.int .i64 a2.f_Kind, .int .i64 a2.f_A, .int .i64 a2.f_B], .ptr (1, 0) 0 0, .ptr (1, 1) 0 0] [((1, 0), .one [.msl (2, 0) 3 0 a0.length false]), ((1, 1), .one [.fn (.func 16) [] [.ptr (1, 2) 0 0]]), ((1, 2), .one [.isl 2 (a1.map e_QValue) false]), ((2, 0), .rows 3 (a0.map e_QKey))] 3 (Gives 4 (.agg [.isl 1 (o.1.f_Nums.map e_i64) false, .str o.1.f_Text]) [((1, 0), .one [.msl (3, 0) 3 0 o.2.length false]), ((1, 1), .one [.fn (.func 16) [] [.ptr (1, 2) 0 0]]), ((1, 2), .one [.isl 2 (a1.map e_QValue) false]), ((3, 0), .rows 3 (o.2.map e_QKey))]) := bfn_of (L := f19c0_L) f19c0_low f19c0_fok (Nat.le_of_ble_eq_true rfl) (f19c0_start h)

def f19b0_c0 : LCode := (.seq (.region [⟨some 3, .box (.t 0), none⟩,
   ⟨some 4, .alloc [(.isl 1 [] true), (.str [])], none⟩])
 (.seq (.region [⟨some 5, .load false 1 (.t 1), none⟩,
   ⟨some 6, .load true 3 (.t 3), none⟩,
   ⟨some 7, .mkSl true 3 [(.int .i64 0), (.int .i64 0), (.int .i64 0)] 1 [(0, (.t 6))], none⟩,
   ⟨some 8, .app false 3 24 (.t 5) (.t 7), none⟩,
   ⟨none, .store 1 (.t 1) (.t 8), none⟩])
 (.seq (.region [⟨some 9, .load false 1 (.t 2), none⟩,
   ⟨some 10, .load true 3 (.t 3), none⟩,
   ⟨some 11, .callv (.t 9) [(.t 10)], none⟩,
   ⟨none, .store 2 (.t 4) (.t 11), none⟩])
 .ret)))
def f19b0_lay : Lay := ⟨12, [8], false⟩
def f19b0_res : List LRes := [.cell 4 true 2]
def f19b0_L : LFn := ⟨3, f19b0_lay, f19b0_c0, f19b0_res⟩
theorem f19b0_low : lowFn Try.prog [8] 19 = some f19b0_L := by kernel_rfl
theorem f19b0_fok : FnOk Try.prog 19 := ⟨_, Try.func19, rfl, rfl⟩
noncomputable def S_glossatorlaw3_QuerylangCompile_2 (m : Option Nat) (a0 : G_QKey) (a1 : List G_QKey) (a2 : List G_QValue) : Option (G_QValue × (List G_QKey)) :=
  if ((a1 ++ ([a0] : List G_QKey)).map e_QKey).length * 24 ≤ 140737488355328 then
  (S_glossatorlaw3_QuerylangCompile_1 m a0 a2).bind fun v1 =>
  some (v1, (a1 ++ ([a0] : List G_QKey)))
  else none

def f19b0_Q (a0 : G_QKey) (a1 : List G_QKey) (a2 : List G_QValue) (o : G_QValue × (List G_QKey)) : Exit → Env → AHeap → Nat → Prop := FinK f19b0_res (FinTo 3 4 (.agg [.isl 1 (o.1.f_Nums.map e_i64) false, .str o.1.f_Text]) [((0, 0), .one [.msl (3, 0) 3 0 o.2.length false]), ((0, 1), .one [.fn (.func 16) [] [.ptr (0, 3) 0 0]]), ((0, 3), .one [.isl 2 (a2.map e_QValue) false]), ((3, 0), .rows 3 (o.2.map e_QKey))])

theorem f19b0_start {a0 : G_QKey} {a1 : List G_QKey} {a2 : List G_QValue} {m : Option Nat} {o : G_QValue × (List G_QKey)} (h : S_glossatorlaw3_QuerylangCompile_2 m a0 a1 a2 = some o) : LWp Try.prog f19b0_lay 3 f19b0_c0 (f19b0_Q a0 a1 a2 o) (initEnv 0 [.agg [.int .i64 a0.f_Kind, .int .i64 a0.f_A, .int .i64 a0.f_B], .ptr (0, 0) 0 0, .ptr (0, 1) 0 0]) [((0, 0), .one [.msl (0, 2) 3 0 a1.length false]), ((0, 1), .one [.fn (.func 16) [] [.ptr (0, 3) 0 0]]), ((0, 2), .rows 3 (a1.map e_QKey)), ((0, 3), .one [.isl 2 (a2.map e_QValue) false])] 3 := by
  unfold S_glossatorlaw3_QuerylangCompile_2 at h
  refine seqI ?_
  refine regI ?_
  refine seqI ?_
  refine regI ?_
  obtain ⟨h1, h⟩ := ite_some h
  refine And.intro (fun h => Bool.noConfusion h) (And.intro (lenW e_QKey (by first | rfl | simp)) (Exists.intro ((a1 ++ ([a0] : List G_QKey)).map e_QKey) (And.intro (appW e_QKey a1 ([a0] : List G_QKey) (by first | rfl | simp)) (And.intro h1 ?_))))
  refine seqI ?_
  refine regI ?_
  obtain ⟨v1, h2, h⟩ := bind_some h
  refine bcall (k := 3) (m := 0) (L' := [((0, 3), .one [.isl 2 (a2.map e_QValue) false])]) (rest := [((5, 0), .rows 3 ((a1 ++ ([a0] : List G_QKey)).map e_QKey)), ((4, 0), .one [.isl 1 (([] : List Int).map e_i64) true, .str ([] : List UInt8)]), ((3, 0), .one [.int .i64 a0.f_Kind, .int .i64 a0.f_A, .int .i64 a0.f_B]), ((0, 0), .one [.msl (5, 0) 3 0 (((a1 ++ ([a0] : List G_QKey)).map e_QKey).length) false]), ((0, 1), .one [.fn (.func 16) [] [.ptr (0, 3) 0 0]])]) (R' := .agg [.isl 1 (v1.f_Nums.map e_i64) false, .str v1.f_Text]) [((0, 0), (0, 3))] (f16b0_ok h2) rfl rfl rfl (And.intro (Vw.same _ rfl) (And.intro (Vw.ptr _ _ _ _ rfl) trivial)) (And.intro (h0I (0, 3) rfl rfl (BVw.oneL (And.intro (Vw.same _ rfl) trivial))) trivial) (nid_ren _ rfl) (And.intro rfl (And.intro rfl trivial)) rfl ?_
  show yops _ _ _ [(11, .agg [.isl 1 (v1.f_Nums.map e_i64) false, .str v1.f_Text]), (10, .agg [.int .i64 a0.f_Kind, .int .i64 a0.f_A, .int .i64 a0.f_B]), (9, .fn (.func 16) [] [.ptr (0, 3) 0 0]), (8, .msl (5, 0) 3 0 (((a1 ++ ([a0] : List G_QKey)).map e_QKey).length) false), (7, .isl 3 (([a0] : List G_QKey).map e_QKey) true), (6, .agg [.int .i64 a0.f_Kind, .int .i64 a0.f_A, .int .i64 a0.f_B]), (5, .msl (0, 2) 3 0 a1.length false), (4, .ptr (4, 0) 0 0), (3, .ptr (3, 0) 0 0), (0, .agg [.int .i64 a0.f_Kind, .int .i64 a0.f_A, .int .i64 a0.f_B]), (1, .ptr (0, 0) 0 0), (2, .ptr (0, 1) 0 0)] _ _
  refine LWp.sim (e := [(4, .ptr (3, 0) 0 0)]) (L := [((0, 0), .one [.msl (4, 0) 3 0 (((a1 ++ ([a0] : List G_QKey)).map e_QKey).length) false]), ((0, 1), .one [.fn (.func 16) [] [.ptr (0, 3) 0 0]]), ((0, 3), .one [.isl 2 (a2.map e_QValue) false]), ((3, 0), .one [.isl 1 (v1.f_Nums.map e_i64) false, .str v1.f_Text]), ((4, 0), .rows 3 ((a1 ++ ([a0] : List G_QKey)).map e_QKey))]) (n := 5) ?_ ?_
  · exact simI (M := [((3, 0), (4, 0)), ((4, 0), (5, 0))]) rfl (And.intro (Vw.ptr _ _ _ _ rfl) trivial) (And.intro (And.intro rfl (BVw.oneL (And.intro (Vw.mslE rfl (by first | rfl | simp) rfl) trivial))) (And.intro (And.intro rfl (BVw.oneL (And.intro (Vw.fnL trivial (And.intro (Vw.ptr _ _ _ _ rfl) trivial)) trivial))) (And.intro (And.intro rfl (BVw.oneL (And.intro (Vw.same _ rfl) trivial))) (And.intro (And.intro rfl (BVw.oneL (And.intro (Vw.same _ rfl) (And.intro (Vw.same _ rfl) trivial)))) (And.intro (And.intro rfl (BVw.enc e_QKey (fun _ => rfl) _ (a1 ++ ([a0] : List G_QKey)))) trivial)))))
  refine retI ?_
  cases h
  exact And.intro (And.intro trivial (And.intro rfl (Nat.le_of_ble_eq_true rfl))) (finI (n' := 5) [((3, 0), (4, 0))] [] rfl rfl (Vw.same _ rfl) (And.intro (And.intro rfl (BVw.oneL (And.intro (Vw.mslE rfl (by first | rfl | simp) rfl) trivial))) (And.intro (And.intro rfl (BVw.oneL (And.intro (Vw.fnL trivial (And.intro (Vw.ptr _ _ _ _ rfl) trivial)) trivial))) (And.intro (And.intro rfl (BVw.oneL (And.intro (Vw.same _ rfl) trivial))) (And.intro (And.intro rfl (BVw.enc e_QKey (fun _ => rfl) _ (a1 ++ ([a0] : List G_QKey)))) trivial)))))

theorem f19b0_ok {a0 : G_QKey} {a1 : List G_QKey} {a2 : List G_QValue} {m : Option Nat} {o : G_QValue × (List G_QKey)} (h : S_glossatorlaw3_QuerylangCompile_2 m a0 a1 a2 = some o) : ACalls Try.prog 19 [.agg [.int .i64 a0.f_Kind, .int .i64 a0.f_A, .int .i64 a0.f_B], .ptr (0, 0) 0 0, .ptr (0, 1) 0 0] [((0, 0), .one [.msl (0, 2) 3 0 a1.length false]), ((0, 1), .one [.fn (.func 16) [] [.ptr (0, 3) 0 0]]), ((0, 2), .rows 3 (a1.map e_QKey)), ((0, 3), .one [.isl 2 (a2.map e_QValue) false])] 3 (Gives 4 (.agg [.isl 1 (o.1.f_Nums.map e_i64) false, .str o.1.f_Text]) [((0, 0), .one [.msl (3, 0) 3 0 o.2.length false]), ((0, 1), .one [.fn (.func 16) [] [.ptr (0, 3) 0 0]]), ((0, 3), .one [.isl 2 (a2.map e_QValue) false]), ((3, 0), .rows 3 (o.2.map e_QKey))]) := bfn_of (L := f19b0_L) f19b0_low f19b0_fok (Nat.le_of_ble_eq_true rfl) (f19b0_start h)

end Go.Proofs.Ytjbndlijmgnpnaa
