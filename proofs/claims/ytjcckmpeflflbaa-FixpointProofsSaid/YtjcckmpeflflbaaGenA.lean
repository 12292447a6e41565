/-
  Own text GenA of this claim.
-/
import Derived.Test.YtjcckmpeflflbaaChecked
import Derived.Test.YtjcckmpeflflbaaFxGr
import Derived.Test.YtjcckmpeflflbaaFxMg
import Derived.Test.YtjcckmpeflflbaaFxU
import Derived.Test.YtjcckmpeflflbaaFxP
import Derived.KernelRfl
namespace Go.Proofs.Ytjcckmpeflflbaa
open Go.Fx
set_option linter.unusedVariables false
theorem AI {a b : Prop} (x : a) (y : b) : a ∧ b := ⟨x, y⟩
theorem VS {F : Go.Fx.Id → Bool} {H : AHeap} {ρ : Go.Fx.Id → Option Go.Fx.Id} {n : Nat} {x : AVal} (h : x.nid = true) : Vw F H ρ n x x := .same x h
theorem NB {a b : Nat} (h : Nat.ble a b = true) : a ≤ b := Nat.le_of_ble_eq_true h
theorem TT : True := True.intro
universe u
theorem EX {α : Sort u} {p : α → Prop} (w : α) (h : p w) : Exists p := ⟨w, h⟩
structure G_QRule where
  f_Mask : Int
  f_All : List Int
instance : Inhabited G_QRule := ⟨(G_QRule.mk 0 [])⟩
structure G_QDerivation where
  f_Set : Int
  f_Rule : Int
  f_Element : Int
instance : Inhabited G_QDerivation := ⟨(G_QDerivation.mk 0 0 0)⟩
def e_i64 (x : Int) : List AVal := [.int .i64 x]
def e_QRule (x : G_QRule) : List AVal := [.int .i64 x.f_Mask, .isl 1 (x.f_All.map e_i64) false]
def eB (x : List G_QRule) : List AVal := [.isl 2 (x.map e_QRule) false]
def eD (x : G_QDerivation) : List AVal := [.int .i64 x.f_Set, .int .i64 x.f_Rule, .int .i64 x.f_Element]
def e_sl_i64 (x : List Int) : List AVal := [.isl 1 (x.map e_i64) false]
def e_bool (x : Bool) : List AVal := [.bool x]
def e_sl_bool (x : List Bool) : List AVal := [.isl 1 (x.map e_bool) false]
def eE (x : List G_QDerivation) : List AVal := [.isl 3 (x.map eD) false]
theorem e_i64_ok (x : Int) : AVal.nid.nidL (e_i64 x) = true ∧ ∀ y ∈ e_i64 x, y.imm = some y := ⟨rfl, by simp [e_i64, AVal.imm]⟩
theorem e_QRule_ok (x : G_QRule) : AVal.nid.nidL (e_QRule x) = true ∧ ∀ y ∈ e_QRule x, y.imm = some y := ⟨rfl, by simp [e_QRule, AVal.imm]⟩
theorem eB_ok (x : List G_QRule) : AVal.nid.nidL (eB x) = true ∧ ∀ y ∈ eB x, y.imm = some y := ⟨rfl, by simp [eB, AVal.imm]⟩
theorem eD_ok (x : G_QDerivation) : AVal.nid.nidL (eD x) = true ∧ ∀ y ∈ eD x, y.imm = some y := ⟨rfl, by simp [eD, AVal.imm]⟩
theorem e_sl_i64_ok (x : List Int) : AVal.nid.nidL (e_sl_i64 x) = true ∧ ∀ y ∈ e_sl_i64 x, y.imm = some y := ⟨rfl, by simp [e_sl_i64, AVal.imm]⟩
theorem e_bool_ok (x : Bool) : AVal.nid.nidL (e_bool x) = true ∧ ∀ y ∈ e_bool x, y.imm = some y := ⟨rfl, by simp [e_bool, AVal.imm]⟩
theorem e_sl_bool_ok (x : List Bool) : AVal.nid.nidL (e_sl_bool x) = true ∧ ∀ y ∈ e_sl_bool x, y.imm = some y := ⟨rfl, by simp [e_sl_bool, AVal.imm]⟩
theorem eE_ok (x : List G_QDerivation) : AVal.nid.nidL (eE x) = true ∧ ∀ y ∈ eE x, y.imm = some y := ⟨rfl, by simp [eE, AVal.imm]⟩
def f30c0_c0 : LCode := (.seq (.region [⟨some 1, .box (.t 0), none⟩,
   ⟨some 2, .mv (.c (.bool false)), none⟩])
 (.seq (.region [⟨some 3, .faddr 1 (.t 1), none⟩,
   ⟨some 4, .load false 1 (.t 3), none⟩,
   ⟨some 5, .len false (.t 4), none⟩,
   ⟨some 6, .bin .gtr (.t 5) (.c (.int .i64 60)), none⟩,
   ⟨some 2, .mv (.t 6), none⟩])
 .ret))
def f30c0_lay : Lay := ⟨7, [], false⟩
def f30c0_res : List LRes := [.t 2]
def f30c0_L : LFn := ⟨1, f30c0_lay, f30c0_c0, f30c0_res⟩
theorem f30c0_low : lowFn Try.prog [] 30 = some f30c0_L := by kernel_rfl
theorem f30c0_fok : FnOk Try.prog 30 := ⟨_, Try.func30, rfl, rfl⟩
noncomputable def S_fixpoint_Check_1c (m : Option Nat) (a0 : G_QRule) : Option Bool :=
  some (decide (((a0.f_All.map e_i64).length : Int) > 60))

def f30c0_Q (a0 : G_QRule) (o : Bool) : Exit → Env → AHeap → Nat → Prop := FinK f30c0_res (FinTo 3 4 (.bool o) [])

theorem f30c0_start {a0 : G_QRule} {m : Option Nat} {o : Bool} (h : S_fixpoint_Check_1c m a0 = some o) : LWp Try.prog f30c0_lay 3 f30c0_c0 (f30c0_Q a0 o) (initEnv 0 [.agg [.int .i64 a0.f_Mask, .isl 1 (a0.f_All.map e_i64) false]]) [] 3 := by
  unfold S_fixpoint_Check_1c at h
  refine seqI ?_
  refine regI ?_
  refine seqI ?_
  refine regI ?_
  refine retI ?_
  cases h
  exact AI TT (finI (n' := 4) [] [] rfl rfl (VS rfl) TT)

theorem f30c0_ok {a0 : G_QRule} {m : Option Nat} {o : Bool} (h : S_fixpoint_Check_1c m a0 = some o) : ACalls Try.prog 30 [.agg [.int .i64 a0.f_Mask, .isl 1 (a0.f_All.map e_i64) false]] [] 3 (Gives 4 (.bool o) []) := bfn_of (L := f30c0_L) f30c0_low f30c0_fok (NB rfl) (f30c0_start h)

def f45b0_c1 : LCode := (.seq (.region [⟨some 9, .bin .lss (.t 8) (.t 7), none⟩])
 (.seq (.cond (.t 9)
  .skip
  (.exit 0))
 (.seq (.block 1
  (.seq (.region [⟨some 10, .mv (.t 8), none⟩,
    ⟨some 5, .mv (.t 10), none⟩])
  (.seq (.region [⟨some 11, .mv (.t 1), none⟩,
    ⟨some 12, .mv (.t 0), none⟩,
    ⟨some 13, .mv (.t 5), none⟩,
    ⟨some 14, .iaddr 2 (.t 12) (.t 13), none⟩,
    ⟨some 15, .load true 2 (.t 14), none⟩,
    ⟨some 16, .callv (.t 11) [(.t 15)], none⟩])
  (.cond (.t 16)
   (.seq (.region [⟨some 17, .mv (.t 5), none⟩,
     ⟨some 4, .mv (.t 17), none⟩])
   .ret)
   .skip))))
 (.region [⟨some 18, .bin .add (.t 8) (.c (.int .i64 1)), none⟩,
   ⟨some 8, .mv (.t 18), none⟩]))))
def f45b0_c0 : LCode := (.seq (.region [⟨some 4, .mv (.c (.int .i64 (-1))), none⟩])
 .ret)
def f45b0_c2 : LCode := (.seq (.region [⟨some 4, .mv (.c (.int .i64 0)), none⟩])
 (.seq (.seq (.region [⟨some 6, .mv (.t 0), none⟩,
   ⟨some 7, .len false (.t 6), none⟩,
   ⟨some 8, .mv (.c (.int .i64 0)), none⟩])
 (.block 0
  (.loop
   f45b0_c1)))
 f45b0_c0))
def f45b0_lay : Lay := ⟨19, [], false⟩
def f45b0_res : List LRes := [.t 4]
def f45b0_L : LFn := ⟨2, f45b0_lay, f45b0_c2, f45b0_res⟩
theorem f45b0_low : lowFn Try.prog [] 45 = some f45b0_L := by kernel_rfl
theorem f45b0_fok : FnOk Try.prog 45 := ⟨_, Try.func45, rfl, rfl⟩
def f45b0_Q {σ : Type} (Hc : σ → AHeap) (fi0 : Fn) (ff0 fc0 : List AVal) (a0 : List G_QRule) (z0 : σ) (o : Int × σ) : Exit → Env → AHeap → Nat → Prop := FinK f45b0_res (FinTo 3 4 (.int .i64 o.1) ([] ++ up 3 (Hc o.2)))

def f45b0_L1_env {σ : Type} (Hc : σ → AHeap) (fi0 : Fn) (ff0 fc0 : List AVal) (a0 : List G_QRule) (s : (Int × σ)) : Env := [(0, .isl 2 (a0.map e_QRule) false), (1, .fn fi0 ff0 fc0), (7, .int .i64 ((a0.map e_QRule).length : Int)), (8, .int .i64 s.1)]
def f45b0_L1_hp {σ : Type} (Hc : σ → AHeap) (fi0 : Fn) (ff0 fc0 : List AVal) (a0 : List G_QRule) (s : (Int × σ)) : AHeap := ([] ++ up 3 (Hc s.2))
def f45b0_L1_Q {σ : Type} (Hc : σ → AHeap) (fi0 : Fn) (ff0 fc0 : List AVal) (a0 : List G_QRule) (z0 : σ) (o : (Int × σ)) : Exit → Env → AHeap → Nat → Prop := (QBlock 0 (QSeq Try.prog f45b0_lay 3 f45b0_c0 (f45b0_Q Hc fi0 ff0 fc0 a0 z0 o)))

noncomputable def S_slices_IndexFunc_api_QRule_j1 {σ : Type} (g0 : σ → G_QRule → Option (Bool × σ)) (m : Option Nat) (v3 : σ) : Option (Int × σ) :=
  some ((-1), v3)

noncomputable def S_slices_IndexFunc_api_QRule_b1 {σ : Type} (g0 : σ → G_QRule → Option (Bool × σ)) (m : Option Nat) (a0 : List G_QRule) (v2 : Int) (v3 : σ) : Option ((Int × σ) ⊕ (Int × σ)) :=
  if (decide (v2 < ((a0.map e_QRule).length : Int))) = true then
    if (0 : Int) ≤ v2 ∧ v2 < ((a0.map e_QRule).length : Int) then
    (g0 v3 (G_QRule.mk ((a0.getD v2.toNat default).f_Mask) ((a0.getD v2.toNat default).f_All))).bind fun v5 =>
    if v5.1 = true then
      Option.map Sum.inr (
        some (v2, v5.2))
    else
      some (.inl ((W (v2 + 1)), v5.2))
    else none
  else
    Option.map Sum.inr (
      S_slices_IndexFunc_api_QRule_j1 g0 m v3)

noncomputable def S_slices_IndexFunc_api_QRule_l1 {σ : Type} (g0 : σ → G_QRule → Option (Bool × σ)) (m : Option Nat) (a0 : List G_QRule) (v2 : Int) (v3 : σ) : Option (Int × σ) := loopM m (fun (s : (Int × σ)) => S_slices_IndexFunc_api_QRule_b1 g0 m a0 s.1 s.2) (v2, v3)

theorem f45b0_j1_ok {σ : Type} {Hc : σ → AHeap} {fi0 : Fn} {ff0 fc0 : List AVal} {g0 : σ → G_QRule → Option (Bool × σ)} (hg0 : Clo Try.prog fi0 ff0 fc0 Hc (fun (x : G_QRule) => [.agg [.int .i64 x.f_Mask, .isl 1 (x.f_All.map e_i64) false]]) (fun (b : Bool) => .bool b) g0) {a0 : List G_QRule} {z0 : σ} {v3 : σ} {m : Option Nat} {o : (Int × σ)} (h : S_slices_IndexFunc_api_QRule_j1 g0 m v3 = some o) :
    LWp Try.prog f45b0_lay 3 f45b0_c0 (f45b0_Q Hc fi0 ff0 fc0 a0 z0 o) [] ([] ++ up 3 (Hc v3)) 4 := by
  unfold S_slices_IndexFunc_api_QRule_j1 at h
  refine seqI ?_
  refine regI ?_
  refine retI ?_
  cases h
  exact AI TT (finT (n' := 4) (q := 3) (lit' := []) (hg0.tl _) [] [] rfl rfl (VS rfl) TT)

theorem f45b0_L1_bok {σ : Type} {Hc : σ → AHeap} {fi0 : Fn} {ff0 fc0 : List AVal} {g0 : σ → G_QRule → Option (Bool × σ)} (hg0 : Clo Try.prog fi0 ff0 fc0 Hc (fun (x : G_QRule) => [.agg [.int .i64 x.f_Mask, .isl 1 (x.f_All.map e_i64) false]]) (fun (b : Bool) => .bool b) g0) {z0 : σ} {a0 : List G_QRule} {v2 : Int} {v3 : σ} {m : Option Nat} {o : (Int × σ) ⊕ (Int × σ)} (h : S_slices_IndexFunc_api_QRule_b1 g0 m a0 v2 v3 = some o) :
    LWp Try.prog f45b0_lay 3 f45b0_c1 (BodyQ 3 4 (f45b0_L1_env Hc fi0 ff0 fc0 a0) (f45b0_L1_hp Hc fi0 ff0 fc0 a0) (f45b0_L1_Q Hc fi0 ff0 fc0 a0 z0) o) [(0, .isl 2 (a0.map e_QRule) false), (1, .fn fi0 ff0 fc0), (7, .int .i64 ((a0.map e_QRule).length : Int)), (8, .int .i64 v2)] ([] ++ up 3 (Hc v3)) 4 := by
  unfold S_slices_IndexFunc_api_QRule_b1 at h
  refine seqI ?_
  refine regI ?_
  refine seqI ?_
  refine condI (v := (decide (v2 < ((a0.map e_QRule).length : Int)))) rfl TT (fun h9 => ?_) (fun h9 => ?_)
  · have h := ite_tt h9 h
    refine skipI ?_
    refine seqI ?_
    refine blockI ?_
    refine seqI ?_
    refine regI ?_
    refine seqI ?_
    refine regI ?_
    obtain ⟨h10, h⟩ := ite_some h
    refine AI h10 ?_
    refine EX (e_QRule (a0.getD v2.toNat default)) (AI (getD_enc e_QRule _ _ (idx_ltL e_QRule h10)) (AI (AI (idx_lt h10) (NB rfl)) ?_))
    obtain ⟨v5, h11, h⟩ := bind_some h
    refine Clo.use (q := 3) (lit := []) hg0 h11 rfl rfl (AI (VS rfl) TT) ?_
    refine LWp.sim (e := [(0, .isl 2 (a0.map e_QRule) false), (1, .fn fi0 ff0 fc0), (5, .int .i64 v2), (7, .int .i64 ((a0.map e_QRule).length : Int)), (8, .int .i64 v2), (16, .bool v5.1)]) (L := ([] ++ up 3 (Hc v5.2))) (n := 4) ?_ ?_
    · exact simT (M := []) (lit' := []) (hg0.tl _) rfl (AI (VS rfl) (AI (Vw.clo hg0.hf hg0.hc (by decide) (rhoT_1 (chkT_ok (n := 4) (q := 4) (lit' := []) rfl))) (AI (VS rfl) (AI (VS rfl) (AI (VS rfl) (AI (VS rfl) TT)))))) TT
    refine condI (v := v5.1) rfl TT (fun h12 => ?_) (fun h12 => ?_)
    · have h := ite_tt h12 h
      refine seqI ?_
      refine regI ?_
      refine retI ?_
      obtain ⟨o, hq, rfl⟩ := Option.map_eq_some_iff.1 h
      replace h := hq; clear hq
      refine AI nofun ?_
      cases h
      exact AI TT (finT (n' := 4) (q := 3) (lit' := []) (hg0.tl _) [] [] rfl rfl (VS rfl) TT)
    · have h := ite_ff h12 h
      refine skipI ?_
      refine regI ?_
      cases h
      exact AI rfl (simT (M := []) (lit' := []) (hg0.tl _) rfl (AI (VS rfl) (AI (Vw.clo hg0.hf hg0.hc (by decide) (rhoT_1 (chkT_ok (n := 4) (q := 3) (lit' := []) rfl))) (AI (VS rfl) (AI (VS rfl) TT)))) TT)
  · have h := ite_ff h9 h
    refine exitI ?_
    obtain ⟨o, hq, rfl⟩ := Option.map_eq_some_iff.1 h
    replace h := hq; clear hq
    refine AI nofun ?_
    refine LWp.sim ?_ (f45b0_j1_ok hg0 h)
    exact simT (M := []) (lit' := []) (hg0.tl _) rfl TT TT

theorem f45b0_L1_ok {σ : Type} {Hc : σ → AHeap} {fi0 : Fn} {ff0 fc0 : List AVal} {g0 : σ → G_QRule → Option (Bool × σ)} (hg0 : Clo Try.prog fi0 ff0 fc0 Hc (fun (x : G_QRule) => [.agg [.int .i64 x.f_Mask, .isl 1 (x.f_All.map e_i64) false]]) (fun (b : Bool) => .bool b) g0) {z0 : σ} {a0 : List G_QRule} {v2 : Int} {v3 : σ} {m : Option Nat} {o : (Int × σ)} (h : S_slices_IndexFunc_api_QRule_l1 g0 m a0 v2 v3 = some o) :
    LWp Try.prog f45b0_lay 3 (.loop f45b0_c1) (QBlock 0 (QSeq Try.prog f45b0_lay 3 f45b0_c0 (f45b0_Q Hc fi0 ff0 fc0 a0 z0 o))) [(0, .isl 2 (a0.map e_QRule) false), (1, .fn fi0 ff0 fc0), (7, .int .i64 ((a0.map e_QRule).length : Int)), (8, .int .i64 v2)] ([] ++ up 3 (Hc v3)) 4 :=
  LWp_loopM (m := m) (s := ((v2, v3) : (Int × σ))) (r := o) (fun (s : (Int × σ)) => S_slices_IndexFunc_api_QRule_b1 g0 m a0 s.1 s.2) (f45b0_L1_env Hc fi0 ff0 fc0 a0) (f45b0_L1_hp Hc fi0 ff0 fc0 a0) (f45b0_L1_Q Hc fi0 ff0 fc0 a0 z0) (fun s o h => f45b0_L1_bok hg0 h) h

noncomputable def S_slices_IndexFunc_api_QRule {σ : Type} (g0 : σ → G_QRule → Option (Bool × σ)) (m : Option Nat) (a0 : List G_QRule) (z0 : σ) : Option (Int × σ) :=
  S_slices_IndexFunc_api_QRule_l1 g0 m a0 0 z0

theorem f45b0_start {σ : Type} {Hc : σ → AHeap} {fi0 : Fn} {ff0 fc0 : List AVal} {g0 : σ → G_QRule → Option (Bool × σ)} (hg0 : Clo Try.prog fi0 ff0 fc0 Hc (fun (x : G_QRule) => [.agg [.int .i64 x.f_Mask, .isl 1 (x.f_All.map e_i64) false]]) (fun (b : Bool) => .bool b) g0) {a0 : List G_QRule} {z0 : σ} {m : Option Nat} {o : Int × σ} (h : S_slices_IndexFunc_api_QRule g0 m a0 z0 = some o) : LWp Try.prog f45b0_lay 3 f45b0_c2 (f45b0_Q Hc fi0 ff0 fc0 a0 z0 o) (initEnv 0 [.isl 2 (a0.map e_QRule) false, .fn fi0 ff0 fc0]) ([] ++ Hc z0) 3 := by
  unfold S_slices_IndexFunc_api_QRule at h
  refine LWp.sim (e := [(0, .isl 2 (a0.map e_QRule) false), (1, .fn fi0 ff0 fc0)]) (L := ([] ++ up 3 (Hc z0))) (n := 4) (entryT (T := Hc z0) (e' := initEnv 0 [.isl 2 (a0.map e_QRule) false, .fn fi0 ff0 fc0]) (e := [(0, .isl 2 (a0.map e_QRule) false), (1, .fn fi0 ff0 fc0)]) (lit' := []) (lit := []) (hg0.tl z0) rfl rfl (AI (VS rfl) (AI (Vw.clo hg0.hf hg0.hc (by decide) (rhoE_1 _)) TT)) TT) ?_
  refine seqI ?_
  refine regI ?_
  refine seqI ?_
  refine seqI ?_
  refine regI ?_
  refine blockI ?_
  refine LWp.sim ?_ (f45b0_L1_ok hg0 h)
  exact simT (M := []) (lit' := []) (hg0.tl _) rfl (AI (VS rfl) (AI (Vw.clo hg0.hf hg0.hc (by decide) (rhoT_1 (chkT_ok (n := 4) (q := 3) (lit' := []) rfl))) (AI (VS rfl) (AI (VS rfl) TT)))) TT

theorem f45b0_ok {σ : Type} {Hc : σ → AHeap} {fi0 : Fn} {ff0 fc0 : List AVal} {g0 : σ → G_QRule → Option (Bool × σ)} (hg0 : Clo Try.prog fi0 ff0 fc0 Hc (fun (x : G_QRule) => [.agg [.int .i64 x.f_Mask, .isl 1 (x.f_All.map e_i64) false]]) (fun (b : Bool) => .bool b) g0) {a0 : List G_QRule} {z0 : σ} {m : Option Nat} {o : Int × σ} (h : S_slices_IndexFunc_api_QRule g0 m a0 z0 = some o) : ACalls Try.prog 45 [.isl 2 (a0.map e_QRule) false, .fn fi0 ff0 fc0] ([] ++ Hc z0) 3 (Gives 4 (.int .i64 o.1) ([] ++ up 3 (Hc o.2))) := bfn_of (L := f45b0_L) f45b0_low f45b0_fok (NB rfl) (f45b0_start hg0 h)

def f29b0_c0 : LCode := (.seq (.region [⟨some 4, .mv (.c (.bool false)), none⟩])
 (.seq (.region [⟨some 5, .mv (.t 0), none⟩,
   ⟨some 6, .mv (.t 1), none⟩,
   ⟨some 7, .call 45 [(.t 5), (.t 6)], none⟩,
   ⟨some 8, .bin .geq (.t 7) (.c (.int .i64 0)), none⟩,
   ⟨some 4, .mv (.t 8), none⟩])
 .ret))
def f29b0_lay : Lay := ⟨9, [], false⟩
def f29b0_res : List LRes := [.t 4]
def f29b0_L : LFn := ⟨2, f29b0_lay, f29b0_c0, f29b0_res⟩
theorem f29b0_low : lowFn Try.prog [] 29 = some f29b0_L := by kernel_rfl
theorem f29b0_fok : FnOk Try.prog 29 := ⟨_, Try.func29, rfl, rfl⟩
noncomputable def S_slices_ContainsFunc_api_QRule {σ : Type} (g0 : σ → G_QRule → Option (Bool × σ)) (m : Option Nat) (a0 : List G_QRule) (z0 : σ) : Option (Bool × σ) :=
  (S_slices_IndexFunc_api_QRule g0 m a0 z0).bind fun v1 =>
  some ((decide (v1.1 ≥ 0)), v1.2)

def f29b0_Q {σ : Type} (Hc : σ → AHeap) (fi0 : Fn) (ff0 fc0 : List AVal) (a0 : List G_QRule) (z0 : σ) (o : Bool × σ) : Exit → Env → AHeap → Nat → Prop := FinK f29b0_res (FinTo 3 4 (.bool o.1) ([] ++ up 3 (Hc o.2)))

theorem f29b0_start {σ : Type} {Hc : σ → AHeap} {fi0 : Fn} {ff0 fc0 : List AVal} {g0 : σ → G_QRule → Option (Bool × σ)} (hg0 : Clo Try.prog fi0 ff0 fc0 Hc (fun (x : G_QRule) => [.agg [.int .i64 x.f_Mask, .isl 1 (x.f_All.map e_i64) false]]) (fun (b : Bool) => .bool b) g0) {a0 : List G_QRule} {z0 : σ} {m : Option Nat} {o : Bool × σ} (h : S_slices_ContainsFunc_api_QRule g0 m a0 z0 = some o) : LWp Try.prog f29b0_lay 3 f29b0_c0 (f29b0_Q Hc fi0 ff0 fc0 a0 z0 o) (initEnv 0 [.isl 2 (a0.map e_QRule) false, .fn fi0 ff0 fc0]) ([] ++ Hc z0) 3 := by
  unfold S_slices_ContainsFunc_api_QRule at h
  refine LWp.sim (e := [(0, .isl 2 (a0.map e_QRule) false), (1, .fn fi0 ff0 fc0)]) (L := ([] ++ up 3 (Hc z0))) (n := 4) (entryT (T := Hc z0) (e' := initEnv 0 [.isl 2 (a0.map e_QRule) false, .fn fi0 ff0 fc0]) (e := [(0, .isl 2 (a0.map e_QRule) false), (1, .fn fi0 ff0 fc0)]) (lit' := []) (lit := []) (hg0.tl z0) rfl rfl (AI (VS rfl) (AI (Vw.clo hg0.hf hg0.hc (by decide) (rhoE_1 _)) TT)) TT) ?_
  refine seqI ?_
  refine regI ?_
  refine seqI ?_
  refine regI ?_
  obtain ⟨v1, h1, h⟩ := bind_some h
  refine bcallT (m := 1) (q := 3) (lit0 := []) (lit := []) (L := []) (L' := []) (rest := []) (R' := .int .i64 v1.1) (hg0.tl _) (hg0.tl _) [] (f45b0_ok hg0 h1) rfl rfl rfl rfl rfl rfl (AI (VS rfl) (AI (Vw.clo hg0.hf hg0.hc (by decide) (lookT_1 _ _)) TT)) TT (nid_ren _ rfl) TT rfl ?_
  refine retI ?_
  cases h
  exact AI TT (finT (n' := 6) (q := 4) (lit' := []) (hg0.tl _) [] [] rfl rfl (VS rfl) TT)

theorem f29b0_ok {σ : Type} {Hc : σ → AHeap} {fi0 : Fn} {ff0 fc0 : List AVal} {g0 : σ → G_QRule → Option (Bool × σ)} (hg0 : Clo Try.prog fi0 ff0 fc0 Hc (fun (x : G_QRule) => [.agg [.int .i64 x.f_Mask, .isl 1 (x.f_All.map e_i64) false]]) (fun (b : Bool) => .bool b) g0) {a0 : List G_QRule} {z0 : σ} {m : Option Nat} {o : Bool × σ} (h : S_slices_ContainsFunc_api_QRule g0 m a0 z0 = some o) : ACalls Try.prog 29 [.isl 2 (a0.map e_QRule) false, .fn fi0 ff0 fc0] ([] ++ Hc z0) 3 (Gives 4 (.bool o.1) ([] ++ up 3 (Hc o.2))) := bfn_of (L := f29b0_L) f29b0_low f29b0_fok (NB rfl) (f29b0_start hg0 h)

def f32c0_c0 : LCode := (.seq (.region [⟨some 3, .mv (.c (.bool false)), none⟩])
 (.seq (.region [⟨some 4, .mv (.t 0), none⟩,
   ⟨some 5, .bin .lss (.t 4) (.c (.int .i64 0)), none⟩,
   ⟨some 6, .mv (.t 5), none⟩,
   ⟨some 7, .mv (.t 0), some (6, false)⟩,
   ⟨some 8, .load false 1 (.t 1), some (6, false)⟩,
   ⟨some 9, .len false (.t 8), some (6, false)⟩,
   ⟨some 10, .bin .geq (.t 7) (.t 9), some (6, false)⟩,
   ⟨some 11, .pick (.t 6) (.c (.bool true)) (.t 10), none⟩,
   ⟨some 3, .mv (.t 11), none⟩])
 .ret))
def f32c0_lay : Lay := ⟨12, [], false⟩
def f32c0_res : List LRes := [.t 3]
def f32c0_L : LFn := ⟨2, f32c0_lay, f32c0_c0, f32c0_res⟩
theorem f32c0_low : lowFn Try.prog [] 32 = some f32c0_L := by kernel_rfl
theorem f32c0_fok : FnOk Try.prog 32 := ⟨_, Try.func32, rfl, rfl⟩
noncomputable def S_fixpoint_Check_2c (m : Option Nat) (a0 : List (List G_QRule)) (a1 : Int) : Option Bool :=
  some ((decide (a1 < 0)) || (decide (a1 ≥ ((a0.map eB).length : Int))))

def f32c0_Q (a0 : List (List G_QRule)) (a1 : Int) (o : Bool) : Exit → Env → AHeap → Nat → Prop := FinK f32c0_res (FinTo 3 4 (.bool o) [((1, 0), .one [.isl 1 (a0.map eB) false])])

theorem f32c0_start {a0 : List (List G_QRule)} {a1 : Int} {m : Option Nat} {o : Bool} (h : S_fixpoint_Check_2c m a0 a1 = some o) : LWp Try.prog f32c0_lay 3 f32c0_c0 (f32c0_Q a0 a1 o) (initEnv 0 [.int .i64 a1, .ptr (1, 0) 0 0]) [((1, 0), .one [.isl 1 (a0.map eB) false])] 3 := by
  unfold S_fixpoint_Check_2c at h
  refine seqI ?_
  refine regI ?_
  refine seqI ?_
  refine regI ?_
  refine AI (fun hp => hp) ?_
  refine AI (fun hp => (AI hp hp)) ?_
  refine AI (fun hc => (bqf hc)) ?_
  refine LWp.sim (e := [(3, .bool ((decide (a1 < 0)) || (decide (a1 ≥ ((a0.map eB).length : Int)))))]) (L := [((1, 0), .one [.isl 1 (a0.map eB) false])]) (n := 3) ?_ ?_
  · exact simI (M := []) rfl (AI (VS rfl) TT) (AI (AI rfl (BVw.oneL (AI (VS rfl) TT))) TT)
  refine retI ?_
  cases h
  exact AI TT (finI (n' := 3) [] [] rfl rfl (VS rfl) (AI (AI rfl (BVw.oneL (AI (VS rfl) TT))) TT))

theorem f32c0_ok {a0 : List (List G_QRule)} {a1 : Int} {m : Option Nat} {o : Bool} (h : S_fixpoint_Check_2c m a0 a1 = some o) : ACalls Try.prog 32 [.int .i64 a1, .ptr (1, 0) 0 0] [((1, 0), .one [.isl 1 (a0.map eB) false])] 3 (Gives 4 (.bool o) [((1, 0), .one [.isl 1 (a0.map eB) false])]) := bfn_of (L := f32c0_L) f32c0_low f32c0_fok (NB rfl) (f32c0_start h)

def f46b0_c1 : LCode := (.seq (.region [⟨some 9, .bin .lss (.t 8) (.t 7), none⟩])
 (.seq (.cond (.t 9)
  .skip
  (.exit 0))
 (.seq (.block 1
  (.seq (.region [⟨some 10, .mv (.t 8), none⟩,
    ⟨some 5, .mv (.t 10), none⟩])
  (.seq (.region [⟨some 11, .mv (.t 1), none⟩,
    ⟨some 12, .mv (.t 0), none⟩,
    ⟨some 13, .mv (.t 5), none⟩,
    ⟨some 14, .iaddr 1 (.t 12) (.t 13), none⟩,
    ⟨some 15, .load false 1 (.t 14), none⟩,
    ⟨some 16, .callv (.t 11) [(.t 15)], none⟩])
  (.cond (.t 16)
   (.seq (.region [⟨some 17, .mv (.t 5), none⟩,
     ⟨some 4, .mv (.t 17), none⟩])
   .ret)
   .skip))))
 (.region [⟨some 18, .bin .add (.t 8) (.c (.int .i64 1)), none⟩,
   ⟨some 8, .mv (.t 18), none⟩]))))
def f46b0_c0 : LCode := (.seq (.region [⟨some 4, .mv (.c (.int .i64 (-1))), none⟩])
 .ret)
def f46b0_c2 : LCode := (.seq (.region [⟨some 4, .mv (.c (.int .i64 0)), none⟩])
 (.seq (.seq (.region [⟨some 6, .mv (.t 0), none⟩,
   ⟨some 7, .len false (.t 6), none⟩,
   ⟨some 8, .mv (.c (.int .i64 0)), none⟩])
 (.block 0
  (.loop
   f46b0_c1)))
 f46b0_c0))
def f46b0_lay : Lay := ⟨19, [], false⟩
def f46b0_res : List LRes := [.t 4]
def f46b0_L : LFn := ⟨2, f46b0_lay, f46b0_c2, f46b0_res⟩
theorem f46b0_low : lowFn Try.prog [] 46 = some f46b0_L := by kernel_rfl
theorem f46b0_fok : FnOk Try.prog 46 := ⟨_, Try.func46, rfl, rfl⟩
def f46b0_Q {σ : Type} (Hc : σ → AHeap) (fi0 : Fn) (ff0 fc0 : List AVal) (a0 : List Int) (z0 : σ) (o : Int × σ) : Exit → Env → AHeap → Nat → Prop := FinK f46b0_res (FinTo 3 4 (.int .i64 o.1) ([] ++ up 3 (Hc o.2)))

def f46b0_L1_env {σ : Type} (Hc : σ → AHeap) (fi0 : Fn) (ff0 fc0 : List AVal) (a0 : List Int) (s : (Int × σ)) : Env := [(0, .isl 1 (a0.map e_i64) false), (1, .fn fi0 ff0 fc0), (7, .int .i64 ((a0.map e_i64).length : Int)), (8, .int .i64 s.1)]
def f46b0_L1_hp {σ : Type} (Hc : σ → AHeap) (fi0 : Fn) (ff0 fc0 : List AVal) (a0 : List Int) (s : (Int × σ)) : AHeap := ([] ++ up 3 (Hc s.2))
def f46b0_L1_Q {σ : Type} (Hc : σ → AHeap) (fi0 : Fn) (ff0 fc0 : List AVal) (a0 : List Int) (z0 : σ) (o : (Int × σ)) : Exit → Env → AHeap → Nat → Prop := (QBlock 0 (QSeq Try.prog f46b0_lay 3 f46b0_c0 (f46b0_Q Hc fi0 ff0 fc0 a0 z0 o)))

noncomputable def S_slices_IndexFunc_int_j1 {σ : Type} (g0 : σ → Int → Option (Bool × σ)) (m : Option Nat) (v3 : σ) : Option (Int × σ) :=
  some ((-1), v3)

noncomputable def S_slices_IndexFunc_int_b1 {σ : Type} (g0 : σ → Int → Option (Bool × σ)) (m : Option Nat) (a0 : List Int) (v2 : Int) (v3 : σ) : Option ((Int × σ) ⊕ (Int × σ)) :=
  if (decide (v2 < ((a0.map e_i64).length : Int))) = true then
    if (0 : Int) ≤ v2 ∧ v2 < ((a0.map e_i64).length : Int) then
    (g0 v3 (a0.getD v2.toNat default)).bind fun v5 =>
    if v5.1 = true then
      Option.map Sum.inr (
        some (v2, v5.2))
    else
      some (.inl ((W (v2 + 1)), v5.2))
    else none
  else
    Option.map Sum.inr (
      S_slices_IndexFunc_int_j1 g0 m v3)

noncomputable def S_slices_IndexFunc_int_l1 {σ : Type} (g0 : σ → Int → Option (Bool × σ)) (m : Option Nat) (a0 : List Int) (v2 : Int) (v3 : σ) : Option (Int × σ) := loopM m (fun (s : (Int × σ)) => S_slices_IndexFunc_int_b1 g0 m a0 s.1 s.2) (v2, v3)

theorem f46b0_j1_ok {σ : Type} {Hc : σ → AHeap} {fi0 : Fn} {ff0 fc0 : List AVal} {g0 : σ → Int → Option (Bool × σ)} (hg0 : Clo Try.prog fi0 ff0 fc0 Hc (fun (x : Int) => [.int .i64 x]) (fun (b : Bool) => .bool b) g0) {a0 : List Int} {z0 : σ} {v3 : σ} {m : Option Nat} {o : (Int × σ)} (h : S_slices_IndexFunc_int_j1 g0 m v3 = some o) :
    LWp Try.prog f46b0_lay 3 f46b0_c0 (f46b0_Q Hc fi0 ff0 fc0 a0 z0 o) [] ([] ++ up 3 (Hc v3)) 4 := by
  unfold S_slices_IndexFunc_int_j1 at h
  refine seqI ?_
  refine regI ?_
  refine retI ?_
  cases h
  exact AI TT (finT (n' := 4) (q := 3) (lit' := []) (hg0.tl _) [] [] rfl rfl (VS rfl) TT)

theorem f46b0_L1_bok {σ : Type} {Hc : σ → AHeap} {fi0 : Fn} {ff0 fc0 : List AVal} {g0 : σ → Int → Option (Bool × σ)} (hg0 : Clo Try.prog fi0 ff0 fc0 Hc (fun (x : Int) => [.int .i64 x]) (fun (b : Bool) => .bool b) g0) {z0 : σ} {a0 : List Int} {v2 : Int} {v3 : σ} {m : Option Nat} {o : (Int × σ) ⊕ (Int × σ)} (h : S_slices_IndexFunc_int_b1 g0 m a0 v2 v3 = some o) :
    LWp Try.prog f46b0_lay 3 f46b0_c1 (BodyQ 3 4 (f46b0_L1_env Hc fi0 ff0 fc0 a0) (f46b0_L1_hp Hc fi0 ff0 fc0 a0) (f46b0_L1_Q Hc fi0 ff0 fc0 a0 z0) o) [(0, .isl 1 (a0.map e_i64) false), (1, .fn fi0 ff0 fc0), (7, .int .i64 ((a0.map e_i64).length : Int)), (8, .int .i64 v2)] ([] ++ up 3 (Hc v3)) 4 := by
  unfold S_slices_IndexFunc_int_b1 at h
  refine seqI ?_
  refine regI ?_
  refine seqI ?_
  refine condI (v := (decide (v2 < ((a0.map e_i64).length : Int)))) rfl TT (fun h9 => ?_) (fun h9 => ?_)
  · have h := ite_tt h9 h
    refine skipI ?_
    refine seqI ?_
    refine blockI ?_
    refine seqI ?_
    refine regI ?_
    refine seqI ?_
    refine regI ?_
    obtain ⟨h10, h⟩ := ite_some h
    refine AI h10 ?_
    refine EX (e_i64 (a0.getD v2.toNat default)) (AI (getD_enc e_i64 _ _ (idx_ltL e_i64 h10)) (AI (AI (idx_lt h10) (NB rfl)) ?_))
    obtain ⟨v5, h11, h⟩ := bind_some h
    refine Clo.use (q := 3) (lit := []) hg0 h11 rfl rfl (AI (VS rfl) TT) ?_
    refine LWp.sim (e := [(0, .isl 1 (a0.map e_i64) false), (1, .fn fi0 ff0 fc0), (5, .int .i64 v2), (7, .int .i64 ((a0.map e_i64).length : Int)), (8, .int .i64 v2), (16, .bool v5.1)]) (L := ([] ++ up 3 (Hc v5.2))) (n := 4) ?_ ?_
    · exact simT (M := []) (lit' := []) (hg0.tl _) rfl (AI (VS rfl) (AI (Vw.clo hg0.hf hg0.hc (by decide) (rhoT_1 (chkT_ok (n := 4) (q := 4) (lit' := []) rfl))) (AI (VS rfl) (AI (VS rfl) (AI (VS rfl) (AI (VS rfl) TT)))))) TT
    refine condI (v := v5.1) rfl TT (fun h12 => ?_) (fun h12 => ?_)
    · have h := ite_tt h12 h
      refine seqI ?_
      refine regI ?_
      refine retI ?_
      obtain ⟨o, hq, rfl⟩ := Option.map_eq_some_iff.1 h
      replace h := hq; clear hq
      refine AI nofun ?_
      cases h
      exact AI TT (finT (n' := 4) (q := 3) (lit' := []) (hg0.tl _) [] [] rfl rfl (VS rfl) TT)
    · have h := ite_ff h12 h
      refine skipI ?_
      refine regI ?_
      cases h
      exact AI rfl (simT (M := []) (lit' := []) (hg0.tl _) rfl (AI (VS rfl) (AI (Vw.clo hg0.hf hg0.hc (by decide) (rhoT_1 (chkT_ok (n := 4) (q := 3) (lit' := []) rfl))) (AI (VS rfl) (AI (VS rfl) TT)))) TT)
  · have h := ite_ff h9 h
    refine exitI ?_
    obtain ⟨o, hq, rfl⟩ := Option.map_eq_some_iff.1 h
    replace h := hq; clear hq
    refine AI nofun ?_
    refine LWp.sim ?_ (f46b0_j1_ok hg0 h)
    exact simT (M := []) (lit' := []) (hg0.tl _) rfl TT TT

theorem f46b0_L1_ok {σ : Type} {Hc : σ → AHeap} {fi0 : Fn} {ff0 fc0 : List AVal} {g0 : σ → Int → Option (Bool × σ)} (hg0 : Clo Try.prog fi0 ff0 fc0 Hc (fun (x : Int) => [.int .i64 x]) (fun (b : Bool) => .bool b) g0) {z0 : σ} {a0 : List Int} {v2 : Int} {v3 : σ} {m : Option Nat} {o : (Int × σ)} (h : S_slices_IndexFunc_int_l1 g0 m a0 v2 v3 = some o) :
    LWp Try.prog f46b0_lay 3 (.loop f46b0_c1) (QBlock 0 (QSeq Try.prog f46b0_lay 3 f46b0_c0 (f46b0_Q Hc fi0 ff0 fc0 a0 z0 o))) [(0, .isl 1 (a0.map e_i64) false), (1, .fn fi0 ff0 fc0), (7, .int .i64 ((a0.map e_i64).length : Int)), (8, .int .i64 v2)] ([] ++ up 3 (Hc v3)) 4 :=
  LWp_loopM (m := m) (s := ((v2, v3) : (Int × σ))) (r := o) (fun (s : (Int × σ)) => S_slices_IndexFunc_int_b1 g0 m a0 s.1 s.2) (f46b0_L1_env Hc fi0 ff0 fc0 a0) (f46b0_L1_hp Hc fi0 ff0 fc0 a0) (f46b0_L1_Q Hc fi0 ff0 fc0 a0 z0) (fun s o h => f46b0_L1_bok hg0 h) h

noncomputable def S_slices_IndexFunc_int {σ : Type} (g0 : σ → Int → Option (Bool × σ)) (m : Option Nat) (a0 : List Int) (z0 : σ) : Option (Int × σ) :=
  S_slices_IndexFunc_int_l1 g0 m a0 0 z0

theorem f46b0_start {σ : Type} {Hc : σ → AHeap} {fi0 : Fn} {ff0 fc0 : List AVal} {g0 : σ → Int → Option (Bool × σ)} (hg0 : Clo Try.prog fi0 ff0 fc0 Hc (fun (x : Int) => [.int .i64 x]) (fun (b : Bool) => .bool b) g0) {a0 : List Int} {z0 : σ} {m : Option Nat} {o : Int × σ} (h : S_slices_IndexFunc_int g0 m a0 z0 = some o) : LWp Try.prog f46b0_lay 3 f46b0_c2 (f46b0_Q Hc fi0 ff0 fc0 a0 z0 o) (initEnv 0 [.isl 1 (a0.map e_i64) false, .fn fi0 ff0 fc0]) ([] ++ Hc z0) 3 := by
  unfold S_slices_IndexFunc_int at h
  refine LWp.sim (e := [(0, .isl 1 (a0.map e_i64) false), (1, .fn fi0 ff0 fc0)]) (L := ([] ++ up 3 (Hc z0))) (n := 4) (entryT (T := Hc z0) (e' := initEnv 0 [.isl 1 (a0.map e_i64) false, .fn fi0 ff0 fc0]) (e := [(0, .isl 1 (a0.map e_i64) false), (1, .fn fi0 ff0 fc0)]) (lit' := []) (lit := []) (hg0.tl z0) rfl rfl (AI (VS rfl) (AI (Vw.clo hg0.hf hg0.hc (by decide) (rhoE_1 _)) TT)) TT) ?_
  refine seqI ?_
  refine regI ?_
  refine seqI ?_
  refine seqI ?_
  refine regI ?_
  refine blockI ?_
  refine LWp.sim ?_ (f46b0_L1_ok hg0 h)
  exact simT (M := []) (lit' := []) (hg0.tl _) rfl (AI (VS rfl) (AI (Vw.clo hg0.hf hg0.hc (by decide) (rhoT_1 (chkT_ok (n := 4) (q := 3) (lit' := []) rfl))) (AI (VS rfl) (AI (VS rfl) TT)))) TT

theorem f46b0_ok {σ : Type} {Hc : σ → AHeap} {fi0 : Fn} {ff0 fc0 : List AVal} {g0 : σ → Int → Option (Bool × σ)} (hg0 : Clo Try.prog fi0 ff0 fc0 Hc (fun (x : Int) => [.int .i64 x]) (fun (b : Bool) => .bool b) g0) {a0 : List Int} {z0 : σ} {m : Option Nat} {o : Int × σ} (h : S_slices_IndexFunc_int g0 m a0 z0 = some o) : ACalls Try.prog 46 [.isl 1 (a0.map e_i64) false, .fn fi0 ff0 fc0] ([] ++ Hc z0) 3 (Gives 4 (.int .i64 o.1) ([] ++ up 3 (Hc o.2))) := bfn_of (L := f46b0_L) f46b0_low f46b0_fok (NB rfl) (f46b0_start hg0 h)

def f31b0_c0 : LCode := (.seq (.region [⟨some 4, .mv (.c (.bool false)), none⟩])
 (.seq (.region [⟨some 5, .mv (.t 0), none⟩,
   ⟨some 6, .mv (.t 1), none⟩,
   ⟨some 7, .call 46 [(.t 5), (.t 6)], none⟩,
   ⟨some 8, .bin .geq (.t 7) (.c (.int .i64 0)), none⟩,
   ⟨some 4, .mv (.t 8), none⟩])
 .ret))
def f31b0_lay : Lay := ⟨9, [], false⟩
def f31b0_res : List LRes := [.t 4]
def f31b0_L : LFn := ⟨2, f31b0_lay, f31b0_c0, f31b0_res⟩
theorem f31b0_low : lowFn Try.prog [] 31 = some f31b0_L := by kernel_rfl
theorem f31b0_fok : FnOk Try.prog 31 := ⟨_, Try.func31, rfl, rfl⟩
noncomputable def S_slices_ContainsFunc_int {σ : Type} (g0 : σ → Int → Option (Bool × σ)) (m : Option Nat) (a0 : List Int) (z0 : σ) : Option (Bool × σ) :=
  (S_slices_IndexFunc_int g0 m a0 z0).bind fun v1 =>
  some ((decide (v1.1 ≥ 0)), v1.2)

def f31b0_Q {σ : Type} (Hc : σ → AHeap) (fi0 : Fn) (ff0 fc0 : List AVal) (a0 : List Int) (z0 : σ) (o : Bool × σ) : Exit → Env → AHeap → Nat → Prop := FinK f31b0_res (FinTo 3 4 (.bool o.1) ([] ++ up 3 (Hc o.2)))

theorem f31b0_start {σ : Type} {Hc : σ → AHeap} {fi0 : Fn} {ff0 fc0 : List AVal} {g0 : σ → Int → Option (Bool × σ)} (hg0 : Clo Try.prog fi0 ff0 fc0 Hc (fun (x : Int) => [.int .i64 x]) (fun (b : Bool) => .bool b) g0) {a0 : List Int} {z0 : σ} {m : Option Nat} {o : Bool × σ} (h : S_slices_ContainsFunc_int g0 m a0 z0 = some o) : LWp Try.prog f31b0_lay 3 f31b0_c0 (f31b0_Q Hc fi0 ff0 fc0 a0 z0 o) (initEnv 0 [.isl 1 (a0.map e_i64) false, .fn fi0 ff0 fc0]) ([] ++ Hc z0) 3 := by
  unfold S_slices_ContainsFunc_int at h
  refine LWp.sim (e := [(0, .isl 1 (a0.map e_i64) false), (1, .fn fi0 ff0 fc0)]) (L := ([] ++ up 3 (Hc z0))) (n := 4) (entryT (T := Hc z0) (e' := initEnv 0 [.isl 1 (a0.map e_i64) false, .fn fi0 ff0 fc0]) (e := [(0, .isl 1 (a0.map e_i64) false), (1, .fn fi0 ff0 fc0)]) (lit' := []) (lit := []) (hg0.tl z0) rfl rfl (AI (VS rfl) (AI (Vw.clo hg0.hf hg0.hc (by decide) (rhoE_1 _)) TT)) TT) ?_
  refine seqI ?_
  refine regI ?_
  refine seqI ?_
  refine regI ?_
  obtain ⟨v1, h1, h⟩ := bind_some h
  refine bcallT (m := 1) (q := 3) (lit0 := []) (lit := []) (L := []) (L' := []) (rest := []) (R' := .int .i64 v1.1) (hg0.tl _) (hg0.tl _) [] (f46b0_ok hg0 h1) rfl rfl rfl rfl rfl rfl (AI (VS rfl) (AI (Vw.clo hg0.hf hg0.hc (by decide) (lookT_1 _ _)) TT)) TT (nid_ren _ rfl) TT rfl ?_
  refine retI ?_
  cases h
  exact AI TT (finT (n' := 6) (q := 4) (lit' := []) (hg0.tl _) [] [] rfl rfl (VS rfl) TT)

theorem f31b0_ok {σ : Type} {Hc : σ → AHeap} {fi0 : Fn} {ff0 fc0 : List AVal} {g0 : σ → Int → Option (Bool × σ)} (hg0 : Clo Try.prog fi0 ff0 fc0 Hc (fun (x : Int) => [.int .i64 x]) (fun (b : Bool) => .bool b) g0) {a0 : List Int} {z0 : σ} {m : Option Nat} {o : Bool × σ} (h : S_slices_ContainsFunc_int g0 m a0 z0 = some o) : ACalls Try.prog 31 [.isl 1 (a0.map e_i64) false, .fn fi0 ff0 fc0] ([] ++ Hc z0) 3 (Gives 4 (.bool o.1) ([] ++ up 3 (Hc o.2))) := bfn_of (L := f31b0_L) f31b0_low f31b0_fok (NB rfl) (f31b0_start hg0 h)

def f10_c1 : LCode := (.seq (.region [⟨some 15, .bin .lss (.t 14) (.t 13), none⟩])
 (.seq (.cond (.t 15)
  .skip
  (.exit 0))
 (.seq (.block 1
  (.seq (.region [⟨some 16, .iaddr 1 (.t 12) (.t 14), none⟩,
    ⟨some 17, .load false 1 (.t 16), none⟩,
    ⟨some 4, .mv (.t 17), none⟩])
  (.seq (.region [⟨some 18, .mv (.t 4), none⟩,
    ⟨some 19, .len false (.t 18), none⟩,
    ⟨some 20, .bin .gtr (.t 19) (.c (.int .i64 20)), none⟩,
    ⟨some 21, .mv (.t 20), none⟩,
    ⟨some 22, .mv (.t 4), some (21, false)⟩,
    ⟨some 23, .call 29 [(.t 22), (.c (.fn (.func 30) [] []))], some (21, false)⟩,
    ⟨some 24, .pick (.t 21) (.c (.bool true)) (.t 23), none⟩])
  (.cond (.t 24)
   (.seq (.region [⟨some 2, .mv (.c (.int .i64 2)), none⟩])
   .ret)
   .skip))))
 (.region [⟨some 25, .bin .add (.t 14) (.c (.int .i64 1)), none⟩,
   ⟨some 14, .mv (.t 25), none⟩]))))
def f10_c3 : LCode := (.seq (.region [⟨some 35, .bin .lss (.t 34) (.t 33), none⟩])
 (.seq (.cond (.t 35)
  .skip
  (.exit 4))
 (.seq (.block 5
  (.seq (.region [⟨some 36, .iaddr 2 (.t 32) (.t 34), none⟩,
    ⟨some 37, .load true 2 (.t 36), none⟩,
    ⟨some 8, .alloc [(.int .i64 0), (.isl 1 [] true)], none⟩,
    ⟨none, .store 2 (.t 8) (.t 37), none⟩])
  (.seq (.seq (.region [⟨some 38, .faddr 0 (.t 8), none⟩,
    ⟨some 39, .load false 1 (.t 38), none⟩,
    ⟨some 40, .bin .lss (.t 39) (.c (.int .i64 0)), none⟩,
    ⟨some 41, .mv (.t 40), none⟩,
    ⟨some 42, .faddr 0 (.t 8), some (41, false)⟩,
    ⟨some 43, .load false 1 (.t 42), some (41, false)⟩,
    ⟨some 44, .bin .gtr (.t 43) (.c (.int .i64 1048575)), some (41, false)⟩,
    ⟨some 45, .pick (.t 41) (.c (.bool true)) (.t 44), none⟩])
  (.cond (.t 45)
   (.seq (.region [⟨some 2, .mv (.c (.int .i64 1)), none⟩])
   .ret)
   .skip))
  (.seq (.region [⟨some 46, .faddr 1 (.t 8), none⟩,
    ⟨some 47, .load false 1 (.t 46), none⟩,
    ⟨some 48, .mkfn (.func 32) [] [(.t 1)], none⟩,
    ⟨some 49, .call 31 [(.t 47), (.t 48)], none⟩])
  (.cond (.t 49)
   (.seq (.region [⟨some 2, .mv (.c (.int .i64 3)), none⟩])
   .ret)
   .skip)))))
 (.region [⟨some 50, .bin .add (.t 34) (.c (.int .i64 1)), none⟩,
   ⟨some 34, .mv (.t 50), none⟩]))))
def f10_c2 : LCode := (.region [⟨some 51, .bin .add (.t 28) (.c (.int .i64 1)), none⟩,
   ⟨some 28, .mv (.t 51), none⟩])
def f10_c5 : LCode := (.seq (.region [⟨some 29, .bin .lss (.t 28) (.t 27), none⟩])
 (.seq (.cond (.t 29)
  .skip
  (.exit 2))
 (.seq (.block 3
  (.seq (.region [⟨some 30, .iaddr 1 (.t 26) (.t 28), none⟩,
    ⟨some 31, .load false 1 (.t 30), none⟩,
    ⟨some 6, .mv (.t 31), none⟩])
  (.seq (.region [⟨some 32, .mv (.t 6), none⟩,
    ⟨some 33, .len false (.t 32), none⟩,
    ⟨some 34, .mv (.c (.int .i64 0)), none⟩])
  (.block 4
   (.loop
    f10_c3)))))
 f10_c2)))
def f10_c4 : LCode := (.seq (.region [⟨some 2, .mv (.c (.int .i64 0)), none⟩])
 .ret)
def f10_c0 : LCode := (.seq (.seq (.region [⟨some 26, .load false 1 (.t 1), none⟩,
   ⟨some 27, .len false (.t 26), none⟩,
   ⟨some 28, .mv (.c (.int .i64 0)), none⟩])
 (.block 2
  (.loop
   f10_c5)))
 f10_c4)
def f10_c6 : LCode := (.seq (.region [⟨some 1, .box (.t 0), none⟩,
   ⟨some 2, .mv (.c (.int .i64 0)), none⟩])
 (.seq (.seq (.region [⟨some 9, .load false 1 (.t 1), none⟩,
   ⟨some 10, .len false (.t 9), none⟩,
   ⟨some 11, .bin .gtr (.t 10) (.c (.int .i64 60)), none⟩])
 (.cond (.t 11)
  (.seq (.region [⟨some 2, .mv (.c (.int .i64 2)), none⟩])
  .ret)
  .skip))
 (.seq (.seq (.region [⟨some 12, .load false 1 (.t 1), none⟩,
   ⟨some 13, .len false (.t 12), none⟩,
   ⟨some 14, .mv (.c (.int .i64 0)), none⟩])
 (.block 0
  (.loop
   f10_c1)))
 f10_c0)))
def f10_lay : Lay := ⟨52, [], false⟩
def f10_res : List LRes := [.t 2]
def f10_L : LFn := ⟨1, f10_lay, f10_c6, f10_res⟩
theorem f10_low : lowFn Try.prog [] 10 = some f10_L := by kernel_rfl
theorem f10_fok : FnOk Try.prog 10 := ⟨_, Try.func10, rfl, rfl⟩
def f10_Q (a0 : List (List G_QRule)) (o : Int) : Exit → Env → AHeap → Nat → Prop := FinK f10_res (PureEnd (.int .i64 o))

def f10_L1_env (a0 : List (List G_QRule)) (s : Int) : Env := [(1, .ptr (0, 0) 0 0), (12, .isl 1 (a0.map eB) false), (13, .int .i64 ((a0.map eB).length : Int)), (14, .int .i64 s)]
def f10_L1_hp (a0 : List (List G_QRule)) (s : Int) : AHeap := [((0, 0), .one [.isl 1 (a0.map eB) false])]
def f10_L1_Q (a0 : List (List G_QRule)) (o : Int) : Exit → Env → AHeap → Nat → Prop := (QBlock 0 (QSeq Try.prog f10_lay 0 f10_c0 (f10_Q a0 o)))

noncomputable def S_fixpoint_Check_j4 (m : Option Nat) (a0 : List (List G_QRule)) (v9 : Int) : Option (Int ⊕ Int) :=
  some (.inl (W (v9 + 1)))

noncomputable def S_fixpoint_Check_b5 (m : Option Nat) (a0 : List (List G_QRule)) (v9 : Int) (v15 : Int) : Option (Int ⊕ (Int ⊕ Int)) :=
  if (decide (v15 < (((a0.getD v9.toNat default).map e_QRule).length : Int))) = true then
    if (0 : Int) ≤ v15 ∧ v15 < (((a0.getD v9.toNat default).map e_QRule).length : Int) then
    if ((decide (((a0.getD v9.toNat default).getD v15.toNat default).f_Mask < 0)) || (decide (((a0.getD v9.toNat default).getD v15.toNat default).f_Mask > 1048575))) = true then
      Option.map Sum.inr (
        Option.map Sum.inr (
          some 1))
    else
      (S_slices_ContainsFunc_int (fun (s : Unit) (x : Int) => (S_fixpoint_Check_2c m a0 x).map fun o => (o, ())) m (((a0.getD v9.toNat default).getD v15.toNat default).f_All) ()).bind fun v17 =>
      if v17.1 = true then
        Option.map Sum.inr (
          Option.map Sum.inr (
            some 3))
      else
        some (.inl (W (v15 + 1)))
    else none
  else
    Option.map Sum.inr (
      S_fixpoint_Check_j4 m a0 v9)

noncomputable def S_fixpoint_Check_l5 (m : Option Nat) (a0 : List (List G_QRule)) (v9 : Int) (v15 : Int) : Option (Int ⊕ Int) := loopM m (fun (s : Int) => S_fixpoint_Check_b5 m a0 v9 s) v15

noncomputable def S_fixpoint_Check_j5 (m : Option Nat) : Option Int :=
  some 0

noncomputable def S_fixpoint_Check_b4 (m : Option Nat) (a0 : List (List G_QRule)) (v9 : Int) : Option (Int ⊕ Int) :=
  if (decide (v9 < ((a0.map eB).length : Int))) = true then
    if (0 : Int) ≤ v9 ∧ v9 < ((a0.map eB).length : Int) then
    S_fixpoint_Check_l5 m a0 v9 0
    else none
  else
    Option.map Sum.inr (
      S_fixpoint_Check_j5 m)

noncomputable def S_fixpoint_Check_l4 (m : Option Nat) (a0 : List (List G_QRule)) (v9 : Int) : Option Int := loopM m (fun (s : Int) => S_fixpoint_Check_b4 m a0 s) v9

noncomputable def S_fixpoint_Check_j1 (m : Option Nat) (a0 : List (List G_QRule)) : Option Int :=
  S_fixpoint_Check_l4 m a0 0

noncomputable def S_fixpoint_Check_b1 (m : Option Nat) (a0 : List (List G_QRule)) (v2 : Int) : Option (Int ⊕ Int) :=
  if (decide (v2 < ((a0.map eB).length : Int))) = true then
    if (0 : Int) ≤ v2 ∧ v2 < ((a0.map eB).length : Int) then
    (if ((decide ((((a0.getD v2.toNat default).map e_QRule).length : Int) > 20)) == false) = true then S_slices_ContainsFunc_api_QRule (fun (s : Unit) (x : G_QRule) => (S_fixpoint_Check_1c m x).map fun o => (o, ())) m (a0.getD v2.toNat default) () else some default).bind fun v4 =>
    if ((decide ((((a0.getD v2.toNat default).map e_QRule).length : Int) > 20)) || v4.1) = true then
      Option.map Sum.inr (
        some 2)
    else
      some (.inl (W (v2 + 1)))
    else none
  else
    Option.map Sum.inr (
      S_fixpoint_Check_j1 m a0)

noncomputable def S_fixpoint_Check_l1 (m : Option Nat) (a0 : List (List G_QRule)) (v2 : Int) : Option Int := loopM m (fun (s : Int) => S_fixpoint_Check_b1 m a0 s) v2

def f10_L4_env (a0 : List (List G_QRule)) (s : Int) : Env := [(1, .ptr (0, 0) 0 0), (26, .isl 1 (a0.map eB) false), (27, .int .i64 ((a0.map eB).length : Int)), (28, .int .i64 s)]
def f10_L4_hp (a0 : List (List G_QRule)) (s : Int) : AHeap := [((0, 0), .one [.isl 1 (a0.map eB) false])]
def f10_L4_Q (a0 : List (List G_QRule)) (o : Int) : Exit → Env → AHeap → Nat → Prop := (QBlock 2 (QSeq Try.prog f10_lay 0 f10_c4 (f10_Q a0 o)))

def f10_L5_env (a0 : List (List G_QRule)) (v9 : Int) (s : Int) : Env := [(1, .ptr (0, 0) 0 0), (26, .isl 1 (a0.map eB) false), (27, .int .i64 ((a0.map eB).length : Int)), (28, .int .i64 v9), (32, .isl 2 ((a0.getD v9.toNat default).map e_QRule) false), (33, .int .i64 (((a0.getD v9.toNat default).map e_QRule).length : Int)), (34, .int .i64 s)]
def f10_L5_hp (a0 : List (List G_QRule)) (v9 : Int) (s : Int) : AHeap := [((0, 0), .one [.isl 1 (a0.map eB) false])]
def f10_L5_Q (a0 : List (List G_QRule)) (o : (Int ⊕ Int)) : Exit → Env → AHeap → Nat → Prop := (QBlock 4 (QBlock 3 (QSeq Try.prog f10_lay 0 f10_c2 (BodyQ 0 1 (f10_L4_env a0) (f10_L4_hp a0) (f10_L4_Q a0) o))))

theorem f10_j4_ok {a0 : List (List G_QRule)} {v9 : Int} {m : Option Nat} {o : (Int ⊕ Int)} (h : S_fixpoint_Check_j4 m a0 v9 = some o) :
    LWp Try.prog f10_lay 0 f10_c2 (BodyQ 0 1 (f10_L4_env a0) (f10_L4_hp a0) (f10_L4_Q a0) o) [(1, .ptr (0, 0) 0 0), (26, .isl 1 (a0.map eB) false), (27, .int .i64 ((a0.map eB).length : Int)), (28, .int .i64 v9)] [((0, 0), .one [.isl 1 (a0.map eB) false])] 1 := by
  unfold S_fixpoint_Check_j4 at h
  refine regI ?_
  cases h
  exact AI rfl (simI (M := [((0, 0), (0, 0))]) rfl (AI (Vw.ptr _ _ _ _ rfl) (AI (VS rfl) (AI (VS rfl) (AI (VS rfl) TT)))) (AI (AI rfl (BVw.oneL (AI (VS rfl) TT))) TT))

theorem f10_L5_bok {a0 : List (List G_QRule)} {v9 : Int} {v15 : Int} {m : Option Nat} {o : Int ⊕ (Int ⊕ Int)} (h : S_fixpoint_Check_b5 m a0 v9 v15 = some o) :
    LWp Try.prog f10_lay 0 f10_c3 (BodyQ 0 1 (f10_L5_env a0 v9) (f10_L5_hp a0 v9) (f10_L5_Q a0) o) [(1, .ptr (0, 0) 0 0), (26, .isl 1 (a0.map eB) false), (27, .int .i64 ((a0.map eB).length : Int)), (28, .int .i64 v9), (32, .isl 2 ((a0.getD v9.toNat default).map e_QRule) false), (33, .int .i64 (((a0.getD v9.toNat default).map e_QRule).length : Int)), (34, .int .i64 v15)] [((0, 0), .one [.isl 1 (a0.map eB) false])] 1 := by
  unfold S_fixpoint_Check_b5 at h
  refine seqI ?_
  refine regI ?_
  refine seqI ?_
  refine condI (v := (decide (v15 < (((a0.getD v9.toNat default).map e_QRule).length : Int)))) rfl TT (fun h60 => ?_) (fun h60 => ?_)
  · have h := ite_tt h60 h
    refine skipI ?_
    refine seqI ?_
    refine blockI ?_
    refine seqI ?_
    refine regI ?_
    obtain ⟨h61, h⟩ := ite_some h
    refine AI h61 ?_
    refine EX (e_QRule ((a0.getD v9.toNat default).getD v15.toNat default)) (AI (getD_enc e_QRule _ _ (idx_ltL e_QRule h61)) (AI (AI (idx_lt h61) (NB rfl)) ?_))
    refine seqI ?_
    refine seqI ?_
    refine regI ?_
    refine AI (fun hp => hp) ?_
    refine AI (fun hp => hp) ?_
    refine AI (fun hc => (bqf hc)) ?_
    refine LWp.sim (e := [(1, .ptr (0, 0) 0 0), (8, .ptr (1, 0) 0 0), (26, .isl 1 (a0.map eB) false), (27, .int .i64 ((a0.map eB).length : Int)), (28, .int .i64 v9), (32, .isl 2 ((a0.getD v9.toNat default).map e_QRule) false), (33, .int .i64 (((a0.getD v9.toNat default).map e_QRule).length : Int)), (34, .int .i64 v15), (45, .bool ((decide (((a0.getD v9.toNat default).getD v15.toNat default).f_Mask < 0)) || (decide (((a0.getD v9.toNat default).getD v15.toNat default).f_Mask > 1048575))))]) (L := [((0, 0), .one [.isl 1 (a0.map eB) false]), ((1, 0), .one [.int .i64 (((a0.getD v9.toNat default).getD v15.toNat default).f_Mask), .isl 1 ((((a0.getD v9.toNat default).getD v15.toNat default).f_All).map e_i64) false])]) (n := 2) ?_ ?_
    · exact simI (M := [((0, 0), (0, 0)), ((1, 0), (1, 0))]) rfl (AI (Vw.ptr _ _ _ _ rfl) (AI (Vw.ptr _ _ _ _ rfl) (AI (VS rfl) (AI (VS rfl) (AI (VS rfl) (AI (VS rfl) (AI (VS rfl) (AI (VS rfl) (AI (VS rfl) TT))))))))) (AI (AI rfl (BVw.oneL (AI (VS rfl) TT))) (AI (AI rfl (BVw.oneL (AI (VS rfl) (AI (VS rfl) TT)))) TT))
    refine condI (v := ((decide (((a0.getD v9.toNat default).getD v15.toNat default).f_Mask < 0)) || (decide (((a0.getD v9.toNat default).getD v15.toNat default).f_Mask > 1048575)))) rfl TT (fun h62 => ?_) (fun h62 => ?_)
    · have h := ite_tt h62 h
      refine seqI ?_
      refine regI ?_
      refine retI ?_
      obtain ⟨o, hq, rfl⟩ := Option.map_eq_some_iff.1 h
      replace h := hq; clear hq
      refine AI nofun ?_
      obtain ⟨o, hq, rfl⟩ := Option.map_eq_some_iff.1 h
      replace h := hq; clear hq
      refine AI nofun ?_
      cases h
      exact AI TT (AI rfl (VS rfl))
    · have h := ite_ff h62 h
      refine skipI ?_
      refine seqI ?_
      refine regI ?_
      obtain ⟨v17, h63, h⟩ := bind_some h
      refine bcall (k := 3) (m := 1) (L' := [((0, 0), .one [.isl 1 (a0.map eB) false])]) (rest := [((1, 0), .one [.int .i64 (((a0.getD v9.toNat default).getD v15.toNat default).f_Mask), .isl 1 ((((a0.getD v9.toNat default).getD v15.toNat default).f_All).map e_i64) false])]) (R' := .bool v17.1) [((1, 0), (0, 0))] (f31b0_ok (show Clo Try.prog (.func 32) [] [.ptr (1, 0) 0 0] (fun (s : Unit) => [((1, 0), .one [.isl 1 (a0.map eB) false])]) (fun (x : Int) => [.int .i64 x]) (fun (b : Bool) => .bool b) (fun (s : Unit) (x : Int) => (S_fixpoint_Check_2c m a0 x).map fun o => (o, ())) from Clo.mk' (fun s => Tl.lit rfl (AI (rfl) TT) rfl) rfl rfl (fun _ => rfl) (fun s x o h => by obtain ⟨o1, h1, rfl⟩ := Option.map_eq_some_iff.1 h; exact EX _ (AI (f32c0_ok h1) (AI rfl (AI rfl TT))))) h63) rfl rfl rfl (AI (VS rfl) (AI (Vw.fnL TT (AI (Vw.ptr _ _ _ _ rfl) TT)) TT)) (AI (h0I (0, 0) rfl rfl (BVw.oneL (AI (VS rfl) TT))) TT) (nid_ren _ rfl) (AI rfl (AI rfl TT)) rfl ?_
      refine condI (v := v17.1) rfl TT (fun h64 => ?_) (fun h64 => ?_)
      · have h := ite_tt h64 h
        refine seqI ?_
        refine regI ?_
        refine retI ?_
        obtain ⟨o, hq, rfl⟩ := Option.map_eq_some_iff.1 h
        replace h := hq; clear hq
        refine AI nofun ?_
        obtain ⟨o, hq, rfl⟩ := Option.map_eq_some_iff.1 h
        replace h := hq; clear hq
        refine AI nofun ?_
        cases h
        exact AI TT (AI rfl (VS rfl))
      · have h := ite_ff h64 h
        refine skipI ?_
        refine regI ?_
        cases h
        exact AI rfl (simI (M := [((0, 0), (0, 0))]) rfl (AI (Vw.ptr _ _ _ _ rfl) (AI (VS rfl) (AI (VS rfl) (AI (VS rfl) (AI (VS rfl) (AI (VS rfl) (AI (VS rfl) TT))))))) (AI (AI rfl (BVw.oneL (AI (VS rfl) TT))) TT))
  · have h := ite_ff h60 h
    refine exitI ?_
    obtain ⟨o, hq, rfl⟩ := Option.map_eq_some_iff.1 h
    replace h := hq; clear hq
    refine AI nofun ?_
    refine LWp.sim ?_ (f10_j4_ok h)
    exact simI (M := [((0, 0), (0, 0))]) rfl (AI (Vw.ptr _ _ _ _ rfl) (AI (VS rfl) (AI (VS rfl) (AI (VS rfl) TT)))) (AI (AI rfl (BVw.oneL (AI (VS rfl) TT))) TT)

theorem f10_L5_ok {a0 : List (List G_QRule)} {v9 : Int} {v15 : Int} {m : Option Nat} {o : (Int ⊕ Int)} (h : S_fixpoint_Check_l5 m a0 v9 v15 = some o) :
    LWp Try.prog f10_lay 0 (.loop f10_c3) (QBlock 4 (QBlock 3 (QSeq Try.prog f10_lay 0 f10_c2 (BodyQ 0 1 (f10_L4_env a0) (f10_L4_hp a0) (f10_L4_Q a0) o)))) [(1, .ptr (0, 0) 0 0), (26, .isl 1 (a0.map eB) false), (27, .int .i64 ((a0.map eB).length : Int)), (28, .int .i64 v9), (32, .isl 2 ((a0.getD v9.toNat default).map e_QRule) false), (33, .int .i64 (((a0.getD v9.toNat default).map e_QRule).length : Int)), (34, .int .i64 v15)] [((0, 0), .one [.isl 1 (a0.map eB) false])] 1 :=
  LWp_loopM (m := m) (s := (v15 : Int)) (r := o) (fun (s : Int) => S_fixpoint_Check_b5 m a0 v9 s) (f10_L5_env a0 v9) (f10_L5_hp a0 v9) (f10_L5_Q a0) (fun s o h => f10_L5_bok h) h

theorem f10_j5_ok {a0 : List (List G_QRule)} {m : Option Nat} {o : Int} (h : S_fixpoint_Check_j5 m = some o) :
    LWp Try.prog f10_lay 0 f10_c4 (f10_Q a0 o) [] [] 0 := by
  unfold S_fixpoint_Check_j5 at h
  refine seqI ?_
  refine regI ?_
  refine retI ?_
  cases h
  exact AI TT (AI rfl (VS rfl))

theorem f10_L4_bok {a0 : List (List G_QRule)} {v9 : Int} {m : Option Nat} {o : Int ⊕ Int} (h : S_fixpoint_Check_b4 m a0 v9 = some o) :
    LWp Try.prog f10_lay 0 f10_c5 (BodyQ 0 1 (f10_L4_env a0) (f10_L4_hp a0) (f10_L4_Q a0) o) [(1, .ptr (0, 0) 0 0), (26, .isl 1 (a0.map eB) false), (27, .int .i64 ((a0.map eB).length : Int)), (28, .int .i64 v9)] [((0, 0), .one [.isl 1 (a0.map eB) false])] 1 := by
  unfold S_fixpoint_Check_b4 at h
  refine seqI ?_
  refine regI ?_
  refine seqI ?_
  refine condI (v := (decide (v9 < ((a0.map eB).length : Int)))) rfl TT (fun h48 => ?_) (fun h48 => ?_)
  · have h := ite_tt h48 h
    refine skipI ?_
    refine seqI ?_
    refine blockI ?_
    refine seqI ?_
    refine regI ?_
    obtain ⟨h49, h⟩ := ite_some h
    refine AI h49 ?_
    refine EX (eB (a0.getD v9.toNat default)) (AI (getD_enc eB _ _ (idx_ltL eB h49)) (AI (AI (idx_lt h49) (NB rfl)) ?_))
    refine seqI ?_
    refine regI ?_
    refine blockI ?_
    refine LWp.sim ?_ (f10_L5_ok h)
    exact simI (M := [((0, 0), (0, 0))]) rfl (AI (Vw.ptr _ _ _ _ rfl) (AI (VS rfl) (AI (VS rfl) (AI (VS rfl) (AI (VS rfl) (AI (VS rfl) (AI (VS rfl) TT))))))) (AI (AI rfl (BVw.oneL (AI (VS rfl) TT))) TT)
  · have h := ite_ff h48 h
    refine exitI ?_
    obtain ⟨o, hq, rfl⟩ := Option.map_eq_some_iff.1 h
    replace h := hq; clear hq
    refine AI nofun ?_
    refine LWp.sim ?_ (f10_j5_ok h)
    exact simI (M := []) rfl TT TT

theorem f10_L4_ok {a0 : List (List G_QRule)} {v9 : Int} {m : Option Nat} {o : Int} (h : S_fixpoint_Check_l4 m a0 v9 = some o) :
    LWp Try.prog f10_lay 0 (.loop f10_c5) (QBlock 2 (QSeq Try.prog f10_lay 0 f10_c4 (f10_Q a0 o))) [(1, .ptr (0, 0) 0 0), (26, .isl 1 (a0.map eB) false), (27, .int .i64 ((a0.map eB).length : Int)), (28, .int .i64 v9)] [((0, 0), .one [.isl 1 (a0.map eB) false])] 1 :=
  LWp_loopM (m := m) (s := (v9 : Int)) (r := o) (fun (s : Int) => S_fixpoint_Check_b4 m a0 s) (f10_L4_env a0) (f10_L4_hp a0) (f10_L4_Q a0) (fun s o h => f10_L4_bok h) h

theorem f10_j1_ok {a0 : List (List G_QRule)} {m : Option Nat} {o : Int} (h : S_fixpoint_Check_j1 m a0 = some o) :
    LWp Try.prog f10_lay 0 f10_c0 (f10_Q a0 o) [(1, .ptr (0, 0) 0 0)] [((0, 0), .one [.isl 1 (a0.map eB) false])] 1 := by
  unfold S_fixpoint_Check_j1 at h
  refine seqI ?_
  refine seqI ?_
  refine regI ?_
  refine blockI ?_
  refine LWp.sim ?_ (f10_L4_ok h)
  exact simI (M := [((0, 0), (0, 0))]) rfl (AI (Vw.ptr _ _ _ _ rfl) (AI (VS rfl) (AI (VS rfl) (AI (VS rfl) TT)))) (AI (AI rfl (BVw.oneL (AI (VS rfl) TT))) TT)

theorem f10_L1_bok {a0 : List (List G_QRule)} {v2 : Int} {m : Option Nat} {o : Int ⊕ Int} (h : S_fixpoint_Check_b1 m a0 v2 = some o) :
    LWp Try.prog f10_lay 0 f10_c1 (BodyQ 0 1 (f10_L1_env a0) (f10_L1_hp a0) (f10_L1_Q a0) o) [(1, .ptr (0, 0) 0 0), (12, .isl 1 (a0.map eB) false), (13, .int .i64 ((a0.map eB).length : Int)), (14, .int .i64 v2)] [((0, 0), .one [.isl 1 (a0.map eB) false])] 1 := by
  unfold S_fixpoint_Check_b1 at h
  refine seqI ?_
  refine regI ?_
  refine seqI ?_
  refine condI (v := (decide (v2 < ((a0.map eB).length : Int)))) rfl TT (fun h10 => ?_) (fun h10 => ?_)
  · have h := ite_tt h10 h
    refine skipI ?_
    refine seqI ?_
    refine blockI ?_
    refine seqI ?_
    refine regI ?_
    obtain ⟨h11, h⟩ := ite_some h
    refine AI h11 ?_
    refine EX (eB (a0.getD v2.toNat default)) (AI (getD_enc eB _ _ (idx_ltL eB h11)) (AI (AI (idx_lt h11) (NB rfl)) ?_))
    refine seqI ?_
    refine regI ?_
    obtain ⟨v4, h12, h⟩ := bind_some h
    refine Or.inl (EX (.bool v4.1) (AI (fun hp => AI hp (ACalls.same rfl (bcall (k := 3) (m := 1) (L' := []) (rest := [((0, 0), .one [.isl 1 (a0.map eB) false])]) (R' := .bool v4.1) [] (f29b0_ok (show Clo Try.prog (.func 30) [] [] (fun (s : Unit) => []) (fun (x : G_QRule) => [.agg [.int .i64 x.f_Mask, .isl 1 (x.f_All.map e_i64) false]]) (fun (b : Bool) => .bool b) (fun (s : Unit) (x : G_QRule) => (S_fixpoint_Check_1c m x).map fun o => (o, ())) from Clo.mk' (fun s => Tl.lit rfl TT rfl) rfl rfl (fun _ => rfl) (fun s x o h => by obtain ⟨o1, h1, rfl⟩ := Option.map_eq_some_iff.1 h; exact EX _ (AI (f30c0_ok h1) TT))) (ite_tt hp h12)) rfl rfl rfl (AI (VS rfl) (AI (VS rfl) TT)) TT (nid_ren _ rfl) TT rfl (AI rfl (HeapTo.get (AI (AI rfl (BVw.oneL (AI (VS rfl) TT))) TT)))))) ?_))
    refine AI (fun hc => (bqf hc)) ?_
    refine LWp.sim (e := [(1, .ptr (0, 0) 0 0), (12, .isl 1 (a0.map eB) false), (13, .int .i64 ((a0.map eB).length : Int)), (14, .int .i64 v2), (24, .bool ((decide ((((a0.getD v2.toNat default).map e_QRule).length : Int) > 20)) || v4.1))]) (L := [((0, 0), .one [.isl 1 (a0.map eB) false])]) (n := 1) ?_ ?_
    · exact simI (M := [((0, 0), (0, 0))]) rfl (AI (Vw.ptr _ _ _ _ rfl) (AI (VS rfl) (AI (VS rfl) (AI (VS rfl) (AI (VS rfl) TT))))) (AI (AI rfl (BVw.oneL (AI (VS rfl) TT))) TT)
    refine condI (v := ((decide ((((a0.getD v2.toNat default).map e_QRule).length : Int) > 20)) || v4.1)) rfl TT (fun h13 => ?_) (fun h13 => ?_)
    · have h := ite_tt h13 h
      refine seqI ?_
      refine regI ?_
      refine retI ?_
      obtain ⟨o, hq, rfl⟩ := Option.map_eq_some_iff.1 h
      replace h := hq; clear hq
      refine AI nofun ?_
      cases h
      exact AI TT (AI rfl (VS rfl))
    · have h := ite_ff h13 h
      refine skipI ?_
      refine regI ?_
      cases h
      exact AI rfl (simI (M := [((0, 0), (0, 0))]) rfl (AI (Vw.ptr _ _ _ _ rfl) (AI (VS rfl) (AI (VS rfl) (AI (VS rfl) TT)))) (AI (AI rfl (BVw.oneL (AI (VS rfl) TT))) TT))
  · have h := ite_ff h10 h
    refine exitI ?_
    obtain ⟨o, hq, rfl⟩ := Option.map_eq_some_iff.1 h
    replace h := hq; clear hq
    refine AI nofun ?_
    refine LWp.sim ?_ (f10_j1_ok h)
    exact simI (M := [((0, 0), (0, 0))]) rfl (AI (Vw.ptr _ _ _ _ rfl) TT) (AI (AI rfl (BVw.oneL (AI (VS rfl) TT))) TT)

theorem f10_L1_ok {a0 : List (List G_QRule)} {v2 : Int} {m : Option Nat} {o : Int} (h : S_fixpoint_Check_l1 m a0 v2 = some o) :
    LWp Try.prog f10_lay 0 (.loop f10_c1) (QBlock 0 (QSeq Try.prog f10_lay 0 f10_c0 (f10_Q a0 o))) [(1, .ptr (0, 0) 0 0), (12, .isl 1 (a0.map eB) false), (13, .int .i64 ((a0.map eB).length : Int)), (14, .int .i64 v2)] [((0, 0), .one [.isl 1 (a0.map eB) false])] 1 :=
  LWp_loopM (m := m) (s := (v2 : Int)) (r := o) (fun (s : Int) => S_fixpoint_Check_b1 m a0 s) (f10_L1_env a0) (f10_L1_hp a0) (f10_L1_Q a0) (fun s o h => f10_L1_bok h) h

noncomputable def S_fixpoint_Check (m : Option Nat) (a0 : List (List G_QRule)) : Option Int :=
  if (decide (((a0.map eB).length : Int) > 60)) = true then
    some 2
  else
    S_fixpoint_Check_l1 m a0 0

theorem f10_start {a0 : List (List G_QRule)} {m : Option Nat} {o : Int} (h : S_fixpoint_Check m a0 = some o) : LWp Try.prog f10_lay 0 f10_c6 (f10_Q a0 o) (initEnv 0 [.isl 1 (a0.map eB) false]) [] 0 := by
  unfold S_fixpoint_Check at h
  refine seqI ?_
  refine regI ?_
  refine seqI ?_
  refine seqI ?_
  refine regI ?_
  refine condI (v := (decide (((a0.map eB).length : Int) > 60))) rfl TT (fun h1 => ?_) (fun h1 => ?_)
  · have h := ite_tt h1 h
    refine seqI ?_
    refine regI ?_
    refine retI ?_
    cases h
    exact AI TT (AI rfl (VS rfl))
  · have h := ite_ff h1 h
    refine skipI ?_
    refine seqI ?_
    refine seqI ?_
    refine regI ?_
    refine LWp.sim (e := [(1, .ptr (0, 0) 0 0), (12, .isl 1 (a0.map eB) false), (13, .int .i64 ((a0.map eB).length : Int)), (14, .int .i64 0)]) (L := [((0, 0), .one [.isl 1 (a0.map eB) false])]) (n := 1) ?_ ?_
    · exact simI (M := [((0, 0), (0, 0))]) rfl (AI (Vw.ptr _ _ _ _ rfl) (AI (VS rfl) (AI (VS rfl) (AI (VS rfl) TT)))) (AI (AI rfl (BVw.oneL (AI (VS rfl) TT))) TT)
    refine blockI ?_
    refine LWp.sim ?_ (f10_L1_ok h)
    exact simI (M := [((0, 0), (0, 0))]) rfl (AI (Vw.ptr _ _ _ _ rfl) (AI (VS rfl) (AI (VS rfl) (AI (VS rfl) TT)))) (AI (AI rfl (BVw.oneL (AI (VS rfl) TT))) TT)

theorem f10_ok {a0 : List (List G_QRule)} {m : Option Nat} {o : Int} (h : S_fixpoint_Check m a0 = some o) : PFn Try.prog 10 [.isl 1 (a0.map eB) false] (.int .i64 o) := PFn.ofFnW (L := f10_L) f10_low f10_fok (NB rfl) rfl (f10_start h)

def f26b0_c1 : LCode := (.seq (.region [⟨some 10, .bin .lss (.t 9) (.t 8), none⟩])
 (.seq (.cond (.t 10)
  .skip
  (.exit 0))
 (.seq (.block 1
  (.seq (.region [⟨some 11, .mv (.t 9), none⟩,
    ⟨some 4, .mv (.t 11), none⟩])
  (.region [⟨some 12, .mv (.t 3), none⟩,
    ⟨some 13, .mv (.t 4), none⟩,
    ⟨some 14, .mv (.t 4), none⟩,
    ⟨some 15, .iaddr 1 (.t 12) (.t 13), none⟩,
    ⟨none, .store 1 (.t 15) (.t 14), none⟩])))
 (.region [⟨some 16, .bin .add (.t 9) (.c (.int .i64 1)), none⟩,
   ⟨some 9, .mv (.t 16), none⟩]))))
def f26b0_c0 : LCode := (.seq (.region [⟨some 17, .mv (.t 3), none⟩,
   ⟨some 2, .mv (.t 17), none⟩])
 .ret)
def f26b0_c2 : LCode := (.seq (.region [⟨some 2, .mv (.c (.val (.slice none 0 0))), none⟩])
 (.seq (.region [⟨some 5, .mv (.t 0), none⟩,
   ⟨some 6, .mkslice false 1 8 [(.int .i64 0)] (.t 5) (.t 5), none⟩,
   ⟨some 3, .mv (.t 6), none⟩])
 (.seq (.seq (.region [⟨some 7, .mv (.t 3), none⟩,
   ⟨some 8, .len false (.t 7), none⟩,
   ⟨some 9, .mv (.c (.int .i64 0)), none⟩])
 (.block 0
  (.loop
   f26b0_c1)))
 f26b0_c0)))
def f26b0_lay : Lay := ⟨18, [6], false⟩
def f26b0_res : List LRes := [.t 2]
def f26b0_L : LFn := ⟨1, f26b0_lay, f26b0_c2, f26b0_res⟩
theorem f26b0_low : lowFn Try.prog [6] 26 = some f26b0_L := by kernel_rfl
theorem f26b0_fok : FnOk Try.prog 26 := ⟨_, Try.func26, rfl, rfl⟩
def f26b0_Q (a0 : Int) (o : (List Int)) : Exit → Env → AHeap → Nat → Prop := FinK f26b0_res (FinTo 3 4 (.msl (3, 0) 1 0 o.length true) [((3, 0), .rows 1 (o.map e_i64))])

def f26b0_L1_env (a0 : Int) (s : (Int × (List Int))) : Env := [(3, .msl (3, 0) 1 0 s.2.length true), (8, .int .i64 ((((List.replicate a0.toNat 0).map e_i64).length : Nat) : Int)), (9, .int .i64 s.1)]
def f26b0_L1_hp (a0 : Int) (s : (Int × (List Int))) : AHeap := [((3, 0), .rows 1 (s.2.map e_i64))]
def f26b0_L1_Q (a0 : Int) (o : (List Int)) : Exit → Env → AHeap → Nat → Prop := (QBlock 0 (QSeq Try.prog f26b0_lay 3 f26b0_c0 (f26b0_Q a0 o)))

noncomputable def S_fixpoint_indices_j1 (m : Option Nat) (v2 : List Int) : Option (List Int) :=
  some v2

noncomputable def S_fixpoint_indices_b1 (m : Option Nat) (a0 : Int) (v1 : Int) (v2 : List Int) : Option ((Int × (List Int)) ⊕ (List Int)) :=
  if (decide (v1 < ((((List.replicate a0.toNat 0).map e_i64).length : Nat) : Int))) = true then
    if (0 : Int) ≤ v1 ∧ v1 < ((v2.length : Nat) : Int) then
    if (0 + v1.toNat) < v2.length then
    some (.inl ((W (v1 + 1)), (v2.set (0 + v1.toNat) v1)))
    else none
    else none
  else
    Option.map Sum.inr (
      S_fixpoint_indices_j1 m v2)

noncomputable def S_fixpoint_indices_l1 (m : Option Nat) (a0 : Int) (v1 : Int) (v2 : List Int) : Option (List Int) := loopM m (fun (s : (Int × (List Int))) => S_fixpoint_indices_b1 m a0 s.1 s.2) (v1, v2)

theorem f26b0_j1_ok {a0 : Int} {v2 : List Int} {m : Option Nat} {o : (List Int)} (h : S_fixpoint_indices_j1 m v2 = some o) :
    LWp Try.prog f26b0_lay 3 f26b0_c0 (f26b0_Q a0 o) [(3, .msl (3, 0) 1 0 v2.length true)] [((3, 0), .rows 1 (v2.map e_i64))] 4 := by
  unfold S_fixpoint_indices_j1 at h
  refine seqI ?_
  refine regI ?_
  refine retI ?_
  cases h
  exact AI TT (finI (n' := 4) [((3, 0), (3, 0))] [] rfl rfl (Vw.mslE rfl (by first | rfl | (simp; done) | (simp at *; omega)) rfl) (AI (AI rfl (BVw.enc e_i64 (fun _ => rfl) _ v2)) TT))

theorem f26b0_L1_bok {a0 : Int} {v1 : Int} {v2 : List Int} {m : Option Nat} {o : (Int × (List Int)) ⊕ (List Int)} (h : S_fixpoint_indices_b1 m a0 v1 v2 = some o) :
    LWp Try.prog f26b0_lay 3 f26b0_c1 (BodyQ 3 4 (f26b0_L1_env a0) (f26b0_L1_hp a0) (f26b0_L1_Q a0) o) [(3, .msl (3, 0) 1 0 v2.length true), (8, .int .i64 ((((List.replicate a0.toNat 0).map e_i64).length : Nat) : Int)), (9, .int .i64 v1)] [((3, 0), .rows 1 (v2.map e_i64))] 4 := by
  unfold S_fixpoint_indices_b1 at h
  refine seqI ?_
  refine regI ?_
  refine seqI ?_
  refine condI (v := (decide (v1 < ((((List.replicate a0.toNat 0).map e_i64).length : Nat) : Int)))) rfl TT (fun h8 => ?_) (fun h8 => ?_)
  · have h := ite_tt h8 h
    refine skipI ?_
    refine seqI ?_
    refine blockI ?_
    refine seqI ?_
    refine regI ?_
    refine regI ?_
    obtain ⟨h9, h⟩ := ite_some h
    refine AI h9 ?_
    obtain ⟨h10, h⟩ := ite_some h
    refine EX ((v2.set (0 + v1.toNat) v1).map e_i64) (AI (set_enc e_i64 _ _ _ _ _ h10 rfl) (AI (AI rfl (AI (lt_map e_i64 h10) (NB rfl))) ?_))
    refine LWp.sim (e := [(3, .msl (3, 0) 1 0 v2.length true), (8, .int .i64 ((((List.replicate a0.toNat 0).map e_i64).length : Nat) : Int)), (9, .int .i64 v1)]) (L := [((3, 0), .rows 1 ((v2.set (0 + v1.toNat) v1).map e_i64))]) (n := 4) ?_ ?_
    · exact simI (M := [((3, 0), (3, 0))]) rfl (AI (Vw.mslE rfl (by first | rfl | (simp; done) | (simp at *; omega)) rfl) (AI (VS rfl) (AI (VS rfl) TT))) (AI (AI rfl (BVw.enc e_i64 (fun _ => rfl) _ (v2.set (0 + v1.toNat) v1))) TT)
    refine regI ?_
    cases h
    exact AI rfl (simI (M := [((3, 0), (3, 0))]) rfl (AI (Vw.mslE rfl (by first | rfl | (simp; done) | (simp at *; omega)) rfl) (AI (VS rfl) (AI (VS rfl) TT))) (AI (AI rfl (BVw.enc e_i64 (fun _ => rfl) _ (v2.set (0 + v1.toNat) v1))) TT))
  · have h := ite_ff h8 h
    refine exitI ?_
    obtain ⟨o, hq, rfl⟩ := Option.map_eq_some_iff.1 h
    replace h := hq; clear hq
    refine AI nofun ?_
    refine LWp.sim ?_ (f26b0_j1_ok h)
    exact simI (M := [((3, 0), (3, 0))]) rfl (AI (Vw.mslE rfl (by first | rfl | (simp; done) | (simp at *; omega)) rfl) TT) (AI (AI rfl (BVw.enc e_i64 (fun _ => rfl) _ v2)) TT)

theorem f26b0_L1_ok {a0 : Int} {v1 : Int} {v2 : List Int} {m : Option Nat} {o : (List Int)} (h : S_fixpoint_indices_l1 m a0 v1 v2 = some o) :
    LWp Try.prog f26b0_lay 3 (.loop f26b0_c1) (QBlock 0 (QSeq Try.prog f26b0_lay 3 f26b0_c0 (f26b0_Q a0 o))) [(3, .msl (3, 0) 1 0 v2.length true), (8, .int .i64 ((((List.replicate a0.toNat 0).map e_i64).length : Nat) : Int)), (9, .int .i64 v1)] [((3, 0), .rows 1 (v2.map e_i64))] 4 :=
  LWp_loopM (m := m) (s := ((v1, v2) : (Int × (List Int)))) (r := o) (fun (s : (Int × (List Int))) => S_fixpoint_indices_b1 m a0 s.1 s.2) (f26b0_L1_env a0) (f26b0_L1_hp a0) (f26b0_L1_Q a0) (fun s o h => f26b0_L1_bok h) h

noncomputable def S_fixpoint_indices (m : Option Nat) (a0 : Int) : Option (List Int) :=
  if (0 : Int) ≤ a0 ∧ a0 ≤ a0 ∧ a0 * 8 ≤ 140737488355328 then
  S_fixpoint_indices_l1 m a0 0 (List.replicate a0.toNat 0)
  else none

theorem f26b0_start {a0 : Int} {m : Option Nat} {o : (List Int)} (h : S_fixpoint_indices m a0 = some o) : LWp Try.prog f26b0_lay 3 f26b0_c2 (f26b0_Q a0 o) (initEnv 0 [.int .i64 a0]) [] 3 := by
  unfold S_fixpoint_indices at h
  refine seqI ?_
  refine regI ?_
  refine seqI ?_
  refine regI ?_
  obtain ⟨h1, h⟩ := ite_some h
  refine EX ((List.replicate a0.toNat 0).map e_i64) (EX true (AI (Or.inl (repl_enc e_i64 a0.toNat 0)) (AI (by simp) (AI h1 ?_))))
  refine seqI ?_
  refine seqI ?_
  refine regI ?_
  refine blockI ?_
  refine LWp.sim ?_ (f26b0_L1_ok h)
  exact simI (M := [((3, 0), (3, 0))]) rfl (AI (Vw.mslE rfl (by first | rfl | (simp; done) | (simp at *; omega)) rfl) (AI (VS rfl) (AI (VS rfl) TT))) (AI (AI rfl (BVw.enc e_i64 (fun _ => rfl) _ (List.replicate a0.toNat 0))) TT)

theorem f26b0_ok {a0 : Int} {m : Option Nat} {o : (List Int)} (h : S_fixpoint_indices m a0 = some o) : ACalls Try.prog 26 [.int .i64 a0] [] 3 (Gives 4 (.msl (3, 0) 1 0 o.length true) [((3, 0), .rows 1 (o.map e_i64))]) := bfn_of (L := f26b0_L) f26b0_low f26b0_fok (NB rfl) (f26b0_start h)

def f53_c1 : LCode := (.seq (.region [⟨some 9, .bin .lss (.t 8) (.t 7), none⟩])
 (.seq (.cond (.t 9)
  .skip
  (.exit 0))
 (.seq (.block 1
  (.seq (.region [⟨some 10, .mv (.t 8), none⟩,
    ⟨some 5, .mv (.t 10), none⟩])
  (.seq (.region [⟨some 11, .mv (.t 1), none⟩,
    ⟨some 12, .mv (.t 0), none⟩,
    ⟨some 13, .mv (.t 5), none⟩,
    ⟨some 14, .iaddr 1 (.t 12) (.t 13), none⟩,
    ⟨some 15, .load false 1 (.t 14), none⟩,
    ⟨some 16, .bin .eql (.t 11) (.t 15), none⟩])
  (.cond (.t 16)
   (.seq (.region [⟨some 17, .mv (.t 5), none⟩,
     ⟨some 4, .mv (.t 17), none⟩])
   .ret)
   .skip))))
 (.region [⟨some 18, .bin .add (.t 8) (.c (.int .i64 1)), none⟩,
   ⟨some 8, .mv (.t 18), none⟩]))))
def f53_c0 : LCode := (.seq (.region [⟨some 4, .mv (.c (.int .i64 (-1))), none⟩])
 .ret)
def f53_c2 : LCode := (.seq (.region [⟨some 4, .mv (.c (.int .i64 0)), none⟩])
 (.seq (.seq (.region [⟨some 6, .mv (.t 0), none⟩,
   ⟨some 7, .len false (.t 6), none⟩,
   ⟨some 8, .mv (.c (.int .i64 0)), none⟩])
 (.block 0
  (.loop
   f53_c1)))
 f53_c0))
def f53_lay : Lay := ⟨19, [], false⟩
def f53_res : List LRes := [.t 4]
def f53_L : LFn := ⟨2, f53_lay, f53_c2, f53_res⟩
theorem f53_low : lowFn Try.prog [] 53 = some f53_L := by kernel_rfl
theorem f53_fok : FnOk Try.prog 53 := ⟨_, Try.func53, rfl, rfl⟩
def f53_Q (a0 : List Int) (a1 : Int) (o : Int) : Exit → Env → AHeap → Nat → Prop := FinK f53_res (PureEnd (.int .i64 o))

def f53_L1_env (a0 : List Int) (a1 : Int) (s : Int) : Env := [(0, .isl 1 (a0.map e_i64) false), (1, .int .i64 a1), (7, .int .i64 ((a0.map e_i64).length : Int)), (8, .int .i64 s)]
def f53_L1_hp (a0 : List Int) (a1 : Int) (s : Int) : AHeap := []
def f53_L1_Q (a0 : List Int) (a1 : Int) (o : Int) : Exit → Env → AHeap → Nat → Prop := (QBlock 0 (QSeq Try.prog f53_lay 0 f53_c0 (f53_Q a0 a1 o)))

noncomputable def S_slices_Index_int_j1 (m : Option Nat) : Option Int :=
  some (-1)

noncomputable def S_slices_Index_int_b1 (m : Option Nat) (a0 : List Int) (a1 : Int) (v1 : Int) : Option (Int ⊕ Int) :=
  if (decide (v1 < ((a0.map e_i64).length : Int))) = true then
    if (0 : Int) ≤ v1 ∧ v1 < ((a0.map e_i64).length : Int) then
    if (a1 == (a0.getD v1.toNat default)) = true then
      Option.map Sum.inr (
        some v1)
    else
      some (.inl (W (v1 + 1)))
    else none
  else
    Option.map Sum.inr (
      S_slices_Index_int_j1 m)

noncomputable def S_slices_Index_int_l1 (m : Option Nat) (a0 : List Int) (a1 : Int) (v1 : Int) : Option Int := loopM m (fun (s : Int) => S_slices_Index_int_b1 m a0 a1 s) v1

theorem f53_j1_ok {a0 : List Int} {a1 : Int} {m : Option Nat} {o : Int} (h : S_slices_Index_int_j1 m = some o) :
    LWp Try.prog f53_lay 0 f53_c0 (f53_Q a0 a1 o) [] [] 0 := by
  unfold S_slices_Index_int_j1 at h
  refine seqI ?_
  refine regI ?_
  refine retI ?_
  cases h
  exact AI TT (AI rfl (VS rfl))

theorem f53_L1_bok {a0 : List Int} {a1 : Int} {v1 : Int} {m : Option Nat} {o : Int ⊕ Int} (h : S_slices_Index_int_b1 m a0 a1 v1 = some o) :
    LWp Try.prog f53_lay 0 f53_c1 (BodyQ 0 0 (f53_L1_env a0 a1) (f53_L1_hp a0 a1) (f53_L1_Q a0 a1) o) [(0, .isl 1 (a0.map e_i64) false), (1, .int .i64 a1), (7, .int .i64 ((a0.map e_i64).length : Int)), (8, .int .i64 v1)] [] 0 := by
  unfold S_slices_Index_int_b1 at h
  refine seqI ?_
  refine regI ?_
  refine seqI ?_
  refine condI (v := (decide (v1 < ((a0.map e_i64).length : Int)))) rfl TT (fun h7 => ?_) (fun h7 => ?_)
  · have h := ite_tt h7 h
    refine skipI ?_
    refine seqI ?_
    refine blockI ?_
    refine seqI ?_
    refine regI ?_
    refine seqI ?_
    refine regI ?_
    obtain ⟨h8, h⟩ := ite_some h
    refine AI h8 ?_
    refine EX (e_i64 (a0.getD v1.toNat default)) (AI (getD_enc e_i64 _ _ (idx_ltL e_i64 h8)) (AI (AI (idx_lt h8) (NB rfl)) ?_))
    refine LWp.sim (e := [(0, .isl 1 (a0.map e_i64) false), (1, .int .i64 a1), (5, .int .i64 v1), (7, .int .i64 ((a0.map e_i64).length : Int)), (8, .int .i64 v1), (16, .bool (a1 == (a0.getD v1.toNat default)))]) (L := []) (n := 0) ?_ ?_
    · exact simI (M := []) rfl (AI (VS rfl) (AI (VS rfl) (AI (VS rfl) (AI (VS rfl) (AI (VS rfl) (AI (VS rfl) TT)))))) TT
    refine condI (v := (a1 == (a0.getD v1.toNat default))) rfl TT (fun h9 => ?_) (fun h9 => ?_)
    · have h := ite_tt h9 h
      refine seqI ?_
      refine regI ?_
      refine retI ?_
      obtain ⟨o, hq, rfl⟩ := Option.map_eq_some_iff.1 h
      replace h := hq; clear hq
      refine AI nofun ?_
      cases h
      exact AI TT (AI rfl (VS rfl))
    · have h := ite_ff h9 h
      refine skipI ?_
      refine regI ?_
      cases h
      exact AI rfl (simI (M := []) rfl (AI (VS rfl) (AI (VS rfl) (AI (VS rfl) (AI (VS rfl) TT)))) TT)
  · have h := ite_ff h7 h
    refine exitI ?_
    obtain ⟨o, hq, rfl⟩ := Option.map_eq_some_iff.1 h
    replace h := hq; clear hq
    refine AI nofun ?_
    refine LWp.sim ?_ (f53_j1_ok h)
    exact simI (M := []) rfl TT TT

theorem f53_L1_ok {a0 : List Int} {a1 : Int} {v1 : Int} {m : Option Nat} {o : Int} (h : S_slices_Index_int_l1 m a0 a1 v1 = some o) :
    LWp Try.prog f53_lay 0 (.loop f53_c1) (QBlock 0 (QSeq Try.prog f53_lay 0 f53_c0 (f53_Q a0 a1 o))) [(0, .isl 1 (a0.map e_i64) false), (1, .int .i64 a1), (7, .int .i64 ((a0.map e_i64).length : Int)), (8, .int .i64 v1)] [] 0 :=
  LWp_loopM (m := m) (s := (v1 : Int)) (r := o) (fun (s : Int) => S_slices_Index_int_b1 m a0 a1 s) (f53_L1_env a0 a1) (f53_L1_hp a0 a1) (f53_L1_Q a0 a1) (fun s o h => f53_L1_bok h) h

noncomputable def S_slices_Index_int (m : Option Nat) (a0 : List Int) (a1 : Int) : Option Int :=
  S_slices_Index_int_l1 m a0 a1 0

theorem f53_start {a0 : List Int} {a1 : Int} {m : Option Nat} {o : Int} (h : S_slices_Index_int m a0 a1 = some o) : LWp Try.prog f53_lay 0 f53_c2 (f53_Q a0 a1 o) (initEnv 0 [.isl 1 (a0.map e_i64) false, .int .i64 a1]) [] 0 := by
  unfold S_slices_Index_int at h
  refine seqI ?_
  refine regI ?_
  refine seqI ?_
  refine seqI ?_
  refine regI ?_
  refine blockI ?_
  refine LWp.sim ?_ (f53_L1_ok h)
  exact simI (M := []) rfl (AI (VS rfl) (AI (VS rfl) (AI (VS rfl) (AI (VS rfl) TT)))) TT

theorem f53_ok {a0 : List Int} {a1 : Int} {m : Option Nat} {o : Int} (h : S_slices_Index_int m a0 a1 = some o) : PFn Try.prog 53 [.isl 1 (a0.map e_i64) false, .int .i64 a1] (.int .i64 o) := PFn.ofFnW (L := f53_L) f53_low f53_fok (NB rfl) rfl (f53_start h)

def f44_c0 : LCode := (.seq (.region [⟨some 4, .mv (.c (.bool false)), none⟩])
 (.seq (.region [⟨some 5, .mv (.t 0), none⟩,
   ⟨some 6, .mv (.t 1), none⟩,
   ⟨some 7, .call 53 [(.t 5), (.t 6)], none⟩,
   ⟨some 8, .bin .geq (.t 7) (.c (.int .i64 0)), none⟩,
   ⟨some 4, .mv (.t 8), none⟩])
 .ret))
def f44_lay : Lay := ⟨9, [], false⟩
def f44_res : List LRes := [.t 4]
def f44_L : LFn := ⟨2, f44_lay, f44_c0, f44_res⟩
theorem f44_low : lowFn Try.prog [] 44 = some f44_L := by kernel_rfl
theorem f44_fok : FnOk Try.prog 44 := ⟨_, Try.func44, rfl, rfl⟩
noncomputable def S_slices_Contains_int (m : Option Nat) (a0 : List Int) (a1 : Int) : Option Bool :=
  (S_slices_Index_int m a0 a1).bind fun v1 =>
  some (decide (v1 ≥ 0))

def f44_Q (a0 : List Int) (a1 : Int) (o : Bool) : Exit → Env → AHeap → Nat → Prop := FinK f44_res (PureEnd (.bool o))

theorem f44_start {a0 : List Int} {a1 : Int} {m : Option Nat} {o : Bool} (h : S_slices_Contains_int m a0 a1 = some o) : LWp Try.prog f44_lay 0 f44_c0 (f44_Q a0 a1 o) (initEnv 0 [.isl 1 (a0.map e_i64) false, .int .i64 a1]) [] 0 := by
  unfold S_slices_Contains_int at h
  refine seqI ?_
  refine regI ?_
  refine seqI ?_
  refine regI ?_
  obtain ⟨v1, h1, h⟩ := bind_some h
  refine PFn.call (f53_ok h1) (AI (VS rfl) (AI (VS rfl) TT)) ?_
  refine retI ?_
  cases h
  exact AI TT (AI rfl (VS rfl))

theorem f44_ok {a0 : List Int} {a1 : Int} {m : Option Nat} {o : Bool} (h : S_slices_Contains_int m a0 a1 = some o) : PFn Try.prog 44 [.isl 1 (a0.map e_i64) false, .int .i64 a1] (.bool o) := PFn.ofFnW (L := f44_L) f44_low f44_fok (NB rfl) rfl (f44_start h)

def f36_c1 : LCode := (.seq (.region [⟨some 14, .bin .lss (.t 13) (.t 12), none⟩])
 (.seq (.cond (.t 14)
  .skip
  (.exit 0))
 (.seq (.block 1
  (.seq (.region [⟨some 15, .iaddr 1 (.t 11) (.t 13), none⟩,
    ⟨some 16, .load false 1 (.t 15), none⟩,
    ⟨some 7, .mv (.t 16), none⟩])
  (.region [⟨some 17, .mv (.t 5), none⟩,
    ⟨some 18, .mv (.t 1), none⟩,
    ⟨some 19, .mv (.t 7), none⟩,
    ⟨some 20, .iaddr 1 (.t 18) (.t 19), none⟩,
    ⟨some 21, .load false 1 (.t 20), none⟩,
    ⟨some 22, .bin .and (.t 17) (.t 21), none⟩,
    ⟨some 5, .mv (.t 22), none⟩])))
 (.region [⟨some 23, .bin .add (.t 13) (.c (.int .i64 1)), none⟩,
   ⟨some 13, .mv (.t 23), none⟩]))))
def f36_c0 : LCode := (.seq (.region [⟨some 24, .mv (.t 5), none⟩,
   ⟨some 4, .mv (.t 24), none⟩])
 .ret)
def f36_c2 : LCode := (.seq (.region [⟨some 2, .box (.t 0), none⟩,
   ⟨some 4, .mv (.c (.int .i64 0)), none⟩])
 (.seq (.region [⟨some 8, .faddr 0 (.t 2), none⟩,
   ⟨some 9, .load false 1 (.t 8), none⟩,
   ⟨some 5, .mv (.t 9), none⟩])
 (.seq (.seq (.region [⟨some 10, .faddr 1 (.t 2), none⟩,
   ⟨some 11, .load false 1 (.t 10), none⟩,
   ⟨some 12, .len false (.t 11), none⟩,
   ⟨some 13, .mv (.c (.int .i64 0)), none⟩])
 (.block 0
  (.loop
   f36_c1)))
 f36_c0)))
def f36_lay : Lay := ⟨25, [], false⟩
def f36_res : List LRes := [.t 4]
def f36_L : LFn := ⟨2, f36_lay, f36_c2, f36_res⟩
theorem f36_low : lowFn Try.prog [] 36 = some f36_L := by kernel_rfl
theorem f36_fok : FnOk Try.prog 36 := ⟨_, Try.func36, rfl, rfl⟩
def f36_Q (a0 : G_QRule) (a1 : List Int) (o : Int) : Exit → Env → AHeap → Nat → Prop := FinK f36_res (PureEnd (.int .i64 o))

def f36_L1_env (a0 : G_QRule) (a1 : List Int) (s : (Int × Int)) : Env := [(1, .isl 1 (a1.map e_i64) false), (5, .int .i64 s.1), (11, .isl 1 (a0.f_All.map e_i64) false), (12, .int .i64 ((a0.f_All.map e_i64).length : Int)), (13, .int .i64 s.2)]
def f36_L1_hp (a0 : G_QRule) (a1 : List Int) (s : (Int × Int)) : AHeap := []
def f36_L1_Q (a0 : G_QRule) (a1 : List Int) (o : Int) : Exit → Env → AHeap → Nat → Prop := (QBlock 0 (QSeq Try.prog f36_lay 0 f36_c0 (f36_Q a0 a1 o)))

noncomputable def S_fixpoint_derive_j1 (m : Option Nat) (v1 : Int) : Option Int :=
  some v1

noncomputable def S_fixpoint_derive_b1 (m : Option Nat) (a0 : G_QRule) (a1 : List Int) (v1 : Int) (v2 : Int) : Option ((Int × Int) ⊕ Int) :=
  if (decide (v2 < ((a0.f_All.map e_i64).length : Int))) = true then
    if (0 : Int) ≤ v2 ∧ v2 < ((a0.f_All.map e_i64).length : Int) then
    if (0 : Int) ≤ (a0.f_All.getD v2.toNat default) ∧ (a0.f_All.getD v2.toNat default) < ((a1.map e_i64).length : Int) then
    some (.inl ((ibits .and .i64 v1 (a1.getD ((a0.f_All.getD v2.toNat default).toNat) default)), (W (v2 + 1))))
    else none
    else none
  else
    Option.map Sum.inr (
      S_fixpoint_derive_j1 m v1)

noncomputable def S_fixpoint_derive_l1 (m : Option Nat) (a0 : G_QRule) (a1 : List Int) (v1 : Int) (v2 : Int) : Option Int := loopM m (fun (s : (Int × Int)) => S_fixpoint_derive_b1 m a0 a1 s.1 s.2) (v1, v2)

theorem f36_j1_ok {a0 : G_QRule} {a1 : List Int} {v1 : Int} {m : Option Nat} {o : Int} (h : S_fixpoint_derive_j1 m v1 = some o) :
    LWp Try.prog f36_lay 0 f36_c0 (f36_Q a0 a1 o) [(5, .int .i64 v1)] [] 0 := by
  unfold S_fixpoint_derive_j1 at h
  refine seqI ?_
  refine regI ?_
  refine retI ?_
  cases h
  exact AI TT (AI rfl (VS rfl))

theorem f36_L1_bok {a0 : G_QRule} {a1 : List Int} {v1 : Int} {v2 : Int} {m : Option Nat} {o : (Int × Int) ⊕ Int} (h : S_fixpoint_derive_b1 m a0 a1 v1 v2 = some o) :
    LWp Try.prog f36_lay 0 f36_c1 (BodyQ 0 0 (f36_L1_env a0 a1) (f36_L1_hp a0 a1) (f36_L1_Q a0 a1) o) [(1, .isl 1 (a1.map e_i64) false), (5, .int .i64 v1), (11, .isl 1 (a0.f_All.map e_i64) false), (12, .int .i64 ((a0.f_All.map e_i64).length : Int)), (13, .int .i64 v2)] [] 0 := by
  unfold S_fixpoint_derive_b1 at h
  refine seqI ?_
  refine regI ?_
  refine seqI ?_
  refine condI (v := (decide (v2 < ((a0.f_All.map e_i64).length : Int)))) rfl TT (fun h7 => ?_) (fun h7 => ?_)
  · have h := ite_tt h7 h
    refine skipI ?_
    refine seqI ?_
    refine blockI ?_
    refine seqI ?_
    refine regI ?_
    obtain ⟨h8, h⟩ := ite_some h
    refine AI h8 ?_
    refine EX (e_i64 (a0.f_All.getD v2.toNat default)) (AI (getD_enc e_i64 _ _ (idx_ltL e_i64 h8)) (AI (AI (idx_lt h8) (NB rfl)) ?_))
    refine regI ?_
    obtain ⟨h9, h⟩ := ite_some h
    refine AI h9 ?_
    refine EX (e_i64 (a1.getD ((a0.f_All.getD v2.toNat default).toNat) default)) (AI (getD_enc e_i64 _ _ (idx_ltL e_i64 h9)) (AI (AI (idx_lt h9) (NB rfl)) ?_))
    refine LWp.sim (e := [(1, .isl 1 (a1.map e_i64) false), (5, .int .i64 (ibits .and .i64 v1 (a1.getD ((a0.f_All.getD v2.toNat default).toNat) default))), (11, .isl 1 (a0.f_All.map e_i64) false), (12, .int .i64 ((a0.f_All.map e_i64).length : Int)), (13, .int .i64 v2)]) (L := []) (n := 0) ?_ ?_
    · exact simI (M := []) rfl (AI (VS rfl) (AI (VS rfl) (AI (VS rfl) (AI (VS rfl) (AI (VS rfl) TT))))) TT
    refine regI ?_
    cases h
    exact AI rfl (simI (M := []) rfl (AI (VS rfl) (AI (VS rfl) (AI (VS rfl) (AI (VS rfl) (AI (VS rfl) TT))))) TT)
  · have h := ite_ff h7 h
    refine exitI ?_
    obtain ⟨o, hq, rfl⟩ := Option.map_eq_some_iff.1 h
    replace h := hq; clear hq
    refine AI nofun ?_
    refine LWp.sim ?_ (f36_j1_ok h)
    exact simI (M := []) rfl (AI (VS rfl) TT) TT

theorem f36_L1_ok {a0 : G_QRule} {a1 : List Int} {v1 : Int} {v2 : Int} {m : Option Nat} {o : Int} (h : S_fixpoint_derive_l1 m a0 a1 v1 v2 = some o) :
    LWp Try.prog f36_lay 0 (.loop f36_c1) (QBlock 0 (QSeq Try.prog f36_lay 0 f36_c0 (f36_Q a0 a1 o))) [(1, .isl 1 (a1.map e_i64) false), (5, .int .i64 v1), (11, .isl 1 (a0.f_All.map e_i64) false), (12, .int .i64 ((a0.f_All.map e_i64).length : Int)), (13, .int .i64 v2)] [] 0 :=
  LWp_loopM (m := m) (s := ((v1, v2) : (Int × Int))) (r := o) (fun (s : (Int × Int)) => S_fixpoint_derive_b1 m a0 a1 s.1 s.2) (f36_L1_env a0 a1) (f36_L1_hp a0 a1) (f36_L1_Q a0 a1) (fun s o h => f36_L1_bok h) h

noncomputable def S_fixpoint_derive (m : Option Nat) (a0 : G_QRule) (a1 : List Int) : Option Int :=
  S_fixpoint_derive_l1 m a0 a1 a0.f_Mask 0

theorem f36_start {a0 : G_QRule} {a1 : List Int} {m : Option Nat} {o : Int} (h : S_fixpoint_derive m a0 a1 = some o) : LWp Try.prog f36_lay 0 f36_c2 (f36_Q a0 a1 o) (initEnv 0 [.agg [.int .i64 a0.f_Mask, .isl 1 (a0.f_All.map e_i64) false], .isl 1 (a1.map e_i64) false]) [] 0 := by
  unfold S_fixpoint_derive at h
  refine seqI ?_
  refine regI ?_
  refine seqI ?_
  refine regI ?_
  refine seqI ?_
  refine seqI ?_
  refine regI ?_
  refine LWp.sim (e := [(1, .isl 1 (a1.map e_i64) false), (5, .int .i64 a0.f_Mask), (11, .isl 1 (a0.f_All.map e_i64) false), (12, .int .i64 ((a0.f_All.map e_i64).length : Int)), (13, .int .i64 0)]) (L := []) (n := 0) ?_ ?_
  · exact simI (M := []) rfl (AI (VS rfl) (AI (VS rfl) (AI (VS rfl) (AI (VS rfl) (AI (VS rfl) TT))))) TT
  refine blockI ?_
  refine LWp.sim ?_ (f36_L1_ok h)
  exact simI (M := []) rfl (AI (VS rfl) (AI (VS rfl) (AI (VS rfl) (AI (VS rfl) (AI (VS rfl) TT))))) TT

theorem f36_ok {a0 : G_QRule} {a1 : List Int} {m : Option Nat} {o : Int} (h : S_fixpoint_derive m a0 a1 = some o) : PFn Try.prog 36 [.agg [.int .i64 a0.f_Mask, .isl 1 (a0.f_All.map e_i64) false], .isl 1 (a1.map e_i64) false] (.int .i64 o) := PFn.ofFnW (L := f36_L) f36_low f36_fok (NB rfl) rfl (f36_start h)

def f27_c1 : LCode := (.seq (.region [⟨some 11, .bin .lss (.t 10) (.t 9), none⟩])
 (.seq (.cond (.t 11)
  .skip
  (.exit 0))
 (.seq (.block 1
  (.seq (.region [⟨some 12, .iaddr 2 (.t 8) (.t 10), none⟩,
    ⟨some 13, .load true 2 (.t 12), none⟩,
    ⟨some 7, .alloc [(.int .i64 0), (.isl 1 [] true)], none⟩,
    ⟨none, .store 2 (.t 7) (.t 13), none⟩])
  (.region [⟨some 14, .mv (.t 5), none⟩,
    ⟨some 15, .load true 2 (.t 7), none⟩,
    ⟨some 16, .mv (.t 1), none⟩,
    ⟨some 17, .call 36 [(.t 15), (.t 16)], none⟩,
    ⟨some 18, .bin .or (.t 14) (.t 17), none⟩,
    ⟨some 5, .mv (.t 18), none⟩])))
 (.region [⟨some 19, .bin .add (.t 10) (.c (.int .i64 1)), none⟩,
   ⟨some 10, .mv (.t 19), none⟩]))))
def f27_c0 : LCode := (.seq (.region [⟨some 20, .mv (.t 5), none⟩,
   ⟨some 4, .mv (.t 20), none⟩])
 .ret)
def f27_c2 : LCode := (.seq (.region [⟨some 4, .mv (.c (.int .i64 0)), none⟩])
 (.seq (.region [⟨some 5, .mv (.c (.int .i64 0)), none⟩])
 (.seq (.seq (.region [⟨some 8, .mv (.t 0), none⟩,
   ⟨some 9, .len false (.t 8), none⟩,
   ⟨some 10, .mv (.c (.int .i64 0)), none⟩])
 (.block 0
  (.loop
   f27_c1)))
 f27_c0)))
def f27_lay : Lay := ⟨21, [], false⟩
def f27_res : List LRes := [.t 4]
def f27_L : LFn := ⟨2, f27_lay, f27_c2, f27_res⟩
theorem f27_low : lowFn Try.prog [] 27 = some f27_L := by kernel_rfl
theorem f27_fok : FnOk Try.prog 27 := ⟨_, Try.func27, rfl, rfl⟩
def f27_Q (a0 : List G_QRule) (a1 : List Int) (o : Int) : Exit → Env → AHeap → Nat → Prop := FinK f27_res (PureEnd (.int .i64 o))

def f27_L1_env (a0 : List G_QRule) (a1 : List Int) (s : (Int × Int)) : Env := [(1, .isl 1 (a1.map e_i64) false), (5, .int .i64 s.1), (8, .isl 2 (a0.map e_QRule) false), (9, .int .i64 ((a0.map e_QRule).length : Int)), (10, .int .i64 s.2)]
def f27_L1_hp (a0 : List G_QRule) (a1 : List Int) (s : (Int × Int)) : AHeap := []
def f27_L1_Q (a0 : List G_QRule) (a1 : List Int) (o : Int) : Exit → Env → AHeap → Nat → Prop := (QBlock 0 (QSeq Try.prog f27_lay 0 f27_c0 (f27_Q a0 a1 o)))

noncomputable def S_fixpoint_deriveAll_j1 (m : Option Nat) (v2 : Int) : Option Int :=
  some v2

noncomputable def S_fixpoint_deriveAll_b1 (m : Option Nat) (a0 : List G_QRule) (a1 : List Int) (v2 : Int) (v3 : Int) : Option ((Int × Int) ⊕ Int) :=
  if (decide (v3 < ((a0.map e_QRule).length : Int))) = true then
    if (0 : Int) ≤ v3 ∧ v3 < ((a0.map e_QRule).length : Int) then
    (S_fixpoint_derive m (G_QRule.mk ((a0.getD v3.toNat default).f_Mask) ((a0.getD v3.toNat default).f_All)) a1).bind fun v5 =>
    some (.inl ((ibits .or .i64 v2 v5), (W (v3 + 1))))
    else none
  else
    Option.map Sum.inr (
      S_fixpoint_deriveAll_j1 m v2)

noncomputable def S_fixpoint_deriveAll_l1 (m : Option Nat) (a0 : List G_QRule) (a1 : List Int) (v2 : Int) (v3 : Int) : Option Int := loopM m (fun (s : (Int × Int)) => S_fixpoint_deriveAll_b1 m a0 a1 s.1 s.2) (v2, v3)

theorem f27_j1_ok {a0 : List G_QRule} {a1 : List Int} {v2 : Int} {m : Option Nat} {o : Int} (h : S_fixpoint_deriveAll_j1 m v2 = some o) :
    LWp Try.prog f27_lay 0 f27_c0 (f27_Q a0 a1 o) [(5, .int .i64 v2)] [] 0 := by
  unfold S_fixpoint_deriveAll_j1 at h
  refine seqI ?_
  refine regI ?_
  refine retI ?_
  cases h
  exact AI TT (AI rfl (VS rfl))

theorem f27_L1_bok {a0 : List G_QRule} {a1 : List Int} {v2 : Int} {v3 : Int} {m : Option Nat} {o : (Int × Int) ⊕ Int} (h : S_fixpoint_deriveAll_b1 m a0 a1 v2 v3 = some o) :
    LWp Try.prog f27_lay 0 f27_c1 (BodyQ 0 0 (f27_L1_env a0 a1) (f27_L1_hp a0 a1) (f27_L1_Q a0 a1) o) [(1, .isl 1 (a1.map e_i64) false), (5, .int .i64 v2), (8, .isl 2 (a0.map e_QRule) false), (9, .int .i64 ((a0.map e_QRule).length : Int)), (10, .int .i64 v3)] [] 0 := by
  unfold S_fixpoint_deriveAll_b1 at h
  refine seqI ?_
  refine regI ?_
  refine seqI ?_
  refine condI (v := (decide (v3 < ((a0.map e_QRule).length : Int)))) rfl TT (fun h7 => ?_) (fun h7 => ?_)
  · have h := ite_tt h7 h
    refine skipI ?_
    refine seqI ?_
    refine blockI ?_
    refine seqI ?_
    refine regI ?_
    obtain ⟨h8, h⟩ := ite_some h
    refine AI h8 ?_
    refine EX (e_QRule (a0.getD v3.toNat default)) (AI (getD_enc e_QRule _ _ (idx_ltL e_QRule h8)) (AI (AI (idx_lt h8) (NB rfl)) ?_))
    refine regI ?_
    obtain ⟨v5, h9, h⟩ := bind_some h
    refine PFn.call (f36_ok h9) (AI (VS rfl) (AI (VS rfl) TT)) ?_
    refine LWp.sim (e := [(1, .isl 1 (a1.map e_i64) false), (5, .int .i64 (ibits .or .i64 v2 v5)), (8, .isl 2 (a0.map e_QRule) false), (9, .int .i64 ((a0.map e_QRule).length : Int)), (10, .int .i64 v3)]) (L := []) (n := 0) ?_ ?_
    · exact simI (M := []) rfl (AI (VS rfl) (AI (VS rfl) (AI (VS rfl) (AI (VS rfl) (AI (VS rfl) TT))))) TT
    refine regI ?_
    cases h
    exact AI rfl (simI (M := []) rfl (AI (VS rfl) (AI (VS rfl) (AI (VS rfl) (AI (VS rfl) (AI (VS rfl) TT))))) TT)
  · have h := ite_ff h7 h
    refine exitI ?_
    obtain ⟨o, hq, rfl⟩ := Option.map_eq_some_iff.1 h
    replace h := hq; clear hq
    refine AI nofun ?_
    refine LWp.sim ?_ (f27_j1_ok h)
    exact simI (M := []) rfl (AI (VS rfl) TT) TT

theorem f27_L1_ok {a0 : List G_QRule} {a1 : List Int} {v2 : Int} {v3 : Int} {m : Option Nat} {o : Int} (h : S_fixpoint_deriveAll_l1 m a0 a1 v2 v3 = some o) :
    LWp Try.prog f27_lay 0 (.loop f27_c1) (QBlock 0 (QSeq Try.prog f27_lay 0 f27_c0 (f27_Q a0 a1 o))) [(1, .isl 1 (a1.map e_i64) false), (5, .int .i64 v2), (8, .isl 2 (a0.map e_QRule) false), (9, .int .i64 ((a0.map e_QRule).length : Int)), (10, .int .i64 v3)] [] 0 :=
  LWp_loopM (m := m) (s := ((v2, v3) : (Int × Int))) (r := o) (fun (s : (Int × Int)) => S_fixpoint_deriveAll_b1 m a0 a1 s.1 s.2) (f27_L1_env a0 a1) (f27_L1_hp a0 a1) (f27_L1_Q a0 a1) (fun s o h => f27_L1_bok h) h

noncomputable def S_fixpoint_deriveAll (m : Option Nat) (a0 : List G_QRule) (a1 : List Int) : Option Int :=
  S_fixpoint_deriveAll_l1 m a0 a1 0 0

theorem f27_start {a0 : List G_QRule} {a1 : List Int} {m : Option Nat} {o : Int} (h : S_fixpoint_deriveAll m a0 a1 = some o) : LWp Try.prog f27_lay 0 f27_c2 (f27_Q a0 a1 o) (initEnv 0 [.isl 2 (a0.map e_QRule) false, .isl 1 (a1.map e_i64) false]) [] 0 := by
  unfold S_fixpoint_deriveAll at h
  refine seqI ?_
  refine regI ?_
  refine seqI ?_
  refine regI ?_
  refine seqI ?_
  refine seqI ?_
  refine regI ?_
  refine blockI ?_
  refine LWp.sim ?_ (f27_L1_ok h)
  exact simI (M := []) rfl (AI (VS rfl) (AI (VS rfl) (AI (VS rfl) (AI (VS rfl) (AI (VS rfl) TT))))) TT

theorem f27_ok {a0 : List G_QRule} {a1 : List Int} {m : Option Nat} {o : Int} (h : S_fixpoint_deriveAll m a0 a1 = some o) : PFn Try.prog 27 [.isl 2 (a0.map e_QRule) false, .isl 1 (a1.map e_i64) false] (.int .i64 o) := PFn.ofFnW (L := f27_L) f27_low f27_fok (NB rfl) rfl (f27_start h)

def f53b1_c1 : LCode := (.seq (.region [⟨some 9, .bin .lss (.t 8) (.t 7), none⟩])
 (.seq (.cond (.t 9)
  .skip
  (.exit 0))
 (.seq (.block 1
  (.seq (.region [⟨some 10, .mv (.t 8), none⟩,
    ⟨some 5, .mv (.t 10), none⟩])
  (.seq (.region [⟨some 11, .mv (.t 1), none⟩,
    ⟨some 12, .mv (.t 0), none⟩,
    ⟨some 13, .mv (.t 5), none⟩,
    ⟨some 14, .iaddr 1 (.t 12) (.t 13), none⟩,
    ⟨some 15, .load false 1 (.t 14), none⟩,
    ⟨some 16, .bin .eql (.t 11) (.t 15), none⟩])
  (.cond (.t 16)
   (.seq (.region [⟨some 17, .mv (.t 5), none⟩,
     ⟨some 4, .mv (.t 17), none⟩])
   .ret)
   .skip))))
 (.region [⟨some 18, .bin .add (.t 8) (.c (.int .i64 1)), none⟩,
   ⟨some 8, .mv (.t 18), none⟩]))))
def f53b1_c0 : LCode := (.seq (.region [⟨some 4, .mv (.c (.int .i64 (-1))), none⟩])
 .ret)
def f53b1_c2 : LCode := (.seq (.region [⟨some 4, .mv (.c (.int .i64 0)), none⟩])
 (.seq (.seq (.region [⟨some 6, .mv (.t 0), none⟩,
   ⟨some 7, .len false (.t 6), none⟩,
   ⟨some 8, .mv (.c (.int .i64 0)), none⟩])
 (.block 0
  (.loop
   f53b1_c1)))
 f53b1_c0))
def f53b1_lay : Lay := ⟨19, [], false⟩
def f53b1_res : List LRes := [.t 4]
def f53b1_L : LFn := ⟨2, f53b1_lay, f53b1_c2, f53b1_res⟩
theorem f53b1_low : lowFn Try.prog [] 53 = some f53b1_L := by kernel_rfl
theorem f53b1_fok : FnOk Try.prog 53 := ⟨_, Try.func53, rfl, rfl⟩
def f53b1_Q (a0 : Nat) (a1 : Nat) (a2 : Int) (a3 : List Int) (o : Int) : Exit → Env → AHeap → Nat → Prop := FinK f53b1_res (FinTo 3 3 (.int .i64 o) [((0, 0), .rows 1 (a3.map e_i64))])

def f53b1_L1_env (a0 : Nat) (a1 : Nat) (a2 : Int) (a3 : List Int) (s : Int) : Env := [(0, .msl (0, 0) 1 a0 a1 false), (1, .int .i64 a2), (7, .int .i64 ((a1 : Nat) : Int)), (8, .int .i64 s)]
def f53b1_L1_hp (a0 : Nat) (a1 : Nat) (a2 : Int) (a3 : List Int) (s : Int) : AHeap := [((0, 0), .rows 1 (a3.map e_i64))]
def f53b1_L1_Q (a0 : Nat) (a1 : Nat) (a2 : Int) (a3 : List Int) (o : Int) : Exit → Env → AHeap → Nat → Prop := (QBlock 0 (QSeq Try.prog f53b1_lay 3 f53b1_c0 (f53b1_Q a0 a1 a2 a3 o)))

noncomputable def S_slices_Index_int_53_2_j1 (m : Option Nat) (a3 : List Int) : Option Int :=
  some (-1)

noncomputable def S_slices_Index_int_53_2_b1 (m : Option Nat) (a0 : Nat) (a1 : Nat) (a2 : Int) (a3 : List Int) (v1 : Int) : Option (Int ⊕ Int) :=
  if (decide (v1 < ((a1 : Nat) : Int))) = true then
    if (0 : Int) ≤ v1 ∧ v1 < ((a1 : Nat) : Int) then
    if (a0 + v1.toNat) < a3.length then
    if (a2 == (a3.getD (a0 + v1.toNat) default)) = true then
      Option.map Sum.inr (
        some v1)
    else
      some (.inl (W (v1 + 1)))
    else none
    else none
  else
    Option.map Sum.inr (
      S_slices_Index_int_53_2_j1 m a3)

noncomputable def S_slices_Index_int_53_2_l1 (m : Option Nat) (a0 : Nat) (a1 : Nat) (a2 : Int) (a3 : List Int) (v1 : Int) : Option Int := loopM m (fun (s : Int) => S_slices_Index_int_53_2_b1 m a0 a1 a2 a3 s) v1

theorem f53b1_j1_ok {a0 : Nat} {a1 : Nat} {a2 : Int} {a3 : List Int} {m : Option Nat} {o : Int} (h : S_slices_Index_int_53_2_j1 m a3 = some o) :
    LWp Try.prog f53b1_lay 3 f53b1_c0 (f53b1_Q a0 a1 a2 a3 o) [] [((0, 0), .rows 1 (a3.map e_i64))] 3 := by
  unfold S_slices_Index_int_53_2_j1 at h
  refine seqI ?_
  refine regI ?_
  refine retI ?_
  cases h
  exact AI TT (finI (n' := 3) [] [] rfl rfl (VS rfl) (AI (AI rfl (BVw.enc e_i64 (fun _ => rfl) _ a3)) TT))

theorem f53b1_L1_bok {a0 : Nat} {a1 : Nat} {a2 : Int} {a3 : List Int} {v1 : Int} {m : Option Nat} {o : Int ⊕ Int} (h : S_slices_Index_int_53_2_b1 m a0 a1 a2 a3 v1 = some o) :
    LWp Try.prog f53b1_lay 3 f53b1_c1 (BodyQ 3 3 (f53b1_L1_env a0 a1 a2 a3) (f53b1_L1_hp a0 a1 a2 a3) (f53b1_L1_Q a0 a1 a2 a3) o) [(0, .msl (0, 0) 1 a0 a1 false), (1, .int .i64 a2), (7, .int .i64 ((a1 : Nat) : Int)), (8, .int .i64 v1)] [((0, 0), .rows 1 (a3.map e_i64))] 3 := by
  unfold S_slices_Index_int_53_2_b1 at h
  refine seqI ?_
  refine regI ?_
  refine seqI ?_
  refine condI (v := (decide (v1 < ((a1 : Nat) : Int)))) rfl TT (fun h9 => ?_) (fun h9 => ?_)
  · have h := ite_tt h9 h
    refine skipI ?_
    refine seqI ?_
    refine blockI ?_
    refine seqI ?_
    refine regI ?_
    refine seqI ?_
    refine regI ?_
    obtain ⟨h10, h⟩ := ite_some h
    refine AI h10 ?_
    obtain ⟨h11, h⟩ := ite_some h
    refine EX (e_i64 (a3.getD (a0 + v1.toNat) default)) (AI (getD_enc e_i64 _ _ h11) (AI (AI (lt_map e_i64 h11) (NB rfl)) ?_))
    refine LWp.sim (e := [(0, .msl (0, 0) 1 a0 a1 false), (1, .int .i64 a2), (5, .int .i64 v1), (7, .int .i64 ((a1 : Nat) : Int)), (8, .int .i64 v1), (16, .bool (a2 == (a3.getD (a0 + v1.toNat) default)))]) (L := [((0, 0), .rows 1 (a3.map e_i64))]) (n := 3) ?_ ?_
    · exact simI (M := []) rfl (AI (Vw.msl _ _ _ _ _ _ rfl) (AI (VS rfl) (AI (VS rfl) (AI (VS rfl) (AI (VS rfl) (AI (VS rfl) TT)))))) (AI (AI rfl (BVw.enc e_i64 (fun _ => rfl) _ a3)) TT)
    refine condI (v := (a2 == (a3.getD (a0 + v1.toNat) default))) rfl TT (fun h12 => ?_) (fun h12 => ?_)
    · have h := ite_tt h12 h
      refine seqI ?_
      refine regI ?_
      refine retI ?_
      obtain ⟨o, hq, rfl⟩ := Option.map_eq_some_iff.1 h
      replace h := hq; clear hq
      refine AI nofun ?_
      cases h
      exact AI TT (finI (n' := 3) [] [] rfl rfl (VS rfl) (AI (AI rfl (BVw.enc e_i64 (fun _ => rfl) _ a3)) TT))
    · have h := ite_ff h12 h
      refine skipI ?_
      refine regI ?_
      cases h
      exact AI rfl (simI (M := []) rfl (AI (Vw.msl _ _ _ _ _ _ rfl) (AI (VS rfl) (AI (VS rfl) (AI (VS rfl) TT)))) (AI (AI rfl (BVw.enc e_i64 (fun _ => rfl) _ a3)) TT))
  · have h := ite_ff h9 h
    refine exitI ?_
    obtain ⟨o, hq, rfl⟩ := Option.map_eq_some_iff.1 h
    replace h := hq; clear hq
    refine AI nofun ?_
    refine LWp.sim ?_ (f53b1_j1_ok h)
    exact simI (M := []) rfl TT (AI (AI rfl (BVw.enc e_i64 (fun _ => rfl) _ a3)) TT)

theorem f53b1_L1_ok {a0 : Nat} {a1 : Nat} {a2 : Int} {a3 : List Int} {v1 : Int} {m : Option Nat} {o : Int} (h : S_slices_Index_int_53_2_l1 m a0 a1 a2 a3 v1 = some o) :
    LWp Try.prog f53b1_lay 3 (.loop f53b1_c1) (QBlock 0 (QSeq Try.prog f53b1_lay 3 f53b1_c0 (f53b1_Q a0 a1 a2 a3 o))) [(0, .msl (0, 0) 1 a0 a1 false), (1, .int .i64 a2), (7, .int .i64 ((a1 : Nat) : Int)), (8, .int .i64 v1)] [((0, 0), .rows 1 (a3.map e_i64))] 3 :=
  LWp_loopM (m := m) (s := (v1 : Int)) (r := o) (fun (s : Int) => S_slices_Index_int_53_2_b1 m a0 a1 a2 a3 s) (f53b1_L1_env a0 a1 a2 a3) (f53b1_L1_hp a0 a1 a2 a3) (f53b1_L1_Q a0 a1 a2 a3) (fun s o h => f53b1_L1_bok h) h

noncomputable def S_slices_Index_int_53_2 (m : Option Nat) (a0 : Nat) (a1 : Nat) (a2 : Int) (a3 : List Int) : Option Int :=
  S_slices_Index_int_53_2_l1 m a0 a1 a2 a3 0

theorem f53b1_start {a0 : Nat} {a1 : Nat} {a2 : Int} {a3 : List Int} {m : Option Nat} {o : Int} (h : S_slices_Index_int_53_2 m a0 a1 a2 a3 = some o) : LWp Try.prog f53b1_lay 3 f53b1_c2 (f53b1_Q a0 a1 a2 a3 o) (initEnv 0 [.msl (0, 0) 1 a0 a1 false, .int .i64 a2]) [((0, 0), .rows 1 (a3.map e_i64))] 3 := by
  unfold S_slices_Index_int_53_2 at h
  refine seqI ?_
  refine regI ?_
  refine seqI ?_
  refine seqI ?_
  refine regI ?_
  refine blockI ?_
  refine LWp.sim ?_ (f53b1_L1_ok h)
  exact simI (M := []) rfl (AI (Vw.msl _ _ _ _ _ _ rfl) (AI (VS rfl) (AI (VS rfl) (AI (VS rfl) TT)))) (AI (AI rfl (BVw.enc e_i64 (fun _ => rfl) _ a3)) TT)

theorem f53b1_ok {a0 : Nat} {a1 : Nat} {a2 : Int} {a3 : List Int} {m : Option Nat} {o : Int} (h : S_slices_Index_int_53_2 m a0 a1 a2 a3 = some o) : ACalls Try.prog 53 [.msl (0, 0) 1 a0 a1 false, .int .i64 a2] [((0, 0), .rows 1 (a3.map e_i64))] 3 (Gives 3 (.int .i64 o) [((0, 0), .rows 1 (a3.map e_i64))]) := bfn_of (L := f53b1_L) f53b1_low f53b1_fok (NB rfl) (f53b1_start h)

def f44b1_c0 : LCode := (.seq (.region [⟨some 4, .mv (.c (.bool false)), none⟩])
 (.seq (.region [⟨some 5, .mv (.t 0), none⟩,
   ⟨some 6, .mv (.t 1), none⟩,
   ⟨some 7, .call 53 [(.t 5), (.t 6)], none⟩,
   ⟨some 8, .bin .geq (.t 7) (.c (.int .i64 0)), none⟩,
   ⟨some 4, .mv (.t 8), none⟩])
 .ret))
def f44b1_lay : Lay := ⟨9, [], false⟩
def f44b1_res : List LRes := [.t 4]
def f44b1_L : LFn := ⟨2, f44b1_lay, f44b1_c0, f44b1_res⟩
theorem f44b1_low : lowFn Try.prog [] 44 = some f44b1_L := by kernel_rfl
theorem f44b1_fok : FnOk Try.prog 44 := ⟨_, Try.func44, rfl, rfl⟩
noncomputable def S_slices_Contains_int_44_2 (m : Option Nat) (a0 : Nat) (a1 : Nat) (a2 : Int) (a3 : List Int) : Option Bool :=
  (S_slices_Index_int_53_2 m a0 a1 a2 a3).bind fun v1 =>
  some (decide (v1 ≥ 0))

def f44b1_Q (a0 : Nat) (a1 : Nat) (a2 : Int) (a3 : List Int) (o : Bool) : Exit → Env → AHeap → Nat → Prop := FinK f44b1_res (FinTo 3 3 (.bool o) [((0, 0), .rows 1 (a3.map e_i64))])

theorem f44b1_start {a0 : Nat} {a1 : Nat} {a2 : Int} {a3 : List Int} {m : Option Nat} {o : Bool} (h : S_slices_Contains_int_44_2 m a0 a1 a2 a3 = some o) : LWp Try.prog f44b1_lay 3 f44b1_c0 (f44b1_Q a0 a1 a2 a3 o) (initEnv 0 [.msl (0, 0) 1 a0 a1 false, .int .i64 a2]) [((0, 0), .rows 1 (a3.map e_i64))] 3 := by
  unfold S_slices_Contains_int_44_2 at h
  refine seqI ?_
  refine regI ?_
  refine seqI ?_
  refine regI ?_
  obtain ⟨v1, h1, h⟩ := bind_some h
  refine bcall (k := 3) (m := 0) (L' := [((0, 0), .rows 1 (a3.map e_i64))]) (rest := []) (R' := .int .i64 v1) [((0, 0), (0, 0))] (f53b1_ok h1) rfl rfl rfl (AI (Vw.msl _ _ _ _ _ _ rfl) (AI (VS rfl) TT)) (AI (h0I (0, 0) rfl rfl (BVw.enc e_i64 (fun _ => rfl) _ a3)) TT) (nid_ren _ rfl) (AI rfl (AI (rows_ren e_i64 (fun _ => rfl) _ _) TT)) rfl ?_
  refine retI ?_
  cases h
  exact AI TT (finI (n' := 4) [] [] rfl rfl (VS rfl) (AI (AI rfl (BVw.enc e_i64 (fun _ => rfl) _ a3)) TT))

theorem f44b1_ok {a0 : Nat} {a1 : Nat} {a2 : Int} {a3 : List Int} {m : Option Nat} {o : Bool} (h : S_slices_Contains_int_44_2 m a0 a1 a2 a3 = some o) : ACalls Try.prog 44 [.msl (0, 0) 1 a0 a1 false, .int .i64 a2] [((0, 0), .rows 1 (a3.map e_i64))] 3 (Gives 3 (.bool o) [((0, 0), .rows 1 (a3.map e_i64))]) := bfn_of (L := f44b1_L) f44b1_low f44b1_fok (NB rfl) (f44b1_start h)

def f25b0_c5 : LCode := (.region [⟨some 57, .bin .add (.t 36) (.c (.int .i64 1)), none⟩,
   ⟨some 36, .mv (.t 57), none⟩])
def f25b0_c1 : LCode := (.seq (.region [⟨some 37, .bin .lss (.t 36) (.t 35), none⟩])
 (.seq (.cond (.t 37)
  .skip
  (.exit 4))
 (.seq (.block 5
  (.seq (.region [⟨some 38, .iaddr 1 (.t 34) (.t 36), none⟩,
    ⟨some 39, .load false 1 (.t 38), none⟩,
    ⟨some 12, .mv (.t 39), none⟩])
  (.seq (.region [⟨some 40, .mv (.t 6), none⟩,
    ⟨some 41, .mv (.t 12), none⟩,
    ⟨some 42, .iaddr 1 (.t 40) (.t 41), none⟩,
    ⟨some 43, .load false 1 (.t 42), none⟩,
    ⟨some 44, .mv (.t 7), none⟩,
    ⟨some 45, .call 44 [(.t 43), (.t 44)], none⟩,
    ⟨some 46, .un .not (.t 45), none⟩])
  (.cond (.t 46)
   (.region [⟨some 47, .mv (.t 6), none⟩,
     ⟨some 48, .mv (.t 12), none⟩,
     ⟨some 49, .mv (.t 6), none⟩,
     ⟨some 50, .mv (.t 12), none⟩,
     ⟨some 51, .iaddr 1 (.t 49) (.t 50), none⟩,
     ⟨some 52, .load false 1 (.t 51), none⟩,
     ⟨some 53, .mv (.t 7), none⟩,
     ⟨some 54, .mkSl true 1 [(.int .i64 0)] 1 [(0, (.t 53))], none⟩,
     ⟨some 55, .app true 1 8 (.t 52) (.t 54), none⟩,
     ⟨some 56, .iaddr 1 (.t 47) (.t 48), none⟩,
     ⟨none, .store 1 (.t 56) (.t 55), none⟩])
   .skip))))
 f25b0_c5)))
def f25b0_c0 : LCode := (.region [⟨some 58, .bin .add (.t 29) (.c (.int .i64 1)), none⟩,
   ⟨some 29, .mv (.t 58), none⟩])
def f25b0_c3 : LCode := (.seq (.region [⟨some 30, .bin .lss (.t 29) (.t 28), none⟩])
 (.seq (.cond (.t 30)
  .skip
  (.exit 2))
 (.seq (.block 3
  (.seq (.region [⟨some 31, .iaddr 2 (.t 27) (.t 29), none⟩,
    ⟨some 32, .load true 2 (.t 31), none⟩,
    ⟨some 10, .alloc [(.int .i64 0), (.isl 1 [] true)], none⟩,
    ⟨none, .store 2 (.t 10) (.t 32), none⟩])
  (.seq (.region [⟨some 33, .faddr 1 (.t 10), none⟩,
    ⟨some 34, .load false 1 (.t 33), none⟩,
    ⟨some 35, .len false (.t 34), none⟩,
    ⟨some 36, .mv (.c (.int .i64 0)), none⟩])
  (.block 4
   (.loop
    f25b0_c1)))))
 f25b0_c0)))
def f25b0_c2 : LCode := (.region [⟨some 59, .bin .add (.t 22) (.c (.int .i64 1)), none⟩,
   ⟨some 22, .mv (.t 59), none⟩])
def f25b0_c6 : LCode := (.seq (.region [⟨some 23, .bin .lss (.t 22) (.t 21), none⟩])
 (.seq (.cond (.t 23)
  .skip
  (.exit 0))
 (.seq (.block 1
  (.seq (.region [⟨some 24, .mv (.t 22), none⟩,
    ⟨some 25, .iaddr 1 (.t 20) (.t 22), none⟩,
    ⟨some 26, .load false 1 (.t 25), none⟩,
    ⟨some 7, .mv (.t 24), none⟩,
    ⟨some 8, .mv (.t 26), none⟩])
  (.seq (.region [⟨some 27, .mv (.t 8), none⟩,
    ⟨some 28, .len false (.t 27), none⟩,
    ⟨some 29, .mv (.c (.int .i64 0)), none⟩])
  (.block 2
   (.loop
    f25b0_c3)))))
 f25b0_c2)))
def f25b0_c8 : LCode := (.region [⟨some 106, .bin .add (.t 94) (.c (.int .i64 1)), none⟩,
   ⟨some 94, .mv (.t 106), none⟩])
def f25b0_c7 : LCode := (.seq (.region [⟨some 95, .bin .lss (.t 94) (.t 93), none⟩])
 (.seq (.cond (.t 95)
  .skip
  (.exit 8))
 (.seq (.block 9
  (.seq (.region [⟨some 96, .iaddr 1 (.t 92) (.t 94), none⟩,
    ⟨some 97, .load false 1 (.t 96), none⟩,
    ⟨some 16, .mv (.t 97), none⟩])
  (.seq (.region [⟨some 98, .mv (.t 2), none⟩,
    ⟨some 99, .mv (.t 16), none⟩,
    ⟨some 100, .call 44 [(.t 98), (.t 99)], none⟩,
    ⟨some 101, .un .not (.t 100), none⟩])
  (.cond (.t 101)
   (.region [⟨some 102, .mv (.t 2), none⟩,
     ⟨some 103, .mv (.t 16), none⟩,
     ⟨some 104, .mkSl true 1 [(.int .i64 0)] 1 [(0, (.t 103))], none⟩,
     ⟨some 105, .app false 1 8 (.t 102) (.t 104), none⟩,
     ⟨some 2, .mv (.t 105), none⟩])
   .skip))))
 f25b0_c8)))
def f25b0_c9 : LCode := (.seq (.seq (.region [⟨some 60, .mv (.t 2), none⟩,
   ⟨some 61, .len false (.t 60), none⟩,
   ⟨some 62, .bin .gtr (.t 61) (.c (.int .i64 0)), none⟩])
 (.cond (.t 62)
  .skip
  (.exit 6)))
 (.block 7
  (.seq (.region [⟨some 63, .mv (.t 2), none⟩,
    ⟨some 64, .iaddr 1 (.t 63) (.c (.int .i64 0)), none⟩,
    ⟨some 65, .load false 1 (.t 64), none⟩,
    ⟨some 13, .mv (.t 65), none⟩])
  (.seq (.region [⟨some 66, .mv (.t 2), none⟩,
    ⟨some 67, .slSl 1 (.t 66) (some (.c (.int .i64 1))) none none, none⟩,
    ⟨some 2, .mv (.t 67), none⟩])
  (.seq (.draw [⟨⟨some 68, .mv (.t 1), none⟩, []⟩,
    ⟨⟨some 69, .mv (.t 13), none⟩, []⟩,
    ⟨⟨some 70, .iaddr 1 (.t 68) (.t 69), none⟩, []⟩,
    ⟨⟨some 71, .load false 1 (.t 70), none⟩, []⟩,
    ⟨⟨some 72, .mv (.t 0), none⟩, []⟩,
    ⟨⟨some 73, .mv (.t 13), none⟩, []⟩,
    ⟨⟨some 74, .iaddr 1 (.t 72) (.t 73), none⟩, []⟩,
    ⟨⟨some 75, .load false 1 (.t 74), none⟩, []⟩,
    ⟨⟨some 76, .mv (.t 1), none⟩, []⟩,
    ⟨⟨some 77, .call 27 [(.t 75), (.t 76)], none⟩, [3]⟩,
    ⟨⟨some 78, .bin .or (.t 71) (.t 77), none⟩, []⟩,
    ⟨⟨some 14, .mv (.t 78), none⟩, []⟩])
  (.seq (.seq (.region [⟨some 79, .mv (.t 14), none⟩,
    ⟨some 80, .mv (.t 1), none⟩,
    ⟨some 81, .mv (.t 13), none⟩,
    ⟨some 82, .iaddr 1 (.t 80) (.t 81), none⟩,
    ⟨some 83, .load false 1 (.t 82), none⟩,
    ⟨some 84, .bin .eql (.t 79) (.t 83), none⟩])
  (.cond (.t 84)
   (.exit 7)
   .skip))
  (.seq (.region [⟨some 85, .mv (.t 1), none⟩,
    ⟨some 86, .mv (.t 13), none⟩,
    ⟨some 87, .mv (.t 14), none⟩,
    ⟨some 88, .iaddr 1 (.t 85) (.t 86), none⟩,
    ⟨none, .store 1 (.t 88) (.t 87), none⟩])
  (.seq (.region [⟨some 89, .mv (.t 6), none⟩,
    ⟨some 90, .mv (.t 13), none⟩,
    ⟨some 91, .iaddr 1 (.t 89) (.t 90), none⟩,
    ⟨some 92, .load false 1 (.t 91), none⟩,
    ⟨some 93, .len false (.t 92), none⟩,
    ⟨some 94, .mv (.c (.int .i64 0)), none⟩])
  (.block 8
   (.loop
    f25b0_c7))))))))))
def f25b0_c4 : LCode := (.block 6
  (.loop
   f25b0_c9))
def f25b0_c10 : LCode := (.seq (.region [⟨some 17, .mv (.t 0), none⟩,
   ⟨some 18, .len false (.t 17), none⟩,
   ⟨some 19, .mkslice false 1 24 [(.isl 1 [] true)] (.t 18) (.t 18), none⟩,
   ⟨some 6, .mv (.t 19), none⟩])
 (.seq (.seq (.region [⟨some 20, .mv (.t 0), none⟩,
   ⟨some 21, .len false (.t 20), none⟩,
   ⟨some 22, .mv (.c (.int .i64 0)), none⟩])
 (.block 0
  (.loop
   f25b0_c6)))
 f25b0_c4))
def f25b0_lay : Lay := ⟨107, [19, 105], false⟩
def f25b0_res : List LRes := []
def f25b0_L : LFn := ⟨3, f25b0_lay, f25b0_c10, f25b0_res⟩
theorem f25b0_low : lowFn Try.prog [19, 105] 25 = some f25b0_L := by kernel_rfl
theorem f25b0_fok : FnOk Try.prog 25 := ⟨_, Try.func25, rfl, rfl⟩
def f25b0_Q (a0 : List (List G_QRule)) (a1 : List Int) (a2 : List Int) (o : (List Int)) : Exit → Env → AHeap → Nat → Prop := FinK f25b0_res (FinTo 3 3 (.tup []) [((0, 0), .rows 1 (o.map e_i64))])

def f25b0_L9_env (a0 : List (List G_QRule)) (a1 : List Int) (a2 : List Int) (s : (Int × (List (List Int)))) : Env := [(0, .isl 1 (a0.map eB) false), (1, .msl (0, 0) 1 0 a1.length true), (2, .msl (3, 0) 1 0 a2.length true), (6, .msl (4, 0) 1 0 s.2.length true), (20, .isl 1 (a0.map eB) false), (21, .int .i64 ((a0.map eB).length : Int)), (22, .int .i64 s.1)]
def f25b0_L9_hp (a0 : List (List G_QRule)) (a1 : List Int) (a2 : List Int) (s : (Int × (List (List Int)))) : AHeap := ([((0, 0), .rows 1 (a1.map e_i64)), ((3, 0), .rows 1 (a2.map e_i64)), ((4, 0), .rows 1 (outG 5 1 (s.2.map (List.map e_i64))))] ++ (fam 5 s.2.length none))
def f25b0_L9_Q (a0 : List (List G_QRule)) (a1 : List Int) (a2 : List Int) (o : (List Int)) : Exit → Env → AHeap → Nat → Prop := (QBlock 0 (QSeq Try.prog f25b0_lay 3 f25b0_c4 (f25b0_Q a0 a1 a2 o)))

def f25b0_L12_env (a0 : List (List G_QRule)) (a1 : List Int) (a2 : List Int) (v27 : Int) (s : (Int × (List (List Int)))) : Env := [(0, .isl 1 (a0.map eB) false), (1, .msl (0, 0) 1 0 a1.length true), (2, .msl (3, 0) 1 0 a2.length true), (6, .msl (4, 0) 1 0 s.2.length true), (7, .int .i64 v27), (20, .isl 1 (a0.map eB) false), (21, .int .i64 ((a0.map eB).length : Int)), (22, .int .i64 v27), (27, .isl 2 ((a0.getD v27.toNat default).map e_QRule) false), (28, .int .i64 (((a0.getD v27.toNat default).map e_QRule).length : Int)), (29, .int .i64 s.1)]
def f25b0_L12_hp (a0 : List (List G_QRule)) (a1 : List Int) (a2 : List Int) (v27 : Int) (s : (Int × (List (List Int)))) : AHeap := ([((0, 0), .rows 1 (a1.map e_i64)), ((3, 0), .rows 1 (a2.map e_i64)), ((4, 0), .rows 1 (outG 5 1 (s.2.map (List.map e_i64))))] ++ (fam 5 s.2.length none))
def f25b0_L12_Q (a0 : List (List G_QRule)) (a1 : List Int) (a2 : List Int) (o : ((Int × (List (List Int))) ⊕ (List Int))) : Exit → Env → AHeap → Nat → Prop := (QBlock 2 (QBlock 1 (QSeq Try.prog f25b0_lay 3 f25b0_c2 (BodyQ 3 6 (f25b0_L9_env a0 a1 a2) (f25b0_L9_hp a0 a1 a2) (f25b0_L9_Q a0 a1 a2) o))))

def f25b0_L13_env (a0 : List (List G_QRule)) (a1 : List Int) (a2 : List Int) (v27 : Int) (v63 : Int) (s : (Int × (List (List Int)))) : Env := [(0, .isl 1 (a0.map eB) false), (1, .msl (0, 0) 1 0 a1.length true), (2, .msl (3, 0) 1 0 a2.length true), (6, .msl (4, 0) 1 0 s.2.length true), (7, .int .i64 v27), (20, .isl 1 (a0.map eB) false), (21, .int .i64 ((a0.map eB).length : Int)), (22, .int .i64 v27), (27, .isl 2 ((a0.getD v27.toNat default).map e_QRule) false), (28, .int .i64 (((a0.getD v27.toNat default).map e_QRule).length : Int)), (29, .int .i64 v63), (34, .isl 1 ((((a0.getD v27.toNat default).getD v63.toNat default).f_All).map e_i64) false), (35, .int .i64 (((((a0.getD v27.toNat default).getD v63.toNat default).f_All).map e_i64).length : Int)), (36, .int .i64 s.1)]
def f25b0_L13_hp (a0 : List (List G_QRule)) (a1 : List Int) (a2 : List Int) (v27 : Int) (v63 : Int) (s : (Int × (List (List Int)))) : AHeap := ([((0, 0), .rows 1 (a1.map e_i64)), ((3, 0), .rows 1 (a2.map e_i64)), ((4, 0), .rows 1 (outG 5 1 (s.2.map (List.map e_i64))))] ++ (fam 5 s.2.length none))
def f25b0_L13_Q (a0 : List (List G_QRule)) (a1 : List Int) (a2 : List Int) (v27 : Int) (o : ((Int × (List (List Int))) ⊕ ((Int × (List (List Int))) ⊕ (List Int)))) : Exit → Env → AHeap → Nat → Prop := (QBlock 4 (QBlock 3 (QSeq Try.prog f25b0_lay 3 f25b0_c0 (BodyQ 3 6 (f25b0_L12_env a0 a1 a2 v27) (f25b0_L12_hp a0 a1 a2 v27) (f25b0_L12_Q a0 a1 a2) o))))

noncomputable def S_fixpoint_propagate_25_j37 (m : Option Nat) (a0 : List (List G_QRule)) (a1 : List Int) (a2 : List Int) (v27 : Int) (v63 : Int) (v75 : Int) (v80 : List (List Int)) : Option ((Int × (List (List Int))) ⊕ ((Int × (List (List Int))) ⊕ ((Int × (List (List Int))) ⊕ (List Int)))) :=
  some (.inl ((W (v75 + 1)), v80))

theorem f25b0_j37_ok {a0 : List (List G_QRule)} {a1 : List Int} {a2 : List Int} {v27 : Int} {v63 : Int} {v75 : Int} {v80 : List (List Int)} {m : Option Nat} {o : ((Int × (List (List Int))) ⊕ ((Int × (List (List Int))) ⊕ ((Int × (List (List Int))) ⊕ (List Int))))} (h : S_fixpoint_propagate_25_j37 m a0 a1 a2 v27 v63 v75 v80 = some o) :
    LWp Try.prog f25b0_lay 3 f25b0_c5 (BodyQ 3 6 (f25b0_L13_env a0 a1 a2 v27 v63) (f25b0_L13_hp a0 a1 a2 v27 v63) (f25b0_L13_Q a0 a1 a2 v27) o) [(0, .isl 1 (a0.map eB) false), (1, .msl (0, 0) 1 0 a1.length true), (2, .msl (3, 0) 1 0 a2.length true), (6, .msl (4, 0) 1 0 v80.length true), (7, .int .i64 v27), (20, .isl 1 (a0.map eB) false), (21, .int .i64 ((a0.map eB).length : Int)), (22, .int .i64 v27), (27, .isl 2 ((a0.getD v27.toNat default).map e_QRule) false), (28, .int .i64 (((a0.getD v27.toNat default).map e_QRule).length : Int)), (29, .int .i64 v63), (34, .isl 1 ((((a0.getD v27.toNat default).getD v63.toNat default).f_All).map e_i64) false), (35, .int .i64 (((((a0.getD v27.toNat default).getD v63.toNat default).f_All).map e_i64).length : Int)), (36, .int .i64 v75)] ([((0, 0), .rows 1 (a1.map e_i64)), ((3, 0), .rows 1 (a2.map e_i64)), ((4, 0), .rows 1 (outG 5 1 (v80.map (List.map e_i64))))] ++ (fam 5 v80.length none)) 6 := by
  unfold S_fixpoint_propagate_25_j37 at h
  refine regI ?_
  cases h
  exact AI rfl (simJ (M := [((3, 0), (3, 0)), ((4, 0), (4, 0))]) (lit' := [((0, 0), .rows 1 (a1.map e_i64)), ((3, 0), .rows 1 (a2.map e_i64)), ((4, 0), .rows 1 (outG 5 1 (v80.map (List.map e_i64))))]) (T := (fam 5 v80.length none)) (q := 5) (q' := 5) rfl (IsFam.cast (by first | rfl | simp) IsFam.base) (AI (VS rfl) (AI (Vw.mslE rfl (by first | rfl | (simp; done) | (simp at *; omega)) rfl) (AI (Vw.mslE rfl (by first | rfl | (simp; done) | (simp at *; omega)) rfl) (AI (Vw.mslE rfl (by first | rfl | (simp; done) | (simp at *; omega)) rfl) (AI (VS rfl) (AI (VS rfl) (AI (VS rfl) (AI (VS rfl) (AI (VS rfl) (AI (VS rfl) (AI (VS rfl) (AI (VS rfl) (AI (VS rfl) (AI (VS rfl) TT)))))))))))))) (AI (AI rfl (BVw.enc e_i64 (fun _ => rfl) _ a1)) (AI (AI rfl (BVw.enc e_i64 (fun _ => rfl) _ a2)) (AI (AI rfl BVw.grJ) TT))))

noncomputable def S_fixpoint_propagate_25_j38 (m : Option Nat) (a0 : List (List G_QRule)) (a1 : List Int) (a2 : List Int) (v27 : Int) (v63 : Int) (v76 : List (List Int)) : Option ((Int × (List (List Int))) ⊕ ((Int × (List (List Int))) ⊕ (List Int))) :=
  some (.inl ((W (v63 + 1)), v76))

noncomputable def S_fixpoint_propagate_25_b13 (m : Option Nat) (a0 : List (List G_QRule)) (a1 : List Int) (a2 : List Int) (v27 : Int) (v63 : Int) (v75 : Int) (v76 : List (List Int)) : Option ((Int × (List (List Int))) ⊕ ((Int × (List (List Int))) ⊕ ((Int × (List (List Int))) ⊕ (List Int)))) :=
  if (decide (v75 < (((((a0.getD v27.toNat default).getD v63.toNat default).f_All).map e_i64).length : Int))) = true then
    if (0 : Int) ≤ v75 ∧ v75 < (((((a0.getD v27.toNat default).getD v63.toNat default).f_All).map e_i64).length : Int) then
    if (0 : Int) ≤ ((((a0.getD v27.toNat default).getD v63.toNat default).f_All).getD v75.toNat default) ∧ ((((a0.getD v27.toNat default).getD v63.toNat default).f_All).getD v75.toNat default) < ((v76.length : Nat) : Int) then
    if (0 + ((((a0.getD v27.toNat default).getD v63.toNat default).f_All).getD v75.toNat default).toNat) < v76.length then
    (S_slices_Contains_int m (v76.getD (0 + ((((a0.getD v27.toNat default).getD v63.toNat default).f_All).getD v75.toNat default).toNat) default) v27).bind fun v79 =>
    if (!v79) = true then
      if (0 : Int) ≤ ((((a0.getD v27.toNat default).getD v63.toNat default).f_All).getD v75.toNat default) ∧ ((((a0.getD v27.toNat default).getD v63.toNat default).f_All).getD v75.toNat default) < ((v76.length : Nat) : Int) then
      if (0 + ((((a0.getD v27.toNat default).getD v63.toNat default).f_All).getD v75.toNat default).toNat) < v76.length then
      if (((v76.getD (0 + ((((a0.getD v27.toNat default).getD v63.toNat default).f_All).getD v75.toNat default).toNat) default) ++ ([v27] : List Int)).map e_i64).length * 8 ≤ 140737488355328 then
      if (0 : Int) ≤ ((((a0.getD v27.toNat default).getD v63.toNat default).f_All).getD v75.toNat default) ∧ ((((a0.getD v27.toNat default).getD v63.toNat default).f_All).getD v75.toNat default) < ((v76.length : Nat) : Int) then
      if (0 + ((((a0.getD v27.toNat default).getD v63.toNat default).f_All).getD v75.toNat default).toNat) < v76.length then
      S_fixpoint_propagate_25_j37 m a0 a1 a2 v27 v63 v75 (v76.set (0 + ((((a0.getD v27.toNat default).getD v63.toNat default).f_All).getD v75.toNat default).toNat) ((v76.getD (0 + ((((a0.getD v27.toNat default).getD v63.toNat default).f_All).getD v75.toNat default).toNat) default) ++ ([v27] : List Int)))
      else none
      else none
      else none
      else none
      else none
    else
      S_fixpoint_propagate_25_j37 m a0 a1 a2 v27 v63 v75 v76
    else none
    else none
    else none
  else
    Option.map Sum.inr (
      S_fixpoint_propagate_25_j38 m a0 a1 a2 v27 v63 v76)

noncomputable def S_fixpoint_propagate_25_l13 (m : Option Nat) (a0 : List (List G_QRule)) (a1 : List Int) (a2 : List Int) (v27 : Int) (v63 : Int) (v75 : Int) (v76 : List (List Int)) : Option ((Int × (List (List Int))) ⊕ ((Int × (List (List Int))) ⊕ (List Int))) := loopM m (fun (s : (Int × (List (List Int)))) => S_fixpoint_propagate_25_b13 m a0 a1 a2 v27 v63 s.1 s.2) (v75, v76)

theorem f25b0_j38_ok {a0 : List (List G_QRule)} {a1 : List Int} {a2 : List Int} {v27 : Int} {v63 : Int} {v76 : List (List Int)} {m : Option Nat} {o : ((Int × (List (List Int))) ⊕ ((Int × (List (List Int))) ⊕ (List Int)))} (h : S_fixpoint_propagate_25_j38 m a0 a1 a2 v27 v63 v76 = some o) :
    LWp Try.prog f25b0_lay 3 f25b0_c0 (BodyQ 3 6 (f25b0_L12_env a0 a1 a2 v27) (f25b0_L12_hp a0 a1 a2 v27) (f25b0_L12_Q a0 a1 a2) o) [(0, .isl 1 (a0.map eB) false), (1, .msl (0, 0) 1 0 a1.length true), (2, .msl (3, 0) 1 0 a2.length true), (6, .msl (4, 0) 1 0 v76.length true), (7, .int .i64 v27), (20, .isl 1 (a0.map eB) false), (21, .int .i64 ((a0.map eB).length : Int)), (22, .int .i64 v27), (27, .isl 2 ((a0.getD v27.toNat default).map e_QRule) false), (28, .int .i64 (((a0.getD v27.toNat default).map e_QRule).length : Int)), (29, .int .i64 v63)] ([((0, 0), .rows 1 (a1.map e_i64)), ((3, 0), .rows 1 (a2.map e_i64)), ((4, 0), .rows 1 (outG 5 1 (v76.map (List.map e_i64))))] ++ (fam 5 v76.length none)) 6 := by
  unfold S_fixpoint_propagate_25_j38 at h
  refine regI ?_
  cases h
  exact AI rfl (simJ (M := [((3, 0), (3, 0)), ((4, 0), (4, 0))]) (lit' := [((0, 0), .rows 1 (a1.map e_i64)), ((3, 0), .rows 1 (a2.map e_i64)), ((4, 0), .rows 1 (outG 5 1 (v76.map (List.map e_i64))))]) (T := (fam 5 v76.length none)) (q := 5) (q' := 5) rfl (IsFam.cast (by first | rfl | simp) IsFam.base) (AI (VS rfl) (AI (Vw.mslE rfl (by first | rfl | (simp; done) | (simp at *; omega)) rfl) (AI (Vw.mslE rfl (by first | rfl | (simp; done) | (simp at *; omega)) rfl) (AI (Vw.mslE rfl (by first | rfl | (simp; done) | (simp at *; omega)) rfl) (AI (VS rfl) (AI (VS rfl) (AI (VS rfl) (AI (VS rfl) (AI (VS rfl) (AI (VS rfl) (AI (VS rfl) TT))))))))))) (AI (AI rfl (BVw.enc e_i64 (fun _ => rfl) _ a1)) (AI (AI rfl (BVw.enc e_i64 (fun _ => rfl) _ a2)) (AI (AI rfl BVw.grJ) TT))))

theorem f25b0_L13_bok {a0 : List (List G_QRule)} {a1 : List Int} {a2 : List Int} {v27 : Int} {v63 : Int} {v75 : Int} {v76 : List (List Int)} {m : Option Nat} {o : (Int × (List (List Int))) ⊕ ((Int × (List (List Int))) ⊕ ((Int × (List (List Int))) ⊕ (List Int)))} (h : S_fixpoint_propagate_25_b13 m a0 a1 a2 v27 v63 v75 v76 = some o) :
    LWp Try.prog f25b0_lay 3 f25b0_c1 (BodyQ 3 6 (f25b0_L13_env a0 a1 a2 v27 v63) (f25b0_L13_hp a0 a1 a2 v27 v63) (f25b0_L13_Q a0 a1 a2 v27) o) [(0, .isl 1 (a0.map eB) false), (1, .msl (0, 0) 1 0 a1.length true), (2, .msl (3, 0) 1 0 a2.length true), (6, .msl (4, 0) 1 0 v76.length true), (7, .int .i64 v27), (20, .isl 1 (a0.map eB) false), (21, .int .i64 ((a0.map eB).length : Int)), (22, .int .i64 v27), (27, .isl 2 ((a0.getD v27.toNat default).map e_QRule) false), (28, .int .i64 (((a0.getD v27.toNat default).map e_QRule).length : Int)), (29, .int .i64 v63), (34, .isl 1 ((((a0.getD v27.toNat default).getD v63.toNat default).f_All).map e_i64) false), (35, .int .i64 (((((a0.getD v27.toNat default).getD v63.toNat default).f_All).map e_i64).length : Int)), (36, .int .i64 v75)] ([((0, 0), .rows 1 (a1.map e_i64)), ((3, 0), .rows 1 (a2.map e_i64)), ((4, 0), .rows 1 (outG 5 1 (v76.map (List.map e_i64))))] ++ (fam 5 v76.length none)) 6 := by
  unfold S_fixpoint_propagate_25_b13 at h
  refine seqI ?_
  refine regI ?_
  refine seqI ?_
  refine condI (v := (decide (v75 < (((((a0.getD v27.toNat default).getD v63.toNat default).f_All).map e_i64).length : Int)))) rfl TT (fun h364 => ?_) (fun h364 => ?_)
  · have h := ite_tt h364 h
    refine skipI ?_
    refine seqI ?_
    refine blockI ?_
    refine seqI ?_
    refine regI ?_
    obtain ⟨h365, h⟩ := ite_some h
    refine AI h365 ?_
    refine EX (e_i64 ((((a0.getD v27.toNat default).getD v63.toNat default).f_All).getD v75.toNat default)) (AI (getD_enc e_i64 _ _ (idx_ltL e_i64 h365)) (AI (AI (idx_lt h365) (NB rfl)) ?_))
    refine seqI ?_
    refine regI ?_
    obtain ⟨h366, h⟩ := ite_some h
    refine AI h366 ?_
    obtain ⟨h367, h⟩ := ite_some h
    refine EX ([.osl (5, (0 + ((((a0.getD v27.toNat default).getD v63.toNat default).f_All).getD v75.toNat default).toNat)) 1 ((v76.getD (0 + ((((a0.getD v27.toNat default).getD v63.toNat default).f_All).getD v75.toNat default).toNat) default).map e_i64)]) (AI (outG_rowE e_i64 h367) (AI (AI (outG_ltE e_i64 h367) (NB rfl)) ?_))
    obtain ⟨v79, h368, h⟩ := bind_some h
    refine PFn.call (f44_ok h368) (AI (Vw.oslI _ _ _) (AI (VS rfl) TT)) ?_
    refine LWp.sim (e := [(0, .isl 1 (a0.map eB) false), (1, .msl (0, 0) 1 0 a1.length true), (2, .msl (3, 0) 1 0 a2.length true), (6, .msl (4, 0) 1 0 v76.length true), (7, .int .i64 v27), (12, .int .i64 ((((a0.getD v27.toNat default).getD v63.toNat default).f_All).getD v75.toNat default)), (20, .isl 1 (a0.map eB) false), (21, .int .i64 ((a0.map eB).length : Int)), (22, .int .i64 v27), (27, .isl 2 ((a0.getD v27.toNat default).map e_QRule) false), (28, .int .i64 (((a0.getD v27.toNat default).map e_QRule).length : Int)), (29, .int .i64 v63), (34, .isl 1 ((((a0.getD v27.toNat default).getD v63.toNat default).f_All).map e_i64) false), (35, .int .i64 (((((a0.getD v27.toNat default).getD v63.toNat default).f_All).map e_i64).length : Int)), (36, .int .i64 v75), (46, .bool (!v79))]) (L := ([((0, 0), .rows 1 (a1.map e_i64)), ((3, 0), .rows 1 (a2.map e_i64)), ((4, 0), .rows 1 (outG 5 1 (v76.map (List.map e_i64))))] ++ (fam 5 v76.length none))) (n := 6) ?_ ?_
    · exact simJ (M := [((3, 0), (3, 0)), ((4, 0), (4, 0))]) (lit' := [((0, 0), .rows 1 (a1.map e_i64)), ((3, 0), .rows 1 (a2.map e_i64)), ((4, 0), .rows 1 (outG 5 1 (v76.map (List.map e_i64))))]) (T := (fam 5 v76.length none)) (q := 5) (q' := 5) rfl (IsFam.cast (by first | rfl | simp) IsFam.base) (AI (VS rfl) (AI (Vw.mslE rfl (by first | rfl | (simp; done) | (simp at *; omega)) rfl) (AI (Vw.mslE rfl (by first | rfl | (simp; done) | (simp at *; omega)) rfl) (AI (Vw.mslE rfl (by first | rfl | (simp; done) | (simp at *; omega)) rfl) (AI (VS rfl) (AI (VS rfl) (AI (VS rfl) (AI (VS rfl) (AI (VS rfl) (AI (VS rfl) (AI (VS rfl) (AI (VS rfl) (AI (VS rfl) (AI (VS rfl) (AI (VS rfl) (AI (VS rfl) TT)))))))))))))))) (AI (AI rfl (BVw.enc e_i64 (fun _ => rfl) _ a1)) (AI (AI rfl (BVw.enc e_i64 (fun _ => rfl) _ a2)) (AI (AI rfl BVw.grJ) TT)))
    refine condI (v := (!v79)) rfl TT (fun h369 => ?_) (fun h369 => ?_)
    · have h := ite_tt h369 h
      refine LWp.sim (e := [(0, .isl 1 (a0.map eB) false), (1, .msl (0, 0) 1 0 a1.length true), (2, .msl (3, 0) 1 0 a2.length true), (6, .msl (4, 0) 1 0 v76.length true), (7, .int .i64 v27), (12, .int .i64 ((((a0.getD v27.toNat default).getD v63.toNat default).f_All).getD v75.toNat default)), (20, .isl 1 (a0.map eB) false), (21, .int .i64 ((a0.map eB).length : Int)), (22, .int .i64 v27), (27, .isl 2 ((a0.getD v27.toNat default).map e_QRule) false), (28, .int .i64 (((a0.getD v27.toNat default).map e_QRule).length : Int)), (29, .int .i64 v63), (34, .isl 1 ((((a0.getD v27.toNat default).getD v63.toNat default).f_All).map e_i64) false), (35, .int .i64 (((((a0.getD v27.toNat default).getD v63.toNat default).f_All).map e_i64).length : Int)), (36, .int .i64 v75)]) (L := ([((6, 0), .tok), ((0, 0), .rows 1 (a1.map e_i64)), ((3, 0), .rows 1 (a2.map e_i64)), ((4, 0), .rows 1 (outF 5 1 (v76.map (List.map e_i64)) (0 + ((((a0.getD v27.toNat default).getD v63.toNat default).f_All).getD v75.toNat default).toNat) (6, 0) ((v76.getD (0 + ((((a0.getD v27.toNat default).getD v63.toNat default).f_All).getD v75.toNat default).toNat) default).map e_i64)))] ++ (fam 5 v76.length (some (0 + ((((a0.getD v27.toNat default).getD v63.toNat default).f_All).getD v75.toNat default).toNat))))) (n := 7) ?_ ?_
      · exact simF (m := (6, 0)) (i := (0 + ((((a0.getD v27.toNat default).getD v63.toNat default).f_All).getD v75.toNat default).toNat)) (M := [((3, 0), (3, 0)), ((4, 0), (4, 0))]) (lit' := [((0, 0), .rows 1 (a1.map e_i64)), ((3, 0), .rows 1 (a2.map e_i64)), ((4, 0), .rows 1 (outG 5 1 (v76.map (List.map e_i64))))]) (T := (fam 5 v76.length none)) (q := 5) (q' := 5) rfl (by decide) (IsFam.cast (by first | rfl | simp) IsFam.base) (AI (VS rfl) (AI (Vw.mslE rfl (by first | rfl | (simp; done) | (simp at *; omega)) rfl) (AI (Vw.mslE rfl (by first | rfl | (simp; done) | (simp at *; omega)) rfl) (AI (Vw.mslE rfl (by first | rfl | (simp; done) | (simp at *; omega)) rfl) (AI (VS rfl) (AI (VS rfl) (AI (VS rfl) (AI (VS rfl) (AI (VS rfl) (AI (VS rfl) (AI (VS rfl) (AI (VS rfl) (AI (VS rfl) (AI (VS rfl) (AI (VS rfl) TT))))))))))))))) (AI (AI rfl (BVw.enc e_i64 (fun _ => rfl) _ a1)) (AI (AI rfl (BVw.enc e_i64 (fun _ => rfl) _ a2)) (AI (AI rfl (BVw.grFE e_i64 (by decide) rfl)) TT)))
      refine regI ?_
      obtain ⟨h372, h⟩ := ite_some h
      refine AI h372 ?_
      obtain ⟨h373, h⟩ := ite_some h
      refine EX ([.osl (6, 0) 1 ((v76.getD (0 + ((((a0.getD v27.toNat default).getD v63.toNat default).f_All).getD v75.toNat default).toNat) default).map e_i64)]) (AI (outF_rowE e_i64 h373) (AI (AI (outF_ltE e_i64 h373) (NB rfl)) ?_))
      obtain ⟨h374, h⟩ := ite_some h
      refine EX (((v76.getD (0 + ((((a0.getD v27.toNat default).getD v63.toNat default).f_All).getD v75.toNat default).toNat) default) ++ ([v27] : List Int)).map e_i64) (AI (app_enc e_i64 (v76.getD (0 + ((((a0.getD v27.toNat default).getD v63.toNat default).f_All).getD v75.toNat default).toNat) default) ([v27] : List Int)) (AI h374 ?_))
      obtain ⟨h375, h⟩ := ite_some h
      refine AI h375 ?_
      obtain ⟨h376, h⟩ := ite_some h
      refine EX (outF 5 1 (v76.map (List.map e_i64)) (0 + ((((a0.getD v27.toNat default).getD v63.toNat default).f_All).getD v75.toNat default).toNat) (7, 0) (((v76.getD (0 + ((((a0.getD v27.toNat default).getD v63.toNat default).f_All).getD v75.toNat default).toNat) default) ++ ([v27] : List Int)).map e_i64)) (AI (outF_setE e_i64 h376) (AI (AI rfl (AI (outF_ltE e_i64 h376) (NB rfl))) ?_))
      refine LWp.sim (e := [(0, .isl 1 (a0.map eB) false), (1, .msl (0, 0) 1 0 a1.length true), (2, .msl (3, 0) 1 0 a2.length true), (6, .msl (4, 0) 1 0 ((v76.set (0 + ((((a0.getD v27.toNat default).getD v63.toNat default).f_All).getD v75.toNat default).toNat) ((v76.getD (0 + ((((a0.getD v27.toNat default).getD v63.toNat default).f_All).getD v75.toNat default).toNat) default) ++ ([v27] : List Int))).length) true), (7, .int .i64 v27), (20, .isl 1 (a0.map eB) false), (21, .int .i64 ((a0.map eB).length : Int)), (22, .int .i64 v27), (27, .isl 2 ((a0.getD v27.toNat default).map e_QRule) false), (28, .int .i64 (((a0.getD v27.toNat default).map e_QRule).length : Int)), (29, .int .i64 v63), (34, .isl 1 ((((a0.getD v27.toNat default).getD v63.toNat default).f_All).map e_i64) false), (35, .int .i64 (((((a0.getD v27.toNat default).getD v63.toNat default).f_All).map e_i64).length : Int)), (36, .int .i64 v75)]) (L := ([((0, 0), .rows 1 (a1.map e_i64)), ((3, 0), .rows 1 (a2.map e_i64)), ((4, 0), .rows 1 (outG 5 1 ((v76.set (0 + ((((a0.getD v27.toNat default).getD v63.toNat default).f_All).getD v75.toNat default).toNat) ((v76.getD (0 + ((((a0.getD v27.toNat default).getD v63.toNat default).f_All).getD v75.toNat default).toNat) default) ++ ([v27] : List Int))).map (List.map e_i64))))] ++ (fam 5 (v76.set (0 + ((((a0.getD v27.toNat default).getD v63.toNat default).f_All).getD v75.toNat default).toNat) ((v76.getD (0 + ((((a0.getD v27.toNat default).getD v63.toNat default).f_All).getD v75.toNat default).toNat) default) ++ ([v27] : List Int))).length none))) (n := 7) ?_ ?_
      · exact simU (t := (7, 0)) (i := (0 + ((((a0.getD v27.toNat default).getD v63.toNat default).f_All).getD v75.toNat default).toNat)) (M := [((3, 0), (3, 0)), ((4, 0), (4, 0))]) (lit' := [((7, 0), .tok), ((0, 0), .rows 1 (a1.map e_i64)), ((3, 0), .rows 1 (a2.map e_i64)), ((4, 0), .rows 1 (outF 5 1 (v76.map (List.map e_i64)) (0 + ((((a0.getD v27.toNat default).getD v63.toNat default).f_All).getD v75.toNat default).toNat) (7, 0) (((v76.getD (0 + ((((a0.getD v27.toNat default).getD v63.toNat default).f_All).getD v75.toNat default).toNat) default) ++ ([v27] : List Int)).map e_i64)))]) (T := (AHeap.del (fam 5 v76.length (some (0 + ((((a0.getD v27.toNat default).getD v63.toNat default).f_All).getD v75.toNat default).toNat))) (6, 0))) (q := 5) (q' := 5) rfl (by decide) rfl (IsFam.cast (by first | rfl | simp) (IsFam.del (by decide) IsFam.base)) (AI (VS rfl) (AI (Vw.mslE rfl (by first | rfl | (simp; done) | (simp at *; omega)) rfl) (AI (Vw.mslE rfl (by first | rfl | (simp; done) | (simp at *; omega)) rfl) (AI (Vw.mslE rfl (by first | rfl | (simp; done) | (simp at *; omega)) rfl) (AI (VS rfl) (AI (VS rfl) (AI (VS rfl) (AI (VS rfl) (AI (VS rfl) (AI (VS rfl) (AI (VS rfl) (AI (VS rfl) (AI (VS rfl) (AI (VS rfl) TT)))))))))))))) (AI (AI rfl (BVw.enc e_i64 (fun _ => rfl) _ a1)) (AI (AI rfl (BVw.enc e_i64 (fun _ => rfl) _ a2)) (AI (AI rfl (BVw.grUE e_i64)) TT)))
      refine LWp.sim ?_ (f25b0_j37_ok h)
      exact simJ (M := [((3, 0), (3, 0)), ((4, 0), (4, 0))]) (lit' := [((0, 0), .rows 1 (a1.map e_i64)), ((3, 0), .rows 1 (a2.map e_i64)), ((4, 0), .rows 1 (outG 5 1 ((v76.set (0 + ((((a0.getD v27.toNat default).getD v63.toNat default).f_All).getD v75.toNat default).toNat) ((v76.getD (0 + ((((a0.getD v27.toNat default).getD v63.toNat default).f_All).getD v75.toNat default).toNat) default) ++ ([v27] : List Int))).map (List.map e_i64))))]) (T := (fam 5 (v76.set (0 + ((((a0.getD v27.toNat default).getD v63.toNat default).f_All).getD v75.toNat default).toNat) ((v76.getD (0 + ((((a0.getD v27.toNat default).getD v63.toNat default).f_All).getD v75.toNat default).toNat) default) ++ ([v27] : List Int))).length none)) (q := 5) (q' := 5) rfl (IsFam.cast (by first | rfl | simp) IsFam.base) (AI (VS rfl) (AI (Vw.mslE rfl (by first | rfl | (simp; done) | (simp at *; omega)) rfl) (AI (Vw.mslE rfl (by first | rfl | (simp; done) | (simp at *; omega)) rfl) (AI (Vw.mslE rfl (by first | rfl | (simp; done) | (simp at *; omega)) rfl) (AI (VS rfl) (AI (VS rfl) (AI (VS rfl) (AI (VS rfl) (AI (VS rfl) (AI (VS rfl) (AI (VS rfl) (AI (VS rfl) (AI (VS rfl) (AI (VS rfl) TT)))))))))))))) (AI (AI rfl (BVw.enc e_i64 (fun _ => rfl) _ a1)) (AI (AI rfl (BVw.enc e_i64 (fun _ => rfl) _ a2)) (AI (AI rfl BVw.grJ) TT)))
    · have h := ite_ff h369 h
      refine skipI ?_
      refine LWp.sim ?_ (f25b0_j37_ok h)
      exact simJ (M := [((3, 0), (3, 0)), ((4, 0), (4, 0))]) (lit' := [((0, 0), .rows 1 (a1.map e_i64)), ((3, 0), .rows 1 (a2.map e_i64)), ((4, 0), .rows 1 (outG 5 1 (v76.map (List.map e_i64))))]) (T := (fam 5 v76.length none)) (q := 5) (q' := 5) rfl (IsFam.cast (by first | rfl | simp) IsFam.base) (AI (VS rfl) (AI (Vw.mslE rfl (by first | rfl | (simp; done) | (simp at *; omega)) rfl) (AI (Vw.mslE rfl (by first | rfl | (simp; done) | (simp at *; omega)) rfl) (AI (Vw.mslE rfl (by first | rfl | (simp; done) | (simp at *; omega)) rfl) (AI (VS rfl) (AI (VS rfl) (AI (VS rfl) (AI (VS rfl) (AI (VS rfl) (AI (VS rfl) (AI (VS rfl) (AI (VS rfl) (AI (VS rfl) (AI (VS rfl) TT)))))))))))))) (AI (AI rfl (BVw.enc e_i64 (fun _ => rfl) _ a1)) (AI (AI rfl (BVw.enc e_i64 (fun _ => rfl) _ a2)) (AI (AI rfl BVw.grJ) TT)))
  · have h := ite_ff h364 h
    refine exitI ?_
    obtain ⟨o, hq, rfl⟩ := Option.map_eq_some_iff.1 h
    replace h := hq; clear hq
    refine AI nofun ?_
    refine LWp.sim ?_ (f25b0_j38_ok h)
    exact simJ (M := [((3, 0), (3, 0)), ((4, 0), (4, 0))]) (lit' := [((0, 0), .rows 1 (a1.map e_i64)), ((3, 0), .rows 1 (a2.map e_i64)), ((4, 0), .rows 1 (outG 5 1 (v76.map (List.map e_i64))))]) (T := (fam 5 v76.length none)) (q := 5) (q' := 5) rfl (IsFam.cast (by first | rfl | simp) IsFam.base) (AI (VS rfl) (AI (Vw.mslE rfl (by first | rfl | (simp; done) | (simp at *; omega)) rfl) (AI (Vw.mslE rfl (by first | rfl | (simp; done) | (simp at *; omega)) rfl) (AI (Vw.mslE rfl (by first | rfl | (simp; done) | (simp at *; omega)) rfl) (AI (VS rfl) (AI (VS rfl) (AI (VS rfl) (AI (VS rfl) (AI (VS rfl) (AI (VS rfl) (AI (VS rfl) TT))))))))))) (AI (AI rfl (BVw.enc e_i64 (fun _ => rfl) _ a1)) (AI (AI rfl (BVw.enc e_i64 (fun _ => rfl) _ a2)) (AI (AI rfl BVw.grJ) TT)))

theorem f25b0_L13_ok {a0 : List (List G_QRule)} {a1 : List Int} {a2 : List Int} {v27 : Int} {v63 : Int} {v75 : Int} {v76 : List (List Int)} {m : Option Nat} {o : ((Int × (List (List Int))) ⊕ ((Int × (List (List Int))) ⊕ (List Int)))} (h : S_fixpoint_propagate_25_l13 m a0 a1 a2 v27 v63 v75 v76 = some o) :
    LWp Try.prog f25b0_lay 3 (.loop f25b0_c1) (QBlock 4 (QBlock 3 (QSeq Try.prog f25b0_lay 3 f25b0_c0 (BodyQ 3 6 (f25b0_L12_env a0 a1 a2 v27) (f25b0_L12_hp a0 a1 a2 v27) (f25b0_L12_Q a0 a1 a2) o)))) [(0, .isl 1 (a0.map eB) false), (1, .msl (0, 0) 1 0 a1.length true), (2, .msl (3, 0) 1 0 a2.length true), (6, .msl (4, 0) 1 0 v76.length true), (7, .int .i64 v27), (20, .isl 1 (a0.map eB) false), (21, .int .i64 ((a0.map eB).length : Int)), (22, .int .i64 v27), (27, .isl 2 ((a0.getD v27.toNat default).map e_QRule) false), (28, .int .i64 (((a0.getD v27.toNat default).map e_QRule).length : Int)), (29, .int .i64 v63), (34, .isl 1 ((((a0.getD v27.toNat default).getD v63.toNat default).f_All).map e_i64) false), (35, .int .i64 (((((a0.getD v27.toNat default).getD v63.toNat default).f_All).map e_i64).length : Int)), (36, .int .i64 v75)] ([((0, 0), .rows 1 (a1.map e_i64)), ((3, 0), .rows 1 (a2.map e_i64)), ((4, 0), .rows 1 (outG 5 1 (v76.map (List.map e_i64))))] ++ (fam 5 v76.length none)) 6 :=
  LWp_loopM (m := m) (s := ((v75, v76) : (Int × (List (List Int))))) (r := o) (fun (s : (Int × (List (List Int)))) => S_fixpoint_propagate_25_b13 m a0 a1 a2 v27 v63 s.1 s.2) (f25b0_L13_env a0 a1 a2 v27 v63) (f25b0_L13_hp a0 a1 a2 v27 v63) (f25b0_L13_Q a0 a1 a2 v27) (fun s o h => f25b0_L13_bok h) h

noncomputable def S_fixpoint_propagate_25_j39 (m : Option Nat) (a0 : List (List G_QRule)) (a1 : List Int) (a2 : List Int) (v27 : Int) (v64 : List (List Int)) : Option ((Int × (List (List Int))) ⊕ (List Int)) :=
  some (.inl ((W (v27 + 1)), v64))

noncomputable def S_fixpoint_propagate_25_b12 (m : Option Nat) (a0 : List (List G_QRule)) (a1 : List Int) (a2 : List Int) (v27 : Int) (v63 : Int) (v64 : List (List Int)) : Option ((Int × (List (List Int))) ⊕ ((Int × (List (List Int))) ⊕ (List Int))) :=
  if (decide (v63 < (((a0.getD v27.toNat default).map e_QRule).length : Int))) = true then
    if (0 : Int) ≤ v63 ∧ v63 < (((a0.getD v27.toNat default).map e_QRule).length : Int) then
    S_fixpoint_propagate_25_l13 m a0 a1 a2 v27 v63 0 v64
    else none
  else
    Option.map Sum.inr (
      S_fixpoint_propagate_25_j39 m a0 a1 a2 v27 v64)

noncomputable def S_fixpoint_propagate_25_l12 (m : Option Nat) (a0 : List (List G_QRule)) (a1 : List Int) (a2 : List Int) (v27 : Int) (v63 : Int) (v64 : List (List Int)) : Option ((Int × (List (List Int))) ⊕ (List Int)) := loopM m (fun (s : (Int × (List (List Int)))) => S_fixpoint_propagate_25_b12 m a0 a1 a2 v27 s.1 s.2) (v63, v64)

theorem f25b0_j39_ok {a0 : List (List G_QRule)} {a1 : List Int} {a2 : List Int} {v27 : Int} {v64 : List (List Int)} {m : Option Nat} {o : ((Int × (List (List Int))) ⊕ (List Int))} (h : S_fixpoint_propagate_25_j39 m a0 a1 a2 v27 v64 = some o) :
    LWp Try.prog f25b0_lay 3 f25b0_c2 (BodyQ 3 6 (f25b0_L9_env a0 a1 a2) (f25b0_L9_hp a0 a1 a2) (f25b0_L9_Q a0 a1 a2) o) [(0, .isl 1 (a0.map eB) false), (1, .msl (0, 0) 1 0 a1.length true), (2, .msl (3, 0) 1 0 a2.length true), (6, .msl (4, 0) 1 0 v64.length true), (20, .isl 1 (a0.map eB) false), (21, .int .i64 ((a0.map eB).length : Int)), (22, .int .i64 v27)] ([((0, 0), .rows 1 (a1.map e_i64)), ((3, 0), .rows 1 (a2.map e_i64)), ((4, 0), .rows 1 (outG 5 1 (v64.map (List.map e_i64))))] ++ (fam 5 v64.length none)) 6 := by
  unfold S_fixpoint_propagate_25_j39 at h
  refine regI ?_
  cases h
  exact AI rfl (simJ (M := [((3, 0), (3, 0)), ((4, 0), (4, 0))]) (lit' := [((0, 0), .rows 1 (a1.map e_i64)), ((3, 0), .rows 1 (a2.map e_i64)), ((4, 0), .rows 1 (outG 5 1 (v64.map (List.map e_i64))))]) (T := (fam 5 v64.length none)) (q := 5) (q' := 5) rfl (IsFam.cast (by first | rfl | simp) IsFam.base) (AI (VS rfl) (AI (Vw.mslE rfl (by first | rfl | (simp; done) | (simp at *; omega)) rfl) (AI (Vw.mslE rfl (by first | rfl | (simp; done) | (simp at *; omega)) rfl) (AI (Vw.mslE rfl (by first | rfl | (simp; done) | (simp at *; omega)) rfl) (AI (VS rfl) (AI (VS rfl) (AI (VS rfl) TT))))))) (AI (AI rfl (BVw.enc e_i64 (fun _ => rfl) _ a1)) (AI (AI rfl (BVw.enc e_i64 (fun _ => rfl) _ a2)) (AI (AI rfl BVw.grJ) TT))))

theorem f25b0_L12_bok {a0 : List (List G_QRule)} {a1 : List Int} {a2 : List Int} {v27 : Int} {v63 : Int} {v64 : List (List Int)} {m : Option Nat} {o : (Int × (List (List Int))) ⊕ ((Int × (List (List Int))) ⊕ (List Int))} (h : S_fixpoint_propagate_25_b12 m a0 a1 a2 v27 v63 v64 = some o) :
    LWp Try.prog f25b0_lay 3 f25b0_c3 (BodyQ 3 6 (f25b0_L12_env a0 a1 a2 v27) (f25b0_L12_hp a0 a1 a2 v27) (f25b0_L12_Q a0 a1 a2) o) [(0, .isl 1 (a0.map eB) false), (1, .msl (0, 0) 1 0 a1.length true), (2, .msl (3, 0) 1 0 a2.length true), (6, .msl (4, 0) 1 0 v64.length true), (7, .int .i64 v27), (20, .isl 1 (a0.map eB) false), (21, .int .i64 ((a0.map eB).length : Int)), (22, .int .i64 v27), (27, .isl 2 ((a0.getD v27.toNat default).map e_QRule) false), (28, .int .i64 (((a0.getD v27.toNat default).map e_QRule).length : Int)), (29, .int .i64 v63)] ([((0, 0), .rows 1 (a1.map e_i64)), ((3, 0), .rows 1 (a2.map e_i64)), ((4, 0), .rows 1 (outG 5 1 (v64.map (List.map e_i64))))] ++ (fam 5 v64.length none)) 6 := by
  unfold S_fixpoint_propagate_25_b12 at h
  refine seqI ?_
  refine regI ?_
  refine seqI ?_
  refine condI (v := (decide (v63 < (((a0.getD v27.toNat default).map e_QRule).length : Int)))) rfl TT (fun h336 => ?_) (fun h336 => ?_)
  · have h := ite_tt h336 h
    refine skipI ?_
    refine seqI ?_
    refine blockI ?_
    refine seqI ?_
    refine regI ?_
    obtain ⟨h337, h⟩ := ite_some h
    refine AI h337 ?_
    refine EX (e_QRule ((a0.getD v27.toNat default).getD v63.toNat default)) (AI (getD_enc e_QRule _ _ (idx_ltL e_QRule h337)) (AI (AI (idx_lt h337) (NB rfl)) ?_))
    refine seqI ?_
    refine regI ?_
    refine LWp.sim (e := [(0, .isl 1 (a0.map eB) false), (1, .msl (0, 0) 1 0 a1.length true), (2, .msl (3, 0) 1 0 a2.length true), (6, .msl (4, 0) 1 0 v64.length true), (7, .int .i64 v27), (20, .isl 1 (a0.map eB) false), (21, .int .i64 ((a0.map eB).length : Int)), (22, .int .i64 v27), (27, .isl 2 ((a0.getD v27.toNat default).map e_QRule) false), (28, .int .i64 (((a0.getD v27.toNat default).map e_QRule).length : Int)), (29, .int .i64 v63), (34, .isl 1 ((((a0.getD v27.toNat default).getD v63.toNat default).f_All).map e_i64) false), (35, .int .i64 (((((a0.getD v27.toNat default).getD v63.toNat default).f_All).map e_i64).length : Int)), (36, .int .i64 0)]) (L := ([((0, 0), .rows 1 (a1.map e_i64)), ((3, 0), .rows 1 (a2.map e_i64)), ((4, 0), .rows 1 (outG 5 1 (v64.map (List.map e_i64))))] ++ (fam 5 v64.length none))) (n := 6) ?_ ?_
    · exact simJ (M := [((3, 0), (3, 0)), ((4, 0), (4, 0))]) (lit' := [((6, 0), .one [.int .i64 (((a0.getD v27.toNat default).getD v63.toNat default).f_Mask), .isl 1 ((((a0.getD v27.toNat default).getD v63.toNat default).f_All).map e_i64) false]), ((0, 0), .rows 1 (a1.map e_i64)), ((3, 0), .rows 1 (a2.map e_i64)), ((4, 0), .rows 1 (outG 5 1 (v64.map (List.map e_i64))))]) (T := (fam 5 v64.length none)) (q := 5) (q' := 5) rfl (IsFam.cast (by first | rfl | simp) IsFam.base) (AI (VS rfl) (AI (Vw.mslE rfl (by first | rfl | (simp; done) | (simp at *; omega)) rfl) (AI (Vw.mslE rfl (by first | rfl | (simp; done) | (simp at *; omega)) rfl) (AI (Vw.mslE rfl (by first | rfl | (simp; done) | (simp at *; omega)) rfl) (AI (VS rfl) (AI (VS rfl) (AI (VS rfl) (AI (VS rfl) (AI (VS rfl) (AI (VS rfl) (AI (VS rfl) (AI (VS rfl) (AI (VS rfl) (AI (VS rfl) TT)))))))))))))) (AI (AI rfl (BVw.enc e_i64 (fun _ => rfl) _ a1)) (AI (AI rfl (BVw.enc e_i64 (fun _ => rfl) _ a2)) (AI (AI rfl BVw.grJ) TT)))
    refine blockI ?_
    refine LWp.sim ?_ (f25b0_L13_ok h)
    exact simJ (M := [((3, 0), (3, 0)), ((4, 0), (4, 0))]) (lit' := [((0, 0), .rows 1 (a1.map e_i64)), ((3, 0), .rows 1 (a2.map e_i64)), ((4, 0), .rows 1 (outG 5 1 (v64.map (List.map e_i64))))]) (T := (fam 5 v64.length none)) (q := 5) (q' := 5) rfl (IsFam.cast (by first | rfl | simp) IsFam.base) (AI (VS rfl) (AI (Vw.mslE rfl (by first | rfl | (simp; done) | (simp at *; omega)) rfl) (AI (Vw.mslE rfl (by first | rfl | (simp; done) | (simp at *; omega)) rfl) (AI (Vw.mslE rfl (by first | rfl | (simp; done) | (simp at *; omega)) rfl) (AI (VS rfl) (AI (VS rfl) (AI (VS rfl) (AI (VS rfl) (AI (VS rfl) (AI (VS rfl) (AI (VS rfl) (AI (VS rfl) (AI (VS rfl) (AI (VS rfl) TT)))))))))))))) (AI (AI rfl (BVw.enc e_i64 (fun _ => rfl) _ a1)) (AI (AI rfl (BVw.enc e_i64 (fun _ => rfl) _ a2)) (AI (AI rfl BVw.grJ) TT)))
  · have h := ite_ff h336 h
    refine exitI ?_
    obtain ⟨o, hq, rfl⟩ := Option.map_eq_some_iff.1 h
    replace h := hq; clear hq
    refine AI nofun ?_
    refine LWp.sim ?_ (f25b0_j39_ok h)
    exact simJ (M := [((3, 0), (3, 0)), ((4, 0), (4, 0))]) (lit' := [((0, 0), .rows 1 (a1.map e_i64)), ((3, 0), .rows 1 (a2.map e_i64)), ((4, 0), .rows 1 (outG 5 1 (v64.map (List.map e_i64))))]) (T := (fam 5 v64.length none)) (q := 5) (q' := 5) rfl (IsFam.cast (by first | rfl | simp) IsFam.base) (AI (VS rfl) (AI (Vw.mslE rfl (by first | rfl | (simp; done) | (simp at *; omega)) rfl) (AI (Vw.mslE rfl (by first | rfl | (simp; done) | (simp at *; omega)) rfl) (AI (Vw.mslE rfl (by first | rfl | (simp; done) | (simp at *; omega)) rfl) (AI (VS rfl) (AI (VS rfl) (AI (VS rfl) TT))))))) (AI (AI rfl (BVw.enc e_i64 (fun _ => rfl) _ a1)) (AI (AI rfl (BVw.enc e_i64 (fun _ => rfl) _ a2)) (AI (AI rfl BVw.grJ) TT)))

theorem f25b0_L12_ok {a0 : List (List G_QRule)} {a1 : List Int} {a2 : List Int} {v27 : Int} {v63 : Int} {v64 : List (List Int)} {m : Option Nat} {o : ((Int × (List (List Int))) ⊕ (List Int))} (h : S_fixpoint_propagate_25_l12 m a0 a1 a2 v27 v63 v64 = some o) :
    LWp Try.prog f25b0_lay 3 (.loop f25b0_c3) (QBlock 2 (QBlock 1 (QSeq Try.prog f25b0_lay 3 f25b0_c2 (BodyQ 3 6 (f25b0_L9_env a0 a1 a2) (f25b0_L9_hp a0 a1 a2) (f25b0_L9_Q a0 a1 a2) o)))) [(0, .isl 1 (a0.map eB) false), (1, .msl (0, 0) 1 0 a1.length true), (2, .msl (3, 0) 1 0 a2.length true), (6, .msl (4, 0) 1 0 v64.length true), (7, .int .i64 v27), (20, .isl 1 (a0.map eB) false), (21, .int .i64 ((a0.map eB).length : Int)), (22, .int .i64 v27), (27, .isl 2 ((a0.getD v27.toNat default).map e_QRule) false), (28, .int .i64 (((a0.getD v27.toNat default).map e_QRule).length : Int)), (29, .int .i64 v63)] ([((0, 0), .rows 1 (a1.map e_i64)), ((3, 0), .rows 1 (a2.map e_i64)), ((4, 0), .rows 1 (outG 5 1 (v64.map (List.map e_i64))))] ++ (fam 5 v64.length none)) 6 :=
  LWp_loopM (m := m) (s := ((v63, v64) : (Int × (List (List Int))))) (r := o) (fun (s : (Int × (List (List Int)))) => S_fixpoint_propagate_25_b12 m a0 a1 a2 v27 s.1 s.2) (f25b0_L12_env a0 a1 a2 v27) (f25b0_L12_hp a0 a1 a2 v27) (f25b0_L12_Q a0 a1 a2) (fun s o h => f25b0_L12_bok h) h

noncomputable def S_fixpoint_propagate_25_j49 (m : Option Nat) (a0 : List (List G_QRule)) (v28 : List (List Int)) (v98 : Nat) (v100 : List Int) (v101 : List Int) (v119 : Int) (v126 : Int) (v133 : Nat) (v134 : Nat) (v135 : List Int) : Option ((Nat × Nat × Int × (List Int)) ⊕ ((Nat × Nat × (List Int) × (List Int)) ⊕ (List Int))) :=
  some (.inl (v133, v134, (W (v126 + 1)), v135))

noncomputable def S_fixpoint_propagate_25_b17 (m : Option Nat) (a0 : List (List G_QRule)) (v28 : List (List Int)) (v98 : Nat) (v100 : List Int) (v101 : List Int) (v119 : Int) (v124 : Nat) (v125 : Nat) (v126 : Int) (v127 : List Int) : Option ((Nat × Nat × Int × (List Int)) ⊕ ((Nat × Nat × (List Int) × (List Int)) ⊕ (List Int))) :=
  if (decide (v126 < (((v28.getD (0 + (v101.getD (v98 + (0 : Int).toNat) default).toNat) default).map e_i64).length : Int))) = true then
    if (0 : Int) ≤ v126 ∧ v126 < (((v28.getD (0 + (v101.getD (v98 + (0 : Int).toNat) default).toNat) default).map e_i64).length : Int) then
    (S_slices_Contains_int_44_2 m v124 v125 ((v28.getD (0 + (v101.getD (v98 + (0 : Int).toNat) default).toNat) default).getD v126.toNat default) v127).bind fun v132 =>
    if (!v132) = true then
      if v124 + v125 ≤ (v127.map e_i64).length then
      if (((v127.drop v124).take v125 ++ ([((v28.getD (0 + (v101.getD (v98 + (0 : Int).toNat) default).toNat) default).getD v126.toNat default)] : List Int)).map e_i64).length * 8 ≤ 140737488355328 then
      S_fixpoint_propagate_25_j49 m a0 v28 v98 v100 v101 v119 v126 0 ((((v127.drop v124).take v125 ++ ([((v28.getD (0 + (v101.getD (v98 + (0 : Int).toNat) default).toNat) default).getD v126.toNat default)] : List Int)).map e_i64).length) ((v127.drop v124).take v125 ++ ([((v28.getD (0 + (v101.getD (v98 + (0 : Int).toNat) default).toNat) default).getD v126.toNat default)] : List Int))
      else none
      else none
    else
      S_fixpoint_propagate_25_j49 m a0 v28 v98 v100 v101 v119 v126 v124 v125 v127
    else none
  else
    Option.map Sum.inr (
      some (.inl (v124, v125, (v100.set (0 + (v101.getD (v98 + (0 : Int).toNat) default).toNat) (ibits .or .i64 (v100.getD (0 + (v101.getD (v98 + (0 : Int).toNat) default).toNat) default) v119)), v127)))

noncomputable def S_fixpoint_propagate_25_l17 (m : Option Nat) (a0 : List (List G_QRule)) (v28 : List (List Int)) (v98 : Nat) (v100 : List Int) (v101 : List Int) (v119 : Int) (v124 : Nat) (v125 : Nat) (v126 : Int) (v127 : List Int) : Option ((Nat × Nat × (List Int) × (List Int)) ⊕ (List Int)) := loopM m (fun (s : (Nat × Nat × Int × (List Int))) => S_fixpoint_propagate_25_b17 m a0 v28 v98 v100 v101 v119 s.1 s.2.1 s.2.2.1 s.2.2.2) (v124, v125, v126, v127)

noncomputable def S_fixpoint_propagate_25_b16 (m : Option Nat) (a0 : List (List G_QRule)) (v28 : List (List Int)) (v98 : Nat) (v99 : Nat) (v100 : List Int) (v101 : List Int) : Option ((Nat × Nat × (List Int) × (List Int)) ⊕ (List Int)) :=
  if (decide (((v99 : Nat) : Int) > 0)) = true then
    if (0 : Int) ≤ 0 ∧ 0 < ((v99 : Nat) : Int) then
    if (v98 + (0 : Int).toNat) < v101.length then
    if (0 : Int) ≤ 1 ∧ 1 ≤ ((v99 : Nat) : Int) then
    if (0 : Int) ≤ (v101.getD (v98 + (0 : Int).toNat) default) ∧ (v101.getD (v98 + (0 : Int).toNat) default) < ((v100.length : Nat) : Int) then
    if (0 + (v101.getD (v98 + (0 : Int).toNat) default).toNat) < v100.length then
    if (0 : Int) ≤ (v101.getD (v98 + (0 : Int).toNat) default) ∧ (v101.getD (v98 + (0 : Int).toNat) default) < ((a0.map eB).length : Int) then
    (S_fixpoint_deriveAll m (a0.getD ((v101.getD (v98 + (0 : Int).toNat) default).toNat) default) v100).bind fun v119 =>
    if (0 : Int) ≤ (v101.getD (v98 + (0 : Int).toNat) default) ∧ (v101.getD (v98 + (0 : Int).toNat) default) < ((v100.length : Nat) : Int) then
    if (0 + (v101.getD (v98 + (0 : Int).toNat) default).toNat) < v100.length then
    if ((ibits .or .i64 (v100.getD (0 + (v101.getD (v98 + (0 : Int).toNat) default).toNat) default) v119) == (v100.getD (0 + (v101.getD (v98 + (0 : Int).toNat) default).toNat) default)) = true then
      some (.inl ((v98 + (1 : Int).toNat), (v99 - (1 : Int).toNat), v100, v101))
    else
      if (0 : Int) ≤ (v101.getD (v98 + (0 : Int).toNat) default) ∧ (v101.getD (v98 + (0 : Int).toNat) default) < ((v100.length : Nat) : Int) then
      if (0 + (v101.getD (v98 + (0 : Int).toNat) default).toNat) < v100.length then
      if (0 : Int) ≤ (v101.getD (v98 + (0 : Int).toNat) default) ∧ (v101.getD (v98 + (0 : Int).toNat) default) < ((v28.length : Nat) : Int) then
      if (0 + (v101.getD (v98 + (0 : Int).toNat) default).toNat) < v28.length then
      S_fixpoint_propagate_25_l17 m a0 v28 v98 v100 v101 v119 (v98 + (1 : Int).toNat) (v99 - (1 : Int).toNat) 0 v101
      else none
      else none
      else none
      else none
    else none
    else none
    else none
    else none
    else none
    else none
    else none
    else none
  else
    Option.map Sum.inr (
      some v100)

noncomputable def S_fixpoint_propagate_25_l16 (m : Option Nat) (a0 : List (List G_QRule)) (v28 : List (List Int)) (v98 : Nat) (v99 : Nat) (v100 : List Int) (v101 : List Int) : Option (List Int) := loopM m (fun (s : (Nat × Nat × (List Int) × (List Int))) => S_fixpoint_propagate_25_b16 m a0 v28 s.1 s.2.1 s.2.2.1 s.2.2.2) (v98, v99, v100, v101)

noncomputable def S_fixpoint_propagate_25_j40 (m : Option Nat) (a0 : List (List G_QRule)) (a1 : List Int) (a2 : List Int) (v28 : List (List Int)) : Option (List Int) :=
  S_fixpoint_propagate_25_l16 m a0 v28 0 a2.length a1 a2

noncomputable def S_fixpoint_propagate_25_b9 (m : Option Nat) (a0 : List (List G_QRule)) (a1 : List Int) (a2 : List Int) (v27 : Int) (v28 : List (List Int)) : Option ((Int × (List (List Int))) ⊕ (List Int)) :=
  if (decide (v27 < ((a0.map eB).length : Int))) = true then
    if (0 : Int) ≤ v27 ∧ v27 < ((a0.map eB).length : Int) then
    S_fixpoint_propagate_25_l12 m a0 a1 a2 v27 0 v28
    else none
  else
    Option.map Sum.inr (
      S_fixpoint_propagate_25_j40 m a0 a1 a2 v28)

noncomputable def S_fixpoint_propagate_25_l9 (m : Option Nat) (a0 : List (List G_QRule)) (a1 : List Int) (a2 : List Int) (v27 : Int) (v28 : List (List Int)) : Option (List Int) := loopM m (fun (s : (Int × (List (List Int)))) => S_fixpoint_propagate_25_b9 m a0 a1 a2 s.1 s.2) (v27, v28)

def f25b0_L16_env (a0 : List (List G_QRule)) (v28 : List (List Int)) (s : (Nat × Nat × (List Int) × (List Int))) : Env := [(0, .isl 1 (a0.map eB) false), (1, .msl (0, 0) 1 0 s.2.2.1.length true), (2, .msl (3, 0) 1 s.1 s.2.1 false), (6, .msl (4, 0) 1 0 v28.length true)]
def f25b0_L16_hp (a0 : List (List G_QRule)) (v28 : List (List Int)) (s : (Nat × Nat × (List Int) × (List Int))) : AHeap := ([((0, 0), .rows 1 (s.2.2.1.map e_i64)), ((3, 0), .rows 1 (s.2.2.2.map e_i64)), ((4, 0), .rows 1 (outG 5 1 (v28.map (List.map e_i64))))] ++ (fam 5 v28.length none))
def f25b0_L16_Q (a0 : List (List G_QRule)) (a1 : List Int) (a2 : List Int) (o : (List Int)) : Exit → Env → AHeap → Nat → Prop := (QBlock 6 (f25b0_Q a0 a1 a2 o))

def f25b0_L17_env (a0 : List (List G_QRule)) (v28 : List (List Int)) (v98 : Nat) (v100 : List Int) (v101 : List Int) (v119 : Int) (s : (Nat × Nat × Int × (List Int))) : Env := [(0, .isl 1 (a0.map eB) false), (1, .msl (0, 0) 1 0 ((v100.set (0 + (v101.getD (v98 + (0 : Int).toNat) default).toNat) (ibits .or .i64 (v100.getD (0 + (v101.getD (v98 + (0 : Int).toNat) default).toNat) default) v119)).length) true), (2, .msl (3, 0) 1 s.1 s.2.1 false), (6, .msl (4, 0) 1 0 v28.length true), (92, .isl 1 ((v28.getD (0 + (v101.getD (v98 + (0 : Int).toNat) default).toNat) default).map e_i64) false), (93, .int .i64 (((v28.getD (0 + (v101.getD (v98 + (0 : Int).toNat) default).toNat) default).map e_i64).length : Int)), (94, .int .i64 s.2.2.1)]
def f25b0_L17_hp (a0 : List (List G_QRule)) (v28 : List (List Int)) (v98 : Nat) (v100 : List Int) (v101 : List Int) (v119 : Int) (s : (Nat × Nat × Int × (List Int))) : AHeap := ([((0, 0), .rows 1 ((v100.set (0 + (v101.getD (v98 + (0 : Int).toNat) default).toNat) (ibits .or .i64 (v100.getD (0 + (v101.getD (v98 + (0 : Int).toNat) default).toNat) default) v119)).map e_i64)), ((3, 0), .rows 1 (s.2.2.2.map e_i64)), ((4, 0), .rows 1 (outG 5 1 (v28.map (List.map e_i64))))] ++ (fam 5 v28.length none))
def f25b0_L17_Q (a0 : List (List G_QRule)) (a1 : List Int) (a2 : List Int) (v28 : List (List Int)) (o : ((Nat × Nat × (List Int) × (List Int)) ⊕ (List Int))) : Exit → Env → AHeap → Nat → Prop := (QBlock 8 (QBlock 7 (BodyQ 3 6 (f25b0_L16_env a0 v28) (f25b0_L16_hp a0 v28) (f25b0_L16_Q a0 a1 a2) o)))

theorem f25b0_j49_ok {a1 : List Int} {a2 : List Int} {a0 : List (List G_QRule)} {v28 : List (List Int)} {v98 : Nat} {v100 : List Int} {v101 : List Int} {v119 : Int} {v126 : Int} {v133 : Nat} {v134 : Nat} {v135 : List Int} {m : Option Nat} {o : ((Nat × Nat × Int × (List Int)) ⊕ ((Nat × Nat × (List Int) × (List Int)) ⊕ (List Int)))} (h : S_fixpoint_propagate_25_j49 m a0 v28 v98 v100 v101 v119 v126 v133 v134 v135 = some o) :
    LWp Try.prog f25b0_lay 3 f25b0_c8 (BodyQ 3 6 (f25b0_L17_env a0 v28 v98 v100 v101 v119) (f25b0_L17_hp a0 v28 v98 v100 v101 v119) (f25b0_L17_Q a0 a1 a2 v28) o) [(0, .isl 1 (a0.map eB) false), (1, .msl (0, 0) 1 0 ((v100.set (0 + (v101.getD (v98 + (0 : Int).toNat) default).toNat) (ibits .or .i64 (v100.getD (0 + (v101.getD (v98 + (0 : Int).toNat) default).toNat) default) v119)).length) true), (2, .msl (3, 0) 1 v133 v134 false), (6, .msl (4, 0) 1 0 v28.length true), (92, .isl 1 ((v28.getD (0 + (v101.getD (v98 + (0 : Int).toNat) default).toNat) default).map e_i64) false), (93, .int .i64 (((v28.getD (0 + (v101.getD (v98 + (0 : Int).toNat) default).toNat) default).map e_i64).length : Int)), (94, .int .i64 v126)] ([((0, 0), .rows 1 ((v100.set (0 + (v101.getD (v98 + (0 : Int).toNat) default).toNat) (ibits .or .i64 (v100.getD (0 + (v101.getD (v98 + (0 : Int).toNat) default).toNat) default) v119)).map e_i64)), ((3, 0), .rows 1 (v135.map e_i64)), ((4, 0), .rows 1 (outG 5 1 (v28.map (List.map e_i64))))] ++ (fam 5 v28.length none)) 6 := by
  unfold S_fixpoint_propagate_25_j49 at h
  refine regI ?_
  cases h
  exact AI rfl (simJ (M := [((3, 0), (3, 0)), ((4, 0), (4, 0))]) (lit' := [((0, 0), .rows 1 ((v100.set (0 + (v101.getD (v98 + (0 : Int).toNat) default).toNat) (ibits .or .i64 (v100.getD (0 + (v101.getD (v98 + (0 : Int).toNat) default).toNat) default) v119)).map e_i64)), ((3, 0), .rows 1 (v135.map e_i64)), ((4, 0), .rows 1 (outG 5 1 (v28.map (List.map e_i64))))]) (T := (fam 5 v28.length none)) (q := 5) (q' := 5) rfl (IsFam.cast (by first | rfl | simp) IsFam.base) (AI (VS rfl) (AI (Vw.mslE rfl (by first | rfl | (simp; done) | (simp at *; omega)) rfl) (AI (Vw.msl _ _ _ _ _ _ rfl) (AI (Vw.mslE rfl (by first | rfl | (simp; done) | (simp at *; omega)) rfl) (AI (VS rfl) (AI (VS rfl) (AI (VS rfl) TT))))))) (AI (AI rfl (BVw.enc e_i64 (fun _ => rfl) _ (v100.set (0 + (v101.getD (v98 + (0 : Int).toNat) default).toNat) (ibits .or .i64 (v100.getD (0 + (v101.getD (v98 + (0 : Int).toNat) default).toNat) default) v119)))) (AI (AI rfl (BVw.enc e_i64 (fun _ => rfl) _ v135)) (AI (AI rfl BVw.grJ) TT))))

theorem f25b0_L17_bok {a1 : List Int} {a2 : List Int} {a0 : List (List G_QRule)} {v28 : List (List Int)} {v98 : Nat} {v100 : List Int} {v101 : List Int} {v119 : Int} {v124 : Nat} {v125 : Nat} {v126 : Int} {v127 : List Int} {m : Option Nat} {o : (Nat × Nat × Int × (List Int)) ⊕ ((Nat × Nat × (List Int) × (List Int)) ⊕ (List Int))} (h : S_fixpoint_propagate_25_b17 m a0 v28 v98 v100 v101 v119 v124 v125 v126 v127 = some o) :
    LWp Try.prog f25b0_lay 3 f25b0_c7 (BodyQ 3 6 (f25b0_L17_env a0 v28 v98 v100 v101 v119) (f25b0_L17_hp a0 v28 v98 v100 v101 v119) (f25b0_L17_Q a0 a1 a2 v28) o) [(0, .isl 1 (a0.map eB) false), (1, .msl (0, 0) 1 0 ((v100.set (0 + (v101.getD (v98 + (0 : Int).toNat) default).toNat) (ibits .or .i64 (v100.getD (0 + (v101.getD (v98 + (0 : Int).toNat) default).toNat) default) v119)).length) true), (2, .msl (3, 0) 1 v124 v125 false), (6, .msl (4, 0) 1 0 v28.length true), (92, .isl 1 ((v28.getD (0 + (v101.getD (v98 + (0 : Int).toNat) default).toNat) default).map e_i64) false), (93, .int .i64 (((v28.getD (0 + (v101.getD (v98 + (0 : Int).toNat) default).toNat) default).map e_i64).length : Int)), (94, .int .i64 v126)] ([((0, 0), .rows 1 ((v100.set (0 + (v101.getD (v98 + (0 : Int).toNat) default).toNat) (ibits .or .i64 (v100.getD (0 + (v101.getD (v98 + (0 : Int).toNat) default).toNat) default) v119)).map e_i64)), ((3, 0), .rows 1 (v127.map e_i64)), ((4, 0), .rows 1 (outG 5 1 (v28.map (List.map e_i64))))] ++ (fam 5 v28.length none)) 6 := by
  unfold S_fixpoint_propagate_25_b17 at h
  refine seqI ?_
  refine regI ?_
  refine seqI ?_
  refine condI (v := (decide (v126 < (((v28.getD (0 + (v101.getD (v98 + (0 : Int).toNat) default).toNat) default).map e_i64).length : Int)))) rfl TT (fun h470 => ?_) (fun h470 => ?_)
  · have h := ite_tt h470 h
    refine skipI ?_
    refine seqI ?_
    refine blockI ?_
    refine seqI ?_
    refine regI ?_
    obtain ⟨h471, h⟩ := ite_some h
    refine AI h471 ?_
    refine EX (e_i64 ((v28.getD (0 + (v101.getD (v98 + (0 : Int).toNat) default).toNat) default).getD v126.toNat default)) (AI (getD_enc e_i64 _ _ (idx_ltL e_i64 h471)) (AI (AI (idx_lt h471) (NB rfl)) ?_))
    refine seqI ?_
    refine regI ?_
    obtain ⟨v132, h472, h⟩ := bind_some h
    refine bcall (k := 3) (m := 0) (L' := [((3, 0), .rows 1 (v127.map e_i64))]) (rest := ([((0, 0), .rows 1 ((v100.set (0 + (v101.getD (v98 + (0 : Int).toNat) default).toNat) (ibits .or .i64 (v100.getD (0 + (v101.getD (v98 + (0 : Int).toNat) default).toNat) default) v119)).map e_i64)), ((4, 0), .rows 1 (outG 5 1 (v28.map (List.map e_i64))))] ++ (fam 5 v28.length none))) (R' := .bool v132) [((0, 0), (3, 0))] (f44b1_ok h472) rfl rfl rfl (AI (Vw.msl _ _ _ _ _ _ rfl) (AI (VS rfl) TT)) (AI (h0I (3, 0) rfl rfl (BVw.enc e_i64 (fun _ => rfl) _ v127)) TT) (nid_ren _ rfl) (AI rfl (AI (rows_ren e_i64 (fun _ => rfl) _ _) TT)) (without_fam (lit := [((0, 0), .rows 1 ((v100.set (0 + (v101.getD (v98 + (0 : Int).toNat) default).toNat) (ibits .or .i64 (v100.getD (0 + (v101.getD (v98 + (0 : Int).toNat) default).toNat) default) v119)).map e_i64)), ((3, 0), .rows 1 (v127.map e_i64)), ((4, 0), .rows 1 (outG 5 1 (v28.map (List.map e_i64))))]) (T := (fam 5 v28.length none)) InQ.base (fun _ => rfl) rfl) ?_
    refine LWp.sim (e := [(0, .isl 1 (a0.map eB) false), (1, .msl (0, 0) 1 0 ((v100.set (0 + (v101.getD (v98 + (0 : Int).toNat) default).toNat) (ibits .or .i64 (v100.getD (0 + (v101.getD (v98 + (0 : Int).toNat) default).toNat) default) v119)).length) true), (2, .msl (3, 0) 1 v124 v125 false), (6, .msl (4, 0) 1 0 v28.length true), (16, .int .i64 ((v28.getD (0 + (v101.getD (v98 + (0 : Int).toNat) default).toNat) default).getD v126.toNat default)), (92, .isl 1 ((v28.getD (0 + (v101.getD (v98 + (0 : Int).toNat) default).toNat) default).map e_i64) false), (93, .int .i64 (((v28.getD (0 + (v101.getD (v98 + (0 : Int).toNat) default).toNat) default).map e_i64).length : Int)), (94, .int .i64 v126), (101, .bool (!v132))]) (L := ([((0, 0), .rows 1 ((v100.set (0 + (v101.getD (v98 + (0 : Int).toNat) default).toNat) (ibits .or .i64 (v100.getD (0 + (v101.getD (v98 + (0 : Int).toNat) default).toNat) default) v119)).map e_i64)), ((3, 0), .rows 1 (v127.map e_i64)), ((4, 0), .rows 1 (outG 5 1 (v28.map (List.map e_i64))))] ++ (fam 5 v28.length none))) (n := 6) ?_ ?_
    · exact simJ (M := [((3, 0), (3, 0)), ((4, 0), (4, 0))]) (lit' := [((3, 0), .rows 1 (v127.map e_i64)), ((0, 0), .rows 1 ((v100.set (0 + (v101.getD (v98 + (0 : Int).toNat) default).toNat) (ibits .or .i64 (v100.getD (0 + (v101.getD (v98 + (0 : Int).toNat) default).toNat) default) v119)).map e_i64)), ((4, 0), .rows 1 (outG 5 1 (v28.map (List.map e_i64))))]) (T := (fam 5 v28.length none)) (q := 5) (q' := 5) rfl (IsFam.cast (by first | rfl | simp) IsFam.base) (AI (VS rfl) (AI (Vw.mslE rfl (by first | rfl | (simp; done) | (simp at *; omega)) rfl) (AI (Vw.msl _ _ _ _ _ _ rfl) (AI (Vw.mslE rfl (by first | rfl | (simp; done) | (simp at *; omega)) rfl) (AI (VS rfl) (AI (VS rfl) (AI (VS rfl) (AI (VS rfl) (AI (VS rfl) TT))))))))) (AI (AI rfl (BVw.enc e_i64 (fun _ => rfl) _ (v100.set (0 + (v101.getD (v98 + (0 : Int).toNat) default).toNat) (ibits .or .i64 (v100.getD (0 + (v101.getD (v98 + (0 : Int).toNat) default).toNat) default) v119)))) (AI (AI rfl (BVw.enc e_i64 (fun _ => rfl) _ v127)) (AI (AI rfl BVw.grJ) TT)))
    refine condI (v := (!v132)) rfl TT (fun h473 => ?_) (fun h473 => ?_)
    · have h := ite_tt h473 h
      refine regI ?_
      obtain ⟨h474, h⟩ := ite_some h
      obtain ⟨h475, h⟩ := ite_some h
      refine AI (fun h => Bool.noConfusion h) (AI h474 (EX (((v127.drop v124).take v125 ++ ([((v28.getD (0 + (v101.getD (v98 + (0 : Int).toNat) default).toNat) default).getD v126.toNat default)] : List Int)).map e_i64) (AI (appM e_i64 v127 ([((v28.getD (0 + (v101.getD (v98 + (0 : Int).toNat) default).toNat) default).getD v126.toNat default)] : List Int) _ _) (AI h475 ?_))))
      refine LWp.sim ?_ (f25b0_j49_ok h)
      exact simJ (M := [((3, 0), (6, 0)), ((4, 0), (4, 0))]) (lit' := [((6, 0), .rows 1 (((v127.drop v124).take v125 ++ ([((v28.getD (0 + (v101.getD (v98 + (0 : Int).toNat) default).toNat) default).getD v126.toNat default)] : List Int)).map e_i64)), ((0, 0), .rows 1 ((v100.set (0 + (v101.getD (v98 + (0 : Int).toNat) default).toNat) (ibits .or .i64 (v100.getD (0 + (v101.getD (v98 + (0 : Int).toNat) default).toNat) default) v119)).map e_i64)), ((4, 0), .rows 1 (outG 5 1 (v28.map (List.map e_i64))))]) (T := (AHeap.del (fam 5 v28.length none) (3, 0))) (q := 5) (q' := 5) rfl (IsFam.cast (by first | rfl | simp) (IsFam.del (by decide) IsFam.base)) (AI (VS rfl) (AI (Vw.mslE rfl (by first | rfl | (simp; done) | (simp at *; omega)) rfl) (AI (Vw.mslE rfl (by first | rfl | (simp; done) | (simp at *; omega)) rfl) (AI (Vw.mslE rfl (by first | rfl | (simp; done) | (simp at *; omega)) rfl) (AI (VS rfl) (AI (VS rfl) (AI (VS rfl) TT))))))) (AI (AI rfl (BVw.enc e_i64 (fun _ => rfl) _ (v100.set (0 + (v101.getD (v98 + (0 : Int).toNat) default).toNat) (ibits .or .i64 (v100.getD (0 + (v101.getD (v98 + (0 : Int).toNat) default).toNat) default) v119)))) (AI (AI rfl (BVw.enc e_i64 (fun _ => rfl) _ ((v127.drop v124).take v125 ++ ([((v28.getD (0 + (v101.getD (v98 + (0 : Int).toNat) default).toNat) default).getD v126.toNat default)] : List Int)))) (AI (AI rfl BVw.grJ) TT)))
    · have h := ite_ff h473 h
      refine skipI ?_
      refine LWp.sim ?_ (f25b0_j49_ok h)
      exact simJ (M := [((3, 0), (3, 0)), ((4, 0), (4, 0))]) (lit' := [((0, 0), .rows 1 ((v100.set (0 + (v101.getD (v98 + (0 : Int).toNat) default).toNat) (ibits .or .i64 (v100.getD (0 + (v101.getD (v98 + (0 : Int).toNat) default).toNat) default) v119)).map e_i64)), ((3, 0), .rows 1 (v127.map e_i64)), ((4, 0), .rows 1 (outG 5 1 (v28.map (List.map e_i64))))]) (T := (fam 5 v28.length none)) (q := 5) (q' := 5) rfl (IsFam.cast (by first | rfl | simp) IsFam.base) (AI (VS rfl) (AI (Vw.mslE rfl (by first | rfl | (simp; done) | (simp at *; omega)) rfl) (AI (Vw.msl _ _ _ _ _ _ rfl) (AI (Vw.mslE rfl (by first | rfl | (simp; done) | (simp at *; omega)) rfl) (AI (VS rfl) (AI (VS rfl) (AI (VS rfl) TT))))))) (AI (AI rfl (BVw.enc e_i64 (fun _ => rfl) _ (v100.set (0 + (v101.getD (v98 + (0 : Int).toNat) default).toNat) (ibits .or .i64 (v100.getD (0 + (v101.getD (v98 + (0 : Int).toNat) default).toNat) default) v119)))) (AI (AI rfl (BVw.enc e_i64 (fun _ => rfl) _ v127)) (AI (AI rfl BVw.grJ) TT)))
  · have h := ite_ff h470 h
    refine exitI ?_
    obtain ⟨o, hq, rfl⟩ := Option.map_eq_some_iff.1 h
    replace h := hq; clear hq
    refine AI nofun ?_
    cases h
    exact AI rfl (simJ (M := [((3, 0), (3, 0)), ((4, 0), (4, 0))]) (lit' := [((0, 0), .rows 1 ((v100.set (0 + (v101.getD (v98 + (0 : Int).toNat) default).toNat) (ibits .or .i64 (v100.getD (0 + (v101.getD (v98 + (0 : Int).toNat) default).toNat) default) v119)).map e_i64)), ((3, 0), .rows 1 (v127.map e_i64)), ((4, 0), .rows 1 (outG 5 1 (v28.map (List.map e_i64))))]) (T := (fam 5 v28.length none)) (q := 5) (q' := 5) rfl (IsFam.cast (by first | rfl | simp) IsFam.base) (AI (VS rfl) (AI (Vw.mslE rfl (by first | rfl | (simp; done) | (simp at *; omega)) rfl) (AI (Vw.msl _ _ _ _ _ _ rfl) (AI (Vw.mslE rfl (by first | rfl | (simp; done) | (simp at *; omega)) rfl) TT)))) (AI (AI rfl (BVw.enc e_i64 (fun _ => rfl) _ (v100.set (0 + (v101.getD (v98 + (0 : Int).toNat) default).toNat) (ibits .or .i64 (v100.getD (0 + (v101.getD (v98 + (0 : Int).toNat) default).toNat) default) v119)))) (AI (AI rfl (BVw.enc e_i64 (fun _ => rfl) _ v127)) (AI (AI rfl BVw.grJ) TT))))

theorem f25b0_L17_ok {a1 : List Int} {a2 : List Int} {a0 : List (List G_QRule)} {v28 : List (List Int)} {v98 : Nat} {v100 : List Int} {v101 : List Int} {v119 : Int} {v124 : Nat} {v125 : Nat} {v126 : Int} {v127 : List Int} {m : Option Nat} {o : ((Nat × Nat × (List Int) × (List Int)) ⊕ (List Int))} (h : S_fixpoint_propagate_25_l17 m a0 v28 v98 v100 v101 v119 v124 v125 v126 v127 = some o) :
    LWp Try.prog f25b0_lay 3 (.loop f25b0_c7) (QBlock 8 (QBlock 7 (BodyQ 3 6 (f25b0_L16_env a0 v28) (f25b0_L16_hp a0 v28) (f25b0_L16_Q a0 a1 a2) o))) [(0, .isl 1 (a0.map eB) false), (1, .msl (0, 0) 1 0 ((v100.set (0 + (v101.getD (v98 + (0 : Int).toNat) default).toNat) (ibits .or .i64 (v100.getD (0 + (v101.getD (v98 + (0 : Int).toNat) default).toNat) default) v119)).length) true), (2, .msl (3, 0) 1 v124 v125 false), (6, .msl (4, 0) 1 0 v28.length true), (92, .isl 1 ((v28.getD (0 + (v101.getD (v98 + (0 : Int).toNat) default).toNat) default).map e_i64) false), (93, .int .i64 (((v28.getD (0 + (v101.getD (v98 + (0 : Int).toNat) default).toNat) default).map e_i64).length : Int)), (94, .int .i64 v126)] ([((0, 0), .rows 1 ((v100.set (0 + (v101.getD (v98 + (0 : Int).toNat) default).toNat) (ibits .or .i64 (v100.getD (0 + (v101.getD (v98 + (0 : Int).toNat) default).toNat) default) v119)).map e_i64)), ((3, 0), .rows 1 (v127.map e_i64)), ((4, 0), .rows 1 (outG 5 1 (v28.map (List.map e_i64))))] ++ (fam 5 v28.length none)) 6 :=
  LWp_loopM (m := m) (s := ((v124, v125, v126, v127) : (Nat × Nat × Int × (List Int)))) (r := o) (fun (s : (Nat × Nat × Int × (List Int))) => S_fixpoint_propagate_25_b17 m a0 v28 v98 v100 v101 v119 s.1 s.2.1 s.2.2.1 s.2.2.2) (f25b0_L17_env a0 v28 v98 v100 v101 v119) (f25b0_L17_hp a0 v28 v98 v100 v101 v119) (f25b0_L17_Q a0 a1 a2 v28) (fun s o h => f25b0_L17_bok h) h

theorem f25b0_L16_bok {a1 : List Int} {a2 : List Int} {a0 : List (List G_QRule)} {v28 : List (List Int)} {v98 : Nat} {v99 : Nat} {v100 : List Int} {v101 : List Int} {m : Option Nat} {o : (Nat × Nat × (List Int) × (List Int)) ⊕ (List Int)} (h : S_fixpoint_propagate_25_b16 m a0 v28 v98 v99 v100 v101 = some o) :
    LWp Try.prog f25b0_lay 3 f25b0_c9 (BodyQ 3 6 (f25b0_L16_env a0 v28) (f25b0_L16_hp a0 v28) (f25b0_L16_Q a0 a1 a2) o) [(0, .isl 1 (a0.map eB) false), (1, .msl (0, 0) 1 0 v100.length true), (2, .msl (3, 0) 1 v98 v99 false), (6, .msl (4, 0) 1 0 v28.length true)] ([((0, 0), .rows 1 (v100.map e_i64)), ((3, 0), .rows 1 (v101.map e_i64)), ((4, 0), .rows 1 (outG 5 1 (v28.map (List.map e_i64))))] ++ (fam 5 v28.length none)) 6 := by
  unfold S_fixpoint_propagate_25_b16 at h
  refine seqI ?_
  refine seqI ?_
  refine regI ?_
  refine condI (v := (decide (((v99 : Nat) : Int) > 0))) rfl TT (fun h443 => ?_) (fun h443 => ?_)
  · have h := ite_tt h443 h
    refine skipI ?_
    refine blockI ?_
    refine seqI ?_
    refine regI ?_
    obtain ⟨h444, h⟩ := ite_some h
    refine AI h444 ?_
    obtain ⟨h445, h⟩ := ite_some h
    refine EX (e_i64 (v101.getD (v98 + (0 : Int).toNat) default)) (AI (getD_enc e_i64 _ _ h445) (AI (AI (lt_map e_i64 h445) (NB rfl)) ?_))
    refine seqI ?_
    refine regI ?_
    obtain ⟨h446, h⟩ := ite_some h
    refine EX (.msl (3, 0) 1 (v98 + (1 : Int).toNat) (v99 - (1 : Int).toNat) false) (AI (by simp) (AI (AI rfl (AI (And.left h446) (AI (And.right h446) (Int.le_refl _)))) ?_))
    refine LWp.sim (e := [(0, .isl 1 (a0.map eB) false), (1, .msl (0, 0) 1 0 v100.length true), (2, .msl (3, 0) 1 (v98 + (1 : Int).toNat) (v99 - (1 : Int).toNat) false), (6, .msl (4, 0) 1 0 v28.length true), (13, .int .i64 (v101.getD (v98 + (0 : Int).toNat) default))]) (L := ([((0, 0), .rows 1 (v100.map e_i64)), ((3, 0), .rows 1 (v101.map e_i64)), ((4, 0), .rows 1 (outG 5 1 (v28.map (List.map e_i64))))] ++ (fam 5 v28.length none))) (n := 6) ?_ ?_
    · exact simJ (M := [((3, 0), (3, 0)), ((4, 0), (4, 0))]) (lit' := [((0, 0), .rows 1 (v100.map e_i64)), ((3, 0), .rows 1 (v101.map e_i64)), ((4, 0), .rows 1 (outG 5 1 (v28.map (List.map e_i64))))]) (T := (fam 5 v28.length none)) (q := 5) (q' := 5) rfl (IsFam.cast (by first | rfl | simp) IsFam.base) (AI (VS rfl) (AI (Vw.mslE rfl (by first | rfl | (simp; done) | (simp at *; omega)) rfl) (AI (Vw.msl _ _ _ _ _ _ rfl) (AI (Vw.mslE rfl (by first | rfl | (simp; done) | (simp at *; omega)) rfl) (AI (VS rfl) TT))))) (AI (AI rfl (BVw.enc e_i64 (fun _ => rfl) _ v100)) (AI (AI rfl (BVw.enc e_i64 (fun _ => rfl) _ v101)) (AI (AI rfl BVw.grJ) TT)))
    refine seqI ?_
    refine drawI ?_
    obtain ⟨h447, h⟩ := ite_some h
    refine AI h447 ?_
    obtain ⟨h448, h⟩ := ite_some h
    refine EX (e_i64 (v100.getD (0 + (v101.getD (v98 + (0 : Int).toNat) default).toNat) default)) (AI (getD_enc e_i64 _ _ h448) (AI (AI (lt_map e_i64 h448) (NB rfl)) ?_))
    obtain ⟨h449, h⟩ := ite_some h
    refine AI h449 ?_
    refine EX (eB (a0.getD ((v101.getD (v98 + (0 : Int).toNat) default).toNat) default)) (AI (getD_enc eB _ _ (idx_ltL eB h449)) (AI (AI (idx_lt h449) (NB rfl)) ?_))
    obtain ⟨v119, h450, h⟩ := bind_some h
    refine PFn.readB [(0, 0)] (f27_ok h450) rfl (AI (VS rfl) (AI (Vw.frzB e_i64 e_i64_ok (fun h => Bool.noConfusion h) rfl rfl (by first | rfl | (simp; done) | (simp at *; omega))) TT)) ?_
    refine AI (AI (AI (lt_map e_i64 h448) (NB rfl)) (congrArg (cellsAt false 1 0) (getD_enc e_i64 _ _ h448))) ?_
    refine LWp.sim (e := [(0, .isl 1 (a0.map eB) false), (1, .msl (0, 0) 1 0 v100.length true), (2, .msl (3, 0) 1 (v98 + (1 : Int).toNat) (v99 - (1 : Int).toNat) false), (6, .msl (4, 0) 1 0 v28.length true), (13, .int .i64 (v101.getD (v98 + (0 : Int).toNat) default)), (14, .int .i64 (ibits .or .i64 (v100.getD (0 + (v101.getD (v98 + (0 : Int).toNat) default).toNat) default) v119))]) (L := ([((0, 0), .rows 1 (v100.map e_i64)), ((3, 0), .rows 1 (v101.map e_i64)), ((4, 0), .rows 1 (outG 5 1 (v28.map (List.map e_i64))))] ++ (fam 5 v28.length none))) (n := 6) ?_ ?_
    · exact simJ (M := [((3, 0), (3, 0)), ((4, 0), (4, 0))]) (lit' := [((0, 0), .rows 1 (v100.map e_i64)), ((3, 0), .rows 1 (v101.map e_i64)), ((4, 0), .rows 1 (outG 5 1 (v28.map (List.map e_i64))))]) (T := (fam 5 v28.length none)) (q := 5) (q' := 5) rfl (IsFam.cast (by first | rfl | simp) IsFam.base) (AI (VS rfl) (AI (Vw.mslE rfl (by first | rfl | (simp; done) | (simp at *; omega)) rfl) (AI (Vw.msl _ _ _ _ _ _ rfl) (AI (Vw.mslE rfl (by first | rfl | (simp; done) | (simp at *; omega)) rfl) (AI (VS rfl) (AI (VS rfl) TT)))))) (AI (AI rfl (BVw.enc e_i64 (fun _ => rfl) _ v100)) (AI (AI rfl (BVw.enc e_i64 (fun _ => rfl) _ v101)) (AI (AI rfl BVw.grJ) TT)))
    refine seqI ?_
    refine seqI ?_
    refine regI ?_
    obtain ⟨h451, h⟩ := ite_some h
    refine AI h451 ?_
    obtain ⟨h452, h⟩ := ite_some h
    refine EX (e_i64 (v100.getD (0 + (v101.getD (v98 + (0 : Int).toNat) default).toNat) default)) (AI (getD_enc e_i64 _ _ h452) (AI (AI (lt_map e_i64 h452) (NB rfl)) ?_))
    refine condI (v := ((ibits .or .i64 (v100.getD (0 + (v101.getD (v98 + (0 : Int).toNat) default).toNat) default) v119) == (v100.getD (0 + (v101.getD (v98 + (0 : Int).toNat) default).toNat) default))) rfl TT (fun h453 => ?_) (fun h453 => ?_)
    · have h := ite_tt h453 h
      refine exitI ?_
      cases h
      exact AI rfl (simJ (M := [((3, 0), (3, 0)), ((4, 0), (4, 0))]) (lit' := [((0, 0), .rows 1 (v100.map e_i64)), ((3, 0), .rows 1 (v101.map e_i64)), ((4, 0), .rows 1 (outG 5 1 (v28.map (List.map e_i64))))]) (T := (fam 5 v28.length none)) (q := 5) (q' := 5) rfl (IsFam.cast (by first | rfl | simp) IsFam.base) (AI (VS rfl) (AI (Vw.mslE rfl (by first | rfl | (simp; done) | (simp at *; omega)) rfl) (AI (Vw.msl _ _ _ _ _ _ rfl) (AI (Vw.mslE rfl (by first | rfl | (simp; done) | (simp at *; omega)) rfl) TT)))) (AI (AI rfl (BVw.enc e_i64 (fun _ => rfl) _ v100)) (AI (AI rfl (BVw.enc e_i64 (fun _ => rfl) _ v101)) (AI (AI rfl BVw.grJ) TT))))
    · have h := ite_ff h453 h
      refine skipI ?_
      refine seqI ?_
      refine regI ?_
      obtain ⟨h454, h⟩ := ite_some h
      refine AI h454 ?_
      obtain ⟨h455, h⟩ := ite_some h
      refine EX ((v100.set (0 + (v101.getD (v98 + (0 : Int).toNat) default).toNat) (ibits .or .i64 (v100.getD (0 + (v101.getD (v98 + (0 : Int).toNat) default).toNat) default) v119)).map e_i64) (AI (set_enc e_i64 _ _ _ _ _ h455 rfl) (AI (AI rfl (AI (lt_map e_i64 h455) (NB rfl))) ?_))
      refine LWp.sim (e := [(0, .isl 1 (a0.map eB) false), (1, .msl (0, 0) 1 0 v100.length true), (2, .msl (3, 0) 1 (v98 + (1 : Int).toNat) (v99 - (1 : Int).toNat) false), (6, .msl (4, 0) 1 0 v28.length true), (13, .int .i64 (v101.getD (v98 + (0 : Int).toNat) default))]) (L := ([((0, 0), .rows 1 ((v100.set (0 + (v101.getD (v98 + (0 : Int).toNat) default).toNat) (ibits .or .i64 (v100.getD (0 + (v101.getD (v98 + (0 : Int).toNat) default).toNat) default) v119)).map e_i64)), ((3, 0), .rows 1 (v101.map e_i64)), ((4, 0), .rows 1 (outG 5 1 (v28.map (List.map e_i64))))] ++ (fam 5 v28.length none))) (n := 6) ?_ ?_
      · exact simJ (M := [((3, 0), (3, 0)), ((4, 0), (4, 0))]) (lit' := [((0, 0), .rows 1 ((v100.set (0 + (v101.getD (v98 + (0 : Int).toNat) default).toNat) (ibits .or .i64 (v100.getD (0 + (v101.getD (v98 + (0 : Int).toNat) default).toNat) default) v119)).map e_i64)), ((3, 0), .rows 1 (v101.map e_i64)), ((4, 0), .rows 1 (outG 5 1 (v28.map (List.map e_i64))))]) (T := (fam 5 v28.length none)) (q := 5) (q' := 5) rfl (IsFam.cast (by first | rfl | simp) IsFam.base) (AI (VS rfl) (AI (Vw.mslE rfl (by first | rfl | (simp; done) | (simp at *; omega)) rfl) (AI (Vw.msl _ _ _ _ _ _ rfl) (AI (Vw.mslE rfl (by first | rfl | (simp; done) | (simp at *; omega)) rfl) (AI (VS rfl) TT))))) (AI (AI rfl (BVw.enc e_i64 (fun _ => rfl) _ (v100.set (0 + (v101.getD (v98 + (0 : Int).toNat) default).toNat) (ibits .or .i64 (v100.getD (0 + (v101.getD (v98 + (0 : Int).toNat) default).toNat) default) v119)))) (AI (AI rfl (BVw.enc e_i64 (fun _ => rfl) _ v101)) (AI (AI rfl BVw.grJ) TT)))
      refine seqI ?_
      refine regI ?_
      obtain ⟨h456, h⟩ := ite_some h
      refine AI h456 ?_
      obtain ⟨h457, h⟩ := ite_some h
      refine EX ([.osl (5, (0 + (v101.getD (v98 + (0 : Int).toNat) default).toNat)) 1 ((v28.getD (0 + (v101.getD (v98 + (0 : Int).toNat) default).toNat) default).map e_i64)]) (AI (outG_rowE e_i64 h457) (AI (AI (outG_ltE e_i64 h457) (NB rfl)) ?_))
      refine blockI ?_
      refine LWp.sim ?_ (f25b0_L17_ok h)
      exact simJ (M := [((3, 0), (3, 0)), ((4, 0), (4, 0))]) (lit' := [((0, 0), .rows 1 ((v100.set (0 + (v101.getD (v98 + (0 : Int).toNat) default).toNat) (ibits .or .i64 (v100.getD (0 + (v101.getD (v98 + (0 : Int).toNat) default).toNat) default) v119)).map e_i64)), ((3, 0), .rows 1 (v101.map e_i64)), ((4, 0), .rows 1 (outG 5 1 (v28.map (List.map e_i64))))]) (T := (fam 5 v28.length none)) (q := 5) (q' := 5) rfl (IsFam.cast (by first | rfl | simp) IsFam.base) (AI (VS rfl) (AI (Vw.mslE rfl (by first | rfl | (simp; done) | (simp at *; omega)) rfl) (AI (Vw.msl _ _ _ _ _ _ rfl) (AI (Vw.mslE rfl (by first | rfl | (simp; done) | (simp at *; omega)) rfl) (AI (Vw.oslI _ _ _) (AI (VS rfl) (AI (VS rfl) TT))))))) (AI (AI rfl (BVw.enc e_i64 (fun _ => rfl) _ (v100.set (0 + (v101.getD (v98 + (0 : Int).toNat) default).toNat) (ibits .or .i64 (v100.getD (0 + (v101.getD (v98 + (0 : Int).toNat) default).toNat) default) v119)))) (AI (AI rfl (BVw.enc e_i64 (fun _ => rfl) _ v101)) (AI (AI rfl BVw.grJ) TT)))
  · have h := ite_ff h443 h
    refine exitI ?_
    obtain ⟨o, hq, rfl⟩ := Option.map_eq_some_iff.1 h
    replace h := hq; clear hq
    refine AI nofun ?_
    cases h
    exact finI (n' := 6) [] [] rfl rfl (VS rfl) (AI (AI rfl (BVw.enc e_i64 (fun _ => rfl) _ v100)) TT)

theorem f25b0_L16_ok {a1 : List Int} {a2 : List Int} {a0 : List (List G_QRule)} {v28 : List (List Int)} {v98 : Nat} {v99 : Nat} {v100 : List Int} {v101 : List Int} {m : Option Nat} {o : (List Int)} (h : S_fixpoint_propagate_25_l16 m a0 v28 v98 v99 v100 v101 = some o) :
    LWp Try.prog f25b0_lay 3 (.loop f25b0_c9) (QBlock 6 (f25b0_Q a0 a1 a2 o)) [(0, .isl 1 (a0.map eB) false), (1, .msl (0, 0) 1 0 v100.length true), (2, .msl (3, 0) 1 v98 v99 false), (6, .msl (4, 0) 1 0 v28.length true)] ([((0, 0), .rows 1 (v100.map e_i64)), ((3, 0), .rows 1 (v101.map e_i64)), ((4, 0), .rows 1 (outG 5 1 (v28.map (List.map e_i64))))] ++ (fam 5 v28.length none)) 6 :=
  LWp_loopM (m := m) (s := ((v98, v99, v100, v101) : (Nat × Nat × (List Int) × (List Int)))) (r := o) (fun (s : (Nat × Nat × (List Int) × (List Int))) => S_fixpoint_propagate_25_b16 m a0 v28 s.1 s.2.1 s.2.2.1 s.2.2.2) (f25b0_L16_env a0 v28) (f25b0_L16_hp a0 v28) (f25b0_L16_Q a0 a1 a2) (fun s o h => f25b0_L16_bok h) h

theorem f25b0_j40_ok {a0 : List (List G_QRule)} {a1 : List Int} {a2 : List Int} {v28 : List (List Int)} {m : Option Nat} {o : (List Int)} (h : S_fixpoint_propagate_25_j40 m a0 a1 a2 v28 = some o) :
    LWp Try.prog f25b0_lay 3 f25b0_c4 (f25b0_Q a0 a1 a2 o) [(0, .isl 1 (a0.map eB) false), (1, .msl (0, 0) 1 0 a1.length true), (2, .msl (3, 0) 1 0 a2.length true), (6, .msl (4, 0) 1 0 v28.length true)] ([((0, 0), .rows 1 (a1.map e_i64)), ((3, 0), .rows 1 (a2.map e_i64)), ((4, 0), .rows 1 (outG 5 1 (v28.map (List.map e_i64))))] ++ (fam 5 v28.length none)) 6 := by
  unfold S_fixpoint_propagate_25_j40 at h
  refine blockI ?_
  refine LWp.sim ?_ (f25b0_L16_ok h)
  exact simJ (M := [((3, 0), (3, 0)), ((4, 0), (4, 0))]) (lit' := [((0, 0), .rows 1 (a1.map e_i64)), ((3, 0), .rows 1 (a2.map e_i64)), ((4, 0), .rows 1 (outG 5 1 (v28.map (List.map e_i64))))]) (T := (fam 5 v28.length none)) (q := 5) (q' := 5) rfl (IsFam.cast (by first | rfl | simp) IsFam.base) (AI (VS rfl) (AI (Vw.mslE rfl (by first | rfl | (simp; done) | (simp at *; omega)) rfl) (AI (Vw.mslW rfl (by first | rfl | (simp; done) | (simp at *; omega))) (AI (Vw.mslE rfl (by first | rfl | (simp; done) | (simp at *; omega)) rfl) TT)))) (AI (AI rfl (BVw.enc e_i64 (fun _ => rfl) _ a1)) (AI (AI rfl (BVw.enc e_i64 (fun _ => rfl) _ a2)) (AI (AI rfl BVw.grJ) TT)))

theorem f25b0_L9_bok {a0 : List (List G_QRule)} {a1 : List Int} {a2 : List Int} {v27 : Int} {v28 : List (List Int)} {m : Option Nat} {o : (Int × (List (List Int))) ⊕ (List Int)} (h : S_fixpoint_propagate_25_b9 m a0 a1 a2 v27 v28 = some o) :
    LWp Try.prog f25b0_lay 3 f25b0_c6 (BodyQ 3 6 (f25b0_L9_env a0 a1 a2) (f25b0_L9_hp a0 a1 a2) (f25b0_L9_Q a0 a1 a2) o) [(0, .isl 1 (a0.map eB) false), (1, .msl (0, 0) 1 0 a1.length true), (2, .msl (3, 0) 1 0 a2.length true), (6, .msl (4, 0) 1 0 v28.length true), (20, .isl 1 (a0.map eB) false), (21, .int .i64 ((a0.map eB).length : Int)), (22, .int .i64 v27)] ([((0, 0), .rows 1 (a1.map e_i64)), ((3, 0), .rows 1 (a2.map e_i64)), ((4, 0), .rows 1 (outG 5 1 (v28.map (List.map e_i64))))] ++ (fam 5 v28.length none)) 6 := by
  unfold S_fixpoint_propagate_25_b9 at h
  refine seqI ?_
  refine regI ?_
  refine seqI ?_
  refine condI (v := (decide (v27 < ((a0.map eB).length : Int)))) rfl TT (fun h252 => ?_) (fun h252 => ?_)
  · have h := ite_tt h252 h
    refine skipI ?_
    refine seqI ?_
    refine blockI ?_
    refine seqI ?_
    refine regI ?_
    obtain ⟨h253, h⟩ := ite_some h
    refine AI h253 ?_
    refine EX (eB (a0.getD v27.toNat default)) (AI (getD_enc eB _ _ (idx_ltL eB h253)) (AI (AI (idx_lt h253) (NB rfl)) ?_))
    refine seqI ?_
    refine regI ?_
    refine LWp.sim (e := [(0, .isl 1 (a0.map eB) false), (1, .msl (0, 0) 1 0 a1.length true), (2, .msl (3, 0) 1 0 a2.length true), (6, .msl (4, 0) 1 0 v28.length true), (7, .int .i64 v27), (20, .isl 1 (a0.map eB) false), (21, .int .i64 ((a0.map eB).length : Int)), (22, .int .i64 v27), (27, .isl 2 ((a0.getD v27.toNat default).map e_QRule) false), (28, .int .i64 (((a0.getD v27.toNat default).map e_QRule).length : Int)), (29, .int .i64 0)]) (L := ([((0, 0), .rows 1 (a1.map e_i64)), ((3, 0), .rows 1 (a2.map e_i64)), ((4, 0), .rows 1 (outG 5 1 (v28.map (List.map e_i64))))] ++ (fam 5 v28.length none))) (n := 6) ?_ ?_
    · exact simJ (M := [((3, 0), (3, 0)), ((4, 0), (4, 0))]) (lit' := [((0, 0), .rows 1 (a1.map e_i64)), ((3, 0), .rows 1 (a2.map e_i64)), ((4, 0), .rows 1 (outG 5 1 (v28.map (List.map e_i64))))]) (T := (fam 5 v28.length none)) (q := 5) (q' := 5) rfl (IsFam.cast (by first | rfl | simp) IsFam.base) (AI (VS rfl) (AI (Vw.mslE rfl (by first | rfl | (simp; done) | (simp at *; omega)) rfl) (AI (Vw.mslE rfl (by first | rfl | (simp; done) | (simp at *; omega)) rfl) (AI (Vw.mslE rfl (by first | rfl | (simp; done) | (simp at *; omega)) rfl) (AI (VS rfl) (AI (VS rfl) (AI (VS rfl) (AI (VS rfl) (AI (VS rfl) (AI (VS rfl) (AI (VS rfl) TT))))))))))) (AI (AI rfl (BVw.enc e_i64 (fun _ => rfl) _ a1)) (AI (AI rfl (BVw.enc e_i64 (fun _ => rfl) _ a2)) (AI (AI rfl BVw.grJ) TT)))
    refine blockI ?_
    refine LWp.sim ?_ (f25b0_L12_ok h)
    exact simJ (M := [((3, 0), (3, 0)), ((4, 0), (4, 0))]) (lit' := [((0, 0), .rows 1 (a1.map e_i64)), ((3, 0), .rows 1 (a2.map e_i64)), ((4, 0), .rows 1 (outG 5 1 (v28.map (List.map e_i64))))]) (T := (fam 5 v28.length none)) (q := 5) (q' := 5) rfl (IsFam.cast (by first | rfl | simp) IsFam.base) (AI (VS rfl) (AI (Vw.mslE rfl (by first | rfl | (simp; done) | (simp at *; omega)) rfl) (AI (Vw.mslE rfl (by first | rfl | (simp; done) | (simp at *; omega)) rfl) (AI (Vw.mslE rfl (by first | rfl | (simp; done) | (simp at *; omega)) rfl) (AI (VS rfl) (AI (VS rfl) (AI (VS rfl) (AI (VS rfl) (AI (VS rfl) (AI (VS rfl) (AI (VS rfl) TT))))))))))) (AI (AI rfl (BVw.enc e_i64 (fun _ => rfl) _ a1)) (AI (AI rfl (BVw.enc e_i64 (fun _ => rfl) _ a2)) (AI (AI rfl BVw.grJ) TT)))
  · have h := ite_ff h252 h
    refine exitI ?_
    obtain ⟨o, hq, rfl⟩ := Option.map_eq_some_iff.1 h
    replace h := hq; clear hq
    refine AI nofun ?_
    refine LWp.sim ?_ (f25b0_j40_ok h)
    exact simJ (M := [((3, 0), (3, 0)), ((4, 0), (4, 0))]) (lit' := [((0, 0), .rows 1 (a1.map e_i64)), ((3, 0), .rows 1 (a2.map e_i64)), ((4, 0), .rows 1 (outG 5 1 (v28.map (List.map e_i64))))]) (T := (fam 5 v28.length none)) (q := 5) (q' := 5) rfl (IsFam.cast (by first | rfl | simp) IsFam.base) (AI (VS rfl) (AI (Vw.mslE rfl (by first | rfl | (simp; done) | (simp at *; omega)) rfl) (AI (Vw.mslE rfl (by first | rfl | (simp; done) | (simp at *; omega)) rfl) (AI (Vw.mslE rfl (by first | rfl | (simp; done) | (simp at *; omega)) rfl) TT)))) (AI (AI rfl (BVw.enc e_i64 (fun _ => rfl) _ a1)) (AI (AI rfl (BVw.enc e_i64 (fun _ => rfl) _ a2)) (AI (AI rfl BVw.grJ) TT)))

theorem f25b0_L9_ok {a0 : List (List G_QRule)} {a1 : List Int} {a2 : List Int} {v27 : Int} {v28 : List (List Int)} {m : Option Nat} {o : (List Int)} (h : S_fixpoint_propagate_25_l9 m a0 a1 a2 v27 v28 = some o) :
    LWp Try.prog f25b0_lay 3 (.loop f25b0_c6) (QBlock 0 (QSeq Try.prog f25b0_lay 3 f25b0_c4 (f25b0_Q a0 a1 a2 o))) [(0, .isl 1 (a0.map eB) false), (1, .msl (0, 0) 1 0 a1.length true), (2, .msl (3, 0) 1 0 a2.length true), (6, .msl (4, 0) 1 0 v28.length true), (20, .isl 1 (a0.map eB) false), (21, .int .i64 ((a0.map eB).length : Int)), (22, .int .i64 v27)] ([((0, 0), .rows 1 (a1.map e_i64)), ((3, 0), .rows 1 (a2.map e_i64)), ((4, 0), .rows 1 (outG 5 1 (v28.map (List.map e_i64))))] ++ (fam 5 v28.length none)) 6 :=
  LWp_loopM (m := m) (s := ((v27, v28) : (Int × (List (List Int))))) (r := o) (fun (s : (Int × (List (List Int)))) => S_fixpoint_propagate_25_b9 m a0 a1 a2 s.1 s.2) (f25b0_L9_env a0 a1 a2) (f25b0_L9_hp a0 a1 a2) (f25b0_L9_Q a0 a1 a2) (fun s o h => f25b0_L9_bok h) h

noncomputable def S_fixpoint_propagate_25 (m : Option Nat) (a0 : List (List G_QRule)) (a1 : List Int) (a2 : List Int) : Option (List Int) :=
  if (0 : Int) ≤ ((a0.map eB).length : Int) ∧ ((a0.map eB).length : Int) ≤ ((a0.map eB).length : Int) ∧ ((a0.map eB).length : Int) * 24 ≤ 140737488355328 then
  S_fixpoint_propagate_25_l9 m a0 a1 a2 0 (List.replicate ((a0.map eB).length : Int).toNat ([] : List Int))
  else none

theorem f25b0_start {a0 : List (List G_QRule)} {a1 : List Int} {a2 : List Int} {m : Option Nat} {o : (List Int)} (h : S_fixpoint_propagate_25 m a0 a1 a2 = some o) : LWp Try.prog f25b0_lay 3 f25b0_c10 (f25b0_Q a0 a1 a2 o) (initEnv 0 [.isl 1 (a0.map eB) false, .msl (0, 0) 1 0 a1.length true, .msl (0, 1) 1 0 a2.length true]) [((0, 0), .rows 1 (a1.map e_i64)), ((0, 1), .rows 1 (a2.map e_i64))] 3 := by
  unfold S_fixpoint_propagate_25 at h
  refine seqI ?_
  refine regI ?_
  obtain ⟨h1, h⟩ := ite_some h
  refine EX (List.replicate ((a0.map eB).length : Int).toNat [AVal.isl 1 [] true]) (EX true (AI (Or.inr rfl) (AI (by simp) (AI h1 ?_))))
  refine LWp.sim (e := [(0, .isl 1 (a0.map eB) false), (1, .msl (0, 0) 1 0 a1.length true), (2, .msl (3, 0) 1 0 a2.length true), (6, .msl (4, 0) 1 0 ((List.replicate ((a0.map eB).length : Int).toNat ([] : List Int)).length) true)]) (L := ([((0, 0), .rows 1 (a1.map e_i64)), ((3, 0), .rows 1 (a2.map e_i64)), ((4, 0), .rows 1 (outG 5 1 ((List.replicate ((a0.map eB).length : Int).toNat ([] : List Int)).map (List.map e_i64))))] ++ (fam 5 (List.replicate ((a0.map eB).length : Int).toNat ([] : List Int)).length none))) (n := 6) ?_ ?_
  · exact simNew (M := [((3, 0), (0, 1)), ((4, 0), (3, 0))]) (lit' := [((3, 0), .rows 1 (List.replicate ((a0.map eB).length : Int).toNat [.isl 1 [] true])), ((0, 0), .rows 1 (a1.map e_i64)), ((0, 1), .rows 1 (a2.map e_i64))]) (T := []) (q := 104) (q' := 5) rfl (AI (VS rfl) (AI (Vw.mslE rfl (by first | rfl | (simp; done) | (simp at *; omega)) rfl) (AI (Vw.mslE rfl (by first | rfl | (simp; done) | (simp at *; omega)) rfl) (AI (Vw.mslE rfl (by first | rfl | (simp; done) | (simp at *; omega)) rfl) TT)))) (AI (AI rfl (BVw.enc e_i64 (fun _ => rfl) _ a1)) (AI (AI rfl (BVw.enc e_i64 (fun _ => rfl) _ a2)) (AI (AI rfl (BVw.grNewE e_i64 (by decide))) TT)))
  refine seqI ?_
  refine seqI ?_
  refine regI ?_
  refine blockI ?_
  refine LWp.sim ?_ (f25b0_L9_ok h)
  exact simJ (M := [((3, 0), (3, 0)), ((4, 0), (4, 0))]) (lit' := [((0, 0), .rows 1 (a1.map e_i64)), ((3, 0), .rows 1 (a2.map e_i64)), ((4, 0), .rows 1 (outG 5 1 ((List.replicate ((a0.map eB).length : Int).toNat ([] : List Int)).map (List.map e_i64))))]) (T := (fam 5 (List.replicate ((a0.map eB).length : Int).toNat ([] : List Int)).length none)) (q := 5) (q' := 5) rfl (IsFam.cast (by first | rfl | simp) IsFam.base) (AI (VS rfl) (AI (Vw.mslE rfl (by first | rfl | (simp; done) | (simp at *; omega)) rfl) (AI (Vw.mslE rfl (by first | rfl | (simp; done) | (simp at *; omega)) rfl) (AI (Vw.mslE rfl (by first | rfl | (simp; done) | (simp at *; omega)) rfl) (AI (VS rfl) (AI (VS rfl) (AI (VS rfl) TT))))))) (AI (AI rfl (BVw.enc e_i64 (fun _ => rfl) _ a1)) (AI (AI rfl (BVw.enc e_i64 (fun _ => rfl) _ a2)) (AI (AI rfl BVw.grJ) TT)))

theorem f25b0_ok {a0 : List (List G_QRule)} {a1 : List Int} {a2 : List Int} {m : Option Nat} {o : (List Int)} (h : S_fixpoint_propagate_25 m a0 a1 a2 = some o) : ACalls Try.prog 25 [.isl 1 (a0.map eB) false, .msl (0, 0) 1 0 a1.length true, .msl (0, 1) 1 0 a2.length true] [((0, 0), .rows 1 (a1.map e_i64)), ((0, 1), .rows 1 (a2.map e_i64))] 3 (Gives 3 (.tup []) [((0, 0), .rows 1 (o.map e_i64))]) := bfn_of (L := f25b0_L) f25b0_low f25b0_fok (NB rfl) (f25b0_start h)

def f7_c0 : LCode := (.seq (.region [⟨some 2, .mv (.c (.val (.slice none 0 0))), none⟩,
   ⟨some 3, .mv (.c (.int .i64 0)), none⟩])
 (.seq (.seq (.region [⟨some 6, .mv (.t 0), none⟩,
   ⟨some 7, .call 10 [(.t 6)], none⟩,
   ⟨some 4, .mv (.t 7), none⟩])
 (.seq (.region [⟨some 8, .mv (.t 4), none⟩,
   ⟨some 9, .bin .neq (.t 8) (.c (.int .i64 0)), none⟩])
 (.cond (.t 9)
  (.seq (.region [⟨some 10, .mv (.t 4), none⟩,
    ⟨some 2, .mv (.c (.val (.slice none 0 0))), none⟩,
    ⟨some 3, .mv (.t 10), none⟩])
  .ret)
  .skip)))
 (.seq (.region [⟨some 11, .mv (.t 0), none⟩,
   ⟨some 12, .len false (.t 11), none⟩,
   ⟨some 13, .mkslice false 1 8 [(.int .i64 0)] (.t 12) (.t 12), none⟩,
   ⟨some 5, .mv (.t 13), none⟩])
 (.seq (.region [⟨some 14, .mv (.t 0), none⟩,
   ⟨some 15, .mv (.t 5), none⟩,
   ⟨some 16, .mv (.t 0), none⟩,
   ⟨some 17, .len false (.t 16), none⟩,
   ⟨some 18, .call 26 [(.t 17)], none⟩,
   ⟨some 19, .call 25 [(.t 14), (.t 15), (.t 18)], none⟩])
 (.seq (.region [⟨some 20, .mv (.t 5), none⟩,
   ⟨some 2, .mv (.t 20), none⟩,
   ⟨some 3, .mv (.c (.int .i64 0)), none⟩])
 .ret)))))
def f7_lay : Lay := ⟨21, [13], false⟩
def f7_res : List LRes := [.t 2, .t 3]
def f7_L : LFn := ⟨1, f7_lay, f7_c0, f7_res⟩
theorem f7_low : lowFn Try.prog [13] 7 = some f7_L := by kernel_rfl
theorem f7_fok : FnOk Try.prog 7 := ⟨_, Try.func7, rfl, rfl⟩
noncomputable def S_fixpoint_Least (m : Option Nat) (a0 : List (List G_QRule)) : Option ((List Int) × Int) :=
  (S_fixpoint_Check m a0).bind fun v1 =>
  if (v1 != 0) = true then
    some ([], v1)
  else
    if (0 : Int) ≤ ((a0.map eB).length : Int) ∧ ((a0.map eB).length : Int) ≤ ((a0.map eB).length : Int) ∧ ((a0.map eB).length : Int) * 8 ≤ 140737488355328 then
    (S_fixpoint_indices m ((a0.map eB).length : Int)).bind fun v2 =>
    (S_fixpoint_propagate_25 m a0 (List.replicate ((a0.map eB).length : Int).toNat 0) v2).bind fun v3 =>
    if v3.length = (List.replicate ((a0.map eB).length : Int).toNat 0).length then
    some (v3, 0)
    else none
    else none

def f7_Q (a0 : List (List G_QRule)) (o : (List Int) × Int) : Exit → Env → AHeap → Nat → Prop := FinK f7_res (PureEnd (.tup [.isl 1 (o.1.map e_i64) false, .int .i64 o.2]))

theorem f7_start {a0 : List (List G_QRule)} {m : Option Nat} {o : (List Int) × Int} (h : S_fixpoint_Least m a0 = some o) : LWp Try.prog f7_lay 0 f7_c0 (f7_Q a0 o) (initEnv 0 [.isl 1 (a0.map eB) false]) [] 0 := by
  unfold S_fixpoint_Least at h
  refine seqI ?_
  refine regI ?_
  refine seqI ?_
  refine seqI ?_
  refine regI ?_
  obtain ⟨v1, h1, h⟩ := bind_some h
  refine PFn.call (f10_ok h1) (AI (VS rfl) TT) ?_
  refine seqI ?_
  refine regI ?_
  refine condI (v := (v1 != 0)) rfl TT (fun h2 => ?_) (fun h2 => ?_)
  · have h := ite_tt h2 h
    refine seqI ?_
    refine regI ?_
    refine LWp.sim (e := [(2, .val (.slice none 0 0)), (3, .int .i64 v1)]) (L := []) (n := 0) ?_ ?_
    · exact simI (M := []) rfl (AI (VS rfl) (AI (VS rfl) TT)) TT
    refine retI ?_
    cases h
    exact AI TT (AI TT (AI rfl (Vw.tupL (AI (Vw.nilI _ _) (AI (VS rfl) TT)))))
  · have h := ite_ff h2 h
    refine skipI ?_
    refine seqI ?_
    refine regI ?_
    obtain ⟨h3, h⟩ := ite_some h
    refine EX ((List.replicate ((a0.map eB).length : Int).toNat 0).map e_i64) (EX true (AI (Or.inl (repl_enc e_i64 ((a0.map eB).length : Int).toNat 0)) (AI (by simp) (AI h3 ?_))))
    refine LWp.sim (e := [(0, .isl 1 (a0.map eB) false), (5, .msl (0, 0) 1 0 (((List.replicate ((a0.map eB).length : Int).toNat 0).map e_i64).length) true)]) (L := [((0, 0), .rows 1 ((List.replicate ((a0.map eB).length : Int).toNat 0).map e_i64))]) (n := 1) ?_ ?_
    · exact simI (M := [((0, 0), (0, 0))]) rfl (AI (VS rfl) (AI (Vw.mslE rfl (by first | rfl | (simp; done) | (simp at *; omega)) rfl) TT)) (AI (AI rfl (BVw.enc e_i64 (fun _ => rfl) _ (List.replicate ((a0.map eB).length : Int).toNat 0))) TT)
    refine seqI ?_
    refine regI ?_
    obtain ⟨v2, h4, h⟩ := bind_some h
    refine bcall (k := 3) (m := 1) (L' := [((1, 0), .rows 1 (v2.map e_i64))]) (rest := [((0, 0), .rows 1 ((List.replicate ((a0.map eB).length : Int).toNat 0).map e_i64))]) (R' := .msl (1, 0) 1 0 v2.length true) [] (f26b0_ok h4) rfl rfl rfl (AI (VS rfl) TT) TT rfl (AI rfl (AI (rows_ren e_i64 (fun _ => rfl) _ _) TT)) rfl ?_
    obtain ⟨v3, h5, h⟩ := bind_some h
    refine bcall (k := 3) (m := 0) (L' := [((0, 0), .rows 1 (v3.map e_i64))]) (rest := []) (R' := .tup []) [((0, 0), (0, 0)), ((0, 1), (1, 0))] (f25b0_ok h5) rfl rfl rfl (AI (VS rfl) (AI (Vw.mslE rfl (by first | rfl | (simp; done) | (simp at *; omega)) rfl) (AI (Vw.mslE rfl (by first | rfl | (simp; done) | (simp at *; omega)) rfl) TT))) (AI (h0I (0, 0) rfl rfl (BVw.enc e_i64 (fun _ => rfl) _ (List.replicate ((a0.map eB).length : Int).toNat 0))) (AI (h0I (1, 0) rfl rfl (BVw.enc e_i64 (fun _ => rfl) _ v2)) TT)) (nid_ren _ rfl) (AI rfl (AI (rows_ren e_i64 (fun _ => rfl) _ _) TT)) rfl ?_
    obtain ⟨h6, h⟩ := ite_some h
    refine seqI ?_
    refine regI ?_
    refine LWp.sim (e := [(2, .msl (0, 0) 1 0 (((List.replicate ((a0.map eB).length : Int).toNat 0).map e_i64).length) true), (3, .int .i64 0)]) (L := [((0, 0), .rows 1 (v3.map e_i64))]) (n := 1) ?_ ?_
    · exact simI (M := [((0, 0), (0, 0))]) rfl (AI (Vw.mslE rfl (by first | rfl | (simp; done) | (simp at *; omega)) rfl) (AI (VS rfl) TT)) (AI (AI rfl (BVw.enc e_i64 (fun _ => rfl) _ v3)) TT)
    refine retI ?_
    cases h
    exact AI TT (AI TT (AI rfl (Vw.tupL (AI (Vw.frzB e_i64 e_i64_ok (fun h => Bool.noConfusion h) rfl rfl (by first | rfl | (simp; done) | (simp at *; omega))) (AI (VS rfl) TT)))))

theorem f7_ok {a0 : List (List G_QRule)} {m : Option Nat} {o : (List Int) × Int} (h : S_fixpoint_Least m a0 = some o) : PFn Try.prog 7 [.isl 1 (a0.map eB) false] (.tup [.isl 1 (o.1.map e_i64) false, .int .i64 o.2]) := PFn.ofFnW (L := f7_L) f7_low f7_fok (NB rfl) rfl (f7_start h)

def f28_c1 : LCode := (.seq (.region [⟨some 14, .bin .lss (.t 13) (.t 12), none⟩])
 (.seq (.cond (.t 14)
  .skip
  (.exit 0))
 (.seq (.block 1
  (.seq (.region [⟨some 15, .mv (.t 13), none⟩,
    ⟨some 5, .mv (.t 15), none⟩])
  (.seq (.quiet [⟨some 16, .mv (.t 0), none⟩,
    ⟨some 17, .mv (.t 5), none⟩,
    ⟨some 18, .iaddr 1 (.t 16) (.t 17), none⟩,
    ⟨some 19, .load false 1 (.t 18), none⟩,
    ⟨some 20, .mv (.t 1), none⟩,
    ⟨some 21, .mv (.t 5), none⟩,
    ⟨some 22, .iaddr 1 (.t 20) (.t 21), none⟩,
    ⟨some 23, .load false 1 (.t 22), none⟩,
    ⟨some 24, .bin .neq (.t 19) (.t 23), none⟩])
  (.cond (.t 24)
   (.seq (.region [⟨some 4, .mv (.c (.bool false)), none⟩])
   .ret)
   .skip))))
 (.region [⟨some 25, .bin .add (.t 13) (.c (.int .i64 1)), none⟩,
   ⟨some 13, .mv (.t 25), none⟩]))))
def f28_c0 : LCode := (.seq (.region [⟨some 4, .mv (.c (.bool true)), none⟩])
 .ret)
def f28_c2 : LCode := (.seq (.region [⟨some 4, .mv (.c (.bool false)), none⟩])
 (.seq (.seq (.region [⟨some 6, .mv (.t 0), none⟩,
   ⟨some 7, .len false (.t 6), none⟩,
   ⟨some 8, .mv (.t 1), none⟩,
   ⟨some 9, .len false (.t 8), none⟩,
   ⟨some 10, .bin .neq (.t 7) (.t 9), none⟩])
 (.cond (.t 10)
  (.seq (.region [⟨some 4, .mv (.c (.bool false)), none⟩])
  .ret)
  .skip))
 (.seq (.seq (.region [⟨some 11, .mv (.t 0), none⟩,
   ⟨some 12, .len false (.t 11), none⟩,
   ⟨some 13, .mv (.c (.int .i64 0)), none⟩])
 (.block 0
  (.loop
   f28_c1)))
 f28_c0)))
def f28_lay : Lay := ⟨26, [], false⟩
def f28_res : List LRes := [.t 4]
def f28_L : LFn := ⟨2, f28_lay, f28_c2, f28_res⟩
theorem f28_low : lowFn Try.prog [] 28 = some f28_L := by kernel_rfl
theorem f28_fok : FnOk Try.prog 28 := ⟨_, Try.func28, rfl, rfl⟩
def f28_Q (a0 : List Int) (a1 : List Int) (o : Bool) : Exit → Env → AHeap → Nat → Prop := FinK f28_res (PureEnd (.bool o))

def f28_L1_env (a0 : List Int) (a1 : List Int) (s : Int) : Env := [(0, .isl 1 (a0.map e_i64) false), (1, .isl 1 (a1.map e_i64) false), (12, .int .i64 ((a0.map e_i64).length : Int)), (13, .int .i64 s)]
def f28_L1_hp (a0 : List Int) (a1 : List Int) (s : Int) : AHeap := []
def f28_L1_Q (a0 : List Int) (a1 : List Int) (o : Bool) : Exit → Env → AHeap → Nat → Prop := (QBlock 0 (QSeq Try.prog f28_lay 0 f28_c0 (f28_Q a0 a1 o)))

noncomputable def S_slices_Equal_int_j1 (m : Option Nat) : Option Bool :=
  some true

noncomputable def S_slices_Equal_int_b1 (m : Option Nat) (a0 : List Int) (a1 : List Int) (v1 : Int) : Option (Int ⊕ Bool) :=
  if (decide (v1 < ((a0.map e_i64).length : Int))) = true then
    if (0 : Int) ≤ v1 ∧ v1 < ((a0.map e_i64).length : Int) then
    if (0 : Int) ≤ v1 ∧ v1 < ((a1.map e_i64).length : Int) then
    if ((a0.getD v1.toNat default) != (a1.getD v1.toNat default)) = true then
      Option.map Sum.inr (
        some false)
    else
      some (.inl (W (v1 + 1)))
    else none
    else none
  else
    Option.map Sum.inr (
      S_slices_Equal_int_j1 m)

noncomputable def S_slices_Equal_int_l1 (m : Option Nat) (a0 : List Int) (a1 : List Int) (v1 : Int) : Option Bool := loopM m (fun (s : Int) => S_slices_Equal_int_b1 m a0 a1 s) v1

theorem f28_j1_ok {a0 : List Int} {a1 : List Int} {m : Option Nat} {o : Bool} (h : S_slices_Equal_int_j1 m = some o) :
    LWp Try.prog f28_lay 0 f28_c0 (f28_Q a0 a1 o) [] [] 0 := by
  unfold S_slices_Equal_int_j1 at h
  refine seqI ?_
  refine regI ?_
  refine retI ?_
  cases h
  exact AI TT (AI rfl (VS rfl))

theorem f28_L1_bok {a0 : List Int} {a1 : List Int} {v1 : Int} {m : Option Nat} {o : Int ⊕ Bool} (h : S_slices_Equal_int_b1 m a0 a1 v1 = some o) :
    LWp Try.prog f28_lay 0 f28_c1 (BodyQ 0 0 (f28_L1_env a0 a1) (f28_L1_hp a0 a1) (f28_L1_Q a0 a1) o) [(0, .isl 1 (a0.map e_i64) false), (1, .isl 1 (a1.map e_i64) false), (12, .int .i64 ((a0.map e_i64).length : Int)), (13, .int .i64 v1)] [] 0 := by
  unfold S_slices_Equal_int_b1 at h
  refine seqI ?_
  refine regI ?_
  refine seqI ?_
  refine condI (v := (decide (v1 < ((a0.map e_i64).length : Int)))) rfl TT (fun h10 => ?_) (fun h10 => ?_)
  · have h := ite_tt h10 h
    refine skipI ?_
    refine seqI ?_
    refine blockI ?_
    refine seqI ?_
    refine regI ?_
    refine seqI ?_
    refine quietI ?_
    obtain ⟨h11, h⟩ := ite_some h
    refine AI h11 ?_
    refine EX (e_i64 (a0.getD v1.toNat default)) (AI (getD_enc e_i64 _ _ (idx_ltL e_i64 h11)) (AI (AI (idx_lt h11) (NB rfl)) ?_))
    obtain ⟨h12, h⟩ := ite_some h
    refine AI h12 ?_
    refine EX (e_i64 (a1.getD v1.toNat default)) (AI (getD_enc e_i64 _ _ (idx_ltL e_i64 h12)) (AI (AI (idx_lt h12) (NB rfl)) ?_))
    refine LWp.sim (e := [(0, .isl 1 (a0.map e_i64) false), (1, .isl 1 (a1.map e_i64) false), (12, .int .i64 ((a0.map e_i64).length : Int)), (13, .int .i64 v1), (24, .bool ((a0.getD v1.toNat default) != (a1.getD v1.toNat default)))]) (L := []) (n := 0) ?_ ?_
    · exact simI (M := []) rfl (AI (VS rfl) (AI (VS rfl) (AI (VS rfl) (AI (VS rfl) (AI (VS rfl) TT))))) TT
    refine condI (v := ((a0.getD v1.toNat default) != (a1.getD v1.toNat default))) rfl TT (fun h13 => ?_) (fun h13 => ?_)
    · have h := ite_tt h13 h
      refine seqI ?_
      refine regI ?_
      refine retI ?_
      obtain ⟨o, hq, rfl⟩ := Option.map_eq_some_iff.1 h
      replace h := hq; clear hq
      refine AI nofun ?_
      cases h
      exact AI TT (AI rfl (VS rfl))
    · have h := ite_ff h13 h
      refine skipI ?_
      refine regI ?_
      cases h
      exact AI rfl (simI (M := []) rfl (AI (VS rfl) (AI (VS rfl) (AI (VS rfl) (AI (VS rfl) TT)))) TT)
  · have h := ite_ff h10 h
    refine exitI ?_
    obtain ⟨o, hq, rfl⟩ := Option.map_eq_some_iff.1 h
    replace h := hq; clear hq
    refine AI nofun ?_
    refine LWp.sim ?_ (f28_j1_ok h)
    exact simI (M := []) rfl TT TT

theorem f28_L1_ok {a0 : List Int} {a1 : List Int} {v1 : Int} {m : Option Nat} {o : Bool} (h : S_slices_Equal_int_l1 m a0 a1 v1 = some o) :
    LWp Try.prog f28_lay 0 (.loop f28_c1) (QBlock 0 (QSeq Try.prog f28_lay 0 f28_c0 (f28_Q a0 a1 o))) [(0, .isl 1 (a0.map e_i64) false), (1, .isl 1 (a1.map e_i64) false), (12, .int .i64 ((a0.map e_i64).length : Int)), (13, .int .i64 v1)] [] 0 :=
  LWp_loopM (m := m) (s := (v1 : Int)) (r := o) (fun (s : Int) => S_slices_Equal_int_b1 m a0 a1 s) (f28_L1_env a0 a1) (f28_L1_hp a0 a1) (f28_L1_Q a0 a1) (fun s o h => f28_L1_bok h) h

noncomputable def S_slices_Equal_int (m : Option Nat) (a0 : List Int) (a1 : List Int) : Option Bool :=
  if (((a0.map e_i64).length : Int) != ((a1.map e_i64).length : Int)) = true then
    some false
  else
    S_slices_Equal_int_l1 m a0 a1 0

theorem f28_start {a0 : List Int} {a1 : List Int} {m : Option Nat} {o : Bool} (h : S_slices_Equal_int m a0 a1 = some o) : LWp Try.prog f28_lay 0 f28_c2 (f28_Q a0 a1 o) (initEnv 0 [.isl 1 (a0.map e_i64) false, .isl 1 (a1.map e_i64) false]) [] 0 := by
  unfold S_slices_Equal_int at h
  refine seqI ?_
  refine regI ?_
  refine seqI ?_
  refine seqI ?_
  refine regI ?_
  refine condI (v := (((a0.map e_i64).length : Int) != ((a1.map e_i64).length : Int))) rfl TT (fun h1 => ?_) (fun h1 => ?_)
  · have h := ite_tt h1 h
    refine seqI ?_
    refine regI ?_
    refine retI ?_
    cases h
    exact AI TT (AI rfl (VS rfl))
  · have h := ite_ff h1 h
    refine skipI ?_
    refine seqI ?_
    refine seqI ?_
    refine regI ?_
    refine LWp.sim (e := [(0, .isl 1 (a0.map e_i64) false), (1, .isl 1 (a1.map e_i64) false), (12, .int .i64 ((a0.map e_i64).length : Int)), (13, .int .i64 0)]) (L := []) (n := 0) ?_ ?_
    · exact simI (M := []) rfl (AI (VS rfl) (AI (VS rfl) (AI (VS rfl) (AI (VS rfl) TT)))) TT
    refine blockI ?_
    refine LWp.sim ?_ (f28_L1_ok h)
    exact simI (M := []) rfl (AI (VS rfl) (AI (VS rfl) (AI (VS rfl) (AI (VS rfl) TT)))) TT

theorem f28_ok {a0 : List Int} {a1 : List Int} {m : Option Nat} {o : Bool} (h : S_slices_Equal_int m a0 a1 = some o) : PFn Try.prog 28 [.isl 1 (a0.map e_i64) false, .isl 1 (a1.map e_i64) false] (.bool o) := PFn.ofFnW (L := f28_L) f28_low f28_fok (NB rfl) rfl (f28_start h)

def f8_c2 : LCode := (.seq (.region [⟨some 26, .bin .lss (.t 25) (.t 24), none⟩])
 (.seq (.cond (.t 26)
  .skip
  (.exit 2))
 (.seq (.block 3
  (.seq (.region [⟨some 27, .mv (.t 25), none⟩,
    ⟨some 28, .iaddr 1 (.t 23) (.t 25), none⟩,
    ⟨some 29, .load false 1 (.t 28), none⟩,
    ⟨some 8, .mv (.t 27), none⟩,
    ⟨some 9, .mv (.t 29), none⟩])
  (.region [⟨some 30, .mv (.t 7), none⟩,
    ⟨some 31, .mv (.t 8), none⟩,
    ⟨some 32, .mv (.t 9), none⟩,
    ⟨some 33, .mv (.t 5), none⟩,
    ⟨some 34, .call 27 [(.t 32), (.t 33)], none⟩,
    ⟨some 35, .iaddr 1 (.t 30) (.t 31), none⟩,
    ⟨none, .store 1 (.t 35) (.t 34), none⟩])))
 (.region [⟨some 36, .bin .add (.t 25) (.c (.int .i64 1)), none⟩,
   ⟨some 25, .mv (.t 36), none⟩]))))
def f8_c0 : LCode := (.seq (.seq (.region [⟨some 37, .mv (.t 7), none⟩,
   ⟨some 38, .mv (.t 5), none⟩,
   ⟨some 39, .call 28 [(.t 37), (.t 38)], none⟩])
 (.cond (.t 39)
  (.seq (.region [⟨some 40, .mv (.t 6), none⟩,
    ⟨some 2, .mv (.t 40), none⟩,
    ⟨some 3, .mv (.c (.int .i64 0)), none⟩])
  .ret)
  .skip))
 (.region [⟨some 41, .mv (.t 7), none⟩,
   ⟨some 5, .mv (.t 41), none⟩]))
def f8_c1 : LCode := (.region [⟨some 18, .mv (.t 6), none⟩,
   ⟨some 19, .bin .add (.t 18) (.c (.int .i64 1)), none⟩,
   ⟨some 6, .mv (.t 19), none⟩])
def f8_c3 : LCode := (.seq (.block 1
  (.seq (.region [⟨some 20, .mv (.t 0), none⟩,
    ⟨some 21, .len false (.t 20), none⟩,
    ⟨some 22, .mkslice false 1 8 [(.int .i64 0)] (.t 21) (.t 21), none⟩,
    ⟨some 7, .mv (.t 22), none⟩])
  (.seq (.seq (.region [⟨some 23, .mv (.t 0), none⟩,
    ⟨some 24, .len false (.t 23), none⟩,
    ⟨some 25, .mv (.c (.int .i64 0)), none⟩])
  (.block 2
   (.loop
    f8_c2)))
  f8_c0)))
 f8_c1)
def f8_c4 : LCode := (.seq (.region [⟨some 2, .mv (.c (.int .i64 0)), none⟩,
   ⟨some 3, .mv (.c (.int .i64 0)), none⟩])
 (.seq (.seq (.region [⟨some 10, .mv (.t 0), none⟩,
   ⟨some 11, .call 10 [(.t 10)], none⟩,
   ⟨some 4, .mv (.t 11), none⟩])
 (.seq (.region [⟨some 12, .mv (.t 4), none⟩,
   ⟨some 13, .bin .neq (.t 12) (.c (.int .i64 0)), none⟩])
 (.cond (.t 13)
  (.seq (.region [⟨some 14, .mv (.t 4), none⟩,
    ⟨some 2, .mv (.c (.int .i64 0)), none⟩,
    ⟨some 3, .mv (.t 14), none⟩])
  .ret)
  .skip)))
 (.seq (.region [⟨some 15, .mv (.t 0), none⟩,
   ⟨some 16, .len false (.t 15), none⟩,
   ⟨some 17, .mkslice false 1 8 [(.int .i64 0)] (.t 16) (.t 16), none⟩,
   ⟨some 5, .mv (.t 17), none⟩])
 (.seq (.region [⟨some 6, .mv (.c (.int .i64 0)), none⟩])
 (.block 0
  (.loop
   f8_c3))))))
def f8_lay : Lay := ⟨42, [17, 22], false⟩
def f8_res : List LRes := [.t 2, .t 3]
def f8_L : LFn := ⟨1, f8_lay, f8_c4, f8_res⟩
theorem f8_low : lowFn Try.prog [17, 22] 8 = some f8_L := by kernel_rfl
theorem f8_fok : FnOk Try.prog 8 := ⟨_, Try.func8, rfl, rfl⟩
def f8_Q (a0 : List (List G_QRule)) (o : Int × Int) : Exit → Env → AHeap → Nat → Prop := FinK f8_res (PureEnd (.tup [.int .i64 o.1, .int .i64 o.2]))

def f8_L3_env (a0 : List (List G_QRule)) (s : (Int × (List Int))) : Env := [(0, .isl 1 (a0.map eB) false), (5, .msl (0, 0) 1 0 s.2.length true), (6, .int .i64 s.1)]
def f8_L3_hp (a0 : List (List G_QRule)) (s : (Int × (List Int))) : AHeap := [((0, 0), .rows 1 (s.2.map e_i64))]
def f8_L3_Q (a0 : List (List G_QRule)) (o : (Int × Int)) : Exit → Env → AHeap → Nat → Prop := (QBlock 0 (f8_Q a0 o))

def f8_L4_env (a0 : List (List G_QRule)) (v8 : Int) (v9 : List Int) (s : (Int × (List Int))) : Env := [(0, .isl 1 (a0.map eB) false), (5, .msl (0, 0) 1 0 v9.length true), (6, .int .i64 v8), (7, .msl (1, 0) 1 0 s.2.length true), (23, .isl 1 (a0.map eB) false), (24, .int .i64 ((a0.map eB).length : Int)), (25, .int .i64 s.1)]
def f8_L4_hp (a0 : List (List G_QRule)) (v8 : Int) (v9 : List Int) (s : (Int × (List Int))) : AHeap := [((0, 0), .rows 1 (v9.map e_i64)), ((1, 0), .rows 1 (s.2.map e_i64))]
def f8_L4_Q (a0 : List (List G_QRule)) (o : ((Int × (List Int)) ⊕ (Int × Int))) : Exit → Env → AHeap → Nat → Prop := (QBlock 2 (QSeq Try.prog f8_lay 0 f8_c0 (QBlock 1 (QSeq Try.prog f8_lay 0 f8_c1 (BodyQ 0 1 (f8_L3_env a0) (f8_L3_hp a0) (f8_L3_Q a0) o)))))

noncomputable def S_fixpoint_Rounds_j6 (m : Option Nat) (a0 : List (List G_QRule)) (v8 : Int) (v18 : List Int) : Option ((Int × (List Int)) ⊕ (Int × Int)) :=
  some (.inl ((W (v8 + 1)), v18))

noncomputable def S_fixpoint_Rounds_j5 (m : Option Nat) (a0 : List (List G_QRule)) (v8 : Int) (v9 : List Int) (v18 : List Int) : Option ((Int × (List Int)) ⊕ (Int × Int)) :=
  (S_slices_Equal_int m v18 v9).bind fun v21 =>
  if v21 = true then
    Option.map Sum.inr (
      some (v8, 0))
  else
    S_fixpoint_Rounds_j6 m a0 v8 v18

noncomputable def S_fixpoint_Rounds_b4 (m : Option Nat) (a0 : List (List G_QRule)) (v8 : Int) (v9 : List Int) (v17 : Int) (v18 : List Int) : Option ((Int × (List Int)) ⊕ ((Int × (List Int)) ⊕ (Int × Int))) :=
  if (decide (v17 < ((a0.map eB).length : Int))) = true then
    if (0 : Int) ≤ v17 ∧ v17 < ((a0.map eB).length : Int) then
    (S_fixpoint_deriveAll m (a0.getD v17.toNat default) v9).bind fun v20 =>
    if (0 : Int) ≤ v17 ∧ v17 < ((v18.length : Nat) : Int) then
    if (0 + v17.toNat) < v18.length then
    some (.inl ((W (v17 + 1)), (v18.set (0 + v17.toNat) v20)))
    else none
    else none
    else none
  else
    Option.map Sum.inr (
      S_fixpoint_Rounds_j5 m a0 v8 v9 v18)

noncomputable def S_fixpoint_Rounds_l4 (m : Option Nat) (a0 : List (List G_QRule)) (v8 : Int) (v9 : List Int) (v17 : Int) (v18 : List Int) : Option ((Int × (List Int)) ⊕ (Int × Int)) := loopM m (fun (s : (Int × (List Int))) => S_fixpoint_Rounds_b4 m a0 v8 v9 s.1 s.2) (v17, v18)

theorem f8_j6_ok {a0 : List (List G_QRule)} {v8 : Int} {v18 : List Int} {m : Option Nat} {o : ((Int × (List Int)) ⊕ (Int × Int))} (h : S_fixpoint_Rounds_j6 m a0 v8 v18 = some o) :
    LWp Try.prog f8_lay 0 f8_c1 (BodyQ 0 1 (f8_L3_env a0) (f8_L3_hp a0) (f8_L3_Q a0) o) [(0, .isl 1 (a0.map eB) false), (5, .msl (0, 0) 1 0 v18.length true), (6, .int .i64 v8)] [((0, 0), .rows 1 (v18.map e_i64))] 1 := by
  unfold S_fixpoint_Rounds_j6 at h
  refine regI ?_
  cases h
  exact AI rfl (simI (M := [((0, 0), (0, 0))]) rfl (AI (VS rfl) (AI (Vw.mslE rfl (by first | rfl | (simp; done) | (simp at *; omega)) rfl) (AI (VS rfl) TT))) (AI (AI rfl (BVw.enc e_i64 (fun _ => rfl) _ v18)) TT))

theorem f8_j5_ok {a0 : List (List G_QRule)} {v8 : Int} {v9 : List Int} {v18 : List Int} {m : Option Nat} {o : ((Int × (List Int)) ⊕ (Int × Int))} (h : S_fixpoint_Rounds_j5 m a0 v8 v9 v18 = some o) :
    LWp Try.prog f8_lay 0 f8_c0 (QBlock 1 (QSeq Try.prog f8_lay 0 f8_c1 (BodyQ 0 1 (f8_L3_env a0) (f8_L3_hp a0) (f8_L3_Q a0) o))) [(0, .isl 1 (a0.map eB) false), (5, .msl (0, 0) 1 0 v9.length true), (6, .int .i64 v8), (7, .msl (1, 0) 1 0 v18.length true)] [((0, 0), .rows 1 (v9.map e_i64)), ((1, 0), .rows 1 (v18.map e_i64))] 2 := by
  unfold S_fixpoint_Rounds_j5 at h
  refine seqI ?_
  refine seqI ?_
  refine regI ?_
  obtain ⟨v21, h56, h⟩ := bind_some h
  refine PFn.readB [(1, 0), (0, 0)] (f28_ok h56) rfl (AI (Vw.frzB e_i64 e_i64_ok (fun h => Bool.noConfusion h) rfl rfl (by first | rfl | (simp; done) | (simp at *; omega))) (AI (Vw.frzB e_i64 e_i64_ok (fun h => Bool.noConfusion h) rfl rfl (by first | rfl | (simp; done) | (simp at *; omega))) TT)) ?_
  refine condI (v := v21) rfl TT (fun h57 => ?_) (fun h57 => ?_)
  · have h := ite_tt h57 h
    refine seqI ?_
    refine regI ?_
    refine retI ?_
    obtain ⟨o, hq, rfl⟩ := Option.map_eq_some_iff.1 h
    replace h := hq; clear hq
    refine AI nofun ?_
    cases h
    exact AI TT (AI TT (AI rfl (VS rfl)))
  · have h := ite_ff h57 h
    refine skipI ?_
    refine regI ?_
    refine LWp.sim ?_ (f8_j6_ok h)
    exact simI (M := [((0, 0), (1, 0))]) rfl (AI (VS rfl) (AI (Vw.mslE rfl (by first | rfl | (simp; done) | (simp at *; omega)) rfl) (AI (VS rfl) TT))) (AI (AI rfl (BVw.enc e_i64 (fun _ => rfl) _ v18)) TT)

theorem f8_L4_bok {a0 : List (List G_QRule)} {v8 : Int} {v9 : List Int} {v17 : Int} {v18 : List Int} {m : Option Nat} {o : (Int × (List Int)) ⊕ ((Int × (List Int)) ⊕ (Int × Int))} (h : S_fixpoint_Rounds_b4 m a0 v8 v9 v17 v18 = some o) :
    LWp Try.prog f8_lay 0 f8_c2 (BodyQ 0 2 (f8_L4_env a0 v8 v9) (f8_L4_hp a0 v8 v9) (f8_L4_Q a0) o) [(0, .isl 1 (a0.map eB) false), (5, .msl (0, 0) 1 0 v9.length true), (6, .int .i64 v8), (7, .msl (1, 0) 1 0 v18.length true), (23, .isl 1 (a0.map eB) false), (24, .int .i64 ((a0.map eB).length : Int)), (25, .int .i64 v17)] [((0, 0), .rows 1 (v9.map e_i64)), ((1, 0), .rows 1 (v18.map e_i64))] 2 := by
  unfold S_fixpoint_Rounds_b4 at h
  refine seqI ?_
  refine regI ?_
  refine seqI ?_
  refine condI (v := (decide (v17 < ((a0.map eB).length : Int)))) rfl TT (fun h51 => ?_) (fun h51 => ?_)
  · have h := ite_tt h51 h
    refine skipI ?_
    refine seqI ?_
    refine blockI ?_
    refine seqI ?_
    refine regI ?_
    obtain ⟨h52, h⟩ := ite_some h
    refine AI h52 ?_
    refine EX (eB (a0.getD v17.toNat default)) (AI (getD_enc eB _ _ (idx_ltL eB h52)) (AI (AI (idx_lt h52) (NB rfl)) ?_))
    refine regI ?_
    obtain ⟨v20, h53, h⟩ := bind_some h
    refine PFn.readB [(0, 0)] (f27_ok h53) rfl (AI (VS rfl) (AI (Vw.frzB e_i64 e_i64_ok (fun h => Bool.noConfusion h) rfl rfl (by first | rfl | (simp; done) | (simp at *; omega))) TT)) ?_
    obtain ⟨h54, h⟩ := ite_some h
    refine AI h54 ?_
    obtain ⟨h55, h⟩ := ite_some h
    refine EX ((v18.set (0 + v17.toNat) v20).map e_i64) (AI (set_enc e_i64 _ _ _ _ _ h55 rfl) (AI (AI rfl (AI (lt_map e_i64 h55) (NB rfl))) ?_))
    refine LWp.sim (e := [(0, .isl 1 (a0.map eB) false), (5, .msl (0, 0) 1 0 v9.length true), (6, .int .i64 v8), (7, .msl (1, 0) 1 0 v18.length true), (23, .isl 1 (a0.map eB) false), (24, .int .i64 ((a0.map eB).length : Int)), (25, .int .i64 v17)]) (L := [((0, 0), .rows 1 (v9.map e_i64)), ((1, 0), .rows 1 ((v18.set (0 + v17.toNat) v20).map e_i64))]) (n := 2) ?_ ?_
    · exact simI (M := [((0, 0), (0, 0)), ((1, 0), (1, 0))]) rfl (AI (VS rfl) (AI (Vw.mslE rfl (by first | rfl | (simp; done) | (simp at *; omega)) rfl) (AI (VS rfl) (AI (Vw.mslE rfl (by first | rfl | (simp; done) | (simp at *; omega)) rfl) (AI (VS rfl) (AI (VS rfl) (AI (VS rfl) TT))))))) (AI (AI rfl (BVw.enc e_i64 (fun _ => rfl) _ v9)) (AI (AI rfl (BVw.enc e_i64 (fun _ => rfl) _ (v18.set (0 + v17.toNat) v20))) TT))
    refine regI ?_
    cases h
    exact AI rfl (simI (M := [((0, 0), (0, 0)), ((1, 0), (1, 0))]) rfl (AI (VS rfl) (AI (Vw.mslE rfl (by first | rfl | (simp; done) | (simp at *; omega)) rfl) (AI (VS rfl) (AI (Vw.mslE rfl (by first | rfl | (simp; done) | (simp at *; omega)) rfl) (AI (VS rfl) (AI (VS rfl) (AI (VS rfl) TT))))))) (AI (AI rfl (BVw.enc e_i64 (fun _ => rfl) _ v9)) (AI (AI rfl (BVw.enc e_i64 (fun _ => rfl) _ (v18.set (0 + v17.toNat) v20))) TT)))
  · have h := ite_ff h51 h
    refine exitI ?_
    obtain ⟨o, hq, rfl⟩ := Option.map_eq_some_iff.1 h
    replace h := hq; clear hq
    refine AI nofun ?_
    refine LWp.sim ?_ (f8_j5_ok h)
    exact simI (M := [((0, 0), (0, 0)), ((1, 0), (1, 0))]) rfl (AI (VS rfl) (AI (Vw.mslE rfl (by first | rfl | (simp; done) | (simp at *; omega)) rfl) (AI (VS rfl) (AI (Vw.mslE rfl (by first | rfl | (simp; done) | (simp at *; omega)) rfl) TT)))) (AI (AI rfl (BVw.enc e_i64 (fun _ => rfl) _ v9)) (AI (AI rfl (BVw.enc e_i64 (fun _ => rfl) _ v18)) TT))

theorem f8_L4_ok {a0 : List (List G_QRule)} {v8 : Int} {v9 : List Int} {v17 : Int} {v18 : List Int} {m : Option Nat} {o : ((Int × (List Int)) ⊕ (Int × Int))} (h : S_fixpoint_Rounds_l4 m a0 v8 v9 v17 v18 = some o) :
    LWp Try.prog f8_lay 0 (.loop f8_c2) (QBlock 2 (QSeq Try.prog f8_lay 0 f8_c0 (QBlock 1 (QSeq Try.prog f8_lay 0 f8_c1 (BodyQ 0 1 (f8_L3_env a0) (f8_L3_hp a0) (f8_L3_Q a0) o))))) [(0, .isl 1 (a0.map eB) false), (5, .msl (0, 0) 1 0 v9.length true), (6, .int .i64 v8), (7, .msl (1, 0) 1 0 v18.length true), (23, .isl 1 (a0.map eB) false), (24, .int .i64 ((a0.map eB).length : Int)), (25, .int .i64 v17)] [((0, 0), .rows 1 (v9.map e_i64)), ((1, 0), .rows 1 (v18.map e_i64))] 2 :=
  LWp_loopM (m := m) (s := ((v17, v18) : (Int × (List Int)))) (r := o) (fun (s : (Int × (List Int))) => S_fixpoint_Rounds_b4 m a0 v8 v9 s.1 s.2) (f8_L4_env a0 v8 v9) (f8_L4_hp a0 v8 v9) (f8_L4_Q a0) (fun s o h => f8_L4_bok h) h

noncomputable def S_fixpoint_Rounds_b3 (m : Option Nat) (a0 : List (List G_QRule)) (v8 : Int) (v9 : List Int) : Option ((Int × (List Int)) ⊕ (Int × Int)) :=
  if (0 : Int) ≤ ((a0.map eB).length : Int) ∧ ((a0.map eB).length : Int) ≤ ((a0.map eB).length : Int) ∧ ((a0.map eB).length : Int) * 8 ≤ 140737488355328 then
  S_fixpoint_Rounds_l4 m a0 v8 v9 0 (List.replicate ((a0.map eB).length : Int).toNat 0)
  else none

noncomputable def S_fixpoint_Rounds_l3 (m : Option Nat) (a0 : List (List G_QRule)) (v8 : Int) (v9 : List Int) : Option (Int × Int) := loopM m (fun (s : (Int × (List Int))) => S_fixpoint_Rounds_b3 m a0 s.1 s.2) (v8, v9)

theorem f8_L3_bok {a0 : List (List G_QRule)} {v8 : Int} {v9 : List Int} {m : Option Nat} {o : (Int × (List Int)) ⊕ (Int × Int)} (h : S_fixpoint_Rounds_b3 m a0 v8 v9 = some o) :
    LWp Try.prog f8_lay 0 f8_c3 (BodyQ 0 1 (f8_L3_env a0) (f8_L3_hp a0) (f8_L3_Q a0) o) [(0, .isl 1 (a0.map eB) false), (5, .msl (0, 0) 1 0 v9.length true), (6, .int .i64 v8)] [((0, 0), .rows 1 (v9.map e_i64))] 1 := by
  unfold S_fixpoint_Rounds_b3 at h
  refine seqI ?_
  refine blockI ?_
  refine seqI ?_
  refine regI ?_
  obtain ⟨h40, h⟩ := ite_some h
  refine EX ((List.replicate ((a0.map eB).length : Int).toNat 0).map e_i64) (EX true (AI (Or.inl (repl_enc e_i64 ((a0.map eB).length : Int).toNat 0)) (AI (by simp) (AI h40 ?_))))
  refine seqI ?_
  refine seqI ?_
  refine regI ?_
  refine blockI ?_
  refine LWp.sim ?_ (f8_L4_ok h)
  exact simI (M := [((0, 0), (0, 0)), ((1, 0), (1, 0))]) rfl (AI (VS rfl) (AI (Vw.mslE rfl (by first | rfl | (simp; done) | (simp at *; omega)) rfl) (AI (VS rfl) (AI (Vw.mslE rfl (by first | rfl | (simp; done) | (simp at *; omega)) rfl) (AI (VS rfl) (AI (VS rfl) (AI (VS rfl) TT))))))) (AI (AI rfl (BVw.enc e_i64 (fun _ => rfl) _ v9)) (AI (AI rfl (BVw.enc e_i64 (fun _ => rfl) _ (List.replicate ((a0.map eB).length : Int).toNat 0))) TT))

theorem f8_L3_ok {a0 : List (List G_QRule)} {v8 : Int} {v9 : List Int} {m : Option Nat} {o : (Int × Int)} (h : S_fixpoint_Rounds_l3 m a0 v8 v9 = some o) :
    LWp Try.prog f8_lay 0 (.loop f8_c3) (QBlock 0 (f8_Q a0 o)) [(0, .isl 1 (a0.map eB) false), (5, .msl (0, 0) 1 0 v9.length true), (6, .int .i64 v8)] [((0, 0), .rows 1 (v9.map e_i64))] 1 :=
  LWp_loopM (m := m) (s := ((v8, v9) : (Int × (List Int)))) (r := o) (fun (s : (Int × (List Int))) => S_fixpoint_Rounds_b3 m a0 s.1 s.2) (f8_L3_env a0) (f8_L3_hp a0) (f8_L3_Q a0) (fun s o h => f8_L3_bok h) h

noncomputable def S_fixpoint_Rounds (m : Option Nat) (a0 : List (List G_QRule)) : Option (Int × Int) :=
  (S_fixpoint_Check m a0).bind fun v1 =>
  if (v1 != 0) = true then
    some (0, v1)
  else
    if (0 : Int) ≤ ((a0.map eB).length : Int) ∧ ((a0.map eB).length : Int) ≤ ((a0.map eB).length : Int) ∧ ((a0.map eB).length : Int) * 8 ≤ 140737488355328 then
    S_fixpoint_Rounds_l3 m a0 0 (List.replicate ((a0.map eB).length : Int).toNat 0)
    else none

theorem f8_start {a0 : List (List G_QRule)} {m : Option Nat} {o : Int × Int} (h : S_fixpoint_Rounds m a0 = some o) : LWp Try.prog f8_lay 0 f8_c4 (f8_Q a0 o) (initEnv 0 [.isl 1 (a0.map eB) false]) [] 0 := by
  unfold S_fixpoint_Rounds at h
  refine seqI ?_
  refine regI ?_
  refine seqI ?_
  refine seqI ?_
  refine regI ?_
  obtain ⟨v1, h1, h⟩ := bind_some h
  refine PFn.call (f10_ok h1) (AI (VS rfl) TT) ?_
  refine seqI ?_
  refine regI ?_
  refine condI (v := (v1 != 0)) rfl TT (fun h2 => ?_) (fun h2 => ?_)
  · have h := ite_tt h2 h
    refine seqI ?_
    refine regI ?_
    refine LWp.sim (e := [(2, .int .i64 0), (3, .int .i64 v1)]) (L := []) (n := 0) ?_ ?_
    · exact simI (M := []) rfl (AI (VS rfl) (AI (VS rfl) TT)) TT
    refine retI ?_
    cases h
    exact AI TT (AI TT (AI rfl (VS rfl)))
  · have h := ite_ff h2 h
    refine skipI ?_
    refine seqI ?_
    refine regI ?_
    obtain ⟨h3, h⟩ := ite_some h
    refine EX ((List.replicate ((a0.map eB).length : Int).toNat 0).map e_i64) (EX true (AI (Or.inl (repl_enc e_i64 ((a0.map eB).length : Int).toNat 0)) (AI (by simp) (AI h3 ?_))))
    refine LWp.sim (e := [(0, .isl 1 (a0.map eB) false), (5, .msl (0, 0) 1 0 (((List.replicate ((a0.map eB).length : Int).toNat 0).map e_i64).length) true)]) (L := [((0, 0), .rows 1 ((List.replicate ((a0.map eB).length : Int).toNat 0).map e_i64))]) (n := 1) ?_ ?_
    · exact simI (M := [((0, 0), (0, 0))]) rfl (AI (VS rfl) (AI (Vw.mslE rfl (by first | rfl | (simp; done) | (simp at *; omega)) rfl) TT)) (AI (AI rfl (BVw.enc e_i64 (fun _ => rfl) _ (List.replicate ((a0.map eB).length : Int).toNat 0))) TT)
    refine seqI ?_
    refine regI ?_
    refine blockI ?_
    refine LWp.sim ?_ (f8_L3_ok h)
    exact simI (M := [((0, 0), (0, 0))]) rfl (AI (VS rfl) (AI (Vw.mslE rfl (by first | rfl | (simp; done) | (simp at *; omega)) rfl) (AI (VS rfl) TT))) (AI (AI rfl (BVw.enc e_i64 (fun _ => rfl) _ (List.replicate ((a0.map eB).length : Int).toNat 0))) TT)

theorem f8_ok {a0 : List (List G_QRule)} {m : Option Nat} {o : Int × Int} (h : S_fixpoint_Rounds m a0 = some o) : PFn Try.prog 8 [.isl 1 (a0.map eB) false] (.tup [.int .i64 o.1, .int .i64 o.2]) := PFn.ofFnW (L := f8_L) f8_low f8_fok (NB rfl) rfl (f8_start h)

def f12_c1 : LCode := (.seq (.region [⟨some 15, .bin .lss (.t 14) (.t 13), none⟩])
 (.seq (.cond (.t 15)
  .skip
  (.exit 0))
 (.seq (.block 1
  (.seq (.region [⟨some 16, .mv (.t 14), none⟩,
    ⟨some 17, .iaddr 1 (.t 12) (.t 14), none⟩,
    ⟨some 18, .load false 1 (.t 17), none⟩,
    ⟨some 5, .mv (.t 16), none⟩,
    ⟨some 6, .mv (.t 18), none⟩])
  (.seq (.region [⟨some 19, .mv (.t 6), none⟩,
    ⟨some 20, .mv (.t 1), none⟩,
    ⟨some 21, .mv (.t 5), none⟩,
    ⟨some 22, .iaddr 1 (.t 20) (.t 21), none⟩,
    ⟨some 23, .load false 1 (.t 22), none⟩,
    ⟨some 24, .bin .neq (.t 19) (.t 23), none⟩])
  (.cond (.t 24)
   (.seq (.region [⟨some 4, .mv (.c (.bool false)), none⟩])
   .ret)
   .skip))))
 (.region [⟨some 25, .bin .add (.t 14) (.c (.int .i64 1)), none⟩,
   ⟨some 14, .mv (.t 25), none⟩]))))
def f12_c0 : LCode := (.seq (.region [⟨some 4, .mv (.c (.bool true)), none⟩])
 .ret)
def f12_c2 : LCode := (.seq (.region [⟨some 4, .mv (.c (.bool false)), none⟩])
 (.seq (.seq (.region [⟨some 7, .mv (.t 0), none⟩,
   ⟨some 8, .len false (.t 7), none⟩,
   ⟨some 9, .mv (.t 1), none⟩,
   ⟨some 10, .len false (.t 9), none⟩,
   ⟨some 11, .bin .neq (.t 8) (.t 10), none⟩])
 (.cond (.t 11)
  (.seq (.region [⟨some 4, .mv (.c (.bool false)), none⟩])
  .ret)
  .skip))
 (.seq (.seq (.region [⟨some 12, .mv (.t 0), none⟩,
   ⟨some 13, .len false (.t 12), none⟩,
   ⟨some 14, .mv (.c (.int .i64 0)), none⟩])
 (.block 0
  (.loop
   f12_c1)))
 f12_c0)))
def f12_lay : Lay := ⟨26, [], false⟩
def f12_res : List LRes := [.t 4]
def f12_L : LFn := ⟨2, f12_lay, f12_c2, f12_res⟩
theorem f12_low : lowFn Try.prog [] 12 = some f12_L := by kernel_rfl
theorem f12_fok : FnOk Try.prog 12 := ⟨_, Try.func12, rfl, rfl⟩
def f12_Q (a0 : List Int) (a1 : List Int) (o : Bool) : Exit → Env → AHeap → Nat → Prop := FinK f12_res (PureEnd (.bool o))

def f12_L1_env (a0 : List Int) (a1 : List Int) (s : Int) : Env := [(1, .isl 1 (a1.map e_i64) false), (12, .isl 1 (a0.map e_i64) false), (13, .int .i64 ((a0.map e_i64).length : Int)), (14, .int .i64 s)]
def f12_L1_hp (a0 : List Int) (a1 : List Int) (s : Int) : AHeap := []
def f12_L1_Q (a0 : List Int) (a1 : List Int) (o : Bool) : Exit → Env → AHeap → Nat → Prop := (QBlock 0 (QSeq Try.prog f12_lay 0 f12_c0 (f12_Q a0 a1 o)))

noncomputable def S_glossatorref3_Equal_int_j1 (m : Option Nat) : Option Bool :=
  some true

noncomputable def S_glossatorref3_Equal_int_b1 (m : Option Nat) (a0 : List Int) (a1 : List Int) (v1 : Int) : Option (Int ⊕ Bool) :=
  if (decide (v1 < ((a0.map e_i64).length : Int))) = true then
    if (0 : Int) ≤ v1 ∧ v1 < ((a0.map e_i64).length : Int) then
    if (0 : Int) ≤ v1 ∧ v1 < ((a1.map e_i64).length : Int) then
    if ((a0.getD v1.toNat default) != (a1.getD v1.toNat default)) = true then
      Option.map Sum.inr (
        some false)
    else
      some (.inl (W (v1 + 1)))
    else none
    else none
  else
    Option.map Sum.inr (
      S_glossatorref3_Equal_int_j1 m)

noncomputable def S_glossatorref3_Equal_int_l1 (m : Option Nat) (a0 : List Int) (a1 : List Int) (v1 : Int) : Option Bool := loopM m (fun (s : Int) => S_glossatorref3_Equal_int_b1 m a0 a1 s) v1

theorem f12_j1_ok {a0 : List Int} {a1 : List Int} {m : Option Nat} {o : Bool} (h : S_glossatorref3_Equal_int_j1 m = some o) :
    LWp Try.prog f12_lay 0 f12_c0 (f12_Q a0 a1 o) [] [] 0 := by
  unfold S_glossatorref3_Equal_int_j1 at h
  refine seqI ?_
  refine regI ?_
  refine retI ?_
  cases h
  exact AI TT (AI rfl (VS rfl))

theorem f12_L1_bok {a0 : List Int} {a1 : List Int} {v1 : Int} {m : Option Nat} {o : Int ⊕ Bool} (h : S_glossatorref3_Equal_int_b1 m a0 a1 v1 = some o) :
    LWp Try.prog f12_lay 0 f12_c1 (BodyQ 0 0 (f12_L1_env a0 a1) (f12_L1_hp a0 a1) (f12_L1_Q a0 a1) o) [(1, .isl 1 (a1.map e_i64) false), (12, .isl 1 (a0.map e_i64) false), (13, .int .i64 ((a0.map e_i64).length : Int)), (14, .int .i64 v1)] [] 0 := by
  unfold S_glossatorref3_Equal_int_b1 at h
  refine seqI ?_
  refine regI ?_
  refine seqI ?_
  refine condI (v := (decide (v1 < ((a0.map e_i64).length : Int)))) rfl TT (fun h10 => ?_) (fun h10 => ?_)
  · have h := ite_tt h10 h
    refine skipI ?_
    refine seqI ?_
    refine blockI ?_
    refine seqI ?_
    refine regI ?_
    obtain ⟨h11, h⟩ := ite_some h
    refine AI h11 ?_
    refine EX (e_i64 (a0.getD v1.toNat default)) (AI (getD_enc e_i64 _ _ (idx_ltL e_i64 h11)) (AI (AI (idx_lt h11) (NB rfl)) ?_))
    refine seqI ?_
    refine regI ?_
    obtain ⟨h12, h⟩ := ite_some h
    refine AI h12 ?_
    refine EX (e_i64 (a1.getD v1.toNat default)) (AI (getD_enc e_i64 _ _ (idx_ltL e_i64 h12)) (AI (AI (idx_lt h12) (NB rfl)) ?_))
    refine LWp.sim (e := [(1, .isl 1 (a1.map e_i64) false), (12, .isl 1 (a0.map e_i64) false), (13, .int .i64 ((a0.map e_i64).length : Int)), (14, .int .i64 v1), (24, .bool ((a0.getD v1.toNat default) != (a1.getD v1.toNat default)))]) (L := []) (n := 0) ?_ ?_
    · exact simI (M := []) rfl (AI (VS rfl) (AI (VS rfl) (AI (VS rfl) (AI (VS rfl) (AI (VS rfl) TT))))) TT
    refine condI (v := ((a0.getD v1.toNat default) != (a1.getD v1.toNat default))) rfl TT (fun h13 => ?_) (fun h13 => ?_)
    · have h := ite_tt h13 h
      refine seqI ?_
      refine regI ?_
      refine retI ?_
      obtain ⟨o, hq, rfl⟩ := Option.map_eq_some_iff.1 h
      replace h := hq; clear hq
      refine AI nofun ?_
      cases h
      exact AI TT (AI rfl (VS rfl))
    · have h := ite_ff h13 h
      refine skipI ?_
      refine regI ?_
      cases h
      exact AI rfl (simI (M := []) rfl (AI (VS rfl) (AI (VS rfl) (AI (VS rfl) (AI (VS rfl) TT)))) TT)
  · have h := ite_ff h10 h
    refine exitI ?_
    obtain ⟨o, hq, rfl⟩ := Option.map_eq_some_iff.1 h
    replace h := hq; clear hq
    refine AI nofun ?_
    refine LWp.sim ?_ (f12_j1_ok h)
    exact simI (M := []) rfl TT TT

theorem f12_L1_ok {a0 : List Int} {a1 : List Int} {v1 : Int} {m : Option Nat} {o : Bool} (h : S_glossatorref3_Equal_int_l1 m a0 a1 v1 = some o) :
    LWp Try.prog f12_lay 0 (.loop f12_c1) (QBlock 0 (QSeq Try.prog f12_lay 0 f12_c0 (f12_Q a0 a1 o))) [(1, .isl 1 (a1.map e_i64) false), (12, .isl 1 (a0.map e_i64) false), (13, .int .i64 ((a0.map e_i64).length : Int)), (14, .int .i64 v1)] [] 0 :=
  LWp_loopM (m := m) (s := (v1 : Int)) (r := o) (fun (s : Int) => S_glossatorref3_Equal_int_b1 m a0 a1 s) (f12_L1_env a0 a1) (f12_L1_hp a0 a1) (f12_L1_Q a0 a1) (fun s o h => f12_L1_bok h) h

noncomputable def S_glossatorref3_Equal_int (m : Option Nat) (a0 : List Int) (a1 : List Int) : Option Bool :=
  if (((a0.map e_i64).length : Int) != ((a1.map e_i64).length : Int)) = true then
    some false
  else
    S_glossatorref3_Equal_int_l1 m a0 a1 0

theorem f12_start {a0 : List Int} {a1 : List Int} {m : Option Nat} {o : Bool} (h : S_glossatorref3_Equal_int m a0 a1 = some o) : LWp Try.prog f12_lay 0 f12_c2 (f12_Q a0 a1 o) (initEnv 0 [.isl 1 (a0.map e_i64) false, .isl 1 (a1.map e_i64) false]) [] 0 := by
  unfold S_glossatorref3_Equal_int at h
  refine seqI ?_
  refine regI ?_
  refine seqI ?_
  refine seqI ?_
  refine regI ?_
  refine condI (v := (((a0.map e_i64).length : Int) != ((a1.map e_i64).length : Int))) rfl TT (fun h1 => ?_) (fun h1 => ?_)
  · have h := ite_tt h1 h
    refine seqI ?_
    refine regI ?_
    refine retI ?_
    cases h
    exact AI TT (AI rfl (VS rfl))
  · have h := ite_ff h1 h
    refine skipI ?_
    refine seqI ?_
    refine seqI ?_
    refine regI ?_
    refine LWp.sim (e := [(1, .isl 1 (a1.map e_i64) false), (12, .isl 1 (a0.map e_i64) false), (13, .int .i64 ((a0.map e_i64).length : Int)), (14, .int .i64 0)]) (L := []) (n := 0) ?_ ?_
    · exact simI (M := []) rfl (AI (VS rfl) (AI (VS rfl) (AI (VS rfl) (AI (VS rfl) TT)))) TT
    refine blockI ?_
    refine LWp.sim ?_ (f12_L1_ok h)
    exact simI (M := []) rfl (AI (VS rfl) (AI (VS rfl) (AI (VS rfl) (AI (VS rfl) TT)))) TT

theorem f12_ok {a0 : List Int} {a1 : List Int} {m : Option Nat} {o : Bool} (h : S_glossatorref3_Equal_int m a0 a1 = some o) : PFn Try.prog 12 [.isl 1 (a0.map e_i64) false, .isl 1 (a1.map e_i64) false] (.bool o) := PFn.ofFnW (L := f12_L) f12_low f12_fok (NB rfl) rfl (f12_start h)

def f6_c0 : LCode := (.seq (.region [⟨some 0, .mv (.c (.bool false)), none⟩])
 (.seq (.region [⟨some 6, .build [(.int .i64 0), (.isl 1 [] true)] [(0, 1, (.c (.int .i64 1)))], none⟩,
   ⟨some 7, .mkSl true 1 [(.int .i64 0)] 1 [(0, (.c (.int .i64 1)))], none⟩,
   ⟨some 8, .build [(.int .i64 0), (.isl 1 [] true)] [(0, 1, (.c (.int .i64 6))), (1, 1, (.t 7))], none⟩,
   ⟨some 9, .mkSl true 2 [(.int .i64 0), (.isl 1 [] true)] 2 [(0, (.t 6)), (1, (.t 8))], none⟩,
   ⟨some 10, .mkSl true 1 [(.int .i64 0)] 1 [(0, (.c (.int .i64 0)))], none⟩,
   ⟨some 11, .build [(.int .i64 0), (.isl 1 [] true)] [(0, 1, (.c (.int .i64 3))), (1, 1, (.t 10))], none⟩,
   ⟨some 12, .mkSl true 2 [(.int .i64 0), (.isl 1 [] true)] 1 [(0, (.t 11))], none⟩,
   ⟨some 13, .mkSl true 1 [(.isl 2 [] true)] 2 [(0, (.t 9)), (1, (.t 12))], none⟩,
   ⟨some 1, .mv (.t 13), none⟩])
 (.seq (.region [⟨some 15, .mv (.t 1), none⟩,
   ⟨some 16, .call 7 [(.t 15)], none⟩,
   ⟨some 14, .mv (.t 16), none⟩,
   ⟨some 17, .ext 0 (.t 14), none⟩,
   ⟨some 18, .ext 1 (.t 14), none⟩,
   ⟨some 2, .mv (.t 17), none⟩,
   ⟨some 3, .mv (.t 18), none⟩])
 (.seq (.region [⟨some 20, .mv (.t 1), none⟩,
   ⟨some 21, .call 8 [(.t 20)], none⟩,
   ⟨some 19, .mv (.t 21), none⟩,
   ⟨some 22, .ext 0 (.t 19), none⟩,
   ⟨some 23, .ext 1 (.t 19), none⟩,
   ⟨some 4, .mv (.t 22), none⟩,
   ⟨some 5, .mv (.t 23), none⟩])
 (.seq (.region [⟨some 24, .mv (.t 3), none⟩,
   ⟨some 25, .bin .eql (.t 24) (.c (.int .i64 0)), none⟩,
   ⟨some 26, .mv (.t 25), none⟩,
   ⟨some 27, .mv (.t 5), some (26, true)⟩,
   ⟨some 28, .bin .eql (.t 27) (.c (.int .i64 0)), some (26, true)⟩,
   ⟨some 29, .pick (.t 26) (.t 28) (.c (.bool false)), none⟩,
   ⟨some 30, .mv (.t 29), none⟩,
   ⟨some 31, .mv (.t 2), some (30, true)⟩,
   ⟨some 32, .mkSl true 1 [(.int .i64 0)] 2 [(0, (.c (.int .i64 1))), (1, (.c (.int .i64 1)))], some (30, true)⟩,
   ⟨some 33, .call 12 [(.t 31), (.t 32)], some (30, true)⟩,
   ⟨some 34, .pick (.t 30) (.t 33) (.c (.bool false)), none⟩,
   ⟨some 35, .mv (.t 34), none⟩,
   ⟨some 36, .mv (.t 4), some (35, true)⟩,
   ⟨some 37, .bin .eql (.t 36) (.c (.int .i64 2)), some (35, true)⟩,
   ⟨some 38, .pick (.t 35) (.t 37) (.c (.bool false)), none⟩,
   ⟨some 0, .mv (.t 38), none⟩])
 .ret)))))
def f6_lay : Lay := ⟨39, [], false⟩
def f6_res : List LRes := [.t 0]
def f6_L : LFn := ⟨0, f6_lay, f6_c0, f6_res⟩
theorem f6_low : lowFn Try.prog [] 6 = some f6_L := by kernel_rfl
theorem f6_fok : FnOk Try.prog 6 := ⟨_, Try.func6, rfl, rfl⟩
noncomputable def S_glossatorlaw3_ruleExample (m : Option Nat) : Option Bool :=
  (S_fixpoint_Least m ([([(G_QRule.mk 1 ([] : List Int)), (G_QRule.mk 6 ([1] : List Int))] : List G_QRule), ([(G_QRule.mk 3 ([0] : List Int))] : List G_QRule)] : List (List G_QRule))).bind fun v1 =>
  (S_fixpoint_Rounds m ([([(G_QRule.mk 1 ([] : List Int)), (G_QRule.mk 6 ([1] : List Int))] : List G_QRule), ([(G_QRule.mk 3 ([0] : List Int))] : List G_QRule)] : List (List G_QRule))).bind fun v2 =>
  (if (((v1.2 == 0) && (v2.2 == 0)) == true) = true then S_glossatorref3_Equal_int m v1.1 ([1, 1] : List Int) else some default).bind fun v3 =>
  some ((((v1.2 == 0) && (v2.2 == 0)) && v3) && (v2.1 == 2))

def f6_Q (o : Bool) : Exit → Env → AHeap → Nat → Prop := FinK f6_res (PureEnd (.bool o))

theorem f6_start {m : Option Nat} {o : Bool} (h : S_glossatorlaw3_ruleExample m = some o) : LWp Try.prog f6_lay 0 f6_c0 (f6_Q o) (initEnv 0 []) [] 0 := by
  unfold S_glossatorlaw3_ruleExample at h
  refine seqI ?_
  refine regI ?_
  refine seqI ?_
  refine regI ?_
  refine LWp.sim (e := [(1, .isl 1 (([([(G_QRule.mk 1 ([] : List Int)), (G_QRule.mk 6 ([1] : List Int))] : List G_QRule), ([(G_QRule.mk 3 ([0] : List Int))] : List G_QRule)] : List (List G_QRule)).map eB) true)]) (L := []) (n := 0) ?_ ?_
  · exact simI (M := []) rfl (AI (VS rfl) TT) TT
  refine seqI ?_
  refine regI ?_
  obtain ⟨v1, h1, h⟩ := bind_some h
  refine PFn.call (f7_ok h1) (AI (Vw.islF _ _ _) TT) ?_
  refine seqI ?_
  refine regI ?_
  obtain ⟨v2, h2, h⟩ := bind_some h
  refine PFn.call (f8_ok h2) (AI (Vw.islF _ _ _) TT) ?_
  refine LWp.sim (e := [(2, .isl 1 (v1.1.map e_i64) false), (3, .int .i64 v1.2), (4, .int .i64 v2.1), (5, .int .i64 v2.2)]) (L := []) (n := 0) ?_ ?_
  · exact simI (M := []) rfl (AI (VS rfl) (AI (VS rfl) (AI (VS rfl) (AI (VS rfl) TT)))) TT
  refine seqI ?_
  refine regI ?_
  refine AI (fun hp => hp) ?_
  refine AI (fun hc => (bqt hc)) ?_
  refine Or.inl (EX (.isl 1 (([1, 1] : List Int).map e_i64) true) (AI (fun hp => AI rfl (AI rfl rfl)) ?_))
  obtain ⟨v3, h3, h⟩ := bind_some h
  refine Or.inl (EX (.bool v3) (AI (fun hp => AI (AI hp hp) (PFn.call (f12_ok (ite_tt hp h3)) (AI (VS rfl) (AI (Vw.islF _ _ _) TT)) (AI rfl (AI rfl rfl)))) ?_))
  refine AI (fun hc => (bqt hc)) ?_
  refine AI (fun hp => hp) ?_
  refine AI (fun hc => (bqt hc)) ?_
  refine LWp.sim (e := [(0, .bool ((((v1.2 == 0) && (v2.2 == 0)) && v3) && (v2.1 == 2)))]) (L := []) (n := 0) ?_ ?_
  · exact simI (M := []) rfl (AI (VS rfl) TT) TT
  refine retI ?_
  cases h
  exact AI TT (AI rfl (VS rfl))

theorem f6_ok {m : Option Nat} {o : Bool} (h : S_glossatorlaw3_ruleExample m = some o) : PFn Try.prog 6 [] (.bool o) := PFn.ofFnW (L := f6_L) f6_low f6_fok (NB rfl) rfl (f6_start h)

def f48c0_c0 : LCode := (.seq (.region [⟨some 3, .mv (.c (.bool false)), none⟩])
 (.seq (.region [⟨some 4, .load false 1 (.t 1), none⟩,
   ⟨some 5, .mv (.t 0), none⟩,
   ⟨some 6, .iaddr 1 (.t 4) (.t 5), none⟩,
   ⟨some 7, .load false 1 (.t 6), none⟩,
   ⟨some 8, .un .not (.t 7), none⟩,
   ⟨some 3, .mv (.t 8), none⟩])
 .ret))
def f48c0_lay : Lay := ⟨9, [], false⟩
def f48c0_res : List LRes := [.t 3]
def f48c0_L : LFn := ⟨2, f48c0_lay, f48c0_c0, f48c0_res⟩
theorem f48c0_low : lowFn Try.prog [] 48 = some f48c0_L := by kernel_rfl
theorem f48c0_fok : FnOk Try.prog 48 := ⟨_, Try.func48, rfl, rfl⟩
noncomputable def S_fixpoint_derivations_1_1c (m : Option Nat) (a0 : List Bool) (a1 : Int) : Option Bool :=
  if (0 : Int) ≤ a1 ∧ a1 < ((a0.map e_bool).length : Int) then
  some (!(a0.getD a1.toNat default))
  else none

def f48c0_Q (a0 : List Bool) (a1 : Int) (o : Bool) : Exit → Env → AHeap → Nat → Prop := FinK f48c0_res (FinTo 3 4 (.bool o) [])

theorem f48c0_start {a0 : List Bool} {a1 : Int} {m : Option Nat} {o : Bool} (h : S_fixpoint_derivations_1_1c m a0 a1 = some o) : LWp Try.prog f48c0_lay 3 f48c0_c0 (f48c0_Q a0 a1 o) (initEnv 0 [.int .i64 a1, .iptr 1 (([a0] : List (List Bool)).map e_sl_bool) 0 0]) [] 3 := by
  unfold S_fixpoint_derivations_1_1c at h
  refine seqI ?_
  refine regI ?_
  refine seqI ?_
  refine regI ?_
  refine EX (e_sl_bool a0) (AI rfl (AI (AI Nat.zero_lt_one (NB rfl)) ?_))
  obtain ⟨h1, h⟩ := ite_some h
  refine AI h1 ?_
  refine EX (e_bool (a0.getD a1.toNat default)) (AI (getD_enc e_bool _ _ (idx_ltL e_bool h1)) (AI (AI (idx_lt h1) (NB rfl)) ?_))
  refine retI ?_
  cases h
  exact AI TT (finI (n' := 3) [] [] rfl rfl (VS rfl) TT)

theorem f48c0_ok {a0 : List Bool} {a1 : Int} {m : Option Nat} {o : Bool} (h : S_fixpoint_derivations_1_1c m a0 a1 = some o) : ACalls Try.prog 48 [.int .i64 a1, .iptr 1 (([a0] : List (List Bool)).map e_sl_bool) 0 0] [] 3 (Gives 4 (.bool o) []) := bfn_of (L := f48c0_L) f48c0_low f48c0_fok (NB rfl) (f48c0_start h)

def f47c0_c0 : LCode := (.seq (.region [⟨some 3, .box (.t 0), none⟩,
   ⟨some 4, .mv (.c (.bool false)), none⟩])
 (.seq (.region [⟨some 5, .faddr 0 (.t 3), none⟩,
   ⟨some 6, .load false 1 (.t 5), none⟩,
   ⟨some 7, .load false 1 (.t 1), none⟩,
   ⟨some 8, .bin .shr (.t 6) (.t 7), none⟩,
   ⟨some 9, .bin .and (.t 8) (.c (.int .i64 1)), none⟩,
   ⟨some 10, .bin .eql (.t 9) (.c (.int .i64 1)), none⟩,
   ⟨some 11, .mv (.t 10), none⟩,
   ⟨some 12, .faddr 1 (.t 3), some (11, true)⟩,
   ⟨some 13, .load false 1 (.t 12), some (11, true)⟩,
   ⟨some 14, .mkfn (.func 48) [] [(.t 2)], some (11, true)⟩,
   ⟨some 15, .call 31 [(.t 13), (.t 14)], some (11, true)⟩,
   ⟨some 16, .un .not (.t 15), some (11, true)⟩,
   ⟨some 17, .pick (.t 11) (.t 16) (.c (.bool false)), none⟩,
   ⟨some 4, .mv (.t 17), none⟩])
 .ret))
def f47c0_lay : Lay := ⟨18, [], false⟩
def f47c0_res : List LRes := [.t 4]
def f47c0_L : LFn := ⟨3, f47c0_lay, f47c0_c0, f47c0_res⟩
theorem f47c0_low : lowFn Try.prog [] 47 = some f47c0_L := by kernel_rfl
theorem f47c0_fok : FnOk Try.prog 47 := ⟨_, Try.func47, rfl, rfl⟩
noncomputable def S_fixpoint_derivations_1c (m : Option Nat) (a0 : Int) (a1 : List Bool) (a2 : G_QRule) : Option Bool :=
  if (0 : Int) ≤ a0 then
  (if (((ibits .and .i64 (a2.f_Mask.fdiv (2 ^ (min a0.toNat (IntKind.bits .i64)))) 1) == 1) == true) = true then S_slices_ContainsFunc_int (fun (s : Unit) (x : Int) => (S_fixpoint_derivations_1_1c m a1 x).map fun o => (o, ())) m a2.f_All () else some default).bind fun v1 =>
  some (((ibits .and .i64 (a2.f_Mask.fdiv (2 ^ (min a0.toNat (IntKind.bits .i64)))) 1) == 1) && (!v1.1))
  else none

def f47c0_Q (a0 : Int) (a1 : List Bool) (a2 : G_QRule) (o : Bool) : Exit → Env → AHeap → Nat → Prop := FinK f47c0_res (FinTo 3 4 (.bool o) [((1, 0), .one [.int .i64 a0]), ((1, 1), .one [.msl (3, 0) 1 0 a1.length true]), ((3, 0), .rows 1 (a1.map e_bool))])

theorem f47c0_start {a0 : Int} {a1 : List Bool} {a2 : G_QRule} {m : Option Nat} {o : Bool} (h : S_fixpoint_derivations_1c m a0 a1 a2 = some o) : LWp Try.prog f47c0_lay 3 f47c0_c0 (f47c0_Q a0 a1 a2 o) (initEnv 0 [.agg [.int .i64 a2.f_Mask, .isl 1 (a2.f_All.map e_i64) false], .ptr (1, 0) 0 0, .ptr (1, 1) 0 0]) [((1, 0), .one [.int .i64 a0]), ((1, 1), .one [.msl (2, 0) 1 0 a1.length true]), ((2, 0), .rows 1 (a1.map e_bool))] 3 := by
  unfold S_fixpoint_derivations_1c at h
  refine seqI ?_
  refine regI ?_
  refine seqI ?_
  refine regI ?_
  obtain ⟨h1, h⟩ := ite_some h
  refine AI h1 ?_
  refine AI (fun hp => hp) ?_
  obtain ⟨v1, h2, h⟩ := bind_some h
  refine Or.inl (EX (.bool v1.1) (AI (fun hp => AI (AI hp hp) (ACalls.readK [(1, 1), (2, 0)] (f31b0_ok (show Clo Try.prog (.func 48) [] [.iptr 1 (([a1] : List (List Bool)).map e_sl_bool) 0 0] (fun (s : Unit) => []) (fun (x : Int) => [.int .i64 x]) (fun (b : Bool) => .bool b) (fun (s : Unit) (x : Int) => (S_fixpoint_derivations_1_1c m a1 x).map fun o => (o, ())) from Clo.mk' (fun s => Tl.lit rfl TT rfl) rfl rfl (fun _ => rfl) (fun s x o h => by obtain ⟨o1, h1, rfl⟩ := Option.map_eq_some_iff.1 h; exact EX _ (AI (f48c0_ok h1) TT))) (ite_tt hp h2)) rfl (AI (VS rfl) (AI (Vw.fnL TT (AI (Vw.frz1L (r' := e_sl_bool a1) rfl rfl (AI (Vw.frzB e_bool e_bool_ok (fun h => Bool.noConfusion h) rfl rfl (by first | rfl | (simp; done) | (simp at *; omega))) TT) (e_sl_bool_ok _).2) TT)) TT)) (AI rfl (AI rfl rfl)))) ?_))
  refine AI (fun hp => hp) ?_
  refine AI (fun hc => (bqt hc)) ?_
  refine LWp.sim (e := [(4, .bool (((ibits .and .i64 (a2.f_Mask.fdiv (2 ^ (min a0.toNat (IntKind.bits .i64)))) 1) == 1) && (!v1.1)))]) (L := [((1, 0), .one [.int .i64 a0]), ((1, 1), .one [.msl (3, 0) 1 0 a1.length true]), ((3, 0), .rows 1 (a1.map e_bool))]) (n := 4) ?_ ?_
  · exact simI (M := [((3, 0), (2, 0))]) rfl (AI (VS rfl) TT) (AI (AI rfl (BVw.oneL (AI (VS rfl) TT))) (AI (AI rfl (BVw.oneL (AI (Vw.mslE rfl (by first | rfl | (simp; done) | (simp at *; omega)) rfl) TT))) (AI (AI rfl (BVw.enc e_bool (fun _ => rfl) _ a1)) TT)))
  refine retI ?_
  cases h
  exact AI TT (finI (n' := 4) [((3, 0), (3, 0))] [] rfl rfl (VS rfl) (AI (AI rfl (BVw.oneL (AI (VS rfl) TT))) (AI (AI rfl (BVw.oneL (AI (Vw.mslE rfl (by first | rfl | (simp; done) | (simp at *; omega)) rfl) TT))) (AI (AI rfl (BVw.enc e_bool (fun _ => rfl) _ a1)) TT))))

theorem f47c0_ok {a0 : Int} {a1 : List Bool} {a2 : G_QRule} {m : Option Nat} {o : Bool} (h : S_fixpoint_derivations_1c m a0 a1 a2 = some o) : ACalls Try.prog 47 [.agg [.int .i64 a2.f_Mask, .isl 1 (a2.f_All.map e_i64) false], .ptr (1, 0) 0 0, .ptr (1, 1) 0 0] [((1, 0), .one [.int .i64 a0]), ((1, 1), .one [.msl (2, 0) 1 0 a1.length true]), ((2, 0), .rows 1 (a1.map e_bool))] 3 (Gives 4 (.bool o) [((1, 0), .one [.int .i64 a0]), ((1, 1), .one [.msl (3, 0) 1 0 a1.length true]), ((3, 0), .rows 1 (a1.map e_bool))]) := bfn_of (L := f47c0_L) f47c0_low f47c0_fok (NB rfl) (f47c0_start h)

end Go.Proofs.Ytjcckmpeflflbaa
