/-
  Own text GenA of this claim: what functions of the given program compute, in plain Lean, and the proof; no condition.
-/
import Derived.Test.YtdkcjibedbjgjaaChecked
import Derived.Test.YtdkcjibedbjgjaaFxN
import Derived.Test.YtdkcjibedbjgjaaFxSk
import Derived.Test.YtdkcjibedbjgjaaLib
import Derived.KernelRfl
namespace Go.Proofs.Ytdkcjibedbjgjaa
open Go.Fx
set_option linter.unusedVariables false
structure G_QFileEvent where
  f_Time : Int
  f_Path : List UInt8
  f_Kind : Int
instance : Inhabited G_QFileEvent := ⟨(G_QFileEvent.mk 0 [] 0)⟩
structure G_QFileBatch where
  f_Time : Int
  f_Events : List G_QFileEvent
instance : Inhabited G_QFileBatch := ⟨(G_QFileBatch.mk 0 [])⟩
def e_QFileEvent (x : G_QFileEvent) : List AVal := [.int .i64 x.f_Time, .str x.f_Path, .int .i64 x.f_Kind]
def e_str (x : List UInt8) : List AVal := [.str x]
def e_QFileBatch (x : G_QFileBatch) : List AVal := [.int .i64 x.f_Time, .isl 3 (x.f_Events.map e_QFileEvent) false]
def a_str (x : List UInt8) : AVal := .str x
theorem a_str_nid (x : List UInt8) : (a_str x).nid = true := rfl
def a_QFileEvent (x : G_QFileEvent) : AVal := .agg [.int .i64 x.f_Time, .str x.f_Path, .int .i64 x.f_Kind]
theorem a_QFileEvent_nid (x : G_QFileEvent) : (a_QFileEvent x).nid = true := rfl
def q_str (x y : List UInt8) : Bool := (x == y && true)
theorem q_str_ok (x y : List UInt8) : keyEq [.str] (a_str x) (a_str y) = some (q_str x y) := rfl
theorem e_QFileEvent_ok (x : G_QFileEvent) : AVal.nid.nidL (e_QFileEvent x) = true ∧ ∀ y ∈ e_QFileEvent x, y.imm = some y := ⟨rfl, by simp [e_QFileEvent, AVal.imm]⟩
theorem e_str_ok (x : List UInt8) : AVal.nid.nidL (e_str x) = true ∧ ∀ y ∈ e_str x, y.imm = some y := ⟨rfl, by simp [e_str, AVal.imm]⟩
theorem e_QFileBatch_ok (x : G_QFileBatch) : AVal.nid.nidL (e_QFileBatch x) = true ∧ ∀ y ∈ e_QFileBatch x, y.imm = some y := ⟨rfl, by simp [e_QFileBatch, AVal.imm]⟩
def f26_c0 : LCode := (.seq (.region [⟨some 2, .mv (.c (.bool false)), none⟩])
 (.seq (.region [⟨some 3, .mv (.t 0), none⟩,
   ⟨some 4, .bin .geq (.t 3) (.c (.int .i64 1)), none⟩,
   ⟨some 5, .mv (.t 4), none⟩,
   ⟨some 6, .mv (.t 0), some (5, true)⟩,
   ⟨some 7, .bin .leq (.t 6) (.c (.int .i64 3)), some (5, true)⟩,
   ⟨some 8, .pick (.t 5) (.t 7) (.c (.bool false)), none⟩,
   ⟨some 2, .mv (.t 8), none⟩])
 .ret))
def f26_lay : Lay := ⟨9, [], false⟩
def f26_res : List LRes := [.t 2]
def f26_L : LFn := ⟨1, f26_lay, f26_c0, f26_res⟩
theorem f26_low : lowFn Try.prog [] 26 = some f26_L := by kernel_rfl
theorem f26_fok : FnOk Try.prog 26 := ⟨_, Try.func26, rfl, rfl⟩
noncomputable def S_filewatch_validKind (m : Option Nat) (a0 : Int) : Option Bool :=
  some ((decide (a0 ≥ 1)) && (decide (a0 ≤ 3)))

def f26_Q (a0 : Int) (o : Bool) : Exit → Env → AHeap → Nat → Prop := FinK f26_res (PureEnd (.bool o))

theorem f26_start {a0 : Int} {m : Option Nat} {o : Bool} (h : S_filewatch_validKind m a0 = some o) : LWp Try.prog f26_lay 0 f26_c0 (f26_Q a0 o) (initEnv 0 [.int .i64 a0]) [] 0 := by
  unfold S_filewatch_validKind at h
  refine seqI ?_
  refine regI ?_
  refine seqI ?_
  refine regI ?_
  refine And.intro (fun hp => hp) ?_
  show yops _ _ _ [(7, .cnd ((decide (a0 ≥ 1)) == true) (.bool (decide (a0 ≤ 3)))), (6, .cnd ((decide (a0 ≥ 1)) == true) (.int .i64 a0)), (5, .bool (decide (a0 ≥ 1))), (4, .bool (decide (a0 ≥ 1))), (3, .int .i64 a0), (2, .bool false), (0, .int .i64 a0)] _ _
  refine And.intro (fun hc => (bqt hc)) ?_
  refine LWp.sim (e := [(2, .bool ((decide (a0 ≥ 1)) && (decide (a0 ≤ 3))))]) (L := []) (n := 0) ?_ ?_
  · exact simI (M := []) rfl (And.intro (Vw.same _ rfl) trivial) trivial
  refine retI ?_
  cases h
  exact And.intro trivial (And.intro rfl (Vw.same _ rfl))

theorem f26_ok {a0 : Int} {m : Option Nat} {o : Bool} (h : S_filewatch_validKind m a0 = some o) : PFn Try.prog 26 [.int .i64 a0] (.bool o) := PFn.ofFnW (L := f26_L) f26_low f26_fok (Nat.le_of_ble_eq_true rfl) rfl (f26_start h)

def f35c0_c0 : LCode := (.seq (.region [⟨some 1, .box (.t 0), none⟩,
   ⟨some 2, .mv (.c (.bool false)), none⟩])
 (.seq (.region [⟨some 3, .faddr 2 (.t 1), none⟩,
   ⟨some 4, .load false 1 (.t 3), none⟩,
   ⟨some 5, .call 26 [(.t 4)], none⟩,
   ⟨some 6, .un .not (.t 5), none⟩,
   ⟨some 2, .mv (.t 6), none⟩])
 .ret))
def f35c0_lay : Lay := ⟨7, [], false⟩
def f35c0_res : List LRes := [.t 2]
def f35c0_L : LFn := ⟨1, f35c0_lay, f35c0_c0, f35c0_res⟩
theorem f35c0_low : lowFn Try.prog [] 35 = some f35c0_L := by kernel_rfl
theorem f35c0_fok : FnOk Try.prog 35 := ⟨_, Try.func35, rfl, rfl⟩
noncomputable def S_filewatch_validate_1c (m : Option Nat) (a0 : G_QFileEvent) : Option Bool :=
  (S_filewatch_validKind m a0.f_Kind).bind fun v1 =>
  some (!v1)

def f35c0_Q (a0 : G_QFileEvent) (o : Bool) : Exit → Env → AHeap → Nat → Prop := FinK f35c0_res (FinTo 3 4 (.bool o) [])

theorem f35c0_start {a0 : G_QFileEvent} {m : Option Nat} {o : Bool} (h : S_filewatch_validate_1c m a0 = some o) : LWp Try.prog f35c0_lay 3 f35c0_c0 (f35c0_Q a0 o) (initEnv 0 [.agg [.int .i64 a0.f_Time, .str a0.f_Path, .int .i64 a0.f_Kind]]) [] 3 := by
  unfold S_filewatch_validate_1c at h
  refine seqI ?_
  refine regI ?_
  refine seqI ?_
  refine regI ?_
  obtain ⟨v1, h1, h⟩ := bind_some h
  refine PFn.call (f26_ok h1) (And.intro (Vw.same _ rfl) trivial) ?_
  show yops _ _ _ [(5, .bool v1), (4, .int .i64 a0.f_Kind), (3, .ptr (3, 0) 0 2), (2, .bool false), (1, .ptr (3, 0) 0 0), (0, .agg [.int .i64 a0.f_Time, .str a0.f_Path, .int .i64 a0.f_Kind])] _ _
  refine retI ?_
  cases h
  exact And.intro trivial (finI (n' := 4) [] [] rfl rfl (Vw.same _ rfl) trivial)

theorem f35c0_ok {a0 : G_QFileEvent} {m : Option Nat} {o : Bool} (h : S_filewatch_validate_1c m a0 = some o) : ACalls Try.prog 35 [.agg [.int .i64 a0.f_Time, .str a0.f_Path, .int .i64 a0.f_Kind]] [] 3 (Gives 4 (.bool o) []) := bfn_of (L := f35c0_L) f35c0_low f35c0_fok (Nat.le_of_ble_eq_true rfl) (f35c0_start h)

def f41b0_c1 : LCode := (.seq (.region [⟨some 9, .bin .lss (.t 8) (.t 7), none⟩])
 (.seq (.cond (.t 9)
  .skip
  (.exit 0))
 (.seq (.block 1
  (.seq (.region [⟨some 10, .mv (.t 8), none⟩,
    ⟨some 5, .mv (.t 10), none⟩])
  (.seq (.region [⟨some 11, .mv (.t 1), none⟩,
    ⟨some 12, .mv (.t 0), none⟩,
    ⟨some 13, .mv (.t 5), none⟩,
    ⟨some 14, .iaddr 3 (.t 12) (.t 13), none⟩,
    ⟨some 15, .load true 3 (.t 14), none⟩,
    ⟨some 16, .callv (.t 11) [(.t 15)], none⟩])
  (.cond (.t 16)
   (.seq (.region [⟨some 17, .mv (.t 5), none⟩,
     ⟨some 4, .mv (.t 17), none⟩])
   .ret)
   .skip))))
 (.region [⟨some 18, .bin .add (.t 8) (.c (.int .i64 1)), none⟩,
   ⟨some 8, .mv (.t 18), none⟩]))))
def f41b0_c0 : LCode := (.seq (.region [⟨some 4, .mv (.c (.int .i64 (-1))), none⟩])
 .ret)
def f41b0_c2 : LCode := (.seq (.region [⟨some 4, .mv (.c (.int .i64 0)), none⟩])
 (.seq (.seq (.region [⟨some 6, .mv (.t 0), none⟩,
   ⟨some 7, .len false (.t 6), none⟩,
   ⟨some 8, .mv (.c (.int .i64 0)), none⟩])
 (.block 0
  (.loop
   f41b0_c1)))
 f41b0_c0))
def f41b0_lay : Lay := ⟨19, [], false⟩
def f41b0_res : List LRes := [.t 4]
def f41b0_L : LFn := ⟨2, f41b0_lay, f41b0_c2, f41b0_res⟩
theorem f41b0_low : lowFn Try.prog [] 41 = some f41b0_L := by kernel_rfl
theorem f41b0_fok : FnOk Try.prog 41 := ⟨_, Try.func41, rfl, rfl⟩
def f41b0_Q {σ : Type} (Hc : σ → AHeap) (fi0 : Fn) (ff0 fc0 : List AVal) (a0 : List G_QFileEvent) (z0 : σ) (o : Int × σ) : Exit → Env → AHeap → Nat → Prop := FinK f41b0_res (FinTo 3 4 (.int .i64 o.1) ([] ++ up 3 (Hc o.2)))

def f41b0_L1_env {σ : Type} (Hc : σ → AHeap) (fi0 : Fn) (ff0 fc0 : List AVal) (a0 : List G_QFileEvent) (s : (Int × σ)) : Env := [(0, .isl 3 (a0.map e_QFileEvent) false), (1, .fn fi0 ff0 fc0), (7, .int .i64 ((a0.map e_QFileEvent).length : Int)), (8, .int .i64 s.1)]
def f41b0_L1_hp {σ : Type} (Hc : σ → AHeap) (fi0 : Fn) (ff0 fc0 : List AVal) (a0 : List G_QFileEvent) (s : (Int × σ)) : AHeap := ([] ++ up 3 (Hc s.2))
def f41b0_L1_Q {σ : Type} (Hc : σ → AHeap) (fi0 : Fn) (ff0 fc0 : List AVal) (a0 : List G_QFileEvent) (z0 : σ) (o : (Int × σ)) : Exit → Env → AHeap → Nat → Prop := (QBlock 0 (QSeq Try.prog f41b0_lay 3 f41b0_c0 (f41b0_Q Hc fi0 ff0 fc0 a0 z0 o)))

noncomputable def S_slices_IndexFunc_api_QFileEvent_j1 {σ : Type} (g0 : σ → G_QFileEvent → Option (Bool × σ)) (m : Option Nat) (v3 : σ) : Option (Int × σ) :=
  some ((-1), v3)

noncomputable def S_slices_IndexFunc_api_QFileEvent_b1 {σ : Type} (g0 : σ → G_QFileEvent → Option (Bool × σ)) (m : Option Nat) (a0 : List G_QFileEvent) (v2 : Int) (v3 : σ) : Option ((Int × σ) ⊕ (Int × σ)) :=
  if (decide (v2 < ((a0.map e_QFileEvent).length : Int))) = true then
    if (0 : Int) ≤ v2 ∧ v2 < ((a0.map e_QFileEvent).length : Int) then
    (g0 v3 (G_QFileEvent.mk ((a0.getD v2.toNat default).f_Time) ((a0.getD v2.toNat default).f_Path) ((a0.getD v2.toNat default).f_Kind))).bind fun v5 =>
    if v5.1 = true then
      Option.map Sum.inr (
        some (v2, v5.2))
    else
      some (.inl ((W (v2 + 1)), v5.2))
    else none
  else
    Option.map Sum.inr (
      S_slices_IndexFunc_api_QFileEvent_j1 g0 m v3)

noncomputable def S_slices_IndexFunc_api_QFileEvent_l1 {σ : Type} (g0 : σ → G_QFileEvent → Option (Bool × σ)) (m : Option Nat) (a0 : List G_QFileEvent) (v2 : Int) (v3 : σ) : Option (Int × σ) := loopM m (fun (s : (Int × σ)) => S_slices_IndexFunc_api_QFileEvent_b1 g0 m a0 s.1 s.2) (v2, v3)

theorem f41b0_j1_ok {σ : Type} {Hc : σ → AHeap} {fi0 : Fn} {ff0 fc0 : List AVal} {g0 : σ → G_QFileEvent → Option (Bool × σ)} (hg0 : Clo Try.prog fi0 ff0 fc0 Hc (fun (x : G_QFileEvent) => [.agg [.int .i64 x.f_Time, .str x.f_Path, .int .i64 x.f_Kind]]) (fun (b : Bool) => .bool b) g0) {a0 : List G_QFileEvent} {z0 : σ} {v3 : σ} {m : Option Nat} {o : (Int × σ)} (h : S_slices_IndexFunc_api_QFileEvent_j1 g0 m v3 = some o) :
    LWp Try.prog f41b0_lay 3 f41b0_c0 (f41b0_Q Hc fi0 ff0 fc0 a0 z0 o) [] ([] ++ up 3 (Hc v3)) 4 := by
  unfold S_slices_IndexFunc_api_QFileEvent_j1 at h
  refine seqI ?_
  refine regI ?_
  refine retI ?_
  cases h
  exact And.intro trivial (finT (n' := 4) (q := 3) (lit' := []) (hg0.tl _) [] [] rfl rfl (Vw.same _ rfl) trivial)

theorem f41b0_L1_bok {σ : Type} {Hc : σ → AHeap} {fi0 : Fn} {ff0 fc0 : List AVal} {g0 : σ → G_QFileEvent → Option (Bool × σ)} (hg0 : Clo Try.prog fi0 ff0 fc0 Hc (fun (x : G_QFileEvent) => [.agg [.int .i64 x.f_Time, .str x.f_Path, .int .i64 x.f_Kind]]) (fun (b : Bool) => .bool b) g0) {z0 : σ} {a0 : List G_QFileEvent} {v2 : Int} {v3 : σ} {m : Option Nat} {o : (Int × σ) ⊕ (Int × σ)} (h : S_slices_IndexFunc_api_QFileEvent_b1 g0 m a0 v2 v3 = some o) :
    LWp Try.prog f41b0_lay 3 f41b0_c1 (BodyQ 3 4 (f41b0_L1_env Hc fi0 ff0 fc0 a0) (f41b0_L1_hp Hc fi0 ff0 fc0 a0) (f41b0_L1_Q Hc fi0 ff0 fc0 a0 z0) o) [(0, .isl 3 (a0.map e_QFileEvent) false), (1, .fn fi0 ff0 fc0), (7, .int .i64 ((a0.map e_QFileEvent).length : Int)), (8, .int .i64 v2)] ([] ++ up 3 (Hc v3)) 4 := by
  unfold S_slices_IndexFunc_api_QFileEvent_b1 at h
  refine seqI ?_
  refine regI ?_
  refine seqI ?_
  refine condI (v := (decide (v2 < ((a0.map e_QFileEvent).length : Int)))) rfl trivial (fun h9 => ?_) (fun h9 => ?_)
  · have h := ite_tt h9 h
    refine skipI ?_
    refine seqI ?_
    refine blockI ?_
    refine seqI ?_
    refine regI ?_
    refine seqI ?_
    refine regI ?_
    obtain ⟨h10, h⟩ := ite_some h
    refine And.intro h10 ?_
    show yops _ _ _ [(14, .iptr 3 (a0.map e_QFileEvent) v2.toNat 0), (13, .int .i64 v2), (12, .isl 3 (a0.map e_QFileEvent) false), (11, .fn fi0 ff0 fc0), (5, .int .i64 v2), (10, .int .i64 v2), (9, .bool (decide (v2 < ((a0.map e_QFileEvent).length : Int)))), (0, .isl 3 (a0.map e_QFileEvent) false), (1, .fn fi0 ff0 fc0), (7, .int .i64 ((a0.map e_QFileEvent).length : Int)), (8, .int .i64 v2)] _ _
    refine Exists.intro (e_QFileEvent (a0.getD v2.toNat default)) (And.intro (getD_enc e_QFileEvent _ _ (idx_ltL e_QFileEvent h10)) (And.intro (And.intro (idx_lt h10) (Nat.le_of_ble_eq_true rfl)) ?_))
    obtain ⟨v5, h11, h⟩ := bind_some h
    refine Clo.use (q := 3) (lit := []) hg0 h11 rfl rfl (And.intro (Vw.same _ rfl) trivial) ?_
    refine LWp.sim (e := [(0, .isl 3 (a0.map e_QFileEvent) false), (1, .fn fi0 ff0 fc0), (5, .int .i64 v2), (7, .int .i64 ((a0.map e_QFileEvent).length : Int)), (8, .int .i64 v2), (16, .bool v5.1)]) (L := ([] ++ up 3 (Hc v5.2))) (n := 4) ?_ ?_
    · exact simT (M := []) (lit' := []) (hg0.tl _) rfl (And.intro (Vw.same _ rfl) (And.intro (Vw.clo hg0.hf hg0.hc (by decide) (rhoT_1 (chkT_ok (n := 4) (q := 4) (lit' := []) rfl))) (And.intro (Vw.same _ rfl) (And.intro (Vw.same _ rfl) (And.intro (Vw.same _ rfl) (And.intro (Vw.same _ rfl) trivial)))))) trivial
    refine condI (v := v5.1) rfl trivial (fun h12 => ?_) (fun h12 => ?_)
    · have h := ite_tt h12 h
      refine seqI ?_
      refine regI ?_
      refine retI ?_
      obtain ⟨o, hq, rfl⟩ := Option.map_eq_some_iff.1 h
      replace h := hq; clear hq
      refine And.intro nofun ?_
      cases h
      exact And.intro trivial (finT (n' := 4) (q := 3) (lit' := []) (hg0.tl _) [] [] rfl rfl (Vw.same _ rfl) trivial)
    · have h := ite_ff h12 h
      refine skipI ?_
      refine regI ?_
      cases h
      exact And.intro rfl (simT (M := []) (lit' := []) (hg0.tl _) rfl (And.intro (Vw.same _ rfl) (And.intro (Vw.clo hg0.hf hg0.hc (by decide) (rhoT_1 (chkT_ok (n := 4) (q := 3) (lit' := []) rfl))) (And.intro (Vw.same _ rfl) (And.intro (Vw.same _ rfl) trivial)))) trivial)
  · have h := ite_ff h9 h
    refine exitI ?_
    obtain ⟨o, hq, rfl⟩ := Option.map_eq_some_iff.1 h
    replace h := hq; clear hq
    refine And.intro nofun ?_
    refine LWp.sim ?_ (f41b0_j1_ok hg0 h)
    exact simT (M := []) (lit' := []) (hg0.tl _) rfl trivial trivial

theorem f41b0_L1_ok {σ : Type} {Hc : σ → AHeap} {fi0 : Fn} {ff0 fc0 : List AVal} {g0 : σ → G_QFileEvent → Option (Bool × σ)} (hg0 : Clo Try.prog fi0 ff0 fc0 Hc (fun (x : G_QFileEvent) => [.agg [.int .i64 x.f_Time, .str x.f_Path, .int .i64 x.f_Kind]]) (fun (b : Bool) => .bool b) g0) {z0 : σ} {a0 : List G_QFileEvent} {v2 : Int} {v3 : σ} {m : Option Nat} {o : (Int × σ)} (h : S_slices_IndexFunc_api_QFileEvent_l1 g0 m a0 v2 v3 = some o) :
    LWp Try.prog f41b0_lay 3 (.loop f41b0_c1) (QBlock 0 (QSeq Try.prog f41b0_lay 3 f41b0_c0 (f41b0_Q Hc fi0 ff0 fc0 a0 z0 o))) [(0, .isl 3 (a0.map e_QFileEvent) false), (1, .fn fi0 ff0 fc0), (7, .int .i64 ((a0.map e_QFileEvent).length : Int)), (8, .int .i64 v2)] ([] ++ up 3 (Hc v3)) 4 :=
  LWp_loopM (m := m) (s := ((v2, v3) : (Int × σ))) (r := o) (fun (s : (Int × σ)) => S_slices_IndexFunc_api_QFileEvent_b1 g0 m a0 s.1 s.2) (f41b0_L1_env Hc fi0 ff0 fc0 a0) (f41b0_L1_hp Hc fi0 ff0 fc0 a0) (f41b0_L1_Q Hc fi0 ff0 fc0 a0 z0) (fun s o h => f41b0_L1_bok hg0 h) h

noncomputable def S_slices_IndexFunc_api_QFileEvent {σ : Type} (g0 : σ → G_QFileEvent → Option (Bool × σ)) (m : Option Nat) (a0 : List G_QFileEvent) (z0 : σ) : Option (Int × σ) :=
  S_slices_IndexFunc_api_QFileEvent_l1 g0 m a0 0 z0

theorem f41b0_start {σ : Type} {Hc : σ → AHeap} {fi0 : Fn} {ff0 fc0 : List AVal} {g0 : σ → G_QFileEvent → Option (Bool × σ)} (hg0 : Clo Try.prog fi0 ff0 fc0 Hc (fun (x : G_QFileEvent) => [.agg [.int .i64 x.f_Time, .str x.f_Path, .int .i64 x.f_Kind]]) (fun (b : Bool) => .bool b) g0) {a0 : List G_QFileEvent} {z0 : σ} {m : Option Nat} {o : Int × σ} (h : S_slices_IndexFunc_api_QFileEvent g0 m a0 z0 = some o) : LWp Try.prog f41b0_lay 3 f41b0_c2 (f41b0_Q Hc fi0 ff0 fc0 a0 z0 o) (initEnv 0 [.isl 3 (a0.map e_QFileEvent) false, .fn fi0 ff0 fc0]) ([] ++ Hc z0) 3 := by
  unfold S_slices_IndexFunc_api_QFileEvent at h
  refine LWp.sim (e := [(0, .isl 3 (a0.map e_QFileEvent) false), (1, .fn fi0 ff0 fc0)]) (L := ([] ++ up 3 (Hc z0))) (n := 4) (entryT (T := Hc z0) (e' := initEnv 0 [.isl 3 (a0.map e_QFileEvent) false, .fn fi0 ff0 fc0]) (e := [(0, .isl 3 (a0.map e_QFileEvent) false), (1, .fn fi0 ff0 fc0)]) (lit' := []) (lit := []) (hg0.tl z0) rfl rfl (And.intro (Vw.same _ rfl) (And.intro (Vw.clo hg0.hf hg0.hc (by decide) (rhoE_1 _)) trivial)) trivial) ?_
  refine seqI ?_
  refine regI ?_
  refine seqI ?_
  refine seqI ?_
  refine regI ?_
  refine blockI ?_
  refine LWp.sim ?_ (f41b0_L1_ok hg0 h)
  exact simT (M := []) (lit' := []) (hg0.tl _) rfl (And.intro (Vw.same _ rfl) (And.intro (Vw.clo hg0.hf hg0.hc (by decide) (rhoT_1 (chkT_ok (n := 4) (q := 3) (lit' := []) rfl))) (And.intro (Vw.same _ rfl) (And.intro (Vw.same _ rfl) trivial)))) trivial

theorem f41b0_ok {σ : Type} {Hc : σ → AHeap} {fi0 : Fn} {ff0 fc0 : List AVal} {g0 : σ → G_QFileEvent → Option (Bool × σ)} (hg0 : Clo Try.prog fi0 ff0 fc0 Hc (fun (x : G_QFileEvent) => [.agg [.int .i64 x.f_Time, .str x.f_Path, .int .i64 x.f_Kind]]) (fun (b : Bool) => .bool b) g0) {a0 : List G_QFileEvent} {z0 : σ} {m : Option Nat} {o : Int × σ} (h : S_slices_IndexFunc_api_QFileEvent g0 m a0 z0 = some o) : ACalls Try.prog 41 [.isl 3 (a0.map e_QFileEvent) false, .fn fi0 ff0 fc0] ([] ++ Hc z0) 3 (Gives 4 (.int .i64 o.1) ([] ++ up 3 (Hc o.2))) := bfn_of (L := f41b0_L) f41b0_low f41b0_fok (Nat.le_of_ble_eq_true rfl) (f41b0_start hg0 h)

def f34b0_c0 : LCode := (.seq (.region [⟨some 4, .mv (.c (.bool false)), none⟩])
 (.seq (.region [⟨some 5, .mv (.t 0), none⟩,
   ⟨some 6, .mv (.t 1), none⟩,
   ⟨some 7, .call 41 [(.t 5), (.t 6)], none⟩,
   ⟨some 8, .bin .geq (.t 7) (.c (.int .i64 0)), none⟩,
   ⟨some 4, .mv (.t 8), none⟩])
 .ret))
def f34b0_lay : Lay := ⟨9, [], false⟩
def f34b0_res : List LRes := [.t 4]
def f34b0_L : LFn := ⟨2, f34b0_lay, f34b0_c0, f34b0_res⟩
theorem f34b0_low : lowFn Try.prog [] 34 = some f34b0_L := by kernel_rfl
theorem f34b0_fok : FnOk Try.prog 34 := ⟨_, Try.func34, rfl, rfl⟩
noncomputable def S_slices_ContainsFunc_api_QFileEvent {σ : Type} (g0 : σ → G_QFileEvent → Option (Bool × σ)) (m : Option Nat) (a0 : List G_QFileEvent) (z0 : σ) : Option (Bool × σ) :=
  (S_slices_IndexFunc_api_QFileEvent g0 m a0 z0).bind fun v1 =>
  some ((decide (v1.1 ≥ 0)), v1.2)

def f34b0_Q {σ : Type} (Hc : σ → AHeap) (fi0 : Fn) (ff0 fc0 : List AVal) (a0 : List G_QFileEvent) (z0 : σ) (o : Bool × σ) : Exit → Env → AHeap → Nat → Prop := FinK f34b0_res (FinTo 3 4 (.bool o.1) ([] ++ up 3 (Hc o.2)))

theorem f34b0_start {σ : Type} {Hc : σ → AHeap} {fi0 : Fn} {ff0 fc0 : List AVal} {g0 : σ → G_QFileEvent → Option (Bool × σ)} (hg0 : Clo Try.prog fi0 ff0 fc0 Hc (fun (x : G_QFileEvent) => [.agg [.int .i64 x.f_Time, .str x.f_Path, .int .i64 x.f_Kind]]) (fun (b : Bool) => .bool b) g0) {a0 : List G_QFileEvent} {z0 : σ} {m : Option Nat} {o : Bool × σ} (h : S_slices_ContainsFunc_api_QFileEvent g0 m a0 z0 = some o) : LWp Try.prog f34b0_lay 3 f34b0_c0 (f34b0_Q Hc fi0 ff0 fc0 a0 z0 o) (initEnv 0 [.isl 3 (a0.map e_QFileEvent) false, .fn fi0 ff0 fc0]) ([] ++ Hc z0) 3 := by
  unfold S_slices_ContainsFunc_api_QFileEvent at h
  refine LWp.sim (e := [(0, .isl 3 (a0.map e_QFileEvent) false), (1, .fn fi0 ff0 fc0)]) (L := ([] ++ up 3 (Hc z0))) (n := 4) (entryT (T := Hc z0) (e' := initEnv 0 [.isl 3 (a0.map e_QFileEvent) false, .fn fi0 ff0 fc0]) (e := [(0, .isl 3 (a0.map e_QFileEvent) false), (1, .fn fi0 ff0 fc0)]) (lit' := []) (lit := []) (hg0.tl z0) rfl rfl (And.intro (Vw.same _ rfl) (And.intro (Vw.clo hg0.hf hg0.hc (by decide) (rhoE_1 _)) trivial)) trivial) ?_
  refine seqI ?_
  refine regI ?_
  refine seqI ?_
  refine regI ?_
  obtain ⟨v1, h1, h⟩ := bind_some h
  refine bcallT (m := 1) (q := 3) (lit0 := []) (lit := []) (L := []) (L' := []) (rest := []) (R' := .int .i64 v1.1) (hg0.tl _) (hg0.tl _) [] (f41b0_ok hg0 h1) rfl rfl rfl rfl rfl rfl (And.intro (Vw.same _ rfl) (And.intro (Vw.clo hg0.hf hg0.hc (by decide) (lookT_1 _ _)) trivial)) trivial (nid_ren _ rfl) trivial rfl ?_
  refine retI ?_
  cases h
  exact And.intro trivial (finT (n' := 6) (q := 4) (lit' := []) (hg0.tl _) [] [] rfl rfl (Vw.same _ rfl) trivial)

theorem f34b0_ok {σ : Type} {Hc : σ → AHeap} {fi0 : Fn} {ff0 fc0 : List AVal} {g0 : σ → G_QFileEvent → Option (Bool × σ)} (hg0 : Clo Try.prog fi0 ff0 fc0 Hc (fun (x : G_QFileEvent) => [.agg [.int .i64 x.f_Time, .str x.f_Path, .int .i64 x.f_Kind]]) (fun (b : Bool) => .bool b) g0) {a0 : List G_QFileEvent} {z0 : σ} {m : Option Nat} {o : Bool × σ} (h : S_slices_ContainsFunc_api_QFileEvent g0 m a0 z0 = some o) : ACalls Try.prog 34 [.isl 3 (a0.map e_QFileEvent) false, .fn fi0 ff0 fc0] ([] ++ Hc z0) 3 (Gives 4 (.bool o.1) ([] ++ up 3 (Hc o.2))) := bfn_of (L := f34b0_L) f34b0_low f34b0_fok (Nat.le_of_ble_eq_true rfl) (f34b0_start hg0 h)

def f23_c1 : LCode := (.seq (.region [⟨some 24, .bin .lss (.t 23) (.t 22), none⟩])
 (.seq (.cond (.t 24)
  .skip
  (.exit 1))
 (.seq (.block 2
  (.seq (.region [⟨some 25, .mv (.t 23), none⟩,
    ⟨some 26, .iaddr 3 (.t 21) (.t 23), none⟩,
    ⟨some 27, .load true 3 (.t 26), none⟩,
    ⟨some 6, .alloc [(.int .i64 0), (.str []), (.int .i64 0)], none⟩,
    ⟨some 5, .mv (.t 25), none⟩,
    ⟨none, .store 3 (.t 6) (.t 27), none⟩])
  (.seq (.quiet [⟨some 28, .faddr 0 (.t 6), none⟩,
    ⟨some 29, .load false 1 (.t 28), none⟩,
    ⟨some 30, .bin .lss (.t 29) (.c (.int .i64 0)), none⟩,
    ⟨some 31, .mv (.t 30), none⟩,
    ⟨some 32, .faddr 0 (.t 6), some (31, false)⟩,
    ⟨some 33, .load false 1 (.t 32), some (31, false)⟩,
    ⟨some 34, .bin .gtr (.t 33) (.c (.int .i64 1000000000000)), some (31, false)⟩,
    ⟨some 35, .pick (.t 31) (.c (.bool true)) (.t 34), none⟩,
    ⟨some 36, .mv (.t 35), none⟩,
    ⟨some 37, .mv (.t 5), some (36, false)⟩,
    ⟨some 38, .bin .gtr (.t 37) (.c (.int .i64 0)), some (36, false)⟩,
    ⟨some 39, .mv (.t 38), some (36, false)⟩,
    ⟨some 40, .faddr 0 (.t 6), some (39, true)⟩,
    ⟨some 41, .load false 1 (.t 40), some (39, true)⟩,
    ⟨some 42, .mv (.t 0), some (39, true)⟩,
    ⟨some 43, .mv (.t 5), some (39, true)⟩,
    ⟨some 44, .bin .sub (.t 43) (.c (.int .i64 1)), some (39, true)⟩,
    ⟨some 45, .iaddr 3 (.t 42) (.t 44), some (39, true)⟩,
    ⟨some 46, .faddr 0 (.t 45), some (39, true)⟩,
    ⟨some 47, .load false 1 (.t 46), some (39, true)⟩,
    ⟨some 48, .bin .lss (.t 41) (.t 47), some (39, true)⟩,
    ⟨some 49, .pick (.t 39) (.t 48) (.c (.bool false)), some (36, false)⟩,
    ⟨some 50, .pick (.t 36) (.c (.bool true)) (.t 49), none⟩])
  (.cond (.t 50)
   (.seq (.region [⟨some 4, .mv (.c (.int .i64 3)), none⟩])
   .ret)
   .skip))))
 (.region [⟨some 51, .bin .add (.t 23) (.c (.int .i64 1)), none⟩,
   ⟨some 23, .mv (.t 51), none⟩]))))
def f23_c0 : LCode := (.seq (.region [⟨some 4, .mv (.c (.int .i64 0)), none⟩])
 .ret)
def f23_c2 : LCode := (.seq (.region [⟨some 4, .mv (.c (.int .i64 0)), none⟩])
 (.seq (.block 0
  (.seq (.region [⟨some 8, .mv (.t 1), none⟩,
    ⟨some 9, .bin .lss (.t 8) (.c (.int .i64 0)), none⟩,
    ⟨some 10, .mv (.t 9), none⟩,
    ⟨some 11, .mv (.t 1), some (10, false)⟩,
    ⟨some 12, .bin .gtr (.t 11) (.c (.int .i64 1000000)), some (10, false)⟩,
    ⟨some 13, .pick (.t 10) (.c (.bool true)) (.t 12), none⟩,
    ⟨some 7, .mv (.t 13), none⟩])
  (.cond (.t 7)
   (.seq (.region [⟨some 4, .mv (.c (.int .i64 1)), none⟩])
   .ret)
   (.seq (.region [⟨some 15, .mv (.t 0), none⟩,
     ⟨some 16, .len false (.t 15), none⟩,
     ⟨some 17, .bin .gtr (.t 16) (.c (.int .i64 1000)), none⟩,
     ⟨some 14, .mv (.t 17), none⟩])
   (.cond (.t 14)
    (.seq (.region [⟨some 4, .mv (.c (.int .i64 2)), none⟩])
    .ret)
    (.seq (.region [⟨some 19, .mv (.t 0), none⟩,
      ⟨some 20, .call 34 [(.t 19), (.c (.fn (.func 35) [] []))], none⟩,
      ⟨some 18, .mv (.t 20), none⟩])
    (.cond (.t 18)
     (.seq (.region [⟨some 4, .mv (.c (.int .i64 7)), none⟩])
     .ret)
     .skip)))))))
 (.seq (.seq (.region [⟨some 21, .mv (.t 0), none⟩,
   ⟨some 22, .len false (.t 21), none⟩,
   ⟨some 23, .mv (.c (.int .i64 0)), none⟩])
 (.block 1
  (.loop
   f23_c1)))
 f23_c0)))
def f23_lay : Lay := ⟨52, [], false⟩
def f23_res : List LRes := [.t 4]
def f23_L : LFn := ⟨2, f23_lay, f23_c2, f23_res⟩
theorem f23_low : lowFn Try.prog [] 23 = some f23_L := by kernel_rfl
theorem f23_fok : FnOk Try.prog 23 := ⟨_, Try.func23, rfl, rfl⟩
def f23_Q (a0 : List G_QFileEvent) (a1 : Int) (o : Int) : Exit → Env → AHeap → Nat → Prop := FinK f23_res (PureEnd (.int .i64 o))

def f23_L1_env (a0 : List G_QFileEvent) (s : Int) : Env := [(0, .isl 3 (a0.map e_QFileEvent) false), (21, .isl 3 (a0.map e_QFileEvent) false), (22, .int .i64 ((a0.map e_QFileEvent).length : Int)), (23, .int .i64 s)]
def f23_L1_hp (a0 : List G_QFileEvent) (s : Int) : AHeap := []
def f23_L1_Q (a0 : List G_QFileEvent) (a1 : Int) (o : Int) : Exit → Env → AHeap → Nat → Prop := (QBlock 1 (QSeq Try.prog f23_lay 0 f23_c0 (f23_Q a0 a1 o)))

noncomputable def S_filewatch_validate_j1 (m : Option Nat) : Option Int :=
  some 0

noncomputable def S_filewatch_validate_b1 (m : Option Nat) (a0 : List G_QFileEvent) (v2 : Int) : Option (Int ⊕ Int) :=
  if (decide (v2 < ((a0.map e_QFileEvent).length : Int))) = true then
    if (0 : Int) ≤ v2 ∧ v2 < ((a0.map e_QFileEvent).length : Int) then
    if (((((decide ((a0.getD v2.toNat default).f_Time < 0)) || (decide ((a0.getD v2.toNat default).f_Time > 1000000000000))) == false) && ((decide (v2 > 0)) == true)) = true → (0 : Int) ≤ (W (v2 - 1)) ∧ (W (v2 - 1)) < ((a0.map e_QFileEvent).length : Int)) then
    if (((decide ((a0.getD v2.toNat default).f_Time < 0)) || (decide ((a0.getD v2.toNat default).f_Time > 1000000000000))) || ((decide (v2 > 0)) && (decide ((a0.getD v2.toNat default).f_Time < (a0.getD ((W (v2 - 1)).toNat) default).f_Time)))) = true then
      Option.map Sum.inr (
        some 3)
    else
      some (.inl (W (v2 + 1)))
    else none
    else none
  else
    Option.map Sum.inr (
      S_filewatch_validate_j1 m)

noncomputable def S_filewatch_validate_l1 (m : Option Nat) (a0 : List G_QFileEvent) (v2 : Int) : Option Int := loopM m (fun (s : Int) => S_filewatch_validate_b1 m a0 s) v2

theorem f23_j1_ok {a0 : List G_QFileEvent} {a1 : Int} {m : Option Nat} {o : Int} (h : S_filewatch_validate_j1 m = some o) :
    LWp Try.prog f23_lay 0 f23_c0 (f23_Q a0 a1 o) [] [] 0 := by
  unfold S_filewatch_validate_j1 at h
  refine seqI ?_
  refine regI ?_
  refine retI ?_
  cases h
  exact And.intro trivial (And.intro rfl (Vw.same _ rfl))

theorem f23_L1_bok {a1 : Int} {a0 : List G_QFileEvent} {v2 : Int} {m : Option Nat} {o : Int ⊕ Int} (h : S_filewatch_validate_b1 m a0 v2 = some o) :
    LWp Try.prog f23_lay 0 f23_c1 (BodyQ 0 0 (f23_L1_env a0) (f23_L1_hp a0) (f23_L1_Q a0 a1) o) [(0, .isl 3 (a0.map e_QFileEvent) false), (21, .isl 3 (a0.map e_QFileEvent) false), (22, .int .i64 ((a0.map e_QFileEvent).length : Int)), (23, .int .i64 v2)] [] 0 := by
  unfold S_filewatch_validate_b1 at h
  refine seqI ?_
  refine regI ?_
  refine seqI ?_
  refine condI (v := (decide (v2 < ((a0.map e_QFileEvent).length : Int)))) rfl trivial (fun h13 => ?_) (fun h13 => ?_)
  · have h := ite_tt h13 h
    refine skipI ?_
    refine seqI ?_
    refine blockI ?_
    refine seqI ?_
    refine regI ?_
    obtain ⟨h14, h⟩ := ite_some h
    refine And.intro h14 ?_
    refine Exists.intro (e_QFileEvent (a0.getD v2.toNat default)) (And.intro (getD_enc e_QFileEvent _ _ (idx_ltL e_QFileEvent h14)) (And.intro (And.intro (idx_lt h14) (Nat.le_of_ble_eq_true rfl)) ?_))
    refine seqI ?_
    refine quietI ?_
    refine And.intro (fun hp => hp) ?_
    show yqs _ _ [(33, .cnd ((decide ((a0.getD v2.toNat default).f_Time < 0)) == false) (.int .i64 ((a0.getD v2.toNat default).f_Time))), (32, .cnd ((decide ((a0.getD v2.toNat default).f_Time < 0)) == false) (.ptr (0, 0) 0 0)), (31, .bool (decide ((a0.getD v2.toNat default).f_Time < 0))), (30, .bool (decide ((a0.getD v2.toNat default).f_Time < 0))), (29, .int .i64 ((a0.getD v2.toNat default).f_Time)), (28, .ptr (0, 0) 0 0), (5, .int .i64 v2), (6, .ptr (0, 0) 0 0), (27, .agg [.int .i64 ((a0.getD v2.toNat default).f_Time), .str ((a0.getD v2.toNat default).f_Path), .int .i64 ((a0.getD v2.toNat default).f_Kind)]), (26, .iptr 3 (a0.map e_QFileEvent) v2.toNat 0), (25, .int .i64 v2), (24, .bool (decide (v2 < ((a0.map e_QFileEvent).length : Int)))), (0, .isl 3 (a0.map e_QFileEvent) false), (21, .isl 3 (a0.map e_QFileEvent) false), (22, .int .i64 ((a0.map e_QFileEvent).length : Int)), (23, .int .i64 v2)] _ _
    refine And.intro (fun hp => hp) ?_
    refine And.intro (fun hc => (bqf hc)) ?_
    refine And.intro (fun hp => hp) ?_
    show yqs _ _ [(38, .cnd (((decide ((a0.getD v2.toNat default).f_Time < 0)) || (decide ((a0.getD v2.toNat default).f_Time > 1000000000000))) == false) (.bool (decide (v2 > 0)))), (37, .cnd (((decide ((a0.getD v2.toNat default).f_Time < 0)) || (decide ((a0.getD v2.toNat default).f_Time > 1000000000000))) == false) (.int .i64 v2)), (36, .bool ((decide ((a0.getD v2.toNat default).f_Time < 0)) || (decide ((a0.getD v2.toNat default).f_Time > 1000000000000)))), (35, .bool ((decide ((a0.getD v2.toNat default).f_Time < 0)) || (decide ((a0.getD v2.toNat default).f_Time > 1000000000000)))), (34, .cnd ((decide ((a0.getD v2.toNat default).f_Time < 0)) == false) (.bool (decide ((a0.getD v2.toNat default).f_Time > 1000000000000)))), (33, .cnd ((decide ((a0.getD v2.toNat default).f_Time < 0)) == false) (.int .i64 ((a0.getD v2.toNat default).f_Time))), (32, .cnd ((decide ((a0.getD v2.toNat default).f_Time < 0)) == false) (.ptr (0, 0) 0 0)), (31, .bool (decide ((a0.getD v2.toNat default).f_Time < 0))), (30, .bool (decide ((a0.getD v2.toNat default).f_Time < 0))), (29, .int .i64 ((a0.getD v2.toNat default).f_Time)), (28, .ptr (0, 0) 0 0), (5, .int .i64 v2), (6, .ptr (0, 0) 0 0), (27, .agg [.int .i64 ((a0.getD v2.toNat default).f_Time), .str ((a0.getD v2.toNat default).f_Path), .int .i64 ((a0.getD v2.toNat default).f_Kind)]), (26, .iptr 3 (a0.map e_QFileEvent) v2.toNat 0), (25, .int .i64 v2), (24, .bool (decide (v2 < ((a0.map e_QFileEvent).length : Int)))), (0, .isl 3 (a0.map e_QFileEvent) false), (21, .isl 3 (a0.map e_QFileEvent) false), (22, .int .i64 ((a0.map e_QFileEvent).length : Int)), (23, .int .i64 v2)] _ _
    refine And.intro (fun hp => hp) ?_
    refine And.intro (fun hp => hp) ?_
    refine And.intro (fun hp => hp) ?_
    show yqs _ _ [(44, .cnd ((((decide ((a0.getD v2.toNat default).f_Time < 0)) || (decide ((a0.getD v2.toNat default).f_Time > 1000000000000))) == false) && ((decide (v2 > 0)) == true)) (.int .i64 (W (v2 - 1)))), (43, .cnd ((((decide ((a0.getD v2.toNat default).f_Time < 0)) || (decide ((a0.getD v2.toNat default).f_Time > 1000000000000))) == false) && ((decide (v2 > 0)) == true)) (.int .i64 v2)), (42, .cnd ((((decide ((a0.getD v2.toNat default).f_Time < 0)) || (decide ((a0.getD v2.toNat default).f_Time > 1000000000000))) == false) && ((decide (v2 > 0)) == true)) (.isl 3 (a0.map e_QFileEvent) false)), (41, .cnd ((((decide ((a0.getD v2.toNat default).f_Time < 0)) || (decide ((a0.getD v2.toNat default).f_Time > 1000000000000))) == false) && ((decide (v2 > 0)) == true)) (.int .i64 ((a0.getD v2.toNat default).f_Time))), (40, .cnd ((((decide ((a0.getD v2.toNat default).f_Time < 0)) || (decide ((a0.getD v2.toNat default).f_Time > 1000000000000))) == false) && ((decide (v2 > 0)) == true)) (.ptr (0, 0) 0 0)), (39, .cnd (((decide ((a0.getD v2.toNat default).f_Time < 0)) || (decide ((a0.getD v2.toNat default).f_Time > 1000000000000))) == false) (.bool (decide (v2 > 0)))), (38, .cnd (((decide ((a0.getD v2.toNat default).f_Time < 0)) || (decide ((a0.getD v2.toNat default).f_Time > 1000000000000))) == false) (.bool (decide (v2 > 0)))), (37, .cnd (((decide ((a0.getD v2.toNat default).f_Time < 0)) || (decide ((a0.getD v2.toNat default).f_Time > 1000000000000))) == false) (.int .i64 v2)), (36, .bool ((decide ((a0.getD v2.toNat default).f_Time < 0)) || (decide ((a0.getD v2.toNat default).f_Time > 1000000000000)))), (35, .bool ((decide ((a0.getD v2.toNat default).f_Time < 0)) || (decide ((a0.getD v2.toNat default).f_Time > 1000000000000)))), (34, .cnd ((decide ((a0.getD v2.toNat default).f_Time < 0)) == false) (.bool (decide ((a0.getD v2.toNat default).f_Time > 1000000000000)))), (33, .cnd ((decide ((a0.getD v2.toNat default).f_Time < 0)) == false) (.int .i64 ((a0.getD v2.toNat default).f_Time))), (32, .cnd ((decide ((a0.getD v2.toNat default).f_Time < 0)) == false) (.ptr (0, 0) 0 0)), (31, .bool (decide ((a0.getD v2.toNat default).f_Time < 0))), (30, .bool (decide ((a0.getD v2.toNat default).f_Time < 0))), (29, .int .i64 ((a0.getD v2.toNat default).f_Time)), (28, .ptr (0, 0) 0 0), (5, .int .i64 v2), (6, .ptr (0, 0) 0 0), (27, .agg [.int .i64 ((a0.getD v2.toNat default).f_Time), .str ((a0.getD v2.toNat default).f_Path), .int .i64 ((a0.getD v2.toNat default).f_Kind)]), (26, .iptr 3 (a0.map e_QFileEvent) v2.toNat 0), (25, .int .i64 v2), (24, .bool (decide (v2 < ((a0.map e_QFileEvent).length : Int)))), (0, .isl 3 (a0.map e_QFileEvent) false), (21, .isl 3 (a0.map e_QFileEvent) false), (22, .int .i64 ((a0.map e_QFileEvent).length : Int)), (23, .int .i64 v2)] _ _
    obtain ⟨h15, h⟩ := ite_some h
    refine And.intro (fun hp => (And.intro (And.intro hp hp) (h15 hp))) ?_
    refine And.intro (fun hp => hp) ?_
    refine Exists.intro (e_QFileEvent (a0.getD ((W (v2 - 1)).toNat) default)) (And.intro (fun hp => And.intro (getD_enc e_QFileEvent _ _ (idx_ltL e_QFileEvent (h15 hp))) (And.intro hp (And.intro (idx_lt (h15 hp)) (Nat.le_of_ble_eq_true rfl)))) ?_)
    refine And.intro (fun hp => (And.intro hp hp)) ?_
    refine And.intro (fun hp => (And.intro hp (fun hc => (and_i hp (bqt hc))))) ?_
    show yqs _ _ [(49, .cnd (((decide ((a0.getD v2.toNat default).f_Time < 0)) || (decide ((a0.getD v2.toNat default).f_Time > 1000000000000))) == false) (.bool ((decide (v2 > 0)) && (decide ((a0.getD v2.toNat default).f_Time < (a0.getD ((W (v2 - 1)).toNat) default).f_Time))))), (48, .cnd ((((decide ((a0.getD v2.toNat default).f_Time < 0)) || (decide ((a0.getD v2.toNat default).f_Time > 1000000000000))) == false) && ((decide (v2 > 0)) == true)) (.bool (decide ((a0.getD v2.toNat default).f_Time < (a0.getD ((W (v2 - 1)).toNat) default).f_Time)))), (47, .cnd ((((decide ((a0.getD v2.toNat default).f_Time < 0)) || (decide ((a0.getD v2.toNat default).f_Time > 1000000000000))) == false) && ((decide (v2 > 0)) == true)) (.int .i64 ((a0.getD ((W (v2 - 1)).toNat) default).f_Time))), (46, .cnd ((((decide ((a0.getD v2.toNat default).f_Time < 0)) || (decide ((a0.getD v2.toNat default).f_Time > 1000000000000))) == false) && ((decide (v2 > 0)) == true)) (.iptr 3 (a0.map e_QFileEvent) ((W (v2 - 1)).toNat) 0)), (45, .cnd ((((decide ((a0.getD v2.toNat default).f_Time < 0)) || (decide ((a0.getD v2.toNat default).f_Time > 1000000000000))) == false) && ((decide (v2 > 0)) == true)) (.iptr 3 (a0.map e_QFileEvent) ((W (v2 - 1)).toNat) 0)), (44, .cnd ((((decide ((a0.getD v2.toNat default).f_Time < 0)) || (decide ((a0.getD v2.toNat default).f_Time > 1000000000000))) == false) && ((decide (v2 > 0)) == true)) (.int .i64 (W (v2 - 1)))), (43, .cnd ((((decide ((a0.getD v2.toNat default).f_Time < 0)) || (decide ((a0.getD v2.toNat default).f_Time > 1000000000000))) == false) && ((decide (v2 > 0)) == true)) (.int .i64 v2)), (42, .cnd ((((decide ((a0.getD v2.toNat default).f_Time < 0)) || (decide ((a0.getD v2.toNat default).f_Time > 1000000000000))) == false) && ((decide (v2 > 0)) == true)) (.isl 3 (a0.map e_QFileEvent) false)), (41, .cnd ((((decide ((a0.getD v2.toNat default).f_Time < 0)) || (decide ((a0.getD v2.toNat default).f_Time > 1000000000000))) == false) && ((decide (v2 > 0)) == true)) (.int .i64 ((a0.getD v2.toNat default).f_Time))), (40, .cnd ((((decide ((a0.getD v2.toNat default).f_Time < 0)) || (decide ((a0.getD v2.toNat default).f_Time > 1000000000000))) == false) && ((decide (v2 > 0)) == true)) (.ptr (0, 0) 0 0)), (39, .cnd (((decide ((a0.getD v2.toNat default).f_Time < 0)) || (decide ((a0.getD v2.toNat default).f_Time > 1000000000000))) == false) (.bool (decide (v2 > 0)))), (38, .cnd (((decide ((a0.getD v2.toNat default).f_Time < 0)) || (decide ((a0.getD v2.toNat default).f_Time > 1000000000000))) == false) (.bool (decide (v2 > 0)))), (37, .cnd (((decide ((a0.getD v2.toNat default).f_Time < 0)) || (decide ((a0.getD v2.toNat default).f_Time > 1000000000000))) == false) (.int .i64 v2)), (36, .bool ((decide ((a0.getD v2.toNat default).f_Time < 0)) || (decide ((a0.getD v2.toNat default).f_Time > 1000000000000)))), (35, .bool ((decide ((a0.getD v2.toNat default).f_Time < 0)) || (decide ((a0.getD v2.toNat default).f_Time > 1000000000000)))), (34, .cnd ((decide ((a0.getD v2.toNat default).f_Time < 0)) == false) (.bool (decide ((a0.getD v2.toNat default).f_Time > 1000000000000)))), (33, .cnd ((decide ((a0.getD v2.toNat default).f_Time < 0)) == false) (.int .i64 ((a0.getD v2.toNat default).f_Time))), (32, .cnd ((decide ((a0.getD v2.toNat default).f_Time < 0)) == false) (.ptr (0, 0) 0 0)), (31, .bool (decide ((a0.getD v2.toNat default).f_Time < 0))), (30, .bool (decide ((a0.getD v2.toNat default).f_Time < 0))), (29, .int .i64 ((a0.getD v2.toNat default).f_Time)), (28, .ptr (0, 0) 0 0), (5, .int .i64 v2), (6, .ptr (0, 0) 0 0), (27, .agg [.int .i64 ((a0.getD v2.toNat default).f_Time), .str ((a0.getD v2.toNat default).f_Path), .int .i64 ((a0.getD v2.toNat default).f_Kind)]), (26, .iptr 3 (a0.map e_QFileEvent) v2.toNat 0), (25, .int .i64 v2), (24, .bool (decide (v2 < ((a0.map e_QFileEvent).length : Int)))), (0, .isl 3 (a0.map e_QFileEvent) false), (21, .isl 3 (a0.map e_QFileEvent) false), (22, .int .i64 ((a0.map e_QFileEvent).length : Int)), (23, .int .i64 v2)] _ _
    refine And.intro (fun hc => (bqf hc)) ?_
    refine LWp.sim (e := [(0, .isl 3 (a0.map e_QFileEvent) false), (21, .isl 3 (a0.map e_QFileEvent) false), (22, .int .i64 ((a0.map e_QFileEvent).length : Int)), (23, .int .i64 v2), (50, .bool (((decide ((a0.getD v2.toNat default).f_Time < 0)) || (decide ((a0.getD v2.toNat default).f_Time > 1000000000000))) || ((decide (v2 > 0)) && (decide ((a0.getD v2.toNat default).f_Time < (a0.getD ((W (v2 - 1)).toNat) default).f_Time)))))]) (L := []) (n := 0) ?_ ?_
    · exact simI (M := []) rfl (And.intro (Vw.same _ rfl) (And.intro (Vw.same _ rfl) (And.intro (Vw.same _ rfl) (And.intro (Vw.same _ rfl) (And.intro (Vw.same _ rfl) trivial))))) trivial
    refine condI (v := (((decide ((a0.getD v2.toNat default).f_Time < 0)) || (decide ((a0.getD v2.toNat default).f_Time > 1000000000000))) || ((decide (v2 > 0)) && (decide ((a0.getD v2.toNat default).f_Time < (a0.getD ((W (v2 - 1)).toNat) default).f_Time))))) rfl trivial (fun h16 => ?_) (fun h16 => ?_)
    · have h := ite_tt h16 h
      refine seqI ?_
      refine regI ?_
      refine retI ?_
      obtain ⟨o, hq, rfl⟩ := Option.map_eq_some_iff.1 h
      replace h := hq; clear hq
      refine And.intro nofun ?_
      cases h
      exact And.intro trivial (And.intro rfl (Vw.same _ rfl))
    · have h := ite_ff h16 h
      refine skipI ?_
      refine regI ?_
      cases h
      exact And.intro rfl (simI (M := []) rfl (And.intro (Vw.same _ rfl) (And.intro (Vw.same _ rfl) (And.intro (Vw.same _ rfl) (And.intro (Vw.same _ rfl) trivial)))) trivial)
  · have h := ite_ff h13 h
    refine exitI ?_
    obtain ⟨o, hq, rfl⟩ := Option.map_eq_some_iff.1 h
    replace h := hq; clear hq
    refine And.intro nofun ?_
    refine LWp.sim ?_ (f23_j1_ok h)
    exact simI (M := []) rfl trivial trivial

theorem f23_L1_ok {a1 : Int} {a0 : List G_QFileEvent} {v2 : Int} {m : Option Nat} {o : Int} (h : S_filewatch_validate_l1 m a0 v2 = some o) :
    LWp Try.prog f23_lay 0 (.loop f23_c1) (QBlock 1 (QSeq Try.prog f23_lay 0 f23_c0 (f23_Q a0 a1 o))) [(0, .isl 3 (a0.map e_QFileEvent) false), (21, .isl 3 (a0.map e_QFileEvent) false), (22, .int .i64 ((a0.map e_QFileEvent).length : Int)), (23, .int .i64 v2)] [] 0 :=
  LWp_loopM (m := m) (s := (v2 : Int)) (r := o) (fun (s : Int) => S_filewatch_validate_b1 m a0 s) (f23_L1_env a0) (f23_L1_hp a0) (f23_L1_Q a0 a1) (fun s o h => f23_L1_bok h) h

noncomputable def S_filewatch_validate (m : Option Nat) (a0 : List G_QFileEvent) (a1 : Int) : Option Int :=
  if ((decide (a1 < 0)) || (decide (a1 > 1000000))) = true then
    some 1
  else
    if (decide (((a0.map e_QFileEvent).length : Int) > 1000)) = true then
      some 2
    else
      (S_slices_ContainsFunc_api_QFileEvent (fun (s : Unit) (x : G_QFileEvent) => (S_filewatch_validate_1c m x).map fun o => (o, ())) m a0 ()).bind fun v1 =>
      if v1.1 = true then
        some 7
      else
        S_filewatch_validate_l1 m a0 0

theorem f23_start {a0 : List G_QFileEvent} {a1 : Int} {m : Option Nat} {o : Int} (h : S_filewatch_validate m a0 a1 = some o) : LWp Try.prog f23_lay 0 f23_c2 (f23_Q a0 a1 o) (initEnv 0 [.isl 3 (a0.map e_QFileEvent) false, .int .i64 a1]) [] 0 := by
  unfold S_filewatch_validate at h
  refine seqI ?_
  refine regI ?_
  refine seqI ?_
  refine blockI ?_
  refine seqI ?_
  refine regI ?_
  refine And.intro (fun hp => hp) ?_
  show yops _ _ _ [(12, .cnd ((decide (a1 < 0)) == false) (.bool (decide (a1 > 1000000)))), (11, .cnd ((decide (a1 < 0)) == false) (.int .i64 a1)), (10, .bool (decide (a1 < 0))), (9, .bool (decide (a1 < 0))), (8, .int .i64 a1), (4, .int .i64 0), (0, .isl 3 (a0.map e_QFileEvent) false), (1, .int .i64 a1)] _ _
  refine And.intro (fun hc => (bqf hc)) ?_
  refine LWp.sim (e := [(0, .isl 3 (a0.map e_QFileEvent) false), (7, .bool ((decide (a1 < 0)) || (decide (a1 > 1000000))))]) (L := []) (n := 0) ?_ ?_
  · exact simI (M := []) rfl (And.intro (Vw.same _ rfl) (And.intro (Vw.same _ rfl) trivial)) trivial
  refine condI (v := ((decide (a1 < 0)) || (decide (a1 > 1000000)))) rfl trivial (fun h1 => ?_) (fun h1 => ?_)
  · have h := ite_tt h1 h
    refine seqI ?_
    refine regI ?_
    refine retI ?_
    cases h
    exact And.intro trivial (And.intro rfl (Vw.same _ rfl))
  · have h := ite_ff h1 h
    refine seqI ?_
    refine regI ?_
    refine condI (v := (decide (((a0.map e_QFileEvent).length : Int) > 1000))) rfl trivial (fun h2 => ?_) (fun h2 => ?_)
    · have h := ite_tt h2 h
      refine seqI ?_
      refine regI ?_
      refine retI ?_
      cases h
      exact And.intro trivial (And.intro rfl (Vw.same _ rfl))
    · have h := ite_ff h2 h
      refine seqI ?_
      refine regI ?_
      obtain ⟨v1, h3, h⟩ := bind_some h
      refine bcall (k := 3) (m := 1) (L' := []) (rest := []) (R' := .bool v1.1) [] (f34b0_ok (show Clo Try.prog (.func 35) [] [] (fun (s : Unit) => []) (fun (x : G_QFileEvent) => [.agg [.int .i64 x.f_Time, .str x.f_Path, .int .i64 x.f_Kind]]) (fun (b : Bool) => .bool b) (fun (s : Unit) (x : G_QFileEvent) => (S_filewatch_validate_1c m x).map fun o => (o, ())) from Clo.mk' (fun s => Tl.lit rfl trivial rfl) rfl rfl (fun _ => rfl) (fun s x o h => by obtain ⟨o1, h1, rfl⟩ := Option.map_eq_some_iff.1 h; exact Exists.intro _ (And.intro (f35c0_ok h1) trivial))) h3) rfl rfl rfl (And.intro (Vw.same _ rfl) (And.intro (Vw.same _ rfl) trivial)) trivial (nid_ren _ rfl) trivial rfl ?_
      show yops _ _ _ [(20, .bool v1.1), (19, .isl 3 (a0.map e_QFileEvent) false), (14, .bool (decide (((a0.map e_QFileEvent).length : Int) > 1000))), (17, .bool (decide (((a0.map e_QFileEvent).length : Int) > 1000))), (16, .int .i64 ((a0.map e_QFileEvent).length : Int)), (15, .isl 3 (a0.map e_QFileEvent) false), (0, .isl 3 (a0.map e_QFileEvent) false), (7, .bool ((decide (a1 < 0)) || (decide (a1 > 1000000))))] _ _
      refine condI (v := v1.1) rfl trivial (fun h4 => ?_) (fun h4 => ?_)
      · have h := ite_tt h4 h
        refine seqI ?_
        refine regI ?_
        refine LWp.sim (e := [(4, .int .i64 7)]) (L := []) (n := 0) ?_ ?_
        · exact simI (M := []) rfl (And.intro (Vw.same _ rfl) trivial) trivial
        refine retI ?_
        cases h
        exact And.intro trivial (And.intro rfl (Vw.same _ rfl))
      · have h := ite_ff h4 h
        refine skipI ?_
        refine seqI ?_
        refine seqI ?_
        refine regI ?_
        refine LWp.sim (e := [(0, .isl 3 (a0.map e_QFileEvent) false), (21, .isl 3 (a0.map e_QFileEvent) false), (22, .int .i64 ((a0.map e_QFileEvent).length : Int)), (23, .int .i64 0)]) (L := []) (n := 0) ?_ ?_
        · exact simI (M := []) rfl (And.intro (Vw.same _ rfl) (And.intro (Vw.same _ rfl) (And.intro (Vw.same _ rfl) (And.intro (Vw.same _ rfl) trivial)))) trivial
        refine blockI ?_
        refine LWp.sim ?_ (f23_L1_ok h)
        exact simI (M := []) rfl (And.intro (Vw.same _ rfl) (And.intro (Vw.same _ rfl) (And.intro (Vw.same _ rfl) (And.intro (Vw.same _ rfl) trivial)))) trivial

theorem f23_ok {a0 : List G_QFileEvent} {a1 : Int} {m : Option Nat} {o : Int} (h : S_filewatch_validate m a0 a1 = some o) : PFn Try.prog 23 [.isl 3 (a0.map e_QFileEvent) false, .int .i64 a1] (.int .i64 o) := PFn.ofFnW (L := f23_L) f23_low f23_fok (Nat.le_of_ble_eq_true rfl) rfl (f23_start h)

def f10_c0 : LCode := (.seq (.region [⟨some 4, .mv (.c (.int .i64 0)), none⟩])
 (.seq (.block 0
  (.seq (.region [⟨some 6, .mv (.t 0), none⟩,
    ⟨some 7, .call 26 [(.t 6)], none⟩,
    ⟨some 8, .un .not (.t 7), none⟩,
    ⟨some 9, .mv (.t 8), none⟩,
    ⟨some 10, .mv (.t 1), some (9, true)⟩,
    ⟨some 11, .call 26 [(.t 10)], some (9, true)⟩,
    ⟨some 12, .un .not (.t 11), some (9, true)⟩,
    ⟨some 13, .pick (.t 9) (.t 12) (.c (.bool false)), none⟩,
    ⟨some 5, .mv (.t 13), none⟩])
  (.cond (.t 5)
   (.seq (.region [⟨some 4, .mv (.c (.int .i64 0)), none⟩])
   .ret)
   (.seq (.region [⟨some 15, .mv (.t 1), none⟩,
     ⟨some 16, .call 26 [(.t 15)], none⟩,
     ⟨some 17, .un .not (.t 16), none⟩,
     ⟨some 14, .mv (.t 17), none⟩])
   (.cond (.t 14)
    (.seq (.region [⟨some 18, .mv (.t 0), none⟩,
      ⟨some 4, .mv (.t 18), none⟩])
    .ret)
    (.seq (.region [⟨some 20, .mv (.t 0), none⟩,
      ⟨some 21, .call 26 [(.t 20)], none⟩,
      ⟨some 22, .un .not (.t 21), none⟩,
      ⟨some 19, .mv (.t 22), none⟩])
    (.cond (.t 19)
     (.seq (.region [⟨some 23, .mv (.t 1), none⟩,
       ⟨some 4, .mv (.t 23), none⟩])
     .ret)
     (.seq (.region [⟨some 25, .mv (.t 0), none⟩,
       ⟨some 26, .bin .eql (.t 25) (.c (.int .i64 1)), none⟩,
       ⟨some 27, .mv (.t 26), none⟩,
       ⟨some 28, .mv (.t 1), some (27, true)⟩,
       ⟨some 29, .bin .eql (.t 28) (.c (.int .i64 3)), some (27, true)⟩,
       ⟨some 30, .pick (.t 27) (.t 29) (.c (.bool false)), none⟩,
       ⟨some 24, .mv (.t 30), none⟩])
     (.cond (.t 24)
      (.seq (.region [⟨some 4, .mv (.c (.int .i64 0)), none⟩])
      .ret)
      (.seq (.region [⟨some 32, .mv (.t 0), none⟩,
        ⟨some 33, .bin .eql (.t 32) (.c (.int .i64 1)), none⟩,
        ⟨some 31, .mv (.t 33), none⟩])
      (.cond (.t 31)
       (.seq (.region [⟨some 4, .mv (.c (.int .i64 1)), none⟩])
       .ret)
       (.seq (.region [⟨some 35, .mv (.t 1), none⟩,
         ⟨some 36, .bin .eql (.t 35) (.c (.int .i64 3)), none⟩,
         ⟨some 34, .mv (.t 36), none⟩])
       (.cond (.t 34)
        (.seq (.region [⟨some 4, .mv (.c (.int .i64 3)), none⟩])
        .ret)
        .skip)))))))))))))
 (.seq (.region [⟨some 4, .mv (.c (.int .i64 2)), none⟩])
 .ret)))
def f10_lay : Lay := ⟨37, [], false⟩
def f10_res : List LRes := [.t 4]
def f10_L : LFn := ⟨2, f10_lay, f10_c0, f10_res⟩
theorem f10_low : lowFn Try.prog [] 10 = some f10_L := by kernel_rfl
theorem f10_fok : FnOk Try.prog 10 := ⟨_, Try.func10, rfl, rfl⟩
noncomputable def S_filewatch_Merge (m : Option Nat) (a0 : Int) (a1 : Int) : Option Int :=
  (S_filewatch_validKind m a0).bind fun v1 =>
  (if ((!v1) == true) = true then S_filewatch_validKind m a1 else some default).bind fun v2 =>
  if ((!v1) && (!v2)) = true then
    some 0
  else
    (S_filewatch_validKind m a1).bind fun v3 =>
    if (!v3) = true then
      some a0
    else
      (S_filewatch_validKind m a0).bind fun v4 =>
      if (!v4) = true then
        some a1
      else
        if ((a0 == 1) && (a1 == 3)) = true then
          some 0
        else
          if (a0 == 1) = true then
            some 1
          else
            if (a1 == 3) = true then
              some 3
            else
              some 2

def f10_Q (a0 : Int) (a1 : Int) (o : Int) : Exit → Env → AHeap → Nat → Prop := FinK f10_res (PureEnd (.int .i64 o))

theorem f10_start {a0 : Int} {a1 : Int} {m : Option Nat} {o : Int} (h : S_filewatch_Merge m a0 a1 = some o) : LWp Try.prog f10_lay 0 f10_c0 (f10_Q a0 a1 o) (initEnv 0 [.int .i64 a0, .int .i64 a1]) [] 0 := by
  unfold S_filewatch_Merge at h
  refine seqI ?_
  refine regI ?_
  refine seqI ?_
  refine blockI ?_
  refine seqI ?_
  refine regI ?_
  obtain ⟨v1, h1, h⟩ := bind_some h
  refine PFn.call (f26_ok h1) (And.intro (Vw.same _ rfl) trivial) ?_
  obtain ⟨v2, h2, h⟩ := bind_some h
  refine Or.inl (Exists.intro (.bool v2) (And.intro (fun hp => And.intro hp (PFn.call (f26_ok (ite_tt hp h2)) (And.intro (Vw.same _ rfl) trivial) (And.intro rfl (And.intro rfl rfl)))) ?_))
  refine And.intro (fun hp => hp) ?_
  show yops _ _ _ [(12, .cnd ((!v1) == true) (.bool (!v2))), (11, .cnd ((!v1) == true) (.bool v2)), (10, .cnd ((!v1) == true) (.int .i64 a1)), (9, .bool (!v1)), (8, .bool (!v1)), (7, .bool v1), (6, .int .i64 a0), (4, .int .i64 0), (0, .int .i64 a0), (1, .int .i64 a1)] _ _
  refine And.intro (fun hc => (bqt hc)) ?_
  refine LWp.sim (e := [(0, .int .i64 a0), (1, .int .i64 a1), (5, .bool ((!v1) && (!v2)))]) (L := []) (n := 0) ?_ ?_
  · exact simI (M := []) rfl (And.intro (Vw.same _ rfl) (And.intro (Vw.same _ rfl) (And.intro (Vw.same _ rfl) trivial))) trivial
  refine condI (v := ((!v1) && (!v2))) rfl trivial (fun h3 => ?_) (fun h3 => ?_)
  · have h := ite_tt h3 h
    refine seqI ?_
    refine regI ?_
    refine retI ?_
    cases h
    exact And.intro trivial (And.intro rfl (Vw.same _ rfl))
  · have h := ite_ff h3 h
    refine seqI ?_
    refine regI ?_
    obtain ⟨v3, h4, h⟩ := bind_some h
    refine PFn.call (f26_ok h4) (And.intro (Vw.same _ rfl) trivial) ?_
    refine condI (v := (!v3)) rfl trivial (fun h5 => ?_) (fun h5 => ?_)
    · have h := ite_tt h5 h
      refine seqI ?_
      refine regI ?_
      refine retI ?_
      cases h
      exact And.intro trivial (And.intro rfl (Vw.same _ rfl))
    · have h := ite_ff h5 h
      refine seqI ?_
      refine regI ?_
      obtain ⟨v4, h6, h⟩ := bind_some h
      refine PFn.call (f26_ok h6) (And.intro (Vw.same _ rfl) trivial) ?_
      show yops _ _ _ [(21, .bool v4), (20, .int .i64 a0), (14, .bool (!v3)), (17, .bool (!v3)), (16, .bool v3), (15, .int .i64 a1), (0, .int .i64 a0), (1, .int .i64 a1), (5, .bool ((!v1) && (!v2)))] _ _
      refine LWp.sim (e := [(0, .int .i64 a0), (1, .int .i64 a1), (19, .bool (!v4))]) (L := []) (n := 0) ?_ ?_
      · exact simI (M := []) rfl (And.intro (Vw.same _ rfl) (And.intro (Vw.same _ rfl) (And.intro (Vw.same _ rfl) trivial))) trivial
      refine condI (v := (!v4)) rfl trivial (fun h7 => ?_) (fun h7 => ?_)
      · have h := ite_tt h7 h
        refine seqI ?_
        refine regI ?_
        refine retI ?_
        cases h
        exact And.intro trivial (And.intro rfl (Vw.same _ rfl))
      · have h := ite_ff h7 h
        refine seqI ?_
        refine regI ?_
        refine And.intro (fun hp => hp) ?_
        show yops _ _ _ [(29, .cnd ((a0 == 1) == true) (.bool (a1 == 3))), (28, .cnd ((a0 == 1) == true) (.int .i64 a1)), (27, .bool (a0 == 1)), (26, .bool (a0 == 1)), (25, .int .i64 a0), (0, .int .i64 a0), (1, .int .i64 a1), (19, .bool (!v4))] _ _
        refine And.intro (fun hc => (bqt hc)) ?_
        refine condI (v := ((a0 == 1) && (a1 == 3))) rfl trivial (fun h8 => ?_) (fun h8 => ?_)
        · have h := ite_tt h8 h
          refine seqI ?_
          refine regI ?_
          refine LWp.sim (e := [(4, .int .i64 0)]) (L := []) (n := 0) ?_ ?_
          · exact simI (M := []) rfl (And.intro (Vw.same _ rfl) trivial) trivial
          refine retI ?_
          cases h
          exact And.intro trivial (And.intro rfl (Vw.same _ rfl))
        · have h := ite_ff h8 h
          refine seqI ?_
          refine regI ?_
          refine LWp.sim (e := [(1, .int .i64 a1), (31, .bool (a0 == 1))]) (L := []) (n := 0) ?_ ?_
          · exact simI (M := []) rfl (And.intro (Vw.same _ rfl) (And.intro (Vw.same _ rfl) trivial)) trivial
          refine condI (v := (a0 == 1)) rfl trivial (fun h9 => ?_) (fun h9 => ?_)
          · have h := ite_tt h9 h
            refine seqI ?_
            refine regI ?_
            refine retI ?_
            cases h
            exact And.intro trivial (And.intro rfl (Vw.same _ rfl))
          · have h := ite_ff h9 h
            refine seqI ?_
            refine regI ?_
            refine condI (v := (a1 == 3)) rfl trivial (fun h10 => ?_) (fun h10 => ?_)
            · have h := ite_tt h10 h
              refine seqI ?_
              refine regI ?_
              refine retI ?_
              cases h
              exact And.intro trivial (And.intro rfl (Vw.same _ rfl))
            · have h := ite_ff h10 h
              refine skipI ?_
              refine seqI ?_
              refine regI ?_
              refine retI ?_
              cases h
              exact And.intro trivial (And.intro rfl (Vw.same _ rfl))

theorem f10_ok {a0 : Int} {a1 : Int} {m : Option Nat} {o : Int} (h : S_filewatch_Merge m a0 a1 = some o) : PFn Try.prog 10 [.int .i64 a0, .int .i64 a1] (.int .i64 o) := PFn.ofFnW (L := f10_L) f10_low f10_fok (Nat.le_of_ble_eq_true rfl) rfl (f10_start h)

def S_maps_Keys_api_QFileEvent (m : Option Nat) (a0 : List ((List UInt8) × G_QFileEvent)) : Option Unit := some ()
theorem f36b0_fok : FnOk Try.prog 36 := ⟨_, Try.func36, rfl, rfl⟩
theorem f36b0_ok {m : Option Nat} {a0 : List ((List UInt8) × G_QFileEvent)} {o : Unit} (h : S_maps_Keys_api_QFileEvent m a0 = some o) : ACalls Try.prog 36 [.map (0, 0)] [((0, 0), .amap (a0.map (em a_str a_QFileEvent)))] 3 (Gives 4 (.fn (.func 42) [] [.ptr (3, 0) 0 0]) [((3, 0), .mbox (0, 0)), ((0, 0), .amap (a0.map (em a_str a_QFileEvent)))]) := mapKeys_acalls Try.l36 rfl rfl f36b0_fok

theorem f28b0_sorts (m : Nat) : Go.Proofs.AnyZ.SortsIn Try.prog Try.l28_ren Go.Fence.wide m :=
  ⟨fun blk off cap ss W hH hblk hsz => Go.callsIn_wide.2 (Go.Proofs.AnyM.slices_Sort_string Try.l38 blk off cap ss W hH hblk hsz), fun p cap W => Go.callsIn_wide.2 (Go.Proofs.AnyM.slices_Sort_string_none Try.l38 p cap W)⟩
noncomputable def S_slices_Sorted_string (m : Option Nat) (a0 : List ((List UInt8) × G_QFileEvent)) : Option (List (List UInt8)) := by classical exact if (a0.map (·.1)).Nodup ∧ (∀ k ∈ a0.map (·.1), k.length ≤ maxLen) ∧ a0.length * 16 ≤ 140737488355328 then some (sortK a0) else none
theorem f28b0_fok : FnOk Try.prog 28 := ⟨_, Try.func28, rfl, rfl⟩
theorem f28b0_ok {m : Option Nat} {a0 : List ((List UInt8) × G_QFileEvent)} {o : List (List UInt8)} (h : S_slices_Sorted_string m a0 = some o) : ACalls Try.prog 28 [.fn (.func 42) [] [.ptr (0, 0) 0 0]] [((0, 0), .mbox (0, 1)), ((0, 1), .amap (a0.map (em a_str a_QFileEvent)))] 3 (Gives 3 (.isl 1 (o.map e_str) false) [((0, 0), .mbox (0, 1)), ((0, 1), .amap (a0.map (em a_str a_QFileEvent)))]) := by
  unfold S_slices_Sorted_string at h
  split at h
  · rename_i hc
    cases h
    exact sortedKeys_acalls (ρk := Try.l36_ren) (M := a0) (ev := a_QFileEvent) rfl Try.l28 { Try.l36 with } f28b0_sorts (Go.Proofs.enters_of Try.func38 (by kernel_rfl) rfl) (Go.Proofs.enters_of Try.func42 (by kernel_rfl) rfl) rfl rfl (K := 9) rfl rfl f28b0_fok (a := (0, 0)) (b := (0, 1)) rfl rfl hc.1 hc.2.1 hc.2.2
  · cases h

def f24_c1 : LCode := (.seq (.region [⟨some 15, .bin .lss (.t 14) (.t 13), none⟩])
 (.seq (.cond (.t 15)
  .skip
  (.exit 0))
 (.seq (.block 1
  (.seq (.region [⟨some 16, .iaddr 3 (.t 12) (.t 14), none⟩,
    ⟨some 17, .load true 3 (.t 16), none⟩,
    ⟨some 7, .alloc [(.int .i64 0), (.str []), (.int .i64 0)], none⟩,
    ⟨none, .store 3 (.t 7) (.t 17), none⟩])
  (.seq (.region [⟨some 18, .mv (.t 5), none⟩,
    ⟨some 19, .faddr 1 (.t 7), none⟩,
    ⟨some 20, .load false 1 (.t 19), none⟩,
    ⟨some 21, .mlook [.str] false true false [(.int .i64 0), (.str []), (.int .i64 0)] (.t 18) (.t 20), none⟩,
    ⟨some 22, .field false 1 2 (.t 21), none⟩,
    ⟨some 23, .faddr 2 (.t 7), none⟩,
    ⟨some 24, .load false 1 (.t 23), none⟩,
    ⟨some 25, .call 10 [(.t 22), (.t 24)], none⟩,
    ⟨some 26, .faddr 2 (.t 7), none⟩,
    ⟨none, .store 1 (.t 26) (.t 25), none⟩])
  (.region [⟨some 27, .mv (.t 5), none⟩,
    ⟨some 28, .faddr 1 (.t 7), none⟩,
    ⟨some 29, .load false 1 (.t 28), none⟩,
    ⟨some 30, .load true 3 (.t 7), none⟩,
    ⟨none, .mset [.str] false true [(.int .i64 0), (.str []), (.int .i64 0)] (.t 27) (.t 29) (.t 30), none⟩]))))
 (.region [⟨some 31, .bin .add (.t 14) (.c (.int .i64 1)), none⟩,
   ⟨some 14, .mv (.t 31), none⟩]))))
def f24_c3 : LCode := (.region [⟨some 63, .bin .add (.t 46) (.c (.int .i64 1)), none⟩,
   ⟨some 46, .mv (.t 63), none⟩])
def f24_c4 : LCode := (.seq (.region [⟨some 47, .bin .lss (.t 46) (.t 45), none⟩])
 (.seq (.cond (.t 47)
  .skip
  (.exit 2))
 (.seq (.block 3
  (.seq (.region [⟨some 48, .iaddr 1 (.t 44) (.t 46), none⟩,
    ⟨some 49, .load false 1 (.t 48), none⟩,
    ⟨some 10, .mv (.t 49), none⟩])
  (.seq (.region [⟨some 50, .mv (.t 5), none⟩,
    ⟨some 51, .mv (.t 10), none⟩,
    ⟨some 52, .mlook [.str] false true false [(.int .i64 0), (.str []), (.int .i64 0)] (.t 50) (.t 51), none⟩,
    ⟨some 53, .field false 1 2 (.t 52), none⟩,
    ⟨some 54, .bin .neq (.t 53) (.c (.int .i64 0)), none⟩])
  (.cond (.t 54)
   (.region [⟨some 55, .faddr 1 (.t 8), none⟩,
     ⟨some 56, .load false 1 (.t 55), none⟩,
     ⟨some 57, .mv (.t 5), none⟩,
     ⟨some 58, .mv (.t 10), none⟩,
     ⟨some 59, .mlook [.str] false true false [(.int .i64 0), (.str []), (.int .i64 0)] (.t 57) (.t 58), none⟩,
     ⟨some 60, .mkSl true 3 [(.int .i64 0), (.str []), (.int .i64 0)] 1 [(0, (.t 59))], none⟩,
     ⟨some 61, .app true 3 32 (.t 56) (.t 60), none⟩,
     ⟨some 62, .faddr 1 (.t 8), none⟩,
     ⟨none, .store 1 (.t 62) (.t 61), none⟩])
   .skip))))
 f24_c3)))
def f24_c2 : LCode := (.seq (.region [⟨some 64, .load true 2 (.t 8), none⟩,
   ⟨none, .store 2 (.t 4) (.t 64), none⟩])
 .ret)
def f24_c0 : LCode := (.seq (.region [⟨some 32, .mv (.t 0), none⟩,
   ⟨some 33, .mv (.t 0), none⟩,
   ⟨some 34, .len false (.t 33), none⟩,
   ⟨some 35, .bin .sub (.t 34) (.c (.int .i64 1)), none⟩,
   ⟨some 36, .iaddr 3 (.t 32) (.t 35), none⟩,
   ⟨some 37, .faddr 0 (.t 36), none⟩,
   ⟨some 38, .load false 1 (.t 37), none⟩,
   ⟨some 39, .mv (.t 1), none⟩,
   ⟨some 40, .bin .add (.t 38) (.t 39), none⟩,
   ⟨some 41, .build [(.int .i64 0), (.isl 3 [] true)] [(0, 1, (.t 40))], none⟩,
   ⟨some 8, .alloc [(.int .i64 0), (.isl 3 [] true)], none⟩,
   ⟨none, .store 2 (.t 8) (.t 41), none⟩])
 (.seq (.seq (.region [⟨some 42, .mv (.t 5), none⟩,
   ⟨some 43, .call 36 [(.t 42)], none⟩,
   ⟨some 44, .call 28 [(.t 43)], none⟩,
   ⟨some 45, .len false (.t 44), none⟩,
   ⟨some 46, .mv (.c (.int .i64 0)), none⟩])
 (.block 2
  (.loop
   f24_c4)))
 f24_c2))
def f24_c5 : LCode := (.seq (.region [⟨some 4, .alloc [(.int .i64 0), (.isl 3 [] true)], none⟩])
 (.seq (.region [⟨some 11, .mkmap none, none⟩,
   ⟨some 5, .mv (.t 11), none⟩])
 (.seq (.seq (.region [⟨some 12, .mv (.t 0), none⟩,
   ⟨some 13, .len false (.t 12), none⟩,
   ⟨some 14, .mv (.c (.int .i64 0)), none⟩])
 (.block 0
  (.loop
   f24_c1)))
 f24_c0)))
def f24_lay : Lay := ⟨65, [], false⟩
def f24_res : List LRes := [.cell 4 true 2]
def f24_L : LFn := ⟨2, f24_lay, f24_c5, f24_res⟩
theorem f24_low : lowFn Try.prog [] 24 = some f24_L := by kernel_rfl
theorem f24_fok : FnOk Try.prog 24 := ⟨_, Try.func24, rfl, rfl⟩
def f24_Q (a0 : List G_QFileEvent) (a1 : Int) (o : G_QFileBatch) : Exit → Env → AHeap → Nat → Prop := FinK f24_res (PureEnd (.agg [.int .i64 o.f_Time, .isl 3 (o.f_Events.map e_QFileEvent) false]))

def f24_L1_env (a0 : List G_QFileEvent) (a1 : Int) (s : (Int × (List ((List UInt8) × G_QFileEvent)))) : Env := [(0, .isl 3 (a0.map e_QFileEvent) false), (1, .int .i64 a1), (4, .ptr (0, 0) 0 0), (5, .map (1, 0)), (12, .isl 3 (a0.map e_QFileEvent) false), (13, .int .i64 ((a0.map e_QFileEvent).length : Int)), (14, .int .i64 s.1)]
def f24_L1_hp (a0 : List G_QFileEvent) (a1 : Int) (s : (Int × (List ((List UInt8) × G_QFileEvent)))) : AHeap := [((0, 0), .one [.int .i64 0, .osl (2, 0) 3 (([] : List G_QFileEvent).map e_QFileEvent)]), ((1, 0), .amap (s.2.map (em a_str a_QFileEvent))), ((2, 0), .tok)]
def f24_L1_Q (a0 : List G_QFileEvent) (a1 : Int) (o : G_QFileBatch) : Exit → Env → AHeap → Nat → Prop := (QBlock 0 (QSeq Try.prog f24_lay 0 f24_c0 (f24_Q a0 a1 o)))

noncomputable def S_filewatch_newBatch_j4 (m : Option Nat) (a0 : List G_QFileEvent) (a1 : Int) (v3 : List ((List UInt8) × G_QFileEvent)) (v7 : List (List UInt8)) (v9 : Int) (v12 : List G_QFileEvent) : Option ((Int × (List G_QFileEvent)) ⊕ G_QFileBatch) :=
  some (.inl ((W (v9 + 1)), v12))

noncomputable def S_filewatch_newBatch_j5 (m : Option Nat) (a0 : List G_QFileEvent) (a1 : Int) (v10 : List G_QFileEvent) : Option G_QFileBatch :=
  some (G_QFileBatch.mk (W ((a0.getD ((W (((a0.map e_QFileEvent).length : Int) - 1)).toNat) default).f_Time + a1)) v10)

noncomputable def S_filewatch_newBatch_b2 (m : Option Nat) (a0 : List G_QFileEvent) (a1 : Int) (v3 : List ((List UInt8) × G_QFileEvent)) (v7 : List (List UInt8)) (v9 : Int) (v10 : List G_QFileEvent) : Option ((Int × (List G_QFileEvent)) ⊕ G_QFileBatch) :=
  if (decide (v9 < ((v7.map e_str).length : Int))) = true then
    if (0 : Int) ≤ v9 ∧ v9 < ((v7.map e_str).length : Int) then
    if (((lk q_str v3 (v7.getD v9.toNat default)).getD (G_QFileEvent.mk 0 [] 0)).f_Kind != 0) = true then
      if ((v10 ++ ([(G_QFileEvent.mk (((lk q_str v3 (v7.getD v9.toNat default)).getD (G_QFileEvent.mk 0 [] 0)).f_Time) (((lk q_str v3 (v7.getD v9.toNat default)).getD (G_QFileEvent.mk 0 [] 0)).f_Path) (((lk q_str v3 (v7.getD v9.toNat default)).getD (G_QFileEvent.mk 0 [] 0)).f_Kind))] : List G_QFileEvent)).map e_QFileEvent).length * 32 ≤ 140737488355328 then
      S_filewatch_newBatch_j4 m a0 a1 v3 v7 v9 (v10 ++ ([(G_QFileEvent.mk (((lk q_str v3 (v7.getD v9.toNat default)).getD (G_QFileEvent.mk 0 [] 0)).f_Time) (((lk q_str v3 (v7.getD v9.toNat default)).getD (G_QFileEvent.mk 0 [] 0)).f_Path) (((lk q_str v3 (v7.getD v9.toNat default)).getD (G_QFileEvent.mk 0 [] 0)).f_Kind))] : List G_QFileEvent))
      else none
    else
      S_filewatch_newBatch_j4 m a0 a1 v3 v7 v9 v10
    else none
  else
    Option.map Sum.inr (
      S_filewatch_newBatch_j5 m a0 a1 v10)

noncomputable def S_filewatch_newBatch_l2 (m : Option Nat) (a0 : List G_QFileEvent) (a1 : Int) (v3 : List ((List UInt8) × G_QFileEvent)) (v7 : List (List UInt8)) (v9 : Int) (v10 : List G_QFileEvent) : Option G_QFileBatch := loopM m (fun (s : (Int × (List G_QFileEvent))) => S_filewatch_newBatch_b2 m a0 a1 v3 v7 s.1 s.2) (v9, v10)

noncomputable def S_filewatch_newBatch_j1 (m : Option Nat) (a0 : List G_QFileEvent) (a1 : Int) (v3 : List ((List UInt8) × G_QFileEvent)) : Option G_QFileBatch :=
  if (0 : Int) ≤ (W (((a0.map e_QFileEvent).length : Int) - 1)) ∧ (W (((a0.map e_QFileEvent).length : Int) - 1)) < ((a0.map e_QFileEvent).length : Int) then
  (S_maps_Keys_api_QFileEvent m v3).bind fun v6 =>
  (S_slices_Sorted_string m v3).bind fun v7 =>
  S_filewatch_newBatch_l2 m a0 a1 v3 v7 0 ([] : List G_QFileEvent)
  else none

noncomputable def S_filewatch_newBatch_b1 (m : Option Nat) (a0 : List G_QFileEvent) (a1 : Int) (v2 : Int) (v3 : List ((List UInt8) × G_QFileEvent)) : Option ((Int × (List ((List UInt8) × G_QFileEvent))) ⊕ G_QFileBatch) :=
  if (decide (v2 < ((a0.map e_QFileEvent).length : Int))) = true then
    if (0 : Int) ≤ v2 ∧ v2 < ((a0.map e_QFileEvent).length : Int) then
    (S_filewatch_Merge m (((lk q_str v3 ((a0.getD v2.toNat default).f_Path)).getD (G_QFileEvent.mk 0 [] 0)).f_Kind) ((a0.getD v2.toNat default).f_Kind)).bind fun v5 =>
    some (.inl ((W (v2 + 1)), (mp q_str v3 ((a0.getD v2.toNat default).f_Path) (G_QFileEvent.mk ((a0.getD v2.toNat default).f_Time) ((a0.getD v2.toNat default).f_Path) v5))))
    else none
  else
    Option.map Sum.inr (
      S_filewatch_newBatch_j1 m a0 a1 v3)

noncomputable def S_filewatch_newBatch_l1 (m : Option Nat) (a0 : List G_QFileEvent) (a1 : Int) (v2 : Int) (v3 : List ((List UInt8) × G_QFileEvent)) : Option G_QFileBatch := loopM m (fun (s : (Int × (List ((List UInt8) × G_QFileEvent)))) => S_filewatch_newBatch_b1 m a0 a1 s.1 s.2) (v2, v3)

def f24_L2_env (a0 : List G_QFileEvent) (a1 : Int) (v3 : List ((List UInt8) × G_QFileEvent)) (v7 : List (List UInt8)) (s : (Int × (List G_QFileEvent))) : Env := [(4, .ptr (0, 0) 0 0), (5, .map (1, 0)), (8, .ptr (2, 0) 0 0), (44, .isl 1 (v7.map e_str) false), (45, .int .i64 ((v7.map e_str).length : Int)), (46, .int .i64 s.1)]
def f24_L2_hp (a0 : List G_QFileEvent) (a1 : Int) (v3 : List ((List UInt8) × G_QFileEvent)) (v7 : List (List UInt8)) (s : (Int × (List G_QFileEvent))) : AHeap := [((0, 0), .one [.int .i64 0, .osl (3, 0) 3 (([] : List G_QFileEvent).map e_QFileEvent)]), ((1, 0), .amap (v3.map (em a_str a_QFileEvent))), ((2, 0), .one [.int .i64 (W ((a0.getD ((W (((a0.map e_QFileEvent).length : Int) - 1)).toNat) default).f_Time + a1)), .osl (4, 0) 3 (s.2.map e_QFileEvent)]), ((3, 0), .tok), ((4, 0), .tok)]
def f24_L2_Q (a0 : List G_QFileEvent) (a1 : Int) (o : G_QFileBatch) : Exit → Env → AHeap → Nat → Prop := (QBlock 2 (QSeq Try.prog f24_lay 0 f24_c2 (f24_Q a0 a1 o)))

theorem f24_j4_ok {a0 : List G_QFileEvent} {a1 : Int} {v3 : List ((List UInt8) × G_QFileEvent)} {v7 : List (List UInt8)} {v9 : Int} {v12 : List G_QFileEvent} {m : Option Nat} {o : ((Int × (List G_QFileEvent)) ⊕ G_QFileBatch)} (h : S_filewatch_newBatch_j4 m a0 a1 v3 v7 v9 v12 = some o) :
    LWp Try.prog f24_lay 0 f24_c3 (BodyQ 0 5 (f24_L2_env a0 a1 v3 v7) (f24_L2_hp a0 a1 v3 v7) (f24_L2_Q a0 a1) o) [(4, .ptr (0, 0) 0 0), (5, .map (1, 0)), (8, .ptr (2, 0) 0 0), (44, .isl 1 (v7.map e_str) false), (45, .int .i64 ((v7.map e_str).length : Int)), (46, .int .i64 v9)] [((0, 0), .one [.int .i64 0, .osl (3, 0) 3 (([] : List G_QFileEvent).map e_QFileEvent)]), ((1, 0), .amap (v3.map (em a_str a_QFileEvent))), ((2, 0), .one [.int .i64 (W ((a0.getD ((W (((a0.map e_QFileEvent).length : Int) - 1)).toNat) default).f_Time + a1)), .osl (4, 0) 3 (v12.map e_QFileEvent)]), ((3, 0), .tok), ((4, 0), .tok)] 5 := by
  unfold S_filewatch_newBatch_j4 at h
  refine regI ?_
  cases h
  exact And.intro rfl (simI (M := [((0, 0), (0, 0)), ((1, 0), (1, 0)), ((2, 0), (2, 0)), ((3, 0), (3, 0)), ((4, 0), (4, 0))]) rfl (And.intro (Vw.ptr _ _ _ _ rfl) (And.intro (Vw.map _ _ rfl) (And.intro (Vw.ptr _ _ _ _ rfl) (And.intro (Vw.same _ rfl) (And.intro (Vw.same _ rfl) (And.intro (Vw.same _ rfl) trivial)))))) (And.intro (And.intro rfl (BVw.oneL (And.intro (Vw.same _ rfl) (And.intro (Vw.osl _ _ _ _ rfl) trivial)))) (And.intro (And.intro rfl (BVw.ofMap a_str a_QFileEvent a_QFileEvent_nid v3)) (And.intro (And.intro rfl (BVw.oneL (And.intro (Vw.same _ rfl) (And.intro (Vw.osl _ _ _ _ rfl) trivial)))) (And.intro (And.intro rfl BVw.tok) (And.intro (And.intro rfl BVw.tok) trivial))))))

theorem f24_j5_ok {a0 : List G_QFileEvent} {a1 : Int} {v10 : List G_QFileEvent} {m : Option Nat} {o : G_QFileBatch} (h : S_filewatch_newBatch_j5 m a0 a1 v10 = some o) :
    LWp Try.prog f24_lay 0 f24_c2 (f24_Q a0 a1 o) [(4, .ptr (0, 0) 0 0), (8, .ptr (1, 0) 0 0)] [((0, 0), .one [.int .i64 0, .osl (2, 0) 3 (([] : List G_QFileEvent).map e_QFileEvent)]), ((1, 0), .one [.int .i64 (W ((a0.getD ((W (((a0.map e_QFileEvent).length : Int) - 1)).toNat) default).f_Time + a1)), .osl (3, 0) 3 (v10.map e_QFileEvent)]), ((2, 0), .tok), ((3, 0), .tok)] 4 := by
  unfold S_filewatch_newBatch_j5 at h
  refine seqI ?_
  refine regI ?_
  refine retI ?_
  cases h
  exact And.intro (And.intro trivial (And.intro rfl (Nat.le_of_ble_eq_true rfl))) (And.intro rfl (Vw.aggL (And.intro (Vw.same _ rfl) (And.intro (Vw.oslI _ _ _) trivial))))

theorem f24_L2_bok {a0 : List G_QFileEvent} {a1 : Int} {v3 : List ((List UInt8) × G_QFileEvent)} {v7 : List (List UInt8)} {v9 : Int} {v10 : List G_QFileEvent} {m : Option Nat} {o : (Int × (List G_QFileEvent)) ⊕ G_QFileBatch} (h : S_filewatch_newBatch_b2 m a0 a1 v3 v7 v9 v10 = some o) :
    LWp Try.prog f24_lay 0 f24_c4 (BodyQ 0 5 (f24_L2_env a0 a1 v3 v7) (f24_L2_hp a0 a1 v3 v7) (f24_L2_Q a0 a1) o) [(4, .ptr (0, 0) 0 0), (5, .map (1, 0)), (8, .ptr (2, 0) 0 0), (44, .isl 1 (v7.map e_str) false), (45, .int .i64 ((v7.map e_str).length : Int)), (46, .int .i64 v9)] [((0, 0), .one [.int .i64 0, .osl (3, 0) 3 (([] : List G_QFileEvent).map e_QFileEvent)]), ((1, 0), .amap (v3.map (em a_str a_QFileEvent))), ((2, 0), .one [.int .i64 (W ((a0.getD ((W (((a0.map e_QFileEvent).length : Int) - 1)).toNat) default).f_Time + a1)), .osl (4, 0) 3 (v10.map e_QFileEvent)]), ((3, 0), .tok), ((4, 0), .tok)] 5 := by
  unfold S_filewatch_newBatch_b2 at h
  refine seqI ?_
  refine regI ?_
  refine seqI ?_
  refine condI (v := (decide (v9 < ((v7.map e_str).length : Int)))) rfl trivial (fun h21 => ?_) (fun h21 => ?_)
  · have h := ite_tt h21 h
    refine skipI ?_
    refine seqI ?_
    refine blockI ?_
    refine seqI ?_
    refine regI ?_
    obtain ⟨h22, h⟩ := ite_some h
    refine And.intro h22 ?_
    refine Exists.intro (e_str (v7.getD v9.toNat default)) (And.intro (getD_enc e_str _ _ (idx_ltL e_str h22)) (And.intro (And.intro (idx_lt h22) (Nat.le_of_ble_eq_true rfl)) ?_))
    refine seqI ?_
    refine regI ?_
    refine Exists.intro (.agg [.int .i64 (((lk q_str v3 (v7.getD v9.toNat default)).getD (G_QFileEvent.mk 0 [] 0)).f_Time), .str (((lk q_str v3 (v7.getD v9.toNat default)).getD (G_QFileEvent.mk 0 [] 0)).f_Path), .int .i64 (((lk q_str v3 (v7.getD v9.toNat default)).getD (G_QFileEvent.mk 0 [] 0)).f_Kind)]) (And.intro (mlook1 (ek := a_str) (ev := a_QFileEvent) (z := (G_QFileEvent.mk 0 [] 0)) q_str_ok rfl (v7.getD v9.toNat default) v3) (And.intro (mfind_some (ek := a_str) (ev := a_QFileEvent) q_str_ok _ _) ?_))
    refine LWp.sim (e := [(4, .ptr (0, 0) 0 0), (5, .map (1, 0)), (8, .ptr (2, 0) 0 0), (10, .str (v7.getD v9.toNat default)), (44, .isl 1 (v7.map e_str) false), (45, .int .i64 ((v7.map e_str).length : Int)), (46, .int .i64 v9), (54, .bool (((lk q_str v3 (v7.getD v9.toNat default)).getD (G_QFileEvent.mk 0 [] 0)).f_Kind != 0))]) (L := [((0, 0), .one [.int .i64 0, .osl (3, 0) 3 (([] : List G_QFileEvent).map e_QFileEvent)]), ((1, 0), .amap (v3.map (em a_str a_QFileEvent))), ((2, 0), .one [.int .i64 (W ((a0.getD ((W (((a0.map e_QFileEvent).length : Int) - 1)).toNat) default).f_Time + a1)), .osl (4, 0) 3 (v10.map e_QFileEvent)]), ((3, 0), .tok), ((4, 0), .tok)]) (n := 5) ?_ ?_
    · exact simI (M := [((0, 0), (0, 0)), ((1, 0), (1, 0)), ((2, 0), (2, 0)), ((3, 0), (3, 0)), ((4, 0), (4, 0))]) rfl (And.intro (Vw.ptr _ _ _ _ rfl) (And.intro (Vw.map _ _ rfl) (And.intro (Vw.ptr _ _ _ _ rfl) (And.intro (Vw.same _ rfl) (And.intro (Vw.same _ rfl) (And.intro (Vw.same _ rfl) (And.intro (Vw.same _ rfl) (And.intro (Vw.same _ rfl) trivial)))))))) (And.intro (And.intro rfl (BVw.oneL (And.intro (Vw.same _ rfl) (And.intro (Vw.osl _ _ _ _ rfl) trivial)))) (And.intro (And.intro rfl (BVw.ofMap a_str a_QFileEvent a_QFileEvent_nid v3)) (And.intro (And.intro rfl (BVw.oneL (And.intro (Vw.same _ rfl) (And.intro (Vw.osl _ _ _ _ rfl) trivial)))) (And.intro (And.intro rfl BVw.tok) (And.intro (And.intro rfl BVw.tok) trivial)))))
    refine condI (v := (((lk q_str v3 (v7.getD v9.toNat default)).getD (G_QFileEvent.mk 0 [] 0)).f_Kind != 0)) rfl trivial (fun h23 => ?_) (fun h23 => ?_)
    · have h := ite_tt h23 h
      refine regI ?_
      refine Exists.intro (.agg [.int .i64 (((lk q_str v3 (v7.getD v9.toNat default)).getD (G_QFileEvent.mk 0 [] 0)).f_Time), .str (((lk q_str v3 (v7.getD v9.toNat default)).getD (G_QFileEvent.mk 0 [] 0)).f_Path), .int .i64 (((lk q_str v3 (v7.getD v9.toNat default)).getD (G_QFileEvent.mk 0 [] 0)).f_Kind)]) (And.intro (mlook1 (ek := a_str) (ev := a_QFileEvent) (z := (G_QFileEvent.mk 0 [] 0)) q_str_ok rfl (v7.getD v9.toNat default) v3) (And.intro (mfind_some (ek := a_str) (ev := a_QFileEvent) q_str_ok _ _) ?_))
      obtain ⟨h24, h⟩ := ite_some h
      refine Exists.intro ((v10 ++ ([(G_QFileEvent.mk (((lk q_str v3 (v7.getD v9.toNat default)).getD (G_QFileEvent.mk 0 [] 0)).f_Time) (((lk q_str v3 (v7.getD v9.toNat default)).getD (G_QFileEvent.mk 0 [] 0)).f_Path) (((lk q_str v3 (v7.getD v9.toNat default)).getD (G_QFileEvent.mk 0 [] 0)).f_Kind))] : List G_QFileEvent)).map e_QFileEvent) (And.intro (app_enc e_QFileEvent v10 ([(G_QFileEvent.mk (((lk q_str v3 (v7.getD v9.toNat default)).getD (G_QFileEvent.mk 0 [] 0)).f_Time) (((lk q_str v3 (v7.getD v9.toNat default)).getD (G_QFileEvent.mk 0 [] 0)).f_Path) (((lk q_str v3 (v7.getD v9.toNat default)).getD (G_QFileEvent.mk 0 [] 0)).f_Kind))] : List G_QFileEvent)) (And.intro h24 ?_))
      refine LWp.sim ?_ (f24_j4_ok h)
      exact simI (M := [((0, 0), (0, 0)), ((1, 0), (1, 0)), ((2, 0), (2, 0)), ((3, 0), (3, 0)), ((4, 0), (5, 0))]) rfl (And.intro (Vw.ptr _ _ _ _ rfl) (And.intro (Vw.map _ _ rfl) (And.intro (Vw.ptr _ _ _ _ rfl) (And.intro (Vw.same _ rfl) (And.intro (Vw.same _ rfl) (And.intro (Vw.same _ rfl) trivial)))))) (And.intro (And.intro rfl (BVw.oneL (And.intro (Vw.same _ rfl) (And.intro (Vw.osl _ _ _ _ rfl) trivial)))) (And.intro (And.intro rfl (BVw.ofMap a_str a_QFileEvent a_QFileEvent_nid v3)) (And.intro (And.intro rfl (BVw.oneL (And.intro (Vw.same _ rfl) (And.intro (Vw.osl _ _ _ _ rfl) trivial)))) (And.intro (And.intro rfl BVw.tok) (And.intro (And.intro rfl BVw.tok) trivial)))))
    · have h := ite_ff h23 h
      refine skipI ?_
      refine LWp.sim ?_ (f24_j4_ok h)
      exact simI (M := [((0, 0), (0, 0)), ((1, 0), (1, 0)), ((2, 0), (2, 0)), ((3, 0), (3, 0)), ((4, 0), (4, 0))]) rfl (And.intro (Vw.ptr _ _ _ _ rfl) (And.intro (Vw.map _ _ rfl) (And.intro (Vw.ptr _ _ _ _ rfl) (And.intro (Vw.same _ rfl) (And.intro (Vw.same _ rfl) (And.intro (Vw.same _ rfl) trivial)))))) (And.intro (And.intro rfl (BVw.oneL (And.intro (Vw.same _ rfl) (And.intro (Vw.osl _ _ _ _ rfl) trivial)))) (And.intro (And.intro rfl (BVw.ofMap a_str a_QFileEvent a_QFileEvent_nid v3)) (And.intro (And.intro rfl (BVw.oneL (And.intro (Vw.same _ rfl) (And.intro (Vw.osl _ _ _ _ rfl) trivial)))) (And.intro (And.intro rfl BVw.tok) (And.intro (And.intro rfl BVw.tok) trivial)))))
  · have h := ite_ff h21 h
    refine exitI ?_
    obtain ⟨o, hq, rfl⟩ := Option.map_eq_some_iff.1 h
    replace h := hq; clear hq
    refine And.intro nofun ?_
    refine LWp.sim ?_ (f24_j5_ok h)
    exact simI (M := [((0, 0), (0, 0)), ((1, 0), (2, 0)), ((2, 0), (3, 0)), ((3, 0), (4, 0))]) rfl (And.intro (Vw.ptr _ _ _ _ rfl) (And.intro (Vw.ptr _ _ _ _ rfl) trivial)) (And.intro (And.intro rfl (BVw.oneL (And.intro (Vw.same _ rfl) (And.intro (Vw.osl _ _ _ _ rfl) trivial)))) (And.intro (And.intro rfl (BVw.oneL (And.intro (Vw.same _ rfl) (And.intro (Vw.osl _ _ _ _ rfl) trivial)))) (And.intro (And.intro rfl BVw.tok) (And.intro (And.intro rfl BVw.tok) trivial))))

theorem f24_L2_ok {a0 : List G_QFileEvent} {a1 : Int} {v3 : List ((List UInt8) × G_QFileEvent)} {v7 : List (List UInt8)} {v9 : Int} {v10 : List G_QFileEvent} {m : Option Nat} {o : G_QFileBatch} (h : S_filewatch_newBatch_l2 m a0 a1 v3 v7 v9 v10 = some o) :
    LWp Try.prog f24_lay 0 (.loop f24_c4) (QBlock 2 (QSeq Try.prog f24_lay 0 f24_c2 (f24_Q a0 a1 o))) [(4, .ptr (0, 0) 0 0), (5, .map (1, 0)), (8, .ptr (2, 0) 0 0), (44, .isl 1 (v7.map e_str) false), (45, .int .i64 ((v7.map e_str).length : Int)), (46, .int .i64 v9)] [((0, 0), .one [.int .i64 0, .osl (3, 0) 3 (([] : List G_QFileEvent).map e_QFileEvent)]), ((1, 0), .amap (v3.map (em a_str a_QFileEvent))), ((2, 0), .one [.int .i64 (W ((a0.getD ((W (((a0.map e_QFileEvent).length : Int) - 1)).toNat) default).f_Time + a1)), .osl (4, 0) 3 (v10.map e_QFileEvent)]), ((3, 0), .tok), ((4, 0), .tok)] 5 :=
  LWp_loopM (m := m) (s := ((v9, v10) : (Int × (List G_QFileEvent)))) (r := o) (fun (s : (Int × (List G_QFileEvent))) => S_filewatch_newBatch_b2 m a0 a1 v3 v7 s.1 s.2) (f24_L2_env a0 a1 v3 v7) (f24_L2_hp a0 a1 v3 v7) (f24_L2_Q a0 a1) (fun s o h => f24_L2_bok h) h

theorem f24_j1_ok {a0 : List G_QFileEvent} {a1 : Int} {v3 : List ((List UInt8) × G_QFileEvent)} {m : Option Nat} {o : G_QFileBatch} (h : S_filewatch_newBatch_j1 m a0 a1 v3 = some o) :
    LWp Try.prog f24_lay 0 f24_c0 (f24_Q a0 a1 o) [(0, .isl 3 (a0.map e_QFileEvent) false), (1, .int .i64 a1), (4, .ptr (0, 0) 0 0), (5, .map (1, 0))] [((0, 0), .one [.int .i64 0, .osl (2, 0) 3 (([] : List G_QFileEvent).map e_QFileEvent)]), ((1, 0), .amap (v3.map (em a_str a_QFileEvent))), ((2, 0), .tok)] 3 := by
  unfold S_filewatch_newBatch_j1 at h
  refine seqI ?_
  refine regI ?_
  obtain ⟨h10, h⟩ := ite_some h
  refine And.intro h10 ?_
  show yops _ _ _ [(36, .iptr 3 (a0.map e_QFileEvent) ((W (((a0.map e_QFileEvent).length : Int) - 1)).toNat) 0), (35, .int .i64 (W (((a0.map e_QFileEvent).length : Int) - 1))), (34, .int .i64 ((a0.map e_QFileEvent).length : Int)), (33, .isl 3 (a0.map e_QFileEvent) false), (32, .isl 3 (a0.map e_QFileEvent) false), (0, .isl 3 (a0.map e_QFileEvent) false), (1, .int .i64 a1), (4, .ptr (0, 0) 0 0), (5, .map (1, 0))] _ _
  refine Exists.intro (e_QFileEvent (a0.getD ((W (((a0.map e_QFileEvent).length : Int) - 1)).toNat) default)) (And.intro (getD_enc e_QFileEvent _ _ (idx_ltL e_QFileEvent h10)) (And.intro (And.intro (idx_lt h10) (Nat.le_of_ble_eq_true rfl)) ?_))
  refine LWp.sim (e := [(4, .ptr (0, 0) 0 0), (5, .map (1, 0)), (8, .ptr (2, 0) 0 0)]) (L := [((0, 0), .one [.int .i64 0, .osl (3, 0) 3 (([] : List G_QFileEvent).map e_QFileEvent)]), ((1, 0), .amap (v3.map (em a_str a_QFileEvent))), ((2, 0), .one [.int .i64 (W ((a0.getD ((W (((a0.map e_QFileEvent).length : Int) - 1)).toNat) default).f_Time + a1)), .isl 3 (([] : List G_QFileEvent).map e_QFileEvent) true]), ((3, 0), .tok)]) (n := 4) ?_ ?_
  · exact simI (M := [((0, 0), (0, 0)), ((1, 0), (1, 0)), ((2, 0), (3, 0)), ((3, 0), (2, 0))]) rfl (And.intro (Vw.ptr _ _ _ _ rfl) (And.intro (Vw.map _ _ rfl) (And.intro (Vw.ptr _ _ _ _ rfl) trivial))) (And.intro (And.intro rfl (BVw.oneL (And.intro (Vw.same _ rfl) (And.intro (Vw.osl _ _ _ _ rfl) trivial)))) (And.intro (And.intro rfl (BVw.ofMap a_str a_QFileEvent a_QFileEvent_nid v3)) (And.intro (And.intro rfl (BVw.oneL (And.intro (Vw.same _ rfl) (And.intro (Vw.same _ rfl) trivial)))) (And.intro (And.intro rfl BVw.tok) trivial))))
  refine seqI ?_
  refine seqI ?_
  refine regI ?_
  obtain ⟨v6, h11, h⟩ := bind_some h
  refine bcall (k := 3) (m := 1) (L' := [((4, 0), .mbox (1, 0)), ((1, 0), .amap (v3.map (em a_str a_QFileEvent)))]) (rest := [((0, 0), .one [.int .i64 0, .osl (3, 0) 3 (([] : List G_QFileEvent).map e_QFileEvent)]), ((2, 0), .one [.int .i64 (W ((a0.getD ((W (((a0.map e_QFileEvent).length : Int) - 1)).toNat) default).f_Time + a1)), .isl 3 (([] : List G_QFileEvent).map e_QFileEvent) true]), ((3, 0), .tok)]) (R' := .fn (.func 42) [] [.ptr (4, 0) 0 0]) [((0, 0), (1, 0))] (f36b0_ok h11) rfl rfl rfl (And.intro (Vw.map _ _ rfl) trivial) (And.intro (h0I (1, 0) rfl rfl (BVw.ofMap a_str a_QFileEvent a_QFileEvent_nid v3)) trivial) rfl (And.intro rfl (And.intro rfl (And.intro rfl (And.intro (map_ren a_str a_QFileEvent a_str_nid a_QFileEvent_nid _) trivial)))) rfl ?_
  obtain ⟨v7, h12, h⟩ := bind_some h
  refine bcall (k := 3) (m := 0) (L' := [((4, 0), .mbox (1, 0)), ((1, 0), .amap (v3.map (em a_str a_QFileEvent)))]) (rest := [((0, 0), .one [.int .i64 0, .osl (3, 0) 3 (([] : List G_QFileEvent).map e_QFileEvent)]), ((2, 0), .one [.int .i64 (W ((a0.getD ((W (((a0.map e_QFileEvent).length : Int) - 1)).toNat) default).f_Time + a1)), .isl 3 (([] : List G_QFileEvent).map e_QFileEvent) true]), ((3, 0), .tok)]) (R' := .isl 1 (v7.map e_str) false) [((0, 0), (4, 0)), ((0, 1), (1, 0))] (f28b0_ok h12) rfl rfl rfl (And.intro (Vw.fnL trivial (And.intro (Vw.ptr _ _ _ _ rfl) trivial)) trivial) (And.intro (h0I (4, 0) rfl rfl (BVw.mbox _ _ rfl)) (And.intro (h0I (1, 0) rfl rfl (BVw.ofMap a_str a_QFileEvent a_QFileEvent_nid v3)) trivial)) (nid_ren _ rfl) (And.intro rfl (And.intro rfl (And.intro rfl (And.intro (map_ren a_str a_QFileEvent a_str_nid a_QFileEvent_nid _) trivial)))) rfl ?_
  refine blockI ?_
  refine LWp.sim ?_ (f24_L2_ok h)
  exact simI (M := [((0, 0), (0, 0)), ((1, 0), (1, 0)), ((2, 0), (2, 0)), ((3, 0), (3, 0))]) rfl (And.intro (Vw.ptr _ _ _ _ rfl) (And.intro (Vw.map _ _ rfl) (And.intro (Vw.ptr _ _ _ _ rfl) (And.intro (Vw.same _ rfl) (And.intro (Vw.same _ rfl) (And.intro (Vw.same _ rfl) trivial)))))) (And.intro (And.intro rfl (BVw.oneL (And.intro (Vw.same _ rfl) (And.intro (Vw.osl _ _ _ _ rfl) trivial)))) (And.intro (And.intro rfl (BVw.ofMap a_str a_QFileEvent a_QFileEvent_nid v3)) (And.intro (And.intro rfl (BVw.oneL (And.intro (Vw.same _ rfl) (And.intro (Vw.islO _ _ _ (by decide)) trivial)))) (And.intro (And.intro rfl BVw.tok) (And.intro (And.intro rfl (And.intro (by decide) (by decide))) trivial)))))

theorem f24_L1_bok {a0 : List G_QFileEvent} {a1 : Int} {v2 : Int} {v3 : List ((List UInt8) × G_QFileEvent)} {m : Option Nat} {o : (Int × (List ((List UInt8) × G_QFileEvent))) ⊕ G_QFileBatch} (h : S_filewatch_newBatch_b1 m a0 a1 v2 v3 = some o) :
    LWp Try.prog f24_lay 0 f24_c1 (BodyQ 0 3 (f24_L1_env a0 a1) (f24_L1_hp a0 a1) (f24_L1_Q a0 a1) o) [(0, .isl 3 (a0.map e_QFileEvent) false), (1, .int .i64 a1), (4, .ptr (0, 0) 0 0), (5, .map (1, 0)), (12, .isl 3 (a0.map e_QFileEvent) false), (13, .int .i64 ((a0.map e_QFileEvent).length : Int)), (14, .int .i64 v2)] [((0, 0), .one [.int .i64 0, .osl (2, 0) 3 (([] : List G_QFileEvent).map e_QFileEvent)]), ((1, 0), .amap (v3.map (em a_str a_QFileEvent))), ((2, 0), .tok)] 3 := by
  unfold S_filewatch_newBatch_b1 at h
  refine seqI ?_
  refine regI ?_
  refine seqI ?_
  refine condI (v := (decide (v2 < ((a0.map e_QFileEvent).length : Int)))) rfl trivial (fun h7 => ?_) (fun h7 => ?_)
  · have h := ite_tt h7 h
    refine skipI ?_
    refine seqI ?_
    refine blockI ?_
    refine seqI ?_
    refine regI ?_
    obtain ⟨h8, h⟩ := ite_some h
    refine And.intro h8 ?_
    refine Exists.intro (e_QFileEvent (a0.getD v2.toNat default)) (And.intro (getD_enc e_QFileEvent _ _ (idx_ltL e_QFileEvent h8)) (And.intro (And.intro (idx_lt h8) (Nat.le_of_ble_eq_true rfl)) ?_))
    refine seqI ?_
    refine regI ?_
    refine Exists.intro (.agg [.int .i64 (((lk q_str v3 ((a0.getD v2.toNat default).f_Path)).getD (G_QFileEvent.mk 0 [] 0)).f_Time), .str (((lk q_str v3 ((a0.getD v2.toNat default).f_Path)).getD (G_QFileEvent.mk 0 [] 0)).f_Path), .int .i64 (((lk q_str v3 ((a0.getD v2.toNat default).f_Path)).getD (G_QFileEvent.mk 0 [] 0)).f_Kind)]) (And.intro (mlook1 (ek := a_str) (ev := a_QFileEvent) (z := (G_QFileEvent.mk 0 [] 0)) q_str_ok rfl ((a0.getD v2.toNat default).f_Path) v3) (And.intro (mfind_some (ek := a_str) (ev := a_QFileEvent) q_str_ok _ _) ?_))
    obtain ⟨v5, h9, h⟩ := bind_some h
    refine PFn.call (f10_ok h9) (And.intro (Vw.same _ rfl) (And.intro (Vw.same _ rfl) trivial)) ?_
    show yops _ _ _ [(25, .int .i64 v5), (24, .int .i64 ((a0.getD v2.toNat default).f_Kind)), (23, .ptr (3, 0) 0 2), (22, .int .i64 (((lk q_str v3 ((a0.getD v2.toNat default).f_Path)).getD (G_QFileEvent.mk 0 [] 0)).f_Kind)), (21, .agg [.int .i64 (((lk q_str v3 ((a0.getD v2.toNat default).f_Path)).getD (G_QFileEvent.mk 0 [] 0)).f_Time), .str (((lk q_str v3 ((a0.getD v2.toNat default).f_Path)).getD (G_QFileEvent.mk 0 [] 0)).f_Path), .int .i64 (((lk q_str v3 ((a0.getD v2.toNat default).f_Path)).getD (G_QFileEvent.mk 0 [] 0)).f_Kind)]), (20, .str ((a0.getD v2.toNat default).f_Path)), (19, .ptr (3, 0) 0 1), (18, .map (1, 0)), (7, .ptr (3, 0) 0 0), (17, .agg [.int .i64 ((a0.getD v2.toNat default).f_Time), .str ((a0.getD v2.toNat default).f_Path), .int .i64 ((a0.getD v2.toNat default).f_Kind)]), (16, .iptr 3 (a0.map e_QFileEvent) v2.toNat 0), (15, .bool (decide (v2 < ((a0.map e_QFileEvent).length : Int)))), (0, .isl 3 (a0.map e_QFileEvent) false), (1, .int .i64 a1), (4, .ptr (0, 0) 0 0), (5, .map (1, 0)), (12, .isl 3 (a0.map e_QFileEvent) false), (13, .int .i64 ((a0.map e_QFileEvent).length : Int)), (14, .int .i64 v2)] _ _
    refine LWp.sim (e := [(0, .isl 3 (a0.map e_QFileEvent) false), (1, .int .i64 a1), (4, .ptr (0, 0) 0 0), (5, .map (1, 0)), (7, .ptr (2, 0) 0 0), (12, .isl 3 (a0.map e_QFileEvent) false), (13, .int .i64 ((a0.map e_QFileEvent).length : Int)), (14, .int .i64 v2)]) (L := [((0, 0), .one [.int .i64 0, .osl (3, 0) 3 (([] : List G_QFileEvent).map e_QFileEvent)]), ((1, 0), .amap (v3.map (em a_str a_QFileEvent))), ((2, 0), .one [.int .i64 ((a0.getD v2.toNat default).f_Time), .str ((a0.getD v2.toNat default).f_Path), .int .i64 v5]), ((3, 0), .tok)]) (n := 4) ?_ ?_
    · exact simI (M := [((0, 0), (0, 0)), ((1, 0), (1, 0)), ((2, 0), (3, 0)), ((3, 0), (2, 0))]) rfl (And.intro (Vw.same _ rfl) (And.intro (Vw.same _ rfl) (And.intro (Vw.ptr _ _ _ _ rfl) (And.intro (Vw.map _ _ rfl) (And.intro (Vw.ptr _ _ _ _ rfl) (And.intro (Vw.same _ rfl) (And.intro (Vw.same _ rfl) (And.intro (Vw.same _ rfl) trivial)))))))) (And.intro (And.intro rfl (BVw.oneL (And.intro (Vw.same _ rfl) (And.intro (Vw.osl _ _ _ _ rfl) trivial)))) (And.intro (And.intro rfl (BVw.ofMap a_str a_QFileEvent a_QFileEvent_nid v3)) (And.intro (And.intro rfl (BVw.oneL (And.intro (Vw.same _ rfl) (And.intro (Vw.same _ rfl) (And.intro (Vw.same _ rfl) trivial))))) (And.intro (And.intro rfl BVw.tok) trivial))))
    refine regI ?_
    refine Exists.intro ((mp q_str v3 ((a0.getD v2.toNat default).f_Path) (G_QFileEvent.mk ((a0.getD v2.toNat default).f_Time) ((a0.getD v2.toNat default).f_Path) v5)).map (em a_str a_QFileEvent)) (And.intro (mput_enc (ek := a_str) (ev := a_QFileEvent) q_str_ok ((a0.getD v2.toNat default).f_Path) (G_QFileEvent.mk ((a0.getD v2.toNat default).f_Time) ((a0.getD v2.toNat default).f_Path) v5) v3) ?_)
    refine regI ?_
    cases h
    exact And.intro rfl (simI (M := [((0, 0), (0, 0)), ((1, 0), (1, 0)), ((2, 0), (3, 0))]) rfl (And.intro (Vw.same _ rfl) (And.intro (Vw.same _ rfl) (And.intro (Vw.ptr _ _ _ _ rfl) (And.intro (Vw.map _ _ rfl) (And.intro (Vw.same _ rfl) (And.intro (Vw.same _ rfl) (And.intro (Vw.same _ rfl) trivial))))))) (And.intro (And.intro rfl (BVw.oneL (And.intro (Vw.same _ rfl) (And.intro (Vw.osl _ _ _ _ rfl) trivial)))) (And.intro (And.intro rfl (BVw.ofMap a_str a_QFileEvent a_QFileEvent_nid (mp q_str v3 ((a0.getD v2.toNat default).f_Path) (G_QFileEvent.mk ((a0.getD v2.toNat default).f_Time) ((a0.getD v2.toNat default).f_Path) v5)))) (And.intro (And.intro rfl BVw.tok) trivial))))
  · have h := ite_ff h7 h
    refine exitI ?_
    obtain ⟨o, hq, rfl⟩ := Option.map_eq_some_iff.1 h
    replace h := hq; clear hq
    refine And.intro nofun ?_
    refine LWp.sim ?_ (f24_j1_ok h)
    exact simI (M := [((0, 0), (0, 0)), ((1, 0), (1, 0)), ((2, 0), (2, 0))]) rfl (And.intro (Vw.same _ rfl) (And.intro (Vw.same _ rfl) (And.intro (Vw.ptr _ _ _ _ rfl) (And.intro (Vw.map _ _ rfl) trivial)))) (And.intro (And.intro rfl (BVw.oneL (And.intro (Vw.same _ rfl) (And.intro (Vw.osl _ _ _ _ rfl) trivial)))) (And.intro (And.intro rfl (BVw.ofMap a_str a_QFileEvent a_QFileEvent_nid v3)) (And.intro (And.intro rfl BVw.tok) trivial)))

theorem f24_L1_ok {a0 : List G_QFileEvent} {a1 : Int} {v2 : Int} {v3 : List ((List UInt8) × G_QFileEvent)} {m : Option Nat} {o : G_QFileBatch} (h : S_filewatch_newBatch_l1 m a0 a1 v2 v3 = some o) :
    LWp Try.prog f24_lay 0 (.loop f24_c1) (QBlock 0 (QSeq Try.prog f24_lay 0 f24_c0 (f24_Q a0 a1 o))) [(0, .isl 3 (a0.map e_QFileEvent) false), (1, .int .i64 a1), (4, .ptr (0, 0) 0 0), (5, .map (1, 0)), (12, .isl 3 (a0.map e_QFileEvent) false), (13, .int .i64 ((a0.map e_QFileEvent).length : Int)), (14, .int .i64 v2)] [((0, 0), .one [.int .i64 0, .osl (2, 0) 3 (([] : List G_QFileEvent).map e_QFileEvent)]), ((1, 0), .amap (v3.map (em a_str a_QFileEvent))), ((2, 0), .tok)] 3 :=
  LWp_loopM (m := m) (s := ((v2, v3) : (Int × (List ((List UInt8) × G_QFileEvent))))) (r := o) (fun (s : (Int × (List ((List UInt8) × G_QFileEvent)))) => S_filewatch_newBatch_b1 m a0 a1 s.1 s.2) (f24_L1_env a0 a1) (f24_L1_hp a0 a1) (f24_L1_Q a0 a1) (fun s o h => f24_L1_bok h) h

noncomputable def S_filewatch_newBatch (m : Option Nat) (a0 : List G_QFileEvent) (a1 : Int) : Option G_QFileBatch :=
  S_filewatch_newBatch_l1 m a0 a1 0 ([] : List ((List UInt8) × G_QFileEvent))

theorem f24_start {a0 : List G_QFileEvent} {a1 : Int} {m : Option Nat} {o : G_QFileBatch} (h : S_filewatch_newBatch m a0 a1 = some o) : LWp Try.prog f24_lay 0 f24_c5 (f24_Q a0 a1 o) (initEnv 0 [.isl 3 (a0.map e_QFileEvent) false, .int .i64 a1]) [] 0 := by
  unfold S_filewatch_newBatch at h
  refine seqI ?_
  refine regI ?_
  refine seqI ?_
  refine regI ?_
  refine seqI ?_
  refine seqI ?_
  refine regI ?_
  refine blockI ?_
  refine LWp.sim ?_ (f24_L1_ok h)
  exact simI (M := [((0, 0), (0, 0)), ((1, 0), (1, 0))]) rfl (And.intro (Vw.same _ rfl) (And.intro (Vw.same _ rfl) (And.intro (Vw.ptr _ _ _ _ rfl) (And.intro (Vw.map _ _ rfl) (And.intro (Vw.same _ rfl) (And.intro (Vw.same _ rfl) (And.intro (Vw.same _ rfl) trivial))))))) (And.intro (And.intro rfl (BVw.oneL (And.intro (Vw.same _ rfl) (And.intro (Vw.islO _ _ _ (by decide)) trivial)))) (And.intro (And.intro rfl (BVw.ofMap a_str a_QFileEvent a_QFileEvent_nid ([] : List ((List UInt8) × G_QFileEvent)))) (And.intro (And.intro rfl (And.intro (by decide) (by decide))) trivial)))

theorem f24_ok {a0 : List G_QFileEvent} {a1 : Int} {m : Option Nat} {o : G_QFileBatch} (h : S_filewatch_newBatch m a0 a1 = some o) : PFn Try.prog 24 [.isl 3 (a0.map e_QFileEvent) false, .int .i64 a1] (.agg [.int .i64 o.f_Time, .isl 3 (o.f_Events.map e_QFileEvent) false]) := PFn.ofFnW (L := f24_L) f24_low f24_fok (Nat.le_of_ble_eq_true rfl) rfl (f24_start h)

def f6_c2 : LCode := (.region [⟨some 58, .mv (.t 9), none⟩,
   ⟨some 59, .bin .add (.t 58) (.c (.int .i64 1)), none⟩,
   ⟨some 8, .mv (.t 59), none⟩])
def f6_c0 : LCode := (.region [⟨some 60, .bin .add (.t 19) (.c (.int .i64 1)), none⟩,
   ⟨some 19, .mv (.t 60), none⟩])
def f6_c3 : LCode := (.seq (.region [⟨some 20, .bin .lss (.t 19) (.t 18), none⟩])
 (.seq (.cond (.t 20)
  .skip
  (.exit 0))
 (.seq (.block 1
  (.seq (.region [⟨some 21, .mv (.t 19), none⟩,
    ⟨some 9, .mv (.t 21), none⟩])
  (.seq (.seq (.quiet [⟨some 22, .mv (.t 9), none⟩,
    ⟨some 23, .bin .add (.t 22) (.c (.int .i64 1)), none⟩,
    ⟨some 24, .mv (.t 0), none⟩,
    ⟨some 25, .len false (.t 24), none⟩,
    ⟨some 26, .bin .lss (.t 23) (.t 25), none⟩,
    ⟨some 27, .mv (.t 26), none⟩,
    ⟨some 28, .mv (.t 0), some (27, true)⟩,
    ⟨some 29, .mv (.t 9), some (27, true)⟩,
    ⟨some 30, .bin .add (.t 29) (.c (.int .i64 1)), some (27, true)⟩,
    ⟨some 31, .iaddr 3 (.t 28) (.t 30), some (27, true)⟩,
    ⟨some 32, .faddr 0 (.t 31), some (27, true)⟩,
    ⟨some 33, .load false 1 (.t 32), some (27, true)⟩,
    ⟨some 34, .mv (.t 0), some (27, true)⟩,
    ⟨some 35, .mv (.t 9), some (27, true)⟩,
    ⟨some 36, .iaddr 3 (.t 34) (.t 35), some (27, true)⟩,
    ⟨some 37, .faddr 0 (.t 36), some (27, true)⟩,
    ⟨some 38, .load false 1 (.t 37), some (27, true)⟩,
    ⟨some 39, .bin .sub (.t 33) (.t 38), some (27, true)⟩,
    ⟨some 40, .mv (.t 1), some (27, true)⟩,
    ⟨some 41, .bin .lss (.t 39) (.t 40), some (27, true)⟩,
    ⟨some 42, .pick (.t 27) (.t 41) (.c (.bool false)), none⟩])
  (.cond (.t 42)
   (.exit 1)
   .skip))
  (.seq (.seq (.region [⟨some 43, .mv (.t 0), none⟩,
    ⟨some 44, .mv (.t 8), none⟩,
    ⟨some 45, .mv (.t 9), none⟩,
    ⟨some 46, .bin .add (.t 45) (.c (.int .i64 1)), none⟩,
    ⟨some 47, .slSl 3 (.t 43) (some (.t 44)) (some (.t 46)) none, none⟩,
    ⟨some 48, .mv (.t 1), none⟩,
    ⟨some 49, .call 24 [(.t 47), (.t 48)], none⟩,
    ⟨some 10, .alloc [(.int .i64 0), (.isl 3 [] true)], none⟩,
    ⟨none, .store 2 (.t 10) (.t 49), none⟩])
  (.seq (.region [⟨some 50, .faddr 1 (.t 10), none⟩,
    ⟨some 51, .load false 1 (.t 50), none⟩,
    ⟨some 52, .len false (.t 51), none⟩,
    ⟨some 53, .bin .gtr (.t 52) (.c (.int .i64 0)), none⟩])
  (.cond (.t 53)
   (.region [⟨some 54, .mv (.t 7), none⟩,
     ⟨some 55, .load true 2 (.t 10), none⟩,
     ⟨some 56, .mkSl true 2 [(.int .i64 0), (.isl 3 [] true)] 1 [(0, (.t 55))], none⟩,
     ⟨some 57, .app true 2 32 (.t 54) (.t 56), none⟩,
     ⟨some 7, .mv (.t 57), none⟩])
   .skip)))
  f6_c2))))
 f6_c0)))
def f6_c1 : LCode := (.seq (.region [⟨some 61, .mv (.t 7), none⟩,
   ⟨some 4, .mv (.t 61), none⟩,
   ⟨some 5, .mv (.c (.int .i64 0)), none⟩])
 .ret)
def f6_c4 : LCode := (.seq (.region [⟨some 4, .mv (.c (.val (.slice none 0 0))), none⟩,
   ⟨some 5, .mv (.c (.int .i64 0)), none⟩])
 (.seq (.seq (.region [⟨some 11, .mv (.t 0), none⟩,
   ⟨some 12, .mv (.t 1), none⟩,
   ⟨some 13, .call 23 [(.t 11), (.t 12)], none⟩,
   ⟨some 6, .mv (.t 13), none⟩])
 (.seq (.region [⟨some 14, .mv (.t 6), none⟩,
   ⟨some 15, .bin .neq (.t 14) (.c (.int .i64 0)), none⟩])
 (.cond (.t 15)
  (.seq (.region [⟨some 16, .mv (.t 6), none⟩,
    ⟨some 4, .mv (.c (.val (.slice none 0 0))), none⟩,
    ⟨some 5, .mv (.t 16), none⟩])
  .ret)
  .skip)))
 (.seq (.region [⟨some 7, .mv (.c (.val (.slice none 0 0))), none⟩])
 (.seq (.region [⟨some 8, .mv (.c (.int .i64 0)), none⟩])
 (.seq (.seq (.region [⟨some 17, .mv (.t 0), none⟩,
   ⟨some 18, .len false (.t 17), none⟩,
   ⟨some 19, .mv (.c (.int .i64 0)), none⟩])
 (.block 0
  (.loop
   f6_c3)))
 f6_c1)))))
def f6_lay : Lay := ⟨62, [], false⟩
def f6_res : List LRes := [.t 4, .t 5]
def f6_L : LFn := ⟨2, f6_lay, f6_c4, f6_res⟩
theorem f6_low : lowFn Try.prog [] 6 = some f6_L := by kernel_rfl
theorem f6_fok : FnOk Try.prog 6 := ⟨_, Try.func6, rfl, rfl⟩
def f6_Q (a0 : List G_QFileEvent) (a1 : Int) (o : (List G_QFileBatch) × Int) : Exit → Env → AHeap → Nat → Prop := FinK f6_res (PureEnd (.tup [.isl 2 (o.1.map e_QFileBatch) false, .int .i64 o.2]))

def f6_L1_env (a0 : List G_QFileEvent) (a1 : Int) (s : ((List G_QFileBatch) × Int × Int)) : Env := [(0, .isl 3 (a0.map e_QFileEvent) false), (1, .int .i64 a1), (7, .osl (0, 0) 2 (s.1.map e_QFileBatch)), (8, .int .i64 s.2.1), (18, .int .i64 ((a0.map e_QFileEvent).length : Int)), (19, .int .i64 s.2.2)]
def f6_L1_hp (a0 : List G_QFileEvent) (a1 : Int) (s : ((List G_QFileBatch) × Int × Int)) : AHeap := [((0, 0), .tok)]
def f6_L1_Q (a0 : List G_QFileEvent) (a1 : Int) (o : ((List G_QFileBatch) × Int)) : Exit → Env → AHeap → Nat → Prop := (QBlock 0 (QSeq Try.prog f6_lay 0 f6_c1 (f6_Q a0 a1 o)))

noncomputable def S_filewatch_Batches_j6 (m : Option Nat) (a0 : List G_QFileEvent) (a1 : Int) (v8 : Int) (v15 : List G_QFileBatch) (v16 : Int) : Option (((List G_QFileBatch) × Int × Int) ⊕ ((List G_QFileBatch) × Int)) :=
  some (.inl (v15, v16, (W (v8 + 1))))

noncomputable def S_filewatch_Batches_j5 (m : Option Nat) (a0 : List G_QFileEvent) (a1 : Int) (v8 : Int) (v14 : List G_QFileBatch) : Option (((List G_QFileBatch) × Int × Int) ⊕ ((List G_QFileBatch) × Int)) :=
  S_filewatch_Batches_j6 m a0 a1 v8 v14 (W (v8 + 1))

theorem f6_j6_ok {a0 : List G_QFileEvent} {a1 : Int} {v8 : Int} {v15 : List G_QFileBatch} {v16 : Int} {m : Option Nat} {o : (((List G_QFileBatch) × Int × Int) ⊕ ((List G_QFileBatch) × Int))} (h : S_filewatch_Batches_j6 m a0 a1 v8 v15 v16 = some o) :
    LWp Try.prog f6_lay 0 f6_c0 (BodyQ 0 1 (f6_L1_env a0 a1) (f6_L1_hp a0 a1) (f6_L1_Q a0 a1) o) [(0, .isl 3 (a0.map e_QFileEvent) false), (1, .int .i64 a1), (7, .osl (0, 0) 2 (v15.map e_QFileBatch)), (8, .int .i64 v16), (18, .int .i64 ((a0.map e_QFileEvent).length : Int)), (19, .int .i64 v8)] [((0, 0), .tok)] 1 := by
  unfold S_filewatch_Batches_j6 at h
  refine regI ?_
  cases h
  exact And.intro rfl (simI (M := [((0, 0), (0, 0))]) rfl (And.intro (Vw.same _ rfl) (And.intro (Vw.same _ rfl) (And.intro (Vw.osl _ _ _ _ rfl) (And.intro (Vw.same _ rfl) (And.intro (Vw.same _ rfl) (And.intro (Vw.same _ rfl) trivial)))))) (And.intro (And.intro rfl BVw.tok) trivial))

theorem f6_j5_ok {a0 : List G_QFileEvent} {a1 : Int} {v8 : Int} {v14 : List G_QFileBatch} {m : Option Nat} {o : (((List G_QFileBatch) × Int × Int) ⊕ ((List G_QFileBatch) × Int))} (h : S_filewatch_Batches_j5 m a0 a1 v8 v14 = some o) :
    LWp Try.prog f6_lay 0 f6_c2 (QBlock 1 (QSeq Try.prog f6_lay 0 f6_c0 (BodyQ 0 1 (f6_L1_env a0 a1) (f6_L1_hp a0 a1) (f6_L1_Q a0 a1) o))) [(0, .isl 3 (a0.map e_QFileEvent) false), (1, .int .i64 a1), (7, .osl (0, 0) 2 (v14.map e_QFileBatch)), (9, .int .i64 v8), (18, .int .i64 ((a0.map e_QFileEvent).length : Int)), (19, .int .i64 v8)] [((0, 0), .tok)] 1 := by
  unfold S_filewatch_Batches_j5 at h
  refine regI ?_
  refine LWp.sim ?_ (f6_j6_ok h)
  exact simI (M := [((0, 0), (0, 0))]) rfl (And.intro (Vw.same _ rfl) (And.intro (Vw.same _ rfl) (And.intro (Vw.osl _ _ _ _ rfl) (And.intro (Vw.same _ rfl) (And.intro (Vw.same _ rfl) (And.intro (Vw.same _ rfl) trivial)))))) (And.intro (And.intro rfl BVw.tok) trivial)

noncomputable def S_filewatch_Batches_j7 (m : Option Nat) (v6 : List G_QFileBatch) : Option ((List G_QFileBatch) × Int) :=
  some (v6, 0)

noncomputable def S_filewatch_Batches_b1 (m : Option Nat) (a0 : List G_QFileEvent) (a1 : Int) (v6 : List G_QFileBatch) (v7 : Int) (v8 : Int) : Option (((List G_QFileBatch) × Int × Int) ⊕ ((List G_QFileBatch) × Int)) :=
  if (decide (v8 < ((a0.map e_QFileEvent).length : Int))) = true then
    if (((decide ((W (v8 + 1)) < ((a0.map e_QFileEvent).length : Int))) == true) = true → (0 : Int) ≤ (W (v8 + 1)) ∧ (W (v8 + 1)) < ((a0.map e_QFileEvent).length : Int)) then
    if (((decide ((W (v8 + 1)) < ((a0.map e_QFileEvent).length : Int))) == true) = true → (0 : Int) ≤ v8 ∧ v8 < ((a0.map e_QFileEvent).length : Int)) then
    if ((decide ((W (v8 + 1)) < ((a0.map e_QFileEvent).length : Int))) && (decide ((W ((a0.getD ((W (v8 + 1)).toNat) default).f_Time - (a0.getD v8.toNat default).f_Time)) < a1))) = true then
      S_filewatch_Batches_j6 m a0 a1 v8 v6 v7
    else
      if (0 : Int) ≤ v7 ∧ v7 ≤ (W (v8 + 1)) ∧ (W (v8 + 1)) ≤ ((a0.map e_QFileEvent).length : Int) then
      (S_filewatch_newBatch m ((a0.take (W (v8 + 1)).toNat).drop v7.toNat) a1).bind fun v13 =>
      if (decide (((v13.f_Events.map e_QFileEvent).length : Int) > 0)) = true then
        if ((v6 ++ ([v13] : List G_QFileBatch)).map e_QFileBatch).length * 32 ≤ 140737488355328 then
        S_filewatch_Batches_j5 m a0 a1 v8 (v6 ++ ([v13] : List G_QFileBatch))
        else none
      else
        S_filewatch_Batches_j5 m a0 a1 v8 v6
      else none
    else none
    else none
  else
    Option.map Sum.inr (
      S_filewatch_Batches_j7 m v6)

noncomputable def S_filewatch_Batches_l1 (m : Option Nat) (a0 : List G_QFileEvent) (a1 : Int) (v6 : List G_QFileBatch) (v7 : Int) (v8 : Int) : Option ((List G_QFileBatch) × Int) := loopM m (fun (s : ((List G_QFileBatch) × Int × Int)) => S_filewatch_Batches_b1 m a0 a1 s.1 s.2.1 s.2.2) (v6, v7, v8)

theorem f6_j7_ok {a0 : List G_QFileEvent} {a1 : Int} {v6 : List G_QFileBatch} {m : Option Nat} {o : ((List G_QFileBatch) × Int)} (h : S_filewatch_Batches_j7 m v6 = some o) :
    LWp Try.prog f6_lay 0 f6_c1 (f6_Q a0 a1 o) [(7, .osl (0, 0) 2 (v6.map e_QFileBatch))] [((0, 0), .tok)] 1 := by
  unfold S_filewatch_Batches_j7 at h
  refine seqI ?_
  refine regI ?_
  refine retI ?_
  cases h
  exact And.intro trivial (And.intro trivial (And.intro rfl (Vw.tupL (And.intro (Vw.oslI _ _ _) (And.intro (Vw.same _ rfl) trivial)))))

theorem f6_L1_bok {a0 : List G_QFileEvent} {a1 : Int} {v6 : List G_QFileBatch} {v7 : Int} {v8 : Int} {m : Option Nat} {o : ((List G_QFileBatch) × Int × Int) ⊕ ((List G_QFileBatch) × Int)} (h : S_filewatch_Batches_b1 m a0 a1 v6 v7 v8 = some o) :
    LWp Try.prog f6_lay 0 f6_c3 (BodyQ 0 1 (f6_L1_env a0 a1) (f6_L1_hp a0 a1) (f6_L1_Q a0 a1) o) [(0, .isl 3 (a0.map e_QFileEvent) false), (1, .int .i64 a1), (7, .osl (0, 0) 2 (v6.map e_QFileBatch)), (8, .int .i64 v7), (18, .int .i64 ((a0.map e_QFileEvent).length : Int)), (19, .int .i64 v8)] [((0, 0), .tok)] 1 := by
  unfold S_filewatch_Batches_b1 at h
  refine seqI ?_
  refine regI ?_
  refine seqI ?_
  refine condI (v := (decide (v8 < ((a0.map e_QFileEvent).length : Int)))) rfl trivial (fun h19 => ?_) (fun h19 => ?_)
  · have h := ite_tt h19 h
    refine skipI ?_
    refine seqI ?_
    refine blockI ?_
    refine seqI ?_
    refine regI ?_
    refine seqI ?_
    refine seqI ?_
    refine quietI ?_
    refine And.intro (fun hp => hp) ?_
    show yqs _ _ [(30, .cnd ((decide ((W (v8 + 1)) < ((a0.map e_QFileEvent).length : Int))) == true) (.int .i64 (W (v8 + 1)))), (29, .cnd ((decide ((W (v8 + 1)) < ((a0.map e_QFileEvent).length : Int))) == true) (.int .i64 v8)), (28, .cnd ((decide ((W (v8 + 1)) < ((a0.map e_QFileEvent).length : Int))) == true) (.isl 3 (a0.map e_QFileEvent) false)), (27, .bool (decide ((W (v8 + 1)) < ((a0.map e_QFileEvent).length : Int)))), (26, .bool (decide ((W (v8 + 1)) < ((a0.map e_QFileEvent).length : Int)))), (25, .int .i64 ((a0.map e_QFileEvent).length : Int)), (24, .isl 3 (a0.map e_QFileEvent) false), (23, .int .i64 (W (v8 + 1))), (22, .int .i64 v8), (9, .int .i64 v8), (21, .int .i64 v8), (20, .bool (decide (v8 < ((a0.map e_QFileEvent).length : Int)))), (0, .isl 3 (a0.map e_QFileEvent) false), (1, .int .i64 a1), (7, .osl (0, 0) 2 (v6.map e_QFileBatch)), (8, .int .i64 v7), (18, .int .i64 ((a0.map e_QFileEvent).length : Int)), (19, .int .i64 v8)] _ _
    obtain ⟨h20, h⟩ := ite_some h
    refine And.intro (fun hp => (And.intro (And.intro hp hp) (h20 hp))) ?_
    refine And.intro (fun hp => hp) ?_
    refine Exists.intro (e_QFileEvent (a0.getD ((W (v8 + 1)).toNat) default)) (And.intro (fun hp => And.intro (getD_enc e_QFileEvent _ _ (idx_ltL e_QFileEvent (h20 hp))) (And.intro hp (And.intro (idx_lt (h20 hp)) (Nat.le_of_ble_eq_true rfl)))) ?_)
    obtain ⟨h21, h⟩ := ite_some h
    refine And.intro (fun hp => (And.intro (And.intro hp hp) (h21 hp))) ?_
    show yqs _ _ [(36, .cnd ((decide ((W (v8 + 1)) < ((a0.map e_QFileEvent).length : Int))) == true) (.iptr 3 (a0.map e_QFileEvent) v8.toNat 0)), (35, .cnd ((decide ((W (v8 + 1)) < ((a0.map e_QFileEvent).length : Int))) == true) (.int .i64 v8)), (34, .cnd ((decide ((W (v8 + 1)) < ((a0.map e_QFileEvent).length : Int))) == true) (.isl 3 (a0.map e_QFileEvent) false)), (33, .cnd ((decide ((W (v8 + 1)) < ((a0.map e_QFileEvent).length : Int))) == true) (.int .i64 ((a0.getD ((W (v8 + 1)).toNat) default).f_Time))), (32, .cnd ((decide ((W (v8 + 1)) < ((a0.map e_QFileEvent).length : Int))) == true) (.iptr 3 (a0.map e_QFileEvent) ((W (v8 + 1)).toNat) 0)), (31, .cnd ((decide ((W (v8 + 1)) < ((a0.map e_QFileEvent).length : Int))) == true) (.iptr 3 (a0.map e_QFileEvent) ((W (v8 + 1)).toNat) 0)), (30, .cnd ((decide ((W (v8 + 1)) < ((a0.map e_QFileEvent).length : Int))) == true) (.int .i64 (W (v8 + 1)))), (29, .cnd ((decide ((W (v8 + 1)) < ((a0.map e_QFileEvent).length : Int))) == true) (.int .i64 v8)), (28, .cnd ((decide ((W (v8 + 1)) < ((a0.map e_QFileEvent).length : Int))) == true) (.isl 3 (a0.map e_QFileEvent) false)), (27, .bool (decide ((W (v8 + 1)) < ((a0.map e_QFileEvent).length : Int)))), (26, .bool (decide ((W (v8 + 1)) < ((a0.map e_QFileEvent).length : Int)))), (25, .int .i64 ((a0.map e_QFileEvent).length : Int)), (24, .isl 3 (a0.map e_QFileEvent) false), (23, .int .i64 (W (v8 + 1))), (22, .int .i64 v8), (9, .int .i64 v8), (21, .int .i64 v8), (20, .bool (decide (v8 < ((a0.map e_QFileEvent).length : Int)))), (0, .isl 3 (a0.map e_QFileEvent) false), (1, .int .i64 a1), (7, .osl (0, 0) 2 (v6.map e_QFileBatch)), (8, .int .i64 v7), (18, .int .i64 ((a0.map e_QFileEvent).length : Int)), (19, .int .i64 v8)] _ _
    refine And.intro (fun hp => hp) ?_
    refine Exists.intro (e_QFileEvent (a0.getD v8.toNat default)) (And.intro (fun hp => And.intro (getD_enc e_QFileEvent _ _ (idx_ltL e_QFileEvent (h21 hp))) (And.intro hp (And.intro (idx_lt (h21 hp)) (Nat.le_of_ble_eq_true rfl)))) ?_)
    refine And.intro (fun hp => (And.intro hp hp)) ?_
    refine And.intro (fun hp => (And.intro hp hp)) ?_
    show yqs _ _ [(41, .cnd ((decide ((W (v8 + 1)) < ((a0.map e_QFileEvent).length : Int))) == true) (.bool (decide ((W ((a0.getD ((W (v8 + 1)).toNat) default).f_Time - (a0.getD v8.toNat default).f_Time)) < a1)))), (40, .cnd ((decide ((W (v8 + 1)) < ((a0.map e_QFileEvent).length : Int))) == true) (.int .i64 a1)), (39, .cnd ((decide ((W (v8 + 1)) < ((a0.map e_QFileEvent).length : Int))) == true) (.int .i64 (W ((a0.getD ((W (v8 + 1)).toNat) default).f_Time - (a0.getD v8.toNat default).f_Time)))), (38, .cnd ((decide ((W (v8 + 1)) < ((a0.map e_QFileEvent).length : Int))) == true) (.int .i64 ((a0.getD v8.toNat default).f_Time))), (37, .cnd ((decide ((W (v8 + 1)) < ((a0.map e_QFileEvent).length : Int))) == true) (.iptr 3 (a0.map e_QFileEvent) v8.toNat 0)), (36, .cnd ((decide ((W (v8 + 1)) < ((a0.map e_QFileEvent).length : Int))) == true) (.iptr 3 (a0.map e_QFileEvent) v8.toNat 0)), (35, .cnd ((decide ((W (v8 + 1)) < ((a0.map e_QFileEvent).length : Int))) == true) (.int .i64 v8)), (34, .cnd ((decide ((W (v8 + 1)) < ((a0.map e_QFileEvent).length : Int))) == true) (.isl 3 (a0.map e_QFileEvent) false)), (33, .cnd ((decide ((W (v8 + 1)) < ((a0.map e_QFileEvent).length : Int))) == true) (.int .i64 ((a0.getD ((W (v8 + 1)).toNat) default).f_Time))), (32, .cnd ((decide ((W (v8 + 1)) < ((a0.map e_QFileEvent).length : Int))) == true) (.iptr 3 (a0.map e_QFileEvent) ((W (v8 + 1)).toNat) 0)), (31, .cnd ((decide ((W (v8 + 1)) < ((a0.map e_QFileEvent).length : Int))) == true) (.iptr 3 (a0.map e_QFileEvent) ((W (v8 + 1)).toNat) 0)), (30, .cnd ((decide ((W (v8 + 1)) < ((a0.map e_QFileEvent).length : Int))) == true) (.int .i64 (W (v8 + 1)))), (29, .cnd ((decide ((W (v8 + 1)) < ((a0.map e_QFileEvent).length : Int))) == true) (.int .i64 v8)), (28, .cnd ((decide ((W (v8 + 1)) < ((a0.map e_QFileEvent).length : Int))) == true) (.isl 3 (a0.map e_QFileEvent) false)), (27, .bool (decide ((W (v8 + 1)) < ((a0.map e_QFileEvent).length : Int)))), (26, .bool (decide ((W (v8 + 1)) < ((a0.map e_QFileEvent).length : Int)))), (25, .int .i64 ((a0.map e_QFileEvent).length : Int)), (24, .isl 3 (a0.map e_QFileEvent) false), (23, .int .i64 (W (v8 + 1))), (22, .int .i64 v8), (9, .int .i64 v8), (21, .int .i64 v8), (20, .bool (decide (v8 < ((a0.map e_QFileEvent).length : Int)))), (0, .isl 3 (a0.map e_QFileEvent) false), (1, .int .i64 a1), (7, .osl (0, 0) 2 (v6.map e_QFileBatch)), (8, .int .i64 v7), (18, .int .i64 ((a0.map e_QFileEvent).length : Int)), (19, .int .i64 v8)] _ _
    refine And.intro (fun hc => (bqt hc)) ?_
    refine LWp.sim (e := [(0, .isl 3 (a0.map e_QFileEvent) false), (1, .int .i64 a1), (7, .osl (0, 0) 2 (v6.map e_QFileBatch)), (8, .int .i64 v7), (9, .int .i64 v8), (18, .int .i64 ((a0.map e_QFileEvent).length : Int)), (19, .int .i64 v8), (42, .bool ((decide ((W (v8 + 1)) < ((a0.map e_QFileEvent).length : Int))) && (decide ((W ((a0.getD ((W (v8 + 1)).toNat) default).f_Time - (a0.getD v8.toNat default).f_Time)) < a1))))]) (L := [((0, 0), .tok)]) (n := 1) ?_ ?_
    · exact simI (M := [((0, 0), (0, 0))]) rfl (And.intro (Vw.same _ rfl) (And.intro (Vw.same _ rfl) (And.intro (Vw.osl _ _ _ _ rfl) (And.intro (Vw.same _ rfl) (And.intro (Vw.same _ rfl) (And.intro (Vw.same _ rfl) (And.intro (Vw.same _ rfl) (And.intro (Vw.same _ rfl) trivial)))))))) (And.intro (And.intro rfl BVw.tok) trivial)
    refine condI (v := ((decide ((W (v8 + 1)) < ((a0.map e_QFileEvent).length : Int))) && (decide ((W ((a0.getD ((W (v8 + 1)).toNat) default).f_Time - (a0.getD v8.toNat default).f_Time)) < a1)))) rfl trivial (fun h22 => ?_) (fun h22 => ?_)
    · have h := ite_tt h22 h
      refine exitI ?_
      refine LWp.sim ?_ (f6_j6_ok h)
      exact simI (M := [((0, 0), (0, 0))]) rfl (And.intro (Vw.same _ rfl) (And.intro (Vw.same _ rfl) (And.intro (Vw.osl _ _ _ _ rfl) (And.intro (Vw.same _ rfl) (And.intro (Vw.same _ rfl) (And.intro (Vw.same _ rfl) trivial)))))) (And.intro (And.intro rfl BVw.tok) trivial)
    · have h := ite_ff h22 h
      refine skipI ?_
      refine seqI ?_
      refine seqI ?_
      refine regI ?_
      obtain ⟨h23, h⟩ := ite_some h
      refine Exists.intro (.isl 3 (((a0.take (W (v8 + 1)).toNat).drop v7.toNat).map e_QFileEvent) false) (And.intro (sl_eq e_QFileEvent (slAB e_QFileEvent a0 _ _) rfl) (And.intro (And.intro rfl h23) ?_))
      obtain ⟨v13, h24, h⟩ := bind_some h
      refine PFn.call (f24_ok h24) (And.intro (Vw.same _ rfl) (And.intro (Vw.same _ rfl) trivial)) ?_
      show yops _ _ _ [(49, .agg [.int .i64 v13.f_Time, .isl 3 (v13.f_Events.map e_QFileEvent) false]), (48, .int .i64 a1), (47, .isl 3 (((a0.take (W (v8 + 1)).toNat).drop v7.toNat).map e_QFileEvent) false), (46, .int .i64 (W (v8 + 1))), (45, .int .i64 v8), (44, .int .i64 v7), (43, .isl 3 (a0.map e_QFileEvent) false), (0, .isl 3 (a0.map e_QFileEvent) false), (1, .int .i64 a1), (7, .osl (0, 0) 2 (v6.map e_QFileBatch)), (8, .int .i64 v7), (9, .int .i64 v8), (18, .int .i64 ((a0.map e_QFileEvent).length : Int)), (19, .int .i64 v8), (42, .bool ((decide ((W (v8 + 1)) < ((a0.map e_QFileEvent).length : Int))) && (decide ((W ((a0.getD ((W (v8 + 1)).toNat) default).f_Time - (a0.getD v8.toNat default).f_Time)) < a1))))] _ _
      refine LWp.sim (e := [(0, .isl 3 (a0.map e_QFileEvent) false), (1, .int .i64 a1), (7, .osl (0, 0) 2 (v6.map e_QFileBatch)), (9, .int .i64 v8), (10, .ptr (1, 0) 0 0), (18, .int .i64 ((a0.map e_QFileEvent).length : Int)), (19, .int .i64 v8)]) (L := [((0, 0), .tok), ((1, 0), .one [.int .i64 v13.f_Time, .isl 3 (v13.f_Events.map e_QFileEvent) false])]) (n := 2) ?_ ?_
      · exact simI (M := [((0, 0), (0, 0)), ((1, 0), (1, 0))]) rfl (And.intro (Vw.same _ rfl) (And.intro (Vw.same _ rfl) (And.intro (Vw.osl _ _ _ _ rfl) (And.intro (Vw.same _ rfl) (And.intro (Vw.ptr _ _ _ _ rfl) (And.intro (Vw.same _ rfl) (And.intro (Vw.same _ rfl) trivial))))))) (And.intro (And.intro rfl BVw.tok) (And.intro (And.intro rfl (BVw.oneL (And.intro (Vw.same _ rfl) (And.intro (Vw.same _ rfl) trivial)))) trivial))
      refine seqI ?_
      refine regI ?_
      refine condI (v := (decide (((v13.f_Events.map e_QFileEvent).length : Int) > 0))) rfl trivial (fun h25 => ?_) (fun h25 => ?_)
      · have h := ite_tt h25 h
        refine regI ?_
        obtain ⟨h26, h⟩ := ite_some h
        refine Exists.intro ((v6 ++ ([v13] : List G_QFileBatch)).map e_QFileBatch) (And.intro (app_enc e_QFileBatch v6 ([v13] : List G_QFileBatch)) (And.intro h26 ?_))
        refine LWp.sim ?_ (f6_j5_ok h)
        exact simI (M := [((0, 0), (2, 0))]) rfl (And.intro (Vw.same _ rfl) (And.intro (Vw.same _ rfl) (And.intro (Vw.osl _ _ _ _ rfl) (And.intro (Vw.same _ rfl) (And.intro (Vw.same _ rfl) (And.intro (Vw.same _ rfl) trivial)))))) (And.intro (And.intro rfl BVw.tok) trivial)
      · have h := ite_ff h25 h
        refine skipI ?_
        refine LWp.sim ?_ (f6_j5_ok h)
        exact simI (M := [((0, 0), (0, 0))]) rfl (And.intro (Vw.same _ rfl) (And.intro (Vw.same _ rfl) (And.intro (Vw.osl _ _ _ _ rfl) (And.intro (Vw.same _ rfl) (And.intro (Vw.same _ rfl) (And.intro (Vw.same _ rfl) trivial)))))) (And.intro (And.intro rfl BVw.tok) trivial)
  · have h := ite_ff h19 h
    refine exitI ?_
    obtain ⟨o, hq, rfl⟩ := Option.map_eq_some_iff.1 h
    replace h := hq; clear hq
    refine And.intro nofun ?_
    refine LWp.sim ?_ (f6_j7_ok h)
    exact simI (M := [((0, 0), (0, 0))]) rfl (And.intro (Vw.osl _ _ _ _ rfl) trivial) (And.intro (And.intro rfl BVw.tok) trivial)

theorem f6_L1_ok {a0 : List G_QFileEvent} {a1 : Int} {v6 : List G_QFileBatch} {v7 : Int} {v8 : Int} {m : Option Nat} {o : ((List G_QFileBatch) × Int)} (h : S_filewatch_Batches_l1 m a0 a1 v6 v7 v8 = some o) :
    LWp Try.prog f6_lay 0 (.loop f6_c3) (QBlock 0 (QSeq Try.prog f6_lay 0 f6_c1 (f6_Q a0 a1 o))) [(0, .isl 3 (a0.map e_QFileEvent) false), (1, .int .i64 a1), (7, .osl (0, 0) 2 (v6.map e_QFileBatch)), (8, .int .i64 v7), (18, .int .i64 ((a0.map e_QFileEvent).length : Int)), (19, .int .i64 v8)] [((0, 0), .tok)] 1 :=
  LWp_loopM (m := m) (s := ((v6, v7, v8) : ((List G_QFileBatch) × Int × Int))) (r := o) (fun (s : ((List G_QFileBatch) × Int × Int)) => S_filewatch_Batches_b1 m a0 a1 s.1 s.2.1 s.2.2) (f6_L1_env a0 a1) (f6_L1_hp a0 a1) (f6_L1_Q a0 a1) (fun s o h => f6_L1_bok h) h

noncomputable def S_filewatch_Batches (m : Option Nat) (a0 : List G_QFileEvent) (a1 : Int) : Option ((List G_QFileBatch) × Int) :=
  (S_filewatch_validate m a0 a1).bind fun v1 =>
  if (v1 != 0) = true then
    some ([], v1)
  else
    S_filewatch_Batches_l1 m a0 a1 [] 0 0

theorem f6_start {a0 : List G_QFileEvent} {a1 : Int} {m : Option Nat} {o : (List G_QFileBatch) × Int} (h : S_filewatch_Batches m a0 a1 = some o) : LWp Try.prog f6_lay 0 f6_c4 (f6_Q a0 a1 o) (initEnv 0 [.isl 3 (a0.map e_QFileEvent) false, .int .i64 a1]) [] 0 := by
  unfold S_filewatch_Batches at h
  refine seqI ?_
  refine regI ?_
  refine seqI ?_
  refine seqI ?_
  refine regI ?_
  obtain ⟨v1, h1, h⟩ := bind_some h
  refine PFn.call (f23_ok h1) (And.intro (Vw.same _ rfl) (And.intro (Vw.same _ rfl) trivial)) ?_
  show yops _ _ _ [(13, .int .i64 v1), (12, .int .i64 a1), (11, .isl 3 (a0.map e_QFileEvent) false), (5, .int .i64 0), (4, .val (.slice none 0 0)), (0, .isl 3 (a0.map e_QFileEvent) false), (1, .int .i64 a1)] _ _
  refine seqI ?_
  refine regI ?_
  refine LWp.sim (e := [(0, .isl 3 (a0.map e_QFileEvent) false), (1, .int .i64 a1), (6, .int .i64 v1), (15, .bool (v1 != 0))]) (L := []) (n := 0) ?_ ?_
  · exact simI (M := []) rfl (And.intro (Vw.same _ rfl) (And.intro (Vw.same _ rfl) (And.intro (Vw.same _ rfl) (And.intro (Vw.same _ rfl) trivial)))) trivial
  refine condI (v := (v1 != 0)) rfl trivial (fun h2 => ?_) (fun h2 => ?_)
  · have h := ite_tt h2 h
    refine seqI ?_
    refine regI ?_
    refine retI ?_
    cases h
    exact And.intro trivial (And.intro trivial (And.intro rfl (Vw.tupL (And.intro (Vw.nilI _ _) (And.intro (Vw.same _ rfl) trivial)))))
  · have h := ite_ff h2 h
    refine skipI ?_
    refine seqI ?_
    refine regI ?_
    refine seqI ?_
    refine regI ?_
    refine seqI ?_
    refine seqI ?_
    refine regI ?_
    refine blockI ?_
    refine LWp.sim ?_ (f6_L1_ok h)
    exact simI (M := []) rfl (And.intro (Vw.same _ rfl) (And.intro (Vw.same _ rfl) (And.intro (Vw.nilO _ _ (by decide)) (And.intro (Vw.same _ rfl) (And.intro (Vw.same _ rfl) (And.intro (Vw.same _ rfl) trivial)))))) (And.intro (And.intro rfl (And.intro (by decide) (by decide))) trivial)

theorem f6_ok {a0 : List G_QFileEvent} {a1 : Int} {m : Option Nat} {o : (List G_QFileBatch) × Int} (h : S_filewatch_Batches m a0 a1 = some o) : PFn Try.prog 6 [.isl 3 (a0.map e_QFileEvent) false, .int .i64 a1] (.tup [.isl 2 (o.1.map e_QFileBatch) false, .int .i64 o.2]) := PFn.ofFnW (L := f6_L) f6_low f6_fok (Nat.le_of_ble_eq_true rfl) rfl (f6_start h)

def f22_c1 : LCode := (.seq (.region [⟨some 15, .bin .lss (.t 14) (.t 13), none⟩])
 (.seq (.cond (.t 15)
  .skip
  (.exit 0))
 (.seq (.block 1
  (.seq (.region [⟨some 16, .mv (.t 14), none⟩,
    ⟨some 17, .iaddr 3 (.t 12) (.t 14), none⟩,
    ⟨some 18, .load true 3 (.t 17), none⟩,
    ⟨some 6, .alloc [(.int .i64 0), (.str []), (.int .i64 0)], none⟩,
    ⟨some 5, .mv (.t 16), none⟩,
    ⟨none, .store 3 (.t 6) (.t 18), none⟩])
  (.seq (.quiet [⟨some 19, .load true 3 (.t 6), none⟩,
    ⟨some 20, .mv (.t 1), none⟩,
    ⟨some 21, .mv (.t 5), none⟩,
    ⟨some 22, .iaddr 3 (.t 20) (.t 21), none⟩,
    ⟨some 23, .load true 3 (.t 22), none⟩,
    ⟨some 24, .eq true (.agg [.int, .str, .int]) (.t 19) (.t 23), none⟩])
  (.cond (.t 24)
   (.seq (.region [⟨some 4, .mv (.c (.bool false)), none⟩])
   .ret)
   .skip))))
 (.region [⟨some 25, .bin .add (.t 14) (.c (.int .i64 1)), none⟩,
   ⟨some 14, .mv (.t 25), none⟩]))))
def f22_c0 : LCode := (.seq (.region [⟨some 4, .mv (.c (.bool true)), none⟩])
 .ret)
def f22_c2 : LCode := (.seq (.region [⟨some 4, .mv (.c (.bool false)), none⟩])
 (.seq (.seq (.region [⟨some 7, .mv (.t 0), none⟩,
   ⟨some 8, .len false (.t 7), none⟩,
   ⟨some 9, .mv (.t 1), none⟩,
   ⟨some 10, .len false (.t 9), none⟩,
   ⟨some 11, .bin .neq (.t 8) (.t 10), none⟩])
 (.cond (.t 11)
  (.seq (.region [⟨some 4, .mv (.c (.bool false)), none⟩])
  .ret)
  .skip))
 (.seq (.seq (.region [⟨some 12, .mv (.t 0), none⟩,
   ⟨some 13, .len false (.t 12), none⟩,
   ⟨some 14, .mv (.c (.int .i64 0)), none⟩])
 (.block 0
  (.loop
   f22_c1)))
 f22_c0)))
def f22_lay : Lay := ⟨26, [], false⟩
def f22_res : List LRes := [.t 4]
def f22_L : LFn := ⟨2, f22_lay, f22_c2, f22_res⟩
theorem f22_low : lowFn Try.prog [] 22 = some f22_L := by kernel_rfl
theorem f22_fok : FnOk Try.prog 22 := ⟨_, Try.func22, rfl, rfl⟩
def f22_Q (a0 : List G_QFileEvent) (a1 : List G_QFileEvent) (o : Bool) : Exit → Env → AHeap → Nat → Prop := FinK f22_res (PureEnd (.bool o))

def f22_L1_env (a0 : List G_QFileEvent) (a1 : List G_QFileEvent) (s : Int) : Env := [(1, .isl 3 (a1.map e_QFileEvent) false), (12, .isl 3 (a0.map e_QFileEvent) false), (13, .int .i64 ((a0.map e_QFileEvent).length : Int)), (14, .int .i64 s)]
def f22_L1_hp (a0 : List G_QFileEvent) (a1 : List G_QFileEvent) (s : Int) : AHeap := []
def f22_L1_Q (a0 : List G_QFileEvent) (a1 : List G_QFileEvent) (o : Bool) : Exit → Env → AHeap → Nat → Prop := (QBlock 0 (QSeq Try.prog f22_lay 0 f22_c0 (f22_Q a0 a1 o)))

noncomputable def S_glossatorref3_Equal_api_QFileEvent_j1 (m : Option Nat) : Option Bool :=
  some true

noncomputable def S_glossatorref3_Equal_api_QFileEvent_b1 (m : Option Nat) (a0 : List G_QFileEvent) (a1 : List G_QFileEvent) (v1 : Int) : Option (Int ⊕ Bool) :=
  if (decide (v1 < ((a0.map e_QFileEvent).length : Int))) = true then
    if (0 : Int) ≤ v1 ∧ v1 < ((a0.map e_QFileEvent).length : Int) then
    if (0 : Int) ≤ v1 ∧ v1 < ((a1.map e_QFileEvent).length : Int) then
    if (!(((a0.getD v1.toNat default).f_Time == (a1.getD v1.toNat default).f_Time) && (((a0.getD v1.toNat default).f_Path == (a1.getD v1.toNat default).f_Path) && (((a0.getD v1.toNat default).f_Kind == (a1.getD v1.toNat default).f_Kind) && true)))) = true then
      Option.map Sum.inr (
        some false)
    else
      some (.inl (W (v1 + 1)))
    else none
    else none
  else
    Option.map Sum.inr (
      S_glossatorref3_Equal_api_QFileEvent_j1 m)

noncomputable def S_glossatorref3_Equal_api_QFileEvent_l1 (m : Option Nat) (a0 : List G_QFileEvent) (a1 : List G_QFileEvent) (v1 : Int) : Option Bool := loopM m (fun (s : Int) => S_glossatorref3_Equal_api_QFileEvent_b1 m a0 a1 s) v1

theorem f22_j1_ok {a0 : List G_QFileEvent} {a1 : List G_QFileEvent} {m : Option Nat} {o : Bool} (h : S_glossatorref3_Equal_api_QFileEvent_j1 m = some o) :
    LWp Try.prog f22_lay 0 f22_c0 (f22_Q a0 a1 o) [] [] 0 := by
  unfold S_glossatorref3_Equal_api_QFileEvent_j1 at h
  refine seqI ?_
  refine regI ?_
  refine retI ?_
  cases h
  exact And.intro trivial (And.intro rfl (Vw.same _ rfl))

theorem f22_L1_bok {a0 : List G_QFileEvent} {a1 : List G_QFileEvent} {v1 : Int} {m : Option Nat} {o : Int ⊕ Bool} (h : S_glossatorref3_Equal_api_QFileEvent_b1 m a0 a1 v1 = some o) :
    LWp Try.prog f22_lay 0 f22_c1 (BodyQ 0 0 (f22_L1_env a0 a1) (f22_L1_hp a0 a1) (f22_L1_Q a0 a1) o) [(1, .isl 3 (a1.map e_QFileEvent) false), (12, .isl 3 (a0.map e_QFileEvent) false), (13, .int .i64 ((a0.map e_QFileEvent).length : Int)), (14, .int .i64 v1)] [] 0 := by
  unfold S_glossatorref3_Equal_api_QFileEvent_b1 at h
  refine seqI ?_
  refine regI ?_
  refine seqI ?_
  refine condI (v := (decide (v1 < ((a0.map e_QFileEvent).length : Int)))) rfl trivial (fun h10 => ?_) (fun h10 => ?_)
  · have h := ite_tt h10 h
    refine skipI ?_
    refine seqI ?_
    refine blockI ?_
    refine seqI ?_
    refine regI ?_
    obtain ⟨h11, h⟩ := ite_some h
    refine And.intro h11 ?_
    refine Exists.intro (e_QFileEvent (a0.getD v1.toNat default)) (And.intro (getD_enc e_QFileEvent _ _ (idx_ltL e_QFileEvent h11)) (And.intro (And.intro (idx_lt h11) (Nat.le_of_ble_eq_true rfl)) ?_))
    refine seqI ?_
    refine quietI ?_
    obtain ⟨h12, h⟩ := ite_some h
    refine And.intro h12 ?_
    show yqs _ _ [(22, .iptr 3 (a1.map e_QFileEvent) v1.toNat 0), (21, .int .i64 v1), (20, .isl 3 (a1.map e_QFileEvent) false), (19, .agg [.int .i64 ((a0.getD v1.toNat default).f_Time), .str ((a0.getD v1.toNat default).f_Path), .int .i64 ((a0.getD v1.toNat default).f_Kind)]), (5, .int .i64 v1), (6, .ptr (0, 0) 0 0), (18, .agg [.int .i64 ((a0.getD v1.toNat default).f_Time), .str ((a0.getD v1.toNat default).f_Path), .int .i64 ((a0.getD v1.toNat default).f_Kind)]), (17, .iptr 3 (a0.map e_QFileEvent) v1.toNat 0), (16, .int .i64 v1), (15, .bool (decide (v1 < ((a0.map e_QFileEvent).length : Int)))), (1, .isl 3 (a1.map e_QFileEvent) false), (12, .isl 3 (a0.map e_QFileEvent) false), (13, .int .i64 ((a0.map e_QFileEvent).length : Int)), (14, .int .i64 v1)] _ _
    refine Exists.intro (e_QFileEvent (a1.getD v1.toNat default)) (And.intro (getD_enc e_QFileEvent _ _ (idx_ltL e_QFileEvent h12)) (And.intro (And.intro (idx_lt h12) (Nat.le_of_ble_eq_true rfl)) ?_))
    refine LWp.sim (e := [(1, .isl 3 (a1.map e_QFileEvent) false), (12, .isl 3 (a0.map e_QFileEvent) false), (13, .int .i64 ((a0.map e_QFileEvent).length : Int)), (14, .int .i64 v1), (24, .bool (!(((a0.getD v1.toNat default).f_Time == (a1.getD v1.toNat default).f_Time) && (((a0.getD v1.toNat default).f_Path == (a1.getD v1.toNat default).f_Path) && (((a0.getD v1.toNat default).f_Kind == (a1.getD v1.toNat default).f_Kind) && true)))))]) (L := []) (n := 0) ?_ ?_
    · exact simI (M := []) rfl (And.intro (Vw.same _ rfl) (And.intro (Vw.same _ rfl) (And.intro (Vw.same _ rfl) (And.intro (Vw.same _ rfl) (And.intro (Vw.same _ rfl) trivial))))) trivial
    refine condI (v := (!(((a0.getD v1.toNat default).f_Time == (a1.getD v1.toNat default).f_Time) && (((a0.getD v1.toNat default).f_Path == (a1.getD v1.toNat default).f_Path) && (((a0.getD v1.toNat default).f_Kind == (a1.getD v1.toNat default).f_Kind) && true))))) rfl trivial (fun h13 => ?_) (fun h13 => ?_)
    · have h := ite_tt h13 h
      refine seqI ?_
      refine regI ?_
      refine retI ?_
      obtain ⟨o, hq, rfl⟩ := Option.map_eq_some_iff.1 h
      replace h := hq; clear hq
      refine And.intro nofun ?_
      cases h
      exact And.intro trivial (And.intro rfl (Vw.same _ rfl))
    · have h := ite_ff h13 h
      refine skipI ?_
      refine regI ?_
      cases h
      exact And.intro rfl (simI (M := []) rfl (And.intro (Vw.same _ rfl) (And.intro (Vw.same _ rfl) (And.intro (Vw.same _ rfl) (And.intro (Vw.same _ rfl) trivial)))) trivial)
  · have h := ite_ff h10 h
    refine exitI ?_
    obtain ⟨o, hq, rfl⟩ := Option.map_eq_some_iff.1 h
    replace h := hq; clear hq
    refine And.intro nofun ?_
    refine LWp.sim ?_ (f22_j1_ok h)
    exact simI (M := []) rfl trivial trivial

theorem f22_L1_ok {a0 : List G_QFileEvent} {a1 : List G_QFileEvent} {v1 : Int} {m : Option Nat} {o : Bool} (h : S_glossatorref3_Equal_api_QFileEvent_l1 m a0 a1 v1 = some o) :
    LWp Try.prog f22_lay 0 (.loop f22_c1) (QBlock 0 (QSeq Try.prog f22_lay 0 f22_c0 (f22_Q a0 a1 o))) [(1, .isl 3 (a1.map e_QFileEvent) false), (12, .isl 3 (a0.map e_QFileEvent) false), (13, .int .i64 ((a0.map e_QFileEvent).length : Int)), (14, .int .i64 v1)] [] 0 :=
  LWp_loopM (m := m) (s := (v1 : Int)) (r := o) (fun (s : Int) => S_glossatorref3_Equal_api_QFileEvent_b1 m a0 a1 s) (f22_L1_env a0 a1) (f22_L1_hp a0 a1) (f22_L1_Q a0 a1) (fun s o h => f22_L1_bok h) h

noncomputable def S_glossatorref3_Equal_api_QFileEvent (m : Option Nat) (a0 : List G_QFileEvent) (a1 : List G_QFileEvent) : Option Bool :=
  if (((a0.map e_QFileEvent).length : Int) != ((a1.map e_QFileEvent).length : Int)) = true then
    some false
  else
    S_glossatorref3_Equal_api_QFileEvent_l1 m a0 a1 0

theorem f22_start {a0 : List G_QFileEvent} {a1 : List G_QFileEvent} {m : Option Nat} {o : Bool} (h : S_glossatorref3_Equal_api_QFileEvent m a0 a1 = some o) : LWp Try.prog f22_lay 0 f22_c2 (f22_Q a0 a1 o) (initEnv 0 [.isl 3 (a0.map e_QFileEvent) false, .isl 3 (a1.map e_QFileEvent) false]) [] 0 := by
  unfold S_glossatorref3_Equal_api_QFileEvent at h
  refine seqI ?_
  refine regI ?_
  refine seqI ?_
  refine seqI ?_
  refine regI ?_
  refine condI (v := (((a0.map e_QFileEvent).length : Int) != ((a1.map e_QFileEvent).length : Int))) rfl trivial (fun h1 => ?_) (fun h1 => ?_)
  · have h := ite_tt h1 h
    refine seqI ?_
    refine regI ?_
    refine retI ?_
    cases h
    exact And.intro trivial (And.intro rfl (Vw.same _ rfl))
  · have h := ite_ff h1 h
    refine skipI ?_
    refine seqI ?_
    refine seqI ?_
    refine regI ?_
    refine LWp.sim (e := [(1, .isl 3 (a1.map e_QFileEvent) false), (12, .isl 3 (a0.map e_QFileEvent) false), (13, .int .i64 ((a0.map e_QFileEvent).length : Int)), (14, .int .i64 0)]) (L := []) (n := 0) ?_ ?_
    · exact simI (M := []) rfl (And.intro (Vw.same _ rfl) (And.intro (Vw.same _ rfl) (And.intro (Vw.same _ rfl) (And.intro (Vw.same _ rfl) trivial)))) trivial
    refine blockI ?_
    refine LWp.sim ?_ (f22_L1_ok h)
    exact simI (M := []) rfl (And.intro (Vw.same _ rfl) (And.intro (Vw.same _ rfl) (And.intro (Vw.same _ rfl) (And.intro (Vw.same _ rfl) trivial)))) trivial

theorem f22_ok {a0 : List G_QFileEvent} {a1 : List G_QFileEvent} {m : Option Nat} {o : Bool} (h : S_glossatorref3_Equal_api_QFileEvent m a0 a1 = some o) : PFn Try.prog 22 [.isl 3 (a0.map e_QFileEvent) false, .isl 3 (a1.map e_QFileEvent) false] (.bool o) := PFn.ofFnW (L := f22_L) f22_low f22_fok (Nat.le_of_ble_eq_true rfl) rfl (f22_start h)

def f5_c0 : LCode := (.seq (.region [⟨some 0, .mv (.c (.bool false)), none⟩])
 (.seq (.region [⟨some 4, .build [(.int .i64 0), (.str []), (.int .i64 0)] [(0, 1, (.c (.int .i64 0))), (1, 1, (.c (.str [97]))), (2, 1, (.c (.int .i64 1)))], none⟩,
   ⟨some 5, .build [(.int .i64 0), (.str []), (.int .i64 0)] [(0, 1, (.c (.int .i64 50))), (1, 1, (.c (.str [97]))), (2, 1, (.c (.int .i64 2)))], none⟩,
   ⟨some 6, .build [(.int .i64 0), (.str []), (.int .i64 0)] [(0, 1, (.c (.int .i64 200))), (1, 1, (.c (.str [98]))), (2, 1, (.c (.int .i64 3)))], none⟩,
   ⟨some 7, .mkSl true 3 [(.int .i64 0), (.str []), (.int .i64 0)] 3 [(0, (.t 4)), (1, (.t 5)), (2, (.t 6))], none⟩,
   ⟨some 8, .call 6 [(.t 7), (.c (.int .i64 100))], none⟩,
   ⟨some 3, .mv (.t 8), none⟩,
   ⟨some 9, .ext 0 (.t 3), none⟩,
   ⟨some 10, .ext 1 (.t 3), none⟩,
   ⟨some 1, .mv (.t 9), none⟩,
   ⟨some 2, .mv (.t 10), none⟩])
 (.seq (.region [⟨some 11, .mv (.t 2), none⟩,
   ⟨some 12, .bin .eql (.t 11) (.c (.int .i64 0)), none⟩,
   ⟨some 13, .mv (.t 12), none⟩,
   ⟨some 14, .mv (.t 1), some (13, true)⟩,
   ⟨some 15, .len false (.t 14), some (13, true)⟩,
   ⟨some 16, .bin .eql (.t 15) (.c (.int .i64 2)), some (13, true)⟩,
   ⟨some 17, .pick (.t 13) (.t 16) (.c (.bool false)), none⟩,
   ⟨some 18, .mv (.t 17), none⟩,
   ⟨some 19, .mv (.t 1), some (18, true)⟩,
   ⟨some 20, .iaddr 2 (.t 19) (.c (.int .i64 0)), some (18, true)⟩,
   ⟨some 21, .faddr 0 (.t 20), some (18, true)⟩,
   ⟨some 22, .load false 1 (.t 21), some (18, true)⟩,
   ⟨some 23, .bin .eql (.t 22) (.c (.int .i64 150)), some (18, true)⟩,
   ⟨some 24, .pick (.t 18) (.t 23) (.c (.bool false)), none⟩,
   ⟨some 25, .mv (.t 24), none⟩,
   ⟨some 26, .mv (.t 1), some (25, true)⟩,
   ⟨some 27, .iaddr 2 (.t 26) (.c (.int .i64 0)), some (25, true)⟩,
   ⟨some 28, .faddr 1 (.t 27), some (25, true)⟩,
   ⟨some 29, .load false 1 (.t 28), some (25, true)⟩,
   ⟨some 30, .build [(.int .i64 0), (.str []), (.int .i64 0)] [(0, 1, (.c (.int .i64 50))), (1, 1, (.c (.str [97]))), (2, 1, (.c (.int .i64 1)))], some (25, true)⟩,
   ⟨some 31, .mkSl true 3 [(.int .i64 0), (.str []), (.int .i64 0)] 1 [(0, (.t 30))], some (25, true)⟩,
   ⟨some 32, .call 22 [(.t 29), (.t 31)], some (25, true)⟩,
   ⟨some 33, .pick (.t 25) (.t 32) (.c (.bool false)), none⟩,
   ⟨some 34, .mv (.t 33), none⟩,
   ⟨some 35, .mv (.t 1), some (34, true)⟩,
   ⟨some 36, .iaddr 2 (.t 35) (.c (.int .i64 1)), some (34, true)⟩,
   ⟨some 37, .faddr 0 (.t 36), some (34, true)⟩,
   ⟨some 38, .load false 1 (.t 37), some (34, true)⟩,
   ⟨some 39, .bin .eql (.t 38) (.c (.int .i64 300)), some (34, true)⟩,
   ⟨some 40, .pick (.t 34) (.t 39) (.c (.bool false)), none⟩,
   ⟨some 0, .mv (.t 40), none⟩])
 .ret)))
def f5_lay : Lay := ⟨41, [], false⟩
def f5_res : List LRes := [.t 0]
def f5_L : LFn := ⟨0, f5_lay, f5_c0, f5_res⟩
theorem f5_low : lowFn Try.prog [] 5 = some f5_L := by kernel_rfl
theorem f5_fok : FnOk Try.prog 5 := ⟨_, Try.func5, rfl, rfl⟩
noncomputable def S_glossatorlaw3_watchExample (m : Option Nat) : Option Bool :=
  (S_filewatch_Batches m ([(G_QFileEvent.mk 0 ([97] : List UInt8) 1), (G_QFileEvent.mk 50 ([97] : List UInt8) 2), (G_QFileEvent.mk 200 ([98] : List UInt8) 3)] : List G_QFileEvent) 100).bind fun v1 =>
  if ((((v1.2 == 0) && (((v1.1.map e_QFileBatch).length : Int) == 2)) == true) = true → (0 : Int) ≤ 0 ∧ 0 < ((v1.1.map e_QFileBatch).length : Int)) then
  if (((((v1.2 == 0) && (((v1.1.map e_QFileBatch).length : Int) == 2)) && ((v1.1.getD ((0 : Int).toNat) default).f_Time == 150)) == true) = true → (0 : Int) ≤ 0 ∧ 0 < ((v1.1.map e_QFileBatch).length : Int)) then
  (if ((((v1.2 == 0) && (((v1.1.map e_QFileBatch).length : Int) == 2)) && ((v1.1.getD ((0 : Int).toNat) default).f_Time == 150)) == true) = true then S_glossatorref3_Equal_api_QFileEvent m ((v1.1.getD ((0 : Int).toNat) default).f_Events) ([(G_QFileEvent.mk 50 ([97] : List UInt8) 1)] : List G_QFileEvent) else some default).bind fun v2 =>
  if ((((((v1.2 == 0) && (((v1.1.map e_QFileBatch).length : Int) == 2)) && ((v1.1.getD ((0 : Int).toNat) default).f_Time == 150)) && v2) == true) = true → (0 : Int) ≤ 1 ∧ 1 < ((v1.1.map e_QFileBatch).length : Int)) then
  some (((((v1.2 == 0) && (((v1.1.map e_QFileBatch).length : Int) == 2)) && ((v1.1.getD ((0 : Int).toNat) default).f_Time == 150)) && v2) && ((v1.1.getD ((1 : Int).toNat) default).f_Time == 300))
  else none
  else none
  else none

def f5_Q (o : Bool) : Exit → Env → AHeap → Nat → Prop := FinK f5_res (PureEnd (.bool o))

theorem f5_start {m : Option Nat} {o : Bool} (h : S_glossatorlaw3_watchExample m = some o) : LWp Try.prog f5_lay 0 f5_c0 (f5_Q o) (initEnv 0 []) [] 0 := by
  unfold S_glossatorlaw3_watchExample at h
  refine seqI ?_
  refine regI ?_
  refine seqI ?_
  refine regI ?_
  obtain ⟨v1, h1, h⟩ := bind_some h
  refine PFn.call (f6_ok h1) (And.intro (Vw.islF _ _ _) (And.intro (Vw.same _ rfl) trivial)) ?_
  show yops _ _ _ [(8, .tup [.isl 2 (v1.1.map e_QFileBatch) false, .int .i64 v1.2]), (7, .isl 3 (([(G_QFileEvent.mk 0 ([97] : List UInt8) 1), (G_QFileEvent.mk 50 ([97] : List UInt8) 2), (G_QFileEvent.mk 200 ([98] : List UInt8) 3)] : List G_QFileEvent).map e_QFileEvent) true), (6, .agg [.int .i64 200, .str ([98] : List UInt8), .int .i64 3]), (5, .agg [.int .i64 50, .str ([97] : List UInt8), .int .i64 2]), (4, .agg [.int .i64 0, .str ([97] : List UInt8), .int .i64 1]), (0, .bool false)] _ _
  refine LWp.sim (e := [(1, .isl 2 (v1.1.map e_QFileBatch) false), (2, .int .i64 v1.2)]) (L := []) (n := 0) ?_ ?_
  · exact simI (M := []) rfl (And.intro (Vw.same _ rfl) (And.intro (Vw.same _ rfl) trivial)) trivial
  refine seqI ?_
  refine regI ?_
  refine And.intro (fun hp => hp) ?_
  show yops _ _ _ [(15, .cnd ((v1.2 == 0) == true) (.int .i64 ((v1.1.map e_QFileBatch).length : Int))), (14, .cnd ((v1.2 == 0) == true) (.isl 2 (v1.1.map e_QFileBatch) false)), (13, .bool (v1.2 == 0)), (12, .bool (v1.2 == 0)), (11, .int .i64 v1.2), (1, .isl 2 (v1.1.map e_QFileBatch) false), (2, .int .i64 v1.2)] _ _
  refine And.intro (fun hp => hp) ?_
  refine And.intro (fun hc => (bqt hc)) ?_
  obtain ⟨h2, h⟩ := ite_some h
  refine And.intro (fun hp => (And.intro hp (h2 hp))) ?_
  show yops _ _ _ [(20, .cnd (((v1.2 == 0) && (((v1.1.map e_QFileBatch).length : Int) == 2)) == true) (.iptr 2 (v1.1.map e_QFileBatch) ((0 : Int).toNat) 0)), (19, .cnd (((v1.2 == 0) && (((v1.1.map e_QFileBatch).length : Int) == 2)) == true) (.isl 2 (v1.1.map e_QFileBatch) false)), (18, .bool ((v1.2 == 0) && (((v1.1.map e_QFileBatch).length : Int) == 2))), (17, .bool ((v1.2 == 0) && (((v1.1.map e_QFileBatch).length : Int) == 2))), (16, .cnd ((v1.2 == 0) == true) (.bool (((v1.1.map e_QFileBatch).length : Int) == 2))), (15, .cnd ((v1.2 == 0) == true) (.int .i64 ((v1.1.map e_QFileBatch).length : Int))), (14, .cnd ((v1.2 == 0) == true) (.isl 2 (v1.1.map e_QFileBatch) false)), (13, .bool (v1.2 == 0)), (12, .bool (v1.2 == 0)), (11, .int .i64 v1.2), (1, .isl 2 (v1.1.map e_QFileBatch) false), (2, .int .i64 v1.2)] _ _
  refine And.intro (fun hp => hp) ?_
  refine Exists.intro (e_QFileBatch (v1.1.getD ((0 : Int).toNat) default)) (And.intro (fun hp => And.intro (getD_enc e_QFileBatch _ _ (idx_ltL e_QFileBatch (h2 hp))) (And.intro hp (And.intro (idx_lt (h2 hp)) (Nat.le_of_ble_eq_true rfl)))) ?_)
  refine And.intro (fun hp => hp) ?_
  refine And.intro (fun hc => (bqt hc)) ?_
  obtain ⟨h3, h⟩ := ite_some h
  refine And.intro (fun hp => (And.intro hp (h3 hp))) ?_
  show yops _ _ _ [(27, .cnd ((((v1.2 == 0) && (((v1.1.map e_QFileBatch).length : Int) == 2)) && ((v1.1.getD ((0 : Int).toNat) default).f_Time == 150)) == true) (.iptr 2 (v1.1.map e_QFileBatch) ((0 : Int).toNat) 0)), (26, .cnd ((((v1.2 == 0) && (((v1.1.map e_QFileBatch).length : Int) == 2)) && ((v1.1.getD ((0 : Int).toNat) default).f_Time == 150)) == true) (.isl 2 (v1.1.map e_QFileBatch) false)), (25, .bool (((v1.2 == 0) && (((v1.1.map e_QFileBatch).length : Int) == 2)) && ((v1.1.getD ((0 : Int).toNat) default).f_Time == 150))), (24, .bool (((v1.2 == 0) && (((v1.1.map e_QFileBatch).length : Int) == 2)) && ((v1.1.getD ((0 : Int).toNat) default).f_Time == 150))), (23, .cnd (((v1.2 == 0) && (((v1.1.map e_QFileBatch).length : Int) == 2)) == true) (.bool ((v1.1.getD ((0 : Int).toNat) default).f_Time == 150))), (22, .cnd (((v1.2 == 0) && (((v1.1.map e_QFileBatch).length : Int) == 2)) == true) (.int .i64 ((v1.1.getD ((0 : Int).toNat) default).f_Time))), (21, .cnd (((v1.2 == 0) && (((v1.1.map e_QFileBatch).length : Int) == 2)) == true) (.iptr 2 (v1.1.map e_QFileBatch) ((0 : Int).toNat) 0)), (20, .cnd (((v1.2 == 0) && (((v1.1.map e_QFileBatch).length : Int) == 2)) == true) (.iptr 2 (v1.1.map e_QFileBatch) ((0 : Int).toNat) 0)), (19, .cnd (((v1.2 == 0) && (((v1.1.map e_QFileBatch).length : Int) == 2)) == true) (.isl 2 (v1.1.map e_QFileBatch) false)), (18, .bool ((v1.2 == 0) && (((v1.1.map e_QFileBatch).length : Int) == 2))), (17, .bool ((v1.2 == 0) && (((v1.1.map e_QFileBatch).length : Int) == 2))), (16, .cnd ((v1.2 == 0) == true) (.bool (((v1.1.map e_QFileBatch).length : Int) == 2))), (15, .cnd ((v1.2 == 0) == true) (.int .i64 ((v1.1.map e_QFileBatch).length : Int))), (14, .cnd ((v1.2 == 0) == true) (.isl 2 (v1.1.map e_QFileBatch) false)), (13, .bool (v1.2 == 0)), (12, .bool (v1.2 == 0)), (11, .int .i64 v1.2), (1, .isl 2 (v1.1.map e_QFileBatch) false), (2, .int .i64 v1.2)] _ _
  refine And.intro (fun hp => hp) ?_
  refine Exists.intro (e_QFileBatch (v1.1.getD ((0 : Int).toNat) default)) (And.intro (fun hp => And.intro (getD_enc e_QFileBatch _ _ (idx_ltL e_QFileBatch (h3 hp))) (And.intro hp (And.intro (idx_lt (h3 hp)) (Nat.le_of_ble_eq_true rfl)))) ?_)
  refine Or.inl (Exists.intro (.isl 3 (([(G_QFileEvent.mk 50 ([97] : List UInt8) 1)] : List G_QFileEvent).map e_QFileEvent) true) (And.intro (fun hp => And.intro hp (And.intro rfl (And.intro rfl rfl))) ?_))
  obtain ⟨v2, h4, h⟩ := bind_some h
  refine Or.inl (Exists.intro (.bool v2) (And.intro (fun hp => And.intro (And.intro hp hp) (PFn.call (f22_ok (ite_tt hp h4)) (And.intro (Vw.same _ rfl) (And.intro (Vw.islF _ _ _) trivial)) (And.intro rfl (And.intro rfl rfl)))) ?_))
  refine And.intro (fun hc => (bqt hc)) ?_
  show yops _ _ _ [(33, .bool ((((v1.2 == 0) && (((v1.1.map e_QFileBatch).length : Int) == 2)) && ((v1.1.getD ((0 : Int).toNat) default).f_Time == 150)) && v2)), (32, .cnd ((((v1.2 == 0) && (((v1.1.map e_QFileBatch).length : Int) == 2)) && ((v1.1.getD ((0 : Int).toNat) default).f_Time == 150)) == true) (.bool v2)), (31, .cnd ((((v1.2 == 0) && (((v1.1.map e_QFileBatch).length : Int) == 2)) && ((v1.1.getD ((0 : Int).toNat) default).f_Time == 150)) == true) (.isl 3 (([(G_QFileEvent.mk 50 ([97] : List UInt8) 1)] : List G_QFileEvent).map e_QFileEvent) true)), (30, .cnd ((((v1.2 == 0) && (((v1.1.map e_QFileBatch).length : Int) == 2)) && ((v1.1.getD ((0 : Int).toNat) default).f_Time == 150)) == true) (.agg [.int .i64 50, .str ([97] : List UInt8), .int .i64 1])), (29, .cnd ((((v1.2 == 0) && (((v1.1.map e_QFileBatch).length : Int) == 2)) && ((v1.1.getD ((0 : Int).toNat) default).f_Time == 150)) == true) (.isl 3 (((v1.1.getD ((0 : Int).toNat) default).f_Events).map e_QFileEvent) false)), (28, .cnd ((((v1.2 == 0) && (((v1.1.map e_QFileBatch).length : Int) == 2)) && ((v1.1.getD ((0 : Int).toNat) default).f_Time == 150)) == true) (.iptr 2 (v1.1.map e_QFileBatch) ((0 : Int).toNat) 1)), (27, .cnd ((((v1.2 == 0) && (((v1.1.map e_QFileBatch).length : Int) == 2)) && ((v1.1.getD ((0 : Int).toNat) default).f_Time == 150)) == true) (.iptr 2 (v1.1.map e_QFileBatch) ((0 : Int).toNat) 0)), (26, .cnd ((((v1.2 == 0) && (((v1.1.map e_QFileBatch).length : Int) == 2)) && ((v1.1.getD ((0 : Int).toNat) default).f_Time == 150)) == true) (.isl 2 (v1.1.map e_QFileBatch) false)), (25, .bool (((v1.2 == 0) && (((v1.1.map e_QFileBatch).length : Int) == 2)) && ((v1.1.getD ((0 : Int).toNat) default).f_Time == 150))), (24, .bool (((v1.2 == 0) && (((v1.1.map e_QFileBatch).length : Int) == 2)) && ((v1.1.getD ((0 : Int).toNat) default).f_Time == 150))), (23, .cnd (((v1.2 == 0) && (((v1.1.map e_QFileBatch).length : Int) == 2)) == true) (.bool ((v1.1.getD ((0 : Int).toNat) default).f_Time == 150))), (22, .cnd (((v1.2 == 0) && (((v1.1.map e_QFileBatch).length : Int) == 2)) == true) (.int .i64 ((v1.1.getD ((0 : Int).toNat) default).f_Time))), (21, .cnd (((v1.2 == 0) && (((v1.1.map e_QFileBatch).length : Int) == 2)) == true) (.iptr 2 (v1.1.map e_QFileBatch) ((0 : Int).toNat) 0)), (20, .cnd (((v1.2 == 0) && (((v1.1.map e_QFileBatch).length : Int) == 2)) == true) (.iptr 2 (v1.1.map e_QFileBatch) ((0 : Int).toNat) 0)), (19, .cnd (((v1.2 == 0) && (((v1.1.map e_QFileBatch).length : Int) == 2)) == true) (.isl 2 (v1.1.map e_QFileBatch) false)), (18, .bool ((v1.2 == 0) && (((v1.1.map e_QFileBatch).length : Int) == 2))), (17, .bool ((v1.2 == 0) && (((v1.1.map e_QFileBatch).length : Int) == 2))), (16, .cnd ((v1.2 == 0) == true) (.bool (((v1.1.map e_QFileBatch).length : Int) == 2))), (15, .cnd ((v1.2 == 0) == true) (.int .i64 ((v1.1.map e_QFileBatch).length : Int))), (14, .cnd ((v1.2 == 0) == true) (.isl 2 (v1.1.map e_QFileBatch) false)), (13, .bool (v1.2 == 0)), (12, .bool (v1.2 == 0)), (11, .int .i64 v1.2), (1, .isl 2 (v1.1.map e_QFileBatch) false), (2, .int .i64 v1.2)] _ _
  obtain ⟨h5, h⟩ := ite_some h
  refine And.intro (fun hp => (And.intro hp (h5 hp))) ?_
  refine And.intro (fun hp => hp) ?_
  refine Exists.intro (e_QFileBatch (v1.1.getD ((1 : Int).toNat) default)) (And.intro (fun hp => And.intro (getD_enc e_QFileBatch _ _ (idx_ltL e_QFileBatch (h5 hp))) (And.intro hp (And.intro (idx_lt (h5 hp)) (Nat.le_of_ble_eq_true rfl)))) ?_)
  refine And.intro (fun hp => hp) ?_
  show yops _ _ _ [(39, .cnd (((((v1.2 == 0) && (((v1.1.map e_QFileBatch).length : Int) == 2)) && ((v1.1.getD ((0 : Int).toNat) default).f_Time == 150)) && v2) == true) (.bool ((v1.1.getD ((1 : Int).toNat) default).f_Time == 300))), (38, .cnd (((((v1.2 == 0) && (((v1.1.map e_QFileBatch).length : Int) == 2)) && ((v1.1.getD ((0 : Int).toNat) default).f_Time == 150)) && v2) == true) (.int .i64 ((v1.1.getD ((1 : Int).toNat) default).f_Time))), (37, .cnd (((((v1.2 == 0) && (((v1.1.map e_QFileBatch).length : Int) == 2)) && ((v1.1.getD ((0 : Int).toNat) default).f_Time == 150)) && v2) == true) (.iptr 2 (v1.1.map e_QFileBatch) ((1 : Int).toNat) 0)), (36, .cnd (((((v1.2 == 0) && (((v1.1.map e_QFileBatch).length : Int) == 2)) && ((v1.1.getD ((0 : Int).toNat) default).f_Time == 150)) && v2) == true) (.iptr 2 (v1.1.map e_QFileBatch) ((1 : Int).toNat) 0)), (35, .cnd (((((v1.2 == 0) && (((v1.1.map e_QFileBatch).length : Int) == 2)) && ((v1.1.getD ((0 : Int).toNat) default).f_Time == 150)) && v2) == true) (.isl 2 (v1.1.map e_QFileBatch) false)), (34, .bool ((((v1.2 == 0) && (((v1.1.map e_QFileBatch).length : Int) == 2)) && ((v1.1.getD ((0 : Int).toNat) default).f_Time == 150)) && v2)), (33, .bool ((((v1.2 == 0) && (((v1.1.map e_QFileBatch).length : Int) == 2)) && ((v1.1.getD ((0 : Int).toNat) default).f_Time == 150)) && v2)), (32, .cnd ((((v1.2 == 0) && (((v1.1.map e_QFileBatch).length : Int) == 2)) && ((v1.1.getD ((0 : Int).toNat) default).f_Time == 150)) == true) (.bool v2)), (31, .cnd ((((v1.2 == 0) && (((v1.1.map e_QFileBatch).length : Int) == 2)) && ((v1.1.getD ((0 : Int).toNat) default).f_Time == 150)) == true) (.isl 3 (([(G_QFileEvent.mk 50 ([97] : List UInt8) 1)] : List G_QFileEvent).map e_QFileEvent) true)), (30, .cnd ((((v1.2 == 0) && (((v1.1.map e_QFileBatch).length : Int) == 2)) && ((v1.1.getD ((0 : Int).toNat) default).f_Time == 150)) == true) (.agg [.int .i64 50, .str ([97] : List UInt8), .int .i64 1])), (29, .cnd ((((v1.2 == 0) && (((v1.1.map e_QFileBatch).length : Int) == 2)) && ((v1.1.getD ((0 : Int).toNat) default).f_Time == 150)) == true) (.isl 3 (((v1.1.getD ((0 : Int).toNat) default).f_Events).map e_QFileEvent) false)), (28, .cnd ((((v1.2 == 0) && (((v1.1.map e_QFileBatch).length : Int) == 2)) && ((v1.1.getD ((0 : Int).toNat) default).f_Time == 150)) == true) (.iptr 2 (v1.1.map e_QFileBatch) ((0 : Int).toNat) 1)), (27, .cnd ((((v1.2 == 0) && (((v1.1.map e_QFileBatch).length : Int) == 2)) && ((v1.1.getD ((0 : Int).toNat) default).f_Time == 150)) == true) (.iptr 2 (v1.1.map e_QFileBatch) ((0 : Int).toNat) 0)), (26, .cnd ((((v1.2 == 0) && (((v1.1.map e_QFileBatch).length : Int) == 2)) && ((v1.1.getD ((0 : Int).toNat) default).f_Time == 150)) == true) (.isl 2 (v1.1.map e_QFileBatch) false)), (25, .bool (((v1.2 == 0) && (((v1.1.map e_QFileBatch).length : Int) == 2)) && ((v1.1.getD ((0 : Int).toNat) default).f_Time == 150))), (24, .bool (((v1.2 == 0) && (((v1.1.map e_QFileBatch).length : Int) == 2)) && ((v1.1.getD ((0 : Int).toNat) default).f_Time == 150))), (23, .cnd (((v1.2 == 0) && (((v1.1.map e_QFileBatch).length : Int) == 2)) == true) (.bool ((v1.1.getD ((0 : Int).toNat) default).f_Time == 150))), (22, .cnd (((v1.2 == 0) && (((v1.1.map e_QFileBatch).length : Int) == 2)) == true) (.int .i64 ((v1.1.getD ((0 : Int).toNat) default).f_Time))), (21, .cnd (((v1.2 == 0) && (((v1.1.map e_QFileBatch).length : Int) == 2)) == true) (.iptr 2 (v1.1.map e_QFileBatch) ((0 : Int).toNat) 0)), (20, .cnd (((v1.2 == 0) && (((v1.1.map e_QFileBatch).length : Int) == 2)) == true) (.iptr 2 (v1.1.map e_QFileBatch) ((0 : Int).toNat) 0)), (19, .cnd (((v1.2 == 0) && (((v1.1.map e_QFileBatch).length : Int) == 2)) == true) (.isl 2 (v1.1.map e_QFileBatch) false)), (18, .bool ((v1.2 == 0) && (((v1.1.map e_QFileBatch).length : Int) == 2))), (17, .bool ((v1.2 == 0) && (((v1.1.map e_QFileBatch).length : Int) == 2))), (16, .cnd ((v1.2 == 0) == true) (.bool (((v1.1.map e_QFileBatch).length : Int) == 2))), (15, .cnd ((v1.2 == 0) == true) (.int .i64 ((v1.1.map e_QFileBatch).length : Int))), (14, .cnd ((v1.2 == 0) == true) (.isl 2 (v1.1.map e_QFileBatch) false)), (13, .bool (v1.2 == 0)), (12, .bool (v1.2 == 0)), (11, .int .i64 v1.2), (1, .isl 2 (v1.1.map e_QFileBatch) false), (2, .int .i64 v1.2)] _ _
  refine And.intro (fun hc => (bqt hc)) ?_
  refine LWp.sim (e := [(0, .bool (((((v1.2 == 0) && (((v1.1.map e_QFileBatch).length : Int) == 2)) && ((v1.1.getD ((0 : Int).toNat) default).f_Time == 150)) && v2) && ((v1.1.getD ((1 : Int).toNat) default).f_Time == 300)))]) (L := []) (n := 0) ?_ ?_
  · exact simI (M := []) rfl (And.intro (Vw.same _ rfl) trivial) trivial
  refine retI ?_
  cases h
  exact And.intro trivial (And.intro rfl (Vw.same _ rfl))

theorem f5_ok {m : Option Nat} {o : Bool} (h : S_glossatorlaw3_watchExample m = some o) : PFn Try.prog 5 [] (.bool o) := PFn.ofFnW (L := f5_L) f5_low f5_fok (Nat.le_of_ble_eq_true rfl) rfl (f5_start h)

def f17b0_c0 : LCode := (.seq (.region [⟨some 2, .mv (.c (.val (.pointer none))), none⟩,
   ⟨some 3, .mv (.c (.int .i64 0)), none⟩])
 (.seq (.seq (.region [⟨some 4, .mv (.t 0), none⟩,
   ⟨some 5, .bin .lss (.t 4) (.c (.int .i64 0)), none⟩,
   ⟨some 6, .mv (.t 5), none⟩,
   ⟨some 7, .mv (.t 0), some (6, false)⟩,
   ⟨some 8, .bin .gtr (.t 7) (.c (.int .i64 1000000)), some (6, false)⟩,
   ⟨some 9, .pick (.t 6) (.c (.bool true)) (.t 8), none⟩])
 (.cond (.t 9)
  (.seq (.region [⟨some 2, .mv (.c (.val (.pointer none))), none⟩,
    ⟨some 3, .mv (.c (.int .i64 1)), none⟩])
  .ret)
  .skip))
 (.seq (.region [⟨some 10, .mv (.t 0), none⟩,
   ⟨some 11, .build [(.int .i64 0), (.int .i64 0), (.isl 3 [] true)] [(0, 1, (.t 10))], none⟩,
   ⟨some 12, .box (.t 11), none⟩,
   ⟨some 2, .mv (.t 12), none⟩,
   ⟨some 3, .mv (.c (.int .i64 0)), none⟩])
 .ret)))
def f17b0_lay : Lay := ⟨13, [], false⟩
def f17b0_res : List LRes := [.t 2, .t 3]
def f17b0_L : LFn := ⟨1, f17b0_lay, f17b0_c0, f17b0_res⟩
theorem f17b0_low : lowFn Try.prog [] 17 = some f17b0_L := by kernel_rfl
theorem f17b0_fok : FnOk Try.prog 17 := ⟨_, Try.func17, rfl, rfl⟩
noncomputable def S_filewatch_NewWatcher (m : Option Nat) (a0 : Int) : Option (Int ⊕ Int) :=
  if ((decide (a0 < 0)) || (decide (a0 > 1000000))) = true then
    some (.inl 1)
  else
    some (.inr 0)

def f17b0_Q (a0 : Int) (o : Int ⊕ Int) : Exit → Env → AHeap → Nat → Prop := FinK f17b0_res (match o with | (.inl o) => FinTo 3 3 (.tup [.val (.pointer none), .int .i64 o]) [] | (.inr o) => FinTo 3 4 (.tup [.ptr (3, 0) 0 0, .int .i64 o]) [((3, 0), .one [.int .i64 a0, .int .i64 0, .isl 3 (([] : List G_QFileEvent).map e_QFileEvent) true])])

theorem f17b0_start {a0 : Int} {m : Option Nat} {o : Int ⊕ Int} (h : S_filewatch_NewWatcher m a0 = some o) : LWp Try.prog f17b0_lay 3 f17b0_c0 (f17b0_Q a0 o) (initEnv 0 [.int .i64 a0]) [] 3 := by
  unfold S_filewatch_NewWatcher at h
  refine seqI ?_
  refine regI ?_
  refine seqI ?_
  refine seqI ?_
  refine regI ?_
  refine And.intro (fun hp => hp) ?_
  show yops _ _ _ [(8, .cnd ((decide (a0 < 0)) == false) (.bool (decide (a0 > 1000000)))), (7, .cnd ((decide (a0 < 0)) == false) (.int .i64 a0)), (6, .bool (decide (a0 < 0))), (5, .bool (decide (a0 < 0))), (4, .int .i64 a0), (3, .int .i64 0), (2, .val (.pointer none)), (0, .int .i64 a0)] _ _
  refine And.intro (fun hc => (bqf hc)) ?_
  refine LWp.sim (e := [(0, .int .i64 a0), (9, .bool ((decide (a0 < 0)) || (decide (a0 > 1000000))))]) (L := []) (n := 3) ?_ ?_
  · exact simI (M := []) rfl (And.intro (Vw.same _ rfl) (And.intro (Vw.same _ rfl) trivial)) trivial
  refine condI (v := ((decide (a0 < 0)) || (decide (a0 > 1000000)))) rfl trivial (fun h1 => ?_) (fun h1 => ?_)
  · have h := ite_tt h1 h
    refine seqI ?_
    refine regI ?_
    refine retI ?_
    cases h
    exact And.intro trivial (And.intro trivial (finI (n' := 3) [] [] rfl rfl (Vw.same _ rfl) trivial))
  · have h := ite_ff h1 h
    refine skipI ?_
    refine seqI ?_
    refine regI ?_
    refine retI ?_
    cases h
    exact And.intro trivial (And.intro trivial (finI (n' := 4) [((3, 0), (3, 0))] [] rfl rfl (Vw.tupL (And.intro (Vw.ptr _ _ _ _ rfl) (And.intro (Vw.same _ rfl) trivial))) (And.intro (And.intro rfl (BVw.oneL (And.intro (Vw.same _ rfl) (And.intro (Vw.same _ rfl) (And.intro (Vw.same _ rfl) trivial))))) trivial)))

theorem f17b0_ok0 {a0 : Int} {m : Option Nat} {o : Int} (h : S_filewatch_NewWatcher m a0 = some ((.inl o))) : ACalls Try.prog 17 [.int .i64 a0] [] 3 (Gives 3 (.tup [.val (.pointer none), .int .i64 o]) []) := bfn_of (L := f17b0_L) f17b0_low f17b0_fok (Nat.le_of_ble_eq_true rfl) (f17b0_start h)

theorem f17b0_ok1 {a0 : Int} {m : Option Nat} {o : Int} (h : S_filewatch_NewWatcher m a0 = some ((.inr o))) : ACalls Try.prog 17 [.int .i64 a0] [] 3 (Gives 4 (.tup [.ptr (3, 0) 0 0, .int .i64 o]) [((3, 0), .one [.int .i64 a0, .int .i64 0, .isl 3 (([] : List G_QFileEvent).map e_QFileEvent) true])]) := bfn_of (L := f17b0_L) f17b0_low f17b0_fok (Nat.le_of_ble_eq_true rfl) (f17b0_start h)

def f20b0_c0 : LCode := (.seq (.region [⟨some 3, .box (.t 1), none⟩,
   ⟨some 4, .mv (.c (.int .i64 0)), none⟩])
 (.seq (.block 0
  (.seq (.region [⟨some 6, .faddr 2 (.t 3), none⟩,
    ⟨some 7, .load false 1 (.t 6), none⟩,
    ⟨some 8, .call 26 [(.t 7)], none⟩,
    ⟨some 9, .un .not (.t 8), none⟩,
    ⟨some 5, .mv (.t 9), none⟩])
  (.cond (.t 5)
   (.seq (.region [⟨some 4, .mv (.c (.int .i64 7)), none⟩])
   .ret)
   (.seq (.quiet [⟨some 11, .faddr 0 (.t 3), none⟩,
     ⟨some 12, .load false 1 (.t 11), none⟩,
     ⟨some 13, .bin .lss (.t 12) (.c (.int .i64 0)), none⟩,
     ⟨some 14, .mv (.t 13), none⟩,
     ⟨some 15, .faddr 0 (.t 3), some (14, false)⟩,
     ⟨some 16, .load false 1 (.t 15), some (14, false)⟩,
     ⟨some 17, .bin .gtr (.t 16) (.c (.int .i64 1000000000000)), some (14, false)⟩,
     ⟨some 18, .pick (.t 14) (.c (.bool true)) (.t 17), none⟩,
     ⟨some 19, .mv (.t 18), none⟩,
     ⟨some 20, .faddr 0 (.t 3), some (19, false)⟩,
     ⟨some 21, .load false 1 (.t 20), some (19, false)⟩,
     ⟨some 22, .mv (.t 0), some (19, false)⟩,
     ⟨some 23, .nilck (.t 22), some (19, false)⟩,
     ⟨some 24, .faddr 1 (.t 23), some (19, false)⟩,
     ⟨some 25, .load false 1 (.t 24), some (19, false)⟩,
     ⟨some 26, .bin .lss (.t 21) (.t 25), some (19, false)⟩,
     ⟨some 27, .pick (.t 19) (.c (.bool true)) (.t 26), none⟩,
     ⟨some 10, .mv (.t 27), none⟩])
   (.cond (.t 10)
    (.seq (.region [⟨some 4, .mv (.c (.int .i64 3)), none⟩])
    .ret)
    (.seq (.region [⟨some 29, .mv (.t 0), none⟩,
      ⟨some 30, .faddr 0 (.t 3), none⟩,
      ⟨some 31, .load false 1 (.t 30), none⟩,
      ⟨some 32, .call 32 [(.t 29), (.t 31)], none⟩,
      ⟨some 28, .mv (.t 32), none⟩])
    (.cond (.t 28)
     (.seq (.region [⟨some 4, .mv (.c (.int .i64 8)), none⟩])
     .ret)
     .skip)))))))
 (.seq (.region [⟨some 33, .mv (.t 0), none⟩,
   ⟨some 34, .faddr 0 (.t 3), none⟩,
   ⟨some 35, .load false 1 (.t 34), none⟩,
   ⟨some 36, .nilck (.t 33), none⟩,
   ⟨some 37, .faddr 1 (.t 36), none⟩,
   ⟨none, .store 1 (.t 37) (.t 35), none⟩])
 (.seq (.draw [⟨⟨some 38, .mv (.t 0), none⟩, []⟩,
   ⟨⟨some 39, .mv (.t 0), none⟩, []⟩,
   ⟨⟨some 40, .nilck (.t 39), none⟩, []⟩,
   ⟨⟨some 41, .faddr 2 (.t 40), none⟩, []⟩,
   ⟨⟨some 42, .load false 1 (.t 41), none⟩, []⟩,
   ⟨⟨some 43, .load true 3 (.t 3), none⟩, []⟩,
   ⟨⟨some 44, .mkSl true 3 [(.int .i64 0), (.str []), (.int .i64 0)] 1 [(0, (.t 43))], none⟩, [4]⟩,
   ⟨⟨some 45, .app true 3 32 (.t 42) (.t 44), none⟩, []⟩,
   ⟨⟨some 46, .nilck (.t 38), none⟩, []⟩,
   ⟨⟨some 47, .faddr 2 (.t 46), none⟩, []⟩,
   ⟨⟨none, .store 1 (.t 47) (.t 45), none⟩, []⟩])
 (.seq (.region [⟨some 4, .mv (.c (.int .i64 0)), none⟩])
 .ret)))))
def f20b0_lay : Lay := ⟨48, [], false⟩
def f20b0_res : List LRes := [.t 4]
def f20b0_L : LFn := ⟨2, f20b0_lay, f20b0_c0, f20b0_res⟩
theorem f20b0_low : lowFn Try.prog [] 20 = some f20b0_L := by kernel_rfl
theorem f20b0_fok : FnOk Try.prog 20 := ⟨_, Try.func20, rfl, rfl⟩
noncomputable def S_filewatch_Watcher_Add (m : Option Nat) (a0 : G_QFileEvent) : Option Int :=
  (S_filewatch_validKind m a0.f_Kind).bind fun v1 =>
  if (!v1) = true then
    some 7
  else
    none

def f20b0_Q (a0 : G_QFileEvent) (o : Int) : Exit → Env → AHeap → Nat → Prop := FinK f20b0_res (FinTo 3 3 (.int .i64 o) [])

theorem f20b0_start {a0 : G_QFileEvent} {m : Option Nat} {o : Int} (h : S_filewatch_Watcher_Add m a0 = some o) : LWp Try.prog f20b0_lay 3 f20b0_c0 (f20b0_Q a0 o) (initEnv 0 [.val (.pointer none), .agg [.int .i64 a0.f_Time, .str a0.f_Path, .int .i64 a0.f_Kind]]) [] 3 := by
  unfold S_filewatch_Watcher_Add at h
  refine seqI ?_
  refine regI ?_
  refine seqI ?_
  refine blockI ?_
  refine seqI ?_
  refine regI ?_
  obtain ⟨v1, h1, h⟩ := bind_some h
  refine PFn.call (f26_ok h1) (And.intro (Vw.same _ rfl) trivial) ?_
  show yops _ _ _ [(8, .bool v1), (7, .int .i64 a0.f_Kind), (6, .ptr (3, 0) 0 2), (4, .int .i64 0), (3, .ptr (3, 0) 0 0), (0, .val (.pointer none)), (1, .agg [.int .i64 a0.f_Time, .str a0.f_Path, .int .i64 a0.f_Kind])] _ _
  refine condI (v := (!v1)) rfl trivial (fun h2 => ?_) (fun h2 => ?_)
  · have h := ite_tt h2 h
    refine seqI ?_
    refine regI ?_
    refine LWp.sim (e := [(4, .int .i64 7)]) (L := []) (n := 3) ?_ ?_
    · exact simI (M := []) rfl (And.intro (Vw.same _ rfl) trivial) trivial
    refine retI ?_
    cases h
    exact And.intro trivial (finI (n' := 3) [] [] rfl rfl (Vw.same _ rfl) trivial)
  · have h := ite_ff h2 h
    refine seqI ?_
    refine quietI ?_
    refine And.intro (fun hp => hp) ?_
    show yqs _ _ [(16, .cnd ((decide (a0.f_Time < 0)) == false) (.int .i64 a0.f_Time)), (15, .cnd ((decide (a0.f_Time < 0)) == false) (.ptr (3, 0) 0 0)), (14, .bool (decide (a0.f_Time < 0))), (13, .bool (decide (a0.f_Time < 0))), (12, .int .i64 a0.f_Time), (11, .ptr (3, 0) 0 0), (5, .bool (!v1)), (9, .bool (!v1)), (8, .bool v1), (7, .int .i64 a0.f_Kind), (6, .ptr (3, 0) 0 2), (4, .int .i64 0), (3, .ptr (3, 0) 0 0), (0, .val (.pointer none)), (1, .agg [.int .i64 a0.f_Time, .str a0.f_Path, .int .i64 a0.f_Kind])] _ _
    refine And.intro (fun hp => hp) ?_
    refine And.intro (fun hc => (bqf hc)) ?_
    refine And.intro (fun hp => hp) ?_
    show yqs _ _ [(21, .cnd (((decide (a0.f_Time < 0)) || (decide (a0.f_Time > 1000000000000))) == false) (.int .i64 a0.f_Time)), (20, .cnd (((decide (a0.f_Time < 0)) || (decide (a0.f_Time > 1000000000000))) == false) (.ptr (3, 0) 0 0)), (19, .bool ((decide (a0.f_Time < 0)) || (decide (a0.f_Time > 1000000000000)))), (18, .bool ((decide (a0.f_Time < 0)) || (decide (a0.f_Time > 1000000000000)))), (17, .cnd ((decide (a0.f_Time < 0)) == false) (.bool (decide (a0.f_Time > 1000000000000)))), (16, .cnd ((decide (a0.f_Time < 0)) == false) (.int .i64 a0.f_Time)), (15, .cnd ((decide (a0.f_Time < 0)) == false) (.ptr (3, 0) 0 0)), (14, .bool (decide (a0.f_Time < 0))), (13, .bool (decide (a0.f_Time < 0))), (12, .int .i64 a0.f_Time), (11, .ptr (3, 0) 0 0), (5, .bool (!v1)), (9, .bool (!v1)), (8, .bool v1), (7, .int .i64 a0.f_Kind), (6, .ptr (3, 0) 0 2), (4, .int .i64 0), (3, .ptr (3, 0) 0 0), (0, .val (.pointer none)), (1, .agg [.int .i64 a0.f_Time, .str a0.f_Path, .int .i64 a0.f_Kind])] _ _
    cases h

theorem f20b0_ok {a0 : G_QFileEvent} {m : Option Nat} {o : Int} (h : S_filewatch_Watcher_Add m a0 = some o) : ACalls Try.prog 20 [.val (.pointer none), .agg [.int .i64 a0.f_Time, .str a0.f_Path, .int .i64 a0.f_Kind]] [] 3 (Gives 3 (.int .i64 o) []) := bfn_of (L := f20b0_L) f20b0_low f20b0_fok (Nat.le_of_ble_eq_true rfl) (f20b0_start h)

def f33b0_c0 : LCode := (.seq (.region [⟨some 4, .mv (.c (.bool false)), none⟩])
 (.seq (.quiet [⟨some 5, .mv (.t 0), none⟩,
   ⟨some 6, .nilck (.t 5), none⟩,
   ⟨some 7, .faddr 2 (.t 6), none⟩,
   ⟨some 8, .load false 1 (.t 7), none⟩,
   ⟨some 9, .len false (.t 8), none⟩,
   ⟨some 10, .bin .gtr (.t 9) (.c (.int .i64 0)), none⟩,
   ⟨some 11, .mv (.t 10), none⟩,
   ⟨some 12, .mv (.t 0), some (11, true)⟩,
   ⟨some 13, .nilck (.t 12), some (11, true)⟩,
   ⟨some 14, .faddr 2 (.t 13), some (11, true)⟩,
   ⟨some 15, .load false 1 (.t 14), some (11, true)⟩,
   ⟨some 16, .mv (.t 0), some (11, true)⟩,
   ⟨some 17, .nilck (.t 16), some (11, true)⟩,
   ⟨some 18, .faddr 2 (.t 17), some (11, true)⟩,
   ⟨some 19, .load false 1 (.t 18), some (11, true)⟩,
   ⟨some 20, .len false (.t 19), some (11, true)⟩,
   ⟨some 21, .bin .sub (.t 20) (.c (.int .i64 1)), some (11, true)⟩,
   ⟨some 22, .iaddr 3 (.t 15) (.t 21), some (11, true)⟩,
   ⟨some 23, .faddr 0 (.t 22), some (11, true)⟩,
   ⟨some 24, .load false 1 (.t 23), some (11, true)⟩,
   ⟨some 25, .mv (.t 0), some (11, true)⟩,
   ⟨some 26, .nilck (.t 25), some (11, true)⟩,
   ⟨some 27, .faddr 0 (.t 26), some (11, true)⟩,
   ⟨some 28, .load false 1 (.t 27), some (11, true)⟩,
   ⟨some 29, .bin .add (.t 24) (.t 28), some (11, true)⟩,
   ⟨some 30, .mv (.t 1), some (11, true)⟩,
   ⟨some 31, .bin .leq (.t 29) (.t 30), some (11, true)⟩,
   ⟨some 32, .pick (.t 11) (.t 31) (.c (.bool false)), none⟩,
   ⟨some 4, .mv (.t 32), none⟩])
 .ret))
def f33b0_lay : Lay := ⟨33, [], false⟩
def f33b0_res : List LRes := [.t 4]
def f33b0_L : LFn := ⟨2, f33b0_lay, f33b0_c0, f33b0_res⟩
theorem f33b0_low : lowFn Try.prog [] 33 = some f33b0_L := by kernel_rfl
theorem f33b0_fok : FnOk Try.prog 33 := ⟨_, Try.func33, rfl, rfl⟩
noncomputable def S_glossatorref3_Watcher_due (m : Option Nat) (a0 : Int) (a1 : Int) (a2 : Int) (a3 : List G_QFileEvent) : Option Bool :=
  if (((decide (((a3.map e_QFileEvent).length : Int) > 0)) == true) = true → (0 : Int) ≤ (W (((a3.map e_QFileEvent).length : Int) - 1)) ∧ (W (((a3.map e_QFileEvent).length : Int) - 1)) < ((a3.map e_QFileEvent).length : Int)) then
  some ((decide (((a3.map e_QFileEvent).length : Int) > 0)) && (decide ((W ((a3.getD ((W (((a3.map e_QFileEvent).length : Int) - 1)).toNat) default).f_Time + a1)) ≤ a0)))
  else none

def f33b0_Q (a0 : Int) (a1 : Int) (a2 : Int) (a3 : List G_QFileEvent) (o : Bool) : Exit → Env → AHeap → Nat → Prop := FinK f33b0_res (FinTo 3 4 (.bool o) [((0, 0), .one [.int .i64 a1, .int .i64 a2, .osl (3, 0) 3 (a3.map e_QFileEvent)]), ((3, 0), .tok)])

theorem f33b0_start {a0 : Int} {a1 : Int} {a2 : Int} {a3 : List G_QFileEvent} {m : Option Nat} {o : Bool} (h : S_glossatorref3_Watcher_due m a0 a1 a2 a3 = some o) : LWp Try.prog f33b0_lay 3 f33b0_c0 (f33b0_Q a0 a1 a2 a3 o) (initEnv 0 [.ptr (0, 0) 0 0, .int .i64 a0]) [((0, 0), .one [.int .i64 a1, .int .i64 a2, .osl (0, 1) 3 (a3.map e_QFileEvent)]), ((0, 1), .tok)] 3 := by
  unfold S_glossatorref3_Watcher_due at h
  refine seqI ?_
  refine regI ?_
  refine seqI ?_
  refine quietI ?_
  refine And.intro (fun hp => hp) ?_
  show yqs _ _ [(13, .cnd ((decide (((a3.map e_QFileEvent).length : Int) > 0)) == true) (.ptr (0, 0) 0 0)), (12, .cnd ((decide (((a3.map e_QFileEvent).length : Int) > 0)) == true) (.ptr (0, 0) 0 0)), (11, .bool (decide (((a3.map e_QFileEvent).length : Int) > 0))), (10, .bool (decide (((a3.map e_QFileEvent).length : Int) > 0))), (9, .int .i64 ((a3.map e_QFileEvent).length : Int)), (8, .osl (0, 1) 3 (a3.map e_QFileEvent)), (7, .ptr (0, 0) 0 2), (6, .ptr (0, 0) 0 0), (5, .ptr (0, 0) 0 0), (4, .bool false), (0, .ptr (0, 0) 0 0), (1, .int .i64 a0)] _ _
  refine And.intro (fun hp => hp) ?_
  refine And.intro (fun hp => hp) ?_
  refine And.intro (fun hp => hp) ?_
  refine And.intro (fun hp => hp) ?_
  show yqs _ _ [(18, .cnd ((decide (((a3.map e_QFileEvent).length : Int) > 0)) == true) (.ptr (0, 0) 0 2)), (17, .cnd ((decide (((a3.map e_QFileEvent).length : Int) > 0)) == true) (.ptr (0, 0) 0 0)), (16, .cnd ((decide (((a3.map e_QFileEvent).length : Int) > 0)) == true) (.ptr (0, 0) 0 0)), (15, .cnd ((decide (((a3.map e_QFileEvent).length : Int) > 0)) == true) (.osl (0, 1) 3 (a3.map e_QFileEvent))), (14, .cnd ((decide (((a3.map e_QFileEvent).length : Int) > 0)) == true) (.ptr (0, 0) 0 2)), (13, .cnd ((decide (((a3.map e_QFileEvent).length : Int) > 0)) == true) (.ptr (0, 0) 0 0)), (12, .cnd ((decide (((a3.map e_QFileEvent).length : Int) > 0)) == true) (.ptr (0, 0) 0 0)), (11, .bool (decide (((a3.map e_QFileEvent).length : Int) > 0))), (10, .bool (decide (((a3.map e_QFileEvent).length : Int) > 0))), (9, .int .i64 ((a3.map e_QFileEvent).length : Int)), (8, .osl (0, 1) 3 (a3.map e_QFileEvent)), (7, .ptr (0, 0) 0 2), (6, .ptr (0, 0) 0 0), (5, .ptr (0, 0) 0 0), (4, .bool false), (0, .ptr (0, 0) 0 0), (1, .int .i64 a0)] _ _
  refine And.intro (fun hp => hp) ?_
  refine And.intro (fun hp => hp) ?_
  refine And.intro (fun hp => hp) ?_
  obtain ⟨h1, h⟩ := ite_some h
  refine And.intro (fun hp => (And.intro (And.intro hp hp) (h1 hp))) ?_
  refine And.intro (fun hp => hp) ?_
  show yqs _ _ [(23, .cnd ((decide (((a3.map e_QFileEvent).length : Int) > 0)) == true) (.iptr 3 (a3.map e_QFileEvent) ((W (((a3.map e_QFileEvent).length : Int) - 1)).toNat) 0)), (22, .cnd ((decide (((a3.map e_QFileEvent).length : Int) > 0)) == true) (.iptr 3 (a3.map e_QFileEvent) ((W (((a3.map e_QFileEvent).length : Int) - 1)).toNat) 0)), (21, .cnd ((decide (((a3.map e_QFileEvent).length : Int) > 0)) == true) (.int .i64 (W (((a3.map e_QFileEvent).length : Int) - 1)))), (20, .cnd ((decide (((a3.map e_QFileEvent).length : Int) > 0)) == true) (.int .i64 ((a3.map e_QFileEvent).length : Int))), (19, .cnd ((decide (((a3.map e_QFileEvent).length : Int) > 0)) == true) (.osl (0, 1) 3 (a3.map e_QFileEvent))), (18, .cnd ((decide (((a3.map e_QFileEvent).length : Int) > 0)) == true) (.ptr (0, 0) 0 2)), (17, .cnd ((decide (((a3.map e_QFileEvent).length : Int) > 0)) == true) (.ptr (0, 0) 0 0)), (16, .cnd ((decide (((a3.map e_QFileEvent).length : Int) > 0)) == true) (.ptr (0, 0) 0 0)), (15, .cnd ((decide (((a3.map e_QFileEvent).length : Int) > 0)) == true) (.osl (0, 1) 3 (a3.map e_QFileEvent))), (14, .cnd ((decide (((a3.map e_QFileEvent).length : Int) > 0)) == true) (.ptr (0, 0) 0 2)), (13, .cnd ((decide (((a3.map e_QFileEvent).length : Int) > 0)) == true) (.ptr (0, 0) 0 0)), (12, .cnd ((decide (((a3.map e_QFileEvent).length : Int) > 0)) == true) (.ptr (0, 0) 0 0)), (11, .bool (decide (((a3.map e_QFileEvent).length : Int) > 0))), (10, .bool (decide (((a3.map e_QFileEvent).length : Int) > 0))), (9, .int .i64 ((a3.map e_QFileEvent).length : Int)), (8, .osl (0, 1) 3 (a3.map e_QFileEvent)), (7, .ptr (0, 0) 0 2), (6, .ptr (0, 0) 0 0), (5, .ptr (0, 0) 0 0), (4, .bool false), (0, .ptr (0, 0) 0 0), (1, .int .i64 a0)] _ _
  refine Exists.intro (e_QFileEvent (a3.getD ((W (((a3.map e_QFileEvent).length : Int) - 1)).toNat) default)) (And.intro (fun hp => And.intro (getD_enc e_QFileEvent _ _ (idx_ltL e_QFileEvent (h1 hp))) (And.intro hp (And.intro (idx_lt (h1 hp)) (Nat.le_of_ble_eq_true rfl)))) ?_)
  refine And.intro (fun hp => hp) ?_
  refine And.intro (fun hp => hp) ?_
  refine And.intro (fun hp => hp) ?_
  show yqs _ _ [(28, .cnd ((decide (((a3.map e_QFileEvent).length : Int) > 0)) == true) (.int .i64 a1)), (27, .cnd ((decide (((a3.map e_QFileEvent).length : Int) > 0)) == true) (.ptr (0, 0) 0 0)), (26, .cnd ((decide (((a3.map e_QFileEvent).length : Int) > 0)) == true) (.ptr (0, 0) 0 0)), (25, .cnd ((decide (((a3.map e_QFileEvent).length : Int) > 0)) == true) (.ptr (0, 0) 0 0)), (24, .cnd ((decide (((a3.map e_QFileEvent).length : Int) > 0)) == true) (.int .i64 ((a3.getD ((W (((a3.map e_QFileEvent).length : Int) - 1)).toNat) default).f_Time))), (23, .cnd ((decide (((a3.map e_QFileEvent).length : Int) > 0)) == true) (.iptr 3 (a3.map e_QFileEvent) ((W (((a3.map e_QFileEvent).length : Int) - 1)).toNat) 0)), (22, .cnd ((decide (((a3.map e_QFileEvent).length : Int) > 0)) == true) (.iptr 3 (a3.map e_QFileEvent) ((W (((a3.map e_QFileEvent).length : Int) - 1)).toNat) 0)), (21, .cnd ((decide (((a3.map e_QFileEvent).length : Int) > 0)) == true) (.int .i64 (W (((a3.map e_QFileEvent).length : Int) - 1)))), (20, .cnd ((decide (((a3.map e_QFileEvent).length : Int) > 0)) == true) (.int .i64 ((a3.map e_QFileEvent).length : Int))), (19, .cnd ((decide (((a3.map e_QFileEvent).length : Int) > 0)) == true) (.osl (0, 1) 3 (a3.map e_QFileEvent))), (18, .cnd ((decide (((a3.map e_QFileEvent).length : Int) > 0)) == true) (.ptr (0, 0) 0 2)), (17, .cnd ((decide (((a3.map e_QFileEvent).length : Int) > 0)) == true) (.ptr (0, 0) 0 0)), (16, .cnd ((decide (((a3.map e_QFileEvent).length : Int) > 0)) == true) (.ptr (0, 0) 0 0)), (15, .cnd ((decide (((a3.map e_QFileEvent).length : Int) > 0)) == true) (.osl (0, 1) 3 (a3.map e_QFileEvent))), (14, .cnd ((decide (((a3.map e_QFileEvent).length : Int) > 0)) == true) (.ptr (0, 0) 0 2)), (13, .cnd ((decide (((a3.map e_QFileEvent).length : Int) > 0)) == true) (.ptr (0, 0) 0 0)), (12, .cnd ((decide (((a3.map e_QFileEvent).length : Int) > 0)) == true) (.ptr (0, 0) 0 0)), (11, .bool (decide (((a3.map e_QFileEvent).length : Int) > 0))), (10, .bool (decide (((a3.map e_QFileEvent).length : Int) > 0))), (9, .int .i64 ((a3.map e_QFileEvent).length : Int)), (8, .osl (0, 1) 3 (a3.map e_QFileEvent)), (7, .ptr (0, 0) 0 2), (6, .ptr (0, 0) 0 0), (5, .ptr (0, 0) 0 0), (4, .bool false), (0, .ptr (0, 0) 0 0), (1, .int .i64 a0)] _ _
  refine And.intro (fun hp => (And.intro hp hp)) ?_
  refine And.intro (fun hp => (And.intro hp hp)) ?_
  refine And.intro (fun hc => (bqt hc)) ?_
  refine LWp.sim (e := [(4, .bool ((decide (((a3.map e_QFileEvent).length : Int) > 0)) && (decide ((W ((a3.getD ((W (((a3.map e_QFileEvent).length : Int) - 1)).toNat) default).f_Time + a1)) ≤ a0))))]) (L := [((0, 0), .one [.int .i64 a1, .int .i64 a2, .osl (3, 0) 3 (a3.map e_QFileEvent)]), ((3, 0), .tok)]) (n := 4) ?_ ?_
  · exact simI (M := [((3, 0), (0, 1))]) rfl (And.intro (Vw.same _ rfl) trivial) (And.intro (And.intro rfl (BVw.oneL (And.intro (Vw.same _ rfl) (And.intro (Vw.same _ rfl) (And.intro (Vw.osl _ _ _ _ rfl) trivial))))) (And.intro (And.intro rfl BVw.tok) trivial))
  refine retI ?_
  cases h
  exact And.intro trivial (finI (n' := 4) [((3, 0), (3, 0))] [] rfl rfl (Vw.same _ rfl) (And.intro (And.intro rfl (BVw.oneL (And.intro (Vw.same _ rfl) (And.intro (Vw.same _ rfl) (And.intro (Vw.osl _ _ _ _ rfl) trivial))))) (And.intro (And.intro rfl BVw.tok) trivial)))

theorem f33b0_ok {a0 : Int} {a1 : Int} {a2 : Int} {a3 : List G_QFileEvent} {m : Option Nat} {o : Bool} (h : S_glossatorref3_Watcher_due m a0 a1 a2 a3 = some o) : ACalls Try.prog 33 [.ptr (0, 0) 0 0, .int .i64 a0] [((0, 0), .one [.int .i64 a1, .int .i64 a2, .osl (0, 1) 3 (a3.map e_QFileEvent)]), ((0, 1), .tok)] 3 (Gives 4 (.bool o) [((0, 0), .one [.int .i64 a1, .int .i64 a2, .osl (3, 0) 3 (a3.map e_QFileEvent)]), ((3, 0), .tok)]) := bfn_of (L := f33b0_L) f33b0_low f33b0_fok (Nat.le_of_ble_eq_true rfl) (f33b0_start h)

def f21b0_c0 : LCode := (.seq (.region [⟨some 3, .box (.t 1), none⟩,
   ⟨some 4, .mv (.c (.int .i64 0)), none⟩])
 (.seq (.seq (.region [⟨some 5, .faddr 2 (.t 3), none⟩,
   ⟨some 6, .load false 1 (.t 5), none⟩,
   ⟨some 7, .bin .lss (.t 6) (.c (.int .i64 1)), none⟩,
   ⟨some 8, .mv (.t 7), none⟩,
   ⟨some 9, .faddr 2 (.t 3), some (8, false)⟩,
   ⟨some 10, .load false 1 (.t 9), some (8, false)⟩,
   ⟨some 11, .bin .gtr (.t 10) (.c (.int .i64 3)), some (8, false)⟩,
   ⟨some 12, .pick (.t 8) (.c (.bool true)) (.t 11), none⟩])
 (.cond (.t 12)
  (.seq (.region [⟨some 4, .mv (.c (.int .i64 7)), none⟩])
  .ret)
  .skip))
 (.seq (.seq (.quiet [⟨some 13, .faddr 0 (.t 3), none⟩,
   ⟨some 14, .load false 1 (.t 13), none⟩,
   ⟨some 15, .bin .lss (.t 14) (.c (.int .i64 0)), none⟩,
   ⟨some 16, .mv (.t 15), none⟩,
   ⟨some 17, .faddr 0 (.t 3), some (16, false)⟩,
   ⟨some 18, .load false 1 (.t 17), some (16, false)⟩,
   ⟨some 19, .bin .gtr (.t 18) (.c (.int .i64 1000000000000)), some (16, false)⟩,
   ⟨some 20, .pick (.t 16) (.c (.bool true)) (.t 19), none⟩,
   ⟨some 21, .mv (.t 20), none⟩,
   ⟨some 22, .faddr 0 (.t 3), some (21, false)⟩,
   ⟨some 23, .load false 1 (.t 22), some (21, false)⟩,
   ⟨some 24, .mv (.t 0), some (21, false)⟩,
   ⟨some 25, .nilck (.t 24), some (21, false)⟩,
   ⟨some 26, .faddr 1 (.t 25), some (21, false)⟩,
   ⟨some 27, .load false 1 (.t 26), some (21, false)⟩,
   ⟨some 28, .bin .lss (.t 23) (.t 27), some (21, false)⟩,
   ⟨some 29, .pick (.t 21) (.c (.bool true)) (.t 28), none⟩])
 (.cond (.t 29)
  (.seq (.region [⟨some 4, .mv (.c (.int .i64 3)), none⟩])
  .ret)
  .skip))
 (.seq (.seq (.region [⟨some 30, .mv (.t 0), none⟩,
   ⟨some 31, .faddr 0 (.t 3), none⟩,
   ⟨some 32, .load false 1 (.t 31), none⟩,
   ⟨some 33, .call 33 [(.t 30), (.t 32)], none⟩])
 (.cond (.t 33)
  (.seq (.region [⟨some 4, .mv (.c (.int .i64 8)), none⟩])
  .ret)
  .skip))
 (.seq (.draw [⟨⟨some 34, .mv (.t 0), none⟩, []⟩,
   ⟨⟨some 35, .mv (.t 0), none⟩, []⟩,
   ⟨⟨some 36, .mv (.t 0), none⟩, []⟩,
   ⟨⟨some 37, .nilck (.t 36), none⟩, []⟩,
   ⟨⟨some 38, .faddr 2 (.t 37), none⟩, []⟩,
   ⟨⟨some 39, .load false 1 (.t 38), none⟩, []⟩,
   ⟨⟨some 40, .load true 3 (.t 3), none⟩, []⟩,
   ⟨⟨some 43, .faddr 0 (.t 3), none⟩, []⟩,
   ⟨⟨some 44, .load false 1 (.t 43), none⟩, []⟩,
   ⟨⟨some 41, .mkSl true 3 [(.int .i64 0), (.str []), (.int .i64 0)] 1 [(0, (.t 40))], none⟩, [5, 8]⟩,
   ⟨⟨some 42, .app true 3 32 (.t 39) (.t 41), none⟩, [8]⟩,
   ⟨⟨some 45, .nilck (.t 34), none⟩, []⟩,
   ⟨⟨some 46, .faddr 2 (.t 45), none⟩, []⟩,
   ⟨⟨none, .store 1 (.t 46) (.t 42), none⟩, [8]⟩,
   ⟨⟨some 47, .nilck (.t 35), none⟩, []⟩,
   ⟨⟨some 48, .faddr 1 (.t 47), none⟩, []⟩,
   ⟨⟨none, .store 1 (.t 48) (.t 44), none⟩, []⟩])
 (.seq (.region [⟨some 4, .mv (.c (.int .i64 0)), none⟩])
 .ret))))))
def f21b0_lay : Lay := ⟨49, [], false⟩
def f21b0_res : List LRes := [.t 4]
def f21b0_L : LFn := ⟨2, f21b0_lay, f21b0_c0, f21b0_res⟩
theorem f21b0_low : lowFn Try.prog [] 21 = some f21b0_L := by kernel_rfl
theorem f21b0_fok : FnOk Try.prog 21 := ⟨_, Try.func21, rfl, rfl⟩
noncomputable def S_glossatorref3_Watcher_Add (m : Option Nat) (a0 : G_QFileEvent) (a1 : Int) (a2 : Int) (a3 : List G_QFileEvent) : Option (Int × Int × (List G_QFileEvent)) :=
  if ((decide (a0.f_Kind < 1)) || (decide (a0.f_Kind > 3))) = true then
    some (7, a2, a3)
  else
    if (((decide (a0.f_Time < 0)) || (decide (a0.f_Time > 1000000000000))) || (decide (a0.f_Time < a2))) = true then
      some (3, a2, a3)
    else
      (S_glossatorref3_Watcher_due m a0.f_Time a1 a2 a3).bind fun v1 =>
      if v1 = true then
        some (8, a2, a3)
      else
        if ((a3 ++ ([a0] : List G_QFileEvent)).map e_QFileEvent).length * 32 ≤ 140737488355328 then
        some (0, a0.f_Time, (a3 ++ ([a0] : List G_QFileEvent)))
        else none

def f21b0_Q (a0 : G_QFileEvent) (a1 : Int) (a2 : Int) (a3 : List G_QFileEvent) (o : Int × Int × (List G_QFileEvent)) : Exit → Env → AHeap → Nat → Prop := FinK f21b0_res (FinTo 3 4 (.int .i64 o.1) [((0, 0), .one [.int .i64 a1, .int .i64 o.2.1, .osl (3, 0) 3 (o.2.2.map e_QFileEvent)]), ((3, 0), .tok)])

theorem f21b0_start {a0 : G_QFileEvent} {a1 : Int} {a2 : Int} {a3 : List G_QFileEvent} {m : Option Nat} {o : Int × Int × (List G_QFileEvent)} (h : S_glossatorref3_Watcher_Add m a0 a1 a2 a3 = some o) : LWp Try.prog f21b0_lay 3 f21b0_c0 (f21b0_Q a0 a1 a2 a3 o) (initEnv 0 [.ptr (0, 0) 0 0, .agg [.int .i64 a0.f_Time, .str a0.f_Path, .int .i64 a0.f_Kind]]) [((0, 0), .one [.int .i64 a1, .int .i64 a2, .osl (0, 1) 3 (a3.map e_QFileEvent)]), ((0, 1), .tok)] 3 := by
  unfold S_glossatorref3_Watcher_Add at h
  refine seqI ?_
  refine regI ?_
  refine seqI ?_
  refine seqI ?_
  refine regI ?_
  refine And.intro (fun hp => hp) ?_
  show yops _ _ _ [(10, .cnd ((decide (a0.f_Kind < 1)) == false) (.int .i64 a0.f_Kind)), (9, .cnd ((decide (a0.f_Kind < 1)) == false) (.ptr (3, 0) 0 2)), (8, .bool (decide (a0.f_Kind < 1))), (7, .bool (decide (a0.f_Kind < 1))), (6, .int .i64 a0.f_Kind), (5, .ptr (3, 0) 0 2), (4, .int .i64 0), (3, .ptr (3, 0) 0 0), (0, .ptr (0, 0) 0 0), (1, .agg [.int .i64 a0.f_Time, .str a0.f_Path, .int .i64 a0.f_Kind])] _ _
  refine And.intro (fun hp => hp) ?_
  refine And.intro (fun hc => (bqf hc)) ?_
  refine LWp.sim (e := [(0, .ptr (0, 0) 0 0), (3, .ptr (3, 0) 0 0), (12, .bool ((decide (a0.f_Kind < 1)) || (decide (a0.f_Kind > 3))))]) (L := [((0, 0), .one [.int .i64 a1, .int .i64 a2, .osl (4, 0) 3 (a3.map e_QFileEvent)]), ((3, 0), .one [.int .i64 a0.f_Time, .str a0.f_Path, .int .i64 a0.f_Kind]), ((4, 0), .tok)]) (n := 5) ?_ ?_
  · exact simI (M := [((3, 0), (3, 0)), ((4, 0), (0, 1))]) rfl (And.intro (Vw.ptr _ _ _ _ rfl) (And.intro (Vw.ptr _ _ _ _ rfl) (And.intro (Vw.same _ rfl) trivial))) (And.intro (And.intro rfl (BVw.oneL (And.intro (Vw.same _ rfl) (And.intro (Vw.same _ rfl) (And.intro (Vw.osl _ _ _ _ rfl) trivial))))) (And.intro (And.intro rfl (BVw.oneL (And.intro (Vw.same _ rfl) (And.intro (Vw.same _ rfl) (And.intro (Vw.same _ rfl) trivial))))) (And.intro (And.intro rfl BVw.tok) trivial)))
  refine condI (v := ((decide (a0.f_Kind < 1)) || (decide (a0.f_Kind > 3)))) rfl trivial (fun h1 => ?_) (fun h1 => ?_)
  · have h := ite_tt h1 h
    refine seqI ?_
    refine regI ?_
    refine retI ?_
    cases h
    exact And.intro trivial (finI (n' := 5) [((3, 0), (4, 0))] [] rfl rfl (Vw.same _ rfl) (And.intro (And.intro rfl (BVw.oneL (And.intro (Vw.same _ rfl) (And.intro (Vw.same _ rfl) (And.intro (Vw.osl _ _ _ _ rfl) trivial))))) (And.intro (And.intro rfl BVw.tok) trivial)))
  · have h := ite_ff h1 h
    refine skipI ?_
    refine seqI ?_
    refine seqI ?_
    refine quietI ?_
    refine And.intro (fun hp => hp) ?_
    show yqs _ _ [(18, .cnd ((decide (a0.f_Time < 0)) == false) (.int .i64 a0.f_Time)), (17, .cnd ((decide (a0.f_Time < 0)) == false) (.ptr (3, 0) 0 0)), (16, .bool (decide (a0.f_Time < 0))), (15, .bool (decide (a0.f_Time < 0))), (14, .int .i64 a0.f_Time), (13, .ptr (3, 0) 0 0), (0, .ptr (0, 0) 0 0), (3, .ptr (3, 0) 0 0), (12, .bool ((decide (a0.f_Kind < 1)) || (decide (a0.f_Kind > 3))))] _ _
    refine And.intro (fun hp => hp) ?_
    refine And.intro (fun hc => (bqf hc)) ?_
    refine And.intro (fun hp => hp) ?_
    show yqs _ _ [(23, .cnd (((decide (a0.f_Time < 0)) || (decide (a0.f_Time > 1000000000000))) == false) (.int .i64 a0.f_Time)), (22, .cnd (((decide (a0.f_Time < 0)) || (decide (a0.f_Time > 1000000000000))) == false) (.ptr (3, 0) 0 0)), (21, .bool ((decide (a0.f_Time < 0)) || (decide (a0.f_Time > 1000000000000)))), (20, .bool ((decide (a0.f_Time < 0)) || (decide (a0.f_Time > 1000000000000)))), (19, .cnd ((decide (a0.f_Time < 0)) == false) (.bool (decide (a0.f_Time > 1000000000000)))), (18, .cnd ((decide (a0.f_Time < 0)) == false) (.int .i64 a0.f_Time)), (17, .cnd ((decide (a0.f_Time < 0)) == false) (.ptr (3, 0) 0 0)), (16, .bool (decide (a0.f_Time < 0))), (15, .bool (decide (a0.f_Time < 0))), (14, .int .i64 a0.f_Time), (13, .ptr (3, 0) 0 0), (0, .ptr (0, 0) 0 0), (3, .ptr (3, 0) 0 0), (12, .bool ((decide (a0.f_Kind < 1)) || (decide (a0.f_Kind > 3))))] _ _
    refine And.intro (fun hp => hp) ?_
    refine And.intro (fun hp => hp) ?_
    refine And.intro (fun hp => hp) ?_
    refine And.intro (fun hp => (And.intro hp hp)) ?_
    show yqs _ _ [(28, .cnd (((decide (a0.f_Time < 0)) || (decide (a0.f_Time > 1000000000000))) == false) (.bool (decide (a0.f_Time < a2)))), (27, .cnd (((decide (a0.f_Time < 0)) || (decide (a0.f_Time > 1000000000000))) == false) (.int .i64 a2)), (26, .cnd (((decide (a0.f_Time < 0)) || (decide (a0.f_Time > 1000000000000))) == false) (.ptr (0, 0) 0 1)), (25, .cnd (((decide (a0.f_Time < 0)) || (decide (a0.f_Time > 1000000000000))) == false) (.ptr (0, 0) 0 0)), (24, .cnd (((decide (a0.f_Time < 0)) || (decide (a0.f_Time > 1000000000000))) == false) (.ptr (0, 0) 0 0)), (23, .cnd (((decide (a0.f_Time < 0)) || (decide (a0.f_Time > 1000000000000))) == false) (.int .i64 a0.f_Time)), (22, .cnd (((decide (a0.f_Time < 0)) || (decide (a0.f_Time > 1000000000000))) == false) (.ptr (3, 0) 0 0)), (21, .bool ((decide (a0.f_Time < 0)) || (decide (a0.f_Time > 1000000000000)))), (20, .bool ((decide (a0.f_Time < 0)) || (decide (a0.f_Time > 1000000000000)))), (19, .cnd ((decide (a0.f_Time < 0)) == false) (.bool (decide (a0.f_Time > 1000000000000)))), (18, .cnd ((decide (a0.f_Time < 0)) == false) (.int .i64 a0.f_Time)), (17, .cnd ((decide (a0.f_Time < 0)) == false) (.ptr (3, 0) 0 0)), (16, .bool (decide (a0.f_Time < 0))), (15, .bool (decide (a0.f_Time < 0))), (14, .int .i64 a0.f_Time), (13, .ptr (3, 0) 0 0), (0, .ptr (0, 0) 0 0), (3, .ptr (3, 0) 0 0), (12, .bool ((decide (a0.f_Kind < 1)) || (decide (a0.f_Kind > 3))))] _ _
    refine And.intro (fun hc => (bqf hc)) ?_
    refine LWp.sim (e := [(0, .ptr (0, 0) 0 0), (3, .ptr (3, 0) 0 0), (29, .bool (((decide (a0.f_Time < 0)) || (decide (a0.f_Time > 1000000000000))) || (decide (a0.f_Time < a2))))]) (L := [((0, 0), .one [.int .i64 a1, .int .i64 a2, .osl (4, 0) 3 (a3.map e_QFileEvent)]), ((3, 0), .one [.int .i64 a0.f_Time, .str a0.f_Path, .int .i64 a0.f_Kind]), ((4, 0), .tok)]) (n := 5) ?_ ?_
    · exact simI (M := [((3, 0), (3, 0)), ((4, 0), (4, 0))]) rfl (And.intro (Vw.ptr _ _ _ _ rfl) (And.intro (Vw.ptr _ _ _ _ rfl) (And.intro (Vw.same _ rfl) trivial))) (And.intro (And.intro rfl (BVw.oneL (And.intro (Vw.same _ rfl) (And.intro (Vw.same _ rfl) (And.intro (Vw.osl _ _ _ _ rfl) trivial))))) (And.intro (And.intro rfl (BVw.oneL (And.intro (Vw.same _ rfl) (And.intro (Vw.same _ rfl) (And.intro (Vw.same _ rfl) trivial))))) (And.intro (And.intro rfl BVw.tok) trivial)))
    refine condI (v := (((decide (a0.f_Time < 0)) || (decide (a0.f_Time > 1000000000000))) || (decide (a0.f_Time < a2)))) rfl trivial (fun h2 => ?_) (fun h2 => ?_)
    · have h := ite_tt h2 h
      refine seqI ?_
      refine regI ?_
      refine retI ?_
      cases h
      exact And.intro trivial (finI (n' := 5) [((3, 0), (4, 0))] [] rfl rfl (Vw.same _ rfl) (And.intro (And.intro rfl (BVw.oneL (And.intro (Vw.same _ rfl) (And.intro (Vw.same _ rfl) (And.intro (Vw.osl _ _ _ _ rfl) trivial))))) (And.intro (And.intro rfl BVw.tok) trivial)))
    · have h := ite_ff h2 h
      refine skipI ?_
      refine seqI ?_
      refine seqI ?_
      refine regI ?_
      obtain ⟨v1, h3, h⟩ := bind_some h
      refine bcall (k := 3) (m := 1) (L' := [((0, 0), .one [.int .i64 a1, .int .i64 a2, .osl (5, 0) 3 (a3.map e_QFileEvent)]), ((5, 0), .tok)]) (rest := [((3, 0), .one [.int .i64 a0.f_Time, .str a0.f_Path, .int .i64 a0.f_Kind])]) (R' := .bool v1) [((0, 0), (0, 0)), ((0, 1), (4, 0))] (f33b0_ok h3) rfl rfl rfl (And.intro (Vw.ptr _ _ _ _ rfl) (And.intro (Vw.same _ rfl) trivial)) (And.intro (h0I (0, 0) rfl rfl (BVw.oneL (And.intro (Vw.same _ rfl) (And.intro (Vw.same _ rfl) (And.intro (Vw.osl _ _ _ _ rfl) trivial))))) (And.intro (h0I (4, 0) rfl rfl BVw.tok) trivial)) (nid_ren _ rfl) (And.intro rfl (And.intro rfl (And.intro rfl (And.intro rfl trivial)))) rfl ?_
      refine condI (v := v1) rfl trivial (fun h4 => ?_) (fun h4 => ?_)
      · have h := ite_tt h4 h
        refine seqI ?_
        refine regI ?_
        refine retI ?_
        cases h
        exact And.intro trivial (finI (n' := 7) [((3, 0), (5, 0))] [] rfl rfl (Vw.same _ rfl) (And.intro (And.intro rfl (BVw.oneL (And.intro (Vw.same _ rfl) (And.intro (Vw.same _ rfl) (And.intro (Vw.osl _ _ _ _ rfl) trivial))))) (And.intro (And.intro rfl BVw.tok) trivial)))
      · have h := ite_ff h4 h
        refine skipI ?_
        refine seqI ?_
        refine drawI ?_
        refine And.intro rfl ?_
        refine And.intro rfl ?_
        obtain ⟨h5, h⟩ := ite_some h
        refine Exists.intro ((a3 ++ ([a0] : List G_QFileEvent)).map e_QFileEvent) (And.intro (app_enc e_QFileEvent a3 ([a0] : List G_QFileEvent)) (And.intro h5 ?_))
        refine And.intro rfl ?_
        refine And.intro rfl ?_
        refine LWp.sim (e := []) (L := [((0, 0), .one [.int .i64 a1, .int .i64 a0.f_Time, .osl (3, 0) 3 ((a3 ++ ([a0] : List G_QFileEvent)).map e_QFileEvent)]), ((3, 0), .tok)]) (n := 4) ?_ ?_
        · exact simI (M := [((3, 0), (7, 0))]) rfl trivial (And.intro (And.intro rfl (BVw.oneL (And.intro (Vw.same _ rfl) (And.intro (Vw.same _ rfl) (And.intro (Vw.osl _ _ _ _ rfl) trivial))))) (And.intro (And.intro rfl BVw.tok) trivial))
        refine seqI ?_
        refine regI ?_
        refine retI ?_
        cases h
        exact And.intro trivial (finI (n' := 4) [((3, 0), (3, 0))] [] rfl rfl (Vw.same _ rfl) (And.intro (And.intro rfl (BVw.oneL (And.intro (Vw.same _ rfl) (And.intro (Vw.same _ rfl) (And.intro (Vw.osl _ _ _ _ rfl) trivial))))) (And.intro (And.intro rfl BVw.tok) trivial)))

theorem f21b0_ok {a0 : G_QFileEvent} {a1 : Int} {a2 : Int} {a3 : List G_QFileEvent} {m : Option Nat} {o : Int × Int × (List G_QFileEvent)} (h : S_glossatorref3_Watcher_Add m a0 a1 a2 a3 = some o) : ACalls Try.prog 21 [.ptr (0, 0) 0 0, .agg [.int .i64 a0.f_Time, .str a0.f_Path, .int .i64 a0.f_Kind]] [((0, 0), .one [.int .i64 a1, .int .i64 a2, .osl (0, 1) 3 (a3.map e_QFileEvent)]), ((0, 1), .tok)] 3 (Gives 4 (.int .i64 o.1) [((0, 0), .one [.int .i64 a1, .int .i64 o.2.1, .osl (3, 0) 3 (o.2.2.map e_QFileEvent)]), ((3, 0), .tok)]) := bfn_of (L := f21b0_L) f21b0_low f21b0_fok (Nat.le_of_ble_eq_true rfl) (f21b0_start h)

def f32b0_c0 : LCode := (.seq (.region [⟨some 4, .mv (.c (.bool false)), none⟩])
 (.seq (.region [⟨some 6, .mv (.t 0), none⟩,
   ⟨some 7, .nilck (.t 6), none⟩,
   ⟨some 8, .faddr 2 (.t 7), none⟩,
   ⟨some 9, .load false 1 (.t 8), none⟩,
   ⟨some 10, .len false (.t 9), none⟩,
   ⟨some 5, .mv (.t 10), none⟩])
 (.seq (.quiet [⟨some 11, .mv (.t 5), none⟩,
   ⟨some 12, .bin .gtr (.t 11) (.c (.int .i64 0)), none⟩,
   ⟨some 13, .mv (.t 12), none⟩,
   ⟨some 14, .mv (.t 1), some (13, true)⟩,
   ⟨some 15, .mv (.t 0), some (13, true)⟩,
   ⟨some 16, .nilck (.t 15), some (13, true)⟩,
   ⟨some 17, .faddr 2 (.t 16), some (13, true)⟩,
   ⟨some 18, .load false 1 (.t 17), some (13, true)⟩,
   ⟨some 19, .mv (.t 5), some (13, true)⟩,
   ⟨some 20, .bin .sub (.t 19) (.c (.int .i64 1)), some (13, true)⟩,
   ⟨some 21, .iaddr 3 (.t 18) (.t 20), some (13, true)⟩,
   ⟨some 22, .faddr 0 (.t 21), some (13, true)⟩,
   ⟨some 23, .load false 1 (.t 22), some (13, true)⟩,
   ⟨some 24, .bin .sub (.t 14) (.t 23), some (13, true)⟩,
   ⟨some 25, .mv (.t 0), some (13, true)⟩,
   ⟨some 26, .nilck (.t 25), some (13, true)⟩,
   ⟨some 27, .faddr 0 (.t 26), some (13, true)⟩,
   ⟨some 28, .load false 1 (.t 27), some (13, true)⟩,
   ⟨some 29, .bin .geq (.t 24) (.t 28), some (13, true)⟩,
   ⟨some 30, .pick (.t 13) (.t 29) (.c (.bool false)), none⟩,
   ⟨some 4, .mv (.t 30), none⟩])
 .ret)))
def f32b0_lay : Lay := ⟨31, [], false⟩
def f32b0_res : List LRes := [.t 4]
def f32b0_L : LFn := ⟨2, f32b0_lay, f32b0_c0, f32b0_res⟩
theorem f32b0_low : lowFn Try.prog [] 32 = some f32b0_L := by kernel_rfl
theorem f32b0_fok : FnOk Try.prog 32 := ⟨_, Try.func32, rfl, rfl⟩
noncomputable def S_filewatch_Watcher_complete (m : Option Nat) (a0 : Int) (a1 : Int) (a2 : Int) (a3 : List G_QFileEvent) : Option Bool :=
  if (((decide (((a3.map e_QFileEvent).length : Int) > 0)) == true) = true → (0 : Int) ≤ (W (((a3.map e_QFileEvent).length : Int) - 1)) ∧ (W (((a3.map e_QFileEvent).length : Int) - 1)) < ((a3.map e_QFileEvent).length : Int)) then
  some ((decide (((a3.map e_QFileEvent).length : Int) > 0)) && (decide ((W (a0 - (a3.getD ((W (((a3.map e_QFileEvent).length : Int) - 1)).toNat) default).f_Time)) ≥ a1)))
  else none

def f32b0_Q (a0 : Int) (a1 : Int) (a2 : Int) (a3 : List G_QFileEvent) (o : Bool) : Exit → Env → AHeap → Nat → Prop := FinK f32b0_res (FinTo 3 4 (.bool o) [((0, 0), .one [.int .i64 a1, .int .i64 a2, .osl (3, 0) 3 (a3.map e_QFileEvent)]), ((3, 0), .tok)])

theorem f32b0_start {a0 : Int} {a1 : Int} {a2 : Int} {a3 : List G_QFileEvent} {m : Option Nat} {o : Bool} (h : S_filewatch_Watcher_complete m a0 a1 a2 a3 = some o) : LWp Try.prog f32b0_lay 3 f32b0_c0 (f32b0_Q a0 a1 a2 a3 o) (initEnv 0 [.ptr (0, 0) 0 0, .int .i64 a0]) [((0, 0), .one [.int .i64 a1, .int .i64 a2, .osl (0, 1) 3 (a3.map e_QFileEvent)]), ((0, 1), .tok)] 3 := by
  unfold S_filewatch_Watcher_complete at h
  refine seqI ?_
  refine regI ?_
  refine seqI ?_
  refine regI ?_
  refine seqI ?_
  refine quietI ?_
  refine And.intro (fun hp => hp) ?_
  show yqs _ _ [(16, .cnd ((decide (((a3.map e_QFileEvent).length : Int) > 0)) == true) (.ptr (0, 0) 0 0)), (15, .cnd ((decide (((a3.map e_QFileEvent).length : Int) > 0)) == true) (.ptr (0, 0) 0 0)), (14, .cnd ((decide (((a3.map e_QFileEvent).length : Int) > 0)) == true) (.int .i64 a0)), (13, .bool (decide (((a3.map e_QFileEvent).length : Int) > 0))), (12, .bool (decide (((a3.map e_QFileEvent).length : Int) > 0))), (11, .int .i64 ((a3.map e_QFileEvent).length : Int)), (5, .int .i64 ((a3.map e_QFileEvent).length : Int)), (10, .int .i64 ((a3.map e_QFileEvent).length : Int)), (9, .osl (0, 1) 3 (a3.map e_QFileEvent)), (8, .ptr (0, 0) 0 2), (7, .ptr (0, 0) 0 0), (6, .ptr (0, 0) 0 0), (4, .bool false), (0, .ptr (0, 0) 0 0), (1, .int .i64 a0)] _ _
  refine And.intro (fun hp => hp) ?_
  refine And.intro (fun hp => hp) ?_
  refine And.intro (fun hp => hp) ?_
  obtain ⟨h1, h⟩ := ite_some h
  refine And.intro (fun hp => (And.intro (And.intro hp hp) (h1 hp))) ?_
  show yqs _ _ [(21, .cnd ((decide (((a3.map e_QFileEvent).length : Int) > 0)) == true) (.iptr 3 (a3.map e_QFileEvent) ((W (((a3.map e_QFileEvent).length : Int) - 1)).toNat) 0)), (20, .cnd ((decide (((a3.map e_QFileEvent).length : Int) > 0)) == true) (.int .i64 (W (((a3.map e_QFileEvent).length : Int) - 1)))), (19, .cnd ((decide (((a3.map e_QFileEvent).length : Int) > 0)) == true) (.int .i64 ((a3.map e_QFileEvent).length : Int))), (18, .cnd ((decide (((a3.map e_QFileEvent).length : Int) > 0)) == true) (.osl (0, 1) 3 (a3.map e_QFileEvent))), (17, .cnd ((decide (((a3.map e_QFileEvent).length : Int) > 0)) == true) (.ptr (0, 0) 0 2)), (16, .cnd ((decide (((a3.map e_QFileEvent).length : Int) > 0)) == true) (.ptr (0, 0) 0 0)), (15, .cnd ((decide (((a3.map e_QFileEvent).length : Int) > 0)) == true) (.ptr (0, 0) 0 0)), (14, .cnd ((decide (((a3.map e_QFileEvent).length : Int) > 0)) == true) (.int .i64 a0)), (13, .bool (decide (((a3.map e_QFileEvent).length : Int) > 0))), (12, .bool (decide (((a3.map e_QFileEvent).length : Int) > 0))), (11, .int .i64 ((a3.map e_QFileEvent).length : Int)), (5, .int .i64 ((a3.map e_QFileEvent).length : Int)), (10, .int .i64 ((a3.map e_QFileEvent).length : Int)), (9, .osl (0, 1) 3 (a3.map e_QFileEvent)), (8, .ptr (0, 0) 0 2), (7, .ptr (0, 0) 0 0), (6, .ptr (0, 0) 0 0), (4, .bool false), (0, .ptr (0, 0) 0 0), (1, .int .i64 a0)] _ _
  refine And.intro (fun hp => hp) ?_
  refine Exists.intro (e_QFileEvent (a3.getD ((W (((a3.map e_QFileEvent).length : Int) - 1)).toNat) default)) (And.intro (fun hp => And.intro (getD_enc e_QFileEvent _ _ (idx_ltL e_QFileEvent (h1 hp))) (And.intro hp (And.intro (idx_lt (h1 hp)) (Nat.le_of_ble_eq_true rfl)))) ?_)
  refine And.intro (fun hp => (And.intro hp hp)) ?_
  refine And.intro (fun hp => hp) ?_
  show yqs _ _ [(26, .cnd ((decide (((a3.map e_QFileEvent).length : Int) > 0)) == true) (.ptr (0, 0) 0 0)), (25, .cnd ((decide (((a3.map e_QFileEvent).length : Int) > 0)) == true) (.ptr (0, 0) 0 0)), (24, .cnd ((decide (((a3.map e_QFileEvent).length : Int) > 0)) == true) (.int .i64 (W (a0 - (a3.getD ((W (((a3.map e_QFileEvent).length : Int) - 1)).toNat) default).f_Time)))), (23, .cnd ((decide (((a3.map e_QFileEvent).length : Int) > 0)) == true) (.int .i64 ((a3.getD ((W (((a3.map e_QFileEvent).length : Int) - 1)).toNat) default).f_Time))), (22, .cnd ((decide (((a3.map e_QFileEvent).length : Int) > 0)) == true) (.iptr 3 (a3.map e_QFileEvent) ((W (((a3.map e_QFileEvent).length : Int) - 1)).toNat) 0)), (21, .cnd ((decide (((a3.map e_QFileEvent).length : Int) > 0)) == true) (.iptr 3 (a3.map e_QFileEvent) ((W (((a3.map e_QFileEvent).length : Int) - 1)).toNat) 0)), (20, .cnd ((decide (((a3.map e_QFileEvent).length : Int) > 0)) == true) (.int .i64 (W (((a3.map e_QFileEvent).length : Int) - 1)))), (19, .cnd ((decide (((a3.map e_QFileEvent).length : Int) > 0)) == true) (.int .i64 ((a3.map e_QFileEvent).length : Int))), (18, .cnd ((decide (((a3.map e_QFileEvent).length : Int) > 0)) == true) (.osl (0, 1) 3 (a3.map e_QFileEvent))), (17, .cnd ((decide (((a3.map e_QFileEvent).length : Int) > 0)) == true) (.ptr (0, 0) 0 2)), (16, .cnd ((decide (((a3.map e_QFileEvent).length : Int) > 0)) == true) (.ptr (0, 0) 0 0)), (15, .cnd ((decide (((a3.map e_QFileEvent).length : Int) > 0)) == true) (.ptr (0, 0) 0 0)), (14, .cnd ((decide (((a3.map e_QFileEvent).length : Int) > 0)) == true) (.int .i64 a0)), (13, .bool (decide (((a3.map e_QFileEvent).length : Int) > 0))), (12, .bool (decide (((a3.map e_QFileEvent).length : Int) > 0))), (11, .int .i64 ((a3.map e_QFileEvent).length : Int)), (5, .int .i64 ((a3.map e_QFileEvent).length : Int)), (10, .int .i64 ((a3.map e_QFileEvent).length : Int)), (9, .osl (0, 1) 3 (a3.map e_QFileEvent)), (8, .ptr (0, 0) 0 2), (7, .ptr (0, 0) 0 0), (6, .ptr (0, 0) 0 0), (4, .bool false), (0, .ptr (0, 0) 0 0), (1, .int .i64 a0)] _ _
  refine And.intro (fun hp => hp) ?_
  refine And.intro (fun hp => hp) ?_
  refine And.intro (fun hp => (And.intro hp hp)) ?_
  refine And.intro (fun hc => (bqt hc)) ?_
  refine LWp.sim (e := [(4, .bool ((decide (((a3.map e_QFileEvent).length : Int) > 0)) && (decide ((W (a0 - (a3.getD ((W (((a3.map e_QFileEvent).length : Int) - 1)).toNat) default).f_Time)) ≥ a1))))]) (L := [((0, 0), .one [.int .i64 a1, .int .i64 a2, .osl (3, 0) 3 (a3.map e_QFileEvent)]), ((3, 0), .tok)]) (n := 4) ?_ ?_
  · exact simI (M := [((3, 0), (0, 1))]) rfl (And.intro (Vw.same _ rfl) trivial) (And.intro (And.intro rfl (BVw.oneL (And.intro (Vw.same _ rfl) (And.intro (Vw.same _ rfl) (And.intro (Vw.osl _ _ _ _ rfl) trivial))))) (And.intro (And.intro rfl BVw.tok) trivial))
  refine retI ?_
  cases h
  exact And.intro trivial (finI (n' := 4) [((3, 0), (3, 0))] [] rfl rfl (Vw.same _ rfl) (And.intro (And.intro rfl (BVw.oneL (And.intro (Vw.same _ rfl) (And.intro (Vw.same _ rfl) (And.intro (Vw.osl _ _ _ _ rfl) trivial))))) (And.intro (And.intro rfl BVw.tok) trivial)))

theorem f32b0_ok {a0 : Int} {a1 : Int} {a2 : Int} {a3 : List G_QFileEvent} {m : Option Nat} {o : Bool} (h : S_filewatch_Watcher_complete m a0 a1 a2 a3 = some o) : ACalls Try.prog 32 [.ptr (0, 0) 0 0, .int .i64 a0] [((0, 0), .one [.int .i64 a1, .int .i64 a2, .osl (0, 1) 3 (a3.map e_QFileEvent)]), ((0, 1), .tok)] 3 (Gives 4 (.bool o) [((0, 0), .one [.int .i64 a1, .int .i64 a2, .osl (3, 0) 3 (a3.map e_QFileEvent)]), ((3, 0), .tok)]) := bfn_of (L := f32b0_L) f32b0_low f32b0_fok (Nat.le_of_ble_eq_true rfl) (f32b0_start h)

def f18b3_c0 : LCode := (.seq (.region [⟨some 4, .alloc [(.int .i64 0), (.isl 3 [] true)], none⟩,
   ⟨some 5, .mv (.c (.bool false)), none⟩])
 (.seq (.seq (.region [⟨some 7, .mv (.t 1), none⟩,
   ⟨some 8, .mv (.t 0), none⟩,
   ⟨some 9, .nilck (.t 8), none⟩,
   ⟨some 10, .faddr 1 (.t 9), none⟩,
   ⟨some 11, .load false 1 (.t 10), none⟩,
   ⟨some 12, .bin .lss (.t 7) (.t 11), none⟩])
 (.cond (.t 12)
  (.seq (.region [⟨some 13, .build [(.int .i64 0), (.isl 3 [] true)] [], none⟩,
    ⟨none, .store 2 (.t 4) (.t 13), none⟩,
    ⟨some 5, .mv (.c (.bool false)), none⟩])
  .ret)
  .skip))
 (.seq (.region [⟨some 14, .mv (.t 0), none⟩,
   ⟨some 15, .mv (.t 1), none⟩,
   ⟨some 16, .nilck (.t 14), none⟩,
   ⟨some 17, .faddr 1 (.t 16), none⟩,
   ⟨none, .store 1 (.t 17) (.t 15), none⟩])
 (.seq (.seq (.region [⟨some 18, .mv (.t 0), none⟩,
   ⟨some 19, .mv (.t 1), none⟩,
   ⟨some 20, .call 32 [(.t 18), (.t 19)], none⟩,
   ⟨some 21, .un .not (.t 20), none⟩])
 (.cond (.t 21)
  (.seq (.region [⟨some 22, .build [(.int .i64 0), (.isl 3 [] true)] [], none⟩,
    ⟨none, .store 2 (.t 4) (.t 22), none⟩,
    ⟨some 5, .mv (.c (.bool false)), none⟩])
  .ret)
  .skip))
 (.seq (.draw [⟨⟨some 23, .mv (.t 0), none⟩, []⟩,
   ⟨⟨some 24, .nilck (.t 23), none⟩, []⟩,
   ⟨⟨some 25, .faddr 2 (.t 24), none⟩, []⟩,
   ⟨⟨some 26, .load false 1 (.t 25), none⟩, []⟩,
   ⟨⟨some 27, .mv (.t 0), none⟩, []⟩,
   ⟨⟨some 28, .nilck (.t 27), none⟩, []⟩,
   ⟨⟨some 29, .faddr 0 (.t 28), none⟩, []⟩,
   ⟨⟨some 30, .load false 1 (.t 29), none⟩, []⟩,
   ⟨⟨some 31, .call 24 [(.t 26), (.t 30)], none⟩, []⟩,
   ⟨⟨some 6, .alloc [(.int .i64 0), (.isl 3 [] true)], none⟩, [3, 7]⟩,
   ⟨⟨none, .store 2 (.t 6) (.t 31), none⟩, []⟩])
 (.seq (.region [⟨some 32, .mv (.t 0), none⟩,
   ⟨some 33, .nilck (.t 32), none⟩,
   ⟨some 34, .faddr 2 (.t 33), none⟩,
   ⟨none, .store 1 (.t 34) (.c (.val (.slice none 0 0))), none⟩])
 (.seq (.seq (.region [⟨some 35, .faddr 1 (.t 6), none⟩,
   ⟨some 36, .load false 1 (.t 35), none⟩,
   ⟨some 37, .len false (.t 36), none⟩,
   ⟨some 38, .bin .eql (.t 37) (.c (.int .i64 0)), none⟩])
 (.cond (.t 38)
  (.seq (.region [⟨some 39, .build [(.int .i64 0), (.isl 3 [] true)] [], none⟩,
    ⟨none, .store 2 (.t 4) (.t 39), none⟩,
    ⟨some 5, .mv (.c (.bool false)), none⟩])
  .ret)
  .skip))
 (.seq (.region [⟨some 40, .load true 2 (.t 6), none⟩,
   ⟨none, .store 2 (.t 4) (.t 40), none⟩,
   ⟨some 5, .mv (.c (.bool true)), none⟩])
 .ret))))))))
def f18b3_lay : Lay := ⟨41, [], false⟩
def f18b3_res : List LRes := [.cell 4 true 2, .t 5]
def f18b3_L : LFn := ⟨2, f18b3_lay, f18b3_c0, f18b3_res⟩
theorem f18b3_low : lowFn Try.prog [] 18 = some f18b3_L := by kernel_rfl
theorem f18b3_fok : FnOk Try.prog 18 := ⟨_, Try.func18, rfl, rfl⟩
noncomputable def S_filewatch_Watcher_Poll_18_3 (m : Option Nat) (a0 : Int) (a1 : Int) (a2 : Int) (a3 : List G_QFileEvent) : Option (G_QFileBatch × Bool × Int × (List G_QFileEvent)) :=
  if (decide (a0 < a2)) = true then
    some ((G_QFileBatch.mk 0 ([] : List G_QFileEvent)), false, a2, a3)
  else
    (S_filewatch_Watcher_complete m a0 a1 a0 a3).bind fun v1 =>
    if (!v1) = true then
      some ((G_QFileBatch.mk 0 ([] : List G_QFileEvent)), false, a0, a3)
    else
      (S_filewatch_newBatch m a3 a1).bind fun v2 =>
      if (((v2.f_Events.map e_QFileEvent).length : Int) == 0) = true then
        some ((G_QFileBatch.mk 0 ([] : List G_QFileEvent)), false, a0, [])
      else
        some (v2, true, a0, [])

def f18b3_Q (a0 : Int) (a1 : Int) (a2 : Int) (a3 : List G_QFileEvent) (o : G_QFileBatch × Bool × Int × (List G_QFileEvent)) : Exit → Env → AHeap → Nat → Prop := FinK f18b3_res (FinTo 3 4 (.tup [.agg [.int .i64 o.1.f_Time, .isl 3 (o.1.f_Events.map e_QFileEvent) false], .bool o.2.1]) [((0, 0), .one [.int .i64 a1, .int .i64 o.2.2.1, .osl (3, 0) 3 (o.2.2.2.map e_QFileEvent)]), ((3, 0), .tok)])

theorem f18b3_start {a0 : Int} {a1 : Int} {a2 : Int} {a3 : List G_QFileEvent} {m : Option Nat} {o : G_QFileBatch × Bool × Int × (List G_QFileEvent)} (h : S_filewatch_Watcher_Poll_18_3 m a0 a1 a2 a3 = some o) : LWp Try.prog f18b3_lay 3 f18b3_c0 (f18b3_Q a0 a1 a2 a3 o) (initEnv 0 [.ptr (0, 0) 0 0, .int .i64 a0]) [((0, 0), .one [.int .i64 a1, .int .i64 a2, .osl (0, 1) 3 (a3.map e_QFileEvent)]), ((0, 1), .tok)] 3 := by
  unfold S_filewatch_Watcher_Poll_18_3 at h
  refine seqI ?_
  refine regI ?_
  refine seqI ?_
  refine seqI ?_
  refine regI ?_
  refine LWp.sim (e := [(0, .ptr (0, 0) 0 0), (1, .int .i64 a0), (4, .ptr (3, 0) 0 0), (12, .bool (decide (a0 < a2)))]) (L := [((0, 0), .one [.int .i64 a1, .int .i64 a2, .osl (4, 0) 3 (a3.map e_QFileEvent)]), ((3, 0), .one [.int .i64 0, .isl 3 (([] : List G_QFileEvent).map e_QFileEvent) true]), ((4, 0), .tok)]) (n := 5) ?_ ?_
  · exact simI (M := [((3, 0), (3, 0)), ((4, 0), (0, 1))]) rfl (And.intro (Vw.ptr _ _ _ _ rfl) (And.intro (Vw.same _ rfl) (And.intro (Vw.ptr _ _ _ _ rfl) (And.intro (Vw.same _ rfl) trivial)))) (And.intro (And.intro rfl (BVw.oneL (And.intro (Vw.same _ rfl) (And.intro (Vw.same _ rfl) (And.intro (Vw.osl _ _ _ _ rfl) trivial))))) (And.intro (And.intro rfl (BVw.oneL (And.intro (Vw.same _ rfl) (And.intro (Vw.same _ rfl) trivial)))) (And.intro (And.intro rfl BVw.tok) trivial)))
  refine condI (v := (decide (a0 < a2))) rfl trivial (fun h1 => ?_) (fun h1 => ?_)
  · have h := ite_tt h1 h
    refine seqI ?_
    refine regI ?_
    refine retI ?_
    cases h
    exact And.intro (And.intro trivial (And.intro rfl (Nat.le_of_ble_eq_true rfl))) (And.intro trivial (finI (n' := 5) [((3, 0), (4, 0))] [] rfl rfl (Vw.tupL (And.intro (Vw.aggL (And.intro (Vw.same _ rfl) (And.intro (Vw.islF _ _ _) trivial))) (And.intro (Vw.same _ rfl) trivial))) (And.intro (And.intro rfl (BVw.oneL (And.intro (Vw.same _ rfl) (And.intro (Vw.same _ rfl) (And.intro (Vw.osl _ _ _ _ rfl) trivial))))) (And.intro (And.intro rfl BVw.tok) trivial))))
  · have h := ite_ff h1 h
    refine skipI ?_
    refine seqI ?_
    refine regI ?_
    refine seqI ?_
    refine seqI ?_
    refine regI ?_
    obtain ⟨v1, h2, h⟩ := bind_some h
    refine bcall (k := 3) (m := 1) (L' := [((0, 0), .one [.int .i64 a1, .int .i64 a0, .osl (5, 0) 3 (a3.map e_QFileEvent)]), ((5, 0), .tok)]) (rest := [((3, 0), .one [.int .i64 0, .isl 3 (([] : List G_QFileEvent).map e_QFileEvent) true])]) (R' := .bool v1) [((0, 0), (0, 0)), ((0, 1), (4, 0))] (f32b0_ok h2) rfl rfl rfl (And.intro (Vw.ptr _ _ _ _ rfl) (And.intro (Vw.same _ rfl) trivial)) (And.intro (h0I (0, 0) rfl rfl (BVw.oneL (And.intro (Vw.same _ rfl) (And.intro (Vw.same _ rfl) (And.intro (Vw.osl _ _ _ _ rfl) trivial))))) (And.intro (h0I (4, 0) rfl rfl BVw.tok) trivial)) (nid_ren _ rfl) (And.intro rfl (And.intro rfl (And.intro rfl (And.intro rfl trivial)))) rfl ?_
    show yops _ _ _ [(20, .bool v1), (19, .int .i64 a0), (18, .ptr (0, 0) 0 0), (17, .ptr (0, 0) 0 1), (16, .ptr (0, 0) 0 0), (15, .int .i64 a0), (14, .ptr (0, 0) 0 0), (0, .ptr (0, 0) 0 0), (1, .int .i64 a0), (4, .ptr (3, 0) 0 0), (12, .bool (decide (a0 < a2)))] _ _
    refine LWp.sim (e := [(0, .ptr (0, 0) 0 0), (4, .ptr (3, 0) 0 0), (21, .bool (!v1))]) (L := [((0, 0), .one [.int .i64 a1, .int .i64 a0, .osl (4, 0) 3 (a3.map e_QFileEvent)]), ((3, 0), .one [.int .i64 0, .isl 3 (([] : List G_QFileEvent).map e_QFileEvent) true]), ((4, 0), .tok)]) (n := 5) ?_ ?_
    · exact simI (M := [((3, 0), (3, 0)), ((4, 0), (5, 0))]) rfl (And.intro (Vw.ptr _ _ _ _ rfl) (And.intro (Vw.ptr _ _ _ _ rfl) (And.intro (Vw.same _ rfl) trivial))) (And.intro (And.intro rfl (BVw.oneL (And.intro (Vw.same _ rfl) (And.intro (Vw.same _ rfl) (And.intro (Vw.osl _ _ _ _ rfl) trivial))))) (And.intro (And.intro rfl (BVw.oneL (And.intro (Vw.same _ rfl) (And.intro (Vw.same _ rfl) trivial)))) (And.intro (And.intro rfl BVw.tok) trivial)))
    refine condI (v := (!v1)) rfl trivial (fun h3 => ?_) (fun h3 => ?_)
    · have h := ite_tt h3 h
      refine seqI ?_
      refine regI ?_
      refine retI ?_
      cases h
      exact And.intro (And.intro trivial (And.intro rfl (Nat.le_of_ble_eq_true rfl))) (And.intro trivial (finI (n' := 5) [((3, 0), (4, 0))] [] rfl rfl (Vw.tupL (And.intro (Vw.aggL (And.intro (Vw.same _ rfl) (And.intro (Vw.islF _ _ _) trivial))) (And.intro (Vw.same _ rfl) trivial))) (And.intro (And.intro rfl (BVw.oneL (And.intro (Vw.same _ rfl) (And.intro (Vw.same _ rfl) (And.intro (Vw.osl _ _ _ _ rfl) trivial))))) (And.intro (And.intro rfl BVw.tok) trivial))))
    · have h := ite_ff h3 h
      refine skipI ?_
      refine seqI ?_
      refine drawI ?_
      obtain ⟨v2, h4, h⟩ := bind_some h
      refine PFn.call (f24_ok h4) (And.intro (Vw.oslI _ _ _) (And.intro (Vw.same _ rfl) trivial)) ?_
      show yd _ _ _ _ _ [(31, .agg [.int .i64 v2.f_Time, .isl 3 (v2.f_Events.map e_QFileEvent) false]), (30, .int .i64 a1), (29, .ptr (0, 0) 0 0), (28, .ptr (0, 0) 0 0), (27, .ptr (0, 0) 0 0), (26, .osl (4, 0) 3 (a3.map e_QFileEvent)), (25, .ptr (0, 0) 0 2), (24, .ptr (0, 0) 0 0), (23, .ptr (0, 0) 0 0), (0, .ptr (0, 0) 0 0), (4, .ptr (3, 0) 0 0), (21, .bool (!v1))] _ _
      refine And.intro rfl ?_
      refine And.intro rfl ?_
      refine LWp.sim (e := [(0, .ptr (0, 0) 0 0), (4, .ptr (3, 0) 0 0), (6, .ptr (4, 0) 0 0)]) (L := [((0, 0), .one [.int .i64 a1, .int .i64 a0, .osl (5, 0) 3 (a3.map e_QFileEvent)]), ((3, 0), .one [.int .i64 0, .isl 3 (([] : List G_QFileEvent).map e_QFileEvent) true]), ((4, 0), .one [.int .i64 v2.f_Time, .isl 3 (v2.f_Events.map e_QFileEvent) false]), ((5, 0), .tok)]) (n := 6) ?_ ?_
      · exact simI (M := [((3, 0), (3, 0)), ((4, 0), (5, 0)), ((5, 0), (4, 0))]) rfl (And.intro (Vw.ptr _ _ _ _ rfl) (And.intro (Vw.ptr _ _ _ _ rfl) (And.intro (Vw.ptr _ _ _ _ rfl) trivial))) (And.intro (And.intro rfl (BVw.oneL (And.intro (Vw.same _ rfl) (And.intro (Vw.same _ rfl) (And.intro (Vw.osl _ _ _ _ rfl) trivial))))) (And.intro (And.intro rfl (BVw.oneL (And.intro (Vw.same _ rfl) (And.intro (Vw.same _ rfl) trivial)))) (And.intro (And.intro rfl (BVw.oneL (And.intro (Vw.same _ rfl) (And.intro (Vw.same _ rfl) trivial)))) (And.intro (And.intro rfl BVw.tok) trivial))))
      refine seqI ?_
      refine regI ?_
      refine seqI ?_
      refine seqI ?_
      refine regI ?_
      refine LWp.sim (e := [(4, .ptr (3, 0) 0 0), (6, .ptr (4, 0) 0 0), (38, .bool (((v2.f_Events.map e_QFileEvent).length : Int) == 0))]) (L := [((0, 0), .one [.int .i64 a1, .int .i64 a0, .val (.slice none 0 0)]), ((3, 0), .one [.int .i64 0, .isl 3 (([] : List G_QFileEvent).map e_QFileEvent) true]), ((4, 0), .one [.int .i64 v2.f_Time, .isl 3 (v2.f_Events.map e_QFileEvent) false])]) (n := 5) ?_ ?_
      · exact simI (M := [((3, 0), (3, 0)), ((4, 0), (4, 0))]) rfl (And.intro (Vw.ptr _ _ _ _ rfl) (And.intro (Vw.ptr _ _ _ _ rfl) (And.intro (Vw.same _ rfl) trivial))) (And.intro (And.intro rfl (BVw.oneL (And.intro (Vw.same _ rfl) (And.intro (Vw.same _ rfl) (And.intro (Vw.same _ rfl) trivial))))) (And.intro (And.intro rfl (BVw.oneL (And.intro (Vw.same _ rfl) (And.intro (Vw.same _ rfl) trivial)))) (And.intro (And.intro rfl (BVw.oneL (And.intro (Vw.same _ rfl) (And.intro (Vw.same _ rfl) trivial)))) trivial)))
      refine condI (v := (((v2.f_Events.map e_QFileEvent).length : Int) == 0)) rfl trivial (fun h5 => ?_) (fun h5 => ?_)
      · have h := ite_tt h5 h
        refine seqI ?_
        refine regI ?_
        refine retI ?_
        cases h
        exact And.intro (And.intro trivial (And.intro rfl (Nat.le_of_ble_eq_true rfl))) (And.intro trivial (finI (n' := 5) [] [] rfl rfl (Vw.tupL (And.intro (Vw.aggL (And.intro (Vw.same _ rfl) (And.intro (Vw.islF _ _ _) trivial))) (And.intro (Vw.same _ rfl) trivial))) (And.intro (And.intro rfl (BVw.oneL (And.intro (Vw.same _ rfl) (And.intro (Vw.same _ rfl) (And.intro (Vw.nilO _ _ (by decide)) trivial))))) (And.intro (And.intro rfl (And.intro (by decide) (by decide))) trivial))))
      · have h := ite_ff h5 h
        refine skipI ?_
        refine seqI ?_
        refine regI ?_
        refine retI ?_
        cases h
        exact And.intro (And.intro trivial (And.intro rfl (Nat.le_of_ble_eq_true rfl))) (And.intro trivial (finI (n' := 5) [] [] rfl rfl (Vw.same _ rfl) (And.intro (And.intro rfl (BVw.oneL (And.intro (Vw.same _ rfl) (And.intro (Vw.same _ rfl) (And.intro (Vw.nilO _ _ (by decide)) trivial))))) (And.intro (And.intro rfl (And.intro (by decide) (by decide))) trivial))))

theorem f18b3_ok {a0 : Int} {a1 : Int} {a2 : Int} {a3 : List G_QFileEvent} {m : Option Nat} {o : G_QFileBatch × Bool × Int × (List G_QFileEvent)} (h : S_filewatch_Watcher_Poll_18_3 m a0 a1 a2 a3 = some o) : ACalls Try.prog 18 [.ptr (0, 0) 0 0, .int .i64 a0] [((0, 0), .one [.int .i64 a1, .int .i64 a2, .osl (0, 1) 3 (a3.map e_QFileEvent)]), ((0, 1), .tok)] 3 (Gives 4 (.tup [.agg [.int .i64 o.1.f_Time, .isl 3 (o.1.f_Events.map e_QFileEvent) false], .bool o.2.1]) [((0, 0), .one [.int .i64 a1, .int .i64 o.2.2.1, .osl (3, 0) 3 (o.2.2.2.map e_QFileEvent)]), ((3, 0), .tok)]) := bfn_of (L := f18b3_L) f18b3_low f18b3_fok (Nat.le_of_ble_eq_true rfl) (f18b3_start h)

def f30_c2 : LCode := (.seq (.seq (.region [⟨some 13, .mv (.t 6), none⟩,
   ⟨some 14, .mv (.t 3), none⟩,
   ⟨some 15, .len false (.t 14), none⟩,
   ⟨some 16, .bin .lss (.t 13) (.t 15), none⟩,
   ⟨some 17, .mv (.t 16), none⟩,
   ⟨some 18, .mv (.t 3), some (17, true)⟩,
   ⟨some 19, .mv (.t 6), some (17, true)⟩,
   ⟨some 20, .iaddr 1 (.t 18) (.t 19), some (17, true)⟩,
   ⟨some 21, .load false 1 (.t 20), some (17, true)⟩,
   ⟨some 22, .mv (.t 5), some (17, true)⟩,
   ⟨some 23, .bin .lss (.t 21) (.t 22), some (17, true)⟩,
   ⟨some 24, .pick (.t 17) (.t 23) (.c (.bool false)), none⟩])
 (.cond (.t 24)
  .skip
  (.exit 2)))
 (.block 3
  (.region [⟨some 25, .mv (.t 6), none⟩,
    ⟨some 26, .bin .add (.t 25) (.c (.int .i64 1)), none⟩,
    ⟨some 6, .mv (.t 26), none⟩])))
def f30_c0 : LCode := (.seq (.region [⟨some 27, .mv (.t 6), none⟩,
   ⟨some 28, .mv (.t 3), none⟩,
   ⟨some 29, .len false (.t 28), none⟩,
   ⟨some 30, .bin .eql (.t 27) (.t 29), none⟩,
   ⟨some 31, .mv (.t 30), none⟩,
   ⟨some 32, .mv (.t 3), some (31, false)⟩,
   ⟨some 33, .mv (.t 6), some (31, false)⟩,
   ⟨some 34, .iaddr 1 (.t 32) (.t 33), some (31, false)⟩,
   ⟨some 35, .load false 1 (.t 34), some (31, false)⟩,
   ⟨some 36, .mv (.t 5), some (31, false)⟩,
   ⟨some 37, .bin .neq (.t 35) (.t 36), some (31, false)⟩,
   ⟨some 38, .pick (.t 31) (.c (.bool true)) (.t 37), none⟩])
 (.cond (.t 38)
  (.draw [⟨⟨some 39, .mv (.t 3), none⟩, []⟩,
    ⟨⟨some 40, .mv (.t 6), none⟩, []⟩,
    ⟨⟨some 41, .mv (.t 6), none⟩, []⟩,
    ⟨⟨some 42, .slSl 1 (.t 39) none (some (.t 40)) (some (.t 41)), none⟩, []⟩,
    ⟨⟨some 43, .mv (.t 5), none⟩, []⟩,
    ⟨⟨some 45, .mv (.t 3), none⟩, []⟩,
    ⟨⟨some 46, .mv (.t 6), none⟩, []⟩,
    ⟨⟨some 47, .slSl 1 (.t 45) (some (.t 46)) none none, none⟩, []⟩,
    ⟨⟨some 44, .mkSl true 1 [(.str [])] 1 [(0, (.t 43))], none⟩, []⟩,
    ⟨⟨some 48, .app true 1 16 (.t 44) (.t 47), none⟩, []⟩,
    ⟨⟨some 49, .app true 1 16 (.t 42) (.t 48), none⟩, []⟩,
    ⟨⟨some 3, .mv (.t 49), none⟩, []⟩])
  .skip))
def f30_c1 : LCode := (.region [⟨some 50, .bin .add (.t 9) (.c (.int .i64 1)), none⟩,
   ⟨some 9, .mv (.t 50), none⟩])
def f30_c4 : LCode := (.seq (.region [⟨some 10, .bin .lss (.t 9) (.t 8), none⟩])
 (.seq (.cond (.t 10)
  .skip
  (.exit 0))
 (.seq (.block 1
  (.seq (.region [⟨some 11, .iaddr 1 (.t 7) (.t 9), none⟩,
    ⟨some 12, .load false 1 (.t 11), none⟩,
    ⟨some 5, .mv (.t 12), none⟩])
  (.seq (.region [⟨some 6, .mv (.c (.int .i64 0)), none⟩])
  (.seq (.block 2
   (.loop
    f30_c2))
  f30_c0))))
 f30_c1)))
def f30_c3 : LCode := (.seq (.region [⟨some 51, .mv (.t 3), none⟩,
   ⟨some 2, .mv (.t 51), none⟩])
 .ret)
def f30_c5 : LCode := (.seq (.region [⟨some 2, .mv (.c (.val (.slice none 0 0))), none⟩])
 (.seq (.region [⟨some 3, .mv (.c (.val (.slice none 0 0))), none⟩])
 (.seq (.seq (.region [⟨some 7, .mv (.t 0), none⟩,
   ⟨some 8, .len false (.t 7), none⟩,
   ⟨some 9, .mv (.c (.int .i64 0)), none⟩])
 (.block 0
  (.loop
   f30_c4)))
 f30_c3)))
def f30_lay : Lay := ⟨52, [], false⟩
def f30_res : List LRes := [.t 2]
def f30_L : LFn := ⟨1, f30_lay, f30_c5, f30_res⟩
theorem f30_low : lowFn Try.prog [] 30 = some f30_L := by kernel_rfl
theorem f30_fok : FnOk Try.prog 30 := ⟨_, Try.func30, rfl, rfl⟩
def f30_Q (a0 : List (List UInt8)) (o : (List (List UInt8))) : Exit → Env → AHeap → Nat → Prop := FinK f30_res (PureEnd (.isl 1 (o.map e_str) false))

def f30_L3_env (a0 : List (List UInt8)) (s : ((List (List UInt8)) × Int)) : Env := [(3, .osl (0, 0) 1 (s.1.map e_str)), (7, .isl 1 (a0.map e_str) false), (8, .int .i64 ((a0.map e_str).length : Int)), (9, .int .i64 s.2)]
def f30_L3_hp (a0 : List (List UInt8)) (s : ((List (List UInt8)) × Int)) : AHeap := [((0, 0), .tok)]
def f30_L3_Q (a0 : List (List UInt8)) (o : (List (List UInt8))) : Exit → Env → AHeap → Nat → Prop := (QBlock 0 (QSeq Try.prog f30_lay 0 f30_c3 (f30_Q a0 o)))

def f30_L4_env (a0 : List (List UInt8)) (v3 : List (List UInt8)) (v4 : Int) (s : Int) : Env := [(3, .osl (0, 0) 1 (v3.map e_str)), (5, .str (a0.getD v4.toNat default)), (6, .int .i64 s), (7, .isl 1 (a0.map e_str) false), (8, .int .i64 ((a0.map e_str).length : Int)), (9, .int .i64 v4)]
def f30_L4_hp (a0 : List (List UInt8)) (v3 : List (List UInt8)) (v4 : Int) (s : Int) : AHeap := [((0, 0), .tok)]
def f30_L4_Q (a0 : List (List UInt8)) (o : (((List (List UInt8)) × Int) ⊕ (List (List UInt8)))) : Exit → Env → AHeap → Nat → Prop := (QBlock 2 (QSeq Try.prog f30_lay 0 f30_c0 (QBlock 1 (QSeq Try.prog f30_lay 0 f30_c1 (BodyQ 0 1 (f30_L3_env a0) (f30_L3_hp a0) (f30_L3_Q a0) o)))))

noncomputable def S_glossatorref3_SortStrings_j6 (m : Option Nat) (a0 : List (List UInt8)) (v4 : Int) (v8 : List (List UInt8)) : Option (((List (List UInt8)) × Int) ⊕ (List (List UInt8))) :=
  some (.inl (v8, (W (v4 + 1))))

noncomputable def S_glossatorref3_SortStrings_j5 (m : Option Nat) (a0 : List (List UInt8)) (v3 : List (List UInt8)) (v4 : Int) (v7 : Int) : Option (((List (List UInt8)) × Int) ⊕ (List (List UInt8))) :=
  if (((v7 == ((v3.map e_str).length : Int)) == false) = true → (0 : Int) ≤ v7 ∧ v7 < ((v3.map e_str).length : Int)) then
  if ((v7 == ((v3.map e_str).length : Int)) || (!((v3.getD v7.toNat default) == (a0.getD v4.toNat default)))) = true then
    if (0 : Int) ≤ 0 ∧ 0 ≤ v7 ∧ v7 ≤ v7 ∧ v7 ≤ ((v3.map e_str).length : Int) then
    if (0 : Int) ≤ v7 ∧ v7 ≤ ((v3.map e_str).length : Int) then
    if ((([(a0.getD v4.toNat default)] : List (List UInt8)) ++ (v3.drop v7.toNat)).map e_str).length * 16 ≤ 140737488355328 then
    if (decide (v7 = v7)) = true then
    if (((v3.take v7.toNat) ++ (([(a0.getD v4.toNat default)] : List (List UInt8)) ++ (v3.drop v7.toNat))).map e_str).length * 16 ≤ 140737488355328 then
    S_glossatorref3_SortStrings_j6 m a0 v4 ((v3.take v7.toNat) ++ (([(a0.getD v4.toNat default)] : List (List UInt8)) ++ (v3.drop v7.toNat)))
    else none
    else none
    else none
    else none
    else none
  else
    S_glossatorref3_SortStrings_j6 m a0 v4 v3
  else none

noncomputable def S_glossatorref3_SortStrings_b4 (m : Option Nat) (a0 : List (List UInt8)) (v3 : List (List UInt8)) (v4 : Int) (v7 : Int) : Option (Int ⊕ (((List (List UInt8)) × Int) ⊕ (List (List UInt8)))) :=
  if (((decide (v7 < ((v3.map e_str).length : Int))) == true) = true → (0 : Int) ≤ v7 ∧ v7 < ((v3.map e_str).length : Int)) then
  if ((decide (v7 < ((v3.map e_str).length : Int))) && (Op.bytesLess (v3.getD v7.toNat default) (a0.getD v4.toNat default))) = true then
    some (.inl (W (v7 + 1)))
  else
    Option.map Sum.inr (
      S_glossatorref3_SortStrings_j5 m a0 v3 v4 v7)
  else none

noncomputable def S_glossatorref3_SortStrings_l4 (m : Option Nat) (a0 : List (List UInt8)) (v3 : List (List UInt8)) (v4 : Int) (v7 : Int) : Option (((List (List UInt8)) × Int) ⊕ (List (List UInt8))) := loopM m (fun (s : Int) => S_glossatorref3_SortStrings_b4 m a0 v3 v4 s) v7

theorem f30_j6_ok {a0 : List (List UInt8)} {v4 : Int} {v8 : List (List UInt8)} {m : Option Nat} {o : (((List (List UInt8)) × Int) ⊕ (List (List UInt8)))} (h : S_glossatorref3_SortStrings_j6 m a0 v4 v8 = some o) :
    LWp Try.prog f30_lay 0 f30_c1 (BodyQ 0 1 (f30_L3_env a0) (f30_L3_hp a0) (f30_L3_Q a0) o) [(3, .osl (0, 0) 1 (v8.map e_str)), (7, .isl 1 (a0.map e_str) false), (8, .int .i64 ((a0.map e_str).length : Int)), (9, .int .i64 v4)] [((0, 0), .tok)] 1 := by
  unfold S_glossatorref3_SortStrings_j6 at h
  refine regI ?_
  cases h
  exact And.intro rfl (simI (M := [((0, 0), (0, 0))]) rfl (And.intro (Vw.osl _ _ _ _ rfl) (And.intro (Vw.same _ rfl) (And.intro (Vw.same _ rfl) (And.intro (Vw.same _ rfl) trivial)))) (And.intro (And.intro rfl BVw.tok) trivial))

theorem f30_j5_ok {a0 : List (List UInt8)} {v3 : List (List UInt8)} {v4 : Int} {v7 : Int} {m : Option Nat} {o : (((List (List UInt8)) × Int) ⊕ (List (List UInt8)))} (h : S_glossatorref3_SortStrings_j5 m a0 v3 v4 v7 = some o) :
    LWp Try.prog f30_lay 0 f30_c0 (QBlock 1 (QSeq Try.prog f30_lay 0 f30_c1 (BodyQ 0 1 (f30_L3_env a0) (f30_L3_hp a0) (f30_L3_Q a0) o))) [(3, .osl (0, 0) 1 (v3.map e_str)), (5, .str (a0.getD v4.toNat default)), (6, .int .i64 v7), (7, .isl 1 (a0.map e_str) false), (8, .int .i64 ((a0.map e_str).length : Int)), (9, .int .i64 v4)] [((0, 0), .tok)] 1 := by
  unfold S_glossatorref3_SortStrings_j5 at h
  refine seqI ?_
  refine regI ?_
  obtain ⟨h38, h⟩ := ite_some h
  refine And.intro (fun hp => (And.intro (And.intro hp hp) (h38 hp))) ?_
  show yops _ _ _ [(34, .cnd ((v7 == ((v3.map e_str).length : Int)) == false) (.iptr 1 (v3.map e_str) v7.toNat 0)), (33, .cnd ((v7 == ((v3.map e_str).length : Int)) == false) (.int .i64 v7)), (32, .cnd ((v7 == ((v3.map e_str).length : Int)) == false) (.osl (0, 0) 1 (v3.map e_str))), (31, .bool (v7 == ((v3.map e_str).length : Int))), (30, .bool (v7 == ((v3.map e_str).length : Int))), (29, .int .i64 ((v3.map e_str).length : Int)), (28, .osl (0, 0) 1 (v3.map e_str)), (27, .int .i64 v7), (3, .osl (0, 0) 1 (v3.map e_str)), (5, .str (a0.getD v4.toNat default)), (6, .int .i64 v7), (7, .isl 1 (a0.map e_str) false), (8, .int .i64 ((a0.map e_str).length : Int)), (9, .int .i64 v4)] _ _
  refine Exists.intro (e_str (v3.getD v7.toNat default)) (And.intro (fun hp => And.intro (getD_enc e_str _ _ (idx_ltL e_str (h38 hp))) (And.intro hp (And.intro (idx_lt (h38 hp)) (Nat.le_of_ble_eq_true rfl)))) ?_)
  refine And.intro (fun hp => (And.intro hp hp)) ?_
  refine And.intro (fun hc => (bqf hc)) ?_
  refine LWp.sim (e := [(3, .osl (0, 0) 1 (v3.map e_str)), (5, .str (a0.getD v4.toNat default)), (6, .int .i64 v7), (7, .isl 1 (a0.map e_str) false), (8, .int .i64 ((a0.map e_str).length : Int)), (9, .int .i64 v4), (38, .bool ((v7 == ((v3.map e_str).length : Int)) || (!((v3.getD v7.toNat default) == (a0.getD v4.toNat default)))))]) (L := [((0, 0), .tok)]) (n := 1) ?_ ?_
  · exact simI (M := [((0, 0), (0, 0))]) rfl (And.intro (Vw.osl _ _ _ _ rfl) (And.intro (Vw.same _ rfl) (And.intro (Vw.same _ rfl) (And.intro (Vw.same _ rfl) (And.intro (Vw.same _ rfl) (And.intro (Vw.same _ rfl) (And.intro (Vw.same _ rfl) trivial))))))) (And.intro (And.intro rfl BVw.tok) trivial)
  refine condI (v := ((v7 == ((v3.map e_str).length : Int)) || (!((v3.getD v7.toNat default) == (a0.getD v4.toNat default))))) rfl trivial (fun h39 => ?_) (fun h39 => ?_)
  · have h := ite_tt h39 h
    refine drawO rfl ?_
    obtain ⟨h40, h⟩ := ite_some h
    refine Exists.intro (.isl 1 ((v3.take v7.toNat).map e_str) (decide (v7 = v7))) (And.intro (sl_eq e_str (slB e_str v3 _) rfl) (And.intro (And.intro rfl h40) ?_))
    obtain ⟨h41, h⟩ := ite_some h
    refine Exists.intro (.osl (0, 0) 1 ((v3.drop v7.toNat).map e_str)) (And.intro (osl_enc e_str _ _ _ _) (And.intro (And.intro rfl h41) ?_))
    obtain ⟨h42, h⟩ := ite_some h
    refine Exists.intro ((([(a0.getD v4.toNat default)] : List (List UInt8)) ++ (v3.drop v7.toNat)).map e_str) (And.intro (app_enc e_str ([(a0.getD v4.toNat default)] : List (List UInt8)) (v3.drop v7.toNat)) (And.intro (And.intro rfl h42) ?_))
    obtain ⟨h43, h⟩ := ite_some h
    obtain ⟨h44, h⟩ := ite_some h
    refine Exists.intro (((v3.take v7.toNat) ++ (([(a0.getD v4.toNat default)] : List (List UInt8)) ++ (v3.drop v7.toNat))).map e_str) (And.intro (app_enc e_str (v3.take v7.toNat) (([(a0.getD v4.toNat default)] : List (List UInt8)) ++ (v3.drop v7.toNat))) (And.intro (And.intro h43 h44) ?_))
    refine LWp.sim ?_ (f30_j6_ok h)
    exact simI (M := [((0, 0), (2, 0))]) rfl (And.intro (Vw.osl _ _ _ _ rfl) (And.intro (Vw.same _ rfl) (And.intro (Vw.same _ rfl) (And.intro (Vw.same _ rfl) trivial)))) (And.intro (And.intro rfl BVw.tok) trivial)
  · have h := ite_ff h39 h
    refine skipI ?_
    refine LWp.sim ?_ (f30_j6_ok h)
    exact simI (M := [((0, 0), (0, 0))]) rfl (And.intro (Vw.osl _ _ _ _ rfl) (And.intro (Vw.same _ rfl) (And.intro (Vw.same _ rfl) (And.intro (Vw.same _ rfl) trivial)))) (And.intro (And.intro rfl BVw.tok) trivial)

theorem f30_L4_bok {a0 : List (List UInt8)} {v3 : List (List UInt8)} {v4 : Int} {v7 : Int} {m : Option Nat} {o : Int ⊕ (((List (List UInt8)) × Int) ⊕ (List (List UInt8)))} (h : S_glossatorref3_SortStrings_b4 m a0 v3 v4 v7 = some o) :
    LWp Try.prog f30_lay 0 f30_c2 (BodyQ 0 1 (f30_L4_env a0 v3 v4) (f30_L4_hp a0 v3 v4) (f30_L4_Q a0) o) [(3, .osl (0, 0) 1 (v3.map e_str)), (5, .str (a0.getD v4.toNat default)), (6, .int .i64 v7), (7, .isl 1 (a0.map e_str) false), (8, .int .i64 ((a0.map e_str).length : Int)), (9, .int .i64 v4)] [((0, 0), .tok)] 1 := by
  unfold S_glossatorref3_SortStrings_b4 at h
  refine seqI ?_
  refine seqI ?_
  refine regI ?_
  obtain ⟨h36, h⟩ := ite_some h
  refine And.intro (fun hp => (And.intro (And.intro hp hp) (h36 hp))) ?_
  show yops _ _ _ [(20, .cnd ((decide (v7 < ((v3.map e_str).length : Int))) == true) (.iptr 1 (v3.map e_str) v7.toNat 0)), (19, .cnd ((decide (v7 < ((v3.map e_str).length : Int))) == true) (.int .i64 v7)), (18, .cnd ((decide (v7 < ((v3.map e_str).length : Int))) == true) (.osl (0, 0) 1 (v3.map e_str))), (17, .bool (decide (v7 < ((v3.map e_str).length : Int)))), (16, .bool (decide (v7 < ((v3.map e_str).length : Int)))), (15, .int .i64 ((v3.map e_str).length : Int)), (14, .osl (0, 0) 1 (v3.map e_str)), (13, .int .i64 v7), (3, .osl (0, 0) 1 (v3.map e_str)), (5, .str (a0.getD v4.toNat default)), (6, .int .i64 v7), (7, .isl 1 (a0.map e_str) false), (8, .int .i64 ((a0.map e_str).length : Int)), (9, .int .i64 v4)] _ _
  refine Exists.intro (e_str (v3.getD v7.toNat default)) (And.intro (fun hp => And.intro (getD_enc e_str _ _ (idx_ltL e_str (h36 hp))) (And.intro hp (And.intro (idx_lt (h36 hp)) (Nat.le_of_ble_eq_true rfl)))) ?_)
  refine And.intro (fun hp => (And.intro hp hp)) ?_
  refine And.intro (fun hc => (bqt hc)) ?_
  refine LWp.sim (e := [(3, .osl (0, 0) 1 (v3.map e_str)), (5, .str (a0.getD v4.toNat default)), (6, .int .i64 v7), (7, .isl 1 (a0.map e_str) false), (8, .int .i64 ((a0.map e_str).length : Int)), (9, .int .i64 v4), (24, .bool ((decide (v7 < ((v3.map e_str).length : Int))) && (Op.bytesLess (v3.getD v7.toNat default) (a0.getD v4.toNat default))))]) (L := [((0, 0), .tok)]) (n := 1) ?_ ?_
  · exact simI (M := [((0, 0), (0, 0))]) rfl (And.intro (Vw.osl _ _ _ _ rfl) (And.intro (Vw.same _ rfl) (And.intro (Vw.same _ rfl) (And.intro (Vw.same _ rfl) (And.intro (Vw.same _ rfl) (And.intro (Vw.same _ rfl) (And.intro (Vw.same _ rfl) trivial))))))) (And.intro (And.intro rfl BVw.tok) trivial)
  refine condI (v := ((decide (v7 < ((v3.map e_str).length : Int))) && (Op.bytesLess (v3.getD v7.toNat default) (a0.getD v4.toNat default)))) rfl trivial (fun h37 => ?_) (fun h37 => ?_)
  · have h := ite_tt h37 h
    refine skipI ?_
    refine blockI ?_
    refine regI ?_
    cases h
    exact And.intro rfl (simI (M := [((0, 0), (0, 0))]) rfl (And.intro (Vw.osl _ _ _ _ rfl) (And.intro (Vw.same _ rfl) (And.intro (Vw.same _ rfl) (And.intro (Vw.same _ rfl) (And.intro (Vw.same _ rfl) (And.intro (Vw.same _ rfl) trivial)))))) (And.intro (And.intro rfl BVw.tok) trivial))
  · have h := ite_ff h37 h
    refine exitI ?_
    obtain ⟨o, hq, rfl⟩ := Option.map_eq_some_iff.1 h
    replace h := hq; clear hq
    refine And.intro nofun ?_
    refine LWp.sim ?_ (f30_j5_ok h)
    exact simI (M := [((0, 0), (0, 0))]) rfl (And.intro (Vw.osl _ _ _ _ rfl) (And.intro (Vw.same _ rfl) (And.intro (Vw.same _ rfl) (And.intro (Vw.same _ rfl) (And.intro (Vw.same _ rfl) (And.intro (Vw.same _ rfl) trivial)))))) (And.intro (And.intro rfl BVw.tok) trivial)

theorem f30_L4_ok {a0 : List (List UInt8)} {v3 : List (List UInt8)} {v4 : Int} {v7 : Int} {m : Option Nat} {o : (((List (List UInt8)) × Int) ⊕ (List (List UInt8)))} (h : S_glossatorref3_SortStrings_l4 m a0 v3 v4 v7 = some o) :
    LWp Try.prog f30_lay 0 (.loop f30_c2) (QBlock 2 (QSeq Try.prog f30_lay 0 f30_c0 (QBlock 1 (QSeq Try.prog f30_lay 0 f30_c1 (BodyQ 0 1 (f30_L3_env a0) (f30_L3_hp a0) (f30_L3_Q a0) o))))) [(3, .osl (0, 0) 1 (v3.map e_str)), (5, .str (a0.getD v4.toNat default)), (6, .int .i64 v7), (7, .isl 1 (a0.map e_str) false), (8, .int .i64 ((a0.map e_str).length : Int)), (9, .int .i64 v4)] [((0, 0), .tok)] 1 :=
  LWp_loopM (m := m) (s := (v7 : Int)) (r := o) (fun (s : Int) => S_glossatorref3_SortStrings_b4 m a0 v3 v4 s) (f30_L4_env a0 v3 v4) (f30_L4_hp a0 v3 v4) (f30_L4_Q a0) (fun s o h => f30_L4_bok h) h

noncomputable def S_glossatorref3_SortStrings_j7 (m : Option Nat) (v3 : List (List UInt8)) : Option (List (List UInt8)) :=
  some v3

noncomputable def S_glossatorref3_SortStrings_b3 (m : Option Nat) (a0 : List (List UInt8)) (v3 : List (List UInt8)) (v4 : Int) : Option (((List (List UInt8)) × Int) ⊕ (List (List UInt8))) :=
  if (decide (v4 < ((a0.map e_str).length : Int))) = true then
    if (0 : Int) ≤ v4 ∧ v4 < ((a0.map e_str).length : Int) then
    S_glossatorref3_SortStrings_l4 m a0 v3 v4 0
    else none
  else
    Option.map Sum.inr (
      S_glossatorref3_SortStrings_j7 m v3)

noncomputable def S_glossatorref3_SortStrings_l3 (m : Option Nat) (a0 : List (List UInt8)) (v3 : List (List UInt8)) (v4 : Int) : Option (List (List UInt8)) := loopM m (fun (s : ((List (List UInt8)) × Int)) => S_glossatorref3_SortStrings_b3 m a0 s.1 s.2) (v3, v4)

theorem f30_j7_ok {a0 : List (List UInt8)} {v3 : List (List UInt8)} {m : Option Nat} {o : (List (List UInt8))} (h : S_glossatorref3_SortStrings_j7 m v3 = some o) :
    LWp Try.prog f30_lay 0 f30_c3 (f30_Q a0 o) [(3, .osl (0, 0) 1 (v3.map e_str))] [((0, 0), .tok)] 1 := by
  unfold S_glossatorref3_SortStrings_j7 at h
  refine seqI ?_
  refine regI ?_
  refine retI ?_
  cases h
  exact And.intro trivial (And.intro rfl (Vw.oslI _ _ _))

theorem f30_L3_bok {a0 : List (List UInt8)} {v3 : List (List UInt8)} {v4 : Int} {m : Option Nat} {o : ((List (List UInt8)) × Int) ⊕ (List (List UInt8))} (h : S_glossatorref3_SortStrings_b3 m a0 v3 v4 = some o) :
    LWp Try.prog f30_lay 0 f30_c4 (BodyQ 0 1 (f30_L3_env a0) (f30_L3_hp a0) (f30_L3_Q a0) o) [(3, .osl (0, 0) 1 (v3.map e_str)), (7, .isl 1 (a0.map e_str) false), (8, .int .i64 ((a0.map e_str).length : Int)), (9, .int .i64 v4)] [((0, 0), .tok)] 1 := by
  unfold S_glossatorref3_SortStrings_b3 at h
  refine seqI ?_
  refine regI ?_
  refine seqI ?_
  refine condI (v := (decide (v4 < ((a0.map e_str).length : Int)))) rfl trivial (fun h30 => ?_) (fun h30 => ?_)
  · have h := ite_tt h30 h
    refine skipI ?_
    refine seqI ?_
    refine blockI ?_
    refine seqI ?_
    refine regI ?_
    obtain ⟨h31, h⟩ := ite_some h
    refine And.intro h31 ?_
    refine Exists.intro (e_str (a0.getD v4.toNat default)) (And.intro (getD_enc e_str _ _ (idx_ltL e_str h31)) (And.intro (And.intro (idx_lt h31) (Nat.le_of_ble_eq_true rfl)) ?_))
    refine seqI ?_
    refine regI ?_
    refine seqI ?_
    refine blockI ?_
    refine LWp.sim ?_ (f30_L4_ok h)
    exact simI (M := [((0, 0), (0, 0))]) rfl (And.intro (Vw.osl _ _ _ _ rfl) (And.intro (Vw.same _ rfl) (And.intro (Vw.same _ rfl) (And.intro (Vw.same _ rfl) (And.intro (Vw.same _ rfl) (And.intro (Vw.same _ rfl) trivial)))))) (And.intro (And.intro rfl BVw.tok) trivial)
  · have h := ite_ff h30 h
    refine exitI ?_
    obtain ⟨o, hq, rfl⟩ := Option.map_eq_some_iff.1 h
    replace h := hq; clear hq
    refine And.intro nofun ?_
    refine LWp.sim ?_ (f30_j7_ok h)
    exact simI (M := [((0, 0), (0, 0))]) rfl (And.intro (Vw.osl _ _ _ _ rfl) trivial) (And.intro (And.intro rfl BVw.tok) trivial)

theorem f30_L3_ok {a0 : List (List UInt8)} {v3 : List (List UInt8)} {v4 : Int} {m : Option Nat} {o : (List (List UInt8))} (h : S_glossatorref3_SortStrings_l3 m a0 v3 v4 = some o) :
    LWp Try.prog f30_lay 0 (.loop f30_c4) (QBlock 0 (QSeq Try.prog f30_lay 0 f30_c3 (f30_Q a0 o))) [(3, .osl (0, 0) 1 (v3.map e_str)), (7, .isl 1 (a0.map e_str) false), (8, .int .i64 ((a0.map e_str).length : Int)), (9, .int .i64 v4)] [((0, 0), .tok)] 1 :=
  LWp_loopM (m := m) (s := ((v3, v4) : ((List (List UInt8)) × Int))) (r := o) (fun (s : ((List (List UInt8)) × Int)) => S_glossatorref3_SortStrings_b3 m a0 s.1 s.2) (f30_L3_env a0) (f30_L3_hp a0) (f30_L3_Q a0) (fun s o h => f30_L3_bok h) h

noncomputable def S_glossatorref3_SortStrings (m : Option Nat) (a0 : List (List UInt8)) : Option (List (List UInt8)) :=
  S_glossatorref3_SortStrings_l3 m a0 [] 0

theorem f30_start {a0 : List (List UInt8)} {m : Option Nat} {o : (List (List UInt8))} (h : S_glossatorref3_SortStrings m a0 = some o) : LWp Try.prog f30_lay 0 f30_c5 (f30_Q a0 o) (initEnv 0 [.isl 1 (a0.map e_str) false]) [] 0 := by
  unfold S_glossatorref3_SortStrings at h
  refine seqI ?_
  refine regI ?_
  refine seqI ?_
  refine regI ?_
  refine seqI ?_
  refine seqI ?_
  refine regI ?_
  refine blockI ?_
  refine LWp.sim ?_ (f30_L3_ok h)
  exact simI (M := []) rfl (And.intro (Vw.nilO _ _ (by decide)) (And.intro (Vw.same _ rfl) (And.intro (Vw.same _ rfl) (And.intro (Vw.same _ rfl) trivial)))) (And.intro (And.intro rfl (And.intro (by decide) (by decide))) trivial)

theorem f30_ok {a0 : List (List UInt8)} {m : Option Nat} {o : (List (List UInt8))} (h : S_glossatorref3_SortStrings m a0 = some o) : PFn Try.prog 30 [.isl 1 (a0.map e_str) false] (.isl 1 (o.map e_str) false) := PFn.ofFnW (L := f30_L) f30_low f30_fok (Nat.le_of_ble_eq_true rfl) rfl (f30_start h)

def f25_c1 : LCode := (.seq (.region [⟨some 9, .bin .lss (.t 8) (.t 7), none⟩])
 (.seq (.cond (.t 9)
  .skip
  (.exit 0))
 (.seq (.block 1
  (.seq (.region [⟨some 10, .iaddr 3 (.t 6) (.t 8), none⟩,
    ⟨some 11, .load true 3 (.t 10), none⟩,
    ⟨some 5, .alloc [(.int .i64 0), (.str []), (.int .i64 0)], none⟩,
    ⟨none, .store 3 (.t 5) (.t 11), none⟩])
  (.region [⟨some 12, .mv (.t 3), none⟩,
    ⟨some 13, .faddr 1 (.t 5), none⟩,
    ⟨some 14, .load false 1 (.t 13), none⟩,
    ⟨some 15, .mkSl true 1 [(.str [])] 1 [(0, (.t 14))], none⟩,
    ⟨some 16, .app true 1 16 (.t 12) (.t 15), none⟩,
    ⟨some 3, .mv (.t 16), none⟩])))
 (.region [⟨some 17, .bin .add (.t 8) (.c (.int .i64 1)), none⟩,
   ⟨some 8, .mv (.t 17), none⟩]))))
def f25_c0 : LCode := (.seq (.region [⟨some 18, .mv (.t 3), none⟩,
   ⟨some 19, .call 30 [(.t 18)], none⟩,
   ⟨some 2, .mv (.t 19), none⟩])
 .ret)
def f25_c2 : LCode := (.seq (.region [⟨some 2, .mv (.c (.val (.slice none 0 0))), none⟩])
 (.seq (.region [⟨some 3, .mv (.c (.val (.slice none 0 0))), none⟩])
 (.seq (.seq (.region [⟨some 6, .mv (.t 0), none⟩,
   ⟨some 7, .len false (.t 6), none⟩,
   ⟨some 8, .mv (.c (.int .i64 0)), none⟩])
 (.block 0
  (.loop
   f25_c1)))
 f25_c0)))
def f25_lay : Lay := ⟨20, [], false⟩
def f25_res : List LRes := [.t 2]
def f25_L : LFn := ⟨1, f25_lay, f25_c2, f25_res⟩
theorem f25_low : lowFn Try.prog [] 25 = some f25_L := by kernel_rfl
theorem f25_fok : FnOk Try.prog 25 := ⟨_, Try.func25, rfl, rfl⟩
def f25_Q (a0 : List G_QFileEvent) (o : (List (List UInt8))) : Exit → Env → AHeap → Nat → Prop := FinK f25_res (PureEnd (.isl 1 (o.map e_str) false))

def f25_L1_env (a0 : List G_QFileEvent) (s : ((List (List UInt8)) × Int)) : Env := [(3, .osl (0, 0) 1 (s.1.map e_str)), (6, .isl 3 (a0.map e_QFileEvent) false), (7, .int .i64 ((a0.map e_QFileEvent).length : Int)), (8, .int .i64 s.2)]
def f25_L1_hp (a0 : List G_QFileEvent) (s : ((List (List UInt8)) × Int)) : AHeap := [((0, 0), .tok)]
def f25_L1_Q (a0 : List G_QFileEvent) (o : (List (List UInt8))) : Exit → Env → AHeap → Nat → Prop := (QBlock 0 (QSeq Try.prog f25_lay 0 f25_c0 (f25_Q a0 o)))

noncomputable def S_glossatorref3_paths_j1 (m : Option Nat) (v1 : List (List UInt8)) : Option (List (List UInt8)) :=
  (S_glossatorref3_SortStrings m v1).bind fun v3 =>
  some v3

noncomputable def S_glossatorref3_paths_b1 (m : Option Nat) (a0 : List G_QFileEvent) (v1 : List (List UInt8)) (v2 : Int) : Option (((List (List UInt8)) × Int) ⊕ (List (List UInt8))) :=
  if (decide (v2 < ((a0.map e_QFileEvent).length : Int))) = true then
    if (0 : Int) ≤ v2 ∧ v2 < ((a0.map e_QFileEvent).length : Int) then
    if ((v1 ++ ([(a0.getD v2.toNat default).f_Path] : List (List UInt8))).map e_str).length * 16 ≤ 140737488355328 then
    some (.inl ((v1 ++ ([(a0.getD v2.toNat default).f_Path] : List (List UInt8))), (W (v2 + 1))))
    else none
    else none
  else
    Option.map Sum.inr (
      S_glossatorref3_paths_j1 m v1)

noncomputable def S_glossatorref3_paths_l1 (m : Option Nat) (a0 : List G_QFileEvent) (v1 : List (List UInt8)) (v2 : Int) : Option (List (List UInt8)) := loopM m (fun (s : ((List (List UInt8)) × Int)) => S_glossatorref3_paths_b1 m a0 s.1 s.2) (v1, v2)

theorem f25_j1_ok {a0 : List G_QFileEvent} {v1 : List (List UInt8)} {m : Option Nat} {o : (List (List UInt8))} (h : S_glossatorref3_paths_j1 m v1 = some o) :
    LWp Try.prog f25_lay 0 f25_c0 (f25_Q a0 o) [(3, .osl (0, 0) 1 (v1.map e_str))] [((0, 0), .tok)] 1 := by
  unfold S_glossatorref3_paths_j1 at h
  refine seqI ?_
  refine regI ?_
  obtain ⟨v3, h10, h⟩ := bind_some h
  refine PFn.call (f30_ok h10) (And.intro (Vw.oslI _ _ _) trivial) ?_
  refine retI ?_
  cases h
  exact And.intro trivial (And.intro rfl (Vw.same _ rfl))

theorem f25_L1_bok {a0 : List G_QFileEvent} {v1 : List (List UInt8)} {v2 : Int} {m : Option Nat} {o : ((List (List UInt8)) × Int) ⊕ (List (List UInt8))} (h : S_glossatorref3_paths_b1 m a0 v1 v2 = some o) :
    LWp Try.prog f25_lay 0 f25_c1 (BodyQ 0 1 (f25_L1_env a0) (f25_L1_hp a0) (f25_L1_Q a0) o) [(3, .osl (0, 0) 1 (v1.map e_str)), (6, .isl 3 (a0.map e_QFileEvent) false), (7, .int .i64 ((a0.map e_QFileEvent).length : Int)), (8, .int .i64 v2)] [((0, 0), .tok)] 1 := by
  unfold S_glossatorref3_paths_b1 at h
  refine seqI ?_
  refine regI ?_
  refine seqI ?_
  refine condI (v := (decide (v2 < ((a0.map e_QFileEvent).length : Int)))) rfl trivial (fun h7 => ?_) (fun h7 => ?_)
  · have h := ite_tt h7 h
    refine skipI ?_
    refine seqI ?_
    refine blockI ?_
    refine seqI ?_
    refine regI ?_
    obtain ⟨h8, h⟩ := ite_some h
    refine And.intro h8 ?_
    refine Exists.intro (e_QFileEvent (a0.getD v2.toNat default)) (And.intro (getD_enc e_QFileEvent _ _ (idx_ltL e_QFileEvent h8)) (And.intro (And.intro (idx_lt h8) (Nat.le_of_ble_eq_true rfl)) ?_))
    refine regI ?_
    obtain ⟨h9, h⟩ := ite_some h
    refine Exists.intro ((v1 ++ ([(a0.getD v2.toNat default).f_Path] : List (List UInt8))).map e_str) (And.intro (app_enc e_str v1 ([(a0.getD v2.toNat default).f_Path] : List (List UInt8))) (And.intro h9 ?_))
    refine LWp.sim (e := [(3, .osl (0, 0) 1 ((v1 ++ ([(a0.getD v2.toNat default).f_Path] : List (List UInt8))).map e_str)), (6, .isl 3 (a0.map e_QFileEvent) false), (7, .int .i64 ((a0.map e_QFileEvent).length : Int)), (8, .int .i64 v2)]) (L := [((0, 0), .tok)]) (n := 1) ?_ ?_
    · exact simI (M := [((0, 0), (2, 0))]) rfl (And.intro (Vw.osl _ _ _ _ rfl) (And.intro (Vw.same _ rfl) (And.intro (Vw.same _ rfl) (And.intro (Vw.same _ rfl) trivial)))) (And.intro (And.intro rfl BVw.tok) trivial)
    refine regI ?_
    cases h
    exact And.intro rfl (simI (M := [((0, 0), (0, 0))]) rfl (And.intro (Vw.osl _ _ _ _ rfl) (And.intro (Vw.same _ rfl) (And.intro (Vw.same _ rfl) (And.intro (Vw.same _ rfl) trivial)))) (And.intro (And.intro rfl BVw.tok) trivial))
  · have h := ite_ff h7 h
    refine exitI ?_
    obtain ⟨o, hq, rfl⟩ := Option.map_eq_some_iff.1 h
    replace h := hq; clear hq
    refine And.intro nofun ?_
    refine LWp.sim ?_ (f25_j1_ok h)
    exact simI (M := [((0, 0), (0, 0))]) rfl (And.intro (Vw.osl _ _ _ _ rfl) trivial) (And.intro (And.intro rfl BVw.tok) trivial)

theorem f25_L1_ok {a0 : List G_QFileEvent} {v1 : List (List UInt8)} {v2 : Int} {m : Option Nat} {o : (List (List UInt8))} (h : S_glossatorref3_paths_l1 m a0 v1 v2 = some o) :
    LWp Try.prog f25_lay 0 (.loop f25_c1) (QBlock 0 (QSeq Try.prog f25_lay 0 f25_c0 (f25_Q a0 o))) [(3, .osl (0, 0) 1 (v1.map e_str)), (6, .isl 3 (a0.map e_QFileEvent) false), (7, .int .i64 ((a0.map e_QFileEvent).length : Int)), (8, .int .i64 v2)] [((0, 0), .tok)] 1 :=
  LWp_loopM (m := m) (s := ((v1, v2) : ((List (List UInt8)) × Int))) (r := o) (fun (s : ((List (List UInt8)) × Int)) => S_glossatorref3_paths_b1 m a0 s.1 s.2) (f25_L1_env a0) (f25_L1_hp a0) (f25_L1_Q a0) (fun s o h => f25_L1_bok h) h

noncomputable def S_glossatorref3_paths (m : Option Nat) (a0 : List G_QFileEvent) : Option (List (List UInt8)) :=
  S_glossatorref3_paths_l1 m a0 [] 0

theorem f25_start {a0 : List G_QFileEvent} {m : Option Nat} {o : (List (List UInt8))} (h : S_glossatorref3_paths m a0 = some o) : LWp Try.prog f25_lay 0 f25_c2 (f25_Q a0 o) (initEnv 0 [.isl 3 (a0.map e_QFileEvent) false]) [] 0 := by
  unfold S_glossatorref3_paths at h
  refine seqI ?_
  refine regI ?_
  refine seqI ?_
  refine regI ?_
  refine seqI ?_
  refine seqI ?_
  refine regI ?_
  refine blockI ?_
  refine LWp.sim ?_ (f25_L1_ok h)
  exact simI (M := []) rfl (And.intro (Vw.nilO _ _ (by decide)) (And.intro (Vw.same _ rfl) (And.intro (Vw.same _ rfl) (And.intro (Vw.same _ rfl) trivial)))) (And.intro (And.intro rfl (And.intro (by decide) (by decide))) trivial)

theorem f25_ok {a0 : List G_QFileEvent} {m : Option Nat} {o : (List (List UInt8))} (h : S_glossatorref3_paths m a0 = some o) : PFn Try.prog 25 [.isl 3 (a0.map e_QFileEvent) false] (.isl 1 (o.map e_str) false) := PFn.ofFnW (L := f25_L) f25_low f25_fok (Nat.le_of_ble_eq_true rfl) rfl (f25_start h)

def f27_c0 : LCode := (.seq (.region [⟨some 2, .mv (.c (.bool false)), none⟩])
 (.seq (.region [⟨some 3, .mv (.t 0), none⟩,
   ⟨some 4, .bin .eql (.t 3) (.c (.int .i64 1)), none⟩,
   ⟨some 5, .mv (.t 4), none⟩,
   ⟨some 6, .mv (.t 0), some (5, false)⟩,
   ⟨some 7, .bin .eql (.t 6) (.c (.int .i64 2)), some (5, false)⟩,
   ⟨some 8, .pick (.t 5) (.c (.bool true)) (.t 7), none⟩,
   ⟨some 9, .mv (.t 8), none⟩,
   ⟨some 10, .mv (.t 0), some (9, false)⟩,
   ⟨some 11, .bin .eql (.t 10) (.c (.int .i64 3)), some (9, false)⟩,
   ⟨some 12, .pick (.t 9) (.c (.bool true)) (.t 11), none⟩,
   ⟨some 2, .mv (.t 12), none⟩])
 .ret))
def f27_lay : Lay := ⟨13, [], false⟩
def f27_res : List LRes := [.t 2]
def f27_L : LFn := ⟨1, f27_lay, f27_c0, f27_res⟩
theorem f27_low : lowFn Try.prog [] 27 = some f27_L := by kernel_rfl
theorem f27_fok : FnOk Try.prog 27 := ⟨_, Try.func27, rfl, rfl⟩
noncomputable def S_glossatorref3_Merge_1 (m : Option Nat) (a0 : Int) : Option Bool :=
  some (((a0 == 1) || (a0 == 2)) || (a0 == 3))

def f27_Q (a0 : Int) (o : Bool) : Exit → Env → AHeap → Nat → Prop := FinK f27_res (PureEnd (.bool o))

theorem f27_start {a0 : Int} {m : Option Nat} {o : Bool} (h : S_glossatorref3_Merge_1 m a0 = some o) : LWp Try.prog f27_lay 0 f27_c0 (f27_Q a0 o) (initEnv 0 [.int .i64 a0]) [] 0 := by
  unfold S_glossatorref3_Merge_1 at h
  refine seqI ?_
  refine regI ?_
  refine seqI ?_
  refine regI ?_
  refine And.intro (fun hp => hp) ?_
  show yops _ _ _ [(7, .cnd ((a0 == 1) == false) (.bool (a0 == 2))), (6, .cnd ((a0 == 1) == false) (.int .i64 a0)), (5, .bool (a0 == 1)), (4, .bool (a0 == 1)), (3, .int .i64 a0), (2, .bool false), (0, .int .i64 a0)] _ _
  refine And.intro (fun hc => (bqf hc)) ?_
  refine And.intro (fun hp => hp) ?_
  refine And.intro (fun hc => (bqf hc)) ?_
  show yops _ _ _ [(12, .bool (((a0 == 1) || (a0 == 2)) || (a0 == 3))), (11, .cnd (((a0 == 1) || (a0 == 2)) == false) (.bool (a0 == 3))), (10, .cnd (((a0 == 1) || (a0 == 2)) == false) (.int .i64 a0)), (9, .bool ((a0 == 1) || (a0 == 2))), (8, .bool ((a0 == 1) || (a0 == 2))), (7, .cnd ((a0 == 1) == false) (.bool (a0 == 2))), (6, .cnd ((a0 == 1) == false) (.int .i64 a0)), (5, .bool (a0 == 1)), (4, .bool (a0 == 1)), (3, .int .i64 a0), (2, .bool false), (0, .int .i64 a0)] _ _
  refine LWp.sim (e := [(2, .bool (((a0 == 1) || (a0 == 2)) || (a0 == 3)))]) (L := []) (n := 0) ?_ ?_
  · exact simI (M := []) rfl (And.intro (Vw.same _ rfl) trivial) trivial
  refine retI ?_
  cases h
  exact And.intro trivial (And.intro rfl (Vw.same _ rfl))

theorem f27_ok {a0 : Int} {m : Option Nat} {o : Bool} (h : S_glossatorref3_Merge_1 m a0 = some o) : PFn Try.prog 27 [.int .i64 a0] (.bool o) := PFn.ofFnW (L := f27_L) f27_low f27_fok (Nat.le_of_ble_eq_true rfl) rfl (f27_start h)

def f11_c0 : LCode := .ret
def f11_c1 : LCode := (.seq (.region [⟨some 4, .mv (.c (.int .i64 0)), none⟩])
 (.seq (.region [⟨some 5, .mv (.c (.fn (.func 27) [] [])), none⟩])
 (.seq (.seq (.region [⟨some 7, .mv (.t 5), none⟩,
   ⟨some 8, .mv (.t 0), none⟩,
   ⟨some 9, .callv (.t 7) [(.t 8)], none⟩,
   ⟨some 10, .un .not (.t 9), none⟩])
 (.cond (.t 10)
  (.seq (.seq (.region [⟨some 11, .mv (.t 5), none⟩,
    ⟨some 12, .mv (.t 1), none⟩,
    ⟨some 13, .callv (.t 11) [(.t 12)], none⟩])
  (.cond (.t 13)
   (.seq (.region [⟨some 14, .mv (.t 1), none⟩,
     ⟨some 4, .mv (.t 14), none⟩])
   .ret)
   .skip))
  (.seq (.region [⟨some 4, .mv (.c (.int .i64 0)), none⟩])
  .ret))
  .skip))
 (.seq (.seq (.region [⟨some 15, .mv (.t 5), none⟩,
   ⟨some 16, .mv (.t 1), none⟩,
   ⟨some 17, .callv (.t 15) [(.t 16)], none⟩,
   ⟨some 18, .un .not (.t 17), none⟩])
 (.cond (.t 18)
  (.seq (.region [⟨some 19, .mv (.t 0), none⟩,
    ⟨some 4, .mv (.t 19), none⟩])
  .ret)
  .skip))
 (.seq (.region [⟨some 20, .build [(.int .i64 0), (.int .i64 0), (.int .i64 0)] [(0, 1, (.c (.int .i64 1))), (1, 1, (.c (.int .i64 1))), (2, 1, (.c (.int .i64 0)))], none⟩,
   ⟨some 21, .build [(.int .i64 0), (.int .i64 0), (.int .i64 0)] [(0, 1, (.c (.int .i64 2))), (1, 1, (.c (.int .i64 2))), (2, 1, (.c (.int .i64 3)))], none⟩,
   ⟨some 22, .build [(.int .i64 0), (.int .i64 0), (.int .i64 0)] [(0, 1, (.c (.int .i64 2))), (1, 1, (.c (.int .i64 2))), (2, 1, (.c (.int .i64 3)))], none⟩,
   ⟨some 23, .build [(.int .i64 0), (.int .i64 0), (.int .i64 0), (.int .i64 0), (.int .i64 0), (.int .i64 0), (.int .i64 0), (.int .i64 0), (.int .i64 0)] [(0, 3, (.t 20)), (3, 3, (.t 21)), (6, 3, (.t 22))], none⟩,
   ⟨some 6, .alloc [(.int .i64 0), (.int .i64 0), (.int .i64 0), (.int .i64 0), (.int .i64 0), (.int .i64 0), (.int .i64 0), (.int .i64 0), (.int .i64 0)], none⟩,
   ⟨none, .store 9 (.t 6) (.t 23), none⟩])
 (.seq (.region [⟨some 24, .mv (.t 0), none⟩,
   ⟨some 25, .bin .sub (.t 24) (.c (.int .i64 1)), none⟩,
   ⟨some 26, .mv (.t 1), none⟩,
   ⟨some 27, .bin .sub (.t 26) (.c (.int .i64 1)), none⟩,
   ⟨some 28, .iaddrA 3 3 (.t 6) (.t 25), none⟩,
   ⟨some 29, .iaddrA 3 1 (.t 28) (.t 27), none⟩,
   ⟨some 30, .load false 1 (.t 29), none⟩,
   ⟨some 4, .mv (.t 30), none⟩])
 f11_c0))))))
def f11_lay : Lay := ⟨31, [], false⟩
def f11_res : List LRes := [.t 4]
def f11_L : LFn := ⟨2, f11_lay, f11_c1, f11_res⟩
theorem f11_low : lowFn Try.prog [] 11 = some f11_L := by kernel_rfl
theorem f11_fok : FnOk Try.prog 11 := ⟨_, Try.func11, rfl, rfl⟩
noncomputable def S_glossatorref3_Merge_j1 (m : Option Nat) (v4 : Int) : Option Int :=
  some v4

def f11_Q (a0 : Int) (a1 : Int) (o : Int) : Exit → Env → AHeap → Nat → Prop := FinK f11_res (PureEnd (.int .i64 o))

theorem f11_j1_ok {a0 : Int} {a1 : Int} {v4 : Int} {m : Option Nat} {o : Int} (h : S_glossatorref3_Merge_j1 m v4 = some o) :
    LWp Try.prog f11_lay 0 f11_c0 (f11_Q a0 a1 o) [(4, .int .i64 v4)] [] 0 := by
  unfold S_glossatorref3_Merge_j1 at h
  refine retI ?_
  cases h
  exact And.intro trivial (And.intro rfl (Vw.same _ rfl))

noncomputable def S_glossatorref3_Merge (m : Option Nat) (a0 : Int) (a1 : Int) : Option Int :=
  (S_glossatorref3_Merge_1 m a0).bind fun v1 =>
  if (!v1) = true then
    (S_glossatorref3_Merge_1 m a1).bind fun v2 =>
    if v2 = true then
      some a1
    else
      some 0
  else
    (S_glossatorref3_Merge_1 m a1).bind fun v3 =>
    if (!v3) = true then
      some a0
    else
      if (0 : Int) ≤ (W (a0 - 1)) ∧ (W (a0 - 1)) < 3 then
      if ((W (a0 - 1)) == 0) = true then
        if (0 : Int) ≤ (W (a1 - 1)) ∧ (W (a1 - 1)) < 3 then
        if ((W (a1 - 1)) == 0) = true then
          S_glossatorref3_Merge_j1 m 1
        else
          if ((W (a1 - 1)) == 1) = true then
            S_glossatorref3_Merge_j1 m 1
          else
            S_glossatorref3_Merge_j1 m 0
        else none
      else
        if ((W (a0 - 1)) == 1) = true then
          if (0 : Int) ≤ (W (a1 - 1)) ∧ (W (a1 - 1)) < 3 then
          if ((W (a1 - 1)) == 0) = true then
            S_glossatorref3_Merge_j1 m 2
          else
            if ((W (a1 - 1)) == 1) = true then
              S_glossatorref3_Merge_j1 m 2
            else
              S_glossatorref3_Merge_j1 m 3
          else none
        else
          if (0 : Int) ≤ (W (a1 - 1)) ∧ (W (a1 - 1)) < 3 then
          if ((W (a1 - 1)) == 0) = true then
            S_glossatorref3_Merge_j1 m 2
          else
            if ((W (a1 - 1)) == 1) = true then
              S_glossatorref3_Merge_j1 m 2
            else
              S_glossatorref3_Merge_j1 m 3
          else none
      else none

set_option maxHeartbeats 4000000 in
theorem f11_start {a0 : Int} {a1 : Int} {m : Option Nat} {o : Int} (h : S_glossatorref3_Merge m a0 a1 = some o) : LWp Try.prog f11_lay 0 f11_c1 (f11_Q a0 a1 o) (initEnv 0 [.int .i64 a0, .int .i64 a1]) [] 0 := by
  unfold S_glossatorref3_Merge at h
  refine seqI ?_
  refine regI ?_
  refine seqI ?_
  refine regI ?_
  refine seqI ?_
  refine seqI ?_
  refine regI ?_
  obtain ⟨v1, h1, h⟩ := bind_some h
  refine PFn.call (f27_ok h1) (And.intro (Vw.same _ rfl) trivial) ?_
  show yops _ _ _ [(9, .bool v1), (8, .int .i64 a0), (7, .fn (.func 27) [] []), (5, .fn (.func 27) [] []), (4, .int .i64 0), (0, .int .i64 a0), (1, .int .i64 a1)] _ _
  refine condI (v := (!v1)) rfl trivial (fun h2 => ?_) (fun h2 => ?_)
  · have h := ite_tt h2 h
    refine seqI ?_
    refine seqI ?_
    refine regI ?_
    obtain ⟨v2, h3, h⟩ := bind_some h
    refine PFn.call (f27_ok h3) (And.intro (Vw.same _ rfl) trivial) ?_
    refine LWp.sim (e := [(1, .int .i64 a1), (13, .bool v2)]) (L := []) (n := 0) ?_ ?_
    · exact simI (M := []) rfl (And.intro (Vw.same _ rfl) (And.intro (Vw.same _ rfl) trivial)) trivial
    refine condI (v := v2) rfl trivial (fun h4 => ?_) (fun h4 => ?_)
    · have h := ite_tt h4 h
      refine seqI ?_
      refine regI ?_
      refine retI ?_
      cases h
      exact And.intro trivial (And.intro rfl (Vw.same _ rfl))
    · have h := ite_ff h4 h
      refine skipI ?_
      refine seqI ?_
      refine regI ?_
      refine retI ?_
      cases h
      exact And.intro trivial (And.intro rfl (Vw.same _ rfl))
  · have h := ite_ff h2 h
    refine skipI ?_
    refine seqI ?_
    refine seqI ?_
    refine regI ?_
    obtain ⟨v3, h5, h⟩ := bind_some h
    refine PFn.call (f27_ok h5) (And.intro (Vw.same _ rfl) trivial) ?_
    refine LWp.sim (e := [(0, .int .i64 a0), (1, .int .i64 a1), (18, .bool (!v3))]) (L := []) (n := 0) ?_ ?_
    · exact simI (M := []) rfl (And.intro (Vw.same _ rfl) (And.intro (Vw.same _ rfl) (And.intro (Vw.same _ rfl) trivial))) trivial
    refine condI (v := (!v3)) rfl trivial (fun h6 => ?_) (fun h6 => ?_)
    · have h := ite_tt h6 h
      refine seqI ?_
      refine regI ?_
      refine retI ?_
      cases h
      exact And.intro trivial (And.intro rfl (Vw.same _ rfl))
    · have h := ite_ff h6 h
      refine skipI ?_
      refine seqI ?_
      refine regI ?_
      refine seqI ?_
      refine regI ?_
      obtain ⟨h7, h⟩ := ite_some h
      refine And.intro h7 (And.intro (fun hj => ?_) (And.intro (fun hj => ?_) (And.intro (fun hj => ?_) trivial)))
      · have h := ite_tt (fork_eq hj) h
        obtain ⟨h8, h⟩ := ite_some h
        refine And.intro h8 (And.intro (fun hj => ?_) (And.intro (fun hj => ?_) (And.intro (fun hj => ?_) trivial)))
        · have h := ite_tt (fork_eq hj) h
          refine LWp.sim ?_ (f11_j1_ok h)
          exact simI (M := []) rfl (And.intro (Vw.same _ rfl) trivial) trivial
        · have h := ite_ff (fork_ne hj (show ((1 : Nat) : Int) ≠ 0 by decide)) h
          have h := ite_tt (fork_eq hj) h
          refine LWp.sim ?_ (f11_j1_ok h)
          exact simI (M := []) rfl (And.intro (Vw.same _ rfl) trivial) trivial
        · have h := ite_ff (fork_ne hj (show ((2 : Nat) : Int) ≠ 0 by decide)) h
          have h := ite_ff (fork_ne hj (show ((2 : Nat) : Int) ≠ 1 by decide)) h
          refine LWp.sim ?_ (f11_j1_ok h)
          exact simI (M := []) rfl (And.intro (Vw.same _ rfl) trivial) trivial
      · have h := ite_ff (fork_ne hj (show ((1 : Nat) : Int) ≠ 0 by decide)) h
        have h := ite_tt (fork_eq hj) h
        obtain ⟨h9, h⟩ := ite_some h
        refine And.intro h9 (And.intro (fun hj => ?_) (And.intro (fun hj => ?_) (And.intro (fun hj => ?_) trivial)))
        · have h := ite_tt (fork_eq hj) h
          refine LWp.sim ?_ (f11_j1_ok h)
          exact simI (M := []) rfl (And.intro (Vw.same _ rfl) trivial) trivial
        · have h := ite_ff (fork_ne hj (show ((1 : Nat) : Int) ≠ 0 by decide)) h
          have h := ite_tt (fork_eq hj) h
          refine LWp.sim ?_ (f11_j1_ok h)
          exact simI (M := []) rfl (And.intro (Vw.same _ rfl) trivial) trivial
        · have h := ite_ff (fork_ne hj (show ((2 : Nat) : Int) ≠ 0 by decide)) h
          have h := ite_ff (fork_ne hj (show ((2 : Nat) : Int) ≠ 1 by decide)) h
          refine LWp.sim ?_ (f11_j1_ok h)
          exact simI (M := []) rfl (And.intro (Vw.same _ rfl) trivial) trivial
      · have h := ite_ff (fork_ne hj (show ((2 : Nat) : Int) ≠ 0 by decide)) h
        have h := ite_ff (fork_ne hj (show ((2 : Nat) : Int) ≠ 1 by decide)) h
        obtain ⟨h10, h⟩ := ite_some h
        refine And.intro h10 (And.intro (fun hj => ?_) (And.intro (fun hj => ?_) (And.intro (fun hj => ?_) trivial)))
        · have h := ite_tt (fork_eq hj) h
          refine LWp.sim ?_ (f11_j1_ok h)
          exact simI (M := []) rfl (And.intro (Vw.same _ rfl) trivial) trivial
        · have h := ite_ff (fork_ne hj (show ((1 : Nat) : Int) ≠ 0 by decide)) h
          have h := ite_tt (fork_eq hj) h
          refine LWp.sim ?_ (f11_j1_ok h)
          exact simI (M := []) rfl (And.intro (Vw.same _ rfl) trivial) trivial
        · have h := ite_ff (fork_ne hj (show ((2 : Nat) : Int) ≠ 0 by decide)) h
          have h := ite_ff (fork_ne hj (show ((2 : Nat) : Int) ≠ 1 by decide)) h
          refine LWp.sim ?_ (f11_j1_ok h)
          exact simI (M := []) rfl (And.intro (Vw.same _ rfl) trivial) trivial

theorem f11_ok {a0 : Int} {a1 : Int} {m : Option Nat} {o : Int} (h : S_glossatorref3_Merge m a0 a1 = some o) : PFn Try.prog 11 [.int .i64 a0, .int .i64 a1] (.int .i64 o) := PFn.ofFnW (L := f11_L) f11_low f11_fok (Nat.le_of_ble_eq_true rfl) rfl (f11_start h)

end Go.Proofs.Ytdkcjibedbjgjaa
