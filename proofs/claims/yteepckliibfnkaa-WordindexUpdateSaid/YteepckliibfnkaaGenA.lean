/-
  Own text GenA of this claim: what functions of the given program compute, in plain Lean, and the proof; no condition.
-/
import Derived.Test.YteepckliibfnkaaChecked
import Derived.Test.YteepckliibfnkaaFxN


import Derived.Test.YteepckliibfnkaaFxMd
import Derived.Test.YteepckliibfnkaaFxDt
import Derived.Test.YteepckliibfnkaaFxSs
import Derived.Test.YteepckliibfnkaaLib
import Derived.Test.YteepckliibfnkaaFxAb
import Derived.KernelRfl
namespace Go.Proofs.Yteepckliibfnkaa
open Go.Fx
set_option linter.unusedVariables false
structure G_QIndexEntry where
  f_Name : List UInt8
  f_Sum : Int
  f_Words : List (List UInt8)
instance : Inhabited G_QIndexEntry := ⟨(G_QIndexEntry.mk [] 0 [])⟩
structure G_QDocument where
  f_Name : List UInt8
  f_Version : Int
  f_Text : List UInt8
instance : Inhabited G_QDocument := ⟨(G_QDocument.mk [] 0 [])⟩
def e_str (x : List UInt8) : List AVal := [.str x]
def e_QIndexEntry (x : G_QIndexEntry) : List AVal := [.str x.f_Name, .int .u32 x.f_Sum, .isl 1 (x.f_Words.map e_str) false]
def e_QDocument (x : G_QDocument) : List AVal := [.str x.f_Name, .int .i64 x.f_Version, .str x.f_Text]

theorem e_str_ok (x : List UInt8) : AVal.nid.nidL (e_str x) = true ∧ ∀ y ∈ e_str x, y.imm = some y := ⟨rfl, by simp [e_str, AVal.imm]⟩
theorem e_QIndexEntry_ok (x : G_QIndexEntry) : AVal.nid.nidL (e_QIndexEntry x) = true ∧ ∀ y ∈ e_QIndexEntry x, y.imm = some y := ⟨rfl, by simp [e_QIndexEntry, AVal.imm]⟩
theorem e_QDocument_ok (x : G_QDocument) : AVal.nid.nidL (e_QDocument x) = true ∧ ∀ y ∈ e_QDocument x, y.imm = some y := ⟨rfl, by simp [e_QDocument, AVal.imm]⟩
def f48c0_c0 : LCode := (.seq (.region [⟨some 1, .box (.t 0), none⟩,
   ⟨some 2, .mv (.c (.bool false)), none⟩])
 (.seq (.region [⟨some 3, .faddr 0 (.t 1), none⟩,
   ⟨some 4, .load false 1 (.t 3), none⟩,
   ⟨some 5, .len true (.t 4), none⟩,
   ⟨some 6, .bin .gtr (.t 5) (.c (.int .i64 60)), none⟩,
   ⟨some 7, .mv (.t 6), none⟩,
   ⟨some 8, .faddr 2 (.t 1), some (7, false)⟩,
   ⟨some 9, .load false 1 (.t 8), some (7, false)⟩,
   ⟨some 10, .len true (.t 9), some (7, false)⟩,
   ⟨some 11, .bin .gtr (.t 10) (.c (.int .i64 2000)), some (7, false)⟩,
   ⟨some 12, .pick (.t 7) (.c (.bool true)) (.t 11), none⟩,
   ⟨some 2, .mv (.t 12), none⟩])
 .ret))
def f48c0_lay : Lay := ⟨13, [], false⟩
def f48c0_res : List LRes := [.t 2]
def f48c0_L : LFn := ⟨1, f48c0_lay, f48c0_c0, f48c0_res⟩
theorem f48c0_low : lowFn Try.prog [] 48 = some f48c0_L := by kernel_rfl
theorem f48c0_fok : FnOk Try.prog 48 := ⟨_, Try.func48, rfl, rfl⟩
noncomputable def S_wordindex_validateDocuments_1c (m : Option Nat) (a0 : G_QDocument) : Option Bool :=
  some ((decide ((a0.f_Name.length : Int) > 60)) || (decide ((a0.f_Text.length : Int) > 2000)))

def f48c0_Q (a0 : G_QDocument) (o : Bool) : Exit → Env → AHeap → Nat → Prop := FinK f48c0_res (FinTo 3 4 (.bool o) [])

theorem f48c0_start {a0 : G_QDocument} {m : Option Nat} {o : Bool} (h : S_wordindex_validateDocuments_1c m a0 = some o) : LWp Try.prog f48c0_lay 3 f48c0_c0 (f48c0_Q a0 o) (initEnv 0 [.agg [.str a0.f_Name, .int .i64 a0.f_Version, .str a0.f_Text]]) [] 3 := by
  unfold S_wordindex_validateDocuments_1c at h
  refine seqI ?_
  refine regI ?_
  refine seqI ?_
  refine regI ?_
  refine AI (fun hp => hp) ?_
  refine AI (fun hp => hp) ?_
  refine AI (fun hp => hp) ?_
  refine AI (fun hc => (bqf hc)) ?_
  refine LWp.sim (e := [(2, .bool ((decide ((a0.f_Name.length : Int) > 60)) || (decide ((a0.f_Text.length : Int) > 2000))))]) (L := []) (n := 3) ?_ ?_
  · exact simI (M := []) rfl (AI (VS rfl) TT) TT
  refine retI ?_
  cases h
  exact AI TT (finI (n' := 3) [] [] rfl rfl (VS rfl) TT)

theorem f48c0_ok {a0 : G_QDocument} {m : Option Nat} {o : Bool} (h : S_wordindex_validateDocuments_1c m a0 = some o) : ACalls Try.prog 48 [.agg [.str a0.f_Name, .int .i64 a0.f_Version, .str a0.f_Text]] [] 3 (Gives 4 (.bool o) []) := bfn_of (L := f48c0_L) f48c0_low f48c0_fok (NB rfl) (f48c0_start h)

def f67b0_c1 : LCode := (.seq (.region [⟨some 9, .bin .lss (.t 8) (.t 7), none⟩])
 (.seq (.cond (.t 9)
  .skip
  (.exit 0))
 (.seq (.block 1
  (.seq (.region [⟨some 10, .mv (.t 8), none⟩,
    ⟨some 5, .mv (.t 10), none⟩])
  (.seq (.region [⟨some 11, .mv (.t 1), none⟩,
    ⟨some 12, .mv (.t 0), none⟩,
    ⟨some 13, .mv (.t 5), none⟩,
    ⟨some 14, .iaddr 3 (.t 12) (.t 13), none⟩,
    ⟨some 15, .load true 3 (.t 14), none⟩,
    ⟨some 16, .callv (.t 11) [(.t 15)], none⟩])
  (.cond (.t 16)
   (.seq (.region [⟨some 17, .mv (.t 5), none⟩,
     ⟨some 4, .mv (.t 17), none⟩])
   .ret)
   .skip))))
 (.region [⟨some 18, .bin .add (.t 8) (.c (.int .i64 1)), none⟩,
   ⟨some 8, .mv (.t 18), none⟩]))))
def f67b0_c0 : LCode := (.seq (.region [⟨some 4, .mv (.c (.int .i64 (-1))), none⟩])
 .ret)
def f67b0_c2 : LCode := (.seq (.region [⟨some 4, .mv (.c (.int .i64 0)), none⟩])
 (.seq (.seq (.region [⟨some 6, .mv (.t 0), none⟩,
   ⟨some 7, .len false (.t 6), none⟩,
   ⟨some 8, .mv (.c (.int .i64 0)), none⟩])
 (.block 0
  (.loop
   f67b0_c1)))
 f67b0_c0))
def f67b0_lay : Lay := ⟨19, [], false⟩
def f67b0_res : List LRes := [.t 4]
def f67b0_L : LFn := ⟨2, f67b0_lay, f67b0_c2, f67b0_res⟩
theorem f67b0_low : lowFn Try.prog [] 67 = some f67b0_L := by kernel_rfl
theorem f67b0_fok : FnOk Try.prog 67 := ⟨_, Try.func67, rfl, rfl⟩
def f67b0_Q {σ : Type} (Hc : σ → AHeap) (fi0 : Fn) (ff0 fc0 : List AVal) (a0 : List G_QDocument) (z0 : σ) (o : Int × σ) : Exit → Env → AHeap → Nat → Prop := FinK f67b0_res (FinTo 3 4 (.int .i64 o.1) ([] ++ up 3 (Hc o.2)))

def f67b0_L1_env {σ : Type} (Hc : σ → AHeap) (fi0 : Fn) (ff0 fc0 : List AVal) (a0 : List G_QDocument) (s : (Int × σ)) : Env := [(0, .isl 3 (a0.map e_QDocument) false), (1, .fn fi0 ff0 fc0), (7, .int .i64 ((a0.map e_QDocument).length : Int)), (8, .int .i64 s.1)]
def f67b0_L1_hp {σ : Type} (Hc : σ → AHeap) (fi0 : Fn) (ff0 fc0 : List AVal) (a0 : List G_QDocument) (s : (Int × σ)) : AHeap := ([] ++ up 3 (Hc s.2))
def f67b0_L1_Q {σ : Type} (Hc : σ → AHeap) (fi0 : Fn) (ff0 fc0 : List AVal) (a0 : List G_QDocument) (z0 : σ) (o : (Int × σ)) : Exit → Env → AHeap → Nat → Prop := (QBlock 0 (QSeq Try.prog f67b0_lay 3 f67b0_c0 (f67b0_Q Hc fi0 ff0 fc0 a0 z0 o)))

noncomputable def S_slices_IndexFunc_api_QDocument_j1 {σ : Type} (g0 : σ → G_QDocument → Option (Bool × σ)) (m : Option Nat) (v3 : σ) : Option (Int × σ) :=
  some ((-1), v3)

noncomputable def S_slices_IndexFunc_api_QDocument_b1 {σ : Type} (g0 : σ → G_QDocument → Option (Bool × σ)) (m : Option Nat) (a0 : List G_QDocument) (v2 : Int) (v3 : σ) : Option ((Int × σ) ⊕ (Int × σ)) :=
  if (decide (v2 < ((a0.map e_QDocument).length : Int))) = true then
    if (0 : Int) ≤ v2 ∧ v2 < ((a0.map e_QDocument).length : Int) then
    (g0 v3 (G_QDocument.mk ((a0.getD v2.toNat default).f_Name) ((a0.getD v2.toNat default).f_Version) ((a0.getD v2.toNat default).f_Text))).bind fun v5 =>
    if v5.1 = true then
      Option.map Sum.inr (
        some (v2, v5.2))
    else
      some (.inl ((W (v2 + 1)), v5.2))
    else none
  else
    Option.map Sum.inr (
      S_slices_IndexFunc_api_QDocument_j1 g0 m v3)

noncomputable def S_slices_IndexFunc_api_QDocument_l1 {σ : Type} (g0 : σ → G_QDocument → Option (Bool × σ)) (m : Option Nat) (a0 : List G_QDocument) (v2 : Int) (v3 : σ) : Option (Int × σ) := loopM m (fun (s : (Int × σ)) => S_slices_IndexFunc_api_QDocument_b1 g0 m a0 s.1 s.2) (v2, v3)

theorem f67b0_j1_ok {σ : Type} {Hc : σ → AHeap} {fi0 : Fn} {ff0 fc0 : List AVal} {g0 : σ → G_QDocument → Option (Bool × σ)} (hg0 : Clo Try.prog fi0 ff0 fc0 Hc (fun (x : G_QDocument) => [.agg [.str x.f_Name, .int .i64 x.f_Version, .str x.f_Text]]) (fun (b : Bool) => .bool b) g0) {a0 : List G_QDocument} {z0 : σ} {v3 : σ} {m : Option Nat} {o : (Int × σ)} (h : S_slices_IndexFunc_api_QDocument_j1 g0 m v3 = some o) :
    LWp Try.prog f67b0_lay 3 f67b0_c0 (f67b0_Q Hc fi0 ff0 fc0 a0 z0 o) [] ([] ++ up 3 (Hc v3)) 4 := by
  unfold S_slices_IndexFunc_api_QDocument_j1 at h
  refine seqI ?_
  refine regI ?_
  refine retI ?_
  cases h
  exact AI TT (finT (n' := 4) (q := 3) (lit' := []) (hg0.tl _) [] [] rfl rfl (VS rfl) TT)

theorem f67b0_L1_bok {σ : Type} {Hc : σ → AHeap} {fi0 : Fn} {ff0 fc0 : List AVal} {g0 : σ → G_QDocument → Option (Bool × σ)} (hg0 : Clo Try.prog fi0 ff0 fc0 Hc (fun (x : G_QDocument) => [.agg [.str x.f_Name, .int .i64 x.f_Version, .str x.f_Text]]) (fun (b : Bool) => .bool b) g0) {z0 : σ} {a0 : List G_QDocument} {v2 : Int} {v3 : σ} {m : Option Nat} {o : (Int × σ) ⊕ (Int × σ)} (h : S_slices_IndexFunc_api_QDocument_b1 g0 m a0 v2 v3 = some o) :
    LWp Try.prog f67b0_lay 3 f67b0_c1 (BodyQ 3 4 (f67b0_L1_env Hc fi0 ff0 fc0 a0) (f67b0_L1_hp Hc fi0 ff0 fc0 a0) (f67b0_L1_Q Hc fi0 ff0 fc0 a0 z0) o) [(0, .isl 3 (a0.map e_QDocument) false), (1, .fn fi0 ff0 fc0), (7, .int .i64 ((a0.map e_QDocument).length : Int)), (8, .int .i64 v2)] ([] ++ up 3 (Hc v3)) 4 := by
  unfold S_slices_IndexFunc_api_QDocument_b1 at h
  refine seqI ?_
  refine regI ?_
  refine seqI ?_
  refine condI (v := (decide (v2 < ((a0.map e_QDocument).length : Int)))) rfl TT (fun h9 => ?_) (fun h9 => ?_)
  · have h := ite_tt h9 h
    refine skipI ?_
    refine seqI ?_
    refine blockI ?_
    refine seqI ?_
    refine regI ?_
    refine seqI ?_
    refine regI ?_
    obtain ⟨h10, h⟩ := ite_some h
    refine AI h10 ?_
    refine EX (e_QDocument (a0.getD v2.toNat default)) (AI (getD_enc e_QDocument _ _ (idx_ltL e_QDocument h10)) (AI (AI (idx_lt h10) (NB rfl)) ?_))
    obtain ⟨v5, h11, h⟩ := bind_some h
    refine Clo.use (q := 3) (lit := []) hg0 h11 rfl rfl (AI (VS rfl) TT) ?_
    refine LWp.sim (e := [(0, .isl 3 (a0.map e_QDocument) false), (1, .fn fi0 ff0 fc0), (5, .int .i64 v2), (7, .int .i64 ((a0.map e_QDocument).length : Int)), (8, .int .i64 v2), (16, .bool v5.1)]) (L := ([] ++ up 3 (Hc v5.2))) (n := 4) ?_ ?_
    · exact simT (M := []) (lit' := []) (hg0.tl _) rfl (AI (VS rfl) (AI (Vw.clo hg0.hf hg0.hc (by decide) (rhoT_1 (chkT_ok (n := 4) (q := 4) (lit' := []) rfl))) (AI (VS rfl) (AI (VS rfl) (AI (VS rfl) (AI (VS rfl) TT)))))) TT
    refine condI (v := v5.1) rfl TT (fun h12 => ?_) (fun h12 => ?_)
    · have h := ite_tt h12 h
      refine seqI ?_
      refine regI ?_
      refine retI ?_
      obtain ⟨o, hq, rfl⟩ := Option.map_eq_some_iff.1 h
      replace h := hq; clear hq
      refine AI nofun ?_
      cases h
      exact AI TT (finT (n' := 4) (q := 3) (lit' := []) (hg0.tl _) [] [] rfl rfl (VS rfl) TT)
    · have h := ite_ff h12 h
      refine skipI ?_
      refine regI ?_
      cases h
      exact AI rfl (simT (M := []) (lit' := []) (hg0.tl _) rfl (AI (VS rfl) (AI (Vw.clo hg0.hf hg0.hc (by decide) (rhoT_1 (chkT_ok (n := 4) (q := 3) (lit' := []) rfl))) (AI (VS rfl) (AI (VS rfl) TT)))) TT)
  · have h := ite_ff h9 h
    refine exitI ?_
    obtain ⟨o, hq, rfl⟩ := Option.map_eq_some_iff.1 h
    replace h := hq; clear hq
    refine AI nofun ?_
    refine LWp.sim ?_ (f67b0_j1_ok hg0 h)
    exact simT (M := []) (lit' := []) (hg0.tl _) rfl TT TT

theorem f67b0_L1_ok {σ : Type} {Hc : σ → AHeap} {fi0 : Fn} {ff0 fc0 : List AVal} {g0 : σ → G_QDocument → Option (Bool × σ)} (hg0 : Clo Try.prog fi0 ff0 fc0 Hc (fun (x : G_QDocument) => [.agg [.str x.f_Name, .int .i64 x.f_Version, .str x.f_Text]]) (fun (b : Bool) => .bool b) g0) {z0 : σ} {a0 : List G_QDocument} {v2 : Int} {v3 : σ} {m : Option Nat} {o : (Int × σ)} (h : S_slices_IndexFunc_api_QDocument_l1 g0 m a0 v2 v3 = some o) :
    LWp Try.prog f67b0_lay 3 (.loop f67b0_c1) (QBlock 0 (QSeq Try.prog f67b0_lay 3 f67b0_c0 (f67b0_Q Hc fi0 ff0 fc0 a0 z0 o))) [(0, .isl 3 (a0.map e_QDocument) false), (1, .fn fi0 ff0 fc0), (7, .int .i64 ((a0.map e_QDocument).length : Int)), (8, .int .i64 v2)] ([] ++ up 3 (Hc v3)) 4 :=
  LWp_loopM (m := m) (s := ((v2, v3) : (Int × σ))) (r := o) (fun (s : (Int × σ)) => S_slices_IndexFunc_api_QDocument_b1 g0 m a0 s.1 s.2) (f67b0_L1_env Hc fi0 ff0 fc0 a0) (f67b0_L1_hp Hc fi0 ff0 fc0 a0) (f67b0_L1_Q Hc fi0 ff0 fc0 a0 z0) (fun s o h => f67b0_L1_bok hg0 h) h

noncomputable def S_slices_IndexFunc_api_QDocument {σ : Type} (g0 : σ → G_QDocument → Option (Bool × σ)) (m : Option Nat) (a0 : List G_QDocument) (z0 : σ) : Option (Int × σ) :=
  S_slices_IndexFunc_api_QDocument_l1 g0 m a0 0 z0

theorem f67b0_start {σ : Type} {Hc : σ → AHeap} {fi0 : Fn} {ff0 fc0 : List AVal} {g0 : σ → G_QDocument → Option (Bool × σ)} (hg0 : Clo Try.prog fi0 ff0 fc0 Hc (fun (x : G_QDocument) => [.agg [.str x.f_Name, .int .i64 x.f_Version, .str x.f_Text]]) (fun (b : Bool) => .bool b) g0) {a0 : List G_QDocument} {z0 : σ} {m : Option Nat} {o : Int × σ} (h : S_slices_IndexFunc_api_QDocument g0 m a0 z0 = some o) : LWp Try.prog f67b0_lay 3 f67b0_c2 (f67b0_Q Hc fi0 ff0 fc0 a0 z0 o) (initEnv 0 [.isl 3 (a0.map e_QDocument) false, .fn fi0 ff0 fc0]) ([] ++ Hc z0) 3 := by
  unfold S_slices_IndexFunc_api_QDocument at h
  refine LWp.sim (e := [(0, .isl 3 (a0.map e_QDocument) false), (1, .fn fi0 ff0 fc0)]) (L := ([] ++ up 3 (Hc z0))) (n := 4) (entryT (T := Hc z0) (e' := initEnv 0 [.isl 3 (a0.map e_QDocument) false, .fn fi0 ff0 fc0]) (e := [(0, .isl 3 (a0.map e_QDocument) false), (1, .fn fi0 ff0 fc0)]) (lit' := []) (lit := []) (hg0.tl z0) rfl rfl (AI (VS rfl) (AI (Vw.clo hg0.hf hg0.hc (by decide) (rhoE_1 _)) TT)) TT) ?_
  refine seqI ?_
  refine regI ?_
  refine seqI ?_
  refine seqI ?_
  refine regI ?_
  refine blockI ?_
  refine LWp.sim ?_ (f67b0_L1_ok hg0 h)
  exact simT (M := []) (lit' := []) (hg0.tl _) rfl (AI (VS rfl) (AI (Vw.clo hg0.hf hg0.hc (by decide) (rhoT_1 (chkT_ok (n := 4) (q := 3) (lit' := []) rfl))) (AI (VS rfl) (AI (VS rfl) TT)))) TT

theorem f67b0_ok {σ : Type} {Hc : σ → AHeap} {fi0 : Fn} {ff0 fc0 : List AVal} {g0 : σ → G_QDocument → Option (Bool × σ)} (hg0 : Clo Try.prog fi0 ff0 fc0 Hc (fun (x : G_QDocument) => [.agg [.str x.f_Name, .int .i64 x.f_Version, .str x.f_Text]]) (fun (b : Bool) => .bool b) g0) {a0 : List G_QDocument} {z0 : σ} {m : Option Nat} {o : Int × σ} (h : S_slices_IndexFunc_api_QDocument g0 m a0 z0 = some o) : ACalls Try.prog 67 [.isl 3 (a0.map e_QDocument) false, .fn fi0 ff0 fc0] ([] ++ Hc z0) 3 (Gives 4 (.int .i64 o.1) ([] ++ up 3 (Hc o.2))) := bfn_of (L := f67b0_L) f67b0_low f67b0_fok (NB rfl) (f67b0_start hg0 h)

def f49b0_c0 : LCode := (.seq (.region [⟨some 4, .mv (.c (.bool false)), none⟩])
 (.seq (.region [⟨some 5, .mv (.t 0), none⟩,
   ⟨some 6, .mv (.t 1), none⟩,
   ⟨some 7, .call 67 [(.t 5), (.t 6)], none⟩,
   ⟨some 8, .bin .geq (.t 7) (.c (.int .i64 0)), none⟩,
   ⟨some 4, .mv (.t 8), none⟩])
 .ret))
def f49b0_lay : Lay := ⟨9, [], false⟩
def f49b0_res : List LRes := [.t 4]
def f49b0_L : LFn := ⟨2, f49b0_lay, f49b0_c0, f49b0_res⟩
theorem f49b0_low : lowFn Try.prog [] 49 = some f49b0_L := by kernel_rfl
theorem f49b0_fok : FnOk Try.prog 49 := ⟨_, Try.func49, rfl, rfl⟩
noncomputable def S_slices_ContainsFunc_api_QDocument {σ : Type} (g0 : σ → G_QDocument → Option (Bool × σ)) (m : Option Nat) (a0 : List G_QDocument) (z0 : σ) : Option (Bool × σ) :=
  (S_slices_IndexFunc_api_QDocument g0 m a0 z0).bind fun v1 =>
  some ((decide (v1.1 ≥ 0)), v1.2)

def f49b0_Q {σ : Type} (Hc : σ → AHeap) (fi0 : Fn) (ff0 fc0 : List AVal) (a0 : List G_QDocument) (z0 : σ) (o : Bool × σ) : Exit → Env → AHeap → Nat → Prop := FinK f49b0_res (FinTo 3 4 (.bool o.1) ([] ++ up 3 (Hc o.2)))

theorem f49b0_start {σ : Type} {Hc : σ → AHeap} {fi0 : Fn} {ff0 fc0 : List AVal} {g0 : σ → G_QDocument → Option (Bool × σ)} (hg0 : Clo Try.prog fi0 ff0 fc0 Hc (fun (x : G_QDocument) => [.agg [.str x.f_Name, .int .i64 x.f_Version, .str x.f_Text]]) (fun (b : Bool) => .bool b) g0) {a0 : List G_QDocument} {z0 : σ} {m : Option Nat} {o : Bool × σ} (h : S_slices_ContainsFunc_api_QDocument g0 m a0 z0 = some o) : LWp Try.prog f49b0_lay 3 f49b0_c0 (f49b0_Q Hc fi0 ff0 fc0 a0 z0 o) (initEnv 0 [.isl 3 (a0.map e_QDocument) false, .fn fi0 ff0 fc0]) ([] ++ Hc z0) 3 := by
  unfold S_slices_ContainsFunc_api_QDocument at h
  refine LWp.sim (e := [(0, .isl 3 (a0.map e_QDocument) false), (1, .fn fi0 ff0 fc0)]) (L := ([] ++ up 3 (Hc z0))) (n := 4) (entryT (T := Hc z0) (e' := initEnv 0 [.isl 3 (a0.map e_QDocument) false, .fn fi0 ff0 fc0]) (e := [(0, .isl 3 (a0.map e_QDocument) false), (1, .fn fi0 ff0 fc0)]) (lit' := []) (lit := []) (hg0.tl z0) rfl rfl (AI (VS rfl) (AI (Vw.clo hg0.hf hg0.hc (by decide) (rhoE_1 _)) TT)) TT) ?_
  refine seqI ?_
  refine regI ?_
  refine seqI ?_
  refine regI ?_
  obtain ⟨v1, h1, h⟩ := bind_some h
  refine bcallT (m := 1) (q := 3) (lit0 := []) (lit := []) (L := []) (L' := []) (rest := []) (R' := .int .i64 v1.1) (hg0.tl _) (hg0.tl _) [] (f67b0_ok hg0 h1) rfl rfl rfl rfl rfl rfl (AI (VS rfl) (AI (Vw.clo hg0.hf hg0.hc (by decide) (lookT_1 _ _)) TT)) TT (nid_ren _ rfl) TT rfl ?_
  refine retI ?_
  cases h
  exact AI TT (finT (n' := 6) (q := 4) (lit' := []) (hg0.tl _) [] [] rfl rfl (VS rfl) TT)

theorem f49b0_ok {σ : Type} {Hc : σ → AHeap} {fi0 : Fn} {ff0 fc0 : List AVal} {g0 : σ → G_QDocument → Option (Bool × σ)} (hg0 : Clo Try.prog fi0 ff0 fc0 Hc (fun (x : G_QDocument) => [.agg [.str x.f_Name, .int .i64 x.f_Version, .str x.f_Text]]) (fun (b : Bool) => .bool b) g0) {a0 : List G_QDocument} {z0 : σ} {m : Option Nat} {o : Bool × σ} (h : S_slices_ContainsFunc_api_QDocument g0 m a0 z0 = some o) : ACalls Try.prog 49 [.isl 3 (a0.map e_QDocument) false, .fn fi0 ff0 fc0] ([] ++ Hc z0) 3 (Gives 4 (.bool o.1) ([] ++ up 3 (Hc o.2))) := bfn_of (L := f49b0_L) f49b0_low f49b0_fok (NB rfl) (f49b0_start hg0 h)

def f50c0_c0 : LCode := (.seq (.region [⟨some 1, .box (.t 0), none⟩,
   ⟨some 2, .mv (.c (.bool false)), none⟩])
 (.seq (.region [⟨some 3, .faddr 0 (.t 1), none⟩,
   ⟨some 4, .load false 1 (.t 3), none⟩,
   ⟨some 5, .bin .eql (.t 4) (.c (.str [])), none⟩,
   ⟨some 2, .mv (.t 5), none⟩])
 .ret))
def f50c0_lay : Lay := ⟨6, [], false⟩
def f50c0_res : List LRes := [.t 2]
def f50c0_L : LFn := ⟨1, f50c0_lay, f50c0_c0, f50c0_res⟩
theorem f50c0_low : lowFn Try.prog [] 50 = some f50c0_L := by kernel_rfl
theorem f50c0_fok : FnOk Try.prog 50 := ⟨_, Try.func50, rfl, rfl⟩
noncomputable def S_wordindex_validateDocuments_2c (m : Option Nat) (a0 : G_QDocument) : Option Bool :=
  some (a0.f_Name == ([] : List UInt8))

def f50c0_Q (a0 : G_QDocument) (o : Bool) : Exit → Env → AHeap → Nat → Prop := FinK f50c0_res (FinTo 3 4 (.bool o) [])

theorem f50c0_start {a0 : G_QDocument} {m : Option Nat} {o : Bool} (h : S_wordindex_validateDocuments_2c m a0 = some o) : LWp Try.prog f50c0_lay 3 f50c0_c0 (f50c0_Q a0 o) (initEnv 0 [.agg [.str a0.f_Name, .int .i64 a0.f_Version, .str a0.f_Text]]) [] 3 := by
  unfold S_wordindex_validateDocuments_2c at h
  refine seqI ?_
  refine regI ?_
  refine seqI ?_
  refine regI ?_
  refine retI ?_
  cases h
  exact AI TT (finI (n' := 4) [] [] rfl rfl (VS rfl) TT)

theorem f50c0_ok {a0 : G_QDocument} {m : Option Nat} {o : Bool} (h : S_wordindex_validateDocuments_2c m a0 = some o) : ACalls Try.prog 50 [.agg [.str a0.f_Name, .int .i64 a0.f_Version, .str a0.f_Text]] [] 3 (Gives 4 (.bool o) []) := bfn_of (L := f50c0_L) f50c0_low f50c0_fok (NB rfl) (f50c0_start h)

def f51c0_c0 : LCode := (.seq (.region [⟨some 2, .box (.t 0), none⟩,
   ⟨some 3, .mv (.c (.bool false)), none⟩])
 (.seq (.region [⟨some 4, .faddr 0 (.t 2), none⟩,
   ⟨some 5, .load false 1 (.t 4), none⟩,
   ⟨some 6, .faddr 0 (.t 1), none⟩,
   ⟨some 7, .load false 1 (.t 6), none⟩,
   ⟨some 8, .bin .eql (.t 5) (.t 7), none⟩,
   ⟨some 3, .mv (.t 8), none⟩])
 .ret))
def f51c0_lay : Lay := ⟨9, [], false⟩
def f51c0_res : List LRes := [.t 3]
def f51c0_L : LFn := ⟨2, f51c0_lay, f51c0_c0, f51c0_res⟩
theorem f51c0_low : lowFn Try.prog [] 51 = some f51c0_L := by kernel_rfl
theorem f51c0_fok : FnOk Try.prog 51 := ⟨_, Try.func51, rfl, rfl⟩
noncomputable def S_wordindex_validateDocuments_3c (m : Option Nat) (a0 : List UInt8) (a1 : Int) (a2 : List UInt8) (a3 : G_QDocument) : Option Bool :=
  some (a3.f_Name == a0)

def f51c0_Q (a0 : List UInt8) (a1 : Int) (a2 : List UInt8) (a3 : G_QDocument) (o : Bool) : Exit → Env → AHeap → Nat → Prop := FinK f51c0_res (FinTo 3 4 (.bool o) [((1, 0), .one [.str a0, .int .i64 a1, .str a2])])

theorem f51c0_start {a0 : List UInt8} {a1 : Int} {a2 : List UInt8} {a3 : G_QDocument} {m : Option Nat} {o : Bool} (h : S_wordindex_validateDocuments_3c m a0 a1 a2 a3 = some o) : LWp Try.prog f51c0_lay 3 f51c0_c0 (f51c0_Q a0 a1 a2 a3 o) (initEnv 0 [.agg [.str a3.f_Name, .int .i64 a3.f_Version, .str a3.f_Text], .ptr (1, 0) 0 0]) [((1, 0), .one [.str a0, .int .i64 a1, .str a2])] 3 := by
  unfold S_wordindex_validateDocuments_3c at h
  refine seqI ?_
  refine regI ?_
  refine seqI ?_
  refine regI ?_
  refine LWp.sim (e := [(3, .bool (a3.f_Name == a0))]) (L := [((1, 0), .one [.str a0, .int .i64 a1, .str a2])]) (n := 3) ?_ ?_
  · exact simI (M := []) rfl (AI (VS rfl) TT) (AI (AI rfl (BVw.oneL (AI (VS rfl) (AI (VS rfl) (AI (VS rfl) TT))))) TT)
  refine retI ?_
  cases h
  exact AI TT (finI (n' := 3) [] [] rfl rfl (VS rfl) (AI (AI rfl (BVw.oneL (AI (VS rfl) (AI (VS rfl) (AI (VS rfl) TT))))) TT))

theorem f51c0_ok {a0 : List UInt8} {a1 : Int} {a2 : List UInt8} {a3 : G_QDocument} {m : Option Nat} {o : Bool} (h : S_wordindex_validateDocuments_3c m a0 a1 a2 a3 = some o) : ACalls Try.prog 51 [.agg [.str a3.f_Name, .int .i64 a3.f_Version, .str a3.f_Text], .ptr (1, 0) 0 0] [((1, 0), .one [.str a0, .int .i64 a1, .str a2])] 3 (Gives 4 (.bool o) [((1, 0), .one [.str a0, .int .i64 a1, .str a2])]) := bfn_of (L := f51c0_L) f51c0_low f51c0_fok (NB rfl) (f51c0_start h)

def f24_c1 : LCode := (.seq (.region [⟨some 19, .bin .lss (.t 18) (.t 17), none⟩])
 (.seq (.cond (.t 19)
  .skip
  (.exit 0))
 (.seq (.block 1
  (.seq (.region [⟨some 20, .mv (.t 18), none⟩,
    ⟨some 21, .iaddr 3 (.t 16) (.t 18), none⟩,
    ⟨some 22, .load true 3 (.t 21), none⟩,
    ⟨some 5, .alloc [(.str []), (.int .i64 0), (.str [])], none⟩,
    ⟨some 4, .mv (.t 20), none⟩,
    ⟨none, .store 3 (.t 5) (.t 22), none⟩])
  (.seq (.region [⟨some 23, .mv (.t 0), none⟩,
    ⟨some 24, .mv (.t 4), none⟩,
    ⟨some 25, .slSl 3 (.t 23) none (some (.t 24)) none, none⟩,
    ⟨some 26, .mkfn (.func 51) [] [(.t 5)], none⟩,
    ⟨some 27, .call 49 [(.t 25), (.t 26)], none⟩])
  (.cond (.t 27)
   (.seq (.region [⟨some 2, .mv (.c (.int .i64 6)), none⟩])
   .ret)
   .skip))))
 (.region [⟨some 28, .bin .add (.t 18) (.c (.int .i64 1)), none⟩,
   ⟨some 18, .mv (.t 28), none⟩]))))
def f24_c0 : LCode := (.seq (.region [⟨some 2, .mv (.c (.int .i64 0)), none⟩])
 .ret)
def f24_c2 : LCode := (.seq (.region [⟨some 2, .mv (.c (.int .i64 0)), none⟩])
 (.seq (.region [⟨some 3, .mv (.c (.fn (.func 48) [] [])), none⟩])
 (.seq (.seq (.region [⟨some 6, .mv (.t 0), none⟩,
   ⟨some 7, .len false (.t 6), none⟩,
   ⟨some 8, .bin .gtr (.t 7) (.c (.int .i64 20)), none⟩,
   ⟨some 9, .mv (.t 8), none⟩,
   ⟨some 10, .mv (.t 0), some (9, false)⟩,
   ⟨some 11, .mv (.t 3), some (9, false)⟩,
   ⟨some 12, .call 49 [(.t 10), (.t 11)], some (9, false)⟩,
   ⟨some 13, .pick (.t 9) (.c (.bool true)) (.t 12), none⟩])
 (.cond (.t 13)
  (.seq (.region [⟨some 2, .mv (.c (.int .i64 2)), none⟩])
  .ret)
  .skip))
 (.seq (.seq (.region [⟨some 14, .mv (.t 0), none⟩,
   ⟨some 15, .call 49 [(.t 14), (.c (.fn (.func 50) [] []))], none⟩])
 (.cond (.t 15)
  (.seq (.region [⟨some 2, .mv (.c (.int .i64 3)), none⟩])
  .ret)
  .skip))
 (.seq (.seq (.region [⟨some 16, .mv (.t 0), none⟩,
   ⟨some 17, .len false (.t 16), none⟩,
   ⟨some 18, .mv (.c (.int .i64 0)), none⟩])
 (.block 0
  (.loop
   f24_c1)))
 f24_c0)))))
def f24_lay : Lay := ⟨29, [], false⟩
def f24_res : List LRes := [.t 2]
def f24_L : LFn := ⟨1, f24_lay, f24_c2, f24_res⟩
theorem f24_low : lowFn Try.prog [] 24 = some f24_L := by kernel_rfl
theorem f24_fok : FnOk Try.prog 24 := ⟨_, Try.func24, rfl, rfl⟩
def f24_Q (a0 : List G_QDocument) (o : Int) : Exit → Env → AHeap → Nat → Prop := FinK f24_res (PureEnd (.int .i64 o))

def f24_L1_env (a0 : List G_QDocument) (s : Int) : Env := [(0, .isl 3 (a0.map e_QDocument) false), (16, .isl 3 (a0.map e_QDocument) false), (17, .int .i64 ((a0.map e_QDocument).length : Int)), (18, .int .i64 s)]
def f24_L1_hp (a0 : List G_QDocument) (s : Int) : AHeap := []
def f24_L1_Q (a0 : List G_QDocument) (o : Int) : Exit → Env → AHeap → Nat → Prop := (QBlock 0 (QSeq Try.prog f24_lay 0 f24_c0 (f24_Q a0 o)))

noncomputable def S_wordindex_validateDocuments_j1 (m : Option Nat) : Option Int :=
  some 0

noncomputable def S_wordindex_validateDocuments_b1 (m : Option Nat) (a0 : List G_QDocument) (v4 : Int) : Option (Int ⊕ Int) :=
  if (decide (v4 < ((a0.map e_QDocument).length : Int))) = true then
    if (0 : Int) ≤ v4 ∧ v4 < ((a0.map e_QDocument).length : Int) then
    if (0 : Int) ≤ v4 ∧ v4 ≤ ((a0.map e_QDocument).length : Int) then
    (S_slices_ContainsFunc_api_QDocument (fun (s : Unit) (x : G_QDocument) => (S_wordindex_validateDocuments_3c m ((a0.getD v4.toNat default).f_Name) ((a0.getD v4.toNat default).f_Version) ((a0.getD v4.toNat default).f_Text) x).map fun o => (o, ())) m (a0.take v4.toNat) ()).bind fun v6 =>
    if v6.1 = true then
      Option.map Sum.inr (
        some 6)
    else
      some (.inl (W (v4 + 1)))
    else none
    else none
  else
    Option.map Sum.inr (
      S_wordindex_validateDocuments_j1 m)

noncomputable def S_wordindex_validateDocuments_l1 (m : Option Nat) (a0 : List G_QDocument) (v4 : Int) : Option Int := loopM m (fun (s : Int) => S_wordindex_validateDocuments_b1 m a0 s) v4

theorem f24_j1_ok {a0 : List G_QDocument} {m : Option Nat} {o : Int} (h : S_wordindex_validateDocuments_j1 m = some o) :
    LWp Try.prog f24_lay 0 f24_c0 (f24_Q a0 o) [] [] 0 := by
  unfold S_wordindex_validateDocuments_j1 at h
  refine seqI ?_
  refine regI ?_
  refine retI ?_
  cases h
  exact AI TT (AI rfl (VS rfl))

theorem f24_L1_bok {a0 : List G_QDocument} {v4 : Int} {m : Option Nat} {o : Int ⊕ Int} (h : S_wordindex_validateDocuments_b1 m a0 v4 = some o) :
    LWp Try.prog f24_lay 0 f24_c1 (BodyQ 0 0 (f24_L1_env a0) (f24_L1_hp a0) (f24_L1_Q a0) o) [(0, .isl 3 (a0.map e_QDocument) false), (16, .isl 3 (a0.map e_QDocument) false), (17, .int .i64 ((a0.map e_QDocument).length : Int)), (18, .int .i64 v4)] [] 0 := by
  unfold S_wordindex_validateDocuments_b1 at h
  refine seqI ?_
  refine regI ?_
  refine seqI ?_
  refine condI (v := (decide (v4 < ((a0.map e_QDocument).length : Int)))) rfl TT (fun h15 => ?_) (fun h15 => ?_)
  · have h := ite_tt h15 h
    refine skipI ?_
    refine seqI ?_
    refine blockI ?_
    refine seqI ?_
    refine regI ?_
    obtain ⟨h16, h⟩ := ite_some h
    refine AI h16 ?_
    refine EX (e_QDocument (a0.getD v4.toNat default)) (AI (getD_enc e_QDocument _ _ (idx_ltL e_QDocument h16)) (AI (AI (idx_lt h16) (NB rfl)) ?_))
    refine seqI ?_
    refine regI ?_
    obtain ⟨h17, h⟩ := ite_some h
    refine EX (.isl 3 ((a0.take v4.toNat).map e_QDocument) false) (AI (sl_eq e_QDocument (slB e_QDocument a0 _) rfl) (AI (AI rfl (AI (Int.le_refl _) h17)) ?_))
    obtain ⟨v6, h18, h⟩ := bind_some h
    refine bcall (k := 3) (m := 1) (L' := [((0, 0), .one [.str ((a0.getD v4.toNat default).f_Name), .int .i64 ((a0.getD v4.toNat default).f_Version), .str ((a0.getD v4.toNat default).f_Text)])]) (rest := []) (R' := .bool v6.1) [((1, 0), (0, 0))] (f49b0_ok (show Clo Try.prog (.func 51) [] [.ptr (1, 0) 0 0] (fun (s : Unit) => [((1, 0), .one [.str ((a0.getD v4.toNat default).f_Name), .int .i64 ((a0.getD v4.toNat default).f_Version), .str ((a0.getD v4.toNat default).f_Text)])]) (fun (x : G_QDocument) => [.agg [.str x.f_Name, .int .i64 x.f_Version, .str x.f_Text]]) (fun (b : Bool) => .bool b) (fun (s : Unit) (x : G_QDocument) => (S_wordindex_validateDocuments_3c m ((a0.getD v4.toNat default).f_Name) ((a0.getD v4.toNat default).f_Version) ((a0.getD v4.toNat default).f_Text) x).map fun o => (o, ())) from Clo.mk' (fun s => Tl.lit rfl (AI (rfl) TT) rfl) rfl rfl (fun _ => rfl) (fun s x o h => by obtain ⟨o1, h1, rfl⟩ := Option.map_eq_some_iff.1 h; exact EX _ (AI (f51c0_ok h1) (AI rfl (AI rfl TT))))) h18) rfl rfl rfl (AI (VS rfl) (AI (Vw.fnL TT (AI (Vw.ptr _ _ _ _ rfl) TT)) TT)) (AI (h0I (0, 0) rfl rfl (BVw.oneL (AI (VS rfl) (AI (VS rfl) (AI (VS rfl) TT))))) TT) (nid_ren _ rfl) (AI rfl (AI rfl TT)) rfl ?_
    refine LWp.sim (e := [(0, .isl 3 (a0.map e_QDocument) false), (16, .isl 3 (a0.map e_QDocument) false), (17, .int .i64 ((a0.map e_QDocument).length : Int)), (18, .int .i64 v4), (27, .bool v6.1)]) (L := []) (n := 0) ?_ ?_
    · exact simI (M := []) rfl (AI (VS rfl) (AI (VS rfl) (AI (VS rfl) (AI (VS rfl) (AI (VS rfl) TT))))) TT
    refine condI (v := v6.1) rfl TT (fun h19 => ?_) (fun h19 => ?_)
    · have h := ite_tt h19 h
      refine seqI ?_
      refine regI ?_
      refine retI ?_
      obtain ⟨o, hq, rfl⟩ := Option.map_eq_some_iff.1 h
      replace h := hq; clear hq
      refine AI nofun ?_
      cases h
      exact AI TT (AI rfl (VS rfl))
    · have h := ite_ff h19 h
      refine skipI ?_
      refine regI ?_
      cases h
      exact AI rfl (simI (M := []) rfl (AI (VS rfl) (AI (VS rfl) (AI (VS rfl) (AI (VS rfl) TT)))) TT)
  · have h := ite_ff h15 h
    refine exitI ?_
    obtain ⟨o, hq, rfl⟩ := Option.map_eq_some_iff.1 h
    replace h := hq; clear hq
    refine AI nofun ?_
    refine LWp.sim ?_ (f24_j1_ok h)
    exact simI (M := []) rfl TT TT

theorem f24_L1_ok {a0 : List G_QDocument} {v4 : Int} {m : Option Nat} {o : Int} (h : S_wordindex_validateDocuments_l1 m a0 v4 = some o) :
    LWp Try.prog f24_lay 0 (.loop f24_c1) (QBlock 0 (QSeq Try.prog f24_lay 0 f24_c0 (f24_Q a0 o))) [(0, .isl 3 (a0.map e_QDocument) false), (16, .isl 3 (a0.map e_QDocument) false), (17, .int .i64 ((a0.map e_QDocument).length : Int)), (18, .int .i64 v4)] [] 0 :=
  LWp_loopM (m := m) (s := (v4 : Int)) (r := o) (fun (s : Int) => S_wordindex_validateDocuments_b1 m a0 s) (f24_L1_env a0) (f24_L1_hp a0) (f24_L1_Q a0) (fun s o h => f24_L1_bok h) h

noncomputable def S_wordindex_validateDocuments (m : Option Nat) (a0 : List G_QDocument) : Option Int :=
  (if ((decide (((a0.map e_QDocument).length : Int) > 20)) == false) = true then S_slices_ContainsFunc_api_QDocument (fun (s : Unit) (x : G_QDocument) => (S_wordindex_validateDocuments_1c m x).map fun o => (o, ())) m a0 () else some default).bind fun v1 =>
  if ((decide (((a0.map e_QDocument).length : Int) > 20)) || v1.1) = true then
    some 2
  else
    (S_slices_ContainsFunc_api_QDocument (fun (s : Unit) (x : G_QDocument) => (S_wordindex_validateDocuments_2c m x).map fun o => (o, ())) m a0 ()).bind fun v2 =>
    if v2.1 = true then
      some 3
    else
      S_wordindex_validateDocuments_l1 m a0 0

theorem f24_start {a0 : List G_QDocument} {m : Option Nat} {o : Int} (h : S_wordindex_validateDocuments m a0 = some o) : LWp Try.prog f24_lay 0 f24_c2 (f24_Q a0 o) (initEnv 0 [.isl 3 (a0.map e_QDocument) false]) [] 0 := by
  unfold S_wordindex_validateDocuments at h
  refine seqI ?_
  refine regI ?_
  refine seqI ?_
  refine regI ?_
  refine seqI ?_
  refine seqI ?_
  refine regI ?_
  obtain ⟨v1, h1, h⟩ := bind_some h
  refine Or.inl (EX (.bool v1.1) (AI (fun hp => AI (AI hp hp) (ACalls.same rfl (bcall (k := 3) (m := 1) (L' := []) (rest := []) (R' := .bool v1.1) [] (f49b0_ok (show Clo Try.prog (.func 48) [] [] (fun (s : Unit) => []) (fun (x : G_QDocument) => [.agg [.str x.f_Name, .int .i64 x.f_Version, .str x.f_Text]]) (fun (b : Bool) => .bool b) (fun (s : Unit) (x : G_QDocument) => (S_wordindex_validateDocuments_1c m x).map fun o => (o, ())) from Clo.mk' (fun s => Tl.lit rfl TT rfl) rfl rfl (fun _ => rfl) (fun s x o h => by obtain ⟨o1, h1, rfl⟩ := Option.map_eq_some_iff.1 h; exact EX _ (AI (f48c0_ok h1) TT))) (ite_tt hp h1)) rfl rfl rfl (AI (VS rfl) (AI (VS rfl) TT)) TT (nid_ren _ rfl) TT rfl (AI rfl (HeapTo.get TT))))) ?_))
  refine AI (fun hc => (bqf hc)) ?_
  refine LWp.sim (e := [(0, .isl 3 (a0.map e_QDocument) false), (13, .bool ((decide (((a0.map e_QDocument).length : Int) > 20)) || v1.1))]) (L := []) (n := 0) ?_ ?_
  · exact simI (M := []) rfl (AI (VS rfl) (AI (VS rfl) TT)) TT
  refine condI (v := ((decide (((a0.map e_QDocument).length : Int) > 20)) || v1.1)) rfl TT (fun h2 => ?_) (fun h2 => ?_)
  · have h := ite_tt h2 h
    refine seqI ?_
    refine regI ?_
    refine retI ?_
    cases h
    exact AI TT (AI rfl (VS rfl))
  · have h := ite_ff h2 h
    refine skipI ?_
    refine seqI ?_
    refine seqI ?_
    refine regI ?_
    obtain ⟨v2, h3, h⟩ := bind_some h
    refine bcall (k := 3) (m := 1) (L' := []) (rest := []) (R' := .bool v2.1) [] (f49b0_ok (show Clo Try.prog (.func 50) [] [] (fun (s : Unit) => []) (fun (x : G_QDocument) => [.agg [.str x.f_Name, .int .i64 x.f_Version, .str x.f_Text]]) (fun (b : Bool) => .bool b) (fun (s : Unit) (x : G_QDocument) => (S_wordindex_validateDocuments_2c m x).map fun o => (o, ())) from Clo.mk' (fun s => Tl.lit rfl TT rfl) rfl rfl (fun _ => rfl) (fun s x o h => by obtain ⟨o1, h1, rfl⟩ := Option.map_eq_some_iff.1 h; exact EX _ (AI (f50c0_ok h1) TT))) h3) rfl rfl rfl (AI (VS rfl) (AI (VS rfl) TT)) TT (nid_ren _ rfl) TT rfl ?_
    refine condI (v := v2.1) rfl TT (fun h4 => ?_) (fun h4 => ?_)
    · have h := ite_tt h4 h
      refine seqI ?_
      refine regI ?_
      refine retI ?_
      cases h
      exact AI TT (AI rfl (VS rfl))
    · have h := ite_ff h4 h
      refine skipI ?_
      refine seqI ?_
      refine seqI ?_
      refine regI ?_
      refine blockI ?_
      refine LWp.sim ?_ (f24_L1_ok h)
      exact simI (M := []) rfl (AI (VS rfl) (AI (VS rfl) (AI (VS rfl) (AI (VS rfl) TT)))) TT

theorem f24_ok {a0 : List G_QDocument} {m : Option Nat} {o : Int} (h : S_wordindex_validateDocuments m a0 = some o) : PFn Try.prog 24 [.isl 3 (a0.map e_QDocument) false] (.int .i64 o) := PFn.ofFnW (L := f24_L) f24_low f24_fok (NB rfl) rfl (f24_start h)

def f52_c1 : LCode := (.seq (.region [⟨some 8, .bin .lss (.t 7) (.t 6), none⟩])
 (.seq (.cond (.t 8)
  .skip
  (.exit 0))
 (.seq (.block 1
  (.seq (.region [⟨some 9, .mv (.t 7), none⟩,
    ⟨some 4, .mv (.t 9), none⟩])
  (.region [⟨some 10, .mv (.t 3), none⟩,
    ⟨some 11, .mv (.t 0), none⟩,
    ⟨some 12, .mv (.t 4), none⟩,
    ⟨some 13, .idxS (.t 11) (.t 12), none⟩,
    ⟨some 14, .conv (.int .u32) (.t 13), none⟩,
    ⟨some 15, .bin .xor (.t 10) (.t 14), none⟩,
    ⟨some 16, .bin .mul (.t 15) (.c (.int .u32 16777619)), none⟩,
    ⟨some 3, .mv (.t 16), none⟩])))
 (.region [⟨some 17, .bin .add (.t 7) (.c (.int .i64 1)), none⟩,
   ⟨some 7, .mv (.t 17), none⟩]))))
def f52_c0 : LCode := (.seq (.region [⟨some 18, .mv (.t 3), none⟩,
   ⟨some 2, .mv (.t 18), none⟩])
 .ret)
def f52_c2 : LCode := (.seq (.region [⟨some 2, .mv (.c (.int .u32 0)), none⟩])
 (.seq (.region [⟨some 3, .mv (.c (.int .u32 2166136261)), none⟩])
 (.seq (.seq (.region [⟨some 5, .mv (.t 0), none⟩,
   ⟨some 6, .len true (.t 5), none⟩,
   ⟨some 7, .mv (.c (.int .i64 0)), none⟩])
 (.block 0
  (.loop
   f52_c1)))
 f52_c0)))
def f52_lay : Lay := ⟨19, [], false⟩
def f52_res : List LRes := [.t 2]
def f52_L : LFn := ⟨1, f52_lay, f52_c2, f52_res⟩
theorem f52_low : lowFn Try.prog [] 52 = some f52_L := by kernel_rfl
theorem f52_fok : FnOk Try.prog 52 := ⟨_, Try.func52, rfl, rfl⟩
def f52_Q (a0 : List UInt8) (o : Int) : Exit → Env → AHeap → Nat → Prop := FinK f52_res (PureEnd (.int .u32 o))

def f52_L1_env (a0 : List UInt8) (s : (Int × Int)) : Env := [(0, .str a0), (3, .int .u32 s.1), (6, .int .i64 (a0.length : Int)), (7, .int .i64 s.2)]
def f52_L1_hp (a0 : List UInt8) (s : (Int × Int)) : AHeap := []
def f52_L1_Q (a0 : List UInt8) (o : Int) : Exit → Env → AHeap → Nat → Prop := (QBlock 0 (QSeq Try.prog f52_lay 0 f52_c0 (f52_Q a0 o)))

noncomputable def S_journal_Checksum_j1 (m : Option Nat) (v1 : Int) : Option Int :=
  some v1

noncomputable def S_journal_Checksum_b1 (m : Option Nat) (a0 : List UInt8) (v1 : Int) (v2 : Int) : Option ((Int × Int) ⊕ Int) :=
  if (decide (v2 < (a0.length : Int))) = true then
    if (0 : Int) ≤ v2 ∧ v2 < (a0.length : Int) then
    some (.inl ((IntKind.wrap .u32 ((ibits .xor .u32 v1 (IntKind.wrap .u32 (((a0.getD v2.toNat 0).toNat : Nat) : Int))) * 16777619)), (W (v2 + 1))))
    else none
  else
    Option.map Sum.inr (
      S_journal_Checksum_j1 m v1)

noncomputable def S_journal_Checksum_l1 (m : Option Nat) (a0 : List UInt8) (v1 : Int) (v2 : Int) : Option Int := loopM m (fun (s : (Int × Int)) => S_journal_Checksum_b1 m a0 s.1 s.2) (v1, v2)

theorem f52_j1_ok {a0 : List UInt8} {v1 : Int} {m : Option Nat} {o : Int} (h : S_journal_Checksum_j1 m v1 = some o) :
    LWp Try.prog f52_lay 0 f52_c0 (f52_Q a0 o) [(3, .int .u32 v1)] [] 0 := by
  unfold S_journal_Checksum_j1 at h
  refine seqI ?_
  refine regI ?_
  refine retI ?_
  cases h
  exact AI TT (AI rfl (VS rfl))

theorem f52_L1_bok {a0 : List UInt8} {v1 : Int} {v2 : Int} {m : Option Nat} {o : (Int × Int) ⊕ Int} (h : S_journal_Checksum_b1 m a0 v1 v2 = some o) :
    LWp Try.prog f52_lay 0 f52_c1 (BodyQ 0 0 (f52_L1_env a0) (f52_L1_hp a0) (f52_L1_Q a0) o) [(0, .str a0), (3, .int .u32 v1), (6, .int .i64 (a0.length : Int)), (7, .int .i64 v2)] [] 0 := by
  unfold S_journal_Checksum_b1 at h
  refine seqI ?_
  refine regI ?_
  refine seqI ?_
  refine condI (v := (decide (v2 < (a0.length : Int)))) rfl TT (fun h5 => ?_) (fun h5 => ?_)
  · have h := ite_tt h5 h
    refine skipI ?_
    refine seqI ?_
    refine blockI ?_
    refine seqI ?_
    refine regI ?_
    refine regI ?_
    obtain ⟨h6, h⟩ := ite_some h
    refine AI h6 ?_
    refine LWp.sim (e := [(0, .str a0), (3, .int .u32 (IntKind.wrap .u32 ((ibits .xor .u32 v1 (IntKind.wrap .u32 (((a0.getD v2.toNat 0).toNat : Nat) : Int))) * 16777619))), (6, .int .i64 (a0.length : Int)), (7, .int .i64 v2)]) (L := []) (n := 0) ?_ ?_
    · exact simI (M := []) rfl (AI (VS rfl) (AI (VS rfl) (AI (VS rfl) (AI (VS rfl) TT)))) TT
    refine regI ?_
    cases h
    exact AI rfl (simI (M := []) rfl (AI (VS rfl) (AI (VS rfl) (AI (VS rfl) (AI (VS rfl) TT)))) TT)
  · have h := ite_ff h5 h
    refine exitI ?_
    obtain ⟨o, hq, rfl⟩ := Option.map_eq_some_iff.1 h
    replace h := hq; clear hq
    refine AI nofun ?_
    refine LWp.sim ?_ (f52_j1_ok h)
    exact simI (M := []) rfl (AI (VS rfl) TT) TT

theorem f52_L1_ok {a0 : List UInt8} {v1 : Int} {v2 : Int} {m : Option Nat} {o : Int} (h : S_journal_Checksum_l1 m a0 v1 v2 = some o) :
    LWp Try.prog f52_lay 0 (.loop f52_c1) (QBlock 0 (QSeq Try.prog f52_lay 0 f52_c0 (f52_Q a0 o))) [(0, .str a0), (3, .int .u32 v1), (6, .int .i64 (a0.length : Int)), (7, .int .i64 v2)] [] 0 :=
  LWp_loopM (m := m) (s := ((v1, v2) : (Int × Int))) (r := o) (fun (s : (Int × Int)) => S_journal_Checksum_b1 m a0 s.1 s.2) (f52_L1_env a0) (f52_L1_hp a0) (f52_L1_Q a0) (fun s o h => f52_L1_bok h) h

noncomputable def S_journal_Checksum (m : Option Nat) (a0 : List UInt8) : Option Int :=
  S_journal_Checksum_l1 m a0 2166136261 0

theorem f52_start {a0 : List UInt8} {m : Option Nat} {o : Int} (h : S_journal_Checksum m a0 = some o) : LWp Try.prog f52_lay 0 f52_c2 (f52_Q a0 o) (initEnv 0 [.str a0]) [] 0 := by
  unfold S_journal_Checksum at h
  refine seqI ?_
  refine regI ?_
  refine seqI ?_
  refine regI ?_
  refine seqI ?_
  refine seqI ?_
  refine regI ?_
  refine blockI ?_
  refine LWp.sim ?_ (f52_L1_ok h)
  exact simI (M := []) rfl (AI (VS rfl) (AI (VS rfl) (AI (VS rfl) (AI (VS rfl) TT)))) TT

theorem f52_ok {a0 : List UInt8} {m : Option Nat} {o : Int} (h : S_journal_Checksum m a0 = some o) : PFn Try.prog 52 [.str a0] (.int .u32 o) := PFn.ofFnW (L := f52_L) f52_low f52_fok (NB rfl) rfl (f52_start h)

def f28_c0 : LCode := (.seq (.region [⟨some 2, .mv (.c (.bool false)), none⟩])
 (.seq (.region [⟨some 3, .mv (.t 0), none⟩,
   ⟨some 4, .bin .eql (.t 3) (.c (.int .u8 95)), none⟩,
   ⟨some 5, .mv (.t 4), none⟩,
   ⟨some 6, .mv (.t 0), some (5, false)⟩,
   ⟨some 7, .bin .geq (.t 6) (.c (.int .u8 48)), some (5, false)⟩,
   ⟨some 8, .mv (.t 7), some (5, false)⟩,
   ⟨some 9, .mv (.t 0), some (8, true)⟩,
   ⟨some 10, .bin .leq (.t 9) (.c (.int .u8 57)), some (8, true)⟩,
   ⟨some 11, .pick (.t 8) (.t 10) (.c (.bool false)), some (5, false)⟩,
   ⟨some 12, .pick (.t 5) (.c (.bool true)) (.t 11), none⟩,
   ⟨some 13, .mv (.t 12), none⟩,
   ⟨some 14, .mv (.t 0), some (13, false)⟩,
   ⟨some 15, .bin .or (.t 14) (.c (.int .u8 32)), some (13, false)⟩,
   ⟨some 16, .bin .geq (.t 15) (.c (.int .u8 97)), some (13, false)⟩,
   ⟨some 17, .mv (.t 16), some (13, false)⟩,
   ⟨some 18, .mv (.t 0), some (17, true)⟩,
   ⟨some 19, .bin .or (.t 18) (.c (.int .u8 32)), some (17, true)⟩,
   ⟨some 20, .bin .leq (.t 19) (.c (.int .u8 122)), some (17, true)⟩,
   ⟨some 21, .pick (.t 17) (.t 20) (.c (.bool false)), some (13, false)⟩,
   ⟨some 22, .pick (.t 13) (.c (.bool true)) (.t 21), none⟩,
   ⟨some 2, .mv (.t 22), none⟩])
 .ret))
def f28_lay : Lay := ⟨23, [], false⟩
def f28_res : List LRes := [.t 2]
def f28_L : LFn := ⟨1, f28_lay, f28_c0, f28_res⟩
theorem f28_low : lowFn Try.prog [] 28 = some f28_L := by kernel_rfl
theorem f28_fok : FnOk Try.prog 28 := ⟨_, Try.func28, rfl, rfl⟩
noncomputable def S_wordindex_isWordByte (m : Option Nat) (a0 : Int) : Option Bool :=
  some (((a0 == 95) || ((decide (a0 ≥ 48)) && (decide (a0 ≤ 57)))) || ((decide ((ibits .or .u8 a0 32) ≥ 97)) && (decide ((ibits .or .u8 a0 32) ≤ 122))))

def f28_Q (a0 : Int) (o : Bool) : Exit → Env → AHeap → Nat → Prop := FinK f28_res (PureEnd (.bool o))

theorem f28_start {a0 : Int} {m : Option Nat} {o : Bool} (h : S_wordindex_isWordByte m a0 = some o) : LWp Try.prog f28_lay 0 f28_c0 (f28_Q a0 o) (initEnv 0 [.int .u8 a0]) [] 0 := by
  unfold S_wordindex_isWordByte at h
  refine seqI ?_
  refine regI ?_
  refine seqI ?_
  refine regI ?_
  refine AI (fun hp => hp) ?_
  refine AI (fun hp => hp) ?_
  refine AI (fun hp => hp) ?_
  refine AI (fun hp => (AI hp (fun hc => (and_i hp (bqt hc))))) ?_
  refine AI (fun hc => (bqf hc)) ?_
  refine AI (fun hp => hp) ?_
  refine AI (fun hp => hp) ?_
  refine AI (fun hp => hp) ?_
  refine AI (fun hp => hp) ?_
  refine AI (fun hp => hp) ?_
  refine AI (fun hp => (AI hp (fun hc => (and_i hp (bqt hc))))) ?_
  refine AI (fun hc => (bqf hc)) ?_
  refine LWp.sim (e := [(2, .bool (((a0 == 95) || ((decide (a0 ≥ 48)) && (decide (a0 ≤ 57)))) || ((decide ((ibits .or .u8 a0 32) ≥ 97)) && (decide ((ibits .or .u8 a0 32) ≤ 122)))))]) (L := []) (n := 0) ?_ ?_
  · exact simI (M := []) rfl (AI (VS rfl) TT) TT
  refine retI ?_
  cases h
  exact AI TT (AI rfl (VS rfl))

theorem f28_ok {a0 : Int} {m : Option Nat} {o : Bool} (h : S_wordindex_isWordByte m a0 = some o) : PFn Try.prog 28 [.int .u8 a0] (.bool o) := PFn.ofFnW (L := f28_L) f28_low f28_fok (NB rfl) rfl (f28_start h)

def f98_c0 : LCode := (.seq (.region [⟨some 2, .mv (.c (.bool false)), none⟩])
 (.seq (.region [⟨some 3, .mv (.t 0), none⟩,
   ⟨some 4, .mv (.t 0), none⟩,
   ⟨some 5, .bin .neq (.t 3) (.t 4), none⟩,
   ⟨some 2, .mv (.t 5), none⟩])
 .ret))
def f98_lay : Lay := ⟨6, [], false⟩
def f98_res : List LRes := [.t 2]
def f98_L : LFn := ⟨1, f98_lay, f98_c0, f98_res⟩
theorem f98_low : lowFn Try.prog [] 98 = some f98_L := by kernel_rfl
theorem f98_fok : FnOk Try.prog 98 := ⟨_, Try.func98, rfl, rfl⟩
noncomputable def S_cmp_isNaN_string (m : Option Nat) (a0 : List UInt8) : Option Bool :=
  some (!(a0 == a0))

def f98_Q (a0 : List UInt8) (o : Bool) : Exit → Env → AHeap → Nat → Prop := FinK f98_res (PureEnd (.bool o))

theorem f98_start {a0 : List UInt8} {m : Option Nat} {o : Bool} (h : S_cmp_isNaN_string m a0 = some o) : LWp Try.prog f98_lay 0 f98_c0 (f98_Q a0 o) (initEnv 0 [.str a0]) [] 0 := by
  unfold S_cmp_isNaN_string at h
  refine seqI ?_
  refine regI ?_
  refine seqI ?_
  refine regI ?_
  refine retI ?_
  cases h
  exact AI TT (AI rfl (VS rfl))

theorem f98_ok {a0 : List UInt8} {m : Option Nat} {o : Bool} (h : S_cmp_isNaN_string m a0 = some o) : PFn Try.prog 98 [.str a0] (.bool o) := PFn.ofFnW (L := f98_L) f98_low f98_fok (NB rfl) rfl (f98_start h)

def f85_c0 : LCode := (.seq (.region [⟨some 4, .mv (.c (.bool false)), none⟩])
 (.seq (.region [⟨some 5, .mv (.t 0), none⟩,
   ⟨some 6, .call 98 [(.t 5)], none⟩,
   ⟨some 7, .mv (.t 6), none⟩,
   ⟨some 8, .mv (.t 1), some (7, true)⟩,
   ⟨some 9, .call 98 [(.t 8)], some (7, true)⟩,
   ⟨some 10, .un .not (.t 9), some (7, true)⟩,
   ⟨some 11, .pick (.t 7) (.t 10) (.c (.bool false)), none⟩,
   ⟨some 12, .mv (.t 11), none⟩,
   ⟨some 13, .mv (.t 0), some (12, false)⟩,
   ⟨some 14, .mv (.t 1), some (12, false)⟩,
   ⟨some 15, .bin .lss (.t 13) (.t 14), some (12, false)⟩,
   ⟨some 16, .pick (.t 12) (.c (.bool true)) (.t 15), none⟩,
   ⟨some 4, .mv (.t 16), none⟩])
 .ret))
def f85_lay : Lay := ⟨17, [], false⟩
def f85_res : List LRes := [.t 4]
def f85_L : LFn := ⟨2, f85_lay, f85_c0, f85_res⟩
theorem f85_low : lowFn Try.prog [] 85 = some f85_L := by kernel_rfl
theorem f85_fok : FnOk Try.prog 85 := ⟨_, Try.func85, rfl, rfl⟩
noncomputable def S_cmp_Less_string (m : Option Nat) (a0 : List UInt8) (a1 : List UInt8) : Option Bool :=
  (S_cmp_isNaN_string m a0).bind fun v1 =>
  (if (v1 == true) = true then S_cmp_isNaN_string m a1 else some default).bind fun v2 =>
  some ((v1 && (!v2)) || (Op.bytesLess a0 a1))

def f85_Q (a0 : List UInt8) (a1 : List UInt8) (o : Bool) : Exit → Env → AHeap → Nat → Prop := FinK f85_res (PureEnd (.bool o))

theorem f85_start {a0 : List UInt8} {a1 : List UInt8} {m : Option Nat} {o : Bool} (h : S_cmp_Less_string m a0 a1 = some o) : LWp Try.prog f85_lay 0 f85_c0 (f85_Q a0 a1 o) (initEnv 0 [.str a0, .str a1]) [] 0 := by
  unfold S_cmp_Less_string at h
  refine seqI ?_
  refine regI ?_
  refine seqI ?_
  refine regI ?_
  obtain ⟨v1, h1, h⟩ := bind_some h
  refine PFn.call (f98_ok h1) (AI (VS rfl) TT) ?_
  obtain ⟨v2, h2, h⟩ := bind_some h
  refine Or.inl (EX (.bool v2) (AI (fun hp => AI hp (PFn.call (f98_ok (ite_tt hp h2)) (AI (VS rfl) TT) (AI rfl (AI rfl rfl)))) ?_))
  refine AI (fun hp => hp) ?_
  refine AI (fun hc => (bqt hc)) ?_
  refine AI (fun hp => (AI hp hp)) ?_
  refine AI (fun hc => (bqf hc)) ?_
  refine LWp.sim (e := [(4, .bool ((v1 && (!v2)) || (Op.bytesLess a0 a1)))]) (L := []) (n := 0) ?_ ?_
  · exact simI (M := []) rfl (AI (VS rfl) TT) TT
  refine retI ?_
  cases h
  exact AI TT (AI rfl (VS rfl))

theorem f85_ok {a0 : List UInt8} {a1 : List UInt8} {m : Option Nat} {o : Bool} (h : S_cmp_Less_string m a0 a1 = some o) : PFn Try.prog 85 [.str a0, .str a1] (.bool o) := PFn.ofFnW (L := f85_L) f85_low f85_fok (NB rfl) rfl (f85_start h)

def S_slices_Sort_string_29 (m : Option Nat) (a0 : List (List UInt8)) : Option (List (List UInt8)) := if a0.length < 4611686018427387904 then some (sortL a0) else none
theorem f29b0_fok : FnOk Try.prog 29 := ⟨_, Try.func29, rfl, rfl⟩
theorem f29b0_ok {m : Option Nat} {a0 : List (List UInt8)} {o : List (List UInt8)} (h : S_slices_Sort_string_29 m a0 = some o) : ACalls Try.prog 29 [.msl (0, 0) 1 0 a0.length false] [((0, 0), .rows 1 (a0.map e_str))] 3 (Gives 3 (.tup []) [((0, 0), .rows 1 (o.map e_str))]) := by
  unfold S_slices_Sort_string_29 at h
  split at h
  · rename_i hc
    cases h
    exact sortS_acalls Try.l29 f29b0_fok rfl a0 hc _
  · cases h

def S_slices_Compact_string (m : Option Nat) (a0 : List (List UInt8)) : Option (List (List UInt8)) := if a0.length ≤ 9223372036854775807 then some (compR a0) else none
theorem f30b0_fok : FnOk Try.prog 30 := ⟨_, Try.func30, rfl, rfl⟩
theorem f30b0_ok {m : Option Nat} {a0 : List (List UInt8)} {o : List (List UInt8)} (h : S_slices_Compact_string m a0 = some o) : ACalls Try.prog 30 [.msl (0, 0) 1 0 a0.length false] [((0, 0), .rows 1 (a0.map e_str))] 3 (Gives 3 (.msl (0, 0) 1 0 (Go.Lib.compact a0).length false) [((0, 0), .rows 1 (o.map e_str))]) := by
  unfold S_slices_Compact_string at h
  split at h
  · rename_i hc
    cases h
    exact compact_acalls Try.l30 f30b0_fok rfl a0 hc _
  · cases h

def f10_c2 : LCode := (.seq (.seq (.region [⟨some 13, .mv (.t 4), none⟩,
   ⟨some 14, .mv (.t 0), none⟩,
   ⟨some 15, .len true (.t 14), none⟩,
   ⟨some 16, .bin .lss (.t 13) (.t 15), none⟩,
   ⟨some 17, .mv (.t 16), none⟩,
   ⟨some 18, .mv (.t 0), some (17, true)⟩,
   ⟨some 19, .mv (.t 4), some (17, true)⟩,
   ⟨some 20, .idxS (.t 18) (.t 19), some (17, true)⟩,
   ⟨some 21, .call 28 [(.t 20)], some (17, true)⟩,
   ⟨some 22, .pick (.t 17) (.t 21) (.c (.bool false)), none⟩])
 (.cond (.t 22)
  .skip
  (.exit 2)))
 (.block 3
  (.region [⟨some 23, .mv (.t 4), none⟩,
    ⟨some 24, .bin .add (.t 23) (.c (.int .i64 1)), none⟩,
    ⟨some 4, .mv (.t 24), none⟩])))
def f10_c0 : LCode := (.seq (.region [⟨some 25, .mv (.t 4), none⟩,
   ⟨some 26, .mv (.t 5), none⟩,
   ⟨some 27, .bin .gtr (.t 25) (.t 26), none⟩])
 (.cond (.t 27)
  (.region [⟨some 28, .mv (.t 3), none⟩,
    ⟨some 29, .mv (.t 0), none⟩,
    ⟨some 30, .mv (.t 5), none⟩,
    ⟨some 31, .mv (.t 4), none⟩,
    ⟨some 32, .slStr (.t 29) (some (.t 30)) (some (.t 31)), none⟩,
    ⟨some 33, .mkSl true 1 [(.str [])] 1 [(0, (.t 32))], none⟩,
    ⟨some 34, .app false 1 16 (.t 28) (.t 33), none⟩,
    ⟨some 3, .mv (.t 34), none⟩])
  .skip))
def f10_c1 : LCode := (.region [⟨some 10, .mv (.t 4), none⟩,
   ⟨some 11, .bin .add (.t 10) (.c (.int .i64 1)), none⟩,
   ⟨some 4, .mv (.t 11), none⟩])
def f10_c4 : LCode := (.seq (.seq (.region [⟨some 6, .mv (.t 4), none⟩,
   ⟨some 7, .mv (.t 0), none⟩,
   ⟨some 8, .len true (.t 7), none⟩,
   ⟨some 9, .bin .lss (.t 6) (.t 8), none⟩])
 (.cond (.t 9)
  .skip
  (.exit 0)))
 (.seq (.block 1
  (.seq (.region [⟨some 12, .mv (.t 4), none⟩,
    ⟨some 5, .mv (.t 12), none⟩])
  (.seq (.block 2
   (.loop
    f10_c2))
  f10_c0)))
 f10_c1))
def f10_c3 : LCode := (.seq (.region [⟨some 35, .mv (.t 3), none⟩,
   ⟨some 36, .call 29 [(.t 35)], none⟩])
 (.seq (.region [⟨some 37, .mv (.t 3), none⟩,
   ⟨some 38, .call 30 [(.t 37)], none⟩,
   ⟨some 3, .mv (.t 38), none⟩])
 (.seq (.region [⟨some 39, .mv (.t 3), none⟩,
   ⟨some 40, .mv (.t 3), none⟩,
   ⟨some 41, .len false (.t 40), none⟩,
   ⟨some 42, .mnx false [(.t 41), (.c (.int .i64 400))], none⟩,
   ⟨some 43, .slSl 1 (.t 39) none (some (.t 42)) none, none⟩,
   ⟨some 2, .mv (.t 43), none⟩])
 .ret)))
def f10_c5 : LCode := (.seq (.region [⟨some 2, .mv (.c (.val (.slice none 0 0))), none⟩])
 (.seq (.region [⟨some 3, .mv (.c (.val (.slice none 0 0))), none⟩])
 (.seq (.seq (.region [⟨some 4, .mv (.c (.int .i64 0)), none⟩])
 (.block 0
  (.loop
   f10_c4)))
 f10_c3)))
def f10_lay : Lay := ⟨44, [34], false⟩
def f10_res : List LRes := [.t 2]
def f10_L : LFn := ⟨1, f10_lay, f10_c5, f10_res⟩
theorem f10_low : lowFn Try.prog [34] 10 = some f10_L := by kernel_rfl
theorem f10_fok : FnOk Try.prog 10 := ⟨_, Try.func10, rfl, rfl⟩
def f10_Q (a0 : List UInt8) (o : (List (List UInt8))) : Exit → Env → AHeap → Nat → Prop := FinK f10_res (PureEnd (.isl 1 (o.map e_str) false))

def f10_L3_env (a0 : List UInt8) (s : (Int × (List (List UInt8)))) : Env := [(0, .str a0), (3, .msl (0, 0) 1 0 s.2.length false), (4, .int .i64 s.1)]
def f10_L3_hp (a0 : List UInt8) (s : (Int × (List (List UInt8)))) : AHeap := [((0, 0), .rows 1 (s.2.map e_str))]
def f10_L3_Q (a0 : List UInt8) (o : (List (List UInt8))) : Exit → Env → AHeap → Nat → Prop := (QBlock 0 (QSeq Try.prog f10_lay 0 f10_c3 (f10_Q a0 o)))

def f10_L4_env (a0 : List UInt8) (v6 : Int) (v7 : List (List UInt8)) (s : Int) : Env := [(0, .str a0), (3, .msl (0, 0) 1 0 v7.length false), (4, .int .i64 s), (5, .int .i64 v6)]
def f10_L4_hp (a0 : List UInt8) (v6 : Int) (v7 : List (List UInt8)) (s : Int) : AHeap := [((0, 0), .rows 1 (v7.map e_str))]
def f10_L4_Q (a0 : List UInt8) (o : ((Int × (List (List UInt8))) ⊕ (List (List UInt8)))) : Exit → Env → AHeap → Nat → Prop := (QBlock 2 (QSeq Try.prog f10_lay 0 f10_c0 (QBlock 1 (QSeq Try.prog f10_lay 0 f10_c1 (BodyQ 0 1 (f10_L3_env a0) (f10_L3_hp a0) (f10_L3_Q a0) o)))))

noncomputable def S_wordindex_Words_j6 (m : Option Nat) (a0 : List UInt8) (v14 : Int) (v17 : List (List UInt8)) : Option ((Int × (List (List UInt8))) ⊕ (List (List UInt8))) :=
  some (.inl ((W (v14 + 1)), v17))

noncomputable def S_wordindex_Words_j5 (m : Option Nat) (a0 : List UInt8) (v6 : Int) (v7 : List (List UInt8)) (v14 : Int) : Option ((Int × (List (List UInt8))) ⊕ (List (List UInt8))) :=
  if (decide (v14 > v6)) = true then
    if (0 : Int) ≤ v6 ∧ v6 ≤ v14 ∧ v14 ≤ (a0.length : Int) then
    if ((v7 ++ ([((a0.take v14.toNat).drop v6.toNat)] : List (List UInt8))).map e_str).length * 16 ≤ 140737488355328 then
    S_wordindex_Words_j6 m a0 v14 (v7 ++ ([((a0.take v14.toNat).drop v6.toNat)] : List (List UInt8)))
    else none
    else none
  else
    S_wordindex_Words_j6 m a0 v14 v7

noncomputable def S_wordindex_Words_b4 (m : Option Nat) (a0 : List UInt8) (v6 : Int) (v7 : List (List UInt8)) (v14 : Int) : Option (Int ⊕ ((Int × (List (List UInt8))) ⊕ (List (List UInt8)))) :=
  if (((decide (v14 < (a0.length : Int))) == true) = true → (0 : Int) ≤ v14 ∧ v14 < (a0.length : Int)) then
  (if ((decide (v14 < (a0.length : Int))) == true) = true then S_wordindex_isWordByte m (((a0.getD v14.toNat 0).toNat : Nat) : Int) else some default).bind fun v16 =>
  if ((decide (v14 < (a0.length : Int))) && v16) = true then
    some (.inl (W (v14 + 1)))
  else
    Option.map Sum.inr (
      S_wordindex_Words_j5 m a0 v6 v7 v14)
  else none

noncomputable def S_wordindex_Words_l4 (m : Option Nat) (a0 : List UInt8) (v6 : Int) (v7 : List (List UInt8)) (v14 : Int) : Option ((Int × (List (List UInt8))) ⊕ (List (List UInt8))) := loopM m (fun (s : Int) => S_wordindex_Words_b4 m a0 v6 v7 s) v14

theorem f10_j6_ok {a0 : List UInt8} {v14 : Int} {v17 : List (List UInt8)} {m : Option Nat} {o : ((Int × (List (List UInt8))) ⊕ (List (List UInt8)))} (h : S_wordindex_Words_j6 m a0 v14 v17 = some o) :
    LWp Try.prog f10_lay 0 f10_c1 (BodyQ 0 1 (f10_L3_env a0) (f10_L3_hp a0) (f10_L3_Q a0) o) [(0, .str a0), (3, .msl (0, 0) 1 0 v17.length false), (4, .int .i64 v14)] [((0, 0), .rows 1 (v17.map e_str))] 1 := by
  unfold S_wordindex_Words_j6 at h
  refine regI ?_
  cases h
  exact AI rfl (simI (M := [((0, 0), (0, 0))]) rfl (AI (VS rfl) (AI (Vw.mslE rfl (by first | rfl | omega | (simp; done) | (simp at *; omega)) rfl) (AI (VS rfl) TT))) (AI (AI rfl (BVw.enc e_str (fun _ => rfl) _ v17)) TT))

theorem f10_j5_ok {a0 : List UInt8} {v6 : Int} {v7 : List (List UInt8)} {v14 : Int} {m : Option Nat} {o : ((Int × (List (List UInt8))) ⊕ (List (List UInt8)))} (h : S_wordindex_Words_j5 m a0 v6 v7 v14 = some o) :
    LWp Try.prog f10_lay 0 f10_c0 (QBlock 1 (QSeq Try.prog f10_lay 0 f10_c1 (BodyQ 0 1 (f10_L3_env a0) (f10_L3_hp a0) (f10_L3_Q a0) o))) [(0, .str a0), (3, .msl (0, 0) 1 0 v7.length false), (4, .int .i64 v14), (5, .int .i64 v6)] [((0, 0), .rows 1 (v7.map e_str))] 1 := by
  unfold S_wordindex_Words_j5 at h
  refine seqI ?_
  refine regI ?_
  refine condI (v := (decide (v14 > v6))) rfl TT (fun h37 => ?_) (fun h37 => ?_)
  · have h := ite_tt h37 h
    refine regI ?_
    obtain ⟨h38, h⟩ := ite_some h
    refine AI h38 ?_
    obtain ⟨h39, h⟩ := ite_some h
    refine AI (fun h => Bool.noConfusion h) (AI (lenW e_str (by first | rfl | omega | (simp; done) | (simp at *; omega))) (EX ((v7 ++ ([((a0.take v14.toNat).drop v6.toNat)] : List (List UInt8))).map e_str) (AI (appW e_str v7 ([((a0.take v14.toNat).drop v6.toNat)] : List (List UInt8)) (by first | rfl | omega | (simp; done) | (simp at *; omega))) (AI h39 ?_))))
    refine LWp.sim ?_ (f10_j6_ok h)
    exact simI (M := [((0, 0), (1, 0))]) rfl (AI (VS rfl) (AI (Vw.mslE rfl (by first | rfl | omega | (simp; done) | (simp at *; omega)) rfl) (AI (VS rfl) TT))) (AI (AI rfl (BVw.enc e_str (fun _ => rfl) _ (v7 ++ ([((a0.take v14.toNat).drop v6.toNat)] : List (List UInt8))))) TT)
  · have h := ite_ff h37 h
    refine skipI ?_
    refine LWp.sim ?_ (f10_j6_ok h)
    exact simI (M := [((0, 0), (0, 0))]) rfl (AI (VS rfl) (AI (Vw.mslE rfl (by first | rfl | omega | (simp; done) | (simp at *; omega)) rfl) (AI (VS rfl) TT))) (AI (AI rfl (BVw.enc e_str (fun _ => rfl) _ v7)) TT)

theorem f10_L4_bok {a0 : List UInt8} {v6 : Int} {v7 : List (List UInt8)} {v14 : Int} {m : Option Nat} {o : Int ⊕ ((Int × (List (List UInt8))) ⊕ (List (List UInt8)))} (h : S_wordindex_Words_b4 m a0 v6 v7 v14 = some o) :
    LWp Try.prog f10_lay 0 f10_c2 (BodyQ 0 1 (f10_L4_env a0 v6 v7) (f10_L4_hp a0 v6 v7) (f10_L4_Q a0) o) [(0, .str a0), (3, .msl (0, 0) 1 0 v7.length false), (4, .int .i64 v14), (5, .int .i64 v6)] [((0, 0), .rows 1 (v7.map e_str))] 1 := by
  unfold S_wordindex_Words_b4 at h
  refine seqI ?_
  refine seqI ?_
  refine regI ?_
  obtain ⟨h34, h⟩ := ite_some h
  refine AI (fun hp => (AI (AI hp hp) (h34 hp))) ?_
  obtain ⟨v16, h35, h⟩ := bind_some h
  refine Or.inl (EX (.bool v16) (AI (fun hp => AI hp (PFn.call (f28_ok (ite_tt hp h35)) (AI (VS rfl) TT) (AI rfl (AI rfl rfl)))) ?_))
  refine AI (fun hc => (bqt hc)) ?_
  refine LWp.sim (e := [(0, .str a0), (3, .msl (0, 0) 1 0 v7.length false), (4, .int .i64 v14), (5, .int .i64 v6), (22, .bool ((decide (v14 < (a0.length : Int))) && v16))]) (L := [((0, 0), .rows 1 (v7.map e_str))]) (n := 1) ?_ ?_
  · exact simI (M := [((0, 0), (0, 0))]) rfl (AI (VS rfl) (AI (Vw.mslE rfl (by first | rfl | omega | (simp; done) | (simp at *; omega)) rfl) (AI (VS rfl) (AI (VS rfl) (AI (VS rfl) TT))))) (AI (AI rfl (BVw.enc e_str (fun _ => rfl) _ v7)) TT)
  refine condI (v := ((decide (v14 < (a0.length : Int))) && v16)) rfl TT (fun h36 => ?_) (fun h36 => ?_)
  · have h := ite_tt h36 h
    refine skipI ?_
    refine blockI ?_
    refine regI ?_
    cases h
    exact AI rfl (simI (M := [((0, 0), (0, 0))]) rfl (AI (VS rfl) (AI (Vw.mslE rfl (by first | rfl | omega | (simp; done) | (simp at *; omega)) rfl) (AI (VS rfl) (AI (VS rfl) TT)))) (AI (AI rfl (BVw.enc e_str (fun _ => rfl) _ v7)) TT))
  · have h := ite_ff h36 h
    refine exitI ?_
    obtain ⟨o, hq, rfl⟩ := Option.map_eq_some_iff.1 h
    replace h := hq; clear hq
    refine AI nofun ?_
    refine LWp.sim ?_ (f10_j5_ok h)
    exact simI (M := [((0, 0), (0, 0))]) rfl (AI (VS rfl) (AI (Vw.mslE rfl (by first | rfl | omega | (simp; done) | (simp at *; omega)) rfl) (AI (VS rfl) (AI (VS rfl) TT)))) (AI (AI rfl (BVw.enc e_str (fun _ => rfl) _ v7)) TT)

theorem f10_L4_ok {a0 : List UInt8} {v6 : Int} {v7 : List (List UInt8)} {v14 : Int} {m : Option Nat} {o : ((Int × (List (List UInt8))) ⊕ (List (List UInt8)))} (h : S_wordindex_Words_l4 m a0 v6 v7 v14 = some o) :
    LWp Try.prog f10_lay 0 (.loop f10_c2) (QBlock 2 (QSeq Try.prog f10_lay 0 f10_c0 (QBlock 1 (QSeq Try.prog f10_lay 0 f10_c1 (BodyQ 0 1 (f10_L3_env a0) (f10_L3_hp a0) (f10_L3_Q a0) o))))) [(0, .str a0), (3, .msl (0, 0) 1 0 v7.length false), (4, .int .i64 v14), (5, .int .i64 v6)] [((0, 0), .rows 1 (v7.map e_str))] 1 :=
  LWp_loopM (m := m) (s := (v14 : Int)) (r := o) (fun (s : Int) => S_wordindex_Words_b4 m a0 v6 v7 s) (f10_L4_env a0 v6 v7) (f10_L4_hp a0 v6 v7) (f10_L4_Q a0) (fun s o h => f10_L4_bok h) h

noncomputable def S_wordindex_Words_j7 (m : Option Nat) (v7 : List (List UInt8)) : Option (List (List UInt8)) :=
  (S_slices_Sort_string_29 m v7).bind fun v18 =>
  if v18.length = v7.length then
  (S_slices_Compact_string m v18).bind fun v19 =>
  if v19.length = v18.length then
  if (0 : Int) ≤ (if 400 < (((Go.Lib.compact v18).length : Nat) : Int) then 400 else (((Go.Lib.compact v18).length : Nat) : Int)) ∧ (if 400 < (((Go.Lib.compact v18).length : Nat) : Int) then 400 else (((Go.Lib.compact v18).length : Nat) : Int)) ≤ (((Go.Lib.compact v18).length : Nat) : Int) then
  if 0 + ((if 400 < (((Go.Lib.compact v18).length : Nat) : Int) then 400 else (((Go.Lib.compact v18).length : Nat) : Int)).toNat) ≤ v19.length then
  some ((v19.drop 0).take ((if 400 < (((Go.Lib.compact v18).length : Nat) : Int) then 400 else (((Go.Lib.compact v18).length : Nat) : Int)).toNat))
  else none
  else none
  else none
  else none

noncomputable def S_wordindex_Words_b3 (m : Option Nat) (a0 : List UInt8) (v6 : Int) (v7 : List (List UInt8)) : Option ((Int × (List (List UInt8))) ⊕ (List (List UInt8))) :=
  if (decide (v6 < (a0.length : Int))) = true then
    S_wordindex_Words_l4 m a0 v6 v7 v6
  else
    Option.map Sum.inr (
      S_wordindex_Words_j7 m v7)

noncomputable def S_wordindex_Words_l3 (m : Option Nat) (a0 : List UInt8) (v6 : Int) (v7 : List (List UInt8)) : Option (List (List UInt8)) := loopM m (fun (s : (Int × (List (List UInt8)))) => S_wordindex_Words_b3 m a0 s.1 s.2) (v6, v7)

theorem f10_j7_ok {a0 : List UInt8} {v7 : List (List UInt8)} {m : Option Nat} {o : (List (List UInt8))} (h : S_wordindex_Words_j7 m v7 = some o) :
    LWp Try.prog f10_lay 0 f10_c3 (f10_Q a0 o) [(3, .msl (0, 0) 1 0 v7.length false)] [((0, 0), .rows 1 (v7.map e_str))] 1 := by
  unfold S_wordindex_Words_j7 at h
  refine seqI ?_
  refine regI ?_
  obtain ⟨v18, h40, h⟩ := bind_some h
  refine bcall (k := 3) (m := 0) (L' := [((0, 0), .rows 1 (v18.map e_str))]) (rest := []) (R' := .tup []) [((0, 0), (0, 0))] (f29b0_ok h40) rfl rfl rfl (AI (Vw.mslE rfl (by first | rfl | omega | (simp; done) | (simp at *; omega)) rfl) TT) (AI (h0I (0, 0) rfl rfl (BVw.enc e_str (fun _ => rfl) _ v7)) TT) (nid_ren _ rfl) (AI rfl (AI (rows_ren e_str (fun _ => rfl) _ _) TT)) rfl ?_
  obtain ⟨h41, h⟩ := ite_some h
  refine seqI ?_
  refine regI ?_
  obtain ⟨v19, h42, h⟩ := bind_some h
  refine bcall (k := 3) (m := 0) (L' := [((0, 0), .rows 1 (v19.map e_str))]) (rest := []) (R' := .msl (0, 0) 1 0 ((Go.Lib.compact v18).length) false) [((0, 0), (0, 0))] (f30b0_ok h42) rfl rfl rfl (AI (Vw.mslE rfl (by first | rfl | omega | (simp; done) | (simp at *; omega)) rfl) TT) (AI (h0I (0, 0) rfl rfl (BVw.enc e_str (fun _ => rfl) _ v18)) TT) rfl (AI rfl (AI (rows_ren e_str (fun _ => rfl) _ _) TT)) rfl ?_
  obtain ⟨h43, h⟩ := ite_some h
  refine seqI ?_
  refine regI ?_
  obtain ⟨h44, h⟩ := ite_some h
  refine EX (.msl (0, 0) 1 0 ((if 400 < (((Go.Lib.compact v18).length : Nat) : Int) then 400 else (((Go.Lib.compact v18).length : Nat) : Int)).toNat) false) (AI (by simp) (AI (AI rfl (AI (Int.le_refl _) h44)) ?_))
  refine LWp.sim (e := [(2, .msl (0, 0) 1 0 ((if 400 < (((Go.Lib.compact v18).length : Nat) : Int) then 400 else (((Go.Lib.compact v18).length : Nat) : Int)).toNat) false)]) (L := [((0, 0), .rows 1 (v19.map e_str))]) (n := 1) ?_ ?_
  · exact simI (M := [((0, 0), (0, 0))]) rfl (AI (Vw.msl _ _ _ _ _ _ rfl) TT) (AI (AI rfl (BVw.enc e_str (fun _ => rfl) _ v19)) TT)
  refine retI ?_
  obtain ⟨h45, h⟩ := ite_some h
  cases h
  exact AI TT (AI rfl (Vw.frzPart e_str e_str_ok (fun h => h) rfl rfl h45))

theorem f10_L3_bok {a0 : List UInt8} {v6 : Int} {v7 : List (List UInt8)} {m : Option Nat} {o : (Int × (List (List UInt8))) ⊕ (List (List UInt8))} (h : S_wordindex_Words_b3 m a0 v6 v7 = some o) :
    LWp Try.prog f10_lay 0 f10_c4 (BodyQ 0 1 (f10_L3_env a0) (f10_L3_hp a0) (f10_L3_Q a0) o) [(0, .str a0), (3, .msl (0, 0) 1 0 v7.length false), (4, .int .i64 v6)] [((0, 0), .rows 1 (v7.map e_str))] 1 := by
  unfold S_wordindex_Words_b3 at h
  refine seqI ?_
  refine seqI ?_
  refine regI ?_
  refine condI (v := (decide (v6 < (a0.length : Int)))) rfl TT (fun h27 => ?_) (fun h27 => ?_)
  · have h := ite_tt h27 h
    refine skipI ?_
    refine seqI ?_
    refine blockI ?_
    refine seqI ?_
    refine regI ?_
    refine seqI ?_
    refine blockI ?_
    refine LWp.sim ?_ (f10_L4_ok h)
    exact simI (M := [((0, 0), (0, 0))]) rfl (AI (VS rfl) (AI (Vw.mslE rfl (by first | rfl | omega | (simp; done) | (simp at *; omega)) rfl) (AI (VS rfl) (AI (VS rfl) TT)))) (AI (AI rfl (BVw.enc e_str (fun _ => rfl) _ v7)) TT)
  · have h := ite_ff h27 h
    refine exitI ?_
    obtain ⟨o, hq, rfl⟩ := Option.map_eq_some_iff.1 h
    replace h := hq; clear hq
    refine AI nofun ?_
    refine LWp.sim ?_ (f10_j7_ok h)
    exact simI (M := [((0, 0), (0, 0))]) rfl (AI (Vw.mslE rfl (by first | rfl | omega | (simp; done) | (simp at *; omega)) rfl) TT) (AI (AI rfl (BVw.enc e_str (fun _ => rfl) _ v7)) TT)

theorem f10_L3_ok {a0 : List UInt8} {v6 : Int} {v7 : List (List UInt8)} {m : Option Nat} {o : (List (List UInt8))} (h : S_wordindex_Words_l3 m a0 v6 v7 = some o) :
    LWp Try.prog f10_lay 0 (.loop f10_c4) (QBlock 0 (QSeq Try.prog f10_lay 0 f10_c3 (f10_Q a0 o))) [(0, .str a0), (3, .msl (0, 0) 1 0 v7.length false), (4, .int .i64 v6)] [((0, 0), .rows 1 (v7.map e_str))] 1 :=
  LWp_loopM (m := m) (s := ((v6, v7) : (Int × (List (List UInt8))))) (r := o) (fun (s : (Int × (List (List UInt8)))) => S_wordindex_Words_b3 m a0 s.1 s.2) (f10_L3_env a0) (f10_L3_hp a0) (f10_L3_Q a0) (fun s o h => f10_L3_bok h) h

noncomputable def S_wordindex_Words (m : Option Nat) (a0 : List UInt8) : Option (List (List UInt8)) :=
  S_wordindex_Words_l3 m a0 0 ([] : List (List UInt8))

theorem f10_start {a0 : List UInt8} {m : Option Nat} {o : (List (List UInt8))} (h : S_wordindex_Words m a0 = some o) : LWp Try.prog f10_lay 0 f10_c5 (f10_Q a0 o) (initEnv 0 [.str a0]) [] 0 := by
  unfold S_wordindex_Words at h
  refine seqI ?_
  refine regI ?_
  refine seqI ?_
  refine LWp.ghost 1 ?_
  refine regI ?_
  refine LWp.sim (e := [(0, .str a0), (3, .msl (0, 0) 1 0 (([] : List (List UInt8)).length) false)]) (L := [((0, 0), .rows 1 (([] : List (List UInt8)).map e_str))]) (n := 1) ?_ ?_
  · exact simI (M := [((0, 0), (0, 0))]) rfl (AI (VS rfl) (AI (Vw.nilM _ _ _ _ _ _ rfl rfl) TT)) (AI (AI rfl (BVw.enc e_str (fun _ => rfl) _ ([] : List (List UInt8)))) TT)
  refine seqI ?_
  refine seqI ?_
  refine regI ?_
  refine blockI ?_
  refine LWp.sim ?_ (f10_L3_ok h)
  exact simI (M := [((0, 0), (0, 0))]) rfl (AI (VS rfl) (AI (Vw.mslE rfl (by first | rfl | omega | (simp; done) | (simp at *; omega)) rfl) (AI (VS rfl) TT))) (AI (AI rfl (BVw.enc e_str (fun _ => rfl) _ ([] : List (List UInt8)))) TT)

theorem f10_ok {a0 : List UInt8} {m : Option Nat} {o : (List (List UInt8))} (h : S_wordindex_Words m a0 = some o) : PFn Try.prog 10 [.str a0] (.isl 1 (o.map e_str) false) := PFn.ofFnW (L := f10_L) f10_low f10_fok (NB rfl) rfl (f10_start h)

def f25_c0 : LCode := (.seq (.region [⟨some 1, .box (.t 0), none⟩,
   ⟨some 2, .alloc [(.str []), (.int .u32 0), (.isl 1 [] true)], none⟩])
 (.seq (.draw [⟨⟨some 3, .faddr 0 (.t 1), none⟩, []⟩,
   ⟨⟨some 4, .load false 1 (.t 3), none⟩, []⟩,
   ⟨⟨some 5, .faddr 2 (.t 1), none⟩, []⟩,
   ⟨⟨some 6, .load false 1 (.t 5), none⟩, []⟩,
   ⟨⟨some 8, .faddr 2 (.t 1), none⟩, []⟩,
   ⟨⟨some 9, .load false 1 (.t 8), none⟩, []⟩,
   ⟨⟨some 7, .call 52 [(.t 6)], none⟩, [1, 5]⟩,
   ⟨⟨some 10, .call 10 [(.t 9)], none⟩, [1]⟩,
   ⟨⟨some 11, .build [(.str []), (.int .u32 0), (.isl 1 [] true)] [(0, 1, (.t 4)), (1, 1, (.t 7)), (2, 1, (.t 10))], none⟩, []⟩,
   ⟨⟨none, .store 3 (.t 2) (.t 11), none⟩, []⟩])
 .ret))
def f25_lay : Lay := ⟨12, [], false⟩
def f25_res : List LRes := [.cell 2 true 3]
def f25_L : LFn := ⟨1, f25_lay, f25_c0, f25_res⟩
theorem f25_low : lowFn Try.prog [] 25 = some f25_L := by kernel_rfl
theorem f25_fok : FnOk Try.prog 25 := ⟨_, Try.func25, rfl, rfl⟩
noncomputable def S_wordindex_newEntry (m : Option Nat) (a0 : G_QDocument) : Option G_QIndexEntry :=
  (S_journal_Checksum m a0.f_Text).bind fun v1 =>
  (S_wordindex_Words m a0.f_Text).bind fun v2 =>
  some (G_QIndexEntry.mk a0.f_Name v1 v2)

def f25_Q (a0 : G_QDocument) (o : G_QIndexEntry) : Exit → Env → AHeap → Nat → Prop := FinK f25_res (PureEnd (.agg [.str o.f_Name, .int .u32 o.f_Sum, .isl 1 (o.f_Words.map e_str) false]))

theorem f25_start {a0 : G_QDocument} {m : Option Nat} {o : G_QIndexEntry} (h : S_wordindex_newEntry m a0 = some o) : LWp Try.prog f25_lay 0 f25_c0 (f25_Q a0 o) (initEnv 0 [.agg [.str a0.f_Name, .int .i64 a0.f_Version, .str a0.f_Text]]) [] 0 := by
  unfold S_wordindex_newEntry at h
  refine seqI ?_
  refine regI ?_
  refine seqI ?_
  refine drawI ?_
  obtain ⟨v1, h1, h⟩ := bind_some h
  refine PFn.call (f52_ok h1) (AI (VS rfl) TT) ?_
  refine AI rfl ?_
  refine AI rfl ?_
  obtain ⟨v2, h2, h⟩ := bind_some h
  refine PFn.call (f10_ok h2) (AI (VS rfl) TT) ?_
  refine AI rfl ?_
  refine LWp.sim (e := [(2, .ptr (0, 0) 0 0)]) (L := [((0, 0), .one [.str a0.f_Name, .int .u32 v1, .isl 1 (v2.map e_str) false])]) (n := 1) ?_ ?_
  · exact simI (M := [((0, 0), (1, 0))]) rfl (AI (Vw.ptr _ _ _ _ rfl) TT) (AI (AI rfl (BVw.oneL (AI (VS rfl) (AI (VS rfl) (AI (VS rfl) TT))))) TT)
  refine retI ?_
  cases h
  exact AI (AI TT (AI rfl (NB rfl))) (AI rfl (VS rfl))

theorem f25_ok {a0 : G_QDocument} {m : Option Nat} {o : G_QIndexEntry} (h : S_wordindex_newEntry m a0 = some o) : PFn Try.prog 25 [.agg [.str a0.f_Name, .int .i64 a0.f_Version, .str a0.f_Text]] (.agg [.str o.f_Name, .int .u32 o.f_Sum, .isl 1 (o.f_Words.map e_str) false]) := PFn.ofFnW (L := f25_L) f25_low f25_fok (NB rfl) rfl (f25_start h)

def S_strings_Compare (m : Option Nat) (a0 : List UInt8) (a1 : List UInt8) : Option (Int) := some (Go.Lib.compareBytes a0 a1)
theorem f55_fok : FnOk Try.prog 55 := ⟨_, Try.func55, rfl, rfl⟩
theorem f55_ok {m : Option Nat} {a0 : List UInt8} {a1 : List UInt8} {o : Int} (h : S_strings_Compare m a0 a1 = some o) : PFn Try.prog 55 [.str a0, .str a1] (.int .i64 o) := by
  cases h
  exact PFn.lib f55_fok rfl rfl (fun w => Calls.mono (Any.strings_Compare Try.l55 ⟨⟨a0⟩⟩ ⟨⟨a1⟩⟩ w) (fun _ _ h => ⟨h.1, same_grow h.2⟩))

def f27_c0 : LCode := (.seq (.region [⟨some 2, .box (.t 0), none⟩,
   ⟨some 3, .box (.t 1), none⟩,
   ⟨some 4, .mv (.c (.int .i64 0)), none⟩])
 (.seq (.region [⟨some 5, .faddr 0 (.t 2), none⟩,
   ⟨some 6, .load false 1 (.t 5), none⟩,
   ⟨some 7, .faddr 0 (.t 3), none⟩,
   ⟨some 8, .load false 1 (.t 7), none⟩,
   ⟨some 9, .call 55 [(.t 6), (.t 8)], none⟩,
   ⟨some 4, .mv (.t 9), none⟩])
 .ret))
def f27_lay : Lay := ⟨10, [], false⟩
def f27_res : List LRes := [.t 4]
def f27_L : LFn := ⟨2, f27_lay, f27_c0, f27_res⟩
theorem f27_low : lowFn Try.prog [] 27 = some f27_L := by kernel_rfl
theorem f27_fok : FnOk Try.prog 27 := ⟨_, Try.func27, rfl, rfl⟩
noncomputable def S_wordindex_compareNames (m : Option Nat) (a0 : G_QIndexEntry) (a1 : G_QIndexEntry) : Option Int :=
  (S_strings_Compare m a0.f_Name a1.f_Name).bind fun v1 =>
  some v1

def f27_Q (a0 : G_QIndexEntry) (a1 : G_QIndexEntry) (o : Int) : Exit → Env → AHeap → Nat → Prop := FinK f27_res (PureEnd (.int .i64 o))

theorem f27_start {a0 : G_QIndexEntry} {a1 : G_QIndexEntry} {m : Option Nat} {o : Int} (h : S_wordindex_compareNames m a0 a1 = some o) : LWp Try.prog f27_lay 0 f27_c0 (f27_Q a0 a1 o) (initEnv 0 [.agg [.str a0.f_Name, .int .u32 a0.f_Sum, .isl 1 (a0.f_Words.map e_str) false], .agg [.str a1.f_Name, .int .u32 a1.f_Sum, .isl 1 (a1.f_Words.map e_str) false]]) [] 0 := by
  unfold S_wordindex_compareNames at h
  refine seqI ?_
  refine regI ?_
  refine seqI ?_
  refine regI ?_
  obtain ⟨v1, h1, h⟩ := bind_some h
  refine PFn.call (f55_ok h1) (AI (VS rfl) (AI (VS rfl) TT)) ?_
  refine LWp.sim (e := [(4, .int .i64 v1)]) (L := []) (n := 0) ?_ ?_
  · exact simI (M := []) rfl (AI (VS rfl) TT) TT
  refine retI ?_
  cases h
  exact AI TT (AI rfl (VS rfl))

theorem f27_ok {a0 : G_QIndexEntry} {a1 : G_QIndexEntry} {m : Option Nat} {o : Int} (h : S_wordindex_compareNames m a0 a1 = some o) : PFn Try.prog 27 [.agg [.str a0.f_Name, .int .u32 a0.f_Sum, .isl 1 (a0.f_Words.map e_str) false], .agg [.str a1.f_Name, .int .u32 a1.f_Sum, .isl 1 (a1.f_Words.map e_str) false]] (.int .i64 o) := PFn.ofFnW (L := f27_L) f27_low f27_fok (NB rfl) rfl (f27_start h)

noncomputable def cf27 (x y : G_QIndexEntry) : Int := (S_wordindex_compareNames (some 4096) x y).getD 0
theorem cf27_ok (x y : G_QIndexEntry) : S_wordindex_compareNames (some 4096) x y = some (cf27 x y) := rfl
noncomputable def S_slices_SortFunc_api_QIndexEntry (m : Option Nat) (a0 : List G_QIndexEntry) : Option (List G_QIndexEntry) := sortU cf27 a0
theorem f26b0_fok : FnOk Try.prog 26 := ⟨_, Try.func26, rfl, rfl⟩
theorem f26b0_ok {m : Option Nat} {a0 : List G_QIndexEntry} {o : List G_QIndexEntry} (h : S_slices_SortFunc_api_QIndexEntry m a0 = some o) : ACalls Try.prog 26 [.msl (0, 0) 3 0 a0.length false, .fn (.func 27) [] []] [((0, 0), .rows 3 (a0.map e_QIndexEntry))] 3 (Gives 3 (.tup []) [((0, 0), .rows 3 (o.map e_QIndexEntry))]) := by
  unfold S_slices_SortFunc_api_QIndexEntry at h
  exact sortFuncI_acalls Try.l26 (by decide) Try.isAgg40 Try.sizeOf40 e_QIndexEntry (fun _ => ⟨rfl, rfl⟩) cf27 27 (Go.Proofs.enters_of Try.func27 (by kernel_rfl) rfl) (fun x y => f27_ok (cf27_ok x y)) f26b0_fok rfl h _

def f7_c1 : LCode := (.seq (.region [⟨some 16, .bin .lss (.t 15) (.t 14), none⟩])
 (.seq (.cond (.t 16)
  .skip
  (.exit 0))
 (.seq (.block 1
  (.seq (.region [⟨some 17, .iaddr 3 (.t 13) (.t 15), none⟩,
    ⟨some 18, .load true 3 (.t 17), none⟩,
    ⟨some 7, .alloc [(.str []), (.int .i64 0), (.str [])], none⟩,
    ⟨none, .store 3 (.t 7) (.t 18), none⟩])
  (.region [⟨some 19, .mv (.t 5), none⟩,
    ⟨some 20, .load true 3 (.t 7), none⟩,
    ⟨some 21, .call 25 [(.t 20)], none⟩,
    ⟨some 22, .mkSl true 3 [(.str []), (.int .u32 0), (.isl 1 [] true)] 1 [(0, (.t 21))], none⟩,
    ⟨some 23, .app false 3 48 (.t 19) (.t 22), none⟩,
    ⟨some 5, .mv (.t 23), none⟩])))
 (.region [⟨some 24, .bin .add (.t 15) (.c (.int .i64 1)), none⟩,
   ⟨some 15, .mv (.t 24), none⟩]))))
def f7_c0 : LCode := (.seq (.region [⟨some 25, .mv (.t 5), none⟩,
   ⟨some 26, .call 26 [(.t 25), (.c (.fn (.func 27) [] []))], none⟩])
 (.seq (.region [⟨some 27, .mv (.t 5), none⟩,
   ⟨some 2, .mv (.t 27), none⟩,
   ⟨some 3, .mv (.c (.int .i64 0)), none⟩])
 .ret))
def f7_c2 : LCode := (.seq (.region [⟨some 2, .mv (.c (.val (.slice none 0 0))), none⟩,
   ⟨some 3, .mv (.c (.int .i64 0)), none⟩])
 (.seq (.seq (.region [⟨some 8, .mv (.t 0), none⟩,
   ⟨some 9, .call 24 [(.t 8)], none⟩,
   ⟨some 4, .mv (.t 9), none⟩])
 (.seq (.region [⟨some 10, .mv (.t 4), none⟩,
   ⟨some 11, .bin .neq (.t 10) (.c (.int .i64 0)), none⟩])
 (.cond (.t 11)
  (.seq (.region [⟨some 12, .mv (.t 4), none⟩,
    ⟨some 2, .mv (.c (.val (.slice none 0 0))), none⟩,
    ⟨some 3, .mv (.t 12), none⟩])
  .ret)
  .skip)))
 (.seq (.region [⟨some 5, .mv (.c (.val (.slice none 0 0))), none⟩])
 (.seq (.seq (.region [⟨some 13, .mv (.t 0), none⟩,
   ⟨some 14, .len false (.t 13), none⟩,
   ⟨some 15, .mv (.c (.int .i64 0)), none⟩])
 (.block 0
  (.loop
   f7_c1)))
 f7_c0))))
def f7_lay : Lay := ⟨28, [23], false⟩
def f7_res : List LRes := [.t 2, .t 3]
def f7_L : LFn := ⟨1, f7_lay, f7_c2, f7_res⟩
theorem f7_low : lowFn Try.prog [23] 7 = some f7_L := by kernel_rfl
theorem f7_fok : FnOk Try.prog 7 := ⟨_, Try.func7, rfl, rfl⟩
def f7_Q (a0 : List G_QDocument) (o : (List G_QIndexEntry) × Int) : Exit → Env → AHeap → Nat → Prop := FinK f7_res (PureEnd (.tup [.isl 3 (o.1.map e_QIndexEntry) false, .int .i64 o.2]))

def f7_L1_env (a0 : List G_QDocument) (s : (Int × (List G_QIndexEntry))) : Env := [(5, .msl (0, 0) 3 0 s.2.length false), (13, .isl 3 (a0.map e_QDocument) false), (14, .int .i64 ((a0.map e_QDocument).length : Int)), (15, .int .i64 s.1)]
def f7_L1_hp (a0 : List G_QDocument) (s : (Int × (List G_QIndexEntry))) : AHeap := [((0, 0), .rows 3 (s.2.map e_QIndexEntry))]
def f7_L1_Q (a0 : List G_QDocument) (o : ((List G_QIndexEntry) × Int)) : Exit → Env → AHeap → Nat → Prop := (QBlock 0 (QSeq Try.prog f7_lay 0 f7_c0 (f7_Q a0 o)))

noncomputable def S_wordindex_Build_j1 (m : Option Nat) (v4 : List G_QIndexEntry) : Option ((List G_QIndexEntry) × Int) :=
  (S_slices_SortFunc_api_QIndexEntry m v4).bind fun v7 =>
  if v7.length = v4.length then
  some (v7, 0)
  else none

noncomputable def S_wordindex_Build_b1 (m : Option Nat) (a0 : List G_QDocument) (v3 : Int) (v4 : List G_QIndexEntry) : Option ((Int × (List G_QIndexEntry)) ⊕ ((List G_QIndexEntry) × Int)) :=
  if (decide (v3 < ((a0.map e_QDocument).length : Int))) = true then
    if (0 : Int) ≤ v3 ∧ v3 < ((a0.map e_QDocument).length : Int) then
    (S_wordindex_newEntry m (G_QDocument.mk ((a0.getD v3.toNat default).f_Name) ((a0.getD v3.toNat default).f_Version) ((a0.getD v3.toNat default).f_Text))).bind fun v6 =>
    if ((v4 ++ ([v6] : List G_QIndexEntry)).map e_QIndexEntry).length * 48 ≤ 140737488355328 then
    some (.inl ((W (v3 + 1)), (v4 ++ ([v6] : List G_QIndexEntry))))
    else none
    else none
  else
    Option.map Sum.inr (
      S_wordindex_Build_j1 m v4)

noncomputable def S_wordindex_Build_l1 (m : Option Nat) (a0 : List G_QDocument) (v3 : Int) (v4 : List G_QIndexEntry) : Option ((List G_QIndexEntry) × Int) := loopM m (fun (s : (Int × (List G_QIndexEntry))) => S_wordindex_Build_b1 m a0 s.1 s.2) (v3, v4)

theorem f7_j1_ok {a0 : List G_QDocument} {v4 : List G_QIndexEntry} {m : Option Nat} {o : ((List G_QIndexEntry) × Int)} (h : S_wordindex_Build_j1 m v4 = some o) :
    LWp Try.prog f7_lay 0 f7_c0 (f7_Q a0 o) [(5, .msl (0, 0) 3 0 v4.length false)] [((0, 0), .rows 3 (v4.map e_QIndexEntry))] 1 := by
  unfold S_wordindex_Build_j1 at h
  refine seqI ?_
  refine regI ?_
  obtain ⟨v7, h15, h⟩ := bind_some h
  refine bcall (k := 3) (m := 0) (L' := [((0, 0), .rows 3 (v7.map e_QIndexEntry))]) (rest := []) (R' := .tup []) [((0, 0), (0, 0))] (f26b0_ok h15) rfl rfl rfl (AI (Vw.mslE rfl (by first | rfl | omega | (simp; done) | (simp at *; omega)) rfl) (AI (VS rfl) TT)) (AI (h0I (0, 0) rfl rfl (BVw.enc e_QIndexEntry (fun _ => rfl) _ v4)) TT) (nid_ren _ rfl) (AI rfl (AI (rows_ren e_QIndexEntry (fun _ => rfl) _ _) TT)) rfl ?_
  obtain ⟨h16, h⟩ := ite_some h
  refine seqI ?_
  refine regI ?_
  refine retI ?_
  cases h
  exact AI TT (AI TT (AI rfl (Vw.tupL (AI (Vw.frzB e_QIndexEntry e_QIndexEntry_ok (fun h => h) rfl rfl (by first | rfl | omega | (simp; done) | (simp at *; omega))) (AI (VS rfl) TT)))))

theorem f7_L1_bok {a0 : List G_QDocument} {v3 : Int} {v4 : List G_QIndexEntry} {m : Option Nat} {o : (Int × (List G_QIndexEntry)) ⊕ ((List G_QIndexEntry) × Int)} (h : S_wordindex_Build_b1 m a0 v3 v4 = some o) :
    LWp Try.prog f7_lay 0 f7_c1 (BodyQ 0 1 (f7_L1_env a0) (f7_L1_hp a0) (f7_L1_Q a0) o) [(5, .msl (0, 0) 3 0 v4.length false), (13, .isl 3 (a0.map e_QDocument) false), (14, .int .i64 ((a0.map e_QDocument).length : Int)), (15, .int .i64 v3)] [((0, 0), .rows 3 (v4.map e_QIndexEntry))] 1 := by
  unfold S_wordindex_Build_b1 at h
  refine seqI ?_
  refine regI ?_
  refine seqI ?_
  refine condI (v := (decide (v3 < ((a0.map e_QDocument).length : Int)))) rfl TT (fun h11 => ?_) (fun h11 => ?_)
  · have h := ite_tt h11 h
    refine skipI ?_
    refine seqI ?_
    refine blockI ?_
    refine seqI ?_
    refine regI ?_
    obtain ⟨h12, h⟩ := ite_some h
    refine AI h12 ?_
    refine EX (e_QDocument (a0.getD v3.toNat default)) (AI (getD_enc e_QDocument _ _ (idx_ltL e_QDocument h12)) (AI (AI (idx_lt h12) (NB rfl)) ?_))
    refine regI ?_
    obtain ⟨v6, h13, h⟩ := bind_some h
    refine PFn.call (f25_ok h13) (AI (VS rfl) TT) ?_
    obtain ⟨h14, h⟩ := ite_some h
    refine AI (fun h => Bool.noConfusion h) (AI (lenW e_QIndexEntry (by first | rfl | omega | (simp; done) | (simp at *; omega))) (EX ((v4 ++ ([v6] : List G_QIndexEntry)).map e_QIndexEntry) (AI (appW e_QIndexEntry v4 ([v6] : List G_QIndexEntry) (by first | rfl | omega | (simp; done) | (simp at *; omega))) (AI h14 ?_))))
    refine LWp.sim (e := [(5, .msl (0, 0) 3 0 (((v4 ++ ([v6] : List G_QIndexEntry)).map e_QIndexEntry).length) false), (13, .isl 3 (a0.map e_QDocument) false), (14, .int .i64 ((a0.map e_QDocument).length : Int)), (15, .int .i64 v3)]) (L := [((0, 0), .rows 3 ((v4 ++ ([v6] : List G_QIndexEntry)).map e_QIndexEntry))]) (n := 1) ?_ ?_
    · exact simI (M := [((0, 0), (2, 0))]) rfl (AI (Vw.mslE rfl (by first | rfl | omega | (simp; done) | (simp at *; omega)) rfl) (AI (VS rfl) (AI (VS rfl) (AI (VS rfl) TT)))) (AI (AI rfl (BVw.enc e_QIndexEntry (fun _ => rfl) _ (v4 ++ ([v6] : List G_QIndexEntry)))) TT)
    refine regI ?_
    cases h
    exact AI rfl (simI (M := [((0, 0), (0, 0))]) rfl (AI (Vw.mslE rfl (by first | rfl | omega | (simp; done) | (simp at *; omega)) rfl) (AI (VS rfl) (AI (VS rfl) (AI (VS rfl) TT)))) (AI (AI rfl (BVw.enc e_QIndexEntry (fun _ => rfl) _ (v4 ++ ([v6] : List G_QIndexEntry)))) TT))
  · have h := ite_ff h11 h
    refine exitI ?_
    obtain ⟨o, hq, rfl⟩ := Option.map_eq_some_iff.1 h
    replace h := hq; clear hq
    refine AI nofun ?_
    refine LWp.sim ?_ (f7_j1_ok h)
    exact simI (M := [((0, 0), (0, 0))]) rfl (AI (Vw.mslE rfl (by first | rfl | omega | (simp; done) | (simp at *; omega)) rfl) TT) (AI (AI rfl (BVw.enc e_QIndexEntry (fun _ => rfl) _ v4)) TT)

theorem f7_L1_ok {a0 : List G_QDocument} {v3 : Int} {v4 : List G_QIndexEntry} {m : Option Nat} {o : ((List G_QIndexEntry) × Int)} (h : S_wordindex_Build_l1 m a0 v3 v4 = some o) :
    LWp Try.prog f7_lay 0 (.loop f7_c1) (QBlock 0 (QSeq Try.prog f7_lay 0 f7_c0 (f7_Q a0 o))) [(5, .msl (0, 0) 3 0 v4.length false), (13, .isl 3 (a0.map e_QDocument) false), (14, .int .i64 ((a0.map e_QDocument).length : Int)), (15, .int .i64 v3)] [((0, 0), .rows 3 (v4.map e_QIndexEntry))] 1 :=
  LWp_loopM (m := m) (s := ((v3, v4) : (Int × (List G_QIndexEntry)))) (r := o) (fun (s : (Int × (List G_QIndexEntry))) => S_wordindex_Build_b1 m a0 s.1 s.2) (f7_L1_env a0) (f7_L1_hp a0) (f7_L1_Q a0) (fun s o h => f7_L1_bok h) h

noncomputable def S_wordindex_Build (m : Option Nat) (a0 : List G_QDocument) : Option ((List G_QIndexEntry) × Int) :=
  (S_wordindex_validateDocuments m a0).bind fun v1 =>
  if (v1 != 0) = true then
    some (([] : List G_QIndexEntry), v1)
  else
    S_wordindex_Build_l1 m a0 0 ([] : List G_QIndexEntry)

theorem f7_start {a0 : List G_QDocument} {m : Option Nat} {o : (List G_QIndexEntry) × Int} (h : S_wordindex_Build m a0 = some o) : LWp Try.prog f7_lay 0 f7_c2 (f7_Q a0 o) (initEnv 0 [.isl 3 (a0.map e_QDocument) false]) [] 0 := by
  unfold S_wordindex_Build at h
  refine seqI ?_
  refine LWp.ghost 3 ?_
  refine regI ?_
  refine LWp.sim (e := [(0, .isl 3 (a0.map e_QDocument) false)]) (L := []) (n := 0) ?_ ?_
  · exact simI (M := []) rfl (AI (VS rfl) TT) TT
  refine seqI ?_
  refine seqI ?_
  refine regI ?_
  obtain ⟨v1, h1, h⟩ := bind_some h
  refine PFn.call (f24_ok h1) (AI (VS rfl) TT) ?_
  refine seqI ?_
  refine regI ?_
  refine condI (v := (v1 != 0)) rfl TT (fun h2 => ?_) (fun h2 => ?_)
  · have h := ite_tt h2 h
    refine seqI ?_
    refine LWp.ghost 3 ?_
    refine regI ?_
    refine LWp.sim (e := [(2, .msl (0, 0) 3 0 (([] : List G_QIndexEntry).length) false), (3, .int .i64 v1)]) (L := [((0, 0), .rows 3 (([] : List G_QIndexEntry).map e_QIndexEntry))]) (n := 1) ?_ ?_
    · exact simI (M := [((0, 0), (0, 0))]) rfl (AI (Vw.nilM _ _ _ _ _ _ rfl rfl) (AI (VS rfl) TT)) (AI (AI rfl (BVw.enc e_QIndexEntry (fun _ => rfl) _ ([] : List G_QIndexEntry))) TT)
    refine retI ?_
    cases h
    exact AI TT (AI TT (AI rfl (Vw.tupL (AI (Vw.frzB e_QIndexEntry e_QIndexEntry_ok (fun h => h) rfl rfl (by first | rfl | omega | (simp; done) | (simp at *; omega))) (AI (VS rfl) TT)))))
  · have h := ite_ff h2 h
    refine skipI ?_
    refine seqI ?_
    refine LWp.ghost 3 ?_
    refine regI ?_
    refine LWp.sim (e := [(0, .isl 3 (a0.map e_QDocument) false), (5, .msl (0, 0) 3 0 (([] : List G_QIndexEntry).length) false)]) (L := [((0, 0), .rows 3 (([] : List G_QIndexEntry).map e_QIndexEntry))]) (n := 1) ?_ ?_
    · exact simI (M := [((0, 0), (0, 0))]) rfl (AI (VS rfl) (AI (Vw.nilM _ _ _ _ _ _ rfl rfl) TT)) (AI (AI rfl (BVw.enc e_QIndexEntry (fun _ => rfl) _ ([] : List G_QIndexEntry))) TT)
    refine seqI ?_
    refine seqI ?_
    refine regI ?_
    refine blockI ?_
    refine LWp.sim ?_ (f7_L1_ok h)
    exact simI (M := [((0, 0), (0, 0))]) rfl (AI (Vw.mslE rfl (by first | rfl | omega | (simp; done) | (simp at *; omega)) rfl) (AI (VS rfl) (AI (VS rfl) (AI (VS rfl) TT)))) (AI (AI rfl (BVw.enc e_QIndexEntry (fun _ => rfl) _ ([] : List G_QIndexEntry))) TT)

theorem f7_ok {a0 : List G_QDocument} {m : Option Nat} {o : (List G_QIndexEntry) × Int} (h : S_wordindex_Build m a0 = some o) : PFn Try.prog 7 [.isl 3 (a0.map e_QDocument) false] (.tup [.isl 3 (o.1.map e_QIndexEntry) false, .int .i64 o.2]) := PFn.ofFnW (L := f7_L) f7_low f7_fok (NB rfl) rfl (f7_start h)

def f9_c1 : LCode := (.seq (.region [⟨some 15, .bin .lss (.t 14) (.t 13), none⟩])
 (.seq (.cond (.t 15)
  .skip
  (.exit 0))
 (.seq (.block 1
  (.seq (.region [⟨some 16, .mv (.t 14), none⟩,
    ⟨some 17, .iaddr 1 (.t 12) (.t 14), none⟩,
    ⟨some 18, .load false 1 (.t 17), none⟩,
    ⟨some 5, .mv (.t 16), none⟩,
    ⟨some 6, .mv (.t 18), none⟩])
  (.seq (.region [⟨some 19, .mv (.t 6), none⟩,
    ⟨some 20, .mv (.t 1), none⟩,
    ⟨some 21, .mv (.t 5), none⟩,
    ⟨some 22, .iaddr 1 (.t 20) (.t 21), none⟩,
    ⟨some 23, .load false 1 (.t 22), none⟩,
    ⟨some 24, .bin .neq (.t 19) (.t 23), none⟩])
  (.cond (.t 24)
   (.seq (.region [⟨some 4, .mv (.c (.bool false)), none⟩])
   .ret)
   .skip))))
 (.region [⟨some 25, .bin .add (.t 14) (.c (.int .i64 1)), none⟩,
   ⟨some 14, .mv (.t 25), none⟩]))))
def f9_c0 : LCode := (.seq (.region [⟨some 4, .mv (.c (.bool true)), none⟩])
 .ret)
def f9_c2 : LCode := (.seq (.region [⟨some 4, .mv (.c (.bool false)), none⟩])
 (.seq (.seq (.region [⟨some 7, .mv (.t 0), none⟩,
   ⟨some 8, .len false (.t 7), none⟩,
   ⟨some 9, .mv (.t 1), none⟩,
   ⟨some 10, .len false (.t 9), none⟩,
   ⟨some 11, .bin .neq (.t 8) (.t 10), none⟩])
 (.cond (.t 11)
  (.seq (.region [⟨some 4, .mv (.c (.bool false)), none⟩])
  .ret)
  .skip))
 (.seq (.seq (.region [⟨some 12, .mv (.t 0), none⟩,
   ⟨some 13, .len false (.t 12), none⟩,
   ⟨some 14, .mv (.c (.int .i64 0)), none⟩])
 (.block 0
  (.loop
   f9_c1)))
 f9_c0)))
def f9_lay : Lay := ⟨26, [], false⟩
def f9_res : List LRes := [.t 4]
def f9_L : LFn := ⟨2, f9_lay, f9_c2, f9_res⟩
theorem f9_low : lowFn Try.prog [] 9 = some f9_L := by kernel_rfl
theorem f9_fok : FnOk Try.prog 9 := ⟨_, Try.func9, rfl, rfl⟩
def f9_Q (a0 : List (List UInt8)) (a1 : List (List UInt8)) (o : Bool) : Exit → Env → AHeap → Nat → Prop := FinK f9_res (PureEnd (.bool o))

def f9_L1_env (a0 : List (List UInt8)) (a1 : List (List UInt8)) (s : Int) : Env := [(1, .isl 1 (a1.map e_str) false), (12, .isl 1 (a0.map e_str) false), (13, .int .i64 ((a0.map e_str).length : Int)), (14, .int .i64 s)]
def f9_L1_hp (a0 : List (List UInt8)) (a1 : List (List UInt8)) (s : Int) : AHeap := []
def f9_L1_Q (a0 : List (List UInt8)) (a1 : List (List UInt8)) (o : Bool) : Exit → Env → AHeap → Nat → Prop := (QBlock 0 (QSeq Try.prog f9_lay 0 f9_c0 (f9_Q a0 a1 o)))

noncomputable def S_glossatorref3_Equal_string_j1 (m : Option Nat) : Option Bool :=
  some true

noncomputable def S_glossatorref3_Equal_string_b1 (m : Option Nat) (a0 : List (List UInt8)) (a1 : List (List UInt8)) (v1 : Int) : Option (Int ⊕ Bool) :=
  if (decide (v1 < ((a0.map e_str).length : Int))) = true then
    if (0 : Int) ≤ v1 ∧ v1 < ((a0.map e_str).length : Int) then
    if (0 : Int) ≤ v1 ∧ v1 < ((a1.map e_str).length : Int) then
    if (!((a0.getD v1.toNat default) == (a1.getD v1.toNat default))) = true then
      Option.map Sum.inr (
        some false)
    else
      some (.inl (W (v1 + 1)))
    else none
    else none
  else
    Option.map Sum.inr (
      S_glossatorref3_Equal_string_j1 m)

noncomputable def S_glossatorref3_Equal_string_l1 (m : Option Nat) (a0 : List (List UInt8)) (a1 : List (List UInt8)) (v1 : Int) : Option Bool := loopM m (fun (s : Int) => S_glossatorref3_Equal_string_b1 m a0 a1 s) v1

theorem f9_j1_ok {a0 : List (List UInt8)} {a1 : List (List UInt8)} {m : Option Nat} {o : Bool} (h : S_glossatorref3_Equal_string_j1 m = some o) :
    LWp Try.prog f9_lay 0 f9_c0 (f9_Q a0 a1 o) [] [] 0 := by
  unfold S_glossatorref3_Equal_string_j1 at h
  refine seqI ?_
  refine regI ?_
  refine retI ?_
  cases h
  exact AI TT (AI rfl (VS rfl))

theorem f9_L1_bok {a0 : List (List UInt8)} {a1 : List (List UInt8)} {v1 : Int} {m : Option Nat} {o : Int ⊕ Bool} (h : S_glossatorref3_Equal_string_b1 m a0 a1 v1 = some o) :
    LWp Try.prog f9_lay 0 f9_c1 (BodyQ 0 0 (f9_L1_env a0 a1) (f9_L1_hp a0 a1) (f9_L1_Q a0 a1) o) [(1, .isl 1 (a1.map e_str) false), (12, .isl 1 (a0.map e_str) false), (13, .int .i64 ((a0.map e_str).length : Int)), (14, .int .i64 v1)] [] 0 := by
  unfold S_glossatorref3_Equal_string_b1 at h
  refine seqI ?_
  refine regI ?_
  refine seqI ?_
  refine condI (v := (decide (v1 < ((a0.map e_str).length : Int)))) rfl TT (fun h10 => ?_) (fun h10 => ?_)
  · have h := ite_tt h10 h
    refine skipI ?_
    refine seqI ?_
    refine blockI ?_
    refine seqI ?_
    refine regI ?_
    obtain ⟨h11, h⟩ := ite_some h
    refine AI h11 ?_
    refine EX (e_str (a0.getD v1.toNat default)) (AI (getD_enc e_str _ _ (idx_ltL e_str h11)) (AI (AI (idx_lt h11) (NB rfl)) ?_))
    refine seqI ?_
    refine regI ?_
    obtain ⟨h12, h⟩ := ite_some h
    refine AI h12 ?_
    refine EX (e_str (a1.getD v1.toNat default)) (AI (getD_enc e_str _ _ (idx_ltL e_str h12)) (AI (AI (idx_lt h12) (NB rfl)) ?_))
    refine LWp.sim (e := [(1, .isl 1 (a1.map e_str) false), (12, .isl 1 (a0.map e_str) false), (13, .int .i64 ((a0.map e_str).length : Int)), (14, .int .i64 v1), (24, .bool (!((a0.getD v1.toNat default) == (a1.getD v1.toNat default))))]) (L := []) (n := 0) ?_ ?_
    · exact simI (M := []) rfl (AI (VS rfl) (AI (VS rfl) (AI (VS rfl) (AI (VS rfl) (AI (VS rfl) TT))))) TT
    refine condI (v := (!((a0.getD v1.toNat default) == (a1.getD v1.toNat default)))) rfl TT (fun h13 => ?_) (fun h13 => ?_)
    · have h := ite_tt h13 h
      refine seqI ?_
      refine regI ?_
      refine retI ?_
      obtain ⟨o, hq, rfl⟩ := Option.map_eq_some_iff.1 h
      replace h := hq; clear hq
      refine AI nofun ?_
      cases h
      exact AI TT (AI rfl (VS rfl))
    · have h := ite_ff h13 h
      refine skipI ?_
      refine regI ?_
      cases h
      exact AI rfl (simI (M := []) rfl (AI (VS rfl) (AI (VS rfl) (AI (VS rfl) (AI (VS rfl) TT)))) TT)
  · have h := ite_ff h10 h
    refine exitI ?_
    obtain ⟨o, hq, rfl⟩ := Option.map_eq_some_iff.1 h
    replace h := hq; clear hq
    refine AI nofun ?_
    refine LWp.sim ?_ (f9_j1_ok h)
    exact simI (M := []) rfl TT TT

theorem f9_L1_ok {a0 : List (List UInt8)} {a1 : List (List UInt8)} {v1 : Int} {m : Option Nat} {o : Bool} (h : S_glossatorref3_Equal_string_l1 m a0 a1 v1 = some o) :
    LWp Try.prog f9_lay 0 (.loop f9_c1) (QBlock 0 (QSeq Try.prog f9_lay 0 f9_c0 (f9_Q a0 a1 o))) [(1, .isl 1 (a1.map e_str) false), (12, .isl 1 (a0.map e_str) false), (13, .int .i64 ((a0.map e_str).length : Int)), (14, .int .i64 v1)] [] 0 :=
  LWp_loopM (m := m) (s := (v1 : Int)) (r := o) (fun (s : Int) => S_glossatorref3_Equal_string_b1 m a0 a1 s) (f9_L1_env a0 a1) (f9_L1_hp a0 a1) (f9_L1_Q a0 a1) (fun s o h => f9_L1_bok h) h

noncomputable def S_glossatorref3_Equal_string (m : Option Nat) (a0 : List (List UInt8)) (a1 : List (List UInt8)) : Option Bool :=
  if (((a0.map e_str).length : Int) != ((a1.map e_str).length : Int)) = true then
    some false
  else
    S_glossatorref3_Equal_string_l1 m a0 a1 0

theorem f9_start {a0 : List (List UInt8)} {a1 : List (List UInt8)} {m : Option Nat} {o : Bool} (h : S_glossatorref3_Equal_string m a0 a1 = some o) : LWp Try.prog f9_lay 0 f9_c2 (f9_Q a0 a1 o) (initEnv 0 [.isl 1 (a0.map e_str) false, .isl 1 (a1.map e_str) false]) [] 0 := by
  unfold S_glossatorref3_Equal_string at h
  refine seqI ?_
  refine regI ?_
  refine seqI ?_
  refine seqI ?_
  refine regI ?_
  refine condI (v := (((a0.map e_str).length : Int) != ((a1.map e_str).length : Int))) rfl TT (fun h1 => ?_) (fun h1 => ?_)
  · have h := ite_tt h1 h
    refine seqI ?_
    refine regI ?_
    refine retI ?_
    cases h
    exact AI TT (AI rfl (VS rfl))
  · have h := ite_ff h1 h
    refine skipI ?_
    refine seqI ?_
    refine seqI ?_
    refine regI ?_
    refine LWp.sim (e := [(1, .isl 1 (a1.map e_str) false), (12, .isl 1 (a0.map e_str) false), (13, .int .i64 ((a0.map e_str).length : Int)), (14, .int .i64 0)]) (L := []) (n := 0) ?_ ?_
    · exact simI (M := []) rfl (AI (VS rfl) (AI (VS rfl) (AI (VS rfl) (AI (VS rfl) TT)))) TT
    refine blockI ?_
    refine LWp.sim ?_ (f9_L1_ok h)
    exact simI (M := []) rfl (AI (VS rfl) (AI (VS rfl) (AI (VS rfl) (AI (VS rfl) TT)))) TT

theorem f9_ok {a0 : List (List UInt8)} {a1 : List (List UInt8)} {m : Option Nat} {o : Bool} (h : S_glossatorref3_Equal_string m a0 a1 = some o) : PFn Try.prog 9 [.isl 1 (a0.map e_str) false, .isl 1 (a1.map e_str) false] (.bool o) := PFn.ofFnW (L := f9_L) f9_low f9_fok (NB rfl) rfl (f9_start h)

def f66_c1 : LCode := (.seq (.region [⟨some 9, .bin .lss (.t 8) (.t 7), none⟩])
 (.seq (.cond (.t 9)
  .skip
  (.exit 0))
 (.seq (.block 1
  (.seq (.region [⟨some 10, .mv (.t 8), none⟩,
    ⟨some 5, .mv (.t 10), none⟩])
  (.seq (.region [⟨some 11, .mv (.t 1), none⟩,
    ⟨some 12, .mv (.t 0), none⟩,
    ⟨some 13, .mv (.t 5), none⟩,
    ⟨some 14, .iaddr 1 (.t 12) (.t 13), none⟩,
    ⟨some 15, .load false 1 (.t 14), none⟩,
    ⟨some 16, .bin .eql (.t 11) (.t 15), none⟩])
  (.cond (.t 16)
   (.seq (.region [⟨some 17, .mv (.t 5), none⟩,
     ⟨some 4, .mv (.t 17), none⟩])
   .ret)
   .skip))))
 (.region [⟨some 18, .bin .add (.t 8) (.c (.int .i64 1)), none⟩,
   ⟨some 8, .mv (.t 18), none⟩]))))
def f66_c0 : LCode := (.seq (.region [⟨some 4, .mv (.c (.int .i64 (-1))), none⟩])
 .ret)
def f66_c2 : LCode := (.seq (.region [⟨some 4, .mv (.c (.int .i64 0)), none⟩])
 (.seq (.seq (.region [⟨some 6, .mv (.t 0), none⟩,
   ⟨some 7, .len false (.t 6), none⟩,
   ⟨some 8, .mv (.c (.int .i64 0)), none⟩])
 (.block 0
  (.loop
   f66_c1)))
 f66_c0))
def f66_lay : Lay := ⟨19, [], false⟩
def f66_res : List LRes := [.t 4]
def f66_L : LFn := ⟨2, f66_lay, f66_c2, f66_res⟩
theorem f66_low : lowFn Try.prog [] 66 = some f66_L := by kernel_rfl
theorem f66_fok : FnOk Try.prog 66 := ⟨_, Try.func66, rfl, rfl⟩
def f66_Q (a0 : List (List UInt8)) (a1 : List UInt8) (o : Int) : Exit → Env → AHeap → Nat → Prop := FinK f66_res (PureEnd (.int .i64 o))

def f66_L1_env (a0 : List (List UInt8)) (a1 : List UInt8) (s : Int) : Env := [(0, .isl 1 (a0.map e_str) false), (1, .str a1), (7, .int .i64 ((a0.map e_str).length : Int)), (8, .int .i64 s)]
def f66_L1_hp (a0 : List (List UInt8)) (a1 : List UInt8) (s : Int) : AHeap := []
def f66_L1_Q (a0 : List (List UInt8)) (a1 : List UInt8) (o : Int) : Exit → Env → AHeap → Nat → Prop := (QBlock 0 (QSeq Try.prog f66_lay 0 f66_c0 (f66_Q a0 a1 o)))

noncomputable def S_slices_Index_string_j1 (m : Option Nat) : Option Int :=
  some (-1)

noncomputable def S_slices_Index_string_b1 (m : Option Nat) (a0 : List (List UInt8)) (a1 : List UInt8) (v1 : Int) : Option (Int ⊕ Int) :=
  if (decide (v1 < ((a0.map e_str).length : Int))) = true then
    if (0 : Int) ≤ v1 ∧ v1 < ((a0.map e_str).length : Int) then
    if (a1 == (a0.getD v1.toNat default)) = true then
      Option.map Sum.inr (
        some v1)
    else
      some (.inl (W (v1 + 1)))
    else none
  else
    Option.map Sum.inr (
      S_slices_Index_string_j1 m)

noncomputable def S_slices_Index_string_l1 (m : Option Nat) (a0 : List (List UInt8)) (a1 : List UInt8) (v1 : Int) : Option Int := loopM m (fun (s : Int) => S_slices_Index_string_b1 m a0 a1 s) v1

theorem f66_j1_ok {a0 : List (List UInt8)} {a1 : List UInt8} {m : Option Nat} {o : Int} (h : S_slices_Index_string_j1 m = some o) :
    LWp Try.prog f66_lay 0 f66_c0 (f66_Q a0 a1 o) [] [] 0 := by
  unfold S_slices_Index_string_j1 at h
  refine seqI ?_
  refine regI ?_
  refine retI ?_
  cases h
  exact AI TT (AI rfl (VS rfl))

theorem f66_L1_bok {a0 : List (List UInt8)} {a1 : List UInt8} {v1 : Int} {m : Option Nat} {o : Int ⊕ Int} (h : S_slices_Index_string_b1 m a0 a1 v1 = some o) :
    LWp Try.prog f66_lay 0 f66_c1 (BodyQ 0 0 (f66_L1_env a0 a1) (f66_L1_hp a0 a1) (f66_L1_Q a0 a1) o) [(0, .isl 1 (a0.map e_str) false), (1, .str a1), (7, .int .i64 ((a0.map e_str).length : Int)), (8, .int .i64 v1)] [] 0 := by
  unfold S_slices_Index_string_b1 at h
  refine seqI ?_
  refine regI ?_
  refine seqI ?_
  refine condI (v := (decide (v1 < ((a0.map e_str).length : Int)))) rfl TT (fun h7 => ?_) (fun h7 => ?_)
  · have h := ite_tt h7 h
    refine skipI ?_
    refine seqI ?_
    refine blockI ?_
    refine seqI ?_
    refine regI ?_
    refine seqI ?_
    refine regI ?_
    obtain ⟨h8, h⟩ := ite_some h
    refine AI h8 ?_
    refine EX (e_str (a0.getD v1.toNat default)) (AI (getD_enc e_str _ _ (idx_ltL e_str h8)) (AI (AI (idx_lt h8) (NB rfl)) ?_))
    refine LWp.sim (e := [(0, .isl 1 (a0.map e_str) false), (1, .str a1), (5, .int .i64 v1), (7, .int .i64 ((a0.map e_str).length : Int)), (8, .int .i64 v1), (16, .bool (a1 == (a0.getD v1.toNat default)))]) (L := []) (n := 0) ?_ ?_
    · exact simI (M := []) rfl (AI (VS rfl) (AI (VS rfl) (AI (VS rfl) (AI (VS rfl) (AI (VS rfl) (AI (VS rfl) TT)))))) TT
    refine condI (v := (a1 == (a0.getD v1.toNat default))) rfl TT (fun h9 => ?_) (fun h9 => ?_)
    · have h := ite_tt h9 h
      refine seqI ?_
      refine regI ?_
      refine retI ?_
      obtain ⟨o, hq, rfl⟩ := Option.map_eq_some_iff.1 h
      replace h := hq; clear hq
      refine AI nofun ?_
      cases h
      exact AI TT (AI rfl (VS rfl))
    · have h := ite_ff h9 h
      refine skipI ?_
      refine regI ?_
      cases h
      exact AI rfl (simI (M := []) rfl (AI (VS rfl) (AI (VS rfl) (AI (VS rfl) (AI (VS rfl) TT)))) TT)
  · have h := ite_ff h7 h
    refine exitI ?_
    obtain ⟨o, hq, rfl⟩ := Option.map_eq_some_iff.1 h
    replace h := hq; clear hq
    refine AI nofun ?_
    refine LWp.sim ?_ (f66_j1_ok h)
    exact simI (M := []) rfl TT TT

theorem f66_L1_ok {a0 : List (List UInt8)} {a1 : List UInt8} {v1 : Int} {m : Option Nat} {o : Int} (h : S_slices_Index_string_l1 m a0 a1 v1 = some o) :
    LWp Try.prog f66_lay 0 (.loop f66_c1) (QBlock 0 (QSeq Try.prog f66_lay 0 f66_c0 (f66_Q a0 a1 o))) [(0, .isl 1 (a0.map e_str) false), (1, .str a1), (7, .int .i64 ((a0.map e_str).length : Int)), (8, .int .i64 v1)] [] 0 :=
  LWp_loopM (m := m) (s := (v1 : Int)) (r := o) (fun (s : Int) => S_slices_Index_string_b1 m a0 a1 s) (f66_L1_env a0 a1) (f66_L1_hp a0 a1) (f66_L1_Q a0 a1) (fun s o h => f66_L1_bok h) h

noncomputable def S_slices_Index_string (m : Option Nat) (a0 : List (List UInt8)) (a1 : List UInt8) : Option Int :=
  S_slices_Index_string_l1 m a0 a1 0

theorem f66_start {a0 : List (List UInt8)} {a1 : List UInt8} {m : Option Nat} {o : Int} (h : S_slices_Index_string m a0 a1 = some o) : LWp Try.prog f66_lay 0 f66_c2 (f66_Q a0 a1 o) (initEnv 0 [.isl 1 (a0.map e_str) false, .str a1]) [] 0 := by
  unfold S_slices_Index_string at h
  refine seqI ?_
  refine regI ?_
  refine seqI ?_
  refine seqI ?_
  refine regI ?_
  refine blockI ?_
  refine LWp.sim ?_ (f66_L1_ok h)
  exact simI (M := []) rfl (AI (VS rfl) (AI (VS rfl) (AI (VS rfl) (AI (VS rfl) TT)))) TT

theorem f66_ok {a0 : List (List UInt8)} {a1 : List UInt8} {m : Option Nat} {o : Int} (h : S_slices_Index_string m a0 a1 = some o) : PFn Try.prog 66 [.isl 1 (a0.map e_str) false, .str a1] (.int .i64 o) := PFn.ofFnW (L := f66_L) f66_low f66_fok (NB rfl) rfl (f66_start h)

def f47_c0 : LCode := (.seq (.region [⟨some 4, .mv (.c (.bool false)), none⟩])
 (.seq (.region [⟨some 5, .mv (.t 0), none⟩,
   ⟨some 6, .mv (.t 1), none⟩,
   ⟨some 7, .call 66 [(.t 5), (.t 6)], none⟩,
   ⟨some 8, .bin .geq (.t 7) (.c (.int .i64 0)), none⟩,
   ⟨some 4, .mv (.t 8), none⟩])
 .ret))
def f47_lay : Lay := ⟨9, [], false⟩
def f47_res : List LRes := [.t 4]
def f47_L : LFn := ⟨2, f47_lay, f47_c0, f47_res⟩
theorem f47_low : lowFn Try.prog [] 47 = some f47_L := by kernel_rfl
theorem f47_fok : FnOk Try.prog 47 := ⟨_, Try.func47, rfl, rfl⟩
noncomputable def S_slices_Contains_string (m : Option Nat) (a0 : List (List UInt8)) (a1 : List UInt8) : Option Bool :=
  (S_slices_Index_string m a0 a1).bind fun v1 =>
  some (decide (v1 ≥ 0))

def f47_Q (a0 : List (List UInt8)) (a1 : List UInt8) (o : Bool) : Exit → Env → AHeap → Nat → Prop := FinK f47_res (PureEnd (.bool o))

theorem f47_start {a0 : List (List UInt8)} {a1 : List UInt8} {m : Option Nat} {o : Bool} (h : S_slices_Contains_string m a0 a1 = some o) : LWp Try.prog f47_lay 0 f47_c0 (f47_Q a0 a1 o) (initEnv 0 [.isl 1 (a0.map e_str) false, .str a1]) [] 0 := by
  unfold S_slices_Contains_string at h
  refine seqI ?_
  refine regI ?_
  refine seqI ?_
  refine regI ?_
  obtain ⟨v1, h1, h⟩ := bind_some h
  refine PFn.call (f66_ok h1) (AI (VS rfl) (AI (VS rfl) TT)) ?_
  refine retI ?_
  cases h
  exact AI TT (AI rfl (VS rfl))

theorem f47_ok {a0 : List (List UInt8)} {a1 : List UInt8} {m : Option Nat} {o : Bool} (h : S_slices_Contains_string m a0 a1 = some o) : PFn Try.prog 47 [.isl 1 (a0.map e_str) false, .str a1] (.bool o) := PFn.ofFnW (L := f47_L) f47_low f47_fok (NB rfl) rfl (f47_start h)

def f23_c1 : LCode := (.region [⟨some 23, .bin .add (.t 10) (.c (.int .i64 1)), none⟩,
   ⟨some 10, .mv (.t 23), none⟩])
def f23_c2 : LCode := (.seq (.region [⟨some 11, .bin .lss (.t 10) (.t 9), none⟩])
 (.seq (.cond (.t 11)
  .skip
  (.exit 0))
 (.seq (.block 1
  (.seq (.region [⟨some 12, .iaddr 3 (.t 8) (.t 10), none⟩,
    ⟨some 13, .load true 3 (.t 12), none⟩,
    ⟨some 7, .alloc [(.str []), (.int .u32 0), (.isl 1 [] true)], none⟩,
    ⟨none, .store 3 (.t 7) (.t 13), none⟩])
  (.seq (.region [⟨some 14, .faddr 2 (.t 7), none⟩,
    ⟨some 15, .load false 1 (.t 14), none⟩,
    ⟨some 16, .mv (.t 1), none⟩,
    ⟨some 17, .call 47 [(.t 15), (.t 16)], none⟩])
  (.cond (.t 17)
   (.region [⟨some 18, .mv (.t 5), none⟩,
     ⟨some 19, .faddr 0 (.t 7), none⟩,
     ⟨some 20, .load false 1 (.t 19), none⟩,
     ⟨some 21, .mkSl true 1 [(.str [])] 1 [(0, (.t 20))], none⟩,
     ⟨some 22, .app true 1 16 (.t 18) (.t 21), none⟩,
     ⟨some 5, .mv (.t 22), none⟩])
   .skip))))
 f23_c1)))
def f23_c0 : LCode := (.seq (.region [⟨some 24, .mv (.t 5), none⟩,
   ⟨some 4, .mv (.t 24), none⟩])
 .ret)
def f23_c3 : LCode := (.seq (.region [⟨some 4, .mv (.c (.val (.slice none 0 0))), none⟩])
 (.seq (.region [⟨some 5, .mv (.c (.val (.slice none 0 0))), none⟩])
 (.seq (.seq (.region [⟨some 8, .mv (.t 0), none⟩,
   ⟨some 9, .len false (.t 8), none⟩,
   ⟨some 10, .mv (.c (.int .i64 0)), none⟩])
 (.block 0
  (.loop
   f23_c2)))
 f23_c0)))
def f23_lay : Lay := ⟨25, [], false⟩
def f23_res : List LRes := [.t 4]
def f23_L : LFn := ⟨2, f23_lay, f23_c3, f23_res⟩
theorem f23_low : lowFn Try.prog [] 23 = some f23_L := by kernel_rfl
theorem f23_fok : FnOk Try.prog 23 := ⟨_, Try.func23, rfl, rfl⟩
def f23_Q (a0 : List G_QIndexEntry) (a1 : List UInt8) (o : (List (List UInt8))) : Exit → Env → AHeap → Nat → Prop := FinK f23_res (PureEnd (.isl 1 (o.map e_str) false))

def f23_L1_env (a0 : List G_QIndexEntry) (a1 : List UInt8) (s : ((List (List UInt8)) × Int)) : Env := [(1, .str a1), (5, .osl (0, 0) 1 (s.1.map e_str)), (8, .isl 3 (a0.map e_QIndexEntry) false), (9, .int .i64 ((a0.map e_QIndexEntry).length : Int)), (10, .int .i64 s.2)]
def f23_L1_hp (a0 : List G_QIndexEntry) (a1 : List UInt8) (s : ((List (List UInt8)) × Int)) : AHeap := [((0, 0), .tok)]
def f23_L1_Q (a0 : List G_QIndexEntry) (a1 : List UInt8) (o : (List (List UInt8))) : Exit → Env → AHeap → Nat → Prop := (QBlock 0 (QSeq Try.prog f23_lay 0 f23_c0 (f23_Q a0 a1 o)))

noncomputable def S_wordindex_Find_j3 (m : Option Nat) (a0 : List G_QIndexEntry) (a1 : List UInt8) (v4 : Int) (v8 : List (List UInt8)) : Option (((List (List UInt8)) × Int) ⊕ (List (List UInt8))) :=
  some (.inl (v8, (W (v4 + 1))))

theorem f23_j3_ok {a0 : List G_QIndexEntry} {a1 : List UInt8} {v4 : Int} {v8 : List (List UInt8)} {m : Option Nat} {o : (((List (List UInt8)) × Int) ⊕ (List (List UInt8)))} (h : S_wordindex_Find_j3 m a0 a1 v4 v8 = some o) :
    LWp Try.prog f23_lay 0 f23_c1 (BodyQ 0 1 (f23_L1_env a0 a1) (f23_L1_hp a0 a1) (f23_L1_Q a0 a1) o) [(1, .str a1), (5, .osl (0, 0) 1 (v8.map e_str)), (8, .isl 3 (a0.map e_QIndexEntry) false), (9, .int .i64 ((a0.map e_QIndexEntry).length : Int)), (10, .int .i64 v4)] [((0, 0), .tok)] 1 := by
  unfold S_wordindex_Find_j3 at h
  refine regI ?_
  cases h
  exact AI rfl (simI (M := [((0, 0), (0, 0))]) rfl (AI (VS rfl) (AI (Vw.osl _ _ _ _ rfl) (AI (VS rfl) (AI (VS rfl) (AI (VS rfl) TT))))) (AI (AI rfl BVw.tok) TT))

noncomputable def S_wordindex_Find_j4 (m : Option Nat) (v3 : List (List UInt8)) : Option (List (List UInt8)) :=
  some v3

noncomputable def S_wordindex_Find_b1 (m : Option Nat) (a0 : List G_QIndexEntry) (a1 : List UInt8) (v3 : List (List UInt8)) (v4 : Int) : Option (((List (List UInt8)) × Int) ⊕ (List (List UInt8))) :=
  if (decide (v4 < ((a0.map e_QIndexEntry).length : Int))) = true then
    if (0 : Int) ≤ v4 ∧ v4 < ((a0.map e_QIndexEntry).length : Int) then
    (S_slices_Contains_string m ((a0.getD v4.toNat default).f_Words) a1).bind fun v7 =>
    if v7 = true then
      if ((v3 ++ ([(a0.getD v4.toNat default).f_Name] : List (List UInt8))).map e_str).length * 16 ≤ 140737488355328 then
      S_wordindex_Find_j3 m a0 a1 v4 (v3 ++ ([(a0.getD v4.toNat default).f_Name] : List (List UInt8)))
      else none
    else
      S_wordindex_Find_j3 m a0 a1 v4 v3
    else none
  else
    Option.map Sum.inr (
      S_wordindex_Find_j4 m v3)

noncomputable def S_wordindex_Find_l1 (m : Option Nat) (a0 : List G_QIndexEntry) (a1 : List UInt8) (v3 : List (List UInt8)) (v4 : Int) : Option (List (List UInt8)) := loopM m (fun (s : ((List (List UInt8)) × Int)) => S_wordindex_Find_b1 m a0 a1 s.1 s.2) (v3, v4)

theorem f23_j4_ok {a0 : List G_QIndexEntry} {a1 : List UInt8} {v3 : List (List UInt8)} {m : Option Nat} {o : (List (List UInt8))} (h : S_wordindex_Find_j4 m v3 = some o) :
    LWp Try.prog f23_lay 0 f23_c0 (f23_Q a0 a1 o) [(5, .osl (0, 0) 1 (v3.map e_str))] [((0, 0), .tok)] 1 := by
  unfold S_wordindex_Find_j4 at h
  refine seqI ?_
  refine regI ?_
  refine retI ?_
  cases h
  exact AI TT (AI rfl (Vw.oslI _ _ _))

theorem f23_L1_bok {a0 : List G_QIndexEntry} {a1 : List UInt8} {v3 : List (List UInt8)} {v4 : Int} {m : Option Nat} {o : ((List (List UInt8)) × Int) ⊕ (List (List UInt8))} (h : S_wordindex_Find_b1 m a0 a1 v3 v4 = some o) :
    LWp Try.prog f23_lay 0 f23_c2 (BodyQ 0 1 (f23_L1_env a0 a1) (f23_L1_hp a0 a1) (f23_L1_Q a0 a1) o) [(1, .str a1), (5, .osl (0, 0) 1 (v3.map e_str)), (8, .isl 3 (a0.map e_QIndexEntry) false), (9, .int .i64 ((a0.map e_QIndexEntry).length : Int)), (10, .int .i64 v4)] [((0, 0), .tok)] 1 := by
  unfold S_wordindex_Find_b1 at h
  refine seqI ?_
  refine regI ?_
  refine seqI ?_
  refine condI (v := (decide (v4 < ((a0.map e_QIndexEntry).length : Int)))) rfl TT (fun h11 => ?_) (fun h11 => ?_)
  · have h := ite_tt h11 h
    refine skipI ?_
    refine seqI ?_
    refine blockI ?_
    refine seqI ?_
    refine regI ?_
    obtain ⟨h12, h⟩ := ite_some h
    refine AI h12 ?_
    refine EX (e_QIndexEntry (a0.getD v4.toNat default)) (AI (getD_enc e_QIndexEntry _ _ (idx_ltL e_QIndexEntry h12)) (AI (AI (idx_lt h12) (NB rfl)) ?_))
    refine seqI ?_
    refine regI ?_
    obtain ⟨v7, h13, h⟩ := bind_some h
    refine PFn.call (f47_ok h13) (AI (VS rfl) (AI (VS rfl) TT)) ?_
    refine LWp.sim (e := [(1, .str a1), (5, .osl (0, 0) 1 (v3.map e_str)), (7, .ptr (1, 0) 0 0), (8, .isl 3 (a0.map e_QIndexEntry) false), (9, .int .i64 ((a0.map e_QIndexEntry).length : Int)), (10, .int .i64 v4), (17, .bool v7)]) (L := [((0, 0), .tok), ((1, 0), .one [.str ((a0.getD v4.toNat default).f_Name), .int .u32 ((a0.getD v4.toNat default).f_Sum), .isl 1 (((a0.getD v4.toNat default).f_Words).map e_str) false])]) (n := 2) ?_ ?_
    · exact simI (M := [((0, 0), (0, 0)), ((1, 0), (1, 0))]) rfl (AI (VS rfl) (AI (Vw.osl _ _ _ _ rfl) (AI (Vw.ptr _ _ _ _ rfl) (AI (VS rfl) (AI (VS rfl) (AI (VS rfl) (AI (VS rfl) TT))))))) (AI (AI rfl BVw.tok) (AI (AI rfl (BVw.oneL (AI (VS rfl) (AI (VS rfl) (AI (VS rfl) TT))))) TT))
    refine condI (v := v7) rfl TT (fun h14 => ?_) (fun h14 => ?_)
    · have h := ite_tt h14 h
      refine regI ?_
      obtain ⟨h15, h⟩ := ite_some h
      refine EX ((v3 ++ ([(a0.getD v4.toNat default).f_Name] : List (List UInt8))).map e_str) (AI (app_enc e_str v3 ([(a0.getD v4.toNat default).f_Name] : List (List UInt8))) (AI h15 ?_))
      refine LWp.sim ?_ (f23_j3_ok h)
      exact simI (M := [((0, 0), (2, 0))]) rfl (AI (VS rfl) (AI (Vw.osl _ _ _ _ rfl) (AI (VS rfl) (AI (VS rfl) (AI (VS rfl) TT))))) (AI (AI rfl BVw.tok) TT)
    · have h := ite_ff h14 h
      refine skipI ?_
      refine LWp.sim ?_ (f23_j3_ok h)
      exact simI (M := [((0, 0), (0, 0))]) rfl (AI (VS rfl) (AI (Vw.osl _ _ _ _ rfl) (AI (VS rfl) (AI (VS rfl) (AI (VS rfl) TT))))) (AI (AI rfl BVw.tok) TT)
  · have h := ite_ff h11 h
    refine exitI ?_
    obtain ⟨o, hq, rfl⟩ := Option.map_eq_some_iff.1 h
    replace h := hq; clear hq
    refine AI nofun ?_
    refine LWp.sim ?_ (f23_j4_ok h)
    exact simI (M := [((0, 0), (0, 0))]) rfl (AI (Vw.osl _ _ _ _ rfl) TT) (AI (AI rfl BVw.tok) TT)

theorem f23_L1_ok {a0 : List G_QIndexEntry} {a1 : List UInt8} {v3 : List (List UInt8)} {v4 : Int} {m : Option Nat} {o : (List (List UInt8))} (h : S_wordindex_Find_l1 m a0 a1 v3 v4 = some o) :
    LWp Try.prog f23_lay 0 (.loop f23_c2) (QBlock 0 (QSeq Try.prog f23_lay 0 f23_c0 (f23_Q a0 a1 o))) [(1, .str a1), (5, .osl (0, 0) 1 (v3.map e_str)), (8, .isl 3 (a0.map e_QIndexEntry) false), (9, .int .i64 ((a0.map e_QIndexEntry).length : Int)), (10, .int .i64 v4)] [((0, 0), .tok)] 1 :=
  LWp_loopM (m := m) (s := ((v3, v4) : ((List (List UInt8)) × Int))) (r := o) (fun (s : ((List (List UInt8)) × Int)) => S_wordindex_Find_b1 m a0 a1 s.1 s.2) (f23_L1_env a0 a1) (f23_L1_hp a0 a1) (f23_L1_Q a0 a1) (fun s o h => f23_L1_bok h) h

noncomputable def S_wordindex_Find (m : Option Nat) (a0 : List G_QIndexEntry) (a1 : List UInt8) : Option (List (List UInt8)) :=
  S_wordindex_Find_l1 m a0 a1 [] 0

theorem f23_start {a0 : List G_QIndexEntry} {a1 : List UInt8} {m : Option Nat} {o : (List (List UInt8))} (h : S_wordindex_Find m a0 a1 = some o) : LWp Try.prog f23_lay 0 f23_c3 (f23_Q a0 a1 o) (initEnv 0 [.isl 3 (a0.map e_QIndexEntry) false, .str a1]) [] 0 := by
  unfold S_wordindex_Find at h
  refine seqI ?_
  refine regI ?_
  refine seqI ?_
  refine regI ?_
  refine seqI ?_
  refine seqI ?_
  refine regI ?_
  refine blockI ?_
  refine LWp.sim ?_ (f23_L1_ok h)
  exact simI (M := []) rfl (AI (VS rfl) (AI (Vw.nilO _ _ (by decide)) (AI (VS rfl) (AI (VS rfl) (AI (VS rfl) TT))))) (AI (AI rfl (AI (by decide) (by decide))) TT)

theorem f23_ok {a0 : List G_QIndexEntry} {a1 : List UInt8} {m : Option Nat} {o : (List (List UInt8))} (h : S_wordindex_Find m a0 a1 = some o) : PFn Try.prog 23 [.isl 3 (a0.map e_QIndexEntry) false, .str a1] (.isl 1 (o.map e_str) false) := PFn.ofFnW (L := f23_L) f23_low f23_fok (NB rfl) rfl (f23_start h)

def f6_c0 : LCode := (.seq (.region [⟨some 0, .mv (.c (.bool false)), none⟩])
 (.seq (.region [⟨some 4, .build [(.str []), (.int .i64 0), (.str [])] [(0, 1, (.c (.str [100]))), (2, 1, (.c (.str [98, 32, 97, 95, 49, 44, 32, 98])))], none⟩,
   ⟨some 5, .mkSl true 3 [(.str []), (.int .i64 0), (.str [])] 1 [(0, (.t 4))], none⟩,
   ⟨some 6, .call 7 [(.t 5)], none⟩,
   ⟨some 3, .mv (.t 6), none⟩,
   ⟨some 7, .ext 0 (.t 3), none⟩,
   ⟨some 8, .ext 1 (.t 3), none⟩,
   ⟨some 1, .mv (.t 7), none⟩,
   ⟨some 2, .mv (.t 8), none⟩])
 (.seq (.region [⟨some 9, .mv (.t 2), none⟩,
   ⟨some 10, .bin .eql (.t 9) (.c (.int .i64 0)), none⟩,
   ⟨some 11, .mv (.t 10), none⟩,
   ⟨some 12, .mv (.t 1), some (11, true)⟩,
   ⟨some 13, .len false (.t 12), some (11, true)⟩,
   ⟨some 14, .bin .eql (.t 13) (.c (.int .i64 1)), some (11, true)⟩,
   ⟨some 15, .pick (.t 11) (.t 14) (.c (.bool false)), none⟩,
   ⟨some 16, .mv (.t 15), none⟩,
   ⟨some 17, .mv (.t 1), some (16, true)⟩,
   ⟨some 18, .iaddr 3 (.t 17) (.c (.int .i64 0)), some (16, true)⟩,
   ⟨some 19, .faddr 2 (.t 18), some (16, true)⟩,
   ⟨some 20, .load false 1 (.t 19), some (16, true)⟩,
   ⟨some 21, .mkSl true 1 [(.str [])] 2 [(0, (.c (.str [97, 95, 49]))), (1, (.c (.str [98])))], some (16, true)⟩,
   ⟨some 22, .call 9 [(.t 20), (.t 21)], some (16, true)⟩,
   ⟨some 23, .pick (.t 16) (.t 22) (.c (.bool false)), none⟩,
   ⟨some 24, .mv (.t 23), none⟩,
   ⟨some 25, .mv (.t 1), some (24, true)⟩,
   ⟨some 26, .call 23 [(.t 25), (.c (.str [98]))], some (24, true)⟩,
   ⟨some 27, .mkSl true 1 [(.str [])] 1 [(0, (.c (.str [100])))], some (24, true)⟩,
   ⟨some 28, .call 9 [(.t 26), (.t 27)], some (24, true)⟩,
   ⟨some 29, .pick (.t 24) (.t 28) (.c (.bool false)), none⟩,
   ⟨some 0, .mv (.t 29), none⟩])
 .ret)))
def f6_lay : Lay := ⟨30, [], false⟩
def f6_res : List LRes := [.t 0]
def f6_L : LFn := ⟨0, f6_lay, f6_c0, f6_res⟩
theorem f6_low : lowFn Try.prog [] 6 = some f6_L := by kernel_rfl
theorem f6_fok : FnOk Try.prog 6 := ⟨_, Try.func6, rfl, rfl⟩
noncomputable def S_glossatorlaw3_indexExample (m : Option Nat) : Option Bool :=
  (S_wordindex_Build m ([(G_QDocument.mk ([100] : List UInt8) 0 ([98, 32, 97, 95, 49, 44, 32, 98] : List UInt8))] : List G_QDocument)).bind fun v1 =>
  if ((((v1.2 == 0) && (((v1.1.map e_QIndexEntry).length : Int) == 1)) == true) = true → (0 : Int) ≤ 0 ∧ 0 < ((v1.1.map e_QIndexEntry).length : Int)) then
  (if (((v1.2 == 0) && (((v1.1.map e_QIndexEntry).length : Int) == 1)) == true) = true then S_glossatorref3_Equal_string m ((v1.1.getD ((0 : Int).toNat) default).f_Words) ([([97, 95, 49] : List UInt8), ([98] : List UInt8)] : List (List UInt8)) else some default).bind fun v2 =>
  (if ((((v1.2 == 0) && (((v1.1.map e_QIndexEntry).length : Int) == 1)) && v2) == true) = true then S_wordindex_Find m v1.1 ([98] : List UInt8) else some default).bind fun v3 =>
  (if ((((v1.2 == 0) && (((v1.1.map e_QIndexEntry).length : Int) == 1)) && v2) == true) = true then S_glossatorref3_Equal_string m v3 ([([100] : List UInt8)] : List (List UInt8)) else some default).bind fun v4 =>
  some ((((v1.2 == 0) && (((v1.1.map e_QIndexEntry).length : Int) == 1)) && v2) && v4)
  else none

def f6_Q (o : Bool) : Exit → Env → AHeap → Nat → Prop := FinK f6_res (PureEnd (.bool o))

theorem f6_start {m : Option Nat} {o : Bool} (h : S_glossatorlaw3_indexExample m = some o) : LWp Try.prog f6_lay 0 f6_c0 (f6_Q o) (initEnv 0 []) [] 0 := by
  unfold S_glossatorlaw3_indexExample at h
  refine seqI ?_
  refine regI ?_
  refine seqI ?_
  refine regI ?_
  obtain ⟨v1, h1, h⟩ := bind_some h
  refine PFn.call (f7_ok h1) (AI (Vw.islF _ _ _) TT) ?_
  refine LWp.sim (e := [(1, .isl 3 (v1.1.map e_QIndexEntry) false), (2, .int .i64 v1.2)]) (L := []) (n := 0) ?_ ?_
  · exact simI (M := []) rfl (AI (VS rfl) (AI (VS rfl) TT)) TT
  refine seqI ?_
  refine regI ?_
  refine AI (fun hp => hp) ?_
  refine AI (fun hp => hp) ?_
  refine AI (fun hc => (bqt hc)) ?_
  obtain ⟨h2, h⟩ := ite_some h
  refine AI (fun hp => (AI hp (h2 hp))) ?_
  refine AI (fun hp => hp) ?_
  refine EX (e_QIndexEntry (v1.1.getD ((0 : Int).toNat) default)) (AI (fun hp => AI (getD_enc e_QIndexEntry _ _ (idx_ltL e_QIndexEntry (h2 hp))) (AI hp (AI (idx_lt (h2 hp)) (NB rfl)))) ?_)
  refine Or.inl (EX (.isl 1 (([([97, 95, 49] : List UInt8), ([98] : List UInt8)] : List (List UInt8)).map e_str) true) (AI (fun hp => AI rfl (AI rfl rfl)) ?_))
  obtain ⟨v2, h3, h⟩ := bind_some h
  refine Or.inl (EX (.bool v2) (AI (fun hp => AI (AI hp hp) (PFn.call (f9_ok (ite_tt hp h3)) (AI (VS rfl) (AI (Vw.islF _ _ _) TT)) (AI rfl (AI rfl rfl)))) ?_))
  refine AI (fun hc => (bqt hc)) ?_
  obtain ⟨v3, h4, h⟩ := bind_some h
  refine Or.inl (EX (.isl 1 (v3.map e_str) false) (AI (fun hp => AI hp (PFn.call (f23_ok (ite_tt hp h4)) (AI (VS rfl) (AI (VS rfl) TT)) (AI rfl (AI rfl rfl)))) ?_))
  refine Or.inl (EX (.isl 1 (([([100] : List UInt8)] : List (List UInt8)).map e_str) true) (AI (fun hp => AI rfl (AI rfl rfl)) ?_))
  obtain ⟨v4, h5, h⟩ := bind_some h
  refine Or.inl (EX (.bool v4) (AI (fun hp => AI (AI hp hp) (PFn.call (f9_ok (ite_tt hp h5)) (AI (VS rfl) (AI (Vw.islF _ _ _) TT)) (AI rfl (AI rfl rfl)))) ?_))
  refine AI (fun hc => (bqt hc)) ?_
  refine LWp.sim (e := [(0, .bool ((((v1.2 == 0) && (((v1.1.map e_QIndexEntry).length : Int) == 1)) && v2) && v4))]) (L := []) (n := 0) ?_ ?_
  · exact simI (M := []) rfl (AI (VS rfl) TT) TT
  refine retI ?_
  cases h
  exact AI TT (AI rfl (VS rfl))

theorem f6_ok {m : Option Nat} {o : Bool} (h : S_glossatorlaw3_indexExample m = some o) : PFn Try.prog 6 [] (.bool o) := PFn.ofFnW (L := f6_L) f6_low f6_fok (NB rfl) rfl (f6_start h)

def f57_c1 : LCode := (.seq (.region [⟨some 37, .bin .lss (.t 36) (.t 35), none⟩])
 (.seq (.cond (.t 37)
  .skip
  (.exit 2))
 (.seq (.block 3
  (.seq (.region [⟨some 38, .mv (.t 36), none⟩,
    ⟨some 6, .mv (.t 38), none⟩])
  (.seq (.region [⟨some 39, .mv (.t 5), none⟩,
    ⟨some 40, .mv (.t 6), none⟩,
    ⟨some 41, .idxS (.t 39) (.t 40), none⟩,
    ⟨some 42, .call 28 [(.t 41)], none⟩,
    ⟨some 43, .un .not (.t 42), none⟩])
  (.cond (.t 43)
   (.seq (.region [⟨some 2, .mv (.c (.bool false)), none⟩])
   .ret)
   .skip))))
 (.region [⟨some 44, .bin .add (.t 36) (.c (.int .i64 1)), none⟩,
   ⟨some 36, .mv (.t 44), none⟩]))))
def f57_c0 : LCode := (.region [⟨some 45, .bin .add (.t 9) (.c (.int .i64 1)), none⟩,
   ⟨some 9, .mv (.t 45), none⟩])
def f57_c3 : LCode := (.seq (.region [⟨some 10, .bin .lss (.t 9) (.t 8), none⟩])
 (.seq (.cond (.t 10)
  .skip
  (.exit 0))
 (.seq (.block 1
  (.seq (.region [⟨some 11, .mv (.t 9), none⟩,
    ⟨some 12, .iaddr 1 (.t 7) (.t 9), none⟩,
    ⟨some 13, .load false 1 (.t 12), none⟩,
    ⟨some 4, .mv (.t 11), none⟩,
    ⟨some 5, .mv (.t 13), none⟩])
  (.seq (.region [⟨some 14, .mv (.t 3), none⟩,
    ⟨some 15, .mv (.t 5), none⟩,
    ⟨some 16, .len true (.t 15), none⟩,
    ⟨some 17, .bin .add (.t 16) (.c (.int .i64 1)), none⟩,
    ⟨some 18, .bin .add (.t 14) (.t 17), none⟩,
    ⟨some 3, .mv (.t 18), none⟩])
  (.seq (.seq (.region [⟨some 19, .mv (.t 5), none⟩,
    ⟨some 20, .bin .eql (.t 19) (.c (.str [])), none⟩,
    ⟨some 21, .mv (.t 20), none⟩,
    ⟨some 22, .mv (.t 4), some (21, false)⟩,
    ⟨some 23, .bin .gtr (.t 22) (.c (.int .i64 0)), some (21, false)⟩,
    ⟨some 24, .mv (.t 23), some (21, false)⟩,
    ⟨some 25, .mv (.t 0), some (24, true)⟩,
    ⟨some 26, .mv (.t 4), some (24, true)⟩,
    ⟨some 27, .bin .sub (.t 26) (.c (.int .i64 1)), some (24, true)⟩,
    ⟨some 28, .iaddr 1 (.t 25) (.t 27), some (24, true)⟩,
    ⟨some 29, .load false 1 (.t 28), some (24, true)⟩,
    ⟨some 30, .mv (.t 5), some (24, true)⟩,
    ⟨some 31, .bin .geq (.t 29) (.t 30), some (24, true)⟩,
    ⟨some 32, .pick (.t 24) (.t 31) (.c (.bool false)), some (21, false)⟩,
    ⟨some 33, .pick (.t 21) (.c (.bool true)) (.t 32), none⟩])
  (.cond (.t 33)
   (.seq (.region [⟨some 2, .mv (.c (.bool false)), none⟩])
   .ret)
   .skip))
  (.seq (.region [⟨some 34, .mv (.t 5), none⟩,
    ⟨some 35, .len true (.t 34), none⟩,
    ⟨some 36, .mv (.c (.int .i64 0)), none⟩])
  (.block 2
   (.loop
    f57_c1)))))))
 f57_c0)))
def f57_c2 : LCode := (.seq (.region [⟨some 46, .mv (.t 0), none⟩,
   ⟨some 47, .len false (.t 46), none⟩,
   ⟨some 48, .bin .leq (.t 47) (.c (.int .i64 400)), none⟩,
   ⟨some 49, .mv (.t 48), none⟩,
   ⟨some 50, .mv (.t 3), some (49, true)⟩,
   ⟨some 51, .bin .leq (.t 50) (.c (.int .i64 2001)), some (49, true)⟩,
   ⟨some 52, .pick (.t 49) (.t 51) (.c (.bool false)), none⟩,
   ⟨some 2, .mv (.t 52), none⟩])
 .ret)
def f57_c4 : LCode := (.seq (.region [⟨some 2, .mv (.c (.bool false)), none⟩])
 (.seq (.region [⟨some 3, .mv (.c (.int .i64 0)), none⟩])
 (.seq (.seq (.region [⟨some 7, .mv (.t 0), none⟩,
   ⟨some 8, .len false (.t 7), none⟩,
   ⟨some 9, .mv (.c (.int .i64 0)), none⟩])
 (.block 0
  (.loop
   f57_c3)))
 f57_c2)))
def f57_lay : Lay := ⟨53, [], false⟩
def f57_res : List LRes := [.t 2]
def f57_L : LFn := ⟨1, f57_lay, f57_c4, f57_res⟩
theorem f57_low : lowFn Try.prog [] 57 = some f57_L := by kernel_rfl
theorem f57_fok : FnOk Try.prog 57 := ⟨_, Try.func57, rfl, rfl⟩
def f57_Q (a0 : List (List UInt8)) (o : Bool) : Exit → Env → AHeap → Nat → Prop := FinK f57_res (PureEnd (.bool o))

def f57_L3_env (a0 : List (List UInt8)) (s : (Int × Int)) : Env := [(0, .isl 1 (a0.map e_str) false), (3, .int .i64 s.1), (7, .isl 1 (a0.map e_str) false), (8, .int .i64 ((a0.map e_str).length : Int)), (9, .int .i64 s.2)]
def f57_L3_hp (a0 : List (List UInt8)) (s : (Int × Int)) : AHeap := []
def f57_L3_Q (a0 : List (List UInt8)) (o : Bool) : Exit → Env → AHeap → Nat → Prop := (QBlock 0 (QSeq Try.prog f57_lay 0 f57_c2 (f57_Q a0 o)))

def f57_L4_env (a0 : List (List UInt8)) (v5 : Int) (v6 : Int) (s : Int) : Env := [(0, .isl 1 (a0.map e_str) false), (3, .int .i64 (W (v5 + (W (((a0.getD v6.toNat default).length : Int) + 1))))), (5, .str (a0.getD v6.toNat default)), (7, .isl 1 (a0.map e_str) false), (8, .int .i64 ((a0.map e_str).length : Int)), (9, .int .i64 v6), (35, .int .i64 ((a0.getD v6.toNat default).length : Int)), (36, .int .i64 s)]
def f57_L4_hp (a0 : List (List UInt8)) (v5 : Int) (v6 : Int) (s : Int) : AHeap := []
def f57_L4_Q (a0 : List (List UInt8)) (o : ((Int × Int) ⊕ Bool)) : Exit → Env → AHeap → Nat → Prop := (QBlock 2 (QBlock 1 (QSeq Try.prog f57_lay 0 f57_c0 (BodyQ 0 0 (f57_L3_env a0) (f57_L3_hp a0) (f57_L3_Q a0) o))))

noncomputable def S_wordindex_validWords_j3 (m : Option Nat) (a0 : List (List UInt8)) (v5 : Int) (v6 : Int) : Option ((Int × Int) ⊕ Bool) :=
  some (.inl ((W (v5 + (W (((a0.getD v6.toNat default).length : Int) + 1)))), (W (v6 + 1))))

noncomputable def S_wordindex_validWords_b4 (m : Option Nat) (a0 : List (List UInt8)) (v5 : Int) (v6 : Int) (v12 : Int) : Option (Int ⊕ ((Int × Int) ⊕ Bool)) :=
  if (decide (v12 < ((a0.getD v6.toNat default).length : Int))) = true then
    if (0 : Int) ≤ v12 ∧ v12 < ((a0.getD v6.toNat default).length : Int) then
    (S_wordindex_isWordByte m ((((a0.getD v6.toNat default).getD v12.toNat 0).toNat : Nat) : Int)).bind fun v14 =>
    if (!v14) = true then
      Option.map Sum.inr (
        Option.map Sum.inr (
          some false))
    else
      some (.inl (W (v12 + 1)))
    else none
  else
    Option.map Sum.inr (
      S_wordindex_validWords_j3 m a0 v5 v6)

noncomputable def S_wordindex_validWords_l4 (m : Option Nat) (a0 : List (List UInt8)) (v5 : Int) (v6 : Int) (v12 : Int) : Option ((Int × Int) ⊕ Bool) := loopM m (fun (s : Int) => S_wordindex_validWords_b4 m a0 v5 v6 s) v12

theorem f57_j3_ok {a0 : List (List UInt8)} {v5 : Int} {v6 : Int} {m : Option Nat} {o : ((Int × Int) ⊕ Bool)} (h : S_wordindex_validWords_j3 m a0 v5 v6 = some o) :
    LWp Try.prog f57_lay 0 f57_c0 (BodyQ 0 0 (f57_L3_env a0) (f57_L3_hp a0) (f57_L3_Q a0) o) [(0, .isl 1 (a0.map e_str) false), (3, .int .i64 (W (v5 + (W (((a0.getD v6.toNat default).length : Int) + 1))))), (7, .isl 1 (a0.map e_str) false), (8, .int .i64 ((a0.map e_str).length : Int)), (9, .int .i64 v6)] [] 0 := by
  unfold S_wordindex_validWords_j3 at h
  refine regI ?_
  cases h
  exact AI rfl (simI (M := []) rfl (AI (VS rfl) (AI (VS rfl) (AI (VS rfl) (AI (VS rfl) (AI (VS rfl) TT))))) TT)

theorem f57_L4_bok {a0 : List (List UInt8)} {v5 : Int} {v6 : Int} {v12 : Int} {m : Option Nat} {o : Int ⊕ ((Int × Int) ⊕ Bool)} (h : S_wordindex_validWords_b4 m a0 v5 v6 v12 = some o) :
    LWp Try.prog f57_lay 0 f57_c1 (BodyQ 0 0 (f57_L4_env a0 v5 v6) (f57_L4_hp a0 v5 v6) (f57_L4_Q a0) o) [(0, .isl 1 (a0.map e_str) false), (3, .int .i64 (W (v5 + (W (((a0.getD v6.toNat default).length : Int) + 1))))), (5, .str (a0.getD v6.toNat default)), (7, .isl 1 (a0.map e_str) false), (8, .int .i64 ((a0.map e_str).length : Int)), (9, .int .i64 v6), (35, .int .i64 ((a0.getD v6.toNat default).length : Int)), (36, .int .i64 v12)] [] 0 := by
  unfold S_wordindex_validWords_b4 at h
  refine seqI ?_
  refine regI ?_
  refine seqI ?_
  refine condI (v := (decide (v12 < ((a0.getD v6.toNat default).length : Int)))) rfl TT (fun h45 => ?_) (fun h45 => ?_)
  · have h := ite_tt h45 h
    refine skipI ?_
    refine seqI ?_
    refine blockI ?_
    refine seqI ?_
    refine regI ?_
    refine seqI ?_
    refine regI ?_
    obtain ⟨h46, h⟩ := ite_some h
    refine AI h46 ?_
    obtain ⟨v14, h47, h⟩ := bind_some h
    refine PFn.call (f28_ok h47) (AI (VS rfl) TT) ?_
    refine LWp.sim (e := [(0, .isl 1 (a0.map e_str) false), (3, .int .i64 (W (v5 + (W (((a0.getD v6.toNat default).length : Int) + 1))))), (5, .str (a0.getD v6.toNat default)), (7, .isl 1 (a0.map e_str) false), (8, .int .i64 ((a0.map e_str).length : Int)), (9, .int .i64 v6), (35, .int .i64 ((a0.getD v6.toNat default).length : Int)), (36, .int .i64 v12), (43, .bool (!v14))]) (L := []) (n := 0) ?_ ?_
    · exact simI (M := []) rfl (AI (VS rfl) (AI (VS rfl) (AI (VS rfl) (AI (VS rfl) (AI (VS rfl) (AI (VS rfl) (AI (VS rfl) (AI (VS rfl) (AI (VS rfl) TT))))))))) TT
    refine condI (v := (!v14)) rfl TT (fun h48 => ?_) (fun h48 => ?_)
    · have h := ite_tt h48 h
      refine seqI ?_
      refine regI ?_
      refine retI ?_
      obtain ⟨o, hq, rfl⟩ := Option.map_eq_some_iff.1 h
      replace h := hq; clear hq
      refine AI nofun ?_
      obtain ⟨o, hq, rfl⟩ := Option.map_eq_some_iff.1 h
      replace h := hq; clear hq
      refine AI nofun ?_
      cases h
      exact AI TT (AI rfl (VS rfl))
    · have h := ite_ff h48 h
      refine skipI ?_
      refine regI ?_
      cases h
      exact AI rfl (simI (M := []) rfl (AI (VS rfl) (AI (VS rfl) (AI (VS rfl) (AI (VS rfl) (AI (VS rfl) (AI (VS rfl) (AI (VS rfl) (AI (VS rfl) TT)))))))) TT)
  · have h := ite_ff h45 h
    refine exitI ?_
    obtain ⟨o, hq, rfl⟩ := Option.map_eq_some_iff.1 h
    replace h := hq; clear hq
    refine AI nofun ?_
    refine LWp.sim ?_ (f57_j3_ok h)
    exact simI (M := []) rfl (AI (VS rfl) (AI (VS rfl) (AI (VS rfl) (AI (VS rfl) (AI (VS rfl) TT))))) TT

theorem f57_L4_ok {a0 : List (List UInt8)} {v5 : Int} {v6 : Int} {v12 : Int} {m : Option Nat} {o : ((Int × Int) ⊕ Bool)} (h : S_wordindex_validWords_l4 m a0 v5 v6 v12 = some o) :
    LWp Try.prog f57_lay 0 (.loop f57_c1) (QBlock 2 (QBlock 1 (QSeq Try.prog f57_lay 0 f57_c0 (BodyQ 0 0 (f57_L3_env a0) (f57_L3_hp a0) (f57_L3_Q a0) o)))) [(0, .isl 1 (a0.map e_str) false), (3, .int .i64 (W (v5 + (W (((a0.getD v6.toNat default).length : Int) + 1))))), (5, .str (a0.getD v6.toNat default)), (7, .isl 1 (a0.map e_str) false), (8, .int .i64 ((a0.map e_str).length : Int)), (9, .int .i64 v6), (35, .int .i64 ((a0.getD v6.toNat default).length : Int)), (36, .int .i64 v12)] [] 0 :=
  LWp_loopM (m := m) (s := (v12 : Int)) (r := o) (fun (s : Int) => S_wordindex_validWords_b4 m a0 v5 v6 s) (f57_L4_env a0 v5 v6) (f57_L4_hp a0 v5 v6) (f57_L4_Q a0) (fun s o h => f57_L4_bok h) h

noncomputable def S_wordindex_validWords_j4 (m : Option Nat) (a0 : List (List UInt8)) (v5 : Int) : Option Bool :=
  some ((decide (((a0.map e_str).length : Int) ≤ 400)) && (decide (v5 ≤ 2001)))

noncomputable def S_wordindex_validWords_b3 (m : Option Nat) (a0 : List (List UInt8)) (v5 : Int) (v6 : Int) : Option ((Int × Int) ⊕ Bool) :=
  if (decide (v6 < ((a0.map e_str).length : Int))) = true then
    if (0 : Int) ≤ v6 ∧ v6 < ((a0.map e_str).length : Int) then
    if (((((a0.getD v6.toNat default) == ([] : List UInt8)) == false) && ((decide (v6 > 0)) == true)) = true → (0 : Int) ≤ (W (v6 - 1)) ∧ (W (v6 - 1)) < ((a0.map e_str).length : Int)) then
    if (((a0.getD v6.toNat default) == ([] : List UInt8)) || ((decide (v6 > 0)) && (!(Op.bytesLess (a0.getD ((W (v6 - 1)).toNat) default) (a0.getD v6.toNat default))))) = true then
      Option.map Sum.inr (
        some false)
    else
      S_wordindex_validWords_l4 m a0 v5 v6 0
    else none
    else none
  else
    Option.map Sum.inr (
      S_wordindex_validWords_j4 m a0 v5)

noncomputable def S_wordindex_validWords_l3 (m : Option Nat) (a0 : List (List UInt8)) (v5 : Int) (v6 : Int) : Option Bool := loopM m (fun (s : (Int × Int)) => S_wordindex_validWords_b3 m a0 s.1 s.2) (v5, v6)

theorem f57_j4_ok {a0 : List (List UInt8)} {v5 : Int} {m : Option Nat} {o : Bool} (h : S_wordindex_validWords_j4 m a0 v5 = some o) :
    LWp Try.prog f57_lay 0 f57_c2 (f57_Q a0 o) [(0, .isl 1 (a0.map e_str) false), (3, .int .i64 v5)] [] 0 := by
  unfold S_wordindex_validWords_j4 at h
  refine seqI ?_
  refine regI ?_
  refine AI (fun hp => hp) ?_
  refine AI (fun hc => (bqt hc)) ?_
  refine LWp.sim (e := [(2, .bool ((decide (((a0.map e_str).length : Int) ≤ 400)) && (decide (v5 ≤ 2001))))]) (L := []) (n := 0) ?_ ?_
  · exact simI (M := []) rfl (AI (VS rfl) TT) TT
  refine retI ?_
  cases h
  exact AI TT (AI rfl (VS rfl))

theorem f57_L3_bok {a0 : List (List UInt8)} {v5 : Int} {v6 : Int} {m : Option Nat} {o : (Int × Int) ⊕ Bool} (h : S_wordindex_validWords_b3 m a0 v5 v6 = some o) :
    LWp Try.prog f57_lay 0 f57_c3 (BodyQ 0 0 (f57_L3_env a0) (f57_L3_hp a0) (f57_L3_Q a0) o) [(0, .isl 1 (a0.map e_str) false), (3, .int .i64 v5), (7, .isl 1 (a0.map e_str) false), (8, .int .i64 ((a0.map e_str).length : Int)), (9, .int .i64 v6)] [] 0 := by
  unfold S_wordindex_validWords_b3 at h
  refine seqI ?_
  refine regI ?_
  refine seqI ?_
  refine condI (v := (decide (v6 < ((a0.map e_str).length : Int)))) rfl TT (fun h33 => ?_) (fun h33 => ?_)
  · have h := ite_tt h33 h
    refine skipI ?_
    refine seqI ?_
    refine blockI ?_
    refine seqI ?_
    refine regI ?_
    obtain ⟨h34, h⟩ := ite_some h
    refine AI h34 ?_
    refine EX (e_str (a0.getD v6.toNat default)) (AI (getD_enc e_str _ _ (idx_ltL e_str h34)) (AI (AI (idx_lt h34) (NB rfl)) ?_))
    refine seqI ?_
    refine regI ?_
    refine LWp.sim (e := [(0, .isl 1 (a0.map e_str) false), (3, .int .i64 (W (v5 + (W (((a0.getD v6.toNat default).length : Int) + 1))))), (4, .int .i64 v6), (5, .str (a0.getD v6.toNat default)), (7, .isl 1 (a0.map e_str) false), (8, .int .i64 ((a0.map e_str).length : Int)), (9, .int .i64 v6)]) (L := []) (n := 0) ?_ ?_
    · exact simI (M := []) rfl (AI (VS rfl) (AI (VS rfl) (AI (VS rfl) (AI (VS rfl) (AI (VS rfl) (AI (VS rfl) (AI (VS rfl) TT))))))) TT
    refine seqI ?_
    refine seqI ?_
    refine regI ?_
    refine AI (fun hp => hp) ?_
    refine AI (fun hp => hp) ?_
    refine AI (fun hp => hp) ?_
    obtain ⟨h35, h⟩ := ite_some h
    refine AI (fun hp => (AI (AI hp hp) (h35 hp))) ?_
    refine EX (e_str (a0.getD ((W (v6 - 1)).toNat) default)) (AI (fun hp => AI (getD_enc e_str _ _ (idx_ltL e_str (h35 hp))) (AI hp (AI (idx_lt (h35 hp)) (NB rfl)))) ?_)
    refine AI (fun hp => (AI hp hp)) ?_
    refine AI (fun hp => (AI hp (fun hc => (and_i hp (bqt hc))))) ?_
    refine AI (fun hc => (bqf hc)) ?_
    refine LWp.sim (e := [(0, .isl 1 (a0.map e_str) false), (3, .int .i64 (W (v5 + (W (((a0.getD v6.toNat default).length : Int) + 1))))), (5, .str (a0.getD v6.toNat default)), (7, .isl 1 (a0.map e_str) false), (8, .int .i64 ((a0.map e_str).length : Int)), (9, .int .i64 v6), (33, .bool (((a0.getD v6.toNat default) == ([] : List UInt8)) || ((decide (v6 > 0)) && (!(Op.bytesLess (a0.getD ((W (v6 - 1)).toNat) default) (a0.getD v6.toNat default))))))]) (L := []) (n := 0) ?_ ?_
    · exact simI (M := []) rfl (AI (VS rfl) (AI (VS rfl) (AI (VS rfl) (AI (VS rfl) (AI (VS rfl) (AI (VS rfl) (AI (VS rfl) TT))))))) TT
    refine condI (v := (((a0.getD v6.toNat default) == ([] : List UInt8)) || ((decide (v6 > 0)) && (!(Op.bytesLess (a0.getD ((W (v6 - 1)).toNat) default) (a0.getD v6.toNat default)))))) rfl TT (fun h36 => ?_) (fun h36 => ?_)
    · have h := ite_tt h36 h
      refine seqI ?_
      refine regI ?_
      refine retI ?_
      obtain ⟨o, hq, rfl⟩ := Option.map_eq_some_iff.1 h
      replace h := hq; clear hq
      refine AI nofun ?_
      cases h
      exact AI TT (AI rfl (VS rfl))
    · have h := ite_ff h36 h
      refine skipI ?_
      refine seqI ?_
      refine regI ?_
      refine blockI ?_
      refine LWp.sim ?_ (f57_L4_ok h)
      exact simI (M := []) rfl (AI (VS rfl) (AI (VS rfl) (AI (VS rfl) (AI (VS rfl) (AI (VS rfl) (AI (VS rfl) (AI (VS rfl) (AI (VS rfl) TT)))))))) TT
  · have h := ite_ff h33 h
    refine exitI ?_
    obtain ⟨o, hq, rfl⟩ := Option.map_eq_some_iff.1 h
    replace h := hq; clear hq
    refine AI nofun ?_
    refine LWp.sim ?_ (f57_j4_ok h)
    exact simI (M := []) rfl (AI (VS rfl) (AI (VS rfl) TT)) TT

theorem f57_L3_ok {a0 : List (List UInt8)} {v5 : Int} {v6 : Int} {m : Option Nat} {o : Bool} (h : S_wordindex_validWords_l3 m a0 v5 v6 = some o) :
    LWp Try.prog f57_lay 0 (.loop f57_c3) (QBlock 0 (QSeq Try.prog f57_lay 0 f57_c2 (f57_Q a0 o))) [(0, .isl 1 (a0.map e_str) false), (3, .int .i64 v5), (7, .isl 1 (a0.map e_str) false), (8, .int .i64 ((a0.map e_str).length : Int)), (9, .int .i64 v6)] [] 0 :=
  LWp_loopM (m := m) (s := ((v5, v6) : (Int × Int))) (r := o) (fun (s : (Int × Int)) => S_wordindex_validWords_b3 m a0 s.1 s.2) (f57_L3_env a0) (f57_L3_hp a0) (f57_L3_Q a0) (fun s o h => f57_L3_bok h) h

noncomputable def S_wordindex_validWords (m : Option Nat) (a0 : List (List UInt8)) : Option Bool :=
  S_wordindex_validWords_l3 m a0 0 0

theorem f57_start {a0 : List (List UInt8)} {m : Option Nat} {o : Bool} (h : S_wordindex_validWords m a0 = some o) : LWp Try.prog f57_lay 0 f57_c4 (f57_Q a0 o) (initEnv 0 [.isl 1 (a0.map e_str) false]) [] 0 := by
  unfold S_wordindex_validWords at h
  refine seqI ?_
  refine regI ?_
  refine seqI ?_
  refine regI ?_
  refine seqI ?_
  refine seqI ?_
  refine regI ?_
  refine blockI ?_
  refine LWp.sim ?_ (f57_L3_ok h)
  exact simI (M := []) rfl (AI (VS rfl) (AI (VS rfl) (AI (VS rfl) (AI (VS rfl) (AI (VS rfl) TT))))) TT

theorem f57_ok {a0 : List (List UInt8)} {m : Option Nat} {o : Bool} (h : S_wordindex_validWords m a0 = some o) : PFn Try.prog 57 [.isl 1 (a0.map e_str) false] (.bool o) := PFn.ofFnW (L := f57_L) f57_low f57_fok (NB rfl) rfl (f57_start h)

def f33_c1 : LCode := (.seq (.region [⟨some 8, .bin .lss (.t 7) (.t 6), none⟩])
 (.seq (.cond (.t 8)
  .skip
  (.exit 0))
 (.seq (.block 1
  (.seq (.region [⟨some 9, .mv (.t 7), none⟩,
    ⟨some 10, .iaddr 3 (.t 5) (.t 7), none⟩,
    ⟨some 11, .load true 3 (.t 10), none⟩,
    ⟨some 4, .alloc [(.str []), (.int .u32 0), (.isl 1 [] true)], none⟩,
    ⟨some 3, .mv (.t 9), none⟩,
    ⟨none, .store 3 (.t 4) (.t 11), none⟩])
  (.seq (.draw [⟨⟨some 12, .faddr 0 (.t 4), none⟩, []⟩,
    ⟨⟨some 13, .load false 1 (.t 12), none⟩, []⟩,
    ⟨⟨some 14, .bin .eql (.t 13) (.c (.str [])), none⟩, []⟩,
    ⟨⟨some 15, .mv (.t 14), none⟩, []⟩,
    ⟨⟨some 16, .faddr 0 (.t 4), some (15, false)⟩, []⟩,
    ⟨⟨some 17, .load false 1 (.t 16), some (15, false)⟩, []⟩,
    ⟨⟨some 18, .len true (.t 17), some (15, false)⟩, []⟩,
    ⟨⟨some 19, .bin .gtr (.t 18) (.c (.int .i64 60)), some (15, false)⟩, []⟩,
    ⟨⟨some 20, .pick (.t 15) (.c (.bool true)) (.t 19), none⟩, []⟩,
    ⟨⟨some 21, .mv (.t 20), none⟩, []⟩,
    ⟨⟨some 22, .mv (.t 3), some (21, false)⟩, []⟩,
    ⟨⟨some 23, .bin .gtr (.t 22) (.c (.int .i64 0)), some (21, false)⟩, []⟩,
    ⟨⟨some 24, .mv (.t 23), some (21, false)⟩, []⟩,
    ⟨⟨some 25, .mv (.t 0), some (24, true)⟩, []⟩,
    ⟨⟨some 26, .mv (.t 3), some (24, true)⟩, []⟩,
    ⟨⟨some 27, .bin .sub (.t 26) (.c (.int .i64 1)), some (24, true)⟩, []⟩,
    ⟨⟨some 28, .iaddr 3 (.t 25) (.t 27), some (24, true)⟩, []⟩,
    ⟨⟨some 29, .faddr 0 (.t 28), some (24, true)⟩, []⟩,
    ⟨⟨some 30, .load false 1 (.t 29), some (24, true)⟩, []⟩,
    ⟨⟨some 31, .faddr 0 (.t 4), some (24, true)⟩, []⟩,
    ⟨⟨some 32, .load false 1 (.t 31), some (24, true)⟩, []⟩,
    ⟨⟨some 33, .bin .geq (.t 30) (.t 32), some (24, true)⟩, []⟩,
    ⟨⟨some 34, .pick (.t 24) (.t 33) (.c (.bool false)), some (21, false)⟩, []⟩,
    ⟨⟨some 35, .pick (.t 21) (.c (.bool true)) (.t 34), none⟩, []⟩,
    ⟨⟨some 36, .mv (.t 35), none⟩, []⟩,
    ⟨⟨some 37, .faddr 2 (.t 4), some (36, false)⟩, []⟩,
    ⟨⟨some 38, .load false 1 (.t 37), some (36, false)⟩, []⟩,
    ⟨⟨some 39, .call 57 [(.t 38)], some (36, false)⟩, []⟩,
    ⟨⟨some 40, .un .not (.t 39), some (36, false)⟩, []⟩,
    ⟨⟨some 41, .pick (.t 36) (.c (.bool true)) (.t 40), none⟩, []⟩])
  (.cond (.t 41)
   (.seq (.region [⟨some 2, .mv (.c (.bool false)), none⟩])
   .ret)
   .skip))))
 (.region [⟨some 42, .bin .add (.t 7) (.c (.int .i64 1)), none⟩,
   ⟨some 7, .mv (.t 42), none⟩]))))
def f33_c0 : LCode := (.seq (.region [⟨some 43, .mv (.t 0), none⟩,
   ⟨some 44, .len false (.t 43), none⟩,
   ⟨some 45, .bin .leq (.t 44) (.c (.int .i64 20)), none⟩,
   ⟨some 2, .mv (.t 45), none⟩])
 .ret)
def f33_c2 : LCode := (.seq (.region [⟨some 2, .mv (.c (.bool false)), none⟩])
 (.seq (.seq (.region [⟨some 5, .mv (.t 0), none⟩,
   ⟨some 6, .len false (.t 5), none⟩,
   ⟨some 7, .mv (.c (.int .i64 0)), none⟩])
 (.block 0
  (.loop
   f33_c1)))
 f33_c0))
def f33_lay : Lay := ⟨46, [], false⟩
def f33_res : List LRes := [.t 2]
def f33_L : LFn := ⟨1, f33_lay, f33_c2, f33_res⟩
theorem f33_low : lowFn Try.prog [] 33 = some f33_L := by kernel_rfl
theorem f33_fok : FnOk Try.prog 33 := ⟨_, Try.func33, rfl, rfl⟩
def f33_Q (a0 : List G_QIndexEntry) (o : Bool) : Exit → Env → AHeap → Nat → Prop := FinK f33_res (PureEnd (.bool o))

def f33_L1_env (a0 : List G_QIndexEntry) (s : Int) : Env := [(0, .isl 3 (a0.map e_QIndexEntry) false), (5, .isl 3 (a0.map e_QIndexEntry) false), (6, .int .i64 ((a0.map e_QIndexEntry).length : Int)), (7, .int .i64 s)]
def f33_L1_hp (a0 : List G_QIndexEntry) (s : Int) : AHeap := []
def f33_L1_Q (a0 : List G_QIndexEntry) (o : Bool) : Exit → Env → AHeap → Nat → Prop := (QBlock 0 (QSeq Try.prog f33_lay 0 f33_c0 (f33_Q a0 o)))

noncomputable def S_wordindex_valid_j1 (m : Option Nat) (a0 : List G_QIndexEntry) : Option Bool :=
  some (decide (((a0.map e_QIndexEntry).length : Int) ≤ 20))

noncomputable def S_wordindex_valid_b1 (m : Option Nat) (a0 : List G_QIndexEntry) (v2 : Int) : Option (Int ⊕ Bool) :=
  if (decide (v2 < ((a0.map e_QIndexEntry).length : Int))) = true then
    if (0 : Int) ≤ v2 ∧ v2 < ((a0.map e_QIndexEntry).length : Int) then
    if ((((((a0.getD v2.toNat default).f_Name == ([] : List UInt8)) || (decide ((((a0.getD v2.toNat default).f_Name).length : Int) > 60))) == false) && ((decide (v2 > 0)) == true)) = true → (0 : Int) ≤ (W (v2 - 1)) ∧ (W (v2 - 1)) < ((a0.map e_QIndexEntry).length : Int)) then
    (if (((((a0.getD v2.toNat default).f_Name == ([] : List UInt8)) || (decide ((((a0.getD v2.toNat default).f_Name).length : Int) > 60))) || ((decide (v2 > 0)) && (!(Op.bytesLess ((a0.getD ((W (v2 - 1)).toNat) default).f_Name) ((a0.getD v2.toNat default).f_Name))))) == false) = true then S_wordindex_validWords m ((a0.getD v2.toNat default).f_Words) else some default).bind fun v4 =>
    if (((((a0.getD v2.toNat default).f_Name == ([] : List UInt8)) || (decide ((((a0.getD v2.toNat default).f_Name).length : Int) > 60))) || ((decide (v2 > 0)) && (!(Op.bytesLess ((a0.getD ((W (v2 - 1)).toNat) default).f_Name) ((a0.getD v2.toNat default).f_Name))))) || (!v4)) = true then
      Option.map Sum.inr (
        some false)
    else
      some (.inl (W (v2 + 1)))
    else none
    else none
  else
    Option.map Sum.inr (
      S_wordindex_valid_j1 m a0)

noncomputable def S_wordindex_valid_l1 (m : Option Nat) (a0 : List G_QIndexEntry) (v2 : Int) : Option Bool := loopM m (fun (s : Int) => S_wordindex_valid_b1 m a0 s) v2

theorem f33_j1_ok {a0 : List G_QIndexEntry} {m : Option Nat} {o : Bool} (h : S_wordindex_valid_j1 m a0 = some o) :
    LWp Try.prog f33_lay 0 f33_c0 (f33_Q a0 o) [(0, .isl 3 (a0.map e_QIndexEntry) false)] [] 0 := by
  unfold S_wordindex_valid_j1 at h
  refine seqI ?_
  refine regI ?_
  refine retI ?_
  cases h
  exact AI TT (AI rfl (VS rfl))

theorem f33_L1_bok {a0 : List G_QIndexEntry} {v2 : Int} {m : Option Nat} {o : Int ⊕ Bool} (h : S_wordindex_valid_b1 m a0 v2 = some o) :
    LWp Try.prog f33_lay 0 f33_c1 (BodyQ 0 0 (f33_L1_env a0) (f33_L1_hp a0) (f33_L1_Q a0) o) [(0, .isl 3 (a0.map e_QIndexEntry) false), (5, .isl 3 (a0.map e_QIndexEntry) false), (6, .int .i64 ((a0.map e_QIndexEntry).length : Int)), (7, .int .i64 v2)] [] 0 := by
  unfold S_wordindex_valid_b1 at h
  refine seqI ?_
  refine regI ?_
  refine seqI ?_
  refine condI (v := (decide (v2 < ((a0.map e_QIndexEntry).length : Int)))) rfl TT (fun h11 => ?_) (fun h11 => ?_)
  · have h := ite_tt h11 h
    refine skipI ?_
    refine seqI ?_
    refine blockI ?_
    refine seqI ?_
    refine regI ?_
    obtain ⟨h12, h⟩ := ite_some h
    refine AI h12 ?_
    refine EX (e_QIndexEntry (a0.getD v2.toNat default)) (AI (getD_enc e_QIndexEntry _ _ (idx_ltL e_QIndexEntry h12)) (AI (AI (idx_lt h12) (NB rfl)) ?_))
    refine seqI ?_
    refine drawO rfl ?_
    refine AI (fun hp => hp) ?_
    refine AI (fun hp => hp) ?_
    refine AI (fun hp => hp) ?_
    refine AI (fun hc => (bqf hc)) ?_
    refine AI (fun hp => hp) ?_
    refine AI (fun hp => hp) ?_
    refine AI (fun hp => hp) ?_
    obtain ⟨h13, h⟩ := ite_some h
    refine AI (fun hp => (AI (AI hp hp) (h13 hp))) ?_
    refine AI (fun hp => hp) ?_
    refine EX (e_QIndexEntry (a0.getD ((W (v2 - 1)).toNat) default)) (AI (fun hp => AI (getD_enc e_QIndexEntry _ _ (idx_ltL e_QIndexEntry (h13 hp))) (AI hp (AI (idx_lt (h13 hp)) (NB rfl)))) ?_)
    refine AI (fun hp => hp) ?_
    refine AI (fun hp => (AI hp hp)) ?_
    refine AI (fun hp => (AI hp (fun hc => (and_i hp (bqt hc))))) ?_
    refine AI (fun hc => (bqf hc)) ?_
    refine AI (fun hp => hp) ?_
    obtain ⟨v4, h14, h⟩ := bind_some h
    refine Or.inl (EX (.bool v4) (AI (fun hp => AI hp (PFn.call (f57_ok (ite_tt hp h14)) (AI (VS rfl) TT) (AI rfl (AI rfl rfl)))) ?_))
    refine AI (fun hp => hp) ?_
    refine AI (fun hc => (bqf hc)) ?_
    refine LWp.sim (e := [(0, .isl 3 (a0.map e_QIndexEntry) false), (5, .isl 3 (a0.map e_QIndexEntry) false), (6, .int .i64 ((a0.map e_QIndexEntry).length : Int)), (7, .int .i64 v2), (41, .bool (((((a0.getD v2.toNat default).f_Name == ([] : List UInt8)) || (decide ((((a0.getD v2.toNat default).f_Name).length : Int) > 60))) || ((decide (v2 > 0)) && (!(Op.bytesLess ((a0.getD ((W (v2 - 1)).toNat) default).f_Name) ((a0.getD v2.toNat default).f_Name))))) || (!v4)))]) (L := []) (n := 0) ?_ ?_
    · exact simI (M := []) rfl (AI (VS rfl) (AI (VS rfl) (AI (VS rfl) (AI (VS rfl) (AI (VS rfl) TT))))) TT
    refine condI (v := (((((a0.getD v2.toNat default).f_Name == ([] : List UInt8)) || (decide ((((a0.getD v2.toNat default).f_Name).length : Int) > 60))) || ((decide (v2 > 0)) && (!(Op.bytesLess ((a0.getD ((W (v2 - 1)).toNat) default).f_Name) ((a0.getD v2.toNat default).f_Name))))) || (!v4))) rfl TT (fun h15 => ?_) (fun h15 => ?_)
    · have h := ite_tt h15 h
      refine seqI ?_
      refine regI ?_
      refine retI ?_
      obtain ⟨o, hq, rfl⟩ := Option.map_eq_some_iff.1 h
      replace h := hq; clear hq
      refine AI nofun ?_
      cases h
      exact AI TT (AI rfl (VS rfl))
    · have h := ite_ff h15 h
      refine skipI ?_
      refine regI ?_
      cases h
      exact AI rfl (simI (M := []) rfl (AI (VS rfl) (AI (VS rfl) (AI (VS rfl) (AI (VS rfl) TT)))) TT)
  · have h := ite_ff h11 h
    refine exitI ?_
    obtain ⟨o, hq, rfl⟩ := Option.map_eq_some_iff.1 h
    replace h := hq; clear hq
    refine AI nofun ?_
    refine LWp.sim ?_ (f33_j1_ok h)
    exact simI (M := []) rfl (AI (VS rfl) TT) TT

theorem f33_L1_ok {a0 : List G_QIndexEntry} {v2 : Int} {m : Option Nat} {o : Bool} (h : S_wordindex_valid_l1 m a0 v2 = some o) :
    LWp Try.prog f33_lay 0 (.loop f33_c1) (QBlock 0 (QSeq Try.prog f33_lay 0 f33_c0 (f33_Q a0 o))) [(0, .isl 3 (a0.map e_QIndexEntry) false), (5, .isl 3 (a0.map e_QIndexEntry) false), (6, .int .i64 ((a0.map e_QIndexEntry).length : Int)), (7, .int .i64 v2)] [] 0 :=
  LWp_loopM (m := m) (s := (v2 : Int)) (r := o) (fun (s : Int) => S_wordindex_valid_b1 m a0 s) (f33_L1_env a0) (f33_L1_hp a0) (f33_L1_Q a0) (fun s o h => f33_L1_bok h) h

noncomputable def S_wordindex_valid (m : Option Nat) (a0 : List G_QIndexEntry) : Option Bool :=
  S_wordindex_valid_l1 m a0 0

theorem f33_start {a0 : List G_QIndexEntry} {m : Option Nat} {o : Bool} (h : S_wordindex_valid m a0 = some o) : LWp Try.prog f33_lay 0 f33_c2 (f33_Q a0 o) (initEnv 0 [.isl 3 (a0.map e_QIndexEntry) false]) [] 0 := by
  unfold S_wordindex_valid at h
  refine seqI ?_
  refine regI ?_
  refine seqI ?_
  refine seqI ?_
  refine regI ?_
  refine blockI ?_
  refine LWp.sim ?_ (f33_L1_ok h)
  exact simI (M := []) rfl (AI (VS rfl) (AI (VS rfl) (AI (VS rfl) (AI (VS rfl) TT)))) TT

theorem f33_ok {a0 : List G_QIndexEntry} {m : Option Nat} {o : Bool} (h : S_wordindex_valid m a0 = some o) : PFn Try.prog 33 [.isl 3 (a0.map e_QIndexEntry) false] (.bool o) := PFn.ofFnW (L := f33_L) f33_low f33_fok (NB rfl) rfl (f33_start h)

def f27c0_c0 : LCode := (.seq (.region [⟨some 2, .box (.t 0), none⟩,
   ⟨some 3, .box (.t 1), none⟩,
   ⟨some 4, .mv (.c (.int .i64 0)), none⟩])
 (.seq (.region [⟨some 5, .faddr 0 (.t 2), none⟩,
   ⟨some 6, .load false 1 (.t 5), none⟩,
   ⟨some 7, .faddr 0 (.t 3), none⟩,
   ⟨some 8, .load false 1 (.t 7), none⟩,
   ⟨some 9, .call 55 [(.t 6), (.t 8)], none⟩,
   ⟨some 4, .mv (.t 9), none⟩])
 .ret))
def f27c0_lay : Lay := ⟨10, [], false⟩
def f27c0_res : List LRes := [.t 4]
def f27c0_L : LFn := ⟨2, f27c0_lay, f27c0_c0, f27c0_res⟩
theorem f27c0_low : lowFn Try.prog [] 27 = some f27c0_L := by kernel_rfl
theorem f27c0_fok : FnOk Try.prog 27 := ⟨_, Try.func27, rfl, rfl⟩
noncomputable def S_wordindex_compareNamesc (m : Option Nat) (a0 : G_QIndexEntry) (a1 : G_QIndexEntry) : Option Int :=
  (S_strings_Compare m a0.f_Name a1.f_Name).bind fun v1 =>
  some v1

def f27c0_Q (a0 : G_QIndexEntry) (a1 : G_QIndexEntry) (o : Int) : Exit → Env → AHeap → Nat → Prop := FinK f27c0_res (FinTo 3 4 (.int .i64 o) [])

theorem f27c0_start {a0 : G_QIndexEntry} {a1 : G_QIndexEntry} {m : Option Nat} {o : Int} (h : S_wordindex_compareNamesc m a0 a1 = some o) : LWp Try.prog f27c0_lay 3 f27c0_c0 (f27c0_Q a0 a1 o) (initEnv 0 [.agg [.str a0.f_Name, .int .u32 a0.f_Sum, .isl 1 (a0.f_Words.map e_str) false], .agg [.str a1.f_Name, .int .u32 a1.f_Sum, .isl 1 (a1.f_Words.map e_str) false]]) [] 3 := by
  unfold S_wordindex_compareNamesc at h
  refine seqI ?_
  refine regI ?_
  refine seqI ?_
  refine regI ?_
  obtain ⟨v1, h1, h⟩ := bind_some h
  refine PFn.call (f55_ok h1) (AI (VS rfl) (AI (VS rfl) TT)) ?_
  refine LWp.sim (e := [(4, .int .i64 v1)]) (L := []) (n := 3) ?_ ?_
  · exact simI (M := []) rfl (AI (VS rfl) TT) TT
  refine retI ?_
  cases h
  exact AI TT (finI (n' := 3) [] [] rfl rfl (VS rfl) TT)

theorem f27c0_ok {a0 : G_QIndexEntry} {a1 : G_QIndexEntry} {m : Option Nat} {o : Int} (h : S_wordindex_compareNamesc m a0 a1 = some o) : ACalls Try.prog 27 [.agg [.str a0.f_Name, .int .u32 a0.f_Sum, .isl 1 (a0.f_Words.map e_str) false], .agg [.str a1.f_Name, .int .u32 a1.f_Sum, .isl 1 (a1.f_Words.map e_str) false]] [] 3 (Gives 4 (.int .i64 o) []) := bfn_of (L := f27c0_L) f27c0_low f27c0_fok (NB rfl) (f27c0_start h)

def f40b0_c1 : LCode := (.seq (.seq (.region [⟨some 15, .mv (.t 9), none⟩,
   ⟨some 16, .mv (.t 10), none⟩,
   ⟨some 17, .bin .lss (.t 15) (.t 16), none⟩])
 (.cond (.t 17)
  .skip
  (.exit 0)))
 (.block 1
  (.seq (.region [⟨some 18, .mv (.t 9), none⟩,
    ⟨some 19, .mv (.t 10), none⟩,
    ⟨some 20, .bin .add (.t 18) (.t 19), none⟩,
    ⟨some 21, .conv (.int .u64) (.t 20), none⟩,
    ⟨some 22, .bin .shr (.t 21) (.c (.int .u64 1)), none⟩,
    ⟨some 23, .conv (.int .i64) (.t 22), none⟩,
    ⟨some 11, .mv (.t 23), none⟩])
  (.seq (.draw [⟨⟨some 24, .mv (.t 2), none⟩, []⟩,
    ⟨⟨some 25, .mv (.t 0), none⟩, []⟩,
    ⟨⟨some 26, .mv (.t 11), none⟩, []⟩,
    ⟨⟨some 27, .iaddr 3 (.t 25) (.t 26), none⟩, []⟩,
    ⟨⟨some 28, .load true 3 (.t 27), none⟩, []⟩,
    ⟨⟨some 29, .load true 3 (.t 4), none⟩, []⟩,
    ⟨⟨some 30, .callv (.t 24) [(.t 28), (.t 29)], none⟩, []⟩,
    ⟨⟨some 31, .bin .lss (.t 30) (.c (.int .i64 0)), none⟩, []⟩])
  (.cond (.t 31)
   (.region [⟨some 32, .mv (.t 11), none⟩,
     ⟨some 33, .bin .add (.t 32) (.c (.int .i64 1)), none⟩,
     ⟨some 9, .mv (.t 33), none⟩])
   (.region [⟨some 34, .mv (.t 11), none⟩,
     ⟨some 10, .mv (.t 34), none⟩]))))))
def f40b0_c2 : LCode := .ret
def f40b0_c0 : LCode := (.seq (.draw [⟨⟨some 35, .mv (.t 9), none⟩, []⟩,
   ⟨⟨some 36, .mv (.t 9), none⟩, []⟩,
   ⟨⟨some 37, .mv (.t 8), none⟩, []⟩,
   ⟨⟨some 38, .bin .lss (.t 36) (.t 37), none⟩, []⟩,
   ⟨⟨some 39, .mv (.t 38), none⟩, []⟩,
   ⟨⟨some 40, .mv (.t 2), some (39, true)⟩, []⟩,
   ⟨⟨some 41, .mv (.t 0), some (39, true)⟩, []⟩,
   ⟨⟨some 42, .mv (.t 9), some (39, true)⟩, []⟩,
   ⟨⟨some 43, .iaddr 3 (.t 41) (.t 42), some (39, true)⟩, []⟩,
   ⟨⟨some 44, .load true 3 (.t 43), some (39, true)⟩, []⟩,
   ⟨⟨some 45, .load true 3 (.t 4), some (39, true)⟩, []⟩,
   ⟨⟨some 46, .callv (.t 40) [(.t 44), (.t 45)], some (39, true)⟩, []⟩,
   ⟨⟨some 47, .bin .eql (.t 46) (.c (.int .i64 0)), some (39, true)⟩, []⟩,
   ⟨⟨some 48, .pick (.t 39) (.t 47) (.c (.bool false)), none⟩, []⟩,
   ⟨⟨some 6, .mv (.t 35), none⟩, []⟩,
   ⟨⟨some 7, .mv (.t 48), none⟩, []⟩])
 f40b0_c2)
def f40b0_c3 : LCode := (.seq (.region [⟨some 4, .box (.t 1), none⟩,
   ⟨some 6, .mv (.c (.int .i64 0)), none⟩,
   ⟨some 7, .mv (.c (.bool false)), none⟩])
 (.seq (.region [⟨some 12, .mv (.t 0), none⟩,
   ⟨some 13, .len false (.t 12), none⟩,
   ⟨some 8, .mv (.t 13), none⟩])
 (.seq (.region [⟨some 14, .mv (.t 8), none⟩,
   ⟨some 9, .mv (.c (.int .i64 0)), none⟩,
   ⟨some 10, .mv (.t 14), none⟩])
 (.seq (.block 0
  (.loop
   f40b0_c1))
 f40b0_c0))))
def f40b0_lay : Lay := ⟨49, [], false⟩
def f40b0_res : List LRes := [.t 6, .t 7]
def f40b0_L : LFn := ⟨3, f40b0_lay, f40b0_c3, f40b0_res⟩
theorem f40b0_low : lowFn Try.prog [] 40 = some f40b0_L := by kernel_rfl
theorem f40b0_fok : FnOk Try.prog 40 := ⟨_, Try.func40, rfl, rfl⟩
def f40b0_Q {σ : Type} (Hc : σ → AHeap) (fi0 : Fn) (ff0 fc0 : List AVal) (a0 : List G_QIndexEntry) (a1 : G_QIndexEntry) (z0 : σ) (o : Int × Bool × σ) : Exit → Env → AHeap → Nat → Prop := FinK f40b0_res (FinTo 3 4 (.tup [.int .i64 o.1, .bool o.2.1]) ([] ++ up 3 (Hc o.2.2)))

def f40b0_L1_env {σ : Type} (Hc : σ → AHeap) (fi0 : Fn) (ff0 fc0 : List AVal) (a0 : List G_QIndexEntry) (a1 : G_QIndexEntry) (s : (Int × σ × Int)) : Env := [(0, .isl 3 (a0.map e_QIndexEntry) false), (2, .fn fi0 ff0 fc0), (4, .ptr (4, 0) 0 0), (8, .int .i64 ((a0.map e_QIndexEntry).length : Int)), (9, .int .i64 s.1), (10, .int .i64 s.2.2)]
def f40b0_L1_hp {σ : Type} (Hc : σ → AHeap) (fi0 : Fn) (ff0 fc0 : List AVal) (a0 : List G_QIndexEntry) (a1 : G_QIndexEntry) (s : (Int × σ × Int)) : AHeap := ([((4, 0), .one [.str a1.f_Name, .int .u32 a1.f_Sum, .isl 1 (a1.f_Words.map e_str) false])] ++ up 3 (Hc s.2.1))
def f40b0_L1_Q {σ : Type} (Hc : σ → AHeap) (fi0 : Fn) (ff0 fc0 : List AVal) (a0 : List G_QIndexEntry) (a1 : G_QIndexEntry) (z0 : σ) (o : (Int × Bool × σ)) : Exit → Env → AHeap → Nat → Prop := (QBlock 0 (QSeq Try.prog f40b0_lay 3 f40b0_c0 (f40b0_Q Hc fi0 ff0 fc0 a0 a1 z0 o)))

noncomputable def S_slices_BinarySearchFunc_api_QIndexEntry_j2 {σ : Type} (g0 : σ → (G_QIndexEntry × G_QIndexEntry) → Option (Int × σ)) (m : Option Nat) (v2 : Int) (v8 : Bool) (v9 : σ) : Option (Int × Bool × σ) :=
  some (v2, v8, v9)

noncomputable def S_slices_BinarySearchFunc_api_QIndexEntry_j1 {σ : Type} (g0 : σ → (G_QIndexEntry × G_QIndexEntry) → Option (Int × σ)) (m : Option Nat) (a0 : List G_QIndexEntry) (a1 : G_QIndexEntry) (v2 : Int) (v3 : σ) : Option (Int × Bool × σ) :=
  if (((decide (v2 < ((a0.map e_QIndexEntry).length : Int))) == true) = true → (0 : Int) ≤ v2 ∧ v2 < ((a0.map e_QIndexEntry).length : Int)) then
  if ((decide (v2 < ((a0.map e_QIndexEntry).length : Int))) == true) = true then
    (g0 v3 ((G_QIndexEntry.mk ((a0.getD v2.toNat default).f_Name) ((a0.getD v2.toNat default).f_Sum) ((a0.getD v2.toNat default).f_Words)), a1)).bind fun v7 =>
    S_slices_BinarySearchFunc_api_QIndexEntry_j2 g0 m v2 ((decide (v2 < ((a0.map e_QIndexEntry).length : Int))) && (v7.1 == 0)) v7.2
  else
    S_slices_BinarySearchFunc_api_QIndexEntry_j2 g0 m v2 ((decide (v2 < ((a0.map e_QIndexEntry).length : Int))) && ((0 : Int) == 0)) v3
  else none

noncomputable def S_slices_BinarySearchFunc_api_QIndexEntry_b1 {σ : Type} (g0 : σ → (G_QIndexEntry × G_QIndexEntry) → Option (Int × σ)) (m : Option Nat) (a0 : List G_QIndexEntry) (a1 : G_QIndexEntry) (v2 : Int) (v3 : σ) (v4 : Int) : Option ((Int × σ × Int) ⊕ (Int × Bool × σ)) :=
  if (decide (v2 < v4)) = true then
    if (0 : Int) ≤ (W ((IntKind.wrap .u64 (W (v2 + v4))).fdiv (2 ^ (min (1 : Int).toNat (IntKind.bits .u64))))) ∧ (W ((IntKind.wrap .u64 (W (v2 + v4))).fdiv (2 ^ (min (1 : Int).toNat (IntKind.bits .u64))))) < ((a0.map e_QIndexEntry).length : Int) then
    (g0 v3 ((G_QIndexEntry.mk ((a0.getD ((W ((IntKind.wrap .u64 (W (v2 + v4))).fdiv (2 ^ (min (1 : Int).toNat (IntKind.bits .u64))))).toNat) default).f_Name) ((a0.getD ((W ((IntKind.wrap .u64 (W (v2 + v4))).fdiv (2 ^ (min (1 : Int).toNat (IntKind.bits .u64))))).toNat) default).f_Sum) ((a0.getD ((W ((IntKind.wrap .u64 (W (v2 + v4))).fdiv (2 ^ (min (1 : Int).toNat (IntKind.bits .u64))))).toNat) default).f_Words)), a1)).bind fun v6 =>
    if (decide (v6.1 < 0)) = true then
      some (.inl ((W ((W ((IntKind.wrap .u64 (W (v2 + v4))).fdiv (2 ^ (min (1 : Int).toNat (IntKind.bits .u64))))) + 1)), v6.2, v4))
    else
      some (.inl (v2, v6.2, (W ((IntKind.wrap .u64 (W (v2 + v4))).fdiv (2 ^ (min (1 : Int).toNat (IntKind.bits .u64)))))))
    else none
  else
    Option.map Sum.inr (
      S_slices_BinarySearchFunc_api_QIndexEntry_j1 g0 m a0 a1 v2 v3)

noncomputable def S_slices_BinarySearchFunc_api_QIndexEntry_l1 {σ : Type} (g0 : σ → (G_QIndexEntry × G_QIndexEntry) → Option (Int × σ)) (m : Option Nat) (a0 : List G_QIndexEntry) (a1 : G_QIndexEntry) (v2 : Int) (v3 : σ) (v4 : Int) : Option (Int × Bool × σ) := loopM m (fun (s : (Int × σ × Int)) => S_slices_BinarySearchFunc_api_QIndexEntry_b1 g0 m a0 a1 s.1 s.2.1 s.2.2) (v2, v3, v4)

theorem f40b0_j2_ok {σ : Type} {Hc : σ → AHeap} {fi0 : Fn} {ff0 fc0 : List AVal} {g0 : σ → (G_QIndexEntry × G_QIndexEntry) → Option (Int × σ)} (hg0 : Clo Try.prog fi0 ff0 fc0 Hc (fun (x : (G_QIndexEntry × G_QIndexEntry)) => [.agg [.str x.1.f_Name, .int .u32 x.1.f_Sum, .isl 1 (x.1.f_Words.map e_str) false], .agg [.str x.2.f_Name, .int .u32 x.2.f_Sum, .isl 1 (x.2.f_Words.map e_str) false]]) (fun (b : Int) => .int .i64 b) g0) {a0 : List G_QIndexEntry} {a1 : G_QIndexEntry} {z0 : σ} {v2 : Int} {v8 : Bool} {v9 : σ} {m : Option Nat} {o : (Int × Bool × σ)} (h : S_slices_BinarySearchFunc_api_QIndexEntry_j2 g0 m v2 v8 v9 = some o) :
    LWp Try.prog f40b0_lay 3 f40b0_c2 (f40b0_Q Hc fi0 ff0 fc0 a0 a1 z0 o) [(6, .int .i64 v2), (7, .bool v8)] ([] ++ up 3 (Hc v9)) 4 := by
  unfold S_slices_BinarySearchFunc_api_QIndexEntry_j2 at h
  refine retI ?_
  cases h
  exact AI TT (AI TT (finT (n' := 4) (q := 3) (lit' := []) (hg0.tl _) [] [] rfl rfl (VS rfl) TT))

theorem f40b0_j1_ok {σ : Type} {Hc : σ → AHeap} {fi0 : Fn} {ff0 fc0 : List AVal} {g0 : σ → (G_QIndexEntry × G_QIndexEntry) → Option (Int × σ)} (hg0 : Clo Try.prog fi0 ff0 fc0 Hc (fun (x : (G_QIndexEntry × G_QIndexEntry)) => [.agg [.str x.1.f_Name, .int .u32 x.1.f_Sum, .isl 1 (x.1.f_Words.map e_str) false], .agg [.str x.2.f_Name, .int .u32 x.2.f_Sum, .isl 1 (x.2.f_Words.map e_str) false]]) (fun (b : Int) => .int .i64 b) g0) {z0 : σ} {a0 : List G_QIndexEntry} {a1 : G_QIndexEntry} {v2 : Int} {v3 : σ} {m : Option Nat} {o : (Int × Bool × σ)} (h : S_slices_BinarySearchFunc_api_QIndexEntry_j1 g0 m a0 a1 v2 v3 = some o) :
    LWp Try.prog f40b0_lay 3 f40b0_c0 (f40b0_Q Hc fi0 ff0 fc0 a0 a1 z0 o) [(0, .isl 3 (a0.map e_QIndexEntry) false), (2, .fn fi0 ff0 fc0), (4, .ptr (4, 0) 0 0), (8, .int .i64 ((a0.map e_QIndexEntry).length : Int)), (9, .int .i64 v2)] ([((4, 0), .one [.str a1.f_Name, .int .u32 a1.f_Sum, .isl 1 (a1.f_Words.map e_str) false])] ++ up 3 (Hc v3)) 5 := by
  unfold S_slices_BinarySearchFunc_api_QIndexEntry_j1 at h
  refine seqI ?_
  refine drawO rfl ?_
  obtain ⟨h13, h⟩ := ite_some h
  refine AI (fun hp => (AI (AI hp hp) (h13 hp))) ?_
  refine EX (e_QIndexEntry (a0.getD v2.toNat default)) (AI (fun hp => AI (getD_enc e_QIndexEntry _ _ (idx_ltL e_QIndexEntry (h13 hp))) (AI hp (AI (idx_lt (h13 hp)) (NB rfl)))) ?_)
  refine Or.inr (AI (fun h14 => ?_) (fun h15 => ?_))
  · have h := ite_tt h14 h
    obtain ⟨v7, h16, h⟩ := bind_some h
    refine AI (AI h14 (AI h14 h14)) ?_
    refine Clo.use (q := 3) (lit := [((4, 0), .one [.str a1.f_Name, .int .u32 a1.f_Sum, .isl 1 (a1.f_Words.map e_str) false])]) hg0 h16 rfl rfl (AI (VS rfl) (AI (VS rfl) TT)) ?_
    refine AI (fun hc => h14) ?_
    refine LWp.sim ?_ (f40b0_j2_ok hg0 h)
    exact simT (M := []) (lit' := [((4, 0), .one [.str a1.f_Name, .int .u32 a1.f_Sum, .isl 1 (a1.f_Words.map e_str) false])]) (hg0.tl _) rfl (AI (VS rfl) (AI (VS rfl) TT)) TT
  · have h := ite_ff h15 h
    refine EX (.cnd ((decide (v2 < ((a0.map e_QIndexEntry).length : Int))) == true) (.int .i64 0)) (AI (Or.inr (EX _ (congrArg (fun q => AVal.cnd q _) h15))) ?_)
    refine AI (fun hp => hp) ?_
    refine AI (fun hc => (bqt hc)) ?_
    refine LWp.sim ?_ (f40b0_j2_ok hg0 h)
    exact simT (M := []) (lit' := [((4, 0), .one [.str a1.f_Name, .int .u32 a1.f_Sum, .isl 1 (a1.f_Words.map e_str) false])]) (hg0.tl _) rfl (AI (VS rfl) (AI (VS rfl) TT)) TT

theorem f40b0_L1_bok {σ : Type} {Hc : σ → AHeap} {fi0 : Fn} {ff0 fc0 : List AVal} {g0 : σ → (G_QIndexEntry × G_QIndexEntry) → Option (Int × σ)} (hg0 : Clo Try.prog fi0 ff0 fc0 Hc (fun (x : (G_QIndexEntry × G_QIndexEntry)) => [.agg [.str x.1.f_Name, .int .u32 x.1.f_Sum, .isl 1 (x.1.f_Words.map e_str) false], .agg [.str x.2.f_Name, .int .u32 x.2.f_Sum, .isl 1 (x.2.f_Words.map e_str) false]]) (fun (b : Int) => .int .i64 b) g0) {z0 : σ} {a0 : List G_QIndexEntry} {a1 : G_QIndexEntry} {v2 : Int} {v3 : σ} {v4 : Int} {m : Option Nat} {o : (Int × σ × Int) ⊕ (Int × Bool × σ)} (h : S_slices_BinarySearchFunc_api_QIndexEntry_b1 g0 m a0 a1 v2 v3 v4 = some o) :
    LWp Try.prog f40b0_lay 3 f40b0_c1 (BodyQ 3 5 (f40b0_L1_env Hc fi0 ff0 fc0 a0 a1) (f40b0_L1_hp Hc fi0 ff0 fc0 a0 a1) (f40b0_L1_Q Hc fi0 ff0 fc0 a0 a1 z0) o) [(0, .isl 3 (a0.map e_QIndexEntry) false), (2, .fn fi0 ff0 fc0), (4, .ptr (4, 0) 0 0), (8, .int .i64 ((a0.map e_QIndexEntry).length : Int)), (9, .int .i64 v2), (10, .int .i64 v4)] ([((4, 0), .one [.str a1.f_Name, .int .u32 a1.f_Sum, .isl 1 (a1.f_Words.map e_str) false])] ++ up 3 (Hc v3)) 5 := by
  unfold S_slices_BinarySearchFunc_api_QIndexEntry_b1 at h
  refine seqI ?_
  refine seqI ?_
  refine regI ?_
  refine condI (v := (decide (v2 < v4))) rfl TT (fun h9 => ?_) (fun h9 => ?_)
  · have h := ite_tt h9 h
    refine skipI ?_
    refine blockI ?_
    refine seqI ?_
    refine regI ?_
    refine AI (by decide) ?_
    refine LWp.sim (e := [(0, .isl 3 (a0.map e_QIndexEntry) false), (2, .fn fi0 ff0 fc0), (4, .ptr (4, 0) 0 0), (8, .int .i64 ((a0.map e_QIndexEntry).length : Int)), (9, .int .i64 v2), (10, .int .i64 v4), (11, .int .i64 (W ((IntKind.wrap .u64 (W (v2 + v4))).fdiv (2 ^ (min (1 : Int).toNat (IntKind.bits .u64))))))]) (L := ([((4, 0), .one [.str a1.f_Name, .int .u32 a1.f_Sum, .isl 1 (a1.f_Words.map e_str) false])] ++ up 3 (Hc v3))) (n := 5) ?_ ?_
    · exact simT (M := [((4, 0), (4, 0))]) (lit' := [((4, 0), .one [.str a1.f_Name, .int .u32 a1.f_Sum, .isl 1 (a1.f_Words.map e_str) false])]) (hg0.tl _) rfl (AI (VS rfl) (AI (Vw.clo hg0.hf hg0.hc (by decide) (rhoT_1 (chkT_ok (n := 5) (q := 3) (lit' := [((4, 0), .one [.str a1.f_Name, .int .u32 a1.f_Sum, .isl 1 (a1.f_Words.map e_str) false])]) rfl))) (AI (Vw.ptr _ _ _ _ rfl) (AI (VS rfl) (AI (VS rfl) (AI (VS rfl) (AI (VS rfl) TT))))))) (AI (AI rfl (BVw.oneL (AI (VS rfl) (AI (VS rfl) (AI (VS rfl) TT))))) TT)
    refine seqI ?_
    refine drawO rfl ?_
    obtain ⟨h10, h⟩ := ite_some h
    refine AI h10 ?_
    refine EX (e_QIndexEntry (a0.getD ((W ((IntKind.wrap .u64 (W (v2 + v4))).fdiv (2 ^ (min (1 : Int).toNat (IntKind.bits .u64))))).toNat) default)) (AI (getD_enc e_QIndexEntry _ _ (idx_ltL e_QIndexEntry h10)) (AI (AI (idx_lt h10) (NB rfl)) ?_))
    obtain ⟨v6, h11, h⟩ := bind_some h
    refine Clo.use (q := 3) (lit := [((4, 0), .one [.str a1.f_Name, .int .u32 a1.f_Sum, .isl 1 (a1.f_Words.map e_str) false])]) hg0 h11 rfl rfl (AI (VS rfl) (AI (VS rfl) TT)) ?_
    refine LWp.sim (e := [(0, .isl 3 (a0.map e_QIndexEntry) false), (2, .fn fi0 ff0 fc0), (4, .ptr (4, 0) 0 0), (8, .int .i64 ((a0.map e_QIndexEntry).length : Int)), (9, .int .i64 v2), (10, .int .i64 v4), (11, .int .i64 (W ((IntKind.wrap .u64 (W (v2 + v4))).fdiv (2 ^ (min (1 : Int).toNat (IntKind.bits .u64)))))), (31, .bool (decide (v6.1 < 0)))]) (L := ([((4, 0), .one [.str a1.f_Name, .int .u32 a1.f_Sum, .isl 1 (a1.f_Words.map e_str) false])] ++ up 3 (Hc v6.2))) (n := 5) ?_ ?_
    · exact simT (M := [((4, 0), (4, 0))]) (lit' := [((4, 0), .one [.str a1.f_Name, .int .u32 a1.f_Sum, .isl 1 (a1.f_Words.map e_str) false])]) (hg0.tl _) rfl (AI (VS rfl) (AI (Vw.clo hg0.hf hg0.hc (by decide) (rhoT_1 (chkT_ok (n := 5) (q := 5) (lit' := [((4, 0), .one [.str a1.f_Name, .int .u32 a1.f_Sum, .isl 1 (a1.f_Words.map e_str) false])]) rfl))) (AI (Vw.ptr _ _ _ _ rfl) (AI (VS rfl) (AI (VS rfl) (AI (VS rfl) (AI (VS rfl) (AI (VS rfl) TT)))))))) (AI (AI rfl (BVw.oneL (AI (VS rfl) (AI (VS rfl) (AI (VS rfl) TT))))) TT)
    refine condI (v := (decide (v6.1 < 0))) rfl TT (fun h12 => ?_) (fun h12 => ?_)
    · have h := ite_tt h12 h
      refine regI ?_
      cases h
      exact AI rfl (simT (M := [((4, 0), (4, 0))]) (lit' := [((4, 0), .one [.str a1.f_Name, .int .u32 a1.f_Sum, .isl 1 (a1.f_Words.map e_str) false])]) (hg0.tl _) rfl (AI (VS rfl) (AI (Vw.clo hg0.hf hg0.hc (by decide) (rhoT_1 (chkT_ok (n := 5) (q := 3) (lit' := [((4, 0), .one [.str a1.f_Name, .int .u32 a1.f_Sum, .isl 1 (a1.f_Words.map e_str) false])]) rfl))) (AI (Vw.ptr _ _ _ _ rfl) (AI (VS rfl) (AI (VS rfl) (AI (VS rfl) TT)))))) (AI (AI rfl (BVw.oneL (AI (VS rfl) (AI (VS rfl) (AI (VS rfl) TT))))) TT))
    · have h := ite_ff h12 h
      refine regI ?_
      cases h
      exact AI rfl (simT (M := [((4, 0), (4, 0))]) (lit' := [((4, 0), .one [.str a1.f_Name, .int .u32 a1.f_Sum, .isl 1 (a1.f_Words.map e_str) false])]) (hg0.tl _) rfl (AI (VS rfl) (AI (Vw.clo hg0.hf hg0.hc (by decide) (rhoT_1 (chkT_ok (n := 5) (q := 3) (lit' := [((4, 0), .one [.str a1.f_Name, .int .u32 a1.f_Sum, .isl 1 (a1.f_Words.map e_str) false])]) rfl))) (AI (Vw.ptr _ _ _ _ rfl) (AI (VS rfl) (AI (VS rfl) (AI (VS rfl) TT)))))) (AI (AI rfl (BVw.oneL (AI (VS rfl) (AI (VS rfl) (AI (VS rfl) TT))))) TT))
  · have h := ite_ff h9 h
    refine exitI ?_
    obtain ⟨o, hq, rfl⟩ := Option.map_eq_some_iff.1 h
    replace h := hq; clear hq
    refine AI nofun ?_
    refine LWp.sim ?_ (f40b0_j1_ok hg0 h)
    exact simT (M := [((4, 0), (4, 0))]) (lit' := [((4, 0), .one [.str a1.f_Name, .int .u32 a1.f_Sum, .isl 1 (a1.f_Words.map e_str) false])]) (hg0.tl _) rfl (AI (VS rfl) (AI (Vw.clo hg0.hf hg0.hc (by decide) (rhoT_1 (chkT_ok (n := 5) (q := 3) (lit' := [((4, 0), .one [.str a1.f_Name, .int .u32 a1.f_Sum, .isl 1 (a1.f_Words.map e_str) false])]) rfl))) (AI (Vw.ptr _ _ _ _ rfl) (AI (VS rfl) (AI (VS rfl) TT))))) (AI (AI rfl (BVw.oneL (AI (VS rfl) (AI (VS rfl) (AI (VS rfl) TT))))) TT)

theorem f40b0_L1_ok {σ : Type} {Hc : σ → AHeap} {fi0 : Fn} {ff0 fc0 : List AVal} {g0 : σ → (G_QIndexEntry × G_QIndexEntry) → Option (Int × σ)} (hg0 : Clo Try.prog fi0 ff0 fc0 Hc (fun (x : (G_QIndexEntry × G_QIndexEntry)) => [.agg [.str x.1.f_Name, .int .u32 x.1.f_Sum, .isl 1 (x.1.f_Words.map e_str) false], .agg [.str x.2.f_Name, .int .u32 x.2.f_Sum, .isl 1 (x.2.f_Words.map e_str) false]]) (fun (b : Int) => .int .i64 b) g0) {z0 : σ} {a0 : List G_QIndexEntry} {a1 : G_QIndexEntry} {v2 : Int} {v3 : σ} {v4 : Int} {m : Option Nat} {o : (Int × Bool × σ)} (h : S_slices_BinarySearchFunc_api_QIndexEntry_l1 g0 m a0 a1 v2 v3 v4 = some o) :
    LWp Try.prog f40b0_lay 3 (.loop f40b0_c1) (QBlock 0 (QSeq Try.prog f40b0_lay 3 f40b0_c0 (f40b0_Q Hc fi0 ff0 fc0 a0 a1 z0 o))) [(0, .isl 3 (a0.map e_QIndexEntry) false), (2, .fn fi0 ff0 fc0), (4, .ptr (4, 0) 0 0), (8, .int .i64 ((a0.map e_QIndexEntry).length : Int)), (9, .int .i64 v2), (10, .int .i64 v4)] ([((4, 0), .one [.str a1.f_Name, .int .u32 a1.f_Sum, .isl 1 (a1.f_Words.map e_str) false])] ++ up 3 (Hc v3)) 5 :=
  LWp_loopM (m := m) (s := ((v2, v3, v4) : (Int × σ × Int))) (r := o) (fun (s : (Int × σ × Int)) => S_slices_BinarySearchFunc_api_QIndexEntry_b1 g0 m a0 a1 s.1 s.2.1 s.2.2) (f40b0_L1_env Hc fi0 ff0 fc0 a0 a1) (f40b0_L1_hp Hc fi0 ff0 fc0 a0 a1) (f40b0_L1_Q Hc fi0 ff0 fc0 a0 a1 z0) (fun s o h => f40b0_L1_bok hg0 h) h

noncomputable def S_slices_BinarySearchFunc_api_QIndexEntry {σ : Type} (g0 : σ → (G_QIndexEntry × G_QIndexEntry) → Option (Int × σ)) (m : Option Nat) (a0 : List G_QIndexEntry) (a1 : G_QIndexEntry) (z0 : σ) : Option (Int × Bool × σ) :=
  S_slices_BinarySearchFunc_api_QIndexEntry_l1 g0 m a0 a1 0 z0 ((a0.map e_QIndexEntry).length : Int)

theorem f40b0_start {σ : Type} {Hc : σ → AHeap} {fi0 : Fn} {ff0 fc0 : List AVal} {g0 : σ → (G_QIndexEntry × G_QIndexEntry) → Option (Int × σ)} (hg0 : Clo Try.prog fi0 ff0 fc0 Hc (fun (x : (G_QIndexEntry × G_QIndexEntry)) => [.agg [.str x.1.f_Name, .int .u32 x.1.f_Sum, .isl 1 (x.1.f_Words.map e_str) false], .agg [.str x.2.f_Name, .int .u32 x.2.f_Sum, .isl 1 (x.2.f_Words.map e_str) false]]) (fun (b : Int) => .int .i64 b) g0) {a0 : List G_QIndexEntry} {a1 : G_QIndexEntry} {z0 : σ} {m : Option Nat} {o : Int × Bool × σ} (h : S_slices_BinarySearchFunc_api_QIndexEntry g0 m a0 a1 z0 = some o) : LWp Try.prog f40b0_lay 3 f40b0_c3 (f40b0_Q Hc fi0 ff0 fc0 a0 a1 z0 o) (initEnv 0 [.isl 3 (a0.map e_QIndexEntry) false, .agg [.str a1.f_Name, .int .u32 a1.f_Sum, .isl 1 (a1.f_Words.map e_str) false], .fn fi0 ff0 fc0]) ([] ++ Hc z0) 3 := by
  unfold S_slices_BinarySearchFunc_api_QIndexEntry at h
  refine LWp.sim (e := [(0, .isl 3 (a0.map e_QIndexEntry) false), (1, .agg [.str a1.f_Name, .int .u32 a1.f_Sum, .isl 1 (a1.f_Words.map e_str) false]), (2, .fn fi0 ff0 fc0)]) (L := ([] ++ up 3 (Hc z0))) (n := 4) (entryT (T := Hc z0) (e' := initEnv 0 [.isl 3 (a0.map e_QIndexEntry) false, .agg [.str a1.f_Name, .int .u32 a1.f_Sum, .isl 1 (a1.f_Words.map e_str) false], .fn fi0 ff0 fc0]) (e := [(0, .isl 3 (a0.map e_QIndexEntry) false), (1, .agg [.str a1.f_Name, .int .u32 a1.f_Sum, .isl 1 (a1.f_Words.map e_str) false]), (2, .fn fi0 ff0 fc0)]) (lit' := []) (lit := []) (hg0.tl z0) rfl rfl (AI (VS rfl) (AI (VS rfl) (AI (Vw.clo hg0.hf hg0.hc (by decide) (rhoE_1 _)) TT))) TT) ?_
  refine seqI ?_
  refine regI ?_
  refine seqI ?_
  refine regI ?_
  refine seqI ?_
  refine regI ?_
  refine LWp.sim (e := [(0, .isl 3 (a0.map e_QIndexEntry) false), (2, .fn fi0 ff0 fc0), (4, .ptr (4, 0) 0 0), (8, .int .i64 ((a0.map e_QIndexEntry).length : Int)), (9, .int .i64 0), (10, .int .i64 ((a0.map e_QIndexEntry).length : Int))]) (L := ([((4, 0), .one [.str a1.f_Name, .int .u32 a1.f_Sum, .isl 1 (a1.f_Words.map e_str) false])] ++ up 3 (Hc z0))) (n := 5) ?_ ?_
  · exact simT (M := [((4, 0), (4, 0))]) (lit' := [((4, 0), .one [.str a1.f_Name, .int .u32 a1.f_Sum, .isl 1 (a1.f_Words.map e_str) false])]) (hg0.tl _) rfl (AI (VS rfl) (AI (Vw.clo hg0.hf hg0.hc (by decide) (rhoT_1 (chkT_ok (n := 5) (q := 3) (lit' := [((4, 0), .one [.str a1.f_Name, .int .u32 a1.f_Sum, .isl 1 (a1.f_Words.map e_str) false])]) rfl))) (AI (Vw.ptr _ _ _ _ rfl) (AI (VS rfl) (AI (VS rfl) (AI (VS rfl) TT)))))) (AI (AI rfl (BVw.oneL (AI (VS rfl) (AI (VS rfl) (AI (VS rfl) TT))))) TT)
  refine seqI ?_
  refine blockI ?_
  refine LWp.sim ?_ (f40b0_L1_ok hg0 h)
  exact simT (M := [((4, 0), (4, 0))]) (lit' := [((4, 0), .one [.str a1.f_Name, .int .u32 a1.f_Sum, .isl 1 (a1.f_Words.map e_str) false])]) (hg0.tl _) rfl (AI (VS rfl) (AI (Vw.clo hg0.hf hg0.hc (by decide) (rhoT_1 (chkT_ok (n := 5) (q := 3) (lit' := [((4, 0), .one [.str a1.f_Name, .int .u32 a1.f_Sum, .isl 1 (a1.f_Words.map e_str) false])]) rfl))) (AI (Vw.ptr _ _ _ _ rfl) (AI (VS rfl) (AI (VS rfl) (AI (VS rfl) TT)))))) (AI (AI rfl (BVw.oneL (AI (VS rfl) (AI (VS rfl) (AI (VS rfl) TT))))) TT)

theorem f40b0_ok {σ : Type} {Hc : σ → AHeap} {fi0 : Fn} {ff0 fc0 : List AVal} {g0 : σ → (G_QIndexEntry × G_QIndexEntry) → Option (Int × σ)} (hg0 : Clo Try.prog fi0 ff0 fc0 Hc (fun (x : (G_QIndexEntry × G_QIndexEntry)) => [.agg [.str x.1.f_Name, .int .u32 x.1.f_Sum, .isl 1 (x.1.f_Words.map e_str) false], .agg [.str x.2.f_Name, .int .u32 x.2.f_Sum, .isl 1 (x.2.f_Words.map e_str) false]]) (fun (b : Int) => .int .i64 b) g0) {a0 : List G_QIndexEntry} {a1 : G_QIndexEntry} {z0 : σ} {m : Option Nat} {o : Int × Bool × σ} (h : S_slices_BinarySearchFunc_api_QIndexEntry g0 m a0 a1 z0 = some o) : ACalls Try.prog 40 [.isl 3 (a0.map e_QIndexEntry) false, .agg [.str a1.f_Name, .int .u32 a1.f_Sum, .isl 1 (a1.f_Words.map e_str) false], .fn fi0 ff0 fc0] ([] ++ Hc z0) 3 (Gives 4 (.tup [.int .i64 o.1, .bool o.2.1]) ([] ++ up 3 (Hc o.2.2))) := bfn_of (L := f40b0_L) f40b0_low f40b0_fok (NB rfl) (f40b0_start hg0 h)

def S_slices_Clone_api_QIndexEntryO (m : Option Nat) (a0 : List G_QIndexEntry) : Option (List G_QIndexEntry) := cloT 48 a0
theorem f62b0_fok : FnOk Try.prog 62 := ⟨_, Try.func62, rfl, rfl⟩
theorem f62b0_ok {m : Option Nat} {a0 : List G_QIndexEntry} {o : List G_QIndexEntry} (h : S_slices_Clone_api_QIndexEntryO m a0 = some o) : ACalls Try.prog 62 [.isl 3 (a0.map e_QIndexEntry) false] [] 3 (Gives 4 (.msl (3, 0) 3 0 o.length false) [((3, 0), .rows 3 (o.map e_QIndexEntry))]) :=
  cloT_acalls (c := 40) (zs := [(.str []), (.int .u32 0), (.isl 1 [] true)]) e_QIndexEntry f62b0_fok Try.func62 ⟨_, _, _, _, _, _, _, _, _, _, _, _, _, _, _, _, _, _, _, _, _, _, _, _, _, _, _, _, rfl, rfl, rfl⟩ (by kernel_rfl) (by kernel_rfl) (by kernel_rfl) (by kernel_rfl) (by decide) (by decide) rfl h _

def f63_c0 : LCode := (.seq (.region [⟨some 2, .mv (.c (.val (.slice none 0 0))), none⟩])
 (.seq (.seq (.region [⟨some 3, .mv (.t 0), none⟩,
   ⟨some 4, .eq false .slice (.t 3) (.c (.val (.slice none 0 0))), none⟩])
 (.cond (.t 4)
  (.seq (.region [⟨some 2, .mv (.c (.val (.slice none 0 0))), none⟩])
  .ret)
  .skip))
 (.seq (.region [⟨some 5, .mkSl true 1 [(.str [])] 0 [], none⟩,
   ⟨some 6, .mv (.t 0), none⟩,
   ⟨some 7, .app true 1 16 (.t 5) (.t 6), none⟩,
   ⟨some 2, .mv (.t 7), none⟩])
 .ret)))
def f63_lay : Lay := ⟨8, [], false⟩
def f63_res : List LRes := [.t 2]
def f63_L : LFn := ⟨1, f63_lay, f63_c0, f63_res⟩
theorem f63_low : lowFn Try.prog [] 63 = some f63_L := by kernel_rfl
theorem f63_fok : FnOk Try.prog 63 := ⟨_, Try.func63, rfl, rfl⟩
noncomputable def S_slices_Clone_string (m : Option Nat) (a0 : List (List UInt8)) : Option (List (List UInt8)) :=
  if (a0.map e_str) ≠ [] then
  if ((([] : List (List UInt8)) ++ a0).map e_str).length * 16 ≤ 140737488355328 then
  some (([] : List (List UInt8)) ++ a0)
  else none
  else none

def f63_Q (a0 : List (List UInt8)) (o : (List (List UInt8))) : Exit → Env → AHeap → Nat → Prop := FinK f63_res (PureEnd (.isl 1 (o.map e_str) false))

theorem f63_start {a0 : List (List UInt8)} {m : Option Nat} {o : (List (List UInt8))} (h : S_slices_Clone_string m a0 = some o) : LWp Try.prog f63_lay 0 f63_c0 (f63_Q a0 o) (initEnv 0 [.isl 1 (a0.map e_str) false]) [] 0 := by
  unfold S_slices_Clone_string at h
  refine seqI ?_
  refine regI ?_
  refine seqI ?_
  refine seqI ?_
  refine regI ?_
  obtain ⟨h1, h⟩ := ite_some h
  refine AI h1 ?_
  refine condI (v := false) rfl TT (fun hc => Bool.noConfusion hc) (fun hc => ?_)
  refine skipI ?_
  refine seqI ?_
  refine regI ?_
  obtain ⟨h2, h⟩ := ite_some h
  refine EX ((([] : List (List UInt8)) ++ a0).map e_str) (AI (app_enc e_str ([] : List (List UInt8)) a0) (AI (AI rfl h2) ?_))
  refine retI ?_
  cases h
  exact AI TT (AI rfl (Vw.oslI _ _ _))

theorem f63_ok {a0 : List (List UInt8)} {m : Option Nat} {o : (List (List UInt8))} (h : S_slices_Clone_string m a0 = some o) : PFn Try.prog 63 [.isl 1 (a0.map e_str) false] (.isl 1 (o.map e_str) false) := PFn.ofFnW (L := f63_L) f63_low f63_fok (NB rfl) rfl (f63_start h)

noncomputable def S_slices_Clone_stringE (m : Option Nat) : List (List UInt8) → Option (List (List UInt8))
  | [] => some []
  | x :: r => S_slices_Clone_string m (x :: r)
theorem f63_okE {m : Option Nat} {a0 o : List (List UInt8)} (h : S_slices_Clone_stringE m a0 = some o) : PFn Try.prog 63 [(.isl 1 (a0.map e_str) false)] (.isl 1 (o.map e_str) false) := by
  cases a0 with
  | nil =>
    cases h
    exact sclone_nil (c := 9) (zs := [(.str [])]) (b := 16) f63_fok Try.func63 ⟨_, _, _, _, _, _, _, _, _, _, _, _, _, _, _, _, _, _, _, _, _, _, _, _, _, _, _, _, rfl, rfl, rfl⟩ (by kernel_rfl) (by kernel_rfl) (by kernel_rfl) (by kernel_rfl) (by decide) (by decide) rfl
  | cons x r => exact f63_ok (m := m) h

def f41b0_c1 : LCode := (.seq (.region [⟨some 9, .bin .lss (.t 8) (.t 7), none⟩])
 (.seq (.cond (.t 9)
  .skip
  (.exit 0))
 (.seq (.block 1
  (.seq (.region [⟨some 10, .mv (.t 8), none⟩,
    ⟨some 3, .mv (.t 10), none⟩])
  (.region [⟨some 11, .mv (.t 0), none⟩,
    ⟨some 12, .mv (.t 3), none⟩,
    ⟨some 13, .mv (.t 0), none⟩,
    ⟨some 14, .mv (.t 3), none⟩,
    ⟨some 15, .iaddr 3 (.t 13) (.t 14), none⟩,
    ⟨some 16, .faddr 2 (.t 15), none⟩,
    ⟨some 17, .load false 1 (.t 16), none⟩,
    ⟨some 18, .call 63 [(.t 17)], none⟩,
    ⟨some 19, .iaddr 3 (.t 11) (.t 12), none⟩,
    ⟨some 20, .faddr 2 (.t 19), none⟩,
    ⟨none, .store 1 (.t 20) (.t 18), none⟩])))
 (.region [⟨some 21, .bin .add (.t 8) (.c (.int .i64 1)), none⟩,
   ⟨some 8, .mv (.t 21), none⟩]))))
def f41b0_c0 : LCode := (.seq (.region [⟨some 22, .mv (.t 0), none⟩,
   ⟨some 2, .mv (.t 22), none⟩])
 .ret)
def f41b0_c2 : LCode := (.seq (.region [⟨some 2, .mv (.c (.val (.slice none 0 0))), none⟩])
 (.seq (.region [⟨some 4, .mv (.t 0), none⟩,
   ⟨some 5, .call 62 [(.t 4)], none⟩,
   ⟨some 0, .mv (.t 5), none⟩])
 (.seq (.seq (.region [⟨some 6, .mv (.t 0), none⟩,
   ⟨some 7, .len false (.t 6), none⟩,
   ⟨some 8, .mv (.c (.int .i64 0)), none⟩])
 (.block 0
  (.loop
   f41b0_c1)))
 f41b0_c0)))
def f41b0_lay : Lay := ⟨23, [], false⟩
def f41b0_res : List LRes := [.t 2]
def f41b0_L : LFn := ⟨1, f41b0_lay, f41b0_c2, f41b0_res⟩
theorem f41b0_low : lowFn Try.prog [] 41 = some f41b0_L := by kernel_rfl
theorem f41b0_fok : FnOk Try.prog 41 := ⟨_, Try.func41, rfl, rfl⟩
def f41b0_Q (a0 : List G_QIndexEntry) (o : (List G_QIndexEntry)) : Exit → Env → AHeap → Nat → Prop := FinK f41b0_res (FinTo 3 4 (.msl (3, 0) 3 0 o.length false) [((3, 0), .rows 3 (o.map e_QIndexEntry))])

def f41b0_L1_env (v1 : List G_QIndexEntry) (s : (Int × (List G_QIndexEntry))) : Env := [(0, .msl (3, 0) 3 0 s.2.length false), (7, .int .i64 ((v1.length : Nat) : Int)), (8, .int .i64 s.1)]
def f41b0_L1_hp (v1 : List G_QIndexEntry) (s : (Int × (List G_QIndexEntry))) : AHeap := [((3, 0), .rows 3 (s.2.map e_QIndexEntry))]
def f41b0_L1_Q (a0 : List G_QIndexEntry) (o : (List G_QIndexEntry)) : Exit → Env → AHeap → Nat → Prop := (QBlock 0 (QSeq Try.prog f41b0_lay 3 f41b0_c0 (f41b0_Q a0 o)))

noncomputable def S_wordindex_clone_j1 (m : Option Nat) (v4 : List G_QIndexEntry) : Option (List G_QIndexEntry) :=
  some v4

noncomputable def S_wordindex_clone_b1 (m : Option Nat) (v1 : List G_QIndexEntry) (v3 : Int) (v4 : List G_QIndexEntry) : Option ((Int × (List G_QIndexEntry)) ⊕ (List G_QIndexEntry)) :=
  if (decide (v3 < ((v1.length : Nat) : Int))) = true then
    if (0 : Int) ≤ v3 ∧ v3 < ((v4.length : Nat) : Int) then
    if (0 + v3.toNat) < v4.length then
    (S_slices_Clone_stringE m ((v4.getD (0 + v3.toNat) default).f_Words)).bind fun v6 =>
    if (0 : Int) ≤ v3 ∧ v3 < ((v4.length : Nat) : Int) then
    if (0 + v3.toNat) < v4.length then
    some (.inl ((W (v3 + 1)), (v4.set (0 + v3.toNat) (G_QIndexEntry.mk ((v4.getD (0 + v3.toNat) default).f_Name) ((v4.getD (0 + v3.toNat) default).f_Sum) v6))))
    else none
    else none
    else none
    else none
  else
    Option.map Sum.inr (
      S_wordindex_clone_j1 m v4)

noncomputable def S_wordindex_clone_l1 (m : Option Nat) (v1 : List G_QIndexEntry) (v3 : Int) (v4 : List G_QIndexEntry) : Option (List G_QIndexEntry) := loopM m (fun (s : (Int × (List G_QIndexEntry))) => S_wordindex_clone_b1 m v1 s.1 s.2) (v3, v4)

theorem f41b0_j1_ok {a0 : List G_QIndexEntry} {v4 : List G_QIndexEntry} {m : Option Nat} {o : (List G_QIndexEntry)} (h : S_wordindex_clone_j1 m v4 = some o) :
    LWp Try.prog f41b0_lay 3 f41b0_c0 (f41b0_Q a0 o) [(0, .msl (3, 0) 3 0 v4.length false)] [((3, 0), .rows 3 (v4.map e_QIndexEntry))] 4 := by
  unfold S_wordindex_clone_j1 at h
  refine seqI ?_
  refine regI ?_
  refine retI ?_
  cases h
  exact AI TT (finI (n' := 4) [((3, 0), (3, 0))] [] rfl rfl (Vw.mslE rfl (by first | rfl | omega | (simp; done) | (simp at *; omega)) rfl) (AI (AI rfl (BVw.enc e_QIndexEntry (fun _ => rfl) _ v4)) TT))

theorem f41b0_L1_bok {a0 : List G_QIndexEntry} {v1 : List G_QIndexEntry} {v3 : Int} {v4 : List G_QIndexEntry} {m : Option Nat} {o : (Int × (List G_QIndexEntry)) ⊕ (List G_QIndexEntry)} (h : S_wordindex_clone_b1 m v1 v3 v4 = some o) :
    LWp Try.prog f41b0_lay 3 f41b0_c1 (BodyQ 3 4 (f41b0_L1_env v1) (f41b0_L1_hp v1) (f41b0_L1_Q a0) o) [(0, .msl (3, 0) 3 0 v4.length false), (7, .int .i64 ((v1.length : Nat) : Int)), (8, .int .i64 v3)] [((3, 0), .rows 3 (v4.map e_QIndexEntry))] 4 := by
  unfold S_wordindex_clone_b1 at h
  refine seqI ?_
  refine regI ?_
  refine seqI ?_
  refine condI (v := (decide (v3 < ((v1.length : Nat) : Int)))) rfl TT (fun h14 => ?_) (fun h14 => ?_)
  · have h := ite_tt h14 h
    refine skipI ?_
    refine seqI ?_
    refine blockI ?_
    refine seqI ?_
    refine regI ?_
    refine regI ?_
    obtain ⟨h15, h⟩ := ite_some h
    refine AI h15 ?_
    obtain ⟨h16, h⟩ := ite_some h
    refine EX (e_QIndexEntry (v4.getD (0 + v3.toNat) default)) (AI (getD_enc e_QIndexEntry _ _ h16) (AI (AI (lt_map e_QIndexEntry h16) (NB rfl)) ?_))
    obtain ⟨v6, h17, h⟩ := bind_some h
    refine PFn.call (f63_okE h17) (AI (VS rfl) TT) ?_
    obtain ⟨h18, h⟩ := ite_some h
    refine AI h18 ?_
    obtain ⟨h19, h⟩ := ite_some h
    refine EX ((v4.set (0 + v3.toNat) (G_QIndexEntry.mk ((v4.getD (0 + v3.toNat) default).f_Name) ((v4.getD (0 + v3.toNat) default).f_Sum) v6)).map e_QIndexEntry) (AI (set_enc e_QIndexEntry _ _ _ _ _ h19 rfl) (AI (AI rfl (AI (lt_map e_QIndexEntry h19) (NB rfl))) ?_))
    refine LWp.sim (e := [(0, .msl (3, 0) 3 0 v4.length false), (7, .int .i64 ((v1.length : Nat) : Int)), (8, .int .i64 v3)]) (L := [((3, 0), .rows 3 ((v4.set (0 + v3.toNat) (G_QIndexEntry.mk ((v4.getD (0 + v3.toNat) default).f_Name) ((v4.getD (0 + v3.toNat) default).f_Sum) v6)).map e_QIndexEntry))]) (n := 4) ?_ ?_
    · exact simI (M := [((3, 0), (3, 0))]) rfl (AI (Vw.mslE rfl (by first | rfl | omega | (simp; done) | (simp at *; omega)) rfl) (AI (VS rfl) (AI (VS rfl) TT))) (AI (AI rfl (BVw.enc e_QIndexEntry (fun _ => rfl) _ (v4.set (0 + v3.toNat) (G_QIndexEntry.mk ((v4.getD (0 + v3.toNat) default).f_Name) ((v4.getD (0 + v3.toNat) default).f_Sum) v6)))) TT)
    refine regI ?_
    cases h
    exact AI rfl (simI (M := [((3, 0), (3, 0))]) rfl (AI (Vw.mslE rfl (by first | rfl | omega | (simp; done) | (simp at *; omega)) rfl) (AI (VS rfl) (AI (VS rfl) TT))) (AI (AI rfl (BVw.enc e_QIndexEntry (fun _ => rfl) _ (v4.set (0 + v3.toNat) (G_QIndexEntry.mk ((v4.getD (0 + v3.toNat) default).f_Name) ((v4.getD (0 + v3.toNat) default).f_Sum) v6)))) TT))
  · have h := ite_ff h14 h
    refine exitI ?_
    obtain ⟨o, hq, rfl⟩ := Option.map_eq_some_iff.1 h
    replace h := hq; clear hq
    refine AI nofun ?_
    refine LWp.sim ?_ (f41b0_j1_ok h)
    exact simI (M := [((3, 0), (3, 0))]) rfl (AI (Vw.mslE rfl (by first | rfl | omega | (simp; done) | (simp at *; omega)) rfl) TT) (AI (AI rfl (BVw.enc e_QIndexEntry (fun _ => rfl) _ v4)) TT)

theorem f41b0_L1_ok {a0 : List G_QIndexEntry} {v1 : List G_QIndexEntry} {v3 : Int} {v4 : List G_QIndexEntry} {m : Option Nat} {o : (List G_QIndexEntry)} (h : S_wordindex_clone_l1 m v1 v3 v4 = some o) :
    LWp Try.prog f41b0_lay 3 (.loop f41b0_c1) (QBlock 0 (QSeq Try.prog f41b0_lay 3 f41b0_c0 (f41b0_Q a0 o))) [(0, .msl (3, 0) 3 0 v4.length false), (7, .int .i64 ((v1.length : Nat) : Int)), (8, .int .i64 v3)] [((3, 0), .rows 3 (v4.map e_QIndexEntry))] 4 :=
  LWp_loopM (m := m) (s := ((v3, v4) : (Int × (List G_QIndexEntry)))) (r := o) (fun (s : (Int × (List G_QIndexEntry))) => S_wordindex_clone_b1 m v1 s.1 s.2) (f41b0_L1_env v1) (f41b0_L1_hp v1) (f41b0_L1_Q a0) (fun s o h => f41b0_L1_bok h) h

noncomputable def S_wordindex_clone (m : Option Nat) (a0 : List G_QIndexEntry) : Option (List G_QIndexEntry) :=
  (S_slices_Clone_api_QIndexEntryO m a0).bind fun v1 =>
  S_wordindex_clone_l1 m v1 0 v1

theorem f41b0_start {a0 : List G_QIndexEntry} {m : Option Nat} {o : (List G_QIndexEntry)} (h : S_wordindex_clone m a0 = some o) : LWp Try.prog f41b0_lay 3 f41b0_c2 (f41b0_Q a0 o) (initEnv 0 [.isl 3 (a0.map e_QIndexEntry) false]) [] 3 := by
  unfold S_wordindex_clone at h
  refine seqI ?_
  refine regI ?_
  refine seqI ?_
  refine regI ?_
  obtain ⟨v1, h1, h⟩ := bind_some h
  refine bcall (k := 3) (m := 1) (L' := [((3, 0), .rows 3 (v1.map e_QIndexEntry))]) (rest := []) (R' := .msl (3, 0) 3 0 v1.length false) [] (f62b0_ok h1) rfl rfl rfl (AI (VS rfl) TT) TT rfl (AI rfl (AI (rows_ren e_QIndexEntry (fun _ => rfl) _ _) TT)) rfl ?_
  refine seqI ?_
  refine seqI ?_
  refine regI ?_
  refine blockI ?_
  refine LWp.sim ?_ (f41b0_L1_ok h)
  exact simI (M := [((3, 0), (3, 0))]) rfl (AI (Vw.mslE rfl (by first | rfl | omega | (simp; done) | (simp at *; omega)) rfl) (AI (VS rfl) (AI (VS rfl) TT))) (AI (AI rfl (BVw.enc e_QIndexEntry (fun _ => rfl) _ v1)) TT)

theorem f41b0_ok {a0 : List G_QIndexEntry} {m : Option Nat} {o : (List G_QIndexEntry)} (h : S_wordindex_clone m a0 = some o) : ACalls Try.prog 41 [.isl 3 (a0.map e_QIndexEntry) false] [] 3 (Gives 4 (.msl (3, 0) 3 0 o.length false) [((3, 0), .rows 3 (o.map e_QIndexEntry))]) := bfn_of (L := f41b0_L) f41b0_low f41b0_fok (NB rfl) (f41b0_start h)

def Try.i42_ren : Go.Shelf.Ren := ⟨fun | 22 => 42 | 29 => 64 | 30 => 65 | n => n, fun | 24 => 24 | 9 => 40 | 3 => 3 | 4 => 4 | 0 => 0 | n => n, fun | n => n⟩
theorem Try.i42 : InsL Try.prog Try.i42_ren := {
  mixed := by kernel_rfl
  f22 := ⟨Try.f42.name, Try.func42.trans (congrArg some (by kernel_rfl))⟩
  f29 := ⟨Try.f64.name, Try.func64.trans (congrArg some (by kernel_rfl)), by kernel_rfl, by kernel_rfl, by kernel_rfl⟩
  t0 := Try.underlying0
  a0 := Try.isAgg0
  z0 := Try.sizeOf0
  v0 := Try.zeroValue0
  t3 := Try.underlying3
  a3 := Try.isAgg3
  z3 := Try.sizeOf3
  v3 := Try.zeroValue3
  t4 := Try.underlying4
  a4 := Try.isAgg4
  z4 := Try.sizeOf4
  v4 := Try.zeroValue4
  t24 := Try.underlying24
  a24 := Try.isAgg24
  z24 := Try.sizeOf24
  v24 := Try.zeroValue24 }
def S_slices_Insert_api_QIndexEntryO (m : Option Nat) (a0 : Int) (a1 : List G_QIndexEntry) (a2 : List G_QIndexEntry) : Option (List G_QIndexEntry) := insT 48 a2 a0 a1
theorem f42b0_fok : FnOk Try.prog 42 := ⟨_, Try.func42, rfl, rfl⟩
theorem f42b0_ok {m : Option Nat} {a0 : Int} {a1 : List G_QIndexEntry} {a2 : List G_QIndexEntry} {o : List G_QIndexEntry} (h : S_slices_Insert_api_QIndexEntryO m a0 a1 a2 = some o) : ACalls Try.prog 42 [.msl (0, 0) 3 0 a2.length false, .int .i64 a0, .isl 3 (a1.map e_QIndexEntry) false] [((0, 0), .rows 3 (a2.map e_QIndexEntry))] 3 (Gives 4 (.msl (3, 0) 3 0 o.length false) [((3, 0), .rows 3 (o.map e_QIndexEntry))]) :=
  insT_acalls (zs := [(.str []), (.int .u32 0), (.isl 1 [] true)]) e_QIndexEntry (fun _ => rfl) Try.i42 (by kernel_rfl) (by kernel_rfl) (by kernel_rfl) (by decide) (by decide) (by decide) f42b0_fok rfl h _ _

def f18_c0 : LCode := (.seq (.region [⟨some 46, .mv (.t 0), none⟩,
   ⟨some 4, .mv (.t 46), none⟩,
   ⟨some 5, .mv (.c (.int .i64 0)), none⟩])
 .ret)
def f18_c1 : LCode := (.seq (.region [⟨some 3, .box (.t 1), none⟩,
   ⟨some 4, .mv (.c (.val (.slice none 0 0))), none⟩,
   ⟨some 5, .mv (.c (.int .i64 0)), none⟩])
 (.seq (.seq (.region [⟨some 10, .mv (.t 0), none⟩,
   ⟨some 11, .call 33 [(.t 10)], none⟩,
   ⟨some 12, .un .not (.t 11), none⟩])
 (.cond (.t 12)
  (.seq (.region [⟨some 4, .mv (.c (.val (.slice none 0 0))), none⟩,
    ⟨some 5, .mv (.c (.int .i64 3)), none⟩])
  .ret)
  .skip))
 (.seq (.seq (.region [⟨some 13, .load true 3 (.t 3), none⟩,
   ⟨some 14, .mkSl true 3 [(.str []), (.int .i64 0), (.str [])] 1 [(0, (.t 13))], none⟩,
   ⟨some 15, .call 24 [(.t 14)], none⟩,
   ⟨some 6, .mv (.t 15), none⟩])
 (.seq (.region [⟨some 16, .mv (.t 6), none⟩,
   ⟨some 17, .bin .neq (.t 16) (.c (.int .i64 0)), none⟩])
 (.cond (.t 17)
  (.seq (.region [⟨some 18, .mv (.t 6), none⟩,
    ⟨some 4, .mv (.c (.val (.slice none 0 0))), none⟩,
    ⟨some 5, .mv (.t 18), none⟩])
  .ret)
  .skip)))
 (.seq (.region [⟨some 19, .load true 3 (.t 3), none⟩,
   ⟨some 20, .call 25 [(.t 19)], none⟩,
   ⟨some 7, .alloc [(.str []), (.int .u32 0), (.isl 1 [] true)], none⟩,
   ⟨none, .store 3 (.t 7) (.t 20), none⟩])
 (.seq (.region [⟨some 22, .mv (.t 0), none⟩,
   ⟨some 23, .load true 3 (.t 7), none⟩,
   ⟨some 24, .call 40 [(.t 22), (.t 23), (.c (.fn (.func 27) [] []))], none⟩,
   ⟨some 21, .mv (.t 24), none⟩,
   ⟨some 25, .ext 0 (.t 21), none⟩,
   ⟨some 26, .ext 1 (.t 21), none⟩,
   ⟨some 8, .mv (.t 25), none⟩,
   ⟨some 9, .mv (.t 26), none⟩])
 (.seq (.seq (.region [⟨some 27, .mv (.t 9), none⟩,
   ⟨some 28, .un .not (.t 27), none⟩,
   ⟨some 29, .mv (.t 28), none⟩,
   ⟨some 30, .mv (.t 0), some (29, true)⟩,
   ⟨some 31, .len false (.t 30), some (29, true)⟩,
   ⟨some 32, .bin .geq (.t 31) (.c (.int .i64 20)), some (29, true)⟩,
   ⟨some 33, .pick (.t 29) (.t 32) (.c (.bool false)), none⟩])
 (.cond (.t 33)
  (.seq (.region [⟨some 4, .mv (.c (.val (.slice none 0 0))), none⟩,
    ⟨some 5, .mv (.c (.int .i64 2)), none⟩])
  .ret)
  .skip))
 (.seq (.region [⟨some 34, .mv (.t 0), none⟩,
   ⟨some 35, .call 41 [(.t 34)], none⟩,
   ⟨some 0, .mv (.t 35), none⟩])
 (.seq (.seq (.region [⟨some 36, .mv (.t 9), none⟩])
 (.cond (.t 36)
  (.region [⟨some 37, .mv (.t 0), none⟩,
    ⟨some 38, .mv (.t 8), none⟩,
    ⟨some 39, .load true 3 (.t 7), none⟩,
    ⟨some 40, .iaddr 3 (.t 37) (.t 38), none⟩,
    ⟨none, .store 3 (.t 40) (.t 39), none⟩])
  (.region [⟨some 41, .mv (.t 0), none⟩,
    ⟨some 42, .mv (.t 8), none⟩,
    ⟨some 43, .load true 3 (.t 7), none⟩,
    ⟨some 44, .mkSl true 3 [(.str []), (.int .u32 0), (.isl 1 [] true)] 1 [(0, (.t 43))], none⟩,
    ⟨some 45, .call 42 [(.t 41), (.t 42), (.t 44)], none⟩,
    ⟨some 0, .mv (.t 45), none⟩])))
 f18_c0))))))))
def f18_lay : Lay := ⟨47, [], false⟩
def f18_res : List LRes := [.t 4, .t 5]
def f18_L : LFn := ⟨2, f18_lay, f18_c1, f18_res⟩
theorem f18_low : lowFn Try.prog [] 18 = some f18_L := by kernel_rfl
theorem f18_fok : FnOk Try.prog 18 := ⟨_, Try.func18, rfl, rfl⟩
noncomputable def S_wordindex_Update_j1 (m : Option Nat) (v7 : List G_QIndexEntry) : Option ((List G_QIndexEntry) × Int) :=
  some (v7, 0)

def f18_Q (a0 : List G_QIndexEntry) (a1 : G_QDocument) (o : (List G_QIndexEntry) × Int) : Exit → Env → AHeap → Nat → Prop := FinK f18_res (PureEnd (.tup [.isl 3 (o.1.map e_QIndexEntry) false, .int .i64 o.2]))

theorem f18_j1_ok {a0 : List G_QIndexEntry} {a1 : G_QDocument} {v7 : List G_QIndexEntry} {m : Option Nat} {o : ((List G_QIndexEntry) × Int)} (h : S_wordindex_Update_j1 m v7 = some o) :
    LWp Try.prog f18_lay 0 f18_c0 (f18_Q a0 a1 o) [(0, .msl (0, 0) 3 0 v7.length false)] [((0, 0), .rows 3 (v7.map e_QIndexEntry))] 1 := by
  unfold S_wordindex_Update_j1 at h
  refine seqI ?_
  refine regI ?_
  refine retI ?_
  cases h
  exact AI TT (AI TT (AI rfl (Vw.tupL (AI (Vw.frzB e_QIndexEntry e_QIndexEntry_ok (fun h => h) rfl rfl (by first | rfl | omega | (simp; done) | (simp at *; omega))) (AI (VS rfl) TT)))))

noncomputable def S_wordindex_Update (m : Option Nat) (a0 : List G_QIndexEntry) (a1 : G_QDocument) : Option ((List G_QIndexEntry) × Int) :=
  (S_wordindex_valid m a0).bind fun v1 =>
  if (!v1) = true then
    some ([], 3)
  else
    (S_wordindex_validateDocuments m ([a1] : List G_QDocument)).bind fun v2 =>
    if (v2 != 0) = true then
      some ([], v2)
    else
      (S_wordindex_newEntry m a1).bind fun v3 =>
      (S_slices_BinarySearchFunc_api_QIndexEntry (fun (s : Unit) (x : (G_QIndexEntry × G_QIndexEntry)) => (S_wordindex_compareNamesc m x.1 x.2).map fun o => (o, ())) m a0 v3 ()).bind fun v4 =>
      if ((!v4.2.1) && (decide (((a0.map e_QIndexEntry).length : Int) ≥ 20))) = true then
        some ([], 2)
      else
        (S_wordindex_clone m a0).bind fun v5 =>
        if v4.2.1 = true then
          if (0 : Int) ≤ v4.1 ∧ v4.1 < ((v5.length : Nat) : Int) then
          if (0 + v4.1.toNat) < v5.length then
          S_wordindex_Update_j1 m (v5.set (0 + v4.1.toNat) v3)
          else none
          else none
        else
          (S_slices_Insert_api_QIndexEntryO m v4.1 ([v3] : List G_QIndexEntry) v5).bind fun v6 =>
          S_wordindex_Update_j1 m v6

theorem f18_start {a0 : List G_QIndexEntry} {a1 : G_QDocument} {m : Option Nat} {o : (List G_QIndexEntry) × Int} (h : S_wordindex_Update m a0 a1 = some o) : LWp Try.prog f18_lay 0 f18_c1 (f18_Q a0 a1 o) (initEnv 0 [.isl 3 (a0.map e_QIndexEntry) false, .agg [.str a1.f_Name, .int .i64 a1.f_Version, .str a1.f_Text]]) [] 0 := by
  unfold S_wordindex_Update at h
  refine seqI ?_
  refine regI ?_
  refine seqI ?_
  refine seqI ?_
  refine regI ?_
  obtain ⟨v1, h1, h⟩ := bind_some h
  refine PFn.call (f33_ok h1) (AI (VS rfl) TT) ?_
  refine condI (v := (!v1)) rfl TT (fun h2 => ?_) (fun h2 => ?_)
  · have h := ite_tt h2 h
    refine seqI ?_
    refine regI ?_
    refine LWp.sim (e := [(4, .val (.slice none 0 0)), (5, .int .i64 3)]) (L := []) (n := 0) ?_ ?_
    · exact simI (M := []) rfl (AI (VS rfl) (AI (VS rfl) TT)) TT
    refine retI ?_
    cases h
    exact AI TT (AI TT (AI rfl (Vw.tupL (AI (Vw.nilI _ _) (AI (VS rfl) TT)))))
  · have h := ite_ff h2 h
    refine skipI ?_
    refine seqI ?_
    refine seqI ?_
    refine regI ?_
    obtain ⟨v2, h3, h⟩ := bind_some h
    refine PFn.call (f24_ok h3) (AI (Vw.islF _ _ _) TT) ?_
    refine LWp.sim (e := [(0, .isl 3 (a0.map e_QIndexEntry) false), (3, .ptr (0, 0) 0 0), (6, .int .i64 v2)]) (L := [((0, 0), .one [.str a1.f_Name, .int .i64 a1.f_Version, .str a1.f_Text])]) (n := 1) ?_ ?_
    · exact simI (M := [((0, 0), (0, 0))]) rfl (AI (VS rfl) (AI (Vw.ptr _ _ _ _ rfl) (AI (VS rfl) TT))) (AI (AI rfl (BVw.oneL (AI (VS rfl) (AI (VS rfl) (AI (VS rfl) TT))))) TT)
    refine seqI ?_
    refine regI ?_
    refine condI (v := (v2 != 0)) rfl TT (fun h4 => ?_) (fun h4 => ?_)
    · have h := ite_tt h4 h
      refine seqI ?_
      refine regI ?_
      refine retI ?_
      cases h
      exact AI TT (AI TT (AI rfl (Vw.tupL (AI (Vw.nilI _ _) (AI (VS rfl) TT)))))
    · have h := ite_ff h4 h
      refine skipI ?_
      refine seqI ?_
      refine regI ?_
      obtain ⟨v3, h5, h⟩ := bind_some h
      refine PFn.call (f25_ok h5) (AI (VS rfl) TT) ?_
      refine seqI ?_
      refine regI ?_
      obtain ⟨v4, h6, h⟩ := bind_some h
      refine bcall (k := 3) (m := 1) (L' := []) (rest := [((1, 0), .one [.str v3.f_Name, .int .u32 v3.f_Sum, .isl 1 (v3.f_Words.map e_str) false]), ((0, 0), .one [.str a1.f_Name, .int .i64 a1.f_Version, .str a1.f_Text])]) (R' := .tup [.int .i64 v4.1, .bool v4.2.1]) [] (f40b0_ok (show Clo Try.prog (.func 27) [] [] (fun (s : Unit) => []) (fun (x : (G_QIndexEntry × G_QIndexEntry)) => [.agg [.str x.1.f_Name, .int .u32 x.1.f_Sum, .isl 1 (x.1.f_Words.map e_str) false], .agg [.str x.2.f_Name, .int .u32 x.2.f_Sum, .isl 1 (x.2.f_Words.map e_str) false]]) (fun (b : Int) => .int .i64 b) (fun (s : Unit) (x : (G_QIndexEntry × G_QIndexEntry)) => (S_wordindex_compareNamesc m x.1 x.2).map fun o => (o, ())) from Clo.mk' (fun s => Tl.lit rfl TT rfl) rfl rfl (fun _ => rfl) (fun s x o h => by obtain ⟨o1, h1, rfl⟩ := Option.map_eq_some_iff.1 h; exact EX _ (AI (f27c0_ok h1) TT))) h6) rfl rfl rfl (AI (VS rfl) (AI (VS rfl) (AI (VS rfl) TT))) TT (nid_ren _ rfl) TT rfl ?_
      refine LWp.sim (e := [(0, .isl 3 (a0.map e_QIndexEntry) false), (7, .ptr (0, 0) 0 0), (8, .int .i64 v4.1), (9, .bool v4.2.1)]) (L := [((0, 0), .one [.str v3.f_Name, .int .u32 v3.f_Sum, .isl 1 (v3.f_Words.map e_str) false])]) (n := 1) ?_ ?_
      · exact simI (M := [((0, 0), (1, 0))]) rfl (AI (VS rfl) (AI (Vw.ptr _ _ _ _ rfl) (AI (VS rfl) (AI (VS rfl) TT)))) (AI (AI rfl (BVw.oneL (AI (VS rfl) (AI (VS rfl) (AI (VS rfl) TT))))) TT)
      refine seqI ?_
      refine seqI ?_
      refine regI ?_
      refine AI (fun hp => hp) ?_
      refine AI (fun hp => hp) ?_
      refine AI (fun hc => (bqt hc)) ?_
      refine condI (v := ((!v4.2.1) && (decide (((a0.map e_QIndexEntry).length : Int) ≥ 20)))) rfl TT (fun h7 => ?_) (fun h7 => ?_)
      · have h := ite_tt h7 h
        refine seqI ?_
        refine regI ?_
        refine LWp.sim (e := [(4, .val (.slice none 0 0)), (5, .int .i64 2)]) (L := []) (n := 0) ?_ ?_
        · exact simI (M := []) rfl (AI (VS rfl) (AI (VS rfl) TT)) TT
        refine retI ?_
        cases h
        exact AI TT (AI TT (AI rfl (Vw.tupL (AI (Vw.nilI _ _) (AI (VS rfl) TT)))))
      · have h := ite_ff h7 h
        refine skipI ?_
        refine seqI ?_
        refine regI ?_
        obtain ⟨v5, h8, h⟩ := bind_some h
        refine bcall (k := 3) (m := 1) (L' := [((1, 0), .rows 3 (v5.map e_QIndexEntry))]) (rest := [((0, 0), .one [.str v3.f_Name, .int .u32 v3.f_Sum, .isl 1 (v3.f_Words.map e_str) false])]) (R' := .msl (1, 0) 3 0 v5.length false) [] (f41b0_ok h8) rfl rfl rfl (AI (VS rfl) TT) TT rfl (AI rfl (AI (rows_ren e_QIndexEntry (fun _ => rfl) _ _) TT)) rfl ?_
        refine LWp.sim (e := [(0, .msl (0, 0) 3 0 v5.length false), (7, .ptr (1, 0) 0 0), (8, .int .i64 v4.1), (9, .bool v4.2.1)]) (L := [((0, 0), .rows 3 (v5.map e_QIndexEntry)), ((1, 0), .one [.str v3.f_Name, .int .u32 v3.f_Sum, .isl 1 (v3.f_Words.map e_str) false])]) (n := 2) ?_ ?_
        · exact simI (M := [((0, 0), (1, 0)), ((1, 0), (0, 0))]) rfl (AI (Vw.mslE rfl (by first | rfl | omega | (simp; done) | (simp at *; omega)) rfl) (AI (Vw.ptr _ _ _ _ rfl) (AI (VS rfl) (AI (VS rfl) TT)))) (AI (AI rfl (BVw.enc e_QIndexEntry (fun _ => rfl) _ v5)) (AI (AI rfl (BVw.oneL (AI (VS rfl) (AI (VS rfl) (AI (VS rfl) TT))))) TT))
        refine seqI ?_
        refine seqI ?_
        refine regI ?_
        refine condI (v := v4.2.1) rfl TT (fun h9 => ?_) (fun h9 => ?_)
        · have h := ite_tt h9 h
          refine regI ?_
          obtain ⟨h10, h⟩ := ite_some h
          refine AI h10 ?_
          obtain ⟨h11, h⟩ := ite_some h
          refine EX ((v5.set (0 + v4.1.toNat) v3).map e_QIndexEntry) (AI (set_enc e_QIndexEntry _ _ _ _ _ h11 rfl) (AI (AI rfl (AI (lt_map e_QIndexEntry h11) (NB rfl))) ?_))
          refine LWp.sim ?_ (f18_j1_ok h)
          exact simI (M := [((0, 0), (0, 0))]) rfl (AI (Vw.mslE rfl (by first | rfl | omega | (simp; done) | (simp at *; omega)) rfl) TT) (AI (AI rfl (BVw.enc e_QIndexEntry (fun _ => rfl) _ (v5.set (0 + v4.1.toNat) v3))) TT)
        · have h := ite_ff h9 h
          refine regI ?_
          obtain ⟨v6, h12, h⟩ := bind_some h
          refine bcall (k := 3) (m := 1) (L' := [((2, 0), .rows 3 (v6.map e_QIndexEntry))]) (rest := [((1, 0), .one [.str v3.f_Name, .int .u32 v3.f_Sum, .isl 1 (v3.f_Words.map e_str) false])]) (R' := .msl (2, 0) 3 0 v6.length false) [((0, 0), (0, 0))] (f42b0_ok h12) rfl rfl rfl (AI (Vw.mslE rfl (by first | rfl | omega | (simp; done) | (simp at *; omega)) rfl) (AI (VS rfl) (AI (Vw.islF _ _ _) TT))) (AI (h0I (0, 0) rfl rfl (BVw.enc e_QIndexEntry (fun _ => rfl) _ v5)) TT) rfl (AI rfl (AI (rows_ren e_QIndexEntry (fun _ => rfl) _ _) TT)) rfl ?_
          refine LWp.sim ?_ (f18_j1_ok h)
          exact simI (M := [((0, 0), (2, 0))]) rfl (AI (Vw.mslE rfl (by first | rfl | omega | (simp; done) | (simp at *; omega)) rfl) TT) (AI (AI rfl (BVw.enc e_QIndexEntry (fun _ => rfl) _ v6)) TT)

theorem f18_ok {a0 : List G_QIndexEntry} {a1 : G_QDocument} {m : Option Nat} {o : (List G_QIndexEntry) × Int} (h : S_wordindex_Update m a0 a1 = some o) : PFn Try.prog 18 [.isl 3 (a0.map e_QIndexEntry) false, .agg [.str a1.f_Name, .int .i64 a1.f_Version, .str a1.f_Text]] (.tup [.isl 3 (o.1.map e_QIndexEntry) false, .int .i64 o.2]) := PFn.ofFnW (L := f18_L) f18_low f18_fok (NB rfl) rfl (f18_start h)

def f44c0_c0 : LCode := (.seq (.region [⟨some 2, .box (.t 0), none⟩,
   ⟨some 3, .mv (.c (.bool false)), none⟩])
 (.seq (.region [⟨some 4, .faddr 0 (.t 2), none⟩,
   ⟨some 5, .load false 1 (.t 4), none⟩,
   ⟨some 6, .load false 1 (.t 1), none⟩,
   ⟨some 7, .bin .eql (.t 5) (.t 6), none⟩,
   ⟨some 3, .mv (.t 7), none⟩])
 .ret))
def f44c0_lay : Lay := ⟨8, [], false⟩
def f44c0_res : List LRes := [.t 3]
def f44c0_L : LFn := ⟨2, f44c0_lay, f44c0_c0, f44c0_res⟩
theorem f44c0_low : lowFn Try.prog [] 44 = some f44c0_L := by kernel_rfl
theorem f44c0_fok : FnOk Try.prog 44 := ⟨_, Try.func44, rfl, rfl⟩
noncomputable def S_wordindex_Remove_1c (m : Option Nat) (a0 : List UInt8) (a1 : G_QIndexEntry) : Option Bool :=
  some (a1.f_Name == a0)

def f44c0_Q (a0 : List UInt8) (a1 : G_QIndexEntry) (o : Bool) : Exit → Env → AHeap → Nat → Prop := FinK f44c0_res (FinTo 3 4 (.bool o) [((1, 0), .one [.str a0])])

theorem f44c0_start {a0 : List UInt8} {a1 : G_QIndexEntry} {m : Option Nat} {o : Bool} (h : S_wordindex_Remove_1c m a0 a1 = some o) : LWp Try.prog f44c0_lay 3 f44c0_c0 (f44c0_Q a0 a1 o) (initEnv 0 [.agg [.str a1.f_Name, .int .u32 a1.f_Sum, .isl 1 (a1.f_Words.map e_str) false], .ptr (1, 0) 0 0]) [((1, 0), .one [.str a0])] 3 := by
  unfold S_wordindex_Remove_1c at h
  refine seqI ?_
  refine regI ?_
  refine seqI ?_
  refine regI ?_
  refine retI ?_
  cases h
  exact AI TT (finI (n' := 4) [] [] rfl rfl (VS rfl) (AI (AI rfl (BVw.oneL (AI (VS rfl) TT))) TT))

theorem f44c0_ok {a0 : List UInt8} {a1 : G_QIndexEntry} {m : Option Nat} {o : Bool} (h : S_wordindex_Remove_1c m a0 a1 = some o) : ACalls Try.prog 44 [.agg [.str a1.f_Name, .int .u32 a1.f_Sum, .isl 1 (a1.f_Words.map e_str) false], .ptr (1, 0) 0 0] [((1, 0), .one [.str a0])] 3 (Gives 4 (.bool o) [((1, 0), .one [.str a0])]) := bfn_of (L := f44c0_L) f44c0_low f44c0_fok (NB rfl) (f44c0_start h)

def f43b0_c1 : LCode := (.seq (.region [⟨some 9, .bin .lss (.t 8) (.t 7), none⟩])
 (.seq (.cond (.t 9)
  .skip
  (.exit 0))
 (.seq (.block 1
  (.seq (.region [⟨some 10, .mv (.t 8), none⟩,
    ⟨some 5, .mv (.t 10), none⟩])
  (.seq (.region [⟨some 11, .mv (.t 1), none⟩,
    ⟨some 12, .mv (.t 0), none⟩,
    ⟨some 13, .mv (.t 5), none⟩,
    ⟨some 14, .iaddr 3 (.t 12) (.t 13), none⟩,
    ⟨some 15, .load true 3 (.t 14), none⟩,
    ⟨some 16, .callv (.t 11) [(.t 15)], none⟩])
  (.cond (.t 16)
   (.seq (.region [⟨some 17, .mv (.t 5), none⟩,
     ⟨some 4, .mv (.t 17), none⟩])
   .ret)
   .skip))))
 (.region [⟨some 18, .bin .add (.t 8) (.c (.int .i64 1)), none⟩,
   ⟨some 8, .mv (.t 18), none⟩]))))
def f43b0_c0 : LCode := (.seq (.region [⟨some 4, .mv (.c (.int .i64 (-1))), none⟩])
 .ret)
def f43b0_c2 : LCode := (.seq (.region [⟨some 4, .mv (.c (.int .i64 0)), none⟩])
 (.seq (.seq (.region [⟨some 6, .mv (.t 0), none⟩,
   ⟨some 7, .len false (.t 6), none⟩,
   ⟨some 8, .mv (.c (.int .i64 0)), none⟩])
 (.block 0
  (.loop
   f43b0_c1)))
 f43b0_c0))
def f43b0_lay : Lay := ⟨19, [], false⟩
def f43b0_res : List LRes := [.t 4]
def f43b0_L : LFn := ⟨2, f43b0_lay, f43b0_c2, f43b0_res⟩
theorem f43b0_low : lowFn Try.prog [] 43 = some f43b0_L := by kernel_rfl
theorem f43b0_fok : FnOk Try.prog 43 := ⟨_, Try.func43, rfl, rfl⟩
def f43b0_Q {σ : Type} (Hc : σ → AHeap) (fi0 : Fn) (ff0 fc0 : List AVal) (a0 : List G_QIndexEntry) (z0 : σ) (o : Int × σ) : Exit → Env → AHeap → Nat → Prop := FinK f43b0_res (FinTo 3 4 (.int .i64 o.1) ([] ++ up 3 (Hc o.2)))

def f43b0_L1_env {σ : Type} (Hc : σ → AHeap) (fi0 : Fn) (ff0 fc0 : List AVal) (a0 : List G_QIndexEntry) (s : (Int × σ)) : Env := [(0, .isl 3 (a0.map e_QIndexEntry) false), (1, .fn fi0 ff0 fc0), (7, .int .i64 ((a0.map e_QIndexEntry).length : Int)), (8, .int .i64 s.1)]
def f43b0_L1_hp {σ : Type} (Hc : σ → AHeap) (fi0 : Fn) (ff0 fc0 : List AVal) (a0 : List G_QIndexEntry) (s : (Int × σ)) : AHeap := ([] ++ up 3 (Hc s.2))
def f43b0_L1_Q {σ : Type} (Hc : σ → AHeap) (fi0 : Fn) (ff0 fc0 : List AVal) (a0 : List G_QIndexEntry) (z0 : σ) (o : (Int × σ)) : Exit → Env → AHeap → Nat → Prop := (QBlock 0 (QSeq Try.prog f43b0_lay 3 f43b0_c0 (f43b0_Q Hc fi0 ff0 fc0 a0 z0 o)))

noncomputable def S_slices_IndexFunc_api_QIndexEntry_j1 {σ : Type} (g0 : σ → G_QIndexEntry → Option (Bool × σ)) (m : Option Nat) (v3 : σ) : Option (Int × σ) :=
  some ((-1), v3)

noncomputable def S_slices_IndexFunc_api_QIndexEntry_b1 {σ : Type} (g0 : σ → G_QIndexEntry → Option (Bool × σ)) (m : Option Nat) (a0 : List G_QIndexEntry) (v2 : Int) (v3 : σ) : Option ((Int × σ) ⊕ (Int × σ)) :=
  if (decide (v2 < ((a0.map e_QIndexEntry).length : Int))) = true then
    if (0 : Int) ≤ v2 ∧ v2 < ((a0.map e_QIndexEntry).length : Int) then
    (g0 v3 (G_QIndexEntry.mk ((a0.getD v2.toNat default).f_Name) ((a0.getD v2.toNat default).f_Sum) ((a0.getD v2.toNat default).f_Words))).bind fun v5 =>
    if v5.1 = true then
      Option.map Sum.inr (
        some (v2, v5.2))
    else
      some (.inl ((W (v2 + 1)), v5.2))
    else none
  else
    Option.map Sum.inr (
      S_slices_IndexFunc_api_QIndexEntry_j1 g0 m v3)

noncomputable def S_slices_IndexFunc_api_QIndexEntry_l1 {σ : Type} (g0 : σ → G_QIndexEntry → Option (Bool × σ)) (m : Option Nat) (a0 : List G_QIndexEntry) (v2 : Int) (v3 : σ) : Option (Int × σ) := loopM m (fun (s : (Int × σ)) => S_slices_IndexFunc_api_QIndexEntry_b1 g0 m a0 s.1 s.2) (v2, v3)

theorem f43b0_j1_ok {σ : Type} {Hc : σ → AHeap} {fi0 : Fn} {ff0 fc0 : List AVal} {g0 : σ → G_QIndexEntry → Option (Bool × σ)} (hg0 : Clo Try.prog fi0 ff0 fc0 Hc (fun (x : G_QIndexEntry) => [.agg [.str x.f_Name, .int .u32 x.f_Sum, .isl 1 (x.f_Words.map e_str) false]]) (fun (b : Bool) => .bool b) g0) {a0 : List G_QIndexEntry} {z0 : σ} {v3 : σ} {m : Option Nat} {o : (Int × σ)} (h : S_slices_IndexFunc_api_QIndexEntry_j1 g0 m v3 = some o) :
    LWp Try.prog f43b0_lay 3 f43b0_c0 (f43b0_Q Hc fi0 ff0 fc0 a0 z0 o) [] ([] ++ up 3 (Hc v3)) 4 := by
  unfold S_slices_IndexFunc_api_QIndexEntry_j1 at h
  refine seqI ?_
  refine regI ?_
  refine retI ?_
  cases h
  exact AI TT (finT (n' := 4) (q := 3) (lit' := []) (hg0.tl _) [] [] rfl rfl (VS rfl) TT)

theorem f43b0_L1_bok {σ : Type} {Hc : σ → AHeap} {fi0 : Fn} {ff0 fc0 : List AVal} {g0 : σ → G_QIndexEntry → Option (Bool × σ)} (hg0 : Clo Try.prog fi0 ff0 fc0 Hc (fun (x : G_QIndexEntry) => [.agg [.str x.f_Name, .int .u32 x.f_Sum, .isl 1 (x.f_Words.map e_str) false]]) (fun (b : Bool) => .bool b) g0) {z0 : σ} {a0 : List G_QIndexEntry} {v2 : Int} {v3 : σ} {m : Option Nat} {o : (Int × σ) ⊕ (Int × σ)} (h : S_slices_IndexFunc_api_QIndexEntry_b1 g0 m a0 v2 v3 = some o) :
    LWp Try.prog f43b0_lay 3 f43b0_c1 (BodyQ 3 4 (f43b0_L1_env Hc fi0 ff0 fc0 a0) (f43b0_L1_hp Hc fi0 ff0 fc0 a0) (f43b0_L1_Q Hc fi0 ff0 fc0 a0 z0) o) [(0, .isl 3 (a0.map e_QIndexEntry) false), (1, .fn fi0 ff0 fc0), (7, .int .i64 ((a0.map e_QIndexEntry).length : Int)), (8, .int .i64 v2)] ([] ++ up 3 (Hc v3)) 4 := by
  unfold S_slices_IndexFunc_api_QIndexEntry_b1 at h
  refine seqI ?_
  refine regI ?_
  refine seqI ?_
  refine condI (v := (decide (v2 < ((a0.map e_QIndexEntry).length : Int)))) rfl TT (fun h9 => ?_) (fun h9 => ?_)
  · have h := ite_tt h9 h
    refine skipI ?_
    refine seqI ?_
    refine blockI ?_
    refine seqI ?_
    refine regI ?_
    refine seqI ?_
    refine regI ?_
    obtain ⟨h10, h⟩ := ite_some h
    refine AI h10 ?_
    refine EX (e_QIndexEntry (a0.getD v2.toNat default)) (AI (getD_enc e_QIndexEntry _ _ (idx_ltL e_QIndexEntry h10)) (AI (AI (idx_lt h10) (NB rfl)) ?_))
    obtain ⟨v5, h11, h⟩ := bind_some h
    refine Clo.use (q := 3) (lit := []) hg0 h11 rfl rfl (AI (VS rfl) TT) ?_
    refine LWp.sim (e := [(0, .isl 3 (a0.map e_QIndexEntry) false), (1, .fn fi0 ff0 fc0), (5, .int .i64 v2), (7, .int .i64 ((a0.map e_QIndexEntry).length : Int)), (8, .int .i64 v2), (16, .bool v5.1)]) (L := ([] ++ up 3 (Hc v5.2))) (n := 4) ?_ ?_
    · exact simT (M := []) (lit' := []) (hg0.tl _) rfl (AI (VS rfl) (AI (Vw.clo hg0.hf hg0.hc (by decide) (rhoT_1 (chkT_ok (n := 4) (q := 4) (lit' := []) rfl))) (AI (VS rfl) (AI (VS rfl) (AI (VS rfl) (AI (VS rfl) TT)))))) TT
    refine condI (v := v5.1) rfl TT (fun h12 => ?_) (fun h12 => ?_)
    · have h := ite_tt h12 h
      refine seqI ?_
      refine regI ?_
      refine retI ?_
      obtain ⟨o, hq, rfl⟩ := Option.map_eq_some_iff.1 h
      replace h := hq; clear hq
      refine AI nofun ?_
      cases h
      exact AI TT (finT (n' := 4) (q := 3) (lit' := []) (hg0.tl _) [] [] rfl rfl (VS rfl) TT)
    · have h := ite_ff h12 h
      refine skipI ?_
      refine regI ?_
      cases h
      exact AI rfl (simT (M := []) (lit' := []) (hg0.tl _) rfl (AI (VS rfl) (AI (Vw.clo hg0.hf hg0.hc (by decide) (rhoT_1 (chkT_ok (n := 4) (q := 3) (lit' := []) rfl))) (AI (VS rfl) (AI (VS rfl) TT)))) TT)
  · have h := ite_ff h9 h
    refine exitI ?_
    obtain ⟨o, hq, rfl⟩ := Option.map_eq_some_iff.1 h
    replace h := hq; clear hq
    refine AI nofun ?_
    refine LWp.sim ?_ (f43b0_j1_ok hg0 h)
    exact simT (M := []) (lit' := []) (hg0.tl _) rfl TT TT

theorem f43b0_L1_ok {σ : Type} {Hc : σ → AHeap} {fi0 : Fn} {ff0 fc0 : List AVal} {g0 : σ → G_QIndexEntry → Option (Bool × σ)} (hg0 : Clo Try.prog fi0 ff0 fc0 Hc (fun (x : G_QIndexEntry) => [.agg [.str x.f_Name, .int .u32 x.f_Sum, .isl 1 (x.f_Words.map e_str) false]]) (fun (b : Bool) => .bool b) g0) {z0 : σ} {a0 : List G_QIndexEntry} {v2 : Int} {v3 : σ} {m : Option Nat} {o : (Int × σ)} (h : S_slices_IndexFunc_api_QIndexEntry_l1 g0 m a0 v2 v3 = some o) :
    LWp Try.prog f43b0_lay 3 (.loop f43b0_c1) (QBlock 0 (QSeq Try.prog f43b0_lay 3 f43b0_c0 (f43b0_Q Hc fi0 ff0 fc0 a0 z0 o))) [(0, .isl 3 (a0.map e_QIndexEntry) false), (1, .fn fi0 ff0 fc0), (7, .int .i64 ((a0.map e_QIndexEntry).length : Int)), (8, .int .i64 v2)] ([] ++ up 3 (Hc v3)) 4 :=
  LWp_loopM (m := m) (s := ((v2, v3) : (Int × σ))) (r := o) (fun (s : (Int × σ)) => S_slices_IndexFunc_api_QIndexEntry_b1 g0 m a0 s.1 s.2) (f43b0_L1_env Hc fi0 ff0 fc0 a0) (f43b0_L1_hp Hc fi0 ff0 fc0 a0) (f43b0_L1_Q Hc fi0 ff0 fc0 a0 z0) (fun s o h => f43b0_L1_bok hg0 h) h

noncomputable def S_slices_IndexFunc_api_QIndexEntry {σ : Type} (g0 : σ → G_QIndexEntry → Option (Bool × σ)) (m : Option Nat) (a0 : List G_QIndexEntry) (z0 : σ) : Option (Int × σ) :=
  S_slices_IndexFunc_api_QIndexEntry_l1 g0 m a0 0 z0

theorem f43b0_start {σ : Type} {Hc : σ → AHeap} {fi0 : Fn} {ff0 fc0 : List AVal} {g0 : σ → G_QIndexEntry → Option (Bool × σ)} (hg0 : Clo Try.prog fi0 ff0 fc0 Hc (fun (x : G_QIndexEntry) => [.agg [.str x.f_Name, .int .u32 x.f_Sum, .isl 1 (x.f_Words.map e_str) false]]) (fun (b : Bool) => .bool b) g0) {a0 : List G_QIndexEntry} {z0 : σ} {m : Option Nat} {o : Int × σ} (h : S_slices_IndexFunc_api_QIndexEntry g0 m a0 z0 = some o) : LWp Try.prog f43b0_lay 3 f43b0_c2 (f43b0_Q Hc fi0 ff0 fc0 a0 z0 o) (initEnv 0 [.isl 3 (a0.map e_QIndexEntry) false, .fn fi0 ff0 fc0]) ([] ++ Hc z0) 3 := by
  unfold S_slices_IndexFunc_api_QIndexEntry at h
  refine LWp.sim (e := [(0, .isl 3 (a0.map e_QIndexEntry) false), (1, .fn fi0 ff0 fc0)]) (L := ([] ++ up 3 (Hc z0))) (n := 4) (entryT (T := Hc z0) (e' := initEnv 0 [.isl 3 (a0.map e_QIndexEntry) false, .fn fi0 ff0 fc0]) (e := [(0, .isl 3 (a0.map e_QIndexEntry) false), (1, .fn fi0 ff0 fc0)]) (lit' := []) (lit := []) (hg0.tl z0) rfl rfl (AI (VS rfl) (AI (Vw.clo hg0.hf hg0.hc (by decide) (rhoE_1 _)) TT)) TT) ?_
  refine seqI ?_
  refine regI ?_
  refine seqI ?_
  refine seqI ?_
  refine regI ?_
  refine blockI ?_
  refine LWp.sim ?_ (f43b0_L1_ok hg0 h)
  exact simT (M := []) (lit' := []) (hg0.tl _) rfl (AI (VS rfl) (AI (Vw.clo hg0.hf hg0.hc (by decide) (rhoT_1 (chkT_ok (n := 4) (q := 3) (lit' := []) rfl))) (AI (VS rfl) (AI (VS rfl) TT)))) TT

theorem f43b0_ok {σ : Type} {Hc : σ → AHeap} {fi0 : Fn} {ff0 fc0 : List AVal} {g0 : σ → G_QIndexEntry → Option (Bool × σ)} (hg0 : Clo Try.prog fi0 ff0 fc0 Hc (fun (x : G_QIndexEntry) => [.agg [.str x.f_Name, .int .u32 x.f_Sum, .isl 1 (x.f_Words.map e_str) false]]) (fun (b : Bool) => .bool b) g0) {a0 : List G_QIndexEntry} {z0 : σ} {m : Option Nat} {o : Int × σ} (h : S_slices_IndexFunc_api_QIndexEntry g0 m a0 z0 = some o) : ACalls Try.prog 43 [.isl 3 (a0.map e_QIndexEntry) false, .fn fi0 ff0 fc0] ([] ++ Hc z0) 3 (Gives 4 (.int .i64 o.1) ([] ++ up 3 (Hc o.2))) := bfn_of (L := f43b0_L) f43b0_low f43b0_fok (NB rfl) (f43b0_start hg0 h)

def Try.i45_ren : Go.Shelf.Ren := ⟨fun | 24 => 45 | n => n, fun | 24 => 24 | 9 => 40 | 3 => 3 | 4 => 4 | 0 => 0 | n => n, fun | n => n⟩
theorem Try.i45 : DelL Try.prog Try.i45_ren := {
  mixed := by kernel_rfl
  f24 := ⟨Try.f45.name, Try.func45.trans (congrArg some (by kernel_rfl))⟩
  t0 := Try.underlying0
  a0 := Try.isAgg0
  z0 := Try.sizeOf0
  v0 := Try.zeroValue0
  t3 := Try.underlying3
  a3 := Try.isAgg3
  z3 := Try.sizeOf3
  v3 := Try.zeroValue3
  t4 := Try.underlying4
  a4 := Try.isAgg4
  z4 := Try.sizeOf4
  v4 := Try.zeroValue4
  t24 := Try.underlying24
  a24 := Try.isAgg24
  z24 := Try.sizeOf24
  v24 := Try.zeroValue24 }
def S_slices_Delete_api_QIndexEntryO (m : Option Nat) (a0 : Int) (a1 : Int) (a2 : List G_QIndexEntry) : Option (List G_QIndexEntry) := delT a2 a0 a1
theorem f45b0_fok : FnOk Try.prog 45 := ⟨_, Try.func45, rfl, rfl⟩
theorem f45b0_ok {m : Option Nat} {a0 : Int} {a1 : Int} {a2 : List G_QIndexEntry} {o : List G_QIndexEntry} (h : S_slices_Delete_api_QIndexEntryO m a0 a1 a2 = some o) : ACalls Try.prog 45 [.msl (0, 0) 3 0 a2.length false, .int .i64 a0, .int .i64 a1] [((0, 0), .rows 3 (a2.map e_QIndexEntry))] 3 (Gives 4 (.msl (3, 0) 3 0 o.length false) [((3, 0), .rows 3 (o.map e_QIndexEntry))]) :=
  delT_acalls (zs := [(.str []), (.int .u32 0), (.isl 1 [] true)]) e_QIndexEntry Try.i45 (by kernel_rfl) (by kernel_rfl) (by decide) rfl f45b0_fok rfl h _

def f19_c0 : LCode := (.seq (.region [⟨some 3, .box (.t 1), none⟩,
   ⟨some 4, .mv (.c (.val (.slice none 0 0))), none⟩,
   ⟨some 5, .mv (.c (.int .i64 0)), none⟩])
 (.seq (.seq (.region [⟨some 7, .mv (.t 0), none⟩,
   ⟨some 8, .call 33 [(.t 7)], none⟩,
   ⟨some 9, .un .not (.t 8), none⟩])
 (.cond (.t 9)
  (.seq (.region [⟨some 4, .mv (.c (.val (.slice none 0 0))), none⟩,
    ⟨some 5, .mv (.c (.int .i64 3)), none⟩])
  .ret)
  .skip))
 (.seq (.region [⟨some 10, .mv (.t 0), none⟩,
   ⟨some 11, .mkfn (.func 44) [] [(.t 3)], none⟩,
   ⟨some 12, .call 43 [(.t 10), (.t 11)], none⟩,
   ⟨some 6, .mv (.t 12), none⟩])
 (.seq (.seq (.region [⟨some 13, .mv (.t 6), none⟩,
   ⟨some 14, .bin .lss (.t 13) (.c (.int .i64 0)), none⟩])
 (.cond (.t 14)
  (.seq (.region [⟨some 4, .mv (.c (.val (.slice none 0 0))), none⟩,
    ⟨some 5, .mv (.c (.int .i64 5)), none⟩])
  .ret)
  .skip))
 (.seq (.region [⟨some 15, .mv (.t 0), none⟩,
   ⟨some 16, .call 41 [(.t 15)], none⟩,
   ⟨some 17, .mv (.t 6), none⟩,
   ⟨some 18, .mv (.t 6), none⟩,
   ⟨some 19, .bin .add (.t 18) (.c (.int .i64 1)), none⟩,
   ⟨some 20, .call 45 [(.t 16), (.t 17), (.t 19)], none⟩,
   ⟨some 4, .mv (.t 20), none⟩,
   ⟨some 5, .mv (.c (.int .i64 0)), none⟩])
 .ret)))))
def f19_lay : Lay := ⟨21, [], false⟩
def f19_res : List LRes := [.t 4, .t 5]
def f19_L : LFn := ⟨2, f19_lay, f19_c0, f19_res⟩
theorem f19_low : lowFn Try.prog [] 19 = some f19_L := by kernel_rfl
theorem f19_fok : FnOk Try.prog 19 := ⟨_, Try.func19, rfl, rfl⟩
noncomputable def S_wordindex_Remove (m : Option Nat) (a0 : List G_QIndexEntry) (a1 : List UInt8) : Option ((List G_QIndexEntry) × Int) :=
  (S_wordindex_valid m a0).bind fun v1 =>
  if (!v1) = true then
    some ([], 3)
  else
    (S_slices_IndexFunc_api_QIndexEntry (fun (s : Unit) (x : G_QIndexEntry) => (S_wordindex_Remove_1c m a1 x).map fun o => (o, ())) m a0 ()).bind fun v2 =>
    if (decide (v2.1 < 0)) = true then
      some ([], 5)
    else
      (S_wordindex_clone m a0).bind fun v3 =>
      (S_slices_Delete_api_QIndexEntryO m v2.1 (W (v2.1 + 1)) v3).bind fun v4 =>
      some (v4, 0)

def f19_Q (a0 : List G_QIndexEntry) (a1 : List UInt8) (o : (List G_QIndexEntry) × Int) : Exit → Env → AHeap → Nat → Prop := FinK f19_res (PureEnd (.tup [.isl 3 (o.1.map e_QIndexEntry) false, .int .i64 o.2]))

theorem f19_start {a0 : List G_QIndexEntry} {a1 : List UInt8} {m : Option Nat} {o : (List G_QIndexEntry) × Int} (h : S_wordindex_Remove m a0 a1 = some o) : LWp Try.prog f19_lay 0 f19_c0 (f19_Q a0 a1 o) (initEnv 0 [.isl 3 (a0.map e_QIndexEntry) false, .str a1]) [] 0 := by
  unfold S_wordindex_Remove at h
  refine seqI ?_
  refine regI ?_
  refine seqI ?_
  refine seqI ?_
  refine regI ?_
  obtain ⟨v1, h1, h⟩ := bind_some h
  refine PFn.call (f33_ok h1) (AI (VS rfl) TT) ?_
  refine condI (v := (!v1)) rfl TT (fun h2 => ?_) (fun h2 => ?_)
  · have h := ite_tt h2 h
    refine seqI ?_
    refine regI ?_
    refine LWp.sim (e := [(4, .val (.slice none 0 0)), (5, .int .i64 3)]) (L := []) (n := 0) ?_ ?_
    · exact simI (M := []) rfl (AI (VS rfl) (AI (VS rfl) TT)) TT
    refine retI ?_
    cases h
    exact AI TT (AI TT (AI rfl (Vw.tupL (AI (Vw.nilI _ _) (AI (VS rfl) TT)))))
  · have h := ite_ff h2 h
    refine skipI ?_
    refine seqI ?_
    refine regI ?_
    obtain ⟨v2, h3, h⟩ := bind_some h
    refine bcall (k := 3) (m := 1) (L' := [((0, 0), .one [.str a1])]) (rest := []) (R' := .int .i64 v2.1) [((1, 0), (0, 0))] (f43b0_ok (show Clo Try.prog (.func 44) [] [.ptr (1, 0) 0 0] (fun (s : Unit) => [((1, 0), .one [.str a1])]) (fun (x : G_QIndexEntry) => [.agg [.str x.f_Name, .int .u32 x.f_Sum, .isl 1 (x.f_Words.map e_str) false]]) (fun (b : Bool) => .bool b) (fun (s : Unit) (x : G_QIndexEntry) => (S_wordindex_Remove_1c m a1 x).map fun o => (o, ())) from Clo.mk' (fun s => Tl.lit rfl (AI (rfl) TT) rfl) rfl rfl (fun _ => rfl) (fun s x o h => by obtain ⟨o1, h1, rfl⟩ := Option.map_eq_some_iff.1 h; exact EX _ (AI (f44c0_ok h1) (AI rfl (AI rfl TT))))) h3) rfl rfl rfl (AI (VS rfl) (AI (Vw.fnL TT (AI (Vw.ptr _ _ _ _ rfl) TT)) TT)) (AI (h0I (0, 0) rfl rfl (BVw.oneL (AI (VS rfl) TT))) TT) (nid_ren _ rfl) (AI rfl (AI rfl TT)) rfl ?_
    refine LWp.sim (e := [(0, .isl 3 (a0.map e_QIndexEntry) false), (6, .int .i64 v2.1)]) (L := []) (n := 0) ?_ ?_
    · exact simI (M := []) rfl (AI (VS rfl) (AI (VS rfl) TT)) TT
    refine seqI ?_
    refine seqI ?_
    refine regI ?_
    refine condI (v := (decide (v2.1 < 0))) rfl TT (fun h4 => ?_) (fun h4 => ?_)
    · have h := ite_tt h4 h
      refine seqI ?_
      refine regI ?_
      refine retI ?_
      cases h
      exact AI TT (AI TT (AI rfl (Vw.tupL (AI (Vw.nilI _ _) (AI (VS rfl) TT)))))
    · have h := ite_ff h4 h
      refine skipI ?_
      refine seqI ?_
      refine regI ?_
      obtain ⟨v3, h5, h⟩ := bind_some h
      refine bcall (k := 3) (m := 1) (L' := [((0, 0), .rows 3 (v3.map e_QIndexEntry))]) (rest := []) (R' := .msl (0, 0) 3 0 v3.length false) [] (f41b0_ok h5) rfl rfl rfl (AI (VS rfl) TT) TT rfl (AI rfl (AI (rows_ren e_QIndexEntry (fun _ => rfl) _ _) TT)) rfl ?_
      obtain ⟨v4, h6, h⟩ := bind_some h
      refine bcall (k := 3) (m := 1) (L' := [((2, 0), .rows 3 (v4.map e_QIndexEntry))]) (rest := []) (R' := .msl (2, 0) 3 0 v4.length false) [((0, 0), (0, 0))] (f45b0_ok h6) rfl rfl rfl (AI (Vw.mslE rfl (by first | rfl | omega | (simp; done) | (simp at *; omega)) rfl) (AI (VS rfl) (AI (VS rfl) TT))) (AI (h0I (0, 0) rfl rfl (BVw.enc e_QIndexEntry (fun _ => rfl) _ v3)) TT) rfl (AI rfl (AI (rows_ren e_QIndexEntry (fun _ => rfl) _ _) TT)) rfl ?_
      refine LWp.sim (e := [(4, .msl (0, 0) 3 0 v4.length false), (5, .int .i64 0)]) (L := [((0, 0), .rows 3 (v4.map e_QIndexEntry))]) (n := 1) ?_ ?_
      · exact simI (M := [((0, 0), (2, 0))]) rfl (AI (Vw.mslE rfl (by first | rfl | omega | (simp; done) | (simp at *; omega)) rfl) (AI (VS rfl) TT)) (AI (AI rfl (BVw.enc e_QIndexEntry (fun _ => rfl) _ v4)) TT)
      refine retI ?_
      cases h
      exact AI TT (AI TT (AI rfl (Vw.tupL (AI (Vw.frzB e_QIndexEntry e_QIndexEntry_ok (fun h => h) rfl rfl (by first | rfl | omega | (simp; done) | (simp at *; omega))) (AI (VS rfl) TT)))))

theorem f19_ok {a0 : List G_QIndexEntry} {a1 : List UInt8} {m : Option Nat} {o : (List G_QIndexEntry) × Int} (h : S_wordindex_Remove m a0 a1 = some o) : PFn Try.prog 19 [.isl 3 (a0.map e_QIndexEntry) false, .str a1] (.tup [.isl 3 (o.1.map e_QIndexEntry) false, .int .i64 o.2]) := PFn.ofFnW (L := f19_L) f19_low f19_fok (NB rfl) rfl (f19_start h)

def f46_c1 : LCode := (.seq (.region [⟨some 10, .bin .lss (.t 9) (.t 8), none⟩])
 (.seq (.cond (.t 10)
  .skip
  (.exit 0))
 (.seq (.block 1
  (.seq (.region [⟨some 11, .mv (.t 9), none⟩,
    ⟨some 12, .iaddr 1 (.t 7) (.t 9), none⟩,
    ⟨some 13, .load false 1 (.t 12), none⟩,
    ⟨some 5, .mv (.t 11), none⟩,
    ⟨some 6, .mv (.t 13), none⟩])
  (.seq (.region [⟨some 14, .mv (.t 1), none⟩,
    ⟨some 15, .mv (.t 6), none⟩,
    ⟨some 16, .bin .eql (.t 14) (.t 15), none⟩])
  (.cond (.t 16)
   (.seq (.region [⟨some 17, .mv (.t 5), none⟩,
     ⟨some 4, .mv (.t 17), none⟩])
   .ret)
   .skip))))
 (.region [⟨some 18, .bin .add (.t 9) (.c (.int .i64 1)), none⟩,
   ⟨some 9, .mv (.t 18), none⟩]))))
def f46_c0 : LCode := (.seq (.region [⟨some 4, .mv (.c (.int .i64 (-1))), none⟩])
 .ret)
def f46_c2 : LCode := (.seq (.region [⟨some 4, .mv (.c (.int .i64 0)), none⟩])
 (.seq (.seq (.region [⟨some 7, .mv (.t 0), none⟩,
   ⟨some 8, .len false (.t 7), none⟩,
   ⟨some 9, .mv (.c (.int .i64 0)), none⟩])
 (.block 0
  (.loop
   f46_c1)))
 f46_c0))
def f46_lay : Lay := ⟨19, [], false⟩
def f46_res : List LRes := [.t 4]
def f46_L : LFn := ⟨2, f46_lay, f46_c2, f46_res⟩
theorem f46_low : lowFn Try.prog [] 46 = some f46_L := by kernel_rfl
theorem f46_fok : FnOk Try.prog 46 := ⟨_, Try.func46, rfl, rfl⟩
def f46_Q (a0 : List (List UInt8)) (a1 : List UInt8) (o : Int) : Exit → Env → AHeap → Nat → Prop := FinK f46_res (PureEnd (.int .i64 o))

def f46_L1_env (a0 : List (List UInt8)) (a1 : List UInt8) (s : Int) : Env := [(1, .str a1), (7, .isl 1 (a0.map e_str) false), (8, .int .i64 ((a0.map e_str).length : Int)), (9, .int .i64 s)]
def f46_L1_hp (a0 : List (List UInt8)) (a1 : List UInt8) (s : Int) : AHeap := []
def f46_L1_Q (a0 : List (List UInt8)) (a1 : List UInt8) (o : Int) : Exit → Env → AHeap → Nat → Prop := (QBlock 0 (QSeq Try.prog f46_lay 0 f46_c0 (f46_Q a0 a1 o)))

noncomputable def S_glossatorref3_Index_string_j1 (m : Option Nat) : Option Int :=
  some (-1)

noncomputable def S_glossatorref3_Index_string_b1 (m : Option Nat) (a0 : List (List UInt8)) (a1 : List UInt8) (v1 : Int) : Option (Int ⊕ Int) :=
  if (decide (v1 < ((a0.map e_str).length : Int))) = true then
    if (0 : Int) ≤ v1 ∧ v1 < ((a0.map e_str).length : Int) then
    if (a1 == (a0.getD v1.toNat default)) = true then
      Option.map Sum.inr (
        some v1)
    else
      some (.inl (W (v1 + 1)))
    else none
  else
    Option.map Sum.inr (
      S_glossatorref3_Index_string_j1 m)

noncomputable def S_glossatorref3_Index_string_l1 (m : Option Nat) (a0 : List (List UInt8)) (a1 : List UInt8) (v1 : Int) : Option Int := loopM m (fun (s : Int) => S_glossatorref3_Index_string_b1 m a0 a1 s) v1

theorem f46_j1_ok {a0 : List (List UInt8)} {a1 : List UInt8} {m : Option Nat} {o : Int} (h : S_glossatorref3_Index_string_j1 m = some o) :
    LWp Try.prog f46_lay 0 f46_c0 (f46_Q a0 a1 o) [] [] 0 := by
  unfold S_glossatorref3_Index_string_j1 at h
  refine seqI ?_
  refine regI ?_
  refine retI ?_
  cases h
  exact AI TT (AI rfl (VS rfl))

theorem f46_L1_bok {a0 : List (List UInt8)} {a1 : List UInt8} {v1 : Int} {m : Option Nat} {o : Int ⊕ Int} (h : S_glossatorref3_Index_string_b1 m a0 a1 v1 = some o) :
    LWp Try.prog f46_lay 0 f46_c1 (BodyQ 0 0 (f46_L1_env a0 a1) (f46_L1_hp a0 a1) (f46_L1_Q a0 a1) o) [(1, .str a1), (7, .isl 1 (a0.map e_str) false), (8, .int .i64 ((a0.map e_str).length : Int)), (9, .int .i64 v1)] [] 0 := by
  unfold S_glossatorref3_Index_string_b1 at h
  refine seqI ?_
  refine regI ?_
  refine seqI ?_
  refine condI (v := (decide (v1 < ((a0.map e_str).length : Int)))) rfl TT (fun h7 => ?_) (fun h7 => ?_)
  · have h := ite_tt h7 h
    refine skipI ?_
    refine seqI ?_
    refine blockI ?_
    refine seqI ?_
    refine regI ?_
    obtain ⟨h8, h⟩ := ite_some h
    refine AI h8 ?_
    refine EX (e_str (a0.getD v1.toNat default)) (AI (getD_enc e_str _ _ (idx_ltL e_str h8)) (AI (AI (idx_lt h8) (NB rfl)) ?_))
    refine seqI ?_
    refine regI ?_
    refine LWp.sim (e := [(1, .str a1), (5, .int .i64 v1), (7, .isl 1 (a0.map e_str) false), (8, .int .i64 ((a0.map e_str).length : Int)), (9, .int .i64 v1), (16, .bool (a1 == (a0.getD v1.toNat default)))]) (L := []) (n := 0) ?_ ?_
    · exact simI (M := []) rfl (AI (VS rfl) (AI (VS rfl) (AI (VS rfl) (AI (VS rfl) (AI (VS rfl) (AI (VS rfl) TT)))))) TT
    refine condI (v := (a1 == (a0.getD v1.toNat default))) rfl TT (fun h9 => ?_) (fun h9 => ?_)
    · have h := ite_tt h9 h
      refine seqI ?_
      refine regI ?_
      refine retI ?_
      obtain ⟨o, hq, rfl⟩ := Option.map_eq_some_iff.1 h
      replace h := hq; clear hq
      refine AI nofun ?_
      cases h
      exact AI TT (AI rfl (VS rfl))
    · have h := ite_ff h9 h
      refine skipI ?_
      refine regI ?_
      cases h
      exact AI rfl (simI (M := []) rfl (AI (VS rfl) (AI (VS rfl) (AI (VS rfl) (AI (VS rfl) TT)))) TT)
  · have h := ite_ff h7 h
    refine exitI ?_
    obtain ⟨o, hq, rfl⟩ := Option.map_eq_some_iff.1 h
    replace h := hq; clear hq
    refine AI nofun ?_
    refine LWp.sim ?_ (f46_j1_ok h)
    exact simI (M := []) rfl TT TT

theorem f46_L1_ok {a0 : List (List UInt8)} {a1 : List UInt8} {v1 : Int} {m : Option Nat} {o : Int} (h : S_glossatorref3_Index_string_l1 m a0 a1 v1 = some o) :
    LWp Try.prog f46_lay 0 (.loop f46_c1) (QBlock 0 (QSeq Try.prog f46_lay 0 f46_c0 (f46_Q a0 a1 o))) [(1, .str a1), (7, .isl 1 (a0.map e_str) false), (8, .int .i64 ((a0.map e_str).length : Int)), (9, .int .i64 v1)] [] 0 :=
  LWp_loopM (m := m) (s := (v1 : Int)) (r := o) (fun (s : Int) => S_glossatorref3_Index_string_b1 m a0 a1 s) (f46_L1_env a0 a1) (f46_L1_hp a0 a1) (f46_L1_Q a0 a1) (fun s o h => f46_L1_bok h) h

noncomputable def S_glossatorref3_Index_string (m : Option Nat) (a0 : List (List UInt8)) (a1 : List UInt8) : Option Int :=
  S_glossatorref3_Index_string_l1 m a0 a1 0

theorem f46_start {a0 : List (List UInt8)} {a1 : List UInt8} {m : Option Nat} {o : Int} (h : S_glossatorref3_Index_string m a0 a1 = some o) : LWp Try.prog f46_lay 0 f46_c2 (f46_Q a0 a1 o) (initEnv 0 [.isl 1 (a0.map e_str) false, .str a1]) [] 0 := by
  unfold S_glossatorref3_Index_string at h
  refine seqI ?_
  refine regI ?_
  refine seqI ?_
  refine seqI ?_
  refine regI ?_
  refine blockI ?_
  refine LWp.sim ?_ (f46_L1_ok h)
  exact simI (M := []) rfl (AI (VS rfl) (AI (VS rfl) (AI (VS rfl) (AI (VS rfl) TT)))) TT

theorem f46_ok {a0 : List (List UInt8)} {a1 : List UInt8} {m : Option Nat} {o : Int} (h : S_glossatorref3_Index_string m a0 a1 = some o) : PFn Try.prog 46 [.isl 1 (a0.map e_str) false, .str a1] (.int .i64 o) := PFn.ofFnW (L := f46_L) f46_low f46_fok (NB rfl) rfl (f46_start h)

def f20_c0 : LCode := (.seq (.region [⟨some 4, .mv (.c (.bool false)), none⟩])
 (.seq (.region [⟨some 5, .mv (.t 0), none⟩,
   ⟨some 6, .mv (.t 1), none⟩,
   ⟨some 7, .call 46 [(.t 5), (.t 6)], none⟩,
   ⟨some 8, .bin .geq (.t 7) (.c (.int .i64 0)), none⟩,
   ⟨some 4, .mv (.t 8), none⟩])
 .ret))
def f20_lay : Lay := ⟨9, [], false⟩
def f20_res : List LRes := [.t 4]
def f20_L : LFn := ⟨2, f20_lay, f20_c0, f20_res⟩
theorem f20_low : lowFn Try.prog [] 20 = some f20_L := by kernel_rfl
theorem f20_fok : FnOk Try.prog 20 := ⟨_, Try.func20, rfl, rfl⟩
noncomputable def S_glossatorref3_Contains_string (m : Option Nat) (a0 : List (List UInt8)) (a1 : List UInt8) : Option Bool :=
  (S_glossatorref3_Index_string m a0 a1).bind fun v1 =>
  some (decide (v1 ≥ 0))

def f20_Q (a0 : List (List UInt8)) (a1 : List UInt8) (o : Bool) : Exit → Env → AHeap → Nat → Prop := FinK f20_res (PureEnd (.bool o))

theorem f20_start {a0 : List (List UInt8)} {a1 : List UInt8} {m : Option Nat} {o : Bool} (h : S_glossatorref3_Contains_string m a0 a1 = some o) : LWp Try.prog f20_lay 0 f20_c0 (f20_Q a0 a1 o) (initEnv 0 [.isl 1 (a0.map e_str) false, .str a1]) [] 0 := by
  unfold S_glossatorref3_Contains_string at h
  refine seqI ?_
  refine regI ?_
  refine seqI ?_
  refine regI ?_
  obtain ⟨v1, h1, h⟩ := bind_some h
  refine PFn.call (f46_ok h1) (AI (VS rfl) (AI (VS rfl) TT)) ?_
  refine retI ?_
  cases h
  exact AI TT (AI rfl (VS rfl))

theorem f20_ok {a0 : List (List UInt8)} {a1 : List UInt8} {m : Option Nat} {o : Bool} (h : S_glossatorref3_Contains_string m a0 a1 = some o) : PFn Try.prog 20 [.isl 1 (a0.map e_str) false, .str a1] (.bool o) := PFn.ofFnW (L := f20_L) f20_low f20_fok (NB rfl) rfl (f20_start h)

def f32_c2 : LCode := (.seq (.seq (.region [⟨some 13, .mv (.t 6), none⟩,
   ⟨some 14, .mv (.t 3), none⟩,
   ⟨some 15, .len false (.t 14), none⟩,
   ⟨some 16, .bin .lss (.t 13) (.t 15), none⟩,
   ⟨some 17, .mv (.t 16), none⟩,
   ⟨some 18, .mv (.t 3), some (17, true)⟩,
   ⟨some 19, .mv (.t 6), some (17, true)⟩,
   ⟨some 20, .iaddr 1 (.t 18) (.t 19), some (17, true)⟩,
   ⟨some 21, .load false 1 (.t 20), some (17, true)⟩,
   ⟨some 22, .mv (.t 5), some (17, true)⟩,
   ⟨some 23, .bin .lss (.t 21) (.t 22), some (17, true)⟩,
   ⟨some 24, .pick (.t 17) (.t 23) (.c (.bool false)), none⟩])
 (.cond (.t 24)
  .skip
  (.exit 2)))
 (.block 3
  (.region [⟨some 25, .mv (.t 6), none⟩,
    ⟨some 26, .bin .add (.t 25) (.c (.int .i64 1)), none⟩,
    ⟨some 6, .mv (.t 26), none⟩])))
def f32_c0 : LCode := (.seq (.region [⟨some 27, .mv (.t 6), none⟩,
   ⟨some 28, .mv (.t 3), none⟩,
   ⟨some 29, .len false (.t 28), none⟩,
   ⟨some 30, .bin .eql (.t 27) (.t 29), none⟩,
   ⟨some 31, .mv (.t 30), none⟩,
   ⟨some 32, .mv (.t 3), some (31, false)⟩,
   ⟨some 33, .mv (.t 6), some (31, false)⟩,
   ⟨some 34, .iaddr 1 (.t 32) (.t 33), some (31, false)⟩,
   ⟨some 35, .load false 1 (.t 34), some (31, false)⟩,
   ⟨some 36, .mv (.t 5), some (31, false)⟩,
   ⟨some 37, .bin .neq (.t 35) (.t 36), some (31, false)⟩,
   ⟨some 38, .pick (.t 31) (.c (.bool true)) (.t 37), none⟩])
 (.cond (.t 38)
  (.draw [⟨⟨some 39, .mv (.t 3), none⟩, []⟩,
    ⟨⟨some 40, .mv (.t 6), none⟩, []⟩,
    ⟨⟨some 41, .mv (.t 6), none⟩, []⟩,
    ⟨⟨some 42, .slSl 1 (.t 39) none (some (.t 40)) (some (.t 41)), none⟩, []⟩,
    ⟨⟨some 43, .mv (.t 5), none⟩, []⟩,
    ⟨⟨some 45, .mv (.t 3), none⟩, []⟩,
    ⟨⟨some 46, .mv (.t 6), none⟩, []⟩,
    ⟨⟨some 47, .slSl 1 (.t 45) (some (.t 46)) none none, none⟩, []⟩,
    ⟨⟨some 44, .mkSl true 1 [(.str [])] 1 [(0, (.t 43))], none⟩, []⟩,
    ⟨⟨some 48, .app true 1 16 (.t 44) (.t 47), none⟩, []⟩,
    ⟨⟨some 49, .app true 1 16 (.t 42) (.t 48), none⟩, []⟩,
    ⟨⟨some 3, .mv (.t 49), none⟩, []⟩])
  .skip))
def f32_c1 : LCode := (.region [⟨some 50, .bin .add (.t 9) (.c (.int .i64 1)), none⟩,
   ⟨some 9, .mv (.t 50), none⟩])
def f32_c4 : LCode := (.seq (.region [⟨some 10, .bin .lss (.t 9) (.t 8), none⟩])
 (.seq (.cond (.t 10)
  .skip
  (.exit 0))
 (.seq (.block 1
  (.seq (.region [⟨some 11, .iaddr 1 (.t 7) (.t 9), none⟩,
    ⟨some 12, .load false 1 (.t 11), none⟩,
    ⟨some 5, .mv (.t 12), none⟩])
  (.seq (.region [⟨some 6, .mv (.c (.int .i64 0)), none⟩])
  (.seq (.block 2
   (.loop
    f32_c2))
  f32_c0))))
 f32_c1)))
def f32_c3 : LCode := (.seq (.region [⟨some 51, .mv (.t 3), none⟩,
   ⟨some 2, .mv (.t 51), none⟩])
 .ret)
def f32_c5 : LCode := (.seq (.region [⟨some 2, .mv (.c (.val (.slice none 0 0))), none⟩])
 (.seq (.region [⟨some 3, .mv (.c (.val (.slice none 0 0))), none⟩])
 (.seq (.seq (.region [⟨some 7, .mv (.t 0), none⟩,
   ⟨some 8, .len false (.t 7), none⟩,
   ⟨some 9, .mv (.c (.int .i64 0)), none⟩])
 (.block 0
  (.loop
   f32_c4)))
 f32_c3)))
def f32_lay : Lay := ⟨52, [], false⟩
def f32_res : List LRes := [.t 2]
def f32_L : LFn := ⟨1, f32_lay, f32_c5, f32_res⟩
theorem f32_low : lowFn Try.prog [] 32 = some f32_L := by kernel_rfl
theorem f32_fok : FnOk Try.prog 32 := ⟨_, Try.func32, rfl, rfl⟩
def f32_Q (a0 : List (List UInt8)) (o : (List (List UInt8))) : Exit → Env → AHeap → Nat → Prop := FinK f32_res (PureEnd (.isl 1 (o.map e_str) false))

def f32_L3_env (a0 : List (List UInt8)) (s : ((List (List UInt8)) × Int)) : Env := [(3, .osl (0, 0) 1 (s.1.map e_str)), (7, .isl 1 (a0.map e_str) false), (8, .int .i64 ((a0.map e_str).length : Int)), (9, .int .i64 s.2)]
def f32_L3_hp (a0 : List (List UInt8)) (s : ((List (List UInt8)) × Int)) : AHeap := [((0, 0), .tok)]
def f32_L3_Q (a0 : List (List UInt8)) (o : (List (List UInt8))) : Exit → Env → AHeap → Nat → Prop := (QBlock 0 (QSeq Try.prog f32_lay 0 f32_c3 (f32_Q a0 o)))

def f32_L4_env (a0 : List (List UInt8)) (v3 : List (List UInt8)) (v4 : Int) (s : Int) : Env := [(3, .osl (0, 0) 1 (v3.map e_str)), (5, .str (a0.getD v4.toNat default)), (6, .int .i64 s), (7, .isl 1 (a0.map e_str) false), (8, .int .i64 ((a0.map e_str).length : Int)), (9, .int .i64 v4)]
def f32_L4_hp (a0 : List (List UInt8)) (v3 : List (List UInt8)) (v4 : Int) (s : Int) : AHeap := [((0, 0), .tok)]
def f32_L4_Q (a0 : List (List UInt8)) (o : (((List (List UInt8)) × Int) ⊕ (List (List UInt8)))) : Exit → Env → AHeap → Nat → Prop := (QBlock 2 (QSeq Try.prog f32_lay 0 f32_c0 (QBlock 1 (QSeq Try.prog f32_lay 0 f32_c1 (BodyQ 0 1 (f32_L3_env a0) (f32_L3_hp a0) (f32_L3_Q a0) o)))))

noncomputable def S_glossatorref3_SortStrings_j6 (m : Option Nat) (a0 : List (List UInt8)) (v4 : Int) (v8 : List (List UInt8)) : Option (((List (List UInt8)) × Int) ⊕ (List (List UInt8))) :=
  some (.inl (v8, (W (v4 + 1))))

noncomputable def S_glossatorref3_SortStrings_j5 (m : Option Nat) (a0 : List (List UInt8)) (v3 : List (List UInt8)) (v4 : Int) (v7 : Int) : Option (((List (List UInt8)) × Int) ⊕ (List (List UInt8))) :=
  if (((v7 == ((v3.map e_str).length : Int)) == false) = true → (0 : Int) ≤ v7 ∧ v7 < ((v3.map e_str).length : Int)) then
  if ((v7 == ((v3.map e_str).length : Int)) || (!((v3.getD v7.toNat default) == (a0.getD v4.toNat default)))) = true then
    if (0 : Int) ≤ 0 ∧ 0 ≤ v7 ∧ v7 ≤ v7 ∧ v7 ≤ ((v3.map e_str).length : Int) then
    if (0 : Int) ≤ v7 ∧ v7 ≤ ((v3.map e_str).length : Int) then
    if ((([(a0.getD v4.toNat default)] : List (List UInt8)) ++ (v3.drop v7.toNat)).map e_str).length * 16 ≤ 140737488355328 then
    if (decide (v7 = v7)) = true then
    if (((v3.take v7.toNat) ++ (([(a0.getD v4.toNat default)] : List (List UInt8)) ++ (v3.drop v7.toNat))).map e_str).length * 16 ≤ 140737488355328 then
    S_glossatorref3_SortStrings_j6 m a0 v4 ((v3.take v7.toNat) ++ (([(a0.getD v4.toNat default)] : List (List UInt8)) ++ (v3.drop v7.toNat)))
    else none
    else none
    else none
    else none
    else none
  else
    S_glossatorref3_SortStrings_j6 m a0 v4 v3
  else none

noncomputable def S_glossatorref3_SortStrings_b4 (m : Option Nat) (a0 : List (List UInt8)) (v3 : List (List UInt8)) (v4 : Int) (v7 : Int) : Option (Int ⊕ (((List (List UInt8)) × Int) ⊕ (List (List UInt8)))) :=
  if (((decide (v7 < ((v3.map e_str).length : Int))) == true) = true → (0 : Int) ≤ v7 ∧ v7 < ((v3.map e_str).length : Int)) then
  if ((decide (v7 < ((v3.map e_str).length : Int))) && (Op.bytesLess (v3.getD v7.toNat default) (a0.getD v4.toNat default))) = true then
    some (.inl (W (v7 + 1)))
  else
    Option.map Sum.inr (
      S_glossatorref3_SortStrings_j5 m a0 v3 v4 v7)
  else none

noncomputable def S_glossatorref3_SortStrings_l4 (m : Option Nat) (a0 : List (List UInt8)) (v3 : List (List UInt8)) (v4 : Int) (v7 : Int) : Option (((List (List UInt8)) × Int) ⊕ (List (List UInt8))) := loopM m (fun (s : Int) => S_glossatorref3_SortStrings_b4 m a0 v3 v4 s) v7

theorem f32_j6_ok {a0 : List (List UInt8)} {v4 : Int} {v8 : List (List UInt8)} {m : Option Nat} {o : (((List (List UInt8)) × Int) ⊕ (List (List UInt8)))} (h : S_glossatorref3_SortStrings_j6 m a0 v4 v8 = some o) :
    LWp Try.prog f32_lay 0 f32_c1 (BodyQ 0 1 (f32_L3_env a0) (f32_L3_hp a0) (f32_L3_Q a0) o) [(3, .osl (0, 0) 1 (v8.map e_str)), (7, .isl 1 (a0.map e_str) false), (8, .int .i64 ((a0.map e_str).length : Int)), (9, .int .i64 v4)] [((0, 0), .tok)] 1 := by
  unfold S_glossatorref3_SortStrings_j6 at h
  refine regI ?_
  cases h
  exact AI rfl (simI (M := [((0, 0), (0, 0))]) rfl (AI (Vw.osl _ _ _ _ rfl) (AI (VS rfl) (AI (VS rfl) (AI (VS rfl) TT)))) (AI (AI rfl BVw.tok) TT))

theorem f32_j5_ok {a0 : List (List UInt8)} {v3 : List (List UInt8)} {v4 : Int} {v7 : Int} {m : Option Nat} {o : (((List (List UInt8)) × Int) ⊕ (List (List UInt8)))} (h : S_glossatorref3_SortStrings_j5 m a0 v3 v4 v7 = some o) :
    LWp Try.prog f32_lay 0 f32_c0 (QBlock 1 (QSeq Try.prog f32_lay 0 f32_c1 (BodyQ 0 1 (f32_L3_env a0) (f32_L3_hp a0) (f32_L3_Q a0) o))) [(3, .osl (0, 0) 1 (v3.map e_str)), (5, .str (a0.getD v4.toNat default)), (6, .int .i64 v7), (7, .isl 1 (a0.map e_str) false), (8, .int .i64 ((a0.map e_str).length : Int)), (9, .int .i64 v4)] [((0, 0), .tok)] 1 := by
  unfold S_glossatorref3_SortStrings_j5 at h
  refine seqI ?_
  refine regI ?_
  obtain ⟨h38, h⟩ := ite_some h
  refine AI (fun hp => (AI (AI hp hp) (h38 hp))) ?_
  refine EX (e_str (v3.getD v7.toNat default)) (AI (fun hp => AI (getD_enc e_str _ _ (idx_ltL e_str (h38 hp))) (AI hp (AI (idx_lt (h38 hp)) (NB rfl)))) ?_)
  refine AI (fun hp => (AI hp hp)) ?_
  refine AI (fun hc => (bqf hc)) ?_
  refine LWp.sim (e := [(3, .osl (0, 0) 1 (v3.map e_str)), (5, .str (a0.getD v4.toNat default)), (6, .int .i64 v7), (7, .isl 1 (a0.map e_str) false), (8, .int .i64 ((a0.map e_str).length : Int)), (9, .int .i64 v4), (38, .bool ((v7 == ((v3.map e_str).length : Int)) || (!((v3.getD v7.toNat default) == (a0.getD v4.toNat default)))))]) (L := [((0, 0), .tok)]) (n := 1) ?_ ?_
  · exact simI (M := [((0, 0), (0, 0))]) rfl (AI (Vw.osl _ _ _ _ rfl) (AI (VS rfl) (AI (VS rfl) (AI (VS rfl) (AI (VS rfl) (AI (VS rfl) (AI (VS rfl) TT))))))) (AI (AI rfl BVw.tok) TT)
  refine condI (v := ((v7 == ((v3.map e_str).length : Int)) || (!((v3.getD v7.toNat default) == (a0.getD v4.toNat default))))) rfl TT (fun h39 => ?_) (fun h39 => ?_)
  · have h := ite_tt h39 h
    refine drawO rfl ?_
    obtain ⟨h40, h⟩ := ite_some h
    refine EX (.isl 1 ((v3.take v7.toNat).map e_str) (decide (v7 = v7))) (AI (sl_eq e_str (slB e_str v3 _) rfl) (AI (AI rfl h40) ?_))
    obtain ⟨h41, h⟩ := ite_some h
    refine EX (.osl (0, 0) 1 ((v3.drop v7.toNat).map e_str)) (AI (osl_enc e_str _ _ _ _) (AI (AI rfl h41) ?_))
    obtain ⟨h42, h⟩ := ite_some h
    refine EX ((([(a0.getD v4.toNat default)] : List (List UInt8)) ++ (v3.drop v7.toNat)).map e_str) (AI (app_enc e_str ([(a0.getD v4.toNat default)] : List (List UInt8)) (v3.drop v7.toNat)) (AI (AI rfl h42) ?_))
    obtain ⟨h43, h⟩ := ite_some h
    obtain ⟨h44, h⟩ := ite_some h
    refine EX (((v3.take v7.toNat) ++ (([(a0.getD v4.toNat default)] : List (List UInt8)) ++ (v3.drop v7.toNat))).map e_str) (AI (app_enc e_str (v3.take v7.toNat) (([(a0.getD v4.toNat default)] : List (List UInt8)) ++ (v3.drop v7.toNat))) (AI (AI h43 h44) ?_))
    refine LWp.sim ?_ (f32_j6_ok h)
    exact simI (M := [((0, 0), (2, 0))]) rfl (AI (Vw.osl _ _ _ _ rfl) (AI (VS rfl) (AI (VS rfl) (AI (VS rfl) TT)))) (AI (AI rfl BVw.tok) TT)
  · have h := ite_ff h39 h
    refine skipI ?_
    refine LWp.sim ?_ (f32_j6_ok h)
    exact simI (M := [((0, 0), (0, 0))]) rfl (AI (Vw.osl _ _ _ _ rfl) (AI (VS rfl) (AI (VS rfl) (AI (VS rfl) TT)))) (AI (AI rfl BVw.tok) TT)

theorem f32_L4_bok {a0 : List (List UInt8)} {v3 : List (List UInt8)} {v4 : Int} {v7 : Int} {m : Option Nat} {o : Int ⊕ (((List (List UInt8)) × Int) ⊕ (List (List UInt8)))} (h : S_glossatorref3_SortStrings_b4 m a0 v3 v4 v7 = some o) :
    LWp Try.prog f32_lay 0 f32_c2 (BodyQ 0 1 (f32_L4_env a0 v3 v4) (f32_L4_hp a0 v3 v4) (f32_L4_Q a0) o) [(3, .osl (0, 0) 1 (v3.map e_str)), (5, .str (a0.getD v4.toNat default)), (6, .int .i64 v7), (7, .isl 1 (a0.map e_str) false), (8, .int .i64 ((a0.map e_str).length : Int)), (9, .int .i64 v4)] [((0, 0), .tok)] 1 := by
  unfold S_glossatorref3_SortStrings_b4 at h
  refine seqI ?_
  refine seqI ?_
  refine regI ?_
  obtain ⟨h36, h⟩ := ite_some h
  refine AI (fun hp => (AI (AI hp hp) (h36 hp))) ?_
  refine EX (e_str (v3.getD v7.toNat default)) (AI (fun hp => AI (getD_enc e_str _ _ (idx_ltL e_str (h36 hp))) (AI hp (AI (idx_lt (h36 hp)) (NB rfl)))) ?_)
  refine AI (fun hp => (AI hp hp)) ?_
  refine AI (fun hc => (bqt hc)) ?_
  refine LWp.sim (e := [(3, .osl (0, 0) 1 (v3.map e_str)), (5, .str (a0.getD v4.toNat default)), (6, .int .i64 v7), (7, .isl 1 (a0.map e_str) false), (8, .int .i64 ((a0.map e_str).length : Int)), (9, .int .i64 v4), (24, .bool ((decide (v7 < ((v3.map e_str).length : Int))) && (Op.bytesLess (v3.getD v7.toNat default) (a0.getD v4.toNat default))))]) (L := [((0, 0), .tok)]) (n := 1) ?_ ?_
  · exact simI (M := [((0, 0), (0, 0))]) rfl (AI (Vw.osl _ _ _ _ rfl) (AI (VS rfl) (AI (VS rfl) (AI (VS rfl) (AI (VS rfl) (AI (VS rfl) (AI (VS rfl) TT))))))) (AI (AI rfl BVw.tok) TT)
  refine condI (v := ((decide (v7 < ((v3.map e_str).length : Int))) && (Op.bytesLess (v3.getD v7.toNat default) (a0.getD v4.toNat default)))) rfl TT (fun h37 => ?_) (fun h37 => ?_)
  · have h := ite_tt h37 h
    refine skipI ?_
    refine blockI ?_
    refine regI ?_
    cases h
    exact AI rfl (simI (M := [((0, 0), (0, 0))]) rfl (AI (Vw.osl _ _ _ _ rfl) (AI (VS rfl) (AI (VS rfl) (AI (VS rfl) (AI (VS rfl) (AI (VS rfl) TT)))))) (AI (AI rfl BVw.tok) TT))
  · have h := ite_ff h37 h
    refine exitI ?_
    obtain ⟨o, hq, rfl⟩ := Option.map_eq_some_iff.1 h
    replace h := hq; clear hq
    refine AI nofun ?_
    refine LWp.sim ?_ (f32_j5_ok h)
    exact simI (M := [((0, 0), (0, 0))]) rfl (AI (Vw.osl _ _ _ _ rfl) (AI (VS rfl) (AI (VS rfl) (AI (VS rfl) (AI (VS rfl) (AI (VS rfl) TT)))))) (AI (AI rfl BVw.tok) TT)

theorem f32_L4_ok {a0 : List (List UInt8)} {v3 : List (List UInt8)} {v4 : Int} {v7 : Int} {m : Option Nat} {o : (((List (List UInt8)) × Int) ⊕ (List (List UInt8)))} (h : S_glossatorref3_SortStrings_l4 m a0 v3 v4 v7 = some o) :
    LWp Try.prog f32_lay 0 (.loop f32_c2) (QBlock 2 (QSeq Try.prog f32_lay 0 f32_c0 (QBlock 1 (QSeq Try.prog f32_lay 0 f32_c1 (BodyQ 0 1 (f32_L3_env a0) (f32_L3_hp a0) (f32_L3_Q a0) o))))) [(3, .osl (0, 0) 1 (v3.map e_str)), (5, .str (a0.getD v4.toNat default)), (6, .int .i64 v7), (7, .isl 1 (a0.map e_str) false), (8, .int .i64 ((a0.map e_str).length : Int)), (9, .int .i64 v4)] [((0, 0), .tok)] 1 :=
  LWp_loopM (m := m) (s := (v7 : Int)) (r := o) (fun (s : Int) => S_glossatorref3_SortStrings_b4 m a0 v3 v4 s) (f32_L4_env a0 v3 v4) (f32_L4_hp a0 v3 v4) (f32_L4_Q a0) (fun s o h => f32_L4_bok h) h

noncomputable def S_glossatorref3_SortStrings_j7 (m : Option Nat) (v3 : List (List UInt8)) : Option (List (List UInt8)) :=
  some v3

noncomputable def S_glossatorref3_SortStrings_b3 (m : Option Nat) (a0 : List (List UInt8)) (v3 : List (List UInt8)) (v4 : Int) : Option (((List (List UInt8)) × Int) ⊕ (List (List UInt8))) :=
  if (decide (v4 < ((a0.map e_str).length : Int))) = true then
    if (0 : Int) ≤ v4 ∧ v4 < ((a0.map e_str).length : Int) then
    S_glossatorref3_SortStrings_l4 m a0 v3 v4 0
    else none
  else
    Option.map Sum.inr (
      S_glossatorref3_SortStrings_j7 m v3)

noncomputable def S_glossatorref3_SortStrings_l3 (m : Option Nat) (a0 : List (List UInt8)) (v3 : List (List UInt8)) (v4 : Int) : Option (List (List UInt8)) := loopM m (fun (s : ((List (List UInt8)) × Int)) => S_glossatorref3_SortStrings_b3 m a0 s.1 s.2) (v3, v4)

theorem f32_j7_ok {a0 : List (List UInt8)} {v3 : List (List UInt8)} {m : Option Nat} {o : (List (List UInt8))} (h : S_glossatorref3_SortStrings_j7 m v3 = some o) :
    LWp Try.prog f32_lay 0 f32_c3 (f32_Q a0 o) [(3, .osl (0, 0) 1 (v3.map e_str))] [((0, 0), .tok)] 1 := by
  unfold S_glossatorref3_SortStrings_j7 at h
  refine seqI ?_
  refine regI ?_
  refine retI ?_
  cases h
  exact AI TT (AI rfl (Vw.oslI _ _ _))

theorem f32_L3_bok {a0 : List (List UInt8)} {v3 : List (List UInt8)} {v4 : Int} {m : Option Nat} {o : ((List (List UInt8)) × Int) ⊕ (List (List UInt8))} (h : S_glossatorref3_SortStrings_b3 m a0 v3 v4 = some o) :
    LWp Try.prog f32_lay 0 f32_c4 (BodyQ 0 1 (f32_L3_env a0) (f32_L3_hp a0) (f32_L3_Q a0) o) [(3, .osl (0, 0) 1 (v3.map e_str)), (7, .isl 1 (a0.map e_str) false), (8, .int .i64 ((a0.map e_str).length : Int)), (9, .int .i64 v4)] [((0, 0), .tok)] 1 := by
  unfold S_glossatorref3_SortStrings_b3 at h
  refine seqI ?_
  refine regI ?_
  refine seqI ?_
  refine condI (v := (decide (v4 < ((a0.map e_str).length : Int)))) rfl TT (fun h30 => ?_) (fun h30 => ?_)
  · have h := ite_tt h30 h
    refine skipI ?_
    refine seqI ?_
    refine blockI ?_
    refine seqI ?_
    refine regI ?_
    obtain ⟨h31, h⟩ := ite_some h
    refine AI h31 ?_
    refine EX (e_str (a0.getD v4.toNat default)) (AI (getD_enc e_str _ _ (idx_ltL e_str h31)) (AI (AI (idx_lt h31) (NB rfl)) ?_))
    refine seqI ?_
    refine regI ?_
    refine seqI ?_
    refine blockI ?_
    refine LWp.sim ?_ (f32_L4_ok h)
    exact simI (M := [((0, 0), (0, 0))]) rfl (AI (Vw.osl _ _ _ _ rfl) (AI (VS rfl) (AI (VS rfl) (AI (VS rfl) (AI (VS rfl) (AI (VS rfl) TT)))))) (AI (AI rfl BVw.tok) TT)
  · have h := ite_ff h30 h
    refine exitI ?_
    obtain ⟨o, hq, rfl⟩ := Option.map_eq_some_iff.1 h
    replace h := hq; clear hq
    refine AI nofun ?_
    refine LWp.sim ?_ (f32_j7_ok h)
    exact simI (M := [((0, 0), (0, 0))]) rfl (AI (Vw.osl _ _ _ _ rfl) TT) (AI (AI rfl BVw.tok) TT)

theorem f32_L3_ok {a0 : List (List UInt8)} {v3 : List (List UInt8)} {v4 : Int} {m : Option Nat} {o : (List (List UInt8))} (h : S_glossatorref3_SortStrings_l3 m a0 v3 v4 = some o) :
    LWp Try.prog f32_lay 0 (.loop f32_c4) (QBlock 0 (QSeq Try.prog f32_lay 0 f32_c3 (f32_Q a0 o))) [(3, .osl (0, 0) 1 (v3.map e_str)), (7, .isl 1 (a0.map e_str) false), (8, .int .i64 ((a0.map e_str).length : Int)), (9, .int .i64 v4)] [((0, 0), .tok)] 1 :=
  LWp_loopM (m := m) (s := ((v3, v4) : ((List (List UInt8)) × Int))) (r := o) (fun (s : ((List (List UInt8)) × Int)) => S_glossatorref3_SortStrings_b3 m a0 s.1 s.2) (f32_L3_env a0) (f32_L3_hp a0) (f32_L3_Q a0) (fun s o h => f32_L3_bok h) h

noncomputable def S_glossatorref3_SortStrings (m : Option Nat) (a0 : List (List UInt8)) : Option (List (List UInt8)) :=
  S_glossatorref3_SortStrings_l3 m a0 [] 0

theorem f32_start {a0 : List (List UInt8)} {m : Option Nat} {o : (List (List UInt8))} (h : S_glossatorref3_SortStrings m a0 = some o) : LWp Try.prog f32_lay 0 f32_c5 (f32_Q a0 o) (initEnv 0 [.isl 1 (a0.map e_str) false]) [] 0 := by
  unfold S_glossatorref3_SortStrings at h
  refine seqI ?_
  refine regI ?_
  refine seqI ?_
  refine regI ?_
  refine seqI ?_
  refine seqI ?_
  refine regI ?_
  refine blockI ?_
  refine LWp.sim ?_ (f32_L3_ok h)
  exact simI (M := []) rfl (AI (Vw.nilO _ _ (by decide)) (AI (VS rfl) (AI (VS rfl) (AI (VS rfl) TT)))) (AI (AI rfl (AI (by decide) (by decide))) TT)

theorem f32_ok {a0 : List (List UInt8)} {m : Option Nat} {o : (List (List UInt8))} (h : S_glossatorref3_SortStrings m a0 = some o) : PFn Try.prog 32 [.isl 1 (a0.map e_str) false] (.isl 1 (o.map e_str) false) := PFn.ofFnW (L := f32_L) f32_low f32_fok (NB rfl) rfl (f32_start h)

def f31_c0 : LCode := (.seq (.region [⟨some 2, .mv (.c (.bool false)), none⟩])
 (.seq (.region [⟨some 3, .mv (.t 0), none⟩,
   ⟨some 4, .bin .geq (.t 3) (.c (.int .u8 97)), none⟩,
   ⟨some 5, .mv (.t 4), none⟩,
   ⟨some 6, .mv (.t 0), some (5, true)⟩,
   ⟨some 7, .bin .leq (.t 6) (.c (.int .u8 122)), some (5, true)⟩,
   ⟨some 8, .pick (.t 5) (.t 7) (.c (.bool false)), none⟩,
   ⟨some 9, .mv (.t 8), none⟩,
   ⟨some 10, .mv (.t 0), some (9, false)⟩,
   ⟨some 11, .bin .geq (.t 10) (.c (.int .u8 65)), some (9, false)⟩,
   ⟨some 12, .mv (.t 11), some (9, false)⟩,
   ⟨some 13, .mv (.t 0), some (12, true)⟩,
   ⟨some 14, .bin .leq (.t 13) (.c (.int .u8 90)), some (12, true)⟩,
   ⟨some 15, .pick (.t 12) (.t 14) (.c (.bool false)), some (9, false)⟩,
   ⟨some 16, .pick (.t 9) (.c (.bool true)) (.t 15), none⟩,
   ⟨some 17, .mv (.t 16), none⟩,
   ⟨some 18, .mv (.t 0), some (17, false)⟩,
   ⟨some 19, .bin .geq (.t 18) (.c (.int .u8 48)), some (17, false)⟩,
   ⟨some 20, .mv (.t 19), some (17, false)⟩,
   ⟨some 21, .mv (.t 0), some (20, true)⟩,
   ⟨some 22, .bin .leq (.t 21) (.c (.int .u8 57)), some (20, true)⟩,
   ⟨some 23, .pick (.t 20) (.t 22) (.c (.bool false)), some (17, false)⟩,
   ⟨some 24, .pick (.t 17) (.c (.bool true)) (.t 23), none⟩,
   ⟨some 25, .mv (.t 24), none⟩,
   ⟨some 26, .mv (.t 0), some (25, false)⟩,
   ⟨some 27, .bin .eql (.t 26) (.c (.int .u8 95)), some (25, false)⟩,
   ⟨some 28, .pick (.t 25) (.c (.bool true)) (.t 27), none⟩,
   ⟨some 2, .mv (.t 28), none⟩])
 .ret))
def f31_lay : Lay := ⟨29, [], false⟩
def f31_res : List LRes := [.t 2]
def f31_L : LFn := ⟨1, f31_lay, f31_c0, f31_res⟩
theorem f31_low : lowFn Try.prog [] 31 = some f31_L := by kernel_rfl
theorem f31_fok : FnOk Try.prog 31 := ⟨_, Try.func31, rfl, rfl⟩
noncomputable def S_glossatorref3_wordByte (m : Option Nat) (a0 : Int) : Option Bool :=
  some (((((decide (a0 ≥ 97)) && (decide (a0 ≤ 122))) || ((decide (a0 ≥ 65)) && (decide (a0 ≤ 90)))) || ((decide (a0 ≥ 48)) && (decide (a0 ≤ 57)))) || (a0 == 95))

def f31_Q (a0 : Int) (o : Bool) : Exit → Env → AHeap → Nat → Prop := FinK f31_res (PureEnd (.bool o))

theorem f31_start {a0 : Int} {m : Option Nat} {o : Bool} (h : S_glossatorref3_wordByte m a0 = some o) : LWp Try.prog f31_lay 0 f31_c0 (f31_Q a0 o) (initEnv 0 [.int .u8 a0]) [] 0 := by
  unfold S_glossatorref3_wordByte at h
  refine seqI ?_
  refine regI ?_
  refine seqI ?_
  refine regI ?_
  refine AI (fun hp => hp) ?_
  refine AI (fun hc => (bqt hc)) ?_
  refine AI (fun hp => hp) ?_
  refine AI (fun hp => hp) ?_
  refine AI (fun hp => hp) ?_
  refine AI (fun hp => (AI hp (fun hc => (and_i hp (bqt hc))))) ?_
  refine AI (fun hc => (bqf hc)) ?_
  refine AI (fun hp => hp) ?_
  refine AI (fun hp => hp) ?_
  refine AI (fun hp => hp) ?_
  refine AI (fun hp => (AI hp (fun hc => (and_i hp (bqt hc))))) ?_
  refine AI (fun hc => (bqf hc)) ?_
  refine AI (fun hp => hp) ?_
  refine AI (fun hc => (bqf hc)) ?_
  refine LWp.sim (e := [(2, .bool (((((decide (a0 ≥ 97)) && (decide (a0 ≤ 122))) || ((decide (a0 ≥ 65)) && (decide (a0 ≤ 90)))) || ((decide (a0 ≥ 48)) && (decide (a0 ≤ 57)))) || (a0 == 95)))]) (L := []) (n := 0) ?_ ?_
  · exact simI (M := []) rfl (AI (VS rfl) TT) TT
  refine retI ?_
  cases h
  exact AI TT (AI rfl (VS rfl))

theorem f31_ok {a0 : Int} {m : Option Nat} {o : Bool} (h : S_glossatorref3_wordByte m a0 = some o) : PFn Try.prog 31 [.int .u8 a0] (.bool o) := PFn.ofFnW (L := f31_L) f31_low f31_fok (NB rfl) rfl (f31_start h)

def f36_c1 : LCode := (.seq (.region [⟨some 36, .bin .lss (.t 35) (.t 34), none⟩])
 (.seq (.cond (.t 36)
  .skip
  (.exit 2))
 (.seq (.block 3
  (.seq (.region [⟨some 37, .mv (.t 35), none⟩,
    ⟨some 7, .mv (.t 37), none⟩])
  (.region [⟨some 38, .mv (.t 4), none⟩,
    ⟨some 39, .mv (.t 38), none⟩,
    ⟨some 40, .mv (.t 6), some (39, true)⟩,
    ⟨some 41, .mv (.t 7), some (39, true)⟩,
    ⟨some 42, .idxS (.t 40) (.t 41), some (39, true)⟩,
    ⟨some 43, .call 31 [(.t 42)], some (39, true)⟩,
    ⟨some 44, .pick (.t 39) (.t 43) (.c (.bool false)), none⟩,
    ⟨some 4, .mv (.t 44), none⟩])))
 (.region [⟨some 45, .bin .add (.t 35) (.c (.int .i64 1)), none⟩,
   ⟨some 35, .mv (.t 45), none⟩]))))
def f36_c0 : LCode := (.region [⟨some 46, .bin .add (.t 19) (.c (.int .i64 1)), none⟩,
   ⟨some 19, .mv (.t 46), none⟩])
def f36_c3 : LCode := (.seq (.region [⟨some 20, .bin .lss (.t 19) (.t 18), none⟩])
 (.seq (.cond (.t 20)
  .skip
  (.exit 0))
 (.seq (.block 1
  (.seq (.region [⟨some 21, .iaddr 1 (.t 17) (.t 19), none⟩,
    ⟨some 22, .load false 1 (.t 21), none⟩,
    ⟨some 6, .mv (.t 22), none⟩])
  (.seq (.region [⟨some 23, .mv (.t 3), none⟩,
    ⟨some 24, .mv (.t 6), none⟩,
    ⟨some 25, .len true (.t 24), none⟩,
    ⟨some 26, .bin .add (.t 25) (.c (.int .i64 1)), none⟩,
    ⟨some 27, .bin .add (.t 23) (.t 26), none⟩,
    ⟨some 3, .mv (.t 27), none⟩])
  (.seq (.region [⟨some 28, .mv (.t 4), none⟩,
    ⟨some 29, .mv (.t 28), none⟩,
    ⟨some 30, .mv (.t 6), some (29, true)⟩,
    ⟨some 31, .bin .neq (.t 30) (.c (.str [])), some (29, true)⟩,
    ⟨some 32, .pick (.t 29) (.t 31) (.c (.bool false)), none⟩,
    ⟨some 4, .mv (.t 32), none⟩])
  (.seq (.region [⟨some 33, .mv (.t 6), none⟩,
    ⟨some 34, .len true (.t 33), none⟩,
    ⟨some 35, .mv (.c (.int .i64 0)), none⟩])
  (.block 2
   (.loop
    f36_c1)))))))
 f36_c0)))
def f36_c2 : LCode := (.seq (.region [⟨some 47, .mv (.t 4), none⟩,
   ⟨some 48, .mv (.t 47), none⟩,
   ⟨some 49, .mv (.t 3), some (48, true)⟩,
   ⟨some 50, .bin .leq (.t 49) (.c (.int .i64 2001)), some (48, true)⟩,
   ⟨some 51, .pick (.t 48) (.t 50) (.c (.bool false)), none⟩,
   ⟨some 2, .mv (.t 51), none⟩])
 .ret)
def f36_c4 : LCode := (.seq (.region [⟨some 2, .mv (.c (.bool false)), none⟩])
 (.seq (.region [⟨some 3, .mv (.c (.int .i64 0)), none⟩])
 (.seq (.region [⟨some 8, .mv (.t 0), none⟩,
   ⟨some 9, .len false (.t 8), none⟩,
   ⟨some 10, .bin .leq (.t 9) (.c (.int .i64 400)), none⟩,
   ⟨some 11, .mv (.t 10), none⟩,
   ⟨some 12, .mv (.t 0), some (11, true)⟩,
   ⟨some 13, .mv (.t 0), some (11, true)⟩,
   ⟨some 14, .call 32 [(.t 13)], some (11, true)⟩,
   ⟨some 15, .call 9 [(.t 12), (.t 14)], some (11, true)⟩,
   ⟨some 16, .pick (.t 11) (.t 15) (.c (.bool false)), none⟩,
   ⟨some 4, .mv (.t 16), none⟩])
 (.seq (.seq (.region [⟨some 17, .mv (.t 0), none⟩,
   ⟨some 18, .len false (.t 17), none⟩,
   ⟨some 19, .mv (.c (.int .i64 0)), none⟩])
 (.block 0
  (.loop
   f36_c3)))
 f36_c2))))
def f36_lay : Lay := ⟨52, [], false⟩
def f36_res : List LRes := [.t 2]
def f36_L : LFn := ⟨1, f36_lay, f36_c4, f36_res⟩
theorem f36_low : lowFn Try.prog [] 36 = some f36_L := by kernel_rfl
theorem f36_fok : FnOk Try.prog 36 := ⟨_, Try.func36, rfl, rfl⟩
def f36_Q (a0 : List (List UInt8)) (o : Bool) : Exit → Env → AHeap → Nat → Prop := FinK f36_res (PureEnd (.bool o))

def f36_L3_env (a0 : List (List UInt8)) (s : (Int × Bool × Int)) : Env := [(3, .int .i64 s.1), (4, .bool s.2.1), (17, .isl 1 (a0.map e_str) false), (18, .int .i64 ((a0.map e_str).length : Int)), (19, .int .i64 s.2.2)]
def f36_L3_hp (a0 : List (List UInt8)) (s : (Int × Bool × Int)) : AHeap := []
def f36_L3_Q (a0 : List (List UInt8)) (o : Bool) : Exit → Env → AHeap → Nat → Prop := (QBlock 0 (QSeq Try.prog f36_lay 0 f36_c2 (f36_Q a0 o)))

def f36_L4_env (a0 : List (List UInt8)) (v8 : Int) (v10 : Int) (s : (Bool × Int)) : Env := [(3, .int .i64 (W (v8 + (W (((a0.getD v10.toNat default).length : Int) + 1))))), (4, .bool s.1), (6, .str (a0.getD v10.toNat default)), (17, .isl 1 (a0.map e_str) false), (18, .int .i64 ((a0.map e_str).length : Int)), (19, .int .i64 v10), (34, .int .i64 ((a0.getD v10.toNat default).length : Int)), (35, .int .i64 s.2)]
def f36_L4_hp (a0 : List (List UInt8)) (v8 : Int) (v10 : Int) (s : (Bool × Int)) : AHeap := []
def f36_L4_Q (a0 : List (List UInt8)) (o : ((Int × Bool × Int) ⊕ Bool)) : Exit → Env → AHeap → Nat → Prop := (QBlock 2 (QBlock 1 (QSeq Try.prog f36_lay 0 f36_c0 (BodyQ 0 0 (f36_L3_env a0) (f36_L3_hp a0) (f36_L3_Q a0) o))))

noncomputable def S_glossatorref3_ValidWords_j3 (m : Option Nat) (a0 : List (List UInt8)) (v8 : Int) (v10 : Int) (v17 : Bool) : Option ((Int × Bool × Int) ⊕ Bool) :=
  some (.inl ((W (v8 + (W (((a0.getD v10.toNat default).length : Int) + 1)))), v17, (W (v10 + 1))))

noncomputable def S_glossatorref3_ValidWords_b4 (m : Option Nat) (a0 : List (List UInt8)) (v8 : Int) (v10 : Int) (v17 : Bool) (v18 : Int) : Option ((Bool × Int) ⊕ ((Int × Bool × Int) ⊕ Bool)) :=
  if (decide (v18 < ((a0.getD v10.toNat default).length : Int))) = true then
    if ((v17 == true) = true → (0 : Int) ≤ v18 ∧ v18 < ((a0.getD v10.toNat default).length : Int)) then
    (if (v17 == true) = true then S_glossatorref3_wordByte m ((((a0.getD v10.toNat default).getD v18.toNat 0).toNat : Nat) : Int) else some default).bind fun v20 =>
    some (.inl ((v17 && v20), (W (v18 + 1))))
    else none
  else
    Option.map Sum.inr (
      S_glossatorref3_ValidWords_j3 m a0 v8 v10 v17)

noncomputable def S_glossatorref3_ValidWords_l4 (m : Option Nat) (a0 : List (List UInt8)) (v8 : Int) (v10 : Int) (v17 : Bool) (v18 : Int) : Option ((Int × Bool × Int) ⊕ Bool) := loopM m (fun (s : (Bool × Int)) => S_glossatorref3_ValidWords_b4 m a0 v8 v10 s.1 s.2) (v17, v18)

theorem f36_j3_ok {a0 : List (List UInt8)} {v8 : Int} {v10 : Int} {v17 : Bool} {m : Option Nat} {o : ((Int × Bool × Int) ⊕ Bool)} (h : S_glossatorref3_ValidWords_j3 m a0 v8 v10 v17 = some o) :
    LWp Try.prog f36_lay 0 f36_c0 (BodyQ 0 0 (f36_L3_env a0) (f36_L3_hp a0) (f36_L3_Q a0) o) [(3, .int .i64 (W (v8 + (W (((a0.getD v10.toNat default).length : Int) + 1))))), (4, .bool v17), (17, .isl 1 (a0.map e_str) false), (18, .int .i64 ((a0.map e_str).length : Int)), (19, .int .i64 v10)] [] 0 := by
  unfold S_glossatorref3_ValidWords_j3 at h
  refine regI ?_
  cases h
  exact AI rfl (simI (M := []) rfl (AI (VS rfl) (AI (VS rfl) (AI (VS rfl) (AI (VS rfl) (AI (VS rfl) TT))))) TT)

theorem f36_L4_bok {a0 : List (List UInt8)} {v8 : Int} {v10 : Int} {v17 : Bool} {v18 : Int} {m : Option Nat} {o : (Bool × Int) ⊕ ((Int × Bool × Int) ⊕ Bool)} (h : S_glossatorref3_ValidWords_b4 m a0 v8 v10 v17 v18 = some o) :
    LWp Try.prog f36_lay 0 f36_c1 (BodyQ 0 0 (f36_L4_env a0 v8 v10) (f36_L4_hp a0 v8 v10) (f36_L4_Q a0) o) [(3, .int .i64 (W (v8 + (W (((a0.getD v10.toNat default).length : Int) + 1))))), (4, .bool v17), (6, .str (a0.getD v10.toNat default)), (17, .isl 1 (a0.map e_str) false), (18, .int .i64 ((a0.map e_str).length : Int)), (19, .int .i64 v10), (34, .int .i64 ((a0.getD v10.toNat default).length : Int)), (35, .int .i64 v18)] [] 0 := by
  unfold S_glossatorref3_ValidWords_b4 at h
  refine seqI ?_
  refine regI ?_
  refine seqI ?_
  refine condI (v := (decide (v18 < ((a0.getD v10.toNat default).length : Int)))) rfl TT (fun h33 => ?_) (fun h33 => ?_)
  · have h := ite_tt h33 h
    refine skipI ?_
    refine seqI ?_
    refine blockI ?_
    refine seqI ?_
    refine regI ?_
    refine regI ?_
    obtain ⟨h34, h⟩ := ite_some h
    refine AI (fun hp => (AI (AI hp hp) (h34 hp))) ?_
    obtain ⟨v20, h35, h⟩ := bind_some h
    refine Or.inl (EX (.bool v20) (AI (fun hp => AI hp (PFn.call (f31_ok (ite_tt hp h35)) (AI (VS rfl) TT) (AI rfl (AI rfl rfl)))) ?_))
    refine AI (fun hc => (bqt hc)) ?_
    refine LWp.sim (e := [(3, .int .i64 (W (v8 + (W (((a0.getD v10.toNat default).length : Int) + 1))))), (4, .bool (v17 && v20)), (6, .str (a0.getD v10.toNat default)), (17, .isl 1 (a0.map e_str) false), (18, .int .i64 ((a0.map e_str).length : Int)), (19, .int .i64 v10), (34, .int .i64 ((a0.getD v10.toNat default).length : Int)), (35, .int .i64 v18)]) (L := []) (n := 0) ?_ ?_
    · exact simI (M := []) rfl (AI (VS rfl) (AI (VS rfl) (AI (VS rfl) (AI (VS rfl) (AI (VS rfl) (AI (VS rfl) (AI (VS rfl) (AI (VS rfl) TT)))))))) TT
    refine regI ?_
    cases h
    exact AI rfl (simI (M := []) rfl (AI (VS rfl) (AI (VS rfl) (AI (VS rfl) (AI (VS rfl) (AI (VS rfl) (AI (VS rfl) (AI (VS rfl) (AI (VS rfl) TT)))))))) TT)
  · have h := ite_ff h33 h
    refine exitI ?_
    obtain ⟨o, hq, rfl⟩ := Option.map_eq_some_iff.1 h
    replace h := hq; clear hq
    refine AI nofun ?_
    refine LWp.sim ?_ (f36_j3_ok h)
    exact simI (M := []) rfl (AI (VS rfl) (AI (VS rfl) (AI (VS rfl) (AI (VS rfl) (AI (VS rfl) TT))))) TT

theorem f36_L4_ok {a0 : List (List UInt8)} {v8 : Int} {v10 : Int} {v17 : Bool} {v18 : Int} {m : Option Nat} {o : ((Int × Bool × Int) ⊕ Bool)} (h : S_glossatorref3_ValidWords_l4 m a0 v8 v10 v17 v18 = some o) :
    LWp Try.prog f36_lay 0 (.loop f36_c1) (QBlock 2 (QBlock 1 (QSeq Try.prog f36_lay 0 f36_c0 (BodyQ 0 0 (f36_L3_env a0) (f36_L3_hp a0) (f36_L3_Q a0) o)))) [(3, .int .i64 (W (v8 + (W (((a0.getD v10.toNat default).length : Int) + 1))))), (4, .bool v17), (6, .str (a0.getD v10.toNat default)), (17, .isl 1 (a0.map e_str) false), (18, .int .i64 ((a0.map e_str).length : Int)), (19, .int .i64 v10), (34, .int .i64 ((a0.getD v10.toNat default).length : Int)), (35, .int .i64 v18)] [] 0 :=
  LWp_loopM (m := m) (s := ((v17, v18) : (Bool × Int))) (r := o) (fun (s : (Bool × Int)) => S_glossatorref3_ValidWords_b4 m a0 v8 v10 s.1 s.2) (f36_L4_env a0 v8 v10) (f36_L4_hp a0 v8 v10) (f36_L4_Q a0) (fun s o h => f36_L4_bok h) h

noncomputable def S_glossatorref3_ValidWords_j4 (m : Option Nat) (v8 : Int) (v9 : Bool) : Option Bool :=
  some (v9 && (decide (v8 ≤ 2001)))

noncomputable def S_glossatorref3_ValidWords_b3 (m : Option Nat) (a0 : List (List UInt8)) (v8 : Int) (v9 : Bool) (v10 : Int) : Option ((Int × Bool × Int) ⊕ Bool) :=
  if (decide (v10 < ((a0.map e_str).length : Int))) = true then
    if (0 : Int) ≤ v10 ∧ v10 < ((a0.map e_str).length : Int) then
    S_glossatorref3_ValidWords_l4 m a0 v8 v10 (v9 && (!((a0.getD v10.toNat default) == ([] : List UInt8)))) 0
    else none
  else
    Option.map Sum.inr (
      S_glossatorref3_ValidWords_j4 m v8 v9)

noncomputable def S_glossatorref3_ValidWords_l3 (m : Option Nat) (a0 : List (List UInt8)) (v8 : Int) (v9 : Bool) (v10 : Int) : Option Bool := loopM m (fun (s : (Int × Bool × Int)) => S_glossatorref3_ValidWords_b3 m a0 s.1 s.2.1 s.2.2) (v8, v9, v10)

theorem f36_j4_ok {a0 : List (List UInt8)} {v8 : Int} {v9 : Bool} {m : Option Nat} {o : Bool} (h : S_glossatorref3_ValidWords_j4 m v8 v9 = some o) :
    LWp Try.prog f36_lay 0 f36_c2 (f36_Q a0 o) [(3, .int .i64 v8), (4, .bool v9)] [] 0 := by
  unfold S_glossatorref3_ValidWords_j4 at h
  refine seqI ?_
  refine regI ?_
  refine AI (fun hp => hp) ?_
  refine AI (fun hc => (bqt hc)) ?_
  refine retI ?_
  cases h
  exact AI TT (AI rfl (VS rfl))

theorem f36_L3_bok {a0 : List (List UInt8)} {v8 : Int} {v9 : Bool} {v10 : Int} {m : Option Nat} {o : (Int × Bool × Int) ⊕ Bool} (h : S_glossatorref3_ValidWords_b3 m a0 v8 v9 v10 = some o) :
    LWp Try.prog f36_lay 0 f36_c3 (BodyQ 0 0 (f36_L3_env a0) (f36_L3_hp a0) (f36_L3_Q a0) o) [(3, .int .i64 v8), (4, .bool v9), (17, .isl 1 (a0.map e_str) false), (18, .int .i64 ((a0.map e_str).length : Int)), (19, .int .i64 v10)] [] 0 := by
  unfold S_glossatorref3_ValidWords_b3 at h
  refine seqI ?_
  refine regI ?_
  refine seqI ?_
  refine condI (v := (decide (v10 < ((a0.map e_str).length : Int)))) rfl TT (fun h25 => ?_) (fun h25 => ?_)
  · have h := ite_tt h25 h
    refine skipI ?_
    refine seqI ?_
    refine blockI ?_
    refine seqI ?_
    refine regI ?_
    obtain ⟨h26, h⟩ := ite_some h
    refine AI h26 ?_
    refine EX (e_str (a0.getD v10.toNat default)) (AI (getD_enc e_str _ _ (idx_ltL e_str h26)) (AI (AI (idx_lt h26) (NB rfl)) ?_))
    refine seqI ?_
    refine regI ?_
    refine LWp.sim (e := [(3, .int .i64 (W (v8 + (W (((a0.getD v10.toNat default).length : Int) + 1))))), (4, .bool v9), (6, .str (a0.getD v10.toNat default)), (17, .isl 1 (a0.map e_str) false), (18, .int .i64 ((a0.map e_str).length : Int)), (19, .int .i64 v10)]) (L := []) (n := 0) ?_ ?_
    · exact simI (M := []) rfl (AI (VS rfl) (AI (VS rfl) (AI (VS rfl) (AI (VS rfl) (AI (VS rfl) (AI (VS rfl) TT)))))) TT
    refine seqI ?_
    refine regI ?_
    refine AI (fun hp => hp) ?_
    refine AI (fun hc => (bqt hc)) ?_
    refine seqI ?_
    refine regI ?_
    refine LWp.sim (e := [(3, .int .i64 (W (v8 + (W (((a0.getD v10.toNat default).length : Int) + 1))))), (4, .bool (v9 && (!((a0.getD v10.toNat default) == ([] : List UInt8))))), (6, .str (a0.getD v10.toNat default)), (17, .isl 1 (a0.map e_str) false), (18, .int .i64 ((a0.map e_str).length : Int)), (19, .int .i64 v10), (34, .int .i64 ((a0.getD v10.toNat default).length : Int)), (35, .int .i64 0)]) (L := []) (n := 0) ?_ ?_
    · exact simI (M := []) rfl (AI (VS rfl) (AI (VS rfl) (AI (VS rfl) (AI (VS rfl) (AI (VS rfl) (AI (VS rfl) (AI (VS rfl) (AI (VS rfl) TT)))))))) TT
    refine blockI ?_
    refine LWp.sim ?_ (f36_L4_ok h)
    exact simI (M := []) rfl (AI (VS rfl) (AI (VS rfl) (AI (VS rfl) (AI (VS rfl) (AI (VS rfl) (AI (VS rfl) (AI (VS rfl) (AI (VS rfl) TT)))))))) TT
  · have h := ite_ff h25 h
    refine exitI ?_
    obtain ⟨o, hq, rfl⟩ := Option.map_eq_some_iff.1 h
    replace h := hq; clear hq
    refine AI nofun ?_
    refine LWp.sim ?_ (f36_j4_ok h)
    exact simI (M := []) rfl (AI (VS rfl) (AI (VS rfl) TT)) TT

theorem f36_L3_ok {a0 : List (List UInt8)} {v8 : Int} {v9 : Bool} {v10 : Int} {m : Option Nat} {o : Bool} (h : S_glossatorref3_ValidWords_l3 m a0 v8 v9 v10 = some o) :
    LWp Try.prog f36_lay 0 (.loop f36_c3) (QBlock 0 (QSeq Try.prog f36_lay 0 f36_c2 (f36_Q a0 o))) [(3, .int .i64 v8), (4, .bool v9), (17, .isl 1 (a0.map e_str) false), (18, .int .i64 ((a0.map e_str).length : Int)), (19, .int .i64 v10)] [] 0 :=
  LWp_loopM (m := m) (s := ((v8, v9, v10) : (Int × Bool × Int))) (r := o) (fun (s : (Int × Bool × Int)) => S_glossatorref3_ValidWords_b3 m a0 s.1 s.2.1 s.2.2) (f36_L3_env a0) (f36_L3_hp a0) (f36_L3_Q a0) (fun s o h => f36_L3_bok h) h

noncomputable def S_glossatorref3_ValidWords (m : Option Nat) (a0 : List (List UInt8)) : Option Bool :=
  (if ((decide (((a0.map e_str).length : Int) ≤ 400)) == true) = true then S_glossatorref3_SortStrings m a0 else some default).bind fun v1 =>
  (if ((decide (((a0.map e_str).length : Int) ≤ 400)) == true) = true then S_glossatorref3_Equal_string m a0 v1 else some default).bind fun v2 =>
  S_glossatorref3_ValidWords_l3 m a0 0 ((decide (((a0.map e_str).length : Int) ≤ 400)) && v2) 0

theorem f36_start {a0 : List (List UInt8)} {m : Option Nat} {o : Bool} (h : S_glossatorref3_ValidWords m a0 = some o) : LWp Try.prog f36_lay 0 f36_c4 (f36_Q a0 o) (initEnv 0 [.isl 1 (a0.map e_str) false]) [] 0 := by
  unfold S_glossatorref3_ValidWords at h
  refine seqI ?_
  refine regI ?_
  refine seqI ?_
  refine regI ?_
  refine seqI ?_
  refine regI ?_
  obtain ⟨v1, h1, h⟩ := bind_some h
  refine Or.inl (EX (.isl 1 (v1.map e_str) false) (AI (fun hp => AI hp (PFn.call (f32_ok (ite_tt hp h1)) (AI (VS rfl) TT) (AI rfl (AI rfl rfl)))) ?_))
  obtain ⟨v2, h2, h⟩ := bind_some h
  refine Or.inl (EX (.bool v2) (AI (fun hp => AI (AI hp hp) (PFn.call (f9_ok (ite_tt hp h2)) (AI (VS rfl) (AI (VS rfl) TT)) (AI rfl (AI rfl rfl)))) ?_))
  refine AI (fun hc => (bqt hc)) ?_
  refine LWp.sim (e := [(0, .isl 1 (a0.map e_str) false), (3, .int .i64 0), (4, .bool ((decide (((a0.map e_str).length : Int) ≤ 400)) && v2))]) (L := []) (n := 0) ?_ ?_
  · exact simI (M := []) rfl (AI (VS rfl) (AI (VS rfl) (AI (VS rfl) TT))) TT
  refine seqI ?_
  refine seqI ?_
  refine regI ?_
  refine blockI ?_
  refine LWp.sim ?_ (f36_L3_ok h)
  exact simI (M := []) rfl (AI (VS rfl) (AI (VS rfl) (AI (VS rfl) (AI (VS rfl) (AI (VS rfl) TT))))) TT

theorem f36_ok {a0 : List (List UInt8)} {m : Option Nat} {o : Bool} (h : S_glossatorref3_ValidWords m a0 = some o) : PFn Try.prog 36 [.isl 1 (a0.map e_str) false] (.bool o) := PFn.ofFnW (L := f36_L) f36_low f36_fok (NB rfl) rfl (f36_start h)

def f15_c1 : LCode := (.seq (.region [⟨some 12, .bin .lss (.t 11) (.t 10), none⟩])
 (.seq (.cond (.t 12)
  .skip
  (.exit 0))
 (.seq (.block 1
  (.seq (.region [⟨some 13, .mv (.t 11), none⟩,
    ⟨some 14, .iaddr 3 (.t 9) (.t 11), none⟩,
    ⟨some 15, .load true 3 (.t 14), none⟩,
    ⟨some 5, .alloc [(.str []), (.int .u32 0), (.isl 1 [] true)], none⟩,
    ⟨some 4, .mv (.t 13), none⟩,
    ⟨none, .store 3 (.t 5) (.t 15), none⟩])
  (.draw [⟨⟨some 16, .mv (.t 3), none⟩, []⟩,
    ⟨⟨some 17, .mv (.t 16), none⟩, []⟩,
    ⟨⟨some 18, .faddr 0 (.t 5), some (17, true)⟩, []⟩,
    ⟨⟨some 19, .load false 1 (.t 18), some (17, true)⟩, []⟩,
    ⟨⟨some 20, .bin .neq (.t 19) (.c (.str [])), some (17, true)⟩, []⟩,
    ⟨⟨some 21, .pick (.t 17) (.t 20) (.c (.bool false)), none⟩, []⟩,
    ⟨⟨some 22, .mv (.t 21), none⟩, []⟩,
    ⟨⟨some 23, .faddr 0 (.t 5), some (22, true)⟩, []⟩,
    ⟨⟨some 24, .load false 1 (.t 23), some (22, true)⟩, []⟩,
    ⟨⟨some 25, .len true (.t 24), some (22, true)⟩, []⟩,
    ⟨⟨some 26, .bin .leq (.t 25) (.c (.int .i64 60)), some (22, true)⟩, []⟩,
    ⟨⟨some 27, .pick (.t 22) (.t 26) (.c (.bool false)), none⟩, []⟩,
    ⟨⟨some 28, .mv (.t 27), none⟩, []⟩,
    ⟨⟨some 29, .mv (.t 4), some (28, true)⟩, []⟩,
    ⟨⟨some 30, .bin .eql (.t 29) (.c (.int .i64 0)), some (28, true)⟩, []⟩,
    ⟨⟨some 31, .mv (.t 30), some (28, true)⟩, []⟩,
    ⟨⟨some 32, .mv (.t 0), some (31, false)⟩, []⟩,
    ⟨⟨some 33, .mv (.t 4), some (31, false)⟩, []⟩,
    ⟨⟨some 34, .bin .sub (.t 33) (.c (.int .i64 1)), some (31, false)⟩, []⟩,
    ⟨⟨some 35, .iaddr 3 (.t 32) (.t 34), some (31, false)⟩, []⟩,
    ⟨⟨some 36, .faddr 0 (.t 35), some (31, false)⟩, []⟩,
    ⟨⟨some 37, .load false 1 (.t 36), some (31, false)⟩, []⟩,
    ⟨⟨some 38, .faddr 0 (.t 5), some (31, false)⟩, []⟩,
    ⟨⟨some 39, .load false 1 (.t 38), some (31, false)⟩, []⟩,
    ⟨⟨some 40, .bin .lss (.t 37) (.t 39), some (31, false)⟩, []⟩,
    ⟨⟨some 41, .pick (.t 31) (.c (.bool true)) (.t 40), some (28, true)⟩, []⟩,
    ⟨⟨some 42, .pick (.t 28) (.t 41) (.c (.bool false)), none⟩, []⟩,
    ⟨⟨some 43, .mv (.t 42), none⟩, []⟩,
    ⟨⟨some 44, .faddr 2 (.t 5), some (43, true)⟩, []⟩,
    ⟨⟨some 45, .load false 1 (.t 44), some (43, true)⟩, []⟩,
    ⟨⟨some 46, .call 36 [(.t 45)], some (43, true)⟩, []⟩,
    ⟨⟨some 47, .pick (.t 43) (.t 46) (.c (.bool false)), none⟩, []⟩,
    ⟨⟨some 3, .mv (.t 47), none⟩, []⟩])))
 (.region [⟨some 48, .bin .add (.t 11) (.c (.int .i64 1)), none⟩,
   ⟨some 11, .mv (.t 48), none⟩]))))
def f15_c0 : LCode := (.seq (.region [⟨some 49, .mv (.t 3), none⟩,
   ⟨some 2, .mv (.t 49), none⟩])
 .ret)
def f15_c2 : LCode := (.seq (.region [⟨some 2, .mv (.c (.bool false)), none⟩])
 (.seq (.region [⟨some 6, .mv (.t 0), none⟩,
   ⟨some 7, .len false (.t 6), none⟩,
   ⟨some 8, .bin .leq (.t 7) (.c (.int .i64 20)), none⟩,
   ⟨some 3, .mv (.t 8), none⟩])
 (.seq (.seq (.region [⟨some 9, .mv (.t 0), none⟩,
   ⟨some 10, .len false (.t 9), none⟩,
   ⟨some 11, .mv (.c (.int .i64 0)), none⟩])
 (.block 0
  (.loop
   f15_c1)))
 f15_c0)))
def f15_lay : Lay := ⟨50, [], false⟩
def f15_res : List LRes := [.t 2]
def f15_L : LFn := ⟨1, f15_lay, f15_c2, f15_res⟩
theorem f15_low : lowFn Try.prog [] 15 = some f15_L := by kernel_rfl
theorem f15_fok : FnOk Try.prog 15 := ⟨_, Try.func15, rfl, rfl⟩
def f15_Q (a0 : List G_QIndexEntry) (o : Bool) : Exit → Env → AHeap → Nat → Prop := FinK f15_res (PureEnd (.bool o))

def f15_L1_env (a0 : List G_QIndexEntry) (s : (Bool × Int)) : Env := [(0, .isl 3 (a0.map e_QIndexEntry) false), (3, .bool s.1), (9, .isl 3 (a0.map e_QIndexEntry) false), (10, .int .i64 ((a0.map e_QIndexEntry).length : Int)), (11, .int .i64 s.2)]
def f15_L1_hp (a0 : List G_QIndexEntry) (s : (Bool × Int)) : AHeap := []
def f15_L1_Q (a0 : List G_QIndexEntry) (o : Bool) : Exit → Env → AHeap → Nat → Prop := (QBlock 0 (QSeq Try.prog f15_lay 0 f15_c0 (f15_Q a0 o)))

noncomputable def S_glossatorref3_ValidIndex_j1 (m : Option Nat) (v2 : Bool) : Option Bool :=
  some v2

noncomputable def S_glossatorref3_ValidIndex_b1 (m : Option Nat) (a0 : List G_QIndexEntry) (v2 : Bool) (v3 : Int) : Option ((Bool × Int) ⊕ Bool) :=
  if (decide (v3 < ((a0.map e_QIndexEntry).length : Int))) = true then
    if (0 : Int) ≤ v3 ∧ v3 < ((a0.map e_QIndexEntry).length : Int) then
    if (((((v2 && (!((a0.getD v3.toNat default).f_Name == ([] : List UInt8)))) && (decide ((((a0.getD v3.toNat default).f_Name).length : Int) ≤ 60))) == true) && ((v3 == 0) == false)) = true → (0 : Int) ≤ (W (v3 - 1)) ∧ (W (v3 - 1)) < ((a0.map e_QIndexEntry).length : Int)) then
    (if ((((v2 && (!((a0.getD v3.toNat default).f_Name == ([] : List UInt8)))) && (decide ((((a0.getD v3.toNat default).f_Name).length : Int) ≤ 60))) && ((v3 == 0) || (Op.bytesLess ((a0.getD ((W (v3 - 1)).toNat) default).f_Name) ((a0.getD v3.toNat default).f_Name)))) == true) = true then S_glossatorref3_ValidWords m ((a0.getD v3.toNat default).f_Words) else some default).bind fun v5 =>
    some (.inl (((((v2 && (!((a0.getD v3.toNat default).f_Name == ([] : List UInt8)))) && (decide ((((a0.getD v3.toNat default).f_Name).length : Int) ≤ 60))) && ((v3 == 0) || (Op.bytesLess ((a0.getD ((W (v3 - 1)).toNat) default).f_Name) ((a0.getD v3.toNat default).f_Name)))) && v5), (W (v3 + 1))))
    else none
    else none
  else
    Option.map Sum.inr (
      S_glossatorref3_ValidIndex_j1 m v2)

noncomputable def S_glossatorref3_ValidIndex_l1 (m : Option Nat) (a0 : List G_QIndexEntry) (v2 : Bool) (v3 : Int) : Option Bool := loopM m (fun (s : (Bool × Int)) => S_glossatorref3_ValidIndex_b1 m a0 s.1 s.2) (v2, v3)

theorem f15_j1_ok {a0 : List G_QIndexEntry} {v2 : Bool} {m : Option Nat} {o : Bool} (h : S_glossatorref3_ValidIndex_j1 m v2 = some o) :
    LWp Try.prog f15_lay 0 f15_c0 (f15_Q a0 o) [(3, .bool v2)] [] 0 := by
  unfold S_glossatorref3_ValidIndex_j1 at h
  refine seqI ?_
  refine regI ?_
  refine retI ?_
  cases h
  exact AI TT (AI rfl (VS rfl))

theorem f15_L1_bok {a0 : List G_QIndexEntry} {v2 : Bool} {v3 : Int} {m : Option Nat} {o : (Bool × Int) ⊕ Bool} (h : S_glossatorref3_ValidIndex_b1 m a0 v2 v3 = some o) :
    LWp Try.prog f15_lay 0 f15_c1 (BodyQ 0 0 (f15_L1_env a0) (f15_L1_hp a0) (f15_L1_Q a0) o) [(0, .isl 3 (a0.map e_QIndexEntry) false), (3, .bool v2), (9, .isl 3 (a0.map e_QIndexEntry) false), (10, .int .i64 ((a0.map e_QIndexEntry).length : Int)), (11, .int .i64 v3)] [] 0 := by
  unfold S_glossatorref3_ValidIndex_b1 at h
  refine seqI ?_
  refine regI ?_
  refine seqI ?_
  refine condI (v := (decide (v3 < ((a0.map e_QIndexEntry).length : Int)))) rfl TT (fun h9 => ?_) (fun h9 => ?_)
  · have h := ite_tt h9 h
    refine skipI ?_
    refine seqI ?_
    refine blockI ?_
    refine seqI ?_
    refine regI ?_
    obtain ⟨h10, h⟩ := ite_some h
    refine AI h10 ?_
    refine EX (e_QIndexEntry (a0.getD v3.toNat default)) (AI (getD_enc e_QIndexEntry _ _ (idx_ltL e_QIndexEntry h10)) (AI (AI (idx_lt h10) (NB rfl)) ?_))
    refine drawO rfl ?_
    refine AI (fun hp => hp) ?_
    refine AI (fun hp => hp) ?_
    refine AI (fun hc => (bqt hc)) ?_
    refine AI (fun hp => hp) ?_
    refine AI (fun hp => hp) ?_
    refine AI (fun hp => hp) ?_
    refine AI (fun hc => (bqt hc)) ?_
    refine AI (fun hp => hp) ?_
    refine AI (fun hp => hp) ?_
    refine AI (fun hp => hp) ?_
    obtain ⟨h11, h⟩ := ite_some h
    refine AI (fun hp => (AI (AI hp hp) (h11 hp))) ?_
    refine AI (fun hp => hp) ?_
    refine EX (e_QIndexEntry (a0.getD ((W (v3 - 1)).toNat) default)) (AI (fun hp => AI (getD_enc e_QIndexEntry _ _ (idx_ltL e_QIndexEntry (h11 hp))) (AI hp (AI (idx_lt (h11 hp)) (NB rfl)))) ?_)
    refine AI (fun hp => hp) ?_
    refine AI (fun hp => (AI hp hp)) ?_
    refine AI (fun hp => (AI hp (fun hc => (and_i hp (bqf hc))))) ?_
    refine AI (fun hc => (bqt hc)) ?_
    refine AI (fun hp => hp) ?_
    obtain ⟨v5, h12, h⟩ := bind_some h
    refine Or.inl (EX (.bool v5) (AI (fun hp => AI hp (PFn.call (f36_ok (ite_tt hp h12)) (AI (VS rfl) TT) (AI rfl (AI rfl rfl)))) ?_))
    refine AI (fun hc => (bqt hc)) ?_
    refine LWp.sim (e := [(0, .isl 3 (a0.map e_QIndexEntry) false), (3, .bool ((((v2 && (!((a0.getD v3.toNat default).f_Name == ([] : List UInt8)))) && (decide ((((a0.getD v3.toNat default).f_Name).length : Int) ≤ 60))) && ((v3 == 0) || (Op.bytesLess ((a0.getD ((W (v3 - 1)).toNat) default).f_Name) ((a0.getD v3.toNat default).f_Name)))) && v5)), (9, .isl 3 (a0.map e_QIndexEntry) false), (10, .int .i64 ((a0.map e_QIndexEntry).length : Int)), (11, .int .i64 v3)]) (L := []) (n := 0) ?_ ?_
    · exact simI (M := []) rfl (AI (VS rfl) (AI (VS rfl) (AI (VS rfl) (AI (VS rfl) (AI (VS rfl) TT))))) TT
    refine regI ?_
    cases h
    exact AI rfl (simI (M := []) rfl (AI (VS rfl) (AI (VS rfl) (AI (VS rfl) (AI (VS rfl) (AI (VS rfl) TT))))) TT)
  · have h := ite_ff h9 h
    refine exitI ?_
    obtain ⟨o, hq, rfl⟩ := Option.map_eq_some_iff.1 h
    replace h := hq; clear hq
    refine AI nofun ?_
    refine LWp.sim ?_ (f15_j1_ok h)
    exact simI (M := []) rfl (AI (VS rfl) TT) TT

theorem f15_L1_ok {a0 : List G_QIndexEntry} {v2 : Bool} {v3 : Int} {m : Option Nat} {o : Bool} (h : S_glossatorref3_ValidIndex_l1 m a0 v2 v3 = some o) :
    LWp Try.prog f15_lay 0 (.loop f15_c1) (QBlock 0 (QSeq Try.prog f15_lay 0 f15_c0 (f15_Q a0 o))) [(0, .isl 3 (a0.map e_QIndexEntry) false), (3, .bool v2), (9, .isl 3 (a0.map e_QIndexEntry) false), (10, .int .i64 ((a0.map e_QIndexEntry).length : Int)), (11, .int .i64 v3)] [] 0 :=
  LWp_loopM (m := m) (s := ((v2, v3) : (Bool × Int))) (r := o) (fun (s : (Bool × Int)) => S_glossatorref3_ValidIndex_b1 m a0 s.1 s.2) (f15_L1_env a0) (f15_L1_hp a0) (f15_L1_Q a0) (fun s o h => f15_L1_bok h) h

noncomputable def S_glossatorref3_ValidIndex (m : Option Nat) (a0 : List G_QIndexEntry) : Option Bool :=
  S_glossatorref3_ValidIndex_l1 m a0 (decide (((a0.map e_QIndexEntry).length : Int) ≤ 20)) 0

theorem f15_start {a0 : List G_QIndexEntry} {m : Option Nat} {o : Bool} (h : S_glossatorref3_ValidIndex m a0 = some o) : LWp Try.prog f15_lay 0 f15_c2 (f15_Q a0 o) (initEnv 0 [.isl 3 (a0.map e_QIndexEntry) false]) [] 0 := by
  unfold S_glossatorref3_ValidIndex at h
  refine seqI ?_
  refine regI ?_
  refine seqI ?_
  refine regI ?_
  refine seqI ?_
  refine seqI ?_
  refine regI ?_
  refine LWp.sim (e := [(0, .isl 3 (a0.map e_QIndexEntry) false), (3, .bool (decide (((a0.map e_QIndexEntry).length : Int) ≤ 20))), (9, .isl 3 (a0.map e_QIndexEntry) false), (10, .int .i64 ((a0.map e_QIndexEntry).length : Int)), (11, .int .i64 0)]) (L := []) (n := 0) ?_ ?_
  · exact simI (M := []) rfl (AI (VS rfl) (AI (VS rfl) (AI (VS rfl) (AI (VS rfl) (AI (VS rfl) TT))))) TT
  refine blockI ?_
  refine LWp.sim ?_ (f15_L1_ok h)
  exact simI (M := []) rfl (AI (VS rfl) (AI (VS rfl) (AI (VS rfl) (AI (VS rfl) (AI (VS rfl) TT))))) TT

theorem f15_ok {a0 : List G_QIndexEntry} {m : Option Nat} {o : Bool} (h : S_glossatorref3_ValidIndex m a0 = some o) : PFn Try.prog 15 [.isl 3 (a0.map e_QIndexEntry) false] (.bool o) := PFn.ofFnW (L := f15_L) f15_low f15_fok (NB rfl) rfl (f15_start h)

end Go.Proofs.Yteepckliibfnkaa
