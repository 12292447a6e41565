/-
  Own text GenA of this claim: what functions of the given program compute, in plain Lean, and the proof; no condition.
-/
import Derived.Test.YteepckliibfnkaaGreatDoorChecked
import Derived.Test.YteepckliibfnkaaGreatDoorFxN
import Derived.Test.YteepckliibfnkaaGreatDoorFxU
import Derived.Test.YteepckliibfnkaaGreatDoorFxMg
import Derived.Test.YteepckliibfnkaaGreatDoorFxSp
import Derived.Test.YteepckliibfnkaaGreatDoorFxSs
import Derived.Test.YteepckliibfnkaaGreatDoorLib
import Derived.Test.YteepckliibfnkaaGreatDoorFxAb
import Derived.KernelRfl
namespace Go.Proofs.YteepckliibfnkaaGreatDoor
open Go.Fx
set_option linter.unusedVariables false
structure G_QDocument where
 f_Name : List UInt8
 f_Version : Int
 f_Text : List UInt8
instance : Inhabited G_QDocument := ⟨(G_QDocument.mk [] 0 [])⟩
structure G_QIndexEntry where
 f_Name : List UInt8
 f_Sum : Int
 f_Words : List (List UInt8)
instance : Inhabited G_QIndexEntry := ⟨(G_QIndexEntry.mk [] 0 [])⟩
structure G_QRecord where
 f_Key : List UInt8
 f_Value : List UInt8
 f_Deleted : Bool
instance : Inhabited G_QRecord := ⟨(G_QRecord.mk [] [] false)⟩
def z8 (x : G_QDocument) : List AVal := [.str x.f_Name, .int .i64 x.f_Version, .str x.f_Text]
def zb (x : List UInt8) : List AVal := [.str x]
def z7 (x : G_QIndexEntry) : List AVal := [.str x.f_Name, .int .u32 x.f_Sum, .isl 1 (x.f_Words.map zb) false]
def za (x : G_QRecord) : List AVal := [.str x.f_Key, .str x.f_Value, .bool x.f_Deleted]
def Yz (x : List UInt8) : AVal := .str x
theorem zxg (x : List UInt8) : (Yz x).nid = true := rfl
def jw (x : G_QRecord) : AVal := .agg [.str x.f_Key, .str x.f_Value, .bool x.f_Deleted]
theorem ud (x : G_QRecord) : (jw x).nid = true := rfl
def Yq (x y : List UInt8) : Bool := (x == y && true)
theorem znm (x y : List UInt8) : Kv [.str] (Yz x) (Yz y) = some (Yq x y) := rfl
theorem znh (x : G_QDocument) : AVal.nid.nidL (z8 x) = true ∧ ∀ y ∈ z8 x, y.imm = some y := ⟨rfl, by simp [z8, AVal.imm]⟩
theorem z3n (x : List UInt8) : AVal.nid.nidL (zb x) = true ∧ ∀ y ∈ zb x, y.imm = some y := ⟨rfl, by simp [zb, AVal.imm]⟩
theorem Zh (x : G_QIndexEntry) : AVal.nid.nidL (z7 x) = true ∧ ∀ y ∈ z7 x, y.imm = some y := ⟨rfl, by simp [z7, AVal.imm]⟩
theorem z5x (x : G_QRecord) : AVal.nid.nidL (za x) = true ∧ ∀ y ∈ za x, y.imm = some y := ⟨rfl, by simp [za, AVal.imm]⟩
def zaq : LCode := (.seq (.region [⟨some 1, .box (.t 0), none⟩,
 ⟨some 2, .mv (.c (.bool false)), none⟩])
 (.seq (.region [⟨some 3, .faddr 0 (.t 1), none⟩,
  ⟨some 4, .load false 1 (.t 3), none⟩,
  ⟨some 5, .len true (.t 4), none⟩,
  ⟨some 6, .bin .gtr (.t 5) (.c (.int .i64 60)), none⟩,
  ⟨some 7, .mv (.t 6), none⟩,
  ⟨some 8, .faddr 2 (.t 1), some (7, false)⟩,
  ⟨some 9, .load false 1 (.t 8), some (7, false)⟩,
  ⟨some 10, .len true (.t 9), some (7, false)⟩,
  ⟨some 11, .bin .gtr (.t 10) (.c (.int .i64 2000)), some (7, false)⟩,
  ⟨some 12, .pick (.t 7) (.c (.bool true)) (.t 11), none⟩,
  ⟨some 2, .mv (.t 12), none⟩])
 .ret))
def z4o : Lay := ⟨13, [], false⟩
def z6h : List LRes := [.t 2]
def zhk : LFn := ⟨1, z4o, zaq, z6h⟩
theorem zgj : ww Tryz.prog [] 34 = some zhk := by kernel_rfl
theorem zjv : Z9 Tryz.prog 34 := ⟨_, Tryz.func34, rfl, rfl⟩
noncomputable def yu (m : Option Nat) (a0 : G_QDocument) : Option Bool :=
 some ((decide ((a0.f_Name.length : Int) > 60)) || (decide ((a0.f_Text.length : Int) > 2000)))
def zvx (a0 : G_QDocument) (o : Bool) : Exit → Env → AHeap → Nat → Prop := Zy z6h (Us 3 4 (.bool o) [])
theorem z9o {a0 : G_QDocument} {m : Option Nat} {o : Bool} (h : yu m a0 = some o) : LWp Tryz.prog z4o 3 zaq (zvx a0 o) (zz 0 [.agg [.str a0.f_Name, .int .i64 a0.f_Version, .str a0.f_Text]]) [] 3 := by
 unfold yu at h
 refine zd ?_
 refine ze ?_
 refine zd ?_
 refine ze ?_
 refine AI (fun hp => hp) ?_
 refine AI (fun hp => hp) ?_
 refine AI (fun hp => hp) ?_
 refine AI (fun hc => (bqf hc)) ?_
 refine LWp.sim (e := [(2, .bool ((decide ((a0.f_Name.length : Int) > 60)) || (decide ((a0.f_Text.length : Int) > 2000))))]) (L := []) (n := 3) ?_ ?_
 ·exact y6 (M := []) rfl (AI (VS rfl) TT) TT
 refine u5 ?_
 cases h
 exact AI TT (y1i (n' := 3) [] [] rfl rfl (VS rfl) TT)
theorem zpo {a0 : G_QDocument} {m : Option Nat} {o : Bool} (h : yu m a0 = some o) : ACalls Tryz.prog 34 [.agg [.str a0.f_Name, .int .i64 a0.f_Version, .str a0.f_Text]] [] 3 (Qd 4 (.bool o) []) := Ul (L := zhk) zgj zjv (NB rfl) (z9o h)
def z3o : LCode := (.seq (.region [⟨some 9, .bin .lss (.t 8) (.t 7), none⟩])
 (.seq (.cond (.t 9)
  .skip
  (.exit 0))
 (.seq (.block 1
  (.seq (.region [⟨some 10, .mv (.t 8), none⟩,
   ⟨some 5, .mv (.t 10), none⟩])
  (.seq (.region [⟨some 11, .mv (.t 1), none⟩,
   ⟨some 12, .mv (.t 0), none⟩,
   ⟨some 13, .mv (.t 5), none⟩,
   ⟨some 14, .iaddr 3 (.t 12) (.t 13), none⟩,
   ⟨some 15, .load true 3 (.t 14), none⟩,
   ⟨some 16, .callv (.t 11) [(.t 15)], none⟩])
  (.cond (.t 16)
   (.seq (.region [⟨some 17, .mv (.t 5), none⟩,
    ⟨some 4, .mv (.t 17), none⟩])
   .ret)
   .skip))))
 (.region [⟨some 18, .bin .add (.t 8) (.c (.int .i64 1)), none⟩,
  ⟨some 8, .mv (.t 18), none⟩]))))
def U6 : LCode := (.seq (.region [⟨some 4, .mv (.c (.int .i64 (-1))), none⟩])
 .ret)
def zbn : LCode := (.seq (.region [⟨some 4, .mv (.c (.int .i64 0)), none⟩])
 (.seq (.seq (.region [⟨some 6, .mv (.t 0), none⟩,
  ⟨some 7, .len false (.t 6), none⟩,
  ⟨some 8, .mv (.c (.int .i64 0)), none⟩])
 (.block 0
  (.loop
   z3o)))
 U6))
def Q2 : Lay := ⟨19, [], false⟩
def z6x : List LRes := [.t 4]
def znb : LFn := ⟨2, Q2, zbn, z6x⟩
theorem zma : ww Tryz.prog [] 54 = some znb := by kernel_rfl
theorem zhn : Z9 Tryz.prog 54 := ⟨_, Tryz.func54, rfl, rfl⟩
def z3w {σ : Type} (Hc : σ → AHeap) (fi0 : Fn) (ff0 fc0 : List AVal) (a0 : List G_QDocument) (z0 : σ) (o : Int × σ) : Exit → Env → AHeap → Nat → Prop := Zy z6x (Us 3 4 (.int .i64 o.1) ([] ++ up 3 (Hc o.2)))
def Kg {σ : Type} (Hc : σ → AHeap) (fi0 : Fn) (ff0 fc0 : List AVal) (a0 : List G_QDocument) (s : (Int × σ)) : Env := [(0, .isl 3 (a0.map z8) false), (1, .fn fi0 ff0 fc0), (7, .int .i64 ((a0.map z8).length : Int)), (8, .int .i64 s.1)]
def z00 {σ : Type} (Hc : σ → AHeap) (fi0 : Fn) (ff0 fc0 : List AVal) (a0 : List G_QDocument) (s : (Int × σ)) : AHeap := ([] ++ up 3 (Hc s.2))
def z1t {σ : Type} (Hc : σ → AHeap) (fi0 : Fn) (ff0 fc0 : List AVal) (a0 : List G_QDocument) (z0 : σ) (o : (Int × σ)) : Exit → Env → AHeap → Nat → Prop := (zm 0 (ug Tryz.prog Q2 3 U6 (z3w Hc fi0 ff0 fc0 a0 z0 o)))
noncomputable def w5 {σ : Type} (g0 : σ → G_QDocument → Option (Bool × σ)) (m : Option Nat) (v3 : σ) : Option (Int × σ) :=
 some ((-1), v3)
noncomputable def y3 {σ : Type} (g0 : σ → G_QDocument → Option (Bool × σ)) (m : Option Nat) (a0 : List G_QDocument) (v2 : Int) (v3 : σ) : Option ((Int × σ) ⊕ (Int × σ)) :=
 if (decide (v2 < ((a0.map z8).length : Int))) = true then
  if (0 : Int) ≤ v2 ∧ v2 < ((a0.map z8).length : Int) then
  (g0 v3 (G_QDocument.mk ((a0.getD v2.toNat default).f_Name) ((a0.getD v2.toNat default).f_Version) ((a0.getD v2.toNat default).f_Text))).bind fun v5 =>
  if v5.1 = true then
   Option.map Sum.inr (
    some (v2, v5.2))
  else
   some (.inl ((W (v2 + 1)), v5.2))
  else none
 else
  Option.map Sum.inr (
   w5 g0 m v3)
noncomputable def q5 {σ : Type} (g0 : σ → G_QDocument → Option (Bool × σ)) (m : Option Nat) (a0 : List G_QDocument) (v2 : Int) (v3 : σ) : Option (Int × σ) := u4 m (fun (s : (Int × σ)) => y3 g0 m a0 s.1 s.2) (v2, v3)
theorem z8u {σ : Type} {Hc : σ → AHeap} {fi0 : Fn} {ff0 fc0 : List AVal} {g0 : σ → G_QDocument → Option (Bool × σ)} (hg0 : Clo Tryz.prog fi0 ff0 fc0 Hc (fun (x : G_QDocument) => [.agg [.str x.f_Name, .int .i64 x.f_Version, .str x.f_Text]]) (fun (b : Bool) => .bool b) g0) {a0 : List G_QDocument} {z0 : σ} {v3 : σ} {m : Option Nat} {o : (Int × σ)} (h : w5 g0 m v3 = some o) :
 LWp Tryz.prog Q2 3 U6 (z3w Hc fi0 ff0 fc0 a0 z0 o) [] ([] ++ up 3 (Hc v3)) 4 := by
 unfold w5 at h
 refine zd ?_
 refine ze ?_
 refine u5 ?_
 cases h
 exact AI TT (zxf (n' := 4) (q := 3) (lit' := []) (hg0.tl _) [] [] rfl rfl (VS rfl) TT)
theorem z6g {σ : Type} {Hc : σ → AHeap} {fi0 : Fn} {ff0 fc0 : List AVal} {g0 : σ → G_QDocument → Option (Bool × σ)} (hg0 : Clo Tryz.prog fi0 ff0 fc0 Hc (fun (x : G_QDocument) => [.agg [.str x.f_Name, .int .i64 x.f_Version, .str x.f_Text]]) (fun (b : Bool) => .bool b) g0) {z0 : σ} {a0 : List G_QDocument} {v2 : Int} {v3 : σ} {m : Option Nat} {o : (Int × σ) ⊕ (Int × σ)} (h : y3 g0 m a0 v2 v3 = some o) :
 LWp Tryz.prog Q2 3 z3o (xt 3 4 (Kg Hc fi0 ff0 fc0 a0) (z00 Hc fi0 ff0 fc0 a0) (z1t Hc fi0 ff0 fc0 a0 z0) o) [(0, .isl 3 (a0.map z8) false), (1, .fn fi0 ff0 fc0), (7, .int .i64 ((a0.map z8).length : Int)), (8, .int .i64 v2)] ([] ++ up 3 (Hc v3)) 4 := by
 unfold y3 at h
 refine zd ?_
 refine ze ?_
 refine zd ?_
 refine qj (v := (decide (v2 < ((a0.map z8).length : Int)))) rfl TT (fun h9 => ?_) (fun h9 => ?_)
 ·have h := zk h9 h
  refine qv ?_
  refine zd ?_
  refine yf ?_
  refine zd ?_
  refine ze ?_
  refine zd ?_
  refine ze ?_
  obtain ⟨h10, h⟩ := zc h
  refine AI h10 ?_
  refine EX (z8 (a0.getD v2.toNat default)) (AI (qo z8 _ _ (ji z8 h10)) (AI (AI (k7 h10) (NB rfl)) ?_))
  obtain ⟨v5, h11, h⟩ := bind_some h
  refine Clo.use (q := 3) (lit := []) hg0 h11 rfl rfl (AI (VS rfl) TT) ?_
  refine LWp.sim (e := [(0, .isl 3 (a0.map z8) false), (1, .fn fi0 ff0 fc0), (5, .int .i64 v2), (7, .int .i64 ((a0.map z8).length : Int)), (8, .int .i64 v2), (16, .bool v5.1)]) (L := ([] ++ up 3 (Hc v5.2))) (n := 4) ?_ ?_
  ·exact zro (M := []) (lit' := []) (hg0.tl _) rfl (AI (VS rfl) (AI (Vw.clo hg0.hf hg0.hc (by decide) (Ki (Qq (n := 4) (q := 4) (lit' := []) rfl))) (S4 rfl rfl rfl rfl TT))) TT
  refine qj (v := v5.1) rfl TT (fun h12 => ?_) (fun h12 => ?_)
  ·have h := zk h12 h
   refine zd ?_
   refine ze ?_
   refine u5 ?_
   obtain ⟨o, hq, rfl⟩ := Option.map_eq_some_iff.1 h
   replace h := hq; clear hq
   refine AI nofun ?_
   cases h
   exact AI TT (zxf (n' := 4) (q := 3) (lit' := []) (hg0.tl _) [] [] rfl rfl (VS rfl) TT)
  ·have h := zw h12 h
   refine qv ?_
   refine ze ?_
   cases h
   exact AI rfl (zro (M := []) (lit' := []) (hg0.tl _) rfl (AI (VS rfl) (AI (Vw.clo hg0.hf hg0.hc (by decide) (Ki (Qq (n := 4) (q := 3) (lit' := []) rfl))) (S2 rfl rfl TT))) TT)
 ·have h := zw h9 h
  refine Z2 ?_
  obtain ⟨o, hq, rfl⟩ := Option.map_eq_some_iff.1 h
  replace h := hq; clear hq
  refine AI nofun ?_
  refine LWp.sim ?_ (z8u hg0 h)
  exact zro (M := []) (lit' := []) (hg0.tl _) rfl TT TT
theorem z9f {σ : Type} {Hc : σ → AHeap} {fi0 : Fn} {ff0 fc0 : List AVal} {g0 : σ → G_QDocument → Option (Bool × σ)} (hg0 : Clo Tryz.prog fi0 ff0 fc0 Hc (fun (x : G_QDocument) => [.agg [.str x.f_Name, .int .i64 x.f_Version, .str x.f_Text]]) (fun (b : Bool) => .bool b) g0) {z0 : σ} {a0 : List G_QDocument} {v2 : Int} {v3 : σ} {m : Option Nat} {o : (Int × σ)} (h : q5 g0 m a0 v2 v3 = some o) :
 LWp Tryz.prog Q2 3 (.loop z3o) (zm 0 (ug Tryz.prog Q2 3 U6 (z3w Hc fi0 ff0 fc0 a0 z0 o))) [(0, .isl 3 (a0.map z8) false), (1, .fn fi0 ff0 fc0), (7, .int .i64 ((a0.map z8).length : Int)), (8, .int .i64 v2)] ([] ++ up 3 (Hc v3)) 4 :=
 yi (m := m) (s := ((v2, v3) : (Int × σ))) (r := o) (fun (s : (Int × σ)) => y3 g0 m a0 s.1 s.2) (Kg Hc fi0 ff0 fc0 a0) (z00 Hc fi0 ff0 fc0 a0) (z1t Hc fi0 ff0 fc0 a0 z0) (fun s o h => z6g hg0 h) h
noncomputable def qz {σ : Type} (g0 : σ → G_QDocument → Option (Bool × σ)) (m : Option Nat) (a0 : List G_QDocument) (z0 : σ) : Option (Int × σ) :=
 q5 g0 m a0 0 z0
theorem z94 {σ : Type} {Hc : σ → AHeap} {fi0 : Fn} {ff0 fc0 : List AVal} {g0 : σ → G_QDocument → Option (Bool × σ)} (hg0 : Clo Tryz.prog fi0 ff0 fc0 Hc (fun (x : G_QDocument) => [.agg [.str x.f_Name, .int .i64 x.f_Version, .str x.f_Text]]) (fun (b : Bool) => .bool b) g0) {a0 : List G_QDocument} {z0 : σ} {m : Option Nat} {o : Int × σ} (h : qz g0 m a0 z0 = some o) : LWp Tryz.prog Q2 3 zbn (z3w Hc fi0 ff0 fc0 a0 z0 o) (zz 0 [.isl 3 (a0.map z8) false, .fn fi0 ff0 fc0]) ([] ++ Hc z0) 3 := by
 unfold qz at h
 refine LWp.sim (e := [(0, .isl 3 (a0.map z8) false), (1, .fn fi0 ff0 fc0)]) (L := ([] ++ up 3 (Hc z0))) (n := 4) (zgi (T := Hc z0) (e' := zz 0 [.isl 3 (a0.map z8) false, .fn fi0 ff0 fc0]) (e := [(0, .isl 3 (a0.map z8) false), (1, .fn fi0 ff0 fc0)]) (lit' := []) (lit := []) (hg0.tl z0) rfl rfl (AI (VS rfl) (AI (Vw.clo hg0.hf hg0.hc (by decide) (zka _)) TT)) TT) ?_
 refine zd ?_
 refine ze ?_
 refine zd ?_
 refine zd ?_
 refine ze ?_
 refine yf ?_
 refine LWp.sim ?_ (z9f hg0 h)
 exact zro (M := []) (lit' := []) (hg0.tl _) rfl (AI (VS rfl) (AI (Vw.clo hg0.hf hg0.hc (by decide) (Ki (Qq (n := 4) (q := 3) (lit' := []) rfl))) (S2 rfl rfl TT))) TT
theorem zo8 {σ : Type} {Hc : σ → AHeap} {fi0 : Fn} {ff0 fc0 : List AVal} {g0 : σ → G_QDocument → Option (Bool × σ)} (hg0 : Clo Tryz.prog fi0 ff0 fc0 Hc (fun (x : G_QDocument) => [.agg [.str x.f_Name, .int .i64 x.f_Version, .str x.f_Text]]) (fun (b : Bool) => .bool b) g0) {a0 : List G_QDocument} {z0 : σ} {m : Option Nat} {o : Int × σ} (h : qz g0 m a0 z0 = some o) : ACalls Tryz.prog 54 [.isl 3 (a0.map z8) false, .fn fi0 ff0 fc0] ([] ++ Hc z0) 3 (Qd 4 (.int .i64 o.1) ([] ++ up 3 (Hc o.2))) := Ul (L := znb) zma zhn (NB rfl) (z94 hg0 h)
def zae : LCode := (.seq (.region [⟨some 4, .mv (.c (.bool false)), none⟩])
 (.seq (.region [⟨some 5, .mv (.t 0), none⟩,
  ⟨some 6, .mv (.t 1), none⟩,
  ⟨some 7, .call 54 [(.t 5), (.t 6)], none⟩,
  ⟨some 8, .bin .geq (.t 7) (.c (.int .i64 0)), none⟩,
  ⟨some 4, .mv (.t 8), none⟩])
 .ret))
def z6p : Lay := ⟨9, [], false⟩
def z6z : List LRes := [.t 4]
def zk2 : LFn := ⟨2, z6p, zae, z6z⟩
theorem zm9 : ww Tryz.prog [] 35 = some zk2 := by kernel_rfl
theorem zid : Z9 Tryz.prog 35 := ⟨_, Tryz.func35, rfl, rfl⟩
noncomputable def zp {σ : Type} (g0 : σ → G_QDocument → Option (Bool × σ)) (m : Option Nat) (a0 : List G_QDocument) (z0 : σ) : Option (Bool × σ) :=
 (qz g0 m a0 z0).bind fun v1 =>
 some ((decide (v1.1 ≥ 0)), v1.2)
def zvh {σ : Type} (Hc : σ → AHeap) (fi0 : Fn) (ff0 fc0 : List AVal) (a0 : List G_QDocument) (z0 : σ) (o : Bool × σ) : Exit → Env → AHeap → Nat → Prop := Zy z6z (Us 3 4 (.bool o.1) ([] ++ up 3 (Hc o.2)))
theorem z9q {σ : Type} {Hc : σ → AHeap} {fi0 : Fn} {ff0 fc0 : List AVal} {g0 : σ → G_QDocument → Option (Bool × σ)} (hg0 : Clo Tryz.prog fi0 ff0 fc0 Hc (fun (x : G_QDocument) => [.agg [.str x.f_Name, .int .i64 x.f_Version, .str x.f_Text]]) (fun (b : Bool) => .bool b) g0) {a0 : List G_QDocument} {z0 : σ} {m : Option Nat} {o : Bool × σ} (h : zp g0 m a0 z0 = some o) : LWp Tryz.prog z6p 3 zae (zvh Hc fi0 ff0 fc0 a0 z0 o) (zz 0 [.isl 3 (a0.map z8) false, .fn fi0 ff0 fc0]) ([] ++ Hc z0) 3 := by
 unfold zp at h
 refine LWp.sim (e := [(0, .isl 3 (a0.map z8) false), (1, .fn fi0 ff0 fc0)]) (L := ([] ++ up 3 (Hc z0))) (n := 4) (zgi (T := Hc z0) (e' := zz 0 [.isl 3 (a0.map z8) false, .fn fi0 ff0 fc0]) (e := [(0, .isl 3 (a0.map z8) false), (1, .fn fi0 ff0 fc0)]) (lit' := []) (lit := []) (hg0.tl z0) rfl rfl (AI (VS rfl) (AI (Vw.clo hg0.hf hg0.hc (by decide) (zka _)) TT)) TT) ?_
 refine zd ?_
 refine ze ?_
 refine zd ?_
 refine ze ?_
 obtain ⟨v1, h1, h⟩ := bind_some h
 refine zsh (m := 1) (q := 3) (lit0 := []) (lit := []) (L := []) (L' := []) (rest := []) (R' := .int .i64 v1.1) (hg0.tl _) (hg0.tl _) [] (zo8 hg0 h1) rfl rfl rfl rfl rfl rfl (AI (VS rfl) (AI (Vw.clo hg0.hf hg0.hc (by decide) (z89 _ _)) TT)) TT (Y2 _ rfl) TT rfl ?_
 refine u5 ?_
 cases h
 exact AI TT (zxf (n' := 6) (q := 4) (lit' := []) (hg0.tl _) [] [] rfl rfl (VS rfl) TT)
theorem z3d {σ : Type} {Hc : σ → AHeap} {fi0 : Fn} {ff0 fc0 : List AVal} {g0 : σ → G_QDocument → Option (Bool × σ)} (hg0 : Clo Tryz.prog fi0 ff0 fc0 Hc (fun (x : G_QDocument) => [.agg [.str x.f_Name, .int .i64 x.f_Version, .str x.f_Text]]) (fun (b : Bool) => .bool b) g0) {a0 : List G_QDocument} {z0 : σ} {m : Option Nat} {o : Bool × σ} (h : zp g0 m a0 z0 = some o) : ACalls Tryz.prog 35 [.isl 3 (a0.map z8) false, .fn fi0 ff0 fc0] ([] ++ Hc z0) 3 (Qd 4 (.bool o.1) ([] ++ up 3 (Hc o.2))) := Ul (L := zk2) zm9 zid (NB rfl) (z9q hg0 h)
def zay : LCode := (.seq (.region [⟨some 1, .box (.t 0), none⟩,
 ⟨some 2, .mv (.c (.bool false)), none⟩])
 (.seq (.region [⟨some 3, .faddr 0 (.t 1), none⟩,
  ⟨some 4, .load false 1 (.t 3), none⟩,
  ⟨some 5, .bin .eql (.t 4) (.c (.str [])), none⟩,
  ⟨some 2, .mv (.t 5), none⟩])
 .ret))
def z4s : Lay := ⟨6, [], false⟩
def z4r : List LRes := [.t 2]
def zmj : LFn := ⟨1, z4s, zay, z4r⟩
theorem zjx : ww Tryz.prog [] 36 = some zmj := by kernel_rfl
theorem zhu : Z9 Tryz.prog 36 := ⟨_, Tryz.func36, rfl, rfl⟩
noncomputable def yq (m : Option Nat) (a0 : G_QDocument) : Option Bool :=
 some (a0.f_Name == ([] : List UInt8))
def zv9 (a0 : G_QDocument) (o : Bool) : Exit → Env → AHeap → Nat → Prop := Zy z4r (Us 3 4 (.bool o) [])
theorem z9c {a0 : G_QDocument} {m : Option Nat} {o : Bool} (h : yq m a0 = some o) : LWp Tryz.prog z4s 3 zay (zv9 a0 o) (zz 0 [.agg [.str a0.f_Name, .int .i64 a0.f_Version, .str a0.f_Text]]) [] 3 := by
 unfold yq at h
 refine zd ?_
 refine ze ?_
 refine zd ?_
 refine ze ?_
 refine u5 ?_
 cases h
 exact AI TT (y1i (n' := 4) [] [] rfl rfl (VS rfl) TT)
theorem zos {a0 : G_QDocument} {m : Option Nat} {o : Bool} (h : yq m a0 = some o) : ACalls Tryz.prog 36 [.agg [.str a0.f_Name, .int .i64 a0.f_Version, .str a0.f_Text]] [] 3 (Qd 4 (.bool o) []) := Ul (L := zmj) zjx zhu (NB rfl) (z9c h)
def zct : LCode := (.seq (.region [⟨some 2, .box (.t 0), none⟩,
 ⟨some 3, .mv (.c (.bool false)), none⟩])
 (.seq (.region [⟨some 4, .faddr 0 (.t 2), none⟩,
  ⟨some 5, .load false 1 (.t 4), none⟩,
  ⟨some 6, .faddr 0 (.t 1), none⟩,
  ⟨some 7, .load false 1 (.t 6), none⟩,
  ⟨some 8, .bin .eql (.t 5) (.t 7), none⟩,
  ⟨some 3, .mv (.t 8), none⟩])
 .ret))
def z6v : Lay := ⟨9, [], false⟩
def z7h : List LRes := [.t 3]
def zhv : LFn := ⟨2, z6v, zct, z7h⟩
theorem zm2 : ww Tryz.prog [] 37 = some zhv := by kernel_rfl
theorem zmm : Z9 Tryz.prog 37 := ⟨_, Tryz.func37, rfl, rfl⟩
noncomputable def yt (m : Option Nat) (a0 : List UInt8) (a1 : Int) (a2 : List UInt8) (a3 : G_QDocument) : Option Bool :=
 some (a3.f_Name == a0)
def zth (a0 : List UInt8) (a1 : Int) (a2 : List UInt8) (a3 : G_QDocument) (o : Bool) : Exit → Env → AHeap → Nat → Prop := Zy z7h (Us 3 4 (.bool o) [((1, 0), .one [.str a0, .int .i64 a1, .str a2])])
theorem z88 {a0 : List UInt8} {a1 : Int} {a2 : List UInt8} {a3 : G_QDocument} {m : Option Nat} {o : Bool} (h : yt m a0 a1 a2 a3 = some o) : LWp Tryz.prog z6v 3 zct (zth a0 a1 a2 a3 o) (zz 0 [.agg [.str a3.f_Name, .int .i64 a3.f_Version, .str a3.f_Text], .ptr (1, 0) 0 0]) [((1, 0), .one [.str a0, .int .i64 a1, .str a2])] 3 := by
 unfold yt at h
 refine zd ?_
 refine ze ?_
 refine zd ?_
 refine ze ?_
 refine LWp.sim (e := [(3, .bool (a3.f_Name == a0))]) (L := [((1, 0), .one [.str a0, .int .i64 a1, .str a2])]) (n := 3) ?_ ?_
 ·exact y6 (M := []) rfl (AI (VS rfl) TT) (AI (AI rfl (BVw.oneL (S2 rfl rfl (AI (VS rfl) TT)))) TT)
 refine u5 ?_
 cases h
 exact AI TT (y1i (n' := 3) [] [] rfl rfl (VS rfl) (AI (AI rfl (BVw.oneL (S2 rfl rfl (AI (VS rfl) TT)))) TT))
theorem zqo {a0 : List UInt8} {a1 : Int} {a2 : List UInt8} {a3 : G_QDocument} {m : Option Nat} {o : Bool} (h : yt m a0 a1 a2 a3 = some o) : ACalls Tryz.prog 37 [.agg [.str a3.f_Name, .int .i64 a3.f_Version, .str a3.f_Text], .ptr (1, 0) 0 0] [((1, 0), .one [.str a0, .int .i64 a1, .str a2])] 3 (Qd 4 (.bool o) [((1, 0), .one [.str a0, .int .i64 a1, .str a2])]) := Ul (L := zhv) zm2 zmm (NB rfl) (z88 h)
def zis : LCode := (.seq (.region [⟨some 19, .bin .lss (.t 18) (.t 17), none⟩])
 (.seq (.cond (.t 19)
  .skip
  (.exit 0))
 (.seq (.block 1
  (.seq (.region [⟨some 20, .mv (.t 18), none⟩,
   ⟨some 21, .iaddr 3 (.t 16) (.t 18), none⟩,
   ⟨some 22, .load true 3 (.t 21), none⟩,
   ⟨some 5, .alloc [(.str []), (.int .i64 0), (.str [])], none⟩,
   ⟨some 4, .mv (.t 20), none⟩,
   ⟨none, .store 3 (.t 5) (.t 22), none⟩])
  (.seq (.region [⟨some 23, .mv (.t 0), none⟩,
   ⟨some 24, .mv (.t 4), none⟩,
   ⟨some 25, .slSl 3 (.t 23) none (some (.t 24)) none, none⟩,
   ⟨some 26, .mkfn (.func 37) [] [(.t 5)], none⟩,
   ⟨some 27, .call 35 [(.t 25), (.t 26)], none⟩])
  (.cond (.t 27)
   (.seq (.region [⟨some 2, .mv (.c (.int .i64 6)), none⟩])
   .ret)
   .skip))))
 (.region [⟨some 28, .bin .add (.t 18) (.c (.int .i64 1)), none⟩,
  ⟨some 18, .mv (.t 28), none⟩]))))
def za3 : LCode := (.seq (.region [⟨some 2, .mv (.c (.int .i64 0)), none⟩])
 .ret)
def zrh : LCode := (.seq (.region [⟨some 2, .mv (.c (.int .i64 0)), none⟩])
 (.seq (.region [⟨some 3, .mv (.c (.fn (.func 34) [] [])), none⟩])
 (.seq (.seq (.region [⟨some 6, .mv (.t 0), none⟩,
  ⟨some 7, .len false (.t 6), none⟩,
  ⟨some 8, .bin .gtr (.t 7) (.c (.int .i64 20)), none⟩,
  ⟨some 9, .mv (.t 8), none⟩,
  ⟨some 10, .mv (.t 0), some (9, false)⟩,
  ⟨some 11, .mv (.t 3), some (9, false)⟩,
  ⟨some 12, .call 35 [(.t 10), (.t 11)], some (9, false)⟩,
  ⟨some 13, .pick (.t 9) (.c (.bool true)) (.t 12), none⟩])
 (.cond (.t 13)
  (.seq (.region [⟨some 2, .mv (.c (.int .i64 2)), none⟩])
  .ret)
  .skip))
 (.seq (.seq (.region [⟨some 14, .mv (.t 0), none⟩,
  ⟨some 15, .call 35 [(.t 14), (.c (.fn (.func 36) [] []))], none⟩])
 (.cond (.t 15)
  (.seq (.region [⟨some 2, .mv (.c (.int .i64 3)), none⟩])
  .ret)
  .skip))
 (.seq (.seq (.region [⟨some 16, .mv (.t 0), none⟩,
  ⟨some 17, .len false (.t 16), none⟩,
  ⟨some 18, .mv (.c (.int .i64 0)), none⟩])
 (.block 0
  (.loop
   zis)))
 za3)))))
def W8 : Lay := ⟨29, [], false⟩
def zgg : List LRes := [.t 2]
def zy1 : LFn := ⟨1, W8, zrh, zgg⟩
theorem ztz : ww Tryz.prog [] 17 = some zy1 := by kernel_rfl
theorem zvr : Z9 Tryz.prog 17 := ⟨_, Tryz.func17, rfl, rfl⟩
def zp6 (a0 : List G_QDocument) (o : Int) : Exit → Env → AHeap → Nat → Prop := Zy zgg (q6 (.int .i64 o))
def z1b (a0 : List G_QDocument) (s : Int) : Env := [(0, .isl 3 (a0.map z8) false), (16, .isl 3 (a0.map z8) false), (17, .int .i64 ((a0.map z8).length : Int)), (18, .int .i64 s)]
def z7n (a0 : List G_QDocument) (s : Int) : AHeap := []
def za9 (a0 : List G_QDocument) (o : Int) : Exit → Env → AHeap → Nat → Prop := (zm 0 (ug Tryz.prog W8 0 za3 (zp6 a0 o)))
noncomputable def wy (m : Option Nat) : Option Int :=
 some 0
noncomputable def ye (m : Option Nat) (a0 : List G_QDocument) (v4 : Int) : Option (Int ⊕ Int) :=
 if (decide (v4 < ((a0.map z8).length : Int))) = true then
  if (0 : Int) ≤ v4 ∧ v4 < ((a0.map z8).length : Int) then
  if (0 : Int) ≤ v4 ∧ v4 ≤ ((a0.map z8).length : Int) then
  (zp (fun (s : Unit) (x : G_QDocument) => (yt m ((a0.getD v4.toNat default).f_Name) ((a0.getD v4.toNat default).f_Version) ((a0.getD v4.toNat default).f_Text) x).map fun o => (o, ())) m (a0.take v4.toNat) ()).bind fun v6 =>
  if v6.1 = true then
   Option.map Sum.inr (
    some 6)
  else
   some (.inl (W (v4 + 1)))
  else none
  else none
 else
  Option.map Sum.inr (
   wy m)
noncomputable def x3 (m : Option Nat) (a0 : List G_QDocument) (v4 : Int) : Option Int := u4 m (fun (s : Int) => ye m a0 s) v4
theorem zg6 {a0 : List G_QDocument} {m : Option Nat} {o : Int} (h : wy m = some o) :
 LWp Tryz.prog W8 0 za3 (zp6 a0 o) [] [] 0 := by
 unfold wy at h
 refine zd ?_
 refine ze ?_
 refine u5 ?_
 cases h
 exact AI TT (AI rfl (VS rfl))
theorem zd1 {a0 : List G_QDocument} {v4 : Int} {m : Option Nat} {o : Int ⊕ Int} (h : ye m a0 v4 = some o) :
 LWp Tryz.prog W8 0 zis (xt 0 0 (z1b a0) (z7n a0) (za9 a0) o) [(0, .isl 3 (a0.map z8) false), (16, .isl 3 (a0.map z8) false), (17, .int .i64 ((a0.map z8).length : Int)), (18, .int .i64 v4)] [] 0 := by
 unfold ye at h
 refine zd ?_
 refine ze ?_
 refine zd ?_
 refine qj (v := (decide (v4 < ((a0.map z8).length : Int)))) rfl TT (fun h15 => ?_) (fun h15 => ?_)
 ·have h := zk h15 h
  refine qv ?_
  refine zd ?_
  refine yf ?_
  refine zd ?_
  refine ze ?_
  obtain ⟨h16, h⟩ := zc h
  refine AI h16 ?_
  refine EX (z8 (a0.getD v4.toNat default)) (AI (qo z8 _ _ (ji z8 h16)) (AI (AI (k7 h16) (NB rfl)) ?_))
  refine zd ?_
  refine ze ?_
  obtain ⟨h17, h⟩ := zc h
  refine EX (.isl 3 ((a0.take v4.toNat).map z8) false) (AI (zox z8 (slB z8 a0 _) rfl) (AI (AI rfl (AI (Int.le_refl _) h17)) ?_))
  obtain ⟨v6, h18, h⟩ := bind_some h
  refine z0z (k := 3) (m := 1) (L' := [((0, 0), .one [.str ((a0.getD v4.toNat default).f_Name), .int .i64 ((a0.getD v4.toNat default).f_Version), .str ((a0.getD v4.toNat default).f_Text)])]) (rest := []) (R' := .bool v6.1) [((1, 0), (0, 0))] (z3d (show Clo Tryz.prog (.func 37) [] [.ptr (1, 0) 0 0] (fun (s : Unit) => [((1, 0), .one [.str ((a0.getD v4.toNat default).f_Name), .int .i64 ((a0.getD v4.toNat default).f_Version), .str ((a0.getD v4.toNat default).f_Text)])]) (fun (x : G_QDocument) => [.agg [.str x.f_Name, .int .i64 x.f_Version, .str x.f_Text]]) (fun (b : Bool) => .bool b) (fun (s : Unit) (x : G_QDocument) => (yt m ((a0.getD v4.toNat default).f_Name) ((a0.getD v4.toNat default).f_Version) ((a0.getD v4.toNat default).f_Text) x).map fun o => (o, ())) from Clo.mk' (fun s => Tl.lit rfl (AI (rfl) TT) rfl) rfl rfl (fun _ => rfl) (fun s x o h => by obtain ⟨o1, h1, rfl⟩ := Option.map_eq_some_iff.1 h; exact EX _ (AI (zqo h1) (AI rfl (AI rfl TT))))) h18) rfl rfl rfl (AI (VS rfl) (AI (Vw.fnL TT (AI (Vw.ptr _ _ _ _ rfl) TT)) TT)) (AI (h0I (0, 0) rfl rfl (BVw.oneL (S2 rfl rfl (AI (VS rfl) TT)))) TT) (Y2 _ rfl) (AI rfl (AI rfl TT)) rfl ?_
  refine LWp.sim (e := [(0, .isl 3 (a0.map z8) false), (16, .isl 3 (a0.map z8) false), (17, .int .i64 ((a0.map z8).length : Int)), (18, .int .i64 v4), (27, .bool v6.1)]) (L := []) (n := 0) ?_ ?_
  ·exact y6 (M := []) rfl (S4 rfl rfl rfl rfl (AI (VS rfl) TT)) TT
  refine qj (v := v6.1) rfl TT (fun h19 => ?_) (fun h19 => ?_)
  ·have h := zk h19 h
   refine zd ?_
   refine ze ?_
   refine u5 ?_
   obtain ⟨o, hq, rfl⟩ := Option.map_eq_some_iff.1 h
   replace h := hq; clear hq
   refine AI nofun ?_
   cases h
   exact AI TT (AI rfl (VS rfl))
  ·have h := zw h19 h
   refine qv ?_
   refine ze ?_
   cases h
   exact AI rfl (y6 (M := []) rfl (S4 rfl rfl rfl rfl TT) TT)
 ·have h := zw h15 h
  refine Z2 ?_
  obtain ⟨o, hq, rfl⟩ := Option.map_eq_some_iff.1 h
  replace h := hq; clear hq
  refine AI nofun ?_
  refine LWp.sim ?_ (zg6 h)
  exact y6 (M := []) rfl TT TT
theorem zik {a0 : List G_QDocument} {v4 : Int} {m : Option Nat} {o : Int} (h : x3 m a0 v4 = some o) :
 LWp Tryz.prog W8 0 (.loop zis) (zm 0 (ug Tryz.prog W8 0 za3 (zp6 a0 o))) [(0, .isl 3 (a0.map z8) false), (16, .isl 3 (a0.map z8) false), (17, .int .i64 ((a0.map z8).length : Int)), (18, .int .i64 v4)] [] 0 :=
 yi (m := m) (s := (v4 : Int)) (r := o) (fun (s : Int) => ye m a0 s) (z1b a0) (z7n a0) (za9 a0) (fun s o h => zd1 h) h
noncomputable def yp (m : Option Nat) (a0 : List G_QDocument) : Option Int :=
 (if ((decide (((a0.map z8).length : Int) > 20)) == false) = true then zp (fun (s : Unit) (x : G_QDocument) => (yu m x).map fun o => (o, ())) m a0 () else some default).bind fun v1 =>
 if ((decide (((a0.map z8).length : Int) > 20)) || v1.1) = true then
  some 2
 else
  (zp (fun (s : Unit) (x : G_QDocument) => (yq m x).map fun o => (o, ())) m a0 ()).bind fun v2 =>
  if v2.1 = true then
   some 3
  else
   x3 m a0 0
theorem zne {a0 : List G_QDocument} {m : Option Nat} {o : Int} (h : yp m a0 = some o) : LWp Tryz.prog W8 0 zrh (zp6 a0 o) (zz 0 [.isl 3 (a0.map z8) false]) [] 0 := by
 unfold yp at h
 refine zd ?_
 refine ze ?_
 refine zd ?_
 refine ze ?_
 refine zd ?_
 refine zd ?_
 refine ze ?_
 obtain ⟨v1, h1, h⟩ := bind_some h
 refine Or.inl (EX (.bool v1.1) (AI (fun hp => AI (AI hp hp) (ACalls.same rfl (z0z (k := 3) (m := 1) (L' := []) (rest := []) (R' := .bool v1.1) [] (z3d (show Clo Tryz.prog (.func 34) [] [] (fun (s : Unit) => []) (fun (x : G_QDocument) => [.agg [.str x.f_Name, .int .i64 x.f_Version, .str x.f_Text]]) (fun (b : Bool) => .bool b) (fun (s : Unit) (x : G_QDocument) => (yu m x).map fun o => (o, ())) from Clo.mk' (fun s => Tl.lit rfl TT rfl) rfl rfl (fun _ => rfl) (fun s x o h => by obtain ⟨o1, h1, rfl⟩ := Option.map_eq_some_iff.1 h; exact EX _ (AI (zpo h1) TT))) (zk hp h1)) rfl rfl rfl (S2 rfl rfl TT) TT (Y2 _ rfl) TT rfl (AI rfl (HeapTo.get TT))))) ?_))
 refine AI (fun hc => (bqf hc)) ?_
 refine LWp.sim (e := [(0, .isl 3 (a0.map z8) false), (13, .bool ((decide (((a0.map z8).length : Int) > 20)) || v1.1))]) (L := []) (n := 0) ?_ ?_
 ·exact y6 (M := []) rfl (S2 rfl rfl TT) TT
 refine qj (v := ((decide (((a0.map z8).length : Int) > 20)) || v1.1)) rfl TT (fun h2 => ?_) (fun h2 => ?_)
 ·have h := zk h2 h
  refine zd ?_
  refine ze ?_
  refine u5 ?_
  cases h
  exact AI TT (AI rfl (VS rfl))
 ·have h := zw h2 h
  refine qv ?_
  refine zd ?_
  refine zd ?_
  refine ze ?_
  obtain ⟨v2, h3, h⟩ := bind_some h
  refine z0z (k := 3) (m := 1) (L' := []) (rest := []) (R' := .bool v2.1) [] (z3d (show Clo Tryz.prog (.func 36) [] [] (fun (s : Unit) => []) (fun (x : G_QDocument) => [.agg [.str x.f_Name, .int .i64 x.f_Version, .str x.f_Text]]) (fun (b : Bool) => .bool b) (fun (s : Unit) (x : G_QDocument) => (yq m x).map fun o => (o, ())) from Clo.mk' (fun s => Tl.lit rfl TT rfl) rfl rfl (fun _ => rfl) (fun s x o h => by obtain ⟨o1, h1, rfl⟩ := Option.map_eq_some_iff.1 h; exact EX _ (AI (zos h1) TT))) h3) rfl rfl rfl (S2 rfl rfl TT) TT (Y2 _ rfl) TT rfl ?_
  refine qj (v := v2.1) rfl TT (fun h4 => ?_) (fun h4 => ?_)
  ·have h := zk h4 h
   refine zd ?_
   refine ze ?_
   refine u5 ?_
   cases h
   exact AI TT (AI rfl (VS rfl))
  ·have h := zw h4 h
   refine qv ?_
   refine zd ?_
   refine zd ?_
   refine ze ?_
   refine yf ?_
   refine LWp.sim ?_ (zik h)
   exact y6 (M := []) rfl (S4 rfl rfl rfl rfl TT) TT
theorem zri {a0 : List G_QDocument} {m : Option Nat} {o : Int} (h : yp m a0 = some o) : PFn Tryz.prog 17 [.isl 3 (a0.map z8) false] (.int .i64 o) := PFn.ofFnW (L := zy1) ztz zvr (NB rfl) rfl (zne h)
def zkl : LCode := (.seq (.region [⟨some 8, .bin .lss (.t 7) (.t 6), none⟩])
 (.seq (.cond (.t 8)
  .skip
  (.exit 0))
 (.seq (.block 1
  (.seq (.region [⟨some 9, .mv (.t 7), none⟩,
   ⟨some 4, .mv (.t 9), none⟩])
  (.region [⟨some 10, .mv (.t 3), none⟩,
   ⟨some 11, .mv (.t 0), none⟩,
   ⟨some 12, .mv (.t 4), none⟩,
   ⟨some 13, .idxS (.t 11) (.t 12), none⟩,
   ⟨some 14, .conv (.int .u32) (.t 13), none⟩,
   ⟨some 15, .bin .xor (.t 10) (.t 14), none⟩,
   ⟨some 16, .bin .mul (.t 15) (.c (.int .u32 16777619)), none⟩,
   ⟨some 3, .mv (.t 16), none⟩])))
 (.region [⟨some 17, .bin .add (.t 7) (.c (.int .i64 1)), none⟩,
  ⟨some 7, .mv (.t 17), none⟩]))))
def zc0 : LCode := (.seq (.region [⟨some 18, .mv (.t 3), none⟩,
 ⟨some 2, .mv (.t 18), none⟩])
 .ret)
def zrc : LCode := (.seq (.region [⟨some 2, .mv (.c (.int .u32 0)), none⟩])
 (.seq (.region [⟨some 3, .mv (.c (.int .u32 2166136261)), none⟩])
 (.seq (.seq (.region [⟨some 5, .mv (.t 0), none⟩,
  ⟨some 6, .len true (.t 5), none⟩,
  ⟨some 7, .mv (.c (.int .i64 0)), none⟩])
 (.block 0
  (.loop
   zkl)))
 zc0)))
def Wl : Lay := ⟨19, [], false⟩
def zhy : List LRes := [.t 2]
def y0c : LFn := ⟨1, Wl, zrc, zhy⟩
theorem zul : ww Tryz.prog [] 42 = some y0c := by kernel_rfl
theorem zw0 : Z9 Tryz.prog 42 := ⟨_, Tryz.func42, rfl, rfl⟩
def zow (a0 : List UInt8) (o : Int) : Exit → Env → AHeap → Nat → Prop := Zy zhy (q6 (.int .u32 o))
def z1o (a0 : List UInt8) (s : (Int × Int)) : Env := [(0, .str a0), (3, .int .u32 s.1), (6, .int .i64 (a0.length : Int)), (7, .int .i64 s.2)]
def z5j (a0 : List UInt8) (s : (Int × Int)) : AHeap := []
def zaw (a0 : List UInt8) (o : Int) : Exit → Env → AHeap → Nat → Prop := (zm 0 (ug Tryz.prog Wl 0 zc0 (zow a0 o)))
noncomputable def u9 (m : Option Nat) (v1 : Int) : Option Int :=
 some v1
noncomputable def je (m : Option Nat) (a0 : List UInt8) (v1 : Int) (v2 : Int) : Option ((Int × Int) ⊕ Int) :=
 if (decide (v2 < (a0.length : Int))) = true then
  if (0 : Int) ≤ v2 ∧ v2 < (a0.length : Int) then
  some (.inl ((IntKind.wrap .u32 ((Zb .xor .u32 v1 (IntKind.wrap .u32 (((a0.getD v2.toNat 0).toNat : Nat) : Int))) * 16777619)), (W (v2 + 1))))
  else none
 else
  Option.map Sum.inr (
   u9 m v1)
noncomputable def Z7 (m : Option Nat) (a0 : List UInt8) (v1 : Int) (v2 : Int) : Option Int := u4 m (fun (s : (Int × Int)) => je m a0 s.1 s.2) (v1, v2)
theorem zi0 {a0 : List UInt8} {v1 : Int} {m : Option Nat} {o : Int} (h : u9 m v1 = some o) :
 LWp Tryz.prog Wl 0 zc0 (zow a0 o) [(3, .int .u32 v1)] [] 0 := by
 unfold u9 at h
 refine zd ?_
 refine ze ?_
 refine u5 ?_
 cases h
 exact AI TT (AI rfl (VS rfl))
theorem ze1 {a0 : List UInt8} {v1 : Int} {v2 : Int} {m : Option Nat} {o : (Int × Int) ⊕ Int} (h : je m a0 v1 v2 = some o) :
 LWp Tryz.prog Wl 0 zkl (xt 0 0 (z1o a0) (z5j a0) (zaw a0) o) [(0, .str a0), (3, .int .u32 v1), (6, .int .i64 (a0.length : Int)), (7, .int .i64 v2)] [] 0 := by
 unfold je at h
 refine zd ?_
 refine ze ?_
 refine zd ?_
 refine qj (v := (decide (v2 < (a0.length : Int)))) rfl TT (fun h5 => ?_) (fun h5 => ?_)
 ·have h := zk h5 h
  refine qv ?_
  refine zd ?_
  refine yf ?_
  refine zd ?_
  refine ze ?_
  refine ze ?_
  obtain ⟨h6, h⟩ := zc h
  refine AI h6 ?_
  refine LWp.sim (e := [(0, .str a0), (3, .int .u32 (IntKind.wrap .u32 ((Zb .xor .u32 v1 (IntKind.wrap .u32 (((a0.getD v2.toNat 0).toNat : Nat) : Int))) * 16777619))), (6, .int .i64 (a0.length : Int)), (7, .int .i64 v2)]) (L := []) (n := 0) ?_ ?_
  ·exact y6 (M := []) rfl (S4 rfl rfl rfl rfl TT) TT
  refine ze ?_
  cases h
  exact AI rfl (y6 (M := []) rfl (S4 rfl rfl rfl rfl TT) TT)
 ·have h := zw h5 h
  refine Z2 ?_
  obtain ⟨o, hq, rfl⟩ := Option.map_eq_some_iff.1 h
  replace h := hq; clear hq
  refine AI nofun ?_
  refine LWp.sim ?_ (zi0 h)
  exact y6 (M := []) rfl (AI (VS rfl) TT) TT
theorem zii {a0 : List UInt8} {v1 : Int} {v2 : Int} {m : Option Nat} {o : Int} (h : Z7 m a0 v1 v2 = some o) :
 LWp Tryz.prog Wl 0 (.loop zkl) (zm 0 (ug Tryz.prog Wl 0 zc0 (zow a0 o))) [(0, .str a0), (3, .int .u32 v1), (6, .int .i64 (a0.length : Int)), (7, .int .i64 v2)] [] 0 :=
 yi (m := m) (s := ((v1, v2) : (Int × Int))) (r := o) (fun (s : (Int × Int)) => je m a0 s.1 s.2) (z1o a0) (z5j a0) (zaw a0) (fun s o h => ze1 h) h
noncomputable def j0 (m : Option Nat) (a0 : List UInt8) : Option Int :=
 Z7 m a0 2166136261 0
theorem zgc {a0 : List UInt8} {m : Option Nat} {o : Int} (h : j0 m a0 = some o) : LWp Tryz.prog Wl 0 zrc (zow a0 o) (zz 0 [.str a0]) [] 0 := by
 unfold j0 at h
 refine zd ?_
 refine ze ?_
 refine zd ?_
 refine ze ?_
 refine zd ?_
 refine zd ?_
 refine ze ?_
 refine yf ?_
 refine LWp.sim ?_ (zii h)
 exact y6 (M := []) rfl (S4 rfl rfl rfl rfl TT) TT
theorem zf9 {a0 : List UInt8} {m : Option Nat} {o : Int} (h : j0 m a0 = some o) : PFn Tryz.prog 42 [.str a0] (.int .u32 o) := PFn.ofFnW (L := y0c) zul zw0 (NB rfl) rfl (zgc h)
def zsv : LCode := (.seq (.region [⟨some 2, .mv (.c (.bool false)), none⟩])
 (.seq (.region [⟨some 3, .mv (.t 0), none⟩,
  ⟨some 4, .bin .eql (.t 3) (.c (.int .u8 95)), none⟩,
  ⟨some 5, .mv (.t 4), none⟩,
  ⟨some 6, .mv (.t 0), some (5, false)⟩,
  ⟨some 7, .bin .geq (.t 6) (.c (.int .u8 48)), some (5, false)⟩,
  ⟨some 8, .mv (.t 7), some (5, false)⟩,
  ⟨some 9, .mv (.t 0), some (8, true)⟩,
  ⟨some 10, .bin .leq (.t 9) (.c (.int .u8 57)), some (8, true)⟩,
  ⟨some 11, .pick (.t 8) (.t 10) (.c (.bool false)), some (5, false)⟩,
  ⟨some 12, .pick (.t 5) (.c (.bool true)) (.t 11), none⟩,
  ⟨some 13, .mv (.t 12), none⟩,
  ⟨some 14, .mv (.t 0), some (13, false)⟩,
  ⟨some 15, .bin .or (.t 14) (.c (.int .u8 32)), some (13, false)⟩,
  ⟨some 16, .bin .geq (.t 15) (.c (.int .u8 97)), some (13, false)⟩,
  ⟨some 17, .mv (.t 16), some (13, false)⟩,
  ⟨some 18, .mv (.t 0), some (17, true)⟩,
  ⟨some 19, .bin .or (.t 18) (.c (.int .u8 32)), some (17, true)⟩,
  ⟨some 20, .bin .leq (.t 19) (.c (.int .u8 122)), some (17, true)⟩,
  ⟨some 21, .pick (.t 17) (.t 20) (.c (.bool false)), some (13, false)⟩,
  ⟨some 22, .pick (.t 13) (.c (.bool true)) (.t 21), none⟩,
  ⟨some 2, .mv (.t 22), none⟩])
 .ret))
def zlc : Lay := ⟨23, [], false⟩
def zn1 : List LRes := [.t 2]
def y0k : LFn := ⟨1, zlc, zsv, zn1⟩
theorem zv3 : ww Tryz.prog [] 60 = some y0k := by kernel_rfl
theorem zwg : Z9 Tryz.prog 60 := ⟨_, Tryz.func60, rfl, rfl⟩
noncomputable def jt (m : Option Nat) (a0 : Int) : Option Bool :=
 some (((a0 == 95) || ((decide (a0 ≥ 48)) && (decide (a0 ≤ 57)))) || ((decide ((Zb .or .u8 a0 32) ≥ 97)) && (decide ((Zb .or .u8 a0 32) ≤ 122))))
def y2a (a0 : Int) (o : Bool) : Exit → Env → AHeap → Nat → Prop := Zy zn1 (q6 (.bool o))
theorem zlr {a0 : Int} {m : Option Nat} {o : Bool} (h : jt m a0 = some o) : LWp Tryz.prog zlc 0 zsv (y2a a0 o) (zz 0 [.int .u8 a0]) [] 0 := by
 unfold jt at h
 refine zd ?_
 refine ze ?_
 refine zd ?_
 refine ze ?_
 refine AI (fun hp => hp) ?_
 refine AI (fun hp => hp) ?_
 refine AI (fun hp => hp) ?_
 refine AI (fun hp => (AI hp (fun hc => (z9w hp (bqt hc))))) ?_
 refine AI (fun hc => (bqf hc)) ?_
 refine AI (fun hp => hp) ?_
 refine AI (fun hp => hp) ?_
 refine AI (fun hp => hp) ?_
 refine AI (fun hp => hp) ?_
 refine AI (fun hp => hp) ?_
 refine AI (fun hp => (AI hp (fun hc => (z9w hp (bqt hc))))) ?_
 refine AI (fun hc => (bqf hc)) ?_
 refine LWp.sim (e := [(2, .bool (((a0 == 95) || ((decide (a0 ≥ 48)) && (decide (a0 ≤ 57)))) || ((decide ((Zb .or .u8 a0 32) ≥ 97)) && (decide ((Zb .or .u8 a0 32) ≤ 122)))))]) (L := []) (n := 0) ?_ ?_
 ·exact y6 (M := []) rfl (AI (VS rfl) TT) TT
 refine u5 ?_
 cases h
 exact AI TT (AI rfl (VS rfl))
theorem zrf {a0 : Int} {m : Option Nat} {o : Bool} (h : jt m a0 = some o) : PFn Tryz.prog 60 [.int .u8 a0] (.bool o) := PFn.ofFnW (L := y0k) zv3 zwg (NB rfl) rfl (zlr h)
def zeu : LCode := (.seq (.region [⟨some 2, .mv (.c (.bool false)), none⟩])
 (.seq (.region [⟨some 3, .mv (.t 0), none⟩,
  ⟨some 4, .mv (.t 0), none⟩,
  ⟨some 5, .bin .neq (.t 3) (.t 4), none⟩,
  ⟨some 2, .mv (.t 5), none⟩])
 .ret))
def zaj : Lay := ⟨6, [], false⟩
def za6 : List LRes := [.t 2]
def zsc : LFn := ⟨1, zaj, zeu, za6⟩
theorem zpw : ww Tryz.prog [] 104 = some zsc := by kernel_rfl
theorem zqb : Z9 Tryz.prog 104 := ⟨_, Tryz.func104, rfl, rfl⟩
noncomputable def u6 (m : Option Nat) (a0 : List UInt8) : Option Bool :=
 some (!(a0 == a0))
def zy3 (a0 : List UInt8) (o : Bool) : Exit → Env → AHeap → Nat → Prop := Zy za6 (q6 (.bool o))
theorem zei {a0 : List UInt8} {m : Option Nat} {o : Bool} (h : u6 m a0 = some o) : LWp Tryz.prog zaj 0 zeu (zy3 a0 o) (zz 0 [.str a0]) [] 0 := by
 unfold u6 at h
 refine zd ?_
 refine ze ?_
 refine zd ?_
 refine ze ?_
 refine u5 ?_
 cases h
 exact AI TT (AI rfl (VS rfl))
theorem zk1 {a0 : List UInt8} {m : Option Nat} {o : Bool} (h : u6 m a0 = some o) : PFn Tryz.prog 104 [.str a0] (.bool o) := PFn.ofFnW (L := zsc) zpw zqb (NB rfl) rfl (zei h)
def zra : LCode := (.seq (.region [⟨some 4, .mv (.c (.bool false)), none⟩])
 (.seq (.region [⟨some 5, .mv (.t 0), none⟩,
  ⟨some 6, .call 104 [(.t 5)], none⟩,
  ⟨some 7, .mv (.t 6), none⟩,
  ⟨some 8, .mv (.t 1), some (7, true)⟩,
  ⟨some 9, .call 104 [(.t 8)], some (7, true)⟩,
  ⟨some 10, .un .not (.t 9), some (7, true)⟩,
  ⟨some 11, .pick (.t 7) (.t 10) (.c (.bool false)), none⟩,
  ⟨some 12, .mv (.t 11), none⟩,
  ⟨some 13, .mv (.t 0), some (12, false)⟩,
  ⟨some 14, .mv (.t 1), some (12, false)⟩,
  ⟨some 15, .bin .lss (.t 13) (.t 14), some (12, false)⟩,
  ⟨some 16, .pick (.t 12) (.c (.bool true)) (.t 15), none⟩,
  ⟨some 4, .mv (.t 16), none⟩])
 .ret))
def zmf : Lay := ⟨17, [], false⟩
def zhp : List LRes := [.t 4]
def zy0 : LFn := ⟨2, zmf, zra, zhp⟩
theorem zt0 : ww Tryz.prog [] 78 = some zy0 := by kernel_rfl
theorem zu1 : Z9 Tryz.prog 78 := ⟨_, Tryz.func78, rfl, rfl⟩
noncomputable def Y7 (m : Option Nat) (a0 : List UInt8) (a1 : List UInt8) : Option Bool :=
 (u6 m a0).bind fun v1 =>
 (if (v1 == true) = true then u6 m a1 else some default).bind fun v2 =>
 some ((v1 && (!v2)) || (Op.bytesLess a0 a1))
def y25 (a0 : List UInt8) (a1 : List UInt8) (o : Bool) : Exit → Env → AHeap → Nat → Prop := Zy zhp (q6 (.bool o))
theorem zfc {a0 : List UInt8} {a1 : List UInt8} {m : Option Nat} {o : Bool} (h : Y7 m a0 a1 = some o) : LWp Tryz.prog zmf 0 zra (y25 a0 a1 o) (zz 0 [.str a0, .str a1]) [] 0 := by
 unfold Y7 at h
 refine zd ?_
 refine ze ?_
 refine zd ?_
 refine ze ?_
 obtain ⟨v1, h1, h⟩ := bind_some h
 refine PFn.call (zk1 h1) (AI (VS rfl) TT) ?_
 obtain ⟨v2, h2, h⟩ := bind_some h
 refine Or.inl (EX (.bool v2) (AI (fun hp => AI hp (PFn.call (zk1 (zk hp h2)) (AI (VS rfl) TT) (AI rfl (AI rfl rfl)))) ?_))
 refine AI (fun hp => hp) ?_
 refine AI (fun hc => (bqt hc)) ?_
 refine AI (fun hp => (AI hp hp)) ?_
 refine AI (fun hc => (bqf hc)) ?_
 refine LWp.sim (e := [(4, .bool ((v1 && (!v2)) || (Op.bytesLess a0 a1)))]) (L := []) (n := 0) ?_ ?_
 ·exact y6 (M := []) rfl (AI (VS rfl) TT) TT
 refine u5 ?_
 cases h
 exact AI TT (AI rfl (VS rfl))
theorem y2p {a0 : List UInt8} {a1 : List UInt8} {m : Option Nat} {o : Bool} (h : Y7 m a0 a1 = some o) : PFn Tryz.prog 78 [.str a0, .str a1] (.bool o) := PFn.ofFnW (L := zy0) zt0 zu1 (NB rfl) rfl (zfc h)
def jg (m : Option Nat) (a0 : List (List UInt8)) : Option (List (List UInt8)) := if a0.length < 4611686018427387904 then some (Jw a0) else none
theorem zim : Z9 Tryz.prog 26 := ⟨_, Tryz.func26, rfl, rfl⟩
theorem zan {m : Option Nat} {a0 : List (List UInt8)} {o : List (List UInt8)} (h : jg m a0 = some o) : ACalls Tryz.prog 26 [.msl (0, 0) 1 0 a0.length false] [((0, 0), .rows 1 (a0.map zb))] 3 (Qd 3 (.tup []) [((0, 0), .rows 1 (o.map zb))]) := by
 unfold jg at h
 split at h
 ·rename_i hc
  cases h
  exact z7i Tryz.l26 zim rfl a0 hc _
 ·cases h
def ko (m : Option Nat) (a0 : List (List UInt8)) : Option (List (List UInt8)) := if a0.length ≤ 9223372036854775807 then some (z16 a0) else none
theorem zga : Z9 Tryz.prog 61 := ⟨_, Tryz.func61, rfl, rfl⟩
theorem zq0 {m : Option Nat} {a0 : List (List UInt8)} {o : List (List UInt8)} (h : ko m a0 = some o) : ACalls Tryz.prog 61 [.msl (0, 0) 1 0 a0.length false] [((0, 0), .rows 1 (a0.map zb))] 3 (Qd 3 (.msl (0, 0) 1 0 (Go.Lib.compact a0).length false) [((0, 0), .rows 1 (o.map zb))]) := by
 unfold ko at h
 split at h
 ·rename_i hc
  cases h
  exact z14 Tryz.l61 zga rfl a0 hc _
 ·cases h
def zlj : LCode := (.seq (.seq (.region [⟨some 13, .mv (.t 4), none⟩,
 ⟨some 14, .mv (.t 0), none⟩,
 ⟨some 15, .len true (.t 14), none⟩,
 ⟨some 16, .bin .lss (.t 13) (.t 15), none⟩,
 ⟨some 17, .mv (.t 16), none⟩,
 ⟨some 18, .mv (.t 0), some (17, true)⟩,
 ⟨some 19, .mv (.t 4), some (17, true)⟩,
 ⟨some 20, .idxS (.t 18) (.t 19), some (17, true)⟩,
 ⟨some 21, .call 60 [(.t 20)], some (17, true)⟩,
 ⟨some 22, .pick (.t 17) (.t 21) (.c (.bool false)), none⟩])
 (.cond (.t 22)
  .skip
  (.exit 2)))
 (.block 3
  (.region [⟨some 23, .mv (.t 4), none⟩,
   ⟨some 24, .bin .add (.t 23) (.c (.int .i64 1)), none⟩,
   ⟨some 4, .mv (.t 24), none⟩])))
def zbc : LCode := (.seq (.region [⟨some 25, .mv (.t 4), none⟩,
 ⟨some 26, .mv (.t 5), none⟩,
 ⟨some 27, .bin .gtr (.t 25) (.t 26), none⟩])
 (.cond (.t 27)
  (.region [⟨some 28, .mv (.t 3), none⟩,
   ⟨some 29, .mv (.t 0), none⟩,
   ⟨some 30, .mv (.t 5), none⟩,
   ⟨some 31, .mv (.t 4), none⟩,
   ⟨some 32, .slStr (.t 29) (some (.t 30)) (some (.t 31)), none⟩,
   ⟨some 33, .mkSl true 1 [(.str [])] 1 [(0, (.t 32))], none⟩,
   ⟨some 34, .app false 1 16 (.t 28) (.t 33), none⟩,
   ⟨some 3, .mv (.t 34), none⟩])
  .skip))
def z7l : LCode := (.region [⟨some 10, .mv (.t 4), none⟩,
 ⟨some 11, .bin .add (.t 10) (.c (.int .i64 1)), none⟩,
 ⟨some 4, .mv (.t 11), none⟩])
def zm5 : LCode := (.seq (.seq (.region [⟨some 6, .mv (.t 4), none⟩,
 ⟨some 7, .mv (.t 0), none⟩,
 ⟨some 8, .len true (.t 7), none⟩,
 ⟨some 9, .bin .lss (.t 6) (.t 8), none⟩])
 (.cond (.t 9)
  .skip
  (.exit 0)))
 (.seq (.block 1
  (.seq (.region [⟨some 12, .mv (.t 4), none⟩,
   ⟨some 5, .mv (.t 12), none⟩])
  (.seq (.block 2
   (.loop
    zlj))
  zbc)))
 z7l))
def zbv : LCode := (.seq (.region [⟨some 35, .mv (.t 3), none⟩,
 ⟨some 36, .call 26 [(.t 35)], none⟩])
 (.seq (.region [⟨some 37, .mv (.t 3), none⟩,
  ⟨some 38, .call 61 [(.t 37)], none⟩,
  ⟨some 3, .mv (.t 38), none⟩])
 (.seq (.region [⟨some 39, .mv (.t 3), none⟩,
  ⟨some 40, .mv (.t 3), none⟩,
  ⟨some 41, .len false (.t 40), none⟩,
  ⟨some 42, .mnx false [(.t 41), (.c (.int .i64 400))], none⟩,
  ⟨some 43, .slSl 1 (.t 39) none (some (.t 42)) none, none⟩,
  ⟨some 2, .mv (.t 43), none⟩])
 .ret)))
def zr7 : LCode := (.seq (.region [⟨some 2, .mv (.c (.val (.slice none 0 0))), none⟩])
 (.seq (.region [⟨some 3, .mv (.c (.val (.slice none 0 0))), none⟩])
 (.seq (.seq (.region [⟨some 4, .mv (.c (.int .i64 0)), none⟩])
 (.block 0
  (.loop
   zm5)))
 zbv)))
def Zd : Lay := ⟨44, [34], false⟩
def zl1 : List LRes := [.t 2]
def zyp : LFn := ⟨1, Zd, zr7, zl1⟩
theorem zu0 : ww Tryz.prog [34] 47 = some zyp := by kernel_rfl
theorem zuk : Z9 Tryz.prog 47 := ⟨_, Tryz.func47, rfl, rfl⟩
def zps (a0 : List UInt8) (o : (List (List UInt8))) : Exit → Env → AHeap → Nat → Prop := Zy zl1 (q6 (.isl 1 (o.map zb) false))
def Yx (a0 : List UInt8) (s : (Int × (List (List UInt8)))) : Env := [(0, .str a0), (3, .msl (0, 0) 1 0 s.2.length false), (4, .int .i64 s.1)]
def Qx (a0 : List UInt8) (s : (Int × (List (List UInt8)))) : AHeap := [((0, 0), .rows 1 (s.2.map zb))]
def Js (a0 : List UInt8) (o : (List (List UInt8))) : Exit → Env → AHeap → Nat → Prop := (zm 0 (ug Tryz.prog Zd 0 zbv (zps a0 o)))
def z2c (a0 : List UInt8) (v6 : Int) (v7 : List (List UInt8)) (s : Int) : Env := [(0, .str a0), (3, .msl (0, 0) 1 0 v7.length false), (4, .int .i64 s), (5, .int .i64 v6)]
def z6w (a0 : List UInt8) (v6 : Int) (v7 : List (List UInt8)) (s : Int) : AHeap := [((0, 0), .rows 1 (v7.map zb))]
def za7 (a0 : List UInt8) (o : ((Int × (List (List UInt8))) ⊕ (List (List UInt8)))) : Exit → Env → AHeap → Nat → Prop := (zm 2 (ug Tryz.prog Zd 0 zbc (zm 1 (ug Tryz.prog Zd 0 z7l (xt 0 1 (Yx a0) (Qx a0) (Js a0) o)))))
noncomputable def ki (m : Option Nat) (a0 : List UInt8) (v14 : Int) (v17 : List (List UInt8)) : Option ((Int × (List (List UInt8))) ⊕ (List (List UInt8))) :=
 some (.inl ((W (v14 + 1)), v17))
noncomputable def kh (m : Option Nat) (a0 : List UInt8) (v6 : Int) (v7 : List (List UInt8)) (v14 : Int) : Option ((Int × (List (List UInt8))) ⊕ (List (List UInt8))) :=
 if (decide (v14 > v6)) = true then
  if (0 : Int) ≤ v6 ∧ v6 ≤ v14 ∧ v14 ≤ (a0.length : Int) then
  if ((v7 ++ ([((a0.take v14.toNat).drop v6.toNat)] : List (List UInt8))).map zb).length * 16 ≤ 140737488355328 then
  ki m a0 v14 (v7 ++ ([((a0.take v14.toNat).drop v6.toNat)] : List (List UInt8)))
  else none
  else none
 else
  ki m a0 v14 v7
noncomputable def jk (m : Option Nat) (a0 : List UInt8) (v6 : Int) (v7 : List (List UInt8)) (v14 : Int) : Option (Int ⊕ ((Int × (List (List UInt8))) ⊕ (List (List UInt8)))) :=
 if (((decide (v14 < (a0.length : Int))) == true) = true → (0 : Int) ≤ v14 ∧ v14 < (a0.length : Int)) then
 (if ((decide (v14 < (a0.length : Int))) == true) = true then jt m (((a0.getD v14.toNat 0).toNat : Nat) : Int) else some default).bind fun v16 =>
 if ((decide (v14 < (a0.length : Int))) && v16) = true then
  some (.inl (W (v14 + 1)))
 else
  Option.map Sum.inr (
   kh m a0 v6 v7 v14)
 else none
noncomputable def wv (m : Option Nat) (a0 : List UInt8) (v6 : Int) (v7 : List (List UInt8)) (v14 : Int) : Option ((Int × (List (List UInt8))) ⊕ (List (List UInt8))) := u4 m (fun (s : Int) => jk m a0 v6 v7 s) v14
theorem z5q {a0 : List UInt8} {v14 : Int} {v17 : List (List UInt8)} {m : Option Nat} {o : ((Int × (List (List UInt8))) ⊕ (List (List UInt8)))} (h : ki m a0 v14 v17 = some o) :
 LWp Tryz.prog Zd 0 z7l (xt 0 1 (Yx a0) (Qx a0) (Js a0) o) [(0, .str a0), (3, .msl (0, 0) 1 0 v17.length false), (4, .int .i64 v14)] [((0, 0), .rows 1 (v17.map zb))] 1 := by
 unfold ki at h
 refine ze ?_
 cases h
 exact AI rfl (y6 (M := [((0, 0), (0, 0))]) rfl (AI (VS rfl) (AI (Vw.mslE rfl (by first | rfl | omega | (simp; done) | (simp at *; omega)) rfl) (AI (VS rfl) TT))) (AI (AI rfl (BVw.enc zb (fun _ => rfl) _ v17)) TT))
theorem zha {a0 : List UInt8} {v6 : Int} {v7 : List (List UInt8)} {v14 : Int} {m : Option Nat} {o : ((Int × (List (List UInt8))) ⊕ (List (List UInt8)))} (h : kh m a0 v6 v7 v14 = some o) :
 LWp Tryz.prog Zd 0 zbc (zm 1 (ug Tryz.prog Zd 0 z7l (xt 0 1 (Yx a0) (Qx a0) (Js a0) o))) [(0, .str a0), (3, .msl (0, 0) 1 0 v7.length false), (4, .int .i64 v14), (5, .int .i64 v6)] [((0, 0), .rows 1 (v7.map zb))] 1 := by
 unfold kh at h
 refine zd ?_
 refine ze ?_
 refine qj (v := (decide (v14 > v6))) rfl TT (fun h37 => ?_) (fun h37 => ?_)
 ·have h := zk h37 h
  refine ze ?_
  obtain ⟨h38, h⟩ := zc h
  refine AI h38 ?_
  obtain ⟨h39, h⟩ := zc h
  refine AI (fun h => Bool.noConfusion h) (AI (zwr zb (by first | rfl | omega | (simp; done) | (simp at *; omega))) (EX ((v7 ++ ([((a0.take v14.toNat).drop v6.toNat)] : List (List UInt8))).map zb) (AI (zx8 zb v7 ([((a0.take v14.toNat).drop v6.toNat)] : List (List UInt8)) (by first | rfl | omega | (simp; done) | (simp at *; omega))) (AI h39 ?_))))
  refine LWp.sim ?_ (z5q h)
  exact y6 (M := [((0, 0), (1, 0))]) rfl (AI (VS rfl) (AI (Vw.mslE rfl (by first | rfl | omega | (simp; done) | (simp at *; omega)) rfl) (AI (VS rfl) TT))) (AI (AI rfl (BVw.enc zb (fun _ => rfl) _ (v7 ++ ([((a0.take v14.toNat).drop v6.toNat)] : List (List UInt8))))) TT)
 ·have h := zw h37 h
  refine qv ?_
  refine LWp.sim ?_ (z5q h)
  exact y6 (M := [((0, 0), (0, 0))]) rfl (AI (VS rfl) (AI (Vw.mslE rfl (by first | rfl | omega | (simp; done) | (simp at *; omega)) rfl) (AI (VS rfl) TT))) (AI (AI rfl (BVw.enc zb (fun _ => rfl) _ v7)) TT)
theorem ze6 {a0 : List UInt8} {v6 : Int} {v7 : List (List UInt8)} {v14 : Int} {m : Option Nat} {o : Int ⊕ ((Int × (List (List UInt8))) ⊕ (List (List UInt8)))} (h : jk m a0 v6 v7 v14 = some o) :
 LWp Tryz.prog Zd 0 zlj (xt 0 1 (z2c a0 v6 v7) (z6w a0 v6 v7) (za7 a0) o) [(0, .str a0), (3, .msl (0, 0) 1 0 v7.length false), (4, .int .i64 v14), (5, .int .i64 v6)] [((0, 0), .rows 1 (v7.map zb))] 1 := by
 unfold jk at h
 refine zd ?_
 refine zd ?_
 refine ze ?_
 obtain ⟨h34, h⟩ := zc h
 refine AI (fun hp => (AI (AI hp hp) (h34 hp))) ?_
 obtain ⟨v16, h35, h⟩ := bind_some h
 refine Or.inl (EX (.bool v16) (AI (fun hp => AI hp (PFn.call (zrf (zk hp h35)) (AI (VS rfl) TT) (AI rfl (AI rfl rfl)))) ?_))
 refine AI (fun hc => (bqt hc)) ?_
 refine LWp.sim (e := [(0, .str a0), (3, .msl (0, 0) 1 0 v7.length false), (4, .int .i64 v14), (5, .int .i64 v6), (22, .bool ((decide (v14 < (a0.length : Int))) && v16))]) (L := [((0, 0), .rows 1 (v7.map zb))]) (n := 1) ?_ ?_
 ·exact y6 (M := [((0, 0), (0, 0))]) rfl (AI (VS rfl) (AI (Vw.mslE rfl (by first | rfl | omega | (simp; done) | (simp at *; omega)) rfl) (S2 rfl rfl (AI (VS rfl) TT)))) (AI (AI rfl (BVw.enc zb (fun _ => rfl) _ v7)) TT)
 refine qj (v := ((decide (v14 < (a0.length : Int))) && v16)) rfl TT (fun h36 => ?_) (fun h36 => ?_)
 ·have h := zk h36 h
  refine qv ?_
  refine yf ?_
  refine ze ?_
  cases h
  exact AI rfl (y6 (M := [((0, 0), (0, 0))]) rfl (AI (VS rfl) (AI (Vw.mslE rfl (by first | rfl | omega | (simp; done) | (simp at *; omega)) rfl) (S2 rfl rfl TT))) (AI (AI rfl (BVw.enc zb (fun _ => rfl) _ v7)) TT))
 ·have h := zw h36 h
  refine Z2 ?_
  obtain ⟨o, hq, rfl⟩ := Option.map_eq_some_iff.1 h
  replace h := hq; clear hq
  refine AI nofun ?_
  refine LWp.sim ?_ (zha h)
  exact y6 (M := [((0, 0), (0, 0))]) rfl (AI (VS rfl) (AI (Vw.mslE rfl (by first | rfl | omega | (simp; done) | (simp at *; omega)) rfl) (S2 rfl rfl TT))) (AI (AI rfl (BVw.enc zb (fun _ => rfl) _ v7)) TT)
theorem zfz {a0 : List UInt8} {v6 : Int} {v7 : List (List UInt8)} {v14 : Int} {m : Option Nat} {o : ((Int × (List (List UInt8))) ⊕ (List (List UInt8)))} (h : wv m a0 v6 v7 v14 = some o) :
 LWp Tryz.prog Zd 0 (.loop zlj) (zm 2 (ug Tryz.prog Zd 0 zbc (zm 1 (ug Tryz.prog Zd 0 z7l (xt 0 1 (Yx a0) (Qx a0) (Js a0) o))))) [(0, .str a0), (3, .msl (0, 0) 1 0 v7.length false), (4, .int .i64 v14), (5, .int .i64 v6)] [((0, 0), .rows 1 (v7.map zb))] 1 :=
 yi (m := m) (s := (v14 : Int)) (r := o) (fun (s : Int) => jk m a0 v6 v7 s) (z2c a0 v6 v7) (z6w a0 v6 v7) (za7 a0) (fun s o h => ze6 h) h
noncomputable def kg (m : Option Nat) (v7 : List (List UInt8)) : Option (List (List UInt8)) :=
 (jg m v7).bind fun v18 =>
 if v18.length = v7.length then
 (ko m v18).bind fun v19 =>
 if v19.length = v18.length then
 if (0 : Int) ≤ (if 400 < (((Go.Lib.compact v18).length : Nat) : Int) then 400 else (((Go.Lib.compact v18).length : Nat) : Int)) ∧ (if 400 < (((Go.Lib.compact v18).length : Nat) : Int) then 400 else (((Go.Lib.compact v18).length : Nat) : Int)) ≤ (((Go.Lib.compact v18).length : Nat) : Int) then
 if 0 + ((if 400 < (((Go.Lib.compact v18).length : Nat) : Int) then 400 else (((Go.Lib.compact v18).length : Nat) : Int)).toNat) ≤ v19.length then
 some ((v19.drop 0).take ((if 400 < (((Go.Lib.compact v18).length : Nat) : Int) then 400 else (((Go.Lib.compact v18).length : Nat) : Int)).toNat))
 else none
 else none
 else none
 else none
noncomputable def wu (m : Option Nat) (a0 : List UInt8) (v6 : Int) (v7 : List (List UInt8)) : Option ((Int × (List (List UInt8))) ⊕ (List (List UInt8))) :=
 if (decide (v6 < (a0.length : Int))) = true then
  wv m a0 v6 v7 v6
 else
  Option.map Sum.inr (
   kg m v7)
noncomputable def kl (m : Option Nat) (a0 : List UInt8) (v6 : Int) (v7 : List (List UInt8)) : Option (List (List UInt8)) := u4 m (fun (s : (Int × (List (List UInt8)))) => wu m a0 s.1 s.2) (v6, v7)
theorem zgh {a0 : List UInt8} {v7 : List (List UInt8)} {m : Option Nat} {o : (List (List UInt8))} (h : kg m v7 = some o) :
 LWp Tryz.prog Zd 0 zbv (zps a0 o) [(3, .msl (0, 0) 1 0 v7.length false)] [((0, 0), .rows 1 (v7.map zb))] 1 := by
 unfold kg at h
 refine zd ?_
 refine ze ?_
 obtain ⟨v18, h40, h⟩ := bind_some h
 refine z0z (k := 3) (m := 0) (L' := [((0, 0), .rows 1 (v18.map zb))]) (rest := []) (R' := .tup []) [((0, 0), (0, 0))] (zan h40) rfl rfl rfl (AI (Vw.mslE rfl (by first | rfl | omega | (simp; done) | (simp at *; omega)) rfl) TT) (AI (h0I (0, 0) rfl rfl (BVw.enc zb (fun _ => rfl) _ v7)) TT) (Y2 _ rfl) (AI rfl (AI (Ju zb (fun _ => rfl) _ _) TT)) rfl ?_
 obtain ⟨h41, h⟩ := zc h
 refine zd ?_
 refine ze ?_
 obtain ⟨v19, h42, h⟩ := bind_some h
 refine z0z (k := 3) (m := 0) (L' := [((0, 0), .rows 1 (v19.map zb))]) (rest := []) (R' := .msl (0, 0) 1 0 ((Go.Lib.compact v18).length) false) [((0, 0), (0, 0))] (zq0 h42) rfl rfl rfl (AI (Vw.mslE rfl (by first | rfl | omega | (simp; done) | (simp at *; omega)) rfl) TT) (AI (h0I (0, 0) rfl rfl (BVw.enc zb (fun _ => rfl) _ v18)) TT) rfl (AI rfl (AI (Ju zb (fun _ => rfl) _ _) TT)) rfl ?_
 obtain ⟨h43, h⟩ := zc h
 refine zd ?_
 refine ze ?_
 obtain ⟨h44, h⟩ := zc h
 refine EX (.msl (0, 0) 1 0 ((if 400 < (((Go.Lib.compact v18).length : Nat) : Int) then 400 else (((Go.Lib.compact v18).length : Nat) : Int)).toNat) false) (AI (by simp) (AI (AI rfl (AI (Int.le_refl _) h44)) ?_))
 refine LWp.sim (e := [(2, .msl (0, 0) 1 0 ((if 400 < (((Go.Lib.compact v18).length : Nat) : Int) then 400 else (((Go.Lib.compact v18).length : Nat) : Int)).toNat) false)]) (L := [((0, 0), .rows 1 (v19.map zb))]) (n := 1) ?_ ?_
 ·exact y6 (M := [((0, 0), (0, 0))]) rfl (AI (Vw.msl _ _ _ _ _ _ rfl) TT) (AI (AI rfl (BVw.enc zb (fun _ => rfl) _ v19)) TT)
 refine u5 ?_
 obtain ⟨h45, h⟩ := zc h
 cases h
 exact AI TT (AI rfl (Vw.frzPart zb z3n (fun h => h) rfl rfl h45))
theorem zef {a0 : List UInt8} {v6 : Int} {v7 : List (List UInt8)} {m : Option Nat} {o : (Int × (List (List UInt8))) ⊕ (List (List UInt8))} (h : wu m a0 v6 v7 = some o) :
 LWp Tryz.prog Zd 0 zm5 (xt 0 1 (Yx a0) (Qx a0) (Js a0) o) [(0, .str a0), (3, .msl (0, 0) 1 0 v7.length false), (4, .int .i64 v6)] [((0, 0), .rows 1 (v7.map zb))] 1 := by
 unfold wu at h
 refine zd ?_
 refine zd ?_
 refine ze ?_
 refine qj (v := (decide (v6 < (a0.length : Int)))) rfl TT (fun h27 => ?_) (fun h27 => ?_)
 ·have h := zk h27 h
  refine qv ?_
  refine zd ?_
  refine yf ?_
  refine zd ?_
  refine ze ?_
  refine zd ?_
  refine yf ?_
  refine LWp.sim ?_ (zfz h)
  exact y6 (M := [((0, 0), (0, 0))]) rfl (AI (VS rfl) (AI (Vw.mslE rfl (by first | rfl | omega | (simp; done) | (simp at *; omega)) rfl) (S2 rfl rfl TT))) (AI (AI rfl (BVw.enc zb (fun _ => rfl) _ v7)) TT)
 ·have h := zw h27 h
  refine Z2 ?_
  obtain ⟨o, hq, rfl⟩ := Option.map_eq_some_iff.1 h
  replace h := hq; clear hq
  refine AI nofun ?_
  refine LWp.sim ?_ (zgh h)
  exact y6 (M := [((0, 0), (0, 0))]) rfl (AI (Vw.mslE rfl (by first | rfl | omega | (simp; done) | (simp at *; omega)) rfl) TT) (AI (AI rfl (BVw.enc zb (fun _ => rfl) _ v7)) TT)
theorem zl3 {a0 : List UInt8} {v6 : Int} {v7 : List (List UInt8)} {m : Option Nat} {o : (List (List UInt8))} (h : kl m a0 v6 v7 = some o) :
 LWp Tryz.prog Zd 0 (.loop zm5) (zm 0 (ug Tryz.prog Zd 0 zbv (zps a0 o))) [(0, .str a0), (3, .msl (0, 0) 1 0 v7.length false), (4, .int .i64 v6)] [((0, 0), .rows 1 (v7.map zb))] 1 :=
 yi (m := m) (s := ((v6, v7) : (Int × (List (List UInt8))))) (r := o) (fun (s : (Int × (List (List UInt8)))) => wu m a0 s.1 s.2) (Yx a0) (Qx a0) (Js a0) (fun s o h => zef h) h
noncomputable def kr (m : Option Nat) (a0 : List UInt8) : Option (List (List UInt8)) :=
 kl m a0 0 ([] : List (List UInt8))
theorem zhs {a0 : List UInt8} {m : Option Nat} {o : (List (List UInt8))} (h : kr m a0 = some o) : LWp Tryz.prog Zd 0 zr7 (zps a0 o) (zz 0 [.str a0]) [] 0 := by
 unfold kr at h
 refine zd ?_
 refine ze ?_
 refine zd ?_
 refine LWp.ghost 1 ?_
 refine ze ?_
 refine LWp.sim (e := [(0, .str a0), (3, .msl (0, 0) 1 0 (([] : List (List UInt8)).length) false)]) (L := [((0, 0), .rows 1 (([] : List (List UInt8)).map zb))]) (n := 1) ?_ ?_
 ·exact y6 (M := [((0, 0), (0, 0))]) rfl (AI (VS rfl) (AI (Vw.nilM _ _ _ _ _ _ rfl rfl) TT)) (AI (AI rfl (BVw.enc zb (fun _ => rfl) _ ([] : List (List UInt8)))) TT)
 refine zd ?_
 refine zd ?_
 refine ze ?_
 refine yf ?_
 refine LWp.sim ?_ (zl3 h)
 exact y6 (M := [((0, 0), (0, 0))]) rfl (AI (VS rfl) (AI (Vw.mslE rfl (by first | rfl | omega | (simp; done) | (simp at *; omega)) rfl) (AI (VS rfl) TT))) (AI (AI rfl (BVw.enc zb (fun _ => rfl) _ ([] : List (List UInt8)))) TT)
theorem zy8 {a0 : List UInt8} {m : Option Nat} {o : (List (List UInt8))} (h : kr m a0 = some o) : PFn Tryz.prog 47 [.str a0] (.isl 1 (o.map zb) false) := PFn.ofFnW (L := zyp) zu0 zuk (NB rfl) rfl (zhs h)
def zrq : LCode := (.seq (.region [⟨some 1, .box (.t 0), none⟩,
 ⟨some 2, .alloc [(.str []), (.int .u32 0), (.isl 1 [] true)], none⟩])
 (.seq (.draw [⟨⟨some 3, .faddr 0 (.t 1), none⟩, []⟩,
  ⟨⟨some 4, .load false 1 (.t 3), none⟩, []⟩,
  ⟨⟨some 5, .faddr 2 (.t 1), none⟩, []⟩,
  ⟨⟨some 6, .load false 1 (.t 5), none⟩, []⟩,
  ⟨⟨some 8, .faddr 2 (.t 1), none⟩, []⟩,
  ⟨⟨some 9, .load false 1 (.t 8), none⟩, []⟩,
  ⟨⟨some 7, .call 42 [(.t 6)], none⟩, [1, 5]⟩,
  ⟨⟨some 10, .call 47 [(.t 9)], none⟩, [1]⟩,
  ⟨⟨some 11, .build [(.str []), (.int .u32 0), (.isl 1 [] true)] [(0, 1, (.t 4)), (1, 1, (.t 7)), (2, 1, (.t 10))], none⟩, []⟩,
  ⟨⟨none, .store 3 (.t 2) (.t 11), none⟩, []⟩])
 .ret))
def zet : Lay := ⟨12, [], false⟩
def zjo : List LRes := [.cell 2 true 3]
def zxn : LFn := ⟨1, zet, zrq, zjo⟩
theorem zva : ww Tryz.prog [] 23 = some zxn := by kernel_rfl
theorem zsz : Z9 Tryz.prog 23 := ⟨_, Tryz.func23, rfl, rfl⟩
noncomputable def jj (m : Option Nat) (a0 : G_QDocument) : Option G_QIndexEntry :=
 (j0 m a0.f_Text).bind fun v1 =>
 (kr m a0.f_Text).bind fun v2 =>
 some (G_QIndexEntry.mk a0.f_Name v1 v2)
def y22 (a0 : G_QDocument) (o : G_QIndexEntry) : Exit → Env → AHeap → Nat → Prop := Zy zjo (q6 (.agg [.str o.f_Name, .int .u32 o.f_Sum, .isl 1 (o.f_Words.map zb) false]))
theorem zm4 {a0 : G_QDocument} {m : Option Nat} {o : G_QIndexEntry} (h : jj m a0 = some o) : LWp Tryz.prog zet 0 zrq (y22 a0 o) (zz 0 [.agg [.str a0.f_Name, .int .i64 a0.f_Version, .str a0.f_Text]]) [] 0 := by
 unfold jj at h
 refine zd ?_
 refine ze ?_
 refine zd ?_
 refine z86 ?_
 obtain ⟨v1, h1, h⟩ := bind_some h
 refine PFn.call (zf9 h1) (AI (VS rfl) TT) ?_
 refine AI rfl ?_
 refine AI rfl ?_
 obtain ⟨v2, h2, h⟩ := bind_some h
 refine PFn.call (zy8 h2) (AI (VS rfl) TT) ?_
 refine AI rfl ?_
 refine LWp.sim (e := [(2, .ptr (0, 0) 0 0)]) (L := [((0, 0), .one [.str a0.f_Name, .int .u32 v1, .isl 1 (v2.map zb) false])]) (n := 1) ?_ ?_
 ·exact y6 (M := [((0, 0), (1, 0))]) rfl (AI (Vw.ptr _ _ _ _ rfl) TT) (AI (AI rfl (BVw.oneL (S2 rfl rfl (AI (VS rfl) TT)))) TT)
 refine u5 ?_
 cases h
 exact AI (AI TT (AI rfl (NB rfl))) (AI rfl (VS rfl))
theorem zsp {a0 : G_QDocument} {m : Option Nat} {o : G_QIndexEntry} (h : jj m a0 = some o) : PFn Tryz.prog 23 [.agg [.str a0.f_Name, .int .i64 a0.f_Version, .str a0.f_Text]] (.agg [.str o.f_Name, .int .u32 o.f_Sum, .isl 1 (o.f_Words.map zb) false]) := PFn.ofFnW (L := zxn) zva zsz (NB rfl) rfl (zm4 h)
def Y9 (m : Option Nat) (a0 : List UInt8) (a1 : List UInt8) : Option (Int) := some (Go.Lib.compareBytes a0 a1)
theorem zve : Z9 Tryz.prog 41 := ⟨_, Tryz.func41, rfl, rfl⟩
theorem zsx {m : Option Nat} {a0 : List UInt8} {a1 : List UInt8} {o : Int} (h : Y9 m a0 a1 = some o) : PFn Tryz.prog 41 [.str a0, .str a1] (.int .i64 o) := by
 cases h
 exact PFn.lib zve rfl rfl (fun w => Calls.mono (Any.strings_Compare Tryz.l41 ⟨⟨a0⟩⟩ ⟨⟨a1⟩⟩ w) (fun _ _ h => ⟨h.1, znf h.2⟩))
def zr8 : LCode := (.seq (.region [⟨some 2, .box (.t 0), none⟩,
 ⟨some 3, .box (.t 1), none⟩,
 ⟨some 4, .mv (.c (.int .i64 0)), none⟩])
 (.seq (.region [⟨some 5, .faddr 0 (.t 2), none⟩,
  ⟨some 6, .load false 1 (.t 5), none⟩,
  ⟨some 7, .faddr 0 (.t 3), none⟩,
  ⟨some 8, .load false 1 (.t 7), none⟩,
  ⟨some 9, .call 41 [(.t 6), (.t 8)], none⟩,
  ⟨some 4, .mv (.t 9), none⟩])
 .ret))
def zjr : Lay := ⟨10, [], false⟩
def zk8 : List LRes := [.t 4]
def y0g : LFn := ⟨2, zjr, zr8, zk8⟩
theorem zty : ww Tryz.prog [] 25 = some y0g := by kernel_rfl
theorem zvc : Z9 Tryz.prog 25 := ⟨_, Tryz.func25, rfl, rfl⟩
noncomputable def wk (m : Option Nat) (a0 : G_QIndexEntry) (a1 : G_QIndexEntry) : Option Int :=
 (Y9 m a0.f_Name a1.f_Name).bind fun v1 =>
 some v1
def y2g (a0 : G_QIndexEntry) (a1 : G_QIndexEntry) (o : Int) : Exit → Env → AHeap → Nat → Prop := Zy zk8 (q6 (.int .i64 o))
theorem zf0 {a0 : G_QIndexEntry} {a1 : G_QIndexEntry} {m : Option Nat} {o : Int} (h : wk m a0 a1 = some o) : LWp Tryz.prog zjr 0 zr8 (y2g a0 a1 o) (zz 0 [.agg [.str a0.f_Name, .int .u32 a0.f_Sum, .isl 1 (a0.f_Words.map zb) false], .agg [.str a1.f_Name, .int .u32 a1.f_Sum, .isl 1 (a1.f_Words.map zb) false]]) [] 0 := by
 unfold wk at h
 refine zd ?_
 refine ze ?_
 refine zd ?_
 refine ze ?_
 obtain ⟨v1, h1, h⟩ := bind_some h
 refine PFn.call (zsx h1) (S2 rfl rfl TT) ?_
 refine LWp.sim (e := [(4, .int .i64 v1)]) (L := []) (n := 0) ?_ ?_
 ·exact y6 (M := []) rfl (AI (VS rfl) TT) TT
 refine u5 ?_
 cases h
 exact AI TT (AI rfl (VS rfl))
theorem y06 {a0 : G_QIndexEntry} {a1 : G_QIndexEntry} {m : Option Nat} {o : Int} (h : wk m a0 a1 = some o) : PFn Tryz.prog 25 [.agg [.str a0.f_Name, .int .u32 a0.f_Sum, .isl 1 (a0.f_Words.map zb) false], .agg [.str a1.f_Name, .int .u32 a1.f_Sum, .isl 1 (a1.f_Words.map zb) false]] (.int .i64 o) := PFn.ofFnW (L := y0g) zty zvc (NB rfl) rfl (zf0 h)
noncomputable def zx5 (x y : G_QIndexEntry) : Int := (wk (some 4096) x y).getD 0
theorem zwc (x y : G_QIndexEntry) : wk (some 4096) x y = some (zx5 x y) := rfl
noncomputable def yl (m : Option Nat) (a0 : List G_QIndexEntry) : Option (List G_QIndexEntry) := z5u zx5 a0
theorem zir : Z9 Tryz.prog 24 := ⟨_, Tryz.func24, rfl, rfl⟩
theorem zcs {m : Option Nat} {a0 : List G_QIndexEntry} {o : List G_QIndexEntry} (h : yl m a0 = some o) : ACalls Tryz.prog 24 [.msl (0, 0) 3 0 a0.length false, .fn (.func 25) [] []] [((0, 0), .rows 3 (a0.map z7))] 3 (Qd 3 (.tup []) [((0, 0), .rows 3 (o.map z7))]) := by
 unfold yl at h
 exact Kt Tryz.l24 (by decide) Tryz.isAgg37 Tryz.sizeOf37 z7 (fun _ => ⟨rfl, rfl⟩) zx5 25 (Go.Proofs.enters_of Tryz.func25 (by kernel_rfl) rfl) (fun x y => y06 (zwc x y)) zir rfl h _
def zip : LCode := (.seq (.region [⟨some 16, .bin .lss (.t 15) (.t 14), none⟩])
 (.seq (.cond (.t 16)
  .skip
  (.exit 0))
 (.seq (.block 1
  (.seq (.region [⟨some 17, .iaddr 3 (.t 13) (.t 15), none⟩,
   ⟨some 18, .load true 3 (.t 17), none⟩,
   ⟨some 7, .alloc [(.str []), (.int .i64 0), (.str [])], none⟩,
   ⟨none, .store 3 (.t 7) (.t 18), none⟩])
  (.region [⟨some 19, .mv (.t 5), none⟩,
   ⟨some 20, .load true 3 (.t 7), none⟩,
   ⟨some 21, .call 23 [(.t 20)], none⟩,
   ⟨some 22, .mkSl true 3 [(.str []), (.int .u32 0), (.isl 1 [] true)] 1 [(0, (.t 21))], none⟩,
   ⟨some 23, .app false 3 48 (.t 19) (.t 22), none⟩,
   ⟨some 5, .mv (.t 23), none⟩])))
 (.region [⟨some 24, .bin .add (.t 15) (.c (.int .i64 1)), none⟩,
  ⟨some 15, .mv (.t 24), none⟩]))))
def za5 : LCode := (.seq (.region [⟨some 25, .mv (.t 5), none⟩,
 ⟨some 26, .call 24 [(.t 25), (.c (.fn (.func 25) [] []))], none⟩])
 (.seq (.region [⟨some 27, .mv (.t 5), none⟩,
  ⟨some 2, .mv (.t 27), none⟩,
  ⟨some 3, .mv (.c (.int .i64 0)), none⟩])
 .ret))
def zr1 : LCode := (.seq (.region [⟨some 2, .mv (.c (.val (.slice none 0 0))), none⟩,
 ⟨some 3, .mv (.c (.int .i64 0)), none⟩])
 (.seq (.seq (.region [⟨some 8, .mv (.t 0), none⟩,
  ⟨some 9, .call 17 [(.t 8)], none⟩,
  ⟨some 4, .mv (.t 9), none⟩])
 (.seq (.region [⟨some 10, .mv (.t 4), none⟩,
  ⟨some 11, .bin .neq (.t 10) (.c (.int .i64 0)), none⟩])
 (.cond (.t 11)
  (.seq (.region [⟨some 12, .mv (.t 4), none⟩,
   ⟨some 2, .mv (.c (.val (.slice none 0 0))), none⟩,
   ⟨some 3, .mv (.t 12), none⟩])
  .ret)
  .skip)))
 (.seq (.region [⟨some 5, .mv (.c (.val (.slice none 0 0))), none⟩])
 (.seq (.seq (.region [⟨some 13, .mv (.t 0), none⟩,
  ⟨some 14, .len false (.t 13), none⟩,
  ⟨some 15, .mv (.c (.int .i64 0)), none⟩])
 (.block 0
  (.loop
   zip)))
 za5))))
def Wj : Lay := ⟨28, [23], false⟩
def zmw : List LRes := [.t 2, .t 3]
def y07 : LFn := ⟨1, Wj, zr1, zmw⟩
theorem ztj : ww Tryz.prog [23] 15 = some y07 := by kernel_rfl
theorem zvl : Z9 Tryz.prog 15 := ⟨_, Tryz.func15, rfl, rfl⟩
def zo2 (a0 : List G_QDocument) (o : (List G_QIndexEntry) × Int) : Exit → Env → AHeap → Nat → Prop := Zy zmw (q6 (.tup [.isl 3 (o.1.map z7) false, .int .i64 o.2]))
def z1a (a0 : List G_QDocument) (s : (Int × (List G_QIndexEntry))) : Env := [(5, .msl (0, 0) 3 0 s.2.length false), (13, .isl 3 (a0.map z8) false), (14, .int .i64 ((a0.map z8).length : Int)), (15, .int .i64 s.1)]
def z6b (a0 : List G_QDocument) (s : (Int × (List G_QIndexEntry))) : AHeap := [((0, 0), .rows 3 (s.2.map z7))]
def zc8 (a0 : List G_QDocument) (o : ((List G_QIndexEntry) × Int)) : Exit → Env → AHeap → Nat → Prop := (zm 0 (ug Tryz.prog Wj 0 za5 (zo2 a0 o)))
noncomputable def kf (m : Option Nat) (v4 : List G_QIndexEntry) : Option ((List G_QIndexEntry) × Int) :=
 (yl m v4).bind fun v7 =>
 if v7.length = v4.length then
 some (v7, 0)
 else none
noncomputable def wt (m : Option Nat) (a0 : List G_QDocument) (v3 : Int) (v4 : List G_QIndexEntry) : Option ((Int × (List G_QIndexEntry)) ⊕ ((List G_QIndexEntry) × Int)) :=
 if (decide (v3 < ((a0.map z8).length : Int))) = true then
  if (0 : Int) ≤ v3 ∧ v3 < ((a0.map z8).length : Int) then
  (jj m (G_QDocument.mk ((a0.getD v3.toNat default).f_Name) ((a0.getD v3.toNat default).f_Version) ((a0.getD v3.toNat default).f_Text))).bind fun v6 =>
  if ((v4 ++ ([v6] : List G_QIndexEntry)).map z7).length * 48 ≤ 140737488355328 then
  some (.inl ((W (v3 + 1)), (v4 ++ ([v6] : List G_QIndexEntry))))
  else none
  else none
 else
  Option.map Sum.inr (
   kf m v4)
noncomputable def kj (m : Option Nat) (a0 : List G_QDocument) (v3 : Int) (v4 : List G_QIndexEntry) : Option ((List G_QIndexEntry) × Int) := u4 m (fun (s : (Int × (List G_QIndexEntry))) => wt m a0 s.1 s.2) (v3, v4)
theorem zmn {a0 : List G_QDocument} {v4 : List G_QIndexEntry} {m : Option Nat} {o : ((List G_QIndexEntry) × Int)} (h : kf m v4 = some o) :
 LWp Tryz.prog Wj 0 za5 (zo2 a0 o) [(5, .msl (0, 0) 3 0 v4.length false)] [((0, 0), .rows 3 (v4.map z7))] 1 := by
 unfold kf at h
 refine zd ?_
 refine ze ?_
 obtain ⟨v7, h15, h⟩ := bind_some h
 refine z0z (k := 3) (m := 0) (L' := [((0, 0), .rows 3 (v7.map z7))]) (rest := []) (R' := .tup []) [((0, 0), (0, 0))] (zcs h15) rfl rfl rfl (AI (Vw.mslE rfl (by first | rfl | omega | (simp; done) | (simp at *; omega)) rfl) (AI (VS rfl) TT)) (AI (h0I (0, 0) rfl rfl (BVw.enc z7 (fun _ => rfl) _ v4)) TT) (Y2 _ rfl) (AI rfl (AI (Ju z7 (fun _ => rfl) _ _) TT)) rfl ?_
 obtain ⟨h16, h⟩ := zc h
 refine zd ?_
 refine ze ?_
 refine u5 ?_
 cases h
 exact AI TT (AI TT (AI rfl (Vw.tupL (AI (Vw.frzB z7 Zh (fun h => h) rfl rfl (by first | rfl | omega | (simp; done) | (simp at *; omega))) (AI (VS rfl) TT)))))
theorem zdv {a0 : List G_QDocument} {v3 : Int} {v4 : List G_QIndexEntry} {m : Option Nat} {o : (Int × (List G_QIndexEntry)) ⊕ ((List G_QIndexEntry) × Int)} (h : wt m a0 v3 v4 = some o) :
 LWp Tryz.prog Wj 0 zip (xt 0 1 (z1a a0) (z6b a0) (zc8 a0) o) [(5, .msl (0, 0) 3 0 v4.length false), (13, .isl 3 (a0.map z8) false), (14, .int .i64 ((a0.map z8).length : Int)), (15, .int .i64 v3)] [((0, 0), .rows 3 (v4.map z7))] 1 := by
 unfold wt at h
 refine zd ?_
 refine ze ?_
 refine zd ?_
 refine qj (v := (decide (v3 < ((a0.map z8).length : Int)))) rfl TT (fun h11 => ?_) (fun h11 => ?_)
 ·have h := zk h11 h
  refine qv ?_
  refine zd ?_
  refine yf ?_
  refine zd ?_
  refine ze ?_
  obtain ⟨h12, h⟩ := zc h
  refine AI h12 ?_
  refine EX (z8 (a0.getD v3.toNat default)) (AI (qo z8 _ _ (ji z8 h12)) (AI (AI (k7 h12) (NB rfl)) ?_))
  refine ze ?_
  obtain ⟨v6, h13, h⟩ := bind_some h
  refine PFn.call (zsp h13) (AI (VS rfl) TT) ?_
  obtain ⟨h14, h⟩ := zc h
  refine AI (fun h => Bool.noConfusion h) (AI (zwr z7 (by first | rfl | omega | (simp; done) | (simp at *; omega))) (EX ((v4 ++ ([v6] : List G_QIndexEntry)).map z7) (AI (zx8 z7 v4 ([v6] : List G_QIndexEntry) (by first | rfl | omega | (simp; done) | (simp at *; omega))) (AI h14 ?_))))
  refine LWp.sim (e := [(5, .msl (0, 0) 3 0 (((v4 ++ ([v6] : List G_QIndexEntry)).map z7).length) false), (13, .isl 3 (a0.map z8) false), (14, .int .i64 ((a0.map z8).length : Int)), (15, .int .i64 v3)]) (L := [((0, 0), .rows 3 ((v4 ++ ([v6] : List G_QIndexEntry)).map z7))]) (n := 1) ?_ ?_
  ·exact y6 (M := [((0, 0), (2, 0))]) rfl (AI (Vw.mslE rfl (by first | rfl | omega | (simp; done) | (simp at *; omega)) rfl) (S2 rfl rfl (AI (VS rfl) TT))) (AI (AI rfl (BVw.enc z7 (fun _ => rfl) _ (v4 ++ ([v6] : List G_QIndexEntry)))) TT)
  refine ze ?_
  cases h
  exact AI rfl (y6 (M := [((0, 0), (0, 0))]) rfl (AI (Vw.mslE rfl (by first | rfl | omega | (simp; done) | (simp at *; omega)) rfl) (S2 rfl rfl (AI (VS rfl) TT))) (AI (AI rfl (BVw.enc z7 (fun _ => rfl) _ (v4 ++ ([v6] : List G_QIndexEntry)))) TT))
 ·have h := zw h11 h
  refine Z2 ?_
  obtain ⟨o, hq, rfl⟩ := Option.map_eq_some_iff.1 h
  replace h := hq; clear hq
  refine AI nofun ?_
  refine LWp.sim ?_ (zmn h)
  exact y6 (M := [((0, 0), (0, 0))]) rfl (AI (Vw.mslE rfl (by first | rfl | omega | (simp; done) | (simp at *; omega)) rfl) TT) (AI (AI rfl (BVw.enc z7 (fun _ => rfl) _ v4)) TT)
theorem zjq {a0 : List G_QDocument} {v3 : Int} {v4 : List G_QIndexEntry} {m : Option Nat} {o : ((List G_QIndexEntry) × Int)} (h : kj m a0 v3 v4 = some o) :
 LWp Tryz.prog Wj 0 (.loop zip) (zm 0 (ug Tryz.prog Wj 0 za5 (zo2 a0 o))) [(5, .msl (0, 0) 3 0 v4.length false), (13, .isl 3 (a0.map z8) false), (14, .int .i64 ((a0.map z8).length : Int)), (15, .int .i64 v3)] [((0, 0), .rows 3 (v4.map z7))] 1 :=
 yi (m := m) (s := ((v3, v4) : (Int × (List G_QIndexEntry)))) (r := o) (fun (s : (Int × (List G_QIndexEntry))) => wt m a0 s.1 s.2) (z1a a0) (z6b a0) (zc8 a0) (fun s o h => zdv h) h
noncomputable def kq (m : Option Nat) (a0 : List G_QDocument) : Option ((List G_QIndexEntry) × Int) :=
 (yp m a0).bind fun v1 =>
 if (v1 != 0) = true then
  some (([] : List G_QIndexEntry), v1)
 else
  kj m a0 0 ([] : List G_QIndexEntry)
theorem zfj {a0 : List G_QDocument} {m : Option Nat} {o : (List G_QIndexEntry) × Int} (h : kq m a0 = some o) : LWp Tryz.prog Wj 0 zr1 (zo2 a0 o) (zz 0 [.isl 3 (a0.map z8) false]) [] 0 := by
 unfold kq at h
 refine zd ?_
 refine LWp.ghost 3 ?_
 refine ze ?_
 refine LWp.sim (e := [(0, .isl 3 (a0.map z8) false)]) (L := []) (n := 0) ?_ ?_
 ·exact y6 (M := []) rfl (AI (VS rfl) TT) TT
 refine zd ?_
 refine zd ?_
 refine ze ?_
 obtain ⟨v1, h1, h⟩ := bind_some h
 refine PFn.call (zri h1) (AI (VS rfl) TT) ?_
 refine zd ?_
 refine ze ?_
 refine qj (v := (v1 != 0)) rfl TT (fun h2 => ?_) (fun h2 => ?_)
 ·have h := zk h2 h
  refine zd ?_
  refine LWp.ghost 3 ?_
  refine ze ?_
  refine LWp.sim (e := [(2, .msl (0, 0) 3 0 (([] : List G_QIndexEntry).length) false), (3, .int .i64 v1)]) (L := [((0, 0), .rows 3 (([] : List G_QIndexEntry).map z7))]) (n := 1) ?_ ?_
  ·exact y6 (M := [((0, 0), (0, 0))]) rfl (AI (Vw.nilM _ _ _ _ _ _ rfl rfl) (AI (VS rfl) TT)) (AI (AI rfl (BVw.enc z7 (fun _ => rfl) _ ([] : List G_QIndexEntry))) TT)
  refine u5 ?_
  cases h
  exact AI TT (AI TT (AI rfl (Vw.tupL (AI (Vw.frzB z7 Zh (fun h => h) rfl rfl (by first | rfl | omega | (simp; done) | (simp at *; omega))) (AI (VS rfl) TT)))))
 ·have h := zw h2 h
  refine qv ?_
  refine zd ?_
  refine LWp.ghost 3 ?_
  refine ze ?_
  refine LWp.sim (e := [(0, .isl 3 (a0.map z8) false), (5, .msl (0, 0) 3 0 (([] : List G_QIndexEntry).length) false)]) (L := [((0, 0), .rows 3 (([] : List G_QIndexEntry).map z7))]) (n := 1) ?_ ?_
  ·exact y6 (M := [((0, 0), (0, 0))]) rfl (AI (VS rfl) (AI (Vw.nilM _ _ _ _ _ _ rfl rfl) TT)) (AI (AI rfl (BVw.enc z7 (fun _ => rfl) _ ([] : List G_QIndexEntry))) TT)
  refine zd ?_
  refine zd ?_
  refine ze ?_
  refine yf ?_
  refine LWp.sim ?_ (zjq h)
  exact y6 (M := [((0, 0), (0, 0))]) rfl (AI (Vw.mslE rfl (by first | rfl | omega | (simp; done) | (simp at *; omega)) rfl) (S2 rfl rfl (AI (VS rfl) TT))) (AI (AI rfl (BVw.enc z7 (fun _ => rfl) _ ([] : List G_QIndexEntry))) TT)
theorem zyj {a0 : List G_QDocument} {m : Option Nat} {o : (List G_QIndexEntry) × Int} (h : kq m a0 = some o) : PFn Tryz.prog 15 [.isl 3 (a0.map z8) false] (.tup [.isl 3 (o.1.map z7) false, .int .i64 o.2]) := PFn.ofFnW (L := y07) ztj zvl (NB rfl) rfl (zfj h)
def zl4 : LCode := (.seq (.region [⟨some 15, .bin .lss (.t 14) (.t 13), none⟩])
 (.seq (.cond (.t 15)
  .skip
  (.exit 0))
 (.seq (.block 1
  (.seq (.region [⟨some 16, .mv (.t 14), none⟩,
   ⟨some 17, .iaddr 1 (.t 12) (.t 14), none⟩,
   ⟨some 18, .load false 1 (.t 17), none⟩,
   ⟨some 5, .mv (.t 16), none⟩,
   ⟨some 6, .mv (.t 18), none⟩])
  (.seq (.region [⟨some 19, .mv (.t 6), none⟩,
   ⟨some 20, .mv (.t 1), none⟩,
   ⟨some 21, .mv (.t 5), none⟩,
   ⟨some 22, .iaddr 1 (.t 20) (.t 21), none⟩,
   ⟨some 23, .load false 1 (.t 22), none⟩,
   ⟨some 24, .bin .neq (.t 19) (.t 23), none⟩])
  (.cond (.t 24)
   (.seq (.region [⟨some 4, .mv (.c (.bool false)), none⟩])
   .ret)
   .skip))))
 (.region [⟨some 25, .bin .add (.t 14) (.c (.int .i64 1)), none⟩,
  ⟨some 14, .mv (.t 25), none⟩]))))
def zb0 : LCode := (.seq (.region [⟨some 4, .mv (.c (.bool true)), none⟩])
 .ret)
def zsi : LCode := (.seq (.region [⟨some 4, .mv (.c (.bool false)), none⟩])
 (.seq (.seq (.region [⟨some 7, .mv (.t 0), none⟩,
  ⟨some 8, .len false (.t 7), none⟩,
  ⟨some 9, .mv (.t 1), none⟩,
  ⟨some 10, .len false (.t 9), none⟩,
  ⟨some 11, .bin .neq (.t 8) (.t 10), none⟩])
 (.cond (.t 11)
  (.seq (.region [⟨some 4, .mv (.c (.bool false)), none⟩])
  .ret)
  .skip))
 (.seq (.seq (.region [⟨some 12, .mv (.t 0), none⟩,
  ⟨some 13, .len false (.t 12), none⟩,
  ⟨some 14, .mv (.c (.int .i64 0)), none⟩])
 (.block 0
  (.loop
   zl4)))
 zb0)))
def We : Lay := ⟨26, [], false⟩
def zkx : List LRes := [.t 4]
def zzo : LFn := ⟨2, We, zsi, zkx⟩
theorem zv8 : ww Tryz.prog [] 13 = some zzo := by kernel_rfl
theorem zvb : Z9 Tryz.prog 13 := ⟨_, Tryz.func13, rfl, rfl⟩
def znr (a0 : List (List UInt8)) (a1 : List (List UInt8)) (o : Bool) : Exit → Env → AHeap → Nat → Prop := Zy zkx (q6 (.bool o))
def z2t (a0 : List (List UInt8)) (a1 : List (List UInt8)) (s : Int) : Env := [(1, .isl 1 (a1.map zb) false), (12, .isl 1 (a0.map zb) false), (13, .int .i64 ((a0.map zb).length : Int)), (14, .int .i64 s)]
def z7u (a0 : List (List UInt8)) (a1 : List (List UInt8)) (s : Int) : AHeap := []
def zcl (a0 : List (List UInt8)) (a1 : List (List UInt8)) (o : Bool) : Exit → Env → AHeap → Nat → Prop := (zm 0 (ug Tryz.prog We 0 zb0 (znr a0 a1 o)))
noncomputable def vh (m : Option Nat) : Option Bool :=
 some true
noncomputable def zu (m : Option Nat) (a0 : List (List UInt8)) (a1 : List (List UInt8)) (v1 : Int) : Option (Int ⊕ Bool) :=
 if (decide (v1 < ((a0.map zb).length : Int))) = true then
  if (0 : Int) ≤ v1 ∧ v1 < ((a0.map zb).length : Int) then
  if (0 : Int) ≤ v1 ∧ v1 < ((a1.map zb).length : Int) then
  if (!((a0.getD v1.toNat default) == (a1.getD v1.toNat default))) = true then
   Option.map Sum.inr (
    some false)
  else
   some (.inl (W (v1 + 1)))
  else none
  else none
 else
  Option.map Sum.inr (
   vh m)
noncomputable def y5 (m : Option Nat) (a0 : List (List UInt8)) (a1 : List (List UInt8)) (v1 : Int) : Option Bool := u4 m (fun (s : Int) => zu m a0 a1 s) v1
theorem zku {a0 : List (List UInt8)} {a1 : List (List UInt8)} {m : Option Nat} {o : Bool} (h : vh m = some o) :
 LWp Tryz.prog We 0 zb0 (znr a0 a1 o) [] [] 0 := by
 unfold vh at h
 refine zd ?_
 refine ze ?_
 refine u5 ?_
 cases h
 exact AI TT (AI rfl (VS rfl))
theorem zds {a0 : List (List UInt8)} {a1 : List (List UInt8)} {v1 : Int} {m : Option Nat} {o : Int ⊕ Bool} (h : zu m a0 a1 v1 = some o) :
 LWp Tryz.prog We 0 zl4 (xt 0 0 (z2t a0 a1) (z7u a0 a1) (zcl a0 a1) o) [(1, .isl 1 (a1.map zb) false), (12, .isl 1 (a0.map zb) false), (13, .int .i64 ((a0.map zb).length : Int)), (14, .int .i64 v1)] [] 0 := by
 unfold zu at h
 refine zd ?_
 refine ze ?_
 refine zd ?_
 refine qj (v := (decide (v1 < ((a0.map zb).length : Int)))) rfl TT (fun h10 => ?_) (fun h10 => ?_)
 ·have h := zk h10 h
  refine qv ?_
  refine zd ?_
  refine yf ?_
  refine zd ?_
  refine ze ?_
  obtain ⟨h11, h⟩ := zc h
  refine AI h11 ?_
  refine EX (zb (a0.getD v1.toNat default)) (AI (qo zb _ _ (ji zb h11)) (AI (AI (k7 h11) (NB rfl)) ?_))
  refine zd ?_
  refine ze ?_
  obtain ⟨h12, h⟩ := zc h
  refine AI h12 ?_
  refine EX (zb (a1.getD v1.toNat default)) (AI (qo zb _ _ (ji zb h12)) (AI (AI (k7 h12) (NB rfl)) ?_))
  refine LWp.sim (e := [(1, .isl 1 (a1.map zb) false), (12, .isl 1 (a0.map zb) false), (13, .int .i64 ((a0.map zb).length : Int)), (14, .int .i64 v1), (24, .bool (!((a0.getD v1.toNat default) == (a1.getD v1.toNat default))))]) (L := []) (n := 0) ?_ ?_
  ·exact y6 (M := []) rfl (S4 rfl rfl rfl rfl (AI (VS rfl) TT)) TT
  refine qj (v := (!((a0.getD v1.toNat default) == (a1.getD v1.toNat default)))) rfl TT (fun h13 => ?_) (fun h13 => ?_)
  ·have h := zk h13 h
   refine zd ?_
   refine ze ?_
   refine u5 ?_
   obtain ⟨o, hq, rfl⟩ := Option.map_eq_some_iff.1 h
   replace h := hq; clear hq
   refine AI nofun ?_
   cases h
   exact AI TT (AI rfl (VS rfl))
  ·have h := zw h13 h
   refine qv ?_
   refine ze ?_
   cases h
   exact AI rfl (y6 (M := []) rfl (S4 rfl rfl rfl rfl TT) TT)
 ·have h := zw h10 h
  refine Z2 ?_
  obtain ⟨o, hq, rfl⟩ := Option.map_eq_some_iff.1 h
  replace h := hq; clear hq
  refine AI nofun ?_
  refine LWp.sim ?_ (zku h)
  exact y6 (M := []) rfl TT TT
theorem zfe {a0 : List (List UInt8)} {a1 : List (List UInt8)} {v1 : Int} {m : Option Nat} {o : Bool} (h : y5 m a0 a1 v1 = some o) :
 LWp Tryz.prog We 0 (.loop zl4) (zm 0 (ug Tryz.prog We 0 zb0 (znr a0 a1 o))) [(1, .isl 1 (a1.map zb) false), (12, .isl 1 (a0.map zb) false), (13, .int .i64 ((a0.map zb).length : Int)), (14, .int .i64 v1)] [] 0 :=
 yi (m := m) (s := (v1 : Int)) (r := o) (fun (s : Int) => zu m a0 a1 s) (z2t a0 a1) (z7u a0 a1) (zcl a0 a1) (fun s o h => zds h) h
noncomputable def zj (m : Option Nat) (a0 : List (List UInt8)) (a1 : List (List UInt8)) : Option Bool :=
 if (((a0.map zb).length : Int) != ((a1.map zb).length : Int)) = true then
  some false
 else
  y5 m a0 a1 0
theorem zgx {a0 : List (List UInt8)} {a1 : List (List UInt8)} {m : Option Nat} {o : Bool} (h : zj m a0 a1 = some o) : LWp Tryz.prog We 0 zsi (znr a0 a1 o) (zz 0 [.isl 1 (a0.map zb) false, .isl 1 (a1.map zb) false]) [] 0 := by
 unfold zj at h
 refine zd ?_
 refine ze ?_
 refine zd ?_
 refine zd ?_
 refine ze ?_
 refine qj (v := (((a0.map zb).length : Int) != ((a1.map zb).length : Int))) rfl TT (fun h1 => ?_) (fun h1 => ?_)
 ·have h := zk h1 h
  refine zd ?_
  refine ze ?_
  refine u5 ?_
  cases h
  exact AI TT (AI rfl (VS rfl))
 ·have h := zw h1 h
  refine qv ?_
  refine zd ?_
  refine zd ?_
  refine ze ?_
  refine LWp.sim (e := [(1, .isl 1 (a1.map zb) false), (12, .isl 1 (a0.map zb) false), (13, .int .i64 ((a0.map zb).length : Int)), (14, .int .i64 0)]) (L := []) (n := 0) ?_ ?_
  ·exact y6 (M := []) rfl (S4 rfl rfl rfl rfl TT) TT
  refine yf ?_
  refine LWp.sim ?_ (zfe h)
  exact y6 (M := []) rfl (S4 rfl rfl rfl rfl TT) TT
theorem z75 {a0 : List (List UInt8)} {a1 : List (List UInt8)} {m : Option Nat} {o : Bool} (h : zj m a0 a1 = some o) : PFn Tryz.prog 13 [.isl 1 (a0.map zb) false, .isl 1 (a1.map zb) false] (.bool o) := PFn.ofFnW (L := zzo) zv8 zvb (NB rfl) rfl (zgx h)
def zmo : LCode := (.seq (.region [⟨some 9, .bin .lss (.t 8) (.t 7), none⟩])
 (.seq (.cond (.t 9)
  .skip
  (.exit 0))
 (.seq (.block 1
  (.seq (.region [⟨some 10, .mv (.t 8), none⟩,
   ⟨some 5, .mv (.t 10), none⟩])
  (.seq (.region [⟨some 11, .mv (.t 1), none⟩,
   ⟨some 12, .mv (.t 0), none⟩,
   ⟨some 13, .mv (.t 5), none⟩,
   ⟨some 14, .iaddr 1 (.t 12) (.t 13), none⟩,
   ⟨some 15, .load false 1 (.t 14), none⟩,
   ⟨some 16, .bin .eql (.t 11) (.t 15), none⟩])
  (.cond (.t 16)
   (.seq (.region [⟨some 17, .mv (.t 5), none⟩,
    ⟨some 4, .mv (.t 17), none⟩])
   .ret)
   .skip))))
 (.region [⟨some 18, .bin .add (.t 8) (.c (.int .i64 1)), none⟩,
  ⟨some 8, .mv (.t 18), none⟩]))))
def zcj : LCode := (.seq (.region [⟨some 4, .mv (.c (.int .i64 (-1))), none⟩])
 .ret)
def zrd : LCode := (.seq (.region [⟨some 4, .mv (.c (.int .i64 0)), none⟩])
 (.seq (.seq (.region [⟨some 6, .mv (.t 0), none⟩,
  ⟨some 7, .len false (.t 6), none⟩,
  ⟨some 8, .mv (.c (.int .i64 0)), none⟩])
 (.block 0
  (.loop
   zmo)))
 zcj))
def Ws : Lay := ⟨19, [], false⟩
def zmd : List LRes := [.t 4]
def zxi : LFn := ⟨2, Ws, zrd, zmd⟩
theorem ztb : ww Tryz.prog [] 53 = some zxi := by kernel_rfl
theorem zt9 : Z9 Tryz.prog 53 := ⟨_, Tryz.func53, rfl, rfl⟩
def zpf (a0 : List (List UInt8)) (a1 : List UInt8) (o : Int) : Exit → Env → AHeap → Nat → Prop := Zy zmd (q6 (.int .i64 o))
def z20 (a0 : List (List UInt8)) (a1 : List UInt8) (s : Int) : Env := [(0, .isl 1 (a0.map zb) false), (1, .str a1), (7, .int .i64 ((a0.map zb).length : Int)), (8, .int .i64 s)]
def z78 (a0 : List (List UInt8)) (a1 : List UInt8) (s : Int) : AHeap := []
def zci (a0 : List (List UInt8)) (a1 : List UInt8) (o : Int) : Exit → Env → AHeap → Nat → Prop := (zm 0 (ug Tryz.prog Ws 0 zcj (zpf a0 a1 o)))
noncomputable def um (m : Option Nat) : Option Int :=
 some (-1)
noncomputable def x7 (m : Option Nat) (a0 : List (List UInt8)) (a1 : List UInt8) (v1 : Int) : Option (Int ⊕ Int) :=
 if (decide (v1 < ((a0.map zb).length : Int))) = true then
  if (0 : Int) ≤ v1 ∧ v1 < ((a0.map zb).length : Int) then
  if (a1 == (a0.getD v1.toNat default)) = true then
   Option.map Sum.inr (
    some v1)
  else
   some (.inl (W (v1 + 1)))
  else none
 else
  Option.map Sum.inr (
   um m)
noncomputable def w7 (m : Option Nat) (a0 : List (List UInt8)) (a1 : List UInt8) (v1 : Int) : Option Int := u4 m (fun (s : Int) => x7 m a0 a1 s) v1
theorem zgk {a0 : List (List UInt8)} {a1 : List UInt8} {m : Option Nat} {o : Int} (h : um m = some o) :
 LWp Tryz.prog Ws 0 zcj (zpf a0 a1 o) [] [] 0 := by
 unfold um at h
 refine zd ?_
 refine ze ?_
 refine u5 ?_
 cases h
 exact AI TT (AI rfl (VS rfl))
theorem zd0 {a0 : List (List UInt8)} {a1 : List UInt8} {v1 : Int} {m : Option Nat} {o : Int ⊕ Int} (h : x7 m a0 a1 v1 = some o) :
 LWp Tryz.prog Ws 0 zmo (xt 0 0 (z20 a0 a1) (z78 a0 a1) (zci a0 a1) o) [(0, .isl 1 (a0.map zb) false), (1, .str a1), (7, .int .i64 ((a0.map zb).length : Int)), (8, .int .i64 v1)] [] 0 := by
 unfold x7 at h
 refine zd ?_
 refine ze ?_
 refine zd ?_
 refine qj (v := (decide (v1 < ((a0.map zb).length : Int)))) rfl TT (fun h7 => ?_) (fun h7 => ?_)
 ·have h := zk h7 h
  refine qv ?_
  refine zd ?_
  refine yf ?_
  refine zd ?_
  refine ze ?_
  refine zd ?_
  refine ze ?_
  obtain ⟨h8, h⟩ := zc h
  refine AI h8 ?_
  refine EX (zb (a0.getD v1.toNat default)) (AI (qo zb _ _ (ji zb h8)) (AI (AI (k7 h8) (NB rfl)) ?_))
  refine LWp.sim (e := [(0, .isl 1 (a0.map zb) false), (1, .str a1), (5, .int .i64 v1), (7, .int .i64 ((a0.map zb).length : Int)), (8, .int .i64 v1), (16, .bool (a1 == (a0.getD v1.toNat default)))]) (L := []) (n := 0) ?_ ?_
  ·exact y6 (M := []) rfl (S4 rfl rfl rfl rfl (S2 rfl rfl TT)) TT
  refine qj (v := (a1 == (a0.getD v1.toNat default))) rfl TT (fun h9 => ?_) (fun h9 => ?_)
  ·have h := zk h9 h
   refine zd ?_
   refine ze ?_
   refine u5 ?_
   obtain ⟨o, hq, rfl⟩ := Option.map_eq_some_iff.1 h
   replace h := hq; clear hq
   refine AI nofun ?_
   cases h
   exact AI TT (AI rfl (VS rfl))
  ·have h := zw h9 h
   refine qv ?_
   refine ze ?_
   cases h
   exact AI rfl (y6 (M := []) rfl (S4 rfl rfl rfl rfl TT) TT)
 ·have h := zw h7 h
  refine Z2 ?_
  obtain ⟨o, hq, rfl⟩ := Option.map_eq_some_iff.1 h
  replace h := hq; clear hq
  refine AI nofun ?_
  refine LWp.sim ?_ (zgk h)
  exact y6 (M := []) rfl TT TT
theorem zm6 {a0 : List (List UInt8)} {a1 : List UInt8} {v1 : Int} {m : Option Nat} {o : Int} (h : w7 m a0 a1 v1 = some o) :
 LWp Tryz.prog Ws 0 (.loop zmo) (zm 0 (ug Tryz.prog Ws 0 zcj (zpf a0 a1 o))) [(0, .isl 1 (a0.map zb) false), (1, .str a1), (7, .int .i64 ((a0.map zb).length : Int)), (8, .int .i64 v1)] [] 0 :=
 yi (m := m) (s := (v1 : Int)) (r := o) (fun (s : Int) => x7 m a0 a1 s) (z20 a0 a1) (z78 a0 a1) (zci a0 a1) (fun s o h => zd0 h) h
noncomputable def vo (m : Option Nat) (a0 : List (List UInt8)) (a1 : List UInt8) : Option Int :=
 w7 m a0 a1 0
theorem zf6 {a0 : List (List UInt8)} {a1 : List UInt8} {m : Option Nat} {o : Int} (h : vo m a0 a1 = some o) : LWp Tryz.prog Ws 0 zrd (zpf a0 a1 o) (zz 0 [.isl 1 (a0.map zb) false, .str a1]) [] 0 := by
 unfold vo at h
 refine zd ?_
 refine ze ?_
 refine zd ?_
 refine zd ?_
 refine ze ?_
 refine yf ?_
 refine LWp.sim ?_ (zm6 h)
 exact y6 (M := []) rfl (S4 rfl rfl rfl rfl TT) TT
theorem zzw {a0 : List (List UInt8)} {a1 : List UInt8} {m : Option Nat} {o : Int} (h : vo m a0 a1 = some o) : PFn Tryz.prog 53 [.isl 1 (a0.map zb) false, .str a1] (.int .i64 o) := PFn.ofFnW (L := zxi) ztb zt9 (NB rfl) rfl (zf6 h)
def zrp : LCode := (.seq (.region [⟨some 4, .mv (.c (.bool false)), none⟩])
 (.seq (.region [⟨some 5, .mv (.t 0), none⟩,
  ⟨some 6, .mv (.t 1), none⟩,
  ⟨some 7, .call 53 [(.t 5), (.t 6)], none⟩,
  ⟨some 8, .bin .geq (.t 7) (.c (.int .i64 0)), none⟩,
  ⟨some 4, .mv (.t 8), none⟩])
 .ret))
def ziw : Lay := ⟨9, [], false⟩
def zi7 : List LRes := [.t 4]
def zyk : LFn := ⟨2, ziw, zrp, zi7⟩
theorem zwp : ww Tryz.prog [] 33 = some zyk := by kernel_rfl
theorem zu5 : Z9 Tryz.prog 33 := ⟨_, Tryz.func33, rfl, rfl⟩
noncomputable def j9 (m : Option Nat) (a0 : List (List UInt8)) (a1 : List UInt8) : Option Bool :=
 (vo m a0 a1).bind fun v1 =>
 some (decide (v1 ≥ 0))
def y21 (a0 : List (List UInt8)) (a1 : List UInt8) (o : Bool) : Exit → Env → AHeap → Nat → Prop := Zy zi7 (q6 (.bool o))
theorem zhf {a0 : List (List UInt8)} {a1 : List UInt8} {m : Option Nat} {o : Bool} (h : j9 m a0 a1 = some o) : LWp Tryz.prog ziw 0 zrp (y21 a0 a1 o) (zz 0 [.isl 1 (a0.map zb) false, .str a1]) [] 0 := by
 unfold j9 at h
 refine zd ?_
 refine ze ?_
 refine zd ?_
 refine ze ?_
 obtain ⟨v1, h1, h⟩ := bind_some h
 refine PFn.call (zzw h1) (S2 rfl rfl TT) ?_
 refine u5 ?_
 cases h
 exact AI TT (AI rfl (VS rfl))
theorem zy6 {a0 : List (List UInt8)} {a1 : List UInt8} {m : Option Nat} {o : Bool} (h : j9 m a0 a1 = some o) : PFn Tryz.prog 33 [.isl 1 (a0.map zb) false, .str a1] (.bool o) := PFn.ofFnW (L := zyk) zwp zu5 (NB rfl) rfl (zhf h)
def zsr : LCode := (.region [⟨some 23, .bin .add (.t 10) (.c (.int .i64 1)), none⟩,
 ⟨some 10, .mv (.t 23), none⟩])
def zh7 : LCode := (.seq (.region [⟨some 11, .bin .lss (.t 10) (.t 9), none⟩])
 (.seq (.cond (.t 11)
  .skip
  (.exit 0))
 (.seq (.block 1
  (.seq (.region [⟨some 12, .iaddr 3 (.t 8) (.t 10), none⟩,
   ⟨some 13, .load true 3 (.t 12), none⟩,
   ⟨some 7, .alloc [(.str []), (.int .u32 0), (.isl 1 [] true)], none⟩,
   ⟨none, .store 3 (.t 7) (.t 13), none⟩])
  (.seq (.region [⟨some 14, .faddr 2 (.t 7), none⟩,
   ⟨some 15, .load false 1 (.t 14), none⟩,
   ⟨some 16, .mv (.t 1), none⟩,
   ⟨some 17, .call 33 [(.t 15), (.t 16)], none⟩])
  (.cond (.t 17)
   (.region [⟨some 18, .mv (.t 5), none⟩,
    ⟨some 19, .faddr 0 (.t 7), none⟩,
    ⟨some 20, .load false 1 (.t 19), none⟩,
    ⟨some 21, .mkSl true 1 [(.str [])] 1 [(0, (.t 20))], none⟩,
    ⟨some 22, .app true 1 16 (.t 18) (.t 21), none⟩,
    ⟨some 5, .mv (.t 22), none⟩])
   .skip))))
 zsr)))
def zat : LCode := (.seq (.region [⟨some 24, .mv (.t 5), none⟩,
 ⟨some 4, .mv (.t 24), none⟩])
 .ret)
def zrb : LCode := (.seq (.region [⟨some 4, .mv (.c (.val (.slice none 0 0))), none⟩])
 (.seq (.region [⟨some 5, .mv (.c (.val (.slice none 0 0))), none⟩])
 (.seq (.seq (.region [⟨some 8, .mv (.t 0), none⟩,
  ⟨some 9, .len false (.t 8), none⟩,
  ⟨some 10, .mv (.c (.int .i64 0)), none⟩])
 (.block 0
  (.loop
   zh7)))
 zat)))
def J1 : Lay := ⟨25, [], false⟩
def zn9 : List LRes := [.t 4]
def zxx : LFn := ⟨2, J1, zrb, zn9⟩
theorem zuy : ww Tryz.prog [] 16 = some zxx := by kernel_rfl
theorem zvi : Z9 Tryz.prog 16 := ⟨_, Tryz.func16, rfl, rfl⟩
def zp8 (a0 : List G_QIndexEntry) (a1 : List UInt8) (o : (List (List UInt8))) : Exit → Env → AHeap → Nat → Prop := Zy zn9 (q6 (.isl 1 (o.map zb) false))
def K6 (a0 : List G_QIndexEntry) (a1 : List UInt8) (s : ((List (List UInt8)) × Int)) : Env := [(1, .str a1), (5, .osl (0, 0) 1 (s.1.map zb)), (8, .isl 3 (a0.map z7) false), (9, .int .i64 ((a0.map z7).length : Int)), (10, .int .i64 s.2)]
def Um (a0 : List G_QIndexEntry) (a1 : List UInt8) (s : ((List (List UInt8)) × Int)) : AHeap := [((0, 0), .tok)]
def z3y (a0 : List G_QIndexEntry) (a1 : List UInt8) (o : (List (List UInt8))) : Exit → Env → AHeap → Nat → Prop := (zm 0 (ug Tryz.prog J1 0 zat (zp8 a0 a1 o)))
noncomputable def vj (m : Option Nat) (a0 : List G_QIndexEntry) (a1 : List UInt8) (v4 : Int) (v8 : List (List UInt8)) : Option (((List (List UInt8)) × Int) ⊕ (List (List UInt8))) :=
 some (.inl (v8, (W (v4 + 1))))
theorem z4h {a0 : List G_QIndexEntry} {a1 : List UInt8} {v4 : Int} {v8 : List (List UInt8)} {m : Option Nat} {o : (((List (List UInt8)) × Int) ⊕ (List (List UInt8)))} (h : vj m a0 a1 v4 v8 = some o) :
 LWp Tryz.prog J1 0 zsr (xt 0 1 (K6 a0 a1) (Um a0 a1) (z3y a0 a1) o) [(1, .str a1), (5, .osl (0, 0) 1 (v8.map zb)), (8, .isl 3 (a0.map z7) false), (9, .int .i64 ((a0.map z7).length : Int)), (10, .int .i64 v4)] [((0, 0), .tok)] 1 := by
 unfold vj at h
 refine ze ?_
 cases h
 exact AI rfl (y6 (M := [((0, 0), (0, 0))]) rfl (AI (VS rfl) (AI (Vw.osl _ _ _ _ rfl) (S2 rfl rfl (AI (VS rfl) TT)))) (AI (AI rfl BVw.tok) TT))
noncomputable def Zm (m : Option Nat) (v3 : List (List UInt8)) : Option (List (List UInt8)) :=
 some v3
noncomputable def w6 (m : Option Nat) (a0 : List G_QIndexEntry) (a1 : List UInt8) (v3 : List (List UInt8)) (v4 : Int) : Option (((List (List UInt8)) × Int) ⊕ (List (List UInt8))) :=
 if (decide (v4 < ((a0.map z7).length : Int))) = true then
  if (0 : Int) ≤ v4 ∧ v4 < ((a0.map z7).length : Int) then
  (j9 m ((a0.getD v4.toNat default).f_Words) a1).bind fun v7 =>
  if v7 = true then
   if ((v3 ++ ([(a0.getD v4.toNat default).f_Name] : List (List UInt8))).map zb).length * 16 ≤ 140737488355328 then
   vj m a0 a1 v4 (v3 ++ ([(a0.getD v4.toNat default).f_Name] : List (List UInt8)))
   else none
  else
   vj m a0 a1 v4 v3
  else none
 else
  Option.map Sum.inr (
   Zm m v3)
noncomputable def ky (m : Option Nat) (a0 : List G_QIndexEntry) (a1 : List UInt8) (v3 : List (List UInt8)) (v4 : Int) : Option (List (List UInt8)) := u4 m (fun (s : ((List (List UInt8)) × Int)) => w6 m a0 a1 s.1 s.2) (v3, v4)
theorem zl7 {a0 : List G_QIndexEntry} {a1 : List UInt8} {v3 : List (List UInt8)} {m : Option Nat} {o : (List (List UInt8))} (h : Zm m v3 = some o) :
 LWp Tryz.prog J1 0 zat (zp8 a0 a1 o) [(5, .osl (0, 0) 1 (v3.map zb))] [((0, 0), .tok)] 1 := by
 unfold Zm at h
 refine zd ?_
 refine ze ?_
 refine u5 ?_
 cases h
 exact AI TT (AI rfl (Vw.oslI _ _ _))
theorem zde {a0 : List G_QIndexEntry} {a1 : List UInt8} {v3 : List (List UInt8)} {v4 : Int} {m : Option Nat} {o : ((List (List UInt8)) × Int) ⊕ (List (List UInt8))} (h : w6 m a0 a1 v3 v4 = some o) :
 LWp Tryz.prog J1 0 zh7 (xt 0 1 (K6 a0 a1) (Um a0 a1) (z3y a0 a1) o) [(1, .str a1), (5, .osl (0, 0) 1 (v3.map zb)), (8, .isl 3 (a0.map z7) false), (9, .int .i64 ((a0.map z7).length : Int)), (10, .int .i64 v4)] [((0, 0), .tok)] 1 := by
 unfold w6 at h
 refine zd ?_
 refine ze ?_
 refine zd ?_
 refine qj (v := (decide (v4 < ((a0.map z7).length : Int)))) rfl TT (fun h11 => ?_) (fun h11 => ?_)
 ·have h := zk h11 h
  refine qv ?_
  refine zd ?_
  refine yf ?_
  refine zd ?_
  refine ze ?_
  obtain ⟨h12, h⟩ := zc h
  refine AI h12 ?_
  refine EX (z7 (a0.getD v4.toNat default)) (AI (qo z7 _ _ (ji z7 h12)) (AI (AI (k7 h12) (NB rfl)) ?_))
  refine zd ?_
  refine ze ?_
  obtain ⟨v7, h13, h⟩ := bind_some h
  refine PFn.call (zy6 h13) (S2 rfl rfl TT) ?_
  refine LWp.sim (e := [(1, .str a1), (5, .osl (0, 0) 1 (v3.map zb)), (7, .ptr (1, 0) 0 0), (8, .isl 3 (a0.map z7) false), (9, .int .i64 ((a0.map z7).length : Int)), (10, .int .i64 v4), (17, .bool v7)]) (L := [((0, 0), .tok), ((1, 0), .one [.str ((a0.getD v4.toNat default).f_Name), .int .u32 ((a0.getD v4.toNat default).f_Sum), .isl 1 (((a0.getD v4.toNat default).f_Words).map zb) false])]) (n := 2) ?_ ?_
  ·exact y6 (M := [((0, 0), (0, 0)), ((1, 0), (1, 0))]) rfl (AI (VS rfl) (AI (Vw.osl _ _ _ _ rfl) (AI (Vw.ptr _ _ _ _ rfl) (S4 rfl rfl rfl rfl TT)))) (AI (AI rfl BVw.tok) (AI (AI rfl (BVw.oneL (S2 rfl rfl (AI (VS rfl) TT)))) TT))
  refine qj (v := v7) rfl TT (fun h14 => ?_) (fun h14 => ?_)
  ·have h := zk h14 h
   refine ze ?_
   obtain ⟨h15, h⟩ := zc h
   refine EX ((v3 ++ ([(a0.getD v4.toNat default).f_Name] : List (List UInt8))).map zb) (AI (Y3 zb v3 ([(a0.getD v4.toNat default).f_Name] : List (List UInt8))) (AI h15 ?_))
   refine LWp.sim ?_ (z4h h)
   exact y6 (M := [((0, 0), (2, 0))]) rfl (AI (VS rfl) (AI (Vw.osl _ _ _ _ rfl) (S2 rfl rfl (AI (VS rfl) TT)))) (AI (AI rfl BVw.tok) TT)
  ·have h := zw h14 h
   refine qv ?_
   refine LWp.sim ?_ (z4h h)
   exact y6 (M := [((0, 0), (0, 0))]) rfl (AI (VS rfl) (AI (Vw.osl _ _ _ _ rfl) (S2 rfl rfl (AI (VS rfl) TT)))) (AI (AI rfl BVw.tok) TT)
 ·have h := zw h11 h
  refine Z2 ?_
  obtain ⟨o, hq, rfl⟩ := Option.map_eq_some_iff.1 h
  replace h := hq; clear hq
  refine AI nofun ?_
  refine LWp.sim ?_ (zl7 h)
  exact y6 (M := [((0, 0), (0, 0))]) rfl (AI (Vw.osl _ _ _ _ rfl) TT) (AI (AI rfl BVw.tok) TT)
theorem zmc {a0 : List G_QIndexEntry} {a1 : List UInt8} {v3 : List (List UInt8)} {v4 : Int} {m : Option Nat} {o : (List (List UInt8))} (h : ky m a0 a1 v3 v4 = some o) :
 LWp Tryz.prog J1 0 (.loop zh7) (zm 0 (ug Tryz.prog J1 0 zat (zp8 a0 a1 o))) [(1, .str a1), (5, .osl (0, 0) 1 (v3.map zb)), (8, .isl 3 (a0.map z7) false), (9, .int .i64 ((a0.map z7).length : Int)), (10, .int .i64 v4)] [((0, 0), .tok)] 1 :=
 yi (m := m) (s := ((v3, v4) : ((List (List UInt8)) × Int))) (r := o) (fun (s : ((List (List UInt8)) × Int)) => w6 m a0 a1 s.1 s.2) (K6 a0 a1) (Um a0 a1) (z3y a0 a1) (fun s o h => zde h) h
noncomputable def uv (m : Option Nat) (a0 : List G_QIndexEntry) (a1 : List UInt8) : Option (List (List UInt8)) :=
 ky m a0 a1 [] 0
theorem zfd {a0 : List G_QIndexEntry} {a1 : List UInt8} {m : Option Nat} {o : (List (List UInt8))} (h : uv m a0 a1 = some o) : LWp Tryz.prog J1 0 zrb (zp8 a0 a1 o) (zz 0 [.isl 3 (a0.map z7) false, .str a1]) [] 0 := by
 unfold uv at h
 refine zd ?_
 refine ze ?_
 refine zd ?_
 refine ze ?_
 refine zd ?_
 refine zd ?_
 refine ze ?_
 refine yf ?_
 refine LWp.sim ?_ (zmc h)
 exact y6 (M := []) rfl (AI (VS rfl) (AI (Vw.nilO _ _ (by decide)) (S2 rfl rfl (AI (VS rfl) TT)))) (AI (AI rfl (AI (by decide) (by decide))) TT)
theorem zz3 {a0 : List G_QIndexEntry} {a1 : List UInt8} {m : Option Nat} {o : (List (List UInt8))} (h : uv m a0 a1 = some o) : PFn Tryz.prog 16 [.isl 3 (a0.map z7) false, .str a1] (.isl 1 (o.map zb) false) := PFn.ofFnW (L := zxx) zuy zvi (NB rfl) rfl (zfd h)
def y0u : LCode := (.seq (.region [⟨some 0, .mv (.c (.bool false)), none⟩])
 (.seq (.region [⟨some 4, .build [(.str []), (.int .i64 0), (.str [])] [(0, 1, (.c (.str [100]))), (2, 1, (.c (.str [98, 32, 97, 95, 49, 44, 32, 98])))], none⟩,
  ⟨some 5, .mkSl true 3 [(.str []), (.int .i64 0), (.str [])] 1 [(0, (.t 4))], none⟩,
  ⟨some 6, .call 15 [(.t 5)], none⟩,
  ⟨some 3, .mv (.t 6), none⟩,
  ⟨some 7, .ext 0 (.t 3), none⟩,
  ⟨some 8, .ext 1 (.t 3), none⟩,
  ⟨some 1, .mv (.t 7), none⟩,
  ⟨some 2, .mv (.t 8), none⟩])
 (.seq (.region [⟨some 9, .mv (.t 2), none⟩,
  ⟨some 10, .bin .eql (.t 9) (.c (.int .i64 0)), none⟩,
  ⟨some 11, .mv (.t 10), none⟩,
  ⟨some 12, .mv (.t 1), some (11, true)⟩,
  ⟨some 13, .len false (.t 12), some (11, true)⟩,
  ⟨some 14, .bin .eql (.t 13) (.c (.int .i64 1)), some (11, true)⟩,
  ⟨some 15, .pick (.t 11) (.t 14) (.c (.bool false)), none⟩,
  ⟨some 16, .mv (.t 15), none⟩,
  ⟨some 17, .mv (.t 1), some (16, true)⟩,
  ⟨some 18, .iaddr 3 (.t 17) (.c (.int .i64 0)), some (16, true)⟩,
  ⟨some 19, .faddr 2 (.t 18), some (16, true)⟩,
  ⟨some 20, .load false 1 (.t 19), some (16, true)⟩,
  ⟨some 21, .mkSl true 1 [(.str [])] 2 [(0, (.c (.str [97, 95, 49]))), (1, (.c (.str [98])))], some (16, true)⟩,
  ⟨some 22, .call 13 [(.t 20), (.t 21)], some (16, true)⟩,
  ⟨some 23, .pick (.t 16) (.t 22) (.c (.bool false)), none⟩,
  ⟨some 24, .mv (.t 23), none⟩,
  ⟨some 25, .mv (.t 1), some (24, true)⟩,
  ⟨some 26, .call 16 [(.t 25), (.c (.str [98]))], some (24, true)⟩,
  ⟨some 27, .mkSl true 1 [(.str [])] 1 [(0, (.c (.str [100])))], some (24, true)⟩,
  ⟨some 28, .call 13 [(.t 26), (.t 27)], some (24, true)⟩,
  ⟨some 29, .pick (.t 24) (.t 28) (.c (.bool false)), none⟩,
  ⟨some 0, .mv (.t 29), none⟩])
 .ret)))
def zrn : Lay := ⟨30, [], false⟩
def zss : List LRes := [.t 0]
def y2t : LFn := ⟨0, zrn, y0u, zss⟩
theorem zxy : ww Tryz.prog [] 4 = some y2t := by kernel_rfl
theorem y10 : Z9 Tryz.prog 4 := ⟨_, Tryz.func4, rfl, rfl⟩
noncomputable def yh (m : Option Nat) : Option Bool :=
 (kq m ([(G_QDocument.mk ([100] : List UInt8) 0 ([98, 32, 97, 95, 49, 44, 32, 98] : List UInt8))] : List G_QDocument)).bind fun v1 =>
 if ((((v1.2 == 0) && (((v1.1.map z7).length : Int) == 1)) == true) = true → (0 : Int) ≤ 0 ∧ 0 < ((v1.1.map z7).length : Int)) then
 (if (((v1.2 == 0) && (((v1.1.map z7).length : Int) == 1)) == true) = true then zj m ((v1.1.getD ((0 : Int).toNat) default).f_Words) ([([97, 95, 49] : List UInt8), ([98] : List UInt8)] : List (List UInt8)) else some default).bind fun v2 =>
 (if ((((v1.2 == 0) && (((v1.1.map z7).length : Int) == 1)) && v2) == true) = true then uv m v1.1 ([98] : List UInt8) else some default).bind fun v3 =>
 (if ((((v1.2 == 0) && (((v1.1.map z7).length : Int) == 1)) && v2) == true) = true then zj m v3 ([([100] : List UInt8)] : List (List UInt8)) else some default).bind fun v4 =>
 some ((((v1.2 == 0) && (((v1.1.map z7).length : Int) == 1)) && v2) && v4)
 else none
def y31 (o : Bool) : Exit → Env → AHeap → Nat → Prop := Zy zss (q6 (.bool o))
theorem zou {m : Option Nat} {o : Bool} (h : yh m = some o) : LWp Tryz.prog zrn 0 y0u (y31 o) (zz 0 []) [] 0 := by
 unfold yh at h
 refine zd ?_
 refine ze ?_
 refine zd ?_
 refine ze ?_
 obtain ⟨v1, h1, h⟩ := bind_some h
 refine PFn.call (zyj h1) (AI (Vw.islF _ _ _) TT) ?_
 refine LWp.sim (e := [(1, .isl 3 (v1.1.map z7) false), (2, .int .i64 v1.2)]) (L := []) (n := 0) ?_ ?_
 ·exact y6 (M := []) rfl (S2 rfl rfl TT) TT
 refine zd ?_
 refine ze ?_
 refine AI (fun hp => hp) ?_
 refine AI (fun hp => hp) ?_
 refine AI (fun hc => (bqt hc)) ?_
 obtain ⟨h2, h⟩ := zc h
 refine AI (fun hp => (AI hp (h2 hp))) ?_
 refine AI (fun hp => hp) ?_
 refine EX (z7 (v1.1.getD ((0 : Int).toNat) default)) (AI (fun hp => AI (qo z7 _ _ (ji z7 (h2 hp))) (AI hp (AI (k7 (h2 hp)) (NB rfl)))) ?_)
 refine Or.inl (EX (.isl 1 (([([97, 95, 49] : List UInt8), ([98] : List UInt8)] : List (List UInt8)).map zb) true) (AI (fun hp => AI rfl (AI rfl rfl)) ?_))
 obtain ⟨v2, h3, h⟩ := bind_some h
 refine Or.inl (EX (.bool v2) (AI (fun hp => AI (AI hp hp) (PFn.call (z75 (zk hp h3)) (AI (VS rfl) (AI (Vw.islF _ _ _) TT)) (AI rfl (AI rfl rfl)))) ?_))
 refine AI (fun hc => (bqt hc)) ?_
 obtain ⟨v3, h4, h⟩ := bind_some h
 refine Or.inl (EX (.isl 1 (v3.map zb) false) (AI (fun hp => AI hp (PFn.call (zz3 (zk hp h4)) (S2 rfl rfl TT) (AI rfl (AI rfl rfl)))) ?_))
 refine Or.inl (EX (.isl 1 (([([100] : List UInt8)] : List (List UInt8)).map zb) true) (AI (fun hp => AI rfl (AI rfl rfl)) ?_))
 obtain ⟨v4, h5, h⟩ := bind_some h
 refine Or.inl (EX (.bool v4) (AI (fun hp => AI (AI hp hp) (PFn.call (z75 (zk hp h5)) (AI (VS rfl) (AI (Vw.islF _ _ _) TT)) (AI rfl (AI rfl rfl)))) ?_))
 refine AI (fun hc => (bqt hc)) ?_
 refine LWp.sim (e := [(0, .bool ((((v1.2 == 0) && (((v1.1.map z7).length : Int) == 1)) && v2) && v4))]) (L := []) (n := 0) ?_ ?_
 ·exact y6 (M := []) rfl (AI (VS rfl) TT) TT
 refine u5 ?_
 cases h
 exact AI TT (AI rfl (VS rfl))
theorem zwq {m : Option Nat} {o : Bool} (h : yh m = some o) : PFn Tryz.prog 4 [] (.bool o) := PFn.ofFnW (L := y2t) zxy y10 (NB rfl) rfl (zou h)
def zqt : LCode := (.seq (.region [⟨some 2, .mv (.c (.str [])), none⟩])
 (.seq (.region [⟨some 5, .mv (.t 0), none⟩,
  ⟨some 6, .len true (.t 5), none⟩,
  ⟨some 7, .bin .shr (.t 6) (.c (.int .u64 8)), none⟩,
  ⟨some 8, .conv (.int .u8) (.t 7), none⟩,
  ⟨some 9, .mv (.t 0), none⟩,
  ⟨some 10, .len true (.t 9), none⟩,
  ⟨some 11, .conv (.int .u8) (.t 10), none⟩,
  ⟨some 12, .mkSl true 1 [(.int .u8 0)] 2 [(0, (.t 8)), (1, (.t 11))], none⟩,
  ⟨some 13, .conv .b2s (.t 12), none⟩,
  ⟨some 3, .mv (.t 13), none⟩])
 (.seq (.region [⟨some 14, .mv (.t 3), none⟩,
  ⟨some 15, .mv (.t 0), none⟩,
  ⟨some 16, .bin .add (.t 14) (.t 15), none⟩,
  ⟨some 17, .call 42 [(.t 16)], none⟩,
  ⟨some 4, .mv (.t 17), none⟩])
 (.seq (.region [⟨some 18, .mv (.t 3), none⟩,
  ⟨some 19, .mv (.t 4), none⟩,
  ⟨some 20, .bin .shr (.t 19) (.c (.int .u64 24)), none⟩,
  ⟨some 21, .conv (.int .u8) (.t 20), none⟩,
  ⟨some 22, .mv (.t 4), none⟩,
  ⟨some 23, .bin .shr (.t 22) (.c (.int .u64 16)), none⟩,
  ⟨some 24, .conv (.int .u8) (.t 23), none⟩,
  ⟨some 25, .mv (.t 4), none⟩,
  ⟨some 26, .bin .shr (.t 25) (.c (.int .u64 8)), none⟩,
  ⟨some 27, .conv (.int .u8) (.t 26), none⟩,
  ⟨some 28, .mv (.t 4), none⟩,
  ⟨some 29, .conv (.int .u8) (.t 28), none⟩,
  ⟨some 30, .mkSl true 1 [(.int .u8 0)] 4 [(0, (.t 21)), (1, (.t 24)), (2, (.t 27)), (3, (.t 29))], none⟩,
  ⟨some 31, .conv .b2s (.t 30), none⟩,
  ⟨some 32, .bin .add (.t 18) (.t 31), none⟩,
  ⟨some 33, .mv (.t 0), none⟩,
  ⟨some 34, .bin .add (.t 32) (.t 33), none⟩,
  ⟨some 2, .mv (.t 34), none⟩])
 .ret))))
def zki : Lay := ⟨35, [], false⟩
def zla : List LRes := [.t 2]
def zz7 : LFn := ⟨1, zki, zqt, zla⟩
theorem zw9 : ww Tryz.prog [] 81 = some zz7 := by kernel_rfl
theorem zu4 : Z9 Tryz.prog 81 := ⟨_, Tryz.func81, rfl, rfl⟩
noncomputable def kw (m : Option Nat) (a0 : List UInt8) : Option (List UInt8) :=
 if ((((([(IntKind.wrap .u8 ((a0.length : Int).fdiv (2 ^ (min (8 : Int).toNat (IntKind.bits .i64))))), (IntKind.wrap .u8 (a0.length : Int))] : List Int).map Wa).length + a0.length : Nat) : Int) ≤ 9223372036854775807) then
 (j0 m ((([(IntKind.wrap .u8 ((a0.length : Int).fdiv (2 ^ (min (8 : Int).toNat (IntKind.bits .i64))))), (IntKind.wrap .u8 (a0.length : Int))] : List Int).map Wa) ++ a0)).bind fun v1 =>
 if ((((([(IntKind.wrap .u8 ((a0.length : Int).fdiv (2 ^ (min (8 : Int).toNat (IntKind.bits .i64))))), (IntKind.wrap .u8 (a0.length : Int))] : List Int).map Wa).length + (([(IntKind.wrap .u8 (v1.fdiv (2 ^ (min (24 : Int).toNat (IntKind.bits .u32))))), (IntKind.wrap .u8 (v1.fdiv (2 ^ (min (16 : Int).toNat (IntKind.bits .u32))))), (IntKind.wrap .u8 (v1.fdiv (2 ^ (min (8 : Int).toNat (IntKind.bits .u32))))), (IntKind.wrap .u8 v1)] : List Int).map Wa).length : Nat) : Int) ≤ 9223372036854775807) then
 if (((((([(IntKind.wrap .u8 ((a0.length : Int).fdiv (2 ^ (min (8 : Int).toNat (IntKind.bits .i64))))), (IntKind.wrap .u8 (a0.length : Int))] : List Int).map Wa) ++ (([(IntKind.wrap .u8 (v1.fdiv (2 ^ (min (24 : Int).toNat (IntKind.bits .u32))))), (IntKind.wrap .u8 (v1.fdiv (2 ^ (min (16 : Int).toNat (IntKind.bits .u32))))), (IntKind.wrap .u8 (v1.fdiv (2 ^ (min (8 : Int).toNat (IntKind.bits .u32))))), (IntKind.wrap .u8 v1)] : List Int).map Wa)).length + a0.length : Nat) : Int) ≤ 9223372036854775807) then
 some (((([(IntKind.wrap .u8 ((a0.length : Int).fdiv (2 ^ (min (8 : Int).toNat (IntKind.bits .i64))))), (IntKind.wrap .u8 (a0.length : Int))] : List Int).map Wa) ++ (([(IntKind.wrap .u8 (v1.fdiv (2 ^ (min (24 : Int).toNat (IntKind.bits .u32))))), (IntKind.wrap .u8 (v1.fdiv (2 ^ (min (16 : Int).toNat (IntKind.bits .u32))))), (IntKind.wrap .u8 (v1.fdiv (2 ^ (min (8 : Int).toNat (IntKind.bits .u32))))), (IntKind.wrap .u8 v1)] : List Int).map Wa)) ++ a0)
 else none
 else none
 else none
def y2j (a0 : List UInt8) (o : (List UInt8)) : Exit → Env → AHeap → Nat → Prop := Zy zla (q6 (.str o))
theorem zjj {a0 : List UInt8} {m : Option Nat} {o : (List UInt8)} (h : kw m a0 = some o) : LWp Tryz.prog zki 0 zqt (y2j a0 o) (zz 0 [.str a0]) [] 0 := by
 unfold kw at h
 refine zd ?_
 refine ze ?_
 refine zd ?_
 refine ze ?_
 refine AI (by decide) ?_
 refine EX (([(IntKind.wrap .u8 ((a0.length : Int).fdiv (2 ^ (min (8 : Int).toNat (IntKind.bits .i64))))), (IntKind.wrap .u8 (a0.length : Int))] : List Int).map Wa) (AI (z8b ([(IntKind.wrap .u8 ((a0.length : Int).fdiv (2 ^ (min (8 : Int).toNat (IntKind.bits .i64))))), (IntKind.wrap .u8 (a0.length : Int))] : List Int)) (AI (z3l ([(IntKind.wrap .u8 ((a0.length : Int).fdiv (2 ^ (min (8 : Int).toNat (IntKind.bits .i64))))), (IntKind.wrap .u8 (a0.length : Int))] : List Int)) ?_))
 refine LWp.sim (e := [(0, .str a0), (3, .str (([(IntKind.wrap .u8 ((a0.length : Int).fdiv (2 ^ (min (8 : Int).toNat (IntKind.bits .i64))))), (IntKind.wrap .u8 (a0.length : Int))] : List Int).map Wa))]) (L := []) (n := 0) ?_ ?_
 ·exact y6 (M := []) rfl (S2 rfl rfl TT) TT
 refine zd ?_
 refine ze ?_
 obtain ⟨h1, h⟩ := zc h
 refine AI h1 ?_
 obtain ⟨v1, h2, h⟩ := bind_some h
 refine PFn.call (zf9 h2) (AI (VS rfl) TT) ?_
 refine zd ?_
 refine ze ?_
 refine AI (by decide) ?_
 refine AI (by decide) ?_
 refine AI (by decide) ?_
 refine EX (([(IntKind.wrap .u8 (v1.fdiv (2 ^ (min (24 : Int).toNat (IntKind.bits .u32))))), (IntKind.wrap .u8 (v1.fdiv (2 ^ (min (16 : Int).toNat (IntKind.bits .u32))))), (IntKind.wrap .u8 (v1.fdiv (2 ^ (min (8 : Int).toNat (IntKind.bits .u32))))), (IntKind.wrap .u8 v1)] : List Int).map Wa) (AI (z8b ([(IntKind.wrap .u8 (v1.fdiv (2 ^ (min (24 : Int).toNat (IntKind.bits .u32))))), (IntKind.wrap .u8 (v1.fdiv (2 ^ (min (16 : Int).toNat (IntKind.bits .u32))))), (IntKind.wrap .u8 (v1.fdiv (2 ^ (min (8 : Int).toNat (IntKind.bits .u32))))), (IntKind.wrap .u8 v1)] : List Int)) (AI (z3l ([(IntKind.wrap .u8 (v1.fdiv (2 ^ (min (24 : Int).toNat (IntKind.bits .u32))))), (IntKind.wrap .u8 (v1.fdiv (2 ^ (min (16 : Int).toNat (IntKind.bits .u32))))), (IntKind.wrap .u8 (v1.fdiv (2 ^ (min (8 : Int).toNat (IntKind.bits .u32))))), (IntKind.wrap .u8 v1)] : List Int)) ?_))
 obtain ⟨h3, h⟩ := zc h
 refine AI h3 ?_
 obtain ⟨h4, h⟩ := zc h
 refine AI h4 ?_
 refine LWp.sim (e := [(2, .str (((([(IntKind.wrap .u8 ((a0.length : Int).fdiv (2 ^ (min (8 : Int).toNat (IntKind.bits .i64))))), (IntKind.wrap .u8 (a0.length : Int))] : List Int).map Wa) ++ (([(IntKind.wrap .u8 (v1.fdiv (2 ^ (min (24 : Int).toNat (IntKind.bits .u32))))), (IntKind.wrap .u8 (v1.fdiv (2 ^ (min (16 : Int).toNat (IntKind.bits .u32))))), (IntKind.wrap .u8 (v1.fdiv (2 ^ (min (8 : Int).toNat (IntKind.bits .u32))))), (IntKind.wrap .u8 v1)] : List Int).map Wa)) ++ a0))]) (L := []) (n := 0) ?_ ?_
 ·exact y6 (M := []) rfl (AI (VS rfl) TT) TT
 refine u5 ?_
 cases h
 exact AI TT (AI rfl (VS rfl))
theorem zyu {a0 : List UInt8} {m : Option Nat} {o : (List UInt8)} (h : kw m a0 = some o) : PFn Tryz.prog 81 [.str a0] (.str o) := PFn.ofFnW (L := zz7) zw9 zu4 (NB rfl) rfl (zjj h)
def zi6 : LCode := (.seq (.region [⟨some 1, .box (.t 0), none⟩,
 ⟨some 2, .mv (.c (.int .i64 0)), none⟩])
 (.seq (.block 0
  (.seq (.region [⟨some 4, .faddr 0 (.t 1), none⟩,
   ⟨some 5, .load false 1 (.t 4), none⟩,
   ⟨some 6, .bin .eql (.t 5) (.c (.str [])), none⟩,
   ⟨some 7, .mv (.t 6), none⟩,
   ⟨some 8, .faddr 2 (.t 1), some (7, false)⟩,
   ⟨some 9, .load false 1 (.t 8), some (7, false)⟩,
   ⟨some 10, .mv (.t 9), some (7, false)⟩,
   ⟨some 11, .faddr 1 (.t 1), some (10, true)⟩,
   ⟨some 12, .load false 1 (.t 11), some (10, true)⟩,
   ⟨some 13, .bin .neq (.t 12) (.c (.str [])), some (10, true)⟩,
   ⟨some 14, .pick (.t 10) (.t 13) (.c (.bool false)), some (7, false)⟩,
   ⟨some 15, .pick (.t 7) (.c (.bool true)) (.t 14), none⟩,
   ⟨some 3, .mv (.t 15), none⟩])
  (.cond (.t 3)
   (.seq (.region [⟨some 2, .mv (.c (.int .i64 3)), none⟩])
   .ret)
   (.seq (.region [⟨some 17, .faddr 0 (.t 1), none⟩,
    ⟨some 18, .load false 1 (.t 17), none⟩,
    ⟨some 19, .len true (.t 18), none⟩,
    ⟨some 20, .bin .gtr (.t 19) (.c (.int .i64 60)), none⟩,
    ⟨some 21, .mv (.t 20), none⟩,
    ⟨some 22, .faddr 1 (.t 1), some (21, false)⟩,
    ⟨some 23, .load false 1 (.t 22), some (21, false)⟩,
    ⟨some 24, .len true (.t 23), some (21, false)⟩,
    ⟨some 25, .bin .gtr (.t 24) (.c (.int .i64 3000)), some (21, false)⟩,
    ⟨some 26, .pick (.t 21) (.c (.bool true)) (.t 25), none⟩,
    ⟨some 16, .mv (.t 26), none⟩])
   (.cond (.t 16)
    (.seq (.region [⟨some 2, .mv (.c (.int .i64 2)), none⟩])
    .ret)
    .skip)))))
 (.seq (.region [⟨some 2, .mv (.c (.int .i64 0)), none⟩])
 .ret)))
def zby : Lay := ⟨27, [], false⟩
def zao : List LRes := [.t 2]
def zrz : LFn := ⟨1, zby, zi6, zao⟩
theorem zpv : ww Tryz.prog [] 105 = some zrz := by kernel_rfl
theorem zq5 : Z9 Tryz.prog 105 := ⟨_, Tryz.func105, rfl, rfl⟩
noncomputable def jm (m : Option Nat) (a0 : G_QRecord) : Option Int :=
 if ((a0.f_Key == ([] : List UInt8)) || (a0.f_Deleted && (!(a0.f_Value == ([] : List UInt8))))) = true then
  some 3
 else
  if ((decide ((a0.f_Key.length : Int) > 60)) || (decide ((a0.f_Value.length : Int) > 3000))) = true then
   some 2
  else
   some 0
def y1a (a0 : G_QRecord) (o : Int) : Exit → Env → AHeap → Nat → Prop := Zy zao (q6 (.int .i64 o))
theorem zd8 {a0 : G_QRecord} {m : Option Nat} {o : Int} (h : jm m a0 = some o) : LWp Tryz.prog zby 0 zi6 (y1a a0 o) (zz 0 [.agg [.str a0.f_Key, .str a0.f_Value, .bool a0.f_Deleted]]) [] 0 := by
 unfold jm at h
 refine zd ?_
 refine ze ?_
 refine zd ?_
 refine yf ?_
 refine zd ?_
 refine ze ?_
 refine AI (fun hp => hp) ?_
 refine AI (fun hp => hp) ?_
 refine AI (fun hp => hp) ?_
 refine AI (fun hp => hp) ?_
 refine AI (fun hp => (AI hp (fun hc => (z9w hp (bqt hc))))) ?_
 refine AI (fun hc => (bqf hc)) ?_
 refine LWp.sim (e := [(1, .ptr (0, 0) 0 0), (3, .bool ((a0.f_Key == ([] : List UInt8)) || (a0.f_Deleted && (!(a0.f_Value == ([] : List UInt8))))))]) (L := [((0, 0), .one [.str a0.f_Key, .str a0.f_Value, .bool a0.f_Deleted])]) (n := 1) ?_ ?_
 ·exact y6 (M := [((0, 0), (0, 0))]) rfl (AI (Vw.ptr _ _ _ _ rfl) (AI (VS rfl) TT)) (AI (AI rfl (BVw.oneL (S2 rfl rfl (AI (VS rfl) TT)))) TT)
 refine qj (v := ((a0.f_Key == ([] : List UInt8)) || (a0.f_Deleted && (!(a0.f_Value == ([] : List UInt8)))))) rfl TT (fun h1 => ?_) (fun h1 => ?_)
 ·have h := zk h1 h
  refine zd ?_
  refine ze ?_
  refine u5 ?_
  cases h
  exact AI TT (AI rfl (VS rfl))
 ·have h := zw h1 h
  refine zd ?_
  refine ze ?_
  refine AI (fun hp => hp) ?_
  refine AI (fun hp => hp) ?_
  refine AI (fun hp => hp) ?_
  refine AI (fun hc => (bqf hc)) ?_
  refine LWp.sim (e := [(16, .bool ((decide ((a0.f_Key.length : Int) > 60)) || (decide ((a0.f_Value.length : Int) > 3000))))]) (L := []) (n := 0) ?_ ?_
  ·exact y6 (M := []) rfl (AI (VS rfl) TT) TT
  refine qj (v := ((decide ((a0.f_Key.length : Int) > 60)) || (decide ((a0.f_Value.length : Int) > 3000)))) rfl TT (fun h2 => ?_) (fun h2 => ?_)
  ·have h := zk h2 h
   refine zd ?_
   refine ze ?_
   refine u5 ?_
   cases h
   exact AI TT (AI rfl (VS rfl))
  ·have h := zw h2 h
   refine qv ?_
   refine zd ?_
   refine ze ?_
   refine u5 ?_
   cases h
   exact AI TT (AI rfl (VS rfl))
theorem zuv {a0 : G_QRecord} {m : Option Nat} {o : Int} (h : jm m a0 = some o) : PFn Tryz.prog 105 [.agg [.str a0.f_Key, .str a0.f_Value, .bool a0.f_Deleted]] (.int .i64 o) := PFn.ofFnW (L := zrz) zpv zq5 (NB rfl) rfl (zd8 h)
def zsa : LCode := (.seq (.region [⟨some 2, .alloc [(.str []), (.str []), (.bool false)], none⟩,
 ⟨some 3, .mv (.c (.bool false)), none⟩])
 (.seq (.seq (.region [⟨some 6, .mv (.t 0), none⟩,
  ⟨some 7, .len true (.t 6), none⟩,
  ⟨some 8, .bin .lss (.t 7) (.c (.int .i64 2)), none⟩,
  ⟨some 9, .mv (.t 8), none⟩,
  ⟨some 10, .mv (.t 0), some (9, false)⟩,
  ⟨some 11, .idxS (.t 10) (.c (.int .i64 0)), some (9, false)⟩,
  ⟨some 12, .bin .gtr (.t 11) (.c (.int .u8 1)), some (9, false)⟩,
  ⟨some 13, .pick (.t 9) (.c (.bool true)) (.t 12), none⟩,
  ⟨some 14, .mv (.t 13), none⟩,
  ⟨some 15, .mv (.t 0), some (14, false)⟩,
  ⟨some 16, .len true (.t 15), some (14, false)⟩,
  ⟨some 17, .mv (.t 0), some (14, false)⟩,
  ⟨some 18, .idxS (.t 17) (.c (.int .i64 1)), some (14, false)⟩,
  ⟨some 19, .conv (.int .i64) (.t 18), some (14, false)⟩,
  ⟨some 20, .bin .add (.c (.int .i64 2)) (.t 19), some (14, false)⟩,
  ⟨some 21, .bin .lss (.t 16) (.t 20), some (14, false)⟩,
  ⟨some 22, .pick (.t 14) (.c (.bool true)) (.t 21), none⟩])
 (.cond (.t 22)
  (.seq (.region [⟨some 23, .build [(.str []), (.str []), (.bool false)] [], none⟩,
   ⟨none, .store 3 (.t 2) (.t 23), none⟩,
   ⟨some 3, .mv (.c (.bool false)), none⟩])
  .ret)
  .skip))
 (.seq (.region [⟨some 24, .mv (.t 0), none⟩,
  ⟨some 25, .idxS (.t 24) (.c (.int .i64 1)), none⟩,
  ⟨some 26, .conv (.int .i64) (.t 25), none⟩,
  ⟨some 27, .bin .add (.c (.int .i64 2)) (.t 26), none⟩,
  ⟨some 4, .mv (.t 27), none⟩])
 (.seq (.draw [⟨⟨some 28, .mv (.t 0), none⟩, []⟩,
  ⟨⟨some 29, .mv (.t 4), none⟩, []⟩,
  ⟨⟨some 30, .slStr (.t 28) (some (.c (.int .i64 2))) (some (.t 29)), none⟩, []⟩,
  ⟨⟨some 31, .mv (.t 0), none⟩, []⟩,
  ⟨⟨some 32, .mv (.t 4), none⟩, []⟩,
  ⟨⟨some 33, .slStr (.t 31) (some (.t 32)) none, none⟩, []⟩,
  ⟨⟨some 34, .mv (.t 0), none⟩, []⟩,
  ⟨⟨some 35, .idxS (.t 34) (.c (.int .i64 0)), none⟩, []⟩,
  ⟨⟨some 36, .bin .eql (.t 35) (.c (.int .u8 1)), none⟩, []⟩,
  ⟨⟨some 37, .build [(.str []), (.str []), (.bool false)] [(0, 1, (.t 30)), (1, 1, (.t 33)), (2, 1, (.t 36))], none⟩, []⟩,
  ⟨⟨some 5, .alloc [(.str []), (.str []), (.bool false)], none⟩, []⟩,
  ⟨⟨none, .store 3 (.t 5) (.t 37), none⟩, []⟩])
 (.seq (.draw [⟨⟨some 38, .load true 3 (.t 5), none⟩, []⟩,
  ⟨⟨some 39, .load true 3 (.t 5), none⟩, []⟩,
  ⟨⟨some 40, .call 105 [(.t 39)], none⟩, [0]⟩,
  ⟨⟨some 41, .bin .eql (.t 40) (.c (.int .i64 0)), none⟩, []⟩,
  ⟨⟨none, .store 3 (.t 2) (.t 38), none⟩, []⟩,
  ⟨⟨some 3, .mv (.t 41), none⟩, []⟩])
 .ret)))))
def zf8 : Lay := ⟨42, [], false⟩
def zlp : List LRes := [.cell 2 true 3, .t 3]
def zxu : LFn := ⟨1, zf8, zsa, zlp⟩
theorem zwl : ww Tryz.prog [] 82 = some zxu := by kernel_rfl
theorem zvq : Z9 Tryz.prog 82 := ⟨_, Tryz.func82, rfl, rfl⟩
noncomputable def u1 (m : Option Nat) (a0 : List UInt8) : Option (G_QRecord × Bool) :=
 if (((decide ((a0.length : Int) < 2)) == false) = true → (0 : Int) ≤ 0 ∧ 0 < (a0.length : Int)) then
 if ((((decide ((a0.length : Int) < 2)) || (decide ((((a0.getD (0 : Int).toNat 0).toNat : Nat) : Int) > 1))) == false) = true → (0 : Int) ≤ 1 ∧ 1 < (a0.length : Int)) then
 if (((decide ((a0.length : Int) < 2)) || (decide ((((a0.getD (0 : Int).toNat 0).toNat : Nat) : Int) > 1))) || (decide ((a0.length : Int) < (W ((2 : Int) + (W (((a0.getD (1 : Int).toNat 0).toNat : Nat) : Int))))))) = true then
  some ((G_QRecord.mk ([] : List UInt8) ([] : List UInt8) false), false)
 else
  if (0 : Int) ≤ 1 ∧ 1 < (a0.length : Int) then
  if (0 : Int) ≤ 2 ∧ (2 : Int) ≤ (W ((2 : Int) + (W (((a0.getD (1 : Int).toNat 0).toNat : Nat) : Int)))) ∧ (W ((2 : Int) + (W (((a0.getD (1 : Int).toNat 0).toNat : Nat) : Int)))) ≤ (a0.length : Int) then
  if (0 : Int) ≤ (W ((2 : Int) + (W (((a0.getD (1 : Int).toNat 0).toNat : Nat) : Int)))) ∧ (W ((2 : Int) + (W (((a0.getD (1 : Int).toNat 0).toNat : Nat) : Int)))) ≤ (a0.length : Int) then
  if (0 : Int) ≤ 0 ∧ 0 < (a0.length : Int) then
  (jm m (G_QRecord.mk ((a0.take (W ((2 : Int) + (W (((a0.getD (1 : Int).toNat 0).toNat : Nat) : Int)))).toNat).drop (2 : Int).toNat) ((a0.take a0.length).drop (W ((2 : Int) + (W (((a0.getD (1 : Int).toNat 0).toNat : Nat) : Int)))).toNat) ((((a0.getD (0 : Int).toNat 0).toNat : Nat) : Int) == 1))).bind fun v1 =>
  some ((G_QRecord.mk ((a0.take (W ((2 : Int) + (W (((a0.getD (1 : Int).toNat 0).toNat : Nat) : Int)))).toNat).drop (2 : Int).toNat) ((a0.take a0.length).drop (W ((2 : Int) + (W (((a0.getD (1 : Int).toNat 0).toNat : Nat) : Int)))).toNat) ((((a0.getD (0 : Int).toNat 0).toNat : Nat) : Int) == 1)), (v1 == 0))
  else none
  else none
  else none
  else none
 else none
 else none
def y28 (a0 : List UInt8) (o : G_QRecord × Bool) : Exit → Env → AHeap → Nat → Prop := Zy zlp (q6 (.tup [.agg [.str o.1.f_Key, .str o.1.f_Value, .bool o.1.f_Deleted], .bool o.2]))
theorem zjs {a0 : List UInt8} {m : Option Nat} {o : G_QRecord × Bool} (h : u1 m a0 = some o) : LWp Tryz.prog zf8 0 zsa (y28 a0 o) (zz 0 [.str a0]) [] 0 := by
 unfold u1 at h
 refine zd ?_
 refine ze ?_
 refine zd ?_
 refine zd ?_
 refine ze ?_
 obtain ⟨h1, h⟩ := zc h
 refine AI (fun hp => (AI hp (h1 hp))) ?_
 refine AI (fun hp => hp) ?_
 refine AI (fun hc => (bqf hc)) ?_
 refine AI (fun hp => hp) ?_
 obtain ⟨h2, h⟩ := zc h
 refine AI (fun hp => (AI hp (h2 hp))) ?_
 refine AI (fun hp => hp) ?_
 refine AI (fun hp => hp) ?_
 refine AI (fun hp => (AI hp hp)) ?_
 refine AI (fun hc => (bqf hc)) ?_
 refine LWp.sim (e := [(0, .str a0), (2, .ptr (0, 0) 0 0), (22, .bool (((decide ((a0.length : Int) < 2)) || (decide ((((a0.getD (0 : Int).toNat 0).toNat : Nat) : Int) > 1))) || (decide ((a0.length : Int) < (W ((2 : Int) + (W (((a0.getD (1 : Int).toNat 0).toNat : Nat) : Int))))))))]) (L := [((0, 0), .one [.str ([] : List UInt8), .str ([] : List UInt8), .bool false])]) (n := 1) ?_ ?_
 ·exact y6 (M := [((0, 0), (0, 0))]) rfl (AI (VS rfl) (AI (Vw.ptr _ _ _ _ rfl) (AI (VS rfl) TT))) (AI (AI rfl (BVw.oneL (S2 rfl rfl (AI (VS rfl) TT)))) TT)
 refine qj (v := (((decide ((a0.length : Int) < 2)) || (decide ((((a0.getD (0 : Int).toNat 0).toNat : Nat) : Int) > 1))) || (decide ((a0.length : Int) < (W ((2 : Int) + (W (((a0.getD (1 : Int).toNat 0).toNat : Nat) : Int)))))))) rfl TT (fun h3 => ?_) (fun h3 => ?_)
 ·have h := zk h3 h
  refine zd ?_
  refine ze ?_
  refine u5 ?_
  cases h
  exact AI (AI TT (AI rfl (NB rfl))) (AI TT (AI rfl (VS rfl)))
 ·have h := zw h3 h
  refine qv ?_
  refine zd ?_
  refine ze ?_
  obtain ⟨h4, h⟩ := zc h
  refine AI h4 ?_
  refine zd ?_
  refine z4i rfl ?_
  obtain ⟨h5, h⟩ := zc h
  refine AI h5 ?_
  obtain ⟨h6, h⟩ := zc h
  refine AI (AI (And.left h6) (AI (And.right h6) (Int.le_refl _))) ?_
  obtain ⟨h7, h⟩ := zc h
  refine AI h7 ?_
  refine LWp.sim (e := [(2, .ptr (0, 0) 0 0), (5, .ptr (1, 0) 0 0)]) (L := [((0, 0), .one [.str ([] : List UInt8), .str ([] : List UInt8), .bool false]), ((1, 0), .one [.str ((a0.take (W ((2 : Int) + (W (((a0.getD (1 : Int).toNat 0).toNat : Nat) : Int)))).toNat).drop (2 : Int).toNat), .str ((a0.take a0.length).drop (W ((2 : Int) + (W (((a0.getD (1 : Int).toNat 0).toNat : Nat) : Int)))).toNat), .bool ((((a0.getD (0 : Int).toNat 0).toNat : Nat) : Int) == 1)])]) (n := 2) ?_ ?_
  ·exact y6 (M := [((0, 0), (0, 0)), ((1, 0), (1, 0))]) rfl (AI (Vw.ptr _ _ _ _ rfl) (AI (Vw.ptr _ _ _ _ rfl) TT)) (AI (AI rfl (BVw.oneL (S2 rfl rfl (AI (VS rfl) TT)))) (AI (AI rfl (BVw.oneL (S2 rfl rfl (AI (VS rfl) TT)))) TT))
  refine zd ?_
  refine z86 ?_
  obtain ⟨v1, h8, h⟩ := bind_some h
  refine PFn.call (zuv h8) (AI (VS rfl) TT) ?_
  refine AI rfl ?_
  refine u5 ?_
  cases h
  exact AI (AI TT (AI rfl (NB rfl))) (AI TT (AI rfl (VS rfl)))
theorem y0v {a0 : List UInt8} {m : Option Nat} {o : G_QRecord × Bool} (h : u1 m a0 = some o) : PFn Tryz.prog 82 [.str a0] (.tup [.agg [.str o.1.f_Key, .str o.1.f_Value, .bool o.1.f_Deleted], .bool o.2]) := PFn.ofFnW (L := zxu) zwl zvq (NB rfl) rfl (zjs h)
def zr6 : LCode := (.seq (.region [⟨some 2, .alloc [(.str []), (.str []), (.bool false)], none⟩,
 ⟨some 3, .mv (.c (.int .i64 0)), none⟩,
 ⟨some 4, .mv (.c (.int .i64 0)), none⟩])
 (.seq (.seq (.region [⟨some 7, .mv (.t 0), none⟩,
  ⟨some 8, .len true (.t 7), none⟩,
  ⟨some 9, .bin .lss (.t 8) (.c (.int .i64 6)), none⟩])
 (.cond (.t 9)
  (.seq (.region [⟨some 10, .build [(.str []), (.str []), (.bool false)] [], none⟩,
   ⟨none, .store 3 (.t 2) (.t 10), none⟩,
   ⟨some 3, .mv (.c (.int .i64 0)), none⟩,
   ⟨some 4, .mv (.c (.int .i64 0)), none⟩])
  .ret)
  .skip))
 (.seq (.quiet [⟨some 11, .mv (.t 0), none⟩,
  ⟨some 12, .idxS (.t 11) (.c (.int .i64 0)), none⟩,
  ⟨some 13, .conv (.int .i64) (.t 12), none⟩,
  ⟨some 14, .bin .shl (.t 13) (.c (.int .u64 8)), none⟩,
  ⟨some 15, .bin .add (.c (.int .i64 6)) (.t 14), none⟩,
  ⟨some 16, .mv (.t 0), none⟩,
  ⟨some 17, .idxS (.t 16) (.c (.int .i64 1)), none⟩,
  ⟨some 18, .conv (.int .i64) (.t 17), none⟩,
  ⟨some 19, .bin .add (.t 15) (.t 18), none⟩,
  ⟨some 3, .mv (.t 19), none⟩])
 (.seq (.seq (.region [⟨some 20, .mv (.t 0), none⟩,
  ⟨some 21, .len true (.t 20), none⟩,
  ⟨some 22, .mv (.t 3), none⟩,
  ⟨some 23, .bin .lss (.t 21) (.t 22), none⟩])
 (.cond (.t 23)
  (.seq (.region [⟨some 24, .build [(.str []), (.str []), (.bool false)] [], none⟩,
   ⟨none, .store 3 (.t 2) (.t 24), none⟩,
   ⟨some 3, .mv (.c (.int .i64 0)), none⟩,
   ⟨some 4, .mv (.c (.int .i64 0)), none⟩])
  .ret)
  .skip))
 (.seq (.region [⟨some 25, .mv (.t 0), none⟩,
  ⟨some 26, .mv (.t 3), none⟩,
  ⟨some 27, .slStr (.t 25) (some (.c (.int .i64 6))) (some (.t 26)), none⟩,
  ⟨some 5, .mv (.t 27), none⟩])
 (.seq (.seq (.draw [⟨⟨some 28, .mv (.t 5), none⟩, []⟩,
  ⟨⟨some 30, .mv (.t 0), none⟩, []⟩,
  ⟨⟨some 31, .mv (.t 3), none⟩, []⟩,
  ⟨⟨some 32, .slStr (.t 30) none (some (.t 31)), none⟩, []⟩,
  ⟨⟨some 29, .call 81 [(.t 28)], none⟩, []⟩,
  ⟨⟨some 33, .bin .neq (.t 29) (.t 32), none⟩, []⟩])
 (.cond (.t 33)
  (.seq (.region [⟨some 34, .build [(.str []), (.str []), (.bool false)] [], none⟩,
   ⟨none, .store 3 (.t 2) (.t 34), none⟩,
   ⟨some 3, .mv (.c (.int .i64 0)), none⟩,
   ⟨some 4, .mv (.c (.int .i64 13)), none⟩])
  .ret)
  .skip))
 (.seq (.region [⟨some 36, .mv (.t 5), none⟩,
  ⟨some 37, .call 82 [(.t 36)], none⟩,
  ⟨some 35, .mv (.t 37), none⟩,
  ⟨some 38, .ext 0 (.t 35), none⟩,
  ⟨some 39, .ext 1 (.t 35), none⟩,
  ⟨none, .store 3 (.t 2) (.t 38), none⟩,
  ⟨some 6, .mv (.t 39), none⟩])
 (.seq (.seq (.region [⟨some 40, .mv (.t 6), none⟩,
  ⟨some 41, .un .not (.t 40), none⟩])
 (.cond (.t 41)
  (.seq (.region [⟨some 42, .build [(.str []), (.str []), (.bool false)] [], none⟩,
   ⟨none, .store 3 (.t 2) (.t 42), none⟩,
   ⟨some 3, .mv (.c (.int .i64 0)), none⟩,
   ⟨some 4, .mv (.c (.int .i64 3)), none⟩])
  .ret)
  .skip))
 (.seq (.region [⟨some 43, .load true 3 (.t 2), none⟩,
  ⟨some 44, .mv (.t 3), none⟩,
  ⟨none, .store 3 (.t 2) (.t 43), none⟩,
  ⟨some 3, .mv (.t 44), none⟩,
  ⟨some 4, .mv (.c (.int .i64 0)), none⟩])
 .ret)))))))))
def zez : Lay := ⟨45, [], false⟩
def zge : List LRes := [.cell 2 true 3, .t 3, .t 4]
def y04 : LFn := ⟨1, zez, zr6, zge⟩
theorem zvg : ww Tryz.prog [] 55 = some y04 := by kernel_rfl
theorem zux : Z9 Tryz.prog 55 := ⟨_, Tryz.func55, rfl, rfl⟩
noncomputable def uz (m : Option Nat) (a0 : List UInt8) : Option (G_QRecord × Int × Int) :=
 if (decide ((a0.length : Int) < 6)) = true then
  some ((G_QRecord.mk ([] : List UInt8) ([] : List UInt8) false), 0, 0)
 else
  if (0 : Int) ≤ 0 ∧ 0 < (a0.length : Int) then
  if (0 : Int) ≤ 1 ∧ 1 < (a0.length : Int) then
  if (decide ((a0.length : Int) < (W ((W ((6 : Int) + (W ((W (((a0.getD (0 : Int).toNat 0).toNat : Nat) : Int)) * 2 ^ (min (8 : Int).toNat (IntKind.bits .i64)))))) + (W (((a0.getD (1 : Int).toNat 0).toNat : Nat) : Int)))))) = true then
   some ((G_QRecord.mk ([] : List UInt8) ([] : List UInt8) false), 0, 0)
  else
   if (0 : Int) ≤ 6 ∧ (6 : Int) ≤ (W ((W ((6 : Int) + (W ((W (((a0.getD (0 : Int).toNat 0).toNat : Nat) : Int)) * 2 ^ (min (8 : Int).toNat (IntKind.bits .i64)))))) + (W (((a0.getD (1 : Int).toNat 0).toNat : Nat) : Int)))) ∧ (W ((W ((6 : Int) + (W ((W (((a0.getD (0 : Int).toNat 0).toNat : Nat) : Int)) * 2 ^ (min (8 : Int).toNat (IntKind.bits .i64)))))) + (W (((a0.getD (1 : Int).toNat 0).toNat : Nat) : Int)))) ≤ (a0.length : Int) then
   if (0 : Int) ≤ (W ((W ((6 : Int) + (W ((W (((a0.getD (0 : Int).toNat 0).toNat : Nat) : Int)) * 2 ^ (min (8 : Int).toNat (IntKind.bits .i64)))))) + (W (((a0.getD (1 : Int).toNat 0).toNat : Nat) : Int)))) ∧ (W ((W ((6 : Int) + (W ((W (((a0.getD (0 : Int).toNat 0).toNat : Nat) : Int)) * 2 ^ (min (8 : Int).toNat (IntKind.bits .i64)))))) + (W (((a0.getD (1 : Int).toNat 0).toNat : Nat) : Int)))) ≤ (a0.length : Int) then
   (kw m ((a0.take (W ((W ((6 : Int) + (W ((W (((a0.getD (0 : Int).toNat 0).toNat : Nat) : Int)) * 2 ^ (min (8 : Int).toNat (IntKind.bits .i64)))))) + (W (((a0.getD (1 : Int).toNat 0).toNat : Nat) : Int)))).toNat).drop (6 : Int).toNat)).bind fun v1 =>
   if (!(v1 == ((a0.take (W ((W ((6 : Int) + (W ((W (((a0.getD (0 : Int).toNat 0).toNat : Nat) : Int)) * 2 ^ (min (8 : Int).toNat (IntKind.bits .i64)))))) + (W (((a0.getD (1 : Int).toNat 0).toNat : Nat) : Int)))).toNat).drop 0))) = true then
    some ((G_QRecord.mk ([] : List UInt8) ([] : List UInt8) false), 0, 13)
   else
    (u1 m ((a0.take (W ((W ((6 : Int) + (W ((W (((a0.getD (0 : Int).toNat 0).toNat : Nat) : Int)) * 2 ^ (min (8 : Int).toNat (IntKind.bits .i64)))))) + (W (((a0.getD (1 : Int).toNat 0).toNat : Nat) : Int)))).toNat).drop (6 : Int).toNat)).bind fun v2 =>
    if (!v2.2) = true then
     some ((G_QRecord.mk ([] : List UInt8) ([] : List UInt8) false), 0, 3)
    else
     some ((G_QRecord.mk v2.1.f_Key v2.1.f_Value v2.1.f_Deleted), (W ((W ((6 : Int) + (W ((W (((a0.getD (0 : Int).toNat 0).toNat : Nat) : Int)) * 2 ^ (min (8 : Int).toNat (IntKind.bits .i64)))))) + (W (((a0.getD (1 : Int).toNat 0).toNat : Nat) : Int)))), 0)
   else none
   else none
  else none
  else none
def y2c (a0 : List UInt8) (o : G_QRecord × Int × Int) : Exit → Env → AHeap → Nat → Prop := Zy zge (q6 (.tup [.agg [.str o.1.f_Key, .str o.1.f_Value, .bool o.1.f_Deleted], .int .i64 o.2.1, .int .i64 o.2.2]))
theorem zfq {a0 : List UInt8} {m : Option Nat} {o : G_QRecord × Int × Int} (h : uz m a0 = some o) : LWp Tryz.prog zez 0 zr6 (y2c a0 o) (zz 0 [.str a0]) [] 0 := by
 unfold uz at h
 refine zd ?_
 refine ze ?_
 refine zd ?_
 refine zd ?_
 refine ze ?_
 refine qj (v := (decide ((a0.length : Int) < 6))) rfl TT (fun h1 => ?_) (fun h1 => ?_)
 ·have h := zk h1 h
  refine zd ?_
  refine ze ?_
  refine LWp.sim (e := [(2, .ptr (0, 0) 0 0), (3, .int .i64 0), (4, .int .i64 0)]) (L := [((0, 0), .one [.str ([] : List UInt8), .str ([] : List UInt8), .bool false])]) (n := 1) ?_ ?_
  ·exact y6 (M := [((0, 0), (0, 0))]) rfl (AI (Vw.ptr _ _ _ _ rfl) (S2 rfl rfl TT)) (AI (AI rfl (BVw.oneL (S2 rfl rfl (AI (VS rfl) TT)))) TT)
  refine u5 ?_
  cases h
  exact AI (AI TT (AI rfl (NB rfl))) (AI TT (AI TT (AI rfl (VS rfl))))
 ·have h := zw h1 h
  refine qv ?_
  refine zd ?_
  refine zry ?_
  obtain ⟨h2, h⟩ := zc h
  refine AI h2 ?_
  refine AI (by decide) ?_
  obtain ⟨h3, h⟩ := zc h
  refine AI h3 ?_
  refine LWp.sim (e := [(0, .str a0), (2, .ptr (0, 0) 0 0), (3, .int .i64 (W ((W ((6 : Int) + (W ((W (((a0.getD (0 : Int).toNat 0).toNat : Nat) : Int)) * 2 ^ (min (8 : Int).toNat (IntKind.bits .i64)))))) + (W (((a0.getD (1 : Int).toNat 0).toNat : Nat) : Int)))))]) (L := [((0, 0), .one [.str ([] : List UInt8), .str ([] : List UInt8), .bool false])]) (n := 1) ?_ ?_
  ·exact y6 (M := [((0, 0), (0, 0))]) rfl (AI (VS rfl) (AI (Vw.ptr _ _ _ _ rfl) (AI (VS rfl) TT))) (AI (AI rfl (BVw.oneL (S2 rfl rfl (AI (VS rfl) TT)))) TT)
  refine zd ?_
  refine zd ?_
  refine ze ?_
  refine qj (v := (decide ((a0.length : Int) < (W ((W ((6 : Int) + (W ((W (((a0.getD (0 : Int).toNat 0).toNat : Nat) : Int)) * 2 ^ (min (8 : Int).toNat (IntKind.bits .i64)))))) + (W (((a0.getD (1 : Int).toNat 0).toNat : Nat) : Int))))))) rfl TT (fun h4 => ?_) (fun h4 => ?_)
  ·have h := zk h4 h
   refine zd ?_
   refine ze ?_
   refine LWp.sim (e := [(2, .ptr (0, 0) 0 0), (3, .int .i64 0), (4, .int .i64 0)]) (L := [((0, 0), .one [.str ([] : List UInt8), .str ([] : List UInt8), .bool false])]) (n := 1) ?_ ?_
   ·exact y6 (M := [((0, 0), (0, 0))]) rfl (AI (Vw.ptr _ _ _ _ rfl) (S2 rfl rfl TT)) (AI (AI rfl (BVw.oneL (S2 rfl rfl (AI (VS rfl) TT)))) TT)
   refine u5 ?_
   cases h
   exact AI (AI TT (AI rfl (NB rfl))) (AI TT (AI TT (AI rfl (VS rfl))))
  ·have h := zw h4 h
   refine qv ?_
   refine zd ?_
   refine ze ?_
   obtain ⟨h5, h⟩ := zc h
   refine AI h5 ?_
   refine LWp.sim (e := [(0, .str a0), (2, .ptr (0, 0) 0 0), (3, .int .i64 (W ((W ((6 : Int) + (W ((W (((a0.getD (0 : Int).toNat 0).toNat : Nat) : Int)) * 2 ^ (min (8 : Int).toNat (IntKind.bits .i64)))))) + (W (((a0.getD (1 : Int).toNat 0).toNat : Nat) : Int))))), (5, .str ((a0.take (W ((W ((6 : Int) + (W ((W (((a0.getD (0 : Int).toNat 0).toNat : Nat) : Int)) * 2 ^ (min (8 : Int).toNat (IntKind.bits .i64)))))) + (W (((a0.getD (1 : Int).toNat 0).toNat : Nat) : Int)))).toNat).drop (6 : Int).toNat))]) (L := [((0, 0), .one [.str ([] : List UInt8), .str ([] : List UInt8), .bool false])]) (n := 1) ?_ ?_
   ·exact y6 (M := [((0, 0), (0, 0))]) rfl (AI (VS rfl) (AI (Vw.ptr _ _ _ _ rfl) (S2 rfl rfl TT))) (AI (AI rfl (BVw.oneL (S2 rfl rfl (AI (VS rfl) TT)))) TT)
   refine zd ?_
   refine zd ?_
   refine z4i rfl ?_
   obtain ⟨h6, h⟩ := zc h
   refine AI (AI (Int.le_refl _) h6) ?_
   obtain ⟨v1, h7, h⟩ := bind_some h
   refine PFn.call (zyu h7) (AI (VS rfl) TT) ?_
   refine qj (v := (!(v1 == ((a0.take (W ((W ((6 : Int) + (W ((W (((a0.getD (0 : Int).toNat 0).toNat : Nat) : Int)) * 2 ^ (min (8 : Int).toNat (IntKind.bits .i64)))))) + (W (((a0.getD (1 : Int).toNat 0).toNat : Nat) : Int)))).toNat).drop 0)))) rfl TT (fun h8 => ?_) (fun h8 => ?_)
   ·have h := zk h8 h
    refine zd ?_
    refine ze ?_
    refine LWp.sim (e := [(2, .ptr (0, 0) 0 0), (3, .int .i64 0), (4, .int .i64 13)]) (L := [((0, 0), .one [.str ([] : List UInt8), .str ([] : List UInt8), .bool false])]) (n := 1) ?_ ?_
    ·exact y6 (M := [((0, 0), (0, 0))]) rfl (AI (Vw.ptr _ _ _ _ rfl) (S2 rfl rfl TT)) (AI (AI rfl (BVw.oneL (S2 rfl rfl (AI (VS rfl) TT)))) TT)
    refine u5 ?_
    cases h
    exact AI (AI TT (AI rfl (NB rfl))) (AI TT (AI TT (AI rfl (VS rfl))))
   ·have h := zw h8 h
    refine qv ?_
    refine zd ?_
    refine ze ?_
    obtain ⟨v2, h9, h⟩ := bind_some h
    refine PFn.call (y0v h9) (AI (VS rfl) TT) ?_
    refine LWp.sim (e := [(2, .ptr (0, 0) 0 0), (3, .int .i64 (W ((W ((6 : Int) + (W ((W (((a0.getD (0 : Int).toNat 0).toNat : Nat) : Int)) * 2 ^ (min (8 : Int).toNat (IntKind.bits .i64)))))) + (W (((a0.getD (1 : Int).toNat 0).toNat : Nat) : Int))))), (6, .bool v2.2)]) (L := [((0, 0), .one [.str v2.1.f_Key, .str v2.1.f_Value, .bool v2.1.f_Deleted])]) (n := 1) ?_ ?_
    ·exact y6 (M := [((0, 0), (0, 0))]) rfl (AI (Vw.ptr _ _ _ _ rfl) (S2 rfl rfl TT)) (AI (AI rfl (BVw.oneL (S2 rfl rfl (AI (VS rfl) TT)))) TT)
    refine zd ?_
    refine zd ?_
    refine ze ?_
    refine qj (v := (!v2.2)) rfl TT (fun h10 => ?_) (fun h10 => ?_)
    ·have h := zk h10 h
     refine zd ?_
     refine ze ?_
     refine u5 ?_
     cases h
     exact AI (AI TT (AI rfl (NB rfl))) (AI TT (AI TT (AI rfl (VS rfl))))
    ·have h := zw h10 h
     refine qv ?_
     refine zd ?_
     refine ze ?_
     refine u5 ?_
     cases h
     exact AI (AI TT (AI rfl (NB rfl))) (AI TT (AI TT (AI rfl (VS rfl))))
theorem zzp {a0 : List UInt8} {m : Option Nat} {o : G_QRecord × Int × Int} (h : uz m a0 = some o) : PFn Tryz.prog 55 [.str a0] (.tup [.agg [.str o.1.f_Key, .str o.1.f_Value, .bool o.1.f_Deleted], .int .i64 o.2.1, .int .i64 o.2.2]) := PFn.ofFnW (L := y04) zvg zux (NB rfl) rfl (zfq h)
def zfk : LCode := (.block 1
 (.seq (.region [⟨some 9, .mv (.t 0), none⟩,
  ⟨some 10, .mv (.t 3), none⟩,
  ⟨some 11, .slStr (.t 9) (some (.t 10)) none, none⟩,
  ⟨some 12, .call 55 [(.t 11)], none⟩,
  ⟨some 8, .mv (.t 12), none⟩,
  ⟨some 13, .ext 0 (.t 8), none⟩,
  ⟨some 14, .ext 1 (.t 8), none⟩,
  ⟨some 15, .ext 2 (.t 8), none⟩,
  ⟨some 5, .alloc [(.str []), (.str []), (.bool false)], none⟩,
  ⟨none, .store 3 (.t 5) (.t 13), none⟩,
  ⟨some 6, .mv (.t 14), none⟩,
  ⟨some 7, .mv (.t 15), none⟩])
 (.seq (.seq (.region [⟨some 16, .mv (.t 6), none⟩,
  ⟨some 17, .bin .eql (.t 16) (.c (.int .i64 0)), none⟩])
 (.cond (.t 17)
  (.seq (.region [⟨some 18, .mv (.t 2), none⟩,
   ⟨some 19, .mv (.t 3), none⟩,
   ⟨some 20, .mv (.t 7), none⟩,
   ⟨some 2, .mv (.t 18), none⟩,
   ⟨some 3, .mv (.t 19), none⟩,
   ⟨some 4, .mv (.t 20), none⟩])
  .ret)
  .skip))
 (.seq (.region [⟨some 21, .mv (.t 2), none⟩,
  ⟨some 22, .load true 3 (.t 5), none⟩,
  ⟨some 23, .mkSl true 3 [(.str []), (.str []), (.bool false)] 1 [(0, (.t 22))], none⟩,
  ⟨some 24, .app true 3 40 (.t 21) (.t 23), none⟩,
  ⟨some 2, .mv (.t 24), none⟩])
 (.region [⟨some 25, .mv (.t 3), none⟩,
  ⟨some 26, .mv (.t 6), none⟩,
  ⟨some 27, .bin .add (.t 25) (.t 26), none⟩,
  ⟨some 3, .mv (.t 27), none⟩])))))
def zsu : LCode := (.seq (.region [⟨some 2, .mv (.c (.val (.slice none 0 0))), none⟩,
 ⟨some 3, .mv (.c (.int .i64 0)), none⟩,
 ⟨some 4, .mv (.c (.int .i64 0)), none⟩])
 (.block 0
  (.loop
   zfk)))
def z2w : Lay := ⟨28, [], false⟩
def zk7 : List LRes := [.t 2, .t 3, .t 4]
def zys : LFn := ⟨1, z2w, zsu, zk7⟩
theorem ztc : ww Tryz.prog [] 38 = some zys := by kernel_rfl
theorem zuj : Z9 Tryz.prog 38 := ⟨_, Tryz.func38, rfl, rfl⟩
def zwj (a0 : List UInt8) (o : (List G_QRecord) × Int × Int) : Exit → Env → AHeap → Nat → Prop := Zy zk7 (q6 (.tup [.isl 3 (o.1.map za) false, .int .i64 o.2.1, .int .i64 o.2.2]))
def z2d (a0 : List UInt8) (s : ((List G_QRecord) × Int)) : Env := [(0, .str a0), (2, .osl (0, 0) 3 (s.1.map za)), (3, .int .i64 s.2)]
def z4q (a0 : List UInt8) (s : ((List G_QRecord) × Int)) : AHeap := [((0, 0), .tok)]
def zar (a0 : List UInt8) (o : ((List G_QRecord) × Int × Int)) : Exit → Env → AHeap → Nat → Prop := (zm 0 (zwj a0 o))
noncomputable def ku (m : Option Nat) (a0 : List UInt8) (v2 : List G_QRecord) (v3 : Int) : Option (((List G_QRecord) × Int) ⊕ ((List G_QRecord) × Int × Int)) :=
 if (0 : Int) ≤ v3 ∧ v3 ≤ (a0.length : Int) then
 (uz m ((a0.take a0.length).drop v3.toNat)).bind fun v5 =>
 if (v5.2.1 == 0) = true then
  Option.map Sum.inr (
   some (v2, v3, v5.2.2))
 else
  if ((v2 ++ ([(G_QRecord.mk v5.1.f_Key v5.1.f_Value v5.1.f_Deleted)] : List G_QRecord)).map za).length * 40 ≤ 140737488355328 then
  some (.inl ((v2 ++ ([(G_QRecord.mk v5.1.f_Key v5.1.f_Value v5.1.f_Deleted)] : List G_QRecord)), (W (v3 + v5.2.1))))
  else none
 else none
noncomputable def ul (m : Option Nat) (a0 : List UInt8) (v2 : List G_QRecord) (v3 : Int) : Option ((List G_QRecord) × Int × Int) := u4 m (fun (s : ((List G_QRecord) × Int)) => ku m a0 s.1 s.2) (v2, v3)
theorem zdr {a0 : List UInt8} {v2 : List G_QRecord} {v3 : Int} {m : Option Nat} {o : ((List G_QRecord) × Int) ⊕ ((List G_QRecord) × Int × Int)} (h : ku m a0 v2 v3 = some o) :
 LWp Tryz.prog z2w 0 zfk (xt 0 1 (z2d a0) (z4q a0) (zar a0) o) [(0, .str a0), (2, .osl (0, 0) 3 (v2.map za)), (3, .int .i64 v3)] [((0, 0), .tok)] 1 := by
 unfold ku at h
 refine yf ?_
 refine zd ?_
 refine ze ?_
 obtain ⟨h8, h⟩ := zc h
 refine AI (AI (And.left h8) (AI (And.right h8) (Int.le_refl _))) ?_
 obtain ⟨v5, h9, h⟩ := bind_some h
 refine PFn.call (zzp h9) (AI (VS rfl) TT) ?_
 refine LWp.sim (e := [(0, .str a0), (2, .osl (0, 0) 3 (v2.map za)), (3, .int .i64 v3), (5, .ptr (1, 0) 0 0), (6, .int .i64 v5.2.1), (7, .int .i64 v5.2.2)]) (L := [((0, 0), .tok), ((1, 0), .one [.str v5.1.f_Key, .str v5.1.f_Value, .bool v5.1.f_Deleted])]) (n := 2) ?_ ?_
 ·exact y6 (M := [((0, 0), (0, 0)), ((1, 0), (1, 0))]) rfl (AI (VS rfl) (AI (Vw.osl _ _ _ _ rfl) (AI (VS rfl) (AI (Vw.ptr _ _ _ _ rfl) (S2 rfl rfl TT))))) (AI (AI rfl BVw.tok) (AI (AI rfl (BVw.oneL (S2 rfl rfl (AI (VS rfl) TT)))) TT))
 refine zd ?_
 refine zd ?_
 refine ze ?_
 refine qj (v := (v5.2.1 == 0)) rfl TT (fun h10 => ?_) (fun h10 => ?_)
 ·have h := zk h10 h
  refine zd ?_
  refine ze ?_
  refine LWp.sim (e := [(2, .osl (0, 0) 3 (v2.map za)), (3, .int .i64 v3), (4, .int .i64 v5.2.2)]) (L := [((0, 0), .tok)]) (n := 1) ?_ ?_
  ·exact y6 (M := [((0, 0), (0, 0))]) rfl (AI (Vw.osl _ _ _ _ rfl) (S2 rfl rfl TT)) (AI (AI rfl BVw.tok) TT)
  refine u5 ?_
  obtain ⟨o, hq, rfl⟩ := Option.map_eq_some_iff.1 h
  replace h := hq; clear hq
  refine AI nofun ?_
  cases h
  exact AI TT (AI TT (AI TT (AI rfl (Vw.tupL (AI (Vw.oslI _ _ _) (S2 rfl rfl TT))))))
 ·have h := zw h10 h
  refine qv ?_
  refine zd ?_
  refine ze ?_
  obtain ⟨h11, h⟩ := zc h
  refine EX ((v2 ++ ([(G_QRecord.mk v5.1.f_Key v5.1.f_Value v5.1.f_Deleted)] : List G_QRecord)).map za) (AI (Y3 za v2 ([(G_QRecord.mk v5.1.f_Key v5.1.f_Value v5.1.f_Deleted)] : List G_QRecord)) (AI h11 ?_))
  refine ze ?_
  cases h
  exact AI rfl (y6 (M := [((0, 0), (2, 0))]) rfl (AI (VS rfl) (AI (Vw.osl _ _ _ _ rfl) (AI (VS rfl) TT))) (AI (AI rfl BVw.tok) TT))
theorem zlk {a0 : List UInt8} {v2 : List G_QRecord} {v3 : Int} {m : Option Nat} {o : ((List G_QRecord) × Int × Int)} (h : ul m a0 v2 v3 = some o) :
 LWp Tryz.prog z2w 0 (.loop zfk) (zm 0 (zwj a0 o)) [(0, .str a0), (2, .osl (0, 0) 3 (v2.map za)), (3, .int .i64 v3)] [((0, 0), .tok)] 1 :=
 yi (m := m) (s := ((v2, v3) : ((List G_QRecord) × Int))) (r := o) (fun (s : ((List G_QRecord) × Int)) => ku m a0 s.1 s.2) (z2d a0) (z4q a0) (zar a0) (fun s o h => zdr h) h
noncomputable def Zf (m : Option Nat) (a0 : List UInt8) : Option ((List G_QRecord) × Int × Int) :=
 ul m a0 [] 0
theorem zgs {a0 : List UInt8} {m : Option Nat} {o : (List G_QRecord) × Int × Int} (h : Zf m a0 = some o) : LWp Tryz.prog z2w 0 zsu (zwj a0 o) (zz 0 [.str a0]) [] 0 := by
 unfold Zf at h
 refine zd ?_
 refine ze ?_
 refine yf ?_
 refine LWp.sim ?_ (zlk h)
 exact y6 (M := []) rfl (AI (VS rfl) (AI (Vw.nilO _ _ (by decide)) (AI (VS rfl) TT))) (AI (AI rfl (AI (by decide) (by decide))) TT)
theorem zyg {a0 : List UInt8} {m : Option Nat} {o : (List G_QRecord) × Int × Int} (h : Zf m a0 = some o) : PFn Tryz.prog 38 [.str a0] (.tup [.isl 3 (o.1.map za) false, .int .i64 o.2.1, .int .i64 o.2.2]) := PFn.ofFnW (L := zys) ztc zuj (NB rfl) rfl (zgs h)
def zs9 : LCode := (.seq (.region [⟨some 2, .mv (.c (.str [])), none⟩,
 ⟨some 3, .mv (.c (.val (.slice none 0 0))), none⟩])
 (.seq (.region [⟨some 7, .mv (.t 0), none⟩,
  ⟨some 8, .mv (.t 0), none⟩,
  ⟨some 9, .len true (.t 8), none⟩,
  ⟨some 10, .mnx false [(.t 9), (.c (.int .i64 40000))], none⟩,
  ⟨some 11, .slStr (.t 7) none (some (.t 10)), none⟩,
  ⟨some 0, .mv (.t 11), none⟩])
 (.seq (.region [⟨some 13, .mv (.t 0), none⟩,
  ⟨some 14, .call 38 [(.t 13)], none⟩,
  ⟨some 12, .mv (.t 14), none⟩,
  ⟨some 15, .ext 0 (.t 12), none⟩,
  ⟨some 16, .ext 1 (.t 12), none⟩,
  ⟨some 17, .ext 2 (.t 12), none⟩,
  ⟨some 4, .mv (.t 15), none⟩,
  ⟨some 5, .mv (.t 16), none⟩,
  ⟨some 6, .mv (.t 17), none⟩])
 (.seq (.region [⟨some 18, .mv (.t 0), none⟩,
  ⟨some 19, .mv (.t 5), none⟩,
  ⟨some 20, .slStr (.t 18) none (some (.t 19)), none⟩,
  ⟨some 21, .mv (.t 4), none⟩,
  ⟨some 2, .mv (.t 20), none⟩,
  ⟨some 3, .mv (.t 21), none⟩])
 .ret))))
def zkm : Lay := ⟨22, [], false⟩
def zlo : List LRes := [.t 2, .t 3]
def y0d : LFn := ⟨1, zkm, zs9, zlo⟩
theorem zu8 : ww Tryz.prog [] 18 = some y0d := by kernel_rfl
theorem zt8 : Z9 Tryz.prog 18 := ⟨_, Tryz.func18, rfl, rfl⟩
noncomputable def kv (m : Option Nat) (a0 : List UInt8) : Option ((List UInt8) × (List G_QRecord)) :=
 if (0 : Int) ≤ (if 40000 < (a0.length : Int) then 40000 else (a0.length : Int)) ∧ (if 40000 < (a0.length : Int) then 40000 else (a0.length : Int)) ≤ (a0.length : Int) then
 (Zf m ((a0.take (if 40000 < (a0.length : Int) then 40000 else (a0.length : Int)).toNat).drop 0)).bind fun v1 =>
 if (0 : Int) ≤ v1.2.1 ∧ v1.2.1 ≤ (((a0.take (if 40000 < (a0.length : Int) then 40000 else (a0.length : Int)).toNat).drop 0).length : Int) then
 some (((((a0.take (if 40000 < (a0.length : Int) then 40000 else (a0.length : Int)).toNat).drop 0).take v1.2.1.toNat).drop 0), v1.1)
 else none
 else none
def y1t (a0 : List UInt8) (o : (List UInt8) × (List G_QRecord)) : Exit → Env → AHeap → Nat → Prop := Zy zlo (q6 (.tup [.str o.1, .isl 3 (o.2.map za) false]))
theorem zlx {a0 : List UInt8} {m : Option Nat} {o : (List UInt8) × (List G_QRecord)} (h : kv m a0 = some o) : LWp Tryz.prog zkm 0 zs9 (y1t a0 o) (zz 0 [.str a0]) [] 0 := by
 unfold kv at h
 refine zd ?_
 refine ze ?_
 refine zd ?_
 refine ze ?_
 obtain ⟨h1, h⟩ := zc h
 refine AI (AI (Int.le_refl _) h1) ?_
 refine LWp.sim (e := [(0, .str ((a0.take (if 40000 < (a0.length : Int) then 40000 else (a0.length : Int)).toNat).drop 0))]) (L := []) (n := 0) ?_ ?_
 ·exact y6 (M := []) rfl (AI (VS rfl) TT) TT
 refine zd ?_
 refine ze ?_
 obtain ⟨v1, h2, h⟩ := bind_some h
 refine PFn.call (zyg h2) (AI (VS rfl) TT) ?_
 refine LWp.sim (e := [(0, .str ((a0.take (if 40000 < (a0.length : Int) then 40000 else (a0.length : Int)).toNat).drop 0)), (4, .isl 3 (v1.1.map za) false), (5, .int .i64 v1.2.1)]) (L := []) (n := 0) ?_ ?_
 ·exact y6 (M := []) rfl (S2 rfl rfl (AI (VS rfl) TT)) TT
 refine zd ?_
 refine ze ?_
 obtain ⟨h3, h⟩ := zc h
 refine AI (AI (Int.le_refl _) h3) ?_
 refine u5 ?_
 cases h
 exact AI TT (AI TT (AI rfl (VS rfl)))
theorem zyf {a0 : List UInt8} {m : Option Nat} {o : (List UInt8) × (List G_QRecord)} (h : kv m a0 = some o) : PFn Tryz.prog 18 [.str a0] (.tup [.str o.1, .isl 3 (o.2.map za) false]) := PFn.ofFnW (L := y0d) zu8 zt8 (NB rfl) rfl (zlx h)
def zrt : LCode := (.seq (.region [⟨some 2, .box (.t 0), none⟩,
 ⟨some 3, .box (.t 1), none⟩,
 ⟨some 4, .mv (.c (.int .i64 0)), none⟩])
 (.seq (.region [⟨some 5, .faddr 0 (.t 2), none⟩,
  ⟨some 6, .load false 1 (.t 5), none⟩,
  ⟨some 7, .faddr 0 (.t 3), none⟩,
  ⟨some 8, .load false 1 (.t 7), none⟩,
  ⟨some 9, .call 41 [(.t 6), (.t 8)], none⟩,
  ⟨some 4, .mv (.t 9), none⟩])
 .ret))
def zih : Lay := ⟨10, [], false⟩
def zfm : List LRes := [.t 4]
def zyi : LFn := ⟨2, zih, zrt, zfm⟩
theorem zvu : ww Tryz.prog [] 40 = some zyi := by kernel_rfl
theorem zto : Z9 Tryz.prog 40 := ⟨_, Tryz.func40, rfl, rfl⟩
noncomputable def uq (m : Option Nat) (a0 : G_QRecord) (a1 : G_QRecord) : Option Int :=
 (Y9 m a0.f_Key a1.f_Key).bind fun v1 =>
 some v1
def y1m (a0 : G_QRecord) (a1 : G_QRecord) (o : Int) : Exit → Env → AHeap → Nat → Prop := Zy zfm (q6 (.int .i64 o))
theorem zf4 {a0 : G_QRecord} {a1 : G_QRecord} {m : Option Nat} {o : Int} (h : uq m a0 a1 = some o) : LWp Tryz.prog zih 0 zrt (y1m a0 a1 o) (zz 0 [.agg [.str a0.f_Key, .str a0.f_Value, .bool a0.f_Deleted], .agg [.str a1.f_Key, .str a1.f_Value, .bool a1.f_Deleted]]) [] 0 := by
 unfold uq at h
 refine zd ?_
 refine ze ?_
 refine zd ?_
 refine ze ?_
 obtain ⟨v1, h1, h⟩ := bind_some h
 refine PFn.call (zsx h1) (S2 rfl rfl TT) ?_
 refine LWp.sim (e := [(4, .int .i64 v1)]) (L := []) (n := 0) ?_ ?_
 ·exact y6 (M := []) rfl (AI (VS rfl) TT) TT
 refine u5 ?_
 cases h
 exact AI TT (AI rfl (VS rfl))
theorem zyo {a0 : G_QRecord} {a1 : G_QRecord} {m : Option Nat} {o : Int} (h : uq m a0 a1 = some o) : PFn Tryz.prog 40 [.agg [.str a0.f_Key, .str a0.f_Value, .bool a0.f_Deleted], .agg [.str a1.f_Key, .str a1.f_Value, .bool a1.f_Deleted]] (.int .i64 o) := PFn.ofFnW (L := zyi) zvu zto (NB rfl) rfl (zf4 h)
noncomputable def zw1 (x y : G_QRecord) : Int := (uq (some 4096) x y).getD 0
theorem zta (x y : G_QRecord) : uq (some 4096) x y = some (zw1 x y) := rfl
noncomputable def w4 (m : Option Nat) (a0 : List G_QRecord) : Option (List G_QRecord) := by classical exact if Go.Sort.SWO (Go.Proofs.ltOf zw1) ∧ a0.length < 4611686018427387904 then some (Xp zw1 a0) else none
theorem zj4 : Z9 Tryz.prog 39 := ⟨_, Tryz.func39, rfl, rfl⟩
theorem zop {m : Option Nat} {a0 : List G_QRecord} {o : List G_QRecord} (h : w4 m a0 = some o) : ACalls Tryz.prog 39 [.msl (0, 0) 3 0 a0.length false, .fn (.func 40) [] []] [((0, 0), .rows 3 (a0.map za))] 3 (Qd 3 (.tup []) [((0, 0), .rows 3 (o.map za))]) := by
 unfold w4 at h
 split at h
 ·rename_i hc
  cases h
  exact z0o Tryz.l39 (by decide) Tryz.isAgg40 Tryz.sizeOf40 za (fun _ => ⟨rfl, rfl⟩) zw1 hc.1 40 (Go.Proofs.enters_of Tryz.func40 (by kernel_rfl) rfl) (fun x y W => PFn.cmp (e := za) (fun _ => rfl) (zyo (zta x y)) W) zj4 rfl _ hc.2 _
 ·cases h
def zlq : LCode := (.seq (.region [⟨some 13, .bin .lss (.t 12) (.t 11), none⟩])
 (.seq (.cond (.t 13)
  .skip
  (.exit 0))
 (.seq (.block 1
  (.seq (.region [⟨some 14, .iaddr 3 (.t 10) (.t 12), none⟩,
   ⟨some 15, .load true 3 (.t 14), none⟩,
   ⟨some 5, .alloc [(.str []), (.str []), (.bool false)], none⟩,
   ⟨none, .store 3 (.t 5) (.t 15), none⟩])
  (.region [⟨some 16, .mv (.t 3), none⟩,
   ⟨some 17, .faddr 0 (.t 5), none⟩,
   ⟨some 18, .load false 1 (.t 17), none⟩,
   ⟨some 19, .load true 3 (.t 5), none⟩,
   ⟨none, .mset [.str] false true [(.str []), (.str []), (.bool false)] (.t 16) (.t 18) (.t 19), none⟩])))
 (.region [⟨some 20, .bin .add (.t 12) (.c (.int .i64 1)), none⟩,
  ⟨some 12, .mv (.t 20), none⟩]))))
def y0j : LCode := (.seq (.cond (.t 24)
 .skip
 (.exit 2))
 (.block 3
  (.seq (.region [⟨some 25, .entry (.t 22), none⟩,
   ⟨some 26, .ext 1 (.t 25), none⟩,
   ⟨some 8, .alloc [(.str []), (.str []), (.bool false)], none⟩,
   ⟨none, .store 3 (.t 8) (.t 26), none⟩])
  (.seq (.region [⟨some 27, .faddr 2 (.t 8), none⟩,
   ⟨some 28, .load false 1 (.t 27), none⟩,
   ⟨some 29, .un .not (.t 28), none⟩])
  (.cond (.t 29)
   (.region [⟨some 30, .mv (.t 6), none⟩,
    ⟨some 31, .load true 3 (.t 8), none⟩,
    ⟨some 32, .mkSl true 3 [(.str []), (.str []), (.bool false)] 1 [(0, (.t 31))], none⟩,
    ⟨some 33, .app false 3 40 (.t 30) (.t 32), none⟩,
    ⟨some 6, .mv (.t 33), none⟩])
   .skip)))))
def zgv : LCode := (.seq (.region [⟨some 23, .next (.t 22), none⟩,
 ⟨some 24, .ext 0 (.t 23), none⟩])
 y0j)
def zbf : LCode := (.seq (.region [⟨some 34, .mv (.t 6), none⟩,
 ⟨some 35, .call 39 [(.t 34), (.c (.fn (.func 40) [] []))], none⟩])
 (.seq (.region [⟨some 36, .mv (.t 6), none⟩,
  ⟨some 2, .mv (.t 36), none⟩])
 .ret))
def zb1 : LCode := (.seq (.region [⟨some 6, .mv (.c (.val (.slice none 0 0))), none⟩])
 (.seq (.seq (.region [⟨some 21, .mv (.t 3), none⟩,
  ⟨some 22, .range (.t 21), none⟩])
 (.block 2
  (.loop
   zgv)))
 zbf))
def zqu : LCode := (.seq (.region [⟨some 2, .mv (.c (.val (.slice none 0 0))), none⟩])
 (.seq (.region [⟨some 9, .mkmap none, none⟩,
  ⟨some 3, .mv (.t 9), none⟩])
 (.seq (.seq (.region [⟨some 10, .mv (.t 0), none⟩,
  ⟨some 11, .len false (.t 10), none⟩,
  ⟨some 12, .mv (.c (.int .i64 0)), none⟩])
 (.block 0
  (.loop
   zlq)))
 zb1)))
def Ym : Lay := ⟨37, [33], false⟩
def zep : List LRes := [.t 2]
def zzn : LFn := ⟨1, Ym, zqu, zep⟩
theorem ztw : ww Tryz.prog [33] 19 = some zzn := by kernel_rfl
theorem zwn : Z9 Tryz.prog 19 := ⟨_, Tryz.func19, rfl, rfl⟩
def z9d (a0 : List G_QRecord) (o : (List G_QRecord)) : Exit → Env → AHeap → Nat → Prop := Zy zep (q6 (.isl 3 (o.map za) false))
def z1l (a0 : List G_QRecord) (s : (Int × (List ((List UInt8) × G_QRecord)))) : Env := [(3, .map (0, 0)), (10, .isl 3 (a0.map za) false), (11, .int .i64 ((a0.map za).length : Int)), (12, .int .i64 s.1)]
def z4x (a0 : List G_QRecord) (s : (Int × (List ((List UInt8) × G_QRecord)))) : AHeap := [((0, 0), .amap (s.2.map (em Yz jw)))]
def zam (a0 : List G_QRecord) (o : (List G_QRecord)) : Exit → Env → AHeap → Nat → Prop := (zm 0 (ug Tryz.prog Ym 0 zb1 (z9d a0 o)))
noncomputable def jn (m : Option Nat) (v2 : List ((List UInt8) × G_QRecord)) (v3 : List G_QRecord) (v4 : Nat) : Option ((List G_QRecord) ⊕ (List G_QRecord)) :=
 if (!(((v2.getD v4 default).2).f_Deleted)) = true then
  if ((v3 ++ ([(G_QRecord.mk (((v2.getD v4 default).2).f_Key) (((v2.getD v4 default).2).f_Value) (((v2.getD v4 default).2).f_Deleted))] : List G_QRecord)).map za).length * 40 ≤ 140737488355328 then
  some (.inl (v3 ++ ([(G_QRecord.mk (((v2.getD v4 default).2).f_Key) (((v2.getD v4 default).2).f_Value) (((v2.getD v4 default).2).f_Deleted))] : List G_QRecord)))
  else none
 else
  some (.inl v3)
noncomputable def k6 (m : Option Nat) (v3 : List G_QRecord) : Option (List G_QRecord) :=
 (w4 m v3).bind fun v5 =>
 if v5.length = v3.length then
 some v5
 else none
noncomputable def wm (m : Option Nat) (v2 : List ((List UInt8) × G_QRecord)) (v3 : List G_QRecord) : Option ((List G_QRecord) ⊕ (List G_QRecord)) :=
 Option.map Sum.inr (
  k6 m v3)
noncomputable def Zq (m : Option Nat) (v2 : List ((List UInt8) × G_QRecord)) (v3 : List G_QRecord) : Option (List G_QRecord) := Qh v2.length (fun j (s : (List G_QRecord)) => jn m v2 s j) (fun s => wm m v2 s) (v2.length + 1) [] v3
noncomputable def vz (m : Option Nat) (v2 : List ((List UInt8) × G_QRecord)) : Option (List G_QRecord) :=
 Zq m v2 ([] : List G_QRecord)
noncomputable def vu (m : Option Nat) (a0 : List G_QRecord) (v1 : Int) (v2 : List ((List UInt8) × G_QRecord)) : Option ((Int × (List ((List UInt8) × G_QRecord))) ⊕ (List G_QRecord)) :=
 if (decide (v1 < ((a0.map za).length : Int))) = true then
  if (0 : Int) ≤ v1 ∧ v1 < ((a0.map za).length : Int) then
  some (.inl ((W (v1 + 1)), (mp Yq v2 ((a0.getD v1.toNat default).f_Key) (G_QRecord.mk ((a0.getD v1.toNat default).f_Key) ((a0.getD v1.toNat default).f_Value) ((a0.getD v1.toNat default).f_Deleted)))))
  else none
 else
  Option.map Sum.inr (
   vz m v2)
noncomputable def ua (m : Option Nat) (a0 : List G_QRecord) (v1 : Int) (v2 : List ((List UInt8) × G_QRecord)) : Option (List G_QRecord) := u4 m (fun (s : (Int × (List ((List UInt8) × G_QRecord)))) => vu m a0 s.1 s.2) (v1, v2)
def z23 (arr1 : Array MapEntry) (ck1 : Nat) (v2 : List ((List UInt8) × G_QRecord)) (seen2 : List Nat) (s : (List G_QRecord)) : Env := [(6, .msl (0, 0) 3 0 s.length false), (22, .ptr (1, 0) 0 0)]
def z5r (arr1 : Array MapEntry) (ck1 : Nat) (v2 : List ((List UInt8) × G_QRecord)) (seen2 : List Nat) (s : (List G_QRecord)) : AHeap := [((0, 0), .rows 3 (s.map za)), ((1, 0), .itr (some (2, 0)) arr1 ck1 seen2), ((2, 0), .rmap (v2.map (em Yz jw)) arr1 ck1)]
def zac (a0 : List G_QRecord) (o : (List G_QRecord)) : Exit → Env → AHeap → Nat → Prop := (zm 2 (ug Tryz.prog Ym 0 zbf (z9d a0 o)))
theorem zfl {a0 : List G_QRecord} {v3 : List G_QRecord} {m : Option Nat} {o : (List G_QRecord)} (h : k6 m v3 = some o) :
 LWp Tryz.prog Ym 0 zbf (z9d a0 o) [(6, .msl (0, 0) 3 0 v3.length false)] [((0, 0), .rows 3 (v3.map za))] 1 := by
 unfold k6 at h
 refine zd ?_
 refine ze ?_
 obtain ⟨v5, h16, h⟩ := bind_some h
 refine z0z (k := 3) (m := 0) (L' := [((0, 0), .rows 3 (v5.map za))]) (rest := []) (R' := .tup []) [((0, 0), (0, 0))] (zop h16) rfl rfl rfl (AI (Vw.mslE rfl (by first | rfl | omega | (simp; done) | (simp at *; omega)) rfl) (AI (VS rfl) TT)) (AI (h0I (0, 0) rfl rfl (BVw.enc za (fun _ => rfl) _ v3)) TT) (Y2 _ rfl) (AI rfl (AI (Ju za (fun _ => rfl) _ _) TT)) rfl ?_
 obtain ⟨h17, h⟩ := zc h
 refine zd ?_
 refine ze ?_
 refine u5 ?_
 cases h
 exact AI TT (AI rfl (Vw.frzB za z5x (fun h => h) rfl rfl (by first | rfl | omega | (simp; done) | (simp at *; omega))))
theorem zd4 {arr1 : Array MapEntry} {ck1 : Nat} {seen2 : List Nat} {a0 : List G_QRecord} {v2 : List ((List UInt8) × G_QRecord)} {v3 : List G_QRecord} {m : Option Nat} {k : Nat} {o : (List G_QRecord)} (h : Qh v2.length (fun j (s : (List G_QRecord)) => jn m v2 s j) (fun s => wm m v2 s) (k + 1) seen2 v3 = some o) :
 LWp Tryz.prog Ym 0 zgv (zu6 0 3 (Qh v2.length (fun j (s : (List G_QRecord)) => jn m v2 s j) (fun s => wm m v2 s)) (z23 arr1 ck1 v2) (z5r arr1 ck1 v2) (zac a0) k o) [(6, .msl (0, 0) 3 0 v3.length false), (22, .ptr (1, 0) 0 0)] [((0, 0), .rows 3 (v3.map za)), ((1, 0), .itr (some (2, 0)) arr1 ck1 seen2), ((2, 0), .rmap (v2.map (em Yz jw)) arr1 ck1)] 3 := by
 refine zd ?_
 refine ze ?_
 refine AI (AI rfl rfl) (AI (fun h13 => ?_) (fun v4 h11 h12 => ?_))
 ·obtain ⟨o2, h, hm, hr⟩ := z8e h (fun j hj => h13 j (zzq hj))
  unfold wm at h
  refine LWp.mono ?_ (zgb hm hr)
  refine zd ?_
  refine qj (v := false) rfl TT (fun hc => Bool.noConfusion hc) (fun hc => ?_)
  refine Z2 ?_
  obtain ⟨o, hq, rfl⟩ := Option.map_eq_some_iff.1 h
  replace h := hq; clear hq
  refine AI nofun ?_
  refine LWp.sim ?_ (zfl h)
  exact y6 (M := [((0, 0), (0, 0))]) rfl (AI (Vw.mslE rfl (by first | rfl | omega | (simp; done) | (simp at *; omega)) rfl) TT) (AI (AI rfl (BVw.enc za (fun _ => rfl) _ v3)) TT)
 ·obtain ⟨o2, h, hm, hr⟩ := z8w h (y0a h11) h12
  unfold jn at h
  refine LWp.mono ?_ (zgb hm hr)
  refine zd ?_
  refine qj (v := true) rfl TT (fun hc => ?_) (fun hc => Bool.noConfusion hc)
  refine qv ?_
  refine yf ?_
  refine zd ?_
  refine ze ?_
  refine AI (AI rfl rfl) (EX ((em Yz jw) (v2.getD v4 default)) (AI (zu2 h11) ?_))
  refine zd ?_
  refine ze ?_
  refine qj (v := (!(((v2.getD v4 default).2).f_Deleted))) rfl TT (fun h14 => ?_) (fun h14 => ?_)
  ·have h := zk h14 h
   refine ze ?_
   obtain ⟨h15, h⟩ := zc h
   refine AI (fun h => Bool.noConfusion h) (AI (zwr za (by first | rfl | omega | (simp; done) | (simp at *; omega))) (EX ((v3 ++ ([(G_QRecord.mk (((v2.getD v4 default).2).f_Key) (((v2.getD v4 default).2).f_Value) (((v2.getD v4 default).2).f_Deleted))] : List G_QRecord)).map za) (AI (zx8 za v3 ([(G_QRecord.mk (((v2.getD v4 default).2).f_Key) (((v2.getD v4 default).2).f_Value) (((v2.getD v4 default).2).f_Deleted))] : List G_QRecord) (by first | rfl | omega | (simp; done) | (simp at *; omega))) (AI h15 ?_))))
   cases h
   exact AI rfl (y6 (M := [((0, 0), (4, 0)), ((1, 0), (1, 0)), ((2, 0), (2, 0))]) rfl (AI (Vw.mslE rfl (by first | rfl | omega | (simp; done) | (simp at *; omega)) rfl) (AI (Vw.ptr _ _ _ _ rfl) TT)) (AI (AI rfl (BVw.enc za (fun _ => rfl) _ (v3 ++ ([(G_QRecord.mk (((v2.getD v4 default).2).f_Key) (((v2.getD v4 default).2).f_Value) (((v2.getD v4 default).2).f_Deleted))] : List G_QRecord)))) (AI (AI rfl (BVw.itr _ _ _ _ _ rfl)) (AI (AI rfl (BVw.ofRmap Yz jw ud v2)) TT))))
  ·have h := zw h14 h
   refine qv ?_
   cases h
   exact AI rfl (y6 (M := [((0, 0), (0, 0)), ((1, 0), (1, 0)), ((2, 0), (2, 0))]) rfl (AI (Vw.mslE rfl (by first | rfl | omega | (simp; done) | (simp at *; omega)) rfl) (AI (Vw.ptr _ _ _ _ rfl) TT)) (AI (AI rfl (BVw.enc za (fun _ => rfl) _ v3)) (AI (AI rfl (BVw.itr _ _ _ _ _ rfl)) (AI (AI rfl (BVw.ofRmap Yz jw ud v2)) TT))))
theorem zfp {arr1 : Array MapEntry} {ck1 : Nat} {a0 : List G_QRecord} {v2 : List ((List UInt8) × G_QRecord)} {v3 : List G_QRecord} {m : Option Nat} {o : (List G_QRecord)} (h : Zq m v2 v3 = some o) :
 LWp Tryz.prog Ym 0 (.loop zgv) (zm 2 (ug Tryz.prog Ym 0 zbf (z9d a0 o))) [(6, .msl (0, 0) 3 0 v3.length false), (22, .ptr (1, 0) 0 0)] [((0, 0), .rows 3 (v3.map za)), ((1, 0), .itr (some (2, 0)) arr1 ck1 []), ((2, 0), .rmap (v2.map (em Yz jw)) arr1 ck1)] 3 :=
 zg9 (s := (v3 : (List G_QRecord))) (Qh v2.length (fun j (s : (List G_QRecord)) => jn m v2 s j) (fun s => wm m v2 s)) (z23 arr1 ck1 v2) (z5r arr1 ck1 v2) (zac a0) (fun _ _ _ h => z8r h) (fun k sn s r h => zd4 (v3 := s) h) h
theorem zja {a0 : List G_QRecord} {v2 : List ((List UInt8) × G_QRecord)} {m : Option Nat} {o : (List G_QRecord)} (h : vz m v2 = some o) :
 LWp Tryz.prog Ym 0 zb1 (z9d a0 o) [(3, .map (0, 0))] [((0, 0), .amap (v2.map (em Yz jw)))] 1 := by
 unfold vz at h
 refine zd ?_
 refine LWp.ghost 3 ?_
 refine ze ?_
 refine LWp.sim (e := [(3, .map (0, 0)), (6, .msl (1, 0) 3 0 (([] : List G_QRecord).length) false)]) (L := [((0, 0), .amap (v2.map (em Yz jw))), ((1, 0), .rows 3 (([] : List G_QRecord).map za))]) (n := 2) ?_ ?_
 ·exact y6 (M := [((0, 0), (0, 0)), ((1, 0), (1, 0))]) rfl (AI (Vw.map _ _ rfl) (AI (Vw.nilM _ _ _ _ _ _ rfl rfl) TT)) (AI (AI rfl (BVw.ofMap Yz jw ud v2)) (AI (AI rfl (BVw.enc za (fun _ => rfl) _ ([] : List G_QRecord))) TT))
 refine zd ?_
 refine zd ?_
 refine ze ?_
 refine fun arr1 ck1 => ?_
 refine yf ?_
 refine LWp.sim ?_ (zfp (arr1 := arr1) (ck1 := ck1) h)
 exact y6 (M := [((0, 0), (1, 0)), ((1, 0), (2, 0)), ((2, 0), (0, 0))]) rfl (AI (Vw.mslE rfl (by first | rfl | omega | (simp; done) | (simp at *; omega)) rfl) (AI (Vw.ptr _ _ _ _ rfl) TT)) (AI (AI rfl (BVw.enc za (fun _ => rfl) _ ([] : List G_QRecord))) (AI (AI rfl (BVw.itr _ _ _ _ _ rfl)) (AI (AI rfl (BVw.ofRmap Yz jw ud v2)) TT)))
theorem zdk {a0 : List G_QRecord} {v1 : Int} {v2 : List ((List UInt8) × G_QRecord)} {m : Option Nat} {o : (Int × (List ((List UInt8) × G_QRecord))) ⊕ (List G_QRecord)} (h : vu m a0 v1 v2 = some o) :
 LWp Tryz.prog Ym 0 zlq (xt 0 1 (z1l a0) (z4x a0) (zam a0) o) [(3, .map (0, 0)), (10, .isl 3 (a0.map za) false), (11, .int .i64 ((a0.map za).length : Int)), (12, .int .i64 v1)] [((0, 0), .amap (v2.map (em Yz jw)))] 1 := by
 unfold vu at h
 refine zd ?_
 refine ze ?_
 refine zd ?_
 refine qj (v := (decide (v1 < ((a0.map za).length : Int)))) rfl TT (fun h5 => ?_) (fun h5 => ?_)
 ·have h := zk h5 h
  refine qv ?_
  refine zd ?_
  refine yf ?_
  refine zd ?_
  refine ze ?_
  obtain ⟨h6, h⟩ := zc h
  refine AI h6 ?_
  refine EX (za (a0.getD v1.toNat default)) (AI (qo za _ _ (ji za h6)) (AI (AI (k7 h6) (NB rfl)) ?_))
  refine ze ?_
  refine EX ((mp Yq v2 ((a0.getD v1.toNat default).f_Key) (G_QRecord.mk ((a0.getD v1.toNat default).f_Key) ((a0.getD v1.toNat default).f_Value) ((a0.getD v1.toNat default).f_Deleted))).map (em Yz jw)) (AI (za2 (ek := Yz) (ev := jw) znm ((a0.getD v1.toNat default).f_Key) (G_QRecord.mk ((a0.getD v1.toNat default).f_Key) ((a0.getD v1.toNat default).f_Value) ((a0.getD v1.toNat default).f_Deleted)) v2) ?_)
  refine LWp.sim (e := [(3, .map (0, 0)), (10, .isl 3 (a0.map za) false), (11, .int .i64 ((a0.map za).length : Int)), (12, .int .i64 v1)]) (L := [((0, 0), .amap ((mp Yq v2 ((a0.getD v1.toNat default).f_Key) (G_QRecord.mk ((a0.getD v1.toNat default).f_Key) ((a0.getD v1.toNat default).f_Value) ((a0.getD v1.toNat default).f_Deleted))).map (em Yz jw)))]) (n := 1) ?_ ?_
  ·exact y6 (M := [((0, 0), (0, 0))]) rfl (AI (Vw.map _ _ rfl) (S2 rfl rfl (AI (VS rfl) TT))) (AI (AI rfl (BVw.ofMap Yz jw ud (mp Yq v2 ((a0.getD v1.toNat default).f_Key) (G_QRecord.mk ((a0.getD v1.toNat default).f_Key) ((a0.getD v1.toNat default).f_Value) ((a0.getD v1.toNat default).f_Deleted))))) TT)
  refine ze ?_
  cases h
  exact AI rfl (y6 (M := [((0, 0), (0, 0))]) rfl (AI (Vw.map _ _ rfl) (S2 rfl rfl (AI (VS rfl) TT))) (AI (AI rfl (BVw.ofMap Yz jw ud (mp Yq v2 ((a0.getD v1.toNat default).f_Key) (G_QRecord.mk ((a0.getD v1.toNat default).f_Key) ((a0.getD v1.toNat default).f_Value) ((a0.getD v1.toNat default).f_Deleted))))) TT))
 ·have h := zw h5 h
  refine Z2 ?_
  obtain ⟨o, hq, rfl⟩ := Option.map_eq_some_iff.1 h
  replace h := hq; clear hq
  refine AI nofun ?_
  refine LWp.sim ?_ (zja h)
  exact y6 (M := [((0, 0), (0, 0))]) rfl (AI (Vw.map _ _ rfl) TT) (AI (AI rfl (BVw.ofMap Yz jw ud v2)) TT)
theorem zjg {a0 : List G_QRecord} {v1 : Int} {v2 : List ((List UInt8) × G_QRecord)} {m : Option Nat} {o : (List G_QRecord)} (h : ua m a0 v1 v2 = some o) :
 LWp Tryz.prog Ym 0 (.loop zlq) (zm 0 (ug Tryz.prog Ym 0 zb1 (z9d a0 o))) [(3, .map (0, 0)), (10, .isl 3 (a0.map za) false), (11, .int .i64 ((a0.map za).length : Int)), (12, .int .i64 v1)] [((0, 0), .amap (v2.map (em Yz jw)))] 1 :=
 yi (m := m) (s := ((v1, v2) : (Int × (List ((List UInt8) × G_QRecord))))) (r := o) (fun (s : (Int × (List ((List UInt8) × G_QRecord)))) => vu m a0 s.1 s.2) (z1l a0) (z4x a0) (zam a0) (fun s o h => zdk h) h
noncomputable def uo (m : Option Nat) (a0 : List G_QRecord) : Option (List G_QRecord) :=
 ua m a0 0 ([] : List ((List UInt8) × G_QRecord))
theorem zm7 {a0 : List G_QRecord} {m : Option Nat} {o : (List G_QRecord)} (h : uo m a0 = some o) : LWp Tryz.prog Ym 0 zqu (z9d a0 o) (zz 0 [.isl 3 (a0.map za) false]) [] 0 := by
 unfold uo at h
 refine zd ?_
 refine LWp.ghost 3 ?_
 refine ze ?_
 refine LWp.sim (e := [(0, .isl 3 (a0.map za) false)]) (L := []) (n := 0) ?_ ?_
 ·exact y6 (M := []) rfl (AI (VS rfl) TT) TT
 refine zd ?_
 refine ze ?_
 refine zd ?_
 refine zd ?_
 refine ze ?_
 refine yf ?_
 refine LWp.sim ?_ (zjg h)
 exact y6 (M := [((0, 0), (0, 0))]) rfl (AI (Vw.map _ _ rfl) (S2 rfl rfl (AI (VS rfl) TT))) (AI (AI rfl (BVw.ofMap Yz jw ud ([] : List ((List UInt8) × G_QRecord)))) TT)
theorem y13 {a0 : List G_QRecord} {m : Option Nat} {o : (List G_QRecord)} (h : uo m a0 = some o) : PFn Tryz.prog 19 [.isl 3 (a0.map za) false] (.isl 3 (o.map za) false) := PFn.ofFnW (L := zzn) ztw zwn (NB rfl) rfl (zm7 h)
def zc7 : LCode := (.seq (.region [⟨some 2, .box (.t 0), none⟩,
 ⟨some 3, .mv (.c (.bool false)), none⟩])
 (.seq (.region [⟨some 4, .faddr 0 (.t 2), none⟩,
  ⟨some 5, .load false 1 (.t 4), none⟩,
  ⟨some 6, .faddr 0 (.t 1), none⟩,
  ⟨some 7, .load false 1 (.t 6), none⟩,
  ⟨some 8, .bin .eql (.t 5) (.t 7), none⟩,
  ⟨some 3, .mv (.t 8), none⟩])
 .ret))
def z5s : Lay := ⟨9, [], false⟩
def z6i : List LRes := [.t 3]
def zif : LFn := ⟨2, z5s, zc7, z6i⟩
theorem zgr : ww Tryz.prog [] 21 = some zif := by kernel_rfl
theorem zj0 : Z9 Tryz.prog 21 := ⟨_, Tryz.func21, rfl, rfl⟩
noncomputable def x4 (m : Option Nat) (a0 : List UInt8) (a1 : Int) (a2 : List UInt8) (a3 : G_QRecord) : Option Bool :=
 some (a3.f_Key == a0)
def zub (a0 : List UInt8) (a1 : Int) (a2 : List UInt8) (a3 : G_QRecord) (o : Bool) : Exit → Env → AHeap → Nat → Prop := Zy z6i (Us 3 4 (.bool o) [((1, 0), .one [.str a0, .int .i64 a1, .str a2])])
theorem z7y {a0 : List UInt8} {a1 : Int} {a2 : List UInt8} {a3 : G_QRecord} {m : Option Nat} {o : Bool} (h : x4 m a0 a1 a2 a3 = some o) : LWp Tryz.prog z5s 3 zc7 (zub a0 a1 a2 a3 o) (zz 0 [.agg [.str a3.f_Key, .str a3.f_Value, .bool a3.f_Deleted], .ptr (1, 0) 0 0]) [((1, 0), .one [.str a0, .int .i64 a1, .str a2])] 3 := by
 unfold x4 at h
 refine zd ?_
 refine ze ?_
 refine zd ?_
 refine ze ?_
 refine LWp.sim (e := [(3, .bool (a3.f_Key == a0))]) (L := [((1, 0), .one [.str a0, .int .i64 a1, .str a2])]) (n := 3) ?_ ?_
 ·exact y6 (M := []) rfl (AI (VS rfl) TT) (AI (AI rfl (BVw.oneL (S2 rfl rfl (AI (VS rfl) TT)))) TT)
 refine u5 ?_
 cases h
 exact AI TT (y1i (n' := 3) [] [] rfl rfl (VS rfl) (AI (AI rfl (BVw.oneL (S2 rfl rfl (AI (VS rfl) TT)))) TT))
theorem zq8 {a0 : List UInt8} {a1 : Int} {a2 : List UInt8} {a3 : G_QRecord} {m : Option Nat} {o : Bool} (h : x4 m a0 a1 a2 a3 = some o) : ACalls Tryz.prog 21 [.agg [.str a3.f_Key, .str a3.f_Value, .bool a3.f_Deleted], .ptr (1, 0) 0 0] [((1, 0), .one [.str a0, .int .i64 a1, .str a2])] 3 (Qd 4 (.bool o) [((1, 0), .one [.str a0, .int .i64 a1, .str a2])]) := Ul (L := zif) zgr zj0 (NB rfl) (z7y h)
def z3v : LCode := (.seq (.region [⟨some 9, .bin .lss (.t 8) (.t 7), none⟩])
 (.seq (.cond (.t 9)
  .skip
  (.exit 0))
 (.seq (.block 1
  (.seq (.region [⟨some 10, .mv (.t 8), none⟩,
   ⟨some 5, .mv (.t 10), none⟩])
  (.seq (.region [⟨some 11, .mv (.t 1), none⟩,
   ⟨some 12, .mv (.t 0), none⟩,
   ⟨some 13, .mv (.t 5), none⟩,
   ⟨some 14, .iaddr 3 (.t 12) (.t 13), none⟩,
   ⟨some 15, .load true 3 (.t 14), none⟩,
   ⟨some 16, .callv (.t 11) [(.t 15)], none⟩])
  (.cond (.t 16)
   (.seq (.region [⟨some 17, .mv (.t 5), none⟩,
    ⟨some 4, .mv (.t 17), none⟩])
   .ret)
   .skip))))
 (.region [⟨some 18, .bin .add (.t 8) (.c (.int .i64 1)), none⟩,
  ⟨some 8, .mv (.t 18), none⟩]))))
def U5 : LCode := (.seq (.region [⟨some 4, .mv (.c (.int .i64 (-1))), none⟩])
 .ret)
def zca : LCode := (.seq (.region [⟨some 4, .mv (.c (.int .i64 0)), none⟩])
 (.seq (.seq (.region [⟨some 6, .mv (.t 0), none⟩,
  ⟨some 7, .len false (.t 6), none⟩,
  ⟨some 8, .mv (.c (.int .i64 0)), none⟩])
 (.block 0
  (.loop
   z3v)))
 U5))
def Yy : Lay := ⟨19, [], false⟩
def z6r : List LRes := [.t 4]
def zhw : LFn := ⟨2, Yy, zca, z6r⟩
theorem zgu : ww Tryz.prog [] 20 = some zhw := by kernel_rfl
theorem zj2 : Z9 Tryz.prog 20 := ⟨_, Tryz.func20, rfl, rfl⟩
def z3x {σ : Type} (Hc : σ → AHeap) (fi0 : Fn) (ff0 fc0 : List AVal) (a0 : List G_QRecord) (z0 : σ) (o : Int × σ) : Exit → Env → AHeap → Nat → Prop := Zy z6r (Us 3 4 (.int .i64 o.1) ([] ++ up 3 (Hc o.2)))
def Ke {σ : Type} (Hc : σ → AHeap) (fi0 : Fn) (ff0 fc0 : List AVal) (a0 : List G_QRecord) (s : (Int × σ)) : Env := [(0, .isl 3 (a0.map za) false), (1, .fn fi0 ff0 fc0), (7, .int .i64 ((a0.map za).length : Int)), (8, .int .i64 s.1)]
def Ux {σ : Type} (Hc : σ → AHeap) (fi0 : Fn) (ff0 fc0 : List AVal) (a0 : List G_QRecord) (s : (Int × σ)) : AHeap := ([] ++ up 3 (Hc s.2))
def z1j {σ : Type} (Hc : σ → AHeap) (fi0 : Fn) (ff0 fc0 : List AVal) (a0 : List G_QRecord) (z0 : σ) (o : (Int × σ)) : Exit → Env → AHeap → Nat → Prop := (zm 0 (ug Tryz.prog Yy 3 U5 (z3x Hc fi0 ff0 fc0 a0 z0 o)))
noncomputable def wn {σ : Type} (g0 : σ → G_QRecord → Option (Bool × σ)) (m : Option Nat) (v3 : σ) : Option (Int × σ) :=
 some ((-1), v3)
noncomputable def y9 {σ : Type} (g0 : σ → G_QRecord → Option (Bool × σ)) (m : Option Nat) (a0 : List G_QRecord) (v2 : Int) (v3 : σ) : Option ((Int × σ) ⊕ (Int × σ)) :=
 if (decide (v2 < ((a0.map za).length : Int))) = true then
  if (0 : Int) ≤ v2 ∧ v2 < ((a0.map za).length : Int) then
  (g0 v3 (G_QRecord.mk ((a0.getD v2.toNat default).f_Key) ((a0.getD v2.toNat default).f_Value) ((a0.getD v2.toNat default).f_Deleted))).bind fun v5 =>
  if v5.1 = true then
   Option.map Sum.inr (
    some (v2, v5.2))
  else
   some (.inl ((W (v2 + 1)), v5.2))
  else none
 else
  Option.map Sum.inr (
   wn g0 m v3)
noncomputable def qp {σ : Type} (g0 : σ → G_QRecord → Option (Bool × σ)) (m : Option Nat) (a0 : List G_QRecord) (v2 : Int) (v3 : σ) : Option (Int × σ) := u4 m (fun (s : (Int × σ)) => y9 g0 m a0 s.1 s.2) (v2, v3)
theorem z80 {σ : Type} {Hc : σ → AHeap} {fi0 : Fn} {ff0 fc0 : List AVal} {g0 : σ → G_QRecord → Option (Bool × σ)} (hg0 : Clo Tryz.prog fi0 ff0 fc0 Hc (fun (x : G_QRecord) => [.agg [.str x.f_Key, .str x.f_Value, .bool x.f_Deleted]]) (fun (b : Bool) => .bool b) g0) {a0 : List G_QRecord} {z0 : σ} {v3 : σ} {m : Option Nat} {o : (Int × σ)} (h : wn g0 m v3 = some o) :
 LWp Tryz.prog Yy 3 U5 (z3x Hc fi0 ff0 fc0 a0 z0 o) [] ([] ++ up 3 (Hc v3)) 4 := by
 unfold wn at h
 refine zd ?_
 refine ze ?_
 refine u5 ?_
 cases h
 exact AI TT (zxf (n' := 4) (q := 3) (lit' := []) (hg0.tl _) [] [] rfl rfl (VS rfl) TT)
theorem z60 {σ : Type} {Hc : σ → AHeap} {fi0 : Fn} {ff0 fc0 : List AVal} {g0 : σ → G_QRecord → Option (Bool × σ)} (hg0 : Clo Tryz.prog fi0 ff0 fc0 Hc (fun (x : G_QRecord) => [.agg [.str x.f_Key, .str x.f_Value, .bool x.f_Deleted]]) (fun (b : Bool) => .bool b) g0) {z0 : σ} {a0 : List G_QRecord} {v2 : Int} {v3 : σ} {m : Option Nat} {o : (Int × σ) ⊕ (Int × σ)} (h : y9 g0 m a0 v2 v3 = some o) :
 LWp Tryz.prog Yy 3 z3v (xt 3 4 (Ke Hc fi0 ff0 fc0 a0) (Ux Hc fi0 ff0 fc0 a0) (z1j Hc fi0 ff0 fc0 a0 z0) o) [(0, .isl 3 (a0.map za) false), (1, .fn fi0 ff0 fc0), (7, .int .i64 ((a0.map za).length : Int)), (8, .int .i64 v2)] ([] ++ up 3 (Hc v3)) 4 := by
 unfold y9 at h
 refine zd ?_
 refine ze ?_
 refine zd ?_
 refine qj (v := (decide (v2 < ((a0.map za).length : Int)))) rfl TT (fun h9 => ?_) (fun h9 => ?_)
 ·have h := zk h9 h
  refine qv ?_
  refine zd ?_
  refine yf ?_
  refine zd ?_
  refine ze ?_
  refine zd ?_
  refine ze ?_
  obtain ⟨h10, h⟩ := zc h
  refine AI h10 ?_
  refine EX (za (a0.getD v2.toNat default)) (AI (qo za _ _ (ji za h10)) (AI (AI (k7 h10) (NB rfl)) ?_))
  obtain ⟨v5, h11, h⟩ := bind_some h
  refine Clo.use (q := 3) (lit := []) hg0 h11 rfl rfl (AI (VS rfl) TT) ?_
  refine LWp.sim (e := [(0, .isl 3 (a0.map za) false), (1, .fn fi0 ff0 fc0), (5, .int .i64 v2), (7, .int .i64 ((a0.map za).length : Int)), (8, .int .i64 v2), (16, .bool v5.1)]) (L := ([] ++ up 3 (Hc v5.2))) (n := 4) ?_ ?_
  ·exact zro (M := []) (lit' := []) (hg0.tl _) rfl (AI (VS rfl) (AI (Vw.clo hg0.hf hg0.hc (by decide) (Ki (Qq (n := 4) (q := 4) (lit' := []) rfl))) (S4 rfl rfl rfl rfl TT))) TT
  refine qj (v := v5.1) rfl TT (fun h12 => ?_) (fun h12 => ?_)
  ·have h := zk h12 h
   refine zd ?_
   refine ze ?_
   refine u5 ?_
   obtain ⟨o, hq, rfl⟩ := Option.map_eq_some_iff.1 h
   replace h := hq; clear hq
   refine AI nofun ?_
   cases h
   exact AI TT (zxf (n' := 4) (q := 3) (lit' := []) (hg0.tl _) [] [] rfl rfl (VS rfl) TT)
  ·have h := zw h12 h
   refine qv ?_
   refine ze ?_
   cases h
   exact AI rfl (zro (M := []) (lit' := []) (hg0.tl _) rfl (AI (VS rfl) (AI (Vw.clo hg0.hf hg0.hc (by decide) (Ki (Qq (n := 4) (q := 3) (lit' := []) rfl))) (S2 rfl rfl TT))) TT)
 ·have h := zw h9 h
  refine Z2 ?_
  obtain ⟨o, hq, rfl⟩ := Option.map_eq_some_iff.1 h
  replace h := hq; clear hq
  refine AI nofun ?_
  refine LWp.sim ?_ (z80 hg0 h)
  exact zro (M := []) (lit' := []) (hg0.tl _) rfl TT TT
theorem z9l {σ : Type} {Hc : σ → AHeap} {fi0 : Fn} {ff0 fc0 : List AVal} {g0 : σ → G_QRecord → Option (Bool × σ)} (hg0 : Clo Tryz.prog fi0 ff0 fc0 Hc (fun (x : G_QRecord) => [.agg [.str x.f_Key, .str x.f_Value, .bool x.f_Deleted]]) (fun (b : Bool) => .bool b) g0) {z0 : σ} {a0 : List G_QRecord} {v2 : Int} {v3 : σ} {m : Option Nat} {o : (Int × σ)} (h : qp g0 m a0 v2 v3 = some o) :
 LWp Tryz.prog Yy 3 (.loop z3v) (zm 0 (ug Tryz.prog Yy 3 U5 (z3x Hc fi0 ff0 fc0 a0 z0 o))) [(0, .isl 3 (a0.map za) false), (1, .fn fi0 ff0 fc0), (7, .int .i64 ((a0.map za).length : Int)), (8, .int .i64 v2)] ([] ++ up 3 (Hc v3)) 4 :=
 yi (m := m) (s := ((v2, v3) : (Int × σ))) (r := o) (fun (s : (Int × σ)) => y9 g0 m a0 s.1 s.2) (Ke Hc fi0 ff0 fc0 a0) (Ux Hc fi0 ff0 fc0 a0) (z1j Hc fi0 ff0 fc0 a0 z0) (fun s o h => z60 hg0 h) h
noncomputable def xe {σ : Type} (g0 : σ → G_QRecord → Option (Bool × σ)) (m : Option Nat) (a0 : List G_QRecord) (z0 : σ) : Option (Int × σ) :=
 qp g0 m a0 0 z0
theorem z9r {σ : Type} {Hc : σ → AHeap} {fi0 : Fn} {ff0 fc0 : List AVal} {g0 : σ → G_QRecord → Option (Bool × σ)} (hg0 : Clo Tryz.prog fi0 ff0 fc0 Hc (fun (x : G_QRecord) => [.agg [.str x.f_Key, .str x.f_Value, .bool x.f_Deleted]]) (fun (b : Bool) => .bool b) g0) {a0 : List G_QRecord} {z0 : σ} {m : Option Nat} {o : Int × σ} (h : xe g0 m a0 z0 = some o) : LWp Tryz.prog Yy 3 zca (z3x Hc fi0 ff0 fc0 a0 z0 o) (zz 0 [.isl 3 (a0.map za) false, .fn fi0 ff0 fc0]) ([] ++ Hc z0) 3 := by
 unfold xe at h
 refine LWp.sim (e := [(0, .isl 3 (a0.map za) false), (1, .fn fi0 ff0 fc0)]) (L := ([] ++ up 3 (Hc z0))) (n := 4) (zgi (T := Hc z0) (e' := zz 0 [.isl 3 (a0.map za) false, .fn fi0 ff0 fc0]) (e := [(0, .isl 3 (a0.map za) false), (1, .fn fi0 ff0 fc0)]) (lit' := []) (lit := []) (hg0.tl z0) rfl rfl (AI (VS rfl) (AI (Vw.clo hg0.hf hg0.hc (by decide) (zka _)) TT)) TT) ?_
 refine zd ?_
 refine ze ?_
 refine zd ?_
 refine zd ?_
 refine ze ?_
 refine yf ?_
 refine LWp.sim ?_ (z9l hg0 h)
 exact zro (M := []) (lit' := []) (hg0.tl _) rfl (AI (VS rfl) (AI (Vw.clo hg0.hf hg0.hc (by decide) (Ki (Qq (n := 4) (q := 3) (lit' := []) rfl))) (S2 rfl rfl TT))) TT
theorem zpm {σ : Type} {Hc : σ → AHeap} {fi0 : Fn} {ff0 fc0 : List AVal} {g0 : σ → G_QRecord → Option (Bool × σ)} (hg0 : Clo Tryz.prog fi0 ff0 fc0 Hc (fun (x : G_QRecord) => [.agg [.str x.f_Key, .str x.f_Value, .bool x.f_Deleted]]) (fun (b : Bool) => .bool b) g0) {a0 : List G_QRecord} {z0 : σ} {m : Option Nat} {o : Int × σ} (h : xe g0 m a0 z0 = some o) : ACalls Tryz.prog 20 [.isl 3 (a0.map za) false, .fn fi0 ff0 fc0] ([] ++ Hc z0) 3 (Qd 4 (.int .i64 o.1) ([] ++ up 3 (Hc o.2))) := Ul (L := zhw) zgu zj2 (NB rfl) (z9r hg0 h)
def zkp : LCode := (.seq (.region [⟨some 6, .bin .lss (.t 5) (.c (.int .i64 8)), none⟩])
 (.seq (.cond (.t 6)
  .skip
  (.exit 0))
 (.seq (.block 1
  (.seq (.region [⟨some 7, .mv (.t 5), none⟩,
   ⟨some 4, .mv (.t 7), none⟩])
  (.region [⟨some 8, .mv (.t 4), none⟩,
   ⟨some 9, .mv (.t 0), none⟩,
   ⟨some 10, .mv (.t 4), none⟩,
   ⟨some 11, .bin .mul (.c (.int .i64 4)) (.t 10), none⟩,
   ⟨some 12, .bin .sub (.c (.int .i64 28)) (.t 11), none⟩,
   ⟨some 13, .bin .shr (.t 9) (.t 12), none⟩,
   ⟨some 14, .bin .and (.t 13) (.c (.int .u32 15)), none⟩,
   ⟨some 15, .idxS (.c (.str [48, 49, 50, 51, 52, 53, 54, 55, 56, 57, 97, 98, 99, 100, 101, 102])) (.t 14), none⟩,
   ⟨some 16, .iaddrR 8 1 (.t 3) (.t 8), none⟩,
   ⟨none, .store 1 (.t 16) (.t 15), none⟩])))
 (.region [⟨some 17, .bin .add (.t 5) (.c (.int .i64 1)), none⟩,
  ⟨some 5, .mv (.t 17), none⟩]))))
def zcb : LCode := (.seq (.region [⟨some 18, .slAr 8 1 (.t 3), none⟩,
 ⟨some 19, .conv .b2s (.t 18), none⟩,
 ⟨some 2, .mv (.t 19), none⟩])
 .ret)
def zs2 : LCode := (.seq (.region [⟨some 2, .mv (.c (.str [])), none⟩])
 (.seq (.region [⟨some 3, .allocR 1 [(.int .u8 0), (.int .u8 0), (.int .u8 0), (.int .u8 0), (.int .u8 0), (.int .u8 0), (.int .u8 0), (.int .u8 0)], none⟩])
 (.seq (.seq (.region [⟨some 5, .mv (.c (.int .i64 0)), none⟩])
 (.block 0
  (.loop
   zkp)))
 zcb)))
def Wh : Lay := ⟨20, [3, 16], false⟩
def zfh : List LRes := [.t 2]
def zzd : LFn := ⟨1, Wh, zs2, zfh⟩
theorem zut : ww Tryz.prog [3, 16] 44 = some zzd := by kernel_rfl
theorem ztl : Z9 Tryz.prog 44 := ⟨_, Tryz.func44, rfl, rfl⟩
def zp9 (a0 : Int) (o : (List UInt8)) : Exit → Env → AHeap → Nat → Prop := Zy zfh (q6 (.str o))
def z2e (a0 : Int) (s : (Int × (List Int))) : Env := [(0, .int .u32 a0), (3, .ptr (0, 0) 0 0), (5, .int .i64 s.1)]
def z5c (a0 : Int) (s : (Int × (List Int))) : AHeap := [((0, 0), .rows 1 (s.2.map z15))]
def zcu (a0 : Int) (o : (List UInt8)) : Exit → Env → AHeap → Nat → Prop := (zm 0 (ug Tryz.prog Wh 0 zcb (zp9 a0 o)))
noncomputable def Z3 (m : Option Nat) (v2 : List Int) : Option (List UInt8) :=
 if v2.length = 8 then
 some (v2.map Wa)
 else none
noncomputable def k8 (m : Option Nat) (a0 : Int) (v1 : Int) (v2 : List Int) : Option ((Int × (List Int)) ⊕ (List UInt8)) :=
 if (decide (v1 < 8)) = true then
  if (0 : Int) ≤ (W ((28 : Int) - (W ((4 : Int) * v1)))) then
  if (0 : Int) ≤ (Zb .and .u32 (a0.fdiv (2 ^ (min (W ((28 : Int) - (W ((4 : Int) * v1)))).toNat (IntKind.bits .u32)))) 15) ∧ (Zb .and .u32 (a0.fdiv (2 ^ (min (W ((28 : Int) - (W ((4 : Int) * v1)))).toNat (IntKind.bits .u32)))) 15) < (([48, 49, 50, 51, 52, 53, 54, 55, 56, 57, 97, 98, 99, 100, 101, 102] : List UInt8).length : Int) then
  if (0 : Int) ≤ v1 ∧ v1 < ((8 : Nat) : Int) then
  if (0 + v1.toNat) < v2.length then
  some (.inl ((W (v1 + 1)), (v2.set (0 + v1.toNat) (((([48, 49, 50, 51, 52, 53, 54, 55, 56, 57, 97, 98, 99, 100, 101, 102] : List UInt8).getD (Zb .and .u32 (a0.fdiv (2 ^ (min (W ((28 : Int) - (W ((4 : Int) * v1)))).toNat (IntKind.bits .u32)))) 15).toNat 0).toNat : Nat) : Int))))
  else none
  else none
  else none
  else none
 else
  Option.map Sum.inr (
   Z3 m v2)
noncomputable def ub (m : Option Nat) (a0 : Int) (v1 : Int) (v2 : List Int) : Option (List UInt8) := u4 m (fun (s : (Int × (List Int))) => k8 m a0 s.1 s.2) (v1, v2)
theorem zjp {a0 : Int} {v2 : List Int} {m : Option Nat} {o : (List UInt8)} (h : Z3 m v2 = some o) :
 LWp Tryz.prog Wh 0 zcb (zp9 a0 o) [(3, .ptr (0, 0) 0 0)] [((0, 0), .rows 1 (v2.map z15))] 1 := by
 unfold Z3 at h
 refine zd ?_
 refine ze ?_
 obtain ⟨h16, h⟩ := zc h
 refine EX (.msl (0, 0) 1 0 v2.length true) (AI (zu7 h16) (AI (AI rfl (zuw z15 h16)) ?_))
 refine AI (zwr z15 (by first | rfl | omega | (simp; done) | (simp at *; omega))) ?_
 refine EX (v2.map Wa) (AI (by first | (simp [Function.comp_def, Xv, Wa, z15]; done) | (simp [Function.comp_def, Xv, z15]; exact (List.take_of_length_le (by simp)).trans rfl)) (AI (zpz _ _) ?_))
 refine u5 ?_
 cases h
 exact AI TT (AI rfl (VS rfl))
theorem ze5 {a0 : Int} {v1 : Int} {v2 : List Int} {m : Option Nat} {o : (Int × (List Int)) ⊕ (List UInt8)} (h : k8 m a0 v1 v2 = some o) :
 LWp Tryz.prog Wh 0 zkp (xt 0 1 (z2e a0) (z5c a0) (zcu a0) o) [(0, .int .u32 a0), (3, .ptr (0, 0) 0 0), (5, .int .i64 v1)] [((0, 0), .rows 1 (v2.map z15))] 1 := by
 unfold k8 at h
 refine zd ?_
 refine ze ?_
 refine zd ?_
 refine qj (v := (decide (v1 < 8))) rfl TT (fun h11 => ?_) (fun h11 => ?_)
 ·have h := zk h11 h
  refine qv ?_
  refine zd ?_
  refine yf ?_
  refine zd ?_
  refine ze ?_
  refine ze ?_
  obtain ⟨h12, h⟩ := zc h
  refine AI h12 ?_
  obtain ⟨h13, h⟩ := zc h
  refine AI h13 ?_
  obtain ⟨h14, h⟩ := zc h
  refine AI h14 ?_
  obtain ⟨h15, h⟩ := zc h
  refine EX ((v2.set (0 + v1.toNat) (((([48, 49, 50, 51, 52, 53, 54, 55, 56, 57, 97, 98, 99, 100, 101, 102] : List UInt8).getD (Zb .and .u32 (a0.fdiv (2 ^ (min (W ((28 : Int) - (W ((4 : Int) * v1)))).toNat (IntKind.bits .u32)))) 15).toNat 0).toNat : Nat) : Int)).map z15) (AI (zt5 z15 _ _ _ _ _ h15 rfl) (AI (AI rfl (AI (zzv z15 h15) (NB rfl))) ?_))
  refine LWp.sim (e := [(0, .int .u32 a0), (3, .ptr (0, 0) 0 0), (5, .int .i64 v1)]) (L := [((0, 0), .rows 1 ((v2.set (0 + v1.toNat) (((([48, 49, 50, 51, 52, 53, 54, 55, 56, 57, 97, 98, 99, 100, 101, 102] : List UInt8).getD (Zb .and .u32 (a0.fdiv (2 ^ (min (W ((28 : Int) - (W ((4 : Int) * v1)))).toNat (IntKind.bits .u32)))) 15).toNat 0).toNat : Nat) : Int)).map z15))]) (n := 1) ?_ ?_
  ·exact y6 (M := [((0, 0), (0, 0))]) rfl (AI (VS rfl) (AI (Vw.ptr _ _ _ _ rfl) (AI (VS rfl) TT))) (AI (AI rfl (BVw.enc z15 (fun _ => rfl) _ (v2.set (0 + v1.toNat) (((([48, 49, 50, 51, 52, 53, 54, 55, 56, 57, 97, 98, 99, 100, 101, 102] : List UInt8).getD (Zb .and .u32 (a0.fdiv (2 ^ (min (W ((28 : Int) - (W ((4 : Int) * v1)))).toNat (IntKind.bits .u32)))) 15).toNat 0).toNat : Nat) : Int)))) TT)
  refine ze ?_
  cases h
  exact AI rfl (y6 (M := [((0, 0), (0, 0))]) rfl (AI (VS rfl) (AI (Vw.ptr _ _ _ _ rfl) (AI (VS rfl) TT))) (AI (AI rfl (BVw.enc z15 (fun _ => rfl) _ (v2.set (0 + v1.toNat) (((([48, 49, 50, 51, 52, 53, 54, 55, 56, 57, 97, 98, 99, 100, 101, 102] : List UInt8).getD (Zb .and .u32 (a0.fdiv (2 ^ (min (W ((28 : Int) - (W ((4 : Int) * v1)))).toNat (IntKind.bits .u32)))) 15).toNat 0).toNat : Nat) : Int)))) TT))
 ·have h := zw h11 h
  refine Z2 ?_
  obtain ⟨o, hq, rfl⟩ := Option.map_eq_some_iff.1 h
  replace h := hq; clear hq
  refine AI nofun ?_
  refine LWp.sim ?_ (zjp h)
  exact y6 (M := [((0, 0), (0, 0))]) rfl (AI (Vw.ptr _ _ _ _ rfl) TT) (AI (AI rfl (BVw.enc z15 (fun _ => rfl) _ v2)) TT)
theorem zlz {a0 : Int} {v1 : Int} {v2 : List Int} {m : Option Nat} {o : (List UInt8)} (h : ub m a0 v1 v2 = some o) :
 LWp Tryz.prog Wh 0 (.loop zkp) (zm 0 (ug Tryz.prog Wh 0 zcb (zp9 a0 o))) [(0, .int .u32 a0), (3, .ptr (0, 0) 0 0), (5, .int .i64 v1)] [((0, 0), .rows 1 (v2.map z15))] 1 :=
 yi (m := m) (s := ((v1, v2) : (Int × (List Int)))) (r := o) (fun (s : (Int × (List Int))) => k8 m a0 s.1 s.2) (z2e a0) (z5c a0) (zcu a0) (fun s o h => ze5 h) h
noncomputable def uj (m : Option Nat) (a0 : Int) : Option (List UInt8) :=
 ub m a0 0 (List.replicate 8 0 : List Int)
theorem zl9 {a0 : Int} {m : Option Nat} {o : (List UInt8)} (h : uj m a0 = some o) : LWp Tryz.prog Wh 0 zs2 (zp9 a0 o) (zz 0 [.int .u32 a0]) [] 0 := by
 unfold uj at h
 refine zd ?_
 refine ze ?_
 refine zd ?_
 refine ze ?_
 refine EX ((List.replicate 8 0 : List Int).map z15) (AI rfl ?_)
 refine zd ?_
 refine zd ?_
 refine ze ?_
 refine yf ?_
 refine LWp.sim ?_ (zlz h)
 exact y6 (M := [((0, 0), (0, 0))]) rfl (AI (VS rfl) (AI (Vw.ptr _ _ _ _ rfl) (AI (VS rfl) TT))) (AI (AI rfl (BVw.enc z15 (fun _ => rfl) _ (List.replicate 8 0 : List Int))) TT)
theorem zz0 {a0 : Int} {m : Option Nat} {o : (List UInt8)} (h : uj m a0 = some o) : PFn Tryz.prog 44 [.int .u32 a0] (.str o) := PFn.ofFnW (L := zzd) zut ztl (NB rfl) rfl (zl9 h)
def zr2 : LCode := (.seq (.region [⟨some 4, .mv (.c (.bool false)), none⟩])
 (.seq (.region [⟨some 5, .mv (.t 0), none⟩,
  ⟨some 6, .len true (.t 5), none⟩,
  ⟨some 7, .mv (.t 1), none⟩,
  ⟨some 8, .len true (.t 7), none⟩,
  ⟨some 9, .bin .geq (.t 6) (.t 8), none⟩,
  ⟨some 10, .mv (.t 9), none⟩,
  ⟨some 11, .mv (.t 0), some (10, true)⟩,
  ⟨some 12, .mv (.t 1), some (10, true)⟩,
  ⟨some 13, .len true (.t 12), some (10, true)⟩,
  ⟨some 14, .slStr (.t 11) none (some (.t 13)), some (10, true)⟩,
  ⟨some 15, .mv (.t 1), some (10, true)⟩,
  ⟨some 16, .bin .eql (.t 14) (.t 15), some (10, true)⟩,
  ⟨some 17, .pick (.t 10) (.t 16) (.c (.bool false)), none⟩,
  ⟨some 4, .mv (.t 17), none⟩])
 .ret))
def zje : Lay := ⟨18, [], false⟩
def zho : List LRes := [.t 4]
def zy2 : LFn := ⟨2, zje, zr2, zho⟩
theorem zt6 : ww Tryz.prog [] 92 = some zy2 := by kernel_rfl
theorem zx2 : Z9 Tryz.prog 92 := ⟨_, Tryz.func92, rfl, rfl⟩
noncomputable def wr (m : Option Nat) (a0 : List UInt8) (a1 : List UInt8) : Option Bool :=
 if (((decide ((a0.length : Int) ≥ (a1.length : Int))) == true) = true → (0 : Int) ≤ (a1.length : Int) ∧ (a1.length : Int) ≤ (a0.length : Int)) then
 some ((decide ((a0.length : Int) ≥ (a1.length : Int))) && (((a0.take (a1.length : Int).toNat).drop 0) == a1))
 else none
def y2i (a0 : List UInt8) (a1 : List UInt8) (o : Bool) : Exit → Env → AHeap → Nat → Prop := Zy zho (q6 (.bool o))
theorem zjc {a0 : List UInt8} {a1 : List UInt8} {m : Option Nat} {o : Bool} (h : wr m a0 a1 = some o) : LWp Tryz.prog zje 0 zr2 (y2i a0 a1 o) (zz 0 [.str a0, .str a1]) [] 0 := by
 unfold wr at h
 refine zd ?_
 refine ze ?_
 refine zd ?_
 refine ze ?_
 refine AI (fun hp => hp) ?_
 obtain ⟨h1, h⟩ := zc h
 refine AI (fun hp => (AI (AI hp hp) (AI (Int.le_refl _) (h1 hp)))) ?_
 refine AI (fun hp => (AI hp hp)) ?_
 refine AI (fun hc => (bqt hc)) ?_
 refine LWp.sim (e := [(4, .bool ((decide ((a0.length : Int) ≥ (a1.length : Int))) && (((a0.take (a1.length : Int).toNat).drop 0) == a1)))]) (L := []) (n := 0) ?_ ?_
 ·exact y6 (M := []) rfl (AI (VS rfl) TT) TT
 refine u5 ?_
 cases h
 exact AI TT (AI rfl (VS rfl))
theorem y11 {a0 : List UInt8} {a1 : List UInt8} {m : Option Nat} {o : Bool} (h : wr m a0 a1 = some o) : PFn Tryz.prog 92 [.str a0, .str a1] (.bool o) := PFn.ofFnW (L := zy2) zt6 zx2 (NB rfl) rfl (zjc h)
def zru : LCode := (.seq (.region [⟨some 4, .mv (.c (.str [])), none⟩,
 ⟨some 5, .mv (.c (.bool false)), none⟩])
 (.seq (.seq (.region [⟨some 6, .mv (.t 0), none⟩,
  ⟨some 7, .mv (.t 1), none⟩,
  ⟨some 8, .call 92 [(.t 6), (.t 7)], none⟩,
  ⟨some 9, .un .not (.t 8), none⟩])
 (.cond (.t 9)
  (.seq (.region [⟨some 10, .mv (.t 0), none⟩,
   ⟨some 4, .mv (.t 10), none⟩,
   ⟨some 5, .mv (.c (.bool false)), none⟩])
  .ret)
  .skip))
 (.seq (.region [⟨some 11, .mv (.t 0), none⟩,
  ⟨some 12, .mv (.t 1), none⟩,
  ⟨some 13, .len true (.t 12), none⟩,
  ⟨some 14, .slStr (.t 11) (some (.t 13)) none, none⟩,
  ⟨some 4, .mv (.t 14), none⟩,
  ⟨some 5, .mv (.c (.bool true)), none⟩])
 .ret)))
def zgp : Lay := ⟨15, [], false⟩
def zil : List LRes := [.t 4, .t 5]
def zzb : LFn := ⟨2, zgp, zru, zil⟩
theorem zwu : ww Tryz.prog [] 58 = some zzb := by kernel_rfl
theorem zvt : Z9 Tryz.prog 58 := ⟨_, Tryz.func58, rfl, rfl⟩
noncomputable def wq (m : Option Nat) (a0 : List UInt8) (a1 : List UInt8) : Option ((List UInt8) × Bool) :=
 (wr m a0 a1).bind fun v1 =>
 if (!v1) = true then
  some (a0, false)
 else
  if (0 : Int) ≤ (a1.length : Int) ∧ (a1.length : Int) ≤ (a0.length : Int) then
  some (((a0.take a0.length).drop (a1.length : Int).toNat), true)
  else none
def y1x (a0 : List UInt8) (a1 : List UInt8) (o : (List UInt8) × Bool) : Exit → Env → AHeap → Nat → Prop := Zy zil (q6 (.tup [.str o.1, .bool o.2]))
theorem zn8 {a0 : List UInt8} {a1 : List UInt8} {m : Option Nat} {o : (List UInt8) × Bool} (h : wq m a0 a1 = some o) : LWp Tryz.prog zgp 0 zru (y1x a0 a1 o) (zz 0 [.str a0, .str a1]) [] 0 := by
 unfold wq at h
 refine zd ?_
 refine ze ?_
 refine zd ?_
 refine zd ?_
 refine ze ?_
 obtain ⟨v1, h1, h⟩ := bind_some h
 refine PFn.call (y11 h1) (S2 rfl rfl TT) ?_
 refine qj (v := (!v1)) rfl TT (fun h2 => ?_) (fun h2 => ?_)
 ·have h := zk h2 h
  refine zd ?_
  refine ze ?_
  refine LWp.sim (e := [(4, .str a0), (5, .bool false)]) (L := []) (n := 0) ?_ ?_
  ·exact y6 (M := []) rfl (S2 rfl rfl TT) TT
  refine u5 ?_
  cases h
  exact AI TT (AI TT (AI rfl (VS rfl)))
 ·have h := zw h2 h
  refine qv ?_
  refine zd ?_
  refine ze ?_
  obtain ⟨h3, h⟩ := zc h
  refine AI (AI (And.left h3) (AI (And.right h3) (Int.le_refl _))) ?_
  refine LWp.sim (e := [(4, .str ((a0.take a0.length).drop (a1.length : Int).toNat)), (5, .bool true)]) (L := []) (n := 0) ?_ ?_
  ·exact y6 (M := []) rfl (S2 rfl rfl TT) TT
  refine u5 ?_
  cases h
  exact AI TT (AI TT (AI rfl (VS rfl)))
theorem zxm {a0 : List UInt8} {a1 : List UInt8} {m : Option Nat} {o : (List UInt8) × Bool} (h : wq m a0 a1 = some o) : PFn Tryz.prog 58 [.str a0, .str a1] (.tup [.str o.1, .bool o.2]) := PFn.ofFnW (L := zzb) zwu zvt (NB rfl) rfl (zn8 h)
def zsm : LCode := (.seq (.region [⟨some 4, .mv (.c (.str [])), none⟩,
 ⟨some 5, .mv (.c (.bool false)), none⟩])
 (.seq (.region [⟨some 6, .mv (.t 0), none⟩,
  ⟨some 7, .mv (.t 1), none⟩,
  ⟨some 8, .call 58 [(.t 6), (.t 7)], none⟩,
  ⟨some 9, .ext 0 (.t 8), none⟩,
  ⟨some 10, .ext 1 (.t 8), none⟩,
  ⟨some 4, .mv (.t 9), none⟩,
  ⟨some 5, .mv (.t 10), none⟩])
 .ret))
def zgd : Lay := ⟨11, [], false⟩
def zib : List LRes := [.t 4, .t 5]
def zz2 : LFn := ⟨2, zgd, zsm, zib⟩
theorem zvk : ww Tryz.prog [] 43 = some zz2 := by kernel_rfl
theorem zw2 : Z9 Tryz.prog 43 := ⟨_, Tryz.func43, rfl, rfl⟩
noncomputable def vi (m : Option Nat) (a0 : List UInt8) (a1 : List UInt8) : Option ((List UInt8) × Bool) :=
 (wq m a0 a1).bind fun v1 =>
 some (v1.1, v1.2)
def y20 (a0 : List UInt8) (a1 : List UInt8) (o : (List UInt8) × Bool) : Exit → Env → AHeap → Nat → Prop := Zy zib (q6 (.tup [.str o.1, .bool o.2]))
theorem zmk {a0 : List UInt8} {a1 : List UInt8} {m : Option Nat} {o : (List UInt8) × Bool} (h : vi m a0 a1 = some o) : LWp Tryz.prog zgd 0 zsm (y20 a0 a1 o) (zz 0 [.str a0, .str a1]) [] 0 := by
 unfold vi at h
 refine zd ?_
 refine ze ?_
 refine zd ?_
 refine ze ?_
 obtain ⟨v1, h1, h⟩ := bind_some h
 refine PFn.call (zxm h1) (S2 rfl rfl TT) ?_
 refine LWp.sim (e := [(4, .str v1.1), (5, .bool v1.2)]) (L := []) (n := 0) ?_ ?_
 ·exact y6 (M := []) rfl (S2 rfl rfl TT) TT
 refine u5 ?_
 cases h
 exact AI TT (AI TT (AI rfl (VS rfl)))
theorem y17 {a0 : List UInt8} {a1 : List UInt8} {m : Option Nat} {o : (List UInt8) × Bool} (h : vi m a0 a1 = some o) : PFn Tryz.prog 43 [.str a0, .str a1] (.tup [.str o.1, .bool o.2]) := PFn.ofFnW (L := zz2) zvk zw2 (NB rfl) rfl (zmk h)
def Zx (m : Option Nat) (a0 a1 : List UInt8) : Option (List (List UInt8)) := match a1 with
 | [c] => if a0.length < 4294967281 then some (z0m c a0) else none
 | _ => none
theorem zx0 : Z9 Tryz.prog 45 := ⟨_, Tryz.func45, rfl, rfl⟩
theorem zz9 {m : Option Nat} {a0 a1 : List UInt8} {o : List (List UInt8)} (h : Zx m a0 a1 = some o) : PFn Tryz.prog 45 [.str a0, .str a1] (.isl 1 (o.map zb) false) := by
 unfold Zx at h
 split at h
 ·split at h
  ·rename_i hc
   cases h
   exact zk4 Tryz.l45 (by kernel_rfl) zx0 rfl _ hc
  ·cases h
 ·cases h
def zfr : LCode := (.seq (.region [⟨some 37, .bin .lss (.t 36) (.t 35), none⟩])
 (.seq (.cond (.t 37)
  .skip
  (.exit 2))
 (.seq (.block 3
  (.seq (.region [⟨some 38, .mv (.t 36), none⟩,
   ⟨some 6, .mv (.t 38), none⟩])
  (.seq (.region [⟨some 39, .mv (.t 5), none⟩,
   ⟨some 40, .mv (.t 6), none⟩,
   ⟨some 41, .idxS (.t 39) (.t 40), none⟩,
   ⟨some 42, .call 60 [(.t 41)], none⟩,
   ⟨some 43, .un .not (.t 42), none⟩])
  (.cond (.t 43)
   (.seq (.region [⟨some 2, .mv (.c (.bool false)), none⟩])
   .ret)
   .skip))))
 (.region [⟨some 44, .bin .add (.t 36) (.c (.int .i64 1)), none⟩,
  ⟨some 36, .mv (.t 44), none⟩]))))
def zau : LCode := (.region [⟨some 45, .bin .add (.t 9) (.c (.int .i64 1)), none⟩,
 ⟨some 9, .mv (.t 45), none⟩])
def zkh : LCode := (.seq (.region [⟨some 10, .bin .lss (.t 9) (.t 8), none⟩])
 (.seq (.cond (.t 10)
  .skip
  (.exit 0))
 (.seq (.block 1
  (.seq (.region [⟨some 11, .mv (.t 9), none⟩,
   ⟨some 12, .iaddr 1 (.t 7) (.t 9), none⟩,
   ⟨some 13, .load false 1 (.t 12), none⟩,
   ⟨some 4, .mv (.t 11), none⟩,
   ⟨some 5, .mv (.t 13), none⟩])
  (.seq (.region [⟨some 14, .mv (.t 3), none⟩,
   ⟨some 15, .mv (.t 5), none⟩,
   ⟨some 16, .len true (.t 15), none⟩,
   ⟨some 17, .bin .add (.t 16) (.c (.int .i64 1)), none⟩,
   ⟨some 18, .bin .add (.t 14) (.t 17), none⟩,
   ⟨some 3, .mv (.t 18), none⟩])
  (.seq (.seq (.region [⟨some 19, .mv (.t 5), none⟩,
   ⟨some 20, .bin .eql (.t 19) (.c (.str [])), none⟩,
   ⟨some 21, .mv (.t 20), none⟩,
   ⟨some 22, .mv (.t 4), some (21, false)⟩,
   ⟨some 23, .bin .gtr (.t 22) (.c (.int .i64 0)), some (21, false)⟩,
   ⟨some 24, .mv (.t 23), some (21, false)⟩,
   ⟨some 25, .mv (.t 0), some (24, true)⟩,
   ⟨some 26, .mv (.t 4), some (24, true)⟩,
   ⟨some 27, .bin .sub (.t 26) (.c (.int .i64 1)), some (24, true)⟩,
   ⟨some 28, .iaddr 1 (.t 25) (.t 27), some (24, true)⟩,
   ⟨some 29, .load false 1 (.t 28), some (24, true)⟩,
   ⟨some 30, .mv (.t 5), some (24, true)⟩,
   ⟨some 31, .bin .geq (.t 29) (.t 30), some (24, true)⟩,
   ⟨some 32, .pick (.t 24) (.t 31) (.c (.bool false)), some (21, false)⟩,
   ⟨some 33, .pick (.t 21) (.c (.bool true)) (.t 32), none⟩])
  (.cond (.t 33)
   (.seq (.region [⟨some 2, .mv (.c (.bool false)), none⟩])
   .ret)
   .skip))
  (.seq (.region [⟨some 34, .mv (.t 5), none⟩,
   ⟨some 35, .len true (.t 34), none⟩,
   ⟨some 36, .mv (.c (.int .i64 0)), none⟩])
  (.block 2
   (.loop
    zfr)))))))
 zau)))
def zbe : LCode := (.seq (.region [⟨some 46, .mv (.t 0), none⟩,
 ⟨some 47, .len false (.t 46), none⟩,
 ⟨some 48, .bin .leq (.t 47) (.c (.int .i64 400)), none⟩,
 ⟨some 49, .mv (.t 48), none⟩,
 ⟨some 50, .mv (.t 3), some (49, true)⟩,
 ⟨some 51, .bin .leq (.t 50) (.c (.int .i64 2001)), some (49, true)⟩,
 ⟨some 52, .pick (.t 49) (.t 51) (.c (.bool false)), none⟩,
 ⟨some 2, .mv (.t 52), none⟩])
 .ret)
def zr4 : LCode := (.seq (.region [⟨some 2, .mv (.c (.bool false)), none⟩])
 (.seq (.region [⟨some 3, .mv (.c (.int .i64 0)), none⟩])
 (.seq (.seq (.region [⟨some 7, .mv (.t 0), none⟩,
  ⟨some 8, .len false (.t 7), none⟩,
  ⟨some 9, .mv (.c (.int .i64 0)), none⟩])
 (.block 0
  (.loop
   zkh)))
 zbe)))
def Yj : Lay := ⟨53, [], false⟩
def zgw : List LRes := [.t 2]
def zxp : LFn := ⟨1, Yj, zr4, zgw⟩
theorem zvf : ww Tryz.prog [] 46 = some zxp := by kernel_rfl
theorem zvv : Z9 Tryz.prog 46 := ⟨_, Tryz.func46, rfl, rfl⟩
def zon (a0 : List (List UInt8)) (o : Bool) : Exit → Env → AHeap → Nat → Prop := Zy zgw (q6 (.bool o))
def Qw (a0 : List (List UInt8)) (s : (Int × Int)) : Env := [(0, .isl 1 (a0.map zb) false), (3, .int .i64 s.1), (7, .isl 1 (a0.map zb) false), (8, .int .i64 ((a0.map zb).length : Int)), (9, .int .i64 s.2)]
def Xu (a0 : List (List UInt8)) (s : (Int × Int)) : AHeap := []
def Vc (a0 : List (List UInt8)) (o : Bool) : Exit → Env → AHeap → Nat → Prop := (zm 0 (ug Tryz.prog Yj 0 zbe (zon a0 o)))
def z1i (a0 : List (List UInt8)) (v5 : Int) (v6 : Int) (s : Int) : Env := [(0, .isl 1 (a0.map zb) false), (3, .int .i64 (W (v5 + (W (((a0.getD v6.toNat default).length : Int) + 1))))), (5, .str (a0.getD v6.toNat default)), (7, .isl 1 (a0.map zb) false), (8, .int .i64 ((a0.map zb).length : Int)), (9, .int .i64 v6), (35, .int .i64 ((a0.getD v6.toNat default).length : Int)), (36, .int .i64 s)]
def z5z (a0 : List (List UInt8)) (v5 : Int) (v6 : Int) (s : Int) : AHeap := []
def zbb (a0 : List (List UInt8)) (o : ((Int × Int) ⊕ Bool)) : Exit → Env → AHeap → Nat → Prop := (zm 2 (zm 1 (ug Tryz.prog Yj 0 zau (xt 0 0 (Qw a0) (Xu a0) (Vc a0) o))))
noncomputable def ju (m : Option Nat) (a0 : List (List UInt8)) (v5 : Int) (v6 : Int) : Option ((Int × Int) ⊕ Bool) :=
 some (.inl ((W (v5 + (W (((a0.getD v6.toNat default).length : Int) + 1)))), (W (v6 + 1))))
noncomputable def qw (m : Option Nat) (a0 : List (List UInt8)) (v5 : Int) (v6 : Int) (v12 : Int) : Option (Int ⊕ ((Int × Int) ⊕ Bool)) :=
 if (decide (v12 < ((a0.getD v6.toNat default).length : Int))) = true then
  if (0 : Int) ≤ v12 ∧ v12 < ((a0.getD v6.toNat default).length : Int) then
  (jt m ((((a0.getD v6.toNat default).getD v12.toNat 0).toNat : Nat) : Int)).bind fun v14 =>
  if (!v14) = true then
   Option.map Sum.inr (
    Option.map Sum.inr (
     some false))
  else
   some (.inl (W (v12 + 1)))
  else none
 else
  Option.map Sum.inr (
   ju m a0 v5 v6)
noncomputable def jx (m : Option Nat) (a0 : List (List UInt8)) (v5 : Int) (v6 : Int) (v12 : Int) : Option ((Int × Int) ⊕ Bool) := u4 m (fun (s : Int) => qw m a0 v5 v6 s) v12
theorem zia {a0 : List (List UInt8)} {v5 : Int} {v6 : Int} {m : Option Nat} {o : ((Int × Int) ⊕ Bool)} (h : ju m a0 v5 v6 = some o) :
 LWp Tryz.prog Yj 0 zau (xt 0 0 (Qw a0) (Xu a0) (Vc a0) o) [(0, .isl 1 (a0.map zb) false), (3, .int .i64 (W (v5 + (W (((a0.getD v6.toNat default).length : Int) + 1))))), (7, .isl 1 (a0.map zb) false), (8, .int .i64 ((a0.map zb).length : Int)), (9, .int .i64 v6)] [] 0 := by
 unfold ju at h
 refine ze ?_
 cases h
 exact AI rfl (y6 (M := []) rfl (S4 rfl rfl rfl rfl (AI (VS rfl) TT)) TT)
theorem zdw {a0 : List (List UInt8)} {v5 : Int} {v6 : Int} {v12 : Int} {m : Option Nat} {o : Int ⊕ ((Int × Int) ⊕ Bool)} (h : qw m a0 v5 v6 v12 = some o) :
 LWp Tryz.prog Yj 0 zfr (xt 0 0 (z1i a0 v5 v6) (z5z a0 v5 v6) (zbb a0) o) [(0, .isl 1 (a0.map zb) false), (3, .int .i64 (W (v5 + (W (((a0.getD v6.toNat default).length : Int) + 1))))), (5, .str (a0.getD v6.toNat default)), (7, .isl 1 (a0.map zb) false), (8, .int .i64 ((a0.map zb).length : Int)), (9, .int .i64 v6), (35, .int .i64 ((a0.getD v6.toNat default).length : Int)), (36, .int .i64 v12)] [] 0 := by
 unfold qw at h
 refine zd ?_
 refine ze ?_
 refine zd ?_
 refine qj (v := (decide (v12 < ((a0.getD v6.toNat default).length : Int)))) rfl TT (fun h45 => ?_) (fun h45 => ?_)
 ·have h := zk h45 h
  refine qv ?_
  refine zd ?_
  refine yf ?_
  refine zd ?_
  refine ze ?_
  refine zd ?_
  refine ze ?_
  obtain ⟨h46, h⟩ := zc h
  refine AI h46 ?_
  obtain ⟨v14, h47, h⟩ := bind_some h
  refine PFn.call (zrf h47) (AI (VS rfl) TT) ?_
  refine LWp.sim (e := [(0, .isl 1 (a0.map zb) false), (3, .int .i64 (W (v5 + (W (((a0.getD v6.toNat default).length : Int) + 1))))), (5, .str (a0.getD v6.toNat default)), (7, .isl 1 (a0.map zb) false), (8, .int .i64 ((a0.map zb).length : Int)), (9, .int .i64 v6), (35, .int .i64 ((a0.getD v6.toNat default).length : Int)), (36, .int .i64 v12), (43, .bool (!v14))]) (L := []) (n := 0) ?_ ?_
  ·exact y6 (M := []) rfl (S4 rfl rfl rfl rfl (S4 rfl rfl rfl rfl (AI (VS rfl) TT))) TT
  refine qj (v := (!v14)) rfl TT (fun h48 => ?_) (fun h48 => ?_)
  ·have h := zk h48 h
   refine zd ?_
   refine ze ?_
   refine u5 ?_
   obtain ⟨o, hq, rfl⟩ := Option.map_eq_some_iff.1 h
   replace h := hq; clear hq
   refine AI nofun ?_
   obtain ⟨o, hq, rfl⟩ := Option.map_eq_some_iff.1 h
   replace h := hq; clear hq
   refine AI nofun ?_
   cases h
   exact AI TT (AI rfl (VS rfl))
  ·have h := zw h48 h
   refine qv ?_
   refine ze ?_
   cases h
   exact AI rfl (y6 (M := []) rfl (S4 rfl rfl rfl rfl (S4 rfl rfl rfl rfl TT)) TT)
 ·have h := zw h45 h
  refine Z2 ?_
  obtain ⟨o, hq, rfl⟩ := Option.map_eq_some_iff.1 h
  replace h := hq; clear hq
  refine AI nofun ?_
  refine LWp.sim ?_ (zia h)
  exact y6 (M := []) rfl (S4 rfl rfl rfl rfl (AI (VS rfl) TT)) TT
theorem zm8 {a0 : List (List UInt8)} {v5 : Int} {v6 : Int} {v12 : Int} {m : Option Nat} {o : ((Int × Int) ⊕ Bool)} (h : jx m a0 v5 v6 v12 = some o) :
 LWp Tryz.prog Yj 0 (.loop zfr) (zm 2 (zm 1 (ug Tryz.prog Yj 0 zau (xt 0 0 (Qw a0) (Xu a0) (Vc a0) o)))) [(0, .isl 1 (a0.map zb) false), (3, .int .i64 (W (v5 + (W (((a0.getD v6.toNat default).length : Int) + 1))))), (5, .str (a0.getD v6.toNat default)), (7, .isl 1 (a0.map zb) false), (8, .int .i64 ((a0.map zb).length : Int)), (9, .int .i64 v6), (35, .int .i64 ((a0.getD v6.toNat default).length : Int)), (36, .int .i64 v12)] [] 0 :=
 yi (m := m) (s := (v12 : Int)) (r := o) (fun (s : Int) => qw m a0 v5 v6 s) (z1i a0 v5 v6) (z5z a0 v5 v6) (zbb a0) (fun s o h => zdw h) h
noncomputable def vl (m : Option Nat) (a0 : List (List UInt8)) (v5 : Int) : Option Bool :=
 some ((decide (((a0.map zb).length : Int) ≤ 400)) && (decide (v5 ≤ 2001)))
noncomputable def qx (m : Option Nat) (a0 : List (List UInt8)) (v5 : Int) (v6 : Int) : Option ((Int × Int) ⊕ Bool) :=
 if (decide (v6 < ((a0.map zb).length : Int))) = true then
  if (0 : Int) ≤ v6 ∧ v6 < ((a0.map zb).length : Int) then
  if (((((a0.getD v6.toNat default) == ([] : List UInt8)) == false) && ((decide (v6 > 0)) == true)) = true → (0 : Int) ≤ (W (v6 - 1)) ∧ (W (v6 - 1)) < ((a0.map zb).length : Int)) then
  if (((a0.getD v6.toNat default) == ([] : List UInt8)) || ((decide (v6 > 0)) && (!(Op.bytesLess (a0.getD ((W (v6 - 1)).toNat) default) (a0.getD v6.toNat default))))) = true then
   Option.map Sum.inr (
    some false)
  else
   jx m a0 v5 v6 0
  else none
  else none
 else
  Option.map Sum.inr (
   vl m a0 v5)
noncomputable def jy (m : Option Nat) (a0 : List (List UInt8)) (v5 : Int) (v6 : Int) : Option Bool := u4 m (fun (s : (Int × Int)) => qx m a0 s.1 s.2) (v5, v6)
theorem zn3 {a0 : List (List UInt8)} {v5 : Int} {m : Option Nat} {o : Bool} (h : vl m a0 v5 = some o) :
 LWp Tryz.prog Yj 0 zbe (zon a0 o) [(0, .isl 1 (a0.map zb) false), (3, .int .i64 v5)] [] 0 := by
 unfold vl at h
 refine zd ?_
 refine ze ?_
 refine AI (fun hp => hp) ?_
 refine AI (fun hc => (bqt hc)) ?_
 refine LWp.sim (e := [(2, .bool ((decide (((a0.map zb).length : Int) ≤ 400)) && (decide (v5 ≤ 2001))))]) (L := []) (n := 0) ?_ ?_
 ·exact y6 (M := []) rfl (AI (VS rfl) TT) TT
 refine u5 ?_
 cases h
 exact AI TT (AI rfl (VS rfl))
theorem zec {a0 : List (List UInt8)} {v5 : Int} {v6 : Int} {m : Option Nat} {o : (Int × Int) ⊕ Bool} (h : qx m a0 v5 v6 = some o) :
 LWp Tryz.prog Yj 0 zkh (xt 0 0 (Qw a0) (Xu a0) (Vc a0) o) [(0, .isl 1 (a0.map zb) false), (3, .int .i64 v5), (7, .isl 1 (a0.map zb) false), (8, .int .i64 ((a0.map zb).length : Int)), (9, .int .i64 v6)] [] 0 := by
 unfold qx at h
 refine zd ?_
 refine ze ?_
 refine zd ?_
 refine qj (v := (decide (v6 < ((a0.map zb).length : Int)))) rfl TT (fun h33 => ?_) (fun h33 => ?_)
 ·have h := zk h33 h
  refine qv ?_
  refine zd ?_
  refine yf ?_
  refine zd ?_
  refine ze ?_
  obtain ⟨h34, h⟩ := zc h
  refine AI h34 ?_
  refine EX (zb (a0.getD v6.toNat default)) (AI (qo zb _ _ (ji zb h34)) (AI (AI (k7 h34) (NB rfl)) ?_))
  refine zd ?_
  refine ze ?_
  refine LWp.sim (e := [(0, .isl 1 (a0.map zb) false), (3, .int .i64 (W (v5 + (W (((a0.getD v6.toNat default).length : Int) + 1))))), (4, .int .i64 v6), (5, .str (a0.getD v6.toNat default)), (7, .isl 1 (a0.map zb) false), (8, .int .i64 ((a0.map zb).length : Int)), (9, .int .i64 v6)]) (L := []) (n := 0) ?_ ?_
  ·exact y6 (M := []) rfl (S4 rfl rfl rfl rfl (S2 rfl rfl (AI (VS rfl) TT))) TT
  refine zd ?_
  refine zd ?_
  refine ze ?_
  refine AI (fun hp => hp) ?_
  refine AI (fun hp => hp) ?_
  refine AI (fun hp => hp) ?_
  obtain ⟨h35, h⟩ := zc h
  refine AI (fun hp => (AI (AI hp hp) (h35 hp))) ?_
  refine EX (zb (a0.getD ((W (v6 - 1)).toNat) default)) (AI (fun hp => AI (qo zb _ _ (ji zb (h35 hp))) (AI hp (AI (k7 (h35 hp)) (NB rfl)))) ?_)
  refine AI (fun hp => (AI hp hp)) ?_
  refine AI (fun hp => (AI hp (fun hc => (z9w hp (bqt hc))))) ?_
  refine AI (fun hc => (bqf hc)) ?_
  refine LWp.sim (e := [(0, .isl 1 (a0.map zb) false), (3, .int .i64 (W (v5 + (W (((a0.getD v6.toNat default).length : Int) + 1))))), (5, .str (a0.getD v6.toNat default)), (7, .isl 1 (a0.map zb) false), (8, .int .i64 ((a0.map zb).length : Int)), (9, .int .i64 v6), (33, .bool (((a0.getD v6.toNat default) == ([] : List UInt8)) || ((decide (v6 > 0)) && (!(Op.bytesLess (a0.getD ((W (v6 - 1)).toNat) default) (a0.getD v6.toNat default))))))]) (L := []) (n := 0) ?_ ?_
  ·exact y6 (M := []) rfl (S4 rfl rfl rfl rfl (S2 rfl rfl (AI (VS rfl) TT))) TT
  refine qj (v := (((a0.getD v6.toNat default) == ([] : List UInt8)) || ((decide (v6 > 0)) && (!(Op.bytesLess (a0.getD ((W (v6 - 1)).toNat) default) (a0.getD v6.toNat default)))))) rfl TT (fun h36 => ?_) (fun h36 => ?_)
  ·have h := zk h36 h
   refine zd ?_
   refine ze ?_
   refine u5 ?_
   obtain ⟨o, hq, rfl⟩ := Option.map_eq_some_iff.1 h
   replace h := hq; clear hq
   refine AI nofun ?_
   cases h
   exact AI TT (AI rfl (VS rfl))
  ·have h := zw h36 h
   refine qv ?_
   refine zd ?_
   refine ze ?_
   refine yf ?_
   refine LWp.sim ?_ (zm8 h)
   exact y6 (M := []) rfl (S4 rfl rfl rfl rfl (S4 rfl rfl rfl rfl TT)) TT
 ·have h := zw h33 h
  refine Z2 ?_
  obtain ⟨o, hq, rfl⟩ := Option.map_eq_some_iff.1 h
  replace h := hq; clear hq
  refine AI nofun ?_
  refine LWp.sim ?_ (zn3 h)
  exact y6 (M := []) rfl (S2 rfl rfl TT) TT
theorem zlb {a0 : List (List UInt8)} {v5 : Int} {v6 : Int} {m : Option Nat} {o : Bool} (h : jy m a0 v5 v6 = some o) :
 LWp Tryz.prog Yj 0 (.loop zkh) (zm 0 (ug Tryz.prog Yj 0 zbe (zon a0 o))) [(0, .isl 1 (a0.map zb) false), (3, .int .i64 v5), (7, .isl 1 (a0.map zb) false), (8, .int .i64 ((a0.map zb).length : Int)), (9, .int .i64 v6)] [] 0 :=
 yi (m := m) (s := ((v5, v6) : (Int × Int))) (r := o) (fun (s : (Int × Int)) => qx m a0 s.1 s.2) (Qw a0) (Xu a0) (Vc a0) (fun s o h => zec h) h
noncomputable def vd (m : Option Nat) (a0 : List (List UInt8)) : Option Bool :=
 jy m a0 0 0
theorem zkd {a0 : List (List UInt8)} {m : Option Nat} {o : Bool} (h : vd m a0 = some o) : LWp Tryz.prog Yj 0 zr4 (zon a0 o) (zz 0 [.isl 1 (a0.map zb) false]) [] 0 := by
 unfold vd at h
 refine zd ?_
 refine ze ?_
 refine zd ?_
 refine ze ?_
 refine zd ?_
 refine zd ?_
 refine ze ?_
 refine yf ?_
 refine LWp.sim ?_ (zlb h)
 exact y6 (M := []) rfl (S4 rfl rfl rfl rfl (AI (VS rfl) TT)) TT
theorem zxd {a0 : List (List UInt8)} {m : Option Nat} {o : Bool} (h : vd m a0 = some o) : PFn Tryz.prog 46 [.isl 1 (a0.map zb) false] (.bool o) := PFn.ofFnW (L := zxp) zvf zvv (NB rfl) rfl (zkd h)
def zrr : LCode := (.seq (.draw [⟨⟨some 37, .load true 3 (.t 9), none⟩, []⟩,
 ⟨⟨some 38, .faddr 2 (.t 9), none⟩, []⟩,
 ⟨⟨some 39, .load false 1 (.t 38), none⟩, []⟩,
 ⟨⟨some 40, .call 46 [(.t 39)], none⟩, [0]⟩,
 ⟨⟨none, .store 3 (.t 4) (.t 37), none⟩, []⟩,
 ⟨⟨some 5, .mv (.t 40), none⟩, []⟩])
 .ret)
def zs7 : LCode := (.seq (.region [⟨some 2, .box (.t 0), none⟩,
 ⟨some 4, .alloc [(.str []), (.int .u32 0), (.isl 1 [] true)], none⟩,
 ⟨some 5, .mv (.c (.bool false)), none⟩])
 (.seq (.region [⟨some 10, .faddr 2 (.t 2), none⟩,
  ⟨some 11, .load false 1 (.t 10), none⟩,
  ⟨some 12, .call 42 [(.t 11)], none⟩,
  ⟨some 6, .mv (.t 12), none⟩])
 (.seq (.region [⟨some 14, .mv (.t 1), none⟩,
  ⟨some 15, .mv (.t 6), none⟩,
  ⟨some 16, .call 44 [(.t 15)], none⟩,
  ⟨some 17, .call 43 [(.t 14), (.t 16)], none⟩,
  ⟨some 13, .mv (.t 17), none⟩,
  ⟨some 18, .ext 0 (.t 13), none⟩,
  ⟨some 19, .ext 1 (.t 13), none⟩,
  ⟨some 7, .mv (.t 18), none⟩,
  ⟨some 8, .mv (.t 19), none⟩])
 (.seq (.seq (.region [⟨some 20, .mv (.t 8), none⟩,
  ⟨some 21, .un .not (.t 20), none⟩])
 (.cond (.t 21)
  (.seq (.region [⟨some 22, .build [(.str []), (.int .u32 0), (.isl 1 [] true)] [], none⟩,
   ⟨none, .store 3 (.t 4) (.t 22), none⟩,
   ⟨some 5, .mv (.c (.bool false)), none⟩])
  .ret)
  .skip))
 (.seq (.region [⟨some 23, .faddr 0 (.t 2), none⟩,
  ⟨some 24, .load false 1 (.t 23), none⟩,
  ⟨some 25, .mv (.t 6), none⟩,
  ⟨some 26, .build [(.str []), (.int .u32 0), (.isl 1 [] true)] [(0, 1, (.t 24)), (1, 1, (.t 25))], none⟩,
  ⟨some 9, .alloc [(.str []), (.int .u32 0), (.isl 1 [] true)], none⟩,
  ⟨none, .store 3 (.t 9) (.t 26), none⟩])
 (.seq (.seq (.region [⟨some 27, .mv (.t 7), none⟩,
  ⟨some 28, .bin .neq (.t 27) (.c (.str [])), none⟩])
 (.cond (.t 28)
  (.seq (.seq (.region [⟨some 29, .mv (.t 7), none⟩,
   ⟨some 30, .idxS (.t 29) (.c (.int .i64 0)), none⟩,
   ⟨some 31, .bin .neq (.t 30) (.c (.int .u8 32)), none⟩])
  (.cond (.t 31)
   (.seq (.region [⟨some 32, .build [(.str []), (.int .u32 0), (.isl 1 [] true)] [], none⟩,
    ⟨none, .store 3 (.t 4) (.t 32), none⟩,
    ⟨some 5, .mv (.c (.bool false)), none⟩])
   .ret)
   .skip))
  (.region [⟨some 33, .mv (.t 7), none⟩,
   ⟨some 34, .slStr (.t 33) (some (.c (.int .i64 1))) none, none⟩,
   ⟨some 35, .call 45 [(.t 34), (.c (.str [32]))], none⟩,
   ⟨some 36, .faddr 2 (.t 9), none⟩,
   ⟨none, .store 1 (.t 36) (.t 35), none⟩]))
  .skip))
 zrr))))))
def z90 : Lay := ⟨41, [], false⟩
def zmt : List LRes := [.cell 4 true 3, .t 5]
def zzl : LFn := ⟨2, z90, zs7, zmt⟩
theorem zvo : ww Tryz.prog [] 22 = some zzl := by kernel_rfl
theorem zt1 : Z9 Tryz.prog 22 := ⟨_, Tryz.func22, rfl, rfl⟩
noncomputable def wg (m : Option Nat) (a0 : G_QDocument) (v1 : Int) (v5 : List (List UInt8)) : Option (G_QIndexEntry × Bool) :=
 (vd m v5).bind fun v6 =>
 some ((G_QIndexEntry.mk a0.f_Name v1 v5), v6)
def zxe (a0 : G_QDocument) (a1 : List UInt8) (o : G_QIndexEntry × Bool) : Exit → Env → AHeap → Nat → Prop := Zy zmt (q6 (.tup [.agg [.str o.1.f_Name, .int .u32 o.1.f_Sum, .isl 1 (o.1.f_Words.map zb) false], .bool o.2]))
theorem z69 {a1 : List UInt8} {a0 : G_QDocument} {v1 : Int} {v5 : List (List UInt8)} {m : Option Nat} {o : (G_QIndexEntry × Bool)} (h : wg m a0 v1 v5 = some o) :
 LWp Tryz.prog z90 0 zrr (zxe a0 a1 o) [(4, .ptr (0, 0) 0 0), (9, .ptr (1, 0) 0 0)] [((0, 0), .one [.str ([] : List UInt8), .int .u32 0, .isl 1 (([] : List (List UInt8)).map zb) true]), ((1, 0), .one [.str a0.f_Name, .int .u32 v1, .isl 1 (v5.map zb) false])] 2 := by
 unfold wg at h
 refine zd ?_
 refine z86 ?_
 obtain ⟨v6, h10, h⟩ := bind_some h
 refine PFn.call (zxd h10) (AI (VS rfl) TT) ?_
 refine AI rfl ?_
 refine u5 ?_
 cases h
 exact AI (AI TT (AI rfl (NB rfl))) (AI TT (AI rfl (VS rfl)))
noncomputable def vw (m : Option Nat) (a0 : G_QDocument) (a1 : List UInt8) : Option (G_QIndexEntry × Bool) :=
 (j0 m a0.f_Text).bind fun v1 =>
 (uj m v1).bind fun v2 =>
 (vi m a1 v2).bind fun v3 =>
 if (!v3.2) = true then
  some ((G_QIndexEntry.mk ([] : List UInt8) 0 ([] : List (List UInt8))), false)
 else
  if (!(v3.1 == ([] : List UInt8))) = true then
   if (0 : Int) ≤ 0 ∧ 0 < (v3.1.length : Int) then
   if ((((v3.1.getD (0 : Int).toNat 0).toNat : Nat) : Int) != 32) = true then
    some ((G_QIndexEntry.mk ([] : List UInt8) 0 ([] : List (List UInt8))), false)
   else
    if (0 : Int) ≤ 1 ∧ 1 ≤ (v3.1.length : Int) then
    (Zx m ((v3.1.take v3.1.length).drop (1 : Int).toNat) ([32] : List UInt8)).bind fun v4 =>
    wg m a0 v1 v4
    else none
   else none
  else
   wg m a0 v1 ([] : List (List UInt8))
theorem ziz {a0 : G_QDocument} {a1 : List UInt8} {m : Option Nat} {o : G_QIndexEntry × Bool} (h : vw m a0 a1 = some o) : LWp Tryz.prog z90 0 zs7 (zxe a0 a1 o) (zz 0 [.agg [.str a0.f_Name, .int .i64 a0.f_Version, .str a0.f_Text], .str a1]) [] 0 := by
 unfold vw at h
 refine zd ?_
 refine ze ?_
 refine zd ?_
 refine ze ?_
 obtain ⟨v1, h1, h⟩ := bind_some h
 refine PFn.call (zf9 h1) (AI (VS rfl) TT) ?_
 refine zd ?_
 refine ze ?_
 obtain ⟨v2, h2, h⟩ := bind_some h
 refine PFn.call (zz0 h2) (AI (VS rfl) TT) ?_
 obtain ⟨v3, h3, h⟩ := bind_some h
 refine PFn.call (y17 h3) (S2 rfl rfl TT) ?_
 refine LWp.sim (e := [(2, .ptr (0, 0) 0 0), (4, .ptr (1, 0) 0 0), (6, .int .u32 v1), (7, .str v3.1), (8, .bool v3.2)]) (L := [((0, 0), .one [.str a0.f_Name, .int .i64 a0.f_Version, .str a0.f_Text]), ((1, 0), .one [.str ([] : List UInt8), .int .u32 0, .isl 1 (([] : List (List UInt8)).map zb) true])]) (n := 2) ?_ ?_
 ·exact y6 (M := [((0, 0), (0, 0)), ((1, 0), (1, 0))]) rfl (AI (Vw.ptr _ _ _ _ rfl) (AI (Vw.ptr _ _ _ _ rfl) (S2 rfl rfl (AI (VS rfl) TT)))) (AI (AI rfl (BVw.oneL (S2 rfl rfl (AI (VS rfl) TT)))) (AI (AI rfl (BVw.oneL (S2 rfl rfl (AI (VS rfl) TT)))) TT))
 refine zd ?_
 refine zd ?_
 refine ze ?_
 refine qj (v := (!v3.2)) rfl TT (fun h4 => ?_) (fun h4 => ?_)
 ·have h := zk h4 h
  refine zd ?_
  refine ze ?_
  refine u5 ?_
  cases h
  exact AI (AI TT (AI rfl (NB rfl))) (AI TT (AI rfl (Vw.tupL (AI (Vw.aggL (S2 rfl rfl (AI (Vw.islF _ _ _) TT))) (AI (VS rfl) TT)))))
 ·have h := zw h4 h
  refine qv ?_
  refine zd ?_
  refine ze ?_
  refine LWp.sim (e := [(4, .ptr (0, 0) 0 0), (7, .str v3.1), (9, .ptr (1, 0) 0 0)]) (L := [((0, 0), .one [.str ([] : List UInt8), .int .u32 0, .isl 1 (([] : List (List UInt8)).map zb) true]), ((1, 0), .one [.str a0.f_Name, .int .u32 v1, .isl 1 (([] : List (List UInt8)).map zb) true])]) (n := 2) ?_ ?_
  ·exact y6 (M := [((0, 0), (1, 0)), ((1, 0), (2, 0))]) rfl (AI (Vw.ptr _ _ _ _ rfl) (AI (VS rfl) (AI (Vw.ptr _ _ _ _ rfl) TT))) (AI (AI rfl (BVw.oneL (S2 rfl rfl (AI (VS rfl) TT)))) (AI (AI rfl (BVw.oneL (S2 rfl rfl (AI (VS rfl) TT)))) TT))
  refine zd ?_
  refine zd ?_
  refine ze ?_
  refine qj (v := (!(v3.1 == ([] : List UInt8)))) rfl TT (fun h5 => ?_) (fun h5 => ?_)
  ·have h := zk h5 h
   refine zd ?_
   refine zd ?_
   refine ze ?_
   obtain ⟨h6, h⟩ := zc h
   refine AI h6 ?_
   refine qj (v := ((((v3.1.getD (0 : Int).toNat 0).toNat : Nat) : Int) != 32)) rfl TT (fun h7 => ?_) (fun h7 => ?_)
   ·have h := zk h7 h
    refine zd ?_
    refine ze ?_
    refine LWp.sim (e := [(4, .ptr (0, 0) 0 0), (5, .bool false)]) (L := [((0, 0), .one [.str ([] : List UInt8), .int .u32 0, .isl 1 (([] : List (List UInt8)).map zb) true])]) (n := 1) ?_ ?_
    ·exact y6 (M := [((0, 0), (0, 0))]) rfl (AI (Vw.ptr _ _ _ _ rfl) (AI (VS rfl) TT)) (AI (AI rfl (BVw.oneL (S2 rfl rfl (AI (VS rfl) TT)))) TT)
    refine u5 ?_
    cases h
    exact AI (AI TT (AI rfl (NB rfl))) (AI TT (AI rfl (Vw.tupL (AI (Vw.aggL (S2 rfl rfl (AI (Vw.islF _ _ _) TT))) (AI (VS rfl) TT)))))
   ·have h := zw h7 h
    refine qv ?_
    refine ze ?_
    obtain ⟨h8, h⟩ := zc h
    refine AI (AI (And.left h8) (AI (And.right h8) (Int.le_refl _))) ?_
    obtain ⟨v4, h9, h⟩ := bind_some h
    refine PFn.call (zz9 h9) (S2 rfl rfl TT) ?_
    refine LWp.sim ?_ (z69 h)
    exact y6 (M := [((0, 0), (0, 0)), ((1, 0), (1, 0))]) rfl (AI (Vw.ptr _ _ _ _ rfl) (AI (Vw.ptr _ _ _ _ rfl) TT)) (AI (AI rfl (BVw.oneL (S2 rfl rfl (AI (VS rfl) TT)))) (AI (AI rfl (BVw.oneL (S2 rfl rfl (AI (VS rfl) TT)))) TT))
  ·have h := zw h5 h
   refine qv ?_
   refine LWp.sim ?_ (z69 h)
   exact y6 (M := [((0, 0), (0, 0)), ((1, 0), (1, 0))]) rfl (AI (Vw.ptr _ _ _ _ rfl) (AI (Vw.ptr _ _ _ _ rfl) TT)) (AI (AI rfl (BVw.oneL (S2 rfl rfl (AI (VS rfl) TT)))) (AI (AI rfl (BVw.oneL (S2 rfl rfl (AI (Vw.islF _ _ _) TT)))) TT))
theorem zzy {a0 : G_QDocument} {a1 : List UInt8} {m : Option Nat} {o : G_QIndexEntry × Bool} (h : vw m a0 a1 = some o) : PFn Tryz.prog 22 [.agg [.str a0.f_Name, .int .i64 a0.f_Version, .str a0.f_Text], .str a1] (.tup [.agg [.str o.1.f_Name, .int .u32 o.1.f_Sum, .isl 1 (o.1.f_Words.map zb) false], .bool o.2]) := PFn.ofFnW (L := zzl) zvo zt1 (NB rfl) rfl (ziz h)
def zxw : LCode := (.seq (.region [⟨some 56, .mv (.t 11), none⟩,
 ⟨some 57, .load true 3 (.t 14), none⟩,
 ⟨some 58, .call 23 [(.t 57)], none⟩,
 ⟨some 59, .mkSl true 3 [(.str []), (.int .u32 0), (.isl 1 [] true)] 1 [(0, (.t 58))], none⟩,
 ⟨some 60, .app false 3 48 (.t 56) (.t 59), none⟩,
 ⟨some 11, .mv (.t 60), none⟩])
 (.region [⟨some 61, .mv (.t 12), none⟩,
  ⟨some 62, .faddr 0 (.t 14), none⟩,
  ⟨some 63, .load false 1 (.t 62), none⟩,
  ⟨some 64, .mkSl true 1 [(.str [])] 1 [(0, (.t 63))], none⟩,
  ⟨some 65, .app false 1 16 (.t 61) (.t 64), none⟩,
  ⟨some 12, .mv (.t 65), none⟩]))
def zv6 : LCode := (.region [⟨some 66, .bin .add (.t 32) (.c (.int .i64 1)), none⟩,
 ⟨some 32, .mv (.t 66), none⟩])
def zun : LCode := (.seq (.region [⟨some 33, .bin .lss (.t 32) (.t 31), none⟩])
 (.seq (.cond (.t 33)
  .skip
  (.exit 0))
 (.seq (.block 1
  (.seq (.region [⟨some 34, .iaddr 3 (.t 30) (.t 32), none⟩,
   ⟨some 35, .load true 3 (.t 34), none⟩,
   ⟨some 14, .alloc [(.str []), (.int .i64 0), (.str [])], none⟩,
   ⟨none, .store 3 (.t 14) (.t 35), none⟩])
  (.seq (.region [⟨some 36, .mv (.t 10), none⟩,
   ⟨some 37, .mkfn (.func 21) [] [(.t 14)], none⟩,
   ⟨some 38, .call 20 [(.t 36), (.t 37)], none⟩,
   ⟨some 15, .mv (.t 38), none⟩])
  (.seq (.seq (.region [⟨some 39, .mv (.t 15), none⟩,
   ⟨some 40, .bin .geq (.t 39) (.c (.int .i64 0)), none⟩])
  (.cond (.t 40)
   (.seq (.draw [⟨⟨some 42, .load true 3 (.t 14), none⟩, []⟩,
    ⟨⟨some 43, .mv (.t 10), none⟩, []⟩,
    ⟨⟨some 44, .mv (.t 15), none⟩, []⟩,
    ⟨⟨some 45, .iaddr 3 (.t 43) (.t 44), none⟩, []⟩,
    ⟨⟨some 46, .faddr 1 (.t 45), none⟩, []⟩,
    ⟨⟨some 47, .load false 1 (.t 46), none⟩, []⟩,
    ⟨⟨some 48, .call 22 [(.t 42), (.t 47)], none⟩, []⟩,
    ⟨⟨some 41, .mv (.t 48), none⟩, []⟩,
    ⟨⟨some 49, .ext 0 (.t 41), none⟩, []⟩,
    ⟨⟨some 50, .ext 1 (.t 41), none⟩, []⟩,
    ⟨⟨some 16, .alloc [(.str []), (.int .u32 0), (.isl 1 [] true)], none⟩, [0, 5]⟩,
    ⟨⟨none, .store 3 (.t 16) (.t 49), none⟩, []⟩,
    ⟨⟨some 17, .mv (.t 50), none⟩, []⟩])
   (.seq (.region [⟨some 51, .mv (.t 17), none⟩])
   (.cond (.t 51)
    (.seq (.region [⟨some 52, .mv (.t 11), none⟩,
     ⟨some 53, .load true 3 (.t 16), none⟩,
     ⟨some 54, .mkSl true 3 [(.str []), (.int .u32 0), (.isl 1 [] true)] 1 [(0, (.t 53))], none⟩,
     ⟨some 55, .app false 3 48 (.t 52) (.t 54), none⟩,
     ⟨some 11, .mv (.t 55), none⟩])
    (.exit 1))
    .skip)))
   .skip))
  zxw))))
 zv6)))
def zp4 : LCode := (.seq (.region [⟨some 67, .mv (.t 11), none⟩,
 ⟨some 68, .call 24 [(.t 67), (.c (.fn (.func 25) [] []))], none⟩])
 (.seq (.region [⟨some 69, .mv (.t 12), none⟩,
  ⟨some 70, .call 26 [(.t 69)], none⟩])
 (.seq (.region [⟨some 71, .mv (.t 11), none⟩,
  ⟨some 72, .mv (.t 12), none⟩,
  ⟨some 4, .mv (.t 71), none⟩,
  ⟨some 5, .mv (.t 72), none⟩,
  ⟨some 6, .mv (.c (.int .i64 0)), none⟩])
 .ret)))
def y12 : LCode := (.seq (.region [⟨some 4, .mv (.c (.val (.slice none 0 0))), none⟩,
 ⟨some 5, .mv (.c (.val (.slice none 0 0))), none⟩,
 ⟨some 6, .mv (.c (.int .i64 0)), none⟩])
 (.seq (.seq (.region [⟨some 18, .mv (.t 1), none⟩,
  ⟨some 19, .call 17 [(.t 18)], none⟩,
  ⟨some 7, .mv (.t 19), none⟩])
 (.seq (.region [⟨some 20, .mv (.t 7), none⟩,
  ⟨some 21, .bin .neq (.t 20) (.c (.int .i64 0)), none⟩])
 (.cond (.t 21)
  (.seq (.region [⟨some 22, .mv (.t 7), none⟩,
   ⟨some 4, .mv (.c (.val (.slice none 0 0))), none⟩,
   ⟨some 5, .mv (.c (.val (.slice none 0 0))), none⟩,
   ⟨some 6, .mv (.t 22), none⟩])
  .ret)
  .skip)))
 (.seq (.region [⟨some 24, .mv (.t 0), none⟩,
  ⟨some 25, .call 18 [(.t 24)], none⟩,
  ⟨some 23, .mv (.t 25), none⟩,
  ⟨some 26, .ext 0 (.t 23), none⟩,
  ⟨some 27, .ext 1 (.t 23), none⟩,
  ⟨some 8, .mv (.t 26), none⟩,
  ⟨some 9, .mv (.t 27), none⟩])
 (.seq (.region [⟨some 28, .mv (.t 9), none⟩,
  ⟨some 29, .call 19 [(.t 28)], none⟩,
  ⟨some 10, .mv (.t 29), none⟩])
 (.seq (.region [⟨some 11, .mv (.c (.val (.slice none 0 0))), none⟩])
 (.seq (.region [⟨some 12, .mv (.c (.val (.slice none 0 0))), none⟩])
 (.seq (.seq (.region [⟨some 30, .mv (.t 1), none⟩,
  ⟨some 31, .len false (.t 30), none⟩,
  ⟨some 32, .mv (.c (.int .i64 0)), none⟩])
 (.block 0
  (.loop
   zun)))
 zp4)))))))
def W5 : Lay := ⟨73, [55, 60, 65], false⟩
def zsb : List LRes := [.t 4, .t 5, .t 6]
def y2r : LFn := ⟨2, W5, y12, zsb⟩
theorem zzu : ww Tryz.prog [55, 60, 65] 5 = some y2r := by kernel_rfl
theorem y0h : Z9 Tryz.prog 5 := ⟨_, Tryz.func5, rfl, rfl⟩
def y1k (a0 : List UInt8) (a1 : List G_QDocument) (o : (List G_QIndexEntry) × (List (List UInt8)) × Int) : Exit → Env → AHeap → Nat → Prop := Zy zsb (q6 (.tup [.isl 3 (o.1.map z7) false, .isl 1 (o.2.1.map zb) false, .int .i64 o.2.2]))
def Ve (a1 : List G_QDocument) (v3 : (List G_QRecord)) (s : (Int × (List G_QIndexEntry) × (List (List UInt8)))) : Env := [(10, .isl 3 (v3.map za) false), (11, .msl (0, 0) 3 0 s.2.1.length false), (12, .msl (1, 0) 1 0 s.2.2.length false), (30, .isl 3 (a1.map z8) false), (31, .int .i64 ((a1.map z8).length : Int)), (32, .int .i64 s.1)]
def U7 (a1 : List G_QDocument) (v3 : (List G_QRecord)) (s : (Int × (List G_QIndexEntry) × (List (List UInt8)))) : AHeap := [((0, 0), .rows 3 (s.2.1.map z7)), ((1, 0), .rows 1 (s.2.2.map zb))]
def z3i (a0 : List UInt8) (a1 : List G_QDocument) (o : ((List G_QIndexEntry) × (List (List UInt8)) × Int)) : Exit → Env → AHeap → Nat → Prop := (zm 0 (ug Tryz.prog W5 0 zp4 (y1k a0 a1 o)))
noncomputable def js (m : Option Nat) (a1 : List G_QDocument) (v3 : (List G_QRecord)) (v9 : Int) (v20 : List G_QIndexEntry) (v21 : List (List UInt8)) : Option ((Int × (List G_QIndexEntry) × (List (List UInt8))) ⊕ ((List G_QIndexEntry) × (List (List UInt8)) × Int)) :=
 some (.inl ((W (v9 + 1)), v20, v21))
noncomputable def jq (m : Option Nat) (a1 : List G_QDocument) (v3 : (List G_QRecord)) (v9 : Int) (v10 : List G_QIndexEntry) (v11 : List (List UInt8)) : Option ((Int × (List G_QIndexEntry) × (List (List UInt8))) ⊕ ((List G_QIndexEntry) × (List (List UInt8)) × Int)) :=
 (jj m (G_QDocument.mk ((a1.getD v9.toNat default).f_Name) ((a1.getD v9.toNat default).f_Version) ((a1.getD v9.toNat default).f_Text))).bind fun v19 =>
 if ((v10 ++ ([v19] : List G_QIndexEntry)).map z7).length * 48 ≤ 140737488355328 then
 if ((v11 ++ ([((a1.getD v9.toNat default).f_Name)] : List (List UInt8))).map zb).length * 16 ≤ 140737488355328 then
 js m a1 v3 v9 (v10 ++ ([v19] : List G_QIndexEntry)) (v11 ++ ([((a1.getD v9.toNat default).f_Name)] : List (List UInt8)))
 else none
 else none
theorem zbo {a0 : List UInt8} {a1 : List G_QDocument} {v3 : (List G_QRecord)} {v9 : Int} {v20 : List G_QIndexEntry} {v21 : List (List UInt8)} {m : Option Nat} {o : ((Int × (List G_QIndexEntry) × (List (List UInt8))) ⊕ ((List G_QIndexEntry) × (List (List UInt8)) × Int))} (h : js m a1 v3 v9 v20 v21 = some o) :
 LWp Tryz.prog W5 0 zv6 (xt 0 2 (Ve a1 v3) (U7 a1 v3) (z3i a0 a1) o) [(10, .isl 3 (v3.map za) false), (11, .msl (0, 0) 3 0 v20.length false), (12, .msl (1, 0) 1 0 v21.length false), (30, .isl 3 (a1.map z8) false), (31, .int .i64 ((a1.map z8).length : Int)), (32, .int .i64 v9)] [((0, 0), .rows 3 (v20.map z7)), ((1, 0), .rows 1 (v21.map zb))] 2 := by
 unfold js at h
 refine ze ?_
 cases h
 exact AI rfl (y6 (M := [((0, 0), (0, 0)), ((1, 0), (1, 0))]) rfl (AI (VS rfl) (AI (Vw.mslE rfl (by first | rfl | omega | (simp; done) | (simp at *; omega)) rfl) (AI (Vw.mslE rfl (by first | rfl | omega | (simp; done) | (simp at *; omega)) rfl) (S2 rfl rfl (AI (VS rfl) TT))))) (AI (AI rfl (BVw.enc z7 (fun _ => rfl) _ v20)) (AI (AI rfl (BVw.enc zb (fun _ => rfl) _ v21)) TT)))
theorem zbd {a0 : List UInt8} {a1 : List G_QDocument} {v3 : (List G_QRecord)} {v9 : Int} {v10 : List G_QIndexEntry} {v11 : List (List UInt8)} {m : Option Nat} {o : ((Int × (List G_QIndexEntry) × (List (List UInt8))) ⊕ ((List G_QIndexEntry) × (List (List UInt8)) × Int))} (h : jq m a1 v3 v9 v10 v11 = some o) :
 LWp Tryz.prog W5 0 zxw (zm 1 (ug Tryz.prog W5 0 zv6 (xt 0 2 (Ve a1 v3) (U7 a1 v3) (z3i a0 a1) o))) [(10, .isl 3 (v3.map za) false), (11, .msl (0, 0) 3 0 v10.length false), (12, .msl (1, 0) 1 0 v11.length false), (14, .ptr (2, 0) 0 0), (30, .isl 3 (a1.map z8) false), (31, .int .i64 ((a1.map z8).length : Int)), (32, .int .i64 v9)] [((0, 0), .rows 3 (v10.map z7)), ((1, 0), .rows 1 (v11.map zb)), ((2, 0), .one [.str ((a1.getD v9.toNat default).f_Name), .int .i64 ((a1.getD v9.toNat default).f_Version), .str ((a1.getD v9.toNat default).f_Text)])] 3 := by
 unfold jq at h
 refine zd ?_
 refine ze ?_
 obtain ⟨v19, h35, h⟩ := bind_some h
 refine PFn.call (zsp h35) (AI (VS rfl) TT) ?_
 obtain ⟨h36, h⟩ := zc h
 refine AI (fun h => Bool.noConfusion h) (AI (zwr z7 (by first | rfl | omega | (simp; done) | (simp at *; omega))) (EX ((v10 ++ ([v19] : List G_QIndexEntry)).map z7) (AI (zx8 z7 v10 ([v19] : List G_QIndexEntry) (by first | rfl | omega | (simp; done) | (simp at *; omega))) (AI h36 ?_))))
 refine ze ?_
 obtain ⟨h37, h⟩ := zc h
 refine AI (fun h => Bool.noConfusion h) (AI (zwr zb (by first | rfl | omega | (simp; done) | (simp at *; omega))) (EX ((v11 ++ ([((a1.getD v9.toNat default).f_Name)] : List (List UInt8))).map zb) (AI (zx8 zb v11 ([((a1.getD v9.toNat default).f_Name)] : List (List UInt8)) (by first | rfl | omega | (simp; done) | (simp at *; omega))) (AI h37 ?_))))
 refine LWp.sim ?_ (zbo h)
 exact y6 (M := [((0, 0), (3, 0)), ((1, 0), (4, 0))]) rfl (AI (VS rfl) (AI (Vw.mslE rfl (by first | rfl | omega | (simp; done) | (simp at *; omega)) rfl) (AI (Vw.mslE rfl (by first | rfl | omega | (simp; done) | (simp at *; omega)) rfl) (S2 rfl rfl (AI (VS rfl) TT))))) (AI (AI rfl (BVw.enc z7 (fun _ => rfl) _ (v10 ++ ([v19] : List G_QIndexEntry)))) (AI (AI rfl (BVw.enc zb (fun _ => rfl) _ (v11 ++ ([((a1.getD v9.toNat default).f_Name)] : List (List UInt8))))) TT))
noncomputable def jr (m : Option Nat) (v10 : List G_QIndexEntry) (v11 : List (List UInt8)) : Option ((List G_QIndexEntry) × (List (List UInt8)) × Int) :=
 (yl m v10).bind fun v22 =>
 if v22.length = v10.length then
 (jg m v11).bind fun v23 =>
 if v23.length = v11.length then
 some (v22, v23, 0)
 else none
 else none
noncomputable def xz (m : Option Nat) (a1 : List G_QDocument) (v3 : (List G_QRecord)) (v9 : Int) (v10 : List G_QIndexEntry) (v11 : List (List UInt8)) : Option ((Int × (List G_QIndexEntry) × (List (List UInt8))) ⊕ ((List G_QIndexEntry) × (List (List UInt8)) × Int)) :=
 if (decide (v9 < ((a1.map z8).length : Int))) = true then
  if (0 : Int) ≤ v9 ∧ v9 < ((a1.map z8).length : Int) then
  (xe (fun (s : Unit) (x : G_QRecord) => (x4 m ((a1.getD v9.toNat default).f_Name) ((a1.getD v9.toNat default).f_Version) ((a1.getD v9.toNat default).f_Text) x).map fun o => (o, ())) m v3 ()).bind fun v17 =>
  if (decide (v17.1 ≥ 0)) = true then
   if (0 : Int) ≤ v17.1 ∧ v17.1 < ((v3.map za).length : Int) then
   (vw m (G_QDocument.mk ((a1.getD v9.toNat default).f_Name) ((a1.getD v9.toNat default).f_Version) ((a1.getD v9.toNat default).f_Text)) ((v3.getD v17.1.toNat default).f_Value)).bind fun v18 =>
   if v18.2 = true then
    if ((v10 ++ ([(G_QIndexEntry.mk v18.1.f_Name v18.1.f_Sum v18.1.f_Words)] : List G_QIndexEntry)).map z7).length * 48 ≤ 140737488355328 then
    js m a1 v3 v9 (v10 ++ ([(G_QIndexEntry.mk v18.1.f_Name v18.1.f_Sum v18.1.f_Words)] : List G_QIndexEntry)) v11
    else none
   else
    jq m a1 v3 v9 v10 v11
   else none
  else
   jq m a1 v3 v9 v10 v11
  else none
 else
  Option.map Sum.inr (
   jr m v10 v11)
noncomputable def vb (m : Option Nat) (a1 : List G_QDocument) (v3 : (List G_QRecord)) (v9 : Int) (v10 : List G_QIndexEntry) (v11 : List (List UInt8)) : Option ((List G_QIndexEntry) × (List (List UInt8)) × Int) := u4 m (fun (s : (Int × (List G_QIndexEntry) × (List (List UInt8)))) => xz m a1 v3 s.1 s.2.1 s.2.2) (v9, v10, v11)
theorem zoq {a0 : List UInt8} {a1 : List G_QDocument} {v10 : List G_QIndexEntry} {v11 : List (List UInt8)} {m : Option Nat} {o : ((List G_QIndexEntry) × (List (List UInt8)) × Int)} (h : jr m v10 v11 = some o) :
 LWp Tryz.prog W5 0 zp4 (y1k a0 a1 o) [(11, .msl (0, 0) 3 0 v10.length false), (12, .msl (1, 0) 1 0 v11.length false)] [((0, 0), .rows 3 (v10.map z7)), ((1, 0), .rows 1 (v11.map zb))] 2 := by
 unfold jr at h
 refine zd ?_
 refine ze ?_
 obtain ⟨v22, h38, h⟩ := bind_some h
 refine z0z (k := 3) (m := 0) (L' := [((0, 0), .rows 3 (v22.map z7))]) (rest := [((1, 0), .rows 1 (v11.map zb))]) (R' := .tup []) [((0, 0), (0, 0))] (zcs h38) rfl rfl rfl (AI (Vw.mslE rfl (by first | rfl | omega | (simp; done) | (simp at *; omega)) rfl) (AI (VS rfl) TT)) (AI (h0I (0, 0) rfl rfl (BVw.enc z7 (fun _ => rfl) _ v10)) TT) (Y2 _ rfl) (AI rfl (AI (Ju z7 (fun _ => rfl) _ _) TT)) rfl ?_
 obtain ⟨h39, h⟩ := zc h
 refine zd ?_
 refine ze ?_
 obtain ⟨v23, h40, h⟩ := bind_some h
 refine z0z (k := 3) (m := 0) (L' := [((1, 0), .rows 1 (v23.map zb))]) (rest := [((0, 0), .rows 3 (v22.map z7))]) (R' := .tup []) [((0, 0), (1, 0))] (zan h40) rfl rfl rfl (AI (Vw.mslE rfl (by first | rfl | omega | (simp; done) | (simp at *; omega)) rfl) TT) (AI (h0I (1, 0) rfl rfl (BVw.enc zb (fun _ => rfl) _ v11)) TT) (Y2 _ rfl) (AI rfl (AI (Ju zb (fun _ => rfl) _ _) TT)) rfl ?_
 obtain ⟨h41, h⟩ := zc h
 refine zd ?_
 refine ze ?_
 refine LWp.sim (e := [(4, .msl (0, 0) 3 0 v10.length false), (5, .msl (1, 0) 1 0 v11.length false), (6, .int .i64 0)]) (L := [((0, 0), .rows 3 (v22.map z7)), ((1, 0), .rows 1 (v23.map zb))]) (n := 2) ?_ ?_
 ·exact y6 (M := [((0, 0), (0, 0)), ((1, 0), (1, 0))]) rfl (AI (Vw.mslE rfl (by first | rfl | omega | (simp; done) | (simp at *; omega)) rfl) (AI (Vw.mslE rfl (by first | rfl | omega | (simp; done) | (simp at *; omega)) rfl) (AI (VS rfl) TT))) (AI (AI rfl (BVw.enc z7 (fun _ => rfl) _ v22)) (AI (AI rfl (BVw.enc zb (fun _ => rfl) _ v23)) TT))
 refine u5 ?_
 cases h
 exact AI TT (AI TT (AI TT (AI rfl (Vw.tupL (AI (Vw.frzB z7 Zh (fun h => h) rfl rfl (by first | rfl | omega | (simp; done) | (simp at *; omega))) (AI (Vw.frzB zb z3n (fun h => h) rfl rfl (by first | rfl | omega | (simp; done) | (simp at *; omega))) (AI (VS rfl) TT)))))))
theorem zhe {a0 : List UInt8} {a1 : List G_QDocument} {v3 : (List G_QRecord)} {v9 : Int} {v10 : List G_QIndexEntry} {v11 : List (List UInt8)} {m : Option Nat} {o : (Int × (List G_QIndexEntry) × (List (List UInt8))) ⊕ ((List G_QIndexEntry) × (List (List UInt8)) × Int)} (h : xz m a1 v3 v9 v10 v11 = some o) :
 LWp Tryz.prog W5 0 zun (xt 0 2 (Ve a1 v3) (U7 a1 v3) (z3i a0 a1) o) [(10, .isl 3 (v3.map za) false), (11, .msl (0, 0) 3 0 v10.length false), (12, .msl (1, 0) 1 0 v11.length false), (30, .isl 3 (a1.map z8) false), (31, .int .i64 ((a1.map z8).length : Int)), (32, .int .i64 v9)] [((0, 0), .rows 3 (v10.map z7)), ((1, 0), .rows 1 (v11.map zb))] 2 := by
 unfold xz at h
 refine zd ?_
 refine ze ?_
 refine zd ?_
 refine qj (v := (decide (v9 < ((a1.map z8).length : Int)))) rfl TT (fun h27 => ?_) (fun h27 => ?_)
 ·have h := zk h27 h
  refine qv ?_
  refine zd ?_
  refine yf ?_
  refine zd ?_
  refine ze ?_
  obtain ⟨h28, h⟩ := zc h
  refine AI h28 ?_
  refine EX (z8 (a1.getD v9.toNat default)) (AI (qo z8 _ _ (ji z8 h28)) (AI (AI (k7 h28) (NB rfl)) ?_))
  refine zd ?_
  refine ze ?_
  obtain ⟨v17, h29, h⟩ := bind_some h
  refine z0z (k := 3) (m := 1) (L' := [((2, 0), .one [.str ((a1.getD v9.toNat default).f_Name), .int .i64 ((a1.getD v9.toNat default).f_Version), .str ((a1.getD v9.toNat default).f_Text)])]) (rest := [((0, 0), .rows 3 (v10.map z7)), ((1, 0), .rows 1 (v11.map zb))]) (R' := .int .i64 v17.1) [((1, 0), (2, 0))] (zpm (show Clo Tryz.prog (.func 21) [] [.ptr (1, 0) 0 0] (fun (s : Unit) => [((1, 0), .one [.str ((a1.getD v9.toNat default).f_Name), .int .i64 ((a1.getD v9.toNat default).f_Version), .str ((a1.getD v9.toNat default).f_Text)])]) (fun (x : G_QRecord) => [.agg [.str x.f_Key, .str x.f_Value, .bool x.f_Deleted]]) (fun (b : Bool) => .bool b) (fun (s : Unit) (x : G_QRecord) => (x4 m ((a1.getD v9.toNat default).f_Name) ((a1.getD v9.toNat default).f_Version) ((a1.getD v9.toNat default).f_Text) x).map fun o => (o, ())) from Clo.mk' (fun s => Tl.lit rfl (AI (rfl) TT) rfl) rfl rfl (fun _ => rfl) (fun s x o h => by obtain ⟨o1, h1, rfl⟩ := Option.map_eq_some_iff.1 h; exact EX _ (AI (zq8 h1) (AI rfl (AI rfl TT))))) h29) rfl rfl rfl (AI (VS rfl) (AI (Vw.fnL TT (AI (Vw.ptr _ _ _ _ rfl) TT)) TT)) (AI (h0I (2, 0) rfl rfl (BVw.oneL (S2 rfl rfl (AI (VS rfl) TT)))) TT) (Y2 _ rfl) (AI rfl (AI rfl TT)) rfl ?_
  refine LWp.sim (e := [(10, .isl 3 (v3.map za) false), (11, .msl (0, 0) 3 0 v10.length false), (12, .msl (1, 0) 1 0 v11.length false), (14, .ptr (2, 0) 0 0), (15, .int .i64 v17.1), (30, .isl 3 (a1.map z8) false), (31, .int .i64 ((a1.map z8).length : Int)), (32, .int .i64 v9)]) (L := [((0, 0), .rows 3 (v10.map z7)), ((1, 0), .rows 1 (v11.map zb)), ((2, 0), .one [.str ((a1.getD v9.toNat default).f_Name), .int .i64 ((a1.getD v9.toNat default).f_Version), .str ((a1.getD v9.toNat default).f_Text)])]) (n := 3) ?_ ?_
  ·exact y6 (M := [((0, 0), (0, 0)), ((1, 0), (1, 0)), ((2, 0), (2, 0))]) rfl (AI (VS rfl) (AI (Vw.mslE rfl (by first | rfl | omega | (simp; done) | (simp at *; omega)) rfl) (AI (Vw.mslE rfl (by first | rfl | omega | (simp; done) | (simp at *; omega)) rfl) (AI (Vw.ptr _ _ _ _ rfl) (S4 rfl rfl rfl rfl TT))))) (AI (AI rfl (BVw.enc z7 (fun _ => rfl) _ v10)) (AI (AI rfl (BVw.enc zb (fun _ => rfl) _ v11)) (AI (AI rfl (BVw.oneL (S2 rfl rfl (AI (VS rfl) TT)))) TT)))
  refine zd ?_
  refine zd ?_
  refine ze ?_
  refine qj (v := (decide (v17.1 ≥ 0))) rfl TT (fun h30 => ?_) (fun h30 => ?_)
  ·have h := zk h30 h
   refine zd ?_
   refine z86 ?_
   obtain ⟨h31, h⟩ := zc h
   refine AI h31 ?_
   refine EX (za (v3.getD v17.1.toNat default)) (AI (qo za _ _ (ji za h31)) (AI (AI (k7 h31) (NB rfl)) ?_))
   obtain ⟨v18, h32, h⟩ := bind_some h
   refine PFn.call (zzy h32) (S2 rfl rfl TT) ?_
   refine AI (AI (AI (k7 h31) (NB rfl)) (congrArg (j1 false 1 1) (qo za _ _ (ji za h31)))) ?_
   refine AI rfl ?_
   refine LWp.sim (e := [(10, .isl 3 (v3.map za) false), (11, .msl (0, 0) 3 0 v10.length false), (12, .msl (1, 0) 1 0 v11.length false), (14, .ptr (2, 0) 0 0), (16, .ptr (3, 0) 0 0), (17, .bool v18.2), (30, .isl 3 (a1.map z8) false), (31, .int .i64 ((a1.map z8).length : Int)), (32, .int .i64 v9)]) (L := [((0, 0), .rows 3 (v10.map z7)), ((1, 0), .rows 1 (v11.map zb)), ((2, 0), .one [.str ((a1.getD v9.toNat default).f_Name), .int .i64 ((a1.getD v9.toNat default).f_Version), .str ((a1.getD v9.toNat default).f_Text)]), ((3, 0), .one [.str v18.1.f_Name, .int .u32 v18.1.f_Sum, .isl 1 (v18.1.f_Words.map zb) false])]) (n := 4) ?_ ?_
   ·exact y6 (M := [((0, 0), (0, 0)), ((1, 0), (1, 0)), ((2, 0), (2, 0)), ((3, 0), (3, 0))]) rfl (AI (VS rfl) (AI (Vw.mslE rfl (by first | rfl | omega | (simp; done) | (simp at *; omega)) rfl) (AI (Vw.mslE rfl (by first | rfl | omega | (simp; done) | (simp at *; omega)) rfl) (AI (Vw.ptr _ _ _ _ rfl) (AI (Vw.ptr _ _ _ _ rfl) (S4 rfl rfl rfl rfl TT)))))) (AI (AI rfl (BVw.enc z7 (fun _ => rfl) _ v10)) (AI (AI rfl (BVw.enc zb (fun _ => rfl) _ v11)) (AI (AI rfl (BVw.oneL (S2 rfl rfl (AI (VS rfl) TT)))) (AI (AI rfl (BVw.oneL (S2 rfl rfl (AI (VS rfl) TT)))) TT))))
   refine zd ?_
   refine ze ?_
   refine qj (v := v18.2) rfl TT (fun h33 => ?_) (fun h33 => ?_)
   ·have h := zk h33 h
    refine zd ?_
    refine ze ?_
    obtain ⟨h34, h⟩ := zc h
    refine AI (fun h => Bool.noConfusion h) (AI (zwr z7 (by first | rfl | omega | (simp; done) | (simp at *; omega))) (EX ((v10 ++ ([(G_QIndexEntry.mk v18.1.f_Name v18.1.f_Sum v18.1.f_Words)] : List G_QIndexEntry)).map z7) (AI (zx8 z7 v10 ([(G_QIndexEntry.mk v18.1.f_Name v18.1.f_Sum v18.1.f_Words)] : List G_QIndexEntry) (by first | rfl | omega | (simp; done) | (simp at *; omega))) (AI h34 ?_))))
    refine Z2 ?_
    refine LWp.sim ?_ (zbo h)
    exact y6 (M := [((0, 0), (4, 0)), ((1, 0), (1, 0))]) rfl (AI (VS rfl) (AI (Vw.mslE rfl (by first | rfl | omega | (simp; done) | (simp at *; omega)) rfl) (AI (Vw.mslE rfl (by first | rfl | omega | (simp; done) | (simp at *; omega)) rfl) (S2 rfl rfl (AI (VS rfl) TT))))) (AI (AI rfl (BVw.enc z7 (fun _ => rfl) _ (v10 ++ ([(G_QIndexEntry.mk v18.1.f_Name v18.1.f_Sum v18.1.f_Words)] : List G_QIndexEntry)))) (AI (AI rfl (BVw.enc zb (fun _ => rfl) _ v11)) TT))
   ·have h := zw h33 h
    refine qv ?_
    refine LWp.sim ?_ (zbd h)
    exact y6 (M := [((0, 0), (0, 0)), ((1, 0), (1, 0)), ((2, 0), (2, 0))]) rfl (AI (VS rfl) (AI (Vw.mslE rfl (by first | rfl | omega | (simp; done) | (simp at *; omega)) rfl) (AI (Vw.mslE rfl (by first | rfl | omega | (simp; done) | (simp at *; omega)) rfl) (AI (Vw.ptr _ _ _ _ rfl) (S2 rfl rfl (AI (VS rfl) TT)))))) (AI (AI rfl (BVw.enc z7 (fun _ => rfl) _ v10)) (AI (AI rfl (BVw.enc zb (fun _ => rfl) _ v11)) (AI (AI rfl (BVw.oneL (S2 rfl rfl (AI (VS rfl) TT)))) TT)))
  ·have h := zw h30 h
   refine qv ?_
   refine LWp.sim ?_ (zbd h)
   exact y6 (M := [((0, 0), (0, 0)), ((1, 0), (1, 0)), ((2, 0), (2, 0))]) rfl (AI (VS rfl) (AI (Vw.mslE rfl (by first | rfl | omega | (simp; done) | (simp at *; omega)) rfl) (AI (Vw.mslE rfl (by first | rfl | omega | (simp; done) | (simp at *; omega)) rfl) (AI (Vw.ptr _ _ _ _ rfl) (S2 rfl rfl (AI (VS rfl) TT)))))) (AI (AI rfl (BVw.enc z7 (fun _ => rfl) _ v10)) (AI (AI rfl (BVw.enc zb (fun _ => rfl) _ v11)) (AI (AI rfl (BVw.oneL (S2 rfl rfl (AI (VS rfl) TT)))) TT)))
 ·have h := zw h27 h
  refine Z2 ?_
  obtain ⟨o, hq, rfl⟩ := Option.map_eq_some_iff.1 h
  replace h := hq; clear hq
  refine AI nofun ?_
  refine LWp.sim ?_ (zoq h)
  exact y6 (M := [((0, 0), (0, 0)), ((1, 0), (1, 0))]) rfl (AI (Vw.mslE rfl (by first | rfl | omega | (simp; done) | (simp at *; omega)) rfl) (AI (Vw.mslE rfl (by first | rfl | omega | (simp; done) | (simp at *; omega)) rfl) TT)) (AI (AI rfl (BVw.enc z7 (fun _ => rfl) _ v10)) (AI (AI rfl (BVw.enc zb (fun _ => rfl) _ v11)) TT))
theorem zq6 {a0 : List UInt8} {a1 : List G_QDocument} {v3 : (List G_QRecord)} {v9 : Int} {v10 : List G_QIndexEntry} {v11 : List (List UInt8)} {m : Option Nat} {o : ((List G_QIndexEntry) × (List (List UInt8)) × Int)} (h : vb m a1 v3 v9 v10 v11 = some o) :
 LWp Tryz.prog W5 0 (.loop zun) (zm 0 (ug Tryz.prog W5 0 zp4 (y1k a0 a1 o))) [(10, .isl 3 (v3.map za) false), (11, .msl (0, 0) 3 0 v10.length false), (12, .msl (1, 0) 1 0 v11.length false), (30, .isl 3 (a1.map z8) false), (31, .int .i64 ((a1.map z8).length : Int)), (32, .int .i64 v9)] [((0, 0), .rows 3 (v10.map z7)), ((1, 0), .rows 1 (v11.map zb))] 2 :=
 yi (m := m) (s := ((v9, v10, v11) : (Int × (List G_QIndexEntry) × (List (List UInt8))))) (r := o) (fun (s : (Int × (List G_QIndexEntry) × (List (List UInt8)))) => xz m a1 v3 s.1 s.2.1 s.2.2) (Ve a1 v3) (U7 a1 v3) (z3i a0 a1) (fun s o h => zhe h) h
noncomputable def ve (m : Option Nat) (a0 : List UInt8) (a1 : List G_QDocument) : Option ((List G_QIndexEntry) × (List (List UInt8)) × Int) :=
 (yp m a1).bind fun v1 =>
 if (v1 != 0) = true then
  some (([] : List G_QIndexEntry), ([] : List (List UInt8)), v1)
 else
  (kv m a0).bind fun v2 =>
  (uo m v2.2).bind fun v3 =>
  vb m a1 v3 0 ([] : List G_QIndexEntry) ([] : List (List UInt8))
theorem zov {a0 : List UInt8} {a1 : List G_QDocument} {m : Option Nat} {o : (List G_QIndexEntry) × (List (List UInt8)) × Int} (h : ve m a0 a1 = some o) : LWp Tryz.prog W5 0 y12 (y1k a0 a1 o) (zz 0 [.str a0, .isl 3 (a1.map z8) false]) [] 0 := by
 unfold ve at h
 refine zd ?_
 refine LWp.ghost 3 ?_
 refine LWp.ghost 1 ?_
 refine ze ?_
 refine LWp.sim (e := [(0, .str a0), (1, .isl 3 (a1.map z8) false)]) (L := []) (n := 0) ?_ ?_
 ·exact y6 (M := []) rfl (S2 rfl rfl TT) TT
 refine zd ?_
 refine zd ?_
 refine ze ?_
 obtain ⟨v1, h1, h⟩ := bind_some h
 refine PFn.call (zri h1) (AI (VS rfl) TT) ?_
 refine zd ?_
 refine ze ?_
 refine qj (v := (v1 != 0)) rfl TT (fun h2 => ?_) (fun h2 => ?_)
 ·have h := zk h2 h
  refine zd ?_
  refine LWp.ghost 3 ?_
  refine LWp.ghost 1 ?_
  refine ze ?_
  refine LWp.sim (e := [(4, .msl (0, 0) 3 0 (([] : List G_QIndexEntry).length) false), (5, .msl (1, 0) 1 0 (([] : List (List UInt8)).length) false), (6, .int .i64 v1)]) (L := [((0, 0), .rows 3 (([] : List G_QIndexEntry).map z7)), ((1, 0), .rows 1 (([] : List (List UInt8)).map zb))]) (n := 2) ?_ ?_
  ·exact y6 (M := [((0, 0), (0, 0)), ((1, 0), (1, 0))]) rfl (AI (Vw.nilM _ _ _ _ _ _ rfl rfl) (AI (Vw.nilM _ _ _ _ _ _ rfl rfl) (AI (VS rfl) TT))) (AI (AI rfl (BVw.enc z7 (fun _ => rfl) _ ([] : List G_QIndexEntry))) (AI (AI rfl (BVw.enc zb (fun _ => rfl) _ ([] : List (List UInt8)))) TT))
  refine u5 ?_
  cases h
  exact AI TT (AI TT (AI TT (AI rfl (Vw.tupL (AI (Vw.frzB z7 Zh (fun h => h) rfl rfl (by first | rfl | omega | (simp; done) | (simp at *; omega))) (AI (Vw.frzB zb z3n (fun h => h) rfl rfl (by first | rfl | omega | (simp; done) | (simp at *; omega))) (AI (VS rfl) TT)))))))
 ·have h := zw h2 h
  refine qv ?_
  refine zd ?_
  refine ze ?_
  obtain ⟨v2, h3, h⟩ := bind_some h
  refine PFn.call (zyf h3) (AI (VS rfl) TT) ?_
  refine LWp.sim (e := [(1, .isl 3 (a1.map z8) false), (9, .isl 3 (v2.2.map za) false)]) (L := []) (n := 0) ?_ ?_
  ·exact y6 (M := []) rfl (S2 rfl rfl TT) TT
  refine zd ?_
  refine ze ?_
  obtain ⟨v3, h4, h⟩ := bind_some h
  refine PFn.call (y13 h4) (AI (VS rfl) TT) ?_
  refine zd ?_
  refine LWp.ghost 3 ?_
  refine ze ?_
  refine LWp.sim (e := [(1, .isl 3 (a1.map z8) false), (10, .isl 3 (v3.map za) false), (11, .msl (0, 0) 3 0 (([] : List G_QIndexEntry).length) false)]) (L := [((0, 0), .rows 3 (([] : List G_QIndexEntry).map z7))]) (n := 1) ?_ ?_
  ·exact y6 (M := [((0, 0), (0, 0))]) rfl (S2 rfl rfl (AI (Vw.nilM _ _ _ _ _ _ rfl rfl) TT)) (AI (AI rfl (BVw.enc z7 (fun _ => rfl) _ ([] : List G_QIndexEntry))) TT)
  refine zd ?_
  refine LWp.ghost 1 ?_
  refine ze ?_
  refine LWp.sim (e := [(1, .isl 3 (a1.map z8) false), (10, .isl 3 (v3.map za) false), (11, .msl (0, 0) 3 0 (([] : List G_QIndexEntry).length) false), (12, .msl (1, 0) 1 0 (([] : List (List UInt8)).length) false)]) (L := [((0, 0), .rows 3 (([] : List G_QIndexEntry).map z7)), ((1, 0), .rows 1 (([] : List (List UInt8)).map zb))]) (n := 2) ?_ ?_
  ·exact y6 (M := [((0, 0), (0, 0)), ((1, 0), (1, 0))]) rfl (S2 rfl rfl (AI (Vw.mslE rfl (by first | rfl | omega | (simp; done) | (simp at *; omega)) rfl) (AI (Vw.nilM _ _ _ _ _ _ rfl rfl) TT))) (AI (AI rfl (BVw.enc z7 (fun _ => rfl) _ ([] : List G_QIndexEntry))) (AI (AI rfl (BVw.enc zb (fun _ => rfl) _ ([] : List (List UInt8)))) TT))
  refine zd ?_
  refine zd ?_
  refine ze ?_
  refine yf ?_
  refine LWp.sim ?_ (zq6 h)
  exact y6 (M := [((0, 0), (0, 0)), ((1, 0), (1, 0))]) rfl (AI (VS rfl) (AI (Vw.mslE rfl (by first | rfl | omega | (simp; done) | (simp at *; omega)) rfl) (AI (Vw.mslE rfl (by first | rfl | omega | (simp; done) | (simp at *; omega)) rfl) (S2 rfl rfl (AI (VS rfl) TT))))) (AI (AI rfl (BVw.enc z7 (fun _ => rfl) _ ([] : List G_QIndexEntry))) (AI (AI rfl (BVw.enc zb (fun _ => rfl) _ ([] : List (List UInt8)))) TT))
theorem y23 {a0 : List UInt8} {a1 : List G_QDocument} {m : Option Nat} {o : (List G_QIndexEntry) × (List (List UInt8)) × Int} (h : ve m a0 a1 = some o) : PFn Tryz.prog 5 [.str a0, .isl 3 (a1.map z8) false] (.tup [.isl 3 (o.1.map z7) false, .isl 1 (o.2.1.map zb) false, .int .i64 o.2.2]) := PFn.ofFnW (L := y2r) zzu y0h (NB rfl) rfl (zov h)
end Go.Proofs.YteepckliibfnkaaGreatDoor
