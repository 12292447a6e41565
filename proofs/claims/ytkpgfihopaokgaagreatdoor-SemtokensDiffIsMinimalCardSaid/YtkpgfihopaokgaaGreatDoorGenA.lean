/-
  Own text GenA of this claim: what functions of the given program compute, in plain Lean, and the proof; no condition.
-/
import Derived.Test.YtkpgfihopaokgaaGreatDoorChecked
import Derived.Test.YtkpgfihopaokgaaGreatDoorFxN
import Derived.Test.YtkpgfihopaokgaaGreatDoorFxMd
import Derived.Test.YtkpgfihopaokgaaGreatDoorFxMr
import Derived.Test.YtkpgfihopaokgaaGreatDoorEv4
import Derived.KernelRfl
namespace Go.Proofs.YtkpgfihopaokgaaGreatDoor
open Go.Fx
set_option linter.unusedVariables false
set_option maxHeartbeats 1600000
structure G_TokenDelta where
 f_DeltaLine : Int
 f_DeltaStart : Int
 f_Length : Int
 f_Kind : Int
instance : Inhabited G_TokenDelta := ⟨(G_TokenDelta.mk 0 0 0 0)⟩
def z6 (x : G_TokenDelta) : List AVal := [.int .i64 x.f_DeltaLine, .int .i64 x.f_DeltaStart, .int .i64 x.f_Length, .int .i64 x.f_Kind]
theorem z6n (x : G_TokenDelta) : AVal.nid.nidL (z6 x) = true ∧ ∀ y ∈ z6 x, y.imm = some y := ⟨rfl, by simp [z6, AVal.imm]⟩
def ya (m : Option Nat) : Option (Bool) := some true
theorem ze1 {m : Option Nat} {o : Bool} (h : ya m = some o) : PFn Tryz.prog 5 [] (.bool o) := by
 cases h
 exact zed
def z5i : LCode := (.seq (.seq (.quiet [⟨some 6, .mv (.t 5), none⟩,
 ⟨some 7, .mv (.t 0), none⟩,
 ⟨some 8, .len false (.t 7), none⟩,
 ⟨some 9, .mv (.t 1), none⟩,
 ⟨some 10, .len false (.t 9), none⟩,
 ⟨some 11, .mnx false [(.t 8), (.t 10)], none⟩,
 ⟨some 12, .bin .lss (.t 6) (.t 11), none⟩,
 ⟨some 13, .mv (.t 12), none⟩,
 ⟨some 14, .mv (.t 0), some (13, true)⟩,
 ⟨some 15, .mv (.t 5), some (13, true)⟩,
 ⟨some 16, .iaddr 4 (.t 14) (.t 15), some (13, true)⟩,
 ⟨some 17, .load true 4 (.t 16), some (13, true)⟩,
 ⟨some 18, .mv (.t 1), some (13, true)⟩,
 ⟨some 19, .mv (.t 5), some (13, true)⟩,
 ⟨some 20, .iaddr 4 (.t 18) (.t 19), some (13, true)⟩,
 ⟨some 21, .load true 4 (.t 20), some (13, true)⟩,
 ⟨some 22, .eq false (.agg [.int, .int, .int, .int]) (.t 17) (.t 21), some (13, true)⟩,
 ⟨some 23, .pick (.t 13) (.t 22) (.c (.bool false)), none⟩])
 (.cond (.t 23)
  .skip
  (.exit 0)))
 (.block 1
  (.region [⟨some 24, .mv (.t 5), none⟩,
   ⟨some 25, .bin .add (.t 24) (.c (.int .i64 1)), none⟩,
   ⟨some 5, .mv (.t 25), none⟩])))
def z1c : LCode := (.seq (.region [⟨some 26, .mv (.t 5), none⟩,
 ⟨some 4, .mv (.t 26), none⟩])
 .ret)
def z92 : LCode := (.seq (.region [⟨some 4, .mv (.c (.int .i64 0)), none⟩])
 (.seq (.region [⟨some 5, .mv (.c (.int .i64 0)), none⟩])
 (.seq (.block 0
  (.loop
   z5i))
 z1c)))
def ue : Lay := ⟨27, [], false⟩
def z4z : List LRes := [.t 4]
def zdi : LFn := ⟨2, ue, z92, z4z⟩
theorem z9e : ky Tryz.prog [] 20 = some zdi := by kernel_rfl
theorem zb9 : Jm Tryz.prog 20 := ⟨_, Tryz.func20, rfl, rfl⟩
def z7y (a0 : List G_TokenDelta) (a1 : List G_TokenDelta) (o : Int) : Exit → Env → AHeap → Nat → Prop := z98 z4z (Y2 (.int .i64 o))
def Jz (a0 : List G_TokenDelta) (a1 : List G_TokenDelta) (s : Int) : Env := [(0, .isl 4 (a0.map z6) false), (1, .isl 4 (a1.map z6) false), (5, .int .i64 s)]
def U1 (a0 : List G_TokenDelta) (a1 : List G_TokenDelta) (s : Int) : AHeap := []
def z1n (a0 : List G_TokenDelta) (a1 : List G_TokenDelta) (o : Int) : Exit → Env → AHeap → Nat → Prop := (Yi 0 (z9c Tryz.prog ue 0 z1c (z7y a0 a1 o)))
noncomputable def y8 (m : Option Nat) (v1 : Int) : Option Int :=
 some v1
noncomputable def zo (m : Option Nat) (a0 : List G_TokenDelta) (a1 : List G_TokenDelta) (v1 : Int) : Option (Int ⊕ Int) :=
 if (((decide (v1 < (if ((a1.map z6).length : Int) < ((a0.map z6).length : Int) then ((a1.map z6).length : Int) else ((a0.map z6).length : Int)))) == true) = true → (0 : Int) ≤ v1 ∧ v1 < ((a0.map z6).length : Int)) then
 if (((decide (v1 < (if ((a1.map z6).length : Int) < ((a0.map z6).length : Int) then ((a1.map z6).length : Int) else ((a0.map z6).length : Int)))) == true) = true → (0 : Int) ≤ v1 ∧ v1 < ((a1.map z6).length : Int)) then
 if ((decide (v1 < (if ((a1.map z6).length : Int) < ((a0.map z6).length : Int) then ((a1.map z6).length : Int) else ((a0.map z6).length : Int)))) && (((a0.getD v1.toNat default).f_DeltaLine == (a1.getD v1.toNat default).f_DeltaLine) && (((a0.getD v1.toNat default).f_DeltaStart == (a1.getD v1.toNat default).f_DeltaStart) && (((a0.getD v1.toNat default).f_Length == (a1.getD v1.toNat default).f_Length) && (((a0.getD v1.toNat default).f_Kind == (a1.getD v1.toNat default).f_Kind) && true))))) = true then
  some (.inl (W (v1 + 1)))
 else
  Option.map Sum.inr (
   y8 m v1)
 else none
 else none
noncomputable def qi (m : Option Nat) (a0 : List G_TokenDelta) (a1 : List G_TokenDelta) (v1 : Int) : Option Int := Yy m (fun (s : Int) => zo m a0 a1 s) v1
theorem z5x {a0 : List G_TokenDelta} {a1 : List G_TokenDelta} {v1 : Int} {m : Option Nat} {o : Int} (h : y8 m v1 = some o) :
 LWp Tryz.prog ue 0 z1c (z7y a0 a1 o) [(5, .int .i64 v1)] [] 0 := by
 unfold y8 at h
 refine jp ?_
 refine uz ?_
 refine z5z ?_
 cases h
 exact And.intro trivial (And.intro rfl (Vw.same _ rfl))
theorem z23 {a0 : List G_TokenDelta} {a1 : List G_TokenDelta} {v1 : Int} {m : Option Nat} {o : Int ⊕ Int} (h : zo m a0 a1 v1 = some o) :
 LWp Tryz.prog ue 0 z5i (z5p 0 0 (Jz a0 a1) (U1 a0 a1) (z1n a0 a1) o) [(0, .isl 4 (a0.map z6) false), (1, .isl 4 (a1.map z6) false), (5, .int .i64 v1)] [] 0 := by
 unfold zo at h
 refine jp ?_
 refine jp ?_
 refine J9 ?_
 obtain ⟨h7, h⟩ := yb h
 refine And.intro (fun hp => (And.intro (And.intro hp hp) (h7 hp))) ?_
 show yqs _ _ [(16, .cnd ((decide (v1 < (if ((a1.map z6).length : Int) < ((a0.map z6).length : Int) then ((a1.map z6).length : Int) else ((a0.map z6).length : Int)))) == true) (.iptr 4 (a0.map z6) v1.toNat 0)), (15, .cnd ((decide (v1 < (if ((a1.map z6).length : Int) < ((a0.map z6).length : Int) then ((a1.map z6).length : Int) else ((a0.map z6).length : Int)))) == true) (.int .i64 v1)), (14, .cnd ((decide (v1 < (if ((a1.map z6).length : Int) < ((a0.map z6).length : Int) then ((a1.map z6).length : Int) else ((a0.map z6).length : Int)))) == true) (.isl 4 (a0.map z6) false)), (13, .bool (decide (v1 < (if ((a1.map z6).length : Int) < ((a0.map z6).length : Int) then ((a1.map z6).length : Int) else ((a0.map z6).length : Int))))), (12, .bool (decide (v1 < (if ((a1.map z6).length : Int) < ((a0.map z6).length : Int) then ((a1.map z6).length : Int) else ((a0.map z6).length : Int))))), (11, .int .i64 (if ((a1.map z6).length : Int) < ((a0.map z6).length : Int) then ((a1.map z6).length : Int) else ((a0.map z6).length : Int))), (10, .int .i64 ((a1.map z6).length : Int)), (9, .isl 4 (a1.map z6) false), (8, .int .i64 ((a0.map z6).length : Int)), (7, .isl 4 (a0.map z6) false), (6, .int .i64 v1), (0, .isl 4 (a0.map z6) false), (1, .isl 4 (a1.map z6) false), (5, .int .i64 v1)] _ _
 refine Exists.intro (z6 (a0.getD v1.toNat default)) (And.intro (fun hp => And.intro (qr z6 _ _ (xu z6 (h7 hp))) (And.intro hp (And.intro (ve (h7 hp)) (Nat.le_of_ble_eq_true rfl)))) ?_)
 obtain ⟨h8, h⟩ := yb h
 refine And.intro (fun hp => (And.intro (And.intro hp hp) (h8 hp))) ?_
 refine Exists.intro (z6 (a1.getD v1.toNat default)) (And.intro (fun hp => And.intro (qr z6 _ _ (xu z6 (h8 hp))) (And.intro hp (And.intro (ve (h8 hp)) (Nat.le_of_ble_eq_true rfl)))) ?_)
 refine And.intro (fun hp => (And.intro hp hp)) ?_
 show yqs _ _ [(22, .cnd ((decide (v1 < (if ((a1.map z6).length : Int) < ((a0.map z6).length : Int) then ((a1.map z6).length : Int) else ((a0.map z6).length : Int)))) == true) (.bool (((a0.getD v1.toNat default).f_DeltaLine == (a1.getD v1.toNat default).f_DeltaLine) && (((a0.getD v1.toNat default).f_DeltaStart == (a1.getD v1.toNat default).f_DeltaStart) && (((a0.getD v1.toNat default).f_Length == (a1.getD v1.toNat default).f_Length) && (((a0.getD v1.toNat default).f_Kind == (a1.getD v1.toNat default).f_Kind) && true)))))), (21, .cnd ((decide (v1 < (if ((a1.map z6).length : Int) < ((a0.map z6).length : Int) then ((a1.map z6).length : Int) else ((a0.map z6).length : Int)))) == true) (.agg [.int .i64 ((a1.getD v1.toNat default).f_DeltaLine), .int .i64 ((a1.getD v1.toNat default).f_DeltaStart), .int .i64 ((a1.getD v1.toNat default).f_Length), .int .i64 ((a1.getD v1.toNat default).f_Kind)])), (20, .cnd ((decide (v1 < (if ((a1.map z6).length : Int) < ((a0.map z6).length : Int) then ((a1.map z6).length : Int) else ((a0.map z6).length : Int)))) == true) (.iptr 4 (a1.map z6) v1.toNat 0)), (19, .cnd ((decide (v1 < (if ((a1.map z6).length : Int) < ((a0.map z6).length : Int) then ((a1.map z6).length : Int) else ((a0.map z6).length : Int)))) == true) (.int .i64 v1)), (18, .cnd ((decide (v1 < (if ((a1.map z6).length : Int) < ((a0.map z6).length : Int) then ((a1.map z6).length : Int) else ((a0.map z6).length : Int)))) == true) (.isl 4 (a1.map z6) false)), (17, .cnd ((decide (v1 < (if ((a1.map z6).length : Int) < ((a0.map z6).length : Int) then ((a1.map z6).length : Int) else ((a0.map z6).length : Int)))) == true) (.agg [.int .i64 ((a0.getD v1.toNat default).f_DeltaLine), .int .i64 ((a0.getD v1.toNat default).f_DeltaStart), .int .i64 ((a0.getD v1.toNat default).f_Length), .int .i64 ((a0.getD v1.toNat default).f_Kind)])), (16, .cnd ((decide (v1 < (if ((a1.map z6).length : Int) < ((a0.map z6).length : Int) then ((a1.map z6).length : Int) else ((a0.map z6).length : Int)))) == true) (.iptr 4 (a0.map z6) v1.toNat 0)), (15, .cnd ((decide (v1 < (if ((a1.map z6).length : Int) < ((a0.map z6).length : Int) then ((a1.map z6).length : Int) else ((a0.map z6).length : Int)))) == true) (.int .i64 v1)), (14, .cnd ((decide (v1 < (if ((a1.map z6).length : Int) < ((a0.map z6).length : Int) then ((a1.map z6).length : Int) else ((a0.map z6).length : Int)))) == true) (.isl 4 (a0.map z6) false)), (13, .bool (decide (v1 < (if ((a1.map z6).length : Int) < ((a0.map z6).length : Int) then ((a1.map z6).length : Int) else ((a0.map z6).length : Int))))), (12, .bool (decide (v1 < (if ((a1.map z6).length : Int) < ((a0.map z6).length : Int) then ((a1.map z6).length : Int) else ((a0.map z6).length : Int))))), (11, .int .i64 (if ((a1.map z6).length : Int) < ((a0.map z6).length : Int) then ((a1.map z6).length : Int) else ((a0.map z6).length : Int))), (10, .int .i64 ((a1.map z6).length : Int)), (9, .isl 4 (a1.map z6) false), (8, .int .i64 ((a0.map z6).length : Int)), (7, .isl 4 (a0.map z6) false), (6, .int .i64 v1), (0, .isl 4 (a0.map z6) false), (1, .isl 4 (a1.map z6) false), (5, .int .i64 v1)] _ _
 refine And.intro (fun hc => (bqt hc)) ?_
 refine LWp.sim (e := [(0, .isl 4 (a0.map z6) false), (1, .isl 4 (a1.map z6) false), (5, .int .i64 v1), (23, .bool ((decide (v1 < (if ((a1.map z6).length : Int) < ((a0.map z6).length : Int) then ((a1.map z6).length : Int) else ((a0.map z6).length : Int)))) && (((a0.getD v1.toNat default).f_DeltaLine == (a1.getD v1.toNat default).f_DeltaLine) && (((a0.getD v1.toNat default).f_DeltaStart == (a1.getD v1.toNat default).f_DeltaStart) && (((a0.getD v1.toNat default).f_Length == (a1.getD v1.toNat default).f_Length) && (((a0.getD v1.toNat default).f_Kind == (a1.getD v1.toNat default).f_Kind) && true))))))]) (L := []) (n := 0) ?_ ?_
 ·exact V2 (M := []) rfl (And.intro (Vw.same _ rfl) (And.intro (Vw.same _ rfl) (And.intro (Vw.same _ rfl) (And.intro (Vw.same _ rfl) trivial)))) trivial
 refine J2 (v := ((decide (v1 < (if ((a1.map z6).length : Int) < ((a0.map z6).length : Int) then ((a1.map z6).length : Int) else ((a0.map z6).length : Int)))) && (((a0.getD v1.toNat default).f_DeltaLine == (a1.getD v1.toNat default).f_DeltaLine) && (((a0.getD v1.toNat default).f_DeltaStart == (a1.getD v1.toNat default).f_DeltaStart) && (((a0.getD v1.toNat default).f_Length == (a1.getD v1.toNat default).f_Length) && (((a0.getD v1.toNat default).f_Kind == (a1.getD v1.toNat default).f_Kind) && true)))))) rfl trivial (fun h9 => ?_) (fun h9 => ?_)
 ·have h := vd h9 h
  refine Xu ?_
  refine Jk ?_
  refine uz ?_
  cases h
  exact And.intro rfl (V2 (M := []) rfl (And.intro (Vw.same _ rfl) (And.intro (Vw.same _ rfl) (And.intro (Vw.same _ rfl) trivial))) trivial)
 ·have h := Zh h9 h
  refine zar ?_
  obtain ⟨o, hq, rfl⟩ := Option.map_eq_some_iff.1 h
  replace h := hq; clear hq
  refine And.intro nofun ?_
  refine LWp.sim ?_ (z5x h)
  exact V2 (M := []) rfl (And.intro (Vw.same _ rfl) trivial) trivial
theorem z57 {a0 : List G_TokenDelta} {a1 : List G_TokenDelta} {v1 : Int} {m : Option Nat} {o : Int} (h : qi m a0 a1 v1 = some o) :
 LWp Tryz.prog ue 0 (.loop z5i) (Yi 0 (z9c Tryz.prog ue 0 z1c (z7y a0 a1 o))) [(0, .isl 4 (a0.map z6) false), (1, .isl 4 (a1.map z6) false), (5, .int .i64 v1)] [] 0 :=
 Xi (m := m) (s := (v1 : Int)) (r := o) (fun (s : Int) => zo m a0 a1 s) (Jz a0 a1) (U1 a0 a1) (z1n a0 a1) (fun s o h => z23 h) h
noncomputable def y6 (m : Option Nat) (a0 : List G_TokenDelta) (a1 : List G_TokenDelta) : Option Int :=
 qi m a0 a1 0
theorem z3o {a0 : List G_TokenDelta} {a1 : List G_TokenDelta} {m : Option Nat} {o : Int} (h : y6 m a0 a1 = some o) : LWp Tryz.prog ue 0 z92 (z7y a0 a1 o) (xl 0 [.isl 4 (a0.map z6) false, .isl 4 (a1.map z6) false]) [] 0 := by
 unfold y6 at h
 refine jp ?_
 refine uz ?_
 refine jp ?_
 refine uz ?_
 refine jp ?_
 refine Jk ?_
 refine LWp.sim ?_ (z57 h)
 exact V2 (M := []) rfl (And.intro (Vw.same _ rfl) (And.intro (Vw.same _ rfl) (And.intro (Vw.same _ rfl) trivial))) trivial
theorem zcs {a0 : List G_TokenDelta} {a1 : List G_TokenDelta} {m : Option Nat} {o : Int} (h : y6 m a0 a1 = some o) : PFn Tryz.prog 20 [.isl 4 (a0.map z6) false, .isl 4 (a1.map z6) false] (.int .i64 o) := PFn.ofFnW (L := zdi) z9e zb9 (Nat.le_of_ble_eq_true rfl) rfl (z3o h)
def z97 : LCode := (.seq (.region [⟨some 2, .mv (.c (.val (.slice none 0 0))), none⟩])
 (.seq (.seq (.region [⟨some 3, .mv (.t 0), none⟩,
  ⟨some 4, .eq false .slice (.t 3) (.c (.val (.slice none 0 0))), none⟩])
 (.cond (.t 4)
  (.seq (.region [⟨some 2, .mv (.c (.val (.slice none 0 0))), none⟩])
  .ret)
  .skip))
 (.seq (.region [⟨some 5, .mkSl true 4 [(.int .i64 0), (.int .i64 0), (.int .i64 0), (.int .i64 0)] 0 [], none⟩,
  ⟨some 6, .mv (.t 0), none⟩,
  ⟨some 7, .app true 4 32 (.t 5) (.t 6), none⟩,
  ⟨some 2, .mv (.t 7), none⟩])
 .ret)))
def z65 : Lay := ⟨8, [], false⟩
def z5t : List LRes := [.t 2]
def zbr : LFn := ⟨1, z65, z97, z5t⟩
theorem zal : ky Tryz.prog [] 21 = some zbr := by kernel_rfl
theorem z45 : Jm Tryz.prog 21 := ⟨_, Tryz.func21, rfl, rfl⟩
noncomputable def zp (m : Option Nat) (a0 : List G_TokenDelta) : Option (List G_TokenDelta) :=
 if (a0.map z6) ≠ [] then
 if ((([] : List G_TokenDelta) ++ a0).map z6).length * 32 ≤ 140737488355328 then
 some (([] : List G_TokenDelta) ++ a0)
 else none
 else none
def zdv (a0 : List G_TokenDelta) (o : (List G_TokenDelta)) : Exit → Env → AHeap → Nat → Prop := z98 z5t (Y2 (.isl 4 (o.map z6) false))
theorem z6r {a0 : List G_TokenDelta} {m : Option Nat} {o : (List G_TokenDelta)} (h : zp m a0 = some o) : LWp Tryz.prog z65 0 z97 (zdv a0 o) (xl 0 [.isl 4 (a0.map z6) false]) [] 0 := by
 unfold zp at h
 refine jp ?_
 refine uz ?_
 refine jp ?_
 refine jp ?_
 refine uz ?_
 obtain ⟨h1, h⟩ := yb h
 refine And.intro h1 ?_
 refine J2 (v := false) rfl trivial (fun hc => Bool.noConfusion hc) (fun hc => ?_)
 refine Xu ?_
 refine jp ?_
 refine uz ?_
 obtain ⟨h2, h⟩ := yb h
 refine Exists.intro ((([] : List G_TokenDelta) ++ a0).map z6) (And.intro (z9x z6 ([] : List G_TokenDelta) a0) (And.intro (And.intro rfl h2) ?_))
 refine z5z ?_
 cases h
 exact And.intro trivial (And.intro rfl (Vw.oslI _ _ _))
theorem zc3 {a0 : List G_TokenDelta} {m : Option Nat} {o : (List G_TokenDelta)} (h : zp m a0 = some o) : PFn Tryz.prog 21 [.isl 4 (a0.map z6) false] (.isl 4 (o.map z6) false) := PFn.ofFnW (L := zbr) zal z45 (Nat.le_of_ble_eq_true rfl) rfl (z6r h)
noncomputable def yj (m : Option Nat) : List G_TokenDelta → Option (List G_TokenDelta)
 | [] => some []
 | x :: r => zp m (x :: r)
theorem za7 {m : Option Nat} {a0 o : List G_TokenDelta} (h : yj m a0 = some o) : PFn Tryz.prog 21 [(.isl 4 (a0.map z6) false)] (.isl 4 (o.map z6) false) := by
 cases a0 with
 | nil =>
  cases h
  exact Jh (c := 40) (zs := [(.int .i64 0), (.int .i64 0), (.int .i64 0), (.int .i64 0)]) (b := 32) z45 Tryz.func21 ⟨_, _, _, _, _, _, _, _, _, _, _, _, _, _, _, _, _, _, _, _, _, _, _, _, _, _, _, _, rfl, rfl, rfl⟩ (by kernel_rfl) (by kernel_rfl) (by kernel_rfl) (by kernel_rfl) (by decide) (by decide) rfl
 | cons x r => exact zc3 (m := m) h
def z3l : LCode := (.seq (.seq (.quiet [⟨some 18, .mv (.t 8), none⟩,
 ⟨some 19, .mv (.t 0), none⟩,
 ⟨some 20, .len false (.t 19), none⟩,
 ⟨some 21, .mv (.t 1), none⟩,
 ⟨some 22, .len false (.t 21), none⟩,
 ⟨some 23, .mnx false [(.t 20), (.t 22)], none⟩,
 ⟨some 24, .bin .lss (.t 18) (.t 23), none⟩,
 ⟨some 25, .mv (.t 24), none⟩,
 ⟨some 26, .mv (.t 0), some (25, true)⟩,
 ⟨some 27, .mv (.t 0), some (25, true)⟩,
 ⟨some 28, .len false (.t 27), some (25, true)⟩,
 ⟨some 29, .bin .sub (.t 28) (.c (.int .i64 1)), some (25, true)⟩,
 ⟨some 30, .mv (.t 8), some (25, true)⟩,
 ⟨some 31, .bin .sub (.t 29) (.t 30), some (25, true)⟩,
 ⟨some 32, .iaddr 4 (.t 26) (.t 31), some (25, true)⟩,
 ⟨some 33, .load true 4 (.t 32), some (25, true)⟩,
 ⟨some 34, .mv (.t 1), some (25, true)⟩,
 ⟨some 35, .mv (.t 1), some (25, true)⟩,
 ⟨some 36, .len false (.t 35), some (25, true)⟩,
 ⟨some 37, .bin .sub (.t 36) (.c (.int .i64 1)), some (25, true)⟩,
 ⟨some 38, .mv (.t 8), some (25, true)⟩,
 ⟨some 39, .bin .sub (.t 37) (.t 38), some (25, true)⟩,
 ⟨some 40, .iaddr 4 (.t 34) (.t 39), some (25, true)⟩,
 ⟨some 41, .load true 4 (.t 40), some (25, true)⟩,
 ⟨some 42, .eq false (.agg [.int, .int, .int, .int]) (.t 33) (.t 41), some (25, true)⟩,
 ⟨some 43, .pick (.t 25) (.t 42) (.c (.bool false)), none⟩])
 (.cond (.t 43)
  .skip
  (.exit 0)))
 (.block 1
  (.region [⟨some 44, .mv (.t 8), none⟩,
   ⟨some 45, .bin .add (.t 44) (.c (.int .i64 1)), none⟩,
   ⟨some 8, .mv (.t 45), none⟩])))
def z1t : LCode := (.seq (.region [⟨some 46, .mv (.t 7), none⟩,
 ⟨some 47, .mv (.t 0), none⟩,
 ⟨some 48, .len false (.t 47), none⟩,
 ⟨some 49, .mv (.t 8), none⟩,
 ⟨some 50, .bin .sub (.t 48) (.t 49), none⟩,
 ⟨some 51, .mv (.t 1), none⟩,
 ⟨some 52, .mv (.t 1), none⟩,
 ⟨some 53, .len false (.t 52), none⟩,
 ⟨some 54, .mv (.t 8), none⟩,
 ⟨some 55, .bin .sub (.t 53) (.t 54), none⟩,
 ⟨some 56, .slSl 4 (.t 51) none (some (.t 55)) none, none⟩,
 ⟨some 57, .call 21 [(.t 56)], none⟩,
 ⟨some 4, .mv (.t 46), none⟩,
 ⟨some 5, .mv (.t 50), none⟩,
 ⟨some 6, .mv (.t 57), none⟩])
 .ret)
def z91 : LCode := (.seq (.region [⟨some 4, .mv (.c (.int .i64 0)), none⟩,
 ⟨some 5, .mv (.c (.int .i64 0)), none⟩,
 ⟨some 6, .mv (.c (.val (.slice none 0 0))), none⟩])
 (.seq (.region [⟨some 9, .mv (.t 0), none⟩,
  ⟨some 10, .mv (.t 1), none⟩,
  ⟨some 11, .call 20 [(.t 9), (.t 10)], none⟩,
  ⟨some 7, .mv (.t 11), none⟩])
 (.seq (.quiet [⟨some 12, .mv (.t 0), none⟩,
  ⟨some 13, .mv (.t 7), none⟩,
  ⟨some 14, .slSl 4 (.t 12) (some (.t 13)) none none, none⟩,
  ⟨some 15, .mv (.t 1), none⟩,
  ⟨some 16, .mv (.t 7), none⟩,
  ⟨some 17, .slSl 4 (.t 15) (some (.t 16)) none none, none⟩,
  ⟨some 0, .mv (.t 14), none⟩,
  ⟨some 1, .mv (.t 17), none⟩])
 (.seq (.region [⟨some 8, .mv (.c (.int .i64 0)), none⟩])
 (.seq (.block 0
  (.loop
   z3l))
 z1t)))))
def ur : Lay := ⟨58, [], false⟩
def z5a : List LRes := [.t 4, .t 5, .t 6]
def zd9 : LFn := ⟨2, ur, z91, z5a⟩
theorem zbb : ky Tryz.prog [] 13 = some zd9 := by kernel_rfl
theorem zak : Jm Tryz.prog 13 := ⟨_, Tryz.func13, rfl, rfl⟩
def z8g (a0 : List G_TokenDelta) (a1 : List G_TokenDelta) (o : Int × Int × (List G_TokenDelta)) : Exit → Env → AHeap → Nat → Prop := z98 z5a (Y2 (.tup [.int .i64 o.1, .int .i64 o.2.1, .isl 4 (o.2.2.map z6) false]))
def W6 (a0 : List G_TokenDelta) (a1 : List G_TokenDelta) (v1 : Int) (s : Int) : Env := [(0, .isl 4 ((a0.drop v1.toNat).map z6) false), (1, .isl 4 ((a1.drop v1.toNat).map z6) false), (7, .int .i64 v1), (8, .int .i64 s)]
def K9 (a0 : List G_TokenDelta) (a1 : List G_TokenDelta) (v1 : Int) (s : Int) : AHeap := []
def z1w (a0 : List G_TokenDelta) (a1 : List G_TokenDelta) (o : (Int × Int × (List G_TokenDelta))) : Exit → Env → AHeap → Nat → Prop := (Yi 0 (z9c Tryz.prog ur 0 z1t (z8g a0 a1 o)))
noncomputable def q9 (m : Option Nat) (a0 : List G_TokenDelta) (a1 : List G_TokenDelta) (v1 : Int) (v2 : Int) : Option (Int × Int × (List G_TokenDelta)) :=
 if (0 : Int) ≤ (W ((((a1.drop v1.toNat).map z6).length : Int) - v2)) ∧ (W ((((a1.drop v1.toNat).map z6).length : Int) - v2)) ≤ (((a1.drop v1.toNat).map z6).length : Int) then
 (yj m ((a1.drop v1.toNat).take (W ((((a1.drop v1.toNat).map z6).length : Int) - v2)).toNat)).bind fun v3 =>
 some (v1, (W ((((a0.drop v1.toNat).map z6).length : Int) - v2)), v3)
 else none
noncomputable def y5 (m : Option Nat) (a0 : List G_TokenDelta) (a1 : List G_TokenDelta) (v1 : Int) (v2 : Int) : Option (Int ⊕ (Int × Int × (List G_TokenDelta))) :=
 if (((decide (v2 < (if (((a1.drop v1.toNat).map z6).length : Int) < (((a0.drop v1.toNat).map z6).length : Int) then (((a1.drop v1.toNat).map z6).length : Int) else (((a0.drop v1.toNat).map z6).length : Int)))) == true) = true → (0 : Int) ≤ (W ((W ((((a0.drop v1.toNat).map z6).length : Int) - 1)) - v2)) ∧ (W ((W ((((a0.drop v1.toNat).map z6).length : Int) - 1)) - v2)) < (((a0.drop v1.toNat).map z6).length : Int)) then
 if (((decide (v2 < (if (((a1.drop v1.toNat).map z6).length : Int) < (((a0.drop v1.toNat).map z6).length : Int) then (((a1.drop v1.toNat).map z6).length : Int) else (((a0.drop v1.toNat).map z6).length : Int)))) == true) = true → (0 : Int) ≤ (W ((W ((((a1.drop v1.toNat).map z6).length : Int) - 1)) - v2)) ∧ (W ((W ((((a1.drop v1.toNat).map z6).length : Int) - 1)) - v2)) < (((a1.drop v1.toNat).map z6).length : Int)) then
 if ((decide (v2 < (if (((a1.drop v1.toNat).map z6).length : Int) < (((a0.drop v1.toNat).map z6).length : Int) then (((a1.drop v1.toNat).map z6).length : Int) else (((a0.drop v1.toNat).map z6).length : Int)))) && ((((a0.drop v1.toNat).getD ((W ((W ((((a0.drop v1.toNat).map z6).length : Int) - 1)) - v2)).toNat) default).f_DeltaLine == ((a1.drop v1.toNat).getD ((W ((W ((((a1.drop v1.toNat).map z6).length : Int) - 1)) - v2)).toNat) default).f_DeltaLine) && ((((a0.drop v1.toNat).getD ((W ((W ((((a0.drop v1.toNat).map z6).length : Int) - 1)) - v2)).toNat) default).f_DeltaStart == ((a1.drop v1.toNat).getD ((W ((W ((((a1.drop v1.toNat).map z6).length : Int) - 1)) - v2)).toNat) default).f_DeltaStart) && ((((a0.drop v1.toNat).getD ((W ((W ((((a0.drop v1.toNat).map z6).length : Int) - 1)) - v2)).toNat) default).f_Length == ((a1.drop v1.toNat).getD ((W ((W ((((a1.drop v1.toNat).map z6).length : Int) - 1)) - v2)).toNat) default).f_Length) && ((((a0.drop v1.toNat).getD ((W ((W ((((a0.drop v1.toNat).map z6).length : Int) - 1)) - v2)).toNat) default).f_Kind == ((a1.drop v1.toNat).getD ((W ((W ((((a1.drop v1.toNat).map z6).length : Int) - 1)) - v2)).toNat) default).f_Kind) && true))))) = true then
  some (.inl (W (v2 + 1)))
 else
  Option.map Sum.inr (
   q9 m a0 a1 v1 v2)
 else none
 else none
noncomputable def jf (m : Option Nat) (a0 : List G_TokenDelta) (a1 : List G_TokenDelta) (v1 : Int) (v2 : Int) : Option (Int × Int × (List G_TokenDelta)) := Yy m (fun (s : Int) => y5 m a0 a1 v1 s) v2
theorem z4h {a0 : List G_TokenDelta} {a1 : List G_TokenDelta} {v1 : Int} {v2 : Int} {m : Option Nat} {o : (Int × Int × (List G_TokenDelta))} (h : q9 m a0 a1 v1 v2 = some o) :
 LWp Tryz.prog ur 0 z1t (z8g a0 a1 o) [(0, .isl 4 ((a0.drop v1.toNat).map z6) false), (1, .isl 4 ((a1.drop v1.toNat).map z6) false), (7, .int .i64 v1), (8, .int .i64 v2)] [] 0 := by
 unfold q9 at h
 refine jp ?_
 refine uz ?_
 obtain ⟨h13, h⟩ := yb h
 refine Exists.intro (.isl 4 (((a1.drop v1.toNat).take (W ((((a1.drop v1.toNat).map z6).length : Int) - v2)).toNat).map z6) false) (And.intro (Kt z6 (slB z6 (a1.drop v1.toNat) _) rfl) (And.intro (And.intro rfl (And.intro (Int.le_refl _) h13)) ?_))
 obtain ⟨v3, h14, h⟩ := bind_some h
 refine PFn.call (za7 h14) (And.intro (Vw.same _ rfl) trivial) ?_
 show Q9 _ _ _ [(57, .isl 4 (v3.map z6) false), (56, .isl 4 (((a1.drop v1.toNat).take (W ((((a1.drop v1.toNat).map z6).length : Int) - v2)).toNat).map z6) false), (55, .int .i64 (W ((((a1.drop v1.toNat).map z6).length : Int) - v2))), (54, .int .i64 v2), (53, .int .i64 (((a1.drop v1.toNat).map z6).length : Int)), (52, .isl 4 ((a1.drop v1.toNat).map z6) false), (51, .isl 4 ((a1.drop v1.toNat).map z6) false), (50, .int .i64 (W ((((a0.drop v1.toNat).map z6).length : Int) - v2))), (49, .int .i64 v2), (48, .int .i64 (((a0.drop v1.toNat).map z6).length : Int)), (47, .isl 4 ((a0.drop v1.toNat).map z6) false), (46, .int .i64 v1), (0, .isl 4 ((a0.drop v1.toNat).map z6) false), (1, .isl 4 ((a1.drop v1.toNat).map z6) false), (7, .int .i64 v1), (8, .int .i64 v2)] _ _
 refine LWp.sim (e := [(4, .int .i64 v1), (5, .int .i64 (W ((((a0.drop v1.toNat).map z6).length : Int) - v2))), (6, .isl 4 (v3.map z6) false)]) (L := []) (n := 0) ?_ ?_
 ·exact V2 (M := []) rfl (And.intro (Vw.same _ rfl) (And.intro (Vw.same _ rfl) (And.intro (Vw.same _ rfl) trivial))) trivial
 refine z5z ?_
 cases h
 exact And.intro trivial (And.intro trivial (And.intro trivial (And.intro rfl (Vw.same _ rfl))))
theorem z2a {a0 : List G_TokenDelta} {a1 : List G_TokenDelta} {v1 : Int} {v2 : Int} {m : Option Nat} {o : Int ⊕ (Int × Int × (List G_TokenDelta))} (h : y5 m a0 a1 v1 v2 = some o) :
 LWp Tryz.prog ur 0 z3l (z5p 0 0 (W6 a0 a1 v1) (K9 a0 a1 v1) (z1w a0 a1) o) [(0, .isl 4 ((a0.drop v1.toNat).map z6) false), (1, .isl 4 ((a1.drop v1.toNat).map z6) false), (7, .int .i64 v1), (8, .int .i64 v2)] [] 0 := by
 unfold y5 at h
 refine jp ?_
 refine jp ?_
 refine J9 ?_
 refine And.intro (fun hp => hp) ?_
 show yqs _ _ [(28, .cnd ((decide (v2 < (if (((a1.drop v1.toNat).map z6).length : Int) < (((a0.drop v1.toNat).map z6).length : Int) then (((a1.drop v1.toNat).map z6).length : Int) else (((a0.drop v1.toNat).map z6).length : Int)))) == true) (.int .i64 (((a0.drop v1.toNat).map z6).length : Int))), (27, .cnd ((decide (v2 < (if (((a1.drop v1.toNat).map z6).length : Int) < (((a0.drop v1.toNat).map z6).length : Int) then (((a1.drop v1.toNat).map z6).length : Int) else (((a0.drop v1.toNat).map z6).length : Int)))) == true) (.isl 4 ((a0.drop v1.toNat).map z6) false)), (26, .cnd ((decide (v2 < (if (((a1.drop v1.toNat).map z6).length : Int) < (((a0.drop v1.toNat).map z6).length : Int) then (((a1.drop v1.toNat).map z6).length : Int) else (((a0.drop v1.toNat).map z6).length : Int)))) == true) (.isl 4 ((a0.drop v1.toNat).map z6) false)), (25, .bool (decide (v2 < (if (((a1.drop v1.toNat).map z6).length : Int) < (((a0.drop v1.toNat).map z6).length : Int) then (((a1.drop v1.toNat).map z6).length : Int) else (((a0.drop v1.toNat).map z6).length : Int))))), (24, .bool (decide (v2 < (if (((a1.drop v1.toNat).map z6).length : Int) < (((a0.drop v1.toNat).map z6).length : Int) then (((a1.drop v1.toNat).map z6).length : Int) else (((a0.drop v1.toNat).map z6).length : Int))))), (23, .int .i64 (if (((a1.drop v1.toNat).map z6).length : Int) < (((a0.drop v1.toNat).map z6).length : Int) then (((a1.drop v1.toNat).map z6).length : Int) else (((a0.drop v1.toNat).map z6).length : Int))), (22, .int .i64 (((a1.drop v1.toNat).map z6).length : Int)), (21, .isl 4 ((a1.drop v1.toNat).map z6) false), (20, .int .i64 (((a0.drop v1.toNat).map z6).length : Int)), (19, .isl 4 ((a0.drop v1.toNat).map z6) false), (18, .int .i64 v2), (0, .isl 4 ((a0.drop v1.toNat).map z6) false), (1, .isl 4 ((a1.drop v1.toNat).map z6) false), (7, .int .i64 v1), (8, .int .i64 v2)] _ _
 refine And.intro (fun hp => hp) ?_
 refine And.intro (fun hp => (And.intro hp hp)) ?_
 obtain ⟨h10, h⟩ := yb h
 refine And.intro (fun hp => (And.intro (And.intro hp hp) (h10 hp))) ?_
 refine Exists.intro (z6 ((a0.drop v1.toNat).getD ((W ((W ((((a0.drop v1.toNat).map z6).length : Int) - 1)) - v2)).toNat) default)) (And.intro (fun hp => And.intro (qr z6 _ _ (xu z6 (h10 hp))) (And.intro hp (And.intro (ve (h10 hp)) (Nat.le_of_ble_eq_true rfl)))) ?_)
 refine And.intro (fun hp => hp) ?_
 show yqs _ _ [(36, .cnd ((decide (v2 < (if (((a1.drop v1.toNat).map z6).length : Int) < (((a0.drop v1.toNat).map z6).length : Int) then (((a1.drop v1.toNat).map z6).length : Int) else (((a0.drop v1.toNat).map z6).length : Int)))) == true) (.int .i64 (((a1.drop v1.toNat).map z6).length : Int))), (35, .cnd ((decide (v2 < (if (((a1.drop v1.toNat).map z6).length : Int) < (((a0.drop v1.toNat).map z6).length : Int) then (((a1.drop v1.toNat).map z6).length : Int) else (((a0.drop v1.toNat).map z6).length : Int)))) == true) (.isl 4 ((a1.drop v1.toNat).map z6) false)), (34, .cnd ((decide (v2 < (if (((a1.drop v1.toNat).map z6).length : Int) < (((a0.drop v1.toNat).map z6).length : Int) then (((a1.drop v1.toNat).map z6).length : Int) else (((a0.drop v1.toNat).map z6).length : Int)))) == true) (.isl 4 ((a1.drop v1.toNat).map z6) false)), (33, .cnd ((decide (v2 < (if (((a1.drop v1.toNat).map z6).length : Int) < (((a0.drop v1.toNat).map z6).length : Int) then (((a1.drop v1.toNat).map z6).length : Int) else (((a0.drop v1.toNat).map z6).length : Int)))) == true) (.agg [.int .i64 (((a0.drop v1.toNat).getD ((W ((W ((((a0.drop v1.toNat).map z6).length : Int) - 1)) - v2)).toNat) default).f_DeltaLine), .int .i64 (((a0.drop v1.toNat).getD ((W ((W ((((a0.drop v1.toNat).map z6).length : Int) - 1)) - v2)).toNat) default).f_DeltaStart), .int .i64 (((a0.drop v1.toNat).getD ((W ((W ((((a0.drop v1.toNat).map z6).length : Int) - 1)) - v2)).toNat) default).f_Length), .int .i64 (((a0.drop v1.toNat).getD ((W ((W ((((a0.drop v1.toNat).map z6).length : Int) - 1)) - v2)).toNat) default).f_Kind)])), (32, .cnd ((decide (v2 < (if (((a1.drop v1.toNat).map z6).length : Int) < (((a0.drop v1.toNat).map z6).length : Int) then (((a1.drop v1.toNat).map z6).length : Int) else (((a0.drop v1.toNat).map z6).length : Int)))) == true) (.iptr 4 ((a0.drop v1.toNat).map z6) ((W ((W ((((a0.drop v1.toNat).map z6).length : Int) - 1)) - v2)).toNat) 0)), (31, .cnd ((decide (v2 < (if (((a1.drop v1.toNat).map z6).length : Int) < (((a0.drop v1.toNat).map z6).length : Int) then (((a1.drop v1.toNat).map z6).length : Int) else (((a0.drop v1.toNat).map z6).length : Int)))) == true) (.int .i64 (W ((W ((((a0.drop v1.toNat).map z6).length : Int) - 1)) - v2)))), (30, .cnd ((decide (v2 < (if (((a1.drop v1.toNat).map z6).length : Int) < (((a0.drop v1.toNat).map z6).length : Int) then (((a1.drop v1.toNat).map z6).length : Int) else (((a0.drop v1.toNat).map z6).length : Int)))) == true) (.int .i64 v2)), (29, .cnd ((decide (v2 < (if (((a1.drop v1.toNat).map z6).length : Int) < (((a0.drop v1.toNat).map z6).length : Int) then (((a1.drop v1.toNat).map z6).length : Int) else (((a0.drop v1.toNat).map z6).length : Int)))) == true) (.int .i64 (W ((((a0.drop v1.toNat).map z6).length : Int) - 1)))), (28, .cnd ((decide (v2 < (if (((a1.drop v1.toNat).map z6).length : Int) < (((a0.drop v1.toNat).map z6).length : Int) then (((a1.drop v1.toNat).map z6).length : Int) else (((a0.drop v1.toNat).map z6).length : Int)))) == true) (.int .i64 (((a0.drop v1.toNat).map z6).length : Int))), (27, .cnd ((decide (v2 < (if (((a1.drop v1.toNat).map z6).length : Int) < (((a0.drop v1.toNat).map z6).length : Int) then (((a1.drop v1.toNat).map z6).length : Int) else (((a0.drop v1.toNat).map z6).length : Int)))) == true) (.isl 4 ((a0.drop v1.toNat).map z6) false)), (26, .cnd ((decide (v2 < (if (((a1.drop v1.toNat).map z6).length : Int) < (((a0.drop v1.toNat).map z6).length : Int) then (((a1.drop v1.toNat).map z6).length : Int) else (((a0.drop v1.toNat).map z6).length : Int)))) == true) (.isl 4 ((a0.drop v1.toNat).map z6) false)), (25, .bool (decide (v2 < (if (((a1.drop v1.toNat).map z6).length : Int) < (((a0.drop v1.toNat).map z6).length : Int) then (((a1.drop v1.toNat).map z6).length : Int) else (((a0.drop v1.toNat).map z6).length : Int))))), (24, .bool (decide (v2 < (if (((a1.drop v1.toNat).map z6).length : Int) < (((a0.drop v1.toNat).map z6).length : Int) then (((a1.drop v1.toNat).map z6).length : Int) else (((a0.drop v1.toNat).map z6).length : Int))))), (23, .int .i64 (if (((a1.drop v1.toNat).map z6).length : Int) < (((a0.drop v1.toNat).map z6).length : Int) then (((a1.drop v1.toNat).map z6).length : Int) else (((a0.drop v1.toNat).map z6).length : Int))), (22, .int .i64 (((a1.drop v1.toNat).map z6).length : Int)), (21, .isl 4 ((a1.drop v1.toNat).map z6) false), (20, .int .i64 (((a0.drop v1.toNat).map z6).length : Int)), (19, .isl 4 ((a0.drop v1.toNat).map z6) false), (18, .int .i64 v2), (0, .isl 4 ((a0.drop v1.toNat).map z6) false), (1, .isl 4 ((a1.drop v1.toNat).map z6) false), (7, .int .i64 v1), (8, .int .i64 v2)] _ _
 refine And.intro (fun hp => hp) ?_
 refine And.intro (fun hp => (And.intro hp hp)) ?_
 obtain ⟨h11, h⟩ := yb h
 refine And.intro (fun hp => (And.intro (And.intro hp hp) (h11 hp))) ?_
 refine Exists.intro (z6 ((a1.drop v1.toNat).getD ((W ((W ((((a1.drop v1.toNat).map z6).length : Int) - 1)) - v2)).toNat) default)) (And.intro (fun hp => And.intro (qr z6 _ _ (xu z6 (h11 hp))) (And.intro hp (And.intro (ve (h11 hp)) (Nat.le_of_ble_eq_true rfl)))) ?_)
 refine And.intro (fun hp => (And.intro hp hp)) ?_
 show yqs _ _ [(42, .cnd ((decide (v2 < (if (((a1.drop v1.toNat).map z6).length : Int) < (((a0.drop v1.toNat).map z6).length : Int) then (((a1.drop v1.toNat).map z6).length : Int) else (((a0.drop v1.toNat).map z6).length : Int)))) == true) (.bool ((((a0.drop v1.toNat).getD ((W ((W ((((a0.drop v1.toNat).map z6).length : Int) - 1)) - v2)).toNat) default).f_DeltaLine == ((a1.drop v1.toNat).getD ((W ((W ((((a1.drop v1.toNat).map z6).length : Int) - 1)) - v2)).toNat) default).f_DeltaLine) && ((((a0.drop v1.toNat).getD ((W ((W ((((a0.drop v1.toNat).map z6).length : Int) - 1)) - v2)).toNat) default).f_DeltaStart == ((a1.drop v1.toNat).getD ((W ((W ((((a1.drop v1.toNat).map z6).length : Int) - 1)) - v2)).toNat) default).f_DeltaStart) && ((((a0.drop v1.toNat).getD ((W ((W ((((a0.drop v1.toNat).map z6).length : Int) - 1)) - v2)).toNat) default).f_Length == ((a1.drop v1.toNat).getD ((W ((W ((((a1.drop v1.toNat).map z6).length : Int) - 1)) - v2)).toNat) default).f_Length) && ((((a0.drop v1.toNat).getD ((W ((W ((((a0.drop v1.toNat).map z6).length : Int) - 1)) - v2)).toNat) default).f_Kind == ((a1.drop v1.toNat).getD ((W ((W ((((a1.drop v1.toNat).map z6).length : Int) - 1)) - v2)).toNat) default).f_Kind) && true)))))), (41, .cnd ((decide (v2 < (if (((a1.drop v1.toNat).map z6).length : Int) < (((a0.drop v1.toNat).map z6).length : Int) then (((a1.drop v1.toNat).map z6).length : Int) else (((a0.drop v1.toNat).map z6).length : Int)))) == true) (.agg [.int .i64 (((a1.drop v1.toNat).getD ((W ((W ((((a1.drop v1.toNat).map z6).length : Int) - 1)) - v2)).toNat) default).f_DeltaLine), .int .i64 (((a1.drop v1.toNat).getD ((W ((W ((((a1.drop v1.toNat).map z6).length : Int) - 1)) - v2)).toNat) default).f_DeltaStart), .int .i64 (((a1.drop v1.toNat).getD ((W ((W ((((a1.drop v1.toNat).map z6).length : Int) - 1)) - v2)).toNat) default).f_Length), .int .i64 (((a1.drop v1.toNat).getD ((W ((W ((((a1.drop v1.toNat).map z6).length : Int) - 1)) - v2)).toNat) default).f_Kind)])), (40, .cnd ((decide (v2 < (if (((a1.drop v1.toNat).map z6).length : Int) < (((a0.drop v1.toNat).map z6).length : Int) then (((a1.drop v1.toNat).map z6).length : Int) else (((a0.drop v1.toNat).map z6).length : Int)))) == true) (.iptr 4 ((a1.drop v1.toNat).map z6) ((W ((W ((((a1.drop v1.toNat).map z6).length : Int) - 1)) - v2)).toNat) 0)), (39, .cnd ((decide (v2 < (if (((a1.drop v1.toNat).map z6).length : Int) < (((a0.drop v1.toNat).map z6).length : Int) then (((a1.drop v1.toNat).map z6).length : Int) else (((a0.drop v1.toNat).map z6).length : Int)))) == true) (.int .i64 (W ((W ((((a1.drop v1.toNat).map z6).length : Int) - 1)) - v2)))), (38, .cnd ((decide (v2 < (if (((a1.drop v1.toNat).map z6).length : Int) < (((a0.drop v1.toNat).map z6).length : Int) then (((a1.drop v1.toNat).map z6).length : Int) else (((a0.drop v1.toNat).map z6).length : Int)))) == true) (.int .i64 v2)), (37, .cnd ((decide (v2 < (if (((a1.drop v1.toNat).map z6).length : Int) < (((a0.drop v1.toNat).map z6).length : Int) then (((a1.drop v1.toNat).map z6).length : Int) else (((a0.drop v1.toNat).map z6).length : Int)))) == true) (.int .i64 (W ((((a1.drop v1.toNat).map z6).length : Int) - 1)))), (36, .cnd ((decide (v2 < (if (((a1.drop v1.toNat).map z6).length : Int) < (((a0.drop v1.toNat).map z6).length : Int) then (((a1.drop v1.toNat).map z6).length : Int) else (((a0.drop v1.toNat).map z6).length : Int)))) == true) (.int .i64 (((a1.drop v1.toNat).map z6).length : Int))), (35, .cnd ((decide (v2 < (if (((a1.drop v1.toNat).map z6).length : Int) < (((a0.drop v1.toNat).map z6).length : Int) then (((a1.drop v1.toNat).map z6).length : Int) else (((a0.drop v1.toNat).map z6).length : Int)))) == true) (.isl 4 ((a1.drop v1.toNat).map z6) false)), (34, .cnd ((decide (v2 < (if (((a1.drop v1.toNat).map z6).length : Int) < (((a0.drop v1.toNat).map z6).length : Int) then (((a1.drop v1.toNat).map z6).length : Int) else (((a0.drop v1.toNat).map z6).length : Int)))) == true) (.isl 4 ((a1.drop v1.toNat).map z6) false)), (33, .cnd ((decide (v2 < (if (((a1.drop v1.toNat).map z6).length : Int) < (((a0.drop v1.toNat).map z6).length : Int) then (((a1.drop v1.toNat).map z6).length : Int) else (((a0.drop v1.toNat).map z6).length : Int)))) == true) (.agg [.int .i64 (((a0.drop v1.toNat).getD ((W ((W ((((a0.drop v1.toNat).map z6).length : Int) - 1)) - v2)).toNat) default).f_DeltaLine), .int .i64 (((a0.drop v1.toNat).getD ((W ((W ((((a0.drop v1.toNat).map z6).length : Int) - 1)) - v2)).toNat) default).f_DeltaStart), .int .i64 (((a0.drop v1.toNat).getD ((W ((W ((((a0.drop v1.toNat).map z6).length : Int) - 1)) - v2)).toNat) default).f_Length), .int .i64 (((a0.drop v1.toNat).getD ((W ((W ((((a0.drop v1.toNat).map z6).length : Int) - 1)) - v2)).toNat) default).f_Kind)])), (32, .cnd ((decide (v2 < (if (((a1.drop v1.toNat).map z6).length : Int) < (((a0.drop v1.toNat).map z6).length : Int) then (((a1.drop v1.toNat).map z6).length : Int) else (((a0.drop v1.toNat).map z6).length : Int)))) == true) (.iptr 4 ((a0.drop v1.toNat).map z6) ((W ((W ((((a0.drop v1.toNat).map z6).length : Int) - 1)) - v2)).toNat) 0)), (31, .cnd ((decide (v2 < (if (((a1.drop v1.toNat).map z6).length : Int) < (((a0.drop v1.toNat).map z6).length : Int) then (((a1.drop v1.toNat).map z6).length : Int) else (((a0.drop v1.toNat).map z6).length : Int)))) == true) (.int .i64 (W ((W ((((a0.drop v1.toNat).map z6).length : Int) - 1)) - v2)))), (30, .cnd ((decide (v2 < (if (((a1.drop v1.toNat).map z6).length : Int) < (((a0.drop v1.toNat).map z6).length : Int) then (((a1.drop v1.toNat).map z6).length : Int) else (((a0.drop v1.toNat).map z6).length : Int)))) == true) (.int .i64 v2)), (29, .cnd ((decide (v2 < (if (((a1.drop v1.toNat).map z6).length : Int) < (((a0.drop v1.toNat).map z6).length : Int) then (((a1.drop v1.toNat).map z6).length : Int) else (((a0.drop v1.toNat).map z6).length : Int)))) == true) (.int .i64 (W ((((a0.drop v1.toNat).map z6).length : Int) - 1)))), (28, .cnd ((decide (v2 < (if (((a1.drop v1.toNat).map z6).length : Int) < (((a0.drop v1.toNat).map z6).length : Int) then (((a1.drop v1.toNat).map z6).length : Int) else (((a0.drop v1.toNat).map z6).length : Int)))) == true) (.int .i64 (((a0.drop v1.toNat).map z6).length : Int))), (27, .cnd ((decide (v2 < (if (((a1.drop v1.toNat).map z6).length : Int) < (((a0.drop v1.toNat).map z6).length : Int) then (((a1.drop v1.toNat).map z6).length : Int) else (((a0.drop v1.toNat).map z6).length : Int)))) == true) (.isl 4 ((a0.drop v1.toNat).map z6) false)), (26, .cnd ((decide (v2 < (if (((a1.drop v1.toNat).map z6).length : Int) < (((a0.drop v1.toNat).map z6).length : Int) then (((a1.drop v1.toNat).map z6).length : Int) else (((a0.drop v1.toNat).map z6).length : Int)))) == true) (.isl 4 ((a0.drop v1.toNat).map z6) false)), (25, .bool (decide (v2 < (if (((a1.drop v1.toNat).map z6).length : Int) < (((a0.drop v1.toNat).map z6).length : Int) then (((a1.drop v1.toNat).map z6).length : Int) else (((a0.drop v1.toNat).map z6).length : Int))))), (24, .bool (decide (v2 < (if (((a1.drop v1.toNat).map z6).length : Int) < (((a0.drop v1.toNat).map z6).length : Int) then (((a1.drop v1.toNat).map z6).length : Int) else (((a0.drop v1.toNat).map z6).length : Int))))), (23, .int .i64 (if (((a1.drop v1.toNat).map z6).length : Int) < (((a0.drop v1.toNat).map z6).length : Int) then (((a1.drop v1.toNat).map z6).length : Int) else (((a0.drop v1.toNat).map z6).length : Int))), (22, .int .i64 (((a1.drop v1.toNat).map z6).length : Int)), (21, .isl 4 ((a1.drop v1.toNat).map z6) false), (20, .int .i64 (((a0.drop v1.toNat).map z6).length : Int)), (19, .isl 4 ((a0.drop v1.toNat).map z6) false), (18, .int .i64 v2), (0, .isl 4 ((a0.drop v1.toNat).map z6) false), (1, .isl 4 ((a1.drop v1.toNat).map z6) false), (7, .int .i64 v1), (8, .int .i64 v2)] _ _
 refine And.intro (fun hc => (bqt hc)) ?_
 refine LWp.sim (e := [(0, .isl 4 ((a0.drop v1.toNat).map z6) false), (1, .isl 4 ((a1.drop v1.toNat).map z6) false), (7, .int .i64 v1), (8, .int .i64 v2), (43, .bool ((decide (v2 < (if (((a1.drop v1.toNat).map z6).length : Int) < (((a0.drop v1.toNat).map z6).length : Int) then (((a1.drop v1.toNat).map z6).length : Int) else (((a0.drop v1.toNat).map z6).length : Int)))) && ((((a0.drop v1.toNat).getD ((W ((W ((((a0.drop v1.toNat).map z6).length : Int) - 1)) - v2)).toNat) default).f_DeltaLine == ((a1.drop v1.toNat).getD ((W ((W ((((a1.drop v1.toNat).map z6).length : Int) - 1)) - v2)).toNat) default).f_DeltaLine) && ((((a0.drop v1.toNat).getD ((W ((W ((((a0.drop v1.toNat).map z6).length : Int) - 1)) - v2)).toNat) default).f_DeltaStart == ((a1.drop v1.toNat).getD ((W ((W ((((a1.drop v1.toNat).map z6).length : Int) - 1)) - v2)).toNat) default).f_DeltaStart) && ((((a0.drop v1.toNat).getD ((W ((W ((((a0.drop v1.toNat).map z6).length : Int) - 1)) - v2)).toNat) default).f_Length == ((a1.drop v1.toNat).getD ((W ((W ((((a1.drop v1.toNat).map z6).length : Int) - 1)) - v2)).toNat) default).f_Length) && ((((a0.drop v1.toNat).getD ((W ((W ((((a0.drop v1.toNat).map z6).length : Int) - 1)) - v2)).toNat) default).f_Kind == ((a1.drop v1.toNat).getD ((W ((W ((((a1.drop v1.toNat).map z6).length : Int) - 1)) - v2)).toNat) default).f_Kind) && true))))))]) (L := []) (n := 0) ?_ ?_
 ·exact V2 (M := []) rfl (And.intro (Vw.same _ rfl) (And.intro (Vw.same _ rfl) (And.intro (Vw.same _ rfl) (And.intro (Vw.same _ rfl) (And.intro (Vw.same _ rfl) trivial))))) trivial
 refine J2 (v := ((decide (v2 < (if (((a1.drop v1.toNat).map z6).length : Int) < (((a0.drop v1.toNat).map z6).length : Int) then (((a1.drop v1.toNat).map z6).length : Int) else (((a0.drop v1.toNat).map z6).length : Int)))) && ((((a0.drop v1.toNat).getD ((W ((W ((((a0.drop v1.toNat).map z6).length : Int) - 1)) - v2)).toNat) default).f_DeltaLine == ((a1.drop v1.toNat).getD ((W ((W ((((a1.drop v1.toNat).map z6).length : Int) - 1)) - v2)).toNat) default).f_DeltaLine) && ((((a0.drop v1.toNat).getD ((W ((W ((((a0.drop v1.toNat).map z6).length : Int) - 1)) - v2)).toNat) default).f_DeltaStart == ((a1.drop v1.toNat).getD ((W ((W ((((a1.drop v1.toNat).map z6).length : Int) - 1)) - v2)).toNat) default).f_DeltaStart) && ((((a0.drop v1.toNat).getD ((W ((W ((((a0.drop v1.toNat).map z6).length : Int) - 1)) - v2)).toNat) default).f_Length == ((a1.drop v1.toNat).getD ((W ((W ((((a1.drop v1.toNat).map z6).length : Int) - 1)) - v2)).toNat) default).f_Length) && ((((a0.drop v1.toNat).getD ((W ((W ((((a0.drop v1.toNat).map z6).length : Int) - 1)) - v2)).toNat) default).f_Kind == ((a1.drop v1.toNat).getD ((W ((W ((((a1.drop v1.toNat).map z6).length : Int) - 1)) - v2)).toNat) default).f_Kind) && true)))))) rfl trivial (fun h12 => ?_) (fun h12 => ?_)
 ·have h := vd h12 h
  refine Xu ?_
  refine Jk ?_
  refine uz ?_
  cases h
  exact And.intro rfl (V2 (M := []) rfl (And.intro (Vw.same _ rfl) (And.intro (Vw.same _ rfl) (And.intro (Vw.same _ rfl) (And.intro (Vw.same _ rfl) trivial)))) trivial)
 ·have h := Zh h12 h
  refine zar ?_
  obtain ⟨o, hq, rfl⟩ := Option.map_eq_some_iff.1 h
  replace h := hq; clear hq
  refine And.intro nofun ?_
  refine LWp.sim ?_ (z4h h)
  exact V2 (M := []) rfl (And.intro (Vw.same _ rfl) (And.intro (Vw.same _ rfl) (And.intro (Vw.same _ rfl) (And.intro (Vw.same _ rfl) trivial)))) trivial
theorem z3t {a0 : List G_TokenDelta} {a1 : List G_TokenDelta} {v1 : Int} {v2 : Int} {m : Option Nat} {o : (Int × Int × (List G_TokenDelta))} (h : jf m a0 a1 v1 v2 = some o) :
 LWp Tryz.prog ur 0 (.loop z3l) (Yi 0 (z9c Tryz.prog ur 0 z1t (z8g a0 a1 o))) [(0, .isl 4 ((a0.drop v1.toNat).map z6) false), (1, .isl 4 ((a1.drop v1.toNat).map z6) false), (7, .int .i64 v1), (8, .int .i64 v2)] [] 0 :=
 Xi (m := m) (s := (v2 : Int)) (r := o) (fun (s : Int) => y5 m a0 a1 v1 s) (W6 a0 a1 v1) (K9 a0 a1 v1) (z1w a0 a1) (fun s o h => z2a h) h
noncomputable def yu (m : Option Nat) (a0 : List G_TokenDelta) (a1 : List G_TokenDelta) : Option (Int × Int × (List G_TokenDelta)) :=
 (y6 m a0 a1).bind fun v1 =>
 if (0 : Int) ≤ v1 ∧ v1 ≤ ((a0.map z6).length : Int) then
 if (0 : Int) ≤ v1 ∧ v1 ≤ ((a1.map z6).length : Int) then
 jf m a0 a1 v1 0
 else none
 else none
theorem z5k {a0 : List G_TokenDelta} {a1 : List G_TokenDelta} {m : Option Nat} {o : Int × Int × (List G_TokenDelta)} (h : yu m a0 a1 = some o) : LWp Tryz.prog ur 0 z91 (z8g a0 a1 o) (xl 0 [.isl 4 (a0.map z6) false, .isl 4 (a1.map z6) false]) [] 0 := by
 unfold yu at h
 refine jp ?_
 refine uz ?_
 refine jp ?_
 refine uz ?_
 obtain ⟨v1, h1, h⟩ := bind_some h
 refine PFn.call (zcs h1) (And.intro (Vw.same _ rfl) (And.intro (Vw.same _ rfl) trivial)) ?_
 show Q9 _ _ _ [(11, .int .i64 v1), (10, .isl 4 (a1.map z6) false), (9, .isl 4 (a0.map z6) false), (6, .val (.slice none 0 0)), (5, .int .i64 0), (4, .int .i64 0), (0, .isl 4 (a0.map z6) false), (1, .isl 4 (a1.map z6) false)] _ _
 refine jp ?_
 refine J9 ?_
 obtain ⟨h2, h⟩ := yb h
 refine Exists.intro (.isl 4 ((a0.drop v1.toNat).map z6) false) (And.intro (Kt z6 (slA z6 a0 _) rfl) (And.intro (And.intro rfl (And.intro (And.left h2) (And.intro (And.right h2) (Int.le_refl _)))) ?_))
 obtain ⟨h3, h⟩ := yb h
 refine Exists.intro (.isl 4 ((a1.drop v1.toNat).map z6) false) (And.intro (Kt z6 (slA z6 a1 _) rfl) (And.intro (And.intro rfl (And.intro (And.left h3) (And.intro (And.right h3) (Int.le_refl _)))) ?_))
 refine LWp.sim (e := [(0, .isl 4 ((a0.drop v1.toNat).map z6) false), (1, .isl 4 ((a1.drop v1.toNat).map z6) false), (7, .int .i64 v1)]) (L := []) (n := 0) ?_ ?_
 ·exact V2 (M := []) rfl (And.intro (Vw.same _ rfl) (And.intro (Vw.same _ rfl) (And.intro (Vw.same _ rfl) trivial))) trivial
 refine jp ?_
 refine uz ?_
 refine jp ?_
 refine Jk ?_
 refine LWp.sim ?_ (z3t h)
 exact V2 (M := []) rfl (And.intro (Vw.same _ rfl) (And.intro (Vw.same _ rfl) (And.intro (Vw.same _ rfl) (And.intro (Vw.same _ rfl) trivial)))) trivial
theorem zd6 {a0 : List G_TokenDelta} {a1 : List G_TokenDelta} {m : Option Nat} {o : Int × Int × (List G_TokenDelta)} (h : yu m a0 a1 = some o) : PFn Tryz.prog 13 [.isl 4 (a0.map z6) false, .isl 4 (a1.map z6) false] (.tup [.int .i64 o.1, .int .i64 o.2.1, .isl 4 (o.2.2.map z6) false]) := PFn.ofFnW (L := zd9) zbb zak (Nat.le_of_ble_eq_true rfl) rfl (z5k h)
def z6e : LCode := (.seq (.seq (.region [⟨some 11, .mv (.t 5), none⟩,
 ⟨some 12, .mv (.t 0), none⟩,
 ⟨some 13, .len false (.t 12), none⟩,
 ⟨some 14, .bin .lss (.t 11) (.t 13), none⟩])
 (.cond (.t 14)
  .skip
  (.exit 0)))
 (.seq (.block 1
  (.seq (.quiet [⟨some 17, .mv (.t 0), none⟩,
   ⟨some 18, .mv (.t 5), none⟩,
   ⟨some 19, .iaddr 4 (.t 17) (.t 18), none⟩,
   ⟨some 20, .load true 4 (.t 19), none⟩,
   ⟨some 21, .mv (.t 1), none⟩,
   ⟨some 22, .mv (.t 5), none⟩,
   ⟨some 23, .iaddr 4 (.t 21) (.t 22), none⟩,
   ⟨some 24, .load true 4 (.t 23), none⟩,
   ⟨some 25, .eq true (.agg [.int, .int, .int, .int]) (.t 20) (.t 24), none⟩])
  (.cond (.t 25)
   (.seq (.region [⟨some 4, .mv (.c (.bool false)), none⟩])
   .ret)
   .skip)))
 (.region [⟨some 15, .mv (.t 5), none⟩,
  ⟨some 16, .bin .add (.t 15) (.c (.int .i64 1)), none⟩,
  ⟨some 5, .mv (.t 16), none⟩])))
def z0y : LCode := (.seq (.region [⟨some 4, .mv (.c (.bool true)), none⟩])
 .ret)
def z99 : LCode := (.seq (.region [⟨some 4, .mv (.c (.bool false)), none⟩])
 (.seq (.seq (.region [⟨some 6, .mv (.t 0), none⟩,
  ⟨some 7, .len false (.t 6), none⟩,
  ⟨some 8, .mv (.t 1), none⟩,
  ⟨some 9, .len false (.t 8), none⟩,
  ⟨some 10, .bin .neq (.t 7) (.t 9), none⟩])
 (.cond (.t 10)
  (.seq (.region [⟨some 4, .mv (.c (.bool false)), none⟩])
  .ret)
  .skip))
 (.seq (.seq (.region [⟨some 5, .mv (.c (.int .i64 0)), none⟩])
 (.block 0
  (.loop
   z6e)))
 z0y)))
def uo : Lay := ⟨26, [], false⟩
def z6h : List LRes := [.t 4]
def zcy : LFn := ⟨2, uo, z99, z6h⟩
theorem z9s : ky Tryz.prog [] 11 = some zcy := by kernel_rfl
theorem z9r : Jm Tryz.prog 11 := ⟨_, Tryz.func11, rfl, rfl⟩
def z7i (a0 : List G_TokenDelta) (a1 : List G_TokenDelta) (o : Bool) : Exit → Env → AHeap → Nat → Prop := z98 z6h (Y2 (.bool o))
def J6 (a0 : List G_TokenDelta) (a1 : List G_TokenDelta) (s : Int) : Env := [(0, .isl 4 (a0.map z6) false), (1, .isl 4 (a1.map z6) false), (5, .int .i64 s)]
def Vq (a0 : List G_TokenDelta) (a1 : List G_TokenDelta) (s : Int) : AHeap := []
def z1e (a0 : List G_TokenDelta) (a1 : List G_TokenDelta) (o : Bool) : Exit → Env → AHeap → Nat → Prop := (Yi 0 (z9c Tryz.prog uo 0 z0y (z7i a0 a1 o)))
noncomputable def y3 (m : Option Nat) : Option Bool :=
 some true
noncomputable def zj (m : Option Nat) (a0 : List G_TokenDelta) (a1 : List G_TokenDelta) (v1 : Int) : Option (Int ⊕ Bool) :=
 if (decide (v1 < ((a0.map z6).length : Int))) = true then
  if (0 : Int) ≤ v1 ∧ v1 < ((a0.map z6).length : Int) then
  if (0 : Int) ≤ v1 ∧ v1 < ((a1.map z6).length : Int) then
  if (!(((a0.getD v1.toNat default).f_DeltaLine == (a1.getD v1.toNat default).f_DeltaLine) && (((a0.getD v1.toNat default).f_DeltaStart == (a1.getD v1.toNat default).f_DeltaStart) && (((a0.getD v1.toNat default).f_Length == (a1.getD v1.toNat default).f_Length) && (((a0.getD v1.toNat default).f_Kind == (a1.getD v1.toNat default).f_Kind) && true))))) = true then
   Option.map Sum.inr (
    some false)
  else
   some (.inl (W (v1 + 1)))
  else none
  else none
 else
  Option.map Sum.inr (
   y3 m)
noncomputable def q7 (m : Option Nat) (a0 : List G_TokenDelta) (a1 : List G_TokenDelta) (v1 : Int) : Option Bool := Yy m (fun (s : Int) => zj m a0 a1 s) v1
theorem z69 {a0 : List G_TokenDelta} {a1 : List G_TokenDelta} {m : Option Nat} {o : Bool} (h : y3 m = some o) :
 LWp Tryz.prog uo 0 z0y (z7i a0 a1 o) [] [] 0 := by
 unfold y3 at h
 refine jp ?_
 refine uz ?_
 refine z5z ?_
 cases h
 exact And.intro trivial (And.intro rfl (Vw.same _ rfl))
theorem z2w {a0 : List G_TokenDelta} {a1 : List G_TokenDelta} {v1 : Int} {m : Option Nat} {o : Int ⊕ Bool} (h : zj m a0 a1 v1 = some o) :
 LWp Tryz.prog uo 0 z6e (z5p 0 0 (J6 a0 a1) (Vq a0 a1) (z1e a0 a1) o) [(0, .isl 4 (a0.map z6) false), (1, .isl 4 (a1.map z6) false), (5, .int .i64 v1)] [] 0 := by
 unfold zj at h
 refine jp ?_
 refine jp ?_
 refine uz ?_
 refine J2 (v := (decide (v1 < ((a0.map z6).length : Int)))) rfl trivial (fun h10 => ?_) (fun h10 => ?_)
 ·have h := vd h10 h
  refine Xu ?_
  refine jp ?_
  refine Jk ?_
  refine jp ?_
  refine J9 ?_
  obtain ⟨h11, h⟩ := yb h
  refine And.intro h11 ?_
  show yqs _ _ [(19, .iptr 4 (a0.map z6) v1.toNat 0), (18, .int .i64 v1), (17, .isl 4 (a0.map z6) false), (14, .bool (decide (v1 < ((a0.map z6).length : Int)))), (13, .int .i64 ((a0.map z6).length : Int)), (12, .isl 4 (a0.map z6) false), (11, .int .i64 v1), (0, .isl 4 (a0.map z6) false), (1, .isl 4 (a1.map z6) false), (5, .int .i64 v1)] _ _
  refine Exists.intro (z6 (a0.getD v1.toNat default)) (And.intro (qr z6 _ _ (xu z6 h11)) (And.intro (And.intro (ve h11) (Nat.le_of_ble_eq_true rfl)) ?_))
  obtain ⟨h12, h⟩ := yb h
  refine And.intro h12 ?_
  refine Exists.intro (z6 (a1.getD v1.toNat default)) (And.intro (qr z6 _ _ (xu z6 h12)) (And.intro (And.intro (ve h12) (Nat.le_of_ble_eq_true rfl)) ?_))
  refine LWp.sim (e := [(0, .isl 4 (a0.map z6) false), (1, .isl 4 (a1.map z6) false), (5, .int .i64 v1), (25, .bool (!(((a0.getD v1.toNat default).f_DeltaLine == (a1.getD v1.toNat default).f_DeltaLine) && (((a0.getD v1.toNat default).f_DeltaStart == (a1.getD v1.toNat default).f_DeltaStart) && (((a0.getD v1.toNat default).f_Length == (a1.getD v1.toNat default).f_Length) && (((a0.getD v1.toNat default).f_Kind == (a1.getD v1.toNat default).f_Kind) && true))))))]) (L := []) (n := 0) ?_ ?_
  ·exact V2 (M := []) rfl (And.intro (Vw.same _ rfl) (And.intro (Vw.same _ rfl) (And.intro (Vw.same _ rfl) (And.intro (Vw.same _ rfl) trivial)))) trivial
  refine J2 (v := (!(((a0.getD v1.toNat default).f_DeltaLine == (a1.getD v1.toNat default).f_DeltaLine) && (((a0.getD v1.toNat default).f_DeltaStart == (a1.getD v1.toNat default).f_DeltaStart) && (((a0.getD v1.toNat default).f_Length == (a1.getD v1.toNat default).f_Length) && (((a0.getD v1.toNat default).f_Kind == (a1.getD v1.toNat default).f_Kind) && true)))))) rfl trivial (fun h13 => ?_) (fun h13 => ?_)
  ·have h := vd h13 h
   refine jp ?_
   refine uz ?_
   refine z5z ?_
   obtain ⟨o, hq, rfl⟩ := Option.map_eq_some_iff.1 h
   replace h := hq; clear hq
   refine And.intro nofun ?_
   cases h
   exact And.intro trivial (And.intro rfl (Vw.same _ rfl))
  ·have h := Zh h13 h
   refine Xu ?_
   refine uz ?_
   cases h
   exact And.intro rfl (V2 (M := []) rfl (And.intro (Vw.same _ rfl) (And.intro (Vw.same _ rfl) (And.intro (Vw.same _ rfl) trivial))) trivial)
 ·have h := Zh h10 h
  refine zar ?_
  obtain ⟨o, hq, rfl⟩ := Option.map_eq_some_iff.1 h
  replace h := hq; clear hq
  refine And.intro nofun ?_
  refine LWp.sim ?_ (z69 h)
  exact V2 (M := []) rfl trivial trivial
theorem z4o {a0 : List G_TokenDelta} {a1 : List G_TokenDelta} {v1 : Int} {m : Option Nat} {o : Bool} (h : q7 m a0 a1 v1 = some o) :
 LWp Tryz.prog uo 0 (.loop z6e) (Yi 0 (z9c Tryz.prog uo 0 z0y (z7i a0 a1 o))) [(0, .isl 4 (a0.map z6) false), (1, .isl 4 (a1.map z6) false), (5, .int .i64 v1)] [] 0 :=
 Xi (m := m) (s := (v1 : Int)) (r := o) (fun (s : Int) => zj m a0 a1 s) (J6 a0 a1) (Vq a0 a1) (z1e a0 a1) (fun s o h => z2w h) h
noncomputable def zh (m : Option Nat) (a0 : List G_TokenDelta) (a1 : List G_TokenDelta) : Option Bool :=
 if (((a0.map z6).length : Int) != ((a1.map z6).length : Int)) = true then
  some false
 else
  q7 m a0 a1 0
theorem z42 {a0 : List G_TokenDelta} {a1 : List G_TokenDelta} {m : Option Nat} {o : Bool} (h : zh m a0 a1 = some o) : LWp Tryz.prog uo 0 z99 (z7i a0 a1 o) (xl 0 [.isl 4 (a0.map z6) false, .isl 4 (a1.map z6) false]) [] 0 := by
 unfold zh at h
 refine jp ?_
 refine uz ?_
 refine jp ?_
 refine jp ?_
 refine uz ?_
 refine J2 (v := (((a0.map z6).length : Int) != ((a1.map z6).length : Int))) rfl trivial (fun h1 => ?_) (fun h1 => ?_)
 ·have h := vd h1 h
  refine jp ?_
  refine uz ?_
  refine z5z ?_
  cases h
  exact And.intro trivial (And.intro rfl (Vw.same _ rfl))
 ·have h := Zh h1 h
  refine Xu ?_
  refine jp ?_
  refine jp ?_
  refine uz ?_
  refine Jk ?_
  refine LWp.sim ?_ (z4o h)
  exact V2 (M := []) rfl (And.intro (Vw.same _ rfl) (And.intro (Vw.same _ rfl) (And.intro (Vw.same _ rfl) trivial))) trivial
theorem z50 {a0 : List G_TokenDelta} {a1 : List G_TokenDelta} {m : Option Nat} {o : Bool} (h : zh m a0 a1 = some o) : PFn Tryz.prog 11 [.isl 4 (a0.map z6) false, .isl 4 (a1.map z6) false] (.bool o) := PFn.ofFnW (L := zcy) z9s z9r (Nat.le_of_ble_eq_true rfl) rfl (z42 h)
end Go.Proofs.YtkpgfihopaokgaaGreatDoor
