/-
  Own text GenB of this claim: what functions of the given program compute, in plain Lean, and the proof; no condition.
-/
import Derived.Test.YteepckliibfnkaaGenA
namespace Go.Proofs.Yteepckliibfnkaa
open Go.Fx
set_option linter.unusedVariables false
def f34_c0 : LCode := (.seq (.region [⟨some 3, .box (.t 1), none⟩,
   ⟨some 4, .mv (.c (.str [])), none⟩,
   ⟨some 5, .mv (.c (.int .i64 0)), none⟩])
 (.seq (.seq (.region [⟨some 8, .load true 3 (.t 3), none⟩,
   ⟨some 9, .call 58 [(.t 8)], none⟩,
   ⟨some 6, .mv (.t 9), none⟩])
 (.seq (.region [⟨some 10, .mv (.t 6), none⟩,
   ⟨some 11, .bin .neq (.t 10) (.c (.int .i64 0)), none⟩])
 (.cond (.t 11)
  (.seq (.region [⟨some 12, .mv (.t 6), none⟩,
    ⟨some 4, .mv (.c (.str [])), none⟩,
    ⟨some 5, .mv (.t 12), none⟩])
  .ret)
  .skip)))
 (.seq (.region [⟨some 13, .load true 3 (.t 3), none⟩,
   ⟨some 14, .call 60 [(.t 13)], none⟩,
   ⟨some 15, .call 59 [(.t 14)], none⟩,
   ⟨some 7, .mv (.t 15), none⟩])
 (.seq (.seq (.region [⟨some 16, .mv (.t 0), none⟩,
   ⟨some 17, .len true (.t 16), none⟩,
   ⟨some 18, .mv (.t 7), none⟩,
   ⟨some 19, .len true (.t 18), none⟩,
   ⟨some 20, .bin .add (.t 17) (.t 19), none⟩,
   ⟨some 21, .bin .gtr (.t 20) (.c (.int .i64 40000)), none⟩])
 (.cond (.t 21)
  (.seq (.region [⟨some 4, .mv (.c (.str [])), none⟩,
    ⟨some 5, .mv (.c (.int .i64 2)), none⟩])
  .ret)
  .skip))
 (.seq (.region [⟨some 22, .mv (.t 0), none⟩,
   ⟨some 23, .mv (.t 7), none⟩,
   ⟨some 24, .bin .add (.t 22) (.t 23), none⟩,
   ⟨some 4, .mv (.t 24), none⟩,
   ⟨some 5, .mv (.c (.int .i64 0)), none⟩])
 .ret)))))
def f34_lay : Lay := ⟨25, [], false⟩
def f34_res : List LRes := [.t 4, .t 5]
def f34_L : LFn := ⟨2, f34_lay, f34_c0, f34_res⟩
theorem f34_low : lowFn Try.prog [] 34 = some f34_L := by kernel_rfl
theorem f34_fok : FnOk Try.prog 34 := ⟨_, Try.func34, rfl, rfl⟩
noncomputable def S_journal_Append (m : Option Nat) (a0 : List UInt8) (a1 : G_QRecord) : Option ((List UInt8) × Int) :=
  (S_journal_validate m a1).bind fun v1 =>
  if (v1 != 0) = true then
    some (([] : List UInt8), v1)
  else
    (S_journal_payload m a1).bind fun v2 =>
    (S_journal_frame m v2).bind fun v3 =>
    if (decide ((W ((a0.length : Int) + (v3.length : Int))) > 40000)) = true then
      some (([] : List UInt8), 2)
    else
      if (((a0.length + v3.length : Nat) : Int) ≤ 9223372036854775807) then
      some ((a0 ++ v3), 0)
      else none

def f34_Q (a0 : List UInt8) (a1 : G_QRecord) (o : (List UInt8) × Int) : Exit → Env → AHeap → Nat → Prop := FinK f34_res (PureEnd (.tup [.str o.1, .int .i64 o.2]))

theorem f34_start {a0 : List UInt8} {a1 : G_QRecord} {m : Option Nat} {o : (List UInt8) × Int} (h : S_journal_Append m a0 a1 = some o) : LWp Try.prog f34_lay 0 f34_c0 (f34_Q a0 a1 o) (initEnv 0 [.str a0, .agg [.str a1.f_Key, .str a1.f_Value, .bool a1.f_Deleted]]) [] 0 := by
  unfold S_journal_Append at h
  refine seqI ?_
  refine regI ?_
  refine seqI ?_
  refine seqI ?_
  refine regI ?_
  obtain ⟨v1, h1, h⟩ := bind_some h
  refine PFn.call (f58_ok h1) (And.intro (Vw.same _ rfl) trivial) ?_
  show yops _ _ _ [(9, .int .i64 v1), (8, .agg [.str a1.f_Key, .str a1.f_Value, .bool a1.f_Deleted]), (5, .int .i64 0), (4, .str ([] : List UInt8)), (3, .ptr (0, 0) 0 0), (0, .str a0), (1, .agg [.str a1.f_Key, .str a1.f_Value, .bool a1.f_Deleted])] _ _
  refine seqI ?_
  refine regI ?_
  refine LWp.sim (e := [(0, .str a0), (3, .ptr (0, 0) 0 0), (6, .int .i64 v1), (11, .bool (v1 != 0))]) (L := [((0, 0), .one [.str a1.f_Key, .str a1.f_Value, .bool a1.f_Deleted])]) (n := 1) ?_ ?_
  · exact simI (M := [((0, 0), (0, 0))]) rfl (And.intro (Vw.same _ rfl) (And.intro (Vw.ptr _ _ _ _ rfl) (And.intro (Vw.same _ rfl) (And.intro (Vw.same _ rfl) trivial)))) (And.intro (And.intro rfl (BVw.oneL (And.intro (Vw.same _ rfl) (And.intro (Vw.same _ rfl) (And.intro (Vw.same _ rfl) trivial))))) trivial)
  refine condI (v := (v1 != 0)) rfl trivial (fun h2 => ?_) (fun h2 => ?_)
  · have h := ite_tt h2 h
    refine seqI ?_
    refine regI ?_
    refine retI ?_
    cases h
    exact And.intro trivial (And.intro trivial (And.intro rfl (Vw.same _ rfl)))
  · have h := ite_ff h2 h
    refine skipI ?_
    refine seqI ?_
    refine regI ?_
    obtain ⟨v2, h3, h⟩ := bind_some h
    refine PFn.call (f60_ok h3) (And.intro (Vw.same _ rfl) trivial) ?_
    obtain ⟨v3, h4, h⟩ := bind_some h
    refine PFn.call (f59_ok h4) (And.intro (Vw.same _ rfl) trivial) ?_
    refine seqI ?_
    refine seqI ?_
    refine regI ?_
    refine LWp.sim (e := [(0, .str a0), (7, .str v3), (21, .bool (decide ((W ((a0.length : Int) + (v3.length : Int))) > 40000)))]) (L := []) (n := 0) ?_ ?_
    · exact simI (M := []) rfl (And.intro (Vw.same _ rfl) (And.intro (Vw.same _ rfl) (And.intro (Vw.same _ rfl) trivial))) trivial
    refine condI (v := (decide ((W ((a0.length : Int) + (v3.length : Int))) > 40000))) rfl trivial (fun h5 => ?_) (fun h5 => ?_)
    · have h := ite_tt h5 h
      refine seqI ?_
      refine regI ?_
      refine retI ?_
      cases h
      exact And.intro trivial (And.intro trivial (And.intro rfl (Vw.same _ rfl)))
    · have h := ite_ff h5 h
      refine skipI ?_
      refine seqI ?_
      refine regI ?_
      obtain ⟨h6, h⟩ := ite_some h
      refine And.intro h6 ?_
      refine retI ?_
      cases h
      exact And.intro trivial (And.intro trivial (And.intro rfl (Vw.same _ rfl)))

theorem f34_ok {a0 : List UInt8} {a1 : G_QRecord} {m : Option Nat} {o : (List UInt8) × Int} (h : S_journal_Append m a0 a1 = some o) : PFn Try.prog 34 [.str a0, .agg [.str a1.f_Key, .str a1.f_Value, .bool a1.f_Deleted]] (.tup [.str o.1, .int .i64 o.2]) := PFn.ofFnW (L := f34_L) f34_low f34_fok (Nat.le_of_ble_eq_true rfl) rfl (f34_start h)

def f14_c1 : LCode := (.seq (.region [⟨some 14, .bin .lss (.t 13) (.t 12), none⟩])
 (.seq (.cond (.t 14)
  .skip
  (.exit 0))
 (.seq (.block 1
  (.seq (.region [⟨some 15, .iaddr 3 (.t 11) (.t 13), none⟩,
    ⟨some 16, .load true 3 (.t 15), none⟩,
    ⟨some 6, .alloc [(.str []), (.int .u32 0), (.isl 1 [] true)], none⟩,
    ⟨none, .store 3 (.t 6) (.t 16), none⟩])
  (.seq (.region [⟨some 7, .mv (.c (.int .i64 0)), none⟩])
  (.seq (.draw [⟨⟨some 18, .mv (.t 4), none⟩, []⟩,
    ⟨⟨some 19, .faddr 0 (.t 6), none⟩, []⟩,
    ⟨⟨some 20, .load false 1 (.t 19), none⟩, []⟩,
    ⟨⟨some 21, .load true 3 (.t 6), none⟩, []⟩,
    ⟨⟨some 22, .call 35 [(.t 21)], none⟩, [2]⟩,
    ⟨⟨some 23, .build [(.str []), (.str []), (.bool false)] [(0, 1, (.t 20)), (1, 1, (.t 22))], none⟩, []⟩,
    ⟨⟨some 24, .call 34 [(.t 18), (.t 23)], none⟩, []⟩,
    ⟨⟨some 17, .mv (.t 24), none⟩, []⟩,
    ⟨⟨some 25, .ext 0 (.t 17), none⟩, []⟩,
    ⟨⟨some 26, .ext 1 (.t 17), none⟩, []⟩,
    ⟨⟨some 4, .mv (.t 25), none⟩, []⟩,
    ⟨⟨some 7, .mv (.t 26), none⟩, []⟩])
  (.seq (.region [⟨some 27, .mv (.t 7), none⟩,
    ⟨some 28, .bin .neq (.t 27) (.c (.int .i64 0)), none⟩])
  (.cond (.t 28)
   (.seq (.region [⟨some 29, .mv (.t 7), none⟩,
     ⟨some 2, .mv (.c (.str [])), none⟩,
     ⟨some 3, .mv (.t 29), none⟩])
   .ret)
   .skip))))))
 (.region [⟨some 30, .bin .add (.t 13) (.c (.int .i64 1)), none⟩,
   ⟨some 13, .mv (.t 30), none⟩]))))
def f14_c0 : LCode := (.seq (.region [⟨some 31, .mv (.t 4), none⟩,
   ⟨some 2, .mv (.t 31), none⟩,
   ⟨some 3, .mv (.c (.int .i64 0)), none⟩])
 .ret)
def f14_c2 : LCode := (.seq (.region [⟨some 2, .mv (.c (.str [])), none⟩,
   ⟨some 3, .mv (.c (.int .i64 0)), none⟩])
 (.seq (.seq (.region [⟨some 8, .mv (.t 0), none⟩,
   ⟨some 9, .call 33 [(.t 8)], none⟩,
   ⟨some 10, .un .not (.t 9), none⟩])
 (.cond (.t 10)
  (.seq (.region [⟨some 2, .mv (.c (.str [])), none⟩,
    ⟨some 3, .mv (.c (.int .i64 3)), none⟩])
  .ret)
  .skip))
 (.seq (.region [⟨some 4, .mv (.c (.str [])), none⟩])
 (.seq (.seq (.region [⟨some 11, .mv (.t 0), none⟩,
   ⟨some 12, .len false (.t 11), none⟩,
   ⟨some 13, .mv (.c (.int .i64 0)), none⟩])
 (.block 0
  (.loop
   f14_c1)))
 f14_c0))))
def f14_lay : Lay := ⟨32, [], false⟩
def f14_res : List LRes := [.t 2, .t 3]
def f14_L : LFn := ⟨1, f14_lay, f14_c2, f14_res⟩
theorem f14_low : lowFn Try.prog [] 14 = some f14_L := by kernel_rfl
theorem f14_fok : FnOk Try.prog 14 := ⟨_, Try.func14, rfl, rfl⟩
def f14_Q (a0 : List G_QIndexEntry) (o : (List UInt8) × Int) : Exit → Env → AHeap → Nat → Prop := FinK f14_res (PureEnd (.tup [.str o.1, .int .i64 o.2]))

def f14_L1_env (a0 : List G_QIndexEntry) (s : ((List UInt8) × Int)) : Env := [(4, .str s.1), (11, .isl 3 (a0.map e_QIndexEntry) false), (12, .int .i64 ((a0.map e_QIndexEntry).length : Int)), (13, .int .i64 s.2)]
def f14_L1_hp (a0 : List G_QIndexEntry) (s : ((List UInt8) × Int)) : AHeap := []
def f14_L1_Q (a0 : List G_QIndexEntry) (o : ((List UInt8) × Int)) : Exit → Env → AHeap → Nat → Prop := (QBlock 0 (QSeq Try.prog f14_lay 0 f14_c0 (f14_Q a0 o)))

noncomputable def S_wordindex_Save_j1 (m : Option Nat) (v4 : List UInt8) : Option ((List UInt8) × Int) :=
  some (v4, 0)

noncomputable def S_wordindex_Save_b1 (m : Option Nat) (a0 : List G_QIndexEntry) (v4 : List UInt8) (v5 : Int) : Option (((List UInt8) × Int) ⊕ ((List UInt8) × Int)) :=
  if (decide (v5 < ((a0.map e_QIndexEntry).length : Int))) = true then
    if (0 : Int) ≤ v5 ∧ v5 < ((a0.map e_QIndexEntry).length : Int) then
    (S_wordindex_encode m (G_QIndexEntry.mk ((a0.getD v5.toNat default).f_Name) ((a0.getD v5.toNat default).f_Sum) ((a0.getD v5.toNat default).f_Words))).bind fun v8 =>
    (S_journal_Append m v4 (G_QRecord.mk ((a0.getD v5.toNat default).f_Name) v8 false)).bind fun v9 =>
    if (v9.2 != 0) = true then
      Option.map Sum.inr (
        some (([] : List UInt8), v9.2))
    else
      some (.inl (v9.1, (W (v5 + 1))))
    else none
  else
    Option.map Sum.inr (
      S_wordindex_Save_j1 m v4)

noncomputable def S_wordindex_Save_l1 (m : Option Nat) (a0 : List G_QIndexEntry) (v4 : List UInt8) (v5 : Int) : Option ((List UInt8) × Int) := loopM m (fun (s : ((List UInt8) × Int)) => S_wordindex_Save_b1 m a0 s.1 s.2) (v4, v5)

theorem f14_j1_ok {a0 : List G_QIndexEntry} {v4 : List UInt8} {m : Option Nat} {o : ((List UInt8) × Int)} (h : S_wordindex_Save_j1 m v4 = some o) :
    LWp Try.prog f14_lay 0 f14_c0 (f14_Q a0 o) [(4, .str v4)] [] 0 := by
  unfold S_wordindex_Save_j1 at h
  refine seqI ?_
  refine regI ?_
  refine retI ?_
  cases h
  exact And.intro trivial (And.intro trivial (And.intro rfl (Vw.same _ rfl)))

theorem f14_L1_bok {a0 : List G_QIndexEntry} {v4 : List UInt8} {v5 : Int} {m : Option Nat} {o : ((List UInt8) × Int) ⊕ ((List UInt8) × Int)} (h : S_wordindex_Save_b1 m a0 v4 v5 = some o) :
    LWp Try.prog f14_lay 0 f14_c1 (BodyQ 0 0 (f14_L1_env a0) (f14_L1_hp a0) (f14_L1_Q a0) o) [(4, .str v4), (11, .isl 3 (a0.map e_QIndexEntry) false), (12, .int .i64 ((a0.map e_QIndexEntry).length : Int)), (13, .int .i64 v5)] [] 0 := by
  unfold S_wordindex_Save_b1 at h
  refine seqI ?_
  refine regI ?_
  refine seqI ?_
  refine condI (v := (decide (v5 < ((a0.map e_QIndexEntry).length : Int)))) rfl trivial (fun h13 => ?_) (fun h13 => ?_)
  · have h := ite_tt h13 h
    refine skipI ?_
    refine seqI ?_
    refine blockI ?_
    refine seqI ?_
    refine regI ?_
    obtain ⟨h14, h⟩ := ite_some h
    refine And.intro h14 ?_
    refine Exists.intro (e_QIndexEntry (a0.getD v5.toNat default)) (And.intro (getD_enc e_QIndexEntry _ _ (idx_ltL e_QIndexEntry h14)) (And.intro (And.intro (idx_lt h14) (Nat.le_of_ble_eq_true rfl)) ?_))
    refine seqI ?_
    refine regI ?_
    refine seqI ?_
    refine drawI ?_
    obtain ⟨v8, h15, h⟩ := bind_some h
    refine PFn.call (f35_ok h15) (And.intro (Vw.same _ rfl) trivial) ?_
    refine And.intro rfl ?_
    obtain ⟨v9, h16, h⟩ := bind_some h
    refine PFn.call (f34_ok h16) (And.intro (Vw.same _ rfl) (And.intro (Vw.same _ rfl) trivial)) ?_
    show yd _ _ _ _ _ [(24, .tup [.str v9.1, .int .i64 v9.2]), (23, .agg [.str ((a0.getD v5.toNat default).f_Name), .str v8, .bool false]), (22, .str v8), (21, .agg [.str ((a0.getD v5.toNat default).f_Name), .int .u32 ((a0.getD v5.toNat default).f_Sum), .isl 1 (((a0.getD v5.toNat default).f_Words).map e_str) false]), (20, .str ((a0.getD v5.toNat default).f_Name)), (19, .ptr (0, 0) 0 0), (18, .str v4), (7, .int .i64 0), (6, .ptr (0, 0) 0 0), (16, .agg [.str ((a0.getD v5.toNat default).f_Name), .int .u32 ((a0.getD v5.toNat default).f_Sum), .isl 1 (((a0.getD v5.toNat default).f_Words).map e_str) false]), (15, .iptr 3 (a0.map e_QIndexEntry) v5.toNat 0), (14, .bool (decide (v5 < ((a0.map e_QIndexEntry).length : Int)))), (4, .str v4), (11, .isl 3 (a0.map e_QIndexEntry) false), (12, .int .i64 ((a0.map e_QIndexEntry).length : Int)), (13, .int .i64 v5)] _ _
    refine LWp.sim (e := [(4, .str v9.1), (7, .int .i64 v9.2), (11, .isl 3 (a0.map e_QIndexEntry) false), (12, .int .i64 ((a0.map e_QIndexEntry).length : Int)), (13, .int .i64 v5)]) (L := []) (n := 0) ?_ ?_
    · exact simI (M := []) rfl (And.intro (Vw.same _ rfl) (And.intro (Vw.same _ rfl) (And.intro (Vw.same _ rfl) (And.intro (Vw.same _ rfl) (And.intro (Vw.same _ rfl) trivial))))) trivial
    refine seqI ?_
    refine regI ?_
    refine condI (v := (v9.2 != 0)) rfl trivial (fun h17 => ?_) (fun h17 => ?_)
    · have h := ite_tt h17 h
      refine seqI ?_
      refine regI ?_
      refine retI ?_
      obtain ⟨o, hq, rfl⟩ := Option.map_eq_some_iff.1 h
      replace h := hq; clear hq
      refine And.intro nofun ?_
      cases h
      exact And.intro trivial (And.intro trivial (And.intro rfl (Vw.same _ rfl)))
    · have h := ite_ff h17 h
      refine skipI ?_
      refine regI ?_
      cases h
      exact And.intro rfl (simI (M := []) rfl (And.intro (Vw.same _ rfl) (And.intro (Vw.same _ rfl) (And.intro (Vw.same _ rfl) (And.intro (Vw.same _ rfl) trivial)))) trivial)
  · have h := ite_ff h13 h
    refine exitI ?_
    obtain ⟨o, hq, rfl⟩ := Option.map_eq_some_iff.1 h
    replace h := hq; clear hq
    refine And.intro nofun ?_
    refine LWp.sim ?_ (f14_j1_ok h)
    exact simI (M := []) rfl (And.intro (Vw.same _ rfl) trivial) trivial

theorem f14_L1_ok {a0 : List G_QIndexEntry} {v4 : List UInt8} {v5 : Int} {m : Option Nat} {o : ((List UInt8) × Int)} (h : S_wordindex_Save_l1 m a0 v4 v5 = some o) :
    LWp Try.prog f14_lay 0 (.loop f14_c1) (QBlock 0 (QSeq Try.prog f14_lay 0 f14_c0 (f14_Q a0 o))) [(4, .str v4), (11, .isl 3 (a0.map e_QIndexEntry) false), (12, .int .i64 ((a0.map e_QIndexEntry).length : Int)), (13, .int .i64 v5)] [] 0 :=
  LWp_loopM (m := m) (s := ((v4, v5) : ((List UInt8) × Int))) (r := o) (fun (s : ((List UInt8) × Int)) => S_wordindex_Save_b1 m a0 s.1 s.2) (f14_L1_env a0) (f14_L1_hp a0) (f14_L1_Q a0) (fun s o h => f14_L1_bok h) h

noncomputable def S_wordindex_Save (m : Option Nat) (a0 : List G_QIndexEntry) : Option ((List UInt8) × Int) :=
  (S_wordindex_valid m a0).bind fun v1 =>
  if (!v1) = true then
    some (([] : List UInt8), 3)
  else
    S_wordindex_Save_l1 m a0 ([] : List UInt8) 0

theorem f14_start {a0 : List G_QIndexEntry} {m : Option Nat} {o : (List UInt8) × Int} (h : S_wordindex_Save m a0 = some o) : LWp Try.prog f14_lay 0 f14_c2 (f14_Q a0 o) (initEnv 0 [.isl 3 (a0.map e_QIndexEntry) false]) [] 0 := by
  unfold S_wordindex_Save at h
  refine seqI ?_
  refine regI ?_
  refine seqI ?_
  refine seqI ?_
  refine regI ?_
  obtain ⟨v1, h1, h⟩ := bind_some h
  refine PFn.call (f33_ok h1) (And.intro (Vw.same _ rfl) trivial) ?_
  refine condI (v := (!v1)) rfl trivial (fun h2 => ?_) (fun h2 => ?_)
  · have h := ite_tt h2 h
    refine seqI ?_
    refine regI ?_
    refine retI ?_
    cases h
    exact And.intro trivial (And.intro trivial (And.intro rfl (Vw.same _ rfl)))
  · have h := ite_ff h2 h
    refine skipI ?_
    refine seqI ?_
    refine regI ?_
    refine seqI ?_
    refine seqI ?_
    refine regI ?_
    refine LWp.sim (e := [(4, .str ([] : List UInt8)), (11, .isl 3 (a0.map e_QIndexEntry) false), (12, .int .i64 ((a0.map e_QIndexEntry).length : Int)), (13, .int .i64 0)]) (L := []) (n := 0) ?_ ?_
    · exact simI (M := []) rfl (And.intro (Vw.same _ rfl) (And.intro (Vw.same _ rfl) (And.intro (Vw.same _ rfl) (And.intro (Vw.same _ rfl) trivial)))) trivial
    refine blockI ?_
    refine LWp.sim ?_ (f14_L1_ok h)
    exact simI (M := []) rfl (And.intro (Vw.same _ rfl) (And.intro (Vw.same _ rfl) (And.intro (Vw.same _ rfl) (And.intro (Vw.same _ rfl) trivial)))) trivial

theorem f14_ok {a0 : List G_QIndexEntry} {m : Option Nat} {o : (List UInt8) × Int} (h : S_wordindex_Save m a0 = some o) : PFn Try.prog 14 [.isl 3 (a0.map e_QIndexEntry) false] (.tup [.str o.1, .int .i64 o.2]) := PFn.ofFnW (L := f14_L) f14_low f14_fok (Nat.le_of_ble_eq_true rfl) rfl (f14_start h)

def f32_c2 : LCode := (.seq (.seq (.region [⟨some 13, .mv (.t 6), none⟩,
   ⟨some 14, .mv (.t 3), none⟩,
   ⟨some 15, .len false (.t 14), none⟩,
   ⟨some 16, .bin .lss (.t 13) (.t 15), none⟩,
   ⟨some 17, .mv (.t 16), none⟩,
   ⟨some 18, .mv (.t 3), some (17, true)⟩,
   ⟨some 19, .mv (.t 6), some (17, true)⟩,
   ⟨some 20, .iaddr 1 (.t 18) (.t 19), some (17, true)⟩,
   ⟨some 21, .load false 1 (.t 20), some (17, true)⟩,
   ⟨some 22, .mv (.t 5), some (17, true)⟩,
   ⟨some 23, .bin .lss (.t 21) (.t 22), some (17, true)⟩,
   ⟨some 24, .pick (.t 17) (.t 23) (.c (.bool false)), none⟩])
 (.cond (.t 24)
  .skip
  (.exit 2)))
 (.block 3
  (.region [⟨some 25, .mv (.t 6), none⟩,
    ⟨some 26, .bin .add (.t 25) (.c (.int .i64 1)), none⟩,
    ⟨some 6, .mv (.t 26), none⟩])))
def f32_c0 : LCode := (.seq (.region [⟨some 27, .mv (.t 6), none⟩,
   ⟨some 28, .mv (.t 3), none⟩,
   ⟨some 29, .len false (.t 28), none⟩,
   ⟨some 30, .bin .eql (.t 27) (.t 29), none⟩,
   ⟨some 31, .mv (.t 30), none⟩,
   ⟨some 32, .mv (.t 3), some (31, false)⟩,
   ⟨some 33, .mv (.t 6), some (31, false)⟩,
   ⟨some 34, .iaddr 1 (.t 32) (.t 33), some (31, false)⟩,
   ⟨some 35, .load false 1 (.t 34), some (31, false)⟩,
   ⟨some 36, .mv (.t 5), some (31, false)⟩,
   ⟨some 37, .bin .neq (.t 35) (.t 36), some (31, false)⟩,
   ⟨some 38, .pick (.t 31) (.c (.bool true)) (.t 37), none⟩])
 (.cond (.t 38)
  (.draw [⟨⟨some 39, .mv (.t 3), none⟩, []⟩,
    ⟨⟨some 40, .mv (.t 6), none⟩, []⟩,
    ⟨⟨some 41, .mv (.t 6), none⟩, []⟩,
    ⟨⟨some 42, .slSl 1 (.t 39) none (some (.t 40)) (some (.t 41)), none⟩, []⟩,
    ⟨⟨some 43, .mv (.t 5), none⟩, []⟩,
    ⟨⟨some 45, .mv (.t 3), none⟩, []⟩,
    ⟨⟨some 46, .mv (.t 6), none⟩, []⟩,
    ⟨⟨some 47, .slSl 1 (.t 45) (some (.t 46)) none none, none⟩, []⟩,
    ⟨⟨some 44, .mkSl true 1 [(.str [])] 1 [(0, (.t 43))], none⟩, []⟩,
    ⟨⟨some 48, .app true 1 16 (.t 44) (.t 47), none⟩, []⟩,
    ⟨⟨some 49, .app true 1 16 (.t 42) (.t 48), none⟩, []⟩,
    ⟨⟨some 3, .mv (.t 49), none⟩, []⟩])
  .skip))
def f32_c1 : LCode := (.region [⟨some 50, .bin .add (.t 9) (.c (.int .i64 1)), none⟩,
   ⟨some 9, .mv (.t 50), none⟩])
def f32_c4 : LCode := (.seq (.region [⟨some 10, .bin .lss (.t 9) (.t 8), none⟩])
 (.seq (.cond (.t 10)
  .skip
  (.exit 0))
 (.seq (.block 1
  (.seq (.region [⟨some 11, .iaddr 1 (.t 7) (.t 9), none⟩,
    ⟨some 12, .load false 1 (.t 11), none⟩,
    ⟨some 5, .mv (.t 12), none⟩])
  (.seq (.region [⟨some 6, .mv (.c (.int .i64 0)), none⟩])
  (.seq (.block 2
   (.loop
    f32_c2))
  f32_c0))))
 f32_c1)))
def f32_c3 : LCode := (.seq (.region [⟨some 51, .mv (.t 3), none⟩,
   ⟨some 2, .mv (.t 51), none⟩])
 .ret)
def f32_c5 : LCode := (.seq (.region [⟨some 2, .mv (.c (.val (.slice none 0 0))), none⟩])
 (.seq (.region [⟨some 3, .mv (.c (.val (.slice none 0 0))), none⟩])
 (.seq (.seq (.region [⟨some 7, .mv (.t 0), none⟩,
   ⟨some 8, .len false (.t 7), none⟩,
   ⟨some 9, .mv (.c (.int .i64 0)), none⟩])
 (.block 0
  (.loop
   f32_c4)))
 f32_c3)))
def f32_lay : Lay := ⟨52, [], false⟩
def f32_res : List LRes := [.t 2]
def f32_L : LFn := ⟨1, f32_lay, f32_c5, f32_res⟩
theorem f32_low : lowFn Try.prog [] 32 = some f32_L := by kernel_rfl
theorem f32_fok : FnOk Try.prog 32 := ⟨_, Try.func32, rfl, rfl⟩
def f32_Q (a0 : List (List UInt8)) (o : (List (List UInt8))) : Exit → Env → AHeap → Nat → Prop := FinK f32_res (PureEnd (.isl 1 (o.map e_str) false))

def f32_L3_env (a0 : List (List UInt8)) (s : ((List (List UInt8)) × Int)) : Env := [(3, .osl (0, 0) 1 (s.1.map e_str)), (7, .isl 1 (a0.map e_str) false), (8, .int .i64 ((a0.map e_str).length : Int)), (9, .int .i64 s.2)]
def f32_L3_hp (a0 : List (List UInt8)) (s : ((List (List UInt8)) × Int)) : AHeap := [((0, 0), .tok)]
def f32_L3_Q (a0 : List (List UInt8)) (o : (List (List UInt8))) : Exit → Env → AHeap → Nat → Prop := (QBlock 0 (QSeq Try.prog f32_lay 0 f32_c3 (f32_Q a0 o)))

def f32_L4_env (a0 : List (List UInt8)) (v3 : List (List UInt8)) (v4 : Int) (s : Int) : Env := [(3, .osl (0, 0) 1 (v3.map e_str)), (5, .str (a0.getD v4.toNat default)), (6, .int .i64 s), (7, .isl 1 (a0.map e_str) false), (8, .int .i64 ((a0.map e_str).length : Int)), (9, .int .i64 v4)]
def f32_L4_hp (a0 : List (List UInt8)) (v3 : List (List UInt8)) (v4 : Int) (s : Int) : AHeap := [((0, 0), .tok)]
def f32_L4_Q (a0 : List (List UInt8)) (o : (((List (List UInt8)) × Int) ⊕ (List (List UInt8)))) : Exit → Env → AHeap → Nat → Prop := (QBlock 2 (QSeq Try.prog f32_lay 0 f32_c0 (QBlock 1 (QSeq Try.prog f32_lay 0 f32_c1 (BodyQ 0 1 (f32_L3_env a0) (f32_L3_hp a0) (f32_L3_Q a0) o)))))

noncomputable def S_glossatorref3_SortStrings_j6 (m : Option Nat) (a0 : List (List UInt8)) (v4 : Int) (v8 : List (List UInt8)) : Option (((List (List UInt8)) × Int) ⊕ (List (List UInt8))) :=
  some (.inl (v8, (W (v4 + 1))))

noncomputable def S_glossatorref3_SortStrings_j5 (m : Option Nat) (a0 : List (List UInt8)) (v3 : List (List UInt8)) (v4 : Int) (v7 : Int) : Option (((List (List UInt8)) × Int) ⊕ (List (List UInt8))) :=
  if (((v7 == ((v3.map e_str).length : Int)) == false) = true → (0 : Int) ≤ v7 ∧ v7 < ((v3.map e_str).length : Int)) then
  if ((v7 == ((v3.map e_str).length : Int)) || (!((v3.getD v7.toNat default) == (a0.getD v4.toNat default)))) = true then
    if (0 : Int) ≤ 0 ∧ 0 ≤ v7 ∧ v7 ≤ v7 ∧ v7 ≤ ((v3.map e_str).length : Int) then
    if (0 : Int) ≤ v7 ∧ v7 ≤ ((v3.map e_str).length : Int) then
    if ((([(a0.getD v4.toNat default)] : List (List UInt8)) ++ (v3.drop v7.toNat)).map e_str).length * 16 ≤ 140737488355328 then
    if (decide (v7 = v7)) = true then
    if (((v3.take v7.toNat) ++ (([(a0.getD v4.toNat default)] : List (List UInt8)) ++ (v3.drop v7.toNat))).map e_str).length * 16 ≤ 140737488355328 then
    S_glossatorref3_SortStrings_j6 m a0 v4 ((v3.take v7.toNat) ++ (([(a0.getD v4.toNat default)] : List (List UInt8)) ++ (v3.drop v7.toNat)))
    else none
    else none
    else none
    else none
    else none
  else
    S_glossatorref3_SortStrings_j6 m a0 v4 v3
  else none

noncomputable def S_glossatorref3_SortStrings_b4 (m : Option Nat) (a0 : List (List UInt8)) (v3 : List (List UInt8)) (v4 : Int) (v7 : Int) : Option (Int ⊕ (((List (List UInt8)) × Int) ⊕ (List (List UInt8)))) :=
  if (((decide (v7 < ((v3.map e_str).length : Int))) == true) = true → (0 : Int) ≤ v7 ∧ v7 < ((v3.map e_str).length : Int)) then
  if ((decide (v7 < ((v3.map e_str).length : Int))) && (Op.bytesLess (v3.getD v7.toNat default) (a0.getD v4.toNat default))) = true then
    some (.inl (W (v7 + 1)))
  else
    Option.map Sum.inr (
      S_glossatorref3_SortStrings_j5 m a0 v3 v4 v7)
  else none

noncomputable def S_glossatorref3_SortStrings_l4 (m : Option Nat) (a0 : List (List UInt8)) (v3 : List (List UInt8)) (v4 : Int) (v7 : Int) : Option (((List (List UInt8)) × Int) ⊕ (List (List UInt8))) := loopM m (fun (s : Int) => S_glossatorref3_SortStrings_b4 m a0 v3 v4 s) v7

theorem f32_j6_ok {a0 : List (List UInt8)} {v4 : Int} {v8 : List (List UInt8)} {m : Option Nat} {o : (((List (List UInt8)) × Int) ⊕ (List (List UInt8)))} (h : S_glossatorref3_SortStrings_j6 m a0 v4 v8 = some o) :
    LWp Try.prog f32_lay 0 f32_c1 (BodyQ 0 1 (f32_L3_env a0) (f32_L3_hp a0) (f32_L3_Q a0) o) [(3, .osl (0, 0) 1 (v8.map e_str)), (7, .isl 1 (a0.map e_str) false), (8, .int .i64 ((a0.map e_str).length : Int)), (9, .int .i64 v4)] [((0, 0), .tok)] 1 := by
  unfold S_glossatorref3_SortStrings_j6 at h
  refine regI ?_
  cases h
  exact And.intro rfl (simI (M := [((0, 0), (0, 0))]) rfl (And.intro (Vw.osl _ _ _ _ rfl) (And.intro (Vw.same _ rfl) (And.intro (Vw.same _ rfl) (And.intro (Vw.same _ rfl) trivial)))) (And.intro (And.intro rfl BVw.tok) trivial))

theorem f32_j5_ok {a0 : List (List UInt8)} {v3 : List (List UInt8)} {v4 : Int} {v7 : Int} {m : Option Nat} {o : (((List (List UInt8)) × Int) ⊕ (List (List UInt8)))} (h : S_glossatorref3_SortStrings_j5 m a0 v3 v4 v7 = some o) :
    LWp Try.prog f32_lay 0 f32_c0 (QBlock 1 (QSeq Try.prog f32_lay 0 f32_c1 (BodyQ 0 1 (f32_L3_env a0) (f32_L3_hp a0) (f32_L3_Q a0) o))) [(3, .osl (0, 0) 1 (v3.map e_str)), (5, .str (a0.getD v4.toNat default)), (6, .int .i64 v7), (7, .isl 1 (a0.map e_str) false), (8, .int .i64 ((a0.map e_str).length : Int)), (9, .int .i64 v4)] [((0, 0), .tok)] 1 := by
  unfold S_glossatorref3_SortStrings_j5 at h
  refine seqI ?_
  refine regI ?_
  obtain ⟨h38, h⟩ := ite_some h
  refine And.intro (fun hp => (And.intro (And.intro hp hp) (h38 hp))) ?_
  show yops _ _ _ [(34, .cnd ((v7 == ((v3.map e_str).length : Int)) == false) (.iptr 1 (v3.map e_str) v7.toNat 0)), (33, .cnd ((v7 == ((v3.map e_str).length : Int)) == false) (.int .i64 v7)), (32, .cnd ((v7 == ((v3.map e_str).length : Int)) == false) (.osl (0, 0) 1 (v3.map e_str))), (31, .bool (v7 == ((v3.map e_str).length : Int))), (30, .bool (v7 == ((v3.map e_str).length : Int))), (29, .int .i64 ((v3.map e_str).length : Int)), (28, .osl (0, 0) 1 (v3.map e_str)), (27, .int .i64 v7), (3, .osl (0, 0) 1 (v3.map e_str)), (5, .str (a0.getD v4.toNat default)), (6, .int .i64 v7), (7, .isl 1 (a0.map e_str) false), (8, .int .i64 ((a0.map e_str).length : Int)), (9, .int .i64 v4)] _ _
  refine Exists.intro (e_str (v3.getD v7.toNat default)) (And.intro (fun hp => And.intro (getD_enc e_str _ _ (idx_ltL e_str (h38 hp))) (And.intro hp (And.intro (idx_lt (h38 hp)) (Nat.le_of_ble_eq_true rfl)))) ?_)
  refine And.intro (fun hp => (And.intro hp hp)) ?_
  refine And.intro (fun hc => (bqf hc)) ?_
  refine LWp.sim (e := [(3, .osl (0, 0) 1 (v3.map e_str)), (5, .str (a0.getD v4.toNat default)), (6, .int .i64 v7), (7, .isl 1 (a0.map e_str) false), (8, .int .i64 ((a0.map e_str).length : Int)), (9, .int .i64 v4), (38, .bool ((v7 == ((v3.map e_str).length : Int)) || (!((v3.getD v7.toNat default) == (a0.getD v4.toNat default)))))]) (L := [((0, 0), .tok)]) (n := 1) ?_ ?_
  · exact simI (M := [((0, 0), (0, 0))]) rfl (And.intro (Vw.osl _ _ _ _ rfl) (And.intro (Vw.same _ rfl) (And.intro (Vw.same _ rfl) (And.intro (Vw.same _ rfl) (And.intro (Vw.same _ rfl) (And.intro (Vw.same _ rfl) (And.intro (Vw.same _ rfl) trivial))))))) (And.intro (And.intro rfl BVw.tok) trivial)
  refine condI (v := ((v7 == ((v3.map e_str).length : Int)) || (!((v3.getD v7.toNat default) == (a0.getD v4.toNat default))))) rfl trivial (fun h39 => ?_) (fun h39 => ?_)
  · have h := ite_tt h39 h
    refine drawO rfl ?_
    obtain ⟨h40, h⟩ := ite_some h
    refine Exists.intro (.isl 1 ((v3.take v7.toNat).map e_str) (decide (v7 = v7))) (And.intro (sl_eq e_str (slB e_str v3 _) rfl) (And.intro (And.intro rfl h40) ?_))
    obtain ⟨h41, h⟩ := ite_some h
    refine Exists.intro (.osl (0, 0) 1 ((v3.drop v7.toNat).map e_str)) (And.intro (osl_enc e_str _ _ _ _) (And.intro (And.intro rfl h41) ?_))
    obtain ⟨h42, h⟩ := ite_some h
    refine Exists.intro ((([(a0.getD v4.toNat default)] : List (List UInt8)) ++ (v3.drop v7.toNat)).map e_str) (And.intro (app_enc e_str ([(a0.getD v4.toNat default)] : List (List UInt8)) (v3.drop v7.toNat)) (And.intro (And.intro rfl h42) ?_))
    obtain ⟨h43, h⟩ := ite_some h
    obtain ⟨h44, h⟩ := ite_some h
    refine Exists.intro (((v3.take v7.toNat) ++ (([(a0.getD v4.toNat default)] : List (List UInt8)) ++ (v3.drop v7.toNat))).map e_str) (And.intro (app_enc e_str (v3.take v7.toNat) (([(a0.getD v4.toNat default)] : List (List UInt8)) ++ (v3.drop v7.toNat))) (And.intro (And.intro h43 h44) ?_))
    refine LWp.sim ?_ (f32_j6_ok h)
    exact simI (M := [((0, 0), (2, 0))]) rfl (And.intro (Vw.osl _ _ _ _ rfl) (And.intro (Vw.same _ rfl) (And.intro (Vw.same _ rfl) (And.intro (Vw.same _ rfl) trivial)))) (And.intro (And.intro rfl BVw.tok) trivial)
  · have h := ite_ff h39 h
    refine skipI ?_
    refine LWp.sim ?_ (f32_j6_ok h)
    exact simI (M := [((0, 0), (0, 0))]) rfl (And.intro (Vw.osl _ _ _ _ rfl) (And.intro (Vw.same _ rfl) (And.intro (Vw.same _ rfl) (And.intro (Vw.same _ rfl) trivial)))) (And.intro (And.intro rfl BVw.tok) trivial)

theorem f32_L4_bok {a0 : List (List UInt8)} {v3 : List (List UInt8)} {v4 : Int} {v7 : Int} {m : Option Nat} {o : Int ⊕ (((List (List UInt8)) × Int) ⊕ (List (List UInt8)))} (h : S_glossatorref3_SortStrings_b4 m a0 v3 v4 v7 = some o) :
    LWp Try.prog f32_lay 0 f32_c2 (BodyQ 0 1 (f32_L4_env a0 v3 v4) (f32_L4_hp a0 v3 v4) (f32_L4_Q a0) o) [(3, .osl (0, 0) 1 (v3.map e_str)), (5, .str (a0.getD v4.toNat default)), (6, .int .i64 v7), (7, .isl 1 (a0.map e_str) false), (8, .int .i64 ((a0.map e_str).length : Int)), (9, .int .i64 v4)] [((0, 0), .tok)] 1 := by
  unfold S_glossatorref3_SortStrings_b4 at h
  refine seqI ?_
  refine seqI ?_
  refine regI ?_
  obtain ⟨h36, h⟩ := ite_some h
  refine And.intro (fun hp => (And.intro (And.intro hp hp) (h36 hp))) ?_
  show yops _ _ _ [(20, .cnd ((decide (v7 < ((v3.map e_str).length : Int))) == true) (.iptr 1 (v3.map e_str) v7.toNat 0)), (19, .cnd ((decide (v7 < ((v3.map e_str).length : Int))) == true) (.int .i64 v7)), (18, .cnd ((decide (v7 < ((v3.map e_str).length : Int))) == true) (.osl (0, 0) 1 (v3.map e_str))), (17, .bool (decide (v7 < ((v3.map e_str).length : Int)))), (16, .bool (decide (v7 < ((v3.map e_str).length : Int)))), (15, .int .i64 ((v3.map e_str).length : Int)), (14, .osl (0, 0) 1 (v3.map e_str)), (13, .int .i64 v7), (3, .osl (0, 0) 1 (v3.map e_str)), (5, .str (a0.getD v4.toNat default)), (6, .int .i64 v7), (7, .isl 1 (a0.map e_str) false), (8, .int .i64 ((a0.map e_str).length : Int)), (9, .int .i64 v4)] _ _
  refine Exists.intro (e_str (v3.getD v7.toNat default)) (And.intro (fun hp => And.intro (getD_enc e_str _ _ (idx_ltL e_str (h36 hp))) (And.intro hp (And.intro (idx_lt (h36 hp)) (Nat.le_of_ble_eq_true rfl)))) ?_)
  refine And.intro (fun hp => (And.intro hp hp)) ?_
  refine And.intro (fun hc => (bqt hc)) ?_
  refine LWp.sim (e := [(3, .osl (0, 0) 1 (v3.map e_str)), (5, .str (a0.getD v4.toNat default)), (6, .int .i64 v7), (7, .isl 1 (a0.map e_str) false), (8, .int .i64 ((a0.map e_str).length : Int)), (9, .int .i64 v4), (24, .bool ((decide (v7 < ((v3.map e_str).length : Int))) && (Op.bytesLess (v3.getD v7.toNat default) (a0.getD v4.toNat default))))]) (L := [((0, 0), .tok)]) (n := 1) ?_ ?_
  · exact simI (M := [((0, 0), (0, 0))]) rfl (And.intro (Vw.osl _ _ _ _ rfl) (And.intro (Vw.same _ rfl) (And.intro (Vw.same _ rfl) (And.intro (Vw.same _ rfl) (And.intro (Vw.same _ rfl) (And.intro (Vw.same _ rfl) (And.intro (Vw.same _ rfl) trivial))))))) (And.intro (And.intro rfl BVw.tok) trivial)
  refine condI (v := ((decide (v7 < ((v3.map e_str).length : Int))) && (Op.bytesLess (v3.getD v7.toNat default) (a0.getD v4.toNat default)))) rfl trivial (fun h37 => ?_) (fun h37 => ?_)
  · have h := ite_tt h37 h
    refine skipI ?_
    refine blockI ?_
    refine regI ?_
    cases h
    exact And.intro rfl (simI (M := [((0, 0), (0, 0))]) rfl (And.intro (Vw.osl _ _ _ _ rfl) (And.intro (Vw.same _ rfl) (And.intro (Vw.same _ rfl) (And.intro (Vw.same _ rfl) (And.intro (Vw.same _ rfl) (And.intro (Vw.same _ rfl) trivial)))))) (And.intro (And.intro rfl BVw.tok) trivial))
  · have h := ite_ff h37 h
    refine exitI ?_
    obtain ⟨o, hq, rfl⟩ := Option.map_eq_some_iff.1 h
    replace h := hq; clear hq
    refine And.intro nofun ?_
    refine LWp.sim ?_ (f32_j5_ok h)
    exact simI (M := [((0, 0), (0, 0))]) rfl (And.intro (Vw.osl _ _ _ _ rfl) (And.intro (Vw.same _ rfl) (And.intro (Vw.same _ rfl) (And.intro (Vw.same _ rfl) (And.intro (Vw.same _ rfl) (And.intro (Vw.same _ rfl) trivial)))))) (And.intro (And.intro rfl BVw.tok) trivial)

theorem f32_L4_ok {a0 : List (List UInt8)} {v3 : List (List UInt8)} {v4 : Int} {v7 : Int} {m : Option Nat} {o : (((List (List UInt8)) × Int) ⊕ (List (List UInt8)))} (h : S_glossatorref3_SortStrings_l4 m a0 v3 v4 v7 = some o) :
    LWp Try.prog f32_lay 0 (.loop f32_c2) (QBlock 2 (QSeq Try.prog f32_lay 0 f32_c0 (QBlock 1 (QSeq Try.prog f32_lay 0 f32_c1 (BodyQ 0 1 (f32_L3_env a0) (f32_L3_hp a0) (f32_L3_Q a0) o))))) [(3, .osl (0, 0) 1 (v3.map e_str)), (5, .str (a0.getD v4.toNat default)), (6, .int .i64 v7), (7, .isl 1 (a0.map e_str) false), (8, .int .i64 ((a0.map e_str).length : Int)), (9, .int .i64 v4)] [((0, 0), .tok)] 1 :=
  LWp_loopM (m := m) (s := (v7 : Int)) (r := o) (fun (s : Int) => S_glossatorref3_SortStrings_b4 m a0 v3 v4 s) (f32_L4_env a0 v3 v4) (f32_L4_hp a0 v3 v4) (f32_L4_Q a0) (fun s o h => f32_L4_bok h) h

noncomputable def S_glossatorref3_SortStrings_j7 (m : Option Nat) (v3 : List (List UInt8)) : Option (List (List UInt8)) :=
  some v3

noncomputable def S_glossatorref3_SortStrings_b3 (m : Option Nat) (a0 : List (List UInt8)) (v3 : List (List UInt8)) (v4 : Int) : Option (((List (List UInt8)) × Int) ⊕ (List (List UInt8))) :=
  if (decide (v4 < ((a0.map e_str).length : Int))) = true then
    if (0 : Int) ≤ v4 ∧ v4 < ((a0.map e_str).length : Int) then
    S_glossatorref3_SortStrings_l4 m a0 v3 v4 0
    else none
  else
    Option.map Sum.inr (
      S_glossatorref3_SortStrings_j7 m v3)

noncomputable def S_glossatorref3_SortStrings_l3 (m : Option Nat) (a0 : List (List UInt8)) (v3 : List (List UInt8)) (v4 : Int) : Option (List (List UInt8)) := loopM m (fun (s : ((List (List UInt8)) × Int)) => S_glossatorref3_SortStrings_b3 m a0 s.1 s.2) (v3, v4)

theorem f32_j7_ok {a0 : List (List UInt8)} {v3 : List (List UInt8)} {m : Option Nat} {o : (List (List UInt8))} (h : S_glossatorref3_SortStrings_j7 m v3 = some o) :
    LWp Try.prog f32_lay 0 f32_c3 (f32_Q a0 o) [(3, .osl (0, 0) 1 (v3.map e_str))] [((0, 0), .tok)] 1 := by
  unfold S_glossatorref3_SortStrings_j7 at h
  refine seqI ?_
  refine regI ?_
  refine retI ?_
  cases h
  exact And.intro trivial (And.intro rfl (Vw.oslI _ _ _))

theorem f32_L3_bok {a0 : List (List UInt8)} {v3 : List (List UInt8)} {v4 : Int} {m : Option Nat} {o : ((List (List UInt8)) × Int) ⊕ (List (List UInt8))} (h : S_glossatorref3_SortStrings_b3 m a0 v3 v4 = some o) :
    LWp Try.prog f32_lay 0 f32_c4 (BodyQ 0 1 (f32_L3_env a0) (f32_L3_hp a0) (f32_L3_Q a0) o) [(3, .osl (0, 0) 1 (v3.map e_str)), (7, .isl 1 (a0.map e_str) false), (8, .int .i64 ((a0.map e_str).length : Int)), (9, .int .i64 v4)] [((0, 0), .tok)] 1 := by
  unfold S_glossatorref3_SortStrings_b3 at h
  refine seqI ?_
  refine regI ?_
  refine seqI ?_
  refine condI (v := (decide (v4 < ((a0.map e_str).length : Int)))) rfl trivial (fun h30 => ?_) (fun h30 => ?_)
  · have h := ite_tt h30 h
    refine skipI ?_
    refine seqI ?_
    refine blockI ?_
    refine seqI ?_
    refine regI ?_
    obtain ⟨h31, h⟩ := ite_some h
    refine And.intro h31 ?_
    refine Exists.intro (e_str (a0.getD v4.toNat default)) (And.intro (getD_enc e_str _ _ (idx_ltL e_str h31)) (And.intro (And.intro (idx_lt h31) (Nat.le_of_ble_eq_true rfl)) ?_))
    refine seqI ?_
    refine regI ?_
    refine seqI ?_
    refine blockI ?_
    refine LWp.sim ?_ (f32_L4_ok h)
    exact simI (M := [((0, 0), (0, 0))]) rfl (And.intro (Vw.osl _ _ _ _ rfl) (And.intro (Vw.same _ rfl) (And.intro (Vw.same _ rfl) (And.intro (Vw.same _ rfl) (And.intro (Vw.same _ rfl) (And.intro (Vw.same _ rfl) trivial)))))) (And.intro (And.intro rfl BVw.tok) trivial)
  · have h := ite_ff h30 h
    refine exitI ?_
    obtain ⟨o, hq, rfl⟩ := Option.map_eq_some_iff.1 h
    replace h := hq; clear hq
    refine And.intro nofun ?_
    refine LWp.sim ?_ (f32_j7_ok h)
    exact simI (M := [((0, 0), (0, 0))]) rfl (And.intro (Vw.osl _ _ _ _ rfl) trivial) (And.intro (And.intro rfl BVw.tok) trivial)

theorem f32_L3_ok {a0 : List (List UInt8)} {v3 : List (List UInt8)} {v4 : Int} {m : Option Nat} {o : (List (List UInt8))} (h : S_glossatorref3_SortStrings_l3 m a0 v3 v4 = some o) :
    LWp Try.prog f32_lay 0 (.loop f32_c4) (QBlock 0 (QSeq Try.prog f32_lay 0 f32_c3 (f32_Q a0 o))) [(3, .osl (0, 0) 1 (v3.map e_str)), (7, .isl 1 (a0.map e_str) false), (8, .int .i64 ((a0.map e_str).length : Int)), (9, .int .i64 v4)] [((0, 0), .tok)] 1 :=
  LWp_loopM (m := m) (s := ((v3, v4) : ((List (List UInt8)) × Int))) (r := o) (fun (s : ((List (List UInt8)) × Int)) => S_glossatorref3_SortStrings_b3 m a0 s.1 s.2) (f32_L3_env a0) (f32_L3_hp a0) (f32_L3_Q a0) (fun s o h => f32_L3_bok h) h

noncomputable def S_glossatorref3_SortStrings (m : Option Nat) (a0 : List (List UInt8)) : Option (List (List UInt8)) :=
  S_glossatorref3_SortStrings_l3 m a0 [] 0

theorem f32_start {a0 : List (List UInt8)} {m : Option Nat} {o : (List (List UInt8))} (h : S_glossatorref3_SortStrings m a0 = some o) : LWp Try.prog f32_lay 0 f32_c5 (f32_Q a0 o) (initEnv 0 [.isl 1 (a0.map e_str) false]) [] 0 := by
  unfold S_glossatorref3_SortStrings at h
  refine seqI ?_
  refine regI ?_
  refine seqI ?_
  refine regI ?_
  refine seqI ?_
  refine seqI ?_
  refine regI ?_
  refine blockI ?_
  refine LWp.sim ?_ (f32_L3_ok h)
  exact simI (M := []) rfl (And.intro (Vw.nilO _ _ (by decide)) (And.intro (Vw.same _ rfl) (And.intro (Vw.same _ rfl) (And.intro (Vw.same _ rfl) trivial)))) (And.intro (And.intro rfl (And.intro (by decide) (by decide))) trivial)

theorem f32_ok {a0 : List (List UInt8)} {m : Option Nat} {o : (List (List UInt8))} (h : S_glossatorref3_SortStrings m a0 = some o) : PFn Try.prog 32 [.isl 1 (a0.map e_str) false] (.isl 1 (o.map e_str) false) := PFn.ofFnW (L := f32_L) f32_low f32_fok (Nat.le_of_ble_eq_true rfl) rfl (f32_start h)

def f31_c0 : LCode := (.seq (.region [⟨some 2, .mv (.c (.bool false)), none⟩])
 (.seq (.region [⟨some 3, .mv (.t 0), none⟩,
   ⟨some 4, .bin .geq (.t 3) (.c (.int .u8 97)), none⟩,
   ⟨some 5, .mv (.t 4), none⟩,
   ⟨some 6, .mv (.t 0), some (5, true)⟩,
   ⟨some 7, .bin .leq (.t 6) (.c (.int .u8 122)), some (5, true)⟩,
   ⟨some 8, .pick (.t 5) (.t 7) (.c (.bool false)), none⟩,
   ⟨some 9, .mv (.t 8), none⟩,
   ⟨some 10, .mv (.t 0), some (9, false)⟩,
   ⟨some 11, .bin .geq (.t 10) (.c (.int .u8 65)), some (9, false)⟩,
   ⟨some 12, .mv (.t 11), some (9, false)⟩,
   ⟨some 13, .mv (.t 0), some (12, true)⟩,
   ⟨some 14, .bin .leq (.t 13) (.c (.int .u8 90)), some (12, true)⟩,
   ⟨some 15, .pick (.t 12) (.t 14) (.c (.bool false)), some (9, false)⟩,
   ⟨some 16, .pick (.t 9) (.c (.bool true)) (.t 15), none⟩,
   ⟨some 17, .mv (.t 16), none⟩,
   ⟨some 18, .mv (.t 0), some (17, false)⟩,
   ⟨some 19, .bin .geq (.t 18) (.c (.int .u8 48)), some (17, false)⟩,
   ⟨some 20, .mv (.t 19), some (17, false)⟩,
   ⟨some 21, .mv (.t 0), some (20, true)⟩,
   ⟨some 22, .bin .leq (.t 21) (.c (.int .u8 57)), some (20, true)⟩,
   ⟨some 23, .pick (.t 20) (.t 22) (.c (.bool false)), some (17, false)⟩,
   ⟨some 24, .pick (.t 17) (.c (.bool true)) (.t 23), none⟩,
   ⟨some 25, .mv (.t 24), none⟩,
   ⟨some 26, .mv (.t 0), some (25, false)⟩,
   ⟨some 27, .bin .eql (.t 26) (.c (.int .u8 95)), some (25, false)⟩,
   ⟨some 28, .pick (.t 25) (.c (.bool true)) (.t 27), none⟩,
   ⟨some 2, .mv (.t 28), none⟩])
 .ret))
def f31_lay : Lay := ⟨29, [], false⟩
def f31_res : List LRes := [.t 2]
def f31_L : LFn := ⟨1, f31_lay, f31_c0, f31_res⟩
theorem f31_low : lowFn Try.prog [] 31 = some f31_L := by kernel_rfl
theorem f31_fok : FnOk Try.prog 31 := ⟨_, Try.func31, rfl, rfl⟩
noncomputable def S_glossatorref3_wordByte (m : Option Nat) (a0 : Int) : Option Bool :=
  some (((((decide (a0 ≥ 97)) && (decide (a0 ≤ 122))) || ((decide (a0 ≥ 65)) && (decide (a0 ≤ 90)))) || ((decide (a0 ≥ 48)) && (decide (a0 ≤ 57)))) || (a0 == 95))

def f31_Q (a0 : Int) (o : Bool) : Exit → Env → AHeap → Nat → Prop := FinK f31_res (PureEnd (.bool o))

theorem f31_start {a0 : Int} {m : Option Nat} {o : Bool} (h : S_glossatorref3_wordByte m a0 = some o) : LWp Try.prog f31_lay 0 f31_c0 (f31_Q a0 o) (initEnv 0 [.int .u8 a0]) [] 0 := by
  unfold S_glossatorref3_wordByte at h
  refine seqI ?_
  refine regI ?_
  refine seqI ?_
  refine regI ?_
  refine And.intro (fun hp => hp) ?_
  show yops _ _ _ [(7, .cnd ((decide (a0 ≥ 97)) == true) (.bool (decide (a0 ≤ 122)))), (6, .cnd ((decide (a0 ≥ 97)) == true) (.int .u8 a0)), (5, .bool (decide (a0 ≥ 97))), (4, .bool (decide (a0 ≥ 97))), (3, .int .u8 a0), (2, .bool false), (0, .int .u8 a0)] _ _
  refine And.intro (fun hc => (bqt hc)) ?_
  refine And.intro (fun hp => hp) ?_
  refine And.intro (fun hp => hp) ?_
  show yops _ _ _ [(12, .cnd (((decide (a0 ≥ 97)) && (decide (a0 ≤ 122))) == false) (.bool (decide (a0 ≥ 65)))), (11, .cnd (((decide (a0 ≥ 97)) && (decide (a0 ≤ 122))) == false) (.bool (decide (a0 ≥ 65)))), (10, .cnd (((decide (a0 ≥ 97)) && (decide (a0 ≤ 122))) == false) (.int .u8 a0)), (9, .bool ((decide (a0 ≥ 97)) && (decide (a0 ≤ 122)))), (8, .bool ((decide (a0 ≥ 97)) && (decide (a0 ≤ 122)))), (7, .cnd ((decide (a0 ≥ 97)) == true) (.bool (decide (a0 ≤ 122)))), (6, .cnd ((decide (a0 ≥ 97)) == true) (.int .u8 a0)), (5, .bool (decide (a0 ≥ 97))), (4, .bool (decide (a0 ≥ 97))), (3, .int .u8 a0), (2, .bool false), (0, .int .u8 a0)] _ _
  refine And.intro (fun hp => hp) ?_
  refine And.intro (fun hp => (And.intro hp (fun hc => (and_i hp (bqt hc))))) ?_
  refine And.intro (fun hc => (bqf hc)) ?_
  refine And.intro (fun hp => hp) ?_
  show yops _ _ _ [(19, .cnd ((((decide (a0 ≥ 97)) && (decide (a0 ≤ 122))) || ((decide (a0 ≥ 65)) && (decide (a0 ≤ 90)))) == false) (.bool (decide (a0 ≥ 48)))), (18, .cnd ((((decide (a0 ≥ 97)) && (decide (a0 ≤ 122))) || ((decide (a0 ≥ 65)) && (decide (a0 ≤ 90)))) == false) (.int .u8 a0)), (17, .bool (((decide (a0 ≥ 97)) && (decide (a0 ≤ 122))) || ((decide (a0 ≥ 65)) && (decide (a0 ≤ 90))))), (16, .bool (((decide (a0 ≥ 97)) && (decide (a0 ≤ 122))) || ((decide (a0 ≥ 65)) && (decide (a0 ≤ 90))))), (15, .cnd (((decide (a0 ≥ 97)) && (decide (a0 ≤ 122))) == false) (.bool ((decide (a0 ≥ 65)) && (decide (a0 ≤ 90))))), (14, .cnd ((((decide (a0 ≥ 97)) && (decide (a0 ≤ 122))) == false) && ((decide (a0 ≥ 65)) == true)) (.bool (decide (a0 ≤ 90)))), (13, .cnd ((((decide (a0 ≥ 97)) && (decide (a0 ≤ 122))) == false) && ((decide (a0 ≥ 65)) == true)) (.int .u8 a0)), (12, .cnd (((decide (a0 ≥ 97)) && (decide (a0 ≤ 122))) == false) (.bool (decide (a0 ≥ 65)))), (11, .cnd (((decide (a0 ≥ 97)) && (decide (a0 ≤ 122))) == false) (.bool (decide (a0 ≥ 65)))), (10, .cnd (((decide (a0 ≥ 97)) && (decide (a0 ≤ 122))) == false) (.int .u8 a0)), (9, .bool ((decide (a0 ≥ 97)) && (decide (a0 ≤ 122)))), (8, .bool ((decide (a0 ≥ 97)) && (decide (a0 ≤ 122)))), (7, .cnd ((decide (a0 ≥ 97)) == true) (.bool (decide (a0 ≤ 122)))), (6, .cnd ((decide (a0 ≥ 97)) == true) (.int .u8 a0)), (5, .bool (decide (a0 ≥ 97))), (4, .bool (decide (a0 ≥ 97))), (3, .int .u8 a0), (2, .bool false), (0, .int .u8 a0)] _ _
  refine And.intro (fun hp => hp) ?_
  refine And.intro (fun hp => hp) ?_
  refine And.intro (fun hp => (And.intro hp (fun hc => (and_i hp (bqt hc))))) ?_
  refine And.intro (fun hc => (bqf hc)) ?_
  show yops _ _ _ [(24, .bool ((((decide (a0 ≥ 97)) && (decide (a0 ≤ 122))) || ((decide (a0 ≥ 65)) && (decide (a0 ≤ 90)))) || ((decide (a0 ≥ 48)) && (decide (a0 ≤ 57))))), (23, .cnd ((((decide (a0 ≥ 97)) && (decide (a0 ≤ 122))) || ((decide (a0 ≥ 65)) && (decide (a0 ≤ 90)))) == false) (.bool ((decide (a0 ≥ 48)) && (decide (a0 ≤ 57))))), (22, .cnd (((((decide (a0 ≥ 97)) && (decide (a0 ≤ 122))) || ((decide (a0 ≥ 65)) && (decide (a0 ≤ 90)))) == false) && ((decide (a0 ≥ 48)) == true)) (.bool (decide (a0 ≤ 57)))), (21, .cnd (((((decide (a0 ≥ 97)) && (decide (a0 ≤ 122))) || ((decide (a0 ≥ 65)) && (decide (a0 ≤ 90)))) == false) && ((decide (a0 ≥ 48)) == true)) (.int .u8 a0)), (20, .cnd ((((decide (a0 ≥ 97)) && (decide (a0 ≤ 122))) || ((decide (a0 ≥ 65)) && (decide (a0 ≤ 90)))) == false) (.bool (decide (a0 ≥ 48)))), (19, .cnd ((((decide (a0 ≥ 97)) && (decide (a0 ≤ 122))) || ((decide (a0 ≥ 65)) && (decide (a0 ≤ 90)))) == false) (.bool (decide (a0 ≥ 48)))), (18, .cnd ((((decide (a0 ≥ 97)) && (decide (a0 ≤ 122))) || ((decide (a0 ≥ 65)) && (decide (a0 ≤ 90)))) == false) (.int .u8 a0)), (17, .bool (((decide (a0 ≥ 97)) && (decide (a0 ≤ 122))) || ((decide (a0 ≥ 65)) && (decide (a0 ≤ 90))))), (16, .bool (((decide (a0 ≥ 97)) && (decide (a0 ≤ 122))) || ((decide (a0 ≥ 65)) && (decide (a0 ≤ 90))))), (15, .cnd (((decide (a0 ≥ 97)) && (decide (a0 ≤ 122))) == false) (.bool ((decide (a0 ≥ 65)) && (decide (a0 ≤ 90))))), (14, .cnd ((((decide (a0 ≥ 97)) && (decide (a0 ≤ 122))) == false) && ((decide (a0 ≥ 65)) == true)) (.bool (decide (a0 ≤ 90)))), (13, .cnd ((((decide (a0 ≥ 97)) && (decide (a0 ≤ 122))) == false) && ((decide (a0 ≥ 65)) == true)) (.int .u8 a0)), (12, .cnd (((decide (a0 ≥ 97)) && (decide (a0 ≤ 122))) == false) (.bool (decide (a0 ≥ 65)))), (11, .cnd (((decide (a0 ≥ 97)) && (decide (a0 ≤ 122))) == false) (.bool (decide (a0 ≥ 65)))), (10, .cnd (((decide (a0 ≥ 97)) && (decide (a0 ≤ 122))) == false) (.int .u8 a0)), (9, .bool ((decide (a0 ≥ 97)) && (decide (a0 ≤ 122)))), (8, .bool ((decide (a0 ≥ 97)) && (decide (a0 ≤ 122)))), (7, .cnd ((decide (a0 ≥ 97)) == true) (.bool (decide (a0 ≤ 122)))), (6, .cnd ((decide (a0 ≥ 97)) == true) (.int .u8 a0)), (5, .bool (decide (a0 ≥ 97))), (4, .bool (decide (a0 ≥ 97))), (3, .int .u8 a0), (2, .bool false), (0, .int .u8 a0)] _ _
  refine And.intro (fun hp => hp) ?_
  refine And.intro (fun hc => (bqf hc)) ?_
  refine LWp.sim (e := [(2, .bool (((((decide (a0 ≥ 97)) && (decide (a0 ≤ 122))) || ((decide (a0 ≥ 65)) && (decide (a0 ≤ 90)))) || ((decide (a0 ≥ 48)) && (decide (a0 ≤ 57)))) || (a0 == 95)))]) (L := []) (n := 0) ?_ ?_
  · exact simI (M := []) rfl (And.intro (Vw.same _ rfl) trivial) trivial
  refine retI ?_
  cases h
  exact And.intro trivial (And.intro rfl (Vw.same _ rfl))

theorem f31_ok {a0 : Int} {m : Option Nat} {o : Bool} (h : S_glossatorref3_wordByte m a0 = some o) : PFn Try.prog 31 [.int .u8 a0] (.bool o) := PFn.ofFnW (L := f31_L) f31_low f31_fok (Nat.le_of_ble_eq_true rfl) rfl (f31_start h)

def f36_c1 : LCode := (.seq (.region [⟨some 36, .bin .lss (.t 35) (.t 34), none⟩])
 (.seq (.cond (.t 36)
  .skip
  (.exit 2))
 (.seq (.block 3
  (.seq (.region [⟨some 37, .mv (.t 35), none⟩,
    ⟨some 7, .mv (.t 37), none⟩])
  (.region [⟨some 38, .mv (.t 4), none⟩,
    ⟨some 39, .mv (.t 38), none⟩,
    ⟨some 40, .mv (.t 6), some (39, true)⟩,
    ⟨some 41, .mv (.t 7), some (39, true)⟩,
    ⟨some 42, .idxS (.t 40) (.t 41), some (39, true)⟩,
    ⟨some 43, .call 31 [(.t 42)], some (39, true)⟩,
    ⟨some 44, .pick (.t 39) (.t 43) (.c (.bool false)), none⟩,
    ⟨some 4, .mv (.t 44), none⟩])))
 (.region [⟨some 45, .bin .add (.t 35) (.c (.int .i64 1)), none⟩,
   ⟨some 35, .mv (.t 45), none⟩]))))
def f36_c0 : LCode := (.region [⟨some 46, .bin .add (.t 19) (.c (.int .i64 1)), none⟩,
   ⟨some 19, .mv (.t 46), none⟩])
def f36_c3 : LCode := (.seq (.region [⟨some 20, .bin .lss (.t 19) (.t 18), none⟩])
 (.seq (.cond (.t 20)
  .skip
  (.exit 0))
 (.seq (.block 1
  (.seq (.region [⟨some 21, .iaddr 1 (.t 17) (.t 19), none⟩,
    ⟨some 22, .load false 1 (.t 21), none⟩,
    ⟨some 6, .mv (.t 22), none⟩])
  (.seq (.region [⟨some 23, .mv (.t 3), none⟩,
    ⟨some 24, .mv (.t 6), none⟩,
    ⟨some 25, .len true (.t 24), none⟩,
    ⟨some 26, .bin .add (.t 25) (.c (.int .i64 1)), none⟩,
    ⟨some 27, .bin .add (.t 23) (.t 26), none⟩,
    ⟨some 3, .mv (.t 27), none⟩])
  (.seq (.region [⟨some 28, .mv (.t 4), none⟩,
    ⟨some 29, .mv (.t 28), none⟩,
    ⟨some 30, .mv (.t 6), some (29, true)⟩,
    ⟨some 31, .bin .neq (.t 30) (.c (.str [])), some (29, true)⟩,
    ⟨some 32, .pick (.t 29) (.t 31) (.c (.bool false)), none⟩,
    ⟨some 4, .mv (.t 32), none⟩])
  (.seq (.region [⟨some 33, .mv (.t 6), none⟩,
    ⟨some 34, .len true (.t 33), none⟩,
    ⟨some 35, .mv (.c (.int .i64 0)), none⟩])
  (.block 2
   (.loop
    f36_c1)))))))
 f36_c0)))
def f36_c2 : LCode := (.seq (.region [⟨some 47, .mv (.t 4), none⟩,
   ⟨some 48, .mv (.t 47), none⟩,
   ⟨some 49, .mv (.t 3), some (48, true)⟩,
   ⟨some 50, .bin .leq (.t 49) (.c (.int .i64 2001)), some (48, true)⟩,
   ⟨some 51, .pick (.t 48) (.t 50) (.c (.bool false)), none⟩,
   ⟨some 2, .mv (.t 51), none⟩])
 .ret)
def f36_c4 : LCode := (.seq (.region [⟨some 2, .mv (.c (.bool false)), none⟩])
 (.seq (.region [⟨some 3, .mv (.c (.int .i64 0)), none⟩])
 (.seq (.region [⟨some 8, .mv (.t 0), none⟩,
   ⟨some 9, .len false (.t 8), none⟩,
   ⟨some 10, .bin .leq (.t 9) (.c (.int .i64 400)), none⟩,
   ⟨some 11, .mv (.t 10), none⟩,
   ⟨some 12, .mv (.t 0), some (11, true)⟩,
   ⟨some 13, .mv (.t 0), some (11, true)⟩,
   ⟨some 14, .call 32 [(.t 13)], some (11, true)⟩,
   ⟨some 15, .call 9 [(.t 12), (.t 14)], some (11, true)⟩,
   ⟨some 16, .pick (.t 11) (.t 15) (.c (.bool false)), none⟩,
   ⟨some 4, .mv (.t 16), none⟩])
 (.seq (.seq (.region [⟨some 17, .mv (.t 0), none⟩,
   ⟨some 18, .len false (.t 17), none⟩,
   ⟨some 19, .mv (.c (.int .i64 0)), none⟩])
 (.block 0
  (.loop
   f36_c3)))
 f36_c2))))
def f36_lay : Lay := ⟨52, [], false⟩
def f36_res : List LRes := [.t 2]
def f36_L : LFn := ⟨1, f36_lay, f36_c4, f36_res⟩
theorem f36_low : lowFn Try.prog [] 36 = some f36_L := by kernel_rfl
theorem f36_fok : FnOk Try.prog 36 := ⟨_, Try.func36, rfl, rfl⟩
def f36_Q (a0 : List (List UInt8)) (o : Bool) : Exit → Env → AHeap → Nat → Prop := FinK f36_res (PureEnd (.bool o))

def f36_L3_env (a0 : List (List UInt8)) (s : (Int × Bool × Int)) : Env := [(3, .int .i64 s.1), (4, .bool s.2.1), (17, .isl 1 (a0.map e_str) false), (18, .int .i64 ((a0.map e_str).length : Int)), (19, .int .i64 s.2.2)]
def f36_L3_hp (a0 : List (List UInt8)) (s : (Int × Bool × Int)) : AHeap := []
def f36_L3_Q (a0 : List (List UInt8)) (o : Bool) : Exit → Env → AHeap → Nat → Prop := (QBlock 0 (QSeq Try.prog f36_lay 0 f36_c2 (f36_Q a0 o)))

def f36_L4_env (a0 : List (List UInt8)) (v8 : Int) (v10 : Int) (s : (Bool × Int)) : Env := [(3, .int .i64 (W (v8 + (W (((a0.getD v10.toNat default).length : Int) + 1))))), (4, .bool s.1), (6, .str (a0.getD v10.toNat default)), (17, .isl 1 (a0.map e_str) false), (18, .int .i64 ((a0.map e_str).length : Int)), (19, .int .i64 v10), (34, .int .i64 ((a0.getD v10.toNat default).length : Int)), (35, .int .i64 s.2)]
def f36_L4_hp (a0 : List (List UInt8)) (v8 : Int) (v10 : Int) (s : (Bool × Int)) : AHeap := []
def f36_L4_Q (a0 : List (List UInt8)) (o : ((Int × Bool × Int) ⊕ Bool)) : Exit → Env → AHeap → Nat → Prop := (QBlock 2 (QBlock 1 (QSeq Try.prog f36_lay 0 f36_c0 (BodyQ 0 0 (f36_L3_env a0) (f36_L3_hp a0) (f36_L3_Q a0) o))))

noncomputable def S_glossatorref3_ValidWords_j3 (m : Option Nat) (a0 : List (List UInt8)) (v8 : Int) (v10 : Int) (v17 : Bool) : Option ((Int × Bool × Int) ⊕ Bool) :=
  some (.inl ((W (v8 + (W (((a0.getD v10.toNat default).length : Int) + 1)))), v17, (W (v10 + 1))))

noncomputable def S_glossatorref3_ValidWords_b4 (m : Option Nat) (a0 : List (List UInt8)) (v8 : Int) (v10 : Int) (v17 : Bool) (v18 : Int) : Option ((Bool × Int) ⊕ ((Int × Bool × Int) ⊕ Bool)) :=
  if (decide (v18 < ((a0.getD v10.toNat default).length : Int))) = true then
    if ((v17 == true) = true → (0 : Int) ≤ v18 ∧ v18 < ((a0.getD v10.toNat default).length : Int)) then
    (if (v17 == true) = true then S_glossatorref3_wordByte m ((((a0.getD v10.toNat default).getD v18.toNat 0).toNat : Nat) : Int) else some default).bind fun v20 =>
    some (.inl ((v17 && v20), (W (v18 + 1))))
    else none
  else
    Option.map Sum.inr (
      S_glossatorref3_ValidWords_j3 m a0 v8 v10 v17)

noncomputable def S_glossatorref3_ValidWords_l4 (m : Option Nat) (a0 : List (List UInt8)) (v8 : Int) (v10 : Int) (v17 : Bool) (v18 : Int) : Option ((Int × Bool × Int) ⊕ Bool) := loopM m (fun (s : (Bool × Int)) => S_glossatorref3_ValidWords_b4 m a0 v8 v10 s.1 s.2) (v17, v18)

theorem f36_j3_ok {a0 : List (List UInt8)} {v8 : Int} {v10 : Int} {v17 : Bool} {m : Option Nat} {o : ((Int × Bool × Int) ⊕ Bool)} (h : S_glossatorref3_ValidWords_j3 m a0 v8 v10 v17 = some o) :
    LWp Try.prog f36_lay 0 f36_c0 (BodyQ 0 0 (f36_L3_env a0) (f36_L3_hp a0) (f36_L3_Q a0) o) [(3, .int .i64 (W (v8 + (W (((a0.getD v10.toNat default).length : Int) + 1))))), (4, .bool v17), (17, .isl 1 (a0.map e_str) false), (18, .int .i64 ((a0.map e_str).length : Int)), (19, .int .i64 v10)] [] 0 := by
  unfold S_glossatorref3_ValidWords_j3 at h
  refine regI ?_
  cases h
  exact And.intro rfl (simI (M := []) rfl (And.intro (Vw.same _ rfl) (And.intro (Vw.same _ rfl) (And.intro (Vw.same _ rfl) (And.intro (Vw.same _ rfl) (And.intro (Vw.same _ rfl) trivial))))) trivial)

theorem f36_L4_bok {a0 : List (List UInt8)} {v8 : Int} {v10 : Int} {v17 : Bool} {v18 : Int} {m : Option Nat} {o : (Bool × Int) ⊕ ((Int × Bool × Int) ⊕ Bool)} (h : S_glossatorref3_ValidWords_b4 m a0 v8 v10 v17 v18 = some o) :
    LWp Try.prog f36_lay 0 f36_c1 (BodyQ 0 0 (f36_L4_env a0 v8 v10) (f36_L4_hp a0 v8 v10) (f36_L4_Q a0) o) [(3, .int .i64 (W (v8 + (W (((a0.getD v10.toNat default).length : Int) + 1))))), (4, .bool v17), (6, .str (a0.getD v10.toNat default)), (17, .isl 1 (a0.map e_str) false), (18, .int .i64 ((a0.map e_str).length : Int)), (19, .int .i64 v10), (34, .int .i64 ((a0.getD v10.toNat default).length : Int)), (35, .int .i64 v18)] [] 0 := by
  unfold S_glossatorref3_ValidWords_b4 at h
  refine seqI ?_
  refine regI ?_
  refine seqI ?_
  refine condI (v := (decide (v18 < ((a0.getD v10.toNat default).length : Int)))) rfl trivial (fun h33 => ?_) (fun h33 => ?_)
  · have h := ite_tt h33 h
    refine skipI ?_
    refine seqI ?_
    refine blockI ?_
    refine seqI ?_
    refine regI ?_
    refine regI ?_
    obtain ⟨h34, h⟩ := ite_some h
    refine And.intro (fun hp => (And.intro (And.intro hp hp) (h34 hp))) ?_
    show yops _ _ _ [(42, .cnd (v17 == true) (.int .u8 ((((a0.getD v10.toNat default).getD v18.toNat 0).toNat : Nat) : Int))), (41, .cnd (v17 == true) (.int .i64 v18)), (40, .cnd (v17 == true) (.str (a0.getD v10.toNat default))), (39, .bool v17), (38, .bool v17), (7, .int .i64 v18), (37, .int .i64 v18), (36, .bool (decide (v18 < ((a0.getD v10.toNat default).length : Int)))), (3, .int .i64 (W (v8 + (W (((a0.getD v10.toNat default).length : Int) + 1))))), (4, .bool v17), (6, .str (a0.getD v10.toNat default)), (17, .isl 1 (a0.map e_str) false), (18, .int .i64 ((a0.map e_str).length : Int)), (19, .int .i64 v10), (34, .int .i64 ((a0.getD v10.toNat default).length : Int)), (35, .int .i64 v18)] _ _
    obtain ⟨v20, h35, h⟩ := bind_some h
    refine Or.inl (Exists.intro (.bool v20) (And.intro (fun hp => And.intro hp (PFn.call (f31_ok (ite_tt hp h35)) (And.intro (Vw.same _ rfl) trivial) (And.intro rfl (And.intro rfl rfl)))) ?_))
    refine And.intro (fun hc => (bqt hc)) ?_
    refine LWp.sim (e := [(3, .int .i64 (W (v8 + (W (((a0.getD v10.toNat default).length : Int) + 1))))), (4, .bool (v17 && v20)), (6, .str (a0.getD v10.toNat default)), (17, .isl 1 (a0.map e_str) false), (18, .int .i64 ((a0.map e_str).length : Int)), (19, .int .i64 v10), (34, .int .i64 ((a0.getD v10.toNat default).length : Int)), (35, .int .i64 v18)]) (L := []) (n := 0) ?_ ?_
    · exact simI (M := []) rfl (And.intro (Vw.same _ rfl) (And.intro (Vw.same _ rfl) (And.intro (Vw.same _ rfl) (And.intro (Vw.same _ rfl) (And.intro (Vw.same _ rfl) (And.intro (Vw.same _ rfl) (And.intro (Vw.same _ rfl) (And.intro (Vw.same _ rfl) trivial)))))))) trivial
    refine regI ?_
    cases h
    exact And.intro rfl (simI (M := []) rfl (And.intro (Vw.same _ rfl) (And.intro (Vw.same _ rfl) (And.intro (Vw.same _ rfl) (And.intro (Vw.same _ rfl) (And.intro (Vw.same _ rfl) (And.intro (Vw.same _ rfl) (And.intro (Vw.same _ rfl) (And.intro (Vw.same _ rfl) trivial)))))))) trivial)
  · have h := ite_ff h33 h
    refine exitI ?_
    obtain ⟨o, hq, rfl⟩ := Option.map_eq_some_iff.1 h
    replace h := hq; clear hq
    refine And.intro nofun ?_
    refine LWp.sim ?_ (f36_j3_ok h)
    exact simI (M := []) rfl (And.intro (Vw.same _ rfl) (And.intro (Vw.same _ rfl) (And.intro (Vw.same _ rfl) (And.intro (Vw.same _ rfl) (And.intro (Vw.same _ rfl) trivial))))) trivial

theorem f36_L4_ok {a0 : List (List UInt8)} {v8 : Int} {v10 : Int} {v17 : Bool} {v18 : Int} {m : Option Nat} {o : ((Int × Bool × Int) ⊕ Bool)} (h : S_glossatorref3_ValidWords_l4 m a0 v8 v10 v17 v18 = some o) :
    LWp Try.prog f36_lay 0 (.loop f36_c1) (QBlock 2 (QBlock 1 (QSeq Try.prog f36_lay 0 f36_c0 (BodyQ 0 0 (f36_L3_env a0) (f36_L3_hp a0) (f36_L3_Q a0) o)))) [(3, .int .i64 (W (v8 + (W (((a0.getD v10.toNat default).length : Int) + 1))))), (4, .bool v17), (6, .str (a0.getD v10.toNat default)), (17, .isl 1 (a0.map e_str) false), (18, .int .i64 ((a0.map e_str).length : Int)), (19, .int .i64 v10), (34, .int .i64 ((a0.getD v10.toNat default).length : Int)), (35, .int .i64 v18)] [] 0 :=
  LWp_loopM (m := m) (s := ((v17, v18) : (Bool × Int))) (r := o) (fun (s : (Bool × Int)) => S_glossatorref3_ValidWords_b4 m a0 v8 v10 s.1 s.2) (f36_L4_env a0 v8 v10) (f36_L4_hp a0 v8 v10) (f36_L4_Q a0) (fun s o h => f36_L4_bok h) h

noncomputable def S_glossatorref3_ValidWords_j4 (m : Option Nat) (v8 : Int) (v9 : Bool) : Option Bool :=
  some (v9 && (decide (v8 ≤ 2001)))

noncomputable def S_glossatorref3_ValidWords_b3 (m : Option Nat) (a0 : List (List UInt8)) (v8 : Int) (v9 : Bool) (v10 : Int) : Option ((Int × Bool × Int) ⊕ Bool) :=
  if (decide (v10 < ((a0.map e_str).length : Int))) = true then
    if (0 : Int) ≤ v10 ∧ v10 < ((a0.map e_str).length : Int) then
    S_glossatorref3_ValidWords_l4 m a0 v8 v10 (v9 && (!((a0.getD v10.toNat default) == ([] : List UInt8)))) 0
    else none
  else
    Option.map Sum.inr (
      S_glossatorref3_ValidWords_j4 m v8 v9)

noncomputable def S_glossatorref3_ValidWords_l3 (m : Option Nat) (a0 : List (List UInt8)) (v8 : Int) (v9 : Bool) (v10 : Int) : Option Bool := loopM m (fun (s : (Int × Bool × Int)) => S_glossatorref3_ValidWords_b3 m a0 s.1 s.2.1 s.2.2) (v8, v9, v10)

theorem f36_j4_ok {a0 : List (List UInt8)} {v8 : Int} {v9 : Bool} {m : Option Nat} {o : Bool} (h : S_glossatorref3_ValidWords_j4 m v8 v9 = some o) :
    LWp Try.prog f36_lay 0 f36_c2 (f36_Q a0 o) [(3, .int .i64 v8), (4, .bool v9)] [] 0 := by
  unfold S_glossatorref3_ValidWords_j4 at h
  refine seqI ?_
  refine regI ?_
  refine And.intro (fun hp => hp) ?_
  refine And.intro (fun hc => (bqt hc)) ?_
  show yops _ _ _ [(51, .bool (v9 && (decide (v8 ≤ 2001)))), (50, .cnd (v9 == true) (.bool (decide (v8 ≤ 2001)))), (49, .cnd (v9 == true) (.int .i64 v8)), (48, .bool v9), (47, .bool v9), (3, .int .i64 v8), (4, .bool v9)] _ _
  refine retI ?_
  cases h
  exact And.intro trivial (And.intro rfl (Vw.same _ rfl))

theorem f36_L3_bok {a0 : List (List UInt8)} {v8 : Int} {v9 : Bool} {v10 : Int} {m : Option Nat} {o : (Int × Bool × Int) ⊕ Bool} (h : S_glossatorref3_ValidWords_b3 m a0 v8 v9 v10 = some o) :
    LWp Try.prog f36_lay 0 f36_c3 (BodyQ 0 0 (f36_L3_env a0) (f36_L3_hp a0) (f36_L3_Q a0) o) [(3, .int .i64 v8), (4, .bool v9), (17, .isl 1 (a0.map e_str) false), (18, .int .i64 ((a0.map e_str).length : Int)), (19, .int .i64 v10)] [] 0 := by
  unfold S_glossatorref3_ValidWords_b3 at h
  refine seqI ?_
  refine regI ?_
  refine seqI ?_
  refine condI (v := (decide (v10 < ((a0.map e_str).length : Int)))) rfl trivial (fun h25 => ?_) (fun h25 => ?_)
  · have h := ite_tt h25 h
    refine skipI ?_
    refine seqI ?_
    refine blockI ?_
    refine seqI ?_
    refine regI ?_
    obtain ⟨h26, h⟩ := ite_some h
    refine And.intro h26 ?_
    refine Exists.intro (e_str (a0.getD v10.toNat default)) (And.intro (getD_enc e_str _ _ (idx_ltL e_str h26)) (And.intro (And.intro (idx_lt h26) (Nat.le_of_ble_eq_true rfl)) ?_))
    refine seqI ?_
    refine regI ?_
    refine LWp.sim (e := [(3, .int .i64 (W (v8 + (W (((a0.getD v10.toNat default).length : Int) + 1))))), (4, .bool v9), (6, .str (a0.getD v10.toNat default)), (17, .isl 1 (a0.map e_str) false), (18, .int .i64 ((a0.map e_str).length : Int)), (19, .int .i64 v10)]) (L := []) (n := 0) ?_ ?_
    · exact simI (M := []) rfl (And.intro (Vw.same _ rfl) (And.intro (Vw.same _ rfl) (And.intro (Vw.same _ rfl) (And.intro (Vw.same _ rfl) (And.intro (Vw.same _ rfl) (And.intro (Vw.same _ rfl) trivial)))))) trivial
    refine seqI ?_
    refine regI ?_
    refine And.intro (fun hp => hp) ?_
    refine And.intro (fun hc => (bqt hc)) ?_
    show yops _ _ _ [(32, .bool (v9 && (!((a0.getD v10.toNat default) == ([] : List UInt8))))), (31, .cnd (v9 == true) (.bool (!((a0.getD v10.toNat default) == ([] : List UInt8))))), (30, .cnd (v9 == true) (.str (a0.getD v10.toNat default))), (29, .bool v9), (28, .bool v9), (3, .int .i64 (W (v8 + (W (((a0.getD v10.toNat default).length : Int) + 1))))), (4, .bool v9), (6, .str (a0.getD v10.toNat default)), (17, .isl 1 (a0.map e_str) false), (18, .int .i64 ((a0.map e_str).length : Int)), (19, .int .i64 v10)] _ _
    refine seqI ?_
    refine regI ?_
    refine LWp.sim (e := [(3, .int .i64 (W (v8 + (W (((a0.getD v10.toNat default).length : Int) + 1))))), (4, .bool (v9 && (!((a0.getD v10.toNat default) == ([] : List UInt8))))), (6, .str (a0.getD v10.toNat default)), (17, .isl 1 (a0.map e_str) false), (18, .int .i64 ((a0.map e_str).length : Int)), (19, .int .i64 v10), (34, .int .i64 ((a0.getD v10.toNat default).length : Int)), (35, .int .i64 0)]) (L := []) (n := 0) ?_ ?_
    · exact simI (M := []) rfl (And.intro (Vw.same _ rfl) (And.intro (Vw.same _ rfl) (And.intro (Vw.same _ rfl) (And.intro (Vw.same _ rfl) (And.intro (Vw.same _ rfl) (And.intro (Vw.same _ rfl) (And.intro (Vw.same _ rfl) (And.intro (Vw.same _ rfl) trivial)))))))) trivial
    refine blockI ?_
    refine LWp.sim ?_ (f36_L4_ok h)
    exact simI (M := []) rfl (And.intro (Vw.same _ rfl) (And.intro (Vw.same _ rfl) (And.intro (Vw.same _ rfl) (And.intro (Vw.same _ rfl) (And.intro (Vw.same _ rfl) (And.intro (Vw.same _ rfl) (And.intro (Vw.same _ rfl) (And.intro (Vw.same _ rfl) trivial)))))))) trivial
  · have h := ite_ff h25 h
    refine exitI ?_
    obtain ⟨o, hq, rfl⟩ := Option.map_eq_some_iff.1 h
    replace h := hq; clear hq
    refine And.intro nofun ?_
    refine LWp.sim ?_ (f36_j4_ok h)
    exact simI (M := []) rfl (And.intro (Vw.same _ rfl) (And.intro (Vw.same _ rfl) trivial)) trivial

theorem f36_L3_ok {a0 : List (List UInt8)} {v8 : Int} {v9 : Bool} {v10 : Int} {m : Option Nat} {o : Bool} (h : S_glossatorref3_ValidWords_l3 m a0 v8 v9 v10 = some o) :
    LWp Try.prog f36_lay 0 (.loop f36_c3) (QBlock 0 (QSeq Try.prog f36_lay 0 f36_c2 (f36_Q a0 o))) [(3, .int .i64 v8), (4, .bool v9), (17, .isl 1 (a0.map e_str) false), (18, .int .i64 ((a0.map e_str).length : Int)), (19, .int .i64 v10)] [] 0 :=
  LWp_loopM (m := m) (s := ((v8, v9, v10) : (Int × Bool × Int))) (r := o) (fun (s : (Int × Bool × Int)) => S_glossatorref3_ValidWords_b3 m a0 s.1 s.2.1 s.2.2) (f36_L3_env a0) (f36_L3_hp a0) (f36_L3_Q a0) (fun s o h => f36_L3_bok h) h

noncomputable def S_glossatorref3_ValidWords (m : Option Nat) (a0 : List (List UInt8)) : Option Bool :=
  (if ((decide (((a0.map e_str).length : Int) ≤ 400)) == true) = true then S_glossatorref3_SortStrings m a0 else some default).bind fun v1 =>
  (if ((decide (((a0.map e_str).length : Int) ≤ 400)) == true) = true then S_glossatorref3_Equal_string m a0 v1 else some default).bind fun v2 =>
  S_glossatorref3_ValidWords_l3 m a0 0 ((decide (((a0.map e_str).length : Int) ≤ 400)) && v2) 0

theorem f36_start {a0 : List (List UInt8)} {m : Option Nat} {o : Bool} (h : S_glossatorref3_ValidWords m a0 = some o) : LWp Try.prog f36_lay 0 f36_c4 (f36_Q a0 o) (initEnv 0 [.isl 1 (a0.map e_str) false]) [] 0 := by
  unfold S_glossatorref3_ValidWords at h
  refine seqI ?_
  refine regI ?_
  refine seqI ?_
  refine regI ?_
  refine seqI ?_
  refine regI ?_
  obtain ⟨v1, h1, h⟩ := bind_some h
  refine Or.inl (Exists.intro (.isl 1 (v1.map e_str) false) (And.intro (fun hp => And.intro hp (PFn.call (f32_ok (ite_tt hp h1)) (And.intro (Vw.same _ rfl) trivial) (And.intro rfl (And.intro rfl rfl)))) ?_))
  obtain ⟨v2, h2, h⟩ := bind_some h
  refine Or.inl (Exists.intro (.bool v2) (And.intro (fun hp => And.intro (And.intro hp hp) (PFn.call (f9_ok (ite_tt hp h2)) (And.intro (Vw.same _ rfl) (And.intro (Vw.same _ rfl) trivial)) (And.intro rfl (And.intro rfl rfl)))) ?_))
  refine And.intro (fun hc => (bqt hc)) ?_
  show yops _ _ _ [(16, .bool ((decide (((a0.map e_str).length : Int) ≤ 400)) && v2)), (15, .cnd ((decide (((a0.map e_str).length : Int) ≤ 400)) == true) (.bool v2)), (14, .cnd ((decide (((a0.map e_str).length : Int) ≤ 400)) == true) (.isl 1 (v1.map e_str) false)), (13, .cnd ((decide (((a0.map e_str).length : Int) ≤ 400)) == true) (.isl 1 (a0.map e_str) false)), (12, .cnd ((decide (((a0.map e_str).length : Int) ≤ 400)) == true) (.isl 1 (a0.map e_str) false)), (11, .bool (decide (((a0.map e_str).length : Int) ≤ 400))), (10, .bool (decide (((a0.map e_str).length : Int) ≤ 400))), (9, .int .i64 ((a0.map e_str).length : Int)), (8, .isl 1 (a0.map e_str) false), (3, .int .i64 0), (2, .bool false), (0, .isl 1 (a0.map e_str) false)] _ _
  refine LWp.sim (e := [(0, .isl 1 (a0.map e_str) false), (3, .int .i64 0), (4, .bool ((decide (((a0.map e_str).length : Int) ≤ 400)) && v2))]) (L := []) (n := 0) ?_ ?_
  · exact simI (M := []) rfl (And.intro (Vw.same _ rfl) (And.intro (Vw.same _ rfl) (And.intro (Vw.same _ rfl) trivial))) trivial
  refine seqI ?_
  refine seqI ?_
  refine regI ?_
  refine blockI ?_
  refine LWp.sim ?_ (f36_L3_ok h)
  exact simI (M := []) rfl (And.intro (Vw.same _ rfl) (And.intro (Vw.same _ rfl) (And.intro (Vw.same _ rfl) (And.intro (Vw.same _ rfl) (And.intro (Vw.same _ rfl) trivial))))) trivial

theorem f36_ok {a0 : List (List UInt8)} {m : Option Nat} {o : Bool} (h : S_glossatorref3_ValidWords m a0 = some o) : PFn Try.prog 36 [.isl 1 (a0.map e_str) false] (.bool o) := PFn.ofFnW (L := f36_L) f36_low f36_fok (Nat.le_of_ble_eq_true rfl) rfl (f36_start h)

def f15_c1 : LCode := (.seq (.region [⟨some 12, .bin .lss (.t 11) (.t 10), none⟩])
 (.seq (.cond (.t 12)
  .skip
  (.exit 0))
 (.seq (.block 1
  (.seq (.region [⟨some 13, .mv (.t 11), none⟩,
    ⟨some 14, .iaddr 3 (.t 9) (.t 11), none⟩,
    ⟨some 15, .load true 3 (.t 14), none⟩,
    ⟨some 5, .alloc [(.str []), (.int .u32 0), (.isl 1 [] true)], none⟩,
    ⟨some 4, .mv (.t 13), none⟩,
    ⟨none, .store 3 (.t 5) (.t 15), none⟩])
  (.draw [⟨⟨some 16, .mv (.t 3), none⟩, []⟩,
    ⟨⟨some 17, .mv (.t 16), none⟩, []⟩,
    ⟨⟨some 18, .faddr 0 (.t 5), some (17, true)⟩, []⟩,
    ⟨⟨some 19, .load false 1 (.t 18), some (17, true)⟩, []⟩,
    ⟨⟨some 20, .bin .neq (.t 19) (.c (.str [])), some (17, true)⟩, []⟩,
    ⟨⟨some 21, .pick (.t 17) (.t 20) (.c (.bool false)), none⟩, []⟩,
    ⟨⟨some 22, .mv (.t 21), none⟩, []⟩,
    ⟨⟨some 23, .faddr 0 (.t 5), some (22, true)⟩, []⟩,
    ⟨⟨some 24, .load false 1 (.t 23), some (22, true)⟩, []⟩,
    ⟨⟨some 25, .len true (.t 24), some (22, true)⟩, []⟩,
    ⟨⟨some 26, .bin .leq (.t 25) (.c (.int .i64 60)), some (22, true)⟩, []⟩,
    ⟨⟨some 27, .pick (.t 22) (.t 26) (.c (.bool false)), none⟩, []⟩,
    ⟨⟨some 28, .mv (.t 27), none⟩, []⟩,
    ⟨⟨some 29, .mv (.t 4), some (28, true)⟩, []⟩,
    ⟨⟨some 30, .bin .eql (.t 29) (.c (.int .i64 0)), some (28, true)⟩, []⟩,
    ⟨⟨some 31, .mv (.t 30), some (28, true)⟩, []⟩,
    ⟨⟨some 32, .mv (.t 0), some (31, false)⟩, []⟩,
    ⟨⟨some 33, .mv (.t 4), some (31, false)⟩, []⟩,
    ⟨⟨some 34, .bin .sub (.t 33) (.c (.int .i64 1)), some (31, false)⟩, []⟩,
    ⟨⟨some 35, .iaddr 3 (.t 32) (.t 34), some (31, false)⟩, []⟩,
    ⟨⟨some 36, .faddr 0 (.t 35), some (31, false)⟩, []⟩,
    ⟨⟨some 37, .load false 1 (.t 36), some (31, false)⟩, []⟩,
    ⟨⟨some 38, .faddr 0 (.t 5), some (31, false)⟩, []⟩,
    ⟨⟨some 39, .load false 1 (.t 38), some (31, false)⟩, []⟩,
    ⟨⟨some 40, .bin .lss (.t 37) (.t 39), some (31, false)⟩, []⟩,
    ⟨⟨some 41, .pick (.t 31) (.c (.bool true)) (.t 40), some (28, true)⟩, []⟩,
    ⟨⟨some 42, .pick (.t 28) (.t 41) (.c (.bool false)), none⟩, []⟩,
    ⟨⟨some 43, .mv (.t 42), none⟩, []⟩,
    ⟨⟨some 44, .faddr 2 (.t 5), some (43, true)⟩, []⟩,
    ⟨⟨some 45, .load false 1 (.t 44), some (43, true)⟩, []⟩,
    ⟨⟨some 46, .call 36 [(.t 45)], some (43, true)⟩, []⟩,
    ⟨⟨some 47, .pick (.t 43) (.t 46) (.c (.bool false)), none⟩, []⟩,
    ⟨⟨some 3, .mv (.t 47), none⟩, []⟩])))
 (.region [⟨some 48, .bin .add (.t 11) (.c (.int .i64 1)), none⟩,
   ⟨some 11, .mv (.t 48), none⟩]))))
def f15_c0 : LCode := (.seq (.region [⟨some 49, .mv (.t 3), none⟩,
   ⟨some 2, .mv (.t 49), none⟩])
 .ret)
def f15_c2 : LCode := (.seq (.region [⟨some 2, .mv (.c (.bool false)), none⟩])
 (.seq (.region [⟨some 6, .mv (.t 0), none⟩,
   ⟨some 7, .len false (.t 6), none⟩,
   ⟨some 8, .bin .leq (.t 7) (.c (.int .i64 20)), none⟩,
   ⟨some 3, .mv (.t 8), none⟩])
 (.seq (.seq (.region [⟨some 9, .mv (.t 0), none⟩,
   ⟨some 10, .len false (.t 9), none⟩,
   ⟨some 11, .mv (.c (.int .i64 0)), none⟩])
 (.block 0
  (.loop
   f15_c1)))
 f15_c0)))
def f15_lay : Lay := ⟨50, [], false⟩
def f15_res : List LRes := [.t 2]
def f15_L : LFn := ⟨1, f15_lay, f15_c2, f15_res⟩
theorem f15_low : lowFn Try.prog [] 15 = some f15_L := by kernel_rfl
theorem f15_fok : FnOk Try.prog 15 := ⟨_, Try.func15, rfl, rfl⟩
def f15_Q (a0 : List G_QIndexEntry) (o : Bool) : Exit → Env → AHeap → Nat → Prop := FinK f15_res (PureEnd (.bool o))

def f15_L1_env (a0 : List G_QIndexEntry) (s : (Bool × Int)) : Env := [(0, .isl 3 (a0.map e_QIndexEntry) false), (3, .bool s.1), (9, .isl 3 (a0.map e_QIndexEntry) false), (10, .int .i64 ((a0.map e_QIndexEntry).length : Int)), (11, .int .i64 s.2)]
def f15_L1_hp (a0 : List G_QIndexEntry) (s : (Bool × Int)) : AHeap := []
def f15_L1_Q (a0 : List G_QIndexEntry) (o : Bool) : Exit → Env → AHeap → Nat → Prop := (QBlock 0 (QSeq Try.prog f15_lay 0 f15_c0 (f15_Q a0 o)))

noncomputable def S_glossatorref3_ValidIndex_j1 (m : Option Nat) (v2 : Bool) : Option Bool :=
  some v2

noncomputable def S_glossatorref3_ValidIndex_b1 (m : Option Nat) (a0 : List G_QIndexEntry) (v2 : Bool) (v3 : Int) : Option ((Bool × Int) ⊕ Bool) :=
  if (decide (v3 < ((a0.map e_QIndexEntry).length : Int))) = true then
    if (0 : Int) ≤ v3 ∧ v3 < ((a0.map e_QIndexEntry).length : Int) then
    if (((((v2 && (!((a0.getD v3.toNat default).f_Name == ([] : List UInt8)))) && (decide ((((a0.getD v3.toNat default).f_Name).length : Int) ≤ 60))) == true) && ((v3 == 0) == false)) = true → (0 : Int) ≤ (W (v3 - 1)) ∧ (W (v3 - 1)) < ((a0.map e_QIndexEntry).length : Int)) then
    (if ((((v2 && (!((a0.getD v3.toNat default).f_Name == ([] : List UInt8)))) && (decide ((((a0.getD v3.toNat default).f_Name).length : Int) ≤ 60))) && ((v3 == 0) || (Op.bytesLess ((a0.getD ((W (v3 - 1)).toNat) default).f_Name) ((a0.getD v3.toNat default).f_Name)))) == true) = true then S_glossatorref3_ValidWords m ((a0.getD v3.toNat default).f_Words) else some default).bind fun v5 =>
    some (.inl (((((v2 && (!((a0.getD v3.toNat default).f_Name == ([] : List UInt8)))) && (decide ((((a0.getD v3.toNat default).f_Name).length : Int) ≤ 60))) && ((v3 == 0) || (Op.bytesLess ((a0.getD ((W (v3 - 1)).toNat) default).f_Name) ((a0.getD v3.toNat default).f_Name)))) && v5), (W (v3 + 1))))
    else none
    else none
  else
    Option.map Sum.inr (
      S_glossatorref3_ValidIndex_j1 m v2)

noncomputable def S_glossatorref3_ValidIndex_l1 (m : Option Nat) (a0 : List G_QIndexEntry) (v2 : Bool) (v3 : Int) : Option Bool := loopM m (fun (s : (Bool × Int)) => S_glossatorref3_ValidIndex_b1 m a0 s.1 s.2) (v2, v3)

theorem f15_j1_ok {a0 : List G_QIndexEntry} {v2 : Bool} {m : Option Nat} {o : Bool} (h : S_glossatorref3_ValidIndex_j1 m v2 = some o) :
    LWp Try.prog f15_lay 0 f15_c0 (f15_Q a0 o) [(3, .bool v2)] [] 0 := by
  unfold S_glossatorref3_ValidIndex_j1 at h
  refine seqI ?_
  refine regI ?_
  refine retI ?_
  cases h
  exact And.intro trivial (And.intro rfl (Vw.same _ rfl))

theorem f15_L1_bok {a0 : List G_QIndexEntry} {v2 : Bool} {v3 : Int} {m : Option Nat} {o : (Bool × Int) ⊕ Bool} (h : S_glossatorref3_ValidIndex_b1 m a0 v2 v3 = some o) :
    LWp Try.prog f15_lay 0 f15_c1 (BodyQ 0 0 (f15_L1_env a0) (f15_L1_hp a0) (f15_L1_Q a0) o) [(0, .isl 3 (a0.map e_QIndexEntry) false), (3, .bool v2), (9, .isl 3 (a0.map e_QIndexEntry) false), (10, .int .i64 ((a0.map e_QIndexEntry).length : Int)), (11, .int .i64 v3)] [] 0 := by
  unfold S_glossatorref3_ValidIndex_b1 at h
  refine seqI ?_
  refine regI ?_
  refine seqI ?_
  refine condI (v := (decide (v3 < ((a0.map e_QIndexEntry).length : Int)))) rfl trivial (fun h9 => ?_) (fun h9 => ?_)
  · have h := ite_tt h9 h
    refine skipI ?_
    refine seqI ?_
    refine blockI ?_
    refine seqI ?_
    refine regI ?_
    obtain ⟨h10, h⟩ := ite_some h
    refine And.intro h10 ?_
    refine Exists.intro (e_QIndexEntry (a0.getD v3.toNat default)) (And.intro (getD_enc e_QIndexEntry _ _ (idx_ltL e_QIndexEntry h10)) (And.intro (And.intro (idx_lt h10) (Nat.le_of_ble_eq_true rfl)) ?_))
    refine drawO rfl ?_
    refine And.intro (fun hp => hp) ?_
    show yops _ _ _ [(19, .cnd (v2 == true) (.str ((a0.getD v3.toNat default).f_Name))), (18, .cnd (v2 == true) (.ptr (0, 0) 0 0)), (17, .bool v2), (16, .bool v2), (4, .int .i64 v3), (5, .ptr (0, 0) 0 0), (15, .agg [.str ((a0.getD v3.toNat default).f_Name), .int .u32 ((a0.getD v3.toNat default).f_Sum), .isl 1 (((a0.getD v3.toNat default).f_Words).map e_str) false]), (14, .iptr 3 (a0.map e_QIndexEntry) v3.toNat 0), (13, .int .i64 v3), (12, .bool (decide (v3 < ((a0.map e_QIndexEntry).length : Int)))), (0, .isl 3 (a0.map e_QIndexEntry) false), (3, .bool v2), (9, .isl 3 (a0.map e_QIndexEntry) false), (10, .int .i64 ((a0.map e_QIndexEntry).length : Int)), (11, .int .i64 v3)] _ _
    refine And.intro (fun hp => hp) ?_
    refine And.intro (fun hc => (bqt hc)) ?_
    refine And.intro (fun hp => hp) ?_
    show yops _ _ _ [(24, .cnd ((v2 && (!((a0.getD v3.toNat default).f_Name == ([] : List UInt8)))) == true) (.str ((a0.getD v3.toNat default).f_Name))), (23, .cnd ((v2 && (!((a0.getD v3.toNat default).f_Name == ([] : List UInt8)))) == true) (.ptr (0, 0) 0 0)), (22, .bool (v2 && (!((a0.getD v3.toNat default).f_Name == ([] : List UInt8))))), (21, .bool (v2 && (!((a0.getD v3.toNat default).f_Name == ([] : List UInt8))))), (20, .cnd (v2 == true) (.bool (!((a0.getD v3.toNat default).f_Name == ([] : List UInt8))))), (19, .cnd (v2 == true) (.str ((a0.getD v3.toNat default).f_Name))), (18, .cnd (v2 == true) (.ptr (0, 0) 0 0)), (17, .bool v2), (16, .bool v2), (4, .int .i64 v3), (5, .ptr (0, 0) 0 0), (15, .agg [.str ((a0.getD v3.toNat default).f_Name), .int .u32 ((a0.getD v3.toNat default).f_Sum), .isl 1 (((a0.getD v3.toNat default).f_Words).map e_str) false]), (14, .iptr 3 (a0.map e_QIndexEntry) v3.toNat 0), (13, .int .i64 v3), (12, .bool (decide (v3 < ((a0.map e_QIndexEntry).length : Int)))), (0, .isl 3 (a0.map e_QIndexEntry) false), (3, .bool v2), (9, .isl 3 (a0.map e_QIndexEntry) false), (10, .int .i64 ((a0.map e_QIndexEntry).length : Int)), (11, .int .i64 v3)] _ _
    refine And.intro (fun hp => hp) ?_
    refine And.intro (fun hp => hp) ?_
    refine And.intro (fun hc => (bqt hc)) ?_
    refine And.intro (fun hp => hp) ?_
    show yops _ _ _ [(30, .cnd (((v2 && (!((a0.getD v3.toNat default).f_Name == ([] : List UInt8)))) && (decide ((((a0.getD v3.toNat default).f_Name).length : Int) ≤ 60))) == true) (.bool (v3 == 0))), (29, .cnd (((v2 && (!((a0.getD v3.toNat default).f_Name == ([] : List UInt8)))) && (decide ((((a0.getD v3.toNat default).f_Name).length : Int) ≤ 60))) == true) (.int .i64 v3)), (28, .bool ((v2 && (!((a0.getD v3.toNat default).f_Name == ([] : List UInt8)))) && (decide ((((a0.getD v3.toNat default).f_Name).length : Int) ≤ 60)))), (27, .bool ((v2 && (!((a0.getD v3.toNat default).f_Name == ([] : List UInt8)))) && (decide ((((a0.getD v3.toNat default).f_Name).length : Int) ≤ 60)))), (26, .cnd ((v2 && (!((a0.getD v3.toNat default).f_Name == ([] : List UInt8)))) == true) (.bool (decide ((((a0.getD v3.toNat default).f_Name).length : Int) ≤ 60)))), (25, .cnd ((v2 && (!((a0.getD v3.toNat default).f_Name == ([] : List UInt8)))) == true) (.int .i64 (((a0.getD v3.toNat default).f_Name).length : Int))), (24, .cnd ((v2 && (!((a0.getD v3.toNat default).f_Name == ([] : List UInt8)))) == true) (.str ((a0.getD v3.toNat default).f_Name))), (23, .cnd ((v2 && (!((a0.getD v3.toNat default).f_Name == ([] : List UInt8)))) == true) (.ptr (0, 0) 0 0)), (22, .bool (v2 && (!((a0.getD v3.toNat default).f_Name == ([] : List UInt8))))), (21, .bool (v2 && (!((a0.getD v3.toNat default).f_Name == ([] : List UInt8))))), (20, .cnd (v2 == true) (.bool (!((a0.getD v3.toNat default).f_Name == ([] : List UInt8))))), (19, .cnd (v2 == true) (.str ((a0.getD v3.toNat default).f_Name))), (18, .cnd (v2 == true) (.ptr (0, 0) 0 0)), (17, .bool v2), (16, .bool v2), (4, .int .i64 v3), (5, .ptr (0, 0) 0 0), (15, .agg [.str ((a0.getD v3.toNat default).f_Name), .int .u32 ((a0.getD v3.toNat default).f_Sum), .isl 1 (((a0.getD v3.toNat default).f_Words).map e_str) false]), (14, .iptr 3 (a0.map e_QIndexEntry) v3.toNat 0), (13, .int .i64 v3), (12, .bool (decide (v3 < ((a0.map e_QIndexEntry).length : Int)))), (0, .isl 3 (a0.map e_QIndexEntry) false), (3, .bool v2), (9, .isl 3 (a0.map e_QIndexEntry) false), (10, .int .i64 ((a0.map e_QIndexEntry).length : Int)), (11, .int .i64 v3)] _ _
    refine And.intro (fun hp => hp) ?_
    refine And.intro (fun hp => hp) ?_
    obtain ⟨h11, h⟩ := ite_some h
    refine And.intro (fun hp => (And.intro (And.intro hp hp) (h11 hp))) ?_
    show yops _ _ _ [(35, .cnd ((((v2 && (!((a0.getD v3.toNat default).f_Name == ([] : List UInt8)))) && (decide ((((a0.getD v3.toNat default).f_Name).length : Int) ≤ 60))) == true) && ((v3 == 0) == false)) (.iptr 3 (a0.map e_QIndexEntry) ((W (v3 - 1)).toNat) 0)), (34, .cnd ((((v2 && (!((a0.getD v3.toNat default).f_Name == ([] : List UInt8)))) && (decide ((((a0.getD v3.toNat default).f_Name).length : Int) ≤ 60))) == true) && ((v3 == 0) == false)) (.int .i64 (W (v3 - 1)))), (33, .cnd ((((v2 && (!((a0.getD v3.toNat default).f_Name == ([] : List UInt8)))) && (decide ((((a0.getD v3.toNat default).f_Name).length : Int) ≤ 60))) == true) && ((v3 == 0) == false)) (.int .i64 v3)), (32, .cnd ((((v2 && (!((a0.getD v3.toNat default).f_Name == ([] : List UInt8)))) && (decide ((((a0.getD v3.toNat default).f_Name).length : Int) ≤ 60))) == true) && ((v3 == 0) == false)) (.isl 3 (a0.map e_QIndexEntry) false)), (31, .cnd (((v2 && (!((a0.getD v3.toNat default).f_Name == ([] : List UInt8)))) && (decide ((((a0.getD v3.toNat default).f_Name).length : Int) ≤ 60))) == true) (.bool (v3 == 0))), (30, .cnd (((v2 && (!((a0.getD v3.toNat default).f_Name == ([] : List UInt8)))) && (decide ((((a0.getD v3.toNat default).f_Name).length : Int) ≤ 60))) == true) (.bool (v3 == 0))), (29, .cnd (((v2 && (!((a0.getD v3.toNat default).f_Name == ([] : List UInt8)))) && (decide ((((a0.getD v3.toNat default).f_Name).length : Int) ≤ 60))) == true) (.int .i64 v3)), (28, .bool ((v2 && (!((a0.getD v3.toNat default).f_Name == ([] : List UInt8)))) && (decide ((((a0.getD v3.toNat default).f_Name).length : Int) ≤ 60)))), (27, .bool ((v2 && (!((a0.getD v3.toNat default).f_Name == ([] : List UInt8)))) && (decide ((((a0.getD v3.toNat default).f_Name).length : Int) ≤ 60)))), (26, .cnd ((v2 && (!((a0.getD v3.toNat default).f_Name == ([] : List UInt8)))) == true) (.bool (decide ((((a0.getD v3.toNat default).f_Name).length : Int) ≤ 60)))), (25, .cnd ((v2 && (!((a0.getD v3.toNat default).f_Name == ([] : List UInt8)))) == true) (.int .i64 (((a0.getD v3.toNat default).f_Name).length : Int))), (24, .cnd ((v2 && (!((a0.getD v3.toNat default).f_Name == ([] : List UInt8)))) == true) (.str ((a0.getD v3.toNat default).f_Name))), (23, .cnd ((v2 && (!((a0.getD v3.toNat default).f_Name == ([] : List UInt8)))) == true) (.ptr (0, 0) 0 0)), (22, .bool (v2 && (!((a0.getD v3.toNat default).f_Name == ([] : List UInt8))))), (21, .bool (v2 && (!((a0.getD v3.toNat default).f_Name == ([] : List UInt8))))), (20, .cnd (v2 == true) (.bool (!((a0.getD v3.toNat default).f_Name == ([] : List UInt8))))), (19, .cnd (v2 == true) (.str ((a0.getD v3.toNat default).f_Name))), (18, .cnd (v2 == true) (.ptr (0, 0) 0 0)), (17, .bool v2), (16, .bool v2), (4, .int .i64 v3), (5, .ptr (0, 0) 0 0), (15, .agg [.str ((a0.getD v3.toNat default).f_Name), .int .u32 ((a0.getD v3.toNat default).f_Sum), .isl 1 (((a0.getD v3.toNat default).f_Words).map e_str) false]), (14, .iptr 3 (a0.map e_QIndexEntry) v3.toNat 0), (13, .int .i64 v3), (12, .bool (decide (v3 < ((a0.map e_QIndexEntry).length : Int)))), (0, .isl 3 (a0.map e_QIndexEntry) false), (3, .bool v2), (9, .isl 3 (a0.map e_QIndexEntry) false), (10, .int .i64 ((a0.map e_QIndexEntry).length : Int)), (11, .int .i64 v3)] _ _
    refine And.intro (fun hp => hp) ?_
    refine Exists.intro (e_QIndexEntry (a0.getD ((W (v3 - 1)).toNat) default)) (And.intro (fun hp => And.intro (getD_enc e_QIndexEntry _ _ (idx_ltL e_QIndexEntry (h11 hp))) (And.intro hp (And.intro (idx_lt (h11 hp)) (Nat.le_of_ble_eq_true rfl)))) ?_)
    refine And.intro (fun hp => hp) ?_
    refine And.intro (fun hp => (And.intro hp hp)) ?_
    show yops _ _ _ [(40, .cnd ((((v2 && (!((a0.getD v3.toNat default).f_Name == ([] : List UInt8)))) && (decide ((((a0.getD v3.toNat default).f_Name).length : Int) ≤ 60))) == true) && ((v3 == 0) == false)) (.bool (Op.bytesLess ((a0.getD ((W (v3 - 1)).toNat) default).f_Name) ((a0.getD v3.toNat default).f_Name)))), (39, .cnd ((((v2 && (!((a0.getD v3.toNat default).f_Name == ([] : List UInt8)))) && (decide ((((a0.getD v3.toNat default).f_Name).length : Int) ≤ 60))) == true) && ((v3 == 0) == false)) (.str ((a0.getD v3.toNat default).f_Name))), (38, .cnd ((((v2 && (!((a0.getD v3.toNat default).f_Name == ([] : List UInt8)))) && (decide ((((a0.getD v3.toNat default).f_Name).length : Int) ≤ 60))) == true) && ((v3 == 0) == false)) (.ptr (0, 0) 0 0)), (37, .cnd ((((v2 && (!((a0.getD v3.toNat default).f_Name == ([] : List UInt8)))) && (decide ((((a0.getD v3.toNat default).f_Name).length : Int) ≤ 60))) == true) && ((v3 == 0) == false)) (.str ((a0.getD ((W (v3 - 1)).toNat) default).f_Name))), (36, .cnd ((((v2 && (!((a0.getD v3.toNat default).f_Name == ([] : List UInt8)))) && (decide ((((a0.getD v3.toNat default).f_Name).length : Int) ≤ 60))) == true) && ((v3 == 0) == false)) (.iptr 3 (a0.map e_QIndexEntry) ((W (v3 - 1)).toNat) 0)), (35, .cnd ((((v2 && (!((a0.getD v3.toNat default).f_Name == ([] : List UInt8)))) && (decide ((((a0.getD v3.toNat default).f_Name).length : Int) ≤ 60))) == true) && ((v3 == 0) == false)) (.iptr 3 (a0.map e_QIndexEntry) ((W (v3 - 1)).toNat) 0)), (34, .cnd ((((v2 && (!((a0.getD v3.toNat default).f_Name == ([] : List UInt8)))) && (decide ((((a0.getD v3.toNat default).f_Name).length : Int) ≤ 60))) == true) && ((v3 == 0) == false)) (.int .i64 (W (v3 - 1)))), (33, .cnd ((((v2 && (!((a0.getD v3.toNat default).f_Name == ([] : List UInt8)))) && (decide ((((a0.getD v3.toNat default).f_Name).length : Int) ≤ 60))) == true) && ((v3 == 0) == false)) (.int .i64 v3)), (32, .cnd ((((v2 && (!((a0.getD v3.toNat default).f_Name == ([] : List UInt8)))) && (decide ((((a0.getD v3.toNat default).f_Name).length : Int) ≤ 60))) == true) && ((v3 == 0) == false)) (.isl 3 (a0.map e_QIndexEntry) false)), (31, .cnd (((v2 && (!((a0.getD v3.toNat default).f_Name == ([] : List UInt8)))) && (decide ((((a0.getD v3.toNat default).f_Name).length : Int) ≤ 60))) == true) (.bool (v3 == 0))), (30, .cnd (((v2 && (!((a0.getD v3.toNat default).f_Name == ([] : List UInt8)))) && (decide ((((a0.getD v3.toNat default).f_Name).length : Int) ≤ 60))) == true) (.bool (v3 == 0))), (29, .cnd (((v2 && (!((a0.getD v3.toNat default).f_Name == ([] : List UInt8)))) && (decide ((((a0.getD v3.toNat default).f_Name).length : Int) ≤ 60))) == true) (.int .i64 v3)), (28, .bool ((v2 && (!((a0.getD v3.toNat default).f_Name == ([] : List UInt8)))) && (decide ((((a0.getD v3.toNat default).f_Name).length : Int) ≤ 60)))), (27, .bool ((v2 && (!((a0.getD v3.toNat default).f_Name == ([] : List UInt8)))) && (decide ((((a0.getD v3.toNat default).f_Name).length : Int) ≤ 60)))), (26, .cnd ((v2 && (!((a0.getD v3.toNat default).f_Name == ([] : List UInt8)))) == true) (.bool (decide ((((a0.getD v3.toNat default).f_Name).length : Int) ≤ 60)))), (25, .cnd ((v2 && (!((a0.getD v3.toNat default).f_Name == ([] : List UInt8)))) == true) (.int .i64 (((a0.getD v3.toNat default).f_Name).length : Int))), (24, .cnd ((v2 && (!((a0.getD v3.toNat default).f_Name == ([] : List UInt8)))) == true) (.str ((a0.getD v3.toNat default).f_Name))), (23, .cnd ((v2 && (!((a0.getD v3.toNat default).f_Name == ([] : List UInt8)))) == true) (.ptr (0, 0) 0 0)), (22, .bool (v2 && (!((a0.getD v3.toNat default).f_Name == ([] : List UInt8))))), (21, .bool (v2 && (!((a0.getD v3.toNat default).f_Name == ([] : List UInt8))))), (20, .cnd (v2 == true) (.bool (!((a0.getD v3.toNat default).f_Name == ([] : List UInt8))))), (19, .cnd (v2 == true) (.str ((a0.getD v3.toNat default).f_Name))), (18, .cnd (v2 == true) (.ptr (0, 0) 0 0)), (17, .bool v2), (16, .bool v2), (4, .int .i64 v3), (5, .ptr (0, 0) 0 0), (15, .agg [.str ((a0.getD v3.toNat default).f_Name), .int .u32 ((a0.getD v3.toNat default).f_Sum), .isl 1 (((a0.getD v3.toNat default).f_Words).map e_str) false]), (14, .iptr 3 (a0.map e_QIndexEntry) v3.toNat 0), (13, .int .i64 v3), (12, .bool (decide (v3 < ((a0.map e_QIndexEntry).length : Int)))), (0, .isl 3 (a0.map e_QIndexEntry) false), (3, .bool v2), (9, .isl 3 (a0.map e_QIndexEntry) false), (10, .int .i64 ((a0.map e_QIndexEntry).length : Int)), (11, .int .i64 v3)] _ _
    refine And.intro (fun hp => (And.intro hp (fun hc => (and_i hp (bqf hc))))) ?_
    refine And.intro (fun hc => (bqt hc)) ?_
    refine And.intro (fun hp => hp) ?_
    show yops _ _ _ [(45, .cnd ((((v2 && (!((a0.getD v3.toNat default).f_Name == ([] : List UInt8)))) && (decide ((((a0.getD v3.toNat default).f_Name).length : Int) ≤ 60))) && ((v3 == 0) || (Op.bytesLess ((a0.getD ((W (v3 - 1)).toNat) default).f_Name) ((a0.getD v3.toNat default).f_Name)))) == true) (.isl 1 (((a0.getD v3.toNat default).f_Words).map e_str) false)), (44, .cnd ((((v2 && (!((a0.getD v3.toNat default).f_Name == ([] : List UInt8)))) && (decide ((((a0.getD v3.toNat default).f_Name).length : Int) ≤ 60))) && ((v3 == 0) || (Op.bytesLess ((a0.getD ((W (v3 - 1)).toNat) default).f_Name) ((a0.getD v3.toNat default).f_Name)))) == true) (.ptr (0, 0) 0 2)), (43, .bool (((v2 && (!((a0.getD v3.toNat default).f_Name == ([] : List UInt8)))) && (decide ((((a0.getD v3.toNat default).f_Name).length : Int) ≤ 60))) && ((v3 == 0) || (Op.bytesLess ((a0.getD ((W (v3 - 1)).toNat) default).f_Name) ((a0.getD v3.toNat default).f_Name))))), (42, .bool (((v2 && (!((a0.getD v3.toNat default).f_Name == ([] : List UInt8)))) && (decide ((((a0.getD v3.toNat default).f_Name).length : Int) ≤ 60))) && ((v3 == 0) || (Op.bytesLess ((a0.getD ((W (v3 - 1)).toNat) default).f_Name) ((a0.getD v3.toNat default).f_Name))))), (41, .cnd (((v2 && (!((a0.getD v3.toNat default).f_Name == ([] : List UInt8)))) && (decide ((((a0.getD v3.toNat default).f_Name).length : Int) ≤ 60))) == true) (.bool ((v3 == 0) || (Op.bytesLess ((a0.getD ((W (v3 - 1)).toNat) default).f_Name) ((a0.getD v3.toNat default).f_Name))))), (40, .cnd ((((v2 && (!((a0.getD v3.toNat default).f_Name == ([] : List UInt8)))) && (decide ((((a0.getD v3.toNat default).f_Name).length : Int) ≤ 60))) == true) && ((v3 == 0) == false)) (.bool (Op.bytesLess ((a0.getD ((W (v3 - 1)).toNat) default).f_Name) ((a0.getD v3.toNat default).f_Name)))), (39, .cnd ((((v2 && (!((a0.getD v3.toNat default).f_Name == ([] : List UInt8)))) && (decide ((((a0.getD v3.toNat default).f_Name).length : Int) ≤ 60))) == true) && ((v3 == 0) == false)) (.str ((a0.getD v3.toNat default).f_Name))), (38, .cnd ((((v2 && (!((a0.getD v3.toNat default).f_Name == ([] : List UInt8)))) && (decide ((((a0.getD v3.toNat default).f_Name).length : Int) ≤ 60))) == true) && ((v3 == 0) == false)) (.ptr (0, 0) 0 0)), (37, .cnd ((((v2 && (!((a0.getD v3.toNat default).f_Name == ([] : List UInt8)))) && (decide ((((a0.getD v3.toNat default).f_Name).length : Int) ≤ 60))) == true) && ((v3 == 0) == false)) (.str ((a0.getD ((W (v3 - 1)).toNat) default).f_Name))), (36, .cnd ((((v2 && (!((a0.getD v3.toNat default).f_Name == ([] : List UInt8)))) && (decide ((((a0.getD v3.toNat default).f_Name).length : Int) ≤ 60))) == true) && ((v3 == 0) == false)) (.iptr 3 (a0.map e_QIndexEntry) ((W (v3 - 1)).toNat) 0)), (35, .cnd ((((v2 && (!((a0.getD v3.toNat default).f_Name == ([] : List UInt8)))) && (decide ((((a0.getD v3.toNat default).f_Name).length : Int) ≤ 60))) == true) && ((v3 == 0) == false)) (.iptr 3 (a0.map e_QIndexEntry) ((W (v3 - 1)).toNat) 0)), (34, .cnd ((((v2 && (!((a0.getD v3.toNat default).f_Name == ([] : List UInt8)))) && (decide ((((a0.getD v3.toNat default).f_Name).length : Int) ≤ 60))) == true) && ((v3 == 0) == false)) (.int .i64 (W (v3 - 1)))), (33, .cnd ((((v2 && (!((a0.getD v3.toNat default).f_Name == ([] : List UInt8)))) && (decide ((((a0.getD v3.toNat default).f_Name).length : Int) ≤ 60))) == true) && ((v3 == 0) == false)) (.int .i64 v3)), (32, .cnd ((((v2 && (!((a0.getD v3.toNat default).f_Name == ([] : List UInt8)))) && (decide ((((a0.getD v3.toNat default).f_Name).length : Int) ≤ 60))) == true) && ((v3 == 0) == false)) (.isl 3 (a0.map e_QIndexEntry) false)), (31, .cnd (((v2 && (!((a0.getD v3.toNat default).f_Name == ([] : List UInt8)))) && (decide ((((a0.getD v3.toNat default).f_Name).length : Int) ≤ 60))) == true) (.bool (v3 == 0))), (30, .cnd (((v2 && (!((a0.getD v3.toNat default).f_Name == ([] : List UInt8)))) && (decide ((((a0.getD v3.toNat default).f_Name).length : Int) ≤ 60))) == true) (.bool (v3 == 0))), (29, .cnd (((v2 && (!((a0.getD v3.toNat default).f_Name == ([] : List UInt8)))) && (decide ((((a0.getD v3.toNat default).f_Name).length : Int) ≤ 60))) == true) (.int .i64 v3)), (28, .bool ((v2 && (!((a0.getD v3.toNat default).f_Name == ([] : List UInt8)))) && (decide ((((a0.getD v3.toNat default).f_Name).length : Int) ≤ 60)))), (27, .bool ((v2 && (!((a0.getD v3.toNat default).f_Name == ([] : List UInt8)))) && (decide ((((a0.getD v3.toNat default).f_Name).length : Int) ≤ 60)))), (26, .cnd ((v2 && (!((a0.getD v3.toNat default).f_Name == ([] : List UInt8)))) == true) (.bool (decide ((((a0.getD v3.toNat default).f_Name).length : Int) ≤ 60)))), (25, .cnd ((v2 && (!((a0.getD v3.toNat default).f_Name == ([] : List UInt8)))) == true) (.int .i64 (((a0.getD v3.toNat default).f_Name).length : Int))), (24, .cnd ((v2 && (!((a0.getD v3.toNat default).f_Name == ([] : List UInt8)))) == true) (.str ((a0.getD v3.toNat default).f_Name))), (23, .cnd ((v2 && (!((a0.getD v3.toNat default).f_Name == ([] : List UInt8)))) == true) (.ptr (0, 0) 0 0)), (22, .bool (v2 && (!((a0.getD v3.toNat default).f_Name == ([] : List UInt8))))), (21, .bool (v2 && (!((a0.getD v3.toNat default).f_Name == ([] : List UInt8))))), (20, .cnd (v2 == true) (.bool (!((a0.getD v3.toNat default).f_Name == ([] : List UInt8))))), (19, .cnd (v2 == true) (.str ((a0.getD v3.toNat default).f_Name))), (18, .cnd (v2 == true) (.ptr (0, 0) 0 0)), (17, .bool v2), (16, .bool v2), (4, .int .i64 v3), (5, .ptr (0, 0) 0 0), (15, .agg [.str ((a0.getD v3.toNat default).f_Name), .int .u32 ((a0.getD v3.toNat default).f_Sum), .isl 1 (((a0.getD v3.toNat default).f_Words).map e_str) false]), (14, .iptr 3 (a0.map e_QIndexEntry) v3.toNat 0), (13, .int .i64 v3), (12, .bool (decide (v3 < ((a0.map e_QIndexEntry).length : Int)))), (0, .isl 3 (a0.map e_QIndexEntry) false), (3, .bool v2), (9, .isl 3 (a0.map e_QIndexEntry) false), (10, .int .i64 ((a0.map e_QIndexEntry).length : Int)), (11, .int .i64 v3)] _ _
    obtain ⟨v5, h12, h⟩ := bind_some h
    refine Or.inl (Exists.intro (.bool v5) (And.intro (fun hp => And.intro hp (PFn.call (f36_ok (ite_tt hp h12)) (And.intro (Vw.same _ rfl) trivial) (And.intro rfl (And.intro rfl rfl)))) ?_))
    refine And.intro (fun hc => (bqt hc)) ?_
    refine LWp.sim (e := [(0, .isl 3 (a0.map e_QIndexEntry) false), (3, .bool ((((v2 && (!((a0.getD v3.toNat default).f_Name == ([] : List UInt8)))) && (decide ((((a0.getD v3.toNat default).f_Name).length : Int) ≤ 60))) && ((v3 == 0) || (Op.bytesLess ((a0.getD ((W (v3 - 1)).toNat) default).f_Name) ((a0.getD v3.toNat default).f_Name)))) && v5)), (9, .isl 3 (a0.map e_QIndexEntry) false), (10, .int .i64 ((a0.map e_QIndexEntry).length : Int)), (11, .int .i64 v3)]) (L := []) (n := 0) ?_ ?_
    · exact simI (M := []) rfl (And.intro (Vw.same _ rfl) (And.intro (Vw.same _ rfl) (And.intro (Vw.same _ rfl) (And.intro (Vw.same _ rfl) (And.intro (Vw.same _ rfl) trivial))))) trivial
    refine regI ?_
    cases h
    exact And.intro rfl (simI (M := []) rfl (And.intro (Vw.same _ rfl) (And.intro (Vw.same _ rfl) (And.intro (Vw.same _ rfl) (And.intro (Vw.same _ rfl) (And.intro (Vw.same _ rfl) trivial))))) trivial)
  · have h := ite_ff h9 h
    refine exitI ?_
    obtain ⟨o, hq, rfl⟩ := Option.map_eq_some_iff.1 h
    replace h := hq; clear hq
    refine And.intro nofun ?_
    refine LWp.sim ?_ (f15_j1_ok h)
    exact simI (M := []) rfl (And.intro (Vw.same _ rfl) trivial) trivial

theorem f15_L1_ok {a0 : List G_QIndexEntry} {v2 : Bool} {v3 : Int} {m : Option Nat} {o : Bool} (h : S_glossatorref3_ValidIndex_l1 m a0 v2 v3 = some o) :
    LWp Try.prog f15_lay 0 (.loop f15_c1) (QBlock 0 (QSeq Try.prog f15_lay 0 f15_c0 (f15_Q a0 o))) [(0, .isl 3 (a0.map e_QIndexEntry) false), (3, .bool v2), (9, .isl 3 (a0.map e_QIndexEntry) false), (10, .int .i64 ((a0.map e_QIndexEntry).length : Int)), (11, .int .i64 v3)] [] 0 :=
  LWp_loopM (m := m) (s := ((v2, v3) : (Bool × Int))) (r := o) (fun (s : (Bool × Int)) => S_glossatorref3_ValidIndex_b1 m a0 s.1 s.2) (f15_L1_env a0) (f15_L1_hp a0) (f15_L1_Q a0) (fun s o h => f15_L1_bok h) h

noncomputable def S_glossatorref3_ValidIndex (m : Option Nat) (a0 : List G_QIndexEntry) : Option Bool :=
  S_glossatorref3_ValidIndex_l1 m a0 (decide (((a0.map e_QIndexEntry).length : Int) ≤ 20)) 0

theorem f15_start {a0 : List G_QIndexEntry} {m : Option Nat} {o : Bool} (h : S_glossatorref3_ValidIndex m a0 = some o) : LWp Try.prog f15_lay 0 f15_c2 (f15_Q a0 o) (initEnv 0 [.isl 3 (a0.map e_QIndexEntry) false]) [] 0 := by
  unfold S_glossatorref3_ValidIndex at h
  refine seqI ?_
  refine regI ?_
  refine seqI ?_
  refine regI ?_
  refine seqI ?_
  refine seqI ?_
  refine regI ?_
  refine LWp.sim (e := [(0, .isl 3 (a0.map e_QIndexEntry) false), (3, .bool (decide (((a0.map e_QIndexEntry).length : Int) ≤ 20))), (9, .isl 3 (a0.map e_QIndexEntry) false), (10, .int .i64 ((a0.map e_QIndexEntry).length : Int)), (11, .int .i64 0)]) (L := []) (n := 0) ?_ ?_
  · exact simI (M := []) rfl (And.intro (Vw.same _ rfl) (And.intro (Vw.same _ rfl) (And.intro (Vw.same _ rfl) (And.intro (Vw.same _ rfl) (And.intro (Vw.same _ rfl) trivial))))) trivial
  refine blockI ?_
  refine LWp.sim ?_ (f15_L1_ok h)
  exact simI (M := []) rfl (And.intro (Vw.same _ rfl) (And.intro (Vw.same _ rfl) (And.intro (Vw.same _ rfl) (And.intro (Vw.same _ rfl) (And.intro (Vw.same _ rfl) trivial))))) trivial

theorem f15_ok {a0 : List G_QIndexEntry} {m : Option Nat} {o : Bool} (h : S_glossatorref3_ValidIndex m a0 = some o) : PFn Try.prog 15 [.isl 3 (a0.map e_QIndexEntry) false] (.bool o) := PFn.ofFnW (L := f15_L) f15_low f15_fok (Nat.le_of_ble_eq_true rfl) rfl (f15_start h)

def f39_c0 : LCode := (.seq (.region [⟨some 2, .mv (.c (.str [])), none⟩])
 (.seq (.region [⟨some 3, .mv (.t 0), none⟩,
   ⟨some 4, .bin .rem (.t 3) (.c (.int .u32 16)), none⟩,
   ⟨some 5, .mv (.t 0), none⟩,
   ⟨some 6, .bin .rem (.t 5) (.c (.int .u32 16)), none⟩,
   ⟨some 7, .bin .add (.t 6) (.c (.int .u32 1)), none⟩,
   ⟨some 8, .slStr (.c (.str [48, 49, 50, 51, 52, 53, 54, 55, 56, 57, 97, 98, 99, 100, 101, 102])) (some (.t 4)) (some (.t 7)), none⟩,
   ⟨some 2, .mv (.t 8), none⟩])
 .ret))
def f39_lay : Lay := ⟨9, [], false⟩
def f39_res : List LRes := [.t 2]
def f39_L : LFn := ⟨1, f39_lay, f39_c0, f39_res⟩
theorem f39_low : lowFn Try.prog [] 39 = some f39_L := by kernel_rfl
theorem f39_fok : FnOk Try.prog 39 := ⟨_, Try.func39, rfl, rfl⟩
noncomputable def S_glossatorref3_hexDigit (m : Option Nat) (a0 : Int) : Option (List UInt8) :=
  if (0 : Int) ≤ (a0.tmod 16) ∧ (a0.tmod 16) ≤ (IntKind.wrap .u32 ((a0.tmod 16) + 1)) ∧ (IntKind.wrap .u32 ((a0.tmod 16) + 1)) ≤ (([48, 49, 50, 51, 52, 53, 54, 55, 56, 57, 97, 98, 99, 100, 101, 102] : List UInt8).length : Int) then
  some ((([48, 49, 50, 51, 52, 53, 54, 55, 56, 57, 97, 98, 99, 100, 101, 102] : List UInt8).take (IntKind.wrap .u32 ((a0.tmod 16) + 1)).toNat).drop (a0.tmod 16).toNat)
  else none

def f39_Q (a0 : Int) (o : (List UInt8)) : Exit → Env → AHeap → Nat → Prop := FinK f39_res (PureEnd (.str o))

theorem f39_start {a0 : Int} {m : Option Nat} {o : (List UInt8)} (h : S_glossatorref3_hexDigit m a0 = some o) : LWp Try.prog f39_lay 0 f39_c0 (f39_Q a0 o) (initEnv 0 [.int .u32 a0]) [] 0 := by
  unfold S_glossatorref3_hexDigit at h
  refine seqI ?_
  refine regI ?_
  refine seqI ?_
  refine regI ?_
  refine And.intro (by decide) ?_
  refine And.intro (by decide) ?_
  show yops _ _ _ [(6, .int .u32 (a0.tmod 16)), (5, .int .u32 a0), (4, .int .u32 (a0.tmod 16)), (3, .int .u32 a0), (2, .str ([] : List UInt8)), (0, .int .u32 a0)] _ _
  obtain ⟨h1, h⟩ := ite_some h
  refine And.intro h1 ?_
  refine LWp.sim (e := [(2, .str ((([48, 49, 50, 51, 52, 53, 54, 55, 56, 57, 97, 98, 99, 100, 101, 102] : List UInt8).take (IntKind.wrap .u32 ((a0.tmod 16) + 1)).toNat).drop (a0.tmod 16).toNat))]) (L := []) (n := 0) ?_ ?_
  · exact simI (M := []) rfl (And.intro (Vw.same _ rfl) trivial) trivial
  refine retI ?_
  cases h
  exact And.intro trivial (And.intro rfl (Vw.same _ rfl))

theorem f39_ok {a0 : Int} {m : Option Nat} {o : (List UInt8)} (h : S_glossatorref3_hexDigit m a0 = some o) : PFn Try.prog 39 [.int .u32 a0] (.str o) := PFn.ofFnW (L := f39_L) f39_low f39_fok (Nat.le_of_ble_eq_true rfl) rfl (f39_start h)

def f17_c1 : LCode := (.seq (.seq (.region [⟨some 10, .mv (.t 5), none⟩,
   ⟨some 11, .bin .lss (.t 10) (.c (.int .i64 8)), none⟩])
 (.cond (.t 11)
  .skip
  (.exit 0)))
 (.seq (.block 1
  (.seq (.region [⟨some 14, .mv (.t 4), none⟩,
    ⟨some 15, .call 39 [(.t 14)], none⟩,
    ⟨some 16, .mv (.t 3), none⟩,
    ⟨some 17, .bin .add (.t 15) (.t 16), none⟩,
    ⟨some 3, .mv (.t 17), none⟩])
  (.region [⟨some 18, .mv (.t 4), none⟩,
    ⟨some 19, .bin .quo (.t 18) (.c (.int .u32 16)), none⟩,
    ⟨some 4, .mv (.t 19), none⟩])))
 (.region [⟨some 12, .mv (.t 5), none⟩,
   ⟨some 13, .bin .add (.t 12) (.c (.int .i64 1)), none⟩,
   ⟨some 5, .mv (.t 13), none⟩])))
def f17_c3 : LCode := (.seq (.region [⟨some 24, .bin .lss (.t 23) (.t 22), none⟩])
 (.seq (.cond (.t 24)
  .skip
  (.exit 2))
 (.seq (.block 3
  (.seq (.region [⟨some 25, .iaddr 1 (.t 21) (.t 23), none⟩,
    ⟨some 26, .load false 1 (.t 25), none⟩,
    ⟨some 7, .mv (.t 26), none⟩])
  (.region [⟨some 27, .mv (.t 3), none⟩,
    ⟨some 28, .mv (.t 7), none⟩,
    ⟨some 29, .bin .add (.c (.str [32])) (.t 28), none⟩,
    ⟨some 30, .bin .add (.t 27) (.t 29), none⟩,
    ⟨some 3, .mv (.t 30), none⟩])))
 (.region [⟨some 31, .bin .add (.t 23) (.c (.int .i64 1)), none⟩,
   ⟨some 23, .mv (.t 31), none⟩]))))
def f17_c2 : LCode := (.seq (.region [⟨some 32, .mv (.t 3), none⟩,
   ⟨some 2, .mv (.t 32), none⟩])
 .ret)
def f17_c0 : LCode := (.seq (.seq (.region [⟨some 20, .faddr 2 (.t 1), none⟩,
   ⟨some 21, .load false 1 (.t 20), none⟩,
   ⟨some 22, .len false (.t 21), none⟩,
   ⟨some 23, .mv (.c (.int .i64 0)), none⟩])
 (.block 2
  (.loop
   f17_c3)))
 f17_c2)
def f17_c4 : LCode := (.seq (.region [⟨some 1, .box (.t 0), none⟩,
   ⟨some 2, .mv (.c (.str [])), none⟩])
 (.seq (.region [⟨some 3, .mv (.c (.str [])), none⟩])
 (.seq (.seq (.region [⟨some 8, .faddr 1 (.t 1), none⟩,
   ⟨some 9, .load false 1 (.t 8), none⟩,
   ⟨some 4, .mv (.t 9), none⟩,
   ⟨some 5, .mv (.c (.int .i64 0)), none⟩])
 (.block 0
  (.loop
   f17_c1)))
 f17_c0)))
def f17_lay : Lay := ⟨33, [], false⟩
def f17_res : List LRes := [.t 2]
def f17_L : LFn := ⟨1, f17_lay, f17_c4, f17_res⟩
theorem f17_low : lowFn Try.prog [] 17 = some f17_L := by kernel_rfl
theorem f17_fok : FnOk Try.prog 17 := ⟨_, Try.func17, rfl, rfl⟩
def f17_Q (a0 : G_QIndexEntry) (o : (List UInt8)) : Exit → Env → AHeap → Nat → Prop := FinK f17_res (PureEnd (.str o))

def f17_L1_env (a0 : G_QIndexEntry) (s : ((List UInt8) × Int × Int)) : Env := [(1, .ptr (0, 0) 0 0), (3, .str s.1), (4, .int .u32 s.2.1), (5, .int .i64 s.2.2)]
def f17_L1_hp (a0 : G_QIndexEntry) (s : ((List UInt8) × Int × Int)) : AHeap := [((0, 0), .one [.str a0.f_Name, .int .u32 a0.f_Sum, .isl 1 (a0.f_Words.map e_str) false])]
def f17_L1_Q (a0 : G_QIndexEntry) (o : (List UInt8)) : Exit → Env → AHeap → Nat → Prop := (QBlock 0 (QSeq Try.prog f17_lay 0 f17_c0 (f17_Q a0 o)))

noncomputable def S_glossatorref3_EntryValue_j2 (m : Option Nat) (v7 : List UInt8) : Option (List UInt8) :=
  some v7

noncomputable def S_glossatorref3_EntryValue_b2 (m : Option Nat) (a0 : G_QIndexEntry) (v7 : List UInt8) (v8 : Int) : Option (((List UInt8) × Int) ⊕ (List UInt8)) :=
  if (decide (v8 < ((a0.f_Words.map e_str).length : Int))) = true then
    if (0 : Int) ≤ v8 ∧ v8 < ((a0.f_Words.map e_str).length : Int) then
    if (((([32] : List UInt8).length + (a0.f_Words.getD v8.toNat default).length : Nat) : Int) ≤ 9223372036854775807) then
    if (((v7.length + (([32] : List UInt8) ++ (a0.f_Words.getD v8.toNat default)).length : Nat) : Int) ≤ 9223372036854775807) then
    some (.inl ((v7 ++ (([32] : List UInt8) ++ (a0.f_Words.getD v8.toNat default))), (W (v8 + 1))))
    else none
    else none
    else none
  else
    Option.map Sum.inr (
      S_glossatorref3_EntryValue_j2 m v7)

noncomputable def S_glossatorref3_EntryValue_l2 (m : Option Nat) (a0 : G_QIndexEntry) (v7 : List UInt8) (v8 : Int) : Option (List UInt8) := loopM m (fun (s : ((List UInt8) × Int)) => S_glossatorref3_EntryValue_b2 m a0 s.1 s.2) (v7, v8)

noncomputable def S_glossatorref3_EntryValue_j1 (m : Option Nat) (a0 : G_QIndexEntry) (v2 : List UInt8) : Option (List UInt8) :=
  S_glossatorref3_EntryValue_l2 m a0 v2 0

noncomputable def S_glossatorref3_EntryValue_b1 (m : Option Nat) (a0 : G_QIndexEntry) (v2 : List UInt8) (v3 : Int) (v4 : Int) : Option (((List UInt8) × Int × Int) ⊕ (List UInt8)) :=
  if (decide (v4 < 8)) = true then
    (S_glossatorref3_hexDigit m v3).bind fun v6 =>
    if (((v6.length + v2.length : Nat) : Int) ≤ 9223372036854775807) then
    some (.inl ((v6 ++ v2), (IntKind.wrap .u32 (v3.tdiv 16)), (W (v4 + 1))))
    else none
  else
    Option.map Sum.inr (
      S_glossatorref3_EntryValue_j1 m a0 v2)

noncomputable def S_glossatorref3_EntryValue_l1 (m : Option Nat) (a0 : G_QIndexEntry) (v2 : List UInt8) (v3 : Int) (v4 : Int) : Option (List UInt8) := loopM m (fun (s : ((List UInt8) × Int × Int)) => S_glossatorref3_EntryValue_b1 m a0 s.1 s.2.1 s.2.2) (v2, v3, v4)

def f17_L2_env (a0 : G_QIndexEntry) (s : ((List UInt8) × Int)) : Env := [(3, .str s.1), (21, .isl 1 (a0.f_Words.map e_str) false), (22, .int .i64 ((a0.f_Words.map e_str).length : Int)), (23, .int .i64 s.2)]
def f17_L2_hp (a0 : G_QIndexEntry) (s : ((List UInt8) × Int)) : AHeap := []
def f17_L2_Q (a0 : G_QIndexEntry) (o : (List UInt8)) : Exit → Env → AHeap → Nat → Prop := (QBlock 2 (QSeq Try.prog f17_lay 0 f17_c2 (f17_Q a0 o)))

theorem f17_j2_ok {a0 : G_QIndexEntry} {v7 : List UInt8} {m : Option Nat} {o : (List UInt8)} (h : S_glossatorref3_EntryValue_j2 m v7 = some o) :
    LWp Try.prog f17_lay 0 f17_c2 (f17_Q a0 o) [(3, .str v7)] [] 0 := by
  unfold S_glossatorref3_EntryValue_j2 at h
  refine seqI ?_
  refine regI ?_
  refine retI ?_
  cases h
  exact And.intro trivial (And.intro rfl (Vw.same _ rfl))

theorem f17_L2_bok {a0 : G_QIndexEntry} {v7 : List UInt8} {v8 : Int} {m : Option Nat} {o : ((List UInt8) × Int) ⊕ (List UInt8)} (h : S_glossatorref3_EntryValue_b2 m a0 v7 v8 = some o) :
    LWp Try.prog f17_lay 0 f17_c3 (BodyQ 0 0 (f17_L2_env a0) (f17_L2_hp a0) (f17_L2_Q a0) o) [(3, .str v7), (21, .isl 1 (a0.f_Words.map e_str) false), (22, .int .i64 ((a0.f_Words.map e_str).length : Int)), (23, .int .i64 v8)] [] 0 := by
  unfold S_glossatorref3_EntryValue_b2 at h
  refine seqI ?_
  refine regI ?_
  refine seqI ?_
  refine condI (v := (decide (v8 < ((a0.f_Words.map e_str).length : Int)))) rfl trivial (fun h18 => ?_) (fun h18 => ?_)
  · have h := ite_tt h18 h
    refine skipI ?_
    refine seqI ?_
    refine blockI ?_
    refine seqI ?_
    refine regI ?_
    obtain ⟨h19, h⟩ := ite_some h
    refine And.intro h19 ?_
    refine Exists.intro (e_str (a0.f_Words.getD v8.toNat default)) (And.intro (getD_enc e_str _ _ (idx_ltL e_str h19)) (And.intro (And.intro (idx_lt h19) (Nat.le_of_ble_eq_true rfl)) ?_))
    refine regI ?_
    obtain ⟨h20, h⟩ := ite_some h
    refine And.intro h20 ?_
    show yops _ _ _ [(29, .str (([32] : List UInt8) ++ (a0.f_Words.getD v8.toNat default))), (28, .str (a0.f_Words.getD v8.toNat default)), (27, .str v7), (7, .str (a0.f_Words.getD v8.toNat default)), (26, .str (a0.f_Words.getD v8.toNat default)), (25, .iptr 1 (a0.f_Words.map e_str) v8.toNat 0), (24, .bool (decide (v8 < ((a0.f_Words.map e_str).length : Int)))), (3, .str v7), (21, .isl 1 (a0.f_Words.map e_str) false), (22, .int .i64 ((a0.f_Words.map e_str).length : Int)), (23, .int .i64 v8)] _ _
    obtain ⟨h21, h⟩ := ite_some h
    refine And.intro h21 ?_
    refine LWp.sim (e := [(3, .str (v7 ++ (([32] : List UInt8) ++ (a0.f_Words.getD v8.toNat default)))), (21, .isl 1 (a0.f_Words.map e_str) false), (22, .int .i64 ((a0.f_Words.map e_str).length : Int)), (23, .int .i64 v8)]) (L := []) (n := 0) ?_ ?_
    · exact simI (M := []) rfl (And.intro (Vw.same _ rfl) (And.intro (Vw.same _ rfl) (And.intro (Vw.same _ rfl) (And.intro (Vw.same _ rfl) trivial)))) trivial
    refine regI ?_
    cases h
    exact And.intro rfl (simI (M := []) rfl (And.intro (Vw.same _ rfl) (And.intro (Vw.same _ rfl) (And.intro (Vw.same _ rfl) (And.intro (Vw.same _ rfl) trivial)))) trivial)
  · have h := ite_ff h18 h
    refine exitI ?_
    obtain ⟨o, hq, rfl⟩ := Option.map_eq_some_iff.1 h
    replace h := hq; clear hq
    refine And.intro nofun ?_
    refine LWp.sim ?_ (f17_j2_ok h)
    exact simI (M := []) rfl (And.intro (Vw.same _ rfl) trivial) trivial

theorem f17_L2_ok {a0 : G_QIndexEntry} {v7 : List UInt8} {v8 : Int} {m : Option Nat} {o : (List UInt8)} (h : S_glossatorref3_EntryValue_l2 m a0 v7 v8 = some o) :
    LWp Try.prog f17_lay 0 (.loop f17_c3) (QBlock 2 (QSeq Try.prog f17_lay 0 f17_c2 (f17_Q a0 o))) [(3, .str v7), (21, .isl 1 (a0.f_Words.map e_str) false), (22, .int .i64 ((a0.f_Words.map e_str).length : Int)), (23, .int .i64 v8)] [] 0 :=
  LWp_loopM (m := m) (s := ((v7, v8) : ((List UInt8) × Int))) (r := o) (fun (s : ((List UInt8) × Int)) => S_glossatorref3_EntryValue_b2 m a0 s.1 s.2) (f17_L2_env a0) (f17_L2_hp a0) (f17_L2_Q a0) (fun s o h => f17_L2_bok h) h

theorem f17_j1_ok {a0 : G_QIndexEntry} {v2 : List UInt8} {m : Option Nat} {o : (List UInt8)} (h : S_glossatorref3_EntryValue_j1 m a0 v2 = some o) :
    LWp Try.prog f17_lay 0 f17_c0 (f17_Q a0 o) [(1, .ptr (0, 0) 0 0), (3, .str v2)] [((0, 0), .one [.str a0.f_Name, .int .u32 a0.f_Sum, .isl 1 (a0.f_Words.map e_str) false])] 1 := by
  unfold S_glossatorref3_EntryValue_j1 at h
  refine seqI ?_
  refine seqI ?_
  refine regI ?_
  refine blockI ?_
  refine LWp.sim ?_ (f17_L2_ok h)
  exact simI (M := []) rfl (And.intro (Vw.same _ rfl) (And.intro (Vw.same _ rfl) (And.intro (Vw.same _ rfl) (And.intro (Vw.same _ rfl) trivial)))) trivial

theorem f17_L1_bok {a0 : G_QIndexEntry} {v2 : List UInt8} {v3 : Int} {v4 : Int} {m : Option Nat} {o : ((List UInt8) × Int × Int) ⊕ (List UInt8)} (h : S_glossatorref3_EntryValue_b1 m a0 v2 v3 v4 = some o) :
    LWp Try.prog f17_lay 0 f17_c1 (BodyQ 0 1 (f17_L1_env a0) (f17_L1_hp a0) (f17_L1_Q a0) o) [(1, .ptr (0, 0) 0 0), (3, .str v2), (4, .int .u32 v3), (5, .int .i64 v4)] [((0, 0), .one [.str a0.f_Name, .int .u32 a0.f_Sum, .isl 1 (a0.f_Words.map e_str) false])] 1 := by
  unfold S_glossatorref3_EntryValue_b1 at h
  refine seqI ?_
  refine seqI ?_
  refine regI ?_
  refine condI (v := (decide (v4 < 8))) rfl trivial (fun h7 => ?_) (fun h7 => ?_)
  · have h := ite_tt h7 h
    refine skipI ?_
    refine seqI ?_
    refine blockI ?_
    refine seqI ?_
    refine regI ?_
    obtain ⟨v6, h8, h⟩ := bind_some h
    refine PFn.call (f39_ok h8) (And.intro (Vw.same _ rfl) trivial) ?_
    obtain ⟨h9, h⟩ := ite_some h
    refine And.intro h9 ?_
    show yops _ _ _ [(17, .str (v6 ++ v2)), (16, .str v2), (15, .str v6), (14, .int .u32 v3), (11, .bool (decide (v4 < 8))), (10, .int .i64 v4), (1, .ptr (0, 0) 0 0), (3, .str v2), (4, .int .u32 v3), (5, .int .i64 v4)] _ _
    refine regI ?_
    refine And.intro (by decide) ?_
    refine LWp.sim (e := [(1, .ptr (0, 0) 0 0), (3, .str (v6 ++ v2)), (4, .int .u32 (IntKind.wrap .u32 (v3.tdiv 16))), (5, .int .i64 v4)]) (L := [((0, 0), .one [.str a0.f_Name, .int .u32 a0.f_Sum, .isl 1 (a0.f_Words.map e_str) false])]) (n := 1) ?_ ?_
    · exact simI (M := [((0, 0), (0, 0))]) rfl (And.intro (Vw.ptr _ _ _ _ rfl) (And.intro (Vw.same _ rfl) (And.intro (Vw.same _ rfl) (And.intro (Vw.same _ rfl) trivial)))) (And.intro (And.intro rfl (BVw.oneL (And.intro (Vw.same _ rfl) (And.intro (Vw.same _ rfl) (And.intro (Vw.same _ rfl) trivial))))) trivial)
    refine regI ?_
    cases h
    exact And.intro rfl (simI (M := [((0, 0), (0, 0))]) rfl (And.intro (Vw.ptr _ _ _ _ rfl) (And.intro (Vw.same _ rfl) (And.intro (Vw.same _ rfl) (And.intro (Vw.same _ rfl) trivial)))) (And.intro (And.intro rfl (BVw.oneL (And.intro (Vw.same _ rfl) (And.intro (Vw.same _ rfl) (And.intro (Vw.same _ rfl) trivial))))) trivial))
  · have h := ite_ff h7 h
    refine exitI ?_
    obtain ⟨o, hq, rfl⟩ := Option.map_eq_some_iff.1 h
    replace h := hq; clear hq
    refine And.intro nofun ?_
    refine LWp.sim ?_ (f17_j1_ok h)
    exact simI (M := [((0, 0), (0, 0))]) rfl (And.intro (Vw.ptr _ _ _ _ rfl) (And.intro (Vw.same _ rfl) trivial)) (And.intro (And.intro rfl (BVw.oneL (And.intro (Vw.same _ rfl) (And.intro (Vw.same _ rfl) (And.intro (Vw.same _ rfl) trivial))))) trivial)

theorem f17_L1_ok {a0 : G_QIndexEntry} {v2 : List UInt8} {v3 : Int} {v4 : Int} {m : Option Nat} {o : (List UInt8)} (h : S_glossatorref3_EntryValue_l1 m a0 v2 v3 v4 = some o) :
    LWp Try.prog f17_lay 0 (.loop f17_c1) (QBlock 0 (QSeq Try.prog f17_lay 0 f17_c0 (f17_Q a0 o))) [(1, .ptr (0, 0) 0 0), (3, .str v2), (4, .int .u32 v3), (5, .int .i64 v4)] [((0, 0), .one [.str a0.f_Name, .int .u32 a0.f_Sum, .isl 1 (a0.f_Words.map e_str) false])] 1 :=
  LWp_loopM (m := m) (s := ((v2, v3, v4) : ((List UInt8) × Int × Int))) (r := o) (fun (s : ((List UInt8) × Int × Int)) => S_glossatorref3_EntryValue_b1 m a0 s.1 s.2.1 s.2.2) (f17_L1_env a0) (f17_L1_hp a0) (f17_L1_Q a0) (fun s o h => f17_L1_bok h) h

noncomputable def S_glossatorref3_EntryValue (m : Option Nat) (a0 : G_QIndexEntry) : Option (List UInt8) :=
  S_glossatorref3_EntryValue_l1 m a0 ([] : List UInt8) a0.f_Sum 0

theorem f17_start {a0 : G_QIndexEntry} {m : Option Nat} {o : (List UInt8)} (h : S_glossatorref3_EntryValue m a0 = some o) : LWp Try.prog f17_lay 0 f17_c4 (f17_Q a0 o) (initEnv 0 [.agg [.str a0.f_Name, .int .u32 a0.f_Sum, .isl 1 (a0.f_Words.map e_str) false]]) [] 0 := by
  unfold S_glossatorref3_EntryValue at h
  refine seqI ?_
  refine regI ?_
  refine seqI ?_
  refine regI ?_
  refine seqI ?_
  refine seqI ?_
  refine regI ?_
  refine blockI ?_
  refine LWp.sim ?_ (f17_L1_ok h)
  exact simI (M := [((0, 0), (0, 0))]) rfl (And.intro (Vw.ptr _ _ _ _ rfl) (And.intro (Vw.same _ rfl) (And.intro (Vw.same _ rfl) (And.intro (Vw.same _ rfl) trivial)))) (And.intro (And.intro rfl (BVw.oneL (And.intro (Vw.same _ rfl) (And.intro (Vw.same _ rfl) (And.intro (Vw.same _ rfl) trivial))))) trivial)

theorem f17_ok {a0 : G_QIndexEntry} {m : Option Nat} {o : (List UInt8)} (h : S_glossatorref3_EntryValue m a0 = some o) : PFn Try.prog 17 [.agg [.str a0.f_Name, .int .u32 a0.f_Sum, .isl 1 (a0.f_Words.map e_str) false]] (.str o) := PFn.ofFnW (L := f17_L) f17_low f17_fok (Nat.le_of_ble_eq_true rfl) rfl (f17_start h)

def f38_c1 : LCode := (.seq (.region [⟨some 8, .bin .lss (.t 7) (.t 6), none⟩])
 (.seq (.cond (.t 8)
  .skip
  (.exit 0))
 (.seq (.block 1
  (.seq (.region [⟨some 9, .mv (.t 7), none⟩,
    ⟨some 4, .mv (.t 9), none⟩])
  (.region [⟨some 10, .mv (.t 3), none⟩,
    ⟨some 11, .mv (.t 0), none⟩,
    ⟨some 12, .mv (.t 4), none⟩,
    ⟨some 13, .idxS (.t 11) (.t 12), none⟩,
    ⟨some 14, .conv (.int .u64) (.t 13), none⟩,
    ⟨some 15, .bin .xor (.t 10) (.t 14), none⟩,
    ⟨some 16, .bin .mul (.t 15) (.c (.int .u64 16777619)), none⟩,
    ⟨some 17, .bin .rem (.t 16) (.c (.int .u64 4294967296)), none⟩,
    ⟨some 3, .mv (.t 17), none⟩])))
 (.region [⟨some 18, .bin .add (.t 7) (.c (.int .i64 1)), none⟩,
   ⟨some 7, .mv (.t 18), none⟩]))))
def f38_c0 : LCode := (.seq (.region [⟨some 19, .mv (.t 3), none⟩,
   ⟨some 20, .conv (.int .u32) (.t 19), none⟩,
   ⟨some 2, .mv (.t 20), none⟩])
 .ret)
def f38_c2 : LCode := (.seq (.region [⟨some 2, .mv (.c (.int .u32 0)), none⟩])
 (.seq (.region [⟨some 3, .mv (.c (.int .u64 2166136261)), none⟩])
 (.seq (.seq (.region [⟨some 5, .mv (.t 0), none⟩,
   ⟨some 6, .len true (.t 5), none⟩,
   ⟨some 7, .mv (.c (.int .i64 0)), none⟩])
 (.block 0
  (.loop
   f38_c1)))
 f38_c0)))
def f38_lay : Lay := ⟨21, [], false⟩
def f38_res : List LRes := [.t 2]
def f38_L : LFn := ⟨1, f38_lay, f38_c2, f38_res⟩
theorem f38_low : lowFn Try.prog [] 38 = some f38_L := by kernel_rfl
theorem f38_fok : FnOk Try.prog 38 := ⟨_, Try.func38, rfl, rfl⟩
def f38_Q (a0 : List UInt8) (o : Int) : Exit → Env → AHeap → Nat → Prop := FinK f38_res (PureEnd (.int .u32 o))

def f38_L1_env (a0 : List UInt8) (s : (Int × Int)) : Env := [(0, .str a0), (3, .int .u64 s.1), (6, .int .i64 (a0.length : Int)), (7, .int .i64 s.2)]
def f38_L1_hp (a0 : List UInt8) (s : (Int × Int)) : AHeap := []
def f38_L1_Q (a0 : List UInt8) (o : Int) : Exit → Env → AHeap → Nat → Prop := (QBlock 0 (QSeq Try.prog f38_lay 0 f38_c0 (f38_Q a0 o)))

noncomputable def S_glossatorref3_Checksum_j1 (m : Option Nat) (v1 : Int) : Option Int :=
  some (IntKind.wrap .u32 v1)

noncomputable def S_glossatorref3_Checksum_b1 (m : Option Nat) (a0 : List UInt8) (v1 : Int) (v2 : Int) : Option ((Int × Int) ⊕ Int) :=
  if (decide (v2 < (a0.length : Int))) = true then
    if (0 : Int) ≤ v2 ∧ v2 < (a0.length : Int) then
    some (.inl (((IntKind.wrap .u64 ((ibits .xor .u64 v1 (IntKind.wrap .u64 (((a0.getD v2.toNat 0).toNat : Nat) : Int))) * 16777619)).tmod 4294967296), (W (v2 + 1))))
    else none
  else
    Option.map Sum.inr (
      S_glossatorref3_Checksum_j1 m v1)

noncomputable def S_glossatorref3_Checksum_l1 (m : Option Nat) (a0 : List UInt8) (v1 : Int) (v2 : Int) : Option Int := loopM m (fun (s : (Int × Int)) => S_glossatorref3_Checksum_b1 m a0 s.1 s.2) (v1, v2)

theorem f38_j1_ok {a0 : List UInt8} {v1 : Int} {m : Option Nat} {o : Int} (h : S_glossatorref3_Checksum_j1 m v1 = some o) :
    LWp Try.prog f38_lay 0 f38_c0 (f38_Q a0 o) [(3, .int .u64 v1)] [] 0 := by
  unfold S_glossatorref3_Checksum_j1 at h
  refine seqI ?_
  refine regI ?_
  refine retI ?_
  cases h
  exact And.intro trivial (And.intro rfl (Vw.same _ rfl))

theorem f38_L1_bok {a0 : List UInt8} {v1 : Int} {v2 : Int} {m : Option Nat} {o : (Int × Int) ⊕ Int} (h : S_glossatorref3_Checksum_b1 m a0 v1 v2 = some o) :
    LWp Try.prog f38_lay 0 f38_c1 (BodyQ 0 0 (f38_L1_env a0) (f38_L1_hp a0) (f38_L1_Q a0) o) [(0, .str a0), (3, .int .u64 v1), (6, .int .i64 (a0.length : Int)), (7, .int .i64 v2)] [] 0 := by
  unfold S_glossatorref3_Checksum_b1 at h
  refine seqI ?_
  refine regI ?_
  refine seqI ?_
  refine condI (v := (decide (v2 < (a0.length : Int)))) rfl trivial (fun h5 => ?_) (fun h5 => ?_)
  · have h := ite_tt h5 h
    refine skipI ?_
    refine seqI ?_
    refine blockI ?_
    refine seqI ?_
    refine regI ?_
    refine regI ?_
    obtain ⟨h6, h⟩ := ite_some h
    refine And.intro h6 ?_
    show yops _ _ _ [(13, .int .u8 (((a0.getD v2.toNat 0).toNat : Nat) : Int)), (12, .int .i64 v2), (11, .str a0), (10, .int .u64 v1), (4, .int .i64 v2), (9, .int .i64 v2), (8, .bool (decide (v2 < (a0.length : Int)))), (0, .str a0), (3, .int .u64 v1), (6, .int .i64 (a0.length : Int)), (7, .int .i64 v2)] _ _
    refine And.intro (by decide) ?_
    refine LWp.sim (e := [(0, .str a0), (3, .int .u64 ((IntKind.wrap .u64 ((ibits .xor .u64 v1 (IntKind.wrap .u64 (((a0.getD v2.toNat 0).toNat : Nat) : Int))) * 16777619)).tmod 4294967296)), (6, .int .i64 (a0.length : Int)), (7, .int .i64 v2)]) (L := []) (n := 0) ?_ ?_
    · exact simI (M := []) rfl (And.intro (Vw.same _ rfl) (And.intro (Vw.same _ rfl) (And.intro (Vw.same _ rfl) (And.intro (Vw.same _ rfl) trivial)))) trivial
    refine regI ?_
    cases h
    exact And.intro rfl (simI (M := []) rfl (And.intro (Vw.same _ rfl) (And.intro (Vw.same _ rfl) (And.intro (Vw.same _ rfl) (And.intro (Vw.same _ rfl) trivial)))) trivial)
  · have h := ite_ff h5 h
    refine exitI ?_
    obtain ⟨o, hq, rfl⟩ := Option.map_eq_some_iff.1 h
    replace h := hq; clear hq
    refine And.intro nofun ?_
    refine LWp.sim ?_ (f38_j1_ok h)
    exact simI (M := []) rfl (And.intro (Vw.same _ rfl) trivial) trivial

theorem f38_L1_ok {a0 : List UInt8} {v1 : Int} {v2 : Int} {m : Option Nat} {o : Int} (h : S_glossatorref3_Checksum_l1 m a0 v1 v2 = some o) :
    LWp Try.prog f38_lay 0 (.loop f38_c1) (QBlock 0 (QSeq Try.prog f38_lay 0 f38_c0 (f38_Q a0 o))) [(0, .str a0), (3, .int .u64 v1), (6, .int .i64 (a0.length : Int)), (7, .int .i64 v2)] [] 0 :=
  LWp_loopM (m := m) (s := ((v1, v2) : (Int × Int))) (r := o) (fun (s : (Int × Int)) => S_glossatorref3_Checksum_b1 m a0 s.1 s.2) (f38_L1_env a0) (f38_L1_hp a0) (f38_L1_Q a0) (fun s o h => f38_L1_bok h) h

noncomputable def S_glossatorref3_Checksum (m : Option Nat) (a0 : List UInt8) : Option Int :=
  S_glossatorref3_Checksum_l1 m a0 2166136261 0

theorem f38_start {a0 : List UInt8} {m : Option Nat} {o : Int} (h : S_glossatorref3_Checksum m a0 = some o) : LWp Try.prog f38_lay 0 f38_c2 (f38_Q a0 o) (initEnv 0 [.str a0]) [] 0 := by
  unfold S_glossatorref3_Checksum at h
  refine seqI ?_
  refine regI ?_
  refine seqI ?_
  refine regI ?_
  refine seqI ?_
  refine seqI ?_
  refine regI ?_
  refine blockI ?_
  refine LWp.sim ?_ (f38_L1_ok h)
  exact simI (M := []) rfl (And.intro (Vw.same _ rfl) (And.intro (Vw.same _ rfl) (And.intro (Vw.same _ rfl) (And.intro (Vw.same _ rfl) trivial)))) trivial

theorem f38_ok {a0 : List UInt8} {m : Option Nat} {o : Int} (h : S_glossatorref3_Checksum m a0 = some o) : PFn Try.prog 38 [.str a0] (.int .u32 o) := PFn.ofFnW (L := f38_L) f38_low f38_fok (Nat.le_of_ble_eq_true rfl) rfl (f38_start h)

def f37_c0 : LCode := (.seq (.region [⟨some 2, .mv (.c (.str [])), none⟩])
 (.seq (.region [⟨some 3, .mv (.t 0), none⟩,
   ⟨some 4, .bin .shr (.t 3) (.c (.int .u64 24)), none⟩,
   ⟨some 5, .conv (.int .u8) (.t 4), none⟩,
   ⟨some 6, .mv (.t 0), none⟩,
   ⟨some 7, .bin .shr (.t 6) (.c (.int .u64 16)), none⟩,
   ⟨some 8, .conv (.int .u8) (.t 7), none⟩,
   ⟨some 9, .mv (.t 0), none⟩,
   ⟨some 10, .bin .shr (.t 9) (.c (.int .u64 8)), none⟩,
   ⟨some 11, .conv (.int .u8) (.t 10), none⟩,
   ⟨some 12, .mv (.t 0), none⟩,
   ⟨some 13, .conv (.int .u8) (.t 12), none⟩,
   ⟨some 14, .mkSl true 1 [(.int .u8 0)] 4 [(0, (.t 5)), (1, (.t 8)), (2, (.t 11)), (3, (.t 13))], none⟩,
   ⟨some 15, .conv .b2s (.t 14), none⟩,
   ⟨some 2, .mv (.t 15), none⟩])
 .ret))
def f37_lay : Lay := ⟨16, [], false⟩
def f37_res : List LRes := [.t 2]
def f37_L : LFn := ⟨1, f37_lay, f37_c0, f37_res⟩
theorem f37_low : lowFn Try.prog [] 37 = some f37_L := by kernel_rfl
theorem f37_fok : FnOk Try.prog 37 := ⟨_, Try.func37, rfl, rfl⟩
noncomputable def S_glossatorref3_number32 (m : Option Nat) (a0 : Int) : Option (List UInt8) :=
  some (([(IntKind.wrap .u8 (a0.fdiv (2 ^ (min (24 : Int).toNat (IntKind.bits .u32))))), (IntKind.wrap .u8 (a0.fdiv (2 ^ (min (16 : Int).toNat (IntKind.bits .u32))))), (IntKind.wrap .u8 (a0.fdiv (2 ^ (min (8 : Int).toNat (IntKind.bits .u32))))), (IntKind.wrap .u8 a0)] : List Int).map toU8)

def f37_Q (a0 : Int) (o : (List UInt8)) : Exit → Env → AHeap → Nat → Prop := FinK f37_res (PureEnd (.str o))

theorem f37_start {a0 : Int} {m : Option Nat} {o : (List UInt8)} (h : S_glossatorref3_number32 m a0 = some o) : LWp Try.prog f37_lay 0 f37_c0 (f37_Q a0 o) (initEnv 0 [.int .u32 a0]) [] 0 := by
  unfold S_glossatorref3_number32 at h
  refine seqI ?_
  refine regI ?_
  refine seqI ?_
  refine regI ?_
  refine And.intro (by decide) ?_
  refine And.intro (by decide) ?_
  show yops _ _ _ [(7, .int .u32 (a0.fdiv (2 ^ (min (16 : Int).toNat (IntKind.bits .u32))))), (6, .int .u32 a0), (5, .int .u8 (IntKind.wrap .u8 (a0.fdiv (2 ^ (min (24 : Int).toNat (IntKind.bits .u32)))))), (4, .int .u32 (a0.fdiv (2 ^ (min (24 : Int).toNat (IntKind.bits .u32))))), (3, .int .u32 a0), (2, .str ([] : List UInt8)), (0, .int .u32 a0)] _ _
  refine And.intro (by decide) ?_
  refine Exists.intro (([(IntKind.wrap .u8 (a0.fdiv (2 ^ (min (24 : Int).toNat (IntKind.bits .u32))))), (IntKind.wrap .u8 (a0.fdiv (2 ^ (min (16 : Int).toNat (IntKind.bits .u32))))), (IntKind.wrap .u8 (a0.fdiv (2 ^ (min (8 : Int).toNat (IntKind.bits .u32))))), (IntKind.wrap .u8 a0)] : List Int).map toU8) (And.intro (b2s_enc ([(IntKind.wrap .u8 (a0.fdiv (2 ^ (min (24 : Int).toNat (IntKind.bits .u32))))), (IntKind.wrap .u8 (a0.fdiv (2 ^ (min (16 : Int).toNat (IntKind.bits .u32))))), (IntKind.wrap .u8 (a0.fdiv (2 ^ (min (8 : Int).toNat (IntKind.bits .u32))))), (IntKind.wrap .u8 a0)] : List Int)) (And.intro (b2s_all ([(IntKind.wrap .u8 (a0.fdiv (2 ^ (min (24 : Int).toNat (IntKind.bits .u32))))), (IntKind.wrap .u8 (a0.fdiv (2 ^ (min (16 : Int).toNat (IntKind.bits .u32))))), (IntKind.wrap .u8 (a0.fdiv (2 ^ (min (8 : Int).toNat (IntKind.bits .u32))))), (IntKind.wrap .u8 a0)] : List Int)) ?_))
  refine LWp.sim (e := [(2, .str (([(IntKind.wrap .u8 (a0.fdiv (2 ^ (min (24 : Int).toNat (IntKind.bits .u32))))), (IntKind.wrap .u8 (a0.fdiv (2 ^ (min (16 : Int).toNat (IntKind.bits .u32))))), (IntKind.wrap .u8 (a0.fdiv (2 ^ (min (8 : Int).toNat (IntKind.bits .u32))))), (IntKind.wrap .u8 a0)] : List Int).map toU8))]) (L := []) (n := 0) ?_ ?_
  · exact simI (M := []) rfl (And.intro (Vw.same _ rfl) trivial) trivial
  refine retI ?_
  cases h
  exact And.intro trivial (And.intro rfl (Vw.same _ rfl))

theorem f37_ok {a0 : Int} {m : Option Nat} {o : (List UInt8)} (h : S_glossatorref3_number32 m a0 = some o) : PFn Try.prog 37 [.int .u32 a0] (.str o) := PFn.ofFnW (L := f37_L) f37_low f37_fok (Nat.le_of_ble_eq_true rfl) rfl (f37_start h)

def f16_c0 : LCode := (.seq (.region [⟨some 8, .mv (.t 3), none⟩,
   ⟨some 9, .faddr 0 (.t 1), none⟩,
   ⟨some 10, .load false 1 (.t 9), none⟩,
   ⟨some 11, .len true (.t 10), none⟩,
   ⟨some 12, .conv (.int .u8) (.t 11), none⟩,
   ⟨some 13, .mkSl true 1 [(.int .u8 0)] 2 [(0, (.t 8)), (1, (.t 12))], none⟩,
   ⟨some 14, .conv .b2s (.t 13), none⟩,
   ⟨some 15, .faddr 0 (.t 1), none⟩,
   ⟨some 16, .load false 1 (.t 15), none⟩,
   ⟨some 17, .bin .add (.t 14) (.t 16), none⟩,
   ⟨some 18, .faddr 1 (.t 1), none⟩,
   ⟨some 19, .load false 1 (.t 18), none⟩,
   ⟨some 20, .bin .add (.t 17) (.t 19), none⟩,
   ⟨some 4, .mv (.t 20), none⟩])
 (.seq (.region [⟨some 21, .mv (.t 4), none⟩,
   ⟨some 22, .len true (.t 21), none⟩,
   ⟨some 23, .bin .quo (.t 22) (.c (.int .i64 256)), none⟩,
   ⟨some 24, .conv (.int .u8) (.t 23), none⟩,
   ⟨some 25, .mv (.t 4), none⟩,
   ⟨some 26, .len true (.t 25), none⟩,
   ⟨some 27, .bin .rem (.t 26) (.c (.int .i64 256)), none⟩,
   ⟨some 28, .conv (.int .u8) (.t 27), none⟩,
   ⟨some 29, .mkSl true 1 [(.int .u8 0)] 2 [(0, (.t 24)), (1, (.t 28))], none⟩,
   ⟨some 30, .conv .b2s (.t 29), none⟩,
   ⟨some 5, .mv (.t 30), none⟩])
 (.seq (.region [⟨some 31, .mv (.t 5), none⟩,
   ⟨some 32, .mv (.t 5), none⟩,
   ⟨some 33, .mv (.t 4), none⟩,
   ⟨some 34, .bin .add (.t 32) (.t 33), none⟩,
   ⟨some 35, .call 38 [(.t 34)], none⟩,
   ⟨some 36, .call 37 [(.t 35)], none⟩,
   ⟨some 37, .bin .add (.t 31) (.t 36), none⟩,
   ⟨some 38, .mv (.t 4), none⟩,
   ⟨some 39, .bin .add (.t 37) (.t 38), none⟩,
   ⟨some 2, .mv (.t 39), none⟩])
 .ret)))
def f16_c1 : LCode := (.seq (.region [⟨some 1, .box (.t 0), none⟩,
   ⟨some 2, .mv (.c (.str [])), none⟩])
 (.seq (.region [⟨some 3, .mv (.c (.int .u8 0)), none⟩])
 (.seq (.seq (.region [⟨some 6, .faddr 2 (.t 1), none⟩,
   ⟨some 7, .load false 1 (.t 6), none⟩])
 (.cond (.t 7)
  (.region [⟨some 3, .mv (.c (.int .u8 1)), none⟩])
  .skip))
 f16_c0)))
def f16_lay : Lay := ⟨40, [], false⟩
def f16_res : List LRes := [.t 2]
def f16_L : LFn := ⟨1, f16_lay, f16_c1, f16_res⟩
theorem f16_low : lowFn Try.prog [] 16 = some f16_L := by kernel_rfl
theorem f16_fok : FnOk Try.prog 16 := ⟨_, Try.func16, rfl, rfl⟩
noncomputable def S_glossatorref3_Frame_j1 (m : Option Nat) (a0 : G_QRecord) (v1 : Int) : Option (List UInt8) :=
  if ((((([v1, (IntKind.wrap .u8 (a0.f_Key.length : Int))] : List Int).map toU8).length + a0.f_Key.length : Nat) : Int) ≤ 9223372036854775807) then
  if (((((([v1, (IntKind.wrap .u8 (a0.f_Key.length : Int))] : List Int).map toU8) ++ a0.f_Key).length + a0.f_Value.length : Nat) : Int) ≤ 9223372036854775807) then
  if ((((([(IntKind.wrap .u8 (W (((((([v1, (IntKind.wrap .u8 (a0.f_Key.length : Int))] : List Int).map toU8) ++ a0.f_Key) ++ a0.f_Value).length : Int).tdiv 256))), (IntKind.wrap .u8 (((((([v1, (IntKind.wrap .u8 (a0.f_Key.length : Int))] : List Int).map toU8) ++ a0.f_Key) ++ a0.f_Value).length : Int).tmod 256))] : List Int).map toU8).length + (((([v1, (IntKind.wrap .u8 (a0.f_Key.length : Int))] : List Int).map toU8) ++ a0.f_Key) ++ a0.f_Value).length : Nat) : Int) ≤ 9223372036854775807) then
  (S_glossatorref3_Checksum m ((([(IntKind.wrap .u8 (W (((((([v1, (IntKind.wrap .u8 (a0.f_Key.length : Int))] : List Int).map toU8) ++ a0.f_Key) ++ a0.f_Value).length : Int).tdiv 256))), (IntKind.wrap .u8 (((((([v1, (IntKind.wrap .u8 (a0.f_Key.length : Int))] : List Int).map toU8) ++ a0.f_Key) ++ a0.f_Value).length : Int).tmod 256))] : List Int).map toU8) ++ (((([v1, (IntKind.wrap .u8 (a0.f_Key.length : Int))] : List Int).map toU8) ++ a0.f_Key) ++ a0.f_Value))).bind fun v2 =>
  (S_glossatorref3_number32 m v2).bind fun v3 =>
  if ((((([(IntKind.wrap .u8 (W (((((([v1, (IntKind.wrap .u8 (a0.f_Key.length : Int))] : List Int).map toU8) ++ a0.f_Key) ++ a0.f_Value).length : Int).tdiv 256))), (IntKind.wrap .u8 (((((([v1, (IntKind.wrap .u8 (a0.f_Key.length : Int))] : List Int).map toU8) ++ a0.f_Key) ++ a0.f_Value).length : Int).tmod 256))] : List Int).map toU8).length + v3.length : Nat) : Int) ≤ 9223372036854775807) then
  if (((((([(IntKind.wrap .u8 (W (((((([v1, (IntKind.wrap .u8 (a0.f_Key.length : Int))] : List Int).map toU8) ++ a0.f_Key) ++ a0.f_Value).length : Int).tdiv 256))), (IntKind.wrap .u8 (((((([v1, (IntKind.wrap .u8 (a0.f_Key.length : Int))] : List Int).map toU8) ++ a0.f_Key) ++ a0.f_Value).length : Int).tmod 256))] : List Int).map toU8) ++ v3).length + (((([v1, (IntKind.wrap .u8 (a0.f_Key.length : Int))] : List Int).map toU8) ++ a0.f_Key) ++ a0.f_Value).length : Nat) : Int) ≤ 9223372036854775807) then
  some (((([(IntKind.wrap .u8 (W (((((([v1, (IntKind.wrap .u8 (a0.f_Key.length : Int))] : List Int).map toU8) ++ a0.f_Key) ++ a0.f_Value).length : Int).tdiv 256))), (IntKind.wrap .u8 (((((([v1, (IntKind.wrap .u8 (a0.f_Key.length : Int))] : List Int).map toU8) ++ a0.f_Key) ++ a0.f_Value).length : Int).tmod 256))] : List Int).map toU8) ++ v3) ++ (((([v1, (IntKind.wrap .u8 (a0.f_Key.length : Int))] : List Int).map toU8) ++ a0.f_Key) ++ a0.f_Value))
  else none
  else none
  else none
  else none
  else none

def f16_Q (a0 : G_QRecord) (o : (List UInt8)) : Exit → Env → AHeap → Nat → Prop := FinK f16_res (PureEnd (.str o))

theorem f16_j1_ok {a0 : G_QRecord} {v1 : Int} {m : Option Nat} {o : (List UInt8)} (h : S_glossatorref3_Frame_j1 m a0 v1 = some o) :
    LWp Try.prog f16_lay 0 f16_c0 (f16_Q a0 o) [(1, .ptr (0, 0) 0 0), (3, .int .u8 v1)] [((0, 0), .one [.str a0.f_Key, .str a0.f_Value, .bool a0.f_Deleted])] 1 := by
  unfold S_glossatorref3_Frame_j1 at h
  refine seqI ?_
  refine regI ?_
  refine Exists.intro (([v1, (IntKind.wrap .u8 (a0.f_Key.length : Int))] : List Int).map toU8) (And.intro (b2s_enc ([v1, (IntKind.wrap .u8 (a0.f_Key.length : Int))] : List Int)) (And.intro (b2s_all ([v1, (IntKind.wrap .u8 (a0.f_Key.length : Int))] : List Int)) ?_))
  obtain ⟨h2, h⟩ := ite_some h
  refine And.intro h2 ?_
  show yops _ _ _ [(17, .str ((([v1, (IntKind.wrap .u8 (a0.f_Key.length : Int))] : List Int).map toU8) ++ a0.f_Key)), (16, .str a0.f_Key), (15, .ptr (0, 0) 0 0), (14, .str (([v1, (IntKind.wrap .u8 (a0.f_Key.length : Int))] : List Int).map toU8)), (13, .isl 1 (([v1, (IntKind.wrap .u8 (a0.f_Key.length : Int))] : List Int).map e_u8) true), (12, .int .u8 (IntKind.wrap .u8 (a0.f_Key.length : Int))), (11, .int .i64 (a0.f_Key.length : Int)), (10, .str a0.f_Key), (9, .ptr (0, 0) 0 0), (8, .int .u8 v1), (1, .ptr (0, 0) 0 0), (3, .int .u8 v1)] _ _
  obtain ⟨h3, h⟩ := ite_some h
  refine And.intro h3 ?_
  refine LWp.sim (e := [(4, .str (((([v1, (IntKind.wrap .u8 (a0.f_Key.length : Int))] : List Int).map toU8) ++ a0.f_Key) ++ a0.f_Value))]) (L := []) (n := 0) ?_ ?_
  · exact simI (M := []) rfl (And.intro (Vw.same _ rfl) trivial) trivial
  refine seqI ?_
  refine regI ?_
  refine And.intro (by decide) ?_
  refine And.intro (by decide) ?_
  show yops _ _ _ [(27, .int .i64 (((((([v1, (IntKind.wrap .u8 (a0.f_Key.length : Int))] : List Int).map toU8) ++ a0.f_Key) ++ a0.f_Value).length : Int).tmod 256)), (26, .int .i64 ((((([v1, (IntKind.wrap .u8 (a0.f_Key.length : Int))] : List Int).map toU8) ++ a0.f_Key) ++ a0.f_Value).length : Int)), (25, .str (((([v1, (IntKind.wrap .u8 (a0.f_Key.length : Int))] : List Int).map toU8) ++ a0.f_Key) ++ a0.f_Value)), (24, .int .u8 (IntKind.wrap .u8 (W (((((([v1, (IntKind.wrap .u8 (a0.f_Key.length : Int))] : List Int).map toU8) ++ a0.f_Key) ++ a0.f_Value).length : Int).tdiv 256)))), (23, .int .i64 (W (((((([v1, (IntKind.wrap .u8 (a0.f_Key.length : Int))] : List Int).map toU8) ++ a0.f_Key) ++ a0.f_Value).length : Int).tdiv 256))), (22, .int .i64 ((((([v1, (IntKind.wrap .u8 (a0.f_Key.length : Int))] : List Int).map toU8) ++ a0.f_Key) ++ a0.f_Value).length : Int)), (21, .str (((([v1, (IntKind.wrap .u8 (a0.f_Key.length : Int))] : List Int).map toU8) ++ a0.f_Key) ++ a0.f_Value)), (4, .str (((([v1, (IntKind.wrap .u8 (a0.f_Key.length : Int))] : List Int).map toU8) ++ a0.f_Key) ++ a0.f_Value))] _ _
  refine Exists.intro (([(IntKind.wrap .u8 (W (((((([v1, (IntKind.wrap .u8 (a0.f_Key.length : Int))] : List Int).map toU8) ++ a0.f_Key) ++ a0.f_Value).length : Int).tdiv 256))), (IntKind.wrap .u8 (((((([v1, (IntKind.wrap .u8 (a0.f_Key.length : Int))] : List Int).map toU8) ++ a0.f_Key) ++ a0.f_Value).length : Int).tmod 256))] : List Int).map toU8) (And.intro (b2s_enc ([(IntKind.wrap .u8 (W (((((([v1, (IntKind.wrap .u8 (a0.f_Key.length : Int))] : List Int).map toU8) ++ a0.f_Key) ++ a0.f_Value).length : Int).tdiv 256))), (IntKind.wrap .u8 (((((([v1, (IntKind.wrap .u8 (a0.f_Key.length : Int))] : List Int).map toU8) ++ a0.f_Key) ++ a0.f_Value).length : Int).tmod 256))] : List Int)) (And.intro (b2s_all ([(IntKind.wrap .u8 (W (((((([v1, (IntKind.wrap .u8 (a0.f_Key.length : Int))] : List Int).map toU8) ++ a0.f_Key) ++ a0.f_Value).length : Int).tdiv 256))), (IntKind.wrap .u8 (((((([v1, (IntKind.wrap .u8 (a0.f_Key.length : Int))] : List Int).map toU8) ++ a0.f_Key) ++ a0.f_Value).length : Int).tmod 256))] : List Int)) ?_))
  refine LWp.sim (e := [(4, .str (((([v1, (IntKind.wrap .u8 (a0.f_Key.length : Int))] : List Int).map toU8) ++ a0.f_Key) ++ a0.f_Value)), (5, .str (([(IntKind.wrap .u8 (W (((((([v1, (IntKind.wrap .u8 (a0.f_Key.length : Int))] : List Int).map toU8) ++ a0.f_Key) ++ a0.f_Value).length : Int).tdiv 256))), (IntKind.wrap .u8 (((((([v1, (IntKind.wrap .u8 (a0.f_Key.length : Int))] : List Int).map toU8) ++ a0.f_Key) ++ a0.f_Value).length : Int).tmod 256))] : List Int).map toU8))]) (L := []) (n := 0) ?_ ?_
  · exact simI (M := []) rfl (And.intro (Vw.same _ rfl) (And.intro (Vw.same _ rfl) trivial)) trivial
  refine seqI ?_
  refine regI ?_
  obtain ⟨h4, h⟩ := ite_some h
  refine And.intro h4 ?_
  obtain ⟨v2, h5, h⟩ := bind_some h
  refine PFn.call (f38_ok h5) (And.intro (Vw.same _ rfl) trivial) ?_
  show yops _ _ _ [(35, .int .u32 v2), (34, .str ((([(IntKind.wrap .u8 (W (((((([v1, (IntKind.wrap .u8 (a0.f_Key.length : Int))] : List Int).map toU8) ++ a0.f_Key) ++ a0.f_Value).length : Int).tdiv 256))), (IntKind.wrap .u8 (((((([v1, (IntKind.wrap .u8 (a0.f_Key.length : Int))] : List Int).map toU8) ++ a0.f_Key) ++ a0.f_Value).length : Int).tmod 256))] : List Int).map toU8) ++ (((([v1, (IntKind.wrap .u8 (a0.f_Key.length : Int))] : List Int).map toU8) ++ a0.f_Key) ++ a0.f_Value))), (33, .str (((([v1, (IntKind.wrap .u8 (a0.f_Key.length : Int))] : List Int).map toU8) ++ a0.f_Key) ++ a0.f_Value)), (32, .str (([(IntKind.wrap .u8 (W (((((([v1, (IntKind.wrap .u8 (a0.f_Key.length : Int))] : List Int).map toU8) ++ a0.f_Key) ++ a0.f_Value).length : Int).tdiv 256))), (IntKind.wrap .u8 (((((([v1, (IntKind.wrap .u8 (a0.f_Key.length : Int))] : List Int).map toU8) ++ a0.f_Key) ++ a0.f_Value).length : Int).tmod 256))] : List Int).map toU8)), (31, .str (([(IntKind.wrap .u8 (W (((((([v1, (IntKind.wrap .u8 (a0.f_Key.length : Int))] : List Int).map toU8) ++ a0.f_Key) ++ a0.f_Value).length : Int).tdiv 256))), (IntKind.wrap .u8 (((((([v1, (IntKind.wrap .u8 (a0.f_Key.length : Int))] : List Int).map toU8) ++ a0.f_Key) ++ a0.f_Value).length : Int).tmod 256))] : List Int).map toU8)), (4, .str (((([v1, (IntKind.wrap .u8 (a0.f_Key.length : Int))] : List Int).map toU8) ++ a0.f_Key) ++ a0.f_Value)), (5, .str (([(IntKind.wrap .u8 (W (((((([v1, (IntKind.wrap .u8 (a0.f_Key.length : Int))] : List Int).map toU8) ++ a0.f_Key) ++ a0.f_Value).length : Int).tdiv 256))), (IntKind.wrap .u8 (((((([v1, (IntKind.wrap .u8 (a0.f_Key.length : Int))] : List Int).map toU8) ++ a0.f_Key) ++ a0.f_Value).length : Int).tmod 256))] : List Int).map toU8))] _ _
  obtain ⟨v3, h6, h⟩ := bind_some h
  refine PFn.call (f37_ok h6) (And.intro (Vw.same _ rfl) trivial) ?_
  obtain ⟨h7, h⟩ := ite_some h
  refine And.intro h7 ?_
  obtain ⟨h8, h⟩ := ite_some h
  refine And.intro h8 ?_
  refine LWp.sim (e := [(2, .str (((([(IntKind.wrap .u8 (W (((((([v1, (IntKind.wrap .u8 (a0.f_Key.length : Int))] : List Int).map toU8) ++ a0.f_Key) ++ a0.f_Value).length : Int).tdiv 256))), (IntKind.wrap .u8 (((((([v1, (IntKind.wrap .u8 (a0.f_Key.length : Int))] : List Int).map toU8) ++ a0.f_Key) ++ a0.f_Value).length : Int).tmod 256))] : List Int).map toU8) ++ v3) ++ (((([v1, (IntKind.wrap .u8 (a0.f_Key.length : Int))] : List Int).map toU8) ++ a0.f_Key) ++ a0.f_Value)))]) (L := []) (n := 0) ?_ ?_
  · exact simI (M := []) rfl (And.intro (Vw.same _ rfl) trivial) trivial
  refine retI ?_
  cases h
  exact And.intro trivial (And.intro rfl (Vw.same _ rfl))

noncomputable def S_glossatorref3_Frame (m : Option Nat) (a0 : G_QRecord) : Option (List UInt8) :=
  if a0.f_Deleted = true then
    S_glossatorref3_Frame_j1 m a0 1
  else
    S_glossatorref3_Frame_j1 m a0 0

theorem f16_start {a0 : G_QRecord} {m : Option Nat} {o : (List UInt8)} (h : S_glossatorref3_Frame m a0 = some o) : LWp Try.prog f16_lay 0 f16_c1 (f16_Q a0 o) (initEnv 0 [.agg [.str a0.f_Key, .str a0.f_Value, .bool a0.f_Deleted]]) [] 0 := by
  unfold S_glossatorref3_Frame at h
  refine seqI ?_
  refine regI ?_
  refine seqI ?_
  refine regI ?_
  refine seqI ?_
  refine seqI ?_
  refine regI ?_
  refine condI (v := a0.f_Deleted) rfl trivial (fun h1 => ?_) (fun h1 => ?_)
  · have h := ite_tt h1 h
    refine regI ?_
    refine LWp.sim ?_ (f16_j1_ok h)
    exact simI (M := [((0, 0), (0, 0))]) rfl (And.intro (Vw.ptr _ _ _ _ rfl) (And.intro (Vw.same _ rfl) trivial)) (And.intro (And.intro rfl (BVw.oneL (And.intro (Vw.same _ rfl) (And.intro (Vw.same _ rfl) (And.intro (Vw.same _ rfl) trivial))))) trivial)
  · have h := ite_ff h1 h
    refine skipI ?_
    refine LWp.sim ?_ (f16_j1_ok h)
    exact simI (M := [((0, 0), (0, 0))]) rfl (And.intro (Vw.ptr _ _ _ _ rfl) (And.intro (Vw.same _ rfl) trivial)) (And.intro (And.intro rfl (BVw.oneL (And.intro (Vw.same _ rfl) (And.intro (Vw.same _ rfl) (And.intro (Vw.same _ rfl) trivial))))) trivial)

theorem f16_ok {a0 : G_QRecord} {m : Option Nat} {o : (List UInt8)} (h : S_glossatorref3_Frame m a0 = some o) : PFn Try.prog 16 [.agg [.str a0.f_Key, .str a0.f_Value, .bool a0.f_Deleted]] (.str o) := PFn.ofFnW (L := f16_L) f16_low f16_fok (Nat.le_of_ble_eq_true rfl) rfl (f16_start h)

def f4_c1 : LCode := (.seq (.region [⟨some 30, .bin .lss (.t 29) (.t 28), none⟩])
 (.seq (.cond (.t 30)
  .skip
  (.exit 0))
 (.seq (.block 1
  (.seq (.region [⟨some 31, .iaddr 3 (.t 27) (.t 29), none⟩,
    ⟨some 32, .load true 3 (.t 31), none⟩,
    ⟨some 7, .alloc [(.str []), (.int .u32 0), (.isl 1 [] true)], none⟩,
    ⟨none, .store 3 (.t 7) (.t 32), none⟩])
  (.draw [⟨⟨some 33, .mv (.t 5), none⟩, []⟩,
    ⟨⟨some 34, .faddr 0 (.t 7), none⟩, []⟩,
    ⟨⟨some 35, .load false 1 (.t 34), none⟩, []⟩,
    ⟨⟨some 36, .load true 3 (.t 7), none⟩, []⟩,
    ⟨⟨some 37, .call 17 [(.t 36)], none⟩, [2]⟩,
    ⟨⟨some 38, .build [(.str []), (.str []), (.bool false)] [(0, 1, (.t 35)), (1, 1, (.t 37))], none⟩, []⟩,
    ⟨⟨some 39, .call 16 [(.t 38)], none⟩, []⟩,
    ⟨⟨some 40, .bin .add (.t 33) (.t 39), none⟩, []⟩,
    ⟨⟨some 5, .mv (.t 40), none⟩, []⟩])))
 (.region [⟨some 41, .bin .add (.t 29) (.c (.int .i64 1)), none⟩,
   ⟨some 29, .mv (.t 41), none⟩]))))
def f4_c0 : LCode := (.seq (.seq (.region [⟨some 42, .mv (.t 5), none⟩,
   ⟨some 43, .len true (.t 42), none⟩,
   ⟨some 44, .bin .gtr (.t 43) (.c (.int .i64 40000)), none⟩])
 (.cond (.t 44)
  (.seq (.region [⟨some 45, .call 6 [], none⟩,
    ⟨some 46, .mv (.t 45), none⟩,
    ⟨some 47, .mv (.t 4), some (46, true)⟩,
    ⟨some 48, .bin .eql (.t 47) (.c (.int .i64 2)), some (46, true)⟩,
    ⟨some 49, .pick (.t 46) (.t 48) (.c (.bool false)), none⟩,
    ⟨some 50, .mv (.t 49), none⟩,
    ⟨some 51, .mv (.t 3), some (50, true)⟩,
    ⟨some 52, .bin .eql (.t 51) (.c (.str [])), some (50, true)⟩,
    ⟨some 53, .pick (.t 50) (.t 52) (.c (.bool false)), none⟩,
    ⟨some 2, .mv (.t 53), none⟩])
  .ret)
  .skip))
 (.seq (.region [⟨some 54, .call 6 [], none⟩,
   ⟨some 55, .mv (.t 54), none⟩,
   ⟨some 56, .mv (.t 4), some (55, true)⟩,
   ⟨some 57, .bin .eql (.t 56) (.c (.int .i64 0)), some (55, true)⟩,
   ⟨some 58, .pick (.t 55) (.t 57) (.c (.bool false)), none⟩,
   ⟨some 59, .mv (.t 58), none⟩,
   ⟨some 60, .mv (.t 3), some (59, true)⟩,
   ⟨some 61, .mv (.t 5), some (59, true)⟩,
   ⟨some 62, .bin .eql (.t 60) (.t 61), some (59, true)⟩,
   ⟨some 63, .pick (.t 59) (.t 62) (.c (.bool false)), none⟩,
   ⟨some 2, .mv (.t 63), none⟩])
 .ret))
def f4_c2 : LCode := (.seq (.region [⟨some 2, .mv (.c (.bool false)), none⟩])
 (.seq (.seq (.region [⟨some 8, .call 6 [], none⟩,
   ⟨some 9, .un .not (.t 8), none⟩])
 (.cond (.t 9)
  (.seq (.region [⟨some 2, .mv (.c (.bool false)), none⟩])
  .ret)
  .skip))
 (.seq (.region [⟨some 11, .mv (.t 0), none⟩,
   ⟨some 12, .call 14 [(.t 11)], none⟩,
   ⟨some 10, .mv (.t 12), none⟩,
   ⟨some 13, .ext 0 (.t 10), none⟩,
   ⟨some 14, .ext 1 (.t 10), none⟩,
   ⟨some 3, .mv (.t 13), none⟩,
   ⟨some 4, .mv (.t 14), none⟩])
 (.seq (.seq (.region [⟨some 15, .mv (.t 0), none⟩,
   ⟨some 16, .call 15 [(.t 15)], none⟩,
   ⟨some 17, .un .not (.t 16), none⟩])
 (.cond (.t 17)
  (.seq (.region [⟨some 18, .call 6 [], none⟩,
    ⟨some 19, .mv (.t 18), none⟩,
    ⟨some 20, .mv (.t 4), some (19, true)⟩,
    ⟨some 21, .bin .eql (.t 20) (.c (.int .i64 3)), some (19, true)⟩,
    ⟨some 22, .pick (.t 19) (.t 21) (.c (.bool false)), none⟩,
    ⟨some 23, .mv (.t 22), none⟩,
    ⟨some 24, .mv (.t 3), some (23, true)⟩,
    ⟨some 25, .bin .eql (.t 24) (.c (.str [])), some (23, true)⟩,
    ⟨some 26, .pick (.t 23) (.t 25) (.c (.bool false)), none⟩,
    ⟨some 2, .mv (.t 26), none⟩])
  .ret)
  .skip))
 (.seq (.region [⟨some 5, .mv (.c (.str [])), none⟩])
 (.seq (.seq (.region [⟨some 27, .mv (.t 0), none⟩,
   ⟨some 28, .len false (.t 27), none⟩,
   ⟨some 29, .mv (.c (.int .i64 0)), none⟩])
 (.block 0
  (.loop
   f4_c1)))
 f4_c0))))))
def f4_lay : Lay := ⟨64, [], false⟩
def f4_res : List LRes := [.t 2]
def f4_L : LFn := ⟨1, f4_lay, f4_c2, f4_res⟩
theorem f4_low : lowFn Try.prog [] 4 = some f4_L := by kernel_rfl
theorem f4_fok : FnOk Try.prog 4 := ⟨_, Try.func4, rfl, rfl⟩
def f4_Q (a0 : List G_QIndexEntry) (o : Bool) : Exit → Env → AHeap → Nat → Prop := FinK f4_res (PureEnd (.bool o))

def f4_L1_env (a0 : List G_QIndexEntry) (v2 : (List UInt8) × Int) (s : ((List UInt8) × Int)) : Env := [(3, .str v2.1), (4, .int .i64 v2.2), (5, .str s.1), (27, .isl 3 (a0.map e_QIndexEntry) false), (28, .int .i64 ((a0.map e_QIndexEntry).length : Int)), (29, .int .i64 s.2)]
def f4_L1_hp (a0 : List G_QIndexEntry) (v2 : (List UInt8) × Int) (s : ((List UInt8) × Int)) : AHeap := []
def f4_L1_Q (a0 : List G_QIndexEntry) (o : Bool) : Exit → Env → AHeap → Nat → Prop := (QBlock 0 (QSeq Try.prog f4_lay 0 f4_c0 (f4_Q a0 o)))

noncomputable def S_glossatorlaw3_WordindexSave_j1 (m : Option Nat) (v2 : (List UInt8) × Int) (v7 : List UInt8) : Option Bool :=
  if (decide ((v7.length : Int) > 40000)) = true then
    (S_glossatorlaw3_indexExample m).bind fun v13 =>
    some ((v13 && (v2.2 == 2)) && (v2.1 == ([] : List UInt8)))
  else
    (S_glossatorlaw3_indexExample m).bind fun v14 =>
    some ((v14 && (v2.2 == 0)) && (v2.1 == v7))

noncomputable def S_glossatorlaw3_WordindexSave_b1 (m : Option Nat) (a0 : List G_QIndexEntry) (v2 : (List UInt8) × Int) (v7 : List UInt8) (v8 : Int) : Option (((List UInt8) × Int) ⊕ Bool) :=
  if (decide (v8 < ((a0.map e_QIndexEntry).length : Int))) = true then
    if (0 : Int) ≤ v8 ∧ v8 < ((a0.map e_QIndexEntry).length : Int) then
    (S_glossatorref3_EntryValue m (G_QIndexEntry.mk ((a0.getD v8.toNat default).f_Name) ((a0.getD v8.toNat default).f_Sum) ((a0.getD v8.toNat default).f_Words))).bind fun v11 =>
    (S_glossatorref3_Frame m (G_QRecord.mk ((a0.getD v8.toNat default).f_Name) v11 false)).bind fun v12 =>
    if (((v7.length + v12.length : Nat) : Int) ≤ 9223372036854775807) then
    some (.inl ((v7 ++ v12), (W (v8 + 1))))
    else none
    else none
  else
    Option.map Sum.inr (
      S_glossatorlaw3_WordindexSave_j1 m v2 v7)

noncomputable def S_glossatorlaw3_WordindexSave_l1 (m : Option Nat) (a0 : List G_QIndexEntry) (v2 : (List UInt8) × Int) (v7 : List UInt8) (v8 : Int) : Option Bool := loopM m (fun (s : ((List UInt8) × Int)) => S_glossatorlaw3_WordindexSave_b1 m a0 v2 s.1 s.2) (v7, v8)

theorem f4_j1_ok {a0 : List G_QIndexEntry} {v2 : (List UInt8) × Int} {v7 : List UInt8} {m : Option Nat} {o : Bool} (h : S_glossatorlaw3_WordindexSave_j1 m v2 v7 = some o) :
    LWp Try.prog f4_lay 0 f4_c0 (f4_Q a0 o) [(3, .str v2.1), (4, .int .i64 v2.2), (5, .str v7)] [] 0 := by
  unfold S_glossatorlaw3_WordindexSave_j1 at h
  refine seqI ?_
  refine seqI ?_
  refine regI ?_
  refine condI (v := (decide ((v7.length : Int) > 40000))) rfl trivial (fun h22 => ?_) (fun h22 => ?_)
  · have h := ite_tt h22 h
    refine seqI ?_
    refine regI ?_
    obtain ⟨v13, h23, h⟩ := bind_some h
    refine PFn.call (f6_ok h23) trivial ?_
    refine And.intro (fun hp => hp) ?_
    show yops _ _ _ [(48, .cnd (v13 == true) (.bool (v2.2 == 2))), (47, .cnd (v13 == true) (.int .i64 v2.2)), (46, .bool v13), (45, .bool v13), (44, .bool (decide ((v7.length : Int) > 40000))), (43, .int .i64 (v7.length : Int)), (42, .str v7), (3, .str v2.1), (4, .int .i64 v2.2), (5, .str v7)] _ _
    refine And.intro (fun hc => (bqt hc)) ?_
    refine And.intro (fun hp => hp) ?_
    refine And.intro (fun hc => (bqt hc)) ?_
    show yops _ _ _ [(53, .bool ((v13 && (v2.2 == 2)) && (v2.1 == ([] : List UInt8)))), (52, .cnd ((v13 && (v2.2 == 2)) == true) (.bool (v2.1 == ([] : List UInt8)))), (51, .cnd ((v13 && (v2.2 == 2)) == true) (.str v2.1)), (50, .bool (v13 && (v2.2 == 2))), (49, .bool (v13 && (v2.2 == 2))), (48, .cnd (v13 == true) (.bool (v2.2 == 2))), (47, .cnd (v13 == true) (.int .i64 v2.2)), (46, .bool v13), (45, .bool v13), (44, .bool (decide ((v7.length : Int) > 40000))), (43, .int .i64 (v7.length : Int)), (42, .str v7), (3, .str v2.1), (4, .int .i64 v2.2), (5, .str v7)] _ _
    refine LWp.sim (e := [(2, .bool ((v13 && (v2.2 == 2)) && (v2.1 == ([] : List UInt8))))]) (L := []) (n := 0) ?_ ?_
    · exact simI (M := []) rfl (And.intro (Vw.same _ rfl) trivial) trivial
    refine retI ?_
    cases h
    exact And.intro trivial (And.intro rfl (Vw.same _ rfl))
  · have h := ite_ff h22 h
    refine skipI ?_
    refine seqI ?_
    refine regI ?_
    obtain ⟨v14, h24, h⟩ := bind_some h
    refine PFn.call (f6_ok h24) trivial ?_
    refine And.intro (fun hp => hp) ?_
    show yops _ _ _ [(57, .cnd (v14 == true) (.bool (v2.2 == 0))), (56, .cnd (v14 == true) (.int .i64 v2.2)), (55, .bool v14), (54, .bool v14), (44, .bool (decide ((v7.length : Int) > 40000))), (43, .int .i64 (v7.length : Int)), (42, .str v7), (3, .str v2.1), (4, .int .i64 v2.2), (5, .str v7)] _ _
    refine And.intro (fun hc => (bqt hc)) ?_
    refine And.intro (fun hp => (And.intro hp hp)) ?_
    show yops _ _ _ [(62, .cnd ((v14 && (v2.2 == 0)) == true) (.bool (v2.1 == v7))), (61, .cnd ((v14 && (v2.2 == 0)) == true) (.str v7)), (60, .cnd ((v14 && (v2.2 == 0)) == true) (.str v2.1)), (59, .bool (v14 && (v2.2 == 0))), (58, .bool (v14 && (v2.2 == 0))), (57, .cnd (v14 == true) (.bool (v2.2 == 0))), (56, .cnd (v14 == true) (.int .i64 v2.2)), (55, .bool v14), (54, .bool v14), (44, .bool (decide ((v7.length : Int) > 40000))), (43, .int .i64 (v7.length : Int)), (42, .str v7), (3, .str v2.1), (4, .int .i64 v2.2), (5, .str v7)] _ _
    refine And.intro (fun hc => (bqt hc)) ?_
    refine LWp.sim (e := [(2, .bool ((v14 && (v2.2 == 0)) && (v2.1 == v7)))]) (L := []) (n := 0) ?_ ?_
    · exact simI (M := []) rfl (And.intro (Vw.same _ rfl) trivial) trivial
    refine retI ?_
    cases h
    exact And.intro trivial (And.intro rfl (Vw.same _ rfl))

theorem f4_L1_bok {a0 : List G_QIndexEntry} {v2 : (List UInt8) × Int} {v7 : List UInt8} {v8 : Int} {m : Option Nat} {o : ((List UInt8) × Int) ⊕ Bool} (h : S_glossatorlaw3_WordindexSave_b1 m a0 v2 v7 v8 = some o) :
    LWp Try.prog f4_lay 0 f4_c1 (BodyQ 0 0 (f4_L1_env a0 v2) (f4_L1_hp a0 v2) (f4_L1_Q a0) o) [(3, .str v2.1), (4, .int .i64 v2.2), (5, .str v7), (27, .isl 3 (a0.map e_QIndexEntry) false), (28, .int .i64 ((a0.map e_QIndexEntry).length : Int)), (29, .int .i64 v8)] [] 0 := by
  unfold S_glossatorlaw3_WordindexSave_b1 at h
  refine seqI ?_
  refine regI ?_
  refine seqI ?_
  refine condI (v := (decide (v8 < ((a0.map e_QIndexEntry).length : Int)))) rfl trivial (fun h17 => ?_) (fun h17 => ?_)
  · have h := ite_tt h17 h
    refine skipI ?_
    refine seqI ?_
    refine blockI ?_
    refine seqI ?_
    refine regI ?_
    obtain ⟨h18, h⟩ := ite_some h
    refine And.intro h18 ?_
    refine Exists.intro (e_QIndexEntry (a0.getD v8.toNat default)) (And.intro (getD_enc e_QIndexEntry _ _ (idx_ltL e_QIndexEntry h18)) (And.intro (And.intro (idx_lt h18) (Nat.le_of_ble_eq_true rfl)) ?_))
    refine drawI ?_
    obtain ⟨v11, h19, h⟩ := bind_some h
    refine PFn.call (f17_ok h19) (And.intro (Vw.same _ rfl) trivial) ?_
    refine And.intro rfl ?_
    obtain ⟨v12, h20, h⟩ := bind_some h
    refine PFn.call (f16_ok h20) (And.intro (Vw.same _ rfl) trivial) ?_
    show yd _ _ _ _ _ [(39, .str v12), (38, .agg [.str ((a0.getD v8.toNat default).f_Name), .str v11, .bool false]), (37, .str v11), (36, .agg [.str ((a0.getD v8.toNat default).f_Name), .int .u32 ((a0.getD v8.toNat default).f_Sum), .isl 1 (((a0.getD v8.toNat default).f_Words).map e_str) false]), (35, .str ((a0.getD v8.toNat default).f_Name)), (34, .ptr (0, 0) 0 0), (33, .str v7), (7, .ptr (0, 0) 0 0), (32, .agg [.str ((a0.getD v8.toNat default).f_Name), .int .u32 ((a0.getD v8.toNat default).f_Sum), .isl 1 (((a0.getD v8.toNat default).f_Words).map e_str) false]), (31, .iptr 3 (a0.map e_QIndexEntry) v8.toNat 0), (30, .bool (decide (v8 < ((a0.map e_QIndexEntry).length : Int)))), (3, .str v2.1), (4, .int .i64 v2.2), (5, .str v7), (27, .isl 3 (a0.map e_QIndexEntry) false), (28, .int .i64 ((a0.map e_QIndexEntry).length : Int)), (29, .int .i64 v8)] _ _
    obtain ⟨h21, h⟩ := ite_some h
    refine And.intro h21 ?_
    refine LWp.sim (e := [(3, .str v2.1), (4, .int .i64 v2.2), (5, .str (v7 ++ v12)), (27, .isl 3 (a0.map e_QIndexEntry) false), (28, .int .i64 ((a0.map e_QIndexEntry).length : Int)), (29, .int .i64 v8)]) (L := []) (n := 0) ?_ ?_
    · exact simI (M := []) rfl (And.intro (Vw.same _ rfl) (And.intro (Vw.same _ rfl) (And.intro (Vw.same _ rfl) (And.intro (Vw.same _ rfl) (And.intro (Vw.same _ rfl) (And.intro (Vw.same _ rfl) trivial)))))) trivial
    refine regI ?_
    cases h
    exact And.intro rfl (simI (M := []) rfl (And.intro (Vw.same _ rfl) (And.intro (Vw.same _ rfl) (And.intro (Vw.same _ rfl) (And.intro (Vw.same _ rfl) (And.intro (Vw.same _ rfl) (And.intro (Vw.same _ rfl) trivial)))))) trivial)
  · have h := ite_ff h17 h
    refine exitI ?_
    obtain ⟨o, hq, rfl⟩ := Option.map_eq_some_iff.1 h
    replace h := hq; clear hq
    refine And.intro nofun ?_
    refine LWp.sim ?_ (f4_j1_ok h)
    exact simI (M := []) rfl (And.intro (Vw.same _ rfl) (And.intro (Vw.same _ rfl) (And.intro (Vw.same _ rfl) trivial))) trivial

theorem f4_L1_ok {a0 : List G_QIndexEntry} {v2 : (List UInt8) × Int} {v7 : List UInt8} {v8 : Int} {m : Option Nat} {o : Bool} (h : S_glossatorlaw3_WordindexSave_l1 m a0 v2 v7 v8 = some o) :
    LWp Try.prog f4_lay 0 (.loop f4_c1) (QBlock 0 (QSeq Try.prog f4_lay 0 f4_c0 (f4_Q a0 o))) [(3, .str v2.1), (4, .int .i64 v2.2), (5, .str v7), (27, .isl 3 (a0.map e_QIndexEntry) false), (28, .int .i64 ((a0.map e_QIndexEntry).length : Int)), (29, .int .i64 v8)] [] 0 :=
  LWp_loopM (m := m) (s := ((v7, v8) : ((List UInt8) × Int))) (r := o) (fun (s : ((List UInt8) × Int)) => S_glossatorlaw3_WordindexSave_b1 m a0 v2 s.1 s.2) (f4_L1_env a0 v2) (f4_L1_hp a0 v2) (f4_L1_Q a0) (fun s o h => f4_L1_bok h) h

noncomputable def S_glossatorlaw3_WordindexSave (m : Option Nat) (a0 : List G_QIndexEntry) : Option Bool :=
  (S_glossatorlaw3_indexExample m).bind fun v1 =>
  if (!v1) = true then
    some false
  else
    (S_wordindex_Save m a0).bind fun v2 =>
    (S_glossatorref3_ValidIndex m a0).bind fun v3 =>
    if (!v3) = true then
      (S_glossatorlaw3_indexExample m).bind fun v4 =>
      some ((v4 && (v2.2 == 3)) && (v2.1 == ([] : List UInt8)))
    else
      S_glossatorlaw3_WordindexSave_l1 m a0 v2 ([] : List UInt8) 0

theorem f4_start {a0 : List G_QIndexEntry} {m : Option Nat} {o : Bool} (h : S_glossatorlaw3_WordindexSave m a0 = some o) : LWp Try.prog f4_lay 0 f4_c2 (f4_Q a0 o) (initEnv 0 [.isl 3 (a0.map e_QIndexEntry) false]) [] 0 := by
  unfold S_glossatorlaw3_WordindexSave at h
  refine seqI ?_
  refine regI ?_
  refine seqI ?_
  refine seqI ?_
  refine regI ?_
  obtain ⟨v1, h1, h⟩ := bind_some h
  refine PFn.call (f6_ok h1) trivial ?_
  refine condI (v := (!v1)) rfl trivial (fun h2 => ?_) (fun h2 => ?_)
  · have h := ite_tt h2 h
    refine seqI ?_
    refine regI ?_
    refine retI ?_
    cases h
    exact And.intro trivial (And.intro rfl (Vw.same _ rfl))
  · have h := ite_ff h2 h
    refine skipI ?_
    refine seqI ?_
    refine regI ?_
    obtain ⟨v2, h3, h⟩ := bind_some h
    refine PFn.call (f14_ok h3) (And.intro (Vw.same _ rfl) trivial) ?_
    show yops _ _ _ [(12, .tup [.str v2.1, .int .i64 v2.2]), (11, .isl 3 (a0.map e_QIndexEntry) false), (9, .bool (!v1)), (8, .bool v1), (2, .bool false), (0, .isl 3 (a0.map e_QIndexEntry) false)] _ _
    refine LWp.sim (e := [(0, .isl 3 (a0.map e_QIndexEntry) false), (3, .str v2.1), (4, .int .i64 v2.2)]) (L := []) (n := 0) ?_ ?_
    · exact simI (M := []) rfl (And.intro (Vw.same _ rfl) (And.intro (Vw.same _ rfl) (And.intro (Vw.same _ rfl) trivial))) trivial
    refine seqI ?_
    refine seqI ?_
    refine regI ?_
    obtain ⟨v3, h4, h⟩ := bind_some h
    refine PFn.call (f15_ok h4) (And.intro (Vw.same _ rfl) trivial) ?_
    refine condI (v := (!v3)) rfl trivial (fun h5 => ?_) (fun h5 => ?_)
    · have h := ite_tt h5 h
      refine seqI ?_
      refine regI ?_
      obtain ⟨v4, h6, h⟩ := bind_some h
      refine PFn.call (f6_ok h6) trivial ?_
      refine And.intro (fun hp => hp) ?_
      show yops _ _ _ [(21, .cnd (v4 == true) (.bool (v2.2 == 3))), (20, .cnd (v4 == true) (.int .i64 v2.2)), (19, .bool v4), (18, .bool v4), (17, .bool (!v3)), (16, .bool v3), (15, .isl 3 (a0.map e_QIndexEntry) false), (0, .isl 3 (a0.map e_QIndexEntry) false), (3, .str v2.1), (4, .int .i64 v2.2)] _ _
      refine And.intro (fun hc => (bqt hc)) ?_
      refine And.intro (fun hp => hp) ?_
      refine And.intro (fun hc => (bqt hc)) ?_
      show yops _ _ _ [(26, .bool ((v4 && (v2.2 == 3)) && (v2.1 == ([] : List UInt8)))), (25, .cnd ((v4 && (v2.2 == 3)) == true) (.bool (v2.1 == ([] : List UInt8)))), (24, .cnd ((v4 && (v2.2 == 3)) == true) (.str v2.1)), (23, .bool (v4 && (v2.2 == 3))), (22, .bool (v4 && (v2.2 == 3))), (21, .cnd (v4 == true) (.bool (v2.2 == 3))), (20, .cnd (v4 == true) (.int .i64 v2.2)), (19, .bool v4), (18, .bool v4), (17, .bool (!v3)), (16, .bool v3), (15, .isl 3 (a0.map e_QIndexEntry) false), (0, .isl 3 (a0.map e_QIndexEntry) false), (3, .str v2.1), (4, .int .i64 v2.2)] _ _
      refine LWp.sim (e := [(2, .bool ((v4 && (v2.2 == 3)) && (v2.1 == ([] : List UInt8))))]) (L := []) (n := 0) ?_ ?_
      · exact simI (M := []) rfl (And.intro (Vw.same _ rfl) trivial) trivial
      refine retI ?_
      cases h
      exact And.intro trivial (And.intro rfl (Vw.same _ rfl))
    · have h := ite_ff h5 h
      refine skipI ?_
      refine seqI ?_
      refine regI ?_
      refine seqI ?_
      refine seqI ?_
      refine regI ?_
      refine blockI ?_
      refine LWp.sim ?_ (f4_L1_ok h)
      exact simI (M := []) rfl (And.intro (Vw.same _ rfl) (And.intro (Vw.same _ rfl) (And.intro (Vw.same _ rfl) (And.intro (Vw.same _ rfl) (And.intro (Vw.same _ rfl) (And.intro (Vw.same _ rfl) trivial)))))) trivial

theorem f4_ok {a0 : List G_QIndexEntry} {m : Option Nat} {o : Bool} (h : S_glossatorlaw3_WordindexSave m a0 = some o) : PFn Try.prog 4 [.isl 3 (a0.map e_QIndexEntry) false] (.bool o) := PFn.ofFnW (L := f4_L) f4_low f4_fok (Nat.le_of_ble_eq_true rfl) rfl (f4_start h)
end Go.Proofs.Yteepckliibfnkaa
