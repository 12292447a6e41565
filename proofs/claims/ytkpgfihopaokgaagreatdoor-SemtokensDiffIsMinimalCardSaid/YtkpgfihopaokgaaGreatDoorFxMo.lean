/-
  Own framework.
-/
import Derived.Test.YtkpgfihopaokgaaGreatDoorFxEu
import Derived.Shelf.Strings.Count
import Derived.Shelf.Strings.Fields
import Derived.Test.YtkpgfihopaokgaaGreatDoorFxEz
namespace Go.Fx
open Go.Shelf
set_option linter.unusedVariables false
variable {P : Program}
theorem z3c {ρ : Ren} (L : Proofs.Lays.n138 P ρ) {f : FuncId} (hf : ρ.f 138 = f) (hok : Jm P f) (s : List UInt8) (c : UInt8) :
 PFn P f [.str s, .str [c]] (.int .i64 (Lib.countByte s c)) := by
 subst hf
 exact PFn.lib hok rfl rfl fun w => (Proofs.Any.strings_Count_one L ⟨⟨s⟩⟩ c w).mono fun e w' h => ⟨h.1, Vp h.2⟩
def Yj (fc : Nat) (f : Nat) (xs : List AVal) (S : Sh) : Option Rs :=
 match Nat.beq f fc with
 | true => match xs with
  | [.str s, .str [c]] => some (some (.int .i64 (Lib.countByte s c), S))
  | _ => none
 | false => none
theorem z6y {fc : Nat} (h0 : ∀ (s : List UInt8) (c : UInt8), PFn P fc [.str s, .str [c]] (.int .i64 (Lib.countByte s c))) : xx P (Yj fc) := by
 intro f xs S r S' h D H n hs
 unfold Yj at h
 split at h <;> try (cases h; done)
 rename_i hf
 have hf := zn.1 hf
 subst hf
 split at h <;> try (cases h; done)
 rename_i s c
 simp only [Option.some.injEq, Prod.mk.injEq] at h
 obtain ⟨rfl, rfl⟩ := h
 exact PFn.call (h0 s c) (And.intro (Vw.same _ rfl) (And.intro (Vw.same _ rfl) trivial)) ⟨rfl, hs⟩
open Go.Shelf Go.RowKit Go.Lib Go.Proofs
variable {P : Program}
def Ud : List Value := (List.range 256).map fun c => .int .u8 (if Lib.isSp (UInt8.ofNat c) then 1 else 0)
theorem Kr {ρ : Ren} (L : Lays.n157 P ρ) (hi9 : (P.info? (ρ.t 9)).map (fun i => (i.zero, i.size, i.bytes)) = some (some (.string ByteArray.empty), 1, 16)) {f : FuncId} (hf : ρ.f 157 = f) (hok : Jm P f) (hg : (ρ.g 0, Ud) ∈ GL) {s : List UInt8} (hs : s.length < 4294967281)
 (ha : s.all (fun b => decide (b.toNat < 128)) = true) {H : AHeap} {n : Nat} {K : AVal → AHeap → Nat → Prop} (hk : K (.msl (n, 0) 1 0 (Lib.fields s).length true) (((n, 0), .rows 1 ((Lib.fields s).map fun l => [.str l])) :: H) (n + 1)) : ACalls P f [.str s] H n K := by
 subst hf
 refine ⟨hok, fun I β w vs hI hl hr => ?_⟩
 obtain ⟨v, rfl⟩ : ∃ v, vs = [v] := by
  match vs, hl with
  | [v], _ => exact ⟨v, rfl⟩
 have hv : v = zbh (.str s) := z10 rfl (hr 0 _ v rfl rfl)
 subst hv
 have hT : ∀ c : Nat, c < 256 → w.cell? ⟨ρ.g 0, c, none⟩ = some (.int .u8 (if Lib.isSp (UInt8.ofNat c) then 1 else 0)) := fun c hc => ((hI.glob.1 _ hg).2 c _ (by simp [Ud, hc])).2
 refine (Any.strings_Fields_core L hi9 ⟨⟨s⟩⟩ w (by simpa [ByteArray.size] using hs) (fun j b hb => by simpa using List.all_eq_true.1 ha b (List.mem_of_getElem? hb)) hT).mono ?_
 rintro e w' ⟨rfl, rfl⟩
 have hrows : RowsIn I β n w 1 0 ((Lib.fields s).map fun l => [.str l]) ((Lib.fields s).map fun l => Value.string ⟨l.toArray⟩).toArray := by
  refine ⟨by simp, fun i r hi => ?_, fun i r j x hi hj => ?_⟩
  ·simp only [List.getElem?_map, Option.map_eq_some_iff] at hi
   obtain ⟨l, _, rfl⟩ := hi
   rfl
  ·simp only [List.getElem?_map, Option.map_eq_some_iff] at hi
   obtain ⟨l, hl, rfl⟩ := hi
   cases j with
   | zero =>
    simp only [List.getElem?_cons_zero, Option.some.injEq] at hj
    subst hj
    exact ⟨.string ⟨l.toArray⟩, by simp [hl], rfl, .imm _ _ (.str _)⟩
   | succ j => simp at hj
 obtain ⟨r, H', n', I', β', g1, g2, g3, g4⟩ := Z5 (K := K) hI (el := ρ.t 9) (fr := (0, 0)) (yp w _) (fun k h => j5 k _ h) EndOk.zero hrows hk (jo (cap := (Lib.fields s).length) _ (Nat.le_refl _) (fun _ => rfl) (by simp))
 exact ⟨r, _, H', n', I', β', rfl, g1, g2, g3, g4⟩
def k9 (ff : Nat) (f : Nat) (xs : List AVal) (S : Sh) : Option Rs :=
 match Nat.beq f ff with
 | true => match xs with
  | [.str s] => match zbs s && Nat.ble s.length 4294967280 with
   | true => some (jq (.msl (S.n, 0) 1 0 (Lib.fields s).length true) (S.new (.rows 1 ((Lib.fields s).map fun l => [.str l]))))
   | false => none
  | _ => none
 | false => none
theorem z1g : ∀ {l : List UInt8}, zbs l = true → l.all (fun b => decide (b.toNat < 128)) = true
 | [], _ => rfl
 | b :: r, h => by
  unfold zbs at h
  split at h <;> try (cases h; done)
  rename_i hb
  have hb := yi.1 hb
  simp only [List.all_cons, Bool.and_eq_true, decide_eq_true_eq]
  exact ⟨by omega, z1g h⟩
theorem z29 {ff : Nat} (h0 : ∀ {s : List UInt8}, s.length < 4294967281 → s.all (fun b => decide (b.toNat < 128)) = true → ∀ {H : AHeap} {n : Nat} {K : AVal → AHeap → Nat → Prop}, K (.msl (n, 0) 1 0 (Lib.fields s).length true) (((n, 0), .rows 1 ((Lib.fields s).map fun l => [.str l])) :: H) (n + 1) → ACalls P ff [.str s] H n K) : xx P (k9 ff) := by
 intro f xs S r S' h D H n hs
 unfold k9 at h
 split at h <;> try (cases h; done)
 rename_i hf
 have hf := zn.1 hf
 subst hf
 split at h <;> try (cases h; done)
 rename_i s
 split at h <;> try (cases h; done)
 rename_i hc
 simp only [Bool.and_eq_true, yi] at hc
 simp only [Option.some.injEq] at h
 obtain ⟨rfl, hw⟩ := yt h
 exact h0 (by omega) (z1g hc.1) ⟨by rw [hs.n], hs.new hw⟩
def eqI : Int → Int → Bool
 | .ofNat a, .ofNat b => Nat.beq a b
 | .negSucc a, .negSucc b => Nat.beq a b
 | _, _ => false
theorem zdn {a b : Int} (h : eqI a b = true) : a = b := by
 cases a <;> cases b <;> simp only [eqI, Bool.false_eq_true] at h <;> exact congrArg _ (Nat.eq_of_beq_eq_true h)
def zcb : List UInt8 → List UInt8 → Bool
 | [], [] => true
 | a :: r, b :: s => Nat.beq a.toNat b.toNat && zcb r s
 | _, _ => false
theorem z0b : ∀ {a b : List UInt8}, zcb a b = true → a = b
 | [], [], _ => rfl
 | a :: r, b :: s, h => by
  simp only [zcb, Bool.and_eq_true] at h
  rw [UInt8.toNat_inj.1 (Nat.eq_of_beq_eq_true h.1), z0b h.2]
 | [], _ :: _, h => by cases h
 | _ :: _, [], h => by cases h
def zbe (a b : Id) : Bool := Nat.beq a.1 b.1 && Nat.beq a.2 b.2
theorem Wk {a b : Id} (h : zbe a b = true) : a = b := by
 simp only [zbe, Bool.and_eq_true] at h
 exact Prod.ext (Nat.eq_of_beq_eq_true h.1) (Nat.eq_of_beq_eq_true h.2)
def zan : Value → Value → Bool
 | .pointer none, .pointer none => true
 | .slice none 0 0, .slice none 0 0 => true
 | .map none, .map none => true
 | .nilFunc, .nilFunc => true
 | .nilIface, .nilIface => true
 | _, _ => false
theorem z89 {a b : Value} (h : zan a b = true) : a = b := by
 unfold zan at h
 split at h <;> first | rfl | cases h
mutual
def eqA : AVal → AVal → Bool
 | .any, .any => true
 | .bool a, .bool b => a == b
 | .int k a, .int k' b => J4 k k' && eqI a b
 | .str l, .str l' => zcb l l'
 | .val v, .val v' => zan v v'
 | .agg l, .agg l' => eqL l l'
 | .tup l, .tup l' => eqL l l'
 | .isl s es f, .isl s' es' f' => Nat.beq s s' && zab es es' && (f == f')
 | .ptr b i o, .ptr b' i' o' => zbe b b' && Nat.beq i i' && Nat.beq o o'
 | .msl b s o l f, .msl b' s' o' l' f' => zbe b b' && Nat.beq s s' && Nat.beq o o' && Nat.beq l l' && (f == f')
 | .map b, .map b' => zbe b b'
 | .fn (.func f) a c, .fn (.func f') a' c' => Nat.beq f f' && eqL a a' && eqL c c'
 | .ifc t v, .ifc t' v' => Nat.beq t t' && eqA v v'
 | .cnd p x, .cnd p' x' => (p == p') && eqA x x'
 | _, _ => false
def eqL : List AVal → List AVal → Bool
 | [], [] => true
 | x :: r, y :: s => eqA x y && eqL r s
 | _, _ => false
def zab : List (List AVal) → List (List AVal) → Bool
 | [], [] => true
 | x :: r, y :: s => eqL x y && zab r s
 | _, _ => false
end
mutual
theorem Ue : ∀ {x y : AVal}, eqA x y = true → x = y := by
 intro x y h
 unfold eqA at h
 split at h
 case h_1 => rfl
 case h_2 => rw [eq_of_beq h]
 case h_3 => simp only [Bool.and_eq_true, kx] at h; rw [h.1, zdn h.2]
 case h_4 => rw [z0b h]
 case h_5 => rw [z89 h]
 case h_6 => rw [Yl h]
 case h_7 => rw [Yl h]
 case h_8 => simp only [Bool.and_eq_true, zn] at h; rw [h.1.1, Ul h.1.2, eq_of_beq h.2]
 case h_9 => simp only [Bool.and_eq_true, zn] at h; rw [Wk h.1.1, h.1.2, h.2]
 case h_10 => simp only [Bool.and_eq_true, zn] at h; rw [Wk h.1.1.1.1, h.1.1.1.2, h.1.1.2, h.1.2, eq_of_beq h.2]
 case h_11 => rw [Wk h]
 case h_12 => simp only [Bool.and_eq_true, zn] at h; rw [h.1.1, Yl h.1.2, Yl h.2]
 case h_13 => simp only [Bool.and_eq_true, zn] at h; rw [h.1, Ue h.2]
 case h_14 => simp only [Bool.and_eq_true] at h; rw [eq_of_beq h.1, Ue h.2]
 case h_15 => cases h
theorem Yl : ∀ {x y : List AVal}, eqL x y = true → x = y
 | [], [], _ => rfl
 | a :: r, b :: s, h => by
  simp only [eqL, Bool.and_eq_true] at h
  rw [Ue h.1, Yl h.2]
 | [], _ :: _, h => by simp [eqL] at h
 | _ :: _, [], h => by simp [eqL] at h
theorem Ul : ∀ {x y : List (List AVal)}, zab x y = true → x = y
 | [], [], _ => rfl
 | a :: r, b :: s, h => by
  simp only [zab, Bool.and_eq_true] at h
  rw [Yl h.1, Ul h.2]
 | [], _ :: _, h => by simp [zab] at h
 | _ :: _, [], h => by simp [zab] at h
end
def eqM : List (AVal × AVal) → List (AVal × AVal) → Bool
 | [], [] => true
 | x :: r, y :: s => eqA x.1 y.1 && eqA x.2 y.2 && eqM r s
 | _, _ => false
theorem z96 : ∀ {x y : List (AVal × AVal)}, eqM x y = true → x = y
 | [], [], _ => rfl
 | a :: r, b :: s, h => by
  simp only [eqM, Bool.and_eq_true] at h
  rw [Prod.ext (Ue h.1.1) (Ue h.1.2), z96 h.2]
 | [], _ :: _, h => by cases h
 | _ :: _, [], h => by cases h
def eqB : ABlock → ABlock → Bool
 | .rows s es, .rows s' es' => Nat.beq s s' && zab es es'
 | .one l, .one l' => eqL l l'
 | .amap l, .amap l' => eqM l l'
 | .tok, .tok => true
 | .bld T g, .bld T' g' => Nat.beq T T' && zbe g g'
 | .buf e l, .buf e' l' => Nat.beq e e' && zcb l l'
 | _, _ => false
theorem zd8 {x y : ABlock} (h : eqB x y = true) : x = y := by
 unfold eqB at h
 split at h
 case h_1 => simp only [Bool.and_eq_true, zn] at h; rw [h.1, Ul h.2]
 case h_2 => rw [Yl h]
 case h_3 => rw [z96 h]
 case h_4 => rfl
 case h_5 => simp only [Bool.and_eq_true, zn] at h; rw [h.1, Wk h.2]
 case h_6 => simp only [Bool.and_eq_true, zn] at h; rw [h.1, z0b h.2]
 case h_7 => cases h
def eqO : Option ABlock → Option ABlock → Bool
 | none, none => true
 | some a, some b => eqB a b
 | _, _ => false
def eqT : Tr ABlock → Tr ABlock → Bool
 | .nil, .nil => true
 | .nd v l r, .nd v' l' r' => eqO v v' && eqT l l' && eqT r r'
 | _, _ => false
theorem zdh {x y : Option ABlock} (h : eqO x y = true) : x = y := by
 cases x <;> cases y <;> simp only [eqO, Bool.false_eq_true] at h
 ·rfl
 ·rw [zd8 h]
theorem z4a : ∀ {x y : Tr ABlock}, eqT x y = true → x = y
 | .nil, .nil, _ => rfl
 | .nd v l r, .nd v' l' r', h => by
  simp only [eqT, Bool.and_eq_true] at h
  rw [zdh h.1.1, z4a h.1.2, z4a h.2]
 | .nil, .nd .., h => by cases h
 | .nd .., .nil, h => by cases h
def z2b (f0 : Nat) (args0 : List AVal) (S0 : Sh) (r : AVal) (S1 : Sh) (f : Nat) (xs : List AVal) (S : Sh) : Option Rs :=
 match Nat.beq f f0 with
 | true => match Nat.beq S.n S0.n && eqL xs args0 && eqT S.t S0.t with
  | true => some (some (r, S1))
  | false => none
 | false => none
variable {P : Program}
theorem Yz {F : Nat → Option LFn} {X : Nat → List AVal → Sh → Option Rs} {B : Nat → Option (Bool × Nat)} (hF : Uf P F) (hX : xx P X) (hB : Jn P B) {m f0 : Nat} {args0 : List AVal} {S0 S1 : Sh} {r : AVal} (h0 : (ev F X B m).1 f0 args0 S0 = some (r, S1)) : xx P (z2b f0 args0 S0 r S1) := by
 intro f xs S r' S' h D H n hs
 unfold z2b at h
 split at h <;> try (cases h; done)
 rename_i hf
 split at h <;> try (cases h; done)
 rename_i hc
 simp only [Bool.and_eq_true] at hc
 simp only [Option.some.injEq, Prod.mk.injEq] at h
 obtain ⟨rfl, rfl⟩ := h
 have e1 := Nat.eq_of_beq_eq_true hf
 have e2 := Yl hc.1.2
 have e3 := z4a hc.2
 have e4 := Nat.eq_of_beq_eq_true hc.1.1
 have e5 : S = S0 := by cases S; cases S0; simp_all
 subst e1 e2 e5
 exact (z20 hF hX hB m).1 _ _ _ _ _ h0 H n hs
end Go.Fx
