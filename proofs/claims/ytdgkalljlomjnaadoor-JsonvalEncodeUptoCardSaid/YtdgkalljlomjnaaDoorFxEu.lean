/-
  Own framework.
-/
import Derived.Test.YtdgkalljlomjnaaDoorFxEz
import Derived.Test.YtdgkalljlomjnaaDoorFxBw
import Derived.Test.YtdgkalljlomjnaaDoorFxLg
import Derived.Test.YtdgkalljlomjnaaDoorFxMd
import Derived.Test.YtdgkalljlomjnaaDoorFxN
namespace Go.Fx
open Go.Shelf
set_option linter.unusedVariables false
variable {P : Program}
def orX (X1 X2 : Nat → List AVal → Sh → Option Rs) : Nat → List AVal → Sh → Option Rs := fun f xs S => match X1 f xs S with
 | some r => some r
 | none => X2 f xs S
theorem zbd {X1 X2 : Nat → List AVal → Sh → Option Rs} (h1 : X6 P X1) (h2 : X6 P X2) : X6 P (orX X1 X2) := by
 intro f xs S r S' h
 unfold orX at h
 split at h
 ·rename_i h'
  simp only [Option.some.injEq] at h
  subst h
  exact h1 f xs S r S' h'
 ·exact h2 f xs S r S' h
def zni (fb fl : Nat) (T e : TypeId) (f : Nat) (xs : List AVal) (S : Sh) : Option Rs :=
 match Nat.beq f fb with
 | true => match xs with
  | [.ptr b 0 0, .int .u8 (.ofNat k)] => match S.t.at b with
   | some (.bld T' g) => match S.t.at g with
    | some (.buf e' bs) => match Nat.beq T' T && Nat.beq e' e && Nat.ble (bs.length + 1) 140737488355328 && Nat.ble k 255 with
     | true => match S.upd b (.bld T (S.n, 0)) with
      | some S1 => match S1.cut g with
       | some S2 => some (Y0 (.val .nilIface) (S2.new (.buf e (bs ++ [UInt8.ofNat k]))))
       | none => some none
      | none => some none
     | false => some none
    | _ => some none
   | _ => some none
  | _ => some none
 | false => match Nat.beq f fl with
  | true => match xs with
   | [.ptr b 0 0] => match S.t.at b with
    | some (.bld T' g) => match S.t.at g with
     | some (.buf _ bs) => match Nat.beq T' T with
      | true => some (some (.int .i64 (bs.length : Int), S))
      | false => some none
     | _ => some none
    | _ => some none
   | _ => some none
  | false => none
theorem zjz {fb fl : Nat} {T e tb : TypeId} (hW : BByte P fb T e tb) (hS : BLen P fl T) : X6 P (zni fb fl T e) := by
 intro f xs S r S' h H n hs
 unfold zni at h
 split at h
 ·rename_i hf
  have hf := yt.1 hf
  subst hf
  split at h <;> try (cases h; done)
  rename_i b k
  split at h <;> try (cases h; done)
  rename_i T' g hb
  split at h <;> try (cases h; done)
  rename_i e' bs hg
  split at h <;> try (cases h; done)
  rename_i hc
  simp only [Bool.and_eq_true, yt, xu] at hc
  obtain ⟨⟨⟨rfl, rfl⟩, hlen⟩, hk⟩ := hc
  split at h <;> try (cases h; done)
  rename_i S1 h1
  split at h <;> try (cases h; done)
  rename_i S2 h2
  simp only [Option.some.injEq] at h
  obtain ⟨rfl, hw⟩ := jr h
  have r1 := hs.upd hb h1
  have r2 := r1.cut h2
  have r3 := r2.new hw
  rw [← hs.h] at hb hg
  rw [← hs.n] at r3
  have hx : (Int.ofNat k) = ((UInt8.ofNat k).toNat : Int) := by
   have : (UInt8.ofNat k).toNat = k := by simp [UInt8.toNat_ofNat']; omega
   rw [this]; rfl
  rw [hx]
  exact z1o hW hb hg hlen ⟨rfl, r3⟩
 ·split at h <;> try (cases h; done)
  rename_i hf
  have hf := yt.1 hf
  subst hf
  split at h <;> try (cases h; done)
  rename_i b
  split at h <;> try (cases h; done)
  rename_i T' g hb
  split at h <;> try (cases h; done)
  rename_i e' bs hg
  split at h <;> try (cases h; done)
  rename_i hc
  have hc := yt.1 hc
  subst hc
  simp only [Option.some.injEq, Prod.mk.injEq] at h
  obtain ⟨rfl, rfl⟩ := h
  rw [← hs.h] at hb hg
  exact zed hS hb hg ⟨rfl, hs⟩
def z87 (fc s : Nat) (f : Nat) (xs : List AVal) (S : Sh) : Option Rs :=
 match Nat.beq f fc with
 | true => match xs with
  | [.isl s' [] _] => match Nat.beq s' s with
   | true => some (some (.isl s [] false, S))
   | false => none
  | [.val (.slice none 0 0)] => some (some (.isl s [] false, S))
  | _ => none
 | false => none
theorem zbw {fc s : Nat} (h0 : PFn P fc [.isl s [] false] (.isl s [] false)) : X6 P (z87 fc s) := by
 intro f xs S r S' h H n hs
 unfold z87 at h
 split at h <;> try (cases h; done)
 rename_i hf
 have hf := yt.1 hf
 subst hf
 split at h <;> try (cases h; done)
 ·split at h <;> try (cases h; done)
  rename_i hc
  have hc := yt.1 hc
  subst hc
  simp only [Option.some.injEq, Prod.mk.injEq] at h
  obtain ⟨rfl, rfl⟩ := h
  exact PFn.call h0 (And.intro (Vw.islF _ _ _) trivial) ⟨rfl, hs⟩
 ·simp only [Option.some.injEq, Prod.mk.injEq] at h
  obtain ⟨rfl, rfl⟩ := h
  exact PFn.call h0 (And.intro (Vw.nilI _ _) trivial) ⟨rfl, hs⟩
def zrz : List UInt8 → Bool
 | [] => true
 | b :: r => match Nat.ble b.toNat 127 with
  | true => zrz r
  | false => false
theorem zit : ∀ {l : List UInt8}, zrz l = true → Lib.validD l = true
 | [], _ => rfl
 | b :: r, h => by
  unfold zrz at h
  split at h <;> try (cases h; done)
  rename_i hb
  have hb := xu.1 hb
  rw [Lib.validD_cons b r (by omega)]
  exact zit h
def zgw (fv : Nat) (f : Nat) (xs : List AVal) (S : Sh) : Option Rs :=
 match Nat.beq f fv with
 | true => match xs with
  | [.str s] => match zrz s && Nat.ble s.length 9223372036854775807 with
   | true => some (some (.bool true, S))
   | false => match Nat.ble s.length 9223372036854775807 with
    | true => some (some (.bool (Lib.validD s), S))
    | false => none
  | _ => none
 | false => none
theorem zdp {fv : Nat} (h0 : ∀ s : List UInt8, s.length ≤ 9223372036854775807 → PFn P fv [.str s] (.bool (Lib.validD s))) : X6 P (zgw fv) := by
 intro f xs S r S' h H n hs
 unfold zgw at h
 split at h <;> try (cases h; done)
 rename_i hf
 have hf := yt.1 hf
 subst hf
 split at h <;> try (cases h; done)
 rename_i s
 split at h
 ·rename_i hc
  simp only [Bool.and_eq_true, xu] at hc
  simp only [Option.some.injEq, Prod.mk.injEq] at h
  obtain ⟨rfl, rfl⟩ := h
  have := h0 s hc.2
  rw [zit hc.1] at this
  exact PFn.call this (And.intro (Vw.same _ rfl) trivial) ⟨rfl, hs⟩
 ·split at h <;> try (cases h; done)
  rename_i hc
  simp only [Option.some.injEq, Prod.mk.injEq] at h
  obtain ⟨rfl, rfl⟩ := h
  exact PFn.call (h0 s (xu.1 hc)) (And.intro (Vw.same _ rfl) trivial) ⟨rfl, hs⟩
def zl4 (c : Nat) : List UInt8 → Bool
 | [] => true
 | b :: r => match Nat.beq b.toNat c with
  | true => false
  | false => zl4 c r
theorem zb9 {c : Nat} (hc : c ≤ 255) : ∀ {l : List UInt8}, zl4 c l = true → Lib.indexByte l c.toUInt8 = -1
 | [], _ => rfl
 | b :: r, h => by
  unfold zl4 at h
  split at h <;> try (cases h; done)
  rename_i hb
  have hb := Nat.ne_of_beq_eq_false hb
  unfold Lib.indexByte
  rw [zb9 hc h]
  have : (b == c.toUInt8) = false := by
   rw [beq_eq_false_iff_ne]
   intro he
   apply hb
   rw [he]
   simp [Nat.toUInt8]
   omega
  rw [this]
  rfl
def zej (fi : Nat) (f : Nat) (xs : List AVal) (S : Sh) : Option Rs :=
 match Nat.beq f fi with
 | true => match xs with
  | [.str s, .int .u8 (.ofNat k)] => match zl4 k s && Nat.ble k 255 with
   | true => some (some (.int .i64 (-1), S))
   | false => some (some (.int .i64 (Lib.indexByte s k.toUInt8), S))
  | _ => none
 | false => none
theorem zfp {fi : Nat} (h0 : ∀ (s : List UInt8) (c : Int), PFn P fi [.str s, .int .u8 c] (.int .i64 (Lib.indexByte s c.toNat.toUInt8))) : X6 P (zej fi) := by
 intro f xs S r S' h H n hs
 unfold zej at h
 split at h <;> try (cases h; done)
 rename_i hf
 have hf := yt.1 hf
 subst hf
 split at h <;> try (cases h; done)
 rename_i s k
 have h1 := h0 s (.ofNat k)
 split at h
 ·rename_i hc
  simp only [Bool.and_eq_true, xu] at hc
  simp only [Option.some.injEq, Prod.mk.injEq] at h
  obtain ⟨rfl, rfl⟩ := h
  have h2 := zb9 hc.2 hc.1
  rw [show (Int.ofNat k).toNat = k from rfl, h2] at h1
  exact PFn.call h1 (And.intro (Vw.same _ rfl) (And.intro (Vw.same _ rfl) trivial)) ⟨rfl, hs⟩
 ·simp only [Option.some.injEq, Prod.mk.injEq] at h
  obtain ⟨rfl, rfl⟩ := h
  exact PFn.call h1 (And.intro (Vw.same _ rfl) (And.intro (Vw.same _ rfl) trivial)) ⟨rfl, hs⟩
theorem z4h {P : Program} {ρ : Ren} (L : Proofs.Lays.n137 P ρ) {f : FuncId} (hf : ρ.f 137 = f) (hok : Zk P f) (s : List UInt8) (c : Int) :
 PFn P f [.str s, .int .u8 c] (.int .i64 (Lib.indexByte s c.toNat.toUInt8)) := by
 subst hf
 exact PFn.lib hok rfl rfl fun w => (Proofs.Any.strings_IndexByte L ⟨⟨s⟩⟩ c w).mono fun e w' h => ⟨h.1, zd7 h.2⟩
def ztv (P : Program) (l : List Nat) (f : Nat) : Option LFn := match l.any fun i => Nat.beq i f with
 | false => mkF P f
 | true => match P.funcs[f]? with
  | some fn => match fn.body.isSome && !(fn.name == "runtime.NumGoroutine") with
   | true => z0s [] (wz P [] f)
   | false => none
  | none => none
def ztc (P : Program) (z l : List Nat) (f : Nat) : Option LFn := match P.funcs[f]? with
 | some fn => match fn.body.isSome && !(fn.name == "runtime.NumGoroutine") with
  | true => match l.any fun i => Nat.beq i f with
   | true => z0s z (wz P [] f)
   | false => z0s z (wz P (List.range fn.ntmps) f)
  | false => none
 | none => none
theorem zo3 {P : Program} {z l : List Nat} (hz : ∀ f ∈ z, z3i P f) : zg6 P (ztc P z l) := by
 intro f fn h
 unfold ztc at h
 split at h <;> try (cases h; done)
 rename_i g hg
 split at h <;> try (cases h; done)
 rename_i hb
 simp only [Bool.and_eq_true, Bool.not_eq_true'] at hb
 split at h
 ·obtain ⟨h, hi⟩ := z6d hz h
  exact ⟨⟨_, h⟩, ⟨g, hg, hb.1, hb.2⟩, hi⟩
 ·obtain ⟨h, hi⟩ := z6d hz h
  exact ⟨⟨_, h⟩, ⟨g, hg, hb.1, hb.2⟩, hi⟩
end Go.Fx
