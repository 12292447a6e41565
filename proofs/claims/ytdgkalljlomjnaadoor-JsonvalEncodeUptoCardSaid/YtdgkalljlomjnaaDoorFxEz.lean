/-
  Own framework.
-/
import Derived.Test.YtdgkalljlomjnaaDoorFxEy
import Derived.Test.YtdgkalljlomjnaaDoorFxBd
namespace Go.Fx
set_option linter.unusedVariables false
variable {P : Program}
def z0s (l : List Nat) : Option LFn → Option LFn
 | some fn => match Qj l fn.body with
  | true => some fn
  | false => none
 | none => none
theorem z6d {l : List Nat} (hl : ∀ f ∈ l, z3i P f) {o : Option LFn} {fn : LFn} (h : z0s l o = some fn) : o = some fn ∧ X3 P fn.body := by
 cases o with
 | none => cases h
 | some g =>
  simp only [z0s] at h
  split at h <;> try (cases h; done)
  rename_i hc
  cases h
  exact ⟨rfl, Z9 hl hc⟩
def mkF (P : Program) (f : Nat) : Option LFn := match P.funcs[f]? with
 | some fn => match fn.body.isSome && !(fn.name == "runtime.NumGoroutine") with
  | true => z0s [] (wz P (List.range fn.ntmps) f)
  | false => none
 | none => none
def noX : Nat → List AVal → Sh → Option Rs := fun _ _ _ => none
def zsv (fw fs : Nat) (T e : TypeId) (f : Nat) (as : List AVal) (S : Sh) : Option Rs :=
 match Nat.beq f fw with
 | true => match as with
  | [.ptr b 0 0, .str s] => match S.t.at b with
   | some (.bld T' g) => match S.t.at g with
    | some (.buf e' bs) => match Nat.beq T' T && Nat.beq e' e && Nat.ble (bs.length + s.length) 140737488355328 with
     | true => match S.upd b (.bld T (S.n, 0)) with
      | some S1 => match S1.cut g with
       | some S2 => some (Y0 (.tup [.int .i64 (s.length : Int), .val .nilIface]) (S2.new (.buf e (bs ++ s))))
       | none => some none
      | none => some none
     | false => some none
    | _ => some none
   | _ => some none
  | _ => some none
 | false => match Nat.beq f fs with
  | true => match as with
   | [.ptr b 0 0] => match S.t.at b with
    | some (.bld T' g) => match S.t.at g with
     | some (.buf e' bs) => match Nat.beq T' T && Nat.beq e' e && Nat.ble bs.length 9223372036854775807 with
      | true => some (some (.str bs, S))
      | false => some none
     | _ => some none
    | _ => some none
   | _ => some none
  | false => none
theorem znc {fw fs : Nat} {T e tb ts : TypeId} (hW : BWrite P fw T e tb ts) (hS : BStr P fs T e) : X6 P (zsv fw fs T e) := by
 intro f as S r S' h H n hs
 unfold zsv at h
 split at h
 ·rename_i hf
  have hf := yt.1 hf
  subst hf
  split at h <;> try (cases h; done)
  rename_i b s
  split at h <;> try (cases h; done)
  rename_i T' g hb
  split at h <;> try (cases h; done)
  rename_i e' bs hg
  split at h <;> try (cases h; done)
  rename_i hc
  simp only [Bool.and_eq_true, yt, xu] at hc
  obtain ⟨⟨rfl, rfl⟩, hlen⟩ := hc
  split at h <;> try (cases h; done)
  rename_i S1 h1
  split at h <;> try (cases h; done)
  rename_i S2 h2
  simp only [Option.some.injEq] at h
  obtain ⟨rfl, hw⟩ := jr h
  have r1 := hs.upd hb h1
  have r2 := r1.cut h2
  have r3 := r2.new hw
  rw [← hs.h] at hb hg
  rw [← hs.n] at r3
  exact X4 hW hb hg hlen ⟨rfl, r3⟩
 ·split at h <;> try (cases h; done)
  rename_i hf
  have hf := yt.1 hf
  subst hf
  split at h <;> try (cases h; done)
  rename_i b
  split at h <;> try (cases h; done)
  rename_i T' g hb
  split at h <;> try (cases h; done)
  rename_i e' bs hg
  split at h <;> try (cases h; done)
  rename_i hc
  simp only [Bool.and_eq_true, yt, xu] at hc
  obtain ⟨⟨rfl, rfl⟩, hlen⟩ := hc
  simp only [Option.some.injEq, Prod.mk.injEq] at h
  obtain ⟨rfl, rfl⟩ := h
  rw [← hs.h] at hb hg
  exact z0r hS hb hg hlen ⟨rfl, hs⟩
end Go.Fx
