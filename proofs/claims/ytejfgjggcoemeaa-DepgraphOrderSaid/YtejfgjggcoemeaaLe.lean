/-
  DepgraphOrder answers true; no condition.
-/
import Derived.Test.YtejfgjggcoemeaaLd
namespace Go.Proofs.Ytejfgjggcoemeaa
open Go.Fx Go.Sort
set_option linter.unusedVariables false
theorem zps (c n : Nat) : (if (c : Int) < (n : Int) then (c : Int) else (n : Int)) = ((min c n : Nat) : Int) := by split <;> omega
theorem zpj {a0 : List G_QEdge} : yw none a0 = some true := by
 obtain ⟨es, hes⟩ : ∃ es, es = a0.take (min 30 a0.length) := ⟨_, rfl⟩
 have hl : es.length ≤ 30 := by rw [hes, List.length_take]; omega
 obtain ⟨ks, M, hn, hg⟩ := Xb (es := es) (rev := false) (by omega)
 have hkl := hg.klen
 obtain ⟨b, hc, hb⟩ := zc4 hg (by omega)
 have ht := zmo hg hn (by omega)
 have ho := zhx hg (by omega)
 have ec : (if (30 : Int) < (a0.length : Int) then (30 : Int) else (a0.length : Int)) = ((min 30 a0.length : Nat) : Int) := zps 30 _
 unfold yw
 rw [z9f]
 simp only [Option.bind_some, List.length_map, ec, Int.toNat_natCast, ← hes, ht, hc, ho]
 rw [if_neg (by decide), if_pos (by omega)]
 cases b with
 | true =>
  obtain ⟨k, hk⟩ := hb.1 rfl
  rw [if_pos rfl, z8t hg hk]
  rfl
 | false =>
  have ha : ∀ k, ¬ Rc es k k := fun k hk => by have := hb.2 ⟨k, hk⟩; cases this
  obtain ⟨P, hP⟩ := Vy hg (by omega) ha ks.length [] (by simp) .nil (fun x hx => by cases hx)
  obtain ⟨h1, h2⟩ := K7 _ _ _ hP
  rw [if_neg (by decide), hP, h1]
  simp only
  rw [if_pos (by decide), Option.bind_some, if_pos (by decide), z16 (by simp at h2; omega)]
  rfl
end Go.Proofs.Ytejfgjggcoemeaa
