/-
  Own framework.
-/
import Derived.Test.YtejfgjggcoemeaaFxN
import Derived.Test.YtejfgjggcoemeaaFxMb
import Derived.Laws.Externs
import Derived.Tactics
/-! maps.Clone, said of abstract values -/
namespace Go.Fx
open Go
section
variable {P:Program} {I:Nat→Nat→Prop} {β:Id→Option CLoc} {n:Nat} {H:AHeap} {w:World}
theorem U7(hI:Inv I β n H w)(s:Nat) :
 ∃β',Inv I β' (n+1) (((n,0),.rows s [])::H) w∧Ext I β n H w I β' (n+1) (((n,0),.rows s [])::H) w∧(∀ {x:AVal} {v:Value},Rep I β n w x v→Rep I β' (n+1) w x v):=by
 have hup:∀id d,id.1<n→upd β (n,0) (some ⟨0,0,0,0,s⟩) id=some d→β id=some d:=fun id d hid hd=>by
  rwa [y1 _ _ (fun h=>by subst h;exact absurd hid (Nat.lt_irrefl n))] at hd
 have hno:∀ (d:CLoc) (x k:Nat),d=⟨0,0,0,0,s⟩→¬d.has x k:=fun d x k h hk=>by subst h;exact absurd hk.2.2 (Nat.not_lt_zero k)
 obtain⟨g1,g2⟩:=uf (I':=I) (β':=upd β (n,0) (some ⟨0,0,0,0,s⟩)) (n':=n+1) (H':=((n,0),.rows s [])::H) hI (Chg.refl w (fun _ _=>False)) (Nat.le_succ n) (fun _ _ h=>h.elim) (fun _ _ h=>h) (fun _ _ h h'=>absurd h h') (fun id hid=>.inl (y1 _ _ (Z1 hid)))
  (fun id d x k hid hd hk=>by
   rcases wv hd hI.fresh with⟨_,rfl⟩|⟨h,_⟩
   ·exact absurd hk (hno _ _ _ rfl)
   ·omega)
  (fun id hid=>by
   rw[y1 _ _ (fun h=>by subst h;exact absurd hid (Nat.not_succ_le_self n))]
   exact hI.fresh id (by omega))
  (fun i j d d' x k hi hj hk hk' hn=>by
   rcases wv hj hI.fresh with⟨rfl,rfl⟩|⟨h,_⟩
   ·exact absurd hk' (hno _ _ _ rfl)
   ·omega)
  (fun i d x k _ _ h=>h)
  (fun id hid hg=>by rwa [AHeap.get_cons_other _ _ (Z1 hid).symm] at hg)
  (fun id blk' hid=>by
   by_cases h:(n,0)=id
   ·subst h
    rw[AHeap.get_cons_same] at hid
    simp only[Option.some.injEq] at hid
    subst hid
    exact .inr ⟨_,j0 _ _ _,rfl,.inr ⟨rfl,rfl,rfl⟩,fun k _ hk=>absurd hk (Nat.not_lt_zero k),Nat.le_refl _,by simp,fun i r hi=>by simp at hi,fun i r j x hi=>by simp at hi⟩
   ·rw[AHeap.get_cons_other _ _ h] at hid
    exact .inl ⟨hid,y1 _ _ (fun h'=>h h'.symm),fun _ _ _ _ _ h=>h⟩)
 exact⟨_,g1,g2,fun hr=>hr.mono' (fun _ _ h=>h) (fun _ _ _=>rfl) (Nat.le_succ n) hup⟩
theorem LWp.ghost{N:Lay}{n0:Nat}{lc:LCode}{Q:Exit→Env→AHeap→Nat→Prop}{e:Env}(s:Nat)
 (h:LWp P N n0 lc Q e (((n,0),.rows s [])::H) (n+1)):LWp P N n0 lc Q e H n:=by
 intro c hc ro hro J0 γ0 G0 w0 I β w a hX hI hE hN hD QQ hQ
 obtain⟨β',g1,g2,g3⟩:=U7 hI s
 exact h c hc ro hro J0 γ0 G0 w0 I β' w a (hX.trans g2) g1 (fun t=>g3 (hE t)) hN hD QQ hQ
end
end Go.Fx
