/- Lemmas for the claim (contracts of the functions that it reaches, and what they compute), without conditions. -/
import Derived.Test.YtiapneoakbealaaGreatK19
set_option linter.unusedVariables false
set_option linter.unusedSimpArgs false
set_option maxRecDepth 10000
set_option maxHeartbeats 2000000
namespace GoAbs
open Go Go.RowKit
variable {P:Program} {nt n0:Nat} {st st':St} {Q:Ex→St→Prop}
def HasF (e:Nat→AV) (H:Heap) (ids:List Nat):List (Nat×AV)→Prop
 | []=>True
 | (u,v)::r=>(BV H ids (e u) v∨e u=v)∧HasF e H ids r
theorem Yh1 {e:Nat→AV}{H:Heap}{ids:List Nat}:∀ {l:List (Nat×AV)},HasF e H ids l→∀ p,p∈l→BV H ids (e p.1) p.2∨e p.1=p.2
 | [],_,p,hp=>by simp at hp
 | (u,v)::r,h,p,hp=>by
  rcases List.mem_cons.1 hp with rfl | hp
  ·exact h.1
  ·exact Yh1 h.2 p hp
theorem Yb2 (ids:List Nat) (l:List (Nat×AV)) (h:HasF st.env st.H ids l):Le nt n0 st ⟨envL l,kill ids st.H⟩:=fun b a w ρ _ hs=>by
 obtain ⟨h1,h2⟩:=HSim.killed (ids:=ids) hs.ctx.heap
 refine ⟨ρ,⟨⟨h1,hs.ctx.xs,hs.ctx.below,hs.ctx.bs⟩,fun t=>?_,hs.size,hs.defers,hs.keep.trans (Zh7 h2),hs.rho⟩,h2⟩
 show Rep w (Own b.X ρ (kill ids st.H)) ρ (envL l t) (a.tmps.getD t undef)
 rcases Yaw l t with g1 | ⟨p,g1,rfl,g3⟩
 ·rw [g1]; exact .any _
 ·rw [g3]
  rcases Yh1 h p g1 with k | k
  ·exact (Yjs hs.ctx k (hs.env _)).keep (Keep.refl _ _) (fun _ _ h=>by cases h)
  ·rw [← k]; exact (hs.env _).less h2
theorem Zp6 {cc:CC}(ids:List Nat) (l:List (Nat×AV)) (h:HasF st.env st.H ids l) (hT:T P nt n0 cc ⟨envL l,kill ids st.H⟩ Q):T P nt n0 cc st Q:=T_le (Yb2 ids l h) hT
def CC.cut:Nat→CC→CC×CC
 | 0,.seq a b=>(a,b)
 | k+1,.seq a b=>(.seq a (CC.cut k b).1,(CC.cut k b).2)
 | _,c=>(c,.skip)
theorem Y58 {a b:CC}:CC.cut 0 (.seq a b)=(a,b):=rfl
theorem Y56 {k:Nat}{a b:CC}:CC.cut (k+1) (.seq a b)=(.seq a (CC.cut k b).1,(CC.cut k b).2):=rfl
def goT (P:Program) (nt n0:Nat) (b:CC) (Q:Ex→St→Prop) (st:St):Prop:=T P nt n0 b st Q
theorem Y9z {b:CC}{e:Nat→AV}{H:Heap}:goT P nt n0 b Q ⟨e,H⟩=T P nt n0 b ⟨e,H⟩ Q:=rfl
def CC.cuts:Nat→CC→Bool
 | 0,.seq _ _=>true
 | k+1,.seq _ b=>CC.cuts k b
 | _,_=>false
theorem Zbg:∀ (k:Nat) {cc:CC}{st:St},CC.cuts k cc=true→W P nt n0 (CC.cut k cc).1 st (thenQ (goT P nt n0 (CC.cut k cc).2 Q) Q)→T P nt n0 cc st Q
 | 0,.seq a b,st,hc,h=>Zbc (T_W h)
 | k+1,.seq a b,st,hc,h=>by
  refine Zbc (Yft (T_W (show W P nt n0 a st (thenQ (goW P nt n0 (CC.cut k b).1 (thenQ (goT P nt n0 (CC.cut k b).2 Q) Q)) (thenQ (goT P nt n0 (CC.cut k b).2 Q) Q)) from h)) (fun e st' he=>?_))
  cases e with
  | normal=>exact Zbg k hc he
  | exit id=>exact he
  | ret=>exact he
attribute [go_sem ↓] Y58 Y56 Y9z
theorem Xf9 {a:Nat}{p q:Nat→Prop}:(∃ k,(k=a∨p k)∧q k)=(q a∨∃ k,p k∧q k):=propext ⟨
 fun ⟨k,h,hq⟩=>h.elim (fun e => .inl (by subst e; exact hq)) (fun h => .inr ⟨k,h,hq⟩),fun h=>h.elim (fun h=>⟨a,.inl rfl,h⟩) (fun ⟨k,h,hq⟩=>⟨k,.inr h,hq⟩)⟩
theorem Xgh {q:Nat→Prop}:(∃ k,False∧q k)=False:=propext ⟨fun ⟨_,h,_⟩=>h,fun h=>h.elim⟩
attribute [go_sem] Xf9 Xgh false_or or_false
end GoAbs
