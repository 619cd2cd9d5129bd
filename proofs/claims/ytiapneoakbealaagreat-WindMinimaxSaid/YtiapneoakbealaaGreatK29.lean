/- Lemmas for the claim (contracts of the functions that it reaches, and what they compute), without conditions. -/
import Derived.Test.YtiapneoakbealaaGreatK28
set_option linter.unusedVariables false
set_option linter.unusedSimpArgs false
set_option maxRecDepth 10000
set_option maxHeartbeats 2000000
namespace GoAbs
open Go Go.RowKit
variable {X:Nat→Prop} {B:Nat} {w0 w w':World} {ρ ρ':Pl} {H H':Heap} {P:Program} {O:Nat→Prop}
variable {nt n0:Nat} {st st':St} {Q:Ex→St→Prop}
theorem Y3h {ids:List Nat}{b:Nat}(hb:b ∉ ids):∀ {H:Heap},(kill ids H)[b]? = H[b]?:=by
 induction ids with
 | nil=>intro H; rfl
 | cons c r ih =>
  intro H
  show (kill r (H.set c .dead))[b]? = _
  rw [ih (fun h=>hb (by simp [h])),List.getElem?_set_ne (fun h=>hb (by simp [h]))]
theorem Ypi {b:Nat}{ids:List Nat}{l l':List AV}(hb:st.H[b]? = some (.cells l)) (hbi:b ∉ ids) (hl:l'.length=l.length) (h:∀ (j:Nat) (x y:AV),l[j]? = some x→l'[j]? = some y→BV st.H ids x y∨x=y)
  (sl:List (Nat×AV)) (hs:HasF st.env st.H ids sl):Le nt n0 st ⟨envL sl,(kill ids st.H).set b (.cells l')⟩:=fun bs a w ρ hok hsim=>by
 obtain ⟨h1,h2⟩:=HSim.killed (ids:=ids) hsim.ctx.heap
 have hb1:(kill ids st.H)[b]? = some (.cells l):=by rw [Y3h hbi]; exact hb
 have hO:∀ c,Own bs.X ρ ((kill ids st.H).set b (.cells l')) c↔Own bs.X ρ (kill ids st.H) c:=fun c=>You hb1 c
 have hO1:=fun c=>(hO c).1
 have hO2:∀ c,Own bs.X ρ ((kill ids st.H).set b (.cells l')) c→Own bs.X ρ st.H c:=fun c hc=>h2 c (hO1 c hc)
 have hbl:=(List.getElem?_eq_some_iff.1 hb1).1
 have get:∀ {i:Nat} {bl:Blk},((kill ids st.H).set b (.cells l'))[i]? = some bl→(i=b∧bl = .cells l')∨(i≠b∧(kill ids st.H)[i]? = some bl):=fun {i bl} hg=>by
  by_cases hib:i=b
  ·subst hib
   rw [List.getElem?_set_self hbl] at hg; cases hg; exact .inl ⟨rfl,rfl⟩
  ·rw [List.getElem?_set_ne (fun h=>hib h.symm)] at hg; exact .inr ⟨hib,hg⟩
 have noR:∀ {x:AV} {v:Value},Rep w (Own bs.X ρ (kill ids st.H)) noPl x v→Rep w (Own bs.X ρ ((kill ids st.H).set b (.cells l'))) ρ x v:=fun hr=>(hr.keep (Keep.refl _ _) (fun _ _ h=>by cases h)).less hO1
 have hh:HSim bs.X bs.B w ρ ((kill ids st.H).set b (.cells l')):=by
  refine ⟨fun i p hp=>?_,fun i m hm=>?_,fun i es hm=>?_,fun i j p q c d hp hq hpq hc hd nc nd=>?_⟩
  ·obtain ⟨bl,g1,g2⟩:=h1.dom i p hp
   by_cases hib:i=b
   ·subst hib; exact ⟨_,List.getElem?_set_self hbl,by simp⟩
   ·exact ⟨bl,by rw [List.getElem?_set_ne (fun h=>hib h.symm)]; exact g1,g2⟩
  ·rcases get hm with ⟨rfl,he⟩ | ⟨hib,hg⟩
   ·cases he
    rcases hsim.ctx.heap.cells _ l hb with ⟨g1,g2⟩ | ⟨bk,o,cs,e',g1,g2,g3,g4,g5⟩
    ·refine .inl ⟨?_,g2⟩
     rw [g1] at hl
     exact List.length_eq_zero_iff.1 hl
    ·refine .inr ⟨bk,o,cs,e',g1,g2,g3,by rw [hl]; exact g4,fun j y hy=>?_⟩
     have hj:j<l.length:=by rw [← hl]; exact (List.getElem?_eq_some_iff.1 hy).1
     obtain ⟨v,k1,k2,k3⟩:=g5 j _ (List.getElem?_eq_getElem hj)
     refine ⟨v,k1,k2,?_⟩
     rcases h j _ y (List.getElem?_eq_getElem hj) hy with hv | hv
     ·exact noR (Yjs hsim.ctx hv k3)
     ·rw [← hv]; exact k3.less hO2
   ·rcases h1.cells i m hg with g1 | ⟨bk,o,cs,e',g1,g2,g3,g4,g5⟩
    ·exact .inl g1
    ·exact .inr ⟨bk,o,cs,e',g1,g2,g3,g4,fun j y hy=>let ⟨v,k1,k2,k3⟩:=g5 j y hy; ⟨v,k1,k2,k3.less hO1⟩⟩
  ·rcases get hm with ⟨_,he⟩ | ⟨hib,hg⟩
   ·cases he
   ·obtain ⟨bk,ms,ck,g1,g2,g3,g4,g5⟩:=h1.map i es hg
    exact ⟨bk,ms,ck,g1,g2,g3,g4,fun j x y m hx hm=>let ⟨k1,k2,k3⟩:=g5 j x y m hx hm; ⟨k1.less hO1,k2.less hO1,k3⟩⟩
  ·have old:∀ {i:Nat} {c:Blk},((kill ids st.H).set b (.cells l'))[i]? = some c→c ≠ .dead→∃ c',(kill ids st.H)[i]? = some c'∧c' ≠ .dead:=fun {i c} hc nc=>by
    rcases get hc with ⟨rfl,_⟩ | ⟨_,hg⟩
    ·exact ⟨_,hb1,by simp⟩
    ·exact ⟨_,hg,nc⟩
   obtain ⟨c',hc',nc'⟩:=old hc nc
   obtain ⟨d',hd',nd'⟩:=old hd nd
   exact h1.inj i j p q c' d' hp hq hpq hc' hd' nc' nd'
 refine ⟨ρ,⟨⟨hh,hsim.ctx.xs,hsim.ctx.below,hsim.ctx.bs⟩,fun t=>?_,hsim.size,hsim.defers,hsim.keep.trans (Zh7 hO2),hsim.rho⟩,hO2⟩
 show Rep w (Own bs.X ρ ((kill ids st.H).set b (.cells l'))) ρ (envL sl t) (a.tmps.getD t undef)
 rcases Yaw sl t with g1 | ⟨p,g1,rfl,g3⟩
 ·rw [g1]; exact .any _
 ·rw [g3]
  rcases Yh1 hs p g1 with k | k
  ·exact noR (Yjs hsim.ctx k (hsim.env _))
  ·rw [← k]; exact (hsim.env _).less hO2
end GoAbs
