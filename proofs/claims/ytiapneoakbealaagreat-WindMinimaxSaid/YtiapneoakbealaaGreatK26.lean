/- Lemmas for the claim (contracts of the functions that it reaches, and what they compute), without conditions. -/
import Derived.Test.YtiapneoakbealaaGreatK25
set_option linter.unusedVariables false
set_option linter.unusedSimpArgs false
set_option maxRecDepth 10000
set_option maxHeartbeats 2000000
namespace GoAbs
open Go Go.RowKit
variable {X:Nat→Prop} {B:Nat} {w0 w w':World} {ρ ρ':Pl} {H H':Heap} {P:Program} {O:Nat→Prop}
variable {nt n0:Nat} {st st':St} {Q:Ex→St→Prop}
theorem Yl6 {e:Nat→AV}:Le nt n0 ⟨e,H⟩ ⟨e,H ++ [.cells []]⟩:=fun b a w ρ _ hs=>by
 obtain ⟨h1,h2,_⟩:=hs.ctx.heap.row0
 exact ⟨ρ,⟨⟨h1,hs.ctx.xs,hs.ctx.below,hs.ctx.bs⟩,fun t=>(hs.env t).less h2,hs.size,hs.defers,hs.keep.trans (Zh7 h2),hs.rho⟩,h2⟩
def NilOr (x y:AV):Prop:=y=x∨(x = .nils∧∃ ek b o,y = .osl ek b o 0)
theorem Yab {e:Nat→AV}{b:Nat}{l l':List AV}(hb:H[b]? = some (.cells l)) (hl:l'.length=l.length) (h:∀ (j:Nat) (x y:AV),l[j]? = some x→l'[j]? = some y→NilOr x y) :
  Le nt n0 ⟨e,H⟩ ⟨e,H.set b (.cells l')⟩:=fun bs a w ρ _ hs=>by
 have hO:∀ c,Own bs.X ρ (H.set b (.cells l')) c↔Own bs.X ρ H c:=fun c=>You hb c
 have hO1:=fun c=>(hO c).1
 have hh:=hs.ctx.heap
 have hbl:=(List.getElem?_eq_some_iff.1 hb).1
 have get:∀ {i:Nat} {bl:Blk},(H.set b (.cells l'))[i]? = some bl→(i=b∧bl = .cells l')∨(i≠b∧H[i]? = some bl):=fun {i bl} hg=>by
  by_cases hib:i=b
  ·subst hib
   rw [List.getElem?_set_self hbl] at hg; cases hg; exact .inl ⟨rfl,rfl⟩
  ·rw [List.getElem?_set_ne (fun h=>hib h.symm)] at hg; exact .inr ⟨hib,hg⟩
 have h1:HSim bs.X bs.B w ρ (H.set b (.cells l')):=by
  refine ⟨fun i p hp=>?_,fun i m hm=>?_,fun i es hm=>?_,fun i j p q c d hp hq hpq hc hd nc nd=>?_⟩
  ·obtain ⟨bl,g1,g2⟩:=hh.dom i p hp
   by_cases hib:i=b
   ·subst hib; exact ⟨_,List.getElem?_set_self hbl,by simp⟩
   ·exact ⟨bl,by rw [List.getElem?_set_ne (fun h=>hib h.symm)]; exact g1,g2⟩
  ·rcases get hm with ⟨rfl,he⟩ | ⟨hib,hg⟩
   ·cases he
    rcases hh.cells _ l hb with ⟨g1,g2⟩ | ⟨bk,o,cs,e',g1,g2,g3,g4,g5⟩
    ·refine .inl ⟨?_,g2⟩
     rw [g1] at hl
     exact List.length_eq_zero_iff.1 hl
    ·refine .inr ⟨bk,o,cs,e',g1,g2,g3,by rw [hl]; exact g4,fun j y hy=>?_⟩
     have hj:j<l.length:=by rw [← hl]; exact (List.getElem?_eq_some_iff.1 hy).1
     obtain ⟨v,k1,k2,k3⟩:=g5 j _ (List.getElem?_eq_getElem hj)
     refine ⟨v,k1,k2,?_⟩
     rcases h j _ y (List.getElem?_eq_getElem hj) hy with rfl | ⟨hn,ek,b',o',rfl⟩
     ·exact k3.less hO1
     ·rw [hn] at k3
      obtain ⟨A,rfl⟩:=Zhe k3
      exact .osl0 ek b' o' A
   ·rcases hh.cells i m hg with g1 | ⟨bk,o,cs,e',g1,g2,g3,g4,g5⟩
    ·exact .inl g1
    ·exact .inr ⟨bk,o,cs,e',g1,g2,g3,g4,fun j y hy=>let ⟨v,k1,k2,k3⟩:=g5 j y hy; ⟨v,k1,k2,k3.less hO1⟩⟩
  ·rcases get hm with ⟨_,he⟩ | ⟨hib,hg⟩
   ·cases he
   ·obtain ⟨bk,ms,ck,g1,g2,g3,g4,g5⟩:=hh.map i es hg
    exact ⟨bk,ms,ck,g1,g2,g3,g4,fun j x y m hx hm=>let ⟨k1,k2,k3⟩:=g5 j x y m hx hm; ⟨k1.less hO1,k2.less hO1,k3⟩⟩
  ·have old:∀ {i:Nat} {c:Blk},(H.set b (.cells l'))[i]? = some c→c ≠ .dead→∃ c',H[i]? = some c'∧c' ≠ .dead:=fun {i c} hc nc=>by
    rcases get hc with ⟨rfl,_⟩ | ⟨_,hg⟩
    ·exact ⟨_,hb,by simp⟩
    ·exact ⟨_,hg,nc⟩
   obtain ⟨c',hc',nc'⟩:=old hc nc
   obtain ⟨d',hd',nd'⟩:=old hd nd
   exact hh.inj i j p q c' d' hp hq hpq hc' hd' nc' nd'
 exact ⟨ρ,⟨⟨h1,hs.ctx.xs,hs.ctx.below,hs.ctx.bs⟩,fun t=>(hs.env t).less hO1,hs.size,hs.defers,hs.keep.trans (Zh7 hO1),hs.rho⟩,hO1⟩
theorem Zny {α:Type}(mk:α→St) (I:α→Prop) (μ:α→Nat) {x:CC}(x0:α) (h0:I x0) (hl:Le nt n0 st (mk x0))
  (round:∀ y,I y→∀ N:St→Prop,(∀ z st',I z→μ z<μ y→Le nt n0 st' (mk z)→N st')→T P nt n0 x (mk y) (thenQ N Q)):T P nt n0 (.loop x) st Q :=
 Ykm mk I μ x0 h0 hl (fun y hy=>round y hy _ (fun z _ h1 h2 h3=>⟨z,h1,h2,h3⟩))
theorem Ydd {w:Nat}:∀ {R:List (List AV)},(∀ c,c∈R→c.length=w)→∀ (i j:Nat) (c:List AV),R[i]? = some c→j<w→R.flatten[i*w+j]? = c[j]?
 | [],_,i,j,c,hc,_=>by simp at hc
 | d::R,hR,0,j,c,hc,hj=>by
  simp at hc; subst hc
  rw [List.flatten_cons,Nat.zero_mul,Nat.zero_add,List.getElem?_append_left (by rw [hR d (by simp)]; exact hj)]
 | d::R,hR,i+1,j,c,hc,hj=>by
  have hd:=hR d (by simp)
  rw [List.flatten_cons,List.getElem?_append_right (by rw [hd,Nat.add_mul]; omega)]
  have:=Ydd (R:=R) (fun c hc=>hR c (List.mem_cons_of_mem _ hc)) i j c (by simpa using hc) hj
  rw [← this]
  congr 1
  rw [hd,Nat.add_mul]; omega
theorem Z6f {ids:List Nat}{w b:Nat}{l:List AV}{R:List (List AV)}(hb:H[b]? = some (.cells l)) (hi:b∈ids) (hl:l=R.flatten) (hw:∀ c,c∈R→c.length=w) (hq:∀ c,c∈R→BVs H ids c c) :
  BV H ids (.osl (some w) b 0 R.length) (.sl (R.map .agg)):=by
 have hfl:R.flatten.length=R.length*w:=by
  clear hb hl hq
  induction R with
  | nil=>simp
  | cons c R ih=>rw [List.flatten_cons,List.length_append,hw c (by simp),ih (fun c hc=>hw c (List.mem_cons_of_mem _ hc)),List.length_cons,Nat.add_mul]; omega
 refine .osl (some w) b 0 R.length l _ hb hi (by simp) (fun x hx=>?_) (by rw [hl,hfl]; simp [es]) (fun i x j y z hx hy hz=>?_)
 ·obtain ⟨c,hc,rfl⟩:=List.mem_map.1 hx
  exact hw c hc
 ·rw [List.getElem?_map] at hx
  cases hr:R[i]? with
  | none=>rw [hr] at hx; cases hx
  | some c =>
   rw [hr] at hx; cases hx
   have hcm:=List.mem_of_getElem? hr
   have hy':c[j]? = some y:=hy
   have hj:j<w:=by rw [← hw c hcm]; exact (List.getElem?_eq_some_iff.1 hy').1
   rw [hl] at hz
   have hz':R.flatten[i*w+j]? = some z:=by simpa [es] using hz
   rw [Ydd hw i j c hr hj,hy'] at hz'
   cases hz'
   exact (Yw5 (hq c hcm)).2 j y y hy' hy'
end GoAbs
