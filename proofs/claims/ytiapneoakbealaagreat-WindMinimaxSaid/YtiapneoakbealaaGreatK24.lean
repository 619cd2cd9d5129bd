/- Lemmas for the claim (contracts of the functions that it reaches, and what they compute), without conditions. -/
import Derived.Test.YtiapneoakbealaaGreatK23
set_option linter.unusedVariables false
set_option linter.unusedSimpArgs false
set_option maxRecDepth 10000
set_option maxHeartbeats 2000000
namespace GoAbs
open Go Go.RowKit
variable {X:Nat→Prop} {B:Nat} {w0 w w':World} {ρ ρ':Pl} {H H':Heap} {P:Program} {O:Nat→Prop}
variable {nt n0:Nat} {st st':St} {Q:Ex→St→Prop}
theorem Y85 {f:Nat}{cc:CC}{rs:List RV}{xs:List AV}{r:AV}(hf:fnOk P f=some (nt,cc,rs)) (hx:xs.length≤nt)
  (h:T P nt H.length cc ⟨argE xs,H⟩ (fun e st=>(match e with | .exit _=>False | _=>True)∧∃ st',Le nt H.length st st'∧RRes st rs r∧r.gc (fun _=>none)=r∧st'.H=H')):SpecR P f H xs r H':=by
 refine ⟨Zpu hf,fun X B w0 w ρ vs hh hX hbel hB hr=>?_⟩
 obtain ⟨fn,c,h1,h2,h3,h4,_,h5⟩:=Z47 hf
 let b:Base:=⟨X,B,w0,w,ρ,Own X ρ H⟩
 have hb:b.ok H.length:=fun i p hp=>by
  obtain ⟨bl,g1,_⟩:=hh.dom i p hp
  exact (List.getElem?_eq_some_iff.1 g1).1
 refine calls_of_wp h1 h2 (h c h3 b _ w ρ hb ⟨⟨hh,hX,hbel,hB⟩,fun t=>Ydy hr _ t,by simp [hr.1,h5]; omega,rfl,Keep.refl _ _,fun i p hp=>hp⟩ _ (fun e st' a' w' ρ' hQ hs'=>?_))
 obtain ⟨he,st2,hle,hv,hrg,rfl⟩:=hQ
 obtain ⟨ρ2,hs2,hO⟩:=hle b a' w' ρ' hb hs'
 have fin:a'.defers = []∧∃ v,(results fn a'.tmps).run P w' = .ok v w'∧∃ u ρ'',Ending.returned v = .returned u∧Nxt X B w0 w ρ H r st2.H u w' ρ'':=by
  obtain ⟨v',g1,g2⟩:=Ynl hs' h4 hv
  have g3:Rep w' (Own X ρ2 st2.H) ρ2 r v':=by
   have:=Ygr (f:=fun _=>none) (ρ':=ρ2) g2 hO (fun i j p h=>by cases h)
   rwa [hrg] at this
  exact ⟨hs2.defers,v',g1,v',ρ2,rfl,⟨g3,hs2.ctx.heap,hs2.keep,hs2.rho,hs2.ctx.below⟩⟩
 cases e with
 | exit id=>exact he.elim
 | normal=>exact fin
 | ret=>exact fin
def leK (nt n0:Nat) (e:Nat→AV) (H H':Heap) (r v:AV):Prop:=v=r∧r.gc (fun _=>none)=r∧∃ st',Le nt n0 ⟨e,H⟩ st'∧st'.H=H'
theorem Y86 {e:Nat→AV}{H H':Heap}{r v:AV}:leK nt n0 e H H' r v=(v=r∧r.gc (fun _=>none)=r∧∃ st',Le nt n0 ⟨e,H⟩ st'∧st'.H=H'):=rfl
def retL (nt n0:Nat) (rs:List RV) (H':Heap) (r:AV) (e:Ex) (st:St):Prop:=match e with
 | .exit _=>False
 | _=>resA rs st.env st.H (leK nt n0 st.env st.H H' r)
theorem Y4s {rs:List RV}{r:AV}{e:Nat→AV}{H H':Heap}:retL nt n0 rs H' r .ret ⟨e,H⟩=resA rs e H (leK nt n0 e H H' r):=rfl
theorem Yns {rs:List RV}{r:AV}{e:Nat→AV}{H H':Heap}:retL nt n0 rs H' r .normal ⟨e,H⟩=resA rs e H (leK nt n0 e H H' r):=rfl
attribute [go_sem ↓] Y4s Yns Y86
theorem Z18 {f:Nat}{cc:CC}{rs:List RV}{xs:List AV}{r:AV}(hf:fnOk P f=some (nt,cc,rs)) (hx:xs.length≤nt)
  (h:T P nt H.length cc ⟨argE xs,H⟩ (retL nt H.length rs H' r)):SpecR P f H xs r H':=Y85 hf hx (Yft h (fun e st he=>by
 cases e with
 | exit id=>exact he.elim
 | normal =>
  obtain ⟨v,h1,rfl,h2,st',h3,h4⟩:=Zl0 he
  exact ⟨trivial,st',h3,h1,h2,h4⟩
 | ret =>
  obtain ⟨v,h1,rfl,h2,st',h3,h4⟩:=Zl0 he
  exact ⟨trivial,st',h3,h1,h2,h4⟩))
theorem Zcb {m b:Nat}(h:b<m):pos (List.range m) b=some b:=by
 have main:∀ (k s:Nat),s≤b→b<s+k→pos (List.range' s k) b=some (b - s):=by
  intro k
  induction k with
  | zero=>intro s h1 h2; omega
  | succ k ih =>
   intro s h1 h2
   rw [List.range'_succ]
   unfold pos
   by_cases hs:s=b
   ·rw [if_pos hs]; simp [hs]
   ·rw [if_neg hs,ih (s+1) (by omega) (by omega)]
    simp only [Option.map_some,Option.some.injEq]; omega
 rw [List.range_eq_range',main m 0 (by omega) (by omega)]
 simp
def Clo (m:Nat) (K:Heap):Prop:=K.map (Blk.gc (pos (List.range m)))=K
theorem Clo.append {m:Nat}{K L:Heap}(h:Clo m K) (k:Clo m L):Clo m (K++L):=by
 unfold Clo at *
 rw [List.map_append,h,k]
theorem Y2l {K post:Heap}{m:Nat}(hm:K.length=m) (h:Clo m K):((List.range m).map fun i=>((K++post).getD i .dead).gc (pos (List.range m)))=K:=by
 apply List.ext_getElem?
 intro i
 rw [List.getElem?_map]
 by_cases hi:i<m
 ·rw [List.getElem?_range hi]
  simp only [Option.map_some]
  have h1:(K.map (Blk.gc (pos (List.range m))))[i]? = K[i]?:=by rw [h]
  rw [List.getElem?_map,List.getElem?_eq_getElem (by omega)] at h1
  rw [List.getD_eq_getElem?_getD,List.getElem?_append_left (by omega),List.getElem?_eq_getElem (by omega)]
  exact h1
 ·rw [List.getElem?_eq_none (by simp; omega),List.getElem?_eq_none (by omega)]; rfl
theorem Zk7 {K post:Heap}{m:Nat}{e:Nat→AV}(hm:K.length=m) (h:Clo m K) (hn:n0≤m) (l:List (Nat×AV)) (hl:Has e l) (hg:∀ p,p∈l→p.2.gc (pos (List.range m))=p.2) :
  Le nt n0 ⟨e,K++post⟩ ⟨envL l,K⟩:=by
 refine Zbz (Zgb (List.range m) List.nodup_range (fun i hi=>List.getElem?_range (by omega)) l hl) ?_
 have h1:(l.map fun p=>(p.1,p.2.gc (pos (List.range m))))=l:=by
  conv=>rhs; rw [← List.map_id l]
  exact List.map_congr_left fun p hp=>by rw [hg p hp]; rfl
 rw [h1]
 congr 1
 exact Y2l hm h
end GoAbs
