/- Lemmas for the claim (contracts of the functions that it reaches, and what they compute), without conditions. -/
import Derived.Test.YtiapneoakbealaaGreatK30
set_option linter.unusedVariables false
set_option linter.unusedSimpArgs false
set_option maxRecDepth 10000
set_option maxHeartbeats 2000000
namespace GoAbs
open Go Go.RowKit
variable {P:Program} {X:Nat→Prop} {B:Nat} {w w0:World}
def sg (σ:Nat→Nat):Nat→Option Nat:=fun i=>some (σ i)
mutual
theorem Y4y {σ:Nat→Nat}(hσ:∀ i,σ (σ i)=i):∀ x:AV,(x.gc (sg σ)).gc (sg σ)=x
 | .agg cs=>by simp only [AV.gc]; rw [Z5h hσ cs]
 | .tup cs=>by simp only [AV.gc]; rw [Z5h hσ cs]
 | .fn g a b=>by simp only [AV.gc]; rw [Z5h hσ a,Z5h hσ b]
 | .osl ek b off n=>by simp only [AV.gc,sg,hσ]
 | .ptr b off=>by simp only [AV.gc,sg,hσ]
 | .mp b=>by simp only [AV.gc,sg,hσ]
 | .any=>rfl
 | .int k n=>rfl
 | .bool b=>rfl
 | .str s=>rfl
 | .nils=>rfl
 | .sl l=>rfl
 | .rp cs=>rfl
 | .nilp=>rfl
 | .nilfn=>rfl
 | .nilif=>rfl
 | .ifc t x=>by simp only [AV.gc]; rw [Y4y hσ x]
theorem Z5h {σ:Nat→Nat}(hσ:∀ i,σ (σ i)=i):∀ l:List AV,gcL (sg σ) (gcL (sg σ) l)=l
 | []=>rfl
 | x::r=>by simp only [gcL]; rw [Y4y hσ x,Z5h hσ r]
end
theorem Y1a {σ:Nat→Nat}(hσ:∀ i,σ (σ i)=i) (b:Blk):(b.gc (sg σ)).gc (sg σ)=b:=by
 cases b with
 | cells l=>simp only [Blk.gc,Z5h hσ]
 | map es =>
  simp only [Blk.gc,List.map_map]
  congr 1
  conv=>rhs; rw [← List.map_id es]
  refine List.map_congr_left fun p _=>?_
  simp [Y4y hσ]
 | _=>rfl
def Ren (σ:Nat→Nat) (H1 H2:Heap):Prop:=∀ i:Nat,H2[i]? = (H1[σ i]?).map (Blk.gc (sg σ))
theorem Ren.symm {σ:Nat→Nat}(hσ:∀ i,σ (σ i)=i) {H1 H2:Heap}(h:Ren σ H1 H2):Ren σ H2 H1:=fun i=>by
 rw [h (σ i),hσ,Option.map_map]
 cases H1[i]? with
 | none=>rfl
 | some b=>simp [Y1a hσ]
theorem Ydt {f:Nat→Option Nat}{b:Blk}:(b.gc f = .dead↔b = .dead)∧(b.gc f = .unborn↔b = .unborn):=by cases b <;> simp [Blk.gc]
theorem Yy2 {σ:Nat→Nat}(hσ:∀ i,σ (σ i)=i) {H1 H2:Heap}{ρ:Pl}(h:Ren σ H1 H2) {c:Nat}(ho:Own X ρ H1 c):Own X (fun i=>ρ (σ i)) H2 c:=by
 rcases ho with hx | ⟨i,p,hp,hc,bl,hb,h1,h2⟩
 ·exact .inl hx
 ·refine .inr ⟨σ i,p,by simp only [hσ]; exact hp,hc,bl.gc (sg σ),by rw [h (σ i),hσ,hb]; rfl,fun h=>h1 (Ydt.2.1 h),fun h=>h2 (Ydt.1.1 h)⟩
theorem Z5f {σ:Nat→Nat}(hσ:∀ i,σ (σ i)=i) {H1 H2:Heap}{ρ:Pl}(h:Ren σ H1 H2):Own X (fun i=>ρ (σ i)) H2=Own X ρ H1:=by
 funext c
 refine propext ⟨fun ho=>?_,Yy2 hσ h⟩
 have:=Yy2 hσ (h.symm hσ) ho
 simp only [hσ] at this
 exact this
theorem Yqj {σ:Nat→Nat}(hσ:∀ i,σ (σ i)=i) {H1 H2:Heap}{ρ:Pl}(h:Ren σ H1 H2) (hs:HSim X B w ρ H1):HSim X B w (fun i=>ρ (σ i)) H2:=by
 have hO:=Z5f (X:=X) (ρ:=ρ) hσ h
 have rep:∀ {x:AV} {v:Value},Rep w (Own X ρ H1) ρ x v→Rep w (Own X (fun i=>ρ (σ i)) H2) (fun i=>ρ (σ i)) (x.gc (sg σ)) v:=fun hr=>Ygr hr (fun c hc=>by rw [hO] at hc; exact hc) (fun i j p hij hp=>by
  cases hij; simp only [hσ]; exact hp)
 have get:∀ {i:Nat} {b:Blk},H2[i]? = some b→∃ b1,H1[σ i]? = some b1∧b=b1.gc (sg σ):=fun {i b} hb=>by
  rw [h i] at hb
  obtain ⟨b1,g1,g2⟩:=Option.map_eq_some_iff.1 hb
  exact ⟨b1,g1,g2.symm⟩
 refine ⟨fun i p hp=>?_,fun i l hl=>?_,fun i es hl=>?_,fun i j p q b c hp hq hpq hb hc nb nc=>?_⟩
 ·obtain ⟨bl,g1,g2⟩:=hs.dom (σ i) p hp
  exact ⟨bl.gc (sg σ),by rw [h i,g1]; rfl,fun h=>g2 (Ydt.2.1 h)⟩
 ·obtain ⟨b1,g1,g2⟩:=get hl
  cases b1 with
  | cells l1 =>
   simp only [Blk.gc,Blk.cells.injEq] at g2
   subst g2
   rcases hs.cells _ l1 g1 with ⟨rfl,h2⟩ | ⟨bk,o,cs,e,k1,k2,k3,k4,k5⟩
   ·exact .inl ⟨by simp [gcL],h2⟩
   ·refine .inr ⟨bk,o,cs,e,k1,k2,k3,by rw [Zax]; simpa using k4,fun m y hy=>?_⟩
    rw [Zax,List.getElem?_map] at hy
    obtain ⟨z,hz,rfl⟩:=Option.map_eq_some_iff.1 hy
    obtain ⟨u,m1,m2,m3⟩:=k5 m z hz
    exact ⟨u,m1,m2,rep m3⟩
  | _=>cases g2
 ·obtain ⟨b1,g1,g2⟩:=get hl
  cases b1 with
  | map es1 =>
   simp only [Blk.gc,Blk.map.injEq] at g2
   subst g2
   obtain ⟨bk,ms,ck,k1,k2,k3,k4,k5⟩:=hs.map _ es1 g1
   refine ⟨bk,ms,ck,k1,k2,k3,by simpa using k4,fun m x y me hxy hm=>?_⟩
   rw [List.getElem?_map] at hxy
   obtain ⟨z,hz,hzz⟩:=Option.map_eq_some_iff.1 hxy
   cases hzz
   obtain ⟨q1,q2,q3⟩:=k5 m z.1 z.2 me hz hm
   exact ⟨rep q1,rep q2,q3⟩
  | _=>cases g2
 ·obtain ⟨b1,g1,rfl⟩:=get hb
  obtain ⟨c1,g2,rfl⟩:=get hc
  have:=hs.inj _ _ p q b1 c1 hp hq hpq g1 g2 (fun h=>nb (Ydt.1.2 h)) (fun h=>nc (Ydt.1.2 h))
  rw [← hσ i, ← hσ j,this]
theorem Yyt {σ:Nat→Nat}(hσ:∀ i,σ (σ i)=i) {f:Nat}{H1 H2 H1' H2':Heap}{xs:List AV}{r:AV}(h1:Ren σ H1 H2) (h2:Ren σ H1' H2') (h:SpecR P f H1 xs r H1'):SpecR P f H2 (xs.map (AV.gc (sg σ))) (r.gc (sg σ)) H2':=by
 refine ⟨h.1,fun X B w0 w ρ vs hh hX hbel hB hr=>?_⟩
 have hO:=Z5f (X:=X) (ρ:=ρ) hσ (h1.symm hσ)
 have hrep:Reps w (Own X (fun i=>ρ (σ i)) H1) (fun i=>ρ (σ i)) xs vs:=by
  refine ⟨by rw [hr.1,List.length_map],fun i x v hx hv=>?_⟩
  have hg:=hr.2 i (x.gc (sg σ)) v (by rw [List.getElem?_map,hx]; rfl) hv
  have:=Ygr (f:=sg σ) (ρ':=fun i=>ρ (σ i)) (O':=Own X (fun i=>ρ (σ i)) H1) hg (fun c hc=>by rw [hO] at hc; exact hc) (fun i j p hij hp=>by cases hij; simp only [hσ]; exact hp)
  rwa [Y4y hσ] at this
 refine (h.2 X B w0 w (fun i=>ρ (σ i)) vs (Yqj hσ (h1.symm hσ) hh) hX hbel hB hrep).mono fun e w' he=>?_
 obtain ⟨v,ρ1,rfl,n⟩:=he
 have hO':=Z5f (X:=X) (ρ:=ρ1) hσ h2
 refine ⟨v,fun i=>ρ1 (σ i),rfl,⟨?_,Yqj hσ h2 n.heap,?_,fun i p hp=>n.rho (σ i) p (by simp only [hσ]; exact hp),n.below⟩⟩
 ·exact Ygr n.rep (fun c hc=>by rw [hO'] at hc; exact hc) (fun i j p hij hp=>by cases hij; simp only [hσ]; exact hp)
 ·rw [hO', ← hO]; exact n.keep
end GoAbs
