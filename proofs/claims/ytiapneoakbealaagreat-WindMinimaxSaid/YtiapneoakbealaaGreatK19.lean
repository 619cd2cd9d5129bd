/- Lemmas for the claim (contracts of the functions that it reaches, and what they compute), without conditions. -/
import Derived.Test.YtiapneoakbealaaGreatK18
set_option linter.unusedVariables false
set_option linter.unusedSimpArgs false
set_option maxRecDepth 10000
set_option maxHeartbeats 2000000
namespace GoAbs
open Go Go.RowKit
variable {P:Program} {H H':Heap}
theorem Z0h {f:Nat}{xs:List AV}{r:AV}(h:SpecR P f [] xs r H') (hx:BVs H [] xs xs) :
  SpecR P f H xs (r.gc (fun i=>some (i+H.length))) (H++H'.map (Blk.gc (fun i=>some (i+H.length)))):=by
 refine ⟨h.1,fun X B w0 w ρ vs hh hX hbel hB hr=>?_⟩
 have hC:Ctx X B w0 w ρ H:=⟨hh,hX,hbel,hB⟩
 have hlt:∀ b,Own X ρ H b→b<w.heap.size:=fun b hb=>Own.lt hh hX hB hb
 have h0:∀ c,Own (Own X ρ H) noPl [] c→Own X ρ H c:=fun c hc=>hc.elim id (fun ⟨_,_,h,_⟩=>by cases h)
 have hrs:=Z24 hC hx hr
 refine (h.2 (Own X ρ H) w.heap.size w w noPl vs ⟨(fun i p hp=>by cases hp),(fun i l hl=>by simp at hl),(fun i es hl=>by simp at hl),(fun i j p q bl cl hp=>by cases hp)⟩ hlt (Below.refl _ _) (Nat.le_refl _)
  ⟨hrs.1,fun i x v hxx hv=>(hrs.2 i x v hxx hv).less h0⟩).mono fun e w' he=>?_
 obtain ⟨v,ρ1,rfl,n⟩:=he
 let fs:Nat→Option Nat:=fun i=>some (i+H.length)
 let ρ2:Pl:=fun i=>if i<H.length then ρ i else ρ1 (i - H.length)
 have lo:∀ {i:Nat} {p:Nat×Nat},ρ i=some p→i<H.length:=fun {i p} hp=>by
  obtain ⟨bl,g1,_⟩:=hh.dom i p hp
  exact (List.getElem?_eq_some_iff.1 g1).1
 have ρlo:∀ {i:Nat},i<H.length→ρ2 i=ρ i:=fun {i} hi=>if_pos hi
 have ρhi:∀ {i:Nat},¬ i<H.length→ρ2 i=ρ1 (i - H.length):=fun {i} hi=>if_neg hi
 have hlo:∀ {i:Nat},i<H.length→(H++H'.map (Blk.gc fs))[i]? = H[i]?:=fun {i} hi=>List.getElem?_append_left hi
 have hhi:∀ {i:Nat} {bl:Blk},¬ i<H.length→(H++H'.map (Blk.gc fs))[i]? = some bl→∃ b0,H'[i - H.length]? = some b0∧bl=b0.gc fs:=fun {i bl} hi hb=>by
  rw [List.getElem?_append_right (by omega),List.getElem?_map] at hb
  obtain ⟨b0,g1,g2⟩:=Option.map_eq_some_iff.1 hb
  exact ⟨b0,g1,g2.symm⟩
 have gcd:∀ {bl:Blk},bl.gc fs ≠ .dead→bl ≠ .dead:=fun {bl} h h1=>by subst h1; exact h rfl
 have gcu:∀ {bl:Blk},bl.gc fs ≠ .unborn→bl ≠ .unborn:=fun {bl} h h1=>by subst h1; exact h rfl
 have hO:∀ c,Own X ρ2 (H++H'.map (Blk.gc fs)) c→Own (Own X ρ H) ρ1 H' c:=fun c hc=>by
  rcases hc with hx | ⟨i,p,hp,rfl,bl,hbl,h1,h2⟩
  ·exact .inl (.inl hx)
  ·by_cases hi:i<H.length
   ·rw [ρlo hi] at hp
    rw [hlo hi] at hbl
    exact .inl (Zci hp rfl hbl h1 h2)
   ·rw [ρhi hi] at hp
    obtain ⟨b0,g1,rfl⟩:=hhi hi hbl
    exact Zci hp rfl g1 (gcu h1) (gcd h2)
 have hK:Keep w (Own X ρ H) w' (Own X ρ2 (H++H'.map (Blk.gc fs))):=by
  refine ⟨n.below.size,fun b hb _=>n.below.block b hb,fun b hb=>?_,fun b hb=>by simp only [World.shape?]; rw [n.below.block b hb]⟩
  rcases hO b hb with h1 | ⟨i,p,hp,rfl,bl,hbl,h1,h2⟩
  ·exact .inl h1
  ·exact .inr (n.heap.lt hp hbl h1 h2).2
 have hext:∀ i p,ρ i=some p→ρ2 i=some p:=fun i p hp=>by rw [ρlo (lo hp)]; exact hp
 have rep:∀ {x:AV} {u:Value},Rep w' (Own (Own X ρ H) ρ1 H') ρ1 x u→Rep w' (Own X ρ2 (H++H'.map (Blk.gc fs))) ρ2 (x.gc fs) u:=fun hr=>Ygr hr hO (fun i j p hij hp=>by
  cases hij
  rw [ρhi (by omega),Nat.add_sub_cancel]; exact hp)
 refine ⟨v,ρ2,rfl,⟨rep n.rep,⟨fun i p hp=>?_,fun i l hl=>?_,fun i es hl=>?_,fun i j p q b c hp hq hpq hb hc nb nc=>?_⟩,hK,hext,hbel.trans (n.below.mono hB)⟩⟩
 ·by_cases hi:i<H.length
  ·rw [ρlo hi] at hp
   rw [hlo hi]; exact hh.dom i p hp
  ·rw [ρhi hi] at hp
   obtain ⟨bl,g1,g2⟩:=n.heap.dom _ p hp
   refine ⟨bl.gc fs,by rw [List.getElem?_append_right (by omega),List.getElem?_map,g1]; rfl,?_⟩
   cases bl <;> simp [Blk.gc] at g2 ⊢
 ·by_cases hi:i<H.length
  ·rw [hlo hi] at hl
   rcases hh.cells i l hl with ⟨h1,h2⟩ | ⟨bk,o,cs,e,k1,k2,k3,k4,k5⟩
   ·exact .inl ⟨h1,by rw [ρlo hi]; exact h2⟩
   ·have hbk:bk<w.heap.size:=(Array.getElem?_eq_some_iff.1 k3).1
    exact .inr ⟨bk,o,cs,e,by rw [ρlo hi]; exact k1,k2,(n.below.block bk hbk).trans k3,k4,fun m y hy=>let ⟨u,m1,m2,m3⟩:=k5 m y hy; ⟨u,m1,m2,m3.keep hK hext⟩⟩
  ·obtain ⟨b0,g1,g2⟩:=hhi hi hl
   cases b0 with
   | cells l1 =>
    simp only [Blk.gc,Blk.cells.injEq] at g2
    subst g2
    rcases n.heap.cells _ l1 g1 with ⟨rfl,h2⟩ | ⟨bk,o,cs,e,k1,k2,k3,k4,k5⟩
    ·exact .inl ⟨by simp [gcL],by rw [ρhi hi]; exact h2⟩
    ·refine .inr ⟨bk,o,cs,e,by rw [ρhi hi]; exact k1,Nat.le_trans hB k2,k3,by rw [Zax]; simpa using k4,fun m y hy=>?_⟩
     rw [Zax,List.getElem?_map] at hy
     obtain ⟨z,hz,rfl⟩:=Option.map_eq_some_iff.1 hy
     obtain ⟨u,m1,m2,m3⟩:=k5 m z hz
     exact ⟨u,m1,m2,rep m3⟩
   | _=>cases g2
 ·by_cases hi:i<H.length
  ·rw [hlo hi] at hl
   obtain ⟨bk,ms,ck,k1,k2,k3,k4,k5⟩:=hh.map i es hl
   have hbk:bk<w.heap.size:=(Array.getElem?_eq_some_iff.1 k3).1
   exact ⟨bk,ms,ck,by rw [ρlo hi]; exact k1,k2,(n.below.block bk hbk).trans k3,k4,fun m x y me hxy hm=>let ⟨q1,q2,q3⟩:=k5 m x y me hxy hm; ⟨q1.keep hK hext,q2.keep hK hext,q3⟩⟩
  ·obtain ⟨b0,g1,g2⟩:=hhi hi hl
   cases b0 with
   | map es1 =>
    simp only [Blk.gc,Blk.map.injEq] at g2
    subst g2
    obtain ⟨bk,ms,ck,k1,k2,k3,k4,k5⟩:=n.heap.map _ es1 g1
    refine ⟨bk,ms,ck,by rw [ρhi hi]; exact k1,Nat.le_trans hB k2,k3,by simpa using k4,fun m x y me hxy hm=>?_⟩
    rw [List.getElem?_map] at hxy
    obtain ⟨z,hz,hzz⟩:=Option.map_eq_some_iff.1 hxy
    cases hzz
    obtain ⟨q1,q2,q3⟩:=k5 m z.1 z.2 me hz hm
    exact ⟨rep q1,rep q2,q3⟩
   | _=>cases g2
 ·have liveLo:∀ {i:Nat} {p:Nat×Nat} {b:Blk},i<H.length→ρ2 i=some p→(H++H'.map (Blk.gc fs))[i]? = some b→b ≠ .dead→p.1<w.heap.size:=fun {i p b} hi hp hb nb=>by
   rw [ρlo hi] at hp
   rw [hlo hi] at hb
   obtain ⟨bl,g1,g2⟩:=hh.dom i p hp
   rw [hb] at g1; cases g1
   exact (hh.lt hp hb g2 nb).1
  have liveHi:∀ {i:Nat} {p:Nat×Nat} {b:Blk},¬ i<H.length→ρ2 i=some p→(H++H'.map (Blk.gc fs))[i]? = some b→b ≠ .dead→w.heap.size≤p.1:=fun {i p b} hi hp hb nb=>by
   rw [ρhi hi] at hp
   obtain ⟨b0,g1,rfl⟩:=hhi hi hb
   obtain ⟨bl,g3,g4⟩:=n.heap.dom _ p hp
   rw [g1] at g3; cases g3
   exact (n.heap.lt hp g1 g4 (gcd nb)).2
  by_cases hi:i<H.length <;> by_cases hj:j<H.length
  ·rw [ρlo hi] at hp
   rw [ρlo hj] at hq
   rw [hlo hi] at hb
   rw [hlo hj] at hc
   exact hh.inj i j p q b c hp hq hpq hb hc nb nc
  ·have:=liveLo hi hp hb nb
   have:=liveHi hj hq hc nc
   omega
  ·have:=liveHi hi hp hb nb
   have:=liveLo hj hq hc nc
   omega
  ·rw [ρhi hi] at hp
   rw [ρhi hj] at hq
   obtain ⟨b0,g1,rfl⟩:=hhi hi hb
   obtain ⟨c0,g2,rfl⟩:=hhi hj hc
   have:=n.heap.inj _ _ p q b0 c0 hp hq hpq g1 g2 (gcd nb) (gcd nc)
   omega
end GoAbs
