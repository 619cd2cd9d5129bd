/- Lemmas for the claim (contracts of the functions that it reaches, and what they compute), without conditions. -/
import Derived.Test.YtiapneoakbealaaGreatK04
import Derived.Laws.Tables
import Derived.ChangeKeysEq
set_option linter.unusedVariables false
set_option linter.unusedSimpArgs false
set_option maxRecDepth 10000
set_option maxHeartbeats 2000000
namespace GoAbs
open Go Go.RowKit
structure Ctx (X:Nat→Prop) (B:Nat) (w0 w:World) (ρ:Pl) (H:Heap):Prop where
 heap:HSim X B w ρ H
 xs:∀ b,X b→b<B
 below:Below B w0 w
 bs:B≤w.heap.size
variable {X:Nat→Prop} {B:Nat} {w0 w w':World} {ρ ρ':Pl} {H H':Heap}
theorem Ctx.next {x:AV}{v:Value}(h:Ctx X B w0 w ρ H) (n:Nxt X B w0 w ρ H x H' v w' ρ'):Ctx X B w0 w' ρ' H' :=
 ⟨n.heap,h.xs,n.below,Nat.le_trans h.bs n.keep.size⟩
theorem Yq2 {x:AV}{v:Value}(h:Ctx X B w0 w ρ H) (hr:Rep w (Own X ρ H) ρ x v):Nxt X B w0 w ρ H x H v w ρ :=
 ⟨hr,h.heap,Keep.refl _ _,fun _ _ h=>h,h.below⟩
theorem HSim.none_of (h:HSim X B w ρ H) {i:Nat}(hi:H[i]? = none∨H[i]? = some .unborn):ρ i=none:=by
 cases hp:ρ i with
 | none=>rfl
 | some p =>
  obtain ⟨bl,h1,h2⟩:=h.dom i p hp
  rcases hi with hi | hi
  ·rw [hi] at h1; cases h1
  ·rw [hi] at h1; cases h1; exact absurd rfl h2
theorem Yi1 {d:Option Dm}{bl:Blk}{i:Nat}(h:NewB d H bl i H'):(H[i]? = none∨H[i]? = some .unborn)∧H'[i]? = some bl∧∀ j,j≠i→H'[j]? = H[j]?:=by
 cases d with
 | none =>
  obtain ⟨rfl,rfl⟩:=h
  refine ⟨.inl (by simp),by simp,fun j hj=>?_⟩
  rcases Nat.lt_or_ge j H.length with h1 | h1
  ·rw [List.getElem?_append_left h1]
  ·rw [List.getElem?_eq_none (by simp; omega),List.getElem?_eq_none h1]
 | some d =>
  obtain ⟨_,h1,rfl⟩:=h
  refine ⟨.inr h1,?_,fun j hj=>List.getElem?_set_ne (fun h=>hj h.symm)⟩
  have hl:i<H.length:=by
   rcases Nat.lt_or_ge i H.length with h2 | h2
   ·exact h2
   ·rw [List.getElem?_eq_none h2] at h1; cases h1
  rw [List.getElem?_set_self hl]
theorem Zci {b:Nat}{i:Nat}{p:Nat×Nat}{bl:Blk}(hp:ρ i=some p) (hb:p.1=b) (hl:H[i]? = some bl) (h1:bl ≠ .unborn) (h2:bl ≠ .dead):Own X ρ H b :=
 .inr ⟨i,p,hp,hb,bl,hl,h1,h2⟩
theorem HSim.lt (h:HSim X B w ρ H) {i:Nat}{p:Nat×Nat}{bl:Blk}(hp:ρ i=some p) (hl:H[i]? = some bl) (h1:bl ≠ .unborn) (h2:bl ≠ .dead):p.1<w.heap.size∧B≤p.1:=by
 have lt:∀ {b:Nat} {o:Obj},w.heap[b]? = some o→b<w.heap.size:=fun h=>(Array.getElem?_eq_some_iff.1 h).1
 cases bl with
 | unborn=>exact absurd rfl h1
 | dead=>exact absurd rfl h2
 | cells l =>
  rcases h.cells i l hl with ⟨_,hn⟩ | ⟨bk,o,cs,e,h3,h4,h5,_⟩
  ·rw [hn] at hp; cases hp
  ·rw [h3] at hp; cases hp; exact ⟨lt h5,h4⟩
 | map es =>
  obtain ⟨bk,ms,ck,h3,h4,h5,_⟩:=h.map i es hl
  rw [h3] at hp; cases hp; exact ⟨lt h5,h4⟩
theorem Own.lt (h:HSim X B w ρ H) (hx:∀ b,X b→b<B) (hB:B≤w.heap.size) {b:Nat}(ho:Own X ρ H b):b<w.heap.size:=by
 rcases ho with ho | ⟨i,p,hp,rfl,bl,hl,h1,h2⟩
 ·exact Nat.lt_of_lt_of_le (hx b ho) hB
 ·exact (h.lt hp hl h1 h2).1
def Pl.put (ρ:Pl) (i:Nat) (p:Nat×Nat):Pl:=fun j=>if j=i then some p else ρ j
theorem Zga (ρ:Pl) (i:Nat) (p:Nat×Nat):ρ.put i p i=some p:=by simp [Pl.put]
theorem Zfn {ρ:Pl}{i j:Nat}{p:Nat×Nat}(h:j≠i):ρ.put i p j=ρ j:=by simp [Pl.put,h]
theorem HSim.new (hc:Ctx X B w0 w ρ H) {d:Option Dm}{i:Nat}{l:List AV}{cs:Array Value}{e:TypeId}(hn:NewB d H (.cells l) i H') (hlen:l.length≤cs.size)
  (hcs:∀ (j:Nat) (y:AV),l[j]? = some y→∃ v,cs[j]? = some v∧v.oneCell'=true∧Rep w (Own X ρ H) ρ y v) :
  HSim X B (w.alloc (.cells cs e)) (ρ.put i (w.heap.size,0)) H' ∧
  Keep w (Own X ρ H) (w.alloc (.cells cs e)) (Own X (ρ.put i (w.heap.size,0)) H') ∧
  (∀ j p,ρ j=some p→ρ.put i (w.heap.size,0) j=some p):=by
 obtain ⟨hold,hnew,hoth⟩:=Yi1 hn
 have hh:=hc.heap
 have hρi:=hh.none_of hold
 have hext:∀ j p,ρ j=some p→ρ.put i (w.heap.size,0) j=some p:=fun j p hp=>by
  rw [Zfn (fun hj=>by rw [hj,hρi] at hp; cases hp)]; exact hp
 have hK:Keep w (Own X ρ H) (w.alloc (.cells cs e)) (Own X (ρ.put i (w.heap.size,0)) H'):=by
  refine ⟨by simp,fun b hb _=>Below.heap_alloc _ _ _ hb,fun b hb=>?_,fun b hb=>by simp only [World.shape?]; rw [Below.heap_alloc _ _ _ hb]⟩
  rcases hb with hb | ⟨j,p,hp,rfl,bl,hl,h1,h2⟩
  ·exact .inl (.inl hb)
  ·by_cases hj:j=i
   ·subst hj; rw [Zga] at hp; cases hp; exact .inr (Nat.le_refl _)
   ·rw [Zfn hj] at hp
    exact .inl (Zci hp rfl (by rw [← hoth j hj]; exact hl) h1 h2)
 refine ⟨⟨fun j p hp=>?_,fun j l' hl=>?_,fun j es hl=>?_,fun j k p q b c hp hq hpq hb hc' nb nc=>?_⟩,hK,hext⟩
 ·by_cases hj:j=i
  ·subst hj; exact ⟨_,hnew,by simp⟩
  ·rw [Zfn hj] at hp
   rw [hoth j hj]; exact hh.dom j p hp
 ·by_cases hj:j=i
  ·subst hj
   rw [hnew] at hl; cases hl
   refine .inr ⟨w.heap.size,0,cs,e,Zga _ _ _,hc.bs,heap_alloc_new w _,by omega,fun k y hy=>?_⟩
   obtain ⟨v,h1,h2,h3⟩:=hcs k y hy
   exact ⟨v,by simpa using h1,h2,h3.keep hK hext⟩
  ·rw [hoth j hj] at hl
   rcases hh.cells j l' hl with ⟨h1,h2⟩ | ⟨bk,o,cs',e',h1,h2,h3,hsz,h4⟩
   ·exact .inl ⟨h1,by rw [Zfn hj]; exact h2⟩
   ·have hlt:bk<w.heap.size:=(Array.getElem?_eq_some_iff.1 h3).1
    refine .inr ⟨bk,o,cs',e',by rw [Zfn hj]; exact h1,h2,(Below.heap_alloc _ _ _ hlt).trans h3,hsz,fun k y hy=>?_⟩
    obtain ⟨v,g1,g2,g3⟩:=h4 k y hy
    exact ⟨v,g1,g2,g3.keep hK hext⟩
 ·by_cases hj:j=i
  ·subst hj; rw [hnew] at hl; cases hl
  ·rw [hoth j hj] at hl
   obtain ⟨bk,ms,ck,h1,h2,h3,h4,h5⟩:=hh.map j es hl
   have hlt:bk<w.heap.size:=(Array.getElem?_eq_some_iff.1 h3).1
   refine ⟨bk,ms,ck,by rw [Zfn hj]; exact h1,h2,(Below.heap_alloc _ _ _ hlt).trans h3,h4,fun k x y m hx hm=>?_⟩
   obtain ⟨g1,g2,g3⟩:=h5 k x y m hx hm
   exact ⟨g1.keep hK hext,g2.keep hK hext,g3⟩
 ·by_cases hj:j=i
  ·by_cases hk:k=i
   ·omega
   ·exfalso
    subst hj
    rw [Zga] at hp; cases hp
    rw [Zfn hk] at hq
    have hck:H[k]? = some c:=by rw [← hoth k hk]; exact hc'
    obtain ⟨bl,g1,g2⟩:=hh.dom k q hq
    rw [hck] at g1; cases g1
    have:=(hh.lt hq hck g2 nc).1
    simp only at hpq; omega
  ·by_cases hk:k=i
   ·exfalso
    subst hk
    rw [Zga] at hq; cases hq
    rw [Zfn hj] at hp
    have hbj:H[j]? = some b:=by rw [← hoth j hj]; exact hb
    obtain ⟨bl,g1,g2⟩:=hh.dom j p hp
    rw [hbj] at g1; cases g1
    have:=(hh.lt hp hbj g2 nb).1
    simp only at hpq; omega
   ·rw [Zfn hj] at hp
    rw [Zfn hk] at hq
    exact hh.inj j k p q b c hp hq hpq (by rw [← hoth j hj]; exact hb) (by rw [← hoth k hk]; exact hc') nb nc
theorem HSim.ghost (hh:HSim X B w ρ H) {d:Option Dm}{i:Nat}(hn:NewB d H (.cells []) i H'):HSim X B w ρ H'∧Keep w (Own X ρ H) w (Own X ρ H'):=by
 obtain ⟨hold,hnew,hoth⟩:=Yi1 hn
 have hρi:=hh.none_of hold
 have hown:∀ b,Own X ρ H' b→Own X ρ H b:=fun b hb=>by
  rcases hb with hb | ⟨j,p,hp,rfl,bl,hl,h1,h2⟩
  ·exact .inl hb
  ·have hj:j≠i:=fun hj=>by subst hj; rw [hρi] at hp; cases hp
   exact Zci hp rfl (by rw [← hoth j hj]; exact hl) h1 h2
 have hK:Keep w (Own X ρ H) w (Own X ρ H'):=⟨Nat.le_refl _,fun _ _ _=>rfl,fun b hb => .inl (hown b hb),fun _ _=>rfl⟩
 refine ⟨⟨fun j p hp=>?_,fun j l' hl=>?_,fun j es hl=>?_,fun j k p q b c hp hq hpq hb hc' nb nc=>?_⟩,hK⟩
 ·have hj:j≠i:=fun hj=>by subst hj; rw [hρi] at hp; cases hp
  rw [hoth j hj]; exact hh.dom j p hp
 ·by_cases hj:j=i
  ·subst hj
   rw [hnew] at hl; cases hl
   exact .inl ⟨rfl,hρi⟩
  ·rw [hoth j hj] at hl
   rcases hh.cells j l' hl with h1 | ⟨bk,o,cs',e',h1,h2,h3,hsz,h4⟩
   ·exact .inl h1
   ·refine .inr ⟨bk,o,cs',e',h1,h2,h3,hsz,fun k y hy=>?_⟩
    obtain ⟨v,g1,g2,g3⟩:=h4 k y hy
    exact ⟨v,g1,g2,g3.less hown⟩
 ·by_cases hj:j=i
  ·subst hj; rw [hnew] at hl; cases hl
  ·rw [hoth j hj] at hl
   obtain ⟨bk,ms,ck,h1,h2,h3,h4,h5⟩:=hh.map j es hl
   refine ⟨bk,ms,ck,h1,h2,h3,h4,fun k x y m hx hm=>?_⟩
   obtain ⟨g1,g2,g3⟩:=h5 k x y m hx hm
   exact ⟨g1.less hown,g2.less hown,g3⟩
 ·have hj:j≠i:=fun hj=>by subst hj; rw [hρi] at hp; cases hp
  have hk:k≠i:=fun hk=>by subst hk; rw [hρi] at hq; cases hq
  exact hh.inj j k p q b c hp hq hpq (by rw [← hoth j hj]; exact hb) (by rw [← hoth k hk]; exact hc') nb nc
theorem Zbn {b j:Nat}{bl:Blk}(h:(H.set b .dead)[j]? = some bl) (hd:bl ≠ .dead):j≠b∧H[j]? = some bl:=by
 by_cases hj:j=b
 ·subst hj
  rw [List.getElem?_set] at h
  simp only [if_true] at h
  split at h
  ·cases h; exact absurd rfl hd
  ·cases h
 ·rw [List.getElem?_set_ne (fun h=>hj h.symm)] at h
  exact ⟨hj,h⟩
theorem HSim.kill1 (hh:HSim X B w ρ H) (b:Nat):HSim X B w ρ (H.set b .dead)∧(∀ c,Own X ρ (H.set b .dead) c→Own X ρ H c):=by
 have hown:∀ c,Own X ρ (H.set b .dead) c→Own X ρ H c:=fun c hb=>by
  rcases hb with hb | ⟨j,p,hp,rfl,bl,hl,h1,h2⟩
  ·exact .inl hb
  ·exact Zci hp rfl (Zbn hl h2).2 h1 h2
 refine ⟨⟨fun j p hp=>?_,fun j l' hl=>?_,fun j es hl=>?_,fun j k p q b' c hp hq hpq hb hc' nb nc=>?_⟩,hown⟩
 ·obtain ⟨bl,h1,h2⟩:=hh.dom j p hp
  by_cases hj:b=j
  ·subst hj
   have hl:b<H.length:=by
    rcases Nat.lt_or_ge b H.length with h3 | h3
    ·exact h3
    ·rw [List.getElem?_eq_none h3] at h1; cases h1
   exact ⟨.dead,List.getElem?_set_self hl,by simp⟩
  ·exact ⟨bl,by rw [List.getElem?_set_ne hj]; exact h1,h2⟩
 ·rcases hh.cells j l' (Zbn hl (by simp)).2 with h1 | ⟨bk,o,cs',e',h1,h2,h3,hsz,h4⟩
  ·exact .inl h1
  ·refine .inr ⟨bk,o,cs',e',h1,h2,h3,hsz,fun k y hy=>?_⟩
   obtain ⟨v,g1,g2,g3⟩:=h4 k y hy
   exact ⟨v,g1,g2,g3.less hown⟩
 ·obtain ⟨bk,ms,ck,h1,h2,h3,h4,h5⟩:=hh.map j es (Zbn hl (by simp)).2
  refine ⟨bk,ms,ck,h1,h2,h3,h4,fun k x y m hx hm=>?_⟩
  obtain ⟨g1,g2,g3⟩:=h5 k x y m hx hm
  exact ⟨g1.less hown,g2.less hown,g3⟩
 ·exact hh.inj j k p q b' c hp hq hpq (Zbn hb nb).2 (Zbn hc' nc).2 nb nc
theorem Ycp {b bk o:Nat}{bl:Blk}(hb:H[b]? = some bl) (h1:bl ≠ .unborn) (h2:bl ≠ .dead) (hp:ρ b=some (bk,o)) {cs cs':Array Value}{e:TypeId}{fr:Nat×Nat}
  (hw:w.heap[bk]? = some (.cells cs e fr)) (hs:cs'.size=cs.size) {O':Nat→Prop} (hO:∀ c,O' c→Own X ρ H c):Keep w (Own X ρ H) (w.setRow bk cs') O':=by
 refine ⟨by simp,fun c hc hn=>?_,fun c hc => .inl (hO c hc),fun c hc=>?_⟩
 ·exact setRow_other w bk c cs' (fun hcb=>hn (by rw [hcb]; exact Zci hp rfl hb h1 h2))
 ·by_cases hcb:c=bk
  ·subst hcb
   simp only [World.shape?]
   rw [setRow_heap w c cs cs' e fr hw,hw]
   simp [hs]
  ·simp only [World.shape?]
   rw [setRow_other w bk c cs' hcb]
theorem Z8p {B:Nat}{a w:World}(h:Below B a w) {g:Nat}(hg:B≤g) (cs:Array Value):Below B a (w.setRow g cs) :=
 h.trans ⟨rfl,rfl,rfl,by simp,fun k hk=>setRow_other _ _ _ _ (by omega)⟩
theorem You {b:Nat}{l l':List AV}(hb:H[b]? = some (.cells l)) (c:Nat):Own X ρ (H.set b (.cells l')) c↔Own X ρ H c:=by
 have hlt:b<H.length:=by
  rcases Nat.lt_or_ge b H.length with h3 | h3
  ·exact h3
  ·rw [List.getElem?_eq_none h3] at hb; cases hb
 constructor
 ·rintro (h | ⟨j,p,hp,rfl,bl,hl,h1,h2⟩)
  ·exact .inl h
  ·by_cases hj:b=j
   ·subst hj; exact Zci hp rfl hb (by simp) (by simp)
   ·rw [List.getElem?_set_ne hj] at hl
    exact Zci hp rfl hl h1 h2
 ·rintro (h | ⟨j,p,hp,rfl,bl,hl,h1,h2⟩)
  ·exact .inl h
  ·by_cases hj:b=j
   ·subst hj; exact Zci hp rfl (List.getElem?_set_self hlt) (by simp) (by simp)
   ·exact Zci hp rfl (by rw [List.getElem?_set_ne hj]; exact hl) h1 h2
theorem HSim.setc (hc:Ctx X B w0 w ρ H) {b bk o:Nat}{l l':List AV}{cs cs':Array Value}{e:TypeId}(hb:H[b]? = some (.cells l)) (hp:ρ b=some (bk,o))
  (hw:w.heap[bk]? = some (.cells cs e (0,0))) (hs:cs'.size=cs.size) (hlen:o+l'.length≤cs'.size)
  (hcs:∀ (j:Nat) (y:AV),l'[j]? = some y→∃ v,cs'[o+j]? = some v∧v.oneCell'=true∧Rep w (Own X ρ H) ρ y v) :
  HSim X B (w.setRow bk cs') ρ (H.set b (.cells l'))∧Keep w (Own X ρ H) (w.setRow bk cs') (Own X ρ (H.set b (.cells l'))):=by
 have hh:=hc.heap
 have hlt:b<H.length:=by
  rcases Nat.lt_or_ge b H.length with h3 | h3
  ·exact h3
  ·rw [List.getElem?_eq_none h3] at hb; cases hb
 have hK:Keep w (Own X ρ H) (w.setRow bk cs') (Own X ρ (H.set b (.cells l'))):=Ycp hb (by simp) (by simp) hp hw hs (fun c hc'=>(You hb c).1 hc')
 have hB:B≤bk:=(hh.lt hp hb (by simp) (by simp)).2
 refine ⟨⟨fun j p hp'=>?_,fun j l'' hl=>?_,fun j es hl=>?_,fun j k p q b' c hp' hq hpq hb' hc' nb nc=>?_⟩,hK⟩
 ·by_cases hj:b=j
  ·subst hj; exact ⟨_,List.getElem?_set_self hlt,by simp⟩
  ·rw [List.getElem?_set_ne hj]; exact hh.dom j p hp'
 ·by_cases hj:b=j
  ·subst hj
   rw [List.getElem?_set_self hlt] at hl; cases hl
   refine .inr ⟨bk,o,cs',e,hp,hB,setRow_heap w bk cs cs' e _ hw,hlen,fun k y hy=>?_⟩
   obtain ⟨v,g1,g2,g3⟩:=hcs k y hy
   exact ⟨v,g1,g2,g3.keep hK (fun _ _ h=>h)⟩
  ·rw [List.getElem?_set_ne hj] at hl
   rcases hh.cells j l'' hl with h1 | ⟨bk2,o2,cs2,e2,h1,h2,h3,hsz,h4⟩
   ·exact .inl h1
   ·have hne:bk2≠bk:=fun h=>hj (hh.inj b j _ _ _ _ hp h1 h.symm hb hl (by simp) (by simp))
    refine .inr ⟨bk2,o2,cs2,e2,h1,h2,(setRow_other w bk bk2 cs' hne).trans h3,hsz,fun k y hy=>?_⟩
    obtain ⟨v,g1,g2,g3⟩:=h4 k y hy
    exact ⟨v,g1,g2,g3.keep hK (fun _ _ h=>h)⟩
 ·have hj:b≠j:=fun hj=>by subst hj; rw [List.getElem?_set_self hlt] at hl; cases hl
  rw [List.getElem?_set_ne hj] at hl
  obtain ⟨bk2,ms,ck,h1,h2,h3,h4,h5⟩:=hh.map j es hl
  have hne:bk2≠bk:=fun h=>hj (hh.inj b j _ _ _ _ hp h1 h.symm hb hl (by simp) (by simp))
  refine ⟨bk2,ms,ck,h1,h2,(setRow_other w bk bk2 cs' hne).trans h3,h4,fun k x y m hx hm=>?_⟩
  obtain ⟨g1,g2,g3⟩:=h5 k x y m hx hm
  exact ⟨g1.keep hK (fun _ _ h=>h),g2.keep hK (fun _ _ h=>h),g3⟩
 ·have look:∀ {i:Nat} {bl:Blk},(H.set b (.cells l'))[i]? = some bl→bl ≠ .dead→∃ bl2,H[i]? = some bl2∧bl2 ≠ .dead:=fun {i bl} h hd=>by
   by_cases hi:b=i
   ·subst hi; exact ⟨_,hb,by simp⟩
   ·rw [List.getElem?_set_ne hi] at h; exact ⟨_,h,hd⟩
  obtain ⟨b2,g1,g2⟩:=look hb' nb
  obtain ⟨c2,g3,g4⟩:=look hc' nc
  exact hh.inj j k p q b2 c2 hp' hq hpq g1 g3 g2 g4
theorem HSim.adopt (hc:Ctx X B w0 w ρ H) {d:Option Dm}{b i bk o o2:Nat}{l l':List AV}{cs cs':Array Value}{e:TypeId}(hb:H[b]? = some (.cells l)) (hp:ρ b=some (bk,o))
  (hw:w.heap[bk]? = some (.cells cs e (0,0))) (hs:cs'.size=cs.size) (hn:NewB d (H.set b .dead) (.cells l') i H') (hlen:o2+l'.length≤cs'.size)
  (hcs:∀ (j:Nat) (y:AV),l'[j]? = some y→∃ v,cs'[o2+j]? = some v∧v.oneCell'=true∧Rep w (Own X ρ H) ρ y v) :
  HSim X B (w.setRow bk cs') (ρ.put i (bk,o2)) H' ∧
  Keep w (Own X ρ H) (w.setRow bk cs') (Own X (ρ.put i (bk,o2)) H') ∧
  (∀ j p,ρ j=some p→ρ.put i (bk,o2) j=some p):=by
 have hh:=hc.heap
 obtain ⟨hh1,hown1⟩:=hh.kill1 b
 obtain ⟨hold,hnew,hoth⟩:=Yi1 hn
 have hρi:=hh1.none_of hold
 have hB:B≤bk:=(hh.lt hp hb (by simp) (by simp)).2
 have hext:∀ j p,ρ j=some p→ρ.put i (bk,o2) j=some p:=fun j p hp=>by
  rw [Zfn (fun hj=>by rw [hj,hρi] at hp; cases hp)]; exact hp
 have hO:∀ c,Own X (ρ.put i (bk,o2)) H' c→Own X ρ H c:=fun c hc'=>by
  rcases hc' with h | ⟨j,p,hp',rfl,bl,hl,h1,h2⟩
  ·exact .inl h
  ·by_cases hj:j=i
   ·subst hj
    rw [Zga] at hp'; cases hp'
    exact Zci hp rfl hb (by simp) (by simp)
   ·rw [Zfn hj] at hp'
    rw [hoth j hj] at hl
    exact Zci hp' rfl (Zbn hl h2).2 h1 h2
 have hK:=Ycp hb (by simp) (by simp) hp hw hs hO
 have far:∀ {j:Nat} {q:Nat×Nat} {bl:Blk},ρ j=some q→(H.set b .dead)[j]? = some bl→bl ≠ .unborn→bl ≠ .dead→q.1≠bk:=fun {j q bl} hq hl h1 h2 hqb=>by
  obtain ⟨hj,hl'⟩:=Zbn hl h2
  exact hj (hh.inj j b _ _ _ _ hq hp hqb hl' hb h2 (by simp))
 refine ⟨⟨fun j p hp'=>?_,fun j l'' hl=>?_,fun j es hl=>?_,fun j k p q b' c hp' hq hpq hb' hc' nb nc=>?_⟩,hK,hext⟩
 ·by_cases hj:j=i
  ·subst hj; exact ⟨_,hnew,by simp⟩
  ·rw [Zfn hj] at hp'
   rw [hoth j hj]; exact hh1.dom j p hp'
 ·by_cases hj:j=i
  ·subst hj
   rw [hnew] at hl; cases hl
   refine .inr ⟨bk,o2,cs',e,Zga _ _ _,hB,setRow_heap w bk cs cs' e _ hw,hlen,fun k y hy=>?_⟩
   obtain ⟨v,h1,h2,h3⟩:=hcs k y hy
   exact ⟨v,h1,h2,h3.keep hK hext⟩
  ·rw [hoth j hj] at hl
   obtain ⟨_,hl0⟩:=Zbn hl (by simp)
   rcases hh.cells j l'' hl0 with ⟨h1,h2⟩ | ⟨bk2,o3,cs2,e2,h1,h2,h3,hsz,h4⟩
   ·exact .inl ⟨h1,by rw [Zfn hj]; exact h2⟩
   ·have hne:bk2≠bk:=far h1 hl (by simp) (by simp)
    refine .inr ⟨bk2,o3,cs2,e2,by rw [Zfn hj]; exact h1,h2,(setRow_other w bk bk2 cs' hne).trans h3,hsz,fun k y hy=>?_⟩
    obtain ⟨v,g1,g2,g3⟩:=h4 k y hy
    exact ⟨v,g1,g2,g3.keep hK hext⟩
 ·have hj:j≠i:=fun hj=>by subst hj; rw [hnew] at hl; cases hl
  rw [hoth j hj] at hl
  obtain ⟨_,hl0⟩:=Zbn hl (by simp)
  obtain ⟨bk2,ms,ck,h1,h2,h3,h4,h5⟩:=hh.map j es hl0
  have hne:bk2≠bk:=far h1 hl (by simp) (by simp)
  refine ⟨bk2,ms,ck,by rw [Zfn hj]; exact h1,h2,(setRow_other w bk bk2 cs' hne).trans h3,h4,fun k x y m hx hm=>?_⟩
  obtain ⟨g1,g2,g3⟩:=h5 k x y m hx hm
  exact ⟨g1.keep hK hext,g2.keep hK hext,g3⟩
 ·by_cases hj:j=i
  ·by_cases hk:k=i
   ·omega
   ·exfalso
    subst hj
    rw [Zga] at hp'; cases hp'
    rw [Zfn hk] at hq
    rw [hoth k hk] at hc'
    obtain ⟨bl,g1,g2⟩:=hh1.dom k q hq
    rw [hc'] at g1; cases g1
    exact far hq hc' g2 nc hpq.symm
  ·by_cases hk:k=i
   ·exfalso
    subst hk
    rw [Zga] at hq; cases hq
    rw [Zfn hj] at hp'
    rw [hoth j hj] at hb'
    obtain ⟨bl,g1,g2⟩:=hh1.dom j p hp'
    rw [hb'] at g1; cases g1
    exact far hp' hb' g2 nb hpq
   ·rw [Zfn hj] at hp'
    rw [Zfn hk] at hq
    rw [hoth j hj] at hb'
    rw [hoth k hk] at hc'
    exact hh1.inj j k p q b' c hp' hq hpq hb' hc' nb nc
end GoAbs
