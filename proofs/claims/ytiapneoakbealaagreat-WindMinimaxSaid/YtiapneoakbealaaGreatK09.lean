/- Lemmas for the claim (contracts of the functions that it reaches, and what they compute), without conditions. -/
import Derived.Test.YtiapneoakbealaaGreatK08
import Derived.Laws.BytesString
set_option linter.unusedVariables false
set_option linter.unusedSimpArgs false
set_option maxRecDepth 10000
set_option maxHeartbeats 2000000
namespace GoAbs
open Go Go.RowKit
variable {X:Nat→Prop} {B:Nat} {w0 w w':World} {ρ ρ':Pl} {H H':Heap} {P:Program} {O:Nat→Prop}
theorem Zql {n:Nat}(h0:0<n):∀ (l:List AV),(∀ x,x∈l→x.cells.length=n)→(l.flatMap AV.cells).length=l.length*n ∧
  ∀ (j:Nat) (y:AV),(l.flatMap AV.cells)[j]? = some y→∃ x,l[j / n]? = some x∧x.cells[j % n]? = some y
 | [],_=>⟨by simp,fun j y hy=>by simp at hy⟩
 | x::r,h=>by
  obtain ⟨h1,h2⟩:=Zql h0 r (fun z hz=>h z (by simp [hz]))
  have hx:=h x (by simp)
  refine ⟨by simp only [List.flatMap_cons,List.length_append,List.length_cons,h1,hx,Nat.add_mul]; omega,fun j y hy=>?_⟩
  rw [List.flatMap_cons] at hy
  by_cases hj:j<n
  ·rw [List.getElem?_append_left (by omega)] at hy
   exact ⟨x,by rw [Nat.div_eq_of_lt hj]; rfl,by rw [Nat.mod_eq_of_lt hj]; exact hy⟩
  ·rw [List.getElem?_append_right (by omega),hx] at hy
   obtain ⟨z,g1,g2⟩:=h2 _ y hy
   have e1:j / n=(j - n) / n+1:=by rw [Nat.div_eq_sub_div h0 (by omega)]
   have e2:j % n=(j - n) % n:=Nat.mod_eq_sub_mod (by omega)
   exact ⟨z,by rw [e1]; simpa using g1,by rw [e2]; exact g2⟩
theorem Yih (hh:HSim X B w ρ H) {q:Nat→Prop}{n m:Nat}{cs:List AV}{x:AV}{v:Value}(h0:0<n) (hc:Cont q n H x cs) (hm:cs.length=m*n) (hr:Rep w (Own X ρ H) ρ x v) :
  ∃ (A:Option Addr) (c:Nat) (us:List Value),v = .slice A m c∧us.length=m*n∧(∀ u,u∈us→u.oneCell'=true) ∧
   (∀ (j:Nat) (y:AV) (u:Value),cs[j]? = some y→us[j]? = some u→Rep w (Own X ρ H) ρ y u) ∧
   ((m=0∧us = [])∨∃ blk off,A=some ⟨blk,off,none⟩∧∀ (j:Nat) (u:Value),us[j]? = some u→w.cell? ⟨blk,off+j,none⟩=some u):=by
 have zero:m*n=0→m=0:=fun h=>by rcases Nat.mul_eq_zero.1 h with h | h <;> omega
 unfold Cont at hc
 split at hc
 ·obtain ⟨A,rfl⟩:=Zhe hr
  subst hc
  have hm0:m=0:=zero (by simpa using hm.symm)
  subst hm0
  exact ⟨A,0,[],rfl,by simp,by simp,by simp,.inl ⟨rfl,rfl⟩⟩
 ·rename_i l
  obtain ⟨hl,rfl⟩:=hc
  obtain ⟨A,c,sz,blk,off,g,rfl,hcap,hA,hz,hg,h1,h⟩:=Yff hr
  obtain ⟨f1,f2⟩:=Zql h0 l hl
  have hlm:l.length=m:=Nat.eq_of_mul_eq_mul_right h0 (f1.symm.trans hm)
  subst hlm
  rcases Nat.eq_zero_or_pos l.length with hl0 | hl0
  ·have hle:=List.length_eq_zero_iff.1 hl0
   subst hle
   exact ⟨A,c,[],rfl,by simp,by simp,by simp,.inl ⟨rfl,rfl⟩⟩
  ·obtain ⟨hA1,hA2⟩:=hA hl0
   have hszn:sz=n:=by
    have hm:=List.getElem_mem hl0
    rw [← hz _ hm,hl _ hm]
   subst hszn
   obtain ⟨us,k1,k2⟩:=Yjj (n:=l.length*sz) (q:=fun j u=>w.cell? ⟨blk,off+j,none⟩=some u∧u.oneCell'=true∧∀ y,(l.flatMap AV.cells)[j]? = some y→Rep w (Own X ρ H) ρ y u) (fun j hj=>by
    have hlt:j<(l.flatMap AV.cells).length:=by omega
    obtain ⟨x,e1,e2⟩:=f2 j _ (List.getElem?_eq_getElem hlt)
    have hj2:j / sz*sz+j % sz=j:=Nat.div_add_mod' j sz
    have g1:=hg _ _ _ _ e1 e2
    have g2:=h1 _ _ _ _ e1 e2
    have g3:=h _ _ _ _ e1 e2
    rw [hj2] at g1 g2 g3
    refine ⟨g j,g1,g2,fun y hy=>?_⟩
    rw [List.getElem?_eq_getElem hlt] at hy; cases hy
    exact g3.keep (Keep.refl _ _) (fun _ _ h=>by cases h))
   refine ⟨A,c,us,rfl,k1,fun u hu=>?_,fun j y u hy hu=>(k2 j u hu).2.2 y hy,.inr ⟨blk,off,hA1,fun j u hu=>(k2 j u hu).1⟩⟩
   obtain ⟨j,hj⟩:=List.getElem?_of_mem hu
   exact (k2 j u hj).2.1
 ·rename_i ek b off len
  obtain ⟨hek,hc⟩:=hc
  rcases hc with ⟨rfl,rfl⟩ | ⟨_,l,hl,hfit,rfl⟩
  ·have hm0:m=0:=zero (by simpa using hm.symm)
   subst hm0
   rcases Zqu hr with ⟨A,_,rfl⟩ | ⟨c,blk,o,rfl,_⟩
   ·exact ⟨A,0,[],rfl,by simp,by simp,by simp,.inl ⟨rfl,rfl⟩⟩
   ·exact ⟨_,c,[],rfl,by simp,by simp,by simp,.inl ⟨rfl,rfl⟩⟩
  ·have hcl:((l.drop off).take (len*n)).length=len*n:=by rw [List.length_take,List.length_drop]; omega
   have hlm:len=m:=Nat.eq_of_mul_eq_mul_right h0 (hcl.symm.trans hm)
   subst hlm
   rcases Zqu hr with ⟨A,hl0,rfl⟩ | ⟨c,blk,o,rfl,hp,_⟩
   ·subst hl0
    exact ⟨A,0,[],rfl,by simp,by simp,by simp,.inl ⟨rfl,rfl⟩⟩
   ·rcases hh.cells b l hl with ⟨_,hn⟩ | ⟨bk,o',cs',e',g1,g2,g3,hsz,g4⟩
    ·rw [hn] at hp; cases hp
    ·rw [g1] at hp
     simp only [Option.some.injEq,Prod.mk.injEq] at hp
     obtain ⟨rfl,rfl⟩:=hp
     obtain ⟨us,k1,k2⟩:=Yjj (n:=len*n) (q:=fun j u=>w.cell? ⟨bk,o'+off+j,none⟩=some u∧u.oneCell'=true∧∀ y,((l.drop off).take (len*n))[j]? = some y→Rep w (Own X ρ H) ρ y u) (fun j hj=>by
      have hlt:off+j<l.length:=by omega
      obtain ⟨u,e1,e2,e3⟩:=g4 _ _ (List.getElem?_eq_getElem hlt)
      refine ⟨u,by simp only [World.cell?,g3]; rw [Nat.add_assoc]; simpa using e1,e2,fun y hy=>?_⟩
      rw [List.getElem?_take_of_lt hj,List.getElem?_drop,List.getElem?_eq_getElem hlt] at hy; cases hy
      exact e3)
     refine ⟨_,c,us,rfl,k1,fun u hu=>?_,fun j y u hy hu=>(k2 j u hu).2.2 y hy,.inr ⟨bk,o'+off,rfl,fun j u hu=>(k2 j u hu).1⟩⟩
     obtain ⟨j,hj⟩:=List.getElem?_of_mem hu
     exact (k2 j u hj).2.1
 ·exact hc.elim
theorem Zm1 {A:Option Addr}{m c n:Nat}{us:List Value}(hl:us.length=m*n)
  (h:(m=0∧us = [])∨∃ blk off,A=some ⟨blk,off,none⟩∧∀ (j:Nat) (u:Value),us[j]? = some u→w.cell? ⟨blk,off+j,none⟩=some u) (hw:∀ a,w'.cell? a=w.cell? a) :
  (Builtin.firstCells n m (.slice A m c)).run P w' = .ok us.toArray w':=by
 rcases h with ⟨rfl,rfl⟩ | ⟨blk,off,rfl,h⟩
 ·cases A with
  | none=>simp [Builtin.firstCells]
  | some a =>
   have:=run_loadCells_list (P:=P) w' a [] (by simp)
   simpa [Builtin.firstCells] using this
 ·simp only [Builtin.firstCells]
  rw [← hl]
  exact run_loadCells_list (P:=P) w' ⟨blk,off,none⟩ us (fun j u hu=>by rw [add_plain,hw]; exact h j u hu)
theorem Z7s (t ty e:TypeId) (i:TypeInfo) (ht:P.underlying t=some (.slice e)) (hi:P.info? e=some i) {A A':Option Addr}{sLen sCap m c:Nat}{us:List Value}
  (hf:(Builtin.firstCells i.size m (.slice A' m c)).run P w = .ok us.toArray w) (hroom:sLen+m≤sCap)
  (hst:match A with | some a=>(storeCells (a.add (sLen*i.size)) us).run P w = .ok () w' | none=>w'=w) :
  (Builtin.append_ #[t,t] ty #[.slice A sLen sCap,.slice A' m c]).run P w = .ok (.slice A (sLen+m) sCap) w':=by
 cases A with
 | none =>
  subst hst
  simp [Builtin.append_,run_underlying ht,Zdd hi,Builtin.lenOf,hroom,hf]
 | some a =>
  simp only at hst
  simp [Builtin.append_,run_underlying ht,Zdd hi,Builtin.lenOf,hroom,hf,hst]
theorem Yk2 (t ty e:TypeId) (i:TypeInfo) (z:Value) (ht:P.underlying t=some (.slice e)) (hi:P.info? e=some i) (hz:i.zero=some z) {A A':Option Addr}{sLen sCap m c:Nat}{olds us:List Value}
  (hfo:(Builtin.firstCells i.size sLen (.slice A sLen sCap)).run P w.drew = .ok olds.toArray w.drew) (hf:(Builtin.firstCells i.size m (.slice A' m c)).run P w.drew = .ok us.toArray w.drew) (hg:sCap<sLen+m)
  (h63:((sLen+m:Nat):Int)≤9223372036854775807) (hfit:Builtin.nextslicecap (sLen+m) sCap*i.bytes≤281474976710656) :
  (Builtin.append_ #[t,t] ty #[.slice A sLen sCap,.slice A' m c]).run P w =
   .ok (.slice (some ⟨w.heap.size,0,none⟩) (sLen+m) (grownCap w (sLen+m) sCap e))
    (w.drew.alloc (.cells (olds++us++(Builtin.zeroCells z.cells (grownCap w (sLen+m) sCap e - (sLen+m))).toList).toArray e)):=by
 have hn:¬ (sLen+m≤sCap):=by omega
 have h63':¬ (9223372036854775807<((sLen:Int)+(m:Int))):=by omega
 have h48':¬ (281474976710656<Builtin.nextslicecap (sLen+m) sCap*i.bytes):=by omega
 simp [Builtin.append_,run_underlying ht,Zdd hi,typeInfo,zeroValue,hi,hz,Builtin.lenOf,hn,h63',h48',Question.forced,hf,hfo,newRow,grownCap]
 congr 2
 apply Array.ext'
 simp
theorem Nxt.of_less {H1:Heap}{x:AV}{v:Value}(h:Nxt X B w0 w ρ H1 x H' v w' ρ') (hO:∀ c,Own X ρ H1 c→Own X ρ H c):Nxt X B w0 w ρ H x H' v w' ρ' :=
 ⟨h.rep,h.heap,Keep.trans ⟨Nat.le_refl _,fun _ _ _=>rfl,fun b hb => .inl (hO b hb),fun _ _=>rfl⟩ h.keep,h.rho,h.below⟩
theorem Y0l (hC:Ctx X B w0 w ρ H) {d:Option Dm}{t ty el:TypeId}{ti:TypeInfo}{z:Value}{ek:Option Nat}(hu:P.underlying t=some (.slice el)) (hti:P.info? el=some ti) (hz:ti.zero=some z)
  (hsz:ti.size=es ek) (hzs:z.cells.size=es ek) {A A':Option Addr} {sLen sCap m c i:Nat} {os cs:List AV} {olds us:List Value} (hol:olds.length=sLen*es ek) (hosl:os.length=sLen*es ek)
  (hul:us.length=m*es ek) (hcl:cs.length=m*es ek)
  (hfo:(Builtin.firstCells ti.size sLen (.slice A sLen sCap)).run P w.drew = .ok olds.toArray w.drew) (hf:(Builtin.firstCells ti.size m (.slice A' m c)).run P w.drew = .ok us.toArray w.drew)
  (h1o:∀ u,u∈olds→u.oneCell'=true) (h1:∀ u,u∈us→u.oneCell'=true)
  (hro:∀ (j:Nat) (y:AV) (u:Value),os[j]? = some y→olds[j]? = some u→Rep w (Own X ρ H) ρ y u) (hr:∀ (j:Nat) (y:AV) (u:Value),cs[j]? = some y→us[j]? = some u→Rep w (Own X ρ H) ρ y u)
  (hg:sCap<sLen+m) (hb0:0<ti.bytes) (hb:(sLen+m)*ti.bytes≤1099511627776) (hn:NewB d H (.cells (os++cs)) i H') :
  ∃ v' w' ρ',(Builtin.append_ #[t,t] ty #[.slice A sLen sCap,.slice A' m c]).run P w = .ok v' w'∧Nxt X B w0 w ρ H (.osl ek i 0 (sLen+m)) H' v' w' ρ':=by
 have hle:(sLen+m)*1≤(sLen+m)*ti.bytes:=Nat.mul_le_mul_left _ hb0
 have hrun:=Yk2 (P:=P) (w:=w) t ty el ti z hu hti hz hfo hf hg (by omega) (growslice_fits hg (by omega))
 have hcap:=grownCap_ge w (sLen+m) sCap el
 generalize grownCap w (sLen+m) sCap el=cap at hrun hcap
 refine ⟨_,_,_,hrun,Nxt.of_drew (Yop (w:=w.drew) hC.drew hn ?_ (fun j y hy=>?_) ek hcap ?_)⟩
 ·simp [hol,hosl,hul,hcl]
 ·have hj:j<(os++cs).length:=(List.getElem?_eq_some_iff.1 hy).1
  rw [List.length_append] at hj
  rw [List.getElem?_toArray,List.getElem?_append_left (by rw [List.length_append]; omega)]
  by_cases hjo:j<os.length
  ·rw [List.getElem?_append_left hjo] at hy
   rw [List.getElem?_append_left (by omega)]
   have hlt:j<olds.length:=by omega
   exact ⟨_,List.getElem?_eq_getElem hlt,h1o _ (List.getElem_mem hlt),(hro j y _ hy (List.getElem?_eq_getElem hlt)).keep (Zhw _ _) (fun _ _ h=>h)⟩
  ·rw [List.getElem?_append_right (by omega)] at hy
   rw [List.getElem?_append_right (by omega)]
   have hlt:j - olds.length<us.length:=by omega
   exact ⟨_,List.getElem?_eq_getElem hlt,h1 _ (List.getElem_mem hlt),(hr _ y _ hy (by rw [show j - os.length=j - olds.length by omega]; exact List.getElem?_eq_getElem hlt)).keep (Zhw _ _) (fun _ _ h=>h)⟩
 ·simp only [List.size_toArray,List.length_append,hol,hul,Array.length_toList,Builtin.zeroCells,Array.size_map,Array.size_range,hzs]
  rw [← Nat.add_mul, ← Nat.add_mul]
  exact Nat.mul_le_mul_right _ (by omega)
theorem Y3c (hC:Ctx X B w0 w ρ H) {d:Option Dm}{t ty el:TypeId}{ti:TypeInfo}{ek:Option Nat}(hu:P.underlying t=some (.slice el)) (hti:P.info? el=some ti)
  {A A':Option Addr} {c i:Nat} (hf:(Builtin.firstCells ti.size 0 (.slice A' 0 c)).run P w = .ok #[] w) (hn:NewB d H (.cells []) i H') :
  ∃ v' w' ρ',(Builtin.append_ #[t,t] ty #[.slice A 0 0,.slice A' 0 c]).run P w = .ok v' w'∧Nxt X B w0 w ρ H (.osl ek i 0 0) H' v' w' ρ':=by
 obtain ⟨g1,g2⟩:=hC.heap.ghost hn
 refine ⟨.slice A 0 0,w,ρ,Z7s (P:=P) (w':=w) (us := []) t ty el ti hu hti hf (by omega) ?_,⟨.osl0 ek i 0 A,g1,g2,fun _ _ h=>h,hC.below⟩⟩
 cases A with
 | none=>rfl
 | some a=>rfl
theorem Ysj {c:Call}{a:Act}{y1 y2:Ox}{e:Nat→AV}(hE:Env w O ρ e a) (hx:cOxs c.args.toList=some [y1,y2]) :
  ∃ u1 u2,c.args.map a.eval = #[u1,u2]∧Rep w O ρ (y1.ev e) u1∧Rep w O ρ (y2.ev e) u2:=by
 obtain ⟨l1,r1⟩:=Zz9 hE hx
 have hlen:(c.args.toList.map a.eval).length=2:=by simpa using l1.symm
 obtain ⟨u1,u2,hu⟩:∃ u1 u2,c.args.toList.map a.eval = [u1,u2]:=by
  match h:c.args.toList.map a.eval,hlen with
  | [u1,u2],_=>exact ⟨u1,u2,rfl⟩
 refine ⟨u1,u2,?_,r1 0 (y1.ev e) u1 rfl (by rw [hu]; rfl),r1 1 (y2.ev e) u2 rfl (by rw [hu]; rfl)⟩
 apply Array.ext'
 rw [Array.toList_map,hu]
theorem Y2a {o:Oper}{c:Call}{t el:TypeId}{ys yx:Ox}{ek:Option Nat}{zs:List AV}{ti:TypeInfo}(ho:o.op = .call c) (hb:c.callee = .builtin .append) (ht:c.argTypes.toList = [t,t])
  (hx:cOxs c.args.toList=some [ys,yx]) (hu:P.underlying t=some (.slice el)) (hz:zeroOf P el=some zs) (hti:P.info? el=some ti) (hek:zs.length=es ek) (h0:0<zs.length) (hb0:0<ti.bytes) :
  Does P o (.app ek ti.bytes ys yx):=by
 intro X B w0 w ρ H e a d v H' next Q hC hE hr hn
 simp only [R] at hr
 obtain ⟨cs,m,hc,hcl,hr⟩:=hr
 obtain ⟨us1,us2,harg,r1,r2⟩:=Ysj hE hx
 obtain ⟨ti',z,x,hi,hz1,hxz,rfl,hlen,hrun⟩:=Zlk hz
 rw [hti] at hi; cases hi
 have hsz:ti.size=es ek:=hlen.symm.trans hek
 have hzs:z.cells.size=es ek:=(Yl3 (w:=w) (O:=Own X ρ H) (ρ:=ρ) hxz).2.1.trans hek
 have h0':0<es ek:=by omega
 have hty:c.argTypes = #[t,t]:=by apply Array.ext'; rw [ht]
 obtain ⟨A',c',us,rfl,hul,h1,hrep,hcell⟩:=Yih hC.heap h0' hc hcl r2
 have hf:∀ w':World,(∀ a,w'.cell? a=w.cell? a)→(Builtin.firstCells ti.size m (.slice A' m c')).run P w' = .ok us.toArray w':=fun w' hw=>by
  rw [hsz]; exact Zm1 hul hcell hw
 have fin:∀ {v':Value} {w':World},(Builtin.append_ #[t,t] o.type #[us1,.slice A' m c']).run P w = .ok v' w'→(execOp a.eval o).run P w = .ok (.value v') w':=fun {v' w'} h=>by
  simp only [execOp,ho,resolve,hb,harg,invoke,builtin,Sem.run_bind,Sem.run_pure,Result.andThen_ok,hty]
  simp only [h,Result.andThen_ok]
 have start:∀ {H1:Heap} {A:Option Addr} {i:Nat},Ctx X B w0 w ρ H1→(∀ b,Own X ρ H1 b→Own X ρ H b)→us1 = .slice A 0 0→m*ti.bytes≤1099511627776→NewB d H1 (.cells cs) i H'→v = .osl ek i 0 m→o.wp P a w next Q :=
  fun {H1 A i} hC1 hO hv hbd hnew hve=>by
   subst hve
   rcases Nat.eq_zero_or_pos m with hm0 | hm0
   ·subst hm0
    have hus:us = []:=List.length_eq_zero_iff.1 (by simpa using hul)
    have hcs:cs = []:=List.length_eq_zero_iff.1 (by simpa using hcl)
    subst hus; subst hcs
    obtain ⟨v',w',ρ',g1,g2⟩:=Y3c (P:=P) (ty:=o.type) (A:=A) (ek:=ek) hC1 hu hti (hf w (fun _=>rfl)) hnew
    exact Zv5 (fin (by rw [hv]; exact g1)) (hn _ _ _ (g2.of_less hO))
   ·obtain ⟨v',w',ρ',g1,g2⟩:=Y0l (P:=P) (ty:=o.type) (A:=A) (A':=A') (sLen:=0) (sCap:=0) (m:=m) (c:=c') (os := []) (cs:=cs) (olds := []) (us:=us) hC1 hu hti hz1 hsz hzs (by simp) (by simp) hul hcl
     (by cases A with
       | none=>simp [Builtin.firstCells]
       | some b=>have:=run_loadCells_list (P:=P) w.drew b [] (by simp); simpa [Builtin.firstCells] using this)
     (hf _ (fun _=>rfl)) (by simp) h1 (by simp) (fun j y u hy hu=>(hrep j y u hy hu).keep ⟨Nat.le_refl _,fun _ _ _=>rfl,fun b hb => .inl (hO b hb),fun _ _=>rfl⟩ (fun _ _ h=>h)) (by omega) hb0 (by simpa using hbd) (by simpa using hnew)
    rw [Nat.zero_add] at g2
    exact Zv5 (fin (by rw [hv]; exact g1)) (hn _ _ _ (g2.of_less hO))
 split at hr
 ·rename_i e1
  rw [e1] at r1
  obtain ⟨A,hv⟩:=Zhe r1
  obtain ⟨hbd,i,hnew,hve⟩:=hr
  exact start hC (fun _ h=>h) hv hbd hnew hve
 ·rename_i ek' b off len e1
  rw [e1] at r1
  obtain ⟨heke,hbd,_,l,hl,hfit,i,hnew,hve⟩:=hr
  obtain ⟨hh1,hown⟩:=hC.heap.kill1 b
  rcases Zqu r1 with ⟨A,hl0,hv⟩ | ⟨cap,blk,o',hv,hp,hcap,te,tn,hshp,hfit2⟩
  ·subst hl0
   exact start ⟨hh1,hC.xs,hC.below,hC.bs⟩ hown hv (by simpa using hbd) (by simpa using hnew) (by rw [hve,Nat.zero_add])
  ·subst hve
   rw [heke] at hfit2
   rcases hC.heap.cells b l hl with ⟨_,hno⟩ | ⟨bk,o2,row,er,g1,g2,g3,hrow,g4⟩
   ·rw [hno] at hp; cases hp
   ·rw [g1] at hp
    simp only [Option.some.injEq,Prod.mk.injEq] at hp
    obtain ⟨rfl,rfl⟩:=hp
    have htn:tn=row.size:=by
     simp only [World.shape?,g3] at hshp
     cases hshp; rfl
    subst htn
    have hosl:((l.drop off).take (len*es ek)).length=len*es ek:=by rw [List.length_take,List.length_drop]; omega
    by_cases hroom:len+m≤cap
    ·
     have hmul:(len+m)*es ek≤cap*es ek:=Nat.mul_le_mul_right _ hroom
     rw [Nat.add_mul] at hmul
     have hst:=run_storeCells_at P bk (o2+off+len*es ek) er us 0 row w g3 (by omega) h1
     rw [Nat.add_zero] at hst
     have hw':=Z7s (P:=P) (w:=w) t o.type el ti hu hti (A:=some ⟨bk,o2+off,none⟩) (A':=A') (sLen:=len) (sCap:=cap) (m:=m) (c:=c') (us:=us) (hf w (fun _=>rfl)) hroom (by dsimp only; rw [hsz,add_plain]; exact hst)
     have hcsz:(row.toList.take (o2+off+len*es ek)++us++row.toList.drop (o2+off+len*es ek+us.length)).toArray.size=row.size:=by
      simp only [List.size_toArray,List.length_append,List.length_take,List.length_drop,Array.length_toList]; omega
     obtain ⟨k1,k2,k3⟩:=HSim.adopt (o2:=o2+off) hC hl g1 g3 hcsz hnew (by rw [hcsz,List.length_append,hosl]; omega) (fun j y hy=>by
      rw [List.getElem?_toArray,Z1z (by simp; omega)]
      have hj:j<((l.drop off).take (len*es ek)++cs).length:=(List.getElem?_eq_some_iff.1 hy).1
      rw [List.length_append,hosl] at hj
      by_cases hjo:j<len*es ek
      ·rw [List.getElem?_append_left (by omega),List.getElem?_take_of_lt hjo,List.getElem?_drop] at hy
       rw [if_pos (by omega)]
       obtain ⟨u,q1,q2,q3⟩:=g4 _ _ hy
       exact ⟨u,by rw [Array.getElem?_toList, ← q1]; congr 1; omega,q2,q3⟩
      ·rw [List.getElem?_append_right (by omega),hosl] at hy
       rw [if_neg (by omega),if_pos (by omega)]
       have hlt:j - len*es ek<us.length:=by omega
       refine ⟨us[j - len*es ek],?_,h1 _ (List.getElem_mem hlt),hrep _ y _ hy (List.getElem?_eq_getElem hlt)⟩
       rw [show o2+off+j - (o2+off+len*es ek)=j - len*es ek by omega]
       exact List.getElem?_eq_getElem hlt)
     refine Zv5 (fin (by rw [hv]; exact hw')) (hn _ _ _ ⟨?_,k1,k2,k3,Z8p hC.below g2 _⟩)
     refine .osl ek i 0 (len+m) cap bk (o2+off) (Zga _ _ _) hroom ⟨er,row.size,?_,by omega⟩
     simp only [World.shape?]
     rw [setRow_heap w bk row _ er _ g3]
     simp only [hcsz]
    ·
     obtain ⟨olds,m1,m2⟩:=Yjj (n:=len*es ek) (q:=fun j u=>w.cell? ⟨bk,o2+off+j,none⟩=some u∧u.oneCell'=true∧∀ y,((l.drop off).take (len*es ek))[j]? = some y→Rep w (Own X ρ H) ρ y u) (fun j hj=>by
      have hlt:off+j<l.length:=by omega
      obtain ⟨u,e1,e2,e3⟩:=g4 _ _ (List.getElem?_eq_getElem hlt)
      refine ⟨u,by simp only [World.cell?,g3]; rw [Nat.add_assoc]; simpa using e1,e2,fun y hy=>?_⟩
      rw [List.getElem?_take_of_lt hj,List.getElem?_drop,List.getElem?_eq_getElem hlt] at hy; cases hy
      exact e3)
     have less:∀ {y:AV} {u:Value},Rep w (Own X ρ H) ρ y u→Rep w (Own X ρ (H.set b .dead)) ρ y u:=fun h=>h.less hown
     obtain ⟨v',w',ρ',q1,q2⟩:=Y0l (P:=P) (ty:=o.type) (A:=some ⟨bk,o2+off,none⟩) (A':=A') (sLen:=len) (sCap:=cap) (m:=m) (c:=c') (os:=(l.drop off).take (len*es ek)) (cs:=cs) (olds:=olds) (us:=us)
      ⟨hh1,hC.xs,hC.below,hC.bs⟩ hu hti hz1 hsz hzs m1 hosl hul hcl
      (by rw [hsz]; exact Zm1 (w:=w) m1 (.inr ⟨bk,o2+off,rfl,fun j u hu=>(m2 j u hu).1⟩) (fun _=>rfl)) (hf _ (fun _=>rfl))
      (fun u hu=>by obtain ⟨j,hj⟩:=List.getElem?_of_mem hu; exact (m2 j u hj).2.1) h1 (fun j y u hy hu=>less ((m2 j u hu).2.2 y hy)) (fun j y u hy hu=>less (hrep j y u hy hu)) (by omega) hb0 hbd hnew
     exact Zv5 (fin (by rw [hv]; exact q1)) (hn _ _ _ (q2.of_less hown))
 ·exact hr.elim
end GoAbs
