/- Lemmas for the claim (contracts of the functions that it reaches, and what they compute), without conditions. -/
import Derived.Test.YtiapneoakbealaaGreatK06
import Derived.Laws.MakeOwn
import Derived.Laws.AppendOwn
import Derived.Laws.Append
set_option linter.unusedVariables false
set_option linter.unusedSimpArgs false
set_option maxRecDepth 10000
set_option maxHeartbeats 2000000
namespace GoAbs
open Go Go.RowKit
variable {X:Nat→Prop} {B:Nat} {w0 w w':World} {ρ ρ':Pl} {H H':Heap} {P:Program} {O:Nat→Prop}
theorem Zhw (w:World) (O:Nat→Prop):Keep w O w.drew O:=⟨Nat.le_refl _,fun _ _ _=>rfl,fun _ h => .inl h,fun _ _=>rfl⟩
theorem HSim.drew (h:HSim X B w ρ H):HSim X B w.drew ρ H :=
 ⟨h.dom,fun i l hl=>(h.cells i l hl).imp id fun ⟨bk,o,cs,e,h1,h2,h3,hsz,h4⟩=>⟨bk,o,cs,e,h1,h2,h3,hsz,fun j y hy=>let ⟨v,g1,g2,g3⟩:=h4 j y hy; ⟨v,g1,g2,g3.keep (Zhw _ _) (fun _ _ h=>h)⟩⟩,
   fun i es hl=>let ⟨bk,ms,ck,h1,h2,h3,h4,h5⟩:=h.map i es hl; ⟨bk,ms,ck,h1,h2,h3,h4,fun j x y m hx hm=>let ⟨g1,g2,g3⟩:=h5 j x y m hx hm; ⟨g1.keep (Zhw _ _) (fun _ _ h=>h),g2.keep (Zhw _ _) (fun _ _ h=>h),g3⟩⟩,
   h.inj⟩
theorem Ctx.drew (h:Ctx X B w0 w ρ H):Ctx X B w0 w.drew ρ H:=⟨h.heap.drew,h.xs,h.below.drew,h.bs⟩
theorem Nxt.of_drew {x:AV}{v:Value}(h:Nxt X B w0 w.drew ρ H x H' v w' ρ'):Nxt X B w0 w ρ H x H' v w' ρ' :=
 ⟨h.rep,h.heap,(Zhw w _).trans h.keep,h.rho,h.below⟩
theorem Yw9 (hC:Ctx X B w0 w ρ H) {d:Option Dm}{i:Nat}{l:List AV}{cs:Array Value}{e:TypeId}(hn:NewB d H (.cells l) i H') (hlen:l.length≤cs.size)
  (hcs:∀ (j:Nat) (y:AV),l[j]? = some y→∃ v,cs[j]? = some v∧v.oneCell'=true∧Rep w (Own X ρ H) ρ y v) :
  Nxt X B w0 w ρ H (.ptr i 0) H' (.pointer (some ⟨w.heap.size,0,none⟩)) (w.alloc (.cells cs e)) (ρ.put i (w.heap.size,0)):=by
 obtain ⟨h1,h2,h3⟩:=HSim.new (e:=e) hC hn hlen hcs
 exact ⟨.ptr i 0 w.heap.size 0 (Zga _ _ _),h1,h2,h3,hC.below.alloc hC.bs _⟩
theorem Yop (hC:Ctx X B w0 w ρ H) {d:Option Dm}{i n c:Nat}{l:List AV}{cs:Array Value}{e:TypeId}(hn:NewB d H (.cells l) i H') (hlen:l.length≤cs.size)
  (hcs:∀ (j:Nat) (y:AV),l[j]? = some y→∃ v,cs[j]? = some v∧v.oneCell'=true∧Rep w (Own X ρ H) ρ y v) (ek:Option Nat) (hc:n≤c) (hs:c*es ek≤cs.size) :
  Nxt X B w0 w ρ H (.osl ek i 0 n) H' (.slice (some ⟨w.heap.size,0,none⟩) n c) (w.alloc (.cells cs e)) (ρ.put i (w.heap.size,0)):=by
 obtain ⟨h1,h2,h3⟩:=HSim.new (e:=e) hC hn hlen hcs
 refine ⟨.osl ek i 0 n c w.heap.size 0 (Zga _ _ _) hc ⟨e,cs.size,?_,by omega⟩,h1,h2,h3,hC.below.alloc hC.bs _⟩
 have hh:(w.alloc (.cells cs e)).heap[w.heap.size]? = some (.cells cs e):=heap_alloc_new w _
 simp only [World.shape?]
 rw [hh]
theorem Yuo (e:TypeId) (cs:Array Value) (w:World):(newRow e cs).run P w = .ok ⟨w.heap.size,0,none⟩ (w.alloc (.cells cs e)):=rfl
theorem Ytn (e:TypeId) (v:Value) (w:World):(newVar e v).run P w = .ok ⟨w.heap.size,0,none⟩ (w.alloc (.cells v.cells e)):=rfl
theorem Zlk {t:TypeId}{zs:List AV}(h:zeroOf P t=some zs):∃ i z x,P.info? t=some i∧i.zero=some z∧cV z=some x∧x.cells=zs∧zs.length=i.size∧∀ w:World,(zeroValue t).run P w = .ok z w:=by
 unfold zeroOf at h
 split at h
 ·rename_i i hi
  split at h
  ·rename_i z hz
   split at h
   ·rename_i x hx
    split at h
    ·rename_i hl
     cases h
     exact ⟨i,z,x,hi,hz,hx,rfl,hl,fun w=>by simp only [zeroValue,Sem.run_bind,run_typeInfo w hi,Result.andThen_ok,hz]; rfl⟩
    ·cases h
   ·cases h
  ·cases h
 ·cases h
theorem Ytf {o:Oper}{t:TypeId}{zs:List AV}(ho:o.op = .alloc t) (hz:zeroOf P t=some zs):Does P o (.alloc zs):=by
 intro X B w0 w ρ H e a d v H' next Q hC hE hr hn
 simp only [R] at hr
 obtain ⟨i,hnew,rfl⟩:=hr
 obtain ⟨ti,z,x,hi,hz1,hx,rfl,hl,hrun⟩:=Zlk hz
 obtain ⟨_,h2,h3⟩:=Yl3 (w:=w) (O:=Own X ρ H) (ρ:=ρ) hx
 refine Zv5 (w':=w.alloc (.cells z.cells t)) (v' := .pointer (some ⟨w.heap.size,0,none⟩)) ?_ (hn _ _ _ (Yw9 hC hnew (cs:=z.cells) (e:=t) (by omega) (fun j y hy=>?_)))
 ·simp only [execOp,ho,Instr.alloc,Sem.run_bind,hrun,Result.andThen_ok]
  rfl
 ·have hlt:j<z.cells.size:=by rw [h2]; exact (List.getElem?_eq_some_iff.1 hy).1
  have:=h3 j y _ hy (Array.getElem?_eq_getElem hlt)
  exact ⟨_,Array.getElem?_eq_getElem hlt,this.2,this.1⟩
theorem Ydj {x:AV}{v:Value}(hk:x.known) (h:Rep w O ρ x v):v.cells.size=x.cells.length∧(∀ u,u∈v.cells.toList→u.oneCell'=true) ∧
  ∀ (j:Nat) (y:AV) (u:Value),x.cells[j]? = some y→v.cells[j]? = some u→Rep w O ρ y u:=by
 have leaf:∀ {x:AV} {v:Value},Rep w O ρ x v→x.cells = [x]→v.cells = #[v]→v.oneCell'=true→v.cells.size=x.cells.length∧(∀ u,u∈v.cells.toList→u.oneCell'=true) ∧
   ∀ (j:Nat) (y:AV) (u:Value),x.cells[j]? = some y→v.cells[j]? = some u→Rep w O ρ y u:=fun {x v} h h1 h2 h3=>by
  rw [h1,h2]
  refine ⟨rfl,fun u hu=>by simp at hu; subst hu; exact h3,fun j y u hy hu=>?_⟩
  cases j with
  | zero=>simp at hy hu; subst hy; subst hu; exact h
  | succ j=>simp at hy
 cases h with
 | any v=>exact hk.elim
 | tup cs vs hl h=>exact hk.elim
 | agg cs vs hl h1 h=>exact ⟨hl,h1,h⟩
 | int k n=>exact leaf (.int k n) rfl rfl rfl
 | bool b=>exact leaf (.bool b) rfl rfl rfl
 | str s=>exact leaf (.str s) rfl rfl rfl
 | nils A=>exact leaf (.nils A) rfl rfl rfl
 | sl l A c sz blk off g hc hA hz hg h1 h=>exact leaf (.sl l A c sz blk off g hc hA hz hg h1 h) rfl rfl rfl
 | osl ek b off len c blk o hb hc hs=>exact leaf (.osl ek b off len c blk o hb hc hs) rfl rfl rfl
 | osl0 ek b off A=>exact leaf (.osl0 ek b off A) rfl rfl rfl
 | ptr b off blk o hb=>exact leaf (.ptr b off blk o hb) rfl rfl rfl
 | rp cs blk off g hO hg h1 h=>exact leaf (.rp cs blk off g hO hg h1 h) rfl rfl rfl
 | fn f p q p' q' hl hl' h h'=>exact leaf (.fn f p q p' q' hl hl' h h') rfl rfl rfl
 | nilp=>exact leaf .nilp rfl rfl rfl
 | nilfn=>exact leaf .nilfn rfl rfl rfl
 | mp b blk hb=>exact leaf (.mp b blk hb) rfl rfl rfl
 | ifc t x v h=>exact leaf (.ifc t x v h) rfl rfl rfl
 | nilif=>exact leaf .nilif rfl rfl rfl
theorem Y5f {o:Oper}{t:TypeId}{x:Operand}{y:Ox}(ho:o.op = .box t x) (hx:cOx x=some y):Does P o (.box y):=by
 intro X B w0 w ρ H e a d v H' next Q hC hE hr hn
 simp only [R] at hr
 obtain ⟨hk,i,hnew,rfl⟩:=hr
 obtain ⟨h1,h2,h3⟩:=Ydj hk (Za4 hE hx)
 refine Zv5 (w':=w.alloc (.cells (a.eval x).cells t)) (v' := .pointer (some ⟨w.heap.size,0,none⟩)) ?_ (hn _ _ _ (Yw9 hC hnew (cs:=(a.eval x).cells) (e:=t) (by omega) (fun j y hy=>?_)))
 ·simp only [execOp,ho,Instr.box,Sem.run_bind,Ytn,Result.andThen_ok,Sem.run_pure]
 ·have hlt:j<(a.eval x).cells.size:=by rw [h1]; exact (List.getElem?_eq_some_iff.1 hy).1
  have hg:(a.eval x).cells[j]? = some (a.eval x).cells[j]:=Array.getElem?_eq_getElem hlt
  exact ⟨_,hg,h2 _ (List.mem_of_getElem? (by rw [Array.getElem?_toList]; exact hg)),h3 j y _ hy hg⟩
theorem add_plain (b o n:Nat):(⟨b,o,none⟩:Addr).add n=⟨b,o+n,none⟩:=by
 unfold Addr.add
 split
 ·rename_i h; subst h; rfl
 ·rfl
theorem Yx8 (hh:HSim X B w ρ H) {b off:Nat}{v:Value}{l:List AV}(hr:Rep w (Own X ρ H) ρ (.ptr b off) v) (hl:H[b]? = some (.cells l)) :
  ∃ blk o cs e,v = .pointer (some ⟨blk,o+off,none⟩)∧ρ b=some (blk,o)∧B≤blk∧w.heap[blk]? = some (.cells cs e (0,0))∧o+l.length≤cs.size ∧
   ∀ (j:Nat) (y:AV),l[j]? = some y→∃ u,cs[o+j]? = some u∧u.oneCell'=true∧Rep w (Own X ρ H) ρ y u:=by
 obtain ⟨blk,o,hv,hp⟩:=Ydx hr
 rcases hh.cells b l hl with ⟨_,hn⟩ | ⟨bk,o',cs,e,h1,h2,h3,hsz,h4⟩
 ·rw [hn] at hp; cases hp
 ·rw [h1] at hp
  simp only [Option.some.injEq,Prod.mk.injEq] at hp
  obtain ⟨rfl,rfl⟩:=hp
  exact ⟨_,_,cs,e,hv,h1,h2,h3,hsz,h4⟩
theorem Yjj {n:Nat}{q:Nat→Value→Prop}(h:∀ j,j<n→∃ u,q j u):∃ us:List Value,us.length=n∧∀ (j:Nat) (u:Value),us[j]? = some u→q j u:=by
 induction n with
 | zero=>exact ⟨[],rfl,fun j u hu=>by simp at hu⟩
 | succ n ih =>
  obtain ⟨us,h1,h2⟩:=ih (fun j hj=>h j (by omega))
  obtain ⟨u,hu⟩:=h n (by omega)
  refine ⟨us ++ [u],by simp [h1],fun j u' hj=>?_⟩
  rcases Nat.lt_or_ge j us.length with h3 | h3
  ·rw [List.getElem?_append_left h3] at hj; exact h2 j u' hj
  ·rw [List.getElem?_append_right h3] at hj
   have:j=n:=by
    rcases Nat.eq_zero_or_pos (j - us.length) with h4 | h4
    ·omega
    ·rw [List.getElem?_eq_none (by simp; omega)] at hj; cases hj
   subst this
   rw [show j - us.length=0 by omega] at hj
   simp at hj; subst hj; exact hu
theorem Zqz {t:TypeId}{ag:Option Nat}{cs:List AV}{v:AV}{blk off:Nat}{ρ:Pl}(ha:agOf P t=some ag) (hv:Ldv ag cs v)
  (hc:∀ (j:Nat) (y:AV),cs[j]? = some y→∃ u,w.cell? ⟨blk,off+j,none⟩=some u∧u.oneCell'=true∧Rep w O ρ y u) :
  ∃ v',(loadVar t ⟨blk,off,none⟩).run P w = .ok v' w∧Rep w O ρ v v':=by
 obtain ⟨i,hi,hag⟩:=Yr9 ha
 rcases hag with ⟨rfl,hagg⟩ | ⟨rfl,hsz,hagg⟩
 ·obtain ⟨hl,rfl⟩:=hv
  obtain ⟨us,h1,h2⟩:=Yjj (n:=i.size) (q:=fun j u=>w.cell? ⟨blk,off+j,none⟩=some u∧u.oneCell'=true∧∀ y,cs[j]? = some y→Rep w O ρ y u) (fun j hj=>by
   have hlt:j<cs.length:=by omega
   obtain ⟨u,g1,g2,g3⟩:=hc j _ (List.getElem?_eq_getElem hlt)
   exact ⟨u,g1,g2,fun y hy=>by rw [List.getElem?_eq_getElem hlt] at hy; cases hy; exact g3⟩)
  refine ⟨.agg us.toArray,?_,.agg _ _ (by simp [h1]; omega) (fun u hu=>?_) (fun j y u hy hu=>?_)⟩
  ·have hload:=run_loadCells_list (P:=P) w ⟨blk,off,none⟩ us (fun j u hu=>by rw [add_plain]; exact (h2 j u hu).1)
   rw [h1] at hload
   simp only [loadVar,Sem.run_bind,hagg,Result.andThen_ok,if_true,Zdd hi,hload]
   rfl
  ·obtain ⟨j,hj⟩:=List.getElem?_of_mem (by simpa using hu:u∈us)
   exact (h2 j u hj).2.1
  ·rw [List.getElem?_take] at hy
   split at hy
   ·exact (h2 j u (by simpa using hu)).2.2 y hy
   ·cases hy
 ·obtain ⟨u,g1,g2,g3⟩:=hc 0 v hv
  refine ⟨u,?_,g3⟩
  simp only [loadVar,Sem.run_bind,hagg,Result.andThen_ok,Bool.false_eq_true,if_false,load,Sem.run]
  rw [Nat.add_zero] at g1
  rw [g1]
theorem Xa3 {o:Oper}{t:TypeId}{x:Operand}{y:Ox}{ag:Option Nat}(ho:o.op = .load t x) (ha:agOf P t=some ag) (hx:cOx x=some y):Does P o (.ld ag y):=by
 intro X B w0 w ρ H e a d v H' next Q hC hE hr hn
 simp only [R] at hr
 obtain ⟨hr,hH⟩:=hr
 have r1:=Za4 hE hx
 split at hr
 ·rename_i b off e1
  rw [e1] at r1
  obtain ⟨_,l,hl,hv⟩:=hr
  obtain ⟨blk,o',cs,ty,hv',hp,hB,hw,hsz,hcs⟩:=Yx8 hC.heap r1 hl
  obtain ⟨v',hrun,hrep⟩:=Zqz (blk:=blk) (off:=o'+off) (w:=w) (O:=Own X ρ H) (ρ:=ρ) ha hv (fun j z hz=>by
   rw [List.getElem?_drop] at hz
   obtain ⟨u,g1,g2,g3⟩:=hcs _ _ hz
   exact ⟨u,by simp only [World.cell?,hw]; rw [Nat.add_assoc]; simpa using g1,g2,g3⟩)
  exact Zag hC hn hH hrep (by simp only [execOp,ho,hv',Instr.loadAt,Instr.sureAddr,Sem.run_bind,Sem.run_pure,Result.andThen_ok,hrun])
 ·rename_i cs e1
  rw [e1] at r1
  obtain ⟨blk,off,g,hv',hO,hg,h1,h⟩:=Ykr r1
  obtain ⟨v',hrun,hrep⟩:=Zqz (blk:=blk) (off:=off) (w:=w) (O:=Own X ρ H) (ρ:=noPl) ha hr (fun j z hz=>⟨g j,hg j z hz,h1 j z hz,h j z hz⟩)
  exact Zag hC hn hH (hrep.keep (Keep.refl _ _) (fun _ _ h=>by cases h)) (by simp only [execOp,ho,hv',Instr.loadAt,Instr.sureAddr,Sem.run_bind,Sem.run_pure,Result.andThen_ok,hrun])
 ·exact hr.elim
theorem Yp4 (l:List AV) (off:Nat) (x:AV):fillA l [(off,x)]=l.take off++x.cells++l.drop (off+x.cells.length):=rfl
theorem Z1z {α:Type}{l xs:List α}{off j:Nat}(hl:off+xs.length≤l.length):(l.take off++xs++l.drop (off+xs.length))[j]? = if j<off then l[j]? else if j<off+xs.length then xs[j - off]? else l[j]?:=by
 have h1:(l.take off).length=off:=by rw [List.length_take]; omega
 by_cases hj:j<off
 ·rw [if_pos hj,List.append_assoc,List.getElem?_append_left (by omega),List.getElem?_take_of_lt hj]
 ·rw [if_neg hj]
  by_cases hj2:j<off+xs.length
  ·rw [if_pos hj2,List.append_assoc,List.getElem?_append_right (by omega),h1,List.getElem?_append_left (by omega)]
  ·rw [if_neg hj2,List.getElem?_append_right (by simp [h1]; omega),List.getElem?_drop]
   congr 1
   simp [h1]; omega
theorem Ykh (hC:Ctx X B w0 w ρ H) {b off blk o:Nat}{l xs:List AV}{us:List Value}{cs:Array Value}{e:TypeId}(hl:H[b]? = some (.cells l)) (hp:ρ b=some (blk,o)) (hB:B≤blk)
  (hw:w.heap[blk]? = some (.cells cs e (0,0))) (hlen:o+l.length≤cs.size) (hcs:∀ (j:Nat) (y:AV),l[j]? = some y→∃ u,cs[o+j]? = some u∧u.oneCell'=true∧Rep w (Own X ρ H) ρ y u)
  (hfit:off+xs.length≤l.length) (hus:us.length=xs.length) (h1:∀ u,u∈us→u.oneCell'=true)
  (hrep:∀ (j:Nat) (y:AV) (u:Value),xs[j]? = some y→us[j]? = some u→Rep w (Own X ρ H) ρ y u) {v:AV} {v':Value} (hvr:∀ w' O' ρ',Rep w' O' ρ' v v') :
  o+off+us.length≤cs.size∧Nxt X B w0 w ρ H v (H.set b (.cells (l.take off++xs++l.drop (off+xs.length)))) v' (w.setRow blk (cs.toList.take (o+off)++us++cs.toList.drop (o+off+us.length)).toArray) ρ:=by
 have hsz:o+off+us.length≤cs.size:=by omega
 refine ⟨hsz,?_⟩
 have hcells:∀ (j:Nat) (y:AV),(l.take off++xs++l.drop (off+xs.length))[j]? = some y →
   ∃ u,(cs.toList.take (o+off)++us++cs.toList.drop (o+off+us.length)).toArray[o+j]? = some u∧u.oneCell'=true∧Rep w (Own X ρ H) ρ y u:=fun j y hy=>by
  rw [Z1z hfit] at hy
  rw [List.getElem?_toArray,Z1z (by simpa using hsz)]
  by_cases hj:j<off
  ·rw [if_pos hj] at hy
   rw [if_pos (by omega)]
   obtain ⟨u,g1,g2,g3⟩:=hcs j y hy
   exact ⟨u,by simpa using g1,g2,g3⟩
  ·rw [if_neg hj] at hy
   rw [if_neg (by omega)]
   by_cases hj2:j<off+xs.length
   ·rw [if_pos hj2] at hy
    rw [if_pos (by omega)]
    have hlt:j - off<us.length:=by omega
    refine ⟨us[j - off],?_,h1 _ (List.getElem_mem hlt),hrep _ _ _ hy (List.getElem?_eq_getElem hlt)⟩
    rw [show o+j - (o+off)=j - off by omega]
    exact List.getElem?_eq_getElem hlt
   ·rw [if_neg hj2] at hy
    rw [if_neg (by omega)]
    obtain ⟨u,g1,g2,g3⟩:=hcs j y hy
    exact ⟨u,by simpa using g1,g2,g3⟩
 obtain ⟨h2,h3⟩:=HSim.setc (l':=l.take off++xs++l.drop (off+xs.length)) (cs':=(cs.toList.take (o+off)++us++cs.toList.drop (o+off+us.length)).toArray) hC hl hp hw (by simp; omega) (by simp; omega) hcells
 exact ⟨hvr _ _ _,h2,h3,fun _ _ h=>h,Z8p hC.below hB _⟩
theorem Y9p {o:Oper}{t:TypeId}{x y:Operand}{p q:Ox}{n:Nat}(ho:o.op = .store t x y) (hsz:sizeOf? P t=some n) (hx:cOx x=some p) (hy:cOx y=some q):Does P o (.st n p q):=by
 intro X B w0 w ρ H e a d v H' next Q hC hE hr hn
 simp only [R] at hr
 have r1:=Za4 hE hx
 have r2:=Za4 hE hy
 split at hr
 ·rename_i b off e1
  rw [e1] at r1
  obtain ⟨_,hk,hlen,l,hl,hfit,rfl,rfl⟩:=hr
  obtain ⟨blk,o',cs,ty,hv',hp,hB,hw,hsz',hcs⟩:=Yx8 hC.heap r1 hl
  obtain ⟨k1,k2,k3⟩:=Ydj hk r2
  have hus:(a.eval y).cells.toList.length=(q.ev e).cells.length:=by simpa using k1
  obtain ⟨hfit',hnx⟩:=Ykh (us:=(a.eval y).cells.toList) (v := .any) (v':=undef) hC hl hp hB hw hsz' hcs (by rw [hlen]; exact hfit) hus k2 (fun j z u hz hu=>k3 j z u hz (by rw [← Array.getElem?_toList]; exact hu)) (fun _ _ _ => .any _)
  have hst:=run_storeCells_at P blk (o'+off) ty (a.eval y).cells.toList 0 cs w hw (by simpa using hfit') k2
  simp only [Nat.add_zero] at hst
  obtain ⟨ti,hti,hn'⟩:∃ ti,P.info? t=some ti∧ti.size=n:=by
   unfold sizeOf? at hsz
   cases hi:P.info? t with
   | none=>rw [hi] at hsz; cases hsz
   | some ti=>rw [hi] at hsz; exact ⟨ti,rfl,by simpa using hsz⟩
  refine Y8v ?_ (hn _ _ _ hnx)
  simp only [execOp,ho,hv',Instr.storeAt,Instr.sureAddr,Sem.run_bind,Sem.run_pure,Result.andThen_ok,storeVar,Zdd hti]
  rw [if_neg (by rw [hn',k1,hlen]; simp)]
  simp only [hst,Result.andThen_ok]
 ·exact hr.elim
theorem Y7n {o:Oper}{t:TypeId}{x:Operand}{y:Ox}{n k:Nat}{fs:Array Field}{f:Field}(ho:o.op = .fieldAddr t x n) (hu:P.underlying t=some (.struct fs)) (hf:fs[n]? = some f)
  (hs:sizeOf? P f.type=some (k+1)) (hx:cOx x=some y):Does P o (.fa f.offset y):=by
 intro X B w0 w ρ H e a d v H' next Q hC hE hr hn
 simp only [R] at hr
 obtain ⟨hr,hH⟩:=hr
 have r1:=Za4 hE hx
 obtain ⟨ti,hti,hk⟩:∃ ti,P.info? f.type=some ti∧ti.size=k+1:=by
  unfold sizeOf? at hs
  cases hi:P.info? f.type with
  | none=>rw [hi] at hs; cases hs
  | some ti=>rw [hi] at hs; exact ⟨ti,rfl,by simpa using hs⟩
 have run:∀ {blk off:Nat},a.eval x = .pointer (some ⟨blk,off,none⟩)→(execOp a.eval o).run P w = .ok (.value (.pointer (some ⟨blk,off+f.offset,none⟩))) w:=fun {blk off} hv=>by
  simp only [execOp,ho,hv,Instr.fieldAt,Instr.sureAddr,Sem.run_bind,run_underlying hu,Sem.run_pure,Result.andThen_ok,hf,fieldPlace,Zdd hti]
  rw [if_neg (by omega)]
  simp only [Sem.run_pure,Result.andThen_ok,add_plain]
 split at hr
 ·rename_i b off e1
  rw [e1] at r1; subst hr
  obtain ⟨blk,o',hv,hp⟩:=Ydx r1
  refine Zag hC hn hH ?_ (run hv)
  rw [Nat.add_assoc]
  exact .ptr b _ blk o' hp
 ·rename_i cs e1
  rw [e1] at r1; subst hr
  obtain ⟨blk,off,g,hv,hO,hg,h1,h⟩:=Ykr r1
  refine Zag hC hn hH (.rp _ blk (off+f.offset) (fun j=>g (f.offset+j)) hO (fun j y hy=>?_) (fun j y hy=>?_) (fun j y hy=>?_)) (run hv)
  ·rw [List.getElem?_drop] at hy
   rw [Nat.add_assoc]; exact hg _ y hy
  ·rw [List.getElem?_drop] at hy
   exact h1 _ y hy
  ·rw [List.getElem?_drop] at hy
   exact h _ y hy
 ·exact hr.elim
theorem sizeOf?_spec {t:TypeId}{n:Nat}(hs:sizeOf? P t=some n):∃ ti,P.info? t=some ti∧ti.size=n:=by
 unfold sizeOf? at hs
 cases hi:P.info? t with
 | none=>rw [hi] at hs; cases hs
 | some ti=>rw [hi] at hs; exact ⟨ti,rfl,by simpa using hs⟩
theorem Y41 {o:Oper}{t el:TypeId}{x i:Operand}{y j:Ox}{n:Nat}(ho:o.op = .indexAddr t x i) (hu:P.underlying t=some (.slice el)) (hs:sizeOf? P el=some n) (hx:cOx x=some y) (hi:cOx i=some j) :
  Does P o (.idx n y j):=by
 intro X B w0 w ρ H e a d v H' next Q hC hE hr hn
 simp only [R] at hr
 obtain ⟨hr,hH⟩:=hr
 have r1:=Za4 hE hx
 have r2:=Za4 hE hi
 obtain ⟨ti,hti,hk⟩:=sizeOf?_spec hs
 have run:∀ {blk off len c:Nat} {k:IntKind} {m:Int},a.eval x = .slice (some ⟨blk,off,none⟩) len c→a.eval i = .int k m→0≤m→m<len →
   (execOp a.eval o).run P w = .ok (.value (.pointer (some ⟨blk,off+m.toNat*n,none⟩))) w:=fun {blk off len c k m} hv hm h0 h1=>by
  simp only [execOp,ho,hv,hm,Instr.indexAt,asIntOf,Sem.run_bind,run_underlying hu,Sem.run_pure,Result.andThen_ok]
  rw [if_pos ⟨h0,h1⟩]
  simp only [Sem.run_bind,Zdd hti,Sem.run_pure,Result.andThen_ok,add_plain,hk]
 split at hr
 ·rename_i l k m e1 e2
  rw [e1] at r1; rw [e2] at r2
  obtain ⟨h0,z,hz,hzn,rfl⟩:=hr
  obtain ⟨A,c,sz,blk,off,g,hv,hc,hA,hzs,hg,h1,h⟩:=Yff r1
  have hlt:m.toNat<l.length:=(List.getElem?_eq_some_iff.1 hz).1
  obtain ⟨rfl,hO⟩:=hA (by omega)
  have hsz:sz=n:=by rw [← hzs z (List.mem_of_getElem? hz),hzn]
  subst hsz
  refine Zag hC hn hH (.rp _ blk (off+m.toNat*sz) (fun q=>g (m.toNat*sz+q)) hO (fun q y' hy=>?_) (fun q y' hy=>h1 _ _ _ _ hz hy) (fun q y' hy=>h _ _ _ _ hz hy)) (run hv (Zc0 r2) h0 (by omega))
  rw [Nat.add_assoc]; exact hg _ _ _ _ hz hy
 ·rename_i ek b off len k m e1 e2
  rw [e1] at r1; rw [e2] at r2
  obtain ⟨hek,h0,h1,rfl⟩:=hr
  rcases Zqu r1 with ⟨A,hl0,_⟩ | ⟨c,blk,o',hv,hp,_⟩
  ·omega
  ·refine Zag hC hn hH ?_ (run hv (Zc0 r2) h0 h1)
   rw [Nat.add_assoc]
   exact .ptr b _ blk o' hp
 ·exact hr.elim
theorem Y0b {o:Oper}{t el:TypeId}{x i:Operand}{y j:Ox}{n len:Nat}(ho:o.op = .indexAddr t x i) (hu:P.underlying t=some (.array len el)) (hs:sizeOf? P el=some n) (hx:cOx x=some y) (hi:cOx i=some j) :
  Does P o (.idxa n len y j):=by
 intro X B w0 w ρ H e a d v H' next Q hC hE hr hn
 simp only [R] at hr
 obtain ⟨hr,hH⟩:=hr
 have r1:=Za4 hE hx
 have r2:=Za4 hE hi
 obtain ⟨ti,hti,hk⟩:=sizeOf?_spec hs
 split at hr
 ·rename_i b off k m e1 e2
  rw [e1] at r1; rw [e2] at r2
  obtain ⟨h0,h1,rfl⟩:=hr
  obtain ⟨blk,o',hv,hp⟩:=Ydx r1
  refine Zag (v' := .pointer (some ⟨blk,o'+(off+m.toNat*n),none⟩)) hC hn hH (.ptr b _ blk o' hp) ?_
  simp only [execOp,ho,hv,Zc0 r2,Instr.indexAt,Instr.sureAddr,asIntOf,Sem.run_bind,run_underlying hu,Sem.run_pure,Result.andThen_ok]
  rw [if_pos ⟨h0,h1⟩]
  simp only [Sem.run_bind,Zdd hti,Sem.run_pure,Result.andThen_ok,add_plain,hk,Nat.add_assoc]
 ·exact hr.elim
theorem Ywn {e:Nat→AV}{a:Act}(hE:Env w O ρ e a) {x:Option Operand}{y:Option Ox}(hx:cOO x=some y) {dd n:Nat}(h:Bnd (Ox.ev e) y dd n) :
  (x=none∧n=dd)∨∃ k m,x.map a.eval=some (.int k m)∧0≤m∧n=m.toNat:=by
 cases x with
 | none=>cases hx; exact .inl ⟨rfl,h⟩
 | some x =>
  simp only [cOO] at hx
  cases hy:cOx x with
  | none=>rw [hy] at hx; cases hx
  | some z =>
   rw [hy] at hx; cases hx
   have r:=Za4 hE hy
   simp only [Bnd] at h
   split at h
   ·rename_i k m e1
    rw [e1] at r
    exact .inr ⟨k,m,by simp [Zc0 r],h.1,h.2⟩
   ·exact h.elim
theorem Zg9 {k:IntKind}{m:Int}{y n:Nat}(code:BoundsCode) (h0:0≤m) (hn:n=m.toNat) (hy:n≤y):(Instr.sliceBound (.int k m) y code).run P w = .ok n w:=by
 simp only [Instr.sliceBound,asIntOf,Sem.run_bind,Sem.run_pure,Result.andThen_ok]
 rw [if_pos ⟨h0,by omega⟩,hn]
 rfl
theorem Zs4 {e:Nat→AV}{a:Act}(hE:Env w O ρ e a) {lo hi:Option Operand}{yl yh:Option Ox}(hl:cOO lo=some yl) (hh:cOO hi=some yh) (isS:Bool) {len cap p q:Nat}
  (bl:Bnd (Ox.ev e) yl 0 p) (bh:Bnd (Ox.ev e) yh len q) (hpq:p≤q) (hq:q≤cap) :
  (Instr.sliceBounds isS len cap (lo.map a.eval) (hi.map a.eval) none).run P w = .ok (p,q,cap) w:=by
 rcases Ywn hE hl bl with ⟨rfl,rfl⟩ | ⟨k1,m1,e1,g1,g2⟩ <;> rcases Ywn hE hh bh with ⟨rfl,rfl⟩ | ⟨k2,m2,e2,g3,g4⟩
 ·rfl
 ·simp only [Instr.sliceBounds,e2,Option.map_none,Sem.run_bind,Sem.run_pure,Result.andThen_ok,Zg9 _ g3 g4 hq]
 ·simp only [Instr.sliceBounds,e1,Option.map_none,Sem.run_bind,Sem.run_pure,Result.andThen_ok,Zg9 _ g1 g2 hpq]
 ·simp only [Instr.sliceBounds,e1,e2,Sem.run_bind,Sem.run_pure,Result.andThen_ok,Zg9 _ g3 g4 hq,Zg9 _ g1 g2 hpq]
theorem Ywp {o:Oper}{t:TypeId}{x:Operand}{lo hi:Option Operand}{y:Ox}{yl yh:Option Ox}(ho:o.op = .slice t x lo hi none) (hu:P.underlying t=some .string) (hx:cOx x=some y)
  (hl:cOO lo=some yl) (hh:cOO hi=some yh):Does P o (.sslc y yl yh):=by
 intro X B w0 w ρ H e a d v H' next Q hC hE hr hn
 simp only [R] at hr
 obtain ⟨hr,hH⟩:=hr
 have r1:=Za4 hE hx
 split at hr
 ·rename_i s e1
  rw [e1] at r1
  obtain ⟨p,q,bl,bh,hpq,hq,rfl⟩:=hr
  refine Zag hC hn hH (.str _) ?_
  simp only [execOp,ho,Z6c r1,Option.map_none,Instr.sliceAt,Sem.run_bind,run_underlying hu,Result.andThen_ok,Instr.slice,Option.isSome_none,Bool.false_eq_true,if_false,Zs4 hE hl hh false bl bh hpq hq,Sem.run_pure]
 ·exact hr.elim
theorem Y6k {o:Oper}{t el:TypeId}{x:Operand}{lo hi:Option Operand}{y:Ox}{yl yh:Option Ox}{n:Nat}(ho:o.op = .slice t x lo hi none) (hu:P.underlying t=some (.slice el)) (hs:sizeOf? P el=some n)
  (hx:cOx x=some y) (hl:cOO lo=some yl) (hh:cOO hi=some yh):Does P o (.slc n y yl yh):=by
 intro X B w0 w ρ H e a d v H' next Q hC hE hr hn
 simp only [R] at hr
 obtain ⟨hr,hH⟩:=hr
 have r1:=Za4 hE hx
 obtain ⟨ti,hti,hk⟩:=sizeOf?_spec hs
 have run:∀ {A:Option Addr} {len c p q:Nat},a.eval x = .slice A len c→Bnd (Ox.ev e) yl 0 p→Bnd (Ox.ev e) yh len q→p≤q→q≤len→len≤c →
   (execOp a.eval o).run P w = .ok (.value (.slice (if c=p then A else A.map (·.add (p*n))) (q - p) (c - p))) w:=fun {A len c p q} hv bl bh hpq hq hc=>by
  simp only [execOp,ho,hv,Option.map_none,Instr.sliceAt,Sem.run_bind,run_underlying hu,Result.andThen_ok,Instr.slice,Zs4 hE hl hh true bl bh hpq (Nat.le_trans hq hc),Zdd hti,hk]
  rfl
 split at hr
 ·rename_i e1; rw [e1] at r1
  obtain ⟨p,q,bl,bh,rfl,rfl,rfl⟩:=hr
  obtain ⟨A,hv⟩:=Zhe r1
  exact Zag hC hn hH (.nils A) (run hv bl bh (Nat.le_refl _) (Nat.le_refl _) (Nat.le_refl _))
 ·rename_i l e1; rw [e1] at r1
  obtain ⟨p,q,bl,bh,hpq,hq,hzn,rfl⟩:=hr
  obtain ⟨A,c,sz,blk,off,g,hv,hc,hA,hzs,hg,h1,h⟩:=Yff r1
  have hlen:((l.take q).drop p).length=q - p:=by simp; omega
  have look:∀ {i:Nat} {z:AV},((l.take q).drop p)[i]? = some z→l[p+i]? = some z:=fun {i z} hz=>by
   rw [List.getElem?_drop,List.getElem?_take] at hz
   split at hz
   ·exact hz
   ·cases hz
  refine Zag (v' := .slice (if c=p then A else A.map (·.add (p*n))) (q - p) (c - p)) hC hn hH ?_ (run hv bl bh hpq hq hc)
  have hrep:=Rep.sl (w:=w) (O:=Own X ρ H) (ρ:=ρ) ((l.take q).drop p) (if c=p then A else A.map (·.add (p*n))) (c - p) sz blk (off+p*sz) (fun k=>g (p*sz+k)) (by rw [hlen]; omega)
   (fun h0=>by
    rw [hlen] at h0
    have hlt:p<l.length:=by omega
    obtain ⟨rfl,hO⟩:=hA (by omega)
    have hsn:sz=n:=by rw [← hzs _ (List.getElem_mem hlt),hzn _ (List.getElem_mem hlt)]
    rw [if_neg (by omega)]
    exact ⟨by simp [add_plain,hsn],hO⟩)
   (fun z hz=>hzs z (List.mem_of_mem_take (List.mem_of_mem_drop hz)))
   (fun i z j y' hz hy=>by
    have:=hg _ _ _ _ (look hz) hy
    rw [Nat.add_mul] at this
    rw [show off+p*sz+(i*sz+j)=off+(p*sz+i*sz+j) by omega,show p*sz+(i*sz+j)=p*sz+i*sz+j by omega]; exact this)
   (fun i z j y' hz hy=>by have:=h1 _ _ _ _ (look hz) hy; rw [Nat.add_mul] at this; rw [show p*sz+(i*sz+j)=p*sz+i*sz+j by omega]; exact this)
   (fun i z j y' hz hy=>by have:=h _ _ _ _ (look hz) hy; rw [Nat.add_mul] at this; rw [show p*sz+(i*sz+j)=p*sz+i*sz+j by omega]; exact this)
  rw [hlen] at hrep
  exact hrep
 ·rename_i ek b off len e1; rw [e1] at r1
  obtain ⟨p,q,bl,bh,hpq,hq,hek,rfl⟩:=hr
  rcases Zqu r1 with ⟨A,hl0,hv⟩ | ⟨c,blk,o',hv,hp,hc,ty,m,hsh,hfit⟩
  ·subst hl0
   have hp0:p=0:=by omega
   have hq0:q=0:=by omega
   subst hp0; subst hq0
   exact Zag hC hn hH (.osl0 ek b _ _) (run hv bl bh (Nat.le_refl _) (Nat.le_refl _) (Nat.le_refl _))
  ·refine Zag hC hn hH ?_ (run hv bl bh hpq hq hc)
   by_cases hcp:c=p
   ·have hqp:q - p=0:=by omega
    have hcp':c - p=0:=by omega
    rw [hqp,hcp']
    exact .osl0 ek b _ _
   ·rw [if_neg hcp]
    simp only [Option.map_some,add_plain]
    rw [Nat.add_assoc]
    refine .osl ek b (off+p*n) (q - p) (c - p) blk o' hp (by omega) ⟨ty,m,hsh,?_⟩
    rw [hek] at hfit ⊢
    have:(c - p)*n+p*n=c*n:=by rw [← Nat.add_mul]; congr 1; omega
    omega
 ·exact hr.elim
end GoAbs
