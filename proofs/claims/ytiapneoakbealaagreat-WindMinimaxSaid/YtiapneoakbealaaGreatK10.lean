/- Lemmas for the claim (contracts of the functions that it reaches, and what they compute), without conditions. -/
import Derived.Test.YtiapneoakbealaaGreatK09
set_option linter.unusedVariables false
set_option linter.unusedSimpArgs false
set_option maxRecDepth 10000
set_option maxHeartbeats 2000000
namespace GoAbs
open Go Go.RowKit
variable {X:Nat→Prop} {B:Nat} {w0 w w':World} {ρ ρ':Pl} {H H':Heap} {P:Program} {O:Nat→Prop}
theorem Ysf:∀ {ids:List Nat}{H:Heap}{i:Nat}{bl:Blk},(kill ids H)[i]? = some bl→bl ≠ .dead→i ∉ ids∧H[i]? = some bl
 | [],H,i,bl,h,_=>⟨by simp,h⟩
 | b::r,H,i,bl,h,hd=>by
  have h':(kill r (H.set b .dead))[i]? = some bl:=h
  obtain ⟨h1,h2⟩:=Ysf h' hd
  obtain ⟨h3,h4⟩:=Zbn h2 hd
  exact ⟨by simp [h3,h1],h4⟩
theorem HSim.killed:∀ {ids:List Nat}{H:Heap},HSim X B w ρ H→HSim X B w ρ (kill ids H)∧∀ c,Own X ρ (kill ids H) c→Own X ρ H c
 | [],H,h=>⟨h,fun _ h=>h⟩
 | b::r,H,h=>by
  obtain ⟨h1,h2⟩:=h.kill1 b
  obtain ⟨h3,h4⟩:=HSim.killed (ids:=r) h1
  exact ⟨h3,fun c hc=>h2 c (h4 c hc)⟩
theorem Zh7 {O O':Nat→Prop}(hO:∀ c,O' c→O c):Keep w O w O':=⟨Nat.le_refl _,fun _ _ _=>rfl,fun b hb => .inl (hO b hb),fun _ _=>rfl⟩
theorem Ymx (hC:Ctx X B w0 w ρ H) {ids:List Nat}{b:Nat}{p:Nat×Nat}{l:List AV}(hl:H[b]? = some (.cells l)) (hp:ρ b=some p) (hb:b∈ids):¬ Own X ρ (kill ids H) p.1:=by
 rintro (h | ⟨i,q,hq,hqp,bl,hbl,h1,h2⟩)
 ·have:=hC.xs _ h
  have:=(hC.heap.lt hp hl (by simp) (by simp)).2
  omega
 ·obtain ⟨g1,g2⟩:=Ysf hbl h2
  have:=hC.heap.inj i b q p bl _ hq hp hqp g2 hl h2 (by simp)
  subst this
  exact g1 hb
theorem Yn5 {t:TypeId}{x:AV}{v:Value}(h:Rep w O ρ (.ifc t x) v):∃ u,v = .iface t u∧Rep w O ρ x u:=by
 cases h with
 | ifc _ _ u h=>exact ⟨u,rfl,h⟩
theorem Yjs (hC:Ctx X B w0 w ρ H) {ids:List Nat}{x y:AV}(h:BV H ids x y):∀ {v:Value},Rep w (Own X ρ H) ρ x v→Rep w (Own X ρ (kill ids H)) noPl y v:=by
 have hO:=(HSim.killed (ids:=ids) hC.heap).2
 have far:∀ {blk:Nat},¬ Own X ρ H blk∧blk<w.heap.size→¬ Own X ρ (kill ids H) blk∧blk<w.heap.size:=fun h=>⟨fun h1=>h.1 (hO _ h1),h.2⟩
 have lessN:∀ {y:AV} {v:Value},Rep w (Own X ρ H) noPl y v→Rep w (Own X ρ (kill ids H)) noPl y v:=fun h=>h.less hO
 induction h with
 | int k n=>intro v hr; cases hr; exact .int k n
 | bool b=>intro v hr; cases hr; exact .bool b
 | str s=>intro v hr; cases hr; exact .str s
 | any=>intro v hr; exact .any v
 | agg cs ds hl h ih =>
  intro v hr
  obtain ⟨us,rfl,h1,h2,h3⟩:=Ynz hr
  refine .agg ds us (by omega) h2 (fun i y u hy hu=>?_)
  have hlt:i<cs.length:=by have:=(List.getElem?_eq_some_iff.1 hy).1; omega
  exact ih i _ y (List.getElem?_eq_getElem hlt) hy (h3 i _ u (List.getElem?_eq_getElem hlt) hu)
 | tup cs ds hl h ih =>
  intro v hr
  obtain ⟨us,rfl,h1,h3⟩:=Ym8 hr
  refine .tup ds us (by omega) (fun i y u hy hu=>?_)
  have hlt:i<cs.length:=by have:=(List.getElem?_eq_some_iff.1 hy).1; omega
  exact ih i _ y (List.getElem?_eq_getElem hlt) hy (h3 i _ u (List.getElem?_eq_getElem hlt) hu)
 | nils=>intro v hr; obtain ⟨A,rfl⟩:=Zhe hr; exact .nils A
 | nilsl=>intro v hr; obtain ⟨A,rfl⟩:=Zhe hr; exact .sl [] A 0 0 0 0 (fun _=>undef) (Nat.le_refl _) (by simp) (by simp) (by simp) (by simp) (by simp)
 | sl l =>
  intro v hr
  obtain ⟨A,c,sz,blk,off,g,rfl,hcap,hA,hz,hg,h1,h⟩:=Yff hr
  exact .sl l A c sz blk off g hcap (fun h0=>⟨(hA h0).1,far (hA h0).2⟩) hz hg h1 (fun i x j y hx hy=>lessN (h i x j y hx hy))
 | rp cs =>
  intro v hr
  obtain ⟨blk,off,g,rfl,hb,hg,h1,h⟩:=Ykr hr
  exact .rp cs blk off g (far hb) hg h1 (fun j y hy=>lessN (h j y hy))
 | nilp=>intro v hr; cases hr; exact .nilp
 | osl0 ek b off =>
  intro v hr
  rcases Zqu hr with ⟨A,_,rfl⟩ | ⟨c,blk,o,rfl,_⟩
  ·exact .sl [] A 0 0 0 0 (fun _=>undef) (Nat.le_refl _) (by simp) (by simp) (by simp) (by simp) (by simp)
  ·exact .sl [] _ c 0 0 0 (fun _=>undef) (by simp) (by simp) (by simp) (by simp) (by simp) (by simp)
 | osl ek b off len l r hb hi hr hz hlen h ih =>
  intro v hv
  rcases Zqu hv with ⟨A,h0,rfl⟩ | ⟨c,blk,o,rfl,hp,hcap,_⟩
  ·have:r = []:=List.length_eq_zero_iff.1 (by omega)
   subst this
   exact .sl [] A 0 0 0 0 (fun _=>undef) (Nat.le_refl _) (by simp) (by simp) (by simp) (by simp) (by simp)
  ·rcases hC.heap.cells b l hb with ⟨_,hn⟩ | ⟨bk,o',cs',e',g1,g2,g3,hsz,g4⟩
   ·rw [hn] at hp; cases hp
   ·rw [g1] at hp
    simp only [Option.some.injEq,Prod.mk.injEq] at hp
    obtain ⟨rfl,rfl⟩:=hp
    subst hr
    have fit:∀ {i:Nat} {x:AV} {j:Nat} {y:AV},r[i]? = some x→x.cells[j]? = some y→off+(i*es ek+j)<l.length:=fun {i x j y} hx hy=>by
     have h1:=(List.getElem?_eq_some_iff.1 hx).1
     have h2:=(List.getElem?_eq_some_iff.1 hy).1
     rw [hz x (List.mem_of_getElem? hx)] at h2
     have h3:(i+1)*es ek≤r.length*es ek:=Nat.mul_le_mul_right _ h1
     rw [Nat.add_mul] at h3
     omega
    have at':∀ {i:Nat} {x:AV} {j:Nat} {y:AV},r[i]? = some x→x.cells[j]? = some y→∃ u,cs'[o'+off+(i*es ek+j)]? = some u∧u.oneCell'=true∧Rep w (Own X ρ (kill ids H)) noPl y u:=fun {i x j y} hx hy=>by
     have hlt:=fit hx hy
     obtain ⟨u,e1,e2,e3⟩:=g4 _ _ (List.getElem?_eq_getElem hlt)
     exact ⟨u,by rw [Nat.add_assoc]; exact e1,e2,ih i x j y _ hx hy (List.getElem?_eq_getElem hlt) e3⟩
    refine .sl r _ c (es ek) bk (o'+off) (fun j=>cs'.getD (o'+off+j) undef) hcap (fun h0=>⟨rfl,Ymx hC hb g1 hi,(hC.heap.lt g1 hb (by simp) (by simp)).1⟩) hz (fun i x j y hx hy=>?_) (fun i x j y hx hy=>?_) (fun i x j y hx hy=>?_)
    ·obtain ⟨u,e1,_⟩:=at' hx hy
     simp only [World.cell?,g3,Array.getD_eq_getD_getElem?,e1]; rfl
    ·obtain ⟨u,e1,e2,_⟩:=at' hx hy
     simpa only [Array.getD_eq_getD_getElem?,e1,Option.getD_some] using e2
    ·obtain ⟨u,e1,_,e3⟩:=at' hx hy
     simpa only [Array.getD_eq_getD_getElem?,e1,Option.getD_some] using e3
 | ptr b off l r hb hi hl h ih =>
  intro v hv
  obtain ⟨blk,o,rfl,hp⟩:=Ydx hv
  rcases hC.heap.cells b l hb with ⟨_,hn⟩ | ⟨bk,o',cs',e',g1,g2,g3,hsz,g4⟩
  ·rw [hn] at hp; cases hp
  ·rw [g1] at hp
   simp only [Option.some.injEq,Prod.mk.injEq] at hp
   obtain ⟨rfl,rfl⟩:=hp
   have at':∀ {j:Nat} {y:AV},r[j]? = some y→∃ u,cs'[o'+off+j]? = some u∧u.oneCell'=true∧Rep w (Own X ρ (kill ids H)) noPl y u:=fun {j y} hy=>by
    have h1:=(List.getElem?_eq_some_iff.1 hy).1
    have hlt:off+j<l.length:=by omega
    obtain ⟨u,e1,e2,e3⟩:=g4 _ _ (List.getElem?_eq_getElem hlt)
    exact ⟨u,by rw [Nat.add_assoc]; exact e1,e2,ih j y _ hy (List.getElem?_eq_getElem hlt) e3⟩
   refine .rp r bk (o'+off) (fun j=>cs'.getD (o'+off+j) undef) ⟨Ymx hC hb g1 hi,(hC.heap.lt g1 hb (by simp) (by simp)).1⟩ (fun j y hy=>?_) (fun j y hy=>?_) (fun j y hy=>?_)
   ·obtain ⟨u,e1,_⟩:=at' hy
    simp only [World.cell?,g3,Array.getD_eq_getD_getElem?,e1]; rfl
   ·obtain ⟨u,e1,e2,_⟩:=at' hy
    simpa only [Array.getD_eq_getD_getElem?,e1,Option.getD_some] using e2
   ·obtain ⟨u,e1,_,e3⟩:=at' hy
    simpa only [Array.getD_eq_getD_getElem?,e1,Option.getD_some] using e3
 | fn f p q p' q' hl hl' h h' ih ih' =>
  intro v hv
  obtain ⟨ps,qs,rfl,e1,e2,e3,e4⟩:=Y1h hv
  refine .fn f p' q' ps qs (by omega) (by omega) (fun i y u hy hu=>?_) (fun i y u hy hu=>?_)
  ·have hlt:i<p.length:=by have:=(List.getElem?_eq_some_iff.1 hy).1; omega
   exact ih i _ y (List.getElem?_eq_getElem hlt) hy (e3 i _ u (List.getElem?_eq_getElem hlt) hu)
  ·have hlt:i<q.length:=by have:=(List.getElem?_eq_some_iff.1 hy).1; omega
   exact ih' i _ y (List.getElem?_eq_getElem hlt) hy (e4 i _ u (List.getElem?_eq_getElem hlt) hu)
 | nilif=>intro v hr; cases hr; exact .nilif
 | ifc t x y h ih =>
  intro v hr
  obtain ⟨u,rfl,h1⟩:=Yn5 hr
  exact .ifc t y u (ih h1)
theorem Zs9 {ids:List Nat}:∀ {xs ys:List AV},BVs H ids xs ys→ys.length=xs.length∧∀ (i:Nat) (x y:AV),xs[i]? = some x→ys[i]? = some y→BV H ids x y
 | _,_,.nil=>⟨rfl,fun i x y hx=>by simp at hx⟩
 | _,_,.cons h t=>by
  obtain ⟨h1,h2⟩:=Zs9 t
  refine ⟨by simp [h1],fun i x y hx hy=>?_⟩
  cases i with
  | zero=>simp at hx hy; subst hx; subst hy; exact h
  | succ i=>exact h2 i x y (by simpa using hx) (by simpa using hy)
theorem Z24 (hC:Ctx X B w0 w ρ H) {ids:List Nat}{xs ys:List AV}{vs:Array Value}(h:BVs H ids xs ys) (hr:Reps w (Own X ρ H) ρ xs vs):Reps w (Own X ρ (kill ids H)) noPl ys vs:=by
 obtain ⟨h1,h2⟩:=Zs9 h
 refine ⟨by rw [hr.1,h1],fun i y v hy hv=>?_⟩
 have hlt:i<xs.length:=by have:=(List.getElem?_eq_some_iff.1 hy).1; omega
 exact Yjs hC (h2 i _ y (List.getElem?_eq_getElem hlt) hy) (hr.2 i _ v (List.getElem?_eq_getElem hlt) hv)
theorem Y2q {x:AV}(h:Flat x):∀ {w w':World}{O O':Nat→Prop}{ρ ρ':Pl}{v:Value},Rep w O ρ x v→Rep w' O' ρ' x v:=by
 induction h with
 | any=>intros; exact .any _
 | int k n=>intro _ _ _ _ _ _ v hr; cases hr; exact .int k n
 | bool b=>intro _ _ _ _ _ _ v hr; cases hr; exact .bool b
 | str s=>intro _ _ _ _ _ _ v hr; cases hr; exact .str s
 | tup cs h ih =>
  intro _ _ _ _ _ _ v hr
  obtain ⟨us,rfl,h1,h3⟩:=Ym8 hr
  exact .tup cs us h1 (fun i y u hy hu=>ih y (List.mem_of_getElem? hy) (h3 i y u hy hu))
 | agg cs h ih =>
  intro _ _ _ _ _ _ v hr
  obtain ⟨us,rfl,h1,h2,h3⟩:=Ynz hr
  exact .agg cs us h1 h2 (fun i y u hy hu=>ih y (List.mem_of_getElem? hy) (h3 i y u hy hu))
 | nilsl =>
  intro _ _ _ _ _ _ v hr
  obtain ⟨A,c,sz,blk,off,g,rfl,_⟩:=Yff hr
  exact .sl [] A c 0 0 0 (fun _=>undef) (by simp) (by simp) (by simp) (by simp) (by simp) (by simp)
 | nils=>intro _ _ _ _ _ _ v hr; obtain ⟨A,rfl⟩:=Zhe hr; exact .nils A
theorem Yfe (h:Below w.heap.size w w') (O:Nat→Prop):Keep w O w' O :=
 ⟨h.size,fun b hb _=>h.block b hb,fun b hb => .inl hb,fun b hb=>by simp only [World.shape?]; rw [h.block b hb]⟩
theorem HSim.grown (hh:HSim X B w ρ H) (h:Below w.heap.size w w'):HSim X B w' ρ H:=by
 have hK:=Yfe h (Own X ρ H)
 refine ⟨hh.dom,fun j l hl=>?_,fun j es hl=>?_,hh.inj⟩
 ·rcases hh.cells j l hl with h1 | ⟨bk,o,cs',e',g1,g2,g3,hsz,g4⟩
  ·exact .inl h1
  ·have hlt:bk<w.heap.size:=(Array.getElem?_eq_some_iff.1 g3).1
   exact .inr ⟨bk,o,cs',e',g1,g2,(h.block _ hlt).trans g3,hsz,fun k y hy=>let ⟨v,k1,k2,k3⟩:=g4 k y hy; ⟨v,k1,k2,k3.keep hK (fun _ _ h=>h)⟩⟩
 ·obtain ⟨bk,ms,ck,g1,g2,g3,g4,g5⟩:=hh.map j es hl
  have hlt:bk<w.heap.size:=(Array.getElem?_eq_some_iff.1 g3).1
  exact ⟨bk,ms,ck,g1,g2,(h.block _ hlt).trans g3,g4,fun k x y m hx hm=>let ⟨k1,k2,k3⟩:=g5 k x y m hx hm; ⟨k1.keep hK (fun _ _ h=>h),k2.keep hK (fun _ _ h=>h),k3⟩⟩
theorem Ymy (hC:Ctx X B w0 w ρ H) (h:Below w.heap.size w w') {v:AV}{v':Value}(hr:Rep w' (Own X ρ H) ρ v v'):Nxt X B w0 w ρ H v H v' w' ρ :=
 ⟨hr,hC.heap.grown h,Yfe h _,fun _ _ h=>h,hC.below.trans (h.mono hC.bs)⟩
theorem callV (hC:Ctx X B w0 w ρ H) {f:Nat}{ids:List Nat}{xs ys:List AV}{v:AV}{vs:Array Value}(h:BVs H ids xs ys) (hf:ids = []∨Flat v) (hs:SpecV P f ys v) (hr:Reps w (Own X ρ H) ρ xs vs) :
  Calls P f vs w fun e w'=>∃ v',e = .returned v'∧Nxt X B w0 w ρ H v H v' w' ρ:=by
 refine (hs.2 (Own X ρ (kill ids H)) w vs (fun b hb=>Own.lt (HSim.killed (ids:=ids) hC.heap).1 hC.xs hC.bs hb) (Z24 hC h hr)).mono fun e w' he=>?_
 obtain ⟨v',rfl,h1,h2⟩:=he
 refine ⟨v',rfl,Ymy hC h2 ?_⟩
 rcases hf with hid | hf
 ·subst hid
  exact h1.keep (Keep.refl _ _) (fun _ _ h=>by cases h)
 ·exact Y2q hf h1
theorem Zqt {f:Nat}{args:Array Value}(h:Callable P f):(callFunc f args).run P w = .ok (.enter f args) w:=by
 obtain ⟨fn,h1,h2,h3⟩:=h
 have h4:fn.body.isNone=false:=by cases hb:fn.body <;> simp_all
 show Sem.run P (match P.funcs[f]? with | none=>_ | some fn=>_) w=_
 rw [h1]
 simp only [h3,h4,Bool.false_eq_true,if_false]
 rfl
theorem Yp3 {o:Oper}{a:Act}{f:Nat}{args:Array Value}{next:Act→World→Prop}{Q:Exit→Act→World→Prop}{v:AV}(hex:(execOp a.eval o).run P w = .ok (.enter f args) w)
  (hc:Calls P f args w fun e w'=>∃ v' ρ',e = .returned v'∧Nxt X B w0 w ρ H v H' v' w' ρ') (hn:∀ v' w' ρ',Nxt X B w0 w ρ H v H' v' w' ρ'→next (a.put o.dst v') w'):o.wp P a w next Q:=by
 unfold Oper.wp
 rw [hex,Oper.upon_enter]
 refine hc.mono fun e w' he=>?_
 obtain ⟨v',ρ',rfl,h⟩:=he
 exact hn _ _ _ h
theorem Z9x (hC:Ctx X B w0 w ρ H) {o:Oper}{a:Act}{f:Nat}{d:Option Dm}{xs:List AV}{args:Array Value}{next:Act→World→Prop}{Q:Exit→Act→World→Prop}{v:AV}
  (hr:match d with
   | none=>SpecR P f H xs v H'
   | some d=>H'=H∧∃ ys ids,BVs H ids xs ys∧(∀ b,b∈ids→OkB (some d) b)∧(ids = []∨Flat v)∧SpecV P f ys v)
  (hrep:Reps w (Own X ρ H) ρ xs args) (hex:Callable P f→(execOp a.eval o).run P w = .ok (.enter f args) w) (hn:∀ v' w' ρ',Nxt X B w0 w ρ H v H' v' w' ρ'→next (a.put o.dst v') w'):o.wp P a w next Q:=by
 cases d with
 | none =>
  have hr':SpecR P f H xs v H':=hr
  refine Yp3 (hex hr'.1) ((hr'.2 X B w0 w ρ args hC.heap hC.xs hC.below hC.bs hrep).mono fun e w' he=>?_) hn
  obtain ⟨v',ρ',h1,h2⟩:=he
  exact ⟨v',ρ',h1,h2⟩
 | some d =>
  obtain ⟨rfl,ys,ids,h1,h2,h3,h4⟩:=hr
  refine Yp3 (hex h4.1) ((callV hC h1 h3 h4 hrep).mono fun e w' he=>?_) hn
  obtain ⟨v',g1,g2⟩:=he
  exact ⟨v',ρ,g1,g2⟩
theorem Z4n {e:Nat→AV}{a:Act}(hE:Env w O ρ e a) {xs:Array Operand}{ys:List Ox}(h:cOxs xs.toList=some ys):Reps w O ρ (ys.map (Ox.ev e)) (xs.map a.eval):=by
 obtain ⟨h1,h2⟩:=Zz9 hE h
 refine ⟨by rw [h1]; simp,fun i x v hx hv=>h2 i x v hx (by rw [← hv, ← Array.getElem?_toList,Array.toList_map])⟩
theorem Y0r {o:Oper}{c:Call}{f:Nat}{ys:List Ox}(ho:o.op = .call c) (hc:c.callee = .value (.func f)) (hx:cOxs c.args.toList=some ys):Does P o (.call f ys):=by
 intro X B w0 w ρ H e a d v H' next Q hC hE hr hn
 refine Z9x (d:=d) hC (by cases d <;> exact hr) (Z4n hE hx) (fun hcall=>?_) hn
 simp only [execOp,ho,resolve,hc,Sem.run_bind,Act.eval,Deferred.ofValue,Sem.run_pure,Result.andThen_ok,invoke]
 simpa using Zqt hcall
theorem Ys0 {o:Oper}{c:Call}{f:Nat}{ys:List Ox}(ho:o.op = .call c) (hc:c.callee = .value (.func f)) (hx:cOxs c.args.toList=some ys):Does P o (.callw f ys):=by
 intro X B w0 w ρ H e a d v H' next Q hC hE hr hn
 refine Z9x (d:=none) hC hr (Z4n hE hx) (fun hcall=>?_) hn
 simp only [execOp,ho,resolve,hc,Sem.run_bind,Act.eval,Deferred.ofValue,Sem.run_pure,Result.andThen_ok,invoke]
 simpa using Zqt hcall
theorem Y8j {o:Oper}{c:Call}{f:Nat}{ys:List Ox}(ho:o.op = .call c) (hc:c.callee = .value (.func f)) (hx:cOxs c.args.toList=some ys):Does P o (.xt f ys):=by
 intro X B w0 w ρ H e a d v H' next Q hC hE hr hn
 simp only [R] at hr
 obtain ⟨⟨hflat,hfv,hp⟩,hH⟩:=hr
 obtain ⟨v',h1,h2⟩:=hp w (Own X ρ H) ρ _ (Z4n hE hx)
 refine Zag hC hn hH h2 ?_
 simp only [execOp,ho,resolve,hc,Sem.run_bind,Act.eval,Deferred.ofValue,Sem.run_pure,Result.andThen_ok,invoke]
 simpa using h1
theorem Yfr {o:Oper}{c:Call}{x:Operand}{y:Ox}{ys:List Ox}(ho:o.op = .call c) (hc:c.callee = .value x) (hx:cOx x=some y) (hxs:cOxs c.args.toList=some ys):Does P o (.callv y ys):=by
 intro X B w0 w ρ H e a d v H' next Q hC hE hr hn
 simp only [R] at hr
 have r1:=Za4 hE hx
 split at hr
 ·rename_i f p q e1
  rw [e1] at r1
  obtain ⟨p',q',hv,l1,l2,h1,h2⟩:=Y1h r1
  have hxs':=Z4n hE hxs
  refine Z9x (d:=d) (args:=p'++c.args.map a.eval++q') hC (by cases d <;> exact hr) ⟨by have:=hxs'.1; simp at this ⊢; omega,fun i z u hz hu=>?_⟩ (fun hcall=>?_) hn
  ·rw [Array.getElem?_append] at hu
   simp only [Array.size_append] at hu
   by_cases hi:i<p.length+(ys.map (Ox.ev e)).length
   ·rw [List.getElem?_append_left (by rw [List.length_append]; exact hi)] at hz
    rw [if_pos (by rw [l1,hxs'.1]; exact hi),Array.getElem?_append] at hu
    by_cases hi2:i<p.length
    ·rw [List.getElem?_append_left hi2] at hz
     rw [if_pos (by omega)] at hu
     exact h1 i z u hz hu
    ·rw [List.getElem?_append_right (by omega)] at hz
     rw [if_neg (by omega),l1] at hu
     exact hxs'.2 _ z u hz hu
   ·rw [List.getElem?_append_right (by rw [List.length_append]; omega),List.length_append] at hz
    rw [if_neg (by rw [l1,hxs'.1]; exact hi),l1,hxs'.1] at hu
    exact h2 _ z u hz hu
  ·simp only [execOp,ho,resolve,hc,Sem.run_bind,hv,Deferred.ofValue,Sem.run_pure,Result.andThen_ok,invoke]
   simpa using Zqt hcall
 ·exact hr.elim
theorem Ysx {o:Oper}{c:Call}{x:Operand}{y:Ox}{ys:List Ox}(ho:o.op = .call c) (hc:c.callee = .value x) (hx:cOx x=some y) (hxs:cOxs c.args.toList=some ys):Does P o (.callu y ys):=by
 intro X B w0 w ρ H e a d v H' next Q hC hE hr hn
 refine Yfr (d:=none) ho hc hx hxs hC hE ?_ hn
 simp only [R] at hr ⊢
 split at hr
 ·cases d with
  | none=>exact hr
  | some D=>obtain ⟨M,rfl,_,h2⟩:=hr; exact h2 H (LessB.refl H)
 ·exact hr.elim
theorem Y26 {o:Oper}{t:TypeId}{x:Operand}{y:Ox}{u:TypeDesc}(ho:o.op = .makeInterface t x) (hu:P.underlying t=some u) (hi:∀ m,u ≠ .interface m) (hx:cOx x=some y):Does P o (.mki t y):=by
 intro X B w0 w ρ H e a d v H' next Q hC hE hr hn
 simp only [R] at hr
 obtain ⟨⟨_,rfl⟩,hH⟩:=hr
 refine Zag hC hn hH (.ifc t _ _ (Za4 hE hx)) ?_
 simp only [execOp,ho,Instr.makeInterface,Sem.run_bind,run_underlying hu,Result.andThen_ok]
 cases u <;> first | rfl | exact absurd rfl (hi _)
theorem Xac {o:Oper}{t xt:TypeId}{ok:Bool}{x:Operand}{y:Ox}{z:AV}{u:TypeDesc}(ho:o.op = .typeAssert x xt t ok) (hu:P.underlying t=some u) (hi:∀ m,u ≠ .interface m) (hz:zeroAV P t=some z) (hx:cOx x=some y):Does P o (.ta t ok z y):=by
 intro X B w0 w ρ H e a d v H' next Q hC hE hr hn
 simp only [R] at hr
 obtain ⟨hr,hH⟩:=hr
 have r1:=Za4 hE hx
 split at hr
 ·rename_i t' y' e1
  rw [e1] at r1
  obtain ⟨v',hv,h1⟩:=Yn5 r1
  by_cases ht:t'=t
  ·rw [if_pos ht] at hr
   subst hr
   refine Zag hC hn hH (v':=if ok=true then .tuple #[v',.bool true] else v') ?_ ?_
   ·cases ok
    ·exact h1
    ·refine .tup _ _ rfl (fun i a b ha hb=>?_)
     match i,ha,hb with
     | 0,ha,hb=>simp at ha hb; subst ha; subst hb; exact h1
     | 1,ha,hb=>simp at ha hb; subst ha; subst hb; exact .bool _
     | i+2,ha,hb=>simp at ha
   ·simp only [execOp,ho,hv,Instr.typeAssert,Sem.run_bind,run_underlying hu,Result.andThen_ok]
    cases u <;> first | exact absurd rfl (hi _) | (simp only [ht,if_true,Sem.run_bind,Sem.run_pure,Result.andThen_ok])
  ·rw [if_neg ht] at hr
   obtain ⟨rfl,rfl⟩:=hr
   unfold zeroAV at hz
   split at hz
   ·rename_i i hinfo
    split at hz
    ·rename_i zv hzv
     have hzr:∀ w:World,(zeroValue t).run P w = .ok zv w:=fun w=>by simp only [zeroValue,Sem.run_bind,run_typeInfo w hinfo,Result.andThen_ok,hzv]; rfl
     refine Zag hC hn hH (v' := .tuple #[zv,.bool false]) (.tup _ _ rfl (fun i a b ha hb=>?_)) ?_
     ·match i,ha,hb with
      | 0,ha,hb=>simp at ha hb; subst ha; subst hb; exact (Yl3 hz).1
      | 1,ha,hb=>simp at ha hb; subst ha; subst hb; exact .bool _
      | i+2,ha,hb=>simp at ha
     ·simp only [execOp,ho,hv,Instr.typeAssert,Sem.run_bind,run_underlying hu,Result.andThen_ok]
      cases u <;> first | exact absurd rfl (hi _) | (simp only [ht,if_true,if_false,hzr,Sem.run_bind,Sem.run_pure,Result.andThen_ok])
    ·cases hz
   ·cases hz
 ·exact hr.elim
theorem Yok {name:String}{t:TypeId}{f:Nat}(h:(methTbl P name).lookup t=some f):methAt P name t=some (t,f):=by
 unfold methTbl at h
 have key:∀ l:List Nat,(l.filterMap (methAt P name)).lookup t=some f→methAt P name t=some (t,f):=by
  intro l
  induction l with
  | nil=>intro h; simp at h
  | cons i l ih =>
   intro h
   rw [List.filterMap_cons] at h
   split at h
   ·exact ih h
   ·rename_i p hp
    obtain ⟨t',f'⟩:=p
    rw [List.lookup_cons] at h
    split at h
    ·rename_i heq
     have ht:t=t':=by simpa using heq
     have hf:f'=f:=by simpa using h
     have hi:i=t':=by
      unfold methAt at hp
      split at hp
      ·split at hp
       ·split at hp
        ·split at hp
         ·split at hp
          ·simp at hp; exact hp.1
          ·cases hp
         ·cases hp
        ·cases hp
       ·cases hp
      ·cases hp
     rw [← hf,ht, ← hi,hp,hi]
    ·exact ih h
 exact key _ h
theorem Yvc {name:String}{t:TypeId}{f:Nat}(h:methAt P name t=some (t,f)) {v:Value}(n:Nat) (w:World):(method (n+1) t v name).run P w = .ok (f,v) w:=by
 unfold methAt at h
 split at h
 ·rename_i i fs hinfo hu
  split at h
  ·rename_i m hm
   split at h
   ·rename_i hp
    split at h
    ·rename_i f' hf
     split at h
     ·simp at h; subst h
      have hp':m.path.toList = []:=by simpa using hp
      unfold method
      simp only [Sem.run_bind,run_typeInfo w hinfo,Result.andThen_ok,hm,hp',follow,Sem.run_pure,hf,receiverAt,run_underlying hu,Place.get]
     ·cases h
    ·cases h
   ·cases h
  ·cases h
 ·cases h
theorem Y3o {o:Oper}{c:Call}{x:Operand}{y:Ox}{ys:List Ox}{name:String}(ho:o.op = .call c) (hc:c.callee = .invoke x name) (hx:cOx x=some y) (hxs:cOxs c.args.toList=some ys):Does P o (.inv (methTbl P name) y ys):=by
 intro X B w0 w ρ H e a d v H' next Q hC hE hr hn
 simp only [R] at hr
 have r1:=Za4 hE hx
 split at hr
 ·rename_i t z e1
  rw [e1] at r1
  obtain ⟨v',hv,h1⟩:=Yn5 r1
  split at hr
  ·rename_i f hf
   have hxs':=Z4n hE hxs
   refine Z9x (d:=d) (args := #[v']++c.args.map a.eval) hC (by cases d <;> exact hr) ⟨by have:=hxs'.1; simp at this ⊢; omega,fun i z u hz hu=>?_⟩ (fun hcall=>?_) hn
   ·cases i with
    | zero =>
     rw [List.getElem?_cons_zero] at hz
     have hu':v'=u:=by
      rw [Array.getElem?_append_left (by simp)] at hu; simpa using hu
     cases hz; subst hu'; exact h1
    | succ i =>
     rw [List.getElem?_cons_succ] at hz
     rw [Array.getElem?_append_right (by simp)] at hu
     exact hxs'.2 i z u hz (by simpa using hu)
   ·have hm:=fun n=>Yvc (Yok hf) (v:=v') n w
    have h0:(#[Value.iface t v']++c.args.map a.eval)[0]? = some (Value.iface t v'):=by rw [Array.getElem?_append_left (by simp)]; rfl
    have hex:(#[Value.iface t v']++c.args.map a.eval).extract 1 (#[Value.iface t v']++c.args.map a.eval).size=c.args.map a.eval:=by
     apply Array.ext'
     simp [List.take_of_length_le]
    have hd:∀ k:Nat,k+Made.depth=(k+(Made.depth - 1))+1:=fun k=>rfl
    simp only [execOp,ho,resolve,hc,Sem.run_bind,hv,Sem.run_pure,Result.andThen_ok,invoke,callMethod,h0,hex]
    show ((Sem.run P (method (P.types.size+Made.depth) t v' name) w).andThen fun p w'=>Sem.run P (callFunc p.1 (#[p.2]++c.args.map a.eval)) w')=_
    rw [hd,hm]
    exact Zqt hcall
  ·exact hr.elim
 ·exact hr.elim
theorem Ye1:∀ (bs:List UInt8) (s:ByteArray),(bs.map fun b:UInt8=>(b.toNat:Int)).foldl (fun r n=>r.push (UInt8.ofNat n.toNat)) s=⟨(s.data.toList++bs).toArray⟩
 | [],s=>by simp
 | b::r,s=>by
  simp only [List.map_cons,List.foldl_cons,Int.toNat_natCast,UInt8.ofNat_toNat]
  rw [Ye1 r]
  congr 2
  simp [ByteArray.push]
theorem Y5q {o:Oper}{s t el:TypeId}{x:Operand}{y:Ox}(ho:o.op = .convert s t x) (hs:P.underlying s=some (.slice el)) (he:P.underlying el=some (.int .u8)) (ht:P.underlying t=some .string) (hx:cOx x=some y):Does P o (.b2s y):=by
 intro X B w0 w ρ H e a d v H' next Q hC hE hr hn
 simp only [R] at hr
 obtain ⟨hH,cs,hc,bs,rfl,rfl⟩:=hr
 obtain ⟨A,c,us,hv,hul,h1,hrep,hcell⟩:=Yih (m:=bs.length) hC.heap (by omega) hc (by simp) (Za4 hE hx)
 have hus:us=bs.map fun b:UInt8=>Value.int .u8 b.toNat:=by
  apply List.ext_getElem?
  intro j
  rcases Nat.lt_or_ge j us.length with hj | hj
  ·have hjb:j<bs.length:=by omega
   have h2:=hrep j _ us[j] (by rw [List.getElem?_map,List.getElem?_eq_getElem hjb]; rfl) (List.getElem?_eq_getElem hj)
   rw [List.getElem?_eq_getElem hj,List.getElem?_map,List.getElem?_eq_getElem hjb,Zc0 h2]
   rfl
  ·rw [List.getElem?_eq_none hj,List.getElem?_eq_none (by simp; omega)]
 refine Zag hC hn hH (.str _) ?_
 simp only [execOp,ho,hv,Sem.run_bind,run_convert_bytes_string w s t el A _ c hs he ht]
 have fin:(Conv.bytesToString (.slice A bs.length c)).run P w = .ok (.string ⟨bs.toArray⟩) w:=by
  have hb0:us = []→bs = []:=fun h=>List.length_eq_zero_iff.1 (by rw [h] at hul; simpa using hul.symm)
  rcases hcell with ⟨h0,h0'⟩ | ⟨blk,off,rfl,hcell⟩
  ·have:=hb0 h0'
   subst this
   cases A with
   | none=>rfl
   | some a =>
    have hl:=run_loadCells_list (P:=P) w a [] (by simp)
    exact run_bytesToString (P:=P) w a 0 c [] hl
  ·have hl:=run_loadCells_list (P:=P) w ⟨blk,off,none⟩ us (fun j u hu=>by rw [add_plain]; exact hcell j u hu)
   rw [hus] at hl
   have h2:=run_bytesToString (P:=P) w ⟨blk,off,none⟩ bs.length c (bs.map fun b:UInt8=>(b.toNat:Int)) (by simpa [List.map_map,Function.comp_def] using hl)
   rw [h2,Ye1]
   simp
 simp only [fin,Result.andThen_ok,Sem.run_pure]
theorem Y2x {o:Oper}{c:Call}{t el:TypeId}{n:Nat}{yd yx:Ox}(ho:o.op = .call c) (hb:c.callee = .builtin .copy) (ht:c.argTypes[0]? = some t) (hx:cOxs c.args.toList=some [yd,yx])
  (hu:P.underlying t=some (.slice el)) (hs:sizeOf? P el=some n) (h0:0<n):Does P o (.cpy n yd yx):=by
 intro X B w0 w ρ H e a d v H' next Q hC hE hr hn
 simp only [R] at hr
 obtain ⟨cs,m,hc,hcl,hr⟩:=hr
 obtain ⟨us1,us2,harg,r1,r2⟩:=Ysj hE hx
 obtain ⟨ti,hti,rfl⟩:=sizeOf?_spec hs
 obtain ⟨A',c',us,rfl,hul,h1,hrep,hcell⟩:=Yih hC.heap h0 hc hcl r2
 have hf:∀ k,k≤m→(Builtin.firstCells ti.size k (.slice A' m c')).run P w = .ok (us.take (k*ti.size)).toArray w:=fun k hk=>by
  have hle:k*ti.size≤m*ti.size:=Nat.mul_le_mul_right _ hk
  have hl:(us.take (k*ti.size)).length=k*ti.size:=by rw [List.length_take]; omega
  have hc2:(k=0∧us.take (k*ti.size) = [])∨∃ blk off,A'=some ⟨blk,off,none⟩∧∀ (j:Nat) (u:Value),(us.take (k*ti.size))[j]? = some u→w.cell? ⟨blk,off+j,none⟩=some u:=by
   rcases hcell with ⟨h2,h3⟩ | ⟨blk,off,h2,h3⟩
   ·exact .inl ⟨by omega,by simp [h3]⟩
   ·exact .inr ⟨blk,off,h2,fun j u hu=>h3 j u (by rw [List.getElem?_take] at hu; split at hu <;> simp_all)⟩
  have:=Zm1 (P:=P) (w:=w) (w':=w) (A:=A') (c:=c') hl hc2 (fun _=>rfl)
  rw [← this]
  cases A' <;> rfl
 have run:∀ {A:Option Addr} {dl dc:Nat} {w':World},us1 = .slice A dl dc→(match A with | some b=>(storeCells b (us.take (min m dl*ti.size))).run P w = .ok () w' | none=>w'=w) →
   (execOp a.eval o).run P w = .ok (.value (goInt (min m dl:Nat))) w':=fun {A dl dc w'} hv hst=>by
  subst hv
  simp only [execOp,ho,resolve,hb,harg,invoke,builtin,Builtin.copy_,Sem.run_bind,Sem.run_pure,Result.andThen_ok,ht]
  simp only [List.getElem?_toArray,List.getElem?_cons_zero,List.getElem?_cons_succ,Sem.run_bind,run_underlying hu,Builtin.lenOf,Sem.run_pure,Result.andThen_ok,Zdd hti]
  have hm:Nat.min m dl=min m dl:=rfl
  rw [hm,hf _ (Nat.min_le_left _ _)]
  simp only [Result.andThen_ok]
  cases A with
  | none =>
   subst hst
   simp only [Sem.run_pure,Result.andThen_ok]
  | some b =>
   simp only at hst
   simp only [Sem.run_bind,hst,Sem.run_pure,Result.andThen_ok]
 split at hr
 ·rename_i ek b off len e1
  rw [e1] at r1
  obtain ⟨heke,_,l,hl,hfit,rfl,rfl⟩:=hr
  have hmm:min m len*ti.size≤m*ti.size:=Nat.mul_le_mul_right _ (Nat.min_le_left _ _)
  have hml:min m len*ti.size≤len*ti.size:=Nat.mul_le_mul_right _ (Nat.min_le_right _ _)
  have hxl:(cs.take (min m len*ti.size)).length=min m len*ti.size:=by rw [List.length_take]; omega
  have hus:(us.take (min m len*ti.size)).length=min m len*ti.size:=by rw [List.length_take]; omega
  rcases Zqu r1 with ⟨A,hl0,hv⟩ | ⟨cap,blk,o',hv,hp,hcap,_⟩
  ·subst hl0
   have e0:min m 0=0:=Nat.min_zero m
   have hH:H.set b (.cells (fillA l [(off,.agg (cs.take (min m 0*ti.size)))]))=H:=by
    rw [e0,Yp4]
    simp only [Nat.zero_mul,List.take_zero,AV.cells,List.append_nil,List.length_nil,Nat.add_zero,List.take_append_drop]
    apply List.ext_getElem?
    intro j
    by_cases hj:b=j
    ·subst hj
     rw [List.getElem?_set_self (List.getElem?_eq_some_iff.1 hl).1,hl]
    ·rw [List.getElem?_set_ne hj]
   refine Zag hC hn hH (.int _ _) (run hv ?_)
   cases A with
   | none=>rfl
   | some a=>rw [e0,Nat.zero_mul]; rfl
  ·rcases hC.heap.cells b l hl with ⟨_,hno⟩ | ⟨bk,o2,row,er,g1,g2,g3,hrow,g4⟩
   ·rw [hno] at hp; cases hp
   ·rw [g1] at hp
    simp only [Option.some.injEq,Prod.mk.injEq] at hp
    obtain ⟨rfl,rfl⟩:=hp
    obtain ⟨k1,k2⟩:=Ykh (v := .int .i64 (min m len:Nat)) (v':=goInt (min m len:Nat)) (off:=off) (xs:=cs.take (min m len*ti.size)) (us:=us.take (min m len*ti.size)) hC hl g1 g2 g3 hrow g4 (by omega) (by omega)
     (fun u hu=>h1 u (List.mem_of_mem_take hu)) (fun j y u hy hu=>by
      rw [List.getElem?_take] at hy hu
      split at hy
      ·rename_i hj
       rw [if_pos hj] at hu
       exact hrep j y u hy hu
      ·cases hy) (fun _ _ _ => .int _ _)
    have hst:=run_storeCells_at P bk (o2+off) er (us.take (min m len*ti.size)) 0 row w g3 (by omega) (fun u hu=>h1 u (List.mem_of_mem_take hu))
    rw [Nat.add_zero] at hst
    exact Zv5 (run hv hst) (hn _ _ ρ (by rw [Yp4]; exact k2))
 ·rename_i e1
  rw [e1] at r1
  obtain ⟨hH,rfl⟩:=hr
  obtain ⟨A,hv⟩:=Zhe r1
  have e0:min m 0=0:=Nat.min_zero m
  have:=run (w':=w) hv (by
   cases A with
   | none=>rfl
   | some a=>rw [e0,Nat.zero_mul]; rfl)
  rw [e0] at this
  exact Zag hC hn hH (.int _ _) this
 ·exact hr.elim
end GoAbs
