/- Lemmas for the claim (contracts of the functions that it reaches, and what they compute), without conditions. -/
import Derived.Test.YtiapneoakbealaaGreatK02
set_option linter.unusedVariables false
set_option linter.unusedSimpArgs false
set_option maxRecDepth 10000
set_option maxHeartbeats 2000000
namespace GoAbs
open Go Go.RowKit
def COp.reads:COp→List Ox
 | .mv x | .un _ x | .cvi _ x | .cvs x | .box x | .nilck x | .fa _ x | .fld _ _ x | .ext _ x | .len x | .slen x | .ld _ x | .b2s x | .mki _ x | .ta _ _ _ x => [x]
 | .pick c a b => [c,a,b]
 | .bin _ x y | .beq _ x y | .st _ x y | .mks _ _ _ x y | .idx _ x y | .idxa _ _ x y | .sidx x y | .app _ _ x y | .mn x y | .mx x y | .cpy _ x y => [x,y]
 | .alloc _ | .bad => []
 | .build _ ps=>ps.map (·.2.2)
 | .bsl _ _ _ ps=>ps.map (·.2)
 | .slc _ x lo hi | .sslc x lo hi=>x::(lo.toList++hi.toList)
 | .call _ xs=>xs
 | .xt _ xs=>xs
 | .callw _ xs=>xs
 | .calle _ xs=>xs
 | .callv x xs=>x::xs
 | .callu x xs=>x::xs
 | .inv _ x xs=>x::xs
 | .mkf _ a b=>a++b
def COp.cls:COp→Nat
 | .alloc _ | .box _ | .bsl .. | .mks .. | .ld .. | .call .. | .callv .. | .inv .. | .b2s _=>1
 | .st .. | .app .. | .cpy .. => 2
 | .callw .. => 3
 | .calle .. => 4
 | .callu .. => 5
 | _=>0
def COp.makes:COp→Bool
 | .alloc _ | .box _ | .bsl .. | .mks .. | .app .. => true
 | _=>false
def Ox.slot:Ox→Option Nat
 | .t n=>some n
 | .c _=>none
def IOp.looks (a:IOp):List Nat:=a.op.reads.filterMap Ox.slot++(a.guard.map (·.1)).toList
def IOp.apart (a b:IOp):Bool :=
 (match a.dst with
   | some d => !b.looks.contains d && b.dst != some d
   | none=>true) &&
 (match b.dst with
   | some d => !a.looks.contains d
   | none=>true)
def IOp.away (a b:IOp):Bool:=(a.op.cls != 2 || (b.nw.contains a.id && b.op.cls != 2)) && (!a.op.makes || !b.oks.contains a.id)
def IOp.below (a:IOp) (n:Nat):Bool:=(!a.op.makes || decide (a.id<n)) && a.oks.all (fun k=>decide (k<n))
def IOp.comm (a b:IOp):Bool :=
 a.apart b && (a.op.cls == 0 || b.op.cls == 0 || (decide (a.op.cls<3) && decide (b.op.cls<3) && a.away b && b.away a && (!a.op.makes || !b.op.makes || a.id != b.id)) ||
  (b.op.cls == 4 && a.op.cls == 1 && a.below b.id) || (b.op.cls == 5 && a.op.cls == 1 && a.nw.contains b.id && (!a.op.makes || !b.oks.contains a.id)))
theorem Y4r {e e':Nat→AV}{x:Ox}(h:∀ n,x.slot=some n→e n=e' n):x.ev e=x.ev e':=by
 cases x with
 | t n=>exact h n rfl
 | c v=>rfl
theorem Z2k {e e':Ox→AV}{x:Option Ox}{d n:Nat}(h:∀ y,y∈x.toList→e y=e' y):Bnd e x d n↔Bnd e' x d n:=by
 cases x with
 | none=>rfl
 | some y=>simp only [Bnd]; rw [h y (by simp)]
theorem Yzt {P:Program}{d:Option Dm}{e e':Ox→AV}{H H':Heap}{op:COp}{v:AV}(h:∀ x,x∈op.reads→e x=e' x) :
  R P d e H op v H'→R P d e' H op v H':=by
 cases op <;> simp only [COp.reads,List.mem_cons,List.not_mem_nil,or_false,forall_eq_or_imp,forall_eq,List.mem_map,List.mem_append] at h
 case build zs ps =>
  simp only [R]
  rintro ⟨h1,h2,h3⟩
  have hm:∀ p,p∈ps→e p.2.2=e' p.2.2:=fun p hp=>h _ ⟨p,hp,rfl⟩
  refine ⟨fun p hp=>by rw [← hm p hp]; exact h1 p hp,?_,h3⟩
  rw [h2]
  congr 2
  exact List.map_congr_left fun p hp=>by rw [hm p hp]
 case bsl ek n zs ps =>
  cases n with
  | zero=>simp only [R]; exact fun h=>h
  | succ n =>
   simp only [R]
   have hm:∀ p,p∈ps→e p.2=e' p.2:=fun p hp=>h _ ⟨p,hp,rfl⟩
   have he:(ps.map fun p=>(p.1*es ek,e p.2))=ps.map fun p=>(p.1*es ek,e' p.2):=List.map_congr_left fun p hp=>by rw [hm p hp]
   rintro ⟨h1,h2⟩
   rw [he] at h2
   exact ⟨fun p hp=>by rw [← hm p hp]; exact h1 p hp,h2⟩
 case slc n x lo hi =>
  simp only [R]
  have hl:∀ d m,Bnd e lo d m↔Bnd e' lo d m:=fun d m=>Z2k fun y hy=>h.2 y (.inl hy)
  have hh:∀ d m,Bnd e hi d m↔Bnd e' hi d m:=fun d m=>Z2k fun y hy=>h.2 y (.inr hy)
  simp only [h.1,hl,hh]
  exact fun h=>h
 case sslc x lo hi =>
  simp only [R]
  have hl:∀ d m,Bnd e lo d m↔Bnd e' lo d m:=fun d m=>Z2k fun y hy=>h.2 y (.inl hy)
  have hh:∀ d m,Bnd e hi d m↔Bnd e' hi d m:=fun d m=>Z2k fun y hy=>h.2 y (.inr hy)
  simp only [h.1,hl,hh]
  exact fun h=>h
 case call f xs =>
  simp only [R]
  rw [List.map_congr_left (f:=e) (g:=e') h]
  exact fun h=>h
 case xt f xs =>
  simp only [R]
  rw [List.map_congr_left (f:=e) (g:=e') h]
  rintro ⟨⟨h1,h2⟩,h3⟩
  exact ⟨⟨fun x hx=>by rw [← h x hx]; exact h1 x hx,h2⟩,h3⟩
 case callw f xs =>
  simp only [R]
  rw [List.map_congr_left (f:=e) (g:=e') h]
  exact fun h=>h
 case calle f xs =>
  simp only [R]
  rw [List.map_congr_left (f:=e) (g:=e') h]
  exact fun h=>h
 case callv x xs =>
  simp only [R]
  rw [List.map_congr_left (f:=e) (g:=e') h.2,h.1]
  exact fun h=>h
 case callu x xs =>
  simp only [R]
  rw [List.map_congr_left (f:=e) (g:=e') h.2,h.1]
  exact fun h=>h
 case inv tbl x xs =>
  simp only [R]
  rw [List.map_congr_left (f:=e) (g:=e') h.2,h.1]
  exact fun h=>h
 case mkf f a b =>
  simp only [R]
  rw [List.map_congr_left (l:=a) (f:=e) (g:=e') (fun x hx=>h x (.inl hx)),List.map_congr_left (l:=b) (f:=e) (g:=e') (fun x hx=>h x (.inr hx))]
  exact fun h=>h
 all_goals (simp only [R]; first | (simp only [h]; exact fun h=>h) | exact fun h=>h)
theorem Y0y {P:Program}{d:Option Dm}{e:Ox→AV}{H H':Heap}{op:COp}{v:AV}(hc:op.cls=0) (h:R P d e H op v H') :
  H'=H∧∀ H2,R P d e H2 op v H2:=by
 cases op <;> simp [COp.cls] at hc <;> simp only [R] at h ⊢
 case build=>exact ⟨h.2.2,fun _=>⟨h.1,h.2.1,trivial⟩⟩
 all_goals exact ⟨h.2,fun _=>⟨h.1,trivial⟩⟩
theorem Y0p {M:List (Nat×Blk)}{b:Nat}:∀ {H:Heap},(∀ p,p∈M→p.1≠b)→(ap M H)[b]? = H[b]?:=by
 induction M with
 | nil=>intro H _; rfl
 | cons p M ih =>
  intro H h
  show (ap M (H.set p.1 p.2))[b]? = _
  rw [ih (fun q hq=>h q (List.mem_cons_of_mem _ hq)),List.getElem?_set_ne (h p (by simp))]
theorem Xez {M:List (Nat×Blk)}{q:Nat×Blk}:∀ {H:Heap},(∀ p,p∈M→p.1≠q.1)→ap M (H.set q.1 q.2)=(ap M H).set q.1 q.2:=by
 induction M with
 | nil=>intro H _; rfl
 | cons p M ih =>
  intro H h
  show ap M ((H.set q.1 q.2).set p.1 p.2)=(ap M (H.set p.1 p.2)).set q.1 q.2
  rw [List.set_comm _ _ (fun hh=>h p (by simp) hh.symm),ih (fun q hq=>h q (List.mem_cons_of_mem _ hq))]
theorem Yws {M N:List (Nat×Blk)}:∀ {H:Heap},(∀ p,p∈M→∀ q,q∈N→p.1≠q.1)→ap M (ap N H)=ap N (ap M H):=by
 induction N with
 | nil=>intro H _; rfl
 | cons q N ih =>
  intro H h
  show ap M (ap N (H.set q.1 q.2))=ap N ((ap M H).set q.1 q.2)
  rw [ih (fun p hp r hr=>h p hp r (List.mem_cons_of_mem _ hr)),Xez (fun p hp=>h p hp q (by simp))]
def Rset (D:Dm) (op:COp) (b:Nat):Prop:=(OkI D b∧(op.cls=2∨NoW D.W b D.nw))∨(op.makes=true∧b=D.base+D.id)
def Wset (D:Dm) (op:COp) (b:Nat):Prop:=(op.cls=2∧OkI D b∧D.W D.id b)∨(op.makes=true∧b=D.base+D.id)
theorem Zt6 {q:Nat→Prop}{n:Nat}{H H2:Heap}{x:AV}{cs:List AV}(hs:∀ b,q b→H2[b]? = H[b]?) (h:Cont q n H x cs):Cont q n H2 x cs:=by
 cases x <;> simp only [Cont] at h ⊢ <;> try exact h
 obtain ⟨h1,h2⟩:=h
 refine ⟨h1,h2.imp id ?_⟩
 rintro ⟨hq,l,hl,h3⟩
 exact ⟨hq,l,by rw [hs _ hq]; exact hl,h3⟩
theorem Y8q {H H2:Heap}{ids:List Nat}{x y:AV}(hs:∀ b,b∈ids→H2[b]? = H[b]?) (h:BV H ids x y):BV H2 ids x y:=by
 induction h with
 | int k n=>exact .int k n
 | bool b=>exact .bool b
 | str s=>exact .str s
 | any=>exact .any
 | agg cs ds hl h ih=>exact .agg cs ds hl ih
 | tup cs ds hl h ih=>exact .tup cs ds hl ih
 | nils=>exact .nils
 | nilsl=>exact .nilsl
 | sl l=>exact .sl l
 | rp cs=>exact .rp cs
 | nilp=>exact .nilp
 | osl ek b off len l r hb hi hr hz hlen h ih=>exact .osl ek b off len l r (by rw [hs b hi]; exact hb) hi hr hz hlen ih
 | osl0 ek b off=>exact .osl0 ek b off
 | ptr b off l r hb hi hl h ih=>exact .ptr b off l r (by rw [hs b hi]; exact hb) hi hl ih
 | fn f first cap first' cap' hl hl' h h' ih ih'=>exact .fn f first cap first' cap' hl hl' ih ih'
 | ifc t x y h ih=>exact .ifc t x y ih
 | nilif=>exact .nilif
theorem Yij {H H2:Heap}{ids:List Nat}{xs ys:List AV}(hs:∀ b,b∈ids→H2[b]? = H[b]?) (h:BVs H ids xs ys):BVs H2 ids xs ys:=by
 induction h with
 | nil=>exact .nil
 | cons h t ih=>exact .cons (Y8q hs h) ih
theorem noM {Q:Nat×Blk→Prop}:∀ p,p∈([]:List (Nat×Blk))→Q p:=fun _ hp=>(List.not_mem_nil hp).elim
theorem Yio {P:Program}{D:Dm}{e:Ox→AV}{H H':Heap}{op:COp}{v:AV}(h3:op.cls<3) (h:R P (some D) e H op v H') :
  ∃ M:List (Nat×Blk),H'=ap M H∧(∀ p,p∈M→Wset D op p.1)∧∀ H2:Heap,(∀ b,Rset D op b→H2[b]? = H[b]?)→R P (some D) e H2 op v (ap M H2):=by
 by_cases hc:op.cls=0
 ·obtain ⟨h1,h2⟩:=Y0y hc h
  exact ⟨[],h1,noM,fun H2 _=>h2 H2⟩
 have okb:∀ {op:COp} {b},OkB (some D) b→Rset D op b:=fun h => .inl ⟨h.1,.inr h.2⟩
 have okw:∀ {op:COp} {b},op.cls=2→OkW (some D) b→Rset D op b:=fun hc h => .inl ⟨h.1,.inl hc⟩
 cases op <;> simp [COp.cls] at hc h3
 case alloc zs =>
  simp only [R,NewB] at h
  obtain ⟨i,⟨rfl,h1,h2⟩,h3⟩:=h
  refine ⟨[(D.base+D.id,.cells zs)],h2,fun p hp=>?_,fun H2 hs=>?_⟩
  ·simp at hp; subst hp; exact .inr ⟨rfl,rfl⟩
  ·exact ⟨_,⟨rfl,(hs _ (.inr ⟨rfl,rfl⟩)).trans h1,rfl⟩,h3⟩
 case box x =>
  simp only [R,NewB] at h
  obtain ⟨h0,i,⟨rfl,h1,h2⟩,h3⟩:=h
  refine ⟨[(D.base+D.id,_)],h2,fun p hp=>?_,fun H2 hs=>?_⟩
  ·simp at hp; subst hp; exact .inr ⟨rfl,rfl⟩
  ·exact ⟨h0,_,⟨rfl,(hs _ (.inr ⟨rfl,rfl⟩)).trans h1,rfl⟩,h3⟩
 case bsl ek n zs ps =>
  cases n with
  | zero =>
   simp only [R] at h
   exact ⟨[],h.2,noM,fun H2 _=>⟨h.1,rfl⟩⟩
  | succ n =>
   simp only [R,NewB] at h
   obtain ⟨h0,i,⟨rfl,h1,h2⟩,h3⟩:=h
   refine ⟨[(D.base+D.id,_)],h2,fun p hp=>?_,fun H2 hs=>?_⟩
   ·simp at hp; subst hp; exact .inr ⟨rfl,rfl⟩
   ·exact ⟨h0,_,⟨rfl,(hs _ (.inr ⟨rfl,rfl⟩)).trans h1,rfl⟩,h3⟩
 case mks ek bytes zs l c =>
  simp only [R,NewB] at h
  split at h
  ·rename_i hl hc'
   obtain ⟨h0,h00,h000,i,⟨rfl,h1,h2⟩,h3⟩:=h
   refine ⟨[(D.base+D.id,_)],h2,fun p hp=>?_,fun H2 hs=>?_⟩
   ·simp at hp; subst hp; exact .inr ⟨rfl,rfl⟩
   ·simp only [R,NewB,hl,hc']
    exact ⟨h0,h00,h000,_,⟨rfl,(hs _ (.inr ⟨rfl,rfl⟩)).trans h1,rfl⟩,h3⟩
  ·exact h.elim
 case ld ag a =>
  simp only [R] at h
  refine ⟨[],h.2,noM,fun H2 hs=>?_⟩
  have h1:=h.1
  split at h1
  ·rename_i b off ha
   obtain ⟨hb,l,hl,hv⟩:=h1
   simp only [R,ha]
   exact ⟨⟨hb,l,(hs _ (okb hb)).trans hl,hv⟩,rfl⟩
  ·rename_i cs ha
   simp only [R,ha]
   exact ⟨h1,rfl⟩
  ·exact h1.elim
 case st n a x =>
  simp only [R] at h
  split at h
  ·rename_i b off ha
   obtain ⟨hb,h1,h2,l,hl,h3,h4,h5⟩:=h
   refine ⟨[(b,_)],h4,fun p hp=>?_,fun H2 hs=>?_⟩
   ·simp at hp; subst hp; exact .inl ⟨rfl,hb⟩
   ·simp only [R,ha]
    exact ⟨hb,h1,h2,l,(hs _ (okw rfl hb)).trans hl,h3,rfl,h5⟩
  ·exact h.elim
 case call f xs =>
  simp only [R] at h
  obtain ⟨h1,ys,ids,h2,h3,h4⟩:=h
  exact ⟨[],h1,noM,fun H2 hs=>⟨rfl,ys,ids,Yij (fun b hb=>hs b (okb (h3 b hb))) h2,h3,h4⟩⟩
 case callv x xs =>
  simp only [R] at h
  split at h
  ·rename_i f first cap hx
   obtain ⟨h1,ys,ids,h2,h3,h4⟩:=h
   refine ⟨[],h1,noM,fun H2 hs=>?_⟩
   simp only [R,hx]
   exact ⟨rfl,ys,ids,Yij (fun b hb=>hs b (okb (h3 b hb))) h2,h3,h4⟩
  ·exact h.elim
 case inv tbl x xs =>
  simp only [R] at h
  split at h
  ·rename_i u y hx
   split at h
   ·rename_i f hf
    obtain ⟨h1,ys,ids,h2,h3,h4⟩:=h
    refine ⟨[],h1,noM,fun H2 hs=>?_⟩
    simp only [R,hx,hf]
    exact ⟨rfl,ys,ids,Yij (fun b hb=>hs b (okb (h3 b hb))) h2,h3,h4⟩
   ·exact h.elim
  ·exact h.elim
 case app ek bytes s x =>
  simp only [R] at h
  obtain ⟨cs,m,h1,h2,h3⟩:=h
  split at h3
  ·rename_i hs'
   obtain ⟨h4,i,⟨rfl,h5,h6⟩,h7⟩:=h3
   refine ⟨[(D.base+D.id,_)],h6,fun p hp=>?_,fun H2 hs=>?_⟩
   ·simp at hp; subst hp; exact .inr ⟨rfl,rfl⟩
   ·refine ⟨cs,m,Zt6 (fun b hb=>hs b (okb hb)) h1,h2,?_⟩
    simp only [hs']
    exact ⟨h4,_,⟨rfl,(hs _ (.inr ⟨rfl,rfl⟩)).trans h5,rfl⟩,h7⟩
  ·rename_i ek' b off len hs'
   obtain ⟨g1,g2,g3,l,g4,g5,i,⟨rfl,g6,g7⟩,g8⟩:=h3
   refine ⟨[(b,.dead),(D.base+D.id,_)],g7,fun p hp=>?_,fun H2 hs=>?_⟩
   ·simp at hp
    rcases hp with rfl | rfl
    ·exact .inl ⟨rfl,g3⟩
    ·exact .inr ⟨rfl,rfl⟩
   ·refine ⟨cs,m,Zt6 (fun b hb=>hs b (okb hb)) h1,h2,?_⟩
    simp only [hs']
    refine ⟨g1,g2,g3,l,(hs _ (okw rfl g3)).trans g4,g5,_,⟨rfl,?_,rfl⟩,g8⟩
    have hlen:H2[b]? = H[b]? := hs _ (okw rfl g3)
    have hi:H2[D.base+D.id]? = H[D.base+D.id]? := hs _ (.inr ⟨rfl,rfl⟩)
    by_cases hb:b=D.base+D.id
    ·subst hb
     rw [List.getElem?_set] at g6 ⊢
     simp only [if_true] at g6 ⊢
     split at g6 <;> cases g6
    ·rw [List.getElem?_set_ne hb] at g6 ⊢
     rw [hi]; exact g6
  ·exact h3.elim
 case b2s x =>
  simp only [R] at h
  obtain ⟨h1,cs,h2,h3⟩:=h
  exact ⟨[],h1,noM,fun H2 hs=>⟨rfl,cs,Zt6 (fun b hb=>hs b (okb hb)) h2,h3⟩⟩
 case cpy n y x =>
  simp only [R] at h
  obtain ⟨cs,m,h1,h2,h3⟩:=h
  split at h3
  ·rename_i ek b off len hy
   obtain ⟨g1,g2,l,g3,g4,g5,g6⟩:=h3
   refine ⟨[(b,_)],g5,fun p hp=>?_,fun H2 hs=>?_⟩
   ·simp at hp; subst hp; exact .inl ⟨rfl,g2⟩
   ·refine ⟨cs,m,Zt6 (fun b hb=>hs b (okb hb)) h1,h2,?_⟩
    simp only [hy]
    exact ⟨g1,g2,l,(hs _ (okw rfl g2)).trans g3,g4,rfl,g6⟩
  ·rename_i hy
   refine ⟨[],h3.1,noM,fun H2 hs=>?_⟩
   refine ⟨cs,m,Zt6 (fun b hb=>hs b (okb hb)) h1,h2,?_⟩
   simp only [hy]
   exact ⟨rfl,h3.2⟩
  ·exact h3.elim
theorem Yat {a b:IOp}{base:Nat}{W:Nat→Nat→Prop}(h:a.away b=true) (h':b.away a=true) (hm:(!a.op.makes || !b.op.makes || a.id != b.id)=true) {x:Nat}
  (hw:Wset ⟨base,W,a.id,a.oks,a.nw⟩ a.op x):¬ Rset ⟨base,W,b.id,b.oks,b.nw⟩ b.op x:=by
 simp only [IOp.away,Bool.and_eq_true,Bool.or_eq_true,bne_iff_ne,Bool.not_eq_true',List.contains_eq_mem,decide_eq_false_iff_not] at h h'
 simp only [Bool.or_eq_true,Bool.not_eq_true',bne_iff_ne] at hm
 rintro (⟨ho,hn⟩ | ⟨hmb,hx⟩)
 ·rcases hw with ⟨hc,_,hW⟩ | ⟨hma,hx⟩
  ·obtain ⟨hnw,hcb⟩:=h.1.resolve_left (fun hh=>hh hc)
   exact hn.elim hcb (fun hh=>Ypq hh (by simpa using hnw) hW)
  ·rcases ho with ho | ⟨k,hk,ho⟩
   ·simp only at ho hx; omega
   ·simp only at ho hx hk
    have:k=a.id:=by omega
    subst this
    exact (h.2.resolve_left (by rw [hma]; simp)) hk
 ·rcases hw with ⟨_,ho,_⟩ | ⟨hma,hx'⟩
  ·rcases ho with ho | ⟨k,hk,ho⟩
   ·simp only at ho hx; omega
   ·simp only at ho hx hk
    have:k=b.id:=by omega
    subst this
    exact (h'.2.resolve_left (by rw [hmb]; simp)) hk
  ·simp only at hx hx'
   rcases hm with (h1 | h1) | h1
   ·rw [hma] at h1; cases h1
   ·rw [hmb] at h1; cases h1
   ·omega
theorem Yh7 {D:Dm}{op:COp}{x:Nat}(h:Wset D op x):Rset D op x:=by
 rcases h with ⟨h1,h2,_⟩ | h
 ·exact .inl ⟨h2,.inl h1⟩
 ·exact .inr h
theorem Y6o {M:List (Nat×Blk)}:∀ {G K:Heap},(∀ p,p∈M→p.1<G.length)→ap M (G++K)=ap M G++K∧(ap M G).length=G.length:=by
 induction M with
 | nil=>intro G K _; exact ⟨rfl,rfl⟩
 | cons q M ih =>
  intro G K h
  have h1:q.1<G.length:=h q (by simp)
  have:=ih (G:=G.set q.1 q.2) (K:=K) (fun p hp=>by rw [List.length_set]; exact h p (by simp [hp]))
  have e:(G++K).set q.1 q.2=G.set q.1 q.2++K:=List.set_append_left _ _ h1
  refine ⟨?_,?_⟩
  ·show ap M ((G++K).set q.1 q.2)=ap M (G.set q.1 q.2)++K
   rw [e]; exact this.1
  ·show (ap M (G.set q.1 q.2)).length=_
   rw [this.2,List.length_set]
theorem Y6x {M:List (Nat×Blk)}:∀ {G:Heap},(ap M G).length=G.length:=by
 induction M with
 | nil=>intro G; rfl
 | cons q M ih=>intro G; show (ap M (G.set q.1 q.2)).length=_; rw [ih,List.length_set]
theorem Yf8 {a:IOp}{n base:Nat}{W:Nat→Nat→Prop}(h:a.below n=true) {x:Nat}(hx:Rset ⟨base,W,a.id,a.oks,a.nw⟩ a.op x):x<base+n:=by
 simp only [IOp.below,Bool.and_eq_true,Bool.or_eq_true,Bool.not_eq_true',decide_eq_true_eq,List.all_eq_true] at h
 rcases hx with ⟨ho,_⟩ | ⟨hm,hx⟩
 ·rcases ho with ho | ⟨k,hk,ho⟩
  ·simp only at ho; omega
  ·have:=h.2 k hk
   simp only at ho; omega
 ·have:=h.1.resolve_left (by rw [hm]; simp)
  simp only at hx; omega
theorem Xev {P:Program}{D:Dm}{e:Ox→AV}{H H':Heap}{op:COp}{v:AV}(h1:op.cls=1) (h:R P (some D) e H op v H') :
  H'=H∨(H[D.base+D.id]? = some .unborn∧∀ x,x≠D.base+D.id→H'[x]? = H[x]?):=by
 have new:∀ {bl:Blk} {i:Nat},NewB (some D) H bl i H'→H[D.base+D.id]? = some .unborn∧∀ x,x≠D.base+D.id→H'[x]? = H[x]?:=fun {bl i} hn=>by
  obtain ⟨rfl,g1,rfl⟩:=hn
  exact ⟨g1,fun x hx=>List.getElem?_set_ne (fun h=>hx h.symm)⟩
 cases op <;> simp [COp.cls] at h1
 case alloc zs =>
  simp only [R] at h
  obtain ⟨i,g,_⟩:=h
  exact .inr (new g)
 case box x =>
  simp only [R] at h
  obtain ⟨_,i,g,_⟩:=h
  exact .inr (new g)
 case bsl ek n zs ps =>
  cases n with
  | zero=>simp only [R] at h; exact .inl h.2
  | succ n =>
   simp only [R] at h
   obtain ⟨_,i,g,_⟩:=h
   exact .inr (new g)
 case mks ek bytes zs l c =>
  simp only [R] at h
  split at h
  ·obtain ⟨_,_,_,i,g,_⟩:=h
   exact .inr (new g)
  ·exact h.elim
 case ld ag x=>simp only [R] at h; exact .inl h.2
 case call f xs=>simp only [R] at h; exact .inl h.1
 case callv x xs =>
  simp only [R] at h
  split at h
  ·exact .inl h.1
  ·exact h.elim
 case inv tbl x xs =>
  simp only [R] at h
  split at h
  ·split at h
   ·exact .inl h.1
   ·exact h.elim
  ·exact h.elim
 case b2s x=>simp only [R] at h; exact .inl h.1
theorem Xc7 {P:Program}{base:Nat}{W:Nat→Nat→Prop}{e:Ox→AV}{H H1 H2:Heap}{a b:IOp}{va vb:AV}
  (hc:(a.op.cls == 0 || b.op.cls == 0 || (decide (a.op.cls<3) && decide (b.op.cls<3) && a.away b && b.away a && (!a.op.makes || !b.op.makes || a.id != b.id)) ||
   (b.op.cls == 4 && a.op.cls == 1 && a.below b.id) || (b.op.cls == 5 && a.op.cls == 1 && a.nw.contains b.id && (!a.op.makes || !b.oks.contains a.id)))=true)
  (ha:R P (a.dm (some (base,W))) e H a.op va H1) (hb:R P (b.dm (some (base,W))) e H1 b.op vb H2) :
  ∃ H1',R P (b.dm (some (base,W))) e H b.op vb H1'∧R P (a.dm (some (base,W))) e H1' a.op va H2:=by
 have isE:∀ {op:COp},op.cls=4→∃ f xs,op = .calle f xs:=fun {op} h=>by
  cases op <;> simp [COp.cls] at h
  exact ⟨_,_,rfl⟩
 have isU:∀ {op:COp},op.cls=5→∃ x xs,op = .callu x xs:=fun {op} h=>by
  cases op <;> simp [COp.cls] at h
  exact ⟨_,_,rfl⟩
 simp only [Bool.or_eq_true,Bool.and_eq_true,beq_iff_eq,bne_iff_ne,decide_eq_true_eq] at hc
 rcases hc with (((hc | hc) | ⟨⟨⟨⟨ha3,hb3⟩,hab⟩,hba⟩,hm⟩) | ⟨⟨hb4,ha1⟩,hbl⟩) | ⟨⟨⟨hb5,ha1⟩,hnw⟩,hmk⟩
 ·obtain ⟨rfl,h⟩:=Y0y hc ha
  exact ⟨H2,hb,h H2⟩
 ·obtain ⟨rfl,h⟩:=Y0y hc hb
  exact ⟨H,h H,ha⟩
 ·have hm1:(!a.op.makes || !b.op.makes || a.id != b.id)=true:=by simp only [Bool.or_eq_true,bne_iff_ne]; exact hm
  have hm2:(!b.op.makes || !a.op.makes || b.id != a.id)=true:=by
   simp only [Bool.or_eq_true,Bool.not_eq_true',bne_iff_ne] at hm1 ⊢
   rcases hm1 with (h1 | h1) | h1
   ·exact .inl (.inr h1)
   ·exact .inl (.inl h1)
   ·exact .inr (fun h=>h1 h.symm)
  obtain ⟨M,rfl,wa,ra⟩:=Yio ha3 ha
  obtain ⟨N,rfl,wb,rb⟩:=Yio hb3 hb
  have hMN:∀ p,p∈M→∀ q,q∈N→p.1≠q.1:=fun p hp q hq hpq =>
   Yat hab hba hm1 (wa p hp) (by rw [hpq]; exact Yh7 (wb q hq))
  refine ⟨ap N H,rb H (fun x hx=>?_),?_⟩
  ·exact (Y0p fun p hp hpx=>Yat hab hba hm1 (wa p hp) (by rw [hpx]; exact hx)).symm
  ·rw [← Yws hMN]
   exact ra (ap N H) (fun x hx=>Y0p fun q hq hqx=>Yat hba hab hm2 (wb q hq) (by rw [hqx]; exact hx))
 ·obtain ⟨f,xs,hf⟩:=isE hb4
  rw [hf] at hb ⊢
  have hun:=Xev ha1 ha
  obtain ⟨M,hM,wa,ra⟩:=Yio (by omega) ha
  obtain ⟨H0,K,K',hl,hH1,rfl,hs⟩:=hb
  have hl':H0.length=base+b.id:=hl
  have hlen:H.length=H0.length+K.length:=by
   have h1:H1.length=H.length:=by rw [hM,Y6x]
   rw [← h1,hH1,List.length_append]
  have hGl:(H.take H0.length).length=H0.length:=by rw [List.length_take]; omega
  have hlt:∀ p,p∈M→p.1<(H.take H0.length).length:=fun p hp=>by
   have h1:p.1<base+b.id:=Yf8 hbl (Yh7 (wa p hp))
   rw [hGl]; omega
  obtain ⟨h1,h2⟩:=Y6o (K:=H.drop H0.length) hlt
  rw [List.take_append_drop, ← hM,hH1] at h1
  have hinj:=List.append_inj h1 (by rw [h2,hGl])
  have hH:H=H.take H0.length++K:=by rw [hinj.2,List.take_append_drop]
  have hless:∀ G:Heap,LessB G (H.take H0.length)→LessB G H0:=fun G hG=>by
   refine ⟨hG.1.trans hGl,fun i=>?_⟩
   rcases hG.2 i with g | g
   ·by_cases hi:i<H0.length
    ·have e1:H0[i]? = H1[i]?:=by rw [hH1,List.getElem?_append_left hi]
     have e2:(H.take H0.length)[i]? = H[i]?:=by rw [List.getElem?_take,if_pos hi]
     rw [e1,g,e2]
     rcases hun with hun | ⟨u1,u2⟩
     ·exact .inl (by rw [hun])
     ·by_cases hx:i=(⟨base,W,a.id,a.oks,a.nw⟩:Dm).base+(⟨base,W,a.id,a.oks,a.nw⟩:Dm).id
      ·subst hx; exact .inr u1
      ·exact .inl (u2 i hx).symm
    ·left
     rw [g,List.getElem?_eq_none (by omega),List.getElem?_eq_none (by omega)]
   ·exact .inr g
  refine ⟨H.take H0.length++K',⟨H.take H0.length,K,K',hGl.trans hl,hH,rfl,fun H3 h3=>hs H3 (hless H3 h3)⟩,?_⟩
  have:=ra (H.take H0.length++K') (fun x hx=>by
   have h3:x<base+b.id:=Yf8 hbl hx
   rw [List.getElem?_append_left (by omega)]
   conv=>rhs; rw [hH]
   rw [List.getElem?_append_left (by omega)])
  rw [(Y6o (K:=K') hlt).1, ← hinj.1] at this
  exact this
 ·obtain ⟨x,xs,hf⟩:=isU hb5
  rw [hf] at hb ⊢
  have hun:=Xev ha1 ha
  obtain ⟨N,hN,wa,ra⟩:=Yio (by omega) ha
  have hlen:H1.length=H.length:=by rw [hN,Y6x]
  have hless:LessB H H1:=⟨hlen.symm,fun i=>by
   rcases hun with hun | ⟨u1,u2⟩
   ·exact .inl (by rw [hun])
   ·by_cases hx:i=(⟨base,W,a.id,a.oks,a.nw⟩:Dm).base+(⟨base,W,a.id,a.oks,a.nw⟩:Dm).id
    ·subst hx; exact .inr u1
    ·exact .inl (u2 i hx).symm⟩
  simp only [R] at hb ⊢
  split at hb
  ·rename_i f first cap hx
   obtain ⟨M,rfl,hM,hs⟩:=hb
   have far:∀ y,Rset ⟨base,W,a.id,a.oks,a.nw⟩ a.op y→OkI ⟨base,W,b.id,b.oks,b.nw⟩ y∧W b.id y→False:=fun y hr ho=>by
    rcases hr with ⟨_,h2 | h2⟩ | ⟨h1,h2⟩
    ·omega
    ·exact Ypq h2 (by simpa using hnw) ho.2
    ·have h2:y=base+a.id:=h2
     rcases ho.1 with h3 | ⟨k,h3,h4⟩
     ·have h3:y<base:=h3
      omega
     ·have h4:y=base+k:=h4
      have:k=a.id:=by omega
      subst this
      rcases hmk with h5 | h5
      ·rw [h1] at h5; simp at h5
      ·have h3:a.id∈b.oks:=h3
       simp at h5; exact h5 h3
   refine ⟨ap M H,⟨M,rfl,hM,fun H3 h3=>hs H3 (h3.trans hless)⟩,?_⟩
   have hMN:∀ p,p∈M→∀ q,q∈N→p.1≠q.1:=fun p hp q hq hpq=>far q.1 (Yh7 (wa q hq)) (by rw [← hpq]; exact hM p hp)
   rw [hN,Yws hMN]
   exact ra (ap M H) (fun y hy=>Y0p fun p hp hpy=>far y hy (by rw [← hpy]; exact hM p hp))
  ·exact hb.elim
theorem Z9v {e:Nat→AV}{d d':Option Nat}{v v':AV}(h:∀ t,d=some t→d'≠some t):upd (upd e d v) d' v'=upd (upd e d' v') d v:=by
 cases d with
 | none=>rfl
 | some t =>
  cases d' with
  | none=>rfl
  | some t' =>
   have hne:t≠t':=fun hh=>h t rfl (by rw [hh])
   funext u
   simp only [upd]
   by_cases h1:u=t <;> by_cases h2:u=t' <;> simp [h1,h2] <;> omega
theorem Y6p {e:Nat→AV}{d:Option Nat}{v:AV}{n:Nat}(h:d≠some n):upd e d v n=e n:=by
 cases d with
 | none=>rfl
 | some t=>simp only [upd]; rw [if_neg (fun hh=>h (by rw [hh]))]
theorem Yup {a b:IOp}(h:a.apart b=true) :
  (∀ d,a.dst=some d→d ∉ b.looks)∧(∀ d,a.dst=some d→b.dst≠some d)∧(∀ d,b.dst=some d→d ∉ a.looks):=by
 refine ⟨fun d hd=>?_,fun d hd=>?_,fun d hd=>?_⟩ <;> simp [IOp.apart,hd] at h
 ·exact h.1.1
 ·exact h.1.2
 ·exact h.2
theorem Y3d {P:Program}{md:Md}{e:Nat→AV}{d:Option Nat}{u v:AV}{H H':Heap}{a:IOp}(h:∀ t,d=some t→t ∉ a.looks) :
  R P (a.dm md) (Ox.ev (upd e d u)) H a.op v H'↔R P (a.dm md) (Ox.ev e) H a.op v H':=by
 have key:∀ x,x∈a.op.reads→Ox.ev (upd e d u) x=Ox.ev e x:=fun x hx=>Y4r fun n hn=>Y6p fun hd =>
  h n hd (List.mem_append_left _ (List.mem_filterMap.2 ⟨x,hx,hn⟩))
 exact ⟨Yzt key,Yzt fun x hx=>(key x hx).symm⟩
theorem Ymi {e:Nat→AV}{d:Option Nat}{u:AV}{a:IOp}{g:Nat}{wt:Bool}(hg:a.guard=some (g,wt)) (h:∀ t,d=some t→t ∉ a.looks):upd e d u g=e g :=
 Y6p fun hd=>h g hd (List.mem_append_right _ (by simp [hg]))
theorem Yv0 {P:Program}{base:Nat×(Nat→Nat→Prop)}{a b:IOp}(hc:a.comm b=true) {K:St→Prop}{st:St}(h:istep P (some base) a (istep P (some base) b K) st) :
  istep P (some base) b (istep P (some base) a K) st:=by
 simp only [IOp.comm,Bool.and_eq_true] at hc
 obtain ⟨hap,hc⟩:=hc
 obtain ⟨h1,h2,h3⟩:=Yup hap
 have h2':∀ t,b.dst=some t→a.dst≠some t:=fun t hb ha=>h2 t ha hb
 have main:∀ (va:AV) (H1:Heap) (vb:AV) (H2:Heap),R P (a.dm (some base)) (Ox.ev st.env) st.H a.op va H1→R P (b.dm (some base)) (Ox.ev (upd st.env a.dst va)) H1 b.op vb H2 →
   ∃ H1',R P (b.dm (some base)) (Ox.ev st.env) st.H b.op vb H1'∧R P (a.dm (some base)) (Ox.ev (upd st.env b.dst vb)) H1' a.op va H2:=fun va H1 vb H2 ra rb=>by
  rw [Y3d h1] at rb
  obtain ⟨H1',r1,r2⟩:=Xc7 hc ra rb
  exact ⟨H1',r1,(Y3d h3).2 r2⟩
 have skipb:∀ (va:AV) (H1:Heap),R P (a.dm (some base)) (Ox.ev st.env) st.H a.op va H1→R P (a.dm (some base)) (Ox.ev (upd st.env b.dst (.tup []))) st.H a.op va H1:=fun va H1 ra=>(Y3d h3).2 ra
 have skipa:∀ (vb:AV) (H1:Heap),R P (b.dm (some base)) (Ox.ev (upd st.env a.dst (.tup []))) st.H b.op vb H1→R P (b.dm (some base)) (Ox.ev st.env) st.H b.op vb H1:=fun vb H1 rb=>(Y3d h1).1 rb
 have gb:∀ v,b.gst (upd st.env a.dst v)=b.gst st.env:=fun v=>by
  unfold IOp.gst
  cases hg:b.guard with
  | none=>rfl
  | some gw=>obtain ⟨g,wt⟩:=gw; simp only [Ymi hg h1]
 have ga:∀ v,a.gst (upd st.env b.dst v)=a.gst st.env:=fun v=>by
  unfold IOp.gst
  cases hg:a.guard with
  | none=>rfl
  | some gw=>obtain ⟨g,wt⟩:=gw; simp only [Ymi hg h3]
 simp only [istep] at h ⊢
 cases ha:a.gst st.env with
 | none=>simp only [ha] at h
 | some ta =>
  cases ta with
  | true =>
   simp only [ha] at h
   obtain ⟨va,H1,ra,k⟩:=h
   simp only [gb] at k
   cases hb:b.gst st.env with
   | none=>simp only [hb] at k
   | some tb =>
    cases tb with
    | true =>
     simp only [hb] at k ⊢
     obtain ⟨vb,H2,rb,k⟩:=k
     obtain ⟨H1',r1,r2⟩:=main va H1 vb H2 ra rb
     refine ⟨vb,H1',r1,?_⟩
     simp only [ga,ha]
     exact ⟨va,H2,r2,by rw [Z9v h2']; exact k⟩
    | false =>
     simp only [hb] at k ⊢
     simp only [ga,ha]
     exact ⟨va,H1,skipb va H1 ra,by rw [Z9v h2']; exact k⟩
  | false =>
   simp only [ha] at h
   simp only [gb] at h
   cases hb:b.gst st.env with
   | none=>simp only [hb] at h
   | some tb =>
    cases tb with
    | true =>
     simp only [hb] at h ⊢
     obtain ⟨vb,H2,rb,k⟩:=h
     refine ⟨vb,H2,skipa vb H2 rb,?_⟩
     simp only [ga,ha]
     rw [Z9v h2']; exact k
    | false =>
     simp only [hb] at h ⊢
     simp only [ga,ha]
     rw [Z9v h2']; exact h
theorem Z6i {P:Program}{md:Md}{io:IOp}{K K':St→Prop}{st:St}(hk:∀ s,K s→K' s) (h:istep P md io K st):istep P md io K' st:=by
 unfold istep at *
 cases hg:io.gst st.env with
 | none=>simp only [hg] at h
 | some t =>
  cases t with
  | true =>
   simp only [hg] at h ⊢
   obtain ⟨v,H',r,k⟩:=h
   exact ⟨v,H',r,hk _ k⟩
  | false =>
   simp only [hg] at h ⊢
   exact hk _ h
def iAny (P:Program) (base:Nat×(Nat→Nat→Prop)) (ops:Array Oper) (ios:List IOp) (K:St→Prop):Nat→Array Bool→St→Prop
 | 0,listed,st=>Region.ready .any ops listed = []∧K st
 | fuel+1,listed,st =>
  (Region.ready .any ops listed = []→K st) ∧
  ∀ i∈Region.ready .any ops listed,∃ io,ios[i]? = some io∧istep P (some base) io (iAny P base ops ios K fuel (listed.setIfInBounds i true)) st
def Closed (ops:Array Oper) (listed:Array Bool):Prop :=
 ∀ k o,ops[k]? = some o→listed.getD k true=true→∀ e∈o.after,Region.binds .any e=true→listed.getD e.on false=true
def befOk (ops:Array Oper) (bf:Array Nat):Bool :=
 (List.range ops.size).all fun j=>match ops[j]? with
  | some o=>bf.getD j 0 == o.after.toList.foldl (fun s e=>if Region.binds .any e then s ||| 2 ^ e.on ||| bf.getD e.on 0 else s) 0
  | none=>true
def drawOk (ops:Array Oper) (ios:List IOp) (bf:Array Nat):Bool :=
 ios.length == ops.size && befOk ops bf &&
 ((List.range ops.size).all fun j=>match ops[j]? with
  | some o=>o.after.all fun e => !Region.binds .any e || e.on<j
  | none=>true) &&
 ((List.range ops.size).all fun j=>(List.range j).all fun i=>(bf.getD j 0).testBit i || match ios[i]?,ios[j]? with
  | some a,some b=>a.comm b
  | _,_=>false)
theorem Yqb {bf:Array Nat}{i:Nat}:∀ (l:List Edge) (s:Nat),(l.foldl (fun s e=>if Region.binds .any e then s ||| 2 ^ e.on ||| bf.getD e.on 0 else s) s).testBit i=true →
  s.testBit i=true∨∃ e∈l,Region.binds .any e=true∧(e.on=i∨(bf.getD e.on 0).testBit i=true)
 | [],s,h => .inl h
 | e::r,s,h=>by
  simp only [List.foldl_cons] at h
  rcases Yqb r _ h with h1 | ⟨e',he',h1⟩
  ·by_cases hb:Region.binds .any e=true
   ·rw [if_pos hb,Nat.testBit_or,Nat.testBit_or] at h1
    simp only [Bool.or_eq_true] at h1
    rcases h1 with (h1 | h1) | h1
    ·exact .inl h1
    ·refine .inr ⟨e,by simp,hb,.inl ?_⟩
     rw [Nat.testBit_two_pow] at h1
     exact of_decide_eq_true h1
    ·exact .inr ⟨e,by simp,hb,.inr h1⟩
   ·rw [if_neg hb] at h1; exact .inl h1
  ·exact .inr ⟨e',by simp [he'],h1⟩
theorem Ypy {ops:Array Oper}{bf:Array Nat}(hb:befOk ops bf=true) {j i:Nat}{o:Oper}(ho:ops[j]? = some o) (h:(bf.getD j 0).testBit i=true) :
  ∃ e∈o.after,Region.binds .any e=true∧(e.on=i∨(bf.getD e.on 0).testBit i=true):=by
 simp only [befOk,List.all_eq_true,List.mem_range] at hb
 have h1:=hb j (Array.getElem?_eq_some_iff.1 ho).1
 simp only [ho,beq_iff_eq] at h1
 rw [h1] at h
 rcases Yqb _ _ h with h2 | ⟨e,he,h2⟩
 ·simp at h2
 ·exact ⟨e,Array.mem_toList_iff.1 he,h2⟩
def Edges (ops:Array Oper):Prop:=∀ (j:Nat) (o:Oper),ops[j]? = some o→∀ e∈o.after,Region.binds .any e=true→e.on<j
theorem Yh5 {ops:Array Oper}{bf:Array Nat}(hb:befOk ops bf=true) (hE:Edges ops) {listed:Array Bool}(hs:listed.size=ops.size) (hc:Closed ops listed) {i:Nat} :
  ∀ (k:Nat),listed.getD k false=true→(bf.getD k 0).testBit i=true→listed.getD i false=true:=by
 intro k
 induction k using Nat.strongRecOn with
 | _ k ih =>
  intro hk hbit
  have hlt:k<ops.size:=by
   rcases Nat.lt_or_ge k listed.size with h' | h'
   ·omega
   ·simp [Array.getElem?_eq_none h'] at hk
  have ho:ops[k]? = some ops[k]:=Array.getElem?_eq_getElem hlt
  obtain ⟨e,he,hbd,h2⟩:=Ypy hb ho hbit
  have hle:=hc k _ ho (by
   have:k<listed.size:=by omega
   simp [this] at hk ⊢; exact hk) e he hbd
  rcases h2 with h2 | h2
  ·rw [← h2]; exact hle
  ·exact ih e.on (hE k _ ho e he hbd) hle h2
theorem Yuz {P:Program}{base:Nat×(Nat→Nat→Prop)}{ops:Array Oper}{ios:List IOp}{bf:Array Nat}(hb:befOk ops bf=true) (hE:Edges ops) (hn:ios.length=ops.size) {K:St→Prop}{i:Nat}{a:IOp}
  (ha:ios[i]? = some a) (hfree:∀ j b,i<j→ios[j]? = some b→(bf.getD j 0).testBit i=true∨a.comm b=true) :
  ∀ (fuel:Nat) (listed:Array Bool) (st:St),listed.size=ops.size→Closed ops listed→(∀ k,k<i→listed.getD k false=true)→i∈Region.ready .any ops listed →
   istep P (some base) a (iAny P base ops ios K fuel (listed.setIfInBounds i true)) st→iAny P base ops ios K (fuel+1) listed st:=by
 intro fuel
 induction fuel with
 | zero =>
  intro listed st hs hc hbel hr h
  refine ⟨fun h0=>(by rw [h0] at hr; cases hr),fun j hj=>?_⟩
  by_cases hji:j=i
  ·subst hji; exact ⟨a,ha,h⟩
  ·have h1:=ready_mono hj hji
   exfalso
   have h2:Region.ready .any ops (listed.setIfInBounds i true) = []:=by
    have:∀ {K':St→Prop} {st:St},istep P (some base) a (fun s=>Region.ready .any ops (listed.setIfInBounds i true) = []∧K' s) st→Region.ready .any ops (listed.setIfInBounds i true) = []:=fun {K' st} h=>by
     unfold istep at h
     split at h
     ·obtain ⟨v,H',_,k⟩:=h; exact k.1
     ·exact h.1
     ·exact h.elim
    exact this h
   rw [h2] at h1
   cases h1
 | succ fuel ih =>
  intro listed st hs hc hbel hr h
  refine ⟨fun h0=>(by rw [h0] at hr; cases hr),fun j hj=>?_⟩
  by_cases hji:j=i
  ·subst hji; exact ⟨a,ha,h⟩
  ·have hrj:=ready_mono hj hji
   obtain ⟨hjun,oj,hoj,hall⟩:=mem_ready.1 hj
   have hjlt:j<ops.size:=(Array.getElem?_eq_some_iff.1 hoj).1
   have hij:i<j:=by
    rcases Nat.lt_or_ge i j with h1 | h1
    ·exact h1
    ·have:=hbel j (by omega)
     rw [show listed.getD j true=listed.getD j false from by simp [show j<listed.size by omega]] at hjun
     rw [this] at hjun; cases hjun
   have hb0:∃ b,ios[j]? = some b:=⟨ios[j]'(by omega),List.getElem?_eq_getElem (by omega)⟩
   obtain ⟨b,hbj⟩:=hb0
   have hnot:¬ (bf.getD j 0).testBit i=true:=fun hbit=>by
    obtain ⟨e,he,hbd,h2⟩:=Ypy hb hoj hbit
    have hl:=hall e he hbd
    have hil:listed.getD i false=true:=by
     rcases h2 with h2 | h2
     ·rw [← h2]; exact hl
     ·exact Yh5 hb hE hs hc _ hl h2
    have hi0:=(mem_ready.1 hr).1
    have hilt:i<listed.size:=by omega
    simp [hilt] at hil hi0
    rw [hil] at hi0; cases hi0
   have hcm:=(hfree j b hij hbj).resolve_left hnot
   
   have h1:istep P (some base) a (istep P (some base) b (iAny P base ops ios K fuel ((listed.setIfInBounds i true).setIfInBounds j true))) st :=
    Z6i (fun s hs'=>by
     obtain ⟨io,hio,h3⟩:=hs'.2 j hrj
     rw [hbj] at hio
     cases hio
     exact h3) h
   refine ⟨b,hbj,Z6i (fun s hs'=>?_) (Yv0 hcm h1)⟩
   refine ih (listed.setIfInBounds j true) s (by simp [hs]) ?_ (fun k hk=>getD_set_true (hbel k hk)) (ready_mono hr (Ne.symm hji)) ?_
   ·intro k o hk hl e he hbd
    by_cases hkj:j=k
    ·subst hkj
     rw [hoj] at hk; cases hk
     exact getD_set_true (hall e he hbd)
    ·rw [getD_set_ne true hkj] at hl
     exact getD_set_true (hc k o hk hl e he hbd)
   ·rw [Array.setIfInBounds_comm _ _ hji]; exact hs'
def upTo (n m:Nat):Array Bool:=(Array.range n).map fun i=>decide (i<m)
theorem Z20 (n m:Nat):(upTo n m).size=n:=by simp [upTo]
theorem Z94 (n m k:Nat) (d:Bool) (h:k<n):(upTo n m).getD k d=decide (k<m):=by simp [upTo,h]
theorem upTo_get' (n m k:Nat) (h:k<m) (h':k<n):(upTo n m).getD k false=true:=by rw [Z94 _ _ _ _ h']; simpa using h
theorem Yxf (n m:Nat) (h:m<n):(upTo n m).setIfInBounds m true=upTo n (m+1):=by
 apply Array.ext_getElem?
 intro i
 rcases Nat.lt_or_ge i n with hi | hi
 ·have e:(upTo n (m+1))[i]? = some (decide (i<m+1)):=by simp [upTo,hi]
  rw [e,Array.getElem?_setIfInBounds]
  by_cases hm:m=i
  ·subst hm; simp [Z20,h]
  ·rw [if_neg hm]
   have e2:(upTo n m)[i]? = some (decide (i<m)):=by simp [upTo,hi]
   rw [e2]
   congr 2
   simp only [eq_iff_iff]
   omega
 ·rw [Array.getElem?_eq_none (by rw [Array.size_setIfInBounds,Z20]; exact hi),Array.getElem?_eq_none (by rw [Z20]; exact hi)]
theorem Yty {ops:Array Oper}(hE:Edges ops) {m:Nat}(h:m<ops.size):m∈Region.ready .any ops (upTo ops.size m):=by
 rw [mem_ready]
 refine ⟨by rw [Z94 _ _ _ _ h]; simp,ops[m],Array.getElem?_eq_getElem h,fun e he hb=>?_⟩
 have:=hE m _ (Array.getElem?_eq_getElem h) e he hb
 exact upTo_get' _ _ _ this (by omega)
theorem Yzw {ops:Array Oper}:Region.ready .any ops (upTo ops.size ops.size) = []:=by
 rw [List.eq_nil_iff_forall_not_mem]
 intro j hj
 obtain ⟨h0,o,ho,_⟩:=mem_ready.1 hj
 have hlt:j<ops.size:=(Array.getElem?_eq_some_iff.1 ho).1
 rw [Z94 _ _ _ _ hlt] at h0
 simp at h0; omega
theorem Yoh {ops:Array Oper}(hE:Edges ops) (m:Nat):Closed ops (upTo ops.size m):=by
 intro k o hk hl e he hb
 have hlt:k<ops.size:=(Array.getElem?_eq_some_iff.1 hk).1
 rw [Z94 _ _ _ _ hlt] at hl
 have hkm:k<m:=of_decide_eq_true hl
 have:=hE k o hk e he hb
 exact upTo_get' _ _ _ (by omega) (by omega)
theorem Ykq {P:Program}{base:Nat×(Nat→Nat→Prop)}{ops:Array Oper}{ios:List IOp}{bf:Array Nat}(hd:drawOk ops ios bf=true) {K:St→Prop} :
  ∀ (d m:Nat) (st:St),m+d=ops.size→iexec P (some base) (ios.drop m) K st→iAny P base ops ios K d (upTo ops.size m) st:=by
 simp only [drawOk,Bool.and_eq_true,beq_iff_eq] at hd
 obtain ⟨⟨⟨hn,hb⟩,hE0⟩,hp⟩:=hd
 have hE:Edges ops:=fun j o ho e he hbd=>by
  simp only [List.all_eq_true,List.mem_range] at hE0
  have h1:=hE0 j (Array.getElem?_eq_some_iff.1 ho).1
  simp only [ho,Array.all_eq_true_iff_forall_mem] at h1
  have h2:=h1 e he
  simp only [hbd,Bool.not_true,Bool.false_or,decide_eq_true_eq] at h2
  exact h2
 intro d
 induction d with
 | zero =>
  intro m st hm h
  have hm':m=ops.size:=by omega
  subst hm'
  rw [show ios.drop ops.size = [] from List.drop_eq_nil_of_le (by omega)] at h
  exact ⟨Yzw,h⟩
 | succ d ih =>
  intro m st hm h
  have hlt:m<ops.size:=by omega
  have hi:ios[m]? = some (ios[m]'(by omega)):=List.getElem?_eq_getElem (by omega)
  rw [List.drop_eq_getElem_cons (by omega)] at h
  refine Yuz (a:=ios[m]'(by omega)) hb hE hn hi (fun j b hj hbj=>?_) d _ st (Z20 _ _) (Yoh hE m) (fun k hk=>upTo_get' _ _ _ hk (by omega)) (Yty hE hlt) ?_
  ·simp only [List.all_eq_true,List.mem_range] at hp
   have hjl:j<ios.length:=by
    rcases Nat.lt_or_ge j ios.length with h1 | h1
    ·exact h1
    ·rw [List.getElem?_eq_none h1] at hbj; cases hbj
   have h1:=hp j (by omega) m hj
   simp only [hi,hbj,Bool.or_eq_true] at h1
   exact h1
  ·rw [Yxf _ _ hlt]
   exact Z6i (fun s hs=>ih (m+1) s (by omega) hs) h
end GoAbs
