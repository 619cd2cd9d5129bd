/- Lemmas for the claim (contracts of the functions that it reaches, and what they compute), without conditions. -/
import Derived.Test.YtiapneoakbealaaGreatK07
set_option linter.unusedVariables false
set_option linter.unusedSimpArgs false
set_option maxRecDepth 10000
set_option maxHeartbeats 2000000
namespace GoAbs
open Go Go.RowKit
variable {X:Nat→Prop} {B:Nat} {w0 w w':World} {ρ ρ':Pl} {H H':Heap} {P:Program} {O:Nat→Prop}
theorem Yjz (off:Nat):∀ (vs:List Value) (k:Nat) (cs:Array Value),off+k+vs.length≤cs.size →
  ((vs.zipIdx k).foldl (fun cs (p:Value×Nat)=>cs.setIfInBounds (off+p.2) p.1) cs).toList=cs.toList.take (off+k)++vs++cs.toList.drop (off+k+vs.length)
 | [],k,cs,_=>by simp
 | v::r,k,cs,h=>by
  simp only [List.zipIdx_cons,List.foldl_cons]
  rw [Yjz off r (k+1) _ (by simp at h ⊢; omega)]
  simp only [List.length_cons] at h
  have hlt:off+k<cs.toList.length:=by simp; omega
  simp only [Array.toList_setIfInBounds]
  rw [show off+(k+1)=off+k+1 by omega]
  rw [List.take_succ_eq_append_getElem (by simpa using hlt)]
  simp only [List.getElem_set_self,List.length_cons]
  rw [List.take_set_of_le (by omega),List.drop_set_of_lt (by omega)]
  simp only [List.append_assoc,List.cons_append,List.nil_append]
  congr 4
  omega
theorem Z90 {place:Nat→Option (Nat×Nat)}{e:Nat→AV}{a:Act}(hE:Env w O ρ e a):∀ (ps:List (Nat×Operand)) (qs:List (Nat×Nat×Ox)) (zs:List AV) (cs:Array Value),
  cParts place zs.length ps=some qs→(∀ p,p∈qs→(p.2.2.ev e).known∧(p.2.2.ev e).cells.length=p.2.1)→cs.size=zs.length→(∀ u,u∈cs.toList→u.oneCell'=true) →
  (∀ (j:Nat) (y:AV) (u:Value),zs[j]? = some y→cs[j]? = some u→Rep w O ρ y u) →
  ∃ ds:Array Value,Instr.fill place cs (ps.map fun (i,x)=>(i,a.eval x))=some ds∧ds.size=(fillA zs (qs.map fun p=>(p.1,p.2.2.ev e))).length∧(∀ u,u∈ds.toList→u.oneCell'=true) ∧
   (∀ (j:Nat) (y:AV) (u:Value),(fillA zs (qs.map fun p=>(p.1,p.2.2.ev e)))[j]? = some y→ds[j]? = some u→Rep w O ρ y u)∧ds.size=zs.length
 | [],qs,zs,cs,h,_,h1,h2,h3=>by
  cases h
  exact ⟨cs,rfl,h1,h2,h3,h1⟩
 | (i,x)::r,qs,zs,cs,h,hk,h1,h2,h3=>by
  unfold cParts at h
  split at h
  ·rename_i o s y l hp hy hl
   split at h
   ·rename_i hfit
    cases h
    have hkx:=hk (o,s,y) (by simp)
    simp only at hkx
    obtain ⟨g1,g2,g3⟩:=Ydj hkx.1 (Za4 hE hy)
    have hsz:(a.eval x).cells.size=s:=by rw [g1]; exact hkx.2
    have hlen:(zs.take o++(y.ev e).cells++zs.drop (o+(y.ev e).cells.length)).length=zs.length:=by simp; omega
    have hds:((a.eval x).cells.zipIdx.foldl (fun cs (p:Value×Nat)=>cs.setIfInBounds (o+p.2) p.1) cs).toList=cs.toList.take o++(a.eval x).cells.toList++cs.toList.drop (o+(a.eval x).cells.toList.length):=by
     rw [← Array.foldl_toList,Array.toList_zipIdx]
     have:=Yjz o (a.eval x).cells.toList 0 cs (by simp; omega)
     simpa using this
    have hcell:∀ (j:Nat) (z:AV) (u:Value),(zs.take o++(y.ev e).cells++zs.drop (o+(y.ev e).cells.length))[j]? = some z →
      ((a.eval x).cells.zipIdx.foldl (fun cs (p:Value×Nat)=>cs.setIfInBounds (o+p.2) p.1) cs)[j]? = some u→Rep w O ρ z u:=fun j z u hz hu=>by
     rw [← Array.getElem?_toList,hds,Z1z (by simp; omega)] at hu
     rw [Z1z (by omega)] at hz
     by_cases hj:j<o
     ·rw [if_pos hj] at hz hu
      exact h3 j z u hz (by rw [← Array.getElem?_toList]; exact hu)
     ·rw [if_neg hj] at hz hu
      by_cases hj2:j<o+(y.ev e).cells.length
      ·rw [if_pos hj2] at hz
       rw [if_pos (by simp; omega)] at hu
       exact g3 _ z u hz (by rw [← Array.getElem?_toList]; exact hu)
      ·rw [if_neg hj2] at hz
       rw [if_neg (by simp; omega)] at hu
       exact h3 j z u hz (by rw [← Array.getElem?_toList]; exact hu)
    have hone:∀ u,u∈((a.eval x).cells.zipIdx.foldl (fun cs (p:Value×Nat)=>cs.setIfInBounds (o+p.2) p.1) cs).toList→u.oneCell'=true:=fun u hu=>by
     rw [hds] at hu
     simp only [List.mem_append] at hu
     rcases hu with (hu | hu) | hu
     ·exact h2 u (List.mem_of_mem_take hu)
     ·exact g2 u hu
     ·exact h2 u (List.mem_of_mem_drop hu)
    have hsize:((a.eval x).cells.zipIdx.foldl (fun cs (p:Value×Nat)=>cs.setIfInBounds (o+p.2) p.1) cs).size=zs.length:=by
     have:=congrArg List.length hds
     rw [Array.length_toList] at this
     rw [this]; simp; omega
    obtain ⟨ds,k1,k2,k3,k4,k5⟩:=Z90 hE r l _ _ (by rw [hlen]; exact hl) (fun p hp=>hk p (by simp [hp])) (by rw [hlen]; exact hsize) hone hcell
    refine ⟨ds,?_,k2,k3,k4,k5.trans hlen⟩
    simp only [List.map_cons,Instr.fill,hp]
    rw [if_neg (by rw [hsz]; simp; omega)]
    exact k1
   ·cases h
  ·cases h
theorem Yd6 {z:Value}{x:AV}(hx:cV z=some x):z.cells.size=x.cells.length∧(∀ u,u∈z.cells.toList→u.oneCell'=true) ∧
  (∀ (j:Nat) (y:AV) (u:Value),x.cells[j]? = some y→z.cells[j]? = some u→Rep w O ρ y u):=by
 obtain ⟨_,h2,h3⟩:=Yl3 (w:=w) (O:=O) (ρ:=ρ) hx
 refine ⟨h2,fun u hu=>?_,fun j y u hy hu=>(h3 j y u hy hu).1⟩
 obtain ⟨j,hj⟩:=List.getElem?_of_mem hu
 have hlt:j<x.cells.length:=by
  rw [← h2]
  rcases Nat.lt_or_ge j z.cells.toList.length with h5 | h5
  ·simpa using h5
  ·rw [List.getElem?_eq_none h5] at hj; cases hj
 exact (h3 j _ u (List.getElem?_eq_getElem hlt) (by rw [← Array.getElem?_toList]; exact hj)).2
theorem Ye8 {o:Oper}{t:TypeId}{parts:Array (Nat×Operand)}{zs:List AV}{qs:List (Nat×Nat×Ox)}(ho:o.op = .build t parts) (hz:zeroOf P t=some zs)
  (hp:(∃ fs places,P.underlying t=some (.struct fs)∧fs.toList.mapM (fun f=>(P.info? f.type).map fun i=>(f.offset,i.size))=some places∧cParts (places.toArray[·]?) zs.length parts.toList=some qs) ∨
   (∃ n el ie,P.underlying t=some (.array n el)∧P.info? el=some ie∧cParts (fun i=>some (i*ie.size,ie.size)) zs.length parts.toList=some qs)):Does P o (.build zs qs):=by
 intro X B w0 w ρ H e a d v H' next Q hC hE hr hn
 simp only [R] at hr
 obtain ⟨hk,rfl,hH⟩:=hr
 obtain ⟨ti,z,x,hi,hz1,hx,rfl,hl,hrun⟩:=Zlk hz
 obtain ⟨h2,hone,h3⟩:=Yd6 (w:=w) (O:=Own X ρ H) (ρ:=ρ) hx
 have hpl:(parts.map fun (x:Nat×Operand)=>(x.1,a.eval x.2)).toList=parts.toList.map fun (i,x)=>(i,a.eval x):=by simp
 rcases hp with ⟨fs,places,hu,hm,hq⟩ | ⟨n,el,ie,hu,hs,hq⟩
 ·obtain ⟨ds,k1,k2,k3,k4,k5⟩:=Z90 hE parts.toList qs x.cells z.cells hq hk h2 hone h3
  refine Zag hC hn hH (.agg _ ds k2 k3 k4) ?_
  have hb:P.built t (parts.map fun (x:Nat×Operand)=>(x.1,a.eval x.2)).toList=some ds:=by
   simp only [Program.built,hi,hu,hz1,hm]
   rw [hpl]; exact k1
  simp only [execOp,ho,Sem.run_bind,run_build w t _ ds hb,Result.andThen_ok,Sem.run_pure]
 ·obtain ⟨ds,k1,k2,k3,k4,k5⟩:=Z90 hE parts.toList qs x.cells z.cells hq hk h2 hone h3
  refine Zag hC hn hH (.agg _ ds k2 k3 k4) ?_
  have hb:P.built t (parts.map fun (x:Nat×Operand)=>(x.1,a.eval x.2)).toList=some ds:=by
   simp only [Program.built,hi,hu,hz1,hs]
   rw [hpl]; exact k1
  simp only [execOp,ho,Sem.run_bind,run_build w t _ ds hb,Result.andThen_ok,Sem.run_pure]
theorem Yqe {α:Type}{zs:List α}(h0:0<zs.length):∀ (m j:Nat),(List.replicate m zs).flatten[j]? = if j<m*zs.length then zs[j % zs.length]? else none
 | 0,j=>by simp
 | m+1,j=>by
  rw [List.replicate_succ,List.flatten_cons]
  by_cases hj:j<zs.length
  ·rw [List.getElem?_append_left hj,if_pos (by rw [Nat.add_mul]; omega),Nat.mod_eq_of_lt hj]
  ·rw [List.getElem?_append_right (by omega),Yqe h0 m (j - zs.length)]
   have hm:(j - zs.length) % zs.length=j % zs.length:=(Nat.mod_eq_sub_mod (by omega)).symm
   rw [hm]
   by_cases hj2:j<(m+1)*zs.length
   ·rw [if_pos hj2,if_pos (by rw [Nat.add_mul] at hj2; omega)]
   ·rw [if_neg hj2,if_neg (by rw [Nat.add_mul] at hj2; omega)]
theorem Yg4 {α:Type}{zs:List α}(m:Nat):(List.replicate m zs).flatten.length=m*zs.length:=by
 simp
theorem Yr2 {z:Value}{x:AV}(hx:cV z=some x) (h0:0<x.cells.length) (m:Nat) :
  ∀ (j:Nat) (y:AV),(List.replicate m x.cells).flatten[j]? = some y→∃ v,(madeCells z.cells (m*x.cells.length))[j]? = some v∧v.oneCell'=true∧Rep w O ρ y v:=fun j y hy=>by
 obtain ⟨h2,hone,h3⟩:=Yd6 (w:=w) (O:=O) (ρ:=ρ) hx
 rw [Yqe h0] at hy
 split at hy
 ·rename_i hj
  have hlt:j % x.cells.length<z.cells.size:=by rw [h2]; exact Nat.mod_lt _ h0
  have hg:z.cells[j % x.cells.length]? = some z.cells[j % x.cells.length]:=Array.getElem?_eq_getElem hlt
  refine ⟨z.cells[j % x.cells.length],?_,hone _ (by simp),h3 _ y _ hy hg⟩
  have hm:(madeCells z.cells (m*x.cells.length))[j]? = some (z.cells[j % z.cells.size]!):=by simp [madeCells,hj]
  rw [hm,h2,getElem!_pos z.cells (j % x.cells.length) hlt]
 ·cases hy
theorem Y3e {o:Oper}{t el:TypeId}{l c:Operand}{yl yc:Ox}{ek:Option Nat}{zs:List AV}{ti:TypeInfo}(ho:o.op = .makeSlice t l c) (hu:P.underlying t=some (.slice el)) (hz:zeroOf P el=some zs)
  (hti:P.info? el=some ti) (hl:cOx l=some yl) (hc:cOx c=some yc) (hek:zs.length=es ek) (h0:0<zs.length) (hb:0<ti.bytes):Does P o (.mks ek ti.bytes zs yl yc):=by
 intro X B w0 w ρ H e a d v H' next Q hC hE hr hn
 simp only [R] at hr
 have r1:=Za4 hE hl
 have r2:=Za4 hE hc
 obtain ⟨ti',z,x,hi,hz1,hx,rfl,hlen,hrun⟩:=Zlk hz
 rw [hti] at hi; cases hi
 split at hr
 ·rename_i k1 n k2 m e1 e2
  rw [e1] at r1; rw [e2] at r2
  obtain ⟨hn0,hnm,hbytes,i,hnew,rfl⟩:=hr
  have hm63:m≤9223372036854775807:=by
   have:(1:Int)*m≤ti.bytes*m:=Int.mul_le_mul_of_nonneg_right (by omega) (by omega)
   omega
  have hmk:=run_make (P:=P) w t el ti z hu hti hz1 k1 k2 n m hn0 hnm hbytes hm63
  have hsz:m.toNat*es ek=(madeCells z.cells (m.toNat*ti.size)).size:=by rw [size_madeCells, ← hlen,hek]
  refine Zv5 (v' := .slice (some ⟨w.heap.size,0,none⟩) n.toNat m.toNat) (w':=w.alloc (.cells (madeCells z.cells (m.toNat*ti.size)) el)) ?_
   (hn _ _ _ (Yop hC hnew (by rw [Yg4,hek]; omega) (fun j y hy=>?_) ek (by omega) (by omega)))
  ·simp only [execOp,ho,Zc0 r1,Zc0 r2,Sem.run_bind,hmk,Result.andThen_ok,Sem.run_pure]
  ·rw [← hlen]
   exact Yr2 hx h0 _ j y hy
 ·exact hr.elim
theorem Ygd {n k:Nat}:∀ (ps:List (Nat×Operand)) (qs:List (Nat×Ox)),cParts2 n ps=some qs →
  cParts (fun i=>some (i*k,k)) (n*k) ps=some (qs.map fun q=>(q.1*k,k,q.2))
 | [],qs,h=>by cases h; rfl
 | (i,x)::r,qs,h=>by
  unfold cParts2 at h
  split at h
  ·rename_i y l hy hl
   split at h
   ·rename_i hlt
    cases h
    unfold cParts
    rw [hy,Ygd r l hl]
    have:i*k+k≤n*k:=by rw [← Nat.succ_mul]; exact Nat.mul_le_mul_right _ hlt
    simp only [if_pos this]
    rfl
   ·cases h
  ·cases h
theorem Y6c {o:Oper}{t el:TypeId}{n:Nat}{parts:Array (Nat×Operand)}{ek:Option Nat}{zs:List AV}{qs:List (Nat×Ox)}(ho:o.op = .buildSlice t n parts) (hu:P.underlying t=some (.slice el))
  (hz:zeroOf P el=some zs) (hq:cParts2 n parts.toList=some qs) (hlim:n*zs.length≤16777216) (h0:0<zs.length) (hek:zs.length=es ek):Does P o (.bsl ek n zs qs):=by
 intro X B w0 w ρ H e a d v H' next Q hC hE hr hn
 obtain ⟨ti,z,x,hi,hz1,hx,rfl,hlen,hrun⟩:=Zlk hz
 obtain ⟨h2,hone,h3⟩:=Yd6 (w:=w) (O:=Own X ρ H) (ρ:=ρ) hx
 have hpl:(parts.map fun (x:Nat×Operand)=>(x.1,a.eval x.2)).toList=parts.toList.map fun (i,x)=>(i,a.eval x):=by simp
 cases n with
 | zero =>
  simp only [R] at hr
  obtain ⟨rfl,rfl⟩:=hr
  have hp0:parts.toList = []:=by
   cases hp:parts.toList with
   | nil=>rfl
   | cons p r =>
    rw [hp] at hq
    obtain ⟨i,x⟩:=p
    unfold cParts2 at hq
    split at hq
    ·rw [if_neg (by omega)] at hq; cases hq
    ·cases hq
  
  have hK:Keep w (Own X ρ H') (w.alloc (.cells #[] el)) (Own X ρ H') :=
   ⟨by simp,fun b hb _=>Below.heap_alloc _ _ _ hb,fun b hb => .inl hb,fun b hb=>by simp only [World.shape?]; rw [Below.heap_alloc _ _ _ hb]⟩
  have hh:HSim X B (w.alloc (.cells #[] el)) ρ H':=by
   have hh:=hC.heap
   refine ⟨hh.dom,fun j l hl=>?_,fun j es hl=>?_,hh.inj⟩
   ·rcases hh.cells j l hl with h1 | ⟨bk,o,cs',e',g1,g2,g3,hsz,g4⟩
    ·exact .inl h1
    ·have hlt:bk<w.heap.size:=(Array.getElem?_eq_some_iff.1 g3).1
     exact .inr ⟨bk,o,cs',e',g1,g2,(Below.heap_alloc _ _ _ hlt).trans g3,hsz,fun k y hy=>let ⟨v,k1,k2,k3⟩:=g4 k y hy; ⟨v,k1,k2,k3.keep hK (fun _ _ h=>h)⟩⟩
   ·obtain ⟨bk,ms,ck,g1,g2,g3,g4,g5⟩:=hh.map j es hl
    have hlt:bk<w.heap.size:=(Array.getElem?_eq_some_iff.1 g3).1
    exact ⟨bk,ms,ck,g1,g2,(Below.heap_alloc _ _ _ hlt).trans g3,g4,fun k x y m hx hm=>let ⟨k1,k2,k3⟩:=g5 k x y m hx hm; ⟨k1.keep hK (fun _ _ h=>h),k2.keep hK (fun _ _ h=>h),k3⟩⟩
  refine Zv5 (v' := .slice (some ⟨w.heap.size,0,none⟩) 0 0) (w':=w.alloc (.cells #[] el)) ?_ (hn _ _ ρ ⟨.nils _,hh,hK,fun _ _ h=>h,hC.below.alloc hC.bs _⟩)
  have hsz:(Go.sizeOf el).run P w = .ok ti.size w:=Zdd hi w
  simp only [execOp,ho,Instr.buildSlice,Sem.run_bind,run_underlying hu,hsz,Result.andThen_ok,hpl,hp0]
  simp only [Nat.zero_mul]
  rw [if_neg (by decide),if_pos trivial]
  have hr0:((Array.range 0).map fun i=>(#[]:Array Value)[i % 0]!) = #[]:=by simp
  simp only [Sem.run_bind,Sem.run_pure,Result.andThen_ok,List.map_nil]
  have hf0:∀ (g:Nat→Option (Nat×Nat)) (cs:Array Value),Instr.fill g cs []=some cs:=fun g cs=>rfl
  simp only [hf0,Sem.run_bind,Sem.run_pure,Result.andThen_ok,Yuo]
  congr 3
 | succ n =>
  simp only [R] at hr
  obtain ⟨hk,i,hnew,rfl⟩:=hr
  have hql:=Ygd (k:=es ek) parts.toList qs hq
  have hcs:(madeCells z.cells ((n+1)*x.cells.length)).size=(List.replicate (n+1) x.cells).flatten.length:=by rw [size_madeCells,Yg4]
  have hlenF:(List.replicate (n+1) x.cells).flatten.length=(n+1)*es ek:=by rw [Yg4,hek]
  have hmr:=Yr2 (w:=w) (O:=Own X ρ H) (ρ:=ρ) hx h0 (n+1)
  obtain ⟨ds,k1,k2,k3,k4,k5⟩:=Z90 hE parts.toList (qs.map fun q=>(q.1*es ek,es ek,q.2)) (List.replicate (n+1) x.cells).flatten (madeCells z.cells ((n+1)*x.cells.length))
   (by rw [hlenF]; exact hql) (fun p hp=>by obtain ⟨q,hq',rfl⟩:=List.mem_map.1 hp; exact hk q hq') hcs
   (fun u hu=>by
    obtain ⟨j,hj⟩:=List.getElem?_of_mem hu
    have hlt:j<(List.replicate (n+1) x.cells).flatten.length:=by
     rw [← hcs]
     rcases Nat.lt_or_ge j (madeCells z.cells ((n+1)*x.cells.length)).toList.length with h5 | h5
     ·simpa using h5
     ·rw [List.getElem?_eq_none h5] at hj; cases hj
    obtain ⟨v,g1,g2,g3⟩:=hmr j _ (List.getElem?_eq_getElem hlt)
    rw [Array.getElem?_toList,g1] at hj; cases hj; exact g2)
   (fun j y u hy hu=>by
    obtain ⟨v,g1,g2,g3⟩:=hmr j y hy
    rw [g1] at hu; cases hu; exact g3)
  have he:((qs.map fun q=>(q.1*es ek,es ek,q.2)).map fun p=>(p.1,p.2.2.ev e))=qs.map fun p=>(p.1*es ek,p.2.ev e):=by simp [List.map_map,Function.comp_def]
  rw [he] at k2 k4
  have hdl:ds.size=(n+1)*es ek:=by
   rw [k5,hlenF]
  refine Zv5 (v' := .slice (some ⟨w.heap.size,0,none⟩) (n+1) (n+1)) (w':=w.alloc (.cells ds el)) ?_
   (hn _ _ _ (Yop hC hnew (by rw [k2]; exact Nat.le_refl _) (fun j y hy=>?_) ek (Nat.le_refl _) (by omega)))
  ·have hsz:(Go.sizeOf el).run P w = .ok ti.size w:=Zdd hi w
   have h9:0<(n+1)*x.cells.length:=Nat.mul_pos (Nat.succ_pos n) h0
   have hnz:¬ ((n+1)*ti.size=0):=by rw [← hlen]; exact Nat.pos_iff_ne_zero.1 h9
   simp only [execOp,ho,Instr.buildSlice,Sem.run_bind,run_underlying hu,hsz,Result.andThen_ok,hpl]
   rw [if_neg (by rw [← hlen]; simp; omega),if_neg hnz]
   simp only [Sem.run_bind,hrun,Sem.run_pure,Result.andThen_ok]
   have hfill:Instr.fill (fun i=>some (i*ti.size,ti.size)) ((Array.range ((n+1)*ti.size)).map (z.cells[· % z.cells.size]!)) (parts.toList.map fun (i,x)=>(i,a.eval x))=some ds:=by
    rw [← hlen,hek]
    rw [← hek]
    rw [hek] at k1 ⊢
    exact k1
   rw [hfill]
   rfl
  ·have hlt:j<ds.size:=by rw [k2]; exact (List.getElem?_eq_some_iff.1 hy).1
   have hg:ds[j]? = some ds[j]:=Array.getElem?_eq_getElem hlt
   exact ⟨_,hg,k3 _ (by simp),k4 j y _ hy hg⟩
end GoAbs
