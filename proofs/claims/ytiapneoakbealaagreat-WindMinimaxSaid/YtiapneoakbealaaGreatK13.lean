/- Lemmas for the claim (contracts of the functions that it reaches, and what they compute), without conditions. -/
import Derived.Test.YtiapneoakbealaaGreatK12
set_option linter.unusedVariables false
set_option linter.unusedSimpArgs false
set_option maxRecDepth 10000
set_option maxHeartbeats 2000000
namespace GoAbs
open Go Go.RowKit
variable {X:Nat→Prop} {B:Nat} {w0 w w':World} {ρ ρ':Pl} {H H':Heap} {P:Program} {O:Nat→Prop}
variable {nt n0:Nat} {st st':St} {Q:Ex→St→Prop}
theorem T_rg {l:List IOp}(h:iexec P none l (Q .normal) st):T P nt n0 (.rg false l) st Q:=by
 intro code hc b a w ρ hb hs Q2 h2
 obtain ⟨id,ops,rfl,hr⟩:=Z8e hc
 obtain ⟨h1,h3,_⟩:=Z6n hr
 refine wp_region ?_
 rw [List.range_eq_range']
 exact Ylt h1 h3 (fun st' a' w' ρ' hK hs'=>h2 .normal st' a' w' ρ' hK hs') ops.size 0 st a w ρ (by omega) hs (by simpa using h)
theorem Yph {k i:Nat}{bl:Blk}(h:(H++List.replicate k .unborn)[i]? = some bl):H[i]? = some bl∨(bl = .unborn∧H[i]? = none):=by
 rcases Nat.lt_or_ge i H.length with hi | hi
 ·rw [List.getElem?_append_left hi] at h; exact .inl h
 ·rw [List.getElem?_append_right hi,List.getElem?_replicate] at h
  split at h
  ·cases h; exact .inr ⟨rfl,List.getElem?_eq_none hi⟩
  ·cases h
theorem Yae {k i:Nat}{bl:Blk}(h:H[i]? = some bl):(H++List.replicate k .unborn)[i]? = some bl:=by
 rw [List.getElem?_append_left (List.getElem?_eq_some_iff.1 h).1]; exact h
theorem HSim.pad (hh:HSim X B w ρ H) (k:Nat):HSim X B w ρ (H++List.replicate k .unborn)∧∀ c,Own X ρ (H++List.replicate k .unborn) c→Own X ρ H c:=by
 have hO:∀ c,Own X ρ (H++List.replicate k .unborn) c→Own X ρ H c:=fun c hc=>by
  rcases hc with h | ⟨j,p,hp,rfl,bl,hl,h1,h2⟩
  ·exact .inl h
  ·rcases Yph hl with h | ⟨h,_⟩
   ·exact Zci hp rfl h h1 h2
   ·exact absurd h h1
 have old:∀ {j:Nat} {p:Nat×Nat} {bl:Blk},ρ j=some p→(H++List.replicate k .unborn)[j]? = some bl→H[j]? = some bl:=fun {j p bl} hp h=>by
  obtain ⟨b2,g1,_⟩:=hh.dom j p hp
  rw [Yae g1] at h; cases h; exact g1
 refine ⟨⟨fun j p hp=>?_,fun j l hl=>?_,fun j es hl=>?_,fun i j p q b c hp hq hpq hb hc nb nc=>hh.inj i j p q b c hp hq hpq (old hp hb) (old hq hc) nb nc⟩,hO⟩
 ·obtain ⟨bl,g1,g2⟩:=hh.dom j p hp
  exact ⟨bl,Yae g1,g2⟩
 ·rcases Yph hl with h | ⟨h,_⟩
  ·rcases hh.cells j l h with h1 | ⟨bk,o,cs,e,g1,g2,g3,g4,g5⟩
   ·exact .inl h1
   ·exact .inr ⟨bk,o,cs,e,g1,g2,g3,g4,fun i y hy=>let ⟨v,k1,k2,k3⟩:=g5 i y hy; ⟨v,k1,k2,k3.less hO⟩⟩
  ·cases h
 ·rcases Yph hl with h | ⟨h,_⟩
  ·obtain ⟨bk,ms,ck,g1,g2,g3,g4,g5⟩:=hh.map j es h
   exact ⟨bk,ms,ck,g1,g2,g3,g4,fun i x y m hx hm=>let ⟨k1,k2,k3⟩:=g5 i x y m hx hm; ⟨k1.less hO,k2.less hO,k3⟩⟩
  ·cases h
theorem Sim.drew_pad {b:Base}{a:Act}(h:Sim b nt st a w ρ) (k:Nat):Sim b nt ⟨st.env,st.H++List.replicate k .unborn⟩ a w.drew ρ:=by
 obtain ⟨h1,h2⟩:=h.ctx.heap.pad k
 refine ⟨⟨h1.drew,h.ctx.xs,h.ctx.below.drew,h.ctx.bs⟩,fun t=>?_,h.size,h.defers,(h.keep.trans (Zhw _ _)).trans (Zh7 h2),h.rho⟩
 exact ((h.env t).less h2).keep (Zhw _ _) (fun _ _ h=>h)
theorem Yce {l:List IOp}(hm:P.follows .mixedOrders=true) (W:Nat→Nat→Prop) (k:Nat) (h:iexec P (some (st.H.length,W)) l (Q .normal) ⟨st.env,st.H++List.replicate k .unborn⟩):T P nt n0 (.rg true l) st Q:=by
 intro code hc b a w ρ hb hs Q2 h2
 obtain ⟨id,ops,rfl,hr⟩:=Z8e hc
 obtain ⟨h1,h3,h4⟩:=Z6n hr
 refine wp_region_any hm ?_
 have hu:upTo ops.size 0=Array.replicate ops.size false:=by
  apply Array.ext
  ·simp [upTo]
  ·intro i h1 h2; simp [upTo]
 have hany:=Ykq (h4 rfl) ops.size 0 _ (by omega) (by simpa using h)
 rw [hu] at hany
 exact Ymp h1 h3 (fun st' a' w' ρ' hK hs'=>h2 .normal st' a' w' ρ' hK hs') ops.size _ _ a w.drew ρ (hs.drew_pad k) hany
def envL:List (Nat×AV)→Nat→AV
 | [],_ => .any
 | (u,v)::r,t=>if t=u then v else envL r t
theorem Yaw (l:List (Nat×AV)) (t:Nat):envL l t = .any∨∃ p,p∈l∧p.1=t∧envL l t=p.2:=by
 induction l with
 | nil=>exact .inl rfl
 | cons p r ih =>
  obtain ⟨u,v⟩:=p
  simp only [envL]
  by_cases h:t=u
  ·rw [if_pos h]; exact .inr ⟨(u,v),by simp,h.symm,rfl⟩
  ·rw [if_neg h]
   rcases ih with h1 | ⟨p,h1,h2,h3⟩
   ·exact .inl h1
   ·exact .inr ⟨p,by simp [h1],h2,h3⟩
theorem Xas:Le nt n0 st st:=fun _ _ _ ρ _ hs=>⟨ρ,hs,fun _ h=>h⟩
theorem Zhp {st2:St}(h:Le nt n0 st st') (k:Le nt n0 st' st2):Le nt n0 st st2:=fun b a w ρ hb hs =>
 let ⟨ρ',hs',h1⟩:=h b a w ρ hb hs
 let ⟨ρ2,hs2,h2⟩:=k b a w ρ' hb hs'
 ⟨ρ2,hs2,fun c hc=>h1 c (h2 c hc)⟩
def Has (e:Nat→AV):List (Nat×AV)→Prop
 | []=>True
 | (u,v)::r=>e u=v∧Has e r
theorem Yiv {e:Nat→AV}:∀ {l:List (Nat×AV)},Has e l→∀ p,p∈l→e p.1=p.2
 | [],_,p,hp=>by simp at hp
 | (u,v)::r,h,p,hp=>by
  rcases List.mem_cons.1 hp with rfl | hp
  ·exact h.1
  ·exact Yiv h.2 p hp
theorem Zab (l:List (Nat×AV)) (h:Has st.env l):Le nt n0 st ⟨envL l,st.H⟩:=fun b a w ρ _ hs=>by
 refine ⟨ρ,⟨hs.ctx,fun t=>?_,hs.size,hs.defers,hs.keep,hs.rho⟩,fun _ h=>h⟩
 show Rep w (Own b.X ρ st.H) ρ (envL l t) (a.tmps.getD t undef)
 rcases Yaw l t with h1 | ⟨p,h1,rfl,h3⟩
 ·rw [h1]; exact .any _
 ·rw [h3, ← Yiv h p h1]; exact hs.env _
theorem Zar {cc:CC}(l:List (Nat×AV)) (h:Has st.env l) (hT:T P nt n0 cc ⟨envL l,st.H⟩ Q):T P nt n0 cc st Q:=T_le (Zab l h) hT
mutual
def AV.gc (f:Nat→Option Nat):AV→AV
 | .agg cs => .agg (gcL f cs)
 | .tup cs => .tup (gcL f cs)
 | .fn g a b => .fn g (gcL f a) (gcL f b)
 | .osl ek b off n=>match f b with | some c => .osl ek c off n | none => .any
 | .ptr b off=>match f b with | some c => .ptr c off | none => .any
 | .mp b=>match f b with | some c => .mp c | none => .any
 | .any => .any
 | .int k n => .int k n
 | .bool b => .bool b
 | .str s => .str s
 | .nils => .nils
 | .sl l => .sl l
 | .rp cs => .rp cs
 | .nilp => .nilp
 | .nilfn => .nilfn
 | .ifc t x => .ifc t (x.gc f)
 | .nilif => .nilif
def gcL (f:Nat→Option Nat):List AV→List AV
 | [] => []
 | x::r=>x.gc f::gcL f r
end
theorem Zax (f:Nat→Option Nat) (l:List AV):gcL f l=l.map (AV.gc f):=by
 induction l with
 | nil=>simp [gcL]
 | cons x r ih=>simp [gcL,ih]
def Blk.gc (f:Nat→Option Nat):Blk→Blk
 | .unborn => .unborn
 | .dead => .dead
 | .cells l => .cells (gcL f l)
 | .map es => .map (es.map fun p=>(p.1.gc f,p.2.gc f))
def pos:List Nat→Nat→Option Nat
 | [],_=>none
 | x::r,b=>if x=b then some 0 else (pos r b).map (· + 1)
theorem Y1g:∀ {ids:List Nat}{i j:Nat},pos ids i=some j→ids[j]? = some i
 | [],i,j,h=>by cases h
 | x::r,i,j,h=>by
  unfold pos at h
  split at h
  ·rename_i hx; cases h; simpa using hx
  ·obtain ⟨k,hk,rfl⟩:=Option.map_eq_some_iff.1 h
   simpa using Y1g hk
theorem Ygr {O':Nat→Prop}{f:Nat→Option Nat}{x:AV}{v:Value}(h:Rep w O ρ x v) (hO:∀ c,O' c→O c) (hρ:∀ i j p,f i=some j→ρ i=some p→ρ' j=some p):Rep w O' ρ' (x.gc f) v:=by
 have list:∀ {cs:List AV} {vs:Array Value} {ρ:Pl},vs.size=cs.length→(∀ (i:Nat) (x:AV) (v:Value),cs[i]? = some x→vs[i]? = some v→Rep w O' ρ' (x.gc f) v) →
   vs.size=(gcL f cs).length∧∀ (i:Nat) (x:AV) (v:Value),(gcL f cs)[i]? = some x→vs[i]? = some v→Rep w O' ρ' x v:=fun {cs vs ρ} hl h=>by
  rw [Zax]
  refine ⟨by simpa using hl,fun i y u hy hu=>?_⟩
  rw [List.getElem?_map] at hy
  obtain ⟨z,hz,rfl⟩:=Option.map_eq_some_iff.1 hy
  exact h i z u hz hu
 induction h with
 | any v=>exact .any v
 | int k n=>exact .int k n
 | bool b=>exact .bool b
 | str s=>exact .str s
 | nils A=>exact .nils A
 | nilp=>exact .nilp
 | nilfn=>exact .nilfn
 | nilif=>exact .nilif
 | ifc t x v h ih=>exact .ifc t _ v (ih hρ)
 | agg cs vs hl h1 h ih =>
  obtain ⟨g1,g2⟩:=list (ρ:=noPl) hl (fun i x v hx hv=>ih i x v hx hv hρ)
  exact .agg _ vs g1 h1 g2
 | tup cs vs hl h ih =>
  obtain ⟨g1,g2⟩:=list (ρ:=noPl) hl (fun i x v hx hv=>ih i x v hx hv hρ)
  exact .tup _ vs g1 g2
 | sl l A c sz blk off g hc hA hz hg h1 h ih =>
  exact .sl l A c sz blk off g hc (fun h0=>⟨(hA h0).1,fun h=>(hA h0).2.1 (hO _ h),(hA h0).2.2⟩) hz hg h1 (fun i x j y hx hy=>(h i x j y hx hy).less hO)
 | rp cs blk off g hb hg h1 h ih=>exact .rp cs blk off g ⟨fun h=>hb.1 (hO _ h),hb.2⟩ hg h1 (fun j y hy=>(h j y hy).less hO)
 | osl ek b off len c blk o hb hc hs =>
  simp only [AV.gc]
  split
  ·rename_i c' hc'; exact .osl ek c' off len c blk o (hρ _ _ _ hc' hb) hc hs
  ·exact .any _
 | osl0 ek b off A =>
  simp only [AV.gc]
  split
  ·exact .osl0 ek _ off A
  ·exact .any _
 | ptr b off blk o hb =>
  simp only [AV.gc]
  split
  ·rename_i c' hc'; exact .ptr c' off blk o (hρ _ _ _ hc' hb)
  ·exact .any _
 | mp b blk hb =>
  simp only [AV.gc]
  split
  ·rename_i c' hc'; exact .mp c' blk (hρ _ _ _ hc' hb)
  ·exact .any _
 | fn g first cap first' cap' hl hl' h h' ih ih' =>
  obtain ⟨g1,g2⟩:=list (ρ:=noPl) hl (fun i x v hx hv=>ih i x v hx hv hρ)
  obtain ⟨k1,k2⟩:=list (ρ:=noPl) hl' (fun i x v hx hv=>ih' i x v hx hv hρ)
  exact .fn g _ _ first' cap' g1 k1 g2 k2
theorem Zgb (ids:List Nat) (hd:ids.Nodup) (h0:∀ i,i<n0→ids[i]? = some i) (l:List (Nat×AV)) (hl:Has st.env l) :
  Le nt n0 st ⟨envL (l.map fun p=>(p.1,p.2.gc (pos ids))),ids.map fun i=>(st.H.getD i .dead).gc (pos ids)⟩:=fun b a w ρ hb hs=>by
 have hh:=hs.ctx.heap
 let ρ':Pl:=fun j=>(ids[j]?).bind ρ
 have hρ:∀ i j p,pos ids i=some j→ρ i=some p→ρ' j=some p:=fun i j p hij hp=>by
  show (ids[j]?).bind ρ=some p
  rw [Y1g hij]; exact hp
 have back:∀ {j:Nat} {p:Nat×Nat},ρ' j=some p→∃ i,ids[j]? = some i∧ρ i=some p:=fun {j p} h=>by
  have h:(ids[j]?).bind ρ=some p:=h
  cases hi:ids[j]? with
  | none=>rw [hi] at h; cases h
  | some i=>rw [hi] at h; exact ⟨i,rfl,h⟩
 have getH:∀ {j:Nat} {bl:Blk},(ids.map fun i=>(st.H.getD i .dead).gc (pos ids))[j]? = some bl→∃ i,ids[j]? = some i∧bl=(st.H.getD i .dead).gc (pos ids):=fun {j bl} h=>by
  rw [List.getElem?_map] at h
  obtain ⟨i,h1,h2⟩:=Option.map_eq_some_iff.1 h
  exact ⟨i,h1,h2.symm⟩
 have getD:∀ {i:Nat},st.H.getD i .dead ≠ .dead→st.H[i]? = some (st.H.getD i .dead):=fun {i} h=>by
  rw [List.getD_eq_getElem?_getD] at h ⊢
  cases hi:st.H[i]? with
  | none=>rw [hi] at h; exact absurd rfl h
  | some bl=>rfl
 have gcd:∀ {bl:Blk},bl.gc (pos ids) ≠ .dead→bl ≠ .dead:=fun {bl} h h1=>by subst h1; exact h rfl
 have gcu:∀ {bl:Blk},bl.gc (pos ids) ≠ .unborn→bl ≠ .unborn:=fun {bl} h h1=>by subst h1; exact h rfl
 have hO:∀ c,Own b.X ρ' (ids.map fun i=>(st.H.getD i .dead).gc (pos ids)) c→Own b.X ρ st.H c:=fun c hc=>by
  rcases hc with h | ⟨j,p,hp,rfl,bl,hbl,h1,h2⟩
  ·exact .inl h
  ·obtain ⟨i,g1,g2⟩:=back hp
   obtain ⟨i',g3,rfl⟩:=getH hbl
   rw [g1] at g3; cases g3
   exact Zci g2 rfl (getD (gcd h2)) (gcu h1) (gcd h2)
 have rep:∀ {x:AV} {v:Value},Rep w (Own b.X ρ st.H) ρ x v→Rep w (Own b.X ρ' (ids.map fun i=>(st.H.getD i .dead).gc (pos ids))) ρ' (x.gc (pos ids)) v:=fun h=>Ygr h hO hρ
 refine ⟨ρ',⟨⟨⟨fun j p hp=>?_,fun j l' hl'=>?_,fun j es hl'=>?_,fun j k p q bl cl hp hq hpq hbl hcl nb nc=>?_⟩,hs.ctx.xs,hs.ctx.below,hs.ctx.bs⟩,fun t=>?_,hs.size,hs.defers,hs.keep.trans (Zh7 hO),fun i p hp=>?_⟩,hO⟩
 ·obtain ⟨i,g1,g2⟩:=back hp
  obtain ⟨bl,g3,g4⟩:=hh.dom i p g2
  refine ⟨bl.gc (pos ids),by rw [List.getElem?_map,g1]; simp [List.getD_eq_getElem?_getD,g3],?_⟩
  cases bl <;> simp [Blk.gc] at g4 ⊢
 ·obtain ⟨i,g1,g2⟩:=getH hl'
  have hne:st.H.getD i .dead ≠ .dead:=gcd (by rw [← g2]; simp)
  have hg:=getD hne
  generalize st.H.getD i .dead=bl at g2 hg
  cases bl with
  | cells l1 =>
   simp only [Blk.gc,Blk.cells.injEq] at g2
   subst g2
   have hρj:ρ' j=ρ i:=by show (ids[j]?).bind ρ=ρ i; rw [g1]; rfl
   rcases hh.cells i l1 hg with ⟨rfl,h2⟩ | ⟨bk,o,cs,e,k1,k2,k3,k4,k5⟩
   ·exact .inl ⟨by simp [gcL],by rw [hρj]; exact h2⟩
   ·refine .inr ⟨bk,o,cs,e,by rw [hρj]; exact k1,k2,k3,by rw [Zax]; simpa using k4,fun m y hy=>?_⟩
    rw [Zax,List.getElem?_map] at hy
    obtain ⟨z,hz,rfl⟩:=Option.map_eq_some_iff.1 hy
    obtain ⟨v,m1,m2,m3⟩:=k5 m z hz
    exact ⟨v,m1,m2,rep m3⟩
  | _=>cases g2
 ·obtain ⟨i,g1,g2⟩:=getH hl'
  have hne:st.H.getD i .dead ≠ .dead:=gcd (by rw [← g2]; simp)
  have hg:=getD hne
  generalize st.H.getD i .dead=bl at g2 hg
  cases bl with
  | map es1 =>
   simp only [Blk.gc,Blk.map.injEq] at g2
   subst g2
   have hρj:ρ' j=ρ i:=by show (ids[j]?).bind ρ=ρ i; rw [g1]; rfl
   obtain ⟨bk,ms,ck,k1,k2,k3,k4,k5⟩:=hh.map i es1 hg
   refine ⟨bk,ms,ck,by rw [hρj]; exact k1,k2,k3,by simpa using k4,fun m x y me hxy hm=>?_⟩
   rw [List.getElem?_map] at hxy
   obtain ⟨z,hz,hzz⟩:=Option.map_eq_some_iff.1 hxy
   cases hzz
   obtain ⟨q1,q2,q3⟩:=k5 m z.1 z.2 me hz hm
   exact ⟨rep q1,rep q2,q3⟩
  | _=>cases g2
 ·obtain ⟨i,g1,g2⟩:=back hp
  obtain ⟨i',g3,g4⟩:=back hq
  obtain ⟨i2,g5,rfl⟩:=getH hbl
  obtain ⟨i3,g6,rfl⟩:=getH hcl
  rw [g1] at g5; cases g5
  rw [g3] at g6; cases g6
  have:=hh.inj i i' p q _ _ g2 g4 hpq (getD (gcd nb)) (getD (gcd nc)) (gcd nb) (gcd nc)
  subst this
  have hj1:=(List.getElem?_eq_some_iff.1 g1).1
  exact (List.getElem?_inj hj1 hd).1 (g1.trans g3.symm)
 ·show Rep w _ ρ' (envL (l.map fun p=>(p.1,p.2.gc (pos ids))) t) (a.tmps.getD t undef)
  rcases Yaw (l.map fun p=>(p.1,p.2.gc (pos ids))) t with h1 | ⟨p,h1,rfl,h3⟩
  ·rw [h1]; exact .any _
  ·rw [h3]
   obtain ⟨p',h4,rfl⟩:=List.mem_map.1 h1
   show Rep w _ ρ' (p'.2.gc (pos ids)) (a.tmps.getD p'.1 undef)
   rw [← Yiv hl p' h4]
   exact rep (hs.env _)
 ·show (ids[i]?).bind ρ=some p
  rw [h0 i (hb i p hp)]
  exact hs.rho i p hp
end GoAbs
