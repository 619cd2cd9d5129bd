/- Lemmas for the claim (contracts of the functions that it reaches, and what they compute), without conditions. -/
import Derived.Test.YtiapneoakbealaaGreatK33
set_option linter.unusedVariables false
set_option linter.unusedSimpArgs false
set_option maxRecDepth 10000
set_option maxHeartbeats 2000000
namespace GoAbs
open Go Go.Proofs
set_option maxHeartbeats 8000000
theorem Yhh {p:List Int}:PureH [Blk.cells (ivs p)]:=fun f=>by
 show [Blk.cells (gcL f (ivs p))]=_
 rw [Yui]
theorem Yc7 {g:Gm}{v:List Rat}{who n k:Nat}{p:List Int}(hv:Rb k v) (hk:2*k+1≤1000000000000) (hvl:v.length=n) (hg:GmOk g) (hp:POk0 g p) (hn:n=g.nodes.length) (hw:who=1∨who=2) :
  SpecR Tryz.prog Yi9 [.cells (ivs p)] [.rp (gmC g),.osl none 0 0 n,.sl (condsR v),.int .i64 (who:Int)] (.bool (betC g v who p)) [.cells (ivs (betP g v who p))]:=by
 have gd0:(gmC g)[0]? = some (.sl (g.nodes.map gnAV)):=rfl
 refine Z3p Ye7 (by simp) (Zbd 2 rfl ?_)
 unfold Z7a
 obtain ⟨gc,hgc⟩:∃ gc,gc=gmC g:=⟨_,rfl⟩
 rw [← hgc] at gd0 ⊢
 simp only [go_sem,Zuc,Zui,Zvt]
 refine Za8 (Za8 (T_W ?_))
 simp only [go_sem,Zum,gd0,List.length_map]
 rw [← hn]
 refine Za3 (Zar [(3,.int .i64 (who:Int)),(9,.ptr 3 0),(10,.fn 130 [] [.ptr 2 0,.ptr 1 0,.ptr 3 0]),(19,.sl (g.nodes.map gnAV)),(20,.int .i64 (n:Int)),(21,.int .i64 0)] (by simp only [go_sem])
  (Ywt hv hk hvl hg hp hn hw (fun e k9=>?_)))
 show T Tryz.prog 49 1 (.seq (.rg false Zis) .ret) _ _
 refine T_W ?_
 simp only [go_sem,Zis,k9]
 exact ⟨rfl,_,Zj4 (K := [.cells (ivs (betP g v who p))]) (post := [_,_,_]) (m:=1) rfl (Yhh _) (Nat.le_refl _) [] trivial (fun p hp=>by simp at hp),rfl⟩
theorem Yxk {g:Gm}{v:List Rat}{who:Nat}{p:List Int}(hp:p.length=g.nodes.length) (h:betC g v who p=false):betP g v who p=p:=by
 refine List.ext_getElem? (fun j=>?_)
 by_cases hj:j<g.nodes.length
 ·unfold betP
  rw [List.getElem?_map,List.getElem?_range hj]
  show some (betI g v who p j)=_
  unfold betI
  rw [if_neg (by rw [nobetter h hj]; decide),List.getD_eq_getElem?_getD,List.getElem?_eq_getElem (by omega)]; rfl
 ·rw [List.getElem?_eq_none (by unfold betP; rw [List.length_map,List.length_range]; omega),List.getElem?_eq_none (by omega)]
theorem pval {g:Gm}(hg:GmP g):∀ q,POk0 g q→PVal g q (valP g q):=fun q hq=>Zln hg hq.ok
theorem Yek {g:Gm}{p q r:List Int}(h:Same1 g p q) (k:Same1 g q r):Same1 g p r:=fun i hi h1=>(h i hi h1).trans (k i hi h1)
theorem Y3s {g:Gm}(hg:GmP g):POk0 g (List.replicate g.nodes.length 0):=by
 refine ⟨List.length_replicate,fun i hi=>?_⟩
 have:=(hg.ok.node _ (Zbf hi)).pos
 have e:(List.replicate g.nodes.length (0:Int)).getD i 0=0:=by rw [List.getD_eq_getElem?_getD,List.getElem?_replicate]; split <;> rfl
 rw [e]
 omega
theorem out0 {g:Gm}(hg:GmP g):OutI g (valP g) (none,List.replicate g.nodes.length 0):=⟨Y3s hg,fun q _ _ => .inr trivial⟩
theorem Y1n {g:Gm}(hg:GmP g):∀ (m:Nat) {p:List Int},POk0 g p→mIn g (valP g) p<m→∃ q,POk0 g q∧Same1 g q p∧betC g (valP g q) 2 q=false
 | 0,_,_,h=>absurd h (by omega)
 | m+1,p,hp,h=>by
  cases hc:betC g (valP g p) 2 p with
  | false=>exact ⟨p,hp,fun _ _ _=>rfl,hc⟩
  | true =>
   have h1:=Xff hg (pval hg) hp hc
   obtain ⟨q,h2,h3,h4⟩:=Y1n hg m (Ybs hg (v:=valP g p) (who:=2) hp) (by omega)
   exact ⟨q,h2,Yek h3 Z8o,h4⟩
theorem Ysh {g:Gm}(hg:GmP g):∀ (m:Nat) {s:Option (List Rat)×List Int},OutI g (valP g) s→mOut g (valP g) s<m→∃ q,POk0 g q∧betC g (valP g q) 1 q=false∧betC g (valP g q) 2 q=false
 | 0,_,_,h=>absurd h (by omega)
 | m+1,s,hs,h=>by
  obtain ⟨q,h1,h2,h3⟩:=Y1n hg _ hs.1 (Nat.lt_succ_self _)
  cases hc:betC g (valP g q) 1 q with
  | false=>exact ⟨q,h1,hc,h3⟩
  | true =>
   obtain ⟨h4,h5⟩:=Y7p hg (pval hg) hs h1 h2 h3 hc
   exact Ysh hg m h4 (by omega)
theorem Yc1 {g:Gm}(hg:GmP g):∃ q,POk0 g q∧betC g (valP g q) 1 q=false∧betC g (valP g q) 2 q=false:=Ysh hg _ (out0 hg) (Nat.lt_succ_self _)
open Classical in
noncomputable def valG (g:Gm):List Rat:=if h:GmP g then valP g (Yc1 h).choose else []
theorem Yck {g:Gm}(hg:GmP g):∃ q,POk0 g q∧valG g=valP g q:=by
 unfold valG
 rw [dif_pos hg]
 exact ⟨_,(Yc1 hg).choose_spec.1,rfl⟩
theorem Zjh {g:Gm}(hg:GmP g):(valG g).length=g.nodes.length:=by
 obtain ⟨q,h1,h2⟩:=Yck hg
 rw [h2,(pval hg q h1).1]
theorem Ybf {g:Gm}(hg:GmP g):∀ i,i<g.nodes.length→rget (valG g) i=nextV g (valG g) i:=by
 unfold valG
 rw [dif_pos hg]
 obtain ⟨h1,h2,h3⟩:=(Yc1 hg).choose_spec
 exact Yrs hg h1 (pval hg _ h1) h2 h3
theorem Yk3 {g:Gm}(hg:GmP g) {v:List Rat}(hl:v.length=g.nodes.length) (h:∀ i,i<g.nodes.length→rget v i=nextV g v i):v=valG g :=
 Zwm (by rw [hl,Zjh hg]) (fun i hi=>(Y9v hg).uniq hg.d1 h (Ybf hg) i (by rw [Zjh hg] at hi; exact hi))
theorem Y2s {g:Gm}(hg:GmP g) {p:List Int}(hp:POk0 g p) (h1:betC g (valP g p) 1 p=false) (h2:betC g (valP g p) 2 p=false):valP g p=valG g :=
 Yk3 hg (pval hg p hp).1 (Yrs hg hp (pval hg p hp) h1 h2)
theorem Y5j {g:Gm}{n:Nat}{p0:List Int}(hg:GmP g) (hn:n=g.nodes.length) (hn1:1≤n) (hn5:n≤5) (hp0:POk0 g p0) {K:Ex→St→Prop}
  (hK:∀ (q:List Int) (e:Nat→AV),POk0 g q→Same1 g q p0→betC g (valP g q) 2 q=false→e 0 = .rp (gmC g)→e 3 = .osl none 0 0 n→e 4 = .sl (condsR (valP g q))→K (.exit 2) ⟨e,[.cells (ivs q)]⟩) :
  T Tryz.prog 27 0 (.loop Zmn) ⟨envL [(0,.rp (gmC g)),(3,.osl none 0 0 n),(4,.sl (condsR (valP g p0)))],[.cells (ivs p0)]⟩ K:=by
 refine Zaf (fun p:List Int=>⟨envL [(0,.rp (gmC g)),(3,.osl none 0 0 n),(4,.sl (condsR (valP g p)))],[.cells (ivs p)]⟩)
  (fun p=>POk0 g p∧Same1 g p p0) (fun p=>mIn g (valP g) p) p0 ⟨hp0,fun _ _ _=>rfl⟩ (Zab _ (by simp only [go_sem])) (fun p hI N hN=>?_)
 obtain ⟨hp,hsm⟩:=hI
 unfold Zmn
 have hvl:=(pval hg p hp).1
 have hrb:=(Zn2 hg hp.ok (by omega)).2.2.2.2
 have hbt:=Yc7 (who:=2) hrb (by omega) (by rw [hvl,hn]) hg.ok hp hn (.inr rfl)
 have hq:=Ybs hg (v:=valP g p) (who:=2) hp
 simp only [go_sem,Zxs]
 refine Zdq hbt ?_
 cases hc:betC g (valP g p) 2 p with
 | true =>
  have hpl:=Z6c (pre := [.cells (ivs (betP g (valP g p) 2 p))]) (o:=1) (p:=betP g (valP g p) 2 p) (pl := .osl none 0 0 n) rfl Yhh (by omega) (fun m hm=>by simp only [AV.gc,Zb6 (show 0<m by omega)]) (.inr ⟨by rw [hn],fun X=>rfl⟩) hg hq.ok (by omega) (by omega)
  simp only [go_sem,Zxi]
  refine Zdq hpl ?_
  simp only [go_sem]
  exact hN (betP g (valP g p) 2 p) _ ⟨hq,Yek Z8o hsm⟩ (Xff hg (pval hg) hp hc) (Zab _ (by simp only [go_sem]))
 | false =>
  rw [Yxk hp.1 hc]
  simp only [go_sem]
  exact hK p _ hp hsm hc (by simp only [go_sem]) (by simp only [go_sem]) (by simp only [go_sem])
theorem Yfn {g:Gm}(hg:GmP g) (hn1:1≤g.nodes.length) (hn5:g.nodes.length≤5):SpecV Tryz.prog Yj1 [.rp (gmC g)] (.sl (condsR (valG g))):=by
 obtain ⟨n,hn⟩:∃ n,n=g.nodes.length:=⟨_,rfl⟩
 have gd0:(gmC g)[0]? = some (.sl (g.nodes.map gnAV)):=rfl
 refine Za4 Yjr (by simp) (Zbd 1 rfl ?_)
 unfold Ydh
 obtain ⟨gc,hgc⟩:∃ gc,gc=gmC g:=⟨_,rfl⟩
 have hsz:(8:Int)*(n:Int)≤281474976710656:=by omega
 have z0:(0:Int)≤(n:Int):=by omega
 rw [← hgc] at gd0 ⊢
 simp only [go_sem,Zy6,Zye,gd0,List.length_map]
 rw [← hn]
 simp only [go_sem,hsz,z0,Int.le_refl]
 refine ⟨by omega,?_⟩
 have hzr:(List.replicate n [AV.int .i64 0]).flatten=ivs (List.replicate n 0):=by
  unfold ivs
  rw [List.map_replicate]
  clear hn hsz z0 gd0 hgc
  induction n with
  | zero=>rfl
  | succ n ih=>rw [List.replicate_succ,List.flatten_cons,ih,List.replicate_succ]; rfl
 rw [hzr,hgc]
 have h0:=out0 hg
 rw [← hn] at h0
 refine Za3 (Znx (fun s:Option (List Rat)×List Int=>⟨envL [(0,.rp (gmC g)),(3,.osl none 0 0 n)],[.cells (ivs s.2)]⟩)
  (fun s=>OutI g (valP g) s) (fun s=>mOut g (valP g) s) (none,List.replicate n 0) h0 (Zab _ (by simp only [go_sem])) (fun s hs N hN=>?_))
 obtain ⟨u,p⟩:=s
 have hp:POk0 g p:=hs.1
 have hpl:=Z6c (pre := [.cells (ivs p)]) (o:=1) (p:=p) (pl := .osl none 0 0 n) rfl Yhh (by omega) (fun m hm=>by simp only [AV.gc,Zb6 (show 0<m by omega)]) (.inr ⟨by rw [hn],fun X=>rfl⟩) hg hp.ok (by omega) (by omega)
 unfold Zxt
 refine Za3 (Zbd 0 rfl ?_)
 simp only [go_sem,Zy3]
 refine Zdq hpl ?_
 simp only [go_sem]
 refine Za8 (Za3 (Zar [(0,.rp (gmC g)),(3,.osl none 0 0 n),(4,.sl (condsR (valP g p)))] (by simp only [go_sem]) (Y5j hg hn (by omega) (by omega) hp (fun q e hq hsm h2 k0 k3 k4=>?_))))
 show T Tryz.prog 27 0 (.seq (.rg false Zmp) (.cond (.t 25) (.seq (.rg false Zmr) .ret) .skip)) _ _
 have hvl:=(pval hg q hq).1
 have hrb:=(Zn2 hg hq.ok (by omega)).2.2.2.2
 have hbt:=Yc7 (who:=1) hrb (by omega) (by rw [hvl,hn]) hg.ok hq hn (.inl rfl)
 refine T_W ?_
 simp only [go_sem,Zmp,k0,k3,k4]
 refine Zdq hbt ?_
 cases hc:betC g (valP g q) 1 q with
 | true =>
  obtain ⟨h4,h5⟩:=Y7p hg (pval hg) hs hq hsm h2 hc
  simp only [go_sem]
  exact hN (some (valP g q),betP g (valP g q) 1 q) _ h4 h5 (Zab _ (by simp only [go_sem,k0,k3]))
 | false =>
  rw [← Y2s hg hq hc h2]
  simp only [go_sem,Zmr,k4]
end GoAbs
namespace GoAbs
open Go Go.Proofs
set_option maxHeartbeats 8000000
structure GIn (L:List Nd) (d:List UInt8):Prop where
 len:L.length≤5∨L.length=11
 d:d.length≤23
 ok:∀ n,n∈L→n.rew.length≤23∧n.mv.length≤7∧∀ m,m∈n.mv→m.2.length≤23
theorem GIn.le {L:List Nd}{d:List UInt8}(h:GIn L d):L.length≤11:=by have:=h.len; omega
def eC (L:List Nd) (d:List UInt8):Int:=if (L.all ndVa && okB d)=false then 2 else if gFit L d=false then 1 else 0
theorem Zwv {L:List Nd}{d:List UInt8}(h:GIn L d) :
  (eC L d≠0∧SpecV Tryz.prog Z06 [.sl (L.map ndAV),.str (bs d)] (.tup [.nilp,.int .i64 (eC L d)])) ∨
  (eC L d=0∧SpecV Tryz.prog Z06 [.sl (L.map ndAV),.str (bs d)] (.tup [.rp (gmC (toGm L d)),.int .i64 0])∧GmP (toGm L d)∧(toGm L d).nodes.length=L.length∧1≤L.length∧L.length≤5):=by
 have hs:=Ytg (L:=L) (d:=d) (by have:=h.le; omega) h.d h.ok
 unfold gmR at hs
 unfold eC
 by_cases h1:(L.all ndVa && okB d)=false
 ·rw [if_pos h1] at hs ⊢
  exact .inl ⟨by decide,hs⟩
 ·rw [if_neg h1] at hs ⊢
  by_cases h2:gFit L d=false
  ·rw [if_pos h2] at hs ⊢
   exact .inl ⟨by decide,hs⟩
  ·rw [if_neg h2] at hs ⊢
   obtain ⟨g1,g2⟩:=Xhh (by simpa using h1) (by simpa using h2) h.d h.ok
   rw [g1] at hs
   refine .inr ⟨rfl,hs,g2,by unfold toGm; rw [List.length_map],?_⟩
   have h3:gFit L d=true:=by simpa using h2
   unfold gFit at h3
   simp only [Bool.and_eq_true,decide_eq_true_eq] at h3
   have:=h.len
   omega
theorem Y9k {k:Nat}{v:List Rat}(h:Rb k v) (hk:k≤300000000000):∀ q,q∈v→Tx q.num.natAbs∧Tx q.den:=fun q hq=>⟨Z54 (h q hq).n hk,Z54 (h q hq).d hk⟩
theorem Y0n {g:Gm}(hg:GmP g) (hn5:g.nodes.length≤5):Rb 2000000000 (valG g):=by
 obtain ⟨q,h1,h2⟩:=Yck hg
 rw [h2]
 exact (Zn2 hg h1.ok hn5).2.2.2.2
theorem wvalue {L:List Nd}{d:List UInt8}(h:GIn L d):SpecV Tryz.prog Yl7 [.sl (L.map ndAV),.str (bs d)] (if eC L d=0 then numsR (valG (toGm L d)) else .tup [.nils,.int .i64 (eC L d)]):=by
 rcases Zwv h with ⟨h1,hs⟩ | ⟨h1,hs,hg,hn,hn1,hn5⟩
 ·rw [if_neg h1]
  refine Zad Z4i (by simp) ?_
  unfold Z00
  simp only [go_sem,Zmm,Zm1]
  refine Zaa hs (by simp only [go_sem]) ?_
  simp only [go_sem,Zma,Zzz,h1]
 ·rw [if_pos h1]
  have hv:=Yfn hg (by omega) (by omega)
  have hm:=Ycm (Y9k (Y0n hg (by omega)) (by omega)) (by rw [Zjh hg]; omega)
  refine Zad Z4i (by simp) ?_
  unfold Z00
  simp only [go_sem,Zmm,Zm1]
  refine Zaa hs (by simp only [go_sem]) ?_
  simp only [go_sem,Zma,Zza]
  refine Zaa hv (by simp only [go_sem]) ?_
  simp only [go_sem]
  refine Zaa hm (by simp only [go_sem]) ?_
  by_cases hN:∀ q,q∈valG (toGm L d)→NumOk q
  ·rw [show numsR (valG (toGm L d)) = .tup [.sl (ss (valG (toGm L d))),.int .i64 0] from if_pos hN]
   simp only [go_sem]
  ·rw [show numsR (valG (toGm L d)) = .tup [.nils,.int .i64 4] from if_neg hN]
   simp only [go_sem]
def bestP (g:Gm) (v:List Rat) (i:Nat):Int:=if (nodeAt g i).kind=1 then (bestA v (nodeAt g i).to 1:Int) else if (nodeAt g i).kind=2 then (bestA v (nodeAt g i).to (-1):Int) else -1
def bestL (g:Gm) (v:List Rat):List Int:=(List.range g.nodes.length).map (bestP g v)
theorem Y94 {g:Gm}{v:List Rat}{n k:Nat}(hv:Rb k v) (hk:2*k+1≤1000000000000) (hvl:v.length=n) (hg:GmOk g) (hn:n=g.nodes.length) {K:Ex→St→Prop}
  (hK:∀ e:Nat→AV,e 9 = .osl none 0 0 n→K (.exit 0) ⟨e,[.cells (ivs (bestL g v))]⟩) :
  T Tryz.prog 56 0 (.loop Zqr) ⟨envL [(8,.sl (condsR v)),(9,.osl none 0 0 0),(29,.sl (g.nodes.map gnAV)),(30,.int .i64 (n:Int)),(31,.int .i64 0)],[.cells []]⟩ K:=by
 have hmx:Tryz.prog.follows .mixedOrders=true:=by kernel_rfl
 have hnl:=hg.n
 have hbl:(bestL g v).length=n:=by unfold bestL; rw [List.length_map,List.length_range,hn]
 refine Zaf (fun i:Nat=>⟨envL [(8,.sl (condsR v)),(9,.osl none 0 0 i),(29,.sl (g.nodes.map gnAV)),(30,.int .i64 (n:Int)),(31,.int .i64 (i:Int))],[.cells (ivs ((bestL g v).take i))]⟩)
  (fun i=>i≤n) (fun i=>n - i) 0 (by omega) (Zab _ (by simp only [go_sem]; simp)) (fun i hi N hN=>?_)
 unfold Zqr
 by_cases hin:i<n
 ·have hig:i<g.nodes.length:=by omega
  obtain ⟨x,hx⟩:∃ x,g.nodes[i]? = some x:=⟨_,List.getElem?_eq_getElem hig⟩
  have hxa:nodeAt g i=x:=by unfold nodeAt; rw [List.getD_eq_getElem?_getD,hx]; rfl
  have hxg:(g.nodes.map gnAV)[i]? = some (gnAV x):=by rw [List.getElem?_map,hx]; rfl
  have hok:=hg.node x (List.mem_of_getElem? hx)
  have hlen:=hok.len
  have hb:=fun sg=>Z4c (sg:=sg) (to:=x.to) hv hk (fun y hy=>by rw [hvl,hn]; exact hok.lt y hy) hok.pos (by omega) (by omega)
  have hnx:(bestL g v)[i]? = some (bestP g v i):=by unfold bestL; rw [List.getElem?_map,List.getElem?_range hig]; rfl
  have hbp:bestP g v i=if x.kind=1 then (bestA v x.to 1:Int) else if x.kind=2 then (bestA v x.to (-1):Int) else -1:=by unfold bestP; rw [hxa]
  have tk:ivs ((bestL g v).take (i+1))=ivs ((bestL g v).take i) ++ [.int .i64 (bestP g v i)]:=by rw [List.take_add_one,hnx]; simp [ivs]
  have l1:(ivs ((bestL g v).take i)).length=i:=by rw [Zaq,List.length_take]; omega
  have l2:(ivs ((bestL g v).take i)).take i=ivs ((bestL g v).take i):=List.take_of_length_le (by omega)
  have q0:(0:Int)≤(i:Int):=by omega
  have q1:(i:Int)<(n:Int):=by omega
  have s1:(i+1)*8≤1099511627776:=by omega
  have e1:IntKind.i64.wrap ((i:Int)+1)=((i+1:Nat):Int):=by rw [Zac (by omega) (by omega)]; omega
  have xc:(gnAV x).cells = [gnAV x]:=by unfold gnAV; split; rfl; split <;> rfl
  have fin:∀ (e:Nat→AV) (K:Heap) (z:Int) (b:Nat),z=bestP g v i→K.length=b→Has e [(8,.sl (condsR v)),(9,.osl none b 0 (i+1)),(29,.sl (g.nodes.map gnAV)),(30,.int .i64 (n:Int)),(31,.int .i64 ((i+1:Nat):Int))] →
    N ⟨e,K ++ [.cells (ivs ((bestL g v).take i) ++ [.int .i64 z])]⟩:=fun e K z b hz hb he=>by
   subst hz
   refine hN (i+1) _ (by omega) (by omega) (Zcg (Zht [b] (by simp) (fun i hi=>by omega) [(8,.sl (condsR v)),(9,.osl none b 0 (i+1)),(29,.sl (g.nodes.map gnAV)),(30,.int .i64 (n:Int)),(31,.int .i64 ((i+1:Nat):Int))] he) ?_)
   rw [← tk]
   have hg:(K ++ [Blk.cells (ivs ((bestL g v).take (i+1)))]).getD b .dead = .cells (ivs ((bestL g v).take (i+1))):=by
    rw [List.getD_eq_getElem?_getD,List.getElem?_append_right (by omega),hb,Nat.sub_self]; rfl
   simp only [List.map_cons,List.map_nil,hg,Blk.gc,Yui,AV.gc]
   simp [pos]
  generalize ivs ((bestL g v).take i)=cs at *
  by_cases k1:x.kind=1
  ·have hgx:gnAV x = .ifc 129 (.agg [.sl (ivs (nv x.to))]):=by unfold gnAV; rw [if_pos k1]
   rw [if_pos k1] at hbp
   rw [hgx] at hxg xc
   simp only [go_sem,Zfi,Zi7,Zg2,Zhc,Zhn,Zy4,Zxj,q0,q1,hxg,xc,List.length_map,List.cons_append,List.nil_append]
   refine Zaa (hb 1) (by simp only [go_sem]) ?_
   simp only [go_sem,Zha,Zg4,s1,l1,l2,e1,Nat.mul_one,Nat.le_refl]
   exact fin _ [_,_,_] _ 3 hbp.symm rfl (by simp only [go_sem])
  ·by_cases k2:x.kind=2
   ·have hgx:gnAV x = .ifc 131 (.agg [.sl (ivs (nv x.to))]):=by unfold gnAV; rw [if_neg k1,if_pos k2]
    rw [if_neg k1,if_pos k2] at hbp
    rw [hgx] at hxg xc
    simp only [go_sem,Zfi,Zi7,Zg2,Zhc,Zhn,Zm0,Zzw,Zw9,q0,q1,hxg,xc,List.length_map,List.cons_append,List.nil_append]
    refine Zaa (hb (-1)) (by simp only [go_sem]) ?_
    simp only [go_sem,Zha,Zg4,s1,l1,l2,e1,Nat.mul_one,Nat.le_refl]
    exact fin _ [_,_,_] _ 3 hbp.symm rfl (by simp only [go_sem])
   ·have hgx:gnAV x = .ifc 140 (.agg [.sl (ivs (nv x.to)),.sl (condsR x.odds)]):=by unfold gnAV; rw [if_neg k1,if_neg k2]
    rw [if_neg k1,if_neg k2] at hbp
    rw [hgx] at hxg xc
    simp only [go_sem,Zfi,Zi7,Zg2,Zhc,Zhn,Zm0,Zha,Zg4,q0,q1,hxg,xc,List.length_map,s1,l1,l2,e1,Nat.mul_one,Nat.le_refl]
    exact fin _ [_,_] _ 2 hbp.symm rfl (by simp only [go_sem])
 ·have hie:i=n:=by omega
  subst hie
  have q1:¬ ((i:Nat):Int)<(i:Int):=by omega
  simp only [go_sem,Zfi,q1]
  rw [List.take_of_length_le (by omega)]
  exact hK _ (by simp only [go_sem])
theorem wbest {L:List Nd}{d:List UInt8}(h:GIn L d):SpecV Tryz.prog Ynv [.sl (L.map ndAV),.str (bs d)] (if eC L d=0 then .tup [.sl (ivs (bestL (toGm L d) (valG (toGm L d)))),.int .i64 0] else .tup [.nils,.int .i64 (eC L d)]):=by
 rcases Zwv h with ⟨h1,hs⟩ | ⟨h1,hs,hg,hn,hn1,hn5⟩
 ·rw [if_neg h1]
  refine Za4 Z71 (by simp) (Zbd 2 rfl ?_)
  unfold Z6j
  simp only [go_sem,Zp4,Zo8]
  refine Zaa hs (by simp only [go_sem]) ?_
  simp only [go_sem,Zog,Z3m,h1]
 ·rw [if_pos h1]
  have hv:=Yfn hg (by omega) (by omega)
  have hrb:=Y0n hg (by omega)
  have hvl:=Zjh hg
  generalize valG (toGm L d)=v at *
  generalize toGm L d=g at *
  obtain ⟨n,hn'⟩:∃ n,n=g.nodes.length:=⟨_,rfl⟩
  have gd0:(gmC g)[0]? = some (.sl (g.nodes.map gnAV)):=rfl
  refine Za4 Z71 (by simp) (Zbd 4 rfl ?_)
  unfold Z6j
  obtain ⟨gc,hgc⟩:∃ gc,gc=gmC g:=⟨_,rfl⟩
  rw [← hgc] at gd0 hs hv
  simp only [go_sem,Zp4,Zo8]
  refine Zaa hs (by simp only [go_sem]) ?_
  simp only [go_sem,Zog,Z4v]
  refine Zaa hv (by simp only [go_sem]) ?_
  simp only [go_sem,Z41]
  refine T_le (Zjm 9 none (by simp only [go_sem]) [(6,.rp gc),(8,.sl (condsR v))] (by simp only [go_sem])) ?_
  refine Za8 (Za8 (T_W ?_))
  simp only [go_sem,Z2p,gd0,List.length_map]
  rw [← hn']
  refine Za3 (Zar [(8,.sl (condsR v)),(9,.osl none 0 0 0),(29,.sl (g.nodes.map gnAV)),(30,.int .i64 (n:Int)),(31,.int .i64 0)] (by simp only [go_sem]) (Y94 hrb (by omega) (by omega) hg.ok hn' (fun e k9=>?_)))
  show T Tryz.prog 56 0 (.seq (.rg false Zmd) .ret) _ _
  refine T_W ?_
  simp only [go_sem,Zmd,k9]
  have hbl:(bestL g v).length=n:=by unfold bestL; rw [List.length_map,List.length_range,hn']
  rw [← hbl]
  exact Yw8 rfl (by simp [allOf])
end GoAbs
namespace GoAbs
open Go Go.Proofs
set_option maxHeartbeats 4000000
structure NdG (N:Nat) (n:Nd):Prop where
 ok:GnOk N (toGN n)
 kind:n.kind=((toGN n).kind:Int)
 len:n.mv.length=(toGN n).to.length
 to:∀ k m,n.mv[k]? = some m→m.1=((toGN n).to.getD k 0:Int)∧m.2.length≤23∧((toGN n).kind=3→parseL m.2=some (rget (toGN n).odds k))
 rew:n.rew.length≤23
 rq:parseL n.rew=some ((parseL n.rew).getD 0)∧Fitd 12 ((parseL n.rew).getD 0)
theorem Xdk {N:Nat}{n:Nd}(hv:ndVa n=true) (hf:ndFi N n=true) (hl:n.rew.length≤23∧n.mv.length≤7∧∀ m,m∈n.mv→m.2.length≤23):NdG N n:=by
 have hok:=(Xe7 hv hf hl).2.1
 unfold ndVa at hv
 rw [Bool.and_eq_true] at hv
 unfold ndFi at hf
 simp only [Bool.and_eq_true,decide_eq_true_eq] at hf
 obtain ⟨⟨⟨f1,f2⟩,f3⟩,f4⟩:=hf
 have hk:n.kind=1∨n.kind=2∨n.kind=3:=by
  unfold kindF at f4
  simp only [Bool.or_eq_true,Bool.and_eq_true,decide_eq_true_eq] at f4
  omega
 have hkk:n.kind=((toGN n).kind:Int):=by show n.kind=(n.kind.toNat:Int); omega
 have hm:∀ m,m∈n.mv→0≤m.1∧(!m.2.isEmpty)=decide (n.kind=3)∧(m.2.isEmpty=false→okB m.2=true):=fun m hmm=>by
  have a:=List.all_eq_true.1 f2 m hmm
  have b:=List.all_eq_true.1 hv.2 m hmm
  unfold mvFit mvFit1 at a
  simp only [Bool.and_eq_true,decide_eq_true_eq,beq_iff_eq,Bool.or_eq_true] at a b
  refine ⟨a.1.1.1,a.1.2,fun he=>?_⟩
  rcases b with b | b
  ·rw [b] at he; exact absurd he (by decide)
  ·exact b
 refine ⟨hok,hkk,by show _=(n.mv.map _).length; rw [List.length_map],fun k m hkm=>?_,hl.1,okBq hv.1,Z5u f1⟩
 have hmm:=List.mem_of_getElem? hkm
 obtain ⟨a1,a2,a3⟩:=hm m hmm
 refine ⟨?_,hl.2.2 m hmm,fun h3=>?_⟩
 ·show m.1=(((n.mv.map (·.1.toNat)).getD k 0:Nat):Int)
  rw [List.getD_eq_getElem?_getD,List.getElem?_map,hkm]
  show m.1=((m.1.toNat:Nat):Int)
  omega
 ·have h3':n.kind=3:=by omega
  have hfl:n.mv.filter hasO=n.mv:=List.filter_eq_self.2 fun m hmm=>by
   have:=(hm m hmm).2.1
   rw [h3'] at this
   unfold hasO
   rw [this]; rfl
  have he:m.2.isEmpty=false:=by rw [h3'] at a2; simpa using a2
  have:rget (toGN n).odds k=(parseL m.2).getD 0:=by
   show rget ((n.mv.filter hasO).map _) k=_
   rw [hfl]
   unfold rget
   rw [List.getD_eq_getElem?_getD,List.getElem?_map,hkm]; rfl
  rw [this]
  exact okBq (a3 he)
theorem Y5b {v:List Rat}{j:Nat}(h:j<v.length):(v.map fun q=>AV.agg (rq q))[j]? = some (.agg (rq (rget v j))):=by rw [List.getElem?_map,Zai h]; rfl
end GoAbs
namespace GoAbs
open Go Go.Proofs
set_option maxHeartbeats 8000000
def rndR (g:Gm):Nat→List Rat
 | 0=>List.replicate g.nodes.length 0
 | k+1=>nextR g (rndR g k)
theorem Yaa {g:Gm}:∀ k,(rndR g k).length=g.nodes.length
 | 0=>List.length_replicate
 | k+1=>Yda
def rndB:Nat→Nat
 | 0=>1
 | k+1=>6*rndB k+331
theorem Yke:∀ {k:Nat},k≤9→rndB k≤1000000000:=by
 intro k hk
 have:k=0∨k=1∨k=2∨k=3∨k=4∨k=5∨k=6∨k=7∨k=8∨k=9:=by omega
 rcases this with rfl | rfl | rfl | rfl | rfl | rfl | rfl | rfl | rfl | rfl <;> decide
theorem Yo6 {g:Gm}(hg:GmOk g):∀ k,Rb (rndB k) (rndR g k)
 | 0=>fun q hq=>by rw [(List.mem_replicate.1 hq).2]; exact Qb.zero (by unfold rndB; omega)
 | k+1=>Yxj hg (Yo6 hg k) (Yaa k)
theorem Xej {n:Nat}{gc:List AV}{r:Int}{K:Ex→St→Prop}(hn:n≤100)
  (hK:∀ e:Nat→AV,e 2 = .int .i64 r→e 8 = .rp gc→e 10 = .osl (some 4) 0 0 n→K (.exit 1) ⟨e,[.cells (rows n (qcell 0))]⟩) :
  T Tryz.prog 53 0 (.loop Zkl) ⟨envL [(2,.int .i64 r),(8,.rp gc),(10,.osl (some 4) 0 0 n),(33,.int .i64 (n:Int)),(34,.int .i64 0)],[.cells (rows n z4)]⟩ K:=by
 refine Zaf (fun i:Nat=>⟨envL [(2,.int .i64 r),(8,.rp gc),(10,.osl (some 4) 0 0 n),(33,.int .i64 (n:Int)),(34,.int .i64 (i:Int))],[.cells (rows i (qcell 0)++rows (n - i) z4)]⟩)
  (fun i=>i≤n) (fun i=>n - i) 0 (by omega) (Zab _ (by simp only [go_sem]; simp [rows])) (fun i hi N hN=>?_)
 unfold Zkl
 by_cases hin:i<n
 ·have q0:(0:Int)≤(i:Int):=by omega
  have q1:(i:Int)<(n:Int):=by omega
  have e1:IntKind.i64.wrap ((i:Int)+1)=((i+1:Nat):Int):=by rw [Zac (by omega) (by omega)]; omega
  have rl:∀ (m:Nat) (c:List AV),c.length=4→(rows m c).length=m*4:=fun m c hc=>by unfold rows; rw [Z35 (fun d hd=>by rw [(List.mem_replicate.1 hd).2,hc]),List.length_replicate]
  have ql:(qcell 0).length=4:=rfl
  have zl:z4.length=4:=rfl
  have hfit:i*4+4≤(rows i (qcell 0)++rows (n - i) z4).length:=by rw [List.length_append,rl _ _ ql,rl _ _ zl]; omega
  have hset:(rows i (qcell 0)++rows (n - i) z4).take (i*4)++qcell 0++(rows i (qcell 0)++rows (n - i) z4).drop (i*4+4)=rows (i+1) (qcell 0)++rows (n - (i+1)) z4:=by
   have h1:rows (n - i) z4=z4++rows (n - (i+1)) z4:=by
    unfold rows
    rw [show n - i=(n - (i+1))+1 by omega,List.replicate_succ,List.flatten_cons]
   have h2:rows (i+1) (qcell 0)=rows i (qcell 0)++qcell 0:=by
    unfold rows
    rw [List.replicate_succ',List.flatten_append]; simp
   rw [h1,h2,List.take_append_of_le_length (by rw [rl _ _ ql]; omega),List.take_of_length_le (by rw [rl _ _ ql]; omega)]
   rw [show i*4+4=(rows i (qcell 0)).length+z4.length by rw [rl _ _ ql,zl], ← List.append_assoc, ← List.length_append,List.drop_left]
  simp only [go_sem,Zjr,Zrh,Zro,q0,q1]
  refine Zaa Yj8 (by simp only [go_sem]) ?_
  simp only [go_sem,Zaw,ql,hfit,hset,Zq2,e1,Zao]
  exact ⟨q0,q1,hN (i+1) _ (by omega) (by omega) (Zab _ (by simp only [go_sem]))⟩
 ·have hie:i=n:=by omega
  subst hie
  have q1:¬ ((i:Nat):Int)<(i:Int):=by omega
  simp only [go_sem,Zjr,q1]
  have:rows i (qcell 0)++rows (i - i) z4=rows i (qcell 0):=by rw [Nat.sub_self]; simp [rows]
  rw [this]
  exact hK _ (by simp only [go_sem]) (by simp only [go_sem]) (by simp only [go_sem])
theorem Xd7 {g:Gm}{r:Nat}{H:Heap}(hg:GmOk g) (hr:r≤8) {K:Ex→St→Prop}
  (hK:∀ e:Nat→AV,e 10 = .sl (condsR (rndR g r))→K (.exit 3) ⟨e,H⟩) :
  T Tryz.prog 53 0 (.loop Zfl) ⟨envL [(8,.rp (gmC g)),(10,.sl (condsR (rndR g 0))),(42,.int .i64 (r:Int)),(43,.int .i64 0)],H⟩ K:=by
 refine Zaf (fun i:Nat=>⟨envL [(8,.rp (gmC g)),(10,.sl (condsR (rndR g i))),(42,.int .i64 (r:Int)),(43,.int .i64 (i:Int))],H⟩)
  (fun i=>i≤r) (fun i=>r - i) 0 (by omega) (Zab _ (by simp only [go_sem]; simp)) (fun i hi N hN=>?_)
 unfold Zfl
 by_cases hin:i<r
 ·have hb:=Yo6 hg i
  have hnx:=Ywz hg hb (Yaa i) (by have:=Yke (k:=i) (by omega); omega)
  have hs:nextR g (rndR g i)=rndR g (i+1):=rfl
  rw [hs] at hnx
  have q1:(i:Int)<(r:Int):=by omega
  have e1:IntKind.i64.wrap ((i:Int)+1)=((i+1:Nat):Int):=by rw [Zac (by omega) (by omega)]; omega
  simp only [go_sem,Zid,Zqx,q1]
  refine Zaa hnx (by simp only [go_sem]) ?_
  simp only [go_sem,Zri,e1]
  exact hN (i+1) _ (by omega) (by omega) (Zab _ (by simp only [go_sem]))
 ·have hie:i=r:=by omega
  subst hie
  have q1:¬ ((i:Nat):Int)<(i:Int):=by omega
  simp only [go_sem,Zid,q1]
  exact hK _ (by simp only [go_sem])
def rC (L:List Nd) (d:List UInt8) (r:Int):Int:=if eC L d=0 then (if r<0∨30<r then 1 else 0) else eC L d
theorem wrounds {L:List Nd}{d:List UInt8}{r:Int}(h:GIn L d) (hr:r<0∨30<r∨r≤8) :
  SpecV Tryz.prog Yi8 [.sl (L.map ndAV),.str (bs d),.int .i64 r] (if rC L d r=0 then numsR (rndR (toGm L d) r.toNat) else .tup [.nils,.int .i64 (rC L d r)]):=by
 rcases Zwv h with ⟨h1,hs⟩ | ⟨h1,hs,hg,hn,hn1,hn5⟩
 ·rw [show rC L d r=eC L d from if_neg h1,if_neg h1]
  refine Za4 Zmc (by simp) (Zbd 2 rfl ?_)
  unfold Zlx
  simp only [go_sem,Zgf,Zf7]
  refine Zaa hs (by simp only [go_sem]) ?_
  simp only [go_sem,Zc1,Zvk,h1]
 ·rw [show rC L d r=if r<0∨30<r then 1 else 0 from if_pos h1]
  by_cases hbad:r<0∨30<r
  ·rw [if_pos hbad,if_neg (by decide)]
   refine Za4 Zmc (by simp) (Zbd 2 rfl ?_)
   unfold Zlx
   simp only [go_sem,Zgf,Zf7]
   refine Zaa hs (by simp only [go_sem]) ?_
   by_cases b1:r<0
   ·simp only [go_sem,Zc1,Zga,Zkv,b1]
   ·have b2:30<r:=by omega
    simp only [go_sem,Zc1,Zga,Zkv,b1,b2]
  ·rw [if_neg hbad,if_pos rfl]
   have b1:¬ r<0:=by omega
   have b2:¬ 30<r:=by omega
   obtain ⟨k,hk⟩:∃ k:Nat,r=k:=⟨r.toNat,by omega⟩
   subst hk
   have hkt:((k:Nat):Int).toNat=k:=by omega
   rw [hkt]
   have hk8:k≤8:=by omega
   generalize toGm L d=g at *
   have hm:=Ycm (x:=rndR g k) (Y9k ((Yo6 hg.ok k).mono (Yke (by omega))) (by omega)) (by rw [Yaa]; omega)
   obtain ⟨n,hn'⟩:∃ n,n=L.length:=⟨_,rfl⟩
   have hsz:(64:Int)*(n:Int)≤281474976710656:=by omega
   have z0:(0:Int)≤(n:Int):=by omega
   refine Za4 Zmc (by simp) (Zbd 3 rfl ?_)
   unfold Zlx
   simp only [go_sem,Zgf,Zf7]
   refine Zaa hs (by simp only [go_sem]) ?_
   simp only [go_sem,Zc1,Zga,Zt3,b1,b2,List.length_map]
   rw [← hn']
   simp only [go_sem,hsz,z0,Int.le_refl,Int.toNat_natCast]
   refine ⟨by omega,?_⟩
   refine Za8 (Za8 (T_W ?_))
   simp only [go_sem,Zvx]
   rw [show (List.replicate n [AV.bool false,AV.nils,AV.bool false,AV.nils]).flatten=rows n z4 from rfl]
   refine Za3 (Zar [(2,.int .i64 (k:Int)),(8,.rp (gmC g)),(10,.osl (some 4) 0 0 n),(33,.int .i64 (n:Int)),(34,.int .i64 0)] (by simp only [go_sem]) (Xej (by omega) (fun e k2 k8 k10=>?_)))
   show T Tryz.prog 53 0 (.seq (.seq (.rg false Zil) (.block 3 (.loop Zfl))) (.seq (.rg false Zee) .ret)) _ _
   have h0:rows n (qcell 0)=qc (rndR g 0):=by
    show _=qc (List.replicate g.nodes.length 0)
    unfold rows qc
    rw [hn, ← hn',List.flatMap_def,List.map_replicate]
   have hl0:n=(rndR g 0).length:=by rw [Yaa,hn,hn']
   rw [h0]
   refine Zw0 [0] [(2,.int .i64 (k:Int)),(8,.rp (gmC g)),(10,.sl (condsR (rndR g 0)))] ?_ ?_
   ·refine ⟨.inr k2,.inr k8,.inl ?_,trivial⟩
    show BV [Blk.cells (qc (rndR g 0))] [0] (e 10) _
    rw [k10]
    have hbv:=Yim (H := [Blk.cells (qc (rndR g 0))]) (ids := [0]) (b:=0) (r:=rndR g 0) rfl (by simp)
    rw [← hl0] at hbv
    exact hbv
   refine Za8 (Za8 (T_W ?_))
   simp only [go_sem,Zil]
   refine Za3 (Zar [(8,.rp (gmC g)),(10,.sl (condsR (rndR g 0))),(42,.int .i64 (k:Int)),(43,.int .i64 0)] (by simp only [go_sem]) (Xd7 hg.ok hk8 (fun e k10=>?_)))
   show T Tryz.prog 53 0 (.seq (.rg false Zee) .ret) _ _
   refine T_W ?_
   simp only [go_sem,Zee,k10]
   refine Zaa hm (by simp only [go_sem]) ?_
   by_cases hN:∀ q,q∈rndR g k→NumOk q
   ·rw [show numsR (rndR g k) = .tup [.sl (ss (rndR g k)),.int .i64 0] from if_pos hN]
    simp only [go_sem]
   ·rw [show numsR (rndR g k) = .tup [.nils,.int .i64 4] from if_neg hN]
    simp only [go_sem]
end GoAbs
namespace GoAbs
open Go Go.Proofs
set_option maxHeartbeats 4000000
end GoAbs
namespace GoAbs
open Go Go.Proofs
set_option maxHeartbeats 4000000
def mvC (m:Mv):List AV := [.int .i64 m.1,.str (bs m.2)]
def ndC (n:Nd):List AV := [.int .i64 n.kind,.str (bs n.rew),.sl (n.mv.map mvAV)]
theorem Y9d (M:List Mv):(M.flatMap mvC).length=M.length*2:=by
 induction M with
 | nil=>rfl
 | cons x M ih=>rw [List.flatMap_cons,List.length_append,ih,List.length_cons]; show 2+_=_; omega
theorem Xae (M:List Nd):(M.flatMap ndC).length=M.length*3:=by
 induction M with
 | nil=>rfl
 | cons x M ih=>rw [List.flatMap_cons,List.length_append,ih,List.length_cons]; show 3+_=_; omega
theorem Y7n {M:List Mv}(f:Nat→Option Nat):gcL f (M.flatMap mvC)=M.flatMap mvC:=by rw [Za5,List.map_flatMap]; rfl
theorem Xf2 {M:List Nd}(f:Nat→Option Nat):gcL f (M.flatMap ndC)=M.flatMap ndC:=by rw [Za5,List.map_flatMap]; rfl
theorem Xe3 {H:Heap}{ids:List Nat}{b:Nat}{M:List Mv}(hb:H[b]? = some (.cells (M.flatMap mvC))) (hi:b∈ids):BV H ids (.osl (some 2) b 0 M.length) (.sl (M.map mvAV)):=by
 have:=Z56 (H:=H) (ids:=ids) (w:=2) (b:=b) (R:=M.map mvC) hb hi (by rw [List.flatMap_def]) (fun d hd=>by obtain ⟨j,_,rfl⟩:=List.mem_map.1 hd; rfl) (fun d hd=>by
  obtain ⟨j,_,rfl⟩:=List.mem_map.1 hd; exact .cons (.int _ _) (.cons (.str _) .nil))
 rw [List.length_map,List.map_map] at this
 exact this
theorem Xfp {H:Heap}{ids:List Nat}{b:Nat}{M:List Nd}(hb:H[b]? = some (.cells (M.flatMap ndC))) (hi:b∈ids):BV H ids (.osl (some 3) b 0 M.length) (.sl (M.map ndAV)):=by
 have:=Z56 (H:=H) (ids:=ids) (w:=3) (b:=b) (R:=M.map ndC) hb hi (by rw [List.flatMap_def]) (fun d hd=>by obtain ⟨j,_,rfl⟩:=List.mem_map.1 hd; rfl) (fun d hd=>by
  obtain ⟨j,_,rfl⟩:=List.mem_map.1 hd; exact .cons (.int _ _) (.cons (.str _) (.cons (.sl _) .nil)))
 rw [List.length_map,List.map_map] at this
 exact this
end GoAbs
