/- Lemmas for the claim (contracts of the functions that it reaches, and what they compute), without conditions. -/
import Derived.Test.YtiapneoakbealaaGreatK33
set_option linter.unusedVariables false
set_option linter.unusedSimpArgs false
set_option maxRecDepth 10000
set_option maxHeartbeats 2000000
namespace GoAbs
open Go Go.Proofs
set_option maxHeartbeats 8000000
structure GIn (L:List Nd) (d:List UInt8):Prop where
 len:L.length≤5∨L.length=11
 d:d.length≤23
 ok:∀ n,n∈L→n.rew.length≤23∧n.mv.length≤7∧∀ m,m∈n.mv→m.2.length≤23
theorem GIn.le {L:List Nd}{d:List UInt8}(h:GIn L d):L.length≤11:=by have:=h.len; omega
def eC (L:List Nd) (d:List UInt8):Int:=if (L.all ndVa && okB d)=false then 2 else if gFit L d=false then 1 else 0
theorem Z3i {L:List Nd}{d:List UInt8}(h:GIn L d) :
  (eC L d≠0∧SpecV Tryz.prog Z01 [.sl (L.map ndAV),.str (bs d)] (.tup [.nilp,.int .i64 (eC L d)])) ∨
  (eC L d=0∧SpecV Tryz.prog Z01 [.sl (L.map ndAV),.str (bs d)] (.tup [.rp (gmC (toGm L d)),.int .i64 0])∧GmP (toGm L d)∧(toGm L d).nodes.length=L.length∧1≤L.length∧L.length≤5):=by
 have hs:=Yvz (L:=L) (d:=d) (by have:=h.le; omega) h.d h.ok
 unfold gmR at hs
 unfold eC
 by_cases h1:(L.all ndVa && okB d)=false
 ·rw [if_pos h1] at hs ⊢
  exact .inl ⟨by decide,hs⟩
 ·rw [if_neg h1] at hs ⊢
  by_cases h2:gFit L d=false
  ·rw [if_pos h2] at hs ⊢
   exact .inl ⟨by decide,hs⟩
  ·rw [if_neg h2] at hs ⊢
   obtain ⟨g1,g2⟩:=Xg1 (by simpa using h1) (by simpa using h2) h.d h.ok
   rw [g1] at hs
   refine .inr ⟨rfl,hs,g2,by unfold toGm; rw [List.length_map],?_⟩
   have h3:gFit L d=true:=by simpa using h2
   unfold gFit at h3
   simp only [Bool.and_eq_true,decide_eq_true_eq] at h3
   have:=h.len
   omega
theorem Xbx {k:Nat}{v:List Rat}(h:Rb k v) (hk:k≤300000000000):∀ q,q∈v→Tx q.num.natAbs∧Tx q.den:=fun q hq=>⟨Z50 (h q hq).n hk,Z50 (h q hq).d hk⟩
theorem Xa0 {g:Gm}(hg:GmP g) (hn5:g.nodes.length≤5):Rb 2000000000 (valG g):=by
 obtain ⟨q,h1,h2⟩:=Yav hg
 rw [h2]
 exact (Zn8 hg h1.ok hn5).2.2.2.2
theorem wvalue {L:List Nd}{d:List UInt8}(h:GIn L d):SpecV Tryz.prog Ylo [.sl (L.map ndAV),.str (bs d)] (if eC L d=0 then numsR (valG (toGm L d)) else .tup [.nils,.int .i64 (eC L d)]):=by
 rcases Z3i h with ⟨h1,hs⟩ | ⟨h1,hs,hg,hn,hn1,hn5⟩
 ·rw [if_neg h1]
  refine Zad Z4j (by simp) ?_
  unfold Z00
  simp only [go_sem,Zng,Znd]
  refine Zaa hs (by simp only [go_sem]) ?_
  simp only [go_sem,Zl9,Zyy,h1]
 ·rw [if_pos h1]
  have hv:=Yuq hg (by omega) (by omega)
  have hm:=Yc2 (Xbx (Xa0 hg (by omega)) (by omega)) (by rw [Z36 hg]; omega)
  refine Zad Z4j (by simp) ?_
  unfold Z00
  simp only [go_sem,Zng,Znd]
  refine Zaa hs (by simp only [go_sem]) ?_
  simp only [go_sem,Zl9,Zyp]
  refine Zaa hv (by simp only [go_sem]) ?_
  simp only [go_sem]
  refine Zaa hm (by simp only [go_sem]) ?_
  by_cases hN:∀ q,q∈valG (toGm L d)→NumOk q
  ·rw [show numsR (valG (toGm L d)) = .tup [.sl (ss (valG (toGm L d))),.int .i64 0] from if_pos hN]
   simp only [go_sem]
  ·rw [show numsR (valG (toGm L d)) = .tup [.nils,.int .i64 4] from if_neg hN]
   simp only [go_sem]
def bestP (g:Gm) (v:List Rat) (i:Nat):Int:=if (nodeAt g i).kind=1 then (bestA v (nodeAt g i).to 1:Int) else if (nodeAt g i).kind=2 then (bestA v (nodeAt g i).to (-1):Int) else -1
def bestL (g:Gm) (v:List Rat):List Int:=(List.range g.nodes.length).map (bestP g v)
end GoAbs
namespace GoAbs
open Go Go.Proofs
set_option maxHeartbeats 4000000
theorem Y3s {v:List Rat}{j:Nat}(h:j<v.length):(v.map fun q=>AV.agg (rq q))[j]? = some (.agg (rq (rget v j))):=by rw [List.getElem?_map,Zak h]; rfl
end GoAbs
namespace GoAbs
open Go Go.Proofs
set_option maxHeartbeats 8000000
def rndR (g:Gm):Nat→List Rat
 | 0=>List.replicate g.nodes.length 0
 | k+1=>nextR g (rndR g k)
theorem Z9u {g:Gm}:∀ k,(rndR g k).length=g.nodes.length
 | 0=>List.length_replicate
 | k+1=>Ybe
def rndB:Nat→Nat
 | 0=>1
 | k+1=>6*rndB k+331
theorem Yk5:∀ {k:Nat},k≤9→rndB k≤1000000000:=by
 intro k hk
 have:k=0∨k=1∨k=2∨k=3∨k=4∨k=5∨k=6∨k=7∨k=8∨k=9:=by omega
 rcases this with rfl | rfl | rfl | rfl | rfl | rfl | rfl | rfl | rfl | rfl <;> decide
theorem Ypa {g:Gm}(hg:GmOk g):∀ k,Rb (rndB k) (rndR g k)
 | 0=>fun q hq=>by rw [(List.mem_replicate.1 hq).2]; exact Qb.zero (by unfold rndB; omega)
 | k+1=>Y07 hg (Ypa hg k) (Z9u k)
theorem Xcs {n:Nat}{gc:List AV}{r:Int}{K:Ex→St→Prop}(hn:n≤100)
  (hK:∀ e:Nat→AV,e 2 = .int .i64 r→e 8 = .rp gc→e 10 = .osl (some 4) 0 0 n→K (.exit 1) ⟨e,[.cells (rows n (qcell 0))]⟩) :
  T Tryz.prog 53 0 (.loop Zke) ⟨envL [(2,.int .i64 r),(8,.rp gc),(10,.osl (some 4) 0 0 n),(33,.int .i64 (n:Int)),(34,.int .i64 0)],[.cells (rows n z4)]⟩ K:=by
 refine Zaf (fun i:Nat=>⟨envL [(2,.int .i64 r),(8,.rp gc),(10,.osl (some 4) 0 0 n),(33,.int .i64 (n:Int)),(34,.int .i64 (i:Int))],[.cells (rows i (qcell 0)++rows (n - i) z4)]⟩)
  (fun i=>i≤n) (fun i=>n - i) 0 (by omega) (Zab _ (by simp only [go_sem]; simp [rows])) (fun i hi N hN=>?_)
 unfold Zke
 by_cases hin:i<n
 ·have q0:(0:Int)≤(i:Int):=by omega
  have q1:(i:Int)<(n:Int):=by omega
  have e1:IntKind.i64.wrap ((i:Int)+1)=((i+1:Nat):Int):=by rw [Zac (by omega) (by omega)]; omega
  have rl:∀ (m:Nat) (c:List AV),c.length=4→(rows m c).length=m*4:=fun m c hc=>by unfold rows; rw [Z2n (fun d hd=>by rw [(List.mem_replicate.1 hd).2,hc]),List.length_replicate]
  have ql:(qcell 0).length=4:=rfl
  have zl:z4.length=4:=rfl
  have hfit:i*4+4≤(rows i (qcell 0)++rows (n - i) z4).length:=by rw [List.length_append,rl _ _ ql,rl _ _ zl]; omega
  have hset:(rows i (qcell 0)++rows (n - i) z4).take (i*4)++qcell 0++(rows i (qcell 0)++rows (n - i) z4).drop (i*4+4)=rows (i+1) (qcell 0)++rows (n - (i+1)) z4:=by
   have h1:rows (n - i) z4=z4++rows (n - (i+1)) z4:=by
    unfold rows
    rw [show n - i=(n - (i+1))+1 by omega,List.replicate_succ,List.flatten_cons]
   have h2:rows (i+1) (qcell 0)=rows i (qcell 0)++qcell 0:=by
    unfold rows
    rw [List.replicate_succ',List.flatten_append]; simp
   rw [h1,h2,List.take_append_of_le_length (by rw [rl _ _ ql]; omega),List.take_of_length_le (by rw [rl _ _ ql]; omega)]
   rw [show i*4+4=(rows i (qcell 0)).length+z4.length by rw [rl _ _ ql,zl], ← List.append_assoc, ← List.length_append,List.drop_left]
  simp only [go_sem,Zk1,Zq8,Zrw,q0,q1]
  refine Zaa Yjn (by simp only [go_sem]) ?_
  simp only [go_sem,Zaw,ql,hfit,hset,Zrv,e1,Zan]
  exact ⟨q0,q1,hN (i+1) _ (by omega) (by omega) (Zab _ (by simp only [go_sem]))⟩
 ·have hie:i=n:=by omega
  subst hie
  have q1:¬ ((i:Nat):Int)<(i:Int):=by omega
  simp only [go_sem,Zk1,q1]
  have:rows i (qcell 0)++rows (i - i) z4=rows i (qcell 0):=by rw [Nat.sub_self]; simp [rows]
  rw [this]
  exact hK _ (by simp only [go_sem]) (by simp only [go_sem]) (by simp only [go_sem])
theorem Xfp {g:Gm}{r:Nat}{H:Heap}(hg:GmOk g) (hr:r≤8) {K:Ex→St→Prop}
  (hK:∀ e:Nat→AV,e 10 = .sl (condsR (rndR g r))→K (.exit 3) ⟨e,H⟩) :
  T Tryz.prog 53 0 (.loop Zgh) ⟨envL [(8,.rp (gmC g)),(10,.sl (condsR (rndR g 0))),(42,.int .i64 (r:Int)),(43,.int .i64 0)],H⟩ K:=by
 refine Zaf (fun i:Nat=>⟨envL [(8,.rp (gmC g)),(10,.sl (condsR (rndR g i))),(42,.int .i64 (r:Int)),(43,.int .i64 (i:Int))],H⟩)
  (fun i=>i≤r) (fun i=>r - i) 0 (by omega) (Zab _ (by simp only [go_sem]; simp)) (fun i hi N hN=>?_)
 unfold Zgh
 by_cases hin:i<r
 ·have hb:=Ypa hg i
  have hnx:=Yyz hg hb (Z9u i) (by have:=Yk5 (k:=i) (by omega); omega)
  have hs:nextR g (rndR g i)=rndR g (i+1):=rfl
  rw [hs] at hnx
  have q1:(i:Int)<(r:Int):=by omega
  have e1:IntKind.i64.wrap ((i:Int)+1)=((i+1:Nat):Int):=by rw [Zac (by omega) (by omega)]; omega
  simp only [go_sem,Zih,Zrx,q1]
  refine Zaa hnx (by simp only [go_sem]) ?_
  simp only [go_sem,Zr0,e1]
  exact hN (i+1) _ (by omega) (by omega) (Zab _ (by simp only [go_sem]))
 ·have hie:i=r:=by omega
  subst hie
  have q1:¬ ((i:Nat):Int)<(i:Int):=by omega
  simp only [go_sem,Zih,q1]
  exact hK _ (by simp only [go_sem])
def rC (L:List Nd) (d:List UInt8) (r:Int):Int:=if eC L d=0 then (if r<0∨30<r then 1 else 0) else eC L d
theorem wrounds {L:List Nd}{d:List UInt8}{r:Int}(h:GIn L d) (hr:r<0∨30<r∨r≤8) :
  SpecV Tryz.prog Yh8 [.sl (L.map ndAV),.str (bs d),.int .i64 r] (if rC L d r=0 then numsR (rndR (toGm L d) r.toNat) else .tup [.nils,.int .i64 (rC L d r)]):=by
 rcases Z3i h with ⟨h1,hs⟩ | ⟨h1,hs,hg,hn,hn1,hn5⟩
 ·rw [show rC L d r=eC L d from if_neg h1,if_neg h1]
  refine Zba Zmp (by simp) (Zbg 2 rfl ?_)
  unfold Zlt
  simp only [go_sem,Zf8,Zgc]
  refine Zaa hs (by simp only [go_sem]) ?_
  simp only [go_sem,Zc7,Zuf,h1]
 ·rw [show rC L d r=if r<0∨30<r then 1 else 0 from if_pos h1]
  by_cases hbad:r<0∨30<r
  ·rw [if_pos hbad,if_neg (by decide)]
   refine Zba Zmp (by simp) (Zbg 2 rfl ?_)
   unfold Zlt
   simp only [go_sem,Zf8,Zgc]
   refine Zaa hs (by simp only [go_sem]) ?_
   by_cases b1:r<0
   ·simp only [go_sem,Zc7,Zf1,Zll,b1]
   ·have b2:30<r:=by omega
    simp only [go_sem,Zc7,Zf1,Zll,b1,b2]
  ·rw [if_neg hbad,if_pos rfl]
   have b1:¬ r<0:=by omega
   have b2:¬ 30<r:=by omega
   obtain ⟨k,hk⟩:∃ k:Nat,r=k:=⟨r.toNat,by omega⟩
   subst hk
   have hkt:((k:Nat):Int).toNat=k:=by omega
   rw [hkt]
   have hk8:k≤8:=by omega
   generalize toGm L d=g at *
   have hm:=Yc2 (x:=rndR g k) (Xbx ((Ypa hg.ok k).mono (Yk5 (by omega))) (by omega)) (by rw [Z9u]; omega)
   obtain ⟨n,hn'⟩:∃ n,n=L.length:=⟨_,rfl⟩
   have hsz:(64:Int)*(n:Int)≤281474976710656:=by omega
   have z0:(0:Int)≤(n:Int):=by omega
   refine Zba Zmp (by simp) (Zbg 3 rfl ?_)
   unfold Zlt
   simp only [go_sem,Zf8,Zgc]
   refine Zaa hs (by simp only [go_sem]) ?_
   simp only [go_sem,Zc7,Zf1,Ztu,b1,b2,List.length_map]
   rw [← hn']
   simp only [go_sem,hsz,z0,Int.le_refl,Int.toNat_natCast]
   refine ⟨by omega,?_⟩
   refine Zbc (Zbc (T_W ?_))
   simp only [go_sem,Zue]
   rw [show (List.replicate n [AV.bool false,AV.nils,AV.bool false,AV.nils]).flatten=rows n z4 from rfl]
   refine Za8 (Zar [(2,.int .i64 (k:Int)),(8,.rp (gmC g)),(10,.osl (some 4) 0 0 n),(33,.int .i64 (n:Int)),(34,.int .i64 0)] (by simp only [go_sem]) (Xcs (by omega) (fun e k2 k8 k10=>?_)))
   show T Tryz.prog 53 0 (.seq (.seq (.rg false Zij) (.block 3 (.loop Zgh))) (.seq (.rg false Zeo) .ret)) _ _
   have h0:rows n (qcell 0)=qc (rndR g 0):=by
    show _=qc (List.replicate g.nodes.length 0)
    unfold rows qc
    rw [hn, ← hn',List.flatMap_def,List.map_replicate]
   have hl0:n=(rndR g 0).length:=by rw [Z9u,hn,hn']
   rw [h0]
   refine Zp6 [0] [(2,.int .i64 (k:Int)),(8,.rp (gmC g)),(10,.sl (condsR (rndR g 0)))] ?_ ?_
   ·refine ⟨.inr k2,.inr k8,.inl ?_,trivial⟩
    show BV [Blk.cells (qc (rndR g 0))] [0] (e 10) _
    rw [k10]
    have hbv:=Yhy (H := [Blk.cells (qc (rndR g 0))]) (ids := [0]) (b:=0) (r:=rndR g 0) rfl (by simp)
    rw [← hl0] at hbv
    exact hbv
   refine Zbc (Zbc (T_W ?_))
   simp only [go_sem,Zij]
   refine Za8 (Zar [(8,.rp (gmC g)),(10,.sl (condsR (rndR g 0))),(42,.int .i64 (k:Int)),(43,.int .i64 0)] (by simp only [go_sem]) (Xfp hg.ok hk8 (fun e k10=>?_)))
   show T Tryz.prog 53 0 (.seq (.rg false Zeo) .ret) _ _
   refine T_W ?_
   simp only [go_sem,Zeo,k10]
   refine Zaa hm (by simp only [go_sem]) ?_
   by_cases hN:∀ q,q∈rndR g k→NumOk q
   ·rw [show numsR (rndR g k) = .tup [.sl (ss (rndR g k)),.int .i64 0] from if_pos hN]
    simp only [go_sem]
   ·rw [show numsR (rndR g k) = .tup [.nils,.int .i64 4] from if_neg hN]
    simp only [go_sem]
end GoAbs
namespace GoAbs
open Go Go.Proofs
set_option maxHeartbeats 4000000
end GoAbs
namespace GoAbs
open Go Go.Proofs
set_option maxHeartbeats 4000000
def mvC (m:Mv):List AV := [.int .i64 m.1,.str (bs m.2)]
def ndC (n:Nd):List AV := [.int .i64 n.kind,.str (bs n.rew),.sl (n.mv.map mvAV)]
theorem Xbv (M:List Mv):(M.flatMap mvC).length=M.length*2:=by
 induction M with
 | nil=>rfl
 | cons x M ih=>rw [List.flatMap_cons,List.length_append,ih,List.length_cons]; show 2+_=_; omega
theorem Y9i (M:List Nd):(M.flatMap ndC).length=M.length*3:=by
 induction M with
 | nil=>rfl
 | cons x M ih=>rw [List.flatMap_cons,List.length_append,ih,List.length_cons]; show 3+_=_; omega
theorem Y6m {M:List Mv}(f:Nat→Option Nat):gcL f (M.flatMap mvC)=M.flatMap mvC:=by rw [Zax,List.map_flatMap]; rfl
theorem Xeu {M:List Nd}(f:Nat→Option Nat):gcL f (M.flatMap ndC)=M.flatMap ndC:=by rw [Zax,List.map_flatMap]; rfl
theorem Xfi {H:Heap}{ids:List Nat}{b:Nat}{M:List Mv}(hb:H[b]? = some (.cells (M.flatMap mvC))) (hi:b∈ids):BV H ids (.osl (some 2) b 0 M.length) (.sl (M.map mvAV)):=by
 have:=Z6f (H:=H) (ids:=ids) (w:=2) (b:=b) (R:=M.map mvC) hb hi (by rw [List.flatMap_def]) (fun d hd=>by obtain ⟨j,_,rfl⟩:=List.mem_map.1 hd; rfl) (fun d hd=>by
  obtain ⟨j,_,rfl⟩:=List.mem_map.1 hd; exact .cons (.int _ _) (.cons (.str _) .nil))
 rw [List.length_map,List.map_map] at this
 exact this
theorem Xd7 {H:Heap}{ids:List Nat}{b:Nat}{M:List Nd}(hb:H[b]? = some (.cells (M.flatMap ndC))) (hi:b∈ids):BV H ids (.osl (some 3) b 0 M.length) (.sl (M.map ndAV)):=by
 have:=Z6f (H:=H) (ids:=ids) (w:=3) (b:=b) (R:=M.map ndC) hb hi (by rw [List.flatMap_def]) (fun d hd=>by obtain ⟨j,_,rfl⟩:=List.mem_map.1 hd; rfl) (fun d hd=>by
  obtain ⟨j,_,rfl⟩:=List.mem_map.1 hd; exact .cons (.int _ _) (.cons (.str _) (.cons (.sl _) .nil)))
 rw [List.length_map,List.map_map] at this
 exact this
end GoAbs
