/- Lemmas for the claim (contracts of the functions that it reaches, and what they compute), without conditions. -/
import Derived.Test.YtiapneoakbealaaGreatK33
import Derived.Test.YtiapneoakbealaaGreatProg
import Derived.KernelRfl
set_option linter.unusedVariables false
set_option linter.unusedSimpArgs false
set_option maxRecDepth 10000
set_option maxHeartbeats 2000000
namespace GoAbs
open Go Go.Proofs
set_option maxHeartbeats 8000000
theorem Xgn {pre:Heap}{o n0 n:Nat}{g:Gm}{p:List Int}{pl:AV}(hpre:pre.length=o) (hclo:∀ m,Clo m pre) (hn0:n0≤o) (hol:o≤1) (hpgc:∀ m,o+1≤m→pl.gc (pos (List.range m))=pl)
  (hpl:pl = .sl (ivs p)∨(pl = .osl none 0 0 n∧∀ X,(pre++X)[0]? = some (.cells (ivs p)))) (hg:GmOk g) (hp:POk g p) (hn:n=g.nodes.length) {K:Ex→St→Prop}
  (hK:∀ e:Nat→AV,e 0 = .rp (gmC g)→e 5 = .osl none o 0 n→K (.exit 0) ⟨e,pre++matH o n (planM g p n)⟩) :
  T Tryz.prog 112 n0 (.loop Zmd) ⟨envL [(0,.rp (gmC g)),(1,pl),(5,.osl none o 0 n),(27,.sl (g.nodes.map gnAV)),(28,.int .i64 (n:Int)),(29,.int .i64 0)],pre++matH o n (planM g p 0)⟩ K:=by
 have hmx:Tryz.prog.follows .mixedOrders=true:=by kernel_rfl
 have hnl:=hg.n
 refine Zaf (fun i:Nat=>⟨envL [(0,.rp (gmC g)),(1,pl),(5,.osl none o 0 n),(27,.sl (g.nodes.map gnAV)),(28,.int .i64 (n:Int)),(29,.int .i64 (i:Int))],pre++matH o n (planM g p i)⟩)
  (fun i=>i≤n) (fun i=>n - i) 0 (by omega) (Zab _ (by simp only [go_sem]; simp)) (fun i hi N hN=>?_)
 unfold Zmd
 by_cases hin:i<n
 ·have hig:i<g.nodes.length:=by omega
  obtain ⟨w1,w2,w3⟩:=Z48 hg (p:=p) (k:=i) (by omega)
  have hnx:planM g p (i+1)=nodeM g p (planM g p i) i:=rfl
  obtain ⟨x,hx⟩:∃ x,g.nodes[i]? = some x:=⟨_,List.getElem?_eq_getElem hig⟩
  have hxa:nodeAt g i=x:=by unfold nodeAt; rw [List.getD_eq_getElem?_getD,hx]; rfl
  have hxg:(g.nodes.map gnAV)[i]? = some (gnAV x):=by rw [List.getElem?_map,hx]; rfl
  have hok:=hg.node x (List.mem_of_getElem? hx)
  have hlt:=hp.lt hig
  have hp2:=hp.2 i hig
  have hpl1:=hp.1
  rw [hxa] at hlt hp2
  rw [← hn] at w1 w2 hok
  have q0:(0:Int)≤(i:Int):=by omega
  have q1:(i:Int)<(n:Int):=by omega
  have e1:IntKind.i64.wrap ((i:Int)+1)=((i+1:Nat):Int):=by rw [Zac (by omega) (by omega)]; omega
  have ql:∀ q:Rat,(qcell q).length=4:=fun q=>rfl
  have qt:∀ q:Rat,(qcell q).take 4=qcell q:=fun q=>rfl
  have qd:∀ q:Rat,(qcell q).drop 4 = []:=fun q=>rfl
  have gd2:(gmC g).drop 2=qcell g.d:=rfl
  have gd0:(gmC g)[0]? = some (.sl (g.nodes.map gnAV)):=rfl
  have gcg:∀ f,gcL f (gmC g)=gmC g:=fun f=>by unfold gmC; rfl
  have gP:∀ (S':RM) (post':Heap) (t':Nat),S'.length=n→(pre++(matH o n S'++post'))[o+(1+2*n)+t']? = post'[t']?:=fun S' post' t' h=>Z9w hpre h
  have gL:∀ (S':RM) (post':Heap),S'.length=n→(pre++(matH o n S'++post')).length=o+(1+2*n)+post'.length:=fun S' post' h=>by rw [List.length_append,List.length_append,Zbu,h,hpre]; omega
  have sP:∀ (S':RM) (post':Heap) (t':Nat) (bl:Blk),S'.length=n→(pre++(matH o n S'++post')).set (o+(1+2*n)+t') bl=pre++(matH o n S'++post'.set t' bl):=fun S' post' t' bl h=>Z64 hpre h
  have eA:∀ (S':RM) (post':Heap) (Y:Blk),(pre++(matH o n S'++post')) ++ [Y]=pre++(matH o n S'++(post' ++ [Y])):=fun S' post' Y=>by simp
  have fin:∀ (e:Nat→AV) (post:Heap) (S':RM),S'=planM g p (i+1)→Has e [(0,.rp (gmC g)),(1,pl),(5,.osl none o 0 n),(27,.sl (g.nodes.map gnAV)),(28,.int .i64 (n:Int)),(29,.int .i64 ((i+1:Nat):Int))]→N ⟨e,pre++(matH o n S'++post)⟩:=fun e post S' hS he=>by
   subst hS
   have w4:=(Z48 hg (p:=p) (k:=i+1) (by omega)).1
   rw [← hn] at w4
   rw [← List.append_assoc]
   refine hN (i+1) _ (by omega) (by omega) (Zhz (m:=o+(1+2*n)) (by rw [List.length_append,Zbu,w4,hpre]) ((hclo _).append (Ygv (by rw [w4]; omega))) (by omega) _ he ?_)
   have p1:pos (List.range (o+(1+2*n))) o=some o:=Zbm (by omega)
   have p3:=hpgc (o+(1+2*n)) (by omega)
   simp [AV.gc,p1,p3]
  have ma:=Yoe (post := []) (i:=i) (j:=i) (x:=1) (k:=1+600*i) hpre w2 (by omega) hin (by omega) (by omega) w3 (Qb.one (by omega)) (by omega)
  rw [w1,List.append_nil,List.nil_append] at ma
  have a1:Mb (1+600*i+1+1) (addAt (planM g p i) i i 1):=w3.addAt (Qb.one (by omega)) (by omega)
  have a2:(addAt (planM g p i) i i 1).length=n:=by rw [Zj3,w1]
  have a3:Wid n (addAt (planM g p i) i i 1):=w2.addAt
  unfold nodeM at hnx
  rw [hxa] at hnx
  generalize planM g p i=S at *
  generalize addAt S i i 1=S1 at *
  have hgp:((ivs p).drop i)[0]? = some (.int .i64 (p.getD i 0)):=by
   rw [List.getElem?_drop,Nat.add_zero]
   refine Ypq ?_
   rw [List.getD_eq_getElem?_getD,List.getElem?_eq_getElem (by omega)]; rfl
  have hgp2:(ivs p)[i]? = some (.int .i64 (p.getD i 0)):=by
   have:=hgp
   rwa [List.getElem?_drop,Nat.add_zero] at this
  have hpll:(ivs p).length=n:=by rw [Zc1]; omega
  have mv:∀ (S2:RM) (j:Nat) (post:Heap),j<n→S2=addAt S1 i j (-g.d)→SpecR Tryz.prog Zsm (pre++(matH o n S1++post)) [.osl none o 0 n,.int .i64 (i:Int),.int .i64 (j:Int),.agg (qcell (-g.d))] (.tup []) (pre++(matH o n S2++(post ++ [.cells (qcell (-g.d))]))):=fun S2 j post hj h=>by
   have:=Yoe (post:=post) (i:=i) (j:=j) (x := -g.d) (k:=10000) hpre a3 (by omega) hj (by omega) (by omega) (fun r hr=>(a1 r hr).mono (by omega)) (hg.db.neg.mono (by omega)) (by omega)
   rw [a2, ← h] at this
   exact this
  have xc:(gnAV x).cells = [gnAV x]:=by unfold gnAV; split; rfl; split <;> rfl
  simp only [go_sem,Zlt,Zyb,Zzn,q0,q1,hxg,xc,List.length_map]
  refine Zaa Y5w (by simp only [go_sem]) ?_
  simp only [go_sem,Zat]
  refine Ze3 ma ?_
  simp only [go_sem,Zxp,Zxu]
  have l0:o+(1+2*n)+1<o+(1+2*n)+2:=by omega
  have l1:0<o+(1+2*n)+2:=by omega
  have r0:(0:Int)≤(pget p i:Int):=by omega
  by_cases k3:x.kind=3
  ·have hgx:gnAV x = .ifc 140 (.agg [.sl (ivs (nv x.to)),.sl (condsR x.odds)]):=by unfold gnAV; rw [if_neg (by omega),if_neg (by omega)]
   rw [if_pos k3] at hnx
   obtain ⟨ho1,ho2⟩:=hok.odds k3
   have hlen:=hok.len
   rw [hgx]
   simp only [go_sem,Zmn,Zkq,Zsx,Zv5,Zv4,eA,List.cons_append,List.nil_append,sP _ _ _ _ a2,gP _ _ _ a2,gL _ _ a2,Zc1,Znb]
   refine Zar [(0,.rp (gmC g)),(1,pl),(5,.osl none o 0 n),(6,.int .i64 (i:Int)),(10,.ptr (o+(1+2*n)+1) 0),(27,.sl (g.nodes.map gnAV)),(28,.int .i64 (n:Int)),(29,.int .i64 (i:Int)),(82,.sl (ivs (nv x.to))),(83,.int .i64 (x.to.length:Int)),(84,.int .i64 0)] (by simp only [go_sem]) ?_
   refine Xgi (d:=g.d) (k:=1+600*i+1+1) hpre hclo hn0 hol hpgc (fun f=>rfl) gd2 gcg (fun f=>by simp only [Blk.gc,Z21]) hg.db ho1 ho2 hok.lt hlen (by omega) hin a2 a3 a1 (by omega) (by omega) (fun e k0 k1 k5 k27 k28 k29=>?_)
   rw [← hnx]
   simp only [go_sem,Zb5,k29,e1]
   exact fin _ _ _ rfl (by simp only [go_sem,k0,k1,k5,k27,k28])
  ·have hlt':=hlt k3
   have hp2':=hp2 k3
   rw [if_neg k3] at hnx
   have gi:=Zcj hlt'
   have mi:=hok.lt _ (Zbt hlt')
   have hpe:p.getD i 0=(pget p i:Int):=by unfold pget; omega
   have r1:(pget p i:Int)<(x.to.length:Int):=by omega
   have gl':(planM g p (i+1)).length=n:=by rw [hnx,Zj3,a2]
   rw [hpe] at hgp hgp2
   generalize x.to.getD (pget p i) 0=y at *
   generalize pget p i=pi at *
   have mvv:=mv _ y [.cells (qcell 1),.cells [.sl (ivs (nv x.to))]] mi hnx
   by_cases k1:x.kind=1
   ·have hgx:gnAV x = .ifc 129 (.agg [.sl (ivs (nv x.to))]):=by unfold gnAV; rw [if_pos k1]
    rw [hgx]
    simp only [go_sem,Zmn,Zju,eA,List.cons_append,List.nil_append,sP _ _ _ _ a2,gP _ _ _ a2,gL _ _ a2,l0]
    rcases hpl with rfl | ⟨rfl,hX⟩
    ·simp only [go_sem,q0,q1,r0,r1,hpll,hgp2,Zc1,Znb,Zqr gi,gd2,ql,qt,qd,hmx]
     refine Zaa (Yvj _) (by simp only [go_sem,Zat,Zah]) ?_
     simp only [go_sem,Zat]
     refine Ze3 mvv ?_
     simp only [go_sem,Zb5,e1]
     exact fin _ _ _ rfl (by simp only [go_sem])
    ·simp only [go_sem,q0,q1,r0,r1,l0,l1,hX,hpll,hgp,hgp2,Zc1,Znb,Zqr gi,gd2,ql,qt,qd,hmx,List.getElem?_drop]
     refine Zaa (Yvj _) (by simp only [go_sem,Zat,Zah]) ?_
     simp only [go_sem,Zat]
     refine Ze3 mvv ?_
     simp only [go_sem,Zb5,e1]
     exact fin _ _ _ rfl (by simp only [go_sem])
   ·have hgx:gnAV x = .ifc 131 (.agg [.sl (ivs (nv x.to))]):=by unfold gnAV; rw [if_neg k1,if_pos (by have:=hok.kind; omega)]
    rw [hgx]
    simp only [go_sem,Zkq,Zuf,Zjm,eA,List.cons_append,List.nil_append,sP _ _ _ _ a2,gP _ _ _ a2,gL _ _ a2,l0]
    rcases hpl with rfl | ⟨rfl,hX⟩
    ·simp only [go_sem,q0,q1,r0,r1,hpll,hgp2,Zc1,Znb,Zqr gi,gd2,ql,qt,qd,hmx]
     refine Zaa (Yvj _) (by simp only [go_sem,Zat,Zah]) ?_
     simp only [go_sem,Zat]
     refine Ze3 mvv ?_
     simp only [go_sem,Zb5,e1]
     exact fin _ _ _ rfl (by simp only [go_sem])
    ·simp only [go_sem,q0,q1,r0,r1,l0,l1,hX,hpll,hgp,hgp2,Zc1,Znb,Zqr gi,gd2,ql,qt,qd,hmx,List.getElem?_drop]
     refine Zaa (Yvj _) (by simp only [go_sem,Zat,Zah]) ?_
     simp only [go_sem,Zat]
     refine Ze3 mvv ?_
     simp only [go_sem,Zb5,e1]
     exact fin _ _ _ rfl (by simp only [go_sem])
 ·have hie:i=n:=by omega
  subst hie
  have q1:¬ ((i:Nat):Int)<(i:Int):=by omega
  simp only [go_sem,Zlt,q1]
  exact hK _ (by simp only [go_sem]) (by simp only [go_sem])
end GoAbs
namespace GoAbs
open Go Go.Proofs
set_option maxHeartbeats 8000000
theorem bbit5:∀ k,k≤5→bbit 9687500 k≤2000000000:=by
 intro k hk
 have:k=0∨k=1∨k=2∨k=3∨k=4∨k=5:=by omega
 rcases this with rfl | rfl | rfl | rfl | rfl | rfl <;> decide
theorem Ygg {g:Gm}(hg:GmOk g) (hn:g.nodes.length≤5) {p:List Int}:Mb 3100 (aug (planM g p g.nodes.length) g.rew):=fun r hr x hx=>by
 obtain ⟨w1,w2,w3⟩:=Z48 hg (p:=p) (Nat.le_refl _)
 obtain ⟨i,hi⟩:=List.getElem?_of_mem hr
 unfold aug at hi
 rw [List.getElem?_zipWith] at hi
 split at hi
 ·rename_i a b ha hb
  cases hi
  rcases List.mem_append.1 hx with h | h
  ·exact (w3 a (List.mem_of_getElem? ha) x h).mono (by omega)
  ·rw [List.mem_singleton.1 h]
   exact (hg.rb b (List.mem_of_getElem? hb)).mono (by omega)
 ·cases hi
theorem Zwn {g:Gm}(hg:GmP g) {p:List Int}(hp:POk g p) (hn5:g.nodes.length≤5) :
  NoSw g.nodes.length 0 (aug (planM g p g.nodes.length) g.rew)∧(∀ i,i<g.nodes.length→rget ((tri g.nodes.length 0 (aug (planM g p g.nodes.length) g.rew) 1).2.getD i []) i≠0)∧Wid (g.nodes.length+1) (tri g.nodes.length 0 (aug (planM g p g.nodes.length) g.rew) 1).2 ∧
  Mb 9687500 (tri g.nodes.length 0 (aug (planM g p g.nodes.length) g.rew) 1).2∧Rb 2000000000 (valP g p):=by
 obtain ⟨w1,w2,w3⟩:=Z48 hg.ok (p:=p) (Nat.le_refl _)
 obtain ⟨a1,a2,a3,_,_⟩:=Ykv w1 w2 hg.ok.rew (Ypy hg hp)
 have hl:(aug (planM g p g.nodes.length) g.rew).length=g.nodes.length:=by rw [Ycw (by rw [w1]; exact hg.ok.rew),w1]
 have hb:=Yv9 (w:=g.nodes.length+1) (k:=g.nodes.length) (c:=0) (d:=1) (by omega) (by omega) (Ypa w2) (Ygg hg.ok hn5 (p:=p)) (by omega)
 have h5:5 ^ g.nodes.length*3100≤9687500:=by
  have:5 ^ g.nodes.length≤5 ^ 5:=Nat.pow_le_pow_right (by omega) hn5
  omega
 have hb':Mb 9687500 (tri g.nodes.length 0 (aug (planM g p g.nodes.length) g.rew) 1).2:=fun r hr=>(hb r hr).mono h5
 refine ⟨a1,a2,a3,hb',?_⟩
 exact (Yd3 hb' a3 (by rw [Yh0,hl]) a2 g.nodes.length (Nat.le_refl _)).mono (bbit5 _ hn5)
theorem Yfo {pre:Heap}{o:Nat}{g:Gm}{p:List Int}{pl:AV}(hpre:pre.length=o) (hpure:PureH pre) (hol:o≤1) (hpgc:∀ m,o+1≤m→pl.gc (pos (List.range m))=pl)
  (hpl:pl = .sl (ivs p)∨(pl = .osl none 0 0 g.nodes.length∧∀ X,(pre++X)[0]? = some (.cells (ivs p)))) (hg:GmP g) (hp:POk g p) (hn1:1≤g.nodes.length) (hn5:g.nodes.length≤5) :
  SpecR Tryz.prog Yjj pre [.rp (gmC g),pl] (.sl (condsR (valP g p))) pre:=by
 obtain ⟨a1,a2,a3,a4,_⟩:=Zwn hg hp hn5
 obtain ⟨w1,w2,w3⟩:=Z48 hg.ok (p:=p) (Nat.le_refl _)
 obtain ⟨n,hn⟩:∃ n,n=g.nodes.length:=⟨_,rfl⟩
 have hmx:Tryz.prog.follows .mixedOrders=true:=by kernel_rfl
 have hclo:∀ m,Clo m pre:=fun m=>hpure _
 have hsv:=Yt4 (pre:=pre) (o:=o) (n:=n) (k:=3100) (M:=planM g p n) (r:=g.rew) hpre hpure (by rw [hn,w1]) (by rw [hn,hg.ok.rew]) (by omega) (by rw [hn]; exact w2) (by rw [hn]; exact Ygg hg.ok hn5) (by omega) (by
   have:9 ^ n≤9 ^ 5:=Nat.pow_le_pow_right (by omega) (by omega)
   omega) (by rw [hn]; exact a1) (a:=9687500) (by rw [hn]; exact a4) (by rw [hn]; exact a3) (by rw [hn]; exact a2) (fun k hk=>by
   have:k=0∨k=1∨k=2∨k=3∨k=4:=by omega
   rcases this with rfl | rfl | rfl | rfl | rfl <;> decide)
 have hz:=Zz1 (H:=pre) (Y24 (m:=n) (n:=n) (by omega) (by omega) (by omega)) (by simp only [go_sem])
 rw [Y9q,Nat.zero_add] at hz
 have ez:(AV.osl none 0 0 n).gc (fun i=>some (i+pre.length)) = .osl none o 0 n:=by simp only [AV.gc,hpre,Nat.zero_add]
 rw [ez,hpre] at hz
 have gd0:(gmC g)[0]? = some (.sl (g.nodes.map gnAV)):=rfl
 have gd1:(gmC g).drop 1 = .sl (condsR g.rew)::qcell g.d:=rfl
 refine Z26 Ygr (by simp) (Za5 1 rfl ?_)
 unfold Yad
 obtain ⟨gc,hgc⟩:∃ gc,gc=gmC g:=⟨_,rfl⟩
 rw [← hgc] at gd0 gd1 ⊢
 simp only [go_sem,Zx3,Zl7,gd0,List.length_map,hmx]
 rw [← hn]
 refine Ze3 hz ?_
 simp only [go_sem]
 refine Zay (Zay (T_W ?_))
 simp only [go_sem,Zxc,gd0,List.length_map]
 rw [← hn,hgc]
 refine Zaz (Zar [(0,.rp (gmC g)),(1,pl),(5,.osl none o 0 n),(27,.sl (g.nodes.map gnAV)),(28,.int .i64 (n:Int)),(29,.int .i64 0)] (by simp only [go_sem]) (T_le (Zb4 (Y8v) ?_) (Xgn hpre hclo (by omega) hol hpgc (by rw [hn]; exact hpl) hg.ok hp hn (fun e k0 k5=>?_))))
 ·rw [show planM g p 0=List.replicate n (List.replicate n 0) by rw [hn]; rfl]
 ·show T Tryz.prog 112 _ (.seq (.rg false Zkp) .ret) _ _
  refine T_W ?_
  rw [← hgc] at k0
  simp only [go_sem,Zkp,k0,k5,gd1]
  refine Ze3 hsv ?_
  simp only [go_sem]
  exact ⟨by rw [hn]; rfl,rfl,_,Zhz rfl (hclo _) (Nat.le_refl _) [] trivial (fun p hp=>by simp at hp),rfl⟩
end GoAbs
namespace GoAbs
open Go Go.Proofs
set_option maxHeartbeats 8000000
theorem Y5z {p:List Int}{i:Nat}{x:Int}(hi:i<p.length):(ivs p).take i ++ [AV.int .i64 x]++(ivs p).drop (i+1)=ivs (p.set i x):=by
 unfold ivs
 rw [List.map_set]
 rw [List.set_eq_take_append_cons_drop,if_pos (by simpa using hi)]
 simp
theorem Y5m {n i pi k:Nat}{p:List Int}{v:List Rat}{to:List Nat}{sg:Int}{ch:Bool}{b4:Blk}(hv:Rb k v) (hk:2*k+1≤1000000000000) (hvl:v.length=n) (hn:n≤100) (hpl:p.length=n) (hi:i<n) (hto:∀ x,x∈to→x<n) (h0:0<to.length) (hl:to.length≤6)
  (hp:p.getD i 0=(pi:Int)) (hpi:pi<to.length) (c:Bool) (hc:c=decide (cmpR (rget v (to.getD (bestA v to sg) 0)) (rget v (to.getD pi 0))=sg)) :
  SpecR Tryz.prog Z5t [.cells (ivs p),.cells [.osl none 0 0 n],.cells [.sl (condsR v)],.cells [.bool ch],b4] [.int .i64 (i:Int),.sl (ivs (nv to)),.int .i64 sg,.ptr 2 0,.ptr 1 0,.ptr 3 0] (.tup [])
   [.cells (ivs (if c=true then p.set i (bestA v to sg:Int) else p)),.cells [.osl none 0 0 n],.cells [.sl (condsR v)],.cells [.bool (c || ch)],b4]:=by
 have hmx:Tryz.prog.follows .mixedOrders=true:=by kernel_rfl
 have hb:=Yat (sg:=sg) (to:=to) hv hk (fun x hx=>by rw [hvl]; exact hto x hx) h0 (by omega) (by omega)
 have hbl:bestA v to sg<to.length:=Zde h0 (Nat.le_refl _)
 generalize bestA v to sg=b at *
 have g1:=Zcj hbl
 have g2:=Zcj hpi
 have m1:=hto _ (Zbt hbl)
 have m2:=hto _ (Zbt hpi)
 generalize to.getD b 0=x at *
 generalize to.getD pi 0=y at *
 have hcm:=Y2o (hv.get (j:=x) (by omega)) (hv.get (j:=y) (by omega)) hk
 have q0:(0:Int)≤(i:Int):=by omega
 have q1:(i:Int)<(n:Int):=by omega
 have q2:(0:Int)≤(b:Int):=by omega
 have q3:(b:Int)<(to.length:Int):=by omega
 have q4:(0:Int)≤(x:Int):=by omega
 have q5:(x:Int)<(n:Int):=by omega
 have q6:(0:Int)≤(y:Int):=by omega
 have q7:(y:Int)<(n:Int):=by omega
 have q8:(0:Int)≤(pi:Int):=by omega
 have q9:(pi:Int)<(to.length:Int):=by omega
 have ql:∀ q,(qcell q).length=4:=fun q=>rfl
 have qt:∀ q,(qcell q).take 4=qcell q:=fun q=>rfl
 have qd:∀ q,(qcell q).drop 4 = []:=fun q=>rfl
 have hgp:(ivs p)[i]? = some (.int .i64 (pi:Int)):=by
  refine Ypq ?_
  rw [← hp,List.getD_eq_getElem?_getD,List.getElem?_eq_getElem (by omega)]; rfl
 have hpll:(ivs p).length=n:=by rw [Zc1]; omega
 have f1:i+1≤n:=by omega
 have hf:=Y5z (p:=p) (i:=i) (x:=(b:Int)) (by omega)
 refine Z03 Z4g (by simp) ?_
 unfold Zrn
 simp only [go_sem,Zjp,Zev]
 refine Zaa hb (by simp only [go_sem]) ?_
 simp only [go_sem,q0,q1,q2,q3,q4,q5,q6,q7,q8,q9,Zc1,Znb,Ze5,hvl,Zqr g1,Zqr g2,hgp,List.getElem?_drop,Zbr (Zal (r:=v) (j:=x) (by omega)),Zbr (Zal (r:=v) (j:=y) (by omega)),ql,qt,qd,hmx]
 refine Zaa hcm (by simp only [go_sem,Zat,Zah]) ?_
 by_cases hcc:cmpR (rget v x) (rget v y)=sg
 ·have hct:c=true:=by rw [hc]; exact decide_eq_true hcc
  subst hct
  simp only [go_sem,hcc,Zks,q0,q1,hpll,f1,hf]
  rw [Bool.true_or]
 ·have hct:c=false:=by rw [hc]; exact decide_eq_false hcc
  subst hct
  simp only [go_sem,hcc]
  rw [Bool.false_or]
def betU (g:Gm) (v:List Rat) (who:Nat) (p:List Int) (i:Nat):List Int:=(List.range g.nodes.length).map fun j=>if j<i then betI g v who p j else p.getD j 0
theorem Zwu {g:Gm}{v:List Rat}{who:Nat}{p:List Int}{i:Nat}:(betU g v who p i).length=g.nodes.length:=by unfold betU; rw [List.length_map,List.length_range]
theorem Xd5 {g:Gm}{v:List Rat}{who:Nat}{p:List Int}(h:p.length=g.nodes.length):betU g v who p 0=p:=by
 refine List.ext_getElem (by rw [Zwu,h]) (fun i h1 h2=>?_)
 simp [betU,h2]
theorem Xcr {g:Gm}{v:List Rat}{who:Nat}{p:List Int}:betU g v who p g.nodes.length=betP g v who p:=by
 unfold betU betP
 exact List.map_congr_left fun j hj=>by rw [if_pos (List.mem_range.1 hj)]
theorem Ysa {g:Gm}{v:List Rat}{who:Nat}{p:List Int}{i:Nat}(h:i<g.nodes.length):(betU g v who p i).getD i 0=p.getD i 0:=by
 unfold betU
 rw [List.getD_eq_getElem?_getD,List.getElem?_map,List.getElem?_range h]
 simp
theorem Y06 {g:Gm}{v:List Rat}{who:Nat}{p:List Int}{i j:Nat}(h:j<g.nodes.length):(betU g v who p i)[j]? = some (if j<i then betI g v who p j else p.getD j 0):=by
 unfold betU
 rw [List.getElem?_map,List.getElem?_range h]; rfl
theorem Yws {g:Gm}{v:List Rat}{who:Nat}{p:List Int}{i:Nat}(h:i<g.nodes.length) :
  betU g v who p (i+1)=if bet1 g v who p i=true then (betU g v who p i).set i (bestA v (nodeAt g i).to (sgn who):Int) else betU g v who p i:=by
 have e:∀ z:Int,z=betI g v who p i→betU g v who p (i+1)=(betU g v who p i).set i z:=fun z hz=>by
  refine List.ext_getElem? (fun j=>?_)
  rw [List.getElem?_set,Zwu]
  by_cases hjn:j<g.nodes.length
  ·rw [Y06 hjn,Y06 hjn]
   by_cases hj:i=j
   ·rw [if_pos hj,if_pos (by omega),hz, ← hj,if_pos (by omega)]
   ·rw [if_neg hj]
    by_cases hl:j<i
    ·rw [if_pos hl,if_pos (by omega)]
    ·rw [if_neg hl,if_neg (by omega)]
  ·rw [if_neg (by omega),List.getElem?_eq_none (by rw [Zwu]; omega),List.getElem?_eq_none (by rw [Zwu]; omega)]
 by_cases hb:bet1 g v who p i=true
 ·rw [if_pos hb]
  exact e _ (by unfold betI; rw [if_pos hb])
 ·rw [if_neg hb,e (p.getD i 0) (by unfold betI; rw [if_neg hb])]
  have h2:=Ysa (g:=g) (v:=v) (who:=who) (p:=p) h
  have hl:i<(betU g v who p i).length:=by rw [Zwu]; exact h
  rw [← h2,List.getD_eq_getElem?_getD,List.getElem?_eq_getElem hl,Option.getD_some,List.set_getElem_self]
theorem Yyy {g:Gm}{v:List Rat}{who n k:Nat}{p:List Int}(hv:Rb k v) (hk:2*k+1≤1000000000000) (hvl:v.length=n) (hg:GmOk g) (hp:POk0 g p) (hn:n=g.nodes.length) (hw:who=1∨who=2) {K:Ex→St→Prop}
  (hK:∀ e:Nat→AV,e 9 = .ptr 3 0→K (.exit 0) ⟨e,[.cells (ivs (betP g v who p)),.cells [.osl none 0 0 n],.cells [.sl (condsR v)],.cells [.bool (betC g v who p)]]⟩) :
  T Tryz.prog 49 1 (.loop Zj4) ⟨envL [(3,.int .i64 (who:Int)),(9,.ptr 3 0),(10,.fn 130 [] [.ptr 2 0,.ptr 1 0,.ptr 3 0]),(19,.sl (g.nodes.map gnAV)),(20,.int .i64 (n:Int)),(21,.int .i64 0)],
   [.cells (ivs p),.cells [.osl none 0 0 n],.cells [.sl (condsR v)],.cells [.bool false]]⟩ K:=by
 have hmx:Tryz.prog.follows .mixedOrders=true:=by kernel_rfl
 have hnl:=hg.n
 refine Zaf (fun i:Nat=>⟨envL [(3,.int .i64 (who:Int)),(9,.ptr 3 0),(10,.fn 130 [] [.ptr 2 0,.ptr 1 0,.ptr 3 0]),(19,.sl (g.nodes.map gnAV)),(20,.int .i64 (n:Int)),(21,.int .i64 (i:Int))],
   [.cells (ivs (betU g v who p i)),.cells [.osl none 0 0 n],.cells [.sl (condsR v)],.cells [.bool ((List.range i).any (bet1 g v who p))]]⟩)
  (fun i=>i≤n) (fun i=>n - i) 0 (by omega) (Zb4 (Zab [(3,.int .i64 (who:Int)),(9,.ptr 3 0),(10,.fn 130 [] [.ptr 2 0,.ptr 1 0,.ptr 3 0]),(19,.sl (g.nodes.map gnAV)),(20,.int .i64 (n:Int)),(21,.int .i64 0)] (by simp only [go_sem])) (by rw [Xd5 hp.1]; rfl)) (fun i hi N hN=>?_)
 unfold Zj4
 by_cases hin:i<n
 ·have hig:i<g.nodes.length:=by omega
  obtain ⟨x,hx⟩:∃ x,g.nodes[i]? = some x:=⟨_,List.getElem?_eq_getElem hig⟩
  have hxa:nodeAt g i=x:=by unfold nodeAt; rw [List.getD_eq_getElem?_getD,hx]; rfl
  have hxg:(g.nodes.map gnAV)[i]? = some (gnAV x):=by rw [List.getElem?_map,hx]; rfl
  have hok:=hg.node x (List.mem_of_getElem? hx)
  have hp2:=hp.2 i hig
  have hs:=Yws (v:=v) (who:=who) (p:=p) hig
  have hu:=Ysa (v:=v) (who:=who) (p:=p) hig
  have hul:=Zwu (g:=g) (v:=v) (who:=who) (p:=p) (i:=i)
  have hpe:p.getD i 0=(pget p i:Int):=by unfold pget; omega
  rw [hxa] at hp2 hs
  have hb1:bet1 g v who p i=(decide (x.kind=who) && decide (cmpR (rget v (x.to.getD (bestA v x.to (sgn who)) 0)) (rget v (x.to.getD (pget p i) 0))=sgn who)):=by unfold bet1; rw [hxa]
  have hany:(List.range (i+1)).any (bet1 g v who p)=((List.range i).any (bet1 g v who p) || bet1 g v who p i):=by rw [List.range_succ,List.any_append]; simp
  have q0:(0:Int)≤(i:Int):=by omega
  have q1:(i:Int)<(n:Int):=by omega
  have e1:IntKind.i64.wrap ((i:Int)+1)=((i+1:Nat):Int):=by rw [Zac (by omega) (by omega)]; omega
  have xc:(gnAV x).cells = [gnAV x]:=by unfold gnAV; split; rfl; split <;> rfl
  have fin:∀ (e:Nat→AV) (post:Heap) (pp:List Int) (ch:Bool),pp=betU g v who p (i+1)→ch=(List.range (i+1)).any (bet1 g v who p)→Has e [(3,.int .i64 (who:Int)),(9,.ptr 3 0),(10,.fn 130 [] [.ptr 2 0,.ptr 1 0,.ptr 3 0]),(19,.sl (g.nodes.map gnAV)),(20,.int .i64 (n:Int)),(21,.int .i64 ((i+1:Nat):Int))] →
    N ⟨e,[.cells (ivs pp),.cells [.osl none 0 0 n],.cells [.sl (condsR v)],.cells [.bool ch]]++post⟩:=fun e post pp ch h1 h2 he=>by
   subst h1 h2
   refine hN (i+1) _ (by omega) (by omega) (Zhz (K := [.cells (ivs (betU g v who p (i+1))),.cells [.osl none 0 0 n],.cells [.sl (condsR v)],.cells [.bool ((List.range (i+1)).any (bet1 g v who p))]]) (m:=4) rfl ?_ (by omega) _ he ?_)
   ·unfold Clo
    show [Blk.cells (gcL _ (ivs _)),.cells [.osl none 0 0 n],_,_]=_
    rw [Y9r]; rfl
   ·simp [AV.gc,gcL,Zbm]
  rw [hpe] at hu
  generalize betU g v who p i=pp at *
  generalize (List.range i).any (bet1 g v who p)=ch at *
  have ht:∀ (sg:Int) (b4:Blk) (c:Bool),c=decide (cmpR (rget v (x.to.getD (bestA v x.to sg) 0)) (rget v (x.to.getD (pget p i) 0))=sg)→_:=fun sg b4 c hc=>Y5m (p:=pp) (pi:=pget p i) (ch:=ch) (b4:=b4) hv hk hvl (by omega) (by omega) hin (fun y hy=>by rw [hn]; exact hok.lt y hy) hok.pos hok.len hu (by unfold pget; omega) c hc
  simp only [go_sem,Zj0,Ztu,Zuy,Zta,q0,q1,hxg,xc,List.length_map]
  have skip:x.kind≠who→bet1 g v who p i=false:=fun h=>by rw [hb1,decide_eq_false h]; rfl
  have hsk:∀ (e:Nat→AV) (post:Heap),x.kind≠who→Has e [(3,.int .i64 (who:Int)),(9,.ptr 3 0),(10,.fn 130 [] [.ptr 2 0,.ptr 1 0,.ptr 3 0]),(19,.sl (g.nodes.map gnAV)),(20,.int .i64 (n:Int)),(21,.int .i64 ((i+1:Nat):Int))] →
    N ⟨e,[.cells (ivs pp),.cells [.osl none 0 0 n],.cells [.sl (condsR v)],.cells [.bool ch]]++post⟩:=fun e post h he=>by
   have hb:=skip h
   exact fin e post pp ch (by rw [hs,if_neg (by rw [hb]; decide)]) (by rw [hany,hb,Bool.or_false]) he
  by_cases k1:x.kind=1
  ·have hgx:gnAV x = .ifc 129 (.agg [.sl (ivs (nv x.to))]):=by unfold gnAV; rw [if_pos k1]
   rw [hgx]
   by_cases hw1:who=1
   ·subst hw1
    have hw:((1:Nat):Int)=1:=rfl
    simp only [go_sem,Zkm,Zh5,Zrg,hw,List.cons_append,List.nil_append]
    have hb:bet1 g v 1 p i=decide (cmpR (rget v (x.to.getD (bestA v x.to 1) 0)) (rget v (x.to.getD (pget p i) 0))=1):=by rw [hb1,decide_eq_true k1]; rfl
    refine Ze3 (ht 1 _ (bet1 g v 1 p i) hb) ?_
    simp only [go_sem,Zbq,e1]
    exact fin _ [_] _ _ (by rw [hs]; rfl) (by rw [hany,Bool.or_comm]) (by simp only [go_sem]; rfl)
   ·have hw1':¬ ((who:Nat):Int)=1:=by omega
    simp only [go_sem,Zkm,Zh5,hw1',Zbq,e1,List.cons_append,List.nil_append]
    exact hsk _ [_] (by omega) (by simp only [go_sem])
  ·by_cases k2:x.kind=2
   ·have hgx:gnAV x = .ifc 131 (.agg [.sl (ivs (nv x.to))]):=by unfold gnAV; rw [if_neg k1,if_pos k2]
    rw [hgx]
    by_cases hw1:who=2
    ·subst hw1
     have hw:((2:Nat):Int)=2:=rfl
     simp only [go_sem,Zei,Zhy,Zh8,Zrl,hw,List.cons_append,List.nil_append]
     have hb:bet1 g v 2 p i=decide (cmpR (rget v (x.to.getD (bestA v x.to (-1)) 0)) (rget v (x.to.getD (pget p i) 0)) = -1):=by rw [hb1,decide_eq_true k2]; rfl
     refine Ze3 (ht (-1) _ (bet1 g v 2 p i) hb) ?_
     simp only [go_sem,Zbq,e1]
     exact fin _ [_] _ _ (by rw [hs]; rfl) (by rw [hany,Bool.or_comm]) (by simp only [go_sem]; rfl)
    ·have hw1':¬ ((who:Nat):Int)=2:=by omega
     simp only [go_sem,Zei,Zhy,Zh8,hw1',Zbq,e1,List.cons_append,List.nil_append]
     exact hsk _ [_] (by omega) (by simp only [go_sem])
   ·have hgx:gnAV x = .ifc 140 (.agg [.sl (ivs (nv x.to)),.sl (condsR x.odds)]):=by unfold gnAV; rw [if_neg k1,if_neg k2]
    rw [hgx]
    simp only [go_sem,Zei,Zbq,e1]
    exact hsk _ [] (by omega) (by simp only [go_sem])
 ·have hie:i=n:=by omega
  subst hie
  have q1:¬ ((i:Nat):Int)<(i:Int):=by omega
  simp only [go_sem,Zj0,q1]
  have h1:betU g v who p i=betP g v who p:=by rw [hn,Xcr]
  have h2:(List.range i).any (bet1 g v who p)=betC g v who p:=by unfold betC; rw [hn]
  rw [h1,h2]
  exact hK _ (by simp only [go_sem])
end GoAbs
namespace GoAbs
open Go Go.Proofs
set_option maxHeartbeats 8000000
theorem Ygq {p:List Int}:PureH [Blk.cells (ivs p)]:=fun f=>by
 show [Blk.cells (gcL f (ivs p))]=_
 rw [Y9r]
theorem Yak {g:Gm}{v:List Rat}{who n k:Nat}{p:List Int}(hv:Rb k v) (hk:2*k+1≤1000000000000) (hvl:v.length=n) (hg:GmOk g) (hp:POk0 g p) (hn:n=g.nodes.length) (hw:who=1∨who=2) :
  SpecR Tryz.prog Yh5 [.cells (ivs p)] [.rp (gmC g),.osl none 0 0 n,.sl (condsR v),.int .i64 (who:Int)] (.bool (betC g v who p)) [.cells (ivs (betP g v who p))]:=by
 have gd0:(gmC g)[0]? = some (.sl (g.nodes.map gnAV)):=rfl
 refine Z26 Yee (by simp) (Za5 2 rfl ?_)
 unfold Z66
 obtain ⟨gc,hgc⟩:∃ gc,gc=gmC g:=⟨_,rfl⟩
 rw [← hgc] at gd0 ⊢
 simp only [go_sem,Zs5,Zuu,Zvr]
 refine Zay (Zay (T_W ?_))
 simp only [go_sem,Zvb,gd0,List.length_map]
 rw [← hn]
 refine Zaz (Zar [(3,.int .i64 (who:Int)),(9,.ptr 3 0),(10,.fn 130 [] [.ptr 2 0,.ptr 1 0,.ptr 3 0]),(19,.sl (g.nodes.map gnAV)),(20,.int .i64 (n:Int)),(21,.int .i64 0)] (by simp only [go_sem])
  (Yyy hv hk hvl hg hp hn hw (fun e k9=>?_)))
 show T Tryz.prog 49 1 (.seq (.rg false Zic) .ret) _ _
 refine T_W ?_
 simp only [go_sem,Zic,k9]
 exact ⟨rfl,_,Zhz (K := [.cells (ivs (betP g v who p))]) (post := [_,_,_]) (m:=1) rfl (Ygq _) (Nat.le_refl _) [] trivial (fun p hp=>by simp at hp),rfl⟩
theorem Yxl {g:Gm}{v:List Rat}{who:Nat}{p:List Int}(hp:p.length=g.nodes.length) (h:betC g v who p=false):betP g v who p=p:=by
 refine List.ext_getElem? (fun j=>?_)
 by_cases hj:j<g.nodes.length
 ·unfold betP
  rw [List.getElem?_map,List.getElem?_range hj]
  show some (betI g v who p j)=_
  unfold betI
  rw [if_neg (by rw [nobetter h hj]; decide),List.getD_eq_getElem?_getD,List.getElem?_eq_getElem (by omega)]; rfl
 ·rw [List.getElem?_eq_none (by unfold betP; rw [List.length_map,List.length_range]; omega),List.getElem?_eq_none (by omega)]
theorem pval {g:Gm}(hg:GmP g):∀ q,POk0 g q→PVal g q (valP g q):=fun q hq=>Y48 hg hq.ok
theorem Yb2 {g:Gm}{p q r:List Int}(h:Same1 g p q) (k:Same1 g q r):Same1 g p r:=fun i hi h1=>(h i hi h1).trans (k i hi h1)
theorem Y39 {g:Gm}(hg:GmP g):POk0 g (List.replicate g.nodes.length 0):=by
 refine ⟨List.length_replicate,fun i hi=>?_⟩
 have:=(hg.ok.node _ (Zb8 hi)).pos
 have e:(List.replicate g.nodes.length (0:Int)).getD i 0=0:=by rw [List.getD_eq_getElem?_getD,List.getElem?_replicate]; split <;> rfl
 rw [e]
 omega
theorem out0 {g:Gm}(hg:GmP g):OutI g (valP g) (none,List.replicate g.nodes.length 0):=⟨Y39 hg,fun q _ _ => .inr trivial⟩
theorem Yw0 {g:Gm}(hg:GmP g):∀ (m:Nat) {p:List Int},POk0 g p→mIn g (valP g) p<m→∃ q,POk0 g q∧Same1 g q p∧betC g (valP g q) 2 q=false
 | 0,_,_,h=>absurd h (by omega)
 | m+1,p,hp,h=>by
  cases hc:betC g (valP g p) 2 p with
  | false=>exact ⟨p,hp,fun _ _ _=>rfl,hc⟩
  | true =>
   have h1:=Xdu hg (pval hg) hp hc
   obtain ⟨q,h2,h3,h4⟩:=Yw0 hg m (Yaq hg (v:=valP g p) (who:=2) hp) (by omega)
   exact ⟨q,h2,Yb2 h3 Z6s,h4⟩
theorem Yp9 {g:Gm}(hg:GmP g):∀ (m:Nat) {s:Option (List Rat)×List Int},OutI g (valP g) s→mOut g (valP g) s<m→∃ q,POk0 g q∧betC g (valP g q) 1 q=false∧betC g (valP g q) 2 q=false
 | 0,_,_,h=>absurd h (by omega)
 | m+1,s,hs,h=>by
  obtain ⟨q,h1,h2,h3⟩:=Yw0 hg _ hs.1 (Nat.lt_succ_self _)
  cases hc:betC g (valP g q) 1 q with
  | false=>exact ⟨q,h1,hc,h3⟩
  | true =>
   obtain ⟨h4,h5⟩:=Y65 hg (pval hg) hs h1 h2 h3 hc
   exact Yp9 hg m h4 (by omega)
theorem Yb3 {g:Gm}(hg:GmP g):∃ q,POk0 g q∧betC g (valP g q) 1 q=false∧betC g (valP g q) 2 q=false:=Yp9 hg _ (out0 hg) (Nat.lt_succ_self _)
open Classical in
noncomputable def valG (g:Gm):List Rat:=if h:GmP g then valP g (Yb3 h).choose else []
theorem Yll {g:Gm}(hg:GmP g):∃ q,POk0 g q∧valG g=valP g q:=by
 unfold valG
 rw [dif_pos hg]
 exact ⟨_,(Yb3 hg).choose_spec.1,rfl⟩
theorem Yg3 {g:Gm}(hg:GmP g):(valG g).length=g.nodes.length:=by
 obtain ⟨q,h1,h2⟩:=Yll hg
 rw [h2,(pval hg q h1).1]
theorem Yz0 {g:Gm}(hg:GmP g):∀ i,i<g.nodes.length→rget (valG g) i=nextV g (valG g) i:=by
 unfold valG
 rw [dif_pos hg]
 obtain ⟨h1,h2,h3⟩:=(Yb3 hg).choose_spec
 exact Yr6 hg h1 (pval hg _ h1) h2 h3
theorem Yj7 {g:Gm}(hg:GmP g) {v:List Rat}(hl:v.length=g.nodes.length) (h:∀ i,i<g.nodes.length→rget v i=nextV g v i):v=valG g :=
 Z8h (by rw [hl,Yg3 hg]) (fun i hi=>(Yzg hg).uniq hg.d1 h (Yz0 hg) i (by rw [Yg3 hg] at hi; exact hi))
theorem Y3r {g:Gm}(hg:GmP g) {p:List Int}(hp:POk0 g p) (h1:betC g (valP g p) 1 p=false) (h2:betC g (valP g p) 2 p=false):valP g p=valG g :=
 Yj7 hg (pval hg p hp).1 (Yr6 hg hp (pval hg p hp) h1 h2)
theorem Y4u {g:Gm}{n:Nat}{p0:List Int}(hg:GmP g) (hn:n=g.nodes.length) (hn1:1≤n) (hn5:n≤5) (hp0:POk0 g p0) {K:Ex→St→Prop}
  (hK:∀ (q:List Int) (e:Nat→AV),POk0 g q→Same1 g q p0→betC g (valP g q) 2 q=false→e 0 = .rp (gmC g)→e 3 = .osl none 0 0 n→e 4 = .sl (condsR (valP g q))→K (.exit 2) ⟨e,[.cells (ivs q)]⟩) :
  T Tryz.prog 27 0 (.loop Zm3) ⟨envL [(0,.rp (gmC g)),(3,.osl none 0 0 n),(4,.sl (condsR (valP g p0)))],[.cells (ivs p0)]⟩ K:=by
 refine Zaf (fun p:List Int=>⟨envL [(0,.rp (gmC g)),(3,.osl none 0 0 n),(4,.sl (condsR (valP g p)))],[.cells (ivs p)]⟩)
  (fun p=>POk0 g p∧Same1 g p p0) (fun p=>mIn g (valP g) p) p0 ⟨hp0,fun _ _ _=>rfl⟩ (Zab _ (by simp only [go_sem])) (fun p hI N hN=>?_)
 obtain ⟨hp,hsm⟩:=hI
 unfold Zm3
 have hvl:=(pval hg p hp).1
 have hrb:=(Zwn hg hp.ok (by omega)).2.2.2.2
 have hbt:=Yak (who:=2) hrb (by omega) (by rw [hvl,hn]) hg.ok hp hn (.inr rfl)
 have hq:=Yaq hg (v:=valP g p) (who:=2) hp
 simp only [go_sem,Zxn]
 refine Ze3 hbt ?_
 cases hc:betC g (valP g p) 2 p with
 | true =>
  have hpl:=Yfo (pre := [.cells (ivs (betP g (valP g p) 2 p))]) (o:=1) (p:=betP g (valP g p) 2 p) (pl := .osl none 0 0 n) rfl Ygq (by omega) (fun m hm=>by simp only [AV.gc,Zbm (show 0<m by omega)]) (.inr ⟨by rw [hn],fun X=>rfl⟩) hg hq.ok (by omega) (by omega)
  simp only [go_sem,Zyi]
  refine Ze3 hpl ?_
  simp only [go_sem]
  exact hN (betP g (valP g p) 2 p) _ ⟨hq,Yb2 Z6s hsm⟩ (Xdu hg (pval hg) hp hc) (Zab _ (by simp only [go_sem]))
 | false =>
  rw [Yxl hp.1 hc]
  simp only [go_sem]
  exact hK p _ hp hsm hc (by simp only [go_sem]) (by simp only [go_sem]) (by simp only [go_sem])
theorem Yso {g:Gm}(hg:GmP g) (hn1:1≤g.nodes.length) (hn5:g.nodes.length≤5):SpecV Tryz.prog Ymi [.rp (gmC g)] (.sl (condsR (valG g))):=by
 obtain ⟨n,hn⟩:∃ n,n=g.nodes.length:=⟨_,rfl⟩
 have gd0:(gmC g)[0]? = some (.sl (g.nodes.map gnAV)):=rfl
 refine Zaw Yij (by simp) (Za5 1 rfl ?_)
 unfold Yd2
 obtain ⟨gc,hgc⟩:∃ gc,gc=gmC g:=⟨_,rfl⟩
 have hsz:(8:Int)*(n:Int)≤281474976710656:=by omega
 have z0:(0:Int)≤(n:Int):=by omega
 rw [← hgc] at gd0 ⊢
 simp only [go_sem,Zx4,Zx7,gd0,List.length_map]
 rw [← hn]
 simp only [go_sem,hsz,z0,Int.le_refl]
 refine ⟨by omega,?_⟩
 have hzr:(List.replicate n [AV.int .i64 0]).flatten=ivs (List.replicate n 0):=by
  unfold ivs
  rw [List.map_replicate]
  clear hn hsz z0 gd0 hgc
  induction n with
  | zero=>rfl
  | succ n ih=>rw [List.replicate_succ,List.flatten_cons,ih,List.replicate_succ]; rfl
 rw [hzr,hgc]
 have h0:=out0 hg
 rw [← hn] at h0
 refine Zaz (Zfh (fun s:Option (List Rat)×List Int=>⟨envL [(0,.rp (gmC g)),(3,.osl none 0 0 n)],[.cells (ivs s.2)]⟩)
  (fun s=>OutI g (valP g) s) (fun s=>mOut g (valP g) s) (none,List.replicate n 0) h0 (Zab _ (by simp only [go_sem])) (fun s hs N hN=>?_))
 obtain ⟨u,p⟩:=s
 have hp:POk0 g p:=hs.1
 have hpl:=Yfo (pre := [.cells (ivs p)]) (o:=1) (p:=p) (pl := .osl none 0 0 n) rfl Ygq (by omega) (fun m hm=>by simp only [AV.gc,Zbm (show 0<m by omega)]) (.inr ⟨by rw [hn],fun X=>rfl⟩) hg hp.ok (by omega) (by omega)
 unfold Zw4
 refine Zaz (Za5 0 rfl ?_)
 simp only [go_sem,Zy3]
 refine Ze3 hpl ?_
 simp only [go_sem]
 refine Zay (Zaz (Zar [(0,.rp (gmC g)),(3,.osl none 0 0 n),(4,.sl (condsR (valP g p)))] (by simp only [go_sem]) (Y4u hg hn (by omega) (by omega) hp (fun q e hq hsm h2 k0 k3 k4=>?_))))
 show T Tryz.prog 27 0 (.seq (.rg false Zmp) (.cond (.t 25) (.seq (.rg false Zmc) .ret) .skip)) _ _
 have hvl:=(pval hg q hq).1
 have hrb:=(Zwn hg hq.ok (by omega)).2.2.2.2
 have hbt:=Yak (who:=1) hrb (by omega) (by rw [hvl,hn]) hg.ok hq hn (.inl rfl)
 refine T_W ?_
 simp only [go_sem,Zmp,k0,k3,k4]
 refine Ze3 hbt ?_
 cases hc:betC g (valP g q) 1 q with
 | true =>
  obtain ⟨h4,h5⟩:=Y65 hg (pval hg) hs hq hsm h2 hc
  simp only [go_sem]
  exact hN (some (valP g q),betP g (valP g q) 1 q) _ h4 h5 (Zab _ (by simp only [go_sem,k0,k3]))
 | false =>
  rw [← Y3r hg hq hc h2]
  simp only [go_sem,Zmc,k4]
end GoAbs
namespace GoAbs
open Go Go.Proofs
set_option maxHeartbeats 8000000
structure GIn (L:List Nd) (d:List UInt8):Prop where
 len:L.length≤5∨L.length=11
 d:d.length≤23
 ok:∀ n,n∈L→n.rew.length≤23∧n.mv.length≤7∧∀ m,m∈n.mv→m.2.length≤23
theorem GIn.le {L:List Nd}{d:List UInt8}(h:GIn L d):L.length≤11:=by have:=h.len; omega
def eC (L:List Nd) (d:List UInt8):Int:=if (L.all ndVa && okB d)=false then 2 else if gFit L d=false then 1 else 0
theorem Xeg {L:List Nd}{d:List UInt8}:chkC L d []=eC L d:=by
 unfold chkC eC
 rw [show (okB d && ([]:List (List UInt8)).all okB && L.all ndVa)=(L.all ndVa && okB d) by simp [Bool.and_comm]]
theorem Z9r {L:List Nd}{d:List UInt8}(h:GIn L d) :
  (eC L d≠0∧SpecV Tryz.prog Z1f [.sl (L.map ndAV),.str (bs d)] (.tup [.nilp,.int .i64 (eC L d)])) ∨
  (eC L d=0∧SpecV Tryz.prog Z1f [.sl (L.map ndAV),.str (bs d)] (.tup [.rp (gmC (toGm L d)),.int .i64 0])∧GmP (toGm L d)∧(toGm L d).nodes.length=L.length∧1≤L.length∧L.length≤5):=by
 have hs:=Yud (L:=L) (d:=d) (by have:=h.le; omega) h.d h.ok
 unfold gmR at hs
 unfold eC
 by_cases h1:(L.all ndVa && okB d)=false
 ·rw [if_pos h1] at hs ⊢
  exact .inl ⟨by decide,hs⟩
 ·rw [if_neg h1] at hs ⊢
  by_cases h2:gFit L d=false
  ·rw [if_pos h2] at hs ⊢
   exact .inl ⟨by decide,hs⟩
  ·rw [if_neg h2] at hs ⊢
   obtain ⟨g1,g2⟩:=Xf2 (by simpa using h1) (by simpa using h2) h.d h.ok
   rw [g1] at hs
   refine .inr ⟨rfl,hs,g2,by unfold toGm; rw [List.length_map],?_⟩
   have h3:gFit L d=true:=by simpa using h2
   unfold gFit at h3
   simp only [Bool.and_eq_true,decide_eq_true_eq] at h3
   have:=h.len
   omega
theorem Xcw {k:Nat}{v:List Rat}(h:Rb k v) (hk:k≤300000000000):∀ q,q∈v→Tx q.num.natAbs∧Tx q.den:=fun q hq=>⟨Z5j (h q hq).n hk,Z5j (h q hq).d hk⟩
theorem Y7b {g:Gm}(hg:GmP g) (hn5:g.nodes.length≤5):Rb 2000000000 (valG g):=by
 obtain ⟨q,h1,h2⟩:=Yll hg
 rw [h2]
 exact (Zwn hg h1.ok hn5).2.2.2.2
theorem wvalue {L:List Nd}{d:List UInt8}(h:GIn L d):SpecV Tryz.prog Ylb [.sl (L.map ndAV),.str (bs d)] (if eC L d=0 then numsR (valG (toGm L d)) else .tup [.nils,.int .i64 (eC L d)]):=by
 rcases Z9r h with ⟨h1,hs⟩ | ⟨h1,hs,hg,hn,hn1,hn5⟩
 ·rw [if_neg h1]
  refine Zae Z4x (by simp) ?_
  unfold Z1a
  simp only [go_sem,Zl0,Zmw]
  refine Zaa hs (by simp only [go_sem]) ?_
  simp only [go_sem,Zmu,Zzc,h1]
 ·rw [if_pos h1]
  have hv:=Yso hg (by omega) (by omega)
  have hm:=Yli (Xcw (Y7b hg (by omega)) (by omega)) (by rw [Yg3 hg]; omega)
  refine Zae Z4x (by simp) ?_
  unfold Z1a
  simp only [go_sem,Zl0,Zmw]
  refine Zaa hs (by simp only [go_sem]) ?_
  simp only [go_sem,Zmu,Zyc]
  refine Zaa hv (by simp only [go_sem]) ?_
  simp only [go_sem]
  refine Zaa hm (by simp only [go_sem]) ?_
  by_cases hN:∀ q,q∈valG (toGm L d)→NumOk q
  ·rw [show numsR (valG (toGm L d)) = .tup [.sl (ss (valG (toGm L d))),.int .i64 0] from if_pos hN]
   simp only [go_sem]
  ·rw [show numsR (valG (toGm L d)) = .tup [.nils,.int .i64 4] from if_neg hN]
   simp only [go_sem]
end GoAbs
namespace GoAbs
open Go Go.Proofs
set_option maxHeartbeats 4000000
theorem Ymp {a f b:Rat}{k:Nat}(ha:Qb k a) (hf:Qb k f) (hb:Qb k b) (hk1:1≤k) (hk:k≤200000) :
  ∃ X Y,SpecV Tryz.prog Ye2 [.agg (rq f),.agg (rq b)] (.agg X)∧(∀ H ids,BVs H ids X X=True)∧SpecV Tryz.prog Z49 [.agg (rq a),.agg X] (.agg Y)∧(∀ H ids,BVs H ids Y Y=True)∧SpecV Tryz.prog Zsp [.agg Y] (.agg (rq (a+f*b))):=by
 have da:=a.den_pos
 have df:=f.den_pos
 have db:=b.den_pos
 have i1:Ib (2*k) (f.num*b.num):=(hf.ib.1.mul hb.ib.1).mono (by omega)
 have i2:Ib (2*k) ((f.den:Int)*b.den):=(hf.ib.2.mul hb.ib.2).mono (by omega)
 have h1:=rmulq (k:=k) hf.ib.1 hf.ib.2 hb.ib.1 hb.ib.2 (by omega)
 have h2:=raddq (k:=2*k) (ha.ib.1.mono (by omega)) (ha.ib.2.mono (by omega)) i1 i2 (by omega)
 have hd:(0:Int)<(f.den:Int)*b.den:=Int.mul_pos (by omega) (by omega)
 have e:Rat.divInt (a.num*((f.den:Int)*b.den)+f.num*b.num*a.den) ((a.den:Int)*((f.den:Int)*b.den))=a+f*b :=
  Xb8 (q:=a) (w:=f*b) (by omega) (by rw [← Rat.divInt_mul_divInt,Rat.num_divInt_den,Rat.num_divInt_den])
 have h3:=rlow (k:=3*k+1) (n:=a.num*((f.den:Int)*b.den)+f.num*b.num*a.den) (d:=(a.den:Int)*((f.den:Int)*b.den))
  (Ib.add (k:=3*k) ((ha.ib.1.mul i2).mono (by omega)) ((i1.mul ha.ib.2).mono (by omega))) ((ha.ib.2.mul i2).mono (by omega)) (Int.mul_pos (by omega) hd) (by omega)
 rw [e] at h3
 exact ⟨_,_,h1,fun H ids=>Yfj,h2,fun H ids=>Yfj,h3⟩
structure NdG (N:Nat) (n:Nd):Prop where
 ok:GnOk N (toGN n)
 kind:n.kind=((toGN n).kind:Int)
 len:n.mv.length=(toGN n).to.length
 to:∀ k m,n.mv[k]? = some m→m.1=((toGN n).to.getD k 0:Int)∧m.2.length≤23∧((toGN n).kind=3→parseL m.2=some (rget (toGN n).odds k))
 rew:n.rew.length≤23
 rq:parseL n.rew=some ((parseL n.rew).getD 0)∧Fitd 12 ((parseL n.rew).getD 0)
theorem Xch {N:Nat}{n:Nd}(hv:ndVa n=true) (hf:ndFi N n=true) (hl:n.rew.length≤23∧n.mv.length≤7∧∀ m,m∈n.mv→m.2.length≤23):NdG N n:=by
 have hok:=(Xfb hv hf hl).2.1
 unfold ndVa at hv
 rw [Bool.and_eq_true] at hv
 unfold ndFi at hf
 simp only [Bool.and_eq_true,decide_eq_true_eq] at hf
 obtain ⟨⟨⟨f1,f2⟩,f3⟩,f4⟩:=hf
 have hk:n.kind=1∨n.kind=2∨n.kind=3:=by
  unfold kindF at f4
  simp only [Bool.or_eq_true,Bool.and_eq_true,decide_eq_true_eq] at f4
  omega
 have hkk:n.kind=((toGN n).kind:Int):=by show n.kind=(n.kind.toNat:Int); omega
 have hm:∀ m,m∈n.mv→0≤m.1∧(!m.2.isEmpty)=decide (n.kind=3)∧(m.2.isEmpty=false→okB m.2=true):=fun m hmm=>by
  have a:=List.all_eq_true.1 f2 m hmm
  have b:=List.all_eq_true.1 hv.2 m hmm
  unfold mvFit mvFit1 at a
  simp only [Bool.and_eq_true,decide_eq_true_eq,beq_iff_eq,Bool.or_eq_true] at a b
  refine ⟨a.1.1.1,a.1.2,fun he=>?_⟩
  rcases b with b | b
  ·rw [b] at he; exact absurd he (by decide)
  ·exact b
 refine ⟨hok,hkk,by show _=(n.mv.map _).length; rw [List.length_map],fun k m hkm=>?_,hl.1,okBq hv.1,Z54 f1⟩
 have hmm:=List.mem_of_getElem? hkm
 obtain ⟨a1,a2,a3⟩:=hm m hmm
 refine ⟨?_,hl.2.2 m hmm,fun h3=>?_⟩
 ·show m.1=(((n.mv.map (·.1.toNat)).getD k 0:Nat):Int)
  rw [List.getD_eq_getElem?_getD,List.getElem?_map,hkm]
  show m.1=((m.1.toNat:Nat):Int)
  omega
 ·have h3':n.kind=3:=by omega
  have hfl:n.mv.filter hasO=n.mv:=List.filter_eq_self.2 fun m hmm=>by
   have:=(hm m hmm).2.1
   rw [h3'] at this
   unfold hasO
   rw [this]; rfl
  have he:m.2.isEmpty=false:=by rw [h3'] at a2; simpa using a2
  have:rget (toGN n).odds k=(parseL m.2).getD 0:=by
   show rget ((n.mv.filter hasO).map _) k=_
   rw [hfl]
   unfold rget
   rw [List.getD_eq_getElem?_getD,List.getElem?_map,hkm]; rfl
  rw [this]
  exact okBq (a3 he)
def nxB (x:GN) (v:List Rat) (k:Nat):Rat:=if x.kind=3 then dotW x.odds v x.to k else rget v (x.to.getD (bestG v x.to (if x.kind=1 then 1 else -1) k) 0)
theorem Y8d {N:Nat}{x:GN}{v:List Rat}(h:GnOk N x):nxB x v x.to.length=worthR x v:=by
 unfold nxB worthR bestA
 rcases h.kind with k | k | k <;> simp [k]
theorem Y40 {N k:Nat}{x:GN}{v:List Rat}(hx:GnOk N x) (hv:Rb k v) (hl:v.length=N) {i:Nat}(hi:i≤x.to.length):Qb (6*k+250) (nxB x v i):=by
 unfold nxB
 split
 ·rename_i h3
  obtain ⟨o1,o2⟩:=hx.odds h3
  refine (Z2d hv o2 (fun y hy=>by rw [hl]; exact hx.lt y hy) o1 i hi).mono ?_
  have h1:=hx.len
  have h2:=Nat.mul_le_mul_right (k+40+1) (show i≤6 by omega)
  omega
 ·have hb:=Zde (v:=v) (sg:=if x.kind=1 then 1 else -1) hx.pos hi
  exact (hv.get (by rw [hl]; exact hx.lt _ (Zbt hb))).mono (by omega)
theorem Yrv {v:List Rat}{j:Nat}(h:j<v.length):(v.map fun q=>AV.agg (rq q))[j]? = some (.agg (rq (rget v j))):=by rw [List.getElem?_map,Zal h]; rfl
theorem Y3g {N k:Nat}{n:Nd}{v:List Rat}{ms:List AV}{x4:Blk}(hms:ms=n.mv.map mvAV) (hx:NdG N n) (hv:Rb k v) (hk1:1≤k) (hk:k≤20000) (hl:v.length=N) (hN:N≤100) (hx4:∀ f,x4.gc f=x4) {K:Ex→St→Prop}
  (hK:∀ e:Nat→AV,e 4 = .ptr 1 0→e 5 = .ptr 2 0→K (.exit 0) ⟨e,[.cells [.int .i64 n.kind,.str (bs n.rew),.sl ms],x4,.cells (rq (worthR (toGN n) v))]⟩) :
  T Tryz.prog 65 0 (.loop Zk0) ⟨envL [(1,rowV v),(2,.ptr 0 0),(4,.ptr 1 0),(5,.ptr 2 0),(6,.int .i64 0)],[.cells [.int .i64 n.kind,.str (bs n.rew),.sl ms],x4,.cells (rq (nxB (toGN n) v 0))]⟩ K:=by
 have hmx:Tryz.prog.follows .mixedOrders=true:=by kernel_rfl
 have hmsl:ms.length=n.mv.length:=by rw [hms,List.length_map]
 have hlen:=hx.len
 have hl6:=hx.ok.len
 have rl:∀ q:Rat,(rq q).length=4:=fun q=>rfl
 have bvsr:∀ {H ids} {q:Rat},BVs H ids (rq q) (rq q)=True:=fun {H ids q}=>by unfold rq rc; simp only [go_sem]
 refine Zaf (fun i:Nat=>⟨envL [(1,rowV v),(2,.ptr 0 0),(4,.ptr 1 0),(5,.ptr 2 0),(6,.int .i64 (i:Int))],[.cells [.int .i64 n.kind,.str (bs n.rew),.sl ms],x4,.cells (rq (nxB (toGN n) v i))]⟩)
  (fun i=>i≤n.mv.length) (fun i=>n.mv.length - i) 0 (by omega) (Zab _ (by simp only [go_sem]; simp)) (fun i hi N' hN'=>?_)
 unfold Zk0
 by_cases hin:i<n.mv.length
 ·obtain ⟨m,hmi⟩:∃ m,n.mv[i]? = some m:=⟨_,List.getElem?_eq_getElem hin⟩
  obtain ⟨t1,t2,t3⟩:=hx.to i m hmi
  have hmsi:ms[i]? = some (.agg [.int .i64 m.1,.str (bs m.2)]):=by rw [hms,List.getElem?_map,hmi]; rfl
  have hlt:=hx.ok.lt _ (Zbt (to:=(toGN n).to) (k:=i) (by omega))
  have hqb:=Y40 hx.ok hv hl (i:=i) (by omega)
  have hwb:=hv.get (j:=(toGN n).to.getD i 0) (by omega)
  have hgw:=Yrv (v:=v) (j:=(toGN n).to.getD i 0) (by omega)
  have hkd:=hx.kind
  have hkk:=hx.ok.kind
  rw [t1] at hmsi
  have hcm:=Ypj (k:=6*k+250) (hwb.mono (by omega)) hqb (by omega)
  have hn3:(toGN n).kind=3→nxB (toGN n) v (i+1)=nxB (toGN n) v i+rget (toGN n).odds i*rget v ((toGN n).to.getD i 0):=fun h=>by unfold nxB; rw [if_pos h,if_pos h]; rfl
  have hn12:(toGN n).kind≠3→nxB (toGN n) v (i+1)=if cmpR (rget v ((toGN n).to.getD i 0)) (nxB (toGN n) v i)=(if (toGN n).kind=1 then 1 else -1) then rget v ((toGN n).to.getD i 0) else nxB (toGN n) v i:=fun h=>by
   unfold nxB
   rw [if_neg h,if_neg h]
   generalize (if (toGN n).kind=1 then (1:Int) else -1)=sg
   rw [show bestG v (toGN n).to sg (i+1)=if cmpR (rget v ((toGN n).to.getD i 0)) (rget v ((toGN n).to.getD (bestG v (toGN n).to sg i) 0))=sg then i else bestG v (toGN n).to sg i from rfl]
   by_cases hc:cmpR (rget v ((toGN n).to.getD i 0)) (rget v ((toGN n).to.getD (bestG v (toGN n).to sg i) 0))=sg
   ·rw [if_pos hc,if_pos hc]
   ·rw [if_neg hc,if_neg hc]
  have hob:(toGN n).kind=3→Qb 40 (rget (toGN n).odds i):=fun h=>by
   obtain ⟨o1,o2⟩:=hx.ok.odds h
   exact o2.get (by omega)
  generalize (toGN n).to.getD i 0=y at *
  generalize nxB (toGN n) v i=b at *
  generalize hnb:nxB (toGN n) v (i+1)=b' at *
  have q0:(0:Int)≤(i:Int):=by omega
  have q1:(i:Int)<(n.mv.length:Int):=by omega
  have q2:(0:Int)≤(y:Int):=by omega
  have q3:(y:Int)<(v.length:Int):=by omega
  have e1:IntKind.i64.wrap ((i:Int)+1)=((i+1:Nat):Int):=by rw [Zac (by omega) (by omega)]; omega
  have fin:∀ (e:Nat→AV) (post:Heap) (kd:Int) (z:Rat),kd=n.kind→z=b'→Has e [(1,rowV v),(2,.ptr 0 0),(4,.ptr 1 0),(5,.ptr 2 0),(6,.int .i64 ((i+1:Nat):Int))] →
    N' ⟨e,[.cells [.int .i64 kd,.str (bs n.rew),.sl ms],x4,.cells (rq z)]++post⟩:=fun e post kd z h1 h2 he=>by
   subst h1 h2
   refine hN' (i+1) _ (by omega) (by omega) (Zb4 (Zhz (K := [.cells [.int .i64 n.kind,.str (bs n.rew),.sl ms],x4,.cells (rq z)]) (m:=3) rfl ?_ (by omega) _ he ?_) (by rw [hnb]))
   ·unfold Clo
    show [Blk.cells [_,_,_],x4.gc _,Blk.cells (gcL _ (rq z))]=_
    rw [hx4]; rfl
   ·simp [AV.gc,Zbm,rowV]
  unfold rowV at fin ⊢
  simp only [go_sem,Zus,Z6u,Z7o,Z9a,q0,q1,q2,q3,hmsl,hmsi,hgw,rl,Zbl,Zbo,List.length_map]
  by_cases k1:n.kind=1
  ·have hk1':(toGN n).kind=1:=by omega
   have hn:=hn12 (by omega)
   rw [if_pos hk1'] at hn
   have hgt:(cmpR (rget v y) b > 0)=(cmpR (rget v y) b=1):=propext (by unfold cmpR; split; decide; split <;> decide)
   simp only [go_sem,k1,Z38,rl,Zbl,Zbo]
   refine Zaa hcm (by simp only [go_sem,bvsr]) ?_
   by_cases hc:cmpR (rget v y) b=1
   ·have hc0:0<cmpR (rget v y) b:=by rw [hc]; decide
    rw [if_pos hc] at hn
    simp only [go_sem,hc0,Z2k,Zdc,rl,Zbl,Zbo,e1]
    exact fin _ [_] _ _ k1.symm hn.symm (by simp only [go_sem])
   ·have hc0:¬ 0<cmpR (rget v y) b:=fun h=>hc (hgt.mp h)
    rw [if_neg hc] at hn
    simp only [go_sem,hc0,Zdc,e1]
    exact fin _ [_] _ _ k1.symm hn.symm (by simp only [go_sem])
  ·by_cases k2:n.kind=2
   ·have hn:=hn12 (by omega)
    rw [if_neg (show ¬ (toGN n).kind=1 by omega)] at hn
    have hlt':(cmpR (rget v y) b<0)=(cmpR (rget v y) b = -1):=propext (by unfold cmpR; split; decide; split <;> decide)
    have n21:¬ (2:Int)=1:=by decide
    simp only [go_sem,k2,n21,Zqb,Z2n,rl,Zbl,Zbo]
    refine Zaa hcm (by simp only [go_sem,bvsr]) ?_
    by_cases hc:cmpR (rget v y) b = -1
    ·have hc0:cmpR (rget v y) b<0:=by rw [hc]; decide
     rw [if_pos hc] at hn
     simp only [go_sem,hc0,Z3j,Zdc,rl,Zbl,Zbo,e1]
     exact fin _ [_] _ _ k2.symm hn.symm (by simp only [go_sem])
    ·have hc0:¬ cmpR (rget v y) b<0:=fun h=>hc (hlt'.mp h)
     rw [if_neg hc] at hn
     simp only [go_sem,hc0,Zdc,e1]
     exact fin _ [_] _ _ k2.symm hn.symm (by simp only [go_sem])
   ·have h3:(toGN n).kind=3:=by omega
    have hn:=hn3 h3
    have hp:=t3 h3
    have hof:SpecV Tryz.prog Zwo [.str (bs m.2)] (.agg (rq (rget (toGN n).odds i))):=rof (by omega) hp
    have k3:n.kind=3:=by omega
    have n31:¬ (3:Int)=1:=by decide
    have n32:¬ (3:Int)=2:=by decide
    obtain ⟨X,Y,a1,a2,a3,a4,a5⟩:=Ymp (k:=6*k+250) hqb ((hob h3).mono (by omega)) (hwb.mono (by omega)) (by omega) (by omega)
    rw [← hn] at a5
    simp only [go_sem,k3,n31,n32,Zqb,Zqk,q0,q1,hmsl,hmsi,rl,Zbl,Zbo,hmx]
    refine Zaa hof (by simp only [go_sem]) ?_
    simp only [go_sem,rl,Zbl,Zbo]
    refine Zaa a1 (by simp only [go_sem,bvsr]) ?_
    simp only [go_sem]
    refine Zaa a3 (by simp only [go_sem,bvsr,a2]) ?_
    simp only [go_sem]
    refine Zaa a5 (by simp only [go_sem,a4]) ?_
    simp only [go_sem,rl,Zbl,Zbo,Zdc,e1]
    exact fin _ [_] _ _ k3.symm rfl (by simp only [go_sem])
 ·have hie:i=n.mv.length:=by omega
  subst hie
  have q1:¬ ((n.mv.length:Nat):Int)<(n.mv.length:Int):=by omega
  simp only [go_sem,Zus,hmsl,q1]
  have hend:nxB (toGN n) v n.mv.length=worthR (toGN n) v:=by rw [hlen]; exact Y8d hx.ok
  rw [hend]
  exact hK _ (by simp only [go_sem]) (by simp only [go_sem])
theorem rnext {N k:Nat}{n:Nd}{v:List Rat}(hx:NdG N n) (hv:Rb k v) (hk1:1≤k) (hk:k≤20000) (hl:v.length=N) (hN:N≤100) :
  SpecV Tryz.prog Ytk [ndAV n,rowV v] (.agg (rq (worthR (toGN n) v))):=by
 obtain ⟨ms,hms⟩:∃ ms,ms=n.mv.map mvAV:=⟨_,rfl⟩
 have hmsl:ms.length=n.mv.length:=by rw [hms,List.length_map]
 have hlen:=hx.len
 have hpos:=hx.ok.pos
 have rl:∀ q:Rat,(rq q).length=4:=fun q=>rfl
 have bvsr:∀ {H ids} {q:Rat},BVs H ids (rq q) (rq q)=True:=fun {H ids q}=>by unfold rq rc; simp only [go_sem]
 have hA:ndAV n = .agg [.int .i64 n.kind,.str (bs n.rew),.sl ms]:=by unfold ndAV; rw [hms]
 rw [hA]
 obtain ⟨m,hmi⟩:∃ m,n.mv[0]? = some m:=⟨_,List.getElem?_eq_getElem (by omega)⟩
 obtain ⟨t1,t2,t3⟩:=hx.to 0 m hmi
 have hmsi:ms[0]? = some (.agg [.int .i64 m.1,.str (bs m.2)]):=by rw [hms,List.getElem?_map,hmi]; rfl
 have hlt:=hx.ok.lt _ (Zbt (to:=(toGN n).to) (k:=0) (by omega))
 have hgw:=Yrv (v:=v) (j:=(toGN n).to.getD 0 0) (by omega)
 have hb0:nxB (toGN n) v 0=if (toGN n).kind=3 then 0 else rget v ((toGN n).to.getD 0 0):=by unfold nxB; split <;> rfl
 have hkd:=hx.kind
 rw [t1] at hmsi
 have q2:(0:Int)≤(((toGN n).to.getD 0 0:Nat):Int):=by omega
 have q3:(((toGN n).to.getD 0 0:Nat):Int)<(v.length:Int):=by omega
 have q4:(0:Int)<(n.mv.length:Int):=by omega
 have w0:SpecV Tryz.prog Zgf [.int .i64 0] (.agg (rq 0)):=rwhole (v:=0) (by decide)
 generalize (toGN n).to.getD 0 0=y at *
 have rest:∀ (e:Nat→AV) (kd:Int) (z:Rat),kd=n.kind→z=nxB (toGN n) v 0→e 1=rowV v→e 2 = .ptr 0 0→e 4 = .ptr 1 0→e 5 = .ptr 2 0 →
   T Tryz.prog 65 0 (.seq (.seq (.rg false Zso) (.block 0 (.loop Zk0))) (.seq (.rg false Zir) .ret)) ⟨e,[.cells [.int .i64 kd,.str (bs n.rew),.sl ms],.cells [.bool false,.nils,.bool false,.nils],.cells (rq z)]⟩ (retQ [.cell 4 (some 4)] (.agg (rq (worthR (toGN n) v)))):=fun e kd z h1 h2 k1 k2 k4 k5=>by
  subst h1 h2
  refine Zay (Zay (T_W ?_))
  simp only [go_sem,Zso]
  refine Zaz (Zar [(1,rowV v),(2,.ptr 0 0),(4,.ptr 1 0),(5,.ptr 2 0),(6,.int .i64 0)] (by simp only [go_sem,k1,k2,k4,k5]) (Y3g hms hx hv hk1 hk hl hN (fun f=>rfl) (fun e k4 k5=>?_)))
  show T Tryz.prog 65 0 (.seq (.rg false Zir) .ret) _ _
  refine T_W ?_
  simp only [go_sem,Zir,k4,k5,rl,Zbl,Zbo,bvsr]
 refine Zaw Yn3 (by simp) (Za5 2 rfl ?_)
 unfold Yj2
 unfold rowV at rest ⊢
 simp only [go_sem,Z8i,Z62,Z6c,hmsl,hmsi,hgw,q2,q3,q4,rl,Zbl,Zbo,List.length_map]
 by_cases k3:n.kind=3
 ·simp only [go_sem,k3,Z8b]
  refine Zaa w0 (by simp only [go_sem]) ?_
  simp only [go_sem,rl,Zbl,Zbo]
  exact rest _ _ 0 k3.symm (by rw [hb0,if_pos (by omega)]) (by simp only [go_sem]) (by simp only [go_sem]) (by simp only [go_sem]) (by simp only [go_sem])
 ·simp only [go_sem,k3]
  exact rest _ _ _ rfl (by rw [hb0,if_neg (by omega)]) (by simp only [go_sem]) (by simp only [go_sem]) (by simp only [go_sem]) (by simp only [go_sem])
end GoAbs
namespace GoAbs
open Go Go.Proofs
set_option maxHeartbeats 8000000
def rndR (g:Gm):Nat→List Rat
 | 0=>List.replicate g.nodes.length 0
 | k+1=>nextR g (rndR g k)
theorem Zlo {g:Gm}:∀ k,(rndR g k).length=g.nodes.length
 | 0=>List.length_replicate
 | k+1=>Zsn
def rndB:Nat→Nat
 | 0=>1
 | k+1=>6*rndB k+331
theorem Yjy:∀ {k:Nat},k≤9→rndB k≤1000000000:=by
 intro k hk
 have:k=0∨k=1∨k=2∨k=3∨k=4∨k=5∨k=6∨k=7∨k=8∨k=9:=by omega
 rcases this with rfl | rfl | rfl | rfl | rfl | rfl | rfl | rfl | rfl | rfl <;> decide
theorem Yov {g:Gm}(hg:GmOk g):∀ k,Rb (rndB k) (rndR g k)
 | 0=>fun q hq=>by rw [(List.mem_replicate.1 hq).2]; exact Qb.zero (by unfold rndB; omega)
 | k+1=>Yzc hg (Yov hg k) (Zlo k)
theorem Xcx {n:Nat}{gc:List AV}{r:Int}{K:Ex→St→Prop}(hn:n≤100)
  (hK:∀ e:Nat→AV,e 2 = .int .i64 r→e 8 = .rp gc→e 10 = .osl (some 4) 0 0 n→K (.exit 1) ⟨e,[.cells (rows n (qcell 0))]⟩) :
  T Tryz.prog 53 0 (.loop Zj1) ⟨envL [(2,.int .i64 r),(8,.rp gc),(10,.osl (some 4) 0 0 n),(33,.int .i64 (n:Int)),(34,.int .i64 0)],[.cells (rows n z4)]⟩ K:=by
 refine Zaf (fun i:Nat=>⟨envL [(2,.int .i64 r),(8,.rp gc),(10,.osl (some 4) 0 0 n),(33,.int .i64 (n:Int)),(34,.int .i64 (i:Int))],[.cells (rows i (qcell 0)++rows (n - i) z4)]⟩)
  (fun i=>i≤n) (fun i=>n - i) 0 (by omega) (Zab _ (by simp only [go_sem]; simp [rows])) (fun i hi N hN=>?_)
 unfold Zj1
 by_cases hin:i<n
 ·have q0:(0:Int)≤(i:Int):=by omega
  have q1:(i:Int)<(n:Int):=by omega
  have e1:IntKind.i64.wrap ((i:Int)+1)=((i+1:Nat):Int):=by rw [Zac (by omega) (by omega)]; omega
  have rl:∀ (m:Nat) (c:List AV),c.length=4→(rows m c).length=m*4:=fun m c hc=>by unfold rows; rw [Z3d (fun d hd=>by rw [(List.mem_replicate.1 hd).2,hc]),List.length_replicate]
  have ql:(qcell 0).length=4:=rfl
  have zl:z4.length=4:=rfl
  have hfit:i*4+4≤(rows i (qcell 0)++rows (n - i) z4).length:=by rw [List.length_append,rl _ _ ql,rl _ _ zl]; omega
  have hset:(rows i (qcell 0)++rows (n - i) z4).take (i*4)++qcell 0++(rows i (qcell 0)++rows (n - i) z4).drop (i*4+4)=rows (i+1) (qcell 0)++rows (n - (i+1)) z4:=by
   have h1:rows (n - i) z4=z4++rows (n - (i+1)) z4:=by
    unfold rows
    rw [show n - i=(n - (i+1))+1 by omega,List.replicate_succ,List.flatten_cons]
   have h2:rows (i+1) (qcell 0)=rows i (qcell 0)++qcell 0:=by
    unfold rows
    rw [List.replicate_succ',List.flatten_append]; simp
   rw [h1,h2,List.take_append_of_le_length (by rw [rl _ _ ql]; omega),List.take_of_length_le (by rw [rl _ _ ql]; omega)]
   rw [show i*4+4=(rows i (qcell 0)).length+z4.length by rw [rl _ _ ql,zl], ← List.append_assoc, ← List.length_append,List.drop_left]
  simp only [go_sem,Zjk,Zro,Zq3,q0,q1]
  refine Zaa Yk5 (by simp only [go_sem]) ?_
  simp only [go_sem,Zat,ql,hfit,hset,Zqw,e1,Zan]
  exact ⟨q0,q1,hN (i+1) _ (by omega) (by omega) (Zab _ (by simp only [go_sem]))⟩
 ·have hie:i=n:=by omega
  subst hie
  have q1:¬ ((i:Nat):Int)<(i:Int):=by omega
  simp only [go_sem,Zjk,q1]
  have:rows i (qcell 0)++rows (i - i) z4=rows i (qcell 0):=by rw [Nat.sub_self]; simp [rows]
  rw [this]
  exact hK _ (by simp only [go_sem]) (by simp only [go_sem]) (by simp only [go_sem])
theorem Xcy {g:Gm}{r:Nat}{H:Heap}(hg:GmOk g) (hr:r≤8) {K:Ex→St→Prop}
  (hK:∀ e:Nat→AV,e 10 = .sl (condsR (rndR g r))→K (.exit 3) ⟨e,H⟩) :
  T Tryz.prog 53 0 (.loop Zf0) ⟨envL [(8,.rp (gmC g)),(10,.sl (condsR (rndR g 0))),(42,.int .i64 (r:Int)),(43,.int .i64 0)],H⟩ K:=by
 refine Zaf (fun i:Nat=>⟨envL [(8,.rp (gmC g)),(10,.sl (condsR (rndR g i))),(42,.int .i64 (r:Int)),(43,.int .i64 (i:Int))],H⟩)
  (fun i=>i≤r) (fun i=>r - i) 0 (by omega) (Zab _ (by simp only [go_sem]; simp)) (fun i hi N hN=>?_)
 unfold Zf0
 by_cases hin:i<r
 ·have hb:=Yov hg i
  have hnx:=Yya hg hb (Zlo i) (by have:=Yjy (k:=i) (by omega); omega)
  have hs:nextR g (rndR g i)=rndR g (i+1):=rfl
  rw [hs] at hnx
  have q1:(i:Int)<(r:Int):=by omega
  have e1:IntKind.i64.wrap ((i:Int)+1)=((i+1:Nat):Int):=by rw [Zac (by omega) (by omega)]; omega
  simp only [go_sem,Zh4,Zrb,q1]
  refine Zaa hnx (by simp only [go_sem]) ?_
  simp only [go_sem,Zqy,e1]
  exact hN (i+1) _ (by omega) (by omega) (Zab _ (by simp only [go_sem]))
 ·have hie:i=r:=by omega
  subst hie
  have q1:¬ ((i:Nat):Int)<(i:Int):=by omega
  simp only [go_sem,Zh4,q1]
  exact hK _ (by simp only [go_sem])
def rC (L:List Nd) (d:List UInt8) (r:Int):Int:=if eC L d=0 then (if r<0∨30<r then 1 else 0) else eC L d
theorem wrounds {L:List Nd}{d:List UInt8}{r:Int}(h:GIn L d) (hr:r<0∨30<r∨r≤8) :
  SpecV Tryz.prog Yi1 [.sl (L.map ndAV),.str (bs d),.int .i64 r] (if rC L d r=0 then numsR (rndR (toGm L d) r.toNat) else .tup [.nils,.int .i64 (rC L d r)]):=by
 rcases Z9r h with ⟨h1,hs⟩ | ⟨h1,hs,hg,hn,hn1,hn5⟩
 ·rw [show rC L d r=eC L d from if_neg h1,if_neg h1]
  refine Zaw Zlz (by simp) (Za5 2 rfl ?_)
  unfold Zlh
  simp only [go_sem,Zf3,Zfy]
  refine Zaa hs (by simp only [go_sem]) ?_
  simp only [go_sem,Zdb,Zt1,h1]
 ·rw [show rC L d r=if r<0∨30<r then 1 else 0 from if_pos h1]
  by_cases hbad:r<0∨30<r
  ·rw [if_pos hbad,if_neg (by decide)]
   refine Zaw Zlz (by simp) (Za5 2 rfl ?_)
   unfold Zlh
   simp only [go_sem,Zf3,Zfy]
   refine Zaa hs (by simp only [go_sem]) ?_
   by_cases b1:r<0
   ·simp only [go_sem,Zdb,Zfm,Zj7,b1]
   ·have b2:30<r:=by omega
    simp only [go_sem,Zdb,Zfm,Zj7,b1,b2]
  ·rw [if_neg hbad,if_pos rfl]
   have b1:¬ r<0:=by omega
   have b2:¬ 30<r:=by omega
   obtain ⟨k,hk⟩:∃ k:Nat,r=k:=⟨r.toNat,by omega⟩
   subst hk
   have hkt:((k:Nat):Int).toNat=k:=by omega
   rw [hkt]
   have hk8:k≤8:=by omega
   generalize toGm L d=g at *
   have hm:=Yli (x:=rndR g k) (Xcw ((Yov hg.ok k).mono (Yjy (by omega))) (by omega)) (by rw [Zlo]; omega)
   obtain ⟨n,hn'⟩:∃ n,n=L.length:=⟨_,rfl⟩
   have hsz:(64:Int)*(n:Int)≤281474976710656:=by omega
   have z0:(0:Int)≤(n:Int):=by omega
   refine Zaw Zlz (by simp) (Za5 3 rfl ?_)
   unfold Zlh
   simp only [go_sem,Zf3,Zfy]
   refine Zaa hs (by simp only [go_sem]) ?_
   simp only [go_sem,Zdb,Zfm,Zt9,b1,b2,List.length_map]
   rw [← hn']
   simp only [go_sem,hsz,z0,Int.le_refl,Int.toNat_natCast]
   refine ⟨by omega,?_⟩
   refine Zay (Zay (T_W ?_))
   simp only [go_sem,Zvv]
   rw [show (List.replicate n [AV.bool false,AV.nils,AV.bool false,AV.nils]).flatten=rows n z4 from rfl]
   refine Zaz (Zar [(2,.int .i64 (k:Int)),(8,.rp (gmC g)),(10,.osl (some 4) 0 0 n),(33,.int .i64 (n:Int)),(34,.int .i64 0)] (by simp only [go_sem]) (Xcx (by omega) (fun e k2 k8 k10=>?_)))
   show T Tryz.prog 53 0 (.seq (.seq (.rg false Zh0) (.block 3 (.loop Zf0))) (.seq (.rg false Zej) .ret)) _ _
   have h0:rows n (qcell 0)=qc (rndR g 0):=by
    show _=qc (List.replicate g.nodes.length 0)
    unfold rows qc
    rw [hn, ← hn',List.flatMap_def,List.map_replicate]
   have hl0:n=(rndR g 0).length:=by rw [Zlo,hn,hn']
   rw [h0]
   refine Zwq [0] [(2,.int .i64 (k:Int)),(8,.rp (gmC g)),(10,.sl (condsR (rndR g 0)))] ?_ ?_
   ·refine ⟨.inr k2,.inr k8,.inl ?_,trivial⟩
    show BV [Blk.cells (qc (rndR g 0))] [0] (e 10) _
    rw [k10]
    have hbv:=Yjb (H := [Blk.cells (qc (rndR g 0))]) (ids := [0]) (b:=0) (r:=rndR g 0) rfl (by simp)
    rw [← hl0] at hbv
    exact hbv
   refine Zay (Zay (T_W ?_))
   simp only [go_sem,Zh0]
   refine Zaz (Zar [(8,.rp (gmC g)),(10,.sl (condsR (rndR g 0))),(42,.int .i64 (k:Int)),(43,.int .i64 0)] (by simp only [go_sem]) (Xcy hg.ok hk8 (fun e k10=>?_)))
   show T Tryz.prog 53 0 (.seq (.rg false Zej) .ret) _ _
   refine T_W ?_
   simp only [go_sem,Zej,k10]
   refine Zaa hm (by simp only [go_sem]) ?_
   by_cases hN:∀ q,q∈rndR g k→NumOk q
   ·rw [show numsR (rndR g k) = .tup [.sl (ss (rndR g k)),.int .i64 0] from if_pos hN]
    simp only [go_sem]
   ·rw [show numsR (rndR g k) = .tup [.nils,.int .i64 4] from if_neg hN]
    simp only [go_sem]
end GoAbs
namespace GoAbs
open Go Go.Proofs
set_option maxHeartbeats 4000000
theorem Yyl {r:List Rat}{q:Rat}:qr (r ++ [q])=qr r++rq q:=by unfold qr; rw [List.flatMap_append]; simp
theorem rstep {L:List Nd}{d:List UInt8}{v:List Rat}{k:Nat}(hL:∀ n,n∈L→NdG L.length n) (hd:Qb 40 (toGm L d).d) (hv:Rb k v) (hk1:1≤k) (hk:k≤20000) (hl:v.length=L.length) (hN1:L.length≤100) :
  SpecV Tryz.prog Ysj [.sl (L.map ndAV),.agg (rq (toGm L d).d),rowV v] (rowV (nextR (toGm L d) v)):=by
 have hmx:Tryz.prog.follows .mixedOrders=true:=by kernel_rfl
 obtain ⟨ls,hls⟩:∃ ls,ls=L.map ndAV:=⟨_,rfl⟩
 have hlsl:ls.length=L.length:=by rw [hls,List.length_map]
 obtain ⟨g,hg⟩:∃ g,g=toGm L d:=⟨_,rfl⟩
 have hgn:g.nodes.length=L.length:=by rw [hg]; unfold toGm; rw [List.length_map]
 have rl:∀ q:Rat,(rq q).length=4:=fun q=>rfl
 have bvsr:∀ {H ids} {q:Rat},BVs H ids (rq q) (rq q)=True:=fun {H ids q}=>by unfold rq rc; simp only [go_sem]
 rw [← hls, ← hg]
 rw [← hg] at hd
 refine Zaw Yo6 (by simp) (Za5 1 rfl ?_)
 unfold Ylp
 simp only [go_sem,Z8k,Z69]
 refine T_le (Zme 7 (some 4) (by simp only [go_sem]) [(0,.sl ls),(2,rowV v),(4,.ptr 0 0)] (by simp only [go_sem])) ?_
 refine Zay (Zay (T_W ?_))
 simp only [go_sem,Z8j,List.cons_append,List.nil_append,List.length_cons,List.length_nil]
 refine Zaz (Zfh (fun i:Nat=>⟨envL [(0,.sl ls),(2,rowV v),(4,.ptr 0 0),(7,.osl (some 4) 1 0 i),(8,.int .i64 (i:Int))],[.cells (rq g.d),.cells (qr ((nextR g v).take i))]⟩)
  (fun i=>i≤L.length) (fun i=>L.length - i) 0 (by omega) (Zb4 (Zab [(0,.sl ls),(2,rowV v),(4,.ptr 0 0),(7,.osl (some 4) 1 0 0),(8,.int .i64 0)] (by simp only [go_sem])) (by simp [qr])) (fun i hi N hN=>?_))
 unfold Z8l
 refine T_W ?_
 by_cases hin:i<L.length
 ·obtain ⟨n,hn⟩:∃ n,L[i]? = some n:=⟨_,List.getElem?_eq_getElem hin⟩
  have hx:=hL n (List.mem_of_getElem? hn)
  have hget:ls[i]? = some (.agg [.int .i64 n.kind,.str (bs n.rew),.sl (n.mv.map mvAV)]):=by rw [hls,List.getElem?_map,hn]; rfl
  have hne:nextV g v i=(parseL n.rew).getD 0+g.d*worthR (toGN n) v:=by
   unfold nextV
   rw [hg]
   unfold toGm
   simp only
   congr 1
   ·unfold rget; rw [List.getD_eq_getElem?_getD,List.getElem?_map,hn]; rfl
   ·rw [List.getD_eq_getElem?_getD,List.getElem?_map,hn]; rfl
  have hnx:(nextR g v)[i]? = some (nextV g v i):=by unfold nextR; rw [List.getElem?_map,List.getElem?_range (by omega)]; rfl
  have tk:qr ((nextR g v).take (i+1))=qr ((nextR g v).take i)++rq (nextV g v i):=by rw [List.take_add_one,hnx]; exact Yyl
  have hnxt:=rnext hx hv hk1 hk hl hN1
  have hwb:=Z47 hx.ok hv hl
  have hof:SpecV Tryz.prog Zwo [.str (bs n.rew)] (.agg (rq ((parseL n.rew).getD 0))):=rof (by have:=hx.rew; omega) hx.rq.1
  obtain ⟨X,Y,a1,a2,a3,a4,a5⟩:=Ymp (k:=6*k+250) ((Yja hx.rq.2).mono (by omega)) (hd.mono (by omega)) hwb (by omega) (by omega)
  rw [← hne] at a5
  have hA:ndAV n = .agg [.int .i64 n.kind,.str (bs n.rew),.sl (n.mv.map mvAV)]:=rfl
  rw [hA] at hnxt
  have l1:(qr ((nextR g v).take i)).length=i*4:=by rw [Y6t,List.length_take,Zsn]; congr 1; omega
  have l2:(qr ((nextR g v).take i)).take (i*4)=qr ((nextR g v).take i):=List.take_of_length_le (by omega)
  have q0:(0:Int)≤(i:Int):=by omega
  have q1:(i:Int)<(L.length:Int):=by omega
  have s1:(i+1)*64≤1099511627776:=by omega
  have e1:IntKind.i64.wrap ((i:Int)+1)=((i+1:Nat):Int):=by rw [Zac (by omega) (by omega)]; omega
  generalize nextV g v i=nq at *
  simp only [go_sem,Zsq,Zwd,q0,q1,hlsl,hget,rl,Zbl,Zbo,hmx]
  refine Zaa hof (by simp only [go_sem]) ?_
  simp only [go_sem,q0,q1,hlsl,hget,rl,Zbl,Zbo]
  refine Zaa hnxt (by simp only [go_sem,rowV]) ?_
  simp only [go_sem]
  refine Zaa a1 (by simp only [go_sem,bvsr]) ?_
  simp only [go_sem]
  refine Zaa a3 (by simp only [go_sem,bvsr,a2]) ?_
  simp only [go_sem]
  refine Zaa a5 (by simp only [go_sem,a4]) ?_
  simp only [go_sem,rl,Zbl,Zbo,l1,l2,s1,Z7u,e1,Nat.le_refl]
  refine hN (i+1) _ (by omega) (by omega) (Zb4 (Zi8 [0,3] (by decide) (fun i hi=>by omega) [(0,.sl ls),(2,rowV v),(4,.ptr 0 0),(7,.osl (some 4) 3 0 (i+1)),(8,.int .i64 ((i+1:Nat):Int))] (by simp only [go_sem])) ?_)
  show St.mk _ [Blk.cells (gcL _ (rq g.d)),Blk.cells (gcL _ (qr ((nextR g v).take i)++rq nq))]=_
  rw [← tk,Xei]
  rfl
 ·have hie:i=L.length:=by omega
  subst hie
  have q1:¬ ((L.length:Nat):Int)<(L.length:Int):=by omega
  have hl2:(nextR g v).length=L.length:=by rw [Zsn,hgn]
  rw [List.take_of_length_le (by omega)]
  simp only [go_sem,Zsq,hlsl,q1]
  refine T_W ?_
  simp only [go_sem,Z79]
  rw [← hl2]
  exact Yww rfl (by simp [allOf])
theorem rrounds {L:List Nd}{d:List UInt8}{r:Nat}(hL:∀ n,n∈L→NdG L.length n) (hd:Qb 40 (toGm L d).d) (hb:∀ j,j≤r→Rb 20000 (rndR (toGm L d) j)) (hN1:L.length≤100) (hr:r≤100) :
  SpecV Tryz.prog Yjs [.sl (L.map ndAV),.agg (rq (toGm L d).d),.int .i64 (r:Int)] (rowV (rndR (toGm L d) r)):=by
 obtain ⟨ls,hls⟩:∃ ls,ls=L.map ndAV:=⟨_,rfl⟩
 have hlsl:ls.length=L.length:=by rw [hls,List.length_map]
 have hst:=fun j (hj:j≤r)=>rstep hL hd (hb j hj) (by omega) (by omega) (by rw [Zlo]; unfold toGm; rw [List.length_map]) hN1
 obtain ⟨g,hg⟩:∃ g,g=toGm L d:=⟨_,rfl⟩
 have hgn:g.nodes.length=L.length:=by rw [hg]; unfold toGm; rw [List.length_map]
 have rl:∀ q:Rat,(rq q).length=4:=fun q=>rfl
 have bvsr:∀ {H ids} {q:Rat},BVs H ids (rq q) (rq q)=True:=fun {H ids q}=>by unfold rq rc; simp only [go_sem]
 have w0:SpecV Tryz.prog Zgf [.int .i64 0] (.agg (rq 0)):=rwhole (v:=0) (by decide)
 rw [← hls, ← hg]
 rw [← hg] at hd
 rw [← hls, ← hg] at hst
 refine Zaw Yif (by simp) (Za5 1 rfl ?_)
 unfold Ydn
 simp only [go_sem,Zzp,Zxt]
 refine T_le (Zme 7 (some 4) (by simp only [go_sem]) [(0,.sl ls),(2,.int .i64 (r:Int)),(4,.ptr 0 0)] (by simp only [go_sem])) ?_
 refine Zay (Zay (T_W ?_))
 simp only [go_sem,Zyn,List.cons_append,List.nil_append,List.length_cons,List.length_nil]
 refine Zaz (Zfh (fun i:Nat=>⟨envL [(0,.sl ls),(2,.int .i64 (r:Int)),(4,.ptr 0 0),(7,.osl (some 4) 1 0 i),(8,.int .i64 (i:Int))],[.cells (rq g.d),.cells (qr (List.replicate i 0))]⟩)
  (fun i=>i≤L.length) (fun i=>L.length - i) 0 (by omega) (Zb4 (Zab [(0,.sl ls),(2,.int .i64 (r:Int)),(4,.ptr 0 0),(7,.osl (some 4) 1 0 0),(8,.int .i64 0)] (by simp only [go_sem])) (by simp [qr])) (fun i hi N hN=>?_))
 unfold Zzb
 refine T_W ?_
 by_cases hin:i<L.length
 ·have tk:qr (List.replicate (i+1) 0)=qr (List.replicate i 0)++rq 0:=by rw [List.replicate_succ',Yyl]
  have l1:(qr (List.replicate i (0:Rat))).length=i*4:=by rw [Y6t,List.length_replicate]
  have l2:(qr (List.replicate i (0:Rat))).take (i*4)=qr (List.replicate i 0):=List.take_of_length_le (by omega)
  have q1:(i:Int)<(L.length:Int):=by omega
  have s1:(i+1)*64≤1099511627776:=by omega
  have e1:IntKind.i64.wrap ((i:Int)+1)=((i+1:Nat):Int):=by rw [Zac (by omega) (by omega)]; omega
  simp only [go_sem,Zl2,Zxo,q1,hlsl]
  refine Zaa w0 (by simp only [go_sem]) ?_
  simp only [go_sem,rl,Zbl,Zbo,l1,l2,s1,Zy2,e1,Nat.le_refl,List.cons_append,List.nil_append]
  refine hN (i+1) _ (by omega) (by omega) (Zb4 (Zi8 [0,3] (by decide) (fun i hi=>by omega) [(0,.sl ls),(2,.int .i64 (r:Int)),(4,.ptr 0 0),(7,.osl (some 4) 3 0 (i+1)),(8,.int .i64 ((i+1:Nat):Int))] (by simp only [go_sem])) ?_)
  show St.mk _ [Blk.cells (gcL _ (rq g.d)),Blk.cells (gcL _ (qr (List.replicate i 0)++rq 0))]=_
  rw [← tk,Xei]
  rfl
 ·have hie:i=L.length:=by omega
  subst hie
  have q1:¬ ((L.length:Nat):Int)<(L.length:Int):=by omega
  simp only [go_sem,Zl2,hlsl,q1]
  have h0:List.replicate L.length (0:Rat)=rndR g 0:=by show _=List.replicate g.nodes.length 0; rw [hgn]
  have hl0:L.length=(rndR g 0).length:=by rw [Zlo,hgn]
  rw [h0]
  refine Zwq [1] [(0,.sl ls),(2,.int .i64 (r:Int)),(4,.ptr 0 0),(7,rowV (rndR g 0))] ?_ ?_
  ·refine ⟨.inr (by simp only [go_sem]),.inr (by simp only [go_sem]),.inr (by simp only [go_sem]),.inl ?_,trivial⟩
   have hbv:=Yww (H := [Blk.cells (rq g.d),Blk.cells (qr (rndR g 0))]) (ids := [1]) (b:=1) (x:=rndR g 0) rfl (by simp)
   rw [← hl0] at hbv
   simp only [go_sem]
   exact hbv
  refine Zay (Zay (T_W ?_))
  simp only [go_sem,Zxa]
  show T Tryz.prog 31 0 _ ⟨_,[Blk.cells (rq g.d),.dead]⟩ _
  refine Zaz (Zaf (fun i:Nat=>⟨envL [(0,.sl ls),(2,.int .i64 (r:Int)),(4,.ptr 0 0),(7,rowV (rndR g i)),(9,.int .i64 (i:Int))],[.cells (rq g.d),.dead]⟩)
   (fun i=>i≤r) (fun i=>r - i) 0 (by omega) (Zab _ (by simp only [go_sem]; simp)) (fun i hi N hN=>?_))
  unfold Zxw
  by_cases hir:i<r
  ·have hs:=hst i (by omega)
   have hnx:nextR g (rndR g i)=rndR g (i+1):=rfl
   rw [hnx] at hs
   have q1:(i:Int)<(r:Int):=by omega
   have e1:IntKind.i64.wrap ((i:Int)+1)=((i+1:Nat):Int):=by rw [Zac (by omega) (by omega)]; omega
   simp only [go_sem,Zmt,Zzi,q1,rl,Zbl,Zbo]
   refine Zaa hs (by simp only [go_sem,bvsr,rowV]) ?_
   simp only [go_sem,Zvn,e1]
   exact hN (i+1) _ (by omega) (by omega) (Zab _ (by simp only [go_sem]))
  ·have hie:i=r:=by omega
   subst hie
   have q1:¬ ((i:Nat):Int)<(i:Int):=by omega
   simp only [go_sem,Zmt,q1]
   refine T_W ?_
   simp only [go_sem,Zvw,rowV]
end GoAbs
namespace GoAbs
open Go Go.Proofs
set_option maxHeartbeats 4000000
def shW (l:List UInt8):List UInt8:=if 12<l.length then l.take 14 else l.take 3
theorem You {l:List UInt8}:(shW l).length≤14:=by
 unfold shW; split
 ·rw [List.length_take]; omega
 ·rw [List.length_take]; omega
theorem wshort {l:List UInt8}:SpecV Tryz.prog Yom [.str (bs l)] (.str (bs (shW l))):=by
 refine Zae Ylc (by simp) ?_
 unfold Ygo
 have n23:(if (14:Int)<(l.length:Int) then 14 else (l.length:Int))=((min l.length 14:Nat):Int):=by split <;> omega
 have n6:(if (3:Int)<(l.length:Int) then 3 else (l.length:Int))=((min l.length 3:Nat):Int):=by split <;> omega
 have p23:(0:Int)≤((min l.length 14:Nat):Int):=by omega
 have p6:(0:Int)≤((min l.length 3:Nat):Int):=by omega
 have l23:min l.length 14≤l.length:=by omega
 have l6:min l.length 3≤l.length:=by omega
 by_cases h:12<l.length
 ·have q1:(12:Int)<(l.length:Int):=by omega
  have hs:shW l=l.take (min l.length 14):=by unfold shW; rw [if_pos h]; exact List.take_eq_take_iff.2 (by omega)
  rw [hs]
  simp only [go_sem,Zn8,Zoi,Z2j,Zai,q1,n23,p23,Zcs,l23,List.drop_zero,Int.toNat_natCast,Nat.zero_le]
 ·have q1:¬ (12:Int)<(l.length:Int):=by omega
  have hs:shW l=l.take (min l.length 3):=by unfold shW; rw [if_neg h]; exact List.take_eq_take_iff.2 (by omega)
  rw [hs]
  simp only [go_sem,Zn8,Zoi,Z1v,Zai,q1,n6,p6,Zcs,l6,List.drop_zero,Int.toNat_natCast,Nat.zero_le]
def cutM (m:Mv):Mv:=(m.1,shW m.2)
def cutN (n:Nd):Nd:=⟨n.kind,shW n.rew,(n.mv.take 7).map cutM⟩
def mostW (L:List Nd):Nat:=if 10<L.length then 11 else 5
def fewW (L:List Nd):List Nd:=(L.take (mostW L)).map cutN
def mvC (m:Mv):List AV := [.int .i64 m.1,.str (bs m.2)]
def ndC (n:Nd):List AV := [.int .i64 n.kind,.str (bs n.rew),.sl (n.mv.map mvAV)]
theorem Y9h {L:List Nd}{l:List UInt8}:GIn (fewW L) (shW l):=by
 refine ⟨?_,by have:=You (l:=l); omega,fun n hn=>?_⟩
 ·unfold fewW mostW
  rw [List.length_map,List.length_take]
  split <;> omega
 ·obtain ⟨n',_,rfl⟩:=List.mem_map.1 hn
  refine ⟨by show (shW _).length≤23; have:=You (l:=n'.rew); omega,by show (List.map _ _).length≤7; rw [List.length_map,List.length_take]; omega,fun m hm=>?_⟩
  obtain ⟨m',_,rfl⟩:=List.mem_map.1 hm
  show (shW _).length≤23
  have:=You (l:=m'.2)
  omega
theorem Y9s (M:List Mv):(M.flatMap mvC).length=M.length*2:=by
 induction M with
 | nil=>rfl
 | cons x M ih=>rw [List.flatMap_cons,List.length_append,ih,List.length_cons]; show 2+_=_; omega
theorem Xa0 (M:List Nd):(M.flatMap ndC).length=M.length*3:=by
 induction M with
 | nil=>rfl
 | cons x M ih=>rw [List.flatMap_cons,List.length_append,ih,List.length_cons]; show 3+_=_; omega
theorem Xdr {M:List Mv}(f:Nat→Option Nat):gcL f (M.flatMap mvC)=M.flatMap mvC:=by rw [Za0,List.map_flatMap]; rfl
theorem Xe2 {M:List Nd}(f:Nat→Option Nat):gcL f (M.flatMap ndC)=M.flatMap ndC:=by rw [Za0,List.map_flatMap]; rfl
theorem Xb0 {H:Heap}{ids:List Nat}{b:Nat}{M:List Mv}(hb:H[b]? = some (.cells (M.flatMap mvC))) (hi:b∈ids):BV H ids (.osl (some 2) b 0 M.length) (.sl (M.map mvAV)):=by
 have:=Z5n (H:=H) (ids:=ids) (w:=2) (b:=b) (R:=M.map mvC) hb hi (by rw [List.flatMap_def]) (fun d hd=>by obtain ⟨j,_,rfl⟩:=List.mem_map.1 hd; rfl) (fun d hd=>by
  obtain ⟨j,_,rfl⟩:=List.mem_map.1 hd; exact .cons (.int _ _) (.cons (.str _) .nil))
 rw [List.length_map,List.map_map] at this
 exact this
theorem Xe0 {H:Heap}{ids:List Nat}{b:Nat}{M:List Nd}(hb:H[b]? = some (.cells (M.flatMap ndC))) (hi:b∈ids):BV H ids (.osl (some 3) b 0 M.length) (.sl (M.map ndAV)):=by
 have:=Z5n (H:=H) (ids:=ids) (w:=3) (b:=b) (R:=M.map ndC) hb hi (by rw [List.flatMap_def]) (fun d hd=>by obtain ⟨j,_,rfl⟩:=List.mem_map.1 hd; rfl) (fun d hd=>by
  obtain ⟨j,_,rfl⟩:=List.mem_map.1 hd; exact .cons (.int _ _) (.cons (.str _) (.cons (.sl _) .nil)))
 rw [List.length_map,List.map_map] at this
 exact this
theorem Xdi {ls ms O:List AV}{n:Nd}{i:Nat}{most:Int}{kd:Int}{s:ByteArray}(hms:ms=n.mv.map mvAV) (hls:ls[i]? = some (.agg [.int .i64 n.kind,.str (bs n.rew),.sl ms])) (hO:∀ f,gcL f O=O) {K:Ex→St→Prop}
  (hK:∀ e:Nat→AV,e 0 = .sl ls→e 3 = .int .i64 most→e 4 = .osl (some 3) 0 0 i→e 5 = .int .i64 (i:Int)→e 6 = .ptr 1 0 →
   K (.exit 2) ⟨e,[.cells O,.cells [.int .i64 kd,.str s,.osl (some 2) 2 0 ((n.mv.take 7).map cutM).length],.cells (((n.mv.take 7).map cutM).flatMap mvC)]⟩) :
  T Tryz.prog 79 0 (.loop Zzs) ⟨envL [(0,.sl ls),(3,.int .i64 most),(4,.osl (some 3) 0 0 i),(5,.int .i64 (i:Int)),(6,.ptr 1 0),(7,.int .i64 0)],[.cells O,.cells [.int .i64 kd,.str s,.osl (some 2) 2 0 0],.cells []]⟩ K:=by
 have hmx:Tryz.prog.follows .mixedOrders=true:=by kernel_rfl
 have hmsl:ms.length=n.mv.length:=by rw [hms,List.length_map]
 have hil:=(List.getElem?_eq_some_iff.1 hls).1
 refine Zaf (fun k:Nat=>⟨envL [(0,.sl ls),(3,.int .i64 most),(4,.osl (some 3) 0 0 i),(5,.int .i64 (i:Int)),(6,.ptr 1 0),(7,.int .i64 (k:Int))],[.cells O,.cells [.int .i64 kd,.str s,.osl (some 2) 2 0 k],.cells (((n.mv.take k).map cutM).flatMap mvC)]⟩)
  (fun k=>k≤n.mv.length∧k≤7) (fun k=>n.mv.length - k) 0 ⟨by omega,by omega⟩ (Zab _ (by simp only [go_sem]; simp)) (fun k hI N hN=>?_)
 obtain ⟨h1,h2⟩:=hI
 unfold Zzs
 have p0:(0:Int)≤(i:Int):=by omega
 have p1:(i:Int)<(ls.length:Int):=by omega
 by_cases hk:k<n.mv.length
 ·have q1:(k:Int)<(n.mv.length:Int):=by omega
  by_cases hk6:k≤6
  ·obtain ⟨m,hm⟩:∃ m,n.mv[k]? = some m:=⟨_,List.getElem?_eq_getElem hk⟩
   have hmsk:ms[k]? = some (.agg [.int .i64 m.1,.str (bs m.2)]):=by rw [hms,List.getElem?_map,hm]; rfl
   have q0:(0:Int)≤(k:Int):=by omega
   have q2:(k:Int)≤6:=by omega
   have e1:IntKind.i64.wrap ((k:Int)+1)=((k+1:Nat):Int):=by rw [Zac (by omega) (by omega)]; omega
   have htk:((n.mv.take (k+1)).map cutM).flatMap mvC=((n.mv.take k).map cutM).flatMap mvC ++ [.int .i64 m.1,.str (bs (shW m.2))]:=by
    rw [List.take_add_one,hm,Option.toList_some,List.map_append,List.flatMap_append]; rfl
   have hPl:(((n.mv.take k).map cutM).flatMap mvC).length=k*2:=by rw [Y9s,List.length_map,List.length_take]; omega
   have hPg:=fun f=>Xdr (M:=(n.mv.take k).map cutM) f
   generalize ((n.mv.take k).map cutM).flatMap mvC=P at *
   have s1:(k+1)*24≤1099511627776:=by omega
   have s2:k*2≤P.length:=by omega
   have tP:P.take (k*2)=P:=List.take_of_length_le (by omega)
   simp only [go_sem,Zlp,Zv6,p0,p1,q0,q1,q2,hls,hmsl,hmsk,hmx]
   refine Zaa wshort (by simp only [go_sem]) ?_
   simp only [go_sem,s1,s2,tP,Z67,e1]
   refine hN (k+1) _ ⟨by omega,by omega⟩ (by omega) (Zb4 (Zi8 [0,1,4] (by decide) (fun i hi=>by omega) [(0,.sl ls),(3,.int .i64 most),(4,.osl (some 3) 0 0 i),(5,.int .i64 (i:Int)),(6,.ptr 1 0),(7,.int .i64 ((k+1:Nat):Int))] (by simp only [go_sem])) ?_)
   show St.mk _ [Blk.cells (gcL _ O),_,Blk.cells (gcL _ (P ++ [AV.int .i64 m.1,.str (bs (shW m.2))]))]=_
   rw [Z3p,hPg,hO,htk]
   rfl
  ·have q2:¬ (k:Int)≤6:=by omega
   have hk7:k=7:=by omega
   have hl:((n.mv.take 7).map cutM).length=k:=by rw [List.length_map,List.length_take]; omega
   rw [hl] at hK
   subst hk7
   simp only [go_sem,Zlp,p0,p1,q1,q2,hls,hmsl]
   exact hK _ (by simp only [go_sem]) (by simp only [go_sem]) (by simp only [go_sem]) (by simp only [go_sem]) (by simp only [go_sem])
 ·have q1:¬ (k:Int)<(n.mv.length:Int):=by omega
  have hf:n.mv.take k=n.mv.take 7:=by rw [List.take_of_length_le (by omega),List.take_of_length_le (by omega)]
  have hl:((n.mv.take 7).map cutM).length=k:=by rw [List.length_map,List.length_take]; omega
  rw [hl] at hK
  rw [hf]
  simp only [go_sem,Zlp,p0,p1,q1,hls,hmsl]
  exact hK _ (by simp only [go_sem]) (by simp only [go_sem]) (by simp only [go_sem]) (by simp only [go_sem]) (by simp only [go_sem])
theorem Xe7 {ls:List AV}{L:List Nd}(hls:ls=L.map ndAV) {K:Ex→St→Prop}
  (hK:∀ e:Nat→AV,e 4 = .osl (some 3) 0 0 (fewW L).length→K (.exit 0) ⟨e,[.cells ((fewW L).flatMap ndC)]⟩) :
  T Tryz.prog 79 0 (.loop Zpi) ⟨envL [(0,.sl ls),(3,.int .i64 (mostW L:Int)),(4,.osl (some 3) 0 0 0),(5,.int .i64 0)],[.cells []]⟩ K:=by
 have hmx:Tryz.prog.follows .mixedOrders=true:=by kernel_rfl
 have hlsl:ls.length=L.length:=by rw [hls,List.length_map]
 have hmost:mostW L≤11:=by unfold mostW; split <;> omega
 refine Zfh (fun i:Nat=>⟨envL [(0,.sl ls),(3,.int .i64 (mostW L:Int)),(4,.osl (some 3) 0 0 i),(5,.int .i64 (i:Int))],[.cells (((L.take i).map cutN).flatMap ndC)]⟩)
  (fun i=>i≤L.length∧i≤mostW L) (fun i=>L.length - i) 0 ⟨by omega,by omega⟩ (Zab _ (by simp only [go_sem]; simp)) (fun i hI N hN=>?_)
 obtain ⟨h1,h2⟩:=hI
 unfold Zpi
 by_cases hi:i<L.length
 ·have q1:(i:Int)<(L.length:Int):=by omega
  by_cases hmi:i<mostW L
  ·obtain ⟨n,hn⟩:∃ n,L[i]? = some n:=⟨_,List.getElem?_eq_getElem hi⟩
   obtain ⟨ms,hms⟩:∃ ms,ms=n.mv.map mvAV:=⟨_,rfl⟩
   have hlsi:ls[i]? = some (.agg [.int .i64 n.kind,.str (bs n.rew),.sl ms]):=by rw [hls,List.getElem?_map,hn,hms]; rfl
   have q0:(0:Int)≤(i:Int):=by omega
   have q2:(i:Int)<(mostW L:Int):=by omega
   have e1:IntKind.i64.wrap ((i:Int)+1)=((i+1:Nat):Int):=by rw [Zac (by omega) (by omega)]; omega
   have htk:((L.take (i+1)).map cutN).flatMap ndC=((L.take i).map cutN).flatMap ndC++ndC (cutN n):=by
    rw [List.take_add_one,hn,Option.toList_some,List.map_append,List.flatMap_append]; simp
   have hPl:(((L.take i).map cutN).flatMap ndC).length=i*3:=by rw [Xa0,List.length_map,List.length_take]; omega
   have hPg:=fun f=>Xe2 (M:=(L.take i).map cutN) f
   generalize ((L.take i).map cutN).flatMap ndC=P at *
   have s1:(i+1)*48≤1099511627776:=by omega
   have s2:i*3≤P.length:=by omega
   have tP:P.take (i*3)=P:=List.take_of_length_le (by omega)
   refine Za5 0 rfl ?_
   simp only [go_sem,Zow,hlsl,q1,q2]
   refine Zay (Zaz (Za5 0 rfl ?_))
   simp only [go_sem,Z04,hlsl,q0,q1,q2,hlsi,hmx]
   refine Zaa wshort (by simp only [go_sem]) ?_
   simp only [go_sem]
   refine T_le (Zny (Zab [(0,.sl ls),(3,.int .i64 (mostW L:Int)),(4,.osl (some 3) 0 0 i),(5,.int .i64 (i:Int)),(6,.ptr 1 0)] (by simp only [go_sem])) (Zny Ykm (Zb4 (Z9u (b:=1) (l := [.int .i64 n.kind,.str (bs (shW n.rew)),.nils]) (l' := [.int .i64 n.kind,.str (bs (shW n.rew)),.osl (some 2) 2 0 0]) rfl rfl (fun j x y hx hy=>?_)) rfl))) ?_
   ·match j with
    | 0=>simp at hx hy; subst hx hy; exact .inl rfl
    | 1=>simp at hx hy; subst hx hy; exact .inl rfl
    | 2=>simp at hx hy; subst hx hy; exact .inr ⟨rfl,_,_,_,rfl⟩
    | j+3=>simp at hx
   refine Zay (Zay (T_W ?_))
   simp only [go_sem,Yc3]
   refine Zaz (Zar [(0,.sl ls),(3,.int .i64 (mostW L:Int)),(4,.osl (some 3) 0 0 i),(5,.int .i64 (i:Int)),(6,.ptr 1 0),(7,.int .i64 0)] (by simp only [go_sem]) (Xdi hms hlsi hPg (fun e k0 k3 k4 k5 k6=>?_)))
   show T Tryz.prog 79 0 (.rg false Zk7) _ _
   refine T_le (Ywp (b:=1) (ids := [2]) (l := [.int .i64 n.kind,.str (bs (shW n.rew)),.osl (some 2) 2 0 ((n.mv.take 7).map cutM).length]) (l':=ndC (cutN n)) rfl (by decide) rfl (fun j x y hx hy=>?_) [(0,.sl ls),(3,.int .i64 (mostW L:Int)),(4,.osl (some 3) 0 0 i),(5,.int .i64 (i:Int)),(6,.ptr 1 0)] (Ynw ⟨k0,k3,k4,k5,k6,trivial⟩)) ?_
   ·match j with
    | 0=>simp [ndC,cutN] at hx hy; subst hx hy; exact .inr rfl
    | 1=>simp [ndC,cutN] at hx hy; subst hx hy; exact .inr rfl
    | 2 =>
     simp only [ndC,cutN,List.getElem?_cons_succ,List.getElem?_cons_zero,Option.some.injEq] at hx hy
     subst hx hy
     exact .inl (Xb0 rfl (by simp))
    | j+3=>simp at hx
   show T Tryz.prog 79 0 (.rg false Zk7) ⟨_,[.cells P,.cells (ndC (cutN n)),.dead]⟩ _
   have n3:(ndC (cutN n)).length=3:=rfl
   have n3':(ndC (cutN n)).take 3=ndC (cutN n):=rfl
   have n3d:(ndC (cutN n)).drop 3 = []:=rfl
   refine T_W ?_
   simp only [go_sem,Zk7,n3,n3',n3d,s1,s2,tP,Nat.le_refl]
   show T Tryz.prog 79 0 (.rg false Zuh) _ _
   refine T_W ?_
   simp only [go_sem,Zuh,e1]
   refine hN (i+1) _ ⟨by omega,by omega⟩ (by omega) (Zb4 (Zi8 [4] (by decide) (fun i hi=>by omega) [(0,.sl ls),(3,.int .i64 (mostW L:Int)),(4,.osl (some 3) 4 0 (i+1)),(5,.int .i64 ((i+1:Nat):Int))] (by simp only [go_sem])) ?_)
   show St.mk _ [Blk.cells (gcL _ (P++ndC (cutN n)))]=_
   rw [Z3p,hPg,show gcL _ (ndC (cutN n))=ndC (cutN n) from rfl, ← htk]
   rfl
  ·have q2:¬ (i:Int)<(mostW L:Int):=by omega
   have hf:(L.take i).map cutN=fewW L:=by unfold fewW; rw [show i=mostW L by omega]
   have hfl:(fewW L).length=i:=by rw [← hf,List.length_map,List.length_take]; omega
   rw [hfl] at hK
   rw [hf]
   refine T_W ?_
   simp only [go_sem,Zow,hlsl,q1,q2]
   exact hK _ (by simp only [go_sem])
 ·have q1:¬ (i:Int)<(L.length:Int):=by omega
  have hf:(L.take i).map cutN=fewW L:=by unfold fewW; rw [List.take_of_length_le (by omega),List.take_of_length_le (by omega)]
  have hfl:(fewW L).length=i:=by rw [← hf,List.length_map,List.length_take]; omega
  rw [hfl] at hK
  rw [hf]
  refine T_W ?_
  simp only [go_sem,Zow,hlsl,q1]
  exact hK _ (by simp only [go_sem])
theorem wfew {L:List Nd}:SpecV Tryz.prog Yxq [.sl (L.map ndAV)] (.sl ((fewW L).map ndAV)):=by
 obtain ⟨ls,hls⟩:∃ ls,ls=L.map ndAV:=⟨_,rfl⟩
 have hlsl:ls.length=L.length:=by rw [hls,List.length_map]
 rw [← hls]
 have main:∀ (e:Nat→AV) (mo:Int),mo=mostW L→e 0 = .sl ls→e 3 = .int .i64 mo →
   T Tryz.prog 79 0 (.seq (.rg false Z0f) (.seq (.seq (.rg false Z0r) (.block 0 (.loop Zpi))) (.seq (.rg false Zlj) .ret))) ⟨e,[]⟩ (retQ [.tmp 2] (.sl ((fewW L).map ndAV))):=fun e mo hmo h0 h3=>by
  subst hmo
  refine Zay (T_W ?_)
  simp only [go_sem,Z0f]
  refine T_le (Zme 4 (some 3) (by simp only [go_sem]) [(0,.sl ls),(3,.int .i64 (mostW L:Int))] (by simp only [go_sem,h0,h3])) ?_
  refine Zay (Zay (T_W ?_))
  simp only [go_sem,Z0r]
  refine Zaz (Zar [(0,.sl ls),(3,.int .i64 (mostW L:Int)),(4,.osl (some 3) 0 0 0),(5,.int .i64 0)] (by simp only [go_sem]) (Xe7 hls (fun e k4=>?_)))
  show T Tryz.prog 79 0 (.seq (.rg false Zlj) .ret) _ _
  refine T_W ?_
  simp only [go_sem,Zlj,k4]
  exact Xe0 rfl (by simp [allOf])
 refine Zaw Yt2 (by simp) (Za5 2 rfl ?_)
 unfold Yql
 by_cases h10:10<L.length
 ·have q1:(10:Int)<(L.length:Int):=by omega
  simp only [go_sem,Zz2,Zz4,Z0d,Ycn,hlsl,q1]
  exact main _ 11 (by unfold mostW; rw [if_pos h10]; rfl) (by simp only [go_sem]) (by simp only [go_sem])
 ·have q1:¬ (10:Int)<(L.length:Int):=by omega
  simp only [go_sem,Zz2,Zz4,Z0d,hlsl,q1]
  exact main _ 5 (by unfold mostW; rw [if_neg h10]; rfl) (by simp only [go_sem]) (by simp only [go_sem])
end GoAbs
namespace GoAbs
open Go Go.Proofs
def Zvz:List IOp := [oI 4 (.mv (.c (.bool false))) 0]
def Zvf:List IOp := [mI 6 0 0,oI 7 (.len (.t 6)) 0,mI 8 1 0,oI 9 (.len (.t 8)) 0,oI 10 (.bin .neq (.t 7) (.t 9)) 0]
def Ybr:List IOp := [oI 4 (.mv (.c (.bool false))) 0]
def Zvp:List IOp := [oI 5 (.mv (cI 0)) 0]
def Zkf:List IOp := [mI 11 5 0,mI 12 0 0,oI 13 (.len (.t 12)) 0,oI 14 (.bin .lss (.t 11) (.t 13)) 0]
def Zjl:List IOp := [mI 17 0 0,mI 18 5 0,xI 19 1 17 18 0,lI 20 19 0,mI 21 1 0,mI 22 5 0,xI 23 1 21 22 0,lI 24 23 0,oI 25 (.bin .neq (.t 20) (.t 24)) 0]
@[go_sem ↓] theorem Z5o : autoK Zjl = (0, 0) := by kernel_rfl
@[go_sem] theorem Yri : autoK [mI 17 0 0, mI 18 5 0, xI 19 1 17 18 0, lI 20 19 0, mI 21 1 0, mI 22 5 0, xI 23 1 21 22 0, lI 24 23 0, oI 25 (.bin .neq (.t 20) (.t 24)) 0] = (0, 0) := Z5o
def Ya7:List IOp := [oI 4 (.mv (.c (.bool false))) 0]
def Zwe:List IOp := [mI 15 5 0,oI 16 (.bin .add (.t 15) (cI 1)) 0,mI 5 16 0]
def Zts:CC := .seq (.seq (.rg false Zkf) (.cond (.t 14) .skip (.exit 0))) (.seq (.block 1 (.seq (.rg true Zjl) (.cond (.t 25) (.seq (.rg false Ya7) .ret) .skip))) (.rg false Zwe))
def Zub:List IOp := [oI 4 (.mv (.c (.bool true))) 0]
def Z6i:CC := .seq (.rg false Zvz) (.seq (.seq (.rg false Zvf) (.cond (.t 10) (.seq (.rg false Ybr) .ret) .skip)) (.seq (.seq (.rg false Zvp) (.block 0 (.loop Zts))) (.seq (.rg false Zub) .ret)))
abbrev Yhc:Nat:=56
theorem Yep:fnOk Tryz.prog 56=some (26,Z6i,[.tmp 4]):=by kernel_rfl
end GoAbs
namespace GoAbs
open Go Go.Proofs
def Zb (b:Nat) (q:Rat):Prop:=∃ z:Int,q=z∧z.natAbs<2 ^ b
def Zq (q:Rat):Prop:=∃ z:Int,q=z
theorem Zb.q {b:Nat}{q:Rat}(h:Zb b q):Zq q:=⟨h.choose,h.choose_spec.1⟩
theorem Zq.add {a b:Rat}(h:Zq a) (k:Zq b):Zq (a+b):=by
 obtain ⟨x,rfl⟩:=h; obtain ⟨y,rfl⟩:=k
 exact ⟨x+y,by simp⟩
theorem Zq.mul {a b:Rat}(h:Zq a) (k:Zq b):Zq (a*b):=by
 obtain ⟨x,rfl⟩:=h; obtain ⟨y,rfl⟩:=k
 exact ⟨x*y,by simp⟩
theorem Zb.mono {a b:Nat}{q:Rat}(h:Zb a q) (hab:a≤b):Zb b q:=by
 obtain ⟨z,h1,h2⟩:=h
 exact ⟨z,h1,Nat.lt_of_lt_of_le h2 (Nat.pow_le_pow_right (by omega) hab)⟩
theorem Zb.mul {a b:Nat}{p q:Rat}(h:Zb a p) (k:Zb b q):Zb (a+b) (p*q):=by
 obtain ⟨x,rfl,h2⟩:=h; obtain ⟨y,rfl,k2⟩:=k
 exact ⟨x*y,by simp,by rw [Int.natAbs_mul,Nat.pow_add]; exact Nat.mul_lt_mul'' h2 k2⟩
end GoAbs
namespace GoAbs
open Go Go.Proofs
def Lt9 (q:Rat):Prop:=q.den≤9∧q.num.natAbs<10000
structure GmL (g:Gm):Prop where
 rew:∀ q,q∈g.rew→Lt9 q
 d:Lt9 g.d
 odds:∀ x,x∈g.nodes→x.kind=3→∀ q,q∈x.odds→Lt9 q
 n:g.nodes.length≤5
theorem Y8g {n:Nat}(h:n≤9) (h0:0<n):n∣2520:=by
 have:∀ m,m<10→0<m→m∣2520:=by decide
 exact this n (by omega) h0
theorem Yce (q:Rat):q*q.den=q.num:=by
 have h0:(q.den:Rat)≠0:=by
  intro h
  have h1:q.den=0:=by exact_mod_cast h
  exact q.den_nz h1
 have h:=Rat.num_divInt_den q
 rw [Rat.divInt_eq_div] at h
 have e:((q.den:Int):Rat)=(q.den:Rat):=by norm_cast
 rw [e] at h
 generalize (q.den:Rat)=b at *
 generalize (q.num:Rat)=a at *
 grind
theorem Lt9.z {q:Rat}(h:Lt9 q):Zb 26 (q*2520):=by
 obtain ⟨k,hk⟩:=Y8g h.1 q.den_pos
 have e:(2520:Rat)=q.den*k:=by exact_mod_cast hk
 refine ⟨q.num*k,?_,?_⟩
 ·rw [e, ← Rat.mul_assoc,Yce]; norm_cast
 ·rw [Int.natAbs_mul,Int.natAbs_natCast]
  have h1:k≤2520:=by
   have:=q.den_pos
   have:1*k≤q.den*k:=Nat.mul_le_mul_right _ (by omega)
   omega
  have:=Nat.mul_le_mul (show q.num.natAbs≤9999 by have:=h.2; omega) h1
  omega
theorem Y8b {q D:Rat}{b c:Nat}(h0:0<D) (hD:Zb b D) (hz:Zq (q*D)) (h1:q≤2 ^ c) (h2 : -(2 ^ c)≤q):Qb (b+c+1) q:=by
 obtain ⟨e,rfl,he⟩:=hD
 obtain ⟨z,hz⟩:=hz
 have e0:0<e:=by exact_mod_cast h0
 have hq:q=Rat.divInt z e:=by
  rw [Rat.divInt_eq_div]
  have:(e:Rat)≠0:=by grind
  rw [← hz]; grind
 obtain ⟨n1,n2⟩:=Zhq (n:=z) (d:=e) (by omega)
 rw [← hq] at n1 n2
 have hzz:z.natAbs≤2 ^ c*e.natAbs:=by
  have x1:=Rat.mul_le_mul_of_nonneg_right h1 (Rat.le_of_lt h0)
  have x2:=Rat.mul_le_mul_of_nonneg_right h2 (Rat.le_of_lt h0)
  rw [hz] at x1 x2
  have e1:(2:Rat) ^ c*(e:Rat)=(((2 ^ c:Nat)*e:Int):Rat):=by simp
  have e2 : -((2:Rat) ^ c)*(e:Rat)=((-((2 ^ c:Nat)*e):Int):Rat):=by simp [Rat.neg_mul]
  rw [e1] at x1
  rw [e2] at x2
  have y1:=Rat.intCast_le_intCast.1 x1
  have y2:=Rat.intCast_le_intCast.1 x2
  have e3:((2 ^ c*e.natAbs:Nat):Int)=((2 ^ c:Nat):Int)*e:=by rw [Int.natCast_mul]; congr 1; omega
  generalize ((2 ^ c:Nat):Int)*e=w at *
  omega
 have hm:2 ^ c*e.natAbs<2 ^ c*2 ^ b:=Nat.mul_lt_mul_of_pos_left he (Nat.two_pow_pos _)
 have hp:2 ^ c*2 ^ b=2 ^ (c+b):=(Nat.pow_add ..).symm
 have hc:=Nat.two_pow_pos c
 refine ⟨?_,?_⟩
 ·rw [show b+c+1=c+b+1 by omega,Nat.pow_succ]; omega
 ·have:2 ^ b≤2 ^ (b+c+1):=Nat.pow_le_pow_right (by omega) (by omega)
  omega
theorem frac9 {d:Rat}(h:Lt9 d) (d1:d<1):d*9≤8:=by
 have h0:=d.den_pos
 have h1:=Yce d
 have hd:(0:Rat)<d.den:=by exact_mod_cast h0
 have h2:d*d.den<d.den:=by
  have:=Rat.mul_pos (show 0<1 - d by grind) hd
  grind
 rw [h1] at h2
 have h3:d.num<d.den:=by exact_mod_cast h2
 have h4:d.num*9≤8*d.den:=by have:=h.1; omega
 have h5:(d.num:Rat)*9≤8*(d.den:Rat):=by exact_mod_cast h4
 rw [← h1] at h5
 rcases (Rat.le_total:d*9≤8∨8≤d*9) with h6 | h6
 ·exact h6
 ·by_cases he:d*9=8
  ·rw [he]; grind
  ·have:=Rat.mul_pos (show 0<d*9 - 8 by grind) hd
   grind
theorem Lt9.abs {q:Rat}(h:Lt9 q):q≤10000 ∧ -10000≤q:=by
 have h0:=q.den_pos
 have h1:=Yce q
 have hd:(1:Rat)≤q.den:=by exact_mod_cast h0
 have n1:(q.num:Rat)≤((10000:Int):Rat):=by have:=h.2; exact Rat.intCast_le_intCast.2 (show q.num≤10000 by omega)
 have n2:((-10000:Int):Rat)≤(q.num:Rat):=by have:=h.2; exact Rat.intCast_le_intCast.2 (show -10000≤q.num by omega)
 rw [show ((10000:Int):Rat)=10000 from rfl] at n1
 rw [show ((-10000:Int):Rat) = -10000 from rfl] at n2
 rw [← h1] at n1 n2
 constructor
 ·rcases (Rat.le_total:q≤10000∨10000≤q) with h6 | h6
  ·exact h6
  ·have:=Rat.mul_nonneg (show 0≤q by grind) (show 0≤(q.den:Rat) - 1 by grind)
   grind
 ·rcases (Rat.le_total : -10000≤q∨q ≤ -10000) with h6 | h6
  ·exact h6
  ·have:=Rat.mul_nonneg (show 0 ≤ -q by grind) (show 0≤(q.den:Rat) - 1 by grind)
   grind
theorem Yev {odds:List Rat}{to:List Nat}{n:Nat}{c:Rat}:∀ {k:Nat},k≤to.length→(∀ x,x∈to→x<n)→dotW odds (List.replicate n c) to k=c*sumO odds k
 | 0,_,_=>by simp only [dotW,sumO]; grind
 | k+1,hk,h=>by
  simp only [dotW,sumO]
  rw [Yev (by omega) h,Zf8 (h _ (Zbt (by omega)))]
  grind
end GoAbs
namespace GoAbs
open Go Go.Proofs
set_option maxHeartbeats 4000000
def lightM (l:List Mv):Bool:=l.all fun m=>decide (m.2.length≤3)
def lightN (n:Nd):Bool:=decide (n.rew.length≤3) && lightM n.mv
def lightW (L:List Nd) (d:List UInt8):Bool:=decide (d.length≤3) && L.all lightN
theorem Y2t {ls:List AV}{L:List Nd}{n:Nd}{b:Bool}{i:Nat}(hls:ls=L.map ndAV) (hll:L.length≤1000000) (hi:L[i]? = some n) (hml:n.mv.length≤7) {K:Ex→St→Prop}
  (hK:∀ e:Nat→AV,e 0 = .sl ls→e 5 = .bool (b && lightM n.mv)→e 6 = .int .i64 (i:Int)→K (.exit 2) ⟨e,[]⟩) :
  T Tryz.prog 52 0 (.loop Zi0) ⟨envL [(0,.sl ls),(5,.bool b),(6,.int .i64 (i:Int)),(7,.int .i64 0)],[]⟩ K:=by
 obtain ⟨ms,hms⟩:∃ ms,ms=n.mv.map mvAV:=⟨_,rfl⟩
 have hmsl:ms.length=n.mv.length:=by rw [hms,List.length_map]
 have hil:=(List.getElem?_eq_some_iff.1 hi).1
 have hlsl:ls.length=L.length:=by rw [hls,List.length_map]
 have hget:ls[i]? = some (.agg [.int .i64 n.kind,.str (bs n.rew),.sl ms]):=by rw [hls,List.getElem?_map,hi,hms]; rfl
 refine Zaf (fun k:Nat=>⟨envL [(0,.sl ls),(5,.bool (b && lightM (n.mv.take k))),(6,.int .i64 (i:Int)),(7,.int .i64 (k:Int))],[]⟩)
  (fun k=>k≤n.mv.length) (fun k=>n.mv.length - k) 0 (by omega) (Zab _ (by simp only [go_sem]; simp [lightM])) (fun k hk N hN=>?_)
 unfold Zi0
 have p0:(0:Int)≤(i:Int):=by omega
 have p1:(i:Int)<(L.length:Int):=by omega
 by_cases hkn:k<n.mv.length
 ·obtain ⟨m,hmi⟩:∃ m,n.mv[k]? = some m:=⟨_,List.getElem?_eq_getElem hkn⟩
  have tk:lightM (n.mv.take (k+1))=(lightM (n.mv.take k) && decide (m.2.length≤3)):=by rw [List.take_add_one,hmi]; unfold lightM; simp
  have hmsi:ms[k]? = some (.agg [.int .i64 m.1,.str (bs m.2)]):=by rw [hms,List.getElem?_map,hmi]; rfl
  have q0:(0:Int)≤(k:Int):=by omega
  have q1:(k:Int)<(n.mv.length:Int):=by omega
  have e1:IntKind.i64.wrap ((k:Int)+1)=((k+1:Nat):Int):=by rw [Zac (by omega) (by omega)]; omega
  generalize lightM (n.mv.take k)=v at *
  have fin:∀ (x:Bool) (e:Nat→AV),x=(b && lightM (n.mv.take (k+1)))→Has e [(0,.sl ls),(5,.bool x),(6,.int .i64 (i:Int)),(7,.int .i64 ((k+1:Nat):Int))]→N ⟨e,[]⟩:=fun x e hx he=>by
   refine hN (k+1) _ (by omega) (by omega) (Zab _ ?_)
   rw [← hx]; exact he
  cases hbv:(b && v) with
  | false =>
   simp only [go_sem,Zfs,Zi4,Zjb,p0,p1,q0,q1,hlsl,hget,hmsl,e1]
   exact fin false _ (by rw [tk, ← Bool.and_assoc,hbv]; rfl) (by simp only [go_sem])
  | true =>
   by_cases a:(m.2.length:Int)≤3
   ·simp only [go_sem,Zfs,Zi4,Zjb,p0,p1,q0,q1,hlsl,hget,hmsl,hmsi,Zai,a,e1]
    exact fin true _ (by rw [tk, ← Bool.and_assoc,hbv,decide_eq_true (show m.2.length≤3 by omega)]; rfl) (by simp only [go_sem])
   ·simp only [go_sem,Zfs,Zi4,Zjb,p0,p1,q0,q1,hlsl,hget,hmsl,hmsi,Zai,a,e1]
    exact fin false _ (by rw [tk, ← Bool.and_assoc,hbv,decide_eq_false (show ¬ m.2.length≤3 by omega)]; rfl) (by simp only [go_sem])
 ·have hke:k=n.mv.length:=by omega
  subst hke
  have q1:¬ ((n.mv.length:Nat):Int)<(n.mv.length:Int):=by omega
  rw [List.take_length]
  simp only [go_sem,Zfs,p0,p1,hlsl,hget,hmsl,q1]
  exact hK _ (by simp only [go_sem]) (by simp only [go_sem]) (by simp only [go_sem])
theorem Y12 {ls:List AV}{L:List Nd}{b:Bool}(hls:ls=L.map ndAV) (hll:L.length≤1000000) (hok:∀ n,n∈L→n.rew.length≤23∧n.mv.length≤7∧∀ m,m∈n.mv→m.2.length≤23) {K:Ex→St→Prop}
  (hK:∀ e:Nat→AV,e 5 = .bool (b && L.all lightN)→K (.exit 0) ⟨e,[]⟩) :
  T Tryz.prog 52 0 (.loop Zi9) ⟨envL [(0,.sl ls),(5,.bool b),(6,.int .i64 0)],[]⟩ K:=by
 have hlsl:ls.length=L.length:=by rw [hls,List.length_map]
 refine Zfh (fun i:Nat=>⟨envL [(0,.sl ls),(5,.bool (b && (L.take i).all lightN)),(6,.int .i64 (i:Int))],[]⟩)
  (fun i=>i≤L.length) (fun i=>L.length - i) 0 (by omega) (Zab _ (by simp only [go_sem]; simp)) (fun i hi N hN=>?_)
 unfold Zi9
 by_cases hin:i<L.length
 ·obtain ⟨n,hn⟩:∃ n,L[i]? = some n:=⟨_,List.getElem?_eq_getElem hin⟩
  obtain ⟨o1,o2,o3⟩:=hok n (List.mem_of_getElem? hn)
  have tk:(L.take (i+1)).all lightN=((L.take i).all lightN && (decide (n.rew.length≤3) && lightM n.mv)):=by rw [List.take_add_one,hn]; simp [lightN]
  have hget:ls[i]? = some (.agg [.int .i64 n.kind,.str (bs n.rew),.sl (n.mv.map mvAV)]):=by rw [hls,List.getElem?_map,hn]; rfl
  have q0:(0:Int)≤(i:Int):=by omega
  have q1:(i:Int)<(L.length:Int):=by omega
  have e1:IntKind.i64.wrap ((i:Int)+1)=((i+1:Nat):Int):=by rw [Zac (by omega) (by omega)]; omega
  generalize (L.take i).all lightN=v at *
  have rest:∀ (x:Bool) (e:Nat→AV),x=(b && v && decide (n.rew.length≤3))→Has e [(0,.sl ls),(5,.bool x),(6,.int .i64 (i:Int)),(7,.int .i64 0)] →
    T Tryz.prog 52 0 (.loop Zi0) ⟨e,[]⟩ (blockQ 2 (blockQ 1 (thenQ (goT Tryz.prog 52 0 (.rg false Zgp) (thenQ N K)) (thenQ N K)))):=fun x e hx he=>by
   refine T_le (Zab _ he) (Y2t hls hll hn o2 (fun e k0 k5 k6=>?_))
   show T Tryz.prog 52 0 (.rg false Zgp) _ _
   refine T_W ?_
   simp only [go_sem,Zgp,k6,e1]
   refine hN (i+1) _ (by omega) (by omega) (Zab _ ?_)
   simp only [go_sem,k0,k5]
   rw [tk,hx]; simp [Bool.and_assoc]
  refine Za5 1 rfl ?_
  cases hbv:(b && v) with
  | false =>
   rw [hbv] at rest
   simp only [go_sem,Zfg,Ziv,Zit,q0,q1,hlsl]
   exact rest false _ rfl (by simp only [go_sem])
  | true =>
   rw [hbv] at rest
   by_cases a:(n.rew.length:Int)≤3
   ·simp only [go_sem,Zfg,Ziv,Zit,q0,q1,hlsl,hget,Zai,a]
    exact rest true _ (by rw [decide_eq_true (show n.rew.length≤3 by omega)]; rfl) (by simp only [go_sem])
   ·simp only [go_sem,Zfg,Ziv,Zit,q0,q1,hlsl,hget,Zai,a]
    exact rest false _ (by rw [decide_eq_false (show ¬ n.rew.length≤3 by omega)]; rfl) (by simp only [go_sem])
 ·have hie:i=L.length:=by omega
  subst hie
  have q1:¬ ((L.length:Nat):Int)<(L.length:Int):=by omega
  refine T_W ?_
  rw [List.take_length]
  simp only [go_sem,Zfg,hlsl,q1]
  exact hK _ (by simp only [go_sem])
theorem wlight {L:List Nd}{d:List UInt8}(hll:L.length≤1000000) (hok:∀ n,n∈L→n.rew.length≤23∧n.mv.length≤7∧∀ m,m∈n.mv→m.2.length≤23) :
  SpecV Tryz.prog Yos [.sl (L.map ndAV),.str (bs d)] (.bool (lightW L d)):=by
 obtain ⟨ls,hls⟩:∃ ls,ls=L.map ndAV:=⟨_,rfl⟩
 rw [← hls]
 have main:∀ (b:Bool) (e:Nat→AV),b=decide (d.length≤3)→e 0 = .sl ls→e 5 = .bool b →
   T Tryz.prog 52 0 (.seq (.seq (.rg false Zod) (.block 0 (.loop Zi9))) (.seq (.rg false Zg5) .ret)) ⟨e,[]⟩ (retQ [.tmp 4] (.bool (lightW L d))):=fun b e hb h0 h5=>by
  refine Zay (Zay (T_W ?_))
  simp only [go_sem,Zod]
  refine Zaz (Zar [(0,.sl ls),(5,.bool b),(6,.int .i64 0)] (by simp only [go_sem,h0,h5]) (Y12 hls hll hok (fun e k5=>?_)))
  show T Tryz.prog 52 0 (.seq (.rg false Zg5) .ret) _ _
  refine T_W ?_
  simp only [go_sem,Zg5,k5]
  rw [hb]; rfl
 refine Zaw Yl0 (by simp) (Za5 1 rfl ?_)
 unfold Yfr
 by_cases a:(d.length:Int)≤3
 ·simp only [go_sem,Zo5,Zpl,Zai,a]
  exact main true _ (decide_eq_true (by omega)).symm (by simp only [go_sem]) (by simp only [go_sem])
 ·simp only [go_sem,Zo5,Zpl,Zai,a]
  exact main false _ (decide_eq_false (by omega)).symm (by simp only [go_sem]) (by simp only [go_sem])
end GoAbs
namespace GoAbs
open Go Go.Proofs
def Zli:List IOp := [oI 6 (.mv (.c (.bool false))) 0]
def Zk3:List IOp := [mI 12 0 0,oI 13 (.call 13 [.t 12]) 0,mI 14 1 0,oI 15 (.call 14 [.t 14]) 0,mI 7 13 0,mI 8 15 0]
def Zcz:List IOp := [mI 16 2 0,oI 17 (.bin .gtr (.t 16) (cI 8)) 0,mI 18 17 0,gI 19 (.mv (.t 2)) 0 18 true,gI 20 (.bin .leq (.t 19) (cI 30)) 0 18 true,oI 21 (.pick (.t 18) (.t 20) (.c (.bool false))) 0]
def Zk8:List IOp := [mI 22 2 0,oI 23 (.bin .rem (.t 22) (cI 9)) 0,mI 2 23 0]
def Zbc:List IOp := [mI 25 7 0,mI 26 8 0,mI 27 2 0,oI 28 (.call 15 [.t 25,.t 26,.t 27]) 0,mI 24 28 0,eI 29 0 24 0,eI 30 1 24 0,mI 9 29 0,mI 10 30 0]
def Zbb:List IOp := [mI 31 7 0,mI 32 8 0,oI 33 (.call 16 [.t 31,.t 32,.c .nils]) 0,mI 11 33 0]
def Za4:List IOp := [mI 34 11 0,oI 35 (.bin .eql (.t 34) (cI 0)) 0,mI 36 35 0,gI 37 (.mv (.t 2)) 0 36 true,gI 38 (.bin .lss (.t 37) (cI 0)) 0 36 true,gI 39 (.mv (.t 38)) 0 36 true,gI 40 (.mv (.t 2)) 0 39 false,gI 41 (.bin .gtr (.t 40) (cI 30)) 0 39 false,gI 42 (.pick (.t 39) (.c (.bool true)) (.t 41)) 0 36 true,oI 43 (.pick (.t 36) (.t 42) (.c (.bool false))) 0]
def Zbs:List IOp := [oI 11 (.mv (cI 1)) 0]
def Za2:List IOp := [mI 44 11 0,oI 45 (.bin .neq (.t 44) (cI 0)) 0]
def Za8:List IOp := [mI 46 9 0,oI 47 (.len (.t 46)) 0,oI 48 (.bin .eql (.t 47) (cI 0)) 0,mI 49 48 0,gI 50 (.mv (.t 10)) 0 49 true,gI 51 (.mv (.t 11)) 0 49 true,gI 52 (.bin .eql (.t 50) (.t 51)) 0 49 true,oI 53 (.pick (.t 49) (.t 52) (.c (.bool false))) 0,mI 54 53 0,gI 55 (.call 17 []) 0 54 true,oI 56 (.pick (.t 54) (.t 55) (.c (.bool false))) 0,mI 6 56 0]
def Zcf:List IOp := [mI 57 7 0,mI 58 8 0,oI 59 (.call 18 [.t 57,.t 58]) 0,oI 60 (.un .not (.t 59)) 0]
def Zcc:List IOp := [oI 61 (.call 17 []) 0,mI 6 61 0]
def Zb9:List IOp := [mI 62 9 0,mI 63 7 0,mI 64 8 0,oI 65 (.call 21 [.t 64]) 0,mI 66 2 0,oI 67 (.call 20 [.t 63,.t 65,.t 66]) 0,oI 68 (.call 19 [.t 62,.t 67]) 0,mI 69 68 0,gI 70 (.mv (.t 10)) 0 69 true,gI 71 (.bin .eql (.t 70) (cI 0)) 0 69 true,oI 72 (.pick (.t 69) (.t 71) (.c (.bool false))) 0,mI 73 72 0,gI 74 (.call 17 []) 0 73 true,oI 75 (.pick (.t 73) (.t 74) (.c (.bool false))) 0,mI 6 75 0]
def Zu4:CC := .seq (.rg false Zli) (.seq (.rg false Zk3) (.seq (.seq (.rg false Zcz) (.cond (.t 21) (.rg false Zk8) .skip)) (.seq (.rg false Zbc) (.seq (.rg false Zbb) (.seq (.seq (.rg false Za4) (.cond (.t 43) (.rg false Zbs) .skip)) (.seq (.seq (.rg false Za2) (.cond (.t 45) (.seq (.rg false Za8) .ret) .skip)) (.seq (.seq (.rg false Zcf) (.cond (.t 60) (.seq (.rg false Zcc) .ret) .skip)) (.seq (.rg false Zb9) .ret))))))))
abbrev Z9o:Nat:=3
theorem Z5m:fnOk Tryz.prog 3=some (76,Zu4,[.tmp 6]):=by kernel_rfl
end GoAbs
namespace GoAbs
open Go Go.Proofs
set_option maxHeartbeats 4000000
def strsL (l:List (List UInt8)):List AV:=l.map fun s => .str (bs s)
theorem rsame {l:List (List UInt8)}(hl:l.length≤1000000):SpecV Tryz.prog Yhc [.sl (strsL l),.sl (strsL l)] (.bool true):=by
 have hmx:Tryz.prog.follows .mixedOrders=true:=by kernel_rfl
 have hsl:(strsL l).length=l.length:=by simp [strsL]
 refine Zaw Yep (by simp) (Za5 1 rfl ?_)
 unfold Z6i
 simp only [go_sem,Zvz,Zvf,hsl]
 refine Zay (Zay (T_W ?_))
 simp only [go_sem,Zvp]
 refine Zaz (Zaf (fun i:Nat=>⟨envL [(0,.sl (strsL l)),(1,.sl (strsL l)),(5,.int .i64 (i:Int))],[]⟩)
  (fun i=>i≤l.length) (fun i=>l.length - i) 0 (by omega) (Zab _ (by simp only [go_sem]; simp)) (fun i hi N hN=>?_))
 unfold Zts
 by_cases hin:i<l.length
 ·obtain ⟨s,hs⟩:∃ s,l[i]? = some s:=⟨_,List.getElem?_eq_getElem hin⟩
  have hget:(strsL l)[i]? = some (.str (bs s)):=by simp [strsL,hs]
  have q0:(0:Int)≤(i:Int):=by omega
  have q1:(i:Int)<(l.length:Int):=by omega
  have e1:IntKind.i64.wrap ((i:Int)+1)=((i+1:Nat):Int):=by rw [Zac (by omega) (by omega)]; omega
  simp only [go_sem,Zkf,Zjl,Zwe,q0,q1,hsl,hget,hmx,e1]
  exact hN (i+1) _ (by omega) (by omega) (Zab _ (by simp only [go_sem]))
 ·have hie:i=l.length:=by omega
  subst hie
  have q1:¬ ((l.length:Nat):Int)<(l.length:Int):=by omega
  simp only [go_sem,Zkf,hsl,q1]
  refine T_W ?_
  simp only [go_sem,Zub]
def L1:List Nd := [⟨1,[49],[(0,[])]⟩]
def d12:List UInt8 := [49,47,50]
theorem Yhz:GIn L1 d12:=by
 refine ⟨.inl (by decide),by decide,fun n hn=>?_⟩
 simp [L1] at hn
 subst hn
 refine ⟨by decide,by decide,fun m hm=>?_⟩
 simp at hm
 subst hm
 decide
theorem Ypl:eC L1 d12=0:=by decide+kernel
theorem Ypi:toGm L1 d12=⟨[⟨1,[0],[]⟩],[1],1/2⟩:=by
 unfold toGm L1 d12 toGN oddsQ
 have h1:parseL [49]=some 1:=by decide+kernel
 have h2:parseL [49,47,50]=some (1/2):=by decide+kernel
 simp [h1,h2,hasO]
theorem Y8x:valG (toGm L1 d12) = [2]:=by
 rcases Z9r Yhz with ⟨h,_⟩ | ⟨_,_,hg,_⟩
 ·exact absurd Ypl h
 ·symm
  refine Yj7 hg (by rw [Ypi]; rfl) (fun i hi=>?_)
  rw [Ypi] at hi ⊢
  have:i=0:=by simpa using hi
  subst this
  decide+kernel
theorem Y7t:rndR (toGm L1 d12) 3 = [7/4]:=by rw [Ypi]; decide+kernel
theorem Y60 {H:Heap}{ids:List Nat}{b:Nat}{k:Int}{s:ByteArray}{X:AV}{M:List AV}(hb:H[b]? = some (.cells [.int .i64 k,.str s,X])) (hi:b∈ids) (hX:BV H ids X (.sl M)):BV H ids (.osl (some 3) b 0 1) (.sl [.agg [.int .i64 k,.str s,.sl M]]):=by
 refine .osl (some 3) b 0 1 _ _ hb hi rfl (fun x hx=>by simp at hx; subst hx; rfl) (by simp [es]) (fun i x j y z hx hy hz=>?_)
 have hi0:i=0:=by
  have:=(List.getElem?_eq_some_iff.1 hx).1
  simp at this; exact this
 subst hi0
 simp at hx
 subst hx
 rw [show 0+(0*es (some 3)+j)=j by simp] at hz
 match j with
 | 0=>simp [AV.cells] at hy hz; subst hy hz; exact .int _ _
 | 1=>simp [AV.cells] at hy hz; subst hy hz; exact .str _
 | 2=>simp [AV.cells] at hy hz; subst hy hz; exact hX
 | j+3=>simp [AV.cells] at hy
theorem Y6f {H:Heap}{ids:List Nat}{b:Nat}{k:Int}{s:ByteArray}(hb:H[b]? = some (.cells [.int .i64 k,.str s])) (hi:b∈ids):BV H ids (.osl (some 2) b 0 1) (.sl [.agg [.int .i64 k,.str s]]):=by
 refine .osl (some 2) b 0 1 _ _ hb hi rfl (fun x hx=>by simp at hx; subst hx; rfl) (by simp [es]) (fun i x j y z hx hy hz=>?_)
 have hi0:i=0:=by
  have:=(List.getElem?_eq_some_iff.1 hx).1
  simp at this; exact this
 subst hi0
 simp at hx
 subst hx
 rw [show 0+(0*es (some 2)+j)=j by simp] at hz
 match j with
 | 0=>simp [AV.cells] at hy hz; subst hy hz; exact .int _ _
 | 1=>simp [AV.cells] at hy hz; subst hy hz; exact .str _
 | j+2=>simp [AV.cells] at hy
theorem Yzm {H:Heap}{ids:List Nat}{b:Nat}{s:ByteArray}(hb:H[b]? = some (.cells [.str s])) (hi:b∈ids):BV H ids (.osl none b 0 1) (.sl [.str s]):=by
 refine .osl none b 0 1 _ _ hb hi rfl (fun x hx=>by simp at hx; subst hx; rfl) (by simp [es]) (fun i x j y z hx hy hz=>?_)
 have hi0:i=0:=by
  have:=(List.getElem?_eq_some_iff.1 hx).1
  simp at this; exact this
 subst hi0
 simp at hx
 subst hx
 match j with
 | 0=>simp [AV.cells,es] at hy hz; subst hy hz; exact .str _
 | j+1=>simp [AV.cells] at hy
theorem wlives:SpecV Tryz.prog Yok [] (.bool true):=by
 have hv:=wvalue Yhz
 rw [if_pos Ypl,Y8x,show numsR [2] = .tup [.sl (strsL [[50]]),.int .i64 0] by
  unfold numsR
  rw [if_pos (by decide+kernel)]
  have:numS 2 = [50]:=by decide+kernel
  simp [ss,strsL,this]] at hv
 have hr:=wrounds (r:=3) Yhz (by omega)
 rw [show rC L1 d12 3=0 by unfold rC; rw [Ypl]; rfl,if_pos rfl,show (3:Int).toNat=3 from rfl,Y7t,show numsR [7/4] = .tup [.sl (strsL [[55,47,52]]),.int .i64 0] by
  unfold numsR
  rw [if_pos (by decide+kernel)]
  have:numS (7/4) = [55,47,52]:=by decide+kernel
  simp [ss,strsL,this]] at hr
 refine Zae Ykt (by simp) ?_
 unfold Ygi
 simp only [go_sem,Z1o,Z3v]
 refine Zin (ids := [0,1]) hv (.cons (Y60 rfl (by simp) (Y6f rfl (by simp))) (.cons (.str _) .nil)) ?_
 simp only [go_sem,Z3m,kill,List.foldl_cons,List.foldl_nil]
 refine Zin (ids := [2,3]) hr (.cons (Y60 rfl (by simp) (Y6f rfl (by simp))) (.cons (.str _) (.cons (.int _ _) .nil))) ?_
 simp only [go_sem,Z1j,kill,List.foldl_cons,List.foldl_nil]
 have s1:=rsame (l := [[50]]) (by decide)
 have s2:=rsame (l := [[55,47,52]]) (by decide)
 refine Zk2 (ids := [4]) s1 (.cons (.sl _) (.cons (Yzm rfl (by simp)) .nil)) (.inr (.bool _)) (fun b _=>trivial) ?_
 simp only [go_sem]
 refine Zk2 (ids := [5]) s2 (.cons (.sl _) (.cons (Yzm rfl (by simp)) .nil)) (.inr (.bool _)) (fun b _=>trivial) ?_
 simp only [go_sem]
end GoAbs
namespace GoAbs
open Go Go.Proofs
set_option maxHeartbeats 4000000
theorem Yh8 {l:List UInt8}{q:Rat}(h:parseL l=some q) (hl:l.length≤3):Lt9 q:=by
 obtain ⟨b1,b2⟩:=Yqv (k:=3) (by omega) h hl
 obtain ⟨h1,h2,h3,h4⟩:=Z51 h
 refine ⟨?_,by omega⟩
 by_cases h47:47∈(signL l).1
 ·obtain ⟨g1,g2⟩:=h3 h47
  have hs:(signL l).1.length≤3:=by
   unfold signL
   split
   ·show l.tail.length≤3
    rw [List.length_tail]; omega
   ·exact hl
  have e:=congrArg List.length (Ydg h47)
  rw [List.length_append,List.length_cons] at e
  have hb:0<(befL (signL l).1).length:=List.length_pos_iff.2 h1.2.1
  have:=Z5w (n:=q.den) (k:=1) (by rw [g2]; omega)
  omega
 ·rw [h4 h47]; decide
theorem Y6e {L:List Nd}{d:List UInt8}(hl:lightW L d=true) (hL:∀ n,n∈L→NdG L.length n) (hd:okB d=true) (hn:L.length≤5):GmL (toGm L d):=by
 unfold lightW at hl
 rw [Bool.and_eq_true,decide_eq_true_eq] at hl
 have hln:∀ n,n∈L→n.rew.length≤3∧∀ m,m∈n.mv→m.2.length≤3:=fun n hn=>by
  have:=List.all_eq_true.1 hl.2 n hn
  unfold lightN lightM at this
  rw [Bool.and_eq_true,decide_eq_true_eq,List.all_eq_true] at this
  exact ⟨this.1,fun m hm=>by simpa using this.2 m hm⟩
 refine ⟨fun q hq=>?_,Yh8 (okBq hd) hl.1,fun x hx h3 q hq=>?_,by unfold toGm; rw [List.length_map]; exact hn⟩
 ·obtain ⟨n,hn,rfl⟩:=List.mem_map.1 hq
  exact Yh8 (hL n hn).rq.1 (hln n hn).1
 ·obtain ⟨n,hn,rfl⟩:=List.mem_map.1 hx
  obtain ⟨m,hm,rfl⟩:=List.mem_map.1 hq
  have hm':=(List.mem_filter.1 hm).1
  obtain ⟨k,hk⟩:=List.getElem?_of_mem hm'
  have hp:=((hL n hn).to k m hk).2.2 h3
  rw [hp]
  exact Yh8 hp ((hln n hn).2 m hm')
theorem Xax {g:Gm}(hg:GmP g) (hl:GmL g) {x:GN}(hx:x∈g.nodes) {v:List Rat}{D:Rat}(hv:∀ j,j<g.nodes.length→Zq (rget v j*D)) (hD:Zq D):Zq (worthR x v*(2520*D)):=by
 have hok:=hg.ok.node x hx
 have z2520:Zq 2520:=⟨2520,rfl⟩
 have hmv:∀ t,t<x.to.length→Zq (rget v (x.to.getD t 0)*D):=fun t ht=>hv _ (hok.lt _ (Zbt ht))
 have key:∀ t,t<x.to.length→Zq (rget v (x.to.getD t 0)*(2520*D)):=fun t ht=>by
  rw [show rget v (x.to.getD t 0)*(2520*D)=rget v (x.to.getD t 0)*D*2520 by grind]
  exact (hmv t ht).mul z2520
 unfold worthR
 split
 ·exact key _ (Zde hok.pos (Nat.le_refl _))
 ·split
  ·exact key _ (Zde hok.pos (Nat.le_refl _))
  ·rename_i h1 h2
   have h3:x.kind=3:=by have:=hok.kind; omega
   have ho:=(hok.odds h3).1
   have hz:∀ t,t<x.to.length→Zq (rget x.odds t*2520):=fun t ht=>(hl.odds x hx h3 _ (List.mem_of_getElem? (Zal (by omega)))).z.q
   have main:∀ k,k≤x.to.length→Zq (dotW x.odds v x.to k*(2520*D)):=by
    intro k
    induction k with
    | zero=>intro _; exact ⟨0,by show (0:Rat)*_=_; rw [Rat.zero_mul]; rfl⟩
    | succ k ih =>
     intro hk
     show Zq ((dotW x.odds v x.to k+rget x.odds k*rget v (x.to.getD k 0))*(2520*D))
     rw [show (dotW x.odds v x.to k+rget x.odds k*rget v (x.to.getD k 0))*(2520*D)=dotW x.odds v x.to k*(2520*D)+(rget x.odds k*2520)*(rget v (x.to.getD k 0)*D) by grind]
     exact (ih (by omega)).add ((hz k (by omega)).mul (hmv k (by omega)))
   exact main _ (Nat.le_refl _)
theorem Yms {g:Gm}(hg:GmP g) {i:Nat}(hi:i<g.nodes.length) {c:Rat}:worthR (nodeAt g i) (List.replicate g.nodes.length c)=c:=by
 have hx:=Zb8 hi
 have hok:=hg.ok.node _ hx
 have hod:=hg.odds _ hx
 unfold worthR
 split
 ·exact Zf8 (hok.lt _ (Zbt (Zde hok.pos (Nat.le_refl _))))
 ·split
  ·exact Zf8 (hok.lt _ (Zbt (Zde hok.pos (Nat.le_refl _))))
  ·rename_i h1 h2
   have h3:(nodeAt g i).kind=3:=by have:=hok.kind; omega
   rw [Yev (Nat.le_refl _) hok.lt,(hod h3).2]; grind
theorem Y0l {g:Gm}(hg:GmP g) (hl:GmL g):∀ k i,i<g.nodes.length→rget (rndR g k) i≤100000 ∧ -100000≤rget (rndR g k) i
 | 0,i,hi=>by
  rw [show rget (rndR g 0) i=0 from Zf8 hi]
  constructor <;> decide
 | k+1,i,hi=>by
  have ih:=Y0l hg hl k
  have hs:=Yzg hg
  have h9:=frac9 hl.d hg.d1
  have hr:=(hl.rew _ (List.mem_of_getElem? (Zal (r:=g.rew) (j:=i) (by rw [hg.ok.rew]; exact hi)))).abs
  rw [show rget (rndR g (k+1)) i=nextV g (rndR g k) i from Yez hi]
  have c:∀ x:Rat,nextV g (List.replicate g.nodes.length x) i=rget g.rew i+g.d*x:=fun x=>by
   unfold nextV
   show _+g.d*worthR (nodeAt g i) _=_
   rw [Yms hg hi]
  have a1:=hs.mono (u:=rndR g k) (v:=List.replicate g.nodes.length 100000) (fun j hj=>by rw [Zf8 hj]; exact (ih j hj).1) i hi
  have a2:=hs.mono (u:=List.replicate g.nodes.length (-100000)) (v:=rndR g k) (fun j hj=>by rw [Zf8 hj]; exact (ih j hj).2) i hi
  rw [c] at a1 a2
  constructor <;> grind
def rD:Nat→Rat
 | 0=>1
 | k+1=>2520*(2520*rD k)
theorem Y62:∀ k,0<rD k
 | 0=>by decide
 | k+1=>Rat.mul_pos (by decide) (Rat.mul_pos (by decide) (Y62 k))
theorem Y32:∀ k,Zb (1+24*k) (rD k)
 | 0=>⟨1,rfl,by decide⟩
 | k+1=>by
  have h:Zb 12 2520:=⟨2520,rfl,by decide⟩
  exact (h.mul (h.mul (Y32 k))).mono (by omega)
theorem Xen {g:Gm}(hg:GmP g) (hl:GmL g):∀ k i,i<g.nodes.length→Zq (rget (rndR g k) i*rD k)
 | 0,i,hi=>⟨0,by rw [show rget (rndR g 0) i=0 from Zf8 hi,Rat.zero_mul]; rfl⟩
 | k+1,i,hi=>by
  have ih:=Xen hg hl k
  have hw:=Xax hg hl (Zb8 hi) ih (Y32 k).q
  have z2520:Zq 2520:=⟨2520,rfl⟩
  have hr:=(hl.rew _ (List.mem_of_getElem? (Zal (r:=g.rew) (j:=i) (by rw [hg.ok.rew]; exact hi)))).z.q
  rw [show rget (rndR g (k+1)) i=nextV g (rndR g k) i from Yez hi]
  unfold nextV
  show Zq ((rget g.rew i+g.d*worthR (nodeAt g i) (rndR g k))*(2520*(2520*rD k)))
  rw [show (rget g.rew i+g.d*worthR (nodeAt g i) (rndR g k))*(2520*(2520*rD k))=(rget g.rew i*2520)*(2520*rD k)+(g.d*2520)*(worthR (nodeAt g i) (rndR g k)*(2520*rD k)) by grind]
  exact (hr.mul (z2520.mul (Y32 k).q)).add (hl.d.z.q.mul hw)
theorem Yqk {g:Gm}(hg:GmP g) (hl:GmL g) {k:Nat}(hk:k≤30):Rb 800 (rndR g k):=fun q hq=>by
 obtain ⟨i,hi⟩:=List.getElem?_of_mem hq
 have hlt:=(List.getElem?_eq_some_iff.1 hi).1
 have hq':=Zal hlt
 rw [hi] at hq'
 have hqe:q=rget (rndR g k) i:=by simpa using hq'
 rw [Zlo] at hlt
 have ha:=Y0l hg hl k i hlt
 have e17:(2:Rat) ^ 17=131072:=by decide+kernel
 rw [hqe]
 exact (Y8b (c:=17) (Y62 k) (Y32 k) (Xen hg hl k i hlt) (by rw [e17]; grind) (by rw [e17]; grind)).mono (by omega)
end GoAbs
namespace GoAbs
open Go Go.Proofs
set_option maxHeartbeats 4000000
theorem Xev {L:List Nd}{d:List UInt8}(h:GIn L d) (he:eC L d=0):(∀ n,n∈L→NdG L.length n)∧okB d=true:=by
 unfold eC at he
 split at he
 ·cases he
 ·rename_i h1
  split at he
  ·cases he
  ·rename_i h2
   have h1':(L.all ndVa && okB d)=true:=by simpa using h1
   have h2':gFit L d=true:=by simpa using h2
   rw [Bool.and_eq_true] at h1'
   unfold gFit at h2'
   simp only [Bool.and_eq_true] at h2'
   exact ⟨fun n hn=>Xch (List.all_eq_true.1 h1'.1 n hn) (List.all_eq_true.1 h2'.1.2 n hn) (h.ok n hn),h1'.2⟩
theorem Xej {H:Heap}{ids:List Nat}{q:Rat}:BVs H ids (rq q) (rq q)=True:=Yfj
theorem Xfi {d:List UInt8}(hd:okB d=true) (hl:d.length≤1000):SpecV Tryz.prog Zwo [.str (bs d)] (.agg (rq ((parseL d).getD 0))):=rof (by omega) (okBq hd)
theorem lrounds {X:List Nd}{l:List UInt8}{r:Int}(_hw:(Lit.int .i64 r).wf=true):SpecV Tryz.prog Z9o [.sl (X.map ndAV),.str (bs l),.int .i64 r] (.bool true):=by
 obtain ⟨L,hL⟩:∃ L,L=fewW X:=⟨_,rfl⟩
 obtain ⟨d,hd⟩:∃ d,d=shW l:=⟨_,rfl⟩
 have hin:GIn L d:=by rw [hL,hd]; exact Y9h
 have hf:=wfew (L:=X)
 have hs:=wshort (l:=l)
 rw [← hL] at hf
 rw [← hd] at hs
 have hchk:SpecV Tryz.prog Ycf [.sl (L.map ndAV),.str (bs d),.sl []] (.int .i64 (eC L d)):=by
  have:=rcheck (M := []) (by have:=hin.le; omega) hin.ok hin.d (by simp) (by simp)
  rw [Xeg] at this
  exact this
 have hlt:=wlight (d:=d) (by have:=hin.le; omega) hin.ok
 have bvn:∀ H ids,BVs H ids [AV.sl (L.map ndAV),.str (bs d),.nils] [AV.sl (L.map ndAV),.str (bs d),.sl []]:=fun H ids => .cons (.sl _) (.cons (.str _) (.cons .nilsl .nil))
 have main:∀ (rr:Int) (e:Nat→AV),(rr<0∨30<rr∨rr≤8)→e 2 = .int .i64 rr→e 7 = .sl (L.map ndAV)→e 8 = .str (bs d) →
   T Tryz.prog 76 0 (.seq (.rg false Zbc) (.seq (.rg false Zbb) (.seq (.seq (.rg false Za4) (.cond (.t 43) (.rg false Zbs) .skip)) (.seq (.seq (.rg false Za2) (.cond (.t 45) (.seq (.rg false Za8) .ret) .skip)) (.seq (.seq (.rg false Zcf) (.cond (.t 60) (.seq (.rg false Zcc) .ret) .skip)) (.seq (.rg false Zb9) .ret)))))) ⟨e,[]⟩ (retQ [.tmp 6] (.bool true)):=fun rr e hrr k2 k7 k8=>by
  have hr:=wrounds hin hrr
  refine T_W ?_
  by_cases he:eC L d=0
  ·by_cases hbad:rr<0∨30<rr
   ·have hrc:rC L d rr=1:=by unfold rC; rw [if_pos he,if_pos hbad]
    rw [hrc,if_neg (by decide)] at hr
    rw [he] at hchk
    simp only [go_sem,Zbc,k2,k7,k8]
    refine Zaa hr (by simp only [go_sem]) ?_
    simp only [go_sem,Zbb,k7,k8]
    refine Zk2 (ids := []) hchk (bvn _ _) (.inl rfl) (fun b hb=>by simp at hb) ?_
    by_cases b1:rr<0
    ·simp only [go_sem,Za4,Zbs,Za2,Za8,k2,b1]
     refine Zaa wlives (by simp only [go_sem]) ?_
     simp only [go_sem]
    ·have b2:30<rr:=by omega
     simp only [go_sem,Za4,Zbs,Za2,Za8,k2,b1,b2]
     refine Zaa wlives (by simp only [go_sem]) ?_
     simp only [go_sem]
   ·have hrc:rC L d rr=0:=by unfold rC; rw [if_pos he,if_neg hbad]
    rw [hrc,if_pos rfl] at hr
    have b1:¬ rr<0:=by omega
    have b2:¬ 30<rr:=by omega
    obtain ⟨k,hk⟩:∃ k:Nat,rr=k:=⟨rr.toNat,by omega⟩
    subst hk
    rw [Int.toNat_natCast] at hr
    obtain ⟨hnd,hdo⟩:=Xev hin he
    obtain ⟨_,hg,hn,hn1,hn5⟩:SpecV _ _ _ _∧GmP (toGm L d)∧_:=((Z9r hin).resolve_left (fun h=>h.1 he)).2
    rw [he] at hchk
    have go:∀ (x:AV) (eno:Int),numsR (rndR (toGm L d) k) = .tup [x,.int .i64 eno]→(lightW L d=true→x = .sl (ss (rndR (toGm L d) k))∧eno=0)→(∀ H ids,BV H ids x x)→_:=fun x eno hx hl hbx=>by
     rw [hx] at hr
     exact (show W Tryz.prog 76 0 (.seq (.rg false Zbc) (.seq (.rg false Zbb) (.seq (.seq (.rg false Za4) (.cond (.t 43) (.rg false Zbs) .skip)) (.seq (.seq (.rg false Za2) (.cond (.t 45) (.seq (.rg false Za8) .ret) .skip)) (.seq (.seq (.rg false Zcf) (.cond (.t 60) (.seq (.rg false Zcc) .ret) .skip)) (.seq (.rg false Zb9) .ret)))))) ⟨e,[]⟩ (retQ [.tmp 6] (.bool true)) from by
      simp only [go_sem,Zbc,k2,k7,k8]
      refine Zaa hr (by simp only [go_sem]) ?_
      simp only [go_sem,Zbb,k7,k8]
      refine Zk2 (ids := []) hchk (bvn _ _) (.inl rfl) (fun b hb=>by simp at hb) ?_
      simp only [go_sem,Za4,Za2,Zcf,k2,k7,k8,b1,b2]
      refine Zaa hlt (by simp only [go_sem]) ?_
      cases hlw:lightW L d with
      | false =>
       simp only [go_sem,Zcc]
       refine Zaa wlives (by simp only [go_sem]) ?_
       simp only [go_sem]
      | true =>
       obtain ⟨rfl,rfl⟩:=hl hlw
       have hgl:=Y6e hlw hnd hdo hn5
       have hb:=fun j (hj:j≤k)=>Yqk hg hgl (k:=j) (by omega)
       have hrr':=rrounds (r:=k) hnd hg.ok.db (fun j hj=>(hb j hj).mono (by omega)) (by omega) (by omega)
       have hok:∀ q,q∈rndR (toGm L d) k→NumOk q:=fun q hq=>Ye7 (hb k (Nat.le_refl _) q hq) (by omega)
       have hare:=rare (hb k (Nat.le_refl _)) (by omega) (by rw [Zlo]; omega) hok
       simp only [go_sem,Zb9,k2,k7,k8]
       refine Zaa (Xfi hdo (by have:=hin.d; omega)) (by simp only [go_sem]) ?_
       simp only [go_sem,k2]
       refine Zaa hrr' (by simp only [go_sem,Xej]) ?_
       simp only [go_sem]
       refine Zaa hare (by simp only [go_sem,rowV]) ?_
       simp only [go_sem]
       refine Zaa wlives (by simp only [go_sem]) ?_
       simp only [go_sem])
    by_cases hN:∀ q,q∈rndR (toGm L d) k→NumOk q
    ·exact go _ _ (if_pos hN) (fun _=>⟨rfl,rfl⟩) (fun H ids => .sl _)
    ·exact go _ _ (if_neg hN) (fun hlw=>absurd (fun q hq=>Ye7 (Yqk hg (Y6e hlw hnd hdo hn5) (k:=k) (by omega) q hq) (by omega)) hN) (fun H ids => .nils)
  ·have hrc:rC L d rr=eC L d:=by unfold rC; rw [if_neg he]
   rw [hrc,if_neg he] at hr
   simp only [go_sem,Zbc,k2,k7,k8]
   refine Zaa hr (by simp only [go_sem]) ?_
   simp only [go_sem,Zbb,k7,k8]
   refine Zk2 (ids := []) hchk (bvn _ _) (.inl rfl) (fun b hb=>by simp at hb) ?_
   simp only [go_sem,Za4,Za2,Za8,he]
   refine Zaa wlives (by simp only [go_sem]) ?_
   simp only [go_sem]
 refine Zaw Z5m (by simp) (Za5 2 rfl ?_)
 unfold Zu4
 simp only [go_sem,Zli,Zk3]
 refine Zaa hf (by simp only [go_sem]) ?_
 simp only [go_sem]
 refine Zaa hs (by simp only [go_sem]) ?_
 by_cases b1:8<r
 ·by_cases b2:r≤30
  ·have c9:¬ (9:Int)=0:=by decide
   have ht:r.tmod 9≤8:=by have:=Int.tmod_lt_of_pos r (show (0:Int)<9 by decide); omega
   simp only [go_sem,Zcz,Zk8,b1,b2,c9]
   exact main _ _ (.inr (.inr ht)) (by simp only [go_sem]) (by simp only [go_sem]) (by simp only [go_sem])
  ·simp only [go_sem,Zcz,b1,b2]
   exact main r _ (.inr (.inl (by omega))) (by simp only [go_sem]) (by simp only [go_sem]) (by simp only [go_sem])
 ·simp only [go_sem,Zcz,b1]
  exact main r _ (.inr (.inr (by omega))) (by simp only [go_sem]) (by simp only [go_sem]) (by simp only [go_sem])
end GoAbs
