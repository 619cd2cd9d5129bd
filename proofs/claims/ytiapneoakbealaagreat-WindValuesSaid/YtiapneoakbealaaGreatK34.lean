/- Lemmas for the claim (contracts of the functions that it reaches, and what they compute), without conditions. -/
import Derived.Test.YtiapneoakbealaaGreatK33
set_option linter.unusedVariables false
set_option linter.unusedSimpArgs false
set_option maxRecDepth 10000
set_option maxHeartbeats 2000000
namespace GoAbs
open Go Go.Proofs
set_option maxHeartbeats 8000000
theorem Yc3 {n i k:Nat}{d:Rat}{odds:List Rat}{to:List Nat}(hd:Qb 40 d) (ho:∀ t,t<to.length→Qb 40 (rget odds t)) (hk:1≤k):∀ {t:Nat}{M:RM},t≤to.length→M.length=n→Wid n M→Mb k M →
  (addOdds d i odds to t M).length=n∧Wid n (addOdds d i odds to t M)∧Mb (k+81*t) (addOdds d i odds to t M)
 | 0,M,_,hl,hw,h=>⟨hl,hw,h⟩
 | t+1,M,ht,hl,hw,h=>by
  obtain ⟨h1,h2,h3⟩:=Yc3 (i:=i) (odds:=odds) (to:=to) hd ho hk (t:=t) (M:=M) (by omega) hl hw h
  unfold addOdds
  refine ⟨by rw [Zdl,h1],h2.addAt,fun r hr=>(h3.addAt (l:=80) ((hd.mul2 (ho t (by omega))).neg) (by omega) r hr).mono (by omega)⟩
theorem Z55 {g:Gm}(hg:GmOk g) {p:List Int}:∀ {k:Nat},k≤g.nodes.length→(planM g p k).length=g.nodes.length∧Wid g.nodes.length (planM g p k)∧Mb (1+600*k) (planM g p k)
 | 0,_=>by
  unfold planM
  refine ⟨List.length_replicate,fun r hr=>by rw [(List.mem_replicate.1 hr).2,List.length_replicate],fun r hr x hx=>?_⟩
  rw [(List.mem_replicate.1 hr).2] at hx
  rw [(List.mem_replicate.1 hx).2]
  exact Qb.zero (by omega)
 | k+1,hk=>by
  obtain ⟨h1,h2,h3⟩:=Z55 hg (p:=p) (k:=k) (by omega)
  have hx:=Zb4 (g:=g) (i:=k) (by omega)
  have hok:=hg.node _ hx
  unfold planM nodeM
  generalize nodeAt g k=x at *
  have a1:Mb (1+600*k+1+1) (addAt (planM g p k) k k 1):=h3.addAt (Qb.one (by omega)) (by omega)
  have a2:(addAt (planM g p k) k k 1).length=g.nodes.length:=by rw [Zdl,h1]
  have a3:Wid g.nodes.length (addAt (planM g p k) k k 1):=h2.addAt
  split
  ·rename_i h3
   obtain ⟨ho,hb⟩:=hok.odds h3
   obtain ⟨b1,b2,b3⟩:=Yc3 (i:=k) (odds:=x.odds) (to:=x.to) hg.db (fun t ht=>hb.get (by omega)) (by omega) (Nat.le_refl _) a2 a3 a1
   have:=hok.len
   exact ⟨b1,b2,fun r hr=>(b3 r hr).mono (by omega)⟩
  ·exact ⟨by rw [Zdl,a2],a3.addAt,fun r hr=>(a1.addAt (l:=40) hg.db.neg (by omega) r hr).mono (by omega)⟩
theorem Xhm {pre:Heap}{o n0 n i k:Nat}{gc:List AV}{pl:AV}{s27:AV}{d:Rat}{odds:List Rat}{to:List Nat}{M:RM}{b1:Blk}(hpre:pre.length=o) (hclo:∀ m,Clo m pre) (hn0:n0≤o) (hol:o≤1) (hpl:∀ m,o+1≤m→pl.gc (pos (List.range m))=pl) (hs27:∀ f,s27.gc f=s27)
  (hgd:gc.drop 2=qcell d) (hgg:∀ f,gcL f gc=gc) (hb1:∀ f,b1.gc f=b1) (hd:Qb 40 d) (ho:odds.length=to.length) (hob:Rb 40 odds) (hto:∀ x,x∈to→x<n) (htl:to.length≤6) (hn:n≤100) (hi:i<n)
  (hM:M.length=n) (hW:Wid n M) (hB:Mb k M) (hk1:1≤k) (hk:k≤1000000) {K:Ex→St→Prop}
  (hK:∀ e:Nat→AV,e 0 = .rp gc→e 1=pl→e 5 = .osl none o 0 n→e 27=s27→e 28 = .int .i64 (n:Int)→e 29 = .int .i64 (i:Int)→K (.exit 3) ⟨e,pre++(matH o n (addOdds d i odds to to.length M) ++ [b1,.cells [.sl (ivs (nv to)),.sl (condsR odds)]])⟩) :
  T Tryz.prog 112 n0 (.loop Zne) ⟨envL [(0,.rp gc),(1,pl),(5,.osl none o 0 n),(6,.int .i64 (i:Int)),(10,.ptr (o+(1+2*n)+1) 0),(27,s27),(28,.int .i64 (n:Int)),(29,.int .i64 (i:Int)),(82,.sl (ivs (nv to))),(83,.int .i64 (to.length:Int)),(84,.int .i64 0)],
   pre++(matH o n M ++ [b1,.cells [.sl (ivs (nv to)),.sl (condsR odds)]])⟩ K:=by
 have hmx:Tryz.prog.follows .mixedOrders=true:=by kernel_rfl
 refine Zae (fun t:Nat=>⟨envL [(0,.rp gc),(1,pl),(5,.osl none o 0 n),(6,.int .i64 (i:Int)),(10,.ptr (o+(1+2*n)+1) 0),(27,s27),(28,.int .i64 (n:Int)),(29,.int .i64 (i:Int)),(82,.sl (ivs (nv to))),(83,.int .i64 (to.length:Int)),(84,.int .i64 (t:Int))],
   pre++(matH o n (addOdds d i odds to t M) ++ [b1,.cells [.sl (ivs (nv to)),.sl (condsR odds)]])⟩)
  (fun t=>t≤to.length) (fun t=>to.length - t) 0 (by omega) (Zab _ (by simp only [go_sem]; simp)) (fun t ht N hN=>?_)
 unfold Zne
 by_cases htn:t<to.length
 ·obtain ⟨w1,w2,w3⟩:=Yc3 (i:=i) (odds:=odds) (to:=to) hd (fun t ht=>hob.get (by omega)) hk1 (t:=t) ht hM hW hB
  have hnx:addOdds d i odds to (t+1) M=addAt (addOdds d i odds to t M) i (to.getD t 0) (-(d*rget odds t)):=rfl
  generalize addOdds d i odds to t M=S at *
  have gi:=Zcc htn
  have mi:=hto _ (List.mem_of_getElem? gi)
  have go:odds[t]? = some (rget odds t):=Zai (by omega)
  have bo:=hob.get (j:=t) (by omega)
  generalize to.getD t 0=x at *
  generalize rget odds t=w at *
  have mu:=Yxa (k:=40) hd bo (by omega)
  have bx:Qb 80 (-(d*w)):=(hd.mul2 bo).neg
  have q0:(0:Int)≤(t:Int):=by omega
  have q1:(t:Int)<(to.length:Int):=by omega
  have e1:IntKind.i64.wrap ((t:Int)+1)=((t+1:Nat):Int):=by rw [Zac (by omega) (by omega)]; omega
  have ql:∀ q:Rat,(qcell q).length=4:=fun q=>rfl
  have qt:∀ q:Rat,(qcell q).take 4=qcell q:=fun q=>rfl
  have qd:∀ q:Rat,(qcell q).drop 4 = []:=fun q=>rfl
  have gP:∀ (S':RM) (post':Heap) (t':Nat),S'.length=n→(pre++(matH o n S'++post'))[o+(1+2*n)+t']? = post'[t']?:=fun S' post' t' h=>Ybb hpre h
  have gL:∀ (S':RM) (post':Heap),S'.length=n→(pre++(matH o n S'++post')).length=o+(1+2*n)+post'.length:=fun S' post' h=>by rw [List.length_append,List.length_append,Zbr,h,hpre]; omega
  have l0:o+(1+2*n)+1<o+(1+2*n)+2:=by omega
  have ma:=Yp9 (post := [b1,.cells [.sl (ivs (nv to)),.sl (condsR odds)]]) (i:=i) (j:=x) (x := -(d*w)) (k:=k+1000) hpre w2 (by omega) mi (by omega) (by omega) (fun r hr=>(w3 r hr).mono (by omega)) (bx.mono (by omega)) (by omega)
  rw [w1] at ma
  simp only [go_sem,Zjs,Zug,Zk4,q0,q1,Zbn,Znu,Zce,ho,Zro gi,Za8 go,hgd,gP _ _ _ w1,gL _ _ w1,l0,ql,qt,qd,hmx,List.length_cons,List.length_nil]
  refine Zaa mu (by simp only [go_sem,Zau,Zah]) ?_
  simp only [go_sem,Zau]
  refine Zaa (Yvx _) (by simp only [go_sem,Zau,Zah]) ?_
  simp only [go_sem,Zau]
  refine Ze1 ma ?_
  simp only [go_sem,Zuc,e1,List.cons_append,List.nil_append]
  rw [← hnx]
  have w4:(addOdds d i odds to (t+1) M).length=n:=by rw [hnx,Zdl,w1]
  have hsplit:∀ Y:Blk,pre++(matH o n (addOdds d i odds to (t+1) M) ++ [b1,.cells [.sl (ivs (nv to)),.sl (condsR odds)],Y])=(pre++(matH o n (addOdds d i odds to (t+1) M) ++ [b1,.cells [.sl (ivs (nv to)),.sl (condsR odds)]])) ++ [Y]:=fun Y=>by simp
  rw [hsplit]
  have cv:∀ f,AV.gc f (.sl (ivs (nv to))) = .sl (ivs (nv to)):=fun f=>rfl
  refine hN (t+1) _ (by omega) (by omega) (Zgl (m:=o+(1+2*n)+2) (gL _ _ w4) ((hclo _).append ((Yjy (by rw [w4]; omega)).append ?_)) (by omega)
   [(0,.rp gc),(1,pl),(5,.osl none o 0 n),(6,.int .i64 (i:Int)),(10,.ptr (o+(1+2*n)+1) 0),(27,s27),(28,.int .i64 (n:Int)),(29,.int .i64 (i:Int)),(82,.sl (ivs (nv to))),(83,.int .i64 (to.length:Int)),(84,.int .i64 ((t+1:Nat):Int))] (by simp only [go_sem]) ?_)
  ·unfold Clo
   show [b1.gc _,.cells [_,_]]=_
   rw [hb1]; rfl
  ·have p1:pos (List.range (o+(1+2*n)+2)) o=some o:=Zbk (by omega)
   have p2:pos (List.range (o+(1+2*n)+2)) (o+(1+2*n)+1)=some (o+(1+2*n)+1):=Zbk (by omega)
   have p3:=hpl (o+(1+2*n)+2) (by omega)
   simp [AV.gc,p1,p2,p3,hs27]
 ·have hte:t=to.length:=by omega
  subst hte
  have q1:¬ ((to.length:Nat):Int)<(to.length:Int):=by omega
  simp only [go_sem,Zjs,q1]
  exact hK _ (by simp only [go_sem]) (by simp only [go_sem]) (by simp only [go_sem]) (by simp only [go_sem]) (by simp only [go_sem]) (by simp only [go_sem])
end GoAbs
namespace GoAbs
open Go Go.Proofs
set_option maxHeartbeats 8000000
theorem Xhh {pre:Heap}{o n0 n:Nat}{g:Gm}{p:List Int}{pl:AV}(hpre:pre.length=o) (hclo:∀ m,Clo m pre) (hn0:n0≤o) (hol:o≤1) (hpgc:∀ m,o+1≤m→pl.gc (pos (List.range m))=pl)
  (hpl:pl = .sl (ivs p)∨(pl = .osl none 0 0 n∧∀ X,(pre++X)[0]? = some (.cells (ivs p)))) (hg:GmOk g) (hp:POk g p) (hn:n=g.nodes.length) {K:Ex→St→Prop}
  (hK:∀ e:Nat→AV,e 0 = .rp (gmC g)→e 5 = .osl none o 0 n→K (.exit 0) ⟨e,pre++matH o n (planM g p n)⟩) :
  T Tryz.prog 112 n0 (.loop Zm8) ⟨envL [(0,.rp (gmC g)),(1,pl),(5,.osl none o 0 n),(27,.sl (g.nodes.map gnAV)),(28,.int .i64 (n:Int)),(29,.int .i64 0)],pre++matH o n (planM g p 0)⟩ K:=by
 have hmx:Tryz.prog.follows .mixedOrders=true:=by kernel_rfl
 have hnl:=hg.n
 refine Zae (fun i:Nat=>⟨envL [(0,.rp (gmC g)),(1,pl),(5,.osl none o 0 n),(27,.sl (g.nodes.map gnAV)),(28,.int .i64 (n:Int)),(29,.int .i64 (i:Int))],pre++matH o n (planM g p i)⟩)
  (fun i=>i≤n) (fun i=>n - i) 0 (by omega) (Zab _ (by simp only [go_sem]; simp)) (fun i hi N hN=>?_)
 unfold Zm8
 by_cases hin:i<n
 ·have hig:i<g.nodes.length:=by omega
  obtain ⟨w1,w2,w3⟩:=Z55 hg (p:=p) (k:=i) (by omega)
  have hnx:planM g p (i+1)=nodeM g p (planM g p i) i:=rfl
  obtain ⟨x,hx⟩:∃ x,g.nodes[i]? = some x:=⟨_,List.getElem?_eq_getElem hig⟩
  have hxa:nodeAt g i=x:=by unfold nodeAt; rw [List.getD_eq_getElem?_getD,hx]; rfl
  have hxg:(g.nodes.map gnAV)[i]? = some (gnAV x):=by rw [List.getElem?_map,hx]; rfl
  have hok:=hg.node x (List.mem_of_getElem? hx)
  have hlt:=hp.lt hig
  have hp2:=hp.2 i hig
  have hpl1:=hp.1
  rw [hxa] at hlt hp2
  rw [← hn] at w1 w2 hok
  have q0:(0:Int)≤(i:Int):=by omega
  have q1:(i:Int)<(n:Int):=by omega
  have e1:IntKind.i64.wrap ((i:Int)+1)=((i+1:Nat):Int):=by rw [Zac (by omega) (by omega)]; omega
  have ql:∀ q:Rat,(qcell q).length=4:=fun q=>rfl
  have qt:∀ q:Rat,(qcell q).take 4=qcell q:=fun q=>rfl
  have qd:∀ q:Rat,(qcell q).drop 4 = []:=fun q=>rfl
  have gd2:(gmC g).drop 2=qcell g.d:=rfl
  have gd0:(gmC g)[0]? = some (.sl (g.nodes.map gnAV)):=rfl
  have gcg:∀ f,gcL f (gmC g)=gmC g:=fun f=>by unfold gmC; rfl
  have gP:∀ (S':RM) (post':Heap) (t':Nat),S'.length=n→(pre++(matH o n S'++post'))[o+(1+2*n)+t']? = post'[t']?:=fun S' post' t' h=>Ybb hpre h
  have gL:∀ (S':RM) (post':Heap),S'.length=n→(pre++(matH o n S'++post')).length=o+(1+2*n)+post'.length:=fun S' post' h=>by rw [List.length_append,List.length_append,Zbr,h,hpre]; omega
  have sP:∀ (S':RM) (post':Heap) (t':Nat) (bl:Blk),S'.length=n→(pre++(matH o n S'++post')).set (o+(1+2*n)+t') bl=pre++(matH o n S'++post'.set t' bl):=fun S' post' t' bl h=>Z91 hpre h
  have eA:∀ (S':RM) (post':Heap) (Y:Blk),(pre++(matH o n S'++post')) ++ [Y]=pre++(matH o n S'++(post' ++ [Y])):=fun S' post' Y=>by simp
  have fin:∀ (e:Nat→AV) (post:Heap) (S':RM),S'=planM g p (i+1)→Has e [(0,.rp (gmC g)),(1,pl),(5,.osl none o 0 n),(27,.sl (g.nodes.map gnAV)),(28,.int .i64 (n:Int)),(29,.int .i64 ((i+1:Nat):Int))]→N ⟨e,pre++(matH o n S'++post)⟩:=fun e post S' hS he=>by
   subst hS
   have w4:=(Z55 hg (p:=p) (k:=i+1) (by omega)).1
   rw [← hn] at w4
   rw [← List.append_assoc]
   refine hN (i+1) _ (by omega) (by omega) (Zgl (m:=o+(1+2*n)) (by rw [List.length_append,Zbr,w4,hpre]) ((hclo _).append (Yjy (by rw [w4]; omega))) (by omega) _ he ?_)
   have p1:pos (List.range (o+(1+2*n))) o=some o:=Zbk (by omega)
   have p3:=hpgc (o+(1+2*n)) (by omega)
   simp [AV.gc,p1,p3]
  have ma:=Yp9 (post := []) (i:=i) (j:=i) (x:=1) (k:=1+600*i) hpre w2 (by omega) hin (by omega) (by omega) w3 (Qb.one (by omega)) (by omega)
  rw [w1,List.append_nil,List.nil_append] at ma
  have a1:Mb (1+600*i+1+1) (addAt (planM g p i) i i 1):=w3.addAt (Qb.one (by omega)) (by omega)
  have a2:(addAt (planM g p i) i i 1).length=n:=by rw [Zdl,w1]
  have a3:Wid n (addAt (planM g p i) i i 1):=w2.addAt
  unfold nodeM at hnx
  rw [hxa] at hnx
  generalize planM g p i=S at *
  generalize addAt S i i 1=S1 at *
  have hgp:((ivs p).drop i)[0]? = some (.int .i64 (p.getD i 0)):=by
   rw [List.getElem?_drop,Nat.add_zero]
   refine Yin ?_
   rw [List.getD_eq_getElem?_getD,List.getElem?_eq_getElem (by omega)]; rfl
  have hgp2:(ivs p)[i]? = some (.int .i64 (p.getD i 0)):=by
   have:=hgp
   rwa [List.getElem?_drop,Nat.add_zero] at this
  have hpll:(ivs p).length=n:=by rw [Zbn]; omega
  have mv:∀ (S2:RM) (j:Nat) (post:Heap),j<n→S2=addAt S1 i j (-g.d)→SpecR Tryz.prog Zuf (pre++(matH o n S1++post)) [.osl none o 0 n,.int .i64 (i:Int),.int .i64 (j:Int),.agg (qcell (-g.d))] (.tup []) (pre++(matH o n S2++(post ++ [.cells (qcell (-g.d))]))):=fun S2 j post hj h=>by
   have:=Yp9 (post:=post) (i:=i) (j:=j) (x := -g.d) (k:=10000) hpre a3 (by omega) hj (by omega) (by omega) (fun r hr=>(a1 r hr).mono (by omega)) (hg.db.neg.mono (by omega)) (by omega)
   rw [a2, ← h] at this
   exact this
  have xc:(gnAV x).cells = [gnAV x]:=by unfold gnAV; split; rfl; split <;> rfl
  simp only [go_sem,Zl3,Zz6,Zzd,q0,q1,hxg,xc,List.length_map]
  refine Zaa Y4u (by simp only [go_sem]) ?_
  simp only [go_sem,Zau]
  refine Ze1 ma ?_
  simp only [go_sem,Zzv,Zyt]
  have l0:o+(1+2*n)+1<o+(1+2*n)+2:=by omega
  have l1:0<o+(1+2*n)+2:=by omega
  have r0:(0:Int)≤(pget p i:Int):=by omega
  by_cases k3:x.kind=3
  ·have hgx:gnAV x = .ifc 140 (.agg [.sl (ivs (nv x.to)),.sl (condsR x.odds)]):=by unfold gnAV; rw [if_neg (by omega),if_neg (by omega)]
   rw [if_pos k3] at hnx
   obtain ⟨ho1,ho2⟩:=hok.odds k3
   have hlen:=hok.len
   rw [hgx]
   simp only [go_sem,Zl7,Zkm,Zwq,Ztp,Zvi,eA,List.cons_append,List.nil_append,sP _ _ _ _ a2,gP _ _ _ a2,gL _ _ a2,Zbn,Znu]
   refine Zas [(0,.rp (gmC g)),(1,pl),(5,.osl none o 0 n),(6,.int .i64 (i:Int)),(10,.ptr (o+(1+2*n)+1) 0),(27,.sl (g.nodes.map gnAV)),(28,.int .i64 (n:Int)),(29,.int .i64 (i:Int)),(82,.sl (ivs (nv x.to))),(83,.int .i64 (x.to.length:Int)),(84,.int .i64 0)] (by simp only [go_sem]) ?_
   refine Xhm (d:=g.d) (k:=1+600*i+1+1) hpre hclo hn0 hol hpgc (fun f=>rfl) gd2 gcg (fun f=>by simp only [Blk.gc,Zxc]) hg.db ho1 ho2 hok.lt hlen (by omega) hin a2 a3 a1 (by omega) (by omega) (fun e k0 k1 k5 k27 k28 k29=>?_)
   rw [← hnx]
   simp only [go_sem,Zb3,k29,e1]
   exact fin _ _ _ rfl (by simp only [go_sem,k0,k1,k5,k27,k28])
  ·have hlt':=hlt k3
   have hp2':=hp2 k3
   rw [if_neg k3] at hnx
   have gi:=Zcc hlt'
   have mi:=hok.lt _ (Zbl hlt')
   have hpe:p.getD i 0=(pget p i:Int):=by unfold pget; omega
   have r1:(pget p i:Int)<(x.to.length:Int):=by omega
   have gl':(planM g p (i+1)).length=n:=by rw [hnx,Zdl,a2]
   rw [hpe] at hgp hgp2
   generalize x.to.getD (pget p i) 0=y at *
   generalize pget p i=pi at *
   have mvv:=mv _ y [.cells (qcell 1),.cells [.sl (ivs (nv x.to))]] mi hnx
   by_cases k1:x.kind=1
   ·have hgx:gnAV x = .ifc 129 (.agg [.sl (ivs (nv x.to))]):=by unfold gnAV; rw [if_pos k1]
    rw [hgx]
    simp only [go_sem,Zl7,Zkw,eA,List.cons_append,List.nil_append,sP _ _ _ _ a2,gP _ _ _ a2,gL _ _ a2,l0]
    rcases hpl with rfl | ⟨rfl,hX⟩
    ·simp only [go_sem,q0,q1,r0,r1,hpll,hgp2,Zbn,Znu,Zro gi,gd2,ql,qt,qd,hmx]
     refine Zaa (Yvx _) (by simp only [go_sem,Zau,Zah]) ?_
     simp only [go_sem,Zau]
     refine Ze1 mvv ?_
     simp only [go_sem,Zb3,e1]
     exact fin _ _ _ rfl (by simp only [go_sem])
    ·simp only [go_sem,q0,q1,r0,r1,l0,l1,hX,hpll,hgp,hgp2,Zbn,Znu,Zro gi,gd2,ql,qt,qd,hmx,List.getElem?_drop]
     refine Zaa (Yvx _) (by simp only [go_sem,Zau,Zah]) ?_
     simp only [go_sem,Zau]
     refine Ze1 mvv ?_
     simp only [go_sem,Zb3,e1]
     exact fin _ _ _ rfl (by simp only [go_sem])
   ·have hgx:gnAV x = .ifc 131 (.agg [.sl (ivs (nv x.to))]):=by unfold gnAV; rw [if_neg k1,if_pos (by have:=hok.kind; omega)]
    rw [hgx]
    simp only [go_sem,Zkm,Zu9,Zj1,eA,List.cons_append,List.nil_append,sP _ _ _ _ a2,gP _ _ _ a2,gL _ _ a2,l0]
    rcases hpl with rfl | ⟨rfl,hX⟩
    ·simp only [go_sem,q0,q1,r0,r1,hpll,hgp2,Zbn,Znu,Zro gi,gd2,ql,qt,qd,hmx]
     refine Zaa (Yvx _) (by simp only [go_sem,Zau,Zah]) ?_
     simp only [go_sem,Zau]
     refine Ze1 mvv ?_
     simp only [go_sem,Zb3,e1]
     exact fin _ _ _ rfl (by simp only [go_sem])
    ·simp only [go_sem,q0,q1,r0,r1,l0,l1,hX,hpll,hgp,hgp2,Zbn,Znu,Zro gi,gd2,ql,qt,qd,hmx,List.getElem?_drop]
     refine Zaa (Yvx _) (by simp only [go_sem,Zau,Zah]) ?_
     simp only [go_sem,Zau]
     refine Ze1 mvv ?_
     simp only [go_sem,Zb3,e1]
     exact fin _ _ _ rfl (by simp only [go_sem])
 ·have hie:i=n:=by omega
  subst hie
  have q1:¬ ((i:Nat):Int)<(i:Int):=by omega
  simp only [go_sem,Zl3,q1]
  exact hK _ (by simp only [go_sem]) (by simp only [go_sem])
end GoAbs
namespace GoAbs
open Go Go.Proofs
set_option maxHeartbeats 8000000
theorem bbit5:∀ k,k≤5→bbit 9687500 k≤2000000000:=by
 intro k hk
 have:k=0∨k=1∨k=2∨k=3∨k=4∨k=5:=by omega
 rcases this with rfl | rfl | rfl | rfl | rfl | rfl <;> decide
theorem Ygh {g:Gm}(hg:GmOk g) (hn:g.nodes.length≤5) {p:List Int}:Mb 3100 (aug (planM g p g.nodes.length) g.rew):=fun r hr x hx=>by
 obtain ⟨w1,w2,w3⟩:=Z55 hg (p:=p) (Nat.le_refl _)
 obtain ⟨i,hi⟩:=List.getElem?_of_mem hr
 unfold aug at hi
 rw [List.getElem?_zipWith] at hi
 split at hi
 ·rename_i a b ha hb
  cases hi
  rcases List.mem_append.1 hx with h | h
  ·exact (w3 a (List.mem_of_getElem? ha) x h).mono (by omega)
  ·rw [List.mem_singleton.1 h]
   exact (hg.rb b (List.mem_of_getElem? hb)).mono (by omega)
 ·cases hi
theorem Zxd {g:Gm}(hg:GmP g) {p:List Int}(hp:POk g p) (hn5:g.nodes.length≤5) :
  NoSw g.nodes.length 0 (aug (planM g p g.nodes.length) g.rew)∧(∀ i,i<g.nodes.length→rget ((tri g.nodes.length 0 (aug (planM g p g.nodes.length) g.rew) 1).2.getD i []) i≠0)∧Wid (g.nodes.length+1) (tri g.nodes.length 0 (aug (planM g p g.nodes.length) g.rew) 1).2 ∧
  Mb 9687500 (tri g.nodes.length 0 (aug (planM g p g.nodes.length) g.rew) 1).2∧Rb 2000000000 (valP g p):=by
 obtain ⟨w1,w2,w3⟩:=Z55 hg.ok (p:=p) (Nat.le_refl _)
 obtain ⟨a1,a2,a3,_,_⟩:=Ydc w1 w2 hg.ok.rew (Ybm hg hp)
 have hl:(aug (planM g p g.nodes.length) g.rew).length=g.nodes.length:=by rw [Ydn (by rw [w1]; exact hg.ok.rew),w1]
 have hb:=Y1v (w:=g.nodes.length+1) (k:=g.nodes.length) (c:=0) (d:=1) (by omega) (by omega) (Yqb w2) (Ygh hg.ok hn5 (p:=p)) (by omega)
 have h5:5 ^ g.nodes.length*3100≤9687500:=by
  have:5 ^ g.nodes.length≤5 ^ 5:=Nat.pow_le_pow_right (by omega) hn5
  omega
 have hb':Mb 9687500 (tri g.nodes.length 0 (aug (planM g p g.nodes.length) g.rew) 1).2:=fun r hr=>(hb r hr).mono h5
 refine ⟨a1,a2,a3,hb',?_⟩
 exact (Yer hb' a3 (by rw [Yjg,hl]) a2 g.nodes.length (Nat.le_refl _)).mono (bbit5 _ hn5)
theorem Ygv {pre:Heap}{o:Nat}{g:Gm}{p:List Int}{pl:AV}(hpre:pre.length=o) (hpure:PureH pre) (hol:o≤1) (hpgc:∀ m,o+1≤m→pl.gc (pos (List.range m))=pl)
  (hpl:pl = .sl (ivs p)∨(pl = .osl none 0 0 g.nodes.length∧∀ X,(pre++X)[0]? = some (.cells (ivs p)))) (hg:GmP g) (hp:POk g p) (hn1:1≤g.nodes.length) (hn5:g.nodes.length≤5) :
  SpecR Tryz.prog Ymg pre [.rp (gmC g),pl] (.sl (condsR (valP g p))) pre:=by
 obtain ⟨a1,a2,a3,a4,_⟩:=Zxd hg hp hn5
 obtain ⟨w1,w2,w3⟩:=Z55 hg.ok (p:=p) (Nat.le_refl _)
 obtain ⟨n,hn⟩:∃ n,n=g.nodes.length:=⟨_,rfl⟩
 have hmx:Tryz.prog.follows .mixedOrders=true:=by kernel_rfl
 have hclo:∀ m,Clo m pre:=fun m=>hpure _
 have hsv:=Yxb (pre:=pre) (o:=o) (n:=n) (k:=3100) (M:=planM g p n) (r:=g.rew) hpre hpure (by rw [hn,w1]) (by rw [hn,hg.ok.rew]) (by omega) (by rw [hn]; exact w2) (by rw [hn]; exact Ygh hg.ok hn5) (by omega) (by
   have:9 ^ n≤9 ^ 5:=Nat.pow_le_pow_right (by omega) (by omega)
   omega) (by rw [hn]; exact a1) (a:=9687500) (by rw [hn]; exact a4) (by rw [hn]; exact a3) (by rw [hn]; exact a2) (fun k hk=>by
   have:k=0∨k=1∨k=2∨k=3∨k=4:=by omega
   rcases this with rfl | rfl | rfl | rfl | rfl <;> decide)
 have hz:=Z1p (H:=pre) (Y4l (m:=n) (n:=n) (by omega) (by omega) (by omega)) (by simp only [go_sem])
 rw [Y97,Nat.zero_add] at hz
 have ez:(AV.osl none 0 0 n).gc (fun i=>some (i+pre.length)) = .osl none o 0 n:=by simp only [AV.gc,hpre,Nat.zero_add]
 rw [ez,hpre] at hz
 have gd0:(gmC g)[0]? = some (.sl (g.nodes.map gnAV)):=rfl
 have gd1:(gmC g).drop 1 = .sl (condsR g.rew)::qcell g.d:=rfl
 refine Z4g Yjc (by simp) (Za0 1 rfl ?_)
 unfold Yb3
 obtain ⟨gc,hgc⟩:∃ gc,gc=gmC g:=⟨_,rfl⟩
 rw [← hgc] at gd0 gd1 ⊢
 simp only [go_sem,Zz9,Zna,gd0,List.length_map,hmx]
 rw [← hn]
 refine Ze1 hz ?_
 simp only [go_sem]
 refine Zav (Zav (T_W ?_))
 simp only [go_sem,Zx5,gd0,List.length_map]
 rw [← hn,hgc]
 refine Zaw (Zas [(0,.rp (gmC g)),(1,pl),(5,.osl none o 0 n),(27,.sl (g.nodes.map gnAV)),(28,.int .i64 (n:Int)),(29,.int .i64 0)] (by simp only [go_sem]) (T_le (Zb0 (Xar) ?_) (Xhh hpre hclo (by omega) hol hpgc (by rw [hn]; exact hpl) hg.ok hp hn (fun e k0 k5=>?_))))
 ·rw [show planM g p 0=List.replicate n (List.replicate n 0) by rw [hn]; rfl]
 ·show T Tryz.prog 112 _ (.seq (.rg false Zku) .ret) _ _
  refine T_W ?_
  rw [← hgc] at k0
  simp only [go_sem,Zku,k0,k5,gd1]
  refine Ze1 hsv ?_
  simp only [go_sem]
  exact ⟨by rw [hn]; rfl,rfl,_,Zgl rfl (hclo _) (Nat.le_refl _) [] trivial (fun p hp=>by simp at hp),rfl⟩
end GoAbs
namespace GoAbs
open Go Go.Proofs
set_option maxHeartbeats 8000000
theorem Y5w {p:List Int}{i:Nat}{x:Int}(hi:i<p.length):(ivs p).take i ++ [AV.int .i64 x]++(ivs p).drop (i+1)=ivs (p.set i x):=by
 unfold ivs
 rw [List.map_set]
 rw [List.set_eq_take_append_cons_drop,if_pos (by simpa using hi)]
 simp
theorem Y5m {n i pi k:Nat}{p:List Int}{v:List Rat}{to:List Nat}{sg:Int}{ch:Bool}{b4:Blk}(hv:Rb k v) (hk:2*k+1≤1000000000000) (hvl:v.length=n) (hn:n≤100) (hpl:p.length=n) (hi:i<n) (hto:∀ x,x∈to→x<n) (h0:0<to.length) (hl:to.length≤6)
  (hp:p.getD i 0=(pi:Int)) (hpi:pi<to.length) (c:Bool) (hc:c=decide (cmpR (rget v (to.getD (bestA v to sg) 0)) (rget v (to.getD pi 0))=sg)) :
  SpecR Tryz.prog Z6u [.cells (ivs p),.cells [.osl none 0 0 n],.cells [.sl (condsR v)],.cells [.bool ch],b4] [.int .i64 (i:Int),.sl (ivs (nv to)),.int .i64 sg,.ptr 2 0,.ptr 1 0,.ptr 3 0] (.tup [])
   [.cells (ivs (if c=true then p.set i (bestA v to sg:Int) else p)),.cells [.osl none 0 0 n],.cells [.sl (condsR v)],.cells [.bool (c || ch)],b4]:=by
 have hmx:Tryz.prog.follows .mixedOrders=true:=by kernel_rfl
 have hb:=Z4v (sg:=sg) (to:=to) hv hk (fun x hx=>by rw [hvl]; exact hto x hx) h0 (by omega) (by omega)
 have hbl:bestA v to sg<to.length:=Ze9 h0 (Nat.le_refl _)
 generalize bestA v to sg=b at *
 have g1:=Zcc hbl
 have g2:=Zcc hpi
 have m1:=hto _ (Zbl hbl)
 have m2:=hto _ (Zbl hpi)
 generalize to.getD b 0=x at *
 generalize to.getD pi 0=y at *
 have hcm:=Y0k (hv.get (j:=x) (by omega)) (hv.get (j:=y) (by omega)) hk
 have q0:(0:Int)≤(i:Int):=by omega
 have q1:(i:Int)<(n:Int):=by omega
 have q2:(0:Int)≤(b:Int):=by omega
 have q3:(b:Int)<(to.length:Int):=by omega
 have q4:(0:Int)≤(x:Int):=by omega
 have q5:(x:Int)<(n:Int):=by omega
 have q6:(0:Int)≤(y:Int):=by omega
 have q7:(y:Int)<(n:Int):=by omega
 have q8:(0:Int)≤(pi:Int):=by omega
 have q9:(pi:Int)<(to.length:Int):=by omega
 have ql:∀ q,(qcell q).length=4:=fun q=>rfl
 have qt:∀ q,(qcell q).take 4=qcell q:=fun q=>rfl
 have qd:∀ q,(qcell q).drop 4 = []:=fun q=>rfl
 have hgp:(ivs p)[i]? = some (.int .i64 (pi:Int)):=by
  refine Yin ?_
  rw [← hp,List.getD_eq_getElem?_getD,List.getElem?_eq_getElem (by omega)]; rfl
 have hpll:(ivs p).length=n:=by rw [Zbn]; omega
 have f1:i+1≤n:=by omega
 have hf:=Y5w (p:=p) (i:=i) (x:=(b:Int)) (by omega)
 refine Z0i Z1z (by simp) ?_
 unfold Zrt
 simp only [go_sem,Zjw,Zek]
 refine Zaa hb (by simp only [go_sem]) ?_
 simp only [go_sem,q0,q1,q2,q3,q4,q5,q6,q7,q8,q9,Zbn,Znu,Zce,hvl,Zro g1,Zro g2,hgp,List.getElem?_drop,Za8 (Zai (r:=v) (j:=x) (by omega)),Za8 (Zai (r:=v) (j:=y) (by omega)),ql,qt,qd,hmx]
 refine Zaa hcm (by simp only [go_sem,Zau,Zah]) ?_
 by_cases hcc:cmpR (rget v x) (rget v y)=sg
 ·have hct:c=true:=by rw [hc]; exact decide_eq_true hcc
  subst hct
  simp only [go_sem,hcc,Zjz,q0,q1,hpll,f1,hf]
  rw [Bool.true_or]
 ·have hct:c=false:=by rw [hc]; exact decide_eq_false hcc
  subst hct
  simp only [go_sem,hcc]
  rw [Bool.false_or]
def betU (g:Gm) (v:List Rat) (who:Nat) (p:List Int) (i:Nat):List Int:=(List.range g.nodes.length).map fun j=>if j<i then betI g v who p j else p.getD j 0
theorem Zw7 {g:Gm}{v:List Rat}{who:Nat}{p:List Int}{i:Nat}:(betU g v who p i).length=g.nodes.length:=by unfold betU; rw [List.length_map,List.length_range]
theorem Xf0 {g:Gm}{v:List Rat}{who:Nat}{p:List Int}(h:p.length=g.nodes.length):betU g v who p 0=p:=by
 refine List.ext_getElem (by rw [Zw7,h]) (fun i h1 h2=>?_)
 simp [betU,h2]
theorem Xf5 {g:Gm}{v:List Rat}{who:Nat}{p:List Int}:betU g v who p g.nodes.length=betP g v who p:=by
 unfold betU betP
 exact List.map_congr_left fun j hj=>by rw [if_pos (List.mem_range.1 hj)]
theorem Ysb {g:Gm}{v:List Rat}{who:Nat}{p:List Int}{i:Nat}(h:i<g.nodes.length):(betU g v who p i).getD i 0=p.getD i 0:=by
 unfold betU
 rw [List.getD_eq_getElem?_getD,List.getElem?_map,List.getElem?_range h]
 simp
theorem Yxx {g:Gm}{v:List Rat}{who:Nat}{p:List Int}{i j:Nat}(h:j<g.nodes.length):(betU g v who p i)[j]? = some (if j<i then betI g v who p j else p.getD j 0):=by
 unfold betU
 rw [List.getElem?_map,List.getElem?_range h]; rfl
theorem Y08 {g:Gm}{v:List Rat}{who:Nat}{p:List Int}{i:Nat}(h:i<g.nodes.length) :
  betU g v who p (i+1)=if bet1 g v who p i=true then (betU g v who p i).set i (bestA v (nodeAt g i).to (sgn who):Int) else betU g v who p i:=by
 have e:∀ z:Int,z=betI g v who p i→betU g v who p (i+1)=(betU g v who p i).set i z:=fun z hz=>by
  refine List.ext_getElem? (fun j=>?_)
  rw [List.getElem?_set,Zw7]
  by_cases hjn:j<g.nodes.length
  ·rw [Yxx hjn,Yxx hjn]
   by_cases hj:i=j
   ·rw [if_pos hj,if_pos (by omega),hz, ← hj,if_pos (by omega)]
   ·rw [if_neg hj]
    by_cases hl:j<i
    ·rw [if_pos hl,if_pos (by omega)]
    ·rw [if_neg hl,if_neg (by omega)]
  ·rw [if_neg (by omega),List.getElem?_eq_none (by rw [Zw7]; omega),List.getElem?_eq_none (by rw [Zw7]; omega)]
 by_cases hb:bet1 g v who p i=true
 ·rw [if_pos hb]
  exact e _ (by unfold betI; rw [if_pos hb])
 ·rw [if_neg hb,e (p.getD i 0) (by unfold betI; rw [if_neg hb])]
  have h2:=Ysb (g:=g) (v:=v) (who:=who) (p:=p) h
  have hl:i<(betU g v who p i).length:=by rw [Zw7]; exact h
  rw [← h2,List.getD_eq_getElem?_getD,List.getElem?_eq_getElem hl,Option.getD_some,List.set_getElem_self]
theorem Yzi {g:Gm}{v:List Rat}{who n k:Nat}{p:List Int}(hv:Rb k v) (hk:2*k+1≤1000000000000) (hvl:v.length=n) (hg:GmOk g) (hp:POk0 g p) (hn:n=g.nodes.length) (hw:who=1∨who=2) {K:Ex→St→Prop}
  (hK:∀ e:Nat→AV,e 9 = .ptr 3 0→K (.exit 0) ⟨e,[.cells (ivs (betP g v who p)),.cells [.osl none 0 0 n],.cells [.sl (condsR v)],.cells [.bool (betC g v who p)]]⟩) :
  T Tryz.prog 49 1 (.loop Zj4) ⟨envL [(3,.int .i64 (who:Int)),(9,.ptr 3 0),(10,.fn 130 [] [.ptr 2 0,.ptr 1 0,.ptr 3 0]),(19,.sl (g.nodes.map gnAV)),(20,.int .i64 (n:Int)),(21,.int .i64 0)],
   [.cells (ivs p),.cells [.osl none 0 0 n],.cells [.sl (condsR v)],.cells [.bool false]]⟩ K:=by
 have hmx:Tryz.prog.follows .mixedOrders=true:=by kernel_rfl
 have hnl:=hg.n
 refine Zae (fun i:Nat=>⟨envL [(3,.int .i64 (who:Int)),(9,.ptr 3 0),(10,.fn 130 [] [.ptr 2 0,.ptr 1 0,.ptr 3 0]),(19,.sl (g.nodes.map gnAV)),(20,.int .i64 (n:Int)),(21,.int .i64 (i:Int))],
   [.cells (ivs (betU g v who p i)),.cells [.osl none 0 0 n],.cells [.sl (condsR v)],.cells [.bool ((List.range i).any (bet1 g v who p))]]⟩)
  (fun i=>i≤n) (fun i=>n - i) 0 (by omega) (Zb0 (Zab [(3,.int .i64 (who:Int)),(9,.ptr 3 0),(10,.fn 130 [] [.ptr 2 0,.ptr 1 0,.ptr 3 0]),(19,.sl (g.nodes.map gnAV)),(20,.int .i64 (n:Int)),(21,.int .i64 0)] (by simp only [go_sem])) (by rw [Xf0 hp.1]; rfl)) (fun i hi N hN=>?_)
 unfold Zj4
 by_cases hin:i<n
 ·have hig:i<g.nodes.length:=by omega
  obtain ⟨x,hx⟩:∃ x,g.nodes[i]? = some x:=⟨_,List.getElem?_eq_getElem hig⟩
  have hxa:nodeAt g i=x:=by unfold nodeAt; rw [List.getD_eq_getElem?_getD,hx]; rfl
  have hxg:(g.nodes.map gnAV)[i]? = some (gnAV x):=by rw [List.getElem?_map,hx]; rfl
  have hok:=hg.node x (List.mem_of_getElem? hx)
  have hp2:=hp.2 i hig
  have hs:=Y08 (v:=v) (who:=who) (p:=p) hig
  have hu:=Ysb (v:=v) (who:=who) (p:=p) hig
  have hul:=Zw7 (g:=g) (v:=v) (who:=who) (p:=p) (i:=i)
  have hpe:p.getD i 0=(pget p i:Int):=by unfold pget; omega
  rw [hxa] at hp2 hs
  have hb1:bet1 g v who p i=(decide (x.kind=who) && decide (cmpR (rget v (x.to.getD (bestA v x.to (sgn who)) 0)) (rget v (x.to.getD (pget p i) 0))=sgn who)):=by unfold bet1; rw [hxa]
  have hany:(List.range (i+1)).any (bet1 g v who p)=((List.range i).any (bet1 g v who p) || bet1 g v who p i):=by rw [List.range_succ,List.any_append]; simp
  have q0:(0:Int)≤(i:Int):=by omega
  have q1:(i:Int)<(n:Int):=by omega
  have e1:IntKind.i64.wrap ((i:Int)+1)=((i+1:Nat):Int):=by rw [Zac (by omega) (by omega)]; omega
  have xc:(gnAV x).cells = [gnAV x]:=by unfold gnAV; split; rfl; split <;> rfl
  have fin:∀ (e:Nat→AV) (post:Heap) (pp:List Int) (ch:Bool),pp=betU g v who p (i+1)→ch=(List.range (i+1)).any (bet1 g v who p)→Has e [(3,.int .i64 (who:Int)),(9,.ptr 3 0),(10,.fn 130 [] [.ptr 2 0,.ptr 1 0,.ptr 3 0]),(19,.sl (g.nodes.map gnAV)),(20,.int .i64 (n:Int)),(21,.int .i64 ((i+1:Nat):Int))] →
    N ⟨e,[.cells (ivs pp),.cells [.osl none 0 0 n],.cells [.sl (condsR v)],.cells [.bool ch]]++post⟩:=fun e post pp ch h1 h2 he=>by
   subst h1 h2
   refine hN (i+1) _ (by omega) (by omega) (Zgl (K := [.cells (ivs (betU g v who p (i+1))),.cells [.osl none 0 0 n],.cells [.sl (condsR v)],.cells [.bool ((List.range (i+1)).any (bet1 g v who p))]]) (m:=4) rfl ?_ (by omega) _ he ?_)
   ·unfold Clo
    show [Blk.cells (gcL _ (ivs _)),.cells [.osl none 0 0 n],_,_]=_
    rw [Ywq]; rfl
   ·simp [AV.gc,gcL,Zbk]
  rw [hpe] at hu
  generalize betU g v who p i=pp at *
  generalize (List.range i).any (bet1 g v who p)=ch at *
  have ht:∀ (sg:Int) (b4:Blk) (c:Bool),c=decide (cmpR (rget v (x.to.getD (bestA v x.to sg) 0)) (rget v (x.to.getD (pget p i) 0))=sg)→_:=fun sg b4 c hc=>Y5m (p:=pp) (pi:=pget p i) (ch:=ch) (b4:=b4) hv hk hvl (by omega) (by omega) hin (fun y hy=>by rw [hn]; exact hok.lt y hy) hok.pos hok.len hu (by unfold pget; omega) c hc
  simp only [go_sem,Zkv,Zvb,Zwk,Ztw,q0,q1,hxg,xc,List.length_map]
  have skip:x.kind≠who→bet1 g v who p i=false:=fun h=>by rw [hb1,decide_eq_false h]; rfl
  have hsk:∀ (e:Nat→AV) (post:Heap),x.kind≠who→Has e [(3,.int .i64 (who:Int)),(9,.ptr 3 0),(10,.fn 130 [] [.ptr 2 0,.ptr 1 0,.ptr 3 0]),(19,.sl (g.nodes.map gnAV)),(20,.int .i64 (n:Int)),(21,.int .i64 ((i+1:Nat):Int))] →
    N ⟨e,[.cells (ivs pp),.cells [.osl none 0 0 n],.cells [.sl (condsR v)],.cells [.bool ch]]++post⟩:=fun e post h he=>by
   have hb:=skip h
   exact fin e post pp ch (by rw [hs,if_neg (by rw [hb]; decide)]) (by rw [hany,hb,Bool.or_false]) he
  by_cases k1:x.kind=1
  ·have hgx:gnAV x = .ifc 129 (.agg [.sl (ivs (nv x.to))]):=by unfold gnAV; rw [if_pos k1]
   rw [hgx]
   by_cases hw1:who=1
   ·subst hw1
    have hw:((1:Nat):Int)=1:=rfl
    simp only [go_sem,Zjr,Zif,Zrw,hw,List.cons_append,List.nil_append]
    have hb:bet1 g v 1 p i=decide (cmpR (rget v (x.to.getD (bestA v x.to 1) 0)) (rget v (x.to.getD (pget p i) 0))=1):=by rw [hb1,decide_eq_true k1]; rfl
    refine Ze1 (ht 1 _ (bet1 g v 1 p i) hb) ?_
    simp only [go_sem,Zbp,e1]
    exact fin _ [_] _ _ (by rw [hs]; rfl) (by rw [hany,Bool.or_comm]) (by simp only [go_sem]; rfl)
   ·have hw1':¬ ((who:Nat):Int)=1:=by omega
    simp only [go_sem,Zjr,Zif,hw1',Zbp,e1,List.cons_append,List.nil_append]
    exact hsk _ [_] (by omega) (by simp only [go_sem])
  ·by_cases k2:x.kind=2
   ·have hgx:gnAV x = .ifc 131 (.agg [.sl (ivs (nv x.to))]):=by unfold gnAV; rw [if_neg k1,if_pos k2]
    rw [hgx]
    by_cases hw1:who=2
    ·subst hw1
     have hw:((2:Nat):Int)=2:=rfl
     simp only [go_sem,Zef,Zh4,Zh6,Zq9,hw,List.cons_append,List.nil_append]
     have hb:bet1 g v 2 p i=decide (cmpR (rget v (x.to.getD (bestA v x.to (-1)) 0)) (rget v (x.to.getD (pget p i) 0)) = -1):=by rw [hb1,decide_eq_true k2]; rfl
     refine Ze1 (ht (-1) _ (bet1 g v 2 p i) hb) ?_
     simp only [go_sem,Zbp,e1]
     exact fin _ [_] _ _ (by rw [hs]; rfl) (by rw [hany,Bool.or_comm]) (by simp only [go_sem]; rfl)
    ·have hw1':¬ ((who:Nat):Int)=2:=by omega
     simp only [go_sem,Zef,Zh4,Zh6,hw1',Zbp,e1,List.cons_append,List.nil_append]
     exact hsk _ [_] (by omega) (by simp only [go_sem])
   ·have hgx:gnAV x = .ifc 140 (.agg [.sl (ivs (nv x.to)),.sl (condsR x.odds)]):=by unfold gnAV; rw [if_neg k1,if_neg k2]
    rw [hgx]
    simp only [go_sem,Zef,Zbp,e1]
    exact hsk _ [] (by omega) (by simp only [go_sem])
 ·have hie:i=n:=by omega
  subst hie
  have q1:¬ ((i:Nat):Int)<(i:Int):=by omega
  simp only [go_sem,Zkv,q1]
  have h1:betU g v who p i=betP g v who p:=by rw [hn,Xf5]
  have h2:(List.range i).any (bet1 g v who p)=betC g v who p:=by unfold betC; rw [hn]
  rw [h1,h2]
  exact hK _ (by simp only [go_sem])
end GoAbs
namespace GoAbs
open Go Go.Proofs
set_option maxHeartbeats 8000000
theorem Yiw {p:List Int}:PureH [Blk.cells (ivs p)]:=fun f=>by
 show [Blk.cells (gcL f (ivs p))]=_
 rw [Ywq]
theorem Yd6 {g:Gm}{v:List Rat}{who n k:Nat}{p:List Int}(hv:Rb k v) (hk:2*k+1≤1000000000000) (hvl:v.length=n) (hg:GmOk g) (hp:POk0 g p) (hn:n=g.nodes.length) (hw:who=1∨who=2) :
  SpecR Tryz.prog Yig [.cells (ivs p)] [.rp (gmC g),.osl none 0 0 n,.sl (condsR v),.int .i64 (who:Int)] (.bool (betC g v who p)) [.cells (ivs (betP g v who p))]:=by
 have gd0:(gmC g)[0]? = some (.sl (g.nodes.map gnAV)):=rfl
 refine Z4g Yfx (by simp) (Za0 2 rfl ?_)
 unfold Z8n
 obtain ⟨gc,hgc⟩:∃ gc,gc=gmC g:=⟨_,rfl⟩
 rw [← hgc] at gd0 ⊢
 simp only [go_sem,Zw1,Zve,Zwa]
 refine Zav (Zav (T_W ?_))
 simp only [go_sem,Zwb,gd0,List.length_map]
 rw [← hn]
 refine Zaw (Zas [(3,.int .i64 (who:Int)),(9,.ptr 3 0),(10,.fn 130 [] [.ptr 2 0,.ptr 1 0,.ptr 3 0]),(19,.sl (g.nodes.map gnAV)),(20,.int .i64 (n:Int)),(21,.int .i64 0)] (by simp only [go_sem])
  (Yzi hv hk hvl hg hp hn hw (fun e k9=>?_)))
 show T Tryz.prog 49 1 (.seq (.rg false Zh8) .ret) _ _
 refine T_W ?_
 simp only [go_sem,Zh8,k9]
 exact ⟨rfl,_,Zgl (K := [.cells (ivs (betP g v who p))]) (post := [_,_,_]) (m:=1) rfl (Yiw _) (Nat.le_refl _) [] trivial (fun p hp=>by simp at hp),rfl⟩
theorem Yyk {g:Gm}{v:List Rat}{who:Nat}{p:List Int}(hp:p.length=g.nodes.length) (h:betC g v who p=false):betP g v who p=p:=by
 refine List.ext_getElem? (fun j=>?_)
 by_cases hj:j<g.nodes.length
 ·unfold betP
  rw [List.getElem?_map,List.getElem?_range hj]
  show some (betI g v who p j)=_
  unfold betI
  rw [if_neg (by rw [nobetter h hj]; decide),List.getD_eq_getElem?_getD,List.getElem?_eq_getElem (by omega)]; rfl
 ·rw [List.getElem?_eq_none (by unfold betP; rw [List.length_map,List.length_range]; omega),List.getElem?_eq_none (by omega)]
theorem pval {g:Gm}(hg:GmP g):∀ q,POk0 g q→PVal g q (valP g q):=fun q hq=>Yje hg hq.ok
theorem Yey {g:Gm}{p q r:List Int}(h:Same1 g p q) (k:Same1 g q r):Same1 g p r:=fun i hi h1=>(h i hi h1).trans (k i hi h1)
theorem Y51 {g:Gm}(hg:GmP g):POk0 g (List.replicate g.nodes.length 0):=by
 refine ⟨List.length_replicate,fun i hi=>?_⟩
 have:=(hg.ok.node _ (Zb4 hi)).pos
 have e:(List.replicate g.nodes.length (0:Int)).getD i 0=0:=by rw [List.getD_eq_getElem?_getD,List.getElem?_replicate]; split <;> rfl
 rw [e]
 omega
theorem out0 {g:Gm}(hg:GmP g):OutI g (valP g) (none,List.replicate g.nodes.length 0):=⟨Y51 hg,fun q _ _ => .inr trivial⟩
theorem Yyz {g:Gm}(hg:GmP g):∀ (m:Nat) {p:List Int},POk0 g p→mIn g (valP g) p<m→∃ q,POk0 g q∧Same1 g q p∧betC g (valP g q) 2 q=false
 | 0,_,_,h=>absurd h (by omega)
 | m+1,p,hp,h=>by
  cases hc:betC g (valP g p) 2 p with
  | false=>exact ⟨p,hp,fun _ _ _=>rfl,hc⟩
  | true =>
   have h1:=Xgk hg (pval hg) hp hc
   obtain ⟨q,h2,h3,h4⟩:=Yyz hg m (Ydq hg (v:=valP g p) (who:=2) hp) (by omega)
   exact ⟨q,h2,Yey h3 Z7s,h4⟩
theorem Yrx {g:Gm}(hg:GmP g):∀ (m:Nat) {s:Option (List Rat)×List Int},OutI g (valP g) s→mOut g (valP g) s<m→∃ q,POk0 g q∧betC g (valP g q) 1 q=false∧betC g (valP g q) 2 q=false
 | 0,_,_,h=>absurd h (by omega)
 | m+1,s,hs,h=>by
  obtain ⟨q,h1,h2,h3⟩:=Yyz hg _ hs.1 (Nat.lt_succ_self _)
  cases hc:betC g (valP g q) 1 q with
  | false=>exact ⟨q,h1,hc,h3⟩
  | true =>
   obtain ⟨h4,h5⟩:=Y8h hg (pval hg) hs h1 h2 h3 hc
   exact Yrx hg m h4 (by omega)
theorem Ybr {g:Gm}(hg:GmP g):∃ q,POk0 g q∧betC g (valP g q) 1 q=false∧betC g (valP g q) 2 q=false:=Yrx hg _ (out0 hg) (Nat.lt_succ_self _)
open Classical in
noncomputable def valG (g:Gm):List Rat:=if h:GmP g then valP g (Ybr h).choose else []
theorem Yet {g:Gm}(hg:GmP g):∃ q,POk0 g q∧valG g=valP g q:=by
 unfold valG
 rw [dif_pos hg]
 exact ⟨_,(Ybr hg).choose_spec.1,rfl⟩
theorem Z3b {g:Gm}(hg:GmP g):(valG g).length=g.nodes.length:=by
 obtain ⟨q,h1,h2⟩:=Yet hg
 rw [h2,(pval hg q h1).1]
theorem Ylv {g:Gm}(hg:GmP g):∀ i,i<g.nodes.length→rget (valG g) i=nextV g (valG g) i:=by
 unfold valG
 rw [dif_pos hg]
 obtain ⟨h1,h2,h3⟩:=(Ybr hg).choose_spec
 exact Ytr hg h1 (pval hg _ h1) h2 h3
theorem Ynw {g:Gm}(hg:GmP g) {v:List Rat}(hl:v.length=g.nodes.length) (h:∀ i,i<g.nodes.length→rget v i=nextV g v i):v=valG g :=
 Z9n (by rw [hl,Z3b hg]) (fun i hi=>(Y95 hg).uniq hg.d1 h (Ylv hg) i (by rw [Z3b hg] at hi; exact hi))
theorem Y34 {g:Gm}(hg:GmP g) {p:List Int}(hp:POk0 g p) (h1:betC g (valP g p) 1 p=false) (h2:betC g (valP g p) 2 p=false):valP g p=valG g :=
 Ynw hg (pval hg p hp).1 (Ytr hg hp (pval hg p hp) h1 h2)
theorem Y6t {g:Gm}{n:Nat}{p0:List Int}(hg:GmP g) (hn:n=g.nodes.length) (hn1:1≤n) (hn5:n≤5) (hp0:POk0 g p0) {K:Ex→St→Prop}
  (hK:∀ (q:List Int) (e:Nat→AV),POk0 g q→Same1 g q p0→betC g (valP g q) 2 q=false→e 0 = .rp (gmC g)→e 3 = .osl none 0 0 n→e 4 = .sl (condsR (valP g q))→K (.exit 2) ⟨e,[.cells (ivs q)]⟩) :
  T Tryz.prog 27 0 (.loop Zmu) ⟨envL [(0,.rp (gmC g)),(3,.osl none 0 0 n),(4,.sl (condsR (valP g p0)))],[.cells (ivs p0)]⟩ K:=by
 refine Zae (fun p:List Int=>⟨envL [(0,.rp (gmC g)),(3,.osl none 0 0 n),(4,.sl (condsR (valP g p)))],[.cells (ivs p)]⟩)
  (fun p=>POk0 g p∧Same1 g p p0) (fun p=>mIn g (valP g) p) p0 ⟨hp0,fun _ _ _=>rfl⟩ (Zab _ (by simp only [go_sem])) (fun p hI N hN=>?_)
 obtain ⟨hp,hsm⟩:=hI
 unfold Zmu
 have hvl:=(pval hg p hp).1
 have hrb:=(Zxd hg hp.ok (by omega)).2.2.2.2
 have hbt:=Yd6 (who:=2) hrb (by omega) (by rw [hvl,hn]) hg.ok hp hn (.inr rfl)
 have hq:=Ydq hg (v:=valP g p) (who:=2) hp
 simp only [go_sem,Zy2]
 refine Ze1 hbt ?_
 cases hc:betC g (valP g p) 2 p with
 | true =>
  have hpl:=Ygv (pre := [.cells (ivs (betP g (valP g p) 2 p))]) (o:=1) (p:=betP g (valP g p) 2 p) (pl := .osl none 0 0 n) rfl Yiw (by omega) (fun m hm=>by simp only [AV.gc,Zbk (show 0<m by omega)]) (.inr ⟨by rw [hn],fun X=>rfl⟩) hg hq.ok (by omega) (by omega)
  simp only [go_sem,Z0c]
  refine Ze1 hpl ?_
  simp only [go_sem]
  exact hN (betP g (valP g p) 2 p) _ ⟨hq,Yey Z7s hsm⟩ (Xgk hg (pval hg) hp hc) (Zab _ (by simp only [go_sem]))
 | false =>
  rw [Yyk hp.1 hc]
  simp only [go_sem]
  exact hK p _ hp hsm hc (by simp only [go_sem]) (by simp only [go_sem]) (by simp only [go_sem])
theorem Yhf {g:Gm}(hg:GmP g) (hn1:1≤g.nodes.length) (hn5:g.nodes.length≤5):SpecV Tryz.prog Ynd [.rp (gmC g)] (.sl (condsR (valG g))):=by
 obtain ⟨n,hn⟩:∃ n,n=g.nodes.length:=⟨_,rfl⟩
 have gd0:(gmC g)[0]? = some (.sl (g.nodes.map gnAV)):=rfl
 refine Zat Ykm (by simp) (Za0 1 rfl ?_)
 unfold Yd7
 obtain ⟨gc,hgc⟩:∃ gc,gc=gmC g:=⟨_,rfl⟩
 have hsz:(8:Int)*(n:Int)≤281474976710656:=by omega
 have z0:(0:Int)≤(n:Int):=by omega
 rw [← hgc] at gd0 ⊢
 simp only [go_sem,Zy7,Zyk,gd0,List.length_map]
 rw [← hn]
 simp only [go_sem,hsz,z0,Int.le_refl]
 refine ⟨by omega,?_⟩
 have hzr:(List.replicate n [AV.int .i64 0]).flatten=ivs (List.replicate n 0):=by
  unfold ivs
  rw [List.map_replicate]
  clear hn hsz z0 gd0 hgc
  induction n with
  | zero=>rfl
  | succ n ih=>rw [List.replicate_succ,List.flatten_cons,ih,List.replicate_succ]; rfl
 rw [hzr,hgc]
 have h0:=out0 hg
 rw [← hn] at h0
 refine Zaw (Zfq (fun s:Option (List Rat)×List Int=>⟨envL [(0,.rp (gmC g)),(3,.osl none 0 0 n)],[.cells (ivs s.2)]⟩)
  (fun s=>OutI g (valP g) s) (fun s=>mOut g (valP g) s) (none,List.replicate n 0) h0 (Zab _ (by simp only [go_sem])) (fun s hs N hN=>?_))
 obtain ⟨u,p⟩:=s
 have hp:POk0 g p:=hs.1
 have hpl:=Ygv (pre := [.cells (ivs p)]) (o:=1) (p:=p) (pl := .osl none 0 0 n) rfl Yiw (by omega) (fun m hm=>by simp only [AV.gc,Zbk (show 0<m by omega)]) (.inr ⟨by rw [hn],fun X=>rfl⟩) hg hp.ok (by omega) (by omega)
 unfold Zzl
 refine Zaw (Za0 0 rfl ?_)
 simp only [go_sem,Zym]
 refine Ze1 hpl ?_
 simp only [go_sem]
 refine Zav (Zaw (Zas [(0,.rp (gmC g)),(3,.osl none 0 0 n),(4,.sl (condsR (valP g p)))] (by simp only [go_sem]) (Y6t hg hn (by omega) (by omega) hp (fun q e hq hsm h2 k0 k3 k4=>?_))))
 show T Tryz.prog 27 0 (.seq (.rg false Zmm) (.cond (.t 25) (.seq (.rg false Zme) .ret) .skip)) _ _
 have hvl:=(pval hg q hq).1
 have hrb:=(Zxd hg hq.ok (by omega)).2.2.2.2
 have hbt:=Yd6 (who:=1) hrb (by omega) (by rw [hvl,hn]) hg.ok hq hn (.inl rfl)
 refine T_W ?_
 simp only [go_sem,Zmm,k0,k3,k4]
 refine Ze1 hbt ?_
 cases hc:betC g (valP g q) 1 q with
 | true =>
  obtain ⟨h4,h5⟩:=Y8h hg (pval hg) hs hq hsm h2 hc
  simp only [go_sem]
  exact hN (some (valP g q),betP g (valP g q) 1 q) _ h4 h5 (Zab _ (by simp only [go_sem,k0,k3]))
 | false =>
  rw [← Y34 hg hq hc h2]
  simp only [go_sem,Zme,k4]
end GoAbs
namespace GoAbs
open Go Go.Proofs
set_option maxHeartbeats 8000000
structure GIn (L:List Nd) (d:List UInt8):Prop where
 len:L.length≤5∨L.length=11
 d:d.length≤23
 ok:∀ n,n∈L→n.rew.length≤23∧n.mv.length≤7∧∀ m,m∈n.mv→m.2.length≤23
theorem GIn.le {L:List Nd}{d:List UInt8}(h:GIn L d):L.length≤11:=by have:=h.len; omega
def eC (L:List Nd) (d:List UInt8):Int:=if (L.all ndVa && okB d)=false then 2 else if gFit L d=false then 1 else 0
theorem Xd1 {L:List Nd}{d:List UInt8}:chkC L d []=eC L d:=by
 unfold chkC eC
 rw [show (okB d && ([]:List (List UInt8)).all okB && L.all ndVa)=(L.all ndVa && okB d) by simp [Bool.and_comm]]
theorem Zpp {L:List Nd}{d:List UInt8}(h:GIn L d) :
  (eC L d≠0∧SpecV Tryz.prog Zqp [.sl (L.map ndAV),.str (bs d)] (.tup [.nilp,.int .i64 (eC L d)])) ∨
  (eC L d=0∧SpecV Tryz.prog Zqp [.sl (L.map ndAV),.str (bs d)] (.tup [.rp (gmC (toGm L d)),.int .i64 0])∧GmP (toGm L d)∧(toGm L d).nodes.length=L.length∧1≤L.length∧L.length≤5):=by
 have hs:=Yut (L:=L) (d:=d) (by have:=h.le; omega) h.d h.ok
 unfold gmR at hs
 unfold eC
 by_cases h1:(L.all ndVa && okB d)=false
 ·rw [if_pos h1] at hs ⊢
  exact .inl ⟨by decide,hs⟩
 ·rw [if_neg h1] at hs ⊢
  by_cases h2:gFit L d=false
  ·rw [if_pos h2] at hs ⊢
   exact .inl ⟨by decide,hs⟩
  ·rw [if_neg h2] at hs ⊢
   obtain ⟨g1,g2⟩:=Xil (by simpa using h1) (by simpa using h2) h.d h.ok
   rw [g1] at hs
   refine .inr ⟨rfl,hs,g2,by unfold toGm; rw [List.length_map],?_⟩
   have h3:gFit L d=true:=by simpa using h2
   unfold gFit at h3
   simp only [Bool.and_eq_true,decide_eq_true_eq] at h3
   have:=h.len
   omega
theorem Xej {k:Nat}{v:List Rat}(h:Rb k v) (hk:k≤300000000000):∀ q,q∈v→Tx q.num.natAbs∧Tx q.den:=fun q hq=>⟨Z58 (h q hq).n hk,Z58 (h q hq).d hk⟩
theorem Y0e {g:Gm}(hg:GmP g) (hn5:g.nodes.length≤5):Rb 2000000000 (valG g):=by
 obtain ⟨q,h1,h2⟩:=Yet hg
 rw [h2]
 exact (Zxd hg h1.ok hn5).2.2.2.2
theorem wvalue {L:List Nd}{d:List UInt8}(h:GIn L d):SpecV Tryz.prog Ym1 [.sl (L.map ndAV),.str (bs d)] (if eC L d=0 then numsR (valG (toGm L d)) else .tup [.nils,.int .i64 (eC L d)]):=by
 rcases Zpp h with ⟨h1,hs⟩ | ⟨h1,hs,hg,hn,hn1,hn5⟩
 ·rw [if_neg h1]
  refine Zaf Z5b (by simp) ?_
  unfold Z01
  simp only [go_sem,Zl1,Zmq]
  refine Zaa hs (by simp only [go_sem]) ?_
  simp only [go_sem,Zmn,Zyi,h1]
 ·rw [if_pos h1]
  have hv:=Yhf hg (by omega) (by omega)
  have hm:=Ym3 (Xej (Y0e hg (by omega)) (by omega)) (by rw [Z3b hg]; omega)
  refine Zaf Z5b (by simp) ?_
  unfold Z01
  simp only [go_sem,Zl1,Zmq]
  refine Zaa hs (by simp only [go_sem]) ?_
  simp only [go_sem,Zmn,Zx6]
  refine Zaa hv (by simp only [go_sem]) ?_
  simp only [go_sem]
  refine Zaa hm (by simp only [go_sem]) ?_
  by_cases hN:∀ q,q∈valG (toGm L d)→NumOk q
  ·rw [show numsR (valG (toGm L d)) = .tup [.sl (ss (valG (toGm L d))),.int .i64 0] from if_pos hN]
   simp only [go_sem]
  ·rw [show numsR (valG (toGm L d)) = .tup [.nils,.int .i64 4] from if_neg hN]
   simp only [go_sem]
def bestP (g:Gm) (v:List Rat) (i:Nat):Int:=if (nodeAt g i).kind=1 then (bestA v (nodeAt g i).to 1:Int) else if (nodeAt g i).kind=2 then (bestA v (nodeAt g i).to (-1):Int) else -1
def bestL (g:Gm) (v:List Rat):List Int:=(List.range g.nodes.length).map (bestP g v)
theorem Xb7 {g:Gm}{v:List Rat}{n k:Nat}(hv:Rb k v) (hk:2*k+1≤1000000000000) (hvl:v.length=n) (hg:GmOk g) (hn:n=g.nodes.length) {K:Ex→St→Prop}
  (hK:∀ e:Nat→AV,e 9 = .osl none 0 0 n→K (.exit 0) ⟨e,[.cells (ivs (bestL g v))]⟩) :
  T Tryz.prog 56 0 (.loop Zph) ⟨envL [(8,.sl (condsR v)),(9,.osl none 0 0 0),(29,.sl (g.nodes.map gnAV)),(30,.int .i64 (n:Int)),(31,.int .i64 0)],[.cells []]⟩ K:=by
 have hmx:Tryz.prog.follows .mixedOrders=true:=by kernel_rfl
 have hnl:=hg.n
 have hbl:(bestL g v).length=n:=by unfold bestL; rw [List.length_map,List.length_range,hn]
 refine Zae (fun i:Nat=>⟨envL [(8,.sl (condsR v)),(9,.osl none 0 0 i),(29,.sl (g.nodes.map gnAV)),(30,.int .i64 (n:Int)),(31,.int .i64 (i:Int))],[.cells (ivs ((bestL g v).take i))]⟩)
  (fun i=>i≤n) (fun i=>n - i) 0 (by omega) (Zab _ (by simp only [go_sem]; simp)) (fun i hi N hN=>?_)
 unfold Zph
 by_cases hin:i<n
 ·have hig:i<g.nodes.length:=by omega
  obtain ⟨x,hx⟩:∃ x,g.nodes[i]? = some x:=⟨_,List.getElem?_eq_getElem hig⟩
  have hxa:nodeAt g i=x:=by unfold nodeAt; rw [List.getD_eq_getElem?_getD,hx]; rfl
  have hxg:(g.nodes.map gnAV)[i]? = some (gnAV x):=by rw [List.getElem?_map,hx]; rfl
  have hok:=hg.node x (List.mem_of_getElem? hx)
  have hlen:=hok.len
  have hb:=fun sg=>Z4v (sg:=sg) (to:=x.to) hv hk (fun y hy=>by rw [hvl,hn]; exact hok.lt y hy) hok.pos (by omega) (by omega)
  have hnx:(bestL g v)[i]? = some (bestP g v i):=by unfold bestL; rw [List.getElem?_map,List.getElem?_range hig]; rfl
  have hbp:bestP g v i=if x.kind=1 then (bestA v x.to 1:Int) else if x.kind=2 then (bestA v x.to (-1):Int) else -1:=by unfold bestP; rw [hxa]
  have tk:ivs ((bestL g v).take (i+1))=ivs ((bestL g v).take i) ++ [.int .i64 (bestP g v i)]:=by rw [List.take_add_one,hnx]; simp [ivs]
  have l1:(ivs ((bestL g v).take i)).length=i:=by rw [Zbn,List.length_take]; omega
  have l2:(ivs ((bestL g v).take i)).take i=ivs ((bestL g v).take i):=List.take_of_length_le (by omega)
  have q0:(0:Int)≤(i:Int):=by omega
  have q1:(i:Int)<(n:Int):=by omega
  have s1:(i+1)*8≤1099511627776:=by omega
  have e1:IntKind.i64.wrap ((i:Int)+1)=((i+1:Nat):Int):=by rw [Zac (by omega) (by omega)]; omega
  have xc:(gnAV x).cells = [gnAV x]:=by unfold gnAV; split; rfl; split <;> rfl
  have fin:∀ (e:Nat→AV) (K:Heap) (z:Int) (b:Nat),z=bestP g v i→K.length=b→Has e [(8,.sl (condsR v)),(9,.osl none b 0 (i+1)),(29,.sl (g.nodes.map gnAV)),(30,.int .i64 (n:Int)),(31,.int .i64 ((i+1:Nat):Int))] →
    N ⟨e,K ++ [.cells (ivs ((bestL g v).take i) ++ [.int .i64 z])]⟩:=fun e K z b hz hb he=>by
   subst hz
   refine hN (i+1) _ (by omega) (by omega) (Zb0 (Zh0 [b] (by simp) (fun i hi=>by omega) [(8,.sl (condsR v)),(9,.osl none b 0 (i+1)),(29,.sl (g.nodes.map gnAV)),(30,.int .i64 (n:Int)),(31,.int .i64 ((i+1:Nat):Int))] he) ?_)
   rw [← tk]
   have hg:(K ++ [Blk.cells (ivs ((bestL g v).take (i+1)))]).getD b .dead = .cells (ivs ((bestL g v).take (i+1))):=by
    rw [List.getD_eq_getElem?_getD,List.getElem?_append_right (by omega),hb,Nat.sub_self]; rfl
   simp only [List.map_cons,List.map_nil,hg,Blk.gc,Ywq,AV.gc]
   simp [pos]
  generalize ivs ((bestL g v).take i)=cs at *
  by_cases k1:x.kind=1
  ·have hgx:gnAV x = .ifc 129 (.agg [.sl (ivs (nv x.to))]):=by unfold gnAV; rw [if_pos k1]
   rw [if_pos k1] at hbp
   rw [hgx] at hxg xc
   simp only [go_sem,Ze3,Zi7,Zg1,Zhb,Zg5,Zzy,Zzx,q0,q1,hxg,xc,List.length_map,List.cons_append,List.nil_append]
   refine Zaa (hb 1) (by simp only [go_sem]) ?_
   simp only [go_sem,Zgs,Zg3,s1,l1,l2,e1,Nat.mul_one,Nat.le_refl]
   exact fin _ [_,_,_] _ 3 hbp.symm rfl (by simp only [go_sem])
  ·by_cases k2:x.kind=2
   ·have hgx:gnAV x = .ifc 131 (.agg [.sl (ivs (nv x.to))]):=by unfold gnAV; rw [if_neg k1,if_pos k2]
    rw [if_neg k1,if_pos k2] at hbp
    rw [hgx] at hxg xc
    simp only [go_sem,Ze3,Zi7,Zg1,Zhb,Zg5,Zmz,Zyz,Zxs,q0,q1,hxg,xc,List.length_map,List.cons_append,List.nil_append]
    refine Zaa (hb (-1)) (by simp only [go_sem]) ?_
    simp only [go_sem,Zgs,Zg3,s1,l1,l2,e1,Nat.mul_one,Nat.le_refl]
    exact fin _ [_,_,_] _ 3 hbp.symm rfl (by simp only [go_sem])
   ·have hgx:gnAV x = .ifc 140 (.agg [.sl (ivs (nv x.to)),.sl (condsR x.odds)]):=by unfold gnAV; rw [if_neg k1,if_neg k2]
    rw [if_neg k1,if_neg k2] at hbp
    rw [hgx] at hxg xc
    simp only [go_sem,Ze3,Zi7,Zg1,Zhb,Zg5,Zmz,Zgs,Zg3,q0,q1,hxg,xc,List.length_map,s1,l1,l2,e1,Nat.mul_one,Nat.le_refl]
    exact fin _ [_,_] _ 2 hbp.symm rfl (by simp only [go_sem])
 ·have hie:i=n:=by omega
  subst hie
  have q1:¬ ((i:Nat):Int)<(i:Int):=by omega
  simp only [go_sem,Ze3,q1]
  rw [List.take_of_length_le (by omega)]
  exact hK _ (by simp only [go_sem])
theorem wbest {L:List Nd}{d:List UInt8}(h:GIn L d):SpecV Tryz.prog Yp4 [.sl (L.map ndAV),.str (bs d)] (if eC L d=0 then .tup [.sl (ivs (bestL (toGm L d) (valG (toGm L d)))),.int .i64 0] else .tup [.nils,.int .i64 (eC L d)]):=by
 rcases Zpp h with ⟨h1,hs⟩ | ⟨h1,hs,hg,hn,hn1,hn5⟩
 ·rw [if_neg h1]
  refine Zat Z7h (by simp) (Za0 2 rfl ?_)
  unfold Z64
  simp only [go_sem,Zox,Zqm]
  refine Zaa hs (by simp only [go_sem]) ?_
  simp only [go_sem,Zo4,Z2n,h1]
 ·rw [if_pos h1]
  have hv:=Yhf hg (by omega) (by omega)
  have hrb:=Y0e hg (by omega)
  have hvl:=Z3b hg
  generalize valG (toGm L d)=v at *
  generalize toGm L d=g at *
  obtain ⟨n,hn'⟩:∃ n,n=g.nodes.length:=⟨_,rfl⟩
  have gd0:(gmC g)[0]? = some (.sl (g.nodes.map gnAV)):=rfl
  refine Zat Z7h (by simp) (Za0 4 rfl ?_)
  unfold Z64
  obtain ⟨gc,hgc⟩:∃ gc,gc=gmC g:=⟨_,rfl⟩
  rw [← hgc] at gd0 hs hv
  simp only [go_sem,Zox,Zqm]
  refine Zaa hs (by simp only [go_sem]) ?_
  simp only [go_sem,Zo4,Z5p]
  refine Zaa hv (by simp only [go_sem]) ?_
  simp only [go_sem,Z2g]
  refine T_le (Zgg 9 none (by simp only [go_sem]) [(6,.rp gc),(8,.sl (condsR v))] (by simp only [go_sem])) ?_
  refine Zav (Zav (T_W ?_))
  simp only [go_sem,Z5w,gd0,List.length_map]
  rw [← hn']
  refine Zaw (Zas [(8,.sl (condsR v)),(9,.osl none 0 0 0),(29,.sl (g.nodes.map gnAV)),(30,.int .i64 (n:Int)),(31,.int .i64 0)] (by simp only [go_sem]) (Xb7 hrb (by omega) (by omega) hg.ok hn' (fun e k9=>?_)))
  show T Tryz.prog 56 0 (.seq (.rg false Zmw) .ret) _ _
  refine T_W ?_
  simp only [go_sem,Zmw,k9]
  have hbl:(bestL g v).length=n:=by unfold bestL; rw [List.length_map,List.length_range,hn']
  rw [← hbl]
  exact Y0c rfl (by simp [allOf])
end GoAbs
namespace GoAbs
open Go Go.Proofs
set_option maxHeartbeats 4000000
theorem Yoe {a f b:Rat}{k:Nat}(ha:Qb k a) (hf:Qb k f) (hb:Qb k b) (hk1:1≤k) (hk:k≤200000) :
  ∃ X Y,SpecV Tryz.prog Yhu [.agg (rq f),.agg (rq b)] (.agg X)∧(∀ H ids,BVs H ids X X=True)∧SpecV Tryz.prog Z61 [.agg (rq a),.agg X] (.agg Y)∧(∀ H ids,BVs H ids Y Y=True)∧SpecV Tryz.prog Zti [.agg Y] (.agg (rq (a+f*b))):=by
 have da:=a.den_pos
 have df:=f.den_pos
 have db:=b.den_pos
 have i1:Ib (2*k) (f.num*b.num):=(hf.ib.1.mul hb.ib.1).mono (by omega)
 have i2:Ib (2*k) ((f.den:Int)*b.den):=(hf.ib.2.mul hb.ib.2).mono (by omega)
 have h1:=rmulq (k:=k) hf.ib.1 hf.ib.2 hb.ib.1 hb.ib.2 (by omega)
 have h2:=raddq (k:=2*k) (ha.ib.1.mono (by omega)) (ha.ib.2.mono (by omega)) i1 i2 (by omega)
 have hd:(0:Int)<(f.den:Int)*b.den:=Int.mul_pos (by omega) (by omega)
 have e:Rat.divInt (a.num*((f.den:Int)*b.den)+f.num*b.num*a.den) ((a.den:Int)*((f.den:Int)*b.den))=a+f*b :=
  Xga (q:=a) (w:=f*b) (by omega) (by rw [← Rat.divInt_mul_divInt,Rat.num_divInt_den,Rat.num_divInt_den])
 have h3:=rlow (k:=3*k+1) (n:=a.num*((f.den:Int)*b.den)+f.num*b.num*a.den) (d:=(a.den:Int)*((f.den:Int)*b.den))
  (Ib.add (k:=3*k) ((ha.ib.1.mul i2).mono (by omega)) ((i1.mul ha.ib.2).mono (by omega))) ((ha.ib.2.mul i2).mono (by omega)) (Int.mul_pos (by omega) hd) (by omega)
 rw [e] at h3
 exact ⟨_,_,h1,fun H ids=>Ymq,h2,fun H ids=>Ymq,h3⟩
structure NdG (N:Nat) (n:Nd):Prop where
 ok:GnOk N (toGN n)
 kind:n.kind=((toGN n).kind:Int)
 len:n.mv.length=(toGN n).to.length
 to:∀ k m,n.mv[k]? = some m→m.1=((toGN n).to.getD k 0:Int)∧m.2.length≤23∧((toGN n).kind=3→parseL m.2=some (rget (toGN n).odds k))
 rew:n.rew.length≤23
 rq:parseL n.rew=some ((parseL n.rew).getD 0)∧Fitd 12 ((parseL n.rew).getD 0)
theorem Xf9 {N:Nat}{n:Nd}(hv:ndVa n=true) (hf:ndFi N n=true) (hl:n.rew.length≤23∧n.mv.length≤7∧∀ m,m∈n.mv→m.2.length≤23):NdG N n:=by
 have hok:=(Xdl hv hf hl).2.1
 unfold ndVa at hv
 rw [Bool.and_eq_true] at hv
 unfold ndFi at hf
 simp only [Bool.and_eq_true,decide_eq_true_eq] at hf
 obtain ⟨⟨⟨f1,f2⟩,f3⟩,f4⟩:=hf
 have hk:n.kind=1∨n.kind=2∨n.kind=3:=by
  unfold kindF at f4
  simp only [Bool.or_eq_true,Bool.and_eq_true,decide_eq_true_eq] at f4
  omega
 have hkk:n.kind=((toGN n).kind:Int):=by show n.kind=(n.kind.toNat:Int); omega
 have hm:∀ m,m∈n.mv→0≤m.1∧(!m.2.isEmpty)=decide (n.kind=3)∧(m.2.isEmpty=false→okB m.2=true):=fun m hmm=>by
  have a:=List.all_eq_true.1 f2 m hmm
  have b:=List.all_eq_true.1 hv.2 m hmm
  unfold mvFit mvFit1 at a
  simp only [Bool.and_eq_true,decide_eq_true_eq,beq_iff_eq,Bool.or_eq_true] at a b
  refine ⟨a.1.1.1,a.1.2,fun he=>?_⟩
  rcases b with b | b
  ·rw [b] at he; exact absurd he (by decide)
  ·exact b
 refine ⟨hok,hkk,by show _=(n.mv.map _).length; rw [List.length_map],fun k m hkm=>?_,hl.1,okBq hv.1,Z6y f1⟩
 have hmm:=List.mem_of_getElem? hkm
 obtain ⟨a1,a2,a3⟩:=hm m hmm
 refine ⟨?_,hl.2.2 m hmm,fun h3=>?_⟩
 ·show m.1=(((n.mv.map (·.1.toNat)).getD k 0:Nat):Int)
  rw [List.getD_eq_getElem?_getD,List.getElem?_map,hkm]
  show m.1=((m.1.toNat:Nat):Int)
  omega
 ·have h3':n.kind=3:=by omega
  have hfl:n.mv.filter hasO=n.mv:=List.filter_eq_self.2 fun m hmm=>by
   have:=(hm m hmm).2.1
   rw [h3'] at this
   unfold hasO
   rw [this]; rfl
  have he:m.2.isEmpty=false:=by rw [h3'] at a2; simpa using a2
  have:rget (toGN n).odds k=(parseL m.2).getD 0:=by
   show rget ((n.mv.filter hasO).map _) k=_
   rw [hfl]
   unfold rget
   rw [List.getD_eq_getElem?_getD,List.getElem?_map,hkm]; rfl
  rw [this]
  exact okBq (a3 he)
def nxB (x:GN) (v:List Rat) (k:Nat):Rat:=if x.kind=3 then dotW x.odds v x.to k else rget v (x.to.getD (bestG v x.to (if x.kind=1 then 1 else -1) k) 0)
theorem Xcs {N:Nat}{x:GN}{v:List Rat}(h:GnOk N x):nxB x v x.to.length=worthR x v:=by
 unfold nxB worthR bestA
 rcases h.kind with k | k | k <;> simp [k]
theorem Y6e {N k:Nat}{x:GN}{v:List Rat}(hx:GnOk N x) (hv:Rb k v) (hl:v.length=N) {i:Nat}(hi:i≤x.to.length):Qb (6*k+250) (nxB x v i):=by
 unfold nxB
 split
 ·rename_i h3
  obtain ⟨o1,o2⟩:=hx.odds h3
  refine (Z4o hv o2 (fun y hy=>by rw [hl]; exact hx.lt y hy) o1 i hi).mono ?_
  have h1:=hx.len
  have h2:=Nat.mul_le_mul_right (k+40+1) (show i≤6 by omega)
  omega
 ·have hb:=Ze9 (v:=v) (sg:=if x.kind=1 then 1 else -1) hx.pos hi
  exact (hv.get (by rw [hl]; exact hx.lt _ (Zbl hb))).mono (by omega)
theorem Z5t {v:List Rat}{j:Nat}(h:j<v.length):(v.map fun q=>AV.agg (rq q))[j]? = some (.agg (rq (rget v j))):=by rw [List.getElem?_map,Zai h]; rfl
theorem Y4w {N k:Nat}{n:Nd}{v:List Rat}{ms:List AV}{x4:Blk}(hms:ms=n.mv.map mvAV) (hx:NdG N n) (hv:Rb k v) (hk1:1≤k) (hk:k≤20000) (hl:v.length=N) (hN:N≤100) (hx4:∀ f,x4.gc f=x4) {K:Ex→St→Prop}
  (hK:∀ e:Nat→AV,e 4 = .ptr 1 0→e 5 = .ptr 2 0→K (.exit 0) ⟨e,[.cells [.int .i64 n.kind,.str (bs n.rew),.sl ms],x4,.cells (rq (worthR (toGN n) v))]⟩) :
  T Tryz.prog 65 0 (.loop Zk9) ⟨envL [(1,rowV v),(2,.ptr 0 0),(4,.ptr 1 0),(5,.ptr 2 0),(6,.int .i64 0)],[.cells [.int .i64 n.kind,.str (bs n.rew),.sl ms],x4,.cells (rq (nxB (toGN n) v 0))]⟩ K:=by
 have hmx:Tryz.prog.follows .mixedOrders=true:=by kernel_rfl
 have hmsl:ms.length=n.mv.length:=by rw [hms,List.length_map]
 have hlen:=hx.len
 have hl6:=hx.ok.len
 have rl:∀ q:Rat,(rq q).length=4:=fun q=>rfl
 have bvsr:∀ {H ids} {q:Rat},BVs H ids (rq q) (rq q)=True:=fun {H ids q}=>by unfold rq rc; simp only [go_sem]
 refine Zae (fun i:Nat=>⟨envL [(1,rowV v),(2,.ptr 0 0),(4,.ptr 1 0),(5,.ptr 2 0),(6,.int .i64 (i:Int))],[.cells [.int .i64 n.kind,.str (bs n.rew),.sl ms],x4,.cells (rq (nxB (toGN n) v i))]⟩)
  (fun i=>i≤n.mv.length) (fun i=>n.mv.length - i) 0 (by omega) (Zab _ (by simp only [go_sem]; simp)) (fun i hi N' hN'=>?_)
 unfold Zk9
 by_cases hin:i<n.mv.length
 ·obtain ⟨m,hmi⟩:∃ m,n.mv[i]? = some m:=⟨_,List.getElem?_eq_getElem hin⟩
  obtain ⟨t1,t2,t3⟩:=hx.to i m hmi
  have hmsi:ms[i]? = some (.agg [.int .i64 m.1,.str (bs m.2)]):=by rw [hms,List.getElem?_map,hmi]; rfl
  have hlt:=hx.ok.lt _ (Zbl (to:=(toGN n).to) (k:=i) (by omega))
  have hqb:=Y6e hx.ok hv hl (i:=i) (by omega)
  have hwb:=hv.get (j:=(toGN n).to.getD i 0) (by omega)
  have hgw:=Z5t (v:=v) (j:=(toGN n).to.getD i 0) (by omega)
  have hkd:=hx.kind
  have hkk:=hx.ok.kind
  rw [t1] at hmsi
  have hcm:=Ydl (k:=6*k+250) (hwb.mono (by omega)) hqb (by omega)
  have hn3:(toGN n).kind=3→nxB (toGN n) v (i+1)=nxB (toGN n) v i+rget (toGN n).odds i*rget v ((toGN n).to.getD i 0):=fun h=>by unfold nxB; rw [if_pos h,if_pos h]; rfl
  have hn12:(toGN n).kind≠3→nxB (toGN n) v (i+1)=if cmpR (rget v ((toGN n).to.getD i 0)) (nxB (toGN n) v i)=(if (toGN n).kind=1 then 1 else -1) then rget v ((toGN n).to.getD i 0) else nxB (toGN n) v i:=fun h=>by
   unfold nxB
   rw [if_neg h,if_neg h]
   generalize (if (toGN n).kind=1 then (1:Int) else -1)=sg
   rw [show bestG v (toGN n).to sg (i+1)=if cmpR (rget v ((toGN n).to.getD i 0)) (rget v ((toGN n).to.getD (bestG v (toGN n).to sg i) 0))=sg then i else bestG v (toGN n).to sg i from rfl]
   by_cases hc:cmpR (rget v ((toGN n).to.getD i 0)) (rget v ((toGN n).to.getD (bestG v (toGN n).to sg i) 0))=sg
   ·rw [if_pos hc,if_pos hc]
   ·rw [if_neg hc,if_neg hc]
  have hob:(toGN n).kind=3→Qb 40 (rget (toGN n).odds i):=fun h=>by
   obtain ⟨o1,o2⟩:=hx.ok.odds h
   exact o2.get (by omega)
  generalize (toGN n).to.getD i 0=y at *
  generalize nxB (toGN n) v i=b at *
  generalize hnb:nxB (toGN n) v (i+1)=b' at *
  have q0:(0:Int)≤(i:Int):=by omega
  have q1:(i:Int)<(n.mv.length:Int):=by omega
  have q2:(0:Int)≤(y:Int):=by omega
  have q3:(y:Int)<(v.length:Int):=by omega
  have e1:IntKind.i64.wrap ((i:Int)+1)=((i+1:Nat):Int):=by rw [Zac (by omega) (by omega)]; omega
  have fin:∀ (e:Nat→AV) (post:Heap) (kd:Int) (z:Rat),kd=n.kind→z=b'→Has e [(1,rowV v),(2,.ptr 0 0),(4,.ptr 1 0),(5,.ptr 2 0),(6,.int .i64 ((i+1:Nat):Int))] →
    N' ⟨e,[.cells [.int .i64 kd,.str (bs n.rew),.sl ms],x4,.cells (rq z)]++post⟩:=fun e post kd z h1 h2 he=>by
   subst h1 h2
   refine hN' (i+1) _ (by omega) (by omega) (Zb0 (Zgl (K := [.cells [.int .i64 n.kind,.str (bs n.rew),.sl ms],x4,.cells (rq z)]) (m:=3) rfl ?_ (by omega) _ he ?_) (by rw [hnb]))
   ·unfold Clo
    show [Blk.cells [_,_,_],x4.gc _,Blk.cells (gcL _ (rq z))]=_
    rw [hx4]; rfl
   ·simp [AV.gc,Zbk,rowV]
  unfold rowV at fin ⊢
  simp only [go_sem,Zwd,Z7i,Z8p,Z7r,q0,q1,q2,q3,hmsl,hmsi,hgw,rl,Za9,Zba,List.length_map]
  by_cases k1:n.kind=1
  ·have hk1':(toGN n).kind=1:=by omega
   have hn:=hn12 (by omega)
   rw [if_pos hk1'] at hn
   have hgt:(cmpR (rget v y) b > 0)=(cmpR (rget v y) b=1):=propext (by unfold cmpR; split; decide; split <;> decide)
   simp only [go_sem,k1,Z5x,rl,Za9,Zba]
   refine Zaa hcm (by simp only [go_sem,bvsr]) ?_
   by_cases hc:cmpR (rget v y) b=1
   ·have hc0:0<cmpR (rget v y) b:=by rw [hc]; decide
    rw [if_pos hc] at hn
    simp only [go_sem,hc0,Z23,Zdb,rl,Za9,Zba,e1]
    exact fin _ [_] _ _ k1.symm hn.symm (by simp only [go_sem])
   ·have hc0:¬ 0<cmpR (rget v y) b:=fun h=>hc (hgt.mp h)
    rw [if_neg hc] at hn
    simp only [go_sem,hc0,Zdb,e1]
    exact fin _ [_] _ _ k1.symm hn.symm (by simp only [go_sem])
  ·by_cases k2:n.kind=2
   ·have hn:=hn12 (by omega)
    rw [if_neg (show ¬ (toGN n).kind=1 by omega)] at hn
    have hlt':(cmpR (rget v y) b<0)=(cmpR (rget v y) b = -1):=propext (by unfold cmpR; split; decide; split <;> decide)
    have n21:¬ (2:Int)=1:=by decide
    simp only [go_sem,k2,n21,Zpl,Z5o,rl,Za9,Zba]
    refine Zaa hcm (by simp only [go_sem,bvsr]) ?_
    by_cases hc:cmpR (rget v y) b = -1
    ·have hc0:cmpR (rget v y) b<0:=by rw [hc]; decide
     rw [if_pos hc] at hn
     simp only [go_sem,hc0,Z2m,Zdb,rl,Za9,Zba,e1]
     exact fin _ [_] _ _ k2.symm hn.symm (by simp only [go_sem])
    ·have hc0:¬ cmpR (rget v y) b<0:=fun h=>hc (hlt'.mp h)
     rw [if_neg hc] at hn
     simp only [go_sem,hc0,Zdb,e1]
     exact fin _ [_] _ _ k2.symm hn.symm (by simp only [go_sem])
   ·have h3:(toGN n).kind=3:=by omega
    have hn:=hn3 h3
    have hp:=t3 h3
    have hof:SpecV Tryz.prog Zxg [.str (bs m.2)] (.agg (rq (rget (toGN n).odds i))):=rof (by omega) hp
    have k3:n.kind=3:=by omega
    have n31:¬ (3:Int)=1:=by decide
    have n32:¬ (3:Int)=2:=by decide
    obtain ⟨X,Y,a1,a2,a3,a4,a5⟩:=Yoe (k:=6*k+250) hqb ((hob h3).mono (by omega)) (hwb.mono (by omega)) (by omega) (by omega)
    rw [← hn] at a5
    simp only [go_sem,k3,n31,n32,Zpl,Zoz,q0,q1,hmsl,hmsi,rl,Za9,Zba,hmx]
    refine Zaa hof (by simp only [go_sem]) ?_
    simp only [go_sem,rl,Za9,Zba]
    refine Zaa a1 (by simp only [go_sem,bvsr]) ?_
    simp only [go_sem]
    refine Zaa a3 (by simp only [go_sem,bvsr,a2]) ?_
    simp only [go_sem]
    refine Zaa a5 (by simp only [go_sem,a4]) ?_
    simp only [go_sem,rl,Za9,Zba,Zdb,e1]
    exact fin _ [_] _ _ k3.symm rfl (by simp only [go_sem])
 ·have hie:i=n.mv.length:=by omega
  subst hie
  have q1:¬ ((n.mv.length:Nat):Int)<(n.mv.length:Int):=by omega
  simp only [go_sem,Zwd,hmsl,q1]
  have hend:nxB (toGN n) v n.mv.length=worthR (toGN n) v:=by rw [hlen]; exact Xcs hx.ok
  rw [hend]
  exact hK _ (by simp only [go_sem]) (by simp only [go_sem])
theorem rnext {N k:Nat}{n:Nd}{v:List Rat}(hx:NdG N n) (hv:Rb k v) (hk1:1≤k) (hk:k≤20000) (hl:v.length=N) (hN:N≤100) :
  SpecV Tryz.prog Yuw [ndAV n,rowV v] (.agg (rq (worthR (toGN n) v))):=by
 obtain ⟨ms,hms⟩:∃ ms,ms=n.mv.map mvAV:=⟨_,rfl⟩
 have hmsl:ms.length=n.mv.length:=by rw [hms,List.length_map]
 have hlen:=hx.len
 have hpos:=hx.ok.pos
 have rl:∀ q:Rat,(rq q).length=4:=fun q=>rfl
 have bvsr:∀ {H ids} {q:Rat},BVs H ids (rq q) (rq q)=True:=fun {H ids q}=>by unfold rq rc; simp only [go_sem]
 have hA:ndAV n = .agg [.int .i64 n.kind,.str (bs n.rew),.sl ms]:=by unfold ndAV; rw [hms]
 rw [hA]
 obtain ⟨m,hmi⟩:∃ m,n.mv[0]? = some m:=⟨_,List.getElem?_eq_getElem (by omega)⟩
 obtain ⟨t1,t2,t3⟩:=hx.to 0 m hmi
 have hmsi:ms[0]? = some (.agg [.int .i64 m.1,.str (bs m.2)]):=by rw [hms,List.getElem?_map,hmi]; rfl
 have hlt:=hx.ok.lt _ (Zbl (to:=(toGN n).to) (k:=0) (by omega))
 have hgw:=Z5t (v:=v) (j:=(toGN n).to.getD 0 0) (by omega)
 have hb0:nxB (toGN n) v 0=if (toGN n).kind=3 then 0 else rget v ((toGN n).to.getD 0 0):=by unfold nxB; split <;> rfl
 have hkd:=hx.kind
 rw [t1] at hmsi
 have q2:(0:Int)≤(((toGN n).to.getD 0 0:Nat):Int):=by omega
 have q3:(((toGN n).to.getD 0 0:Nat):Int)<(v.length:Int):=by omega
 have q4:(0:Int)<(n.mv.length:Int):=by omega
 have w0:SpecV Tryz.prog Zj3 [.int .i64 0] (.agg (rq 0)):=rwhole (v:=0) (by decide)
 generalize (toGN n).to.getD 0 0=y at *
 have rest:∀ (e:Nat→AV) (kd:Int) (z:Rat),kd=n.kind→z=nxB (toGN n) v 0→e 1=rowV v→e 2 = .ptr 0 0→e 4 = .ptr 1 0→e 5 = .ptr 2 0 →
   T Tryz.prog 65 0 (.seq (.seq (.rg false Zwr) (.block 0 (.loop Zk9))) (.seq (.rg false Zjf) .ret)) ⟨e,[.cells [.int .i64 kd,.str (bs n.rew),.sl ms],.cells [.bool false,.nils,.bool false,.nils],.cells (rq z)]⟩ (retQ [.cell 4 (some 4)] (.agg (rq (worthR (toGN n) v)))):=fun e kd z h1 h2 k1 k2 k4 k5=>by
  subst h1 h2
  refine Zav (Zav (T_W ?_))
  simp only [go_sem,Zwr]
  refine Zaw (Zas [(1,rowV v),(2,.ptr 0 0),(4,.ptr 1 0),(5,.ptr 2 0),(6,.int .i64 0)] (by simp only [go_sem,k1,k2,k4,k5]) (Y4w hms hx hv hk1 hk hl hN (fun f=>rfl) (fun e k4 k5=>?_)))
  show T Tryz.prog 65 0 (.seq (.rg false Zjf) .ret) _ _
  refine T_W ?_
  simp only [go_sem,Zjf,k4,k5,rl,Za9,Zba,bvsr]
 refine Zat Ypn (by simp) (Za0 2 rfl ?_)
 unfold Ylz
 unfold rowV at rest ⊢
 simp only [go_sem,Z80,Z7w,Z9g,hmsl,hmsi,hgw,q2,q3,q4,rl,Za9,Zba,List.length_map]
 by_cases k3:n.kind=3
 ·simp only [go_sem,k3,Z8t]
  refine Zaa w0 (by simp only [go_sem]) ?_
  simp only [go_sem,rl,Za9,Zba]
  exact rest _ _ 0 k3.symm (by rw [hb0,if_pos (by omega)]) (by simp only [go_sem]) (by simp only [go_sem]) (by simp only [go_sem]) (by simp only [go_sem])
 ·simp only [go_sem,k3]
  exact rest _ _ _ rfl (by rw [hb0,if_neg (by omega)]) (by simp only [go_sem]) (by simp only [go_sem]) (by simp only [go_sem]) (by simp only [go_sem])
end GoAbs
namespace GoAbs
open Go Go.Proofs
set_option maxHeartbeats 8000000
def rndR (g:Gm):Nat→List Rat
 | 0=>List.replicate g.nodes.length 0
 | k+1=>nextR g (rndR g k)
theorem Ybp {g:Gm}:∀ k,(rndR g k).length=g.nodes.length
 | 0=>List.length_replicate
 | k+1=>Zkf
def rndB:Nat→Nat
 | 0=>1
 | k+1=>6*rndB k+331
theorem Ymw:∀ {k:Nat},k≤9→rndB k≤1000000000:=by
 intro k hk
 have:k=0∨k=1∨k=2∨k=3∨k=4∨k=5∨k=6∨k=7∨k=8∨k=9:=by omega
 rcases this with rfl | rfl | rfl | rfl | rfl | rfl | rfl | rfl | rfl | rfl <;> decide
theorem Yqf {g:Gm}(hg:GmOk g):∀ k,Rb (rndB k) (rndR g k)
 | 0=>fun q hq=>by rw [(List.mem_replicate.1 hq).2]; exact Qb.zero (by unfold rndB; omega)
 | k+1=>Ycs hg (Yqf hg k) (Ybp k)
theorem Xfz {n:Nat}{gc:List AV}{r:Int}{K:Ex→St→Prop}(hn:n≤100)
  (hK:∀ e:Nat→AV,e 2 = .int .i64 r→e 8 = .rp gc→e 10 = .osl (some 4) 0 0 n→K (.exit 1) ⟨e,[.cells (rows n (qcell 0))]⟩) :
  T Tryz.prog 53 0 (.loop Zk6) ⟨envL [(2,.int .i64 r),(8,.rp gc),(10,.osl (some 4) 0 0 n),(33,.int .i64 (n:Int)),(34,.int .i64 0)],[.cells (rows n z4)]⟩ K:=by
 refine Zae (fun i:Nat=>⟨envL [(2,.int .i64 r),(8,.rp gc),(10,.osl (some 4) 0 0 n),(33,.int .i64 (n:Int)),(34,.int .i64 (i:Int))],[.cells (rows i (qcell 0)++rows (n - i) z4)]⟩)
  (fun i=>i≤n) (fun i=>n - i) 0 (by omega) (Zab _ (by simp only [go_sem]; simp [rows])) (fun i hi N hN=>?_)
 unfold Zk6
 by_cases hin:i<n
 ·have q0:(0:Int)≤(i:Int):=by omega
  have q1:(i:Int)<(n:Int):=by omega
  have e1:IntKind.i64.wrap ((i:Int)+1)=((i+1:Nat):Int):=by rw [Zac (by omega) (by omega)]; omega
  have rl:∀ (m:Nat) (c:List AV),c.length=4→(rows m c).length=m*4:=fun m c hc=>by unfold rows; rw [Z5h (fun d hd=>by rw [(List.mem_replicate.1 hd).2,hc]),List.length_replicate]
  have ql:(qcell 0).length=4:=rfl
  have zl:z4.length=4:=rfl
  have hfit:i*4+4≤(rows i (qcell 0)++rows (n - i) z4).length:=by rw [List.length_append,rl _ _ ql,rl _ _ zl]; omega
  have hset:(rows i (qcell 0)++rows (n - i) z4).take (i*4)++qcell 0++(rows i (qcell 0)++rows (n - i) z4).drop (i*4+4)=rows (i+1) (qcell 0)++rows (n - (i+1)) z4:=by
   have h1:rows (n - i) z4=z4++rows (n - (i+1)) z4:=by
    unfold rows
    rw [show n - i=(n - (i+1))+1 by omega,List.replicate_succ,List.flatten_cons]
   have h2:rows (i+1) (qcell 0)=rows i (qcell 0)++qcell 0:=by
    unfold rows
    rw [List.replicate_succ',List.flatten_append]; simp
   rw [h1,h2,List.take_append_of_le_length (by rw [rl _ _ ql]; omega),List.take_of_length_le (by rw [rl _ _ ql]; omega)]
   rw [show i*4+4=(rows i (qcell 0)).length+z4.length by rw [rl _ _ ql,zl], ← List.append_assoc, ← List.length_append,List.drop_left]
  simp only [go_sem,Zjy,Zrc,Zrn,q0,q1]
  refine Zaa Ymy (by simp only [go_sem]) ?_
  simp only [go_sem,Zau,ql,hfit,hset,Zrz,e1,Zan]
  exact ⟨q0,q1,hN (i+1) _ (by omega) (by omega) (Zab _ (by simp only [go_sem]))⟩
 ·have hie:i=n:=by omega
  subst hie
  have q1:¬ ((i:Nat):Int)<(i:Int):=by omega
  simp only [go_sem,Zjy,q1]
  have:rows i (qcell 0)++rows (i - i) z4=rows i (qcell 0):=by rw [Nat.sub_self]; simp [rows]
  rw [this]
  exact hK _ (by simp only [go_sem]) (by simp only [go_sem]) (by simp only [go_sem])
theorem Xfp {g:Gm}{r:Nat}{H:Heap}(hg:GmOk g) (hr:r≤8) {K:Ex→St→Prop}
  (hK:∀ e:Nat→AV,e 10 = .sl (condsR (rndR g r))→K (.exit 3) ⟨e,H⟩) :
  T Tryz.prog 53 0 (.loop Zfu) ⟨envL [(8,.rp (gmC g)),(10,.sl (condsR (rndR g 0))),(42,.int .i64 (r:Int)),(43,.int .i64 0)],H⟩ K:=by
 refine Zae (fun i:Nat=>⟨envL [(8,.rp (gmC g)),(10,.sl (condsR (rndR g i))),(42,.int .i64 (r:Int)),(43,.int .i64 (i:Int))],H⟩)
  (fun i=>i≤r) (fun i=>r - i) 0 (by omega) (Zab _ (by simp only [go_sem]; simp)) (fun i hi N hN=>?_)
 unfold Zfu
 by_cases hin:i<r
 ·have hb:=Yqf hg i
  have hnx:=Ym2 hg hb (Ybp i) (by have:=Ymw (k:=i) (by omega); omega)
  have hs:nextR g (rndR g i)=rndR g (i+1):=rfl
  rw [hs] at hnx
  have q1:(i:Int)<(r:Int):=by omega
  have e1:IntKind.i64.wrap ((i:Int)+1)=((i+1:Nat):Int):=by rw [Zac (by omega) (by omega)]; omega
  simp only [go_sem,Zh7,Zr5,q1]
  refine Zaa hnx (by simp only [go_sem]) ?_
  simp only [go_sem,Zrd,e1]
  exact hN (i+1) _ (by omega) (by omega) (Zab _ (by simp only [go_sem]))
 ·have hie:i=r:=by omega
  subst hie
  have q1:¬ ((i:Nat):Int)<(i:Int):=by omega
  simp only [go_sem,Zh7,q1]
  exact hK _ (by simp only [go_sem])
def rC (L:List Nd) (d:List UInt8) (r:Int):Int:=if eC L d=0 then (if r<0∨30<r then 1 else 0) else eC L d
theorem wrounds {L:List Nd}{d:List UInt8}{r:Int}(h:GIn L d) (hr:r<0∨30<r∨r≤8) :
  SpecV Tryz.prog Ykc [.sl (L.map ndAV),.str (bs d),.int .i64 r] (if rC L d r=0 then numsR (rndR (toGm L d) r.toNat) else .tup [.nils,.int .i64 (rC L d r)]):=by
 rcases Zpp h with ⟨h1,hs⟩ | ⟨h1,hs,hg,hn,hn1,hn5⟩
 ·rw [show rC L d r=eC L d from if_neg h1,if_neg h1]
  refine Zat Zm7 (by simp) (Za0 2 rfl ?_)
  unfold Zln
  simp only [go_sem,Ze6,Zfr]
  refine Zaa hs (by simp only [go_sem]) ?_
  simp only [go_sem,Zc5,Zv6,h1]
 ·rw [show rC L d r=if r<0∨30<r then 1 else 0 from if_pos h1]
  by_cases hbad:r<0∨30<r
  ·rw [if_pos hbad,if_neg (by decide)]
   refine Zat Zm7 (by simp) (Za0 2 rfl ?_)
   unfold Zln
   simp only [go_sem,Ze6,Zfr]
   refine Zaa hs (by simp only [go_sem]) ?_
   by_cases b1:r<0
   ·simp only [go_sem,Zc5,Zfo,Zj0,b1]
   ·have b2:30<r:=by omega
    simp only [go_sem,Zc5,Zfo,Zj0,b1,b2]
  ·rw [if_neg hbad,if_pos rfl]
   have b1:¬ r<0:=by omega
   have b2:¬ 30<r:=by omega
   obtain ⟨k,hk⟩:∃ k:Nat,r=k:=⟨r.toNat,by omega⟩
   subst hk
   have hkt:((k:Nat):Int).toNat=k:=by omega
   rw [hkt]
   have hk8:k≤8:=by omega
   generalize toGm L d=g at *
   have hm:=Ym3 (x:=rndR g k) (Xej ((Yqf hg.ok k).mono (Ymw (by omega))) (by omega)) (by rw [Ybp]; omega)
   obtain ⟨n,hn'⟩:∃ n,n=L.length:=⟨_,rfl⟩
   have hsz:(64:Int)*(n:Int)≤281474976710656:=by omega
   have z0:(0:Int)≤(n:Int):=by omega
   refine Zat Zm7 (by simp) (Za0 3 rfl ?_)
   unfold Zln
   simp only [go_sem,Ze6,Zfr]
   refine Zaa hs (by simp only [go_sem]) ?_
   simp only [go_sem,Zc5,Zfo,Zwe,b1,b2,List.length_map]
   rw [← hn']
   simp only [go_sem,hsz,z0,Int.le_refl,Int.toNat_natCast]
   refine ⟨by omega,?_⟩
   refine Zav (Zav (T_W ?_))
   simp only [go_sem,Zv3]
   rw [show (List.replicate n [AV.bool false,AV.nils,AV.bool false,AV.nils]).flatten=rows n z4 from rfl]
   refine Zaw (Zas [(2,.int .i64 (k:Int)),(8,.rp (gmC g)),(10,.osl (some 4) 0 0 n),(33,.int .i64 (n:Int)),(34,.int .i64 0)] (by simp only [go_sem]) (Xfz (by omega) (fun e k2 k8 k10=>?_)))
   show T Tryz.prog 53 0 (.seq (.seq (.rg false Zie) (.block 3 (.loop Zfu))) (.seq (.rg false Zed) .ret)) _ _
   have h0:rows n (qcell 0)=qc (rndR g 0):=by
    show _=qc (List.replicate g.nodes.length 0)
    unfold rows qc
    rw [hn, ← hn',List.flatMap_def,List.map_replicate]
   have hl0:n=(rndR g 0).length:=by rw [Ybp,hn,hn']
   rw [h0]
   refine Zxe [0] [(2,.int .i64 (k:Int)),(8,.rp (gmC g)),(10,.sl (condsR (rndR g 0)))] ?_ ?_
   ·refine ⟨.inr k2,.inr k8,.inl ?_,trivial⟩
    show BV [Blk.cells (qc (rndR g 0))] [0] (e 10) _
    rw [k10]
    have hbv:=Ybf (H := [Blk.cells (qc (rndR g 0))]) (ids := [0]) (b:=0) (r:=rndR g 0) rfl (by simp)
    rw [← hl0] at hbv
    exact hbv
   refine Zav (Zav (T_W ?_))
   simp only [go_sem,Zie]
   refine Zaw (Zas [(8,.rp (gmC g)),(10,.sl (condsR (rndR g 0))),(42,.int .i64 (k:Int)),(43,.int .i64 0)] (by simp only [go_sem]) (Xfp hg.ok hk8 (fun e k10=>?_)))
   show T Tryz.prog 53 0 (.seq (.rg false Zed) .ret) _ _
   refine T_W ?_
   simp only [go_sem,Zed,k10]
   refine Zaa hm (by simp only [go_sem]) ?_
   by_cases hN:∀ q,q∈rndR g k→NumOk q
   ·rw [show numsR (rndR g k) = .tup [.sl (ss (rndR g k)),.int .i64 0] from if_pos hN]
    simp only [go_sem]
   ·rw [show numsR (rndR g k) = .tup [.nils,.int .i64 4] from if_neg hN]
    simp only [go_sem]
end GoAbs
namespace GoAbs
open Go Go.Proofs
set_option maxHeartbeats 4000000
theorem Xcm {r:List Rat}{q:Rat}:qr (r ++ [q])=qr r++rq q:=by unfold qr; rw [List.flatMap_append]; simp
theorem rstep {L:List Nd}{d:List UInt8}{v:List Rat}{k:Nat}(hL:∀ n,n∈L→NdG L.length n) (hd:Qb 40 (toGm L d).d) (hv:Rb k v) (hk1:1≤k) (hk:k≤20000) (hl:v.length=L.length) (hN1:L.length≤100) :
  SpecV Tryz.prog Yuv [.sl (L.map ndAV),.agg (rq (toGm L d).d),rowV v] (rowV (nextR (toGm L d) v)):=by
 have hmx:Tryz.prog.follows .mixedOrders=true:=by kernel_rfl
 obtain ⟨ls,hls⟩:∃ ls,ls=L.map ndAV:=⟨_,rfl⟩
 have hlsl:ls.length=L.length:=by rw [hls,List.length_map]
 obtain ⟨g,hg⟩:∃ g,g=toGm L d:=⟨_,rfl⟩
 have hgn:g.nodes.length=L.length:=by rw [hg]; unfold toGm; rw [List.length_map]
 have rl:∀ q:Rat,(rq q).length=4:=fun q=>rfl
 have bvsr:∀ {H ids} {q:Rat},BVs H ids (rq q) (rq q)=True:=fun {H ids q}=>by unfold rq rc; simp only [go_sem]
 rw [← hls, ← hg]
 rw [← hg] at hd
 refine Zat Ypy (by simp) (Za0 1 rfl ?_)
 unfold Ymp
 simp only [go_sem,Z69,Z7u]
 refine T_le (Zgg 7 (some 4) (by simp only [go_sem]) [(0,.sl ls),(2,rowV v),(4,.ptr 0 0)] (by simp only [go_sem])) ?_
 refine Zav (Zav (T_W ?_))
 simp only [go_sem,Z8s,List.cons_append,List.nil_append,List.length_cons,List.length_nil]
 refine Zaw (Zfq (fun i:Nat=>⟨envL [(0,.sl ls),(2,rowV v),(4,.ptr 0 0),(7,.osl (some 4) 1 0 i),(8,.int .i64 (i:Int))],[.cells (rq g.d),.cells (qr ((nextR g v).take i))]⟩)
  (fun i=>i≤L.length) (fun i=>L.length - i) 0 (by omega) (Zb0 (Zab [(0,.sl ls),(2,rowV v),(4,.ptr 0 0),(7,.osl (some 4) 1 0 0),(8,.int .i64 0)] (by simp only [go_sem])) (by simp [qr])) (fun i hi N hN=>?_))
 unfold Z89
 refine T_W ?_
 by_cases hin:i<L.length
 ·obtain ⟨n,hn⟩:∃ n,L[i]? = some n:=⟨_,List.getElem?_eq_getElem hin⟩
  have hx:=hL n (List.mem_of_getElem? hn)
  have hget:ls[i]? = some (.agg [.int .i64 n.kind,.str (bs n.rew),.sl (n.mv.map mvAV)]):=by rw [hls,List.getElem?_map,hn]; rfl
  have hne:nextV g v i=(parseL n.rew).getD 0+g.d*worthR (toGN n) v:=by
   unfold nextV
   rw [hg]
   unfold toGm
   simp only
   congr 1
   ·unfold rget; rw [List.getD_eq_getElem?_getD,List.getElem?_map,hn]; rfl
   ·rw [List.getD_eq_getElem?_getD,List.getElem?_map,hn]; rfl
  have hnx:(nextR g v)[i]? = some (nextV g v i):=by unfold nextR; rw [List.getElem?_map,List.getElem?_range (by omega)]; rfl
  have tk:qr ((nextR g v).take (i+1))=qr ((nextR g v).take i)++rq (nextV g v i):=by rw [List.take_add_one,hnx]; exact Xcm
  have hnxt:=rnext hx hv hk1 hk hl hN1
  have hwb:=Zxa hx.ok hv hl
  have hof:SpecV Tryz.prog Zxg [.str (bs n.rew)] (.agg (rq ((parseL n.rew).getD 0))):=rof (by have:=hx.rew; omega) hx.rq.1
  obtain ⟨X,Y,a1,a2,a3,a4,a5⟩:=Yoe (k:=6*k+250) ((Yju hx.rq.2).mono (by omega)) (hd.mono (by omega)) hwb (by omega) (by omega)
  rw [← hne] at a5
  have hA:ndAV n = .agg [.int .i64 n.kind,.str (bs n.rew),.sl (n.mv.map mvAV)]:=rfl
  rw [hA] at hnxt
  have l1:(qr ((nextR g v).take i)).length=i*4:=by rw [Y7x,List.length_take,Zkf]; congr 1; omega
  have l2:(qr ((nextR g v).take i)).take (i*4)=qr ((nextR g v).take i):=List.take_of_length_le (by omega)
  have q0:(0:Int)≤(i:Int):=by omega
  have q1:(i:Int)<(L.length:Int):=by omega
  have s1:(i+1)*64≤1099511627776:=by omega
  have e1:IntKind.i64.wrap ((i:Int)+1)=((i+1:Nat):Int):=by rw [Zac (by omega) (by omega)]; omega
  generalize nextV g v i=nq at *
  simp only [go_sem,Zwu,Zv2,q0,q1,hlsl,hget,rl,Za9,Zba,hmx]
  refine Zaa hof (by simp only [go_sem]) ?_
  simp only [go_sem,q0,q1,hlsl,hget,rl,Za9,Zba]
  refine Zaa hnxt (by simp only [go_sem,rowV]) ?_
  simp only [go_sem]
  refine Zaa a1 (by simp only [go_sem,bvsr]) ?_
  simp only [go_sem]
  refine Zaa a3 (by simp only [go_sem,bvsr,a2]) ?_
  simp only [go_sem]
  refine Zaa a5 (by simp only [go_sem,a4]) ?_
  simp only [go_sem,rl,Za9,Zba,l1,l2,s1,Z7n,e1,Nat.le_refl]
  refine hN (i+1) _ (by omega) (by omega) (Zb0 (Zh0 [0,3] (by decide) (fun i hi=>by omega) [(0,.sl ls),(2,rowV v),(4,.ptr 0 0),(7,.osl (some 4) 3 0 (i+1)),(8,.int .i64 ((i+1:Nat):Int))] (by simp only [go_sem])) ?_)
  show St.mk _ [Blk.cells (gcL _ (rq g.d)),Blk.cells (gcL _ (qr ((nextR g v).take i)++rq nq))]=_
  rw [← tk,Xdm]
  rfl
 ·have hie:i=L.length:=by omega
  subst hie
  have q1:¬ ((L.length:Nat):Int)<(L.length:Int):=by omega
  have hl2:(nextR g v).length=L.length:=by rw [Zkf,hgn]
  rw [List.take_of_length_le (by omega)]
  simp only [go_sem,Zwu,hlsl,q1]
  refine T_W ?_
  simp only [go_sem,Z8c]
  rw [← hl2]
  exact Y0t rfl (by simp [allOf])
theorem rproves {L:List Nd}{d:List UInt8}{v:List Rat}{k:Nat}(hL:∀ n,n∈L→NdG L.length n) (hd:Qb 40 (toGm L d).d) (hv:Rb k v) (hk1:1≤k) (hk:k≤20000) (hl:v.length=L.length) (hN1:L.length≤100) (hg:GmOk (toGm L d)) :
  SpecV Tryz.prog Ym8 [.sl (L.map ndAV),.agg (rq (toGm L d).d),rowV v] (.bool ((List.range L.length).all fun i=>decide (rget v i=nextV (toGm L d) v i))):=by
 have hmx:Tryz.prog.follows .mixedOrders=true:=by kernel_rfl
 obtain ⟨ls,hls⟩:∃ ls,ls=L.map ndAV:=⟨_,rfl⟩
 have hlsl:ls.length=L.length:=by rw [hls,List.length_map]
 have hs:=rstep hL hd hv hk1 hk hl hN1
 obtain ⟨g,hg'⟩:∃ g,g=toGm L d:=⟨_,rfl⟩
 have hgn:g.nodes.length=L.length:=by rw [hg']; unfold toGm; rw [List.length_map]
 have rl:∀ q:Rat,(rq q).length=4:=fun q=>rfl
 have bvsr:∀ {H ids} {q:Rat},BVs H ids (rq q) (rq q)=True:=fun {H ids q}=>by unfold rq rc; simp only [go_sem]
 rw [← hls, ← hg'] at hs
 rw [← hls, ← hg']
 rw [← hg'] at hg
 have hnb:=Ycs hg hv (by rw [hl,hgn])
 have hnl:(nextR g v).length=L.length:=by rw [Zkf,hgn]
 refine Zat Ykg (by simp) (Za0 1 rfl ?_)
 unfold Yca
 simp only [go_sem,Zzq,Zx1,rl,Za9,Zba]
 refine Zaa hs (by simp only [go_sem,bvsr,rowV]) ?_
 simp only [go_sem]
 refine Zav (Zav (T_W ?_))
 simp only [go_sem,Zzf]
 refine Zaw (Zae (fun i:Nat=>⟨envL [(0,.sl ls),(2,rowV v),(7,rowV (nextR g v)),(8,.int .i64 (i:Int))],[.cells (rq g.d)]⟩)
  (fun i=>i≤L.length∧((List.range i).all fun i=>decide (rget v i=nextV g v i))=true) (fun i=>L.length - i) 0 ⟨by omega,rfl⟩ (Zab _ (by simp only [go_sem]; simp)) (fun i hI N hN=>?_))
 obtain ⟨hi,hal⟩:=hI
 unfold Zyx
 by_cases hin:i<L.length
 ·have hnx:rget (nextR g v) i=nextV g v i:=by unfold nextR; rw [Ygd (by omega)]
  have g1:=Z5t (v:=v) (j:=i) (by omega)
  have g2:=Z5t (v:=nextR g v) (j:=i) (by omega)
  have hcm:=Ydl (k:=6*k+331) ((hv.get (j:=i) (by omega)).mono (by omega)) (hnb.get (j:=i) (by omega)) (by omega)
  rw [hnx] at g2 hcm
  have q0:(0:Int)≤(i:Int):=by omega
  have q1:(i:Int)<(L.length:Int):=by omega
  have q2:(i:Int)<(v.length:Int):=by omega
  have q3:(i:Int)<((nextR g v).length:Int):=by omega
  have e1:IntKind.i64.wrap ((i:Int)+1)=((i+1:Nat):Int):=by rw [Zac (by omega) (by omega)]; omega
  unfold rowV at hN ⊢
  simp only [go_sem,Zm5,Zl4,q0,q1,q2,q3,g1,g2,hlsl,List.length_map,rl,Za9,Zba,hmx]
  refine Zaa hcm (by simp only [go_sem,bvsr]) ?_
  by_cases hc:rget v i=nextV g v i
  ·have hc0:cmpR (rget v i) (nextV g v i)=0:=by rw [Yo1]; exact hc
   simp only [go_sem,hc0,Zy1,e1]
   exact hN (i+1) _ ⟨by omega,by rw [List.range_succ,List.all_append,hal]; simp [hc]⟩ (by omega) (Zab _ (by simp only [go_sem]))
  ·have hc0:¬ cmpR (rget v i) (nextV g v i)=0:=by rw [Yo1]; exact hc
   have hf:((List.range L.length).all fun i=>decide (rget v i=nextV g v i))=false:=by
    rw [List.all_eq_false]
    exact ⟨i,List.mem_range.2 hin,by simp [hc]⟩
   simp only [go_sem,hc0,Zzg,hf]
 ·have hie:i=L.length:=by omega
  subst hie
  have q1:¬ ((L.length:Nat):Int)<(L.length:Int):=by omega
  simp only [go_sem,Zm5,hlsl,q1]
  refine T_W ?_
  simp only [go_sem,Zxv,hal]
end GoAbs
namespace GoAbs
open Go Go.Proofs
set_option maxHeartbeats 4000000
def shW (l:List UInt8):List UInt8:=if 12<l.length then l.take 14 else l.take 3
theorem Yow {l:List UInt8}:(shW l).length≤14:=by
 unfold shW; split
 ·rw [List.length_take]; omega
 ·rw [List.length_take]; omega
theorem wshort {l:List UInt8}:SpecV Tryz.prog Yqe [.str (bs l)] (.str (bs (shW l))):=by
 refine Zaf Ymr (by simp) ?_
 unfold Yg9
 have n23:(if (14:Int)<(l.length:Int) then 14 else (l.length:Int))=((min l.length 14:Nat):Int):=by split <;> omega
 have n6:(if (3:Int)<(l.length:Int) then 3 else (l.length:Int))=((min l.length 3:Nat):Int):=by split <;> omega
 have p23:(0:Int)≤((min l.length 14:Nat):Int):=by omega
 have p6:(0:Int)≤((min l.length 3:Nat):Int):=by omega
 have l23:min l.length 14≤l.length:=by omega
 have l6:min l.length 3≤l.length:=by omega
 by_cases h:12<l.length
 ·have q1:(12:Int)<(l.length:Int):=by omega
  have hs:shW l=l.take (min l.length 14):=by unfold shW; rw [if_pos h]; exact List.take_eq_take_iff.2 (by omega)
  rw [hs]
  simp only [go_sem,Zqo,Zqf,Z3h,Zal,q1,n23,p23,Zc8,l23,List.drop_zero,Int.toNat_natCast,Nat.zero_le]
 ·have q1:¬ (12:Int)<(l.length:Int):=by omega
  have hs:shW l=l.take (min l.length 3):=by unfold shW; rw [if_neg h]; exact List.take_eq_take_iff.2 (by omega)
  rw [hs]
  simp only [go_sem,Zqo,Zqf,Z3d,Zal,q1,n6,p6,Zc8,l6,List.drop_zero,Int.toNat_natCast,Nat.zero_le]
def cutM (m:Mv):Mv:=(m.1,shW m.2)
def cutN (n:Nd):Nd:=⟨n.kind,shW n.rew,(n.mv.take 7).map cutM⟩
def mostW (L:List Nd):Nat:=if 10<L.length then 11 else 5
def fewW (L:List Nd):List Nd:=(L.take (mostW L)).map cutN
def mvC (m:Mv):List AV := [.int .i64 m.1,.str (bs m.2)]
def ndC (n:Nd):List AV := [.int .i64 n.kind,.str (bs n.rew),.sl (n.mv.map mvAV)]
theorem Xa5 {L:List Nd}{l:List UInt8}:GIn (fewW L) (shW l):=by
 refine ⟨?_,by have:=Yow (l:=l); omega,fun n hn=>?_⟩
 ·unfold fewW mostW
  rw [List.length_map,List.length_take]
  split <;> omega
 ·obtain ⟨n',_,rfl⟩:=List.mem_map.1 hn
  refine ⟨by show (shW _).length≤23; have:=Yow (l:=n'.rew); omega,by show (List.map _ _).length≤7; rw [List.length_map,List.length_take]; omega,fun m hm=>?_⟩
  obtain ⟨m',_,rfl⟩:=List.mem_map.1 hm
  show (shW _).length≤23
  have:=Yow (l:=m'.2)
  omega
theorem Xct (M:List Mv):(M.flatMap mvC).length=M.length*2:=by
 induction M with
 | nil=>rfl
 | cons x M ih=>rw [List.flatMap_cons,List.length_append,ih,List.length_cons]; show 2+_=_; omega
theorem Y9v (M:List Nd):(M.flatMap ndC).length=M.length*3:=by
 induction M with
 | nil=>rfl
 | cons x M ih=>rw [List.flatMap_cons,List.length_append,ih,List.length_cons]; show 3+_=_; omega
theorem Xgu {M:List Mv}(f:Nat→Option Nat):gcL f (M.flatMap mvC)=M.flatMap mvC:=by rw [Za1,List.map_flatMap]; rfl
theorem Xge {M:List Nd}(f:Nat→Option Nat):gcL f (M.flatMap ndC)=M.flatMap ndC:=by rw [Za1,List.map_flatMap]; rfl
theorem Xet {H:Heap}{ids:List Nat}{b:Nat}{M:List Mv}(hb:H[b]? = some (.cells (M.flatMap mvC))) (hi:b∈ids):BV H ids (.osl (some 2) b 0 M.length) (.sl (M.map mvAV)):=by
 have:=Z6j (H:=H) (ids:=ids) (w:=2) (b:=b) (R:=M.map mvC) hb hi (by rw [List.flatMap_def]) (fun d hd=>by obtain ⟨j,_,rfl⟩:=List.mem_map.1 hd; rfl) (fun d hd=>by
  obtain ⟨j,_,rfl⟩:=List.mem_map.1 hd; exact .cons (.int _ _) (.cons (.str _) .nil))
 rw [List.length_map,List.map_map] at this
 exact this
theorem Xe5 {H:Heap}{ids:List Nat}{b:Nat}{M:List Nd}(hb:H[b]? = some (.cells (M.flatMap ndC))) (hi:b∈ids):BV H ids (.osl (some 3) b 0 M.length) (.sl (M.map ndAV)):=by
 have:=Z6j (H:=H) (ids:=ids) (w:=3) (b:=b) (R:=M.map ndC) hb hi (by rw [List.flatMap_def]) (fun d hd=>by obtain ⟨j,_,rfl⟩:=List.mem_map.1 hd; rfl) (fun d hd=>by
  obtain ⟨j,_,rfl⟩:=List.mem_map.1 hd; exact .cons (.int _ _) (.cons (.str _) (.cons (.sl _) .nil)))
 rw [List.length_map,List.map_map] at this
 exact this
theorem Xfu {ls ms O:List AV}{n:Nd}{i:Nat}{most:Int}{kd:Int}{s:ByteArray}(hms:ms=n.mv.map mvAV) (hls:ls[i]? = some (.agg [.int .i64 n.kind,.str (bs n.rew),.sl ms])) (hO:∀ f,gcL f O=O) {K:Ex→St→Prop}
  (hK:∀ e:Nat→AV,e 0 = .sl ls→e 3 = .int .i64 most→e 4 = .osl (some 3) 0 0 i→e 5 = .int .i64 (i:Int)→e 6 = .ptr 1 0 →
   K (.exit 2) ⟨e,[.cells O,.cells [.int .i64 kd,.str s,.osl (some 2) 2 0 ((n.mv.take 7).map cutM).length],.cells (((n.mv.take 7).map cutM).flatMap mvC)]⟩) :
  T Tryz.prog 79 0 (.loop Z1l) ⟨envL [(0,.sl ls),(3,.int .i64 most),(4,.osl (some 3) 0 0 i),(5,.int .i64 (i:Int)),(6,.ptr 1 0),(7,.int .i64 0)],[.cells O,.cells [.int .i64 kd,.str s,.osl (some 2) 2 0 0],.cells []]⟩ K:=by
 have hmx:Tryz.prog.follows .mixedOrders=true:=by kernel_rfl
 have hmsl:ms.length=n.mv.length:=by rw [hms,List.length_map]
 have hil:=(List.getElem?_eq_some_iff.1 hls).1
 refine Zae (fun k:Nat=>⟨envL [(0,.sl ls),(3,.int .i64 most),(4,.osl (some 3) 0 0 i),(5,.int .i64 (i:Int)),(6,.ptr 1 0),(7,.int .i64 (k:Int))],[.cells O,.cells [.int .i64 kd,.str s,.osl (some 2) 2 0 k],.cells (((n.mv.take k).map cutM).flatMap mvC)]⟩)
  (fun k=>k≤n.mv.length∧k≤7) (fun k=>n.mv.length - k) 0 ⟨by omega,by omega⟩ (Zab _ (by simp only [go_sem]; simp)) (fun k hI N hN=>?_)
 obtain ⟨h1,h2⟩:=hI
 unfold Z1l
 have p0:(0:Int)≤(i:Int):=by omega
 have p1:(i:Int)<(ls.length:Int):=by omega
 by_cases hk:k<n.mv.length
 ·have q1:(k:Int)<(n.mv.length:Int):=by omega
  by_cases hk6:k≤6
  ·obtain ⟨m,hm⟩:∃ m,n.mv[k]? = some m:=⟨_,List.getElem?_eq_getElem hk⟩
   have hmsk:ms[k]? = some (.agg [.int .i64 m.1,.str (bs m.2)]):=by rw [hms,List.getElem?_map,hm]; rfl
   have q0:(0:Int)≤(k:Int):=by omega
   have q2:(k:Int)≤6:=by omega
   have e1:IntKind.i64.wrap ((k:Int)+1)=((k+1:Nat):Int):=by rw [Zac (by omega) (by omega)]; omega
   have htk:((n.mv.take (k+1)).map cutM).flatMap mvC=((n.mv.take k).map cutM).flatMap mvC ++ [.int .i64 m.1,.str (bs (shW m.2))]:=by
    rw [List.take_add_one,hm,Option.toList_some,List.map_append,List.flatMap_append]; rfl
   have hPl:(((n.mv.take k).map cutM).flatMap mvC).length=k*2:=by rw [Xct,List.length_map,List.length_take]; omega
   have hPg:=fun f=>Xgu (M:=(n.mv.take k).map cutM) f
   generalize ((n.mv.take k).map cutM).flatMap mvC=P at *
   have s1:(k+1)*24≤1099511627776:=by omega
   have s2:k*2≤P.length:=by omega
   have tP:P.take (k*2)=P:=List.take_of_length_le (by omega)
   simp only [go_sem,Zlj,Zv4,p0,p1,q0,q1,q2,hls,hmsl,hmsk,hmx]
   refine Zaa wshort (by simp only [go_sem]) ?_
   simp only [go_sem,s1,s2,tP,Yal,e1]
   refine hN (k+1) _ ⟨by omega,by omega⟩ (by omega) (Zb0 (Zh0 [0,1,4] (by decide) (fun i hi=>by omega) [(0,.sl ls),(3,.int .i64 most),(4,.osl (some 3) 0 0 i),(5,.int .i64 (i:Int)),(6,.ptr 1 0),(7,.int .i64 ((k+1:Nat):Int))] (by simp only [go_sem])) ?_)
   show St.mk _ [Blk.cells (gcL _ O),_,Blk.cells (gcL _ (P ++ [AV.int .i64 m.1,.str (bs (shW m.2))]))]=_
   rw [Z4t,hPg,hO,htk]
   rfl
  ·have q2:¬ (k:Int)≤6:=by omega
   have hk7:k=7:=by omega
   have hl:((n.mv.take 7).map cutM).length=k:=by rw [List.length_map,List.length_take]; omega
   rw [hl] at hK
   subst hk7
   simp only [go_sem,Zlj,p0,p1,q1,q2,hls,hmsl]
   exact hK _ (by simp only [go_sem]) (by simp only [go_sem]) (by simp only [go_sem]) (by simp only [go_sem]) (by simp only [go_sem])
 ·have q1:¬ (k:Int)<(n.mv.length:Int):=by omega
  have hf:n.mv.take k=n.mv.take 7:=by rw [List.take_of_length_le (by omega),List.take_of_length_le (by omega)]
  have hl:((n.mv.take 7).map cutM).length=k:=by rw [List.length_map,List.length_take]; omega
  rw [hl] at hK
  rw [hf]
  simp only [go_sem,Zlj,p0,p1,q1,hls,hmsl]
  exact hK _ (by simp only [go_sem]) (by simp only [go_sem]) (by simp only [go_sem]) (by simp only [go_sem]) (by simp only [go_sem])
theorem Xf1 {ls:List AV}{L:List Nd}(hls:ls=L.map ndAV) {K:Ex→St→Prop}
  (hK:∀ e:Nat→AV,e 4 = .osl (some 3) 0 0 (fewW L).length→K (.exit 0) ⟨e,[.cells ((fewW L).flatMap ndC)]⟩) :
  T Tryz.prog 79 0 (.loop Zoc) ⟨envL [(0,.sl ls),(3,.int .i64 (mostW L:Int)),(4,.osl (some 3) 0 0 0),(5,.int .i64 0)],[.cells []]⟩ K:=by
 have hmx:Tryz.prog.follows .mixedOrders=true:=by kernel_rfl
 have hlsl:ls.length=L.length:=by rw [hls,List.length_map]
 have hmost:mostW L≤11:=by unfold mostW; split <;> omega
 refine Zfq (fun i:Nat=>⟨envL [(0,.sl ls),(3,.int .i64 (mostW L:Int)),(4,.osl (some 3) 0 0 i),(5,.int .i64 (i:Int))],[.cells (((L.take i).map cutN).flatMap ndC)]⟩)
  (fun i=>i≤L.length∧i≤mostW L) (fun i=>L.length - i) 0 ⟨by omega,by omega⟩ (Zab _ (by simp only [go_sem]; simp)) (fun i hI N hN=>?_)
 obtain ⟨h1,h2⟩:=hI
 unfold Zoc
 by_cases hi:i<L.length
 ·have q1:(i:Int)<(L.length:Int):=by omega
  by_cases hmi:i<mostW L
  ·obtain ⟨n,hn⟩:∃ n,L[i]? = some n:=⟨_,List.getElem?_eq_getElem hi⟩
   obtain ⟨ms,hms⟩:∃ ms,ms=n.mv.map mvAV:=⟨_,rfl⟩
   have hlsi:ls[i]? = some (.agg [.int .i64 n.kind,.str (bs n.rew),.sl ms]):=by rw [hls,List.getElem?_map,hn,hms]; rfl
   have q0:(0:Int)≤(i:Int):=by omega
   have q2:(i:Int)<(mostW L:Int):=by omega
   have e1:IntKind.i64.wrap ((i:Int)+1)=((i+1:Nat):Int):=by rw [Zac (by omega) (by omega)]; omega
   have htk:((L.take (i+1)).map cutN).flatMap ndC=((L.take i).map cutN).flatMap ndC++ndC (cutN n):=by
    rw [List.take_add_one,hn,Option.toList_some,List.map_append,List.flatMap_append]; simp
   have hPl:(((L.take i).map cutN).flatMap ndC).length=i*3:=by rw [Y9v,List.length_map,List.length_take]; omega
   have hPg:=fun f=>Xge (M:=(L.take i).map cutN) f
   generalize ((L.take i).map cutN).flatMap ndC=P at *
   have s1:(i+1)*48≤1099511627776:=by omega
   have s2:i*3≤P.length:=by omega
   have tP:P.take (i*3)=P:=List.take_of_length_le (by omega)
   refine Za0 0 rfl ?_
   simp only [go_sem,Zqj,hlsl,q1,q2]
   refine Zav (Zaw (Za0 0 rfl ?_))
   simp only [go_sem,Z03,hlsl,q0,q1,q2,hlsi,hmx]
   refine Zaa wshort (by simp only [go_sem]) ?_
   simp only [go_sem]
   refine T_le (Zq0 (Zab [(0,.sl ls),(3,.int .i64 (mostW L:Int)),(4,.osl (some 3) 0 0 i),(5,.int .i64 (i:Int)),(6,.ptr 1 0)] (by simp only [go_sem])) (Zq0 Ynj (Zb0 (Ya9 (b:=1) (l := [.int .i64 n.kind,.str (bs (shW n.rew)),.nils]) (l' := [.int .i64 n.kind,.str (bs (shW n.rew)),.osl (some 2) 2 0 0]) rfl rfl (fun j x y hx hy=>?_)) rfl))) ?_
   ·match j with
    | 0=>simp at hx hy; subst hx hy; exact .inl rfl
    | 1=>simp at hx hy; subst hx hy; exact .inl rfl
    | 2=>simp at hx hy; subst hx hy; exact .inr ⟨rfl,_,_,_,rfl⟩
    | j+3=>simp at hx
   refine Zav (Zav (T_W ?_))
   simp only [go_sem,Ycr]
   refine Zaw (Zas [(0,.sl ls),(3,.int .i64 (mostW L:Int)),(4,.osl (some 3) 0 0 i),(5,.int .i64 (i:Int)),(6,.ptr 1 0),(7,.int .i64 0)] (by simp only [go_sem]) (Xfu hms hlsi hPg (fun e k0 k3 k4 k5 k6=>?_)))
   show T Tryz.prog 79 0 (.rg false Zlm) _ _
   refine T_le (Y1b (b:=1) (ids := [2]) (l := [.int .i64 n.kind,.str (bs (shW n.rew)),.osl (some 2) 2 0 ((n.mv.take 7).map cutM).length]) (l':=ndC (cutN n)) rfl (by decide) rfl (fun j x y hx hy=>?_) [(0,.sl ls),(3,.int .i64 (mostW L:Int)),(4,.osl (some 3) 0 0 i),(5,.int .i64 (i:Int)),(6,.ptr 1 0)] (Ypz ⟨k0,k3,k4,k5,k6,trivial⟩)) ?_
   ·match j with
    | 0=>simp [ndC,cutN] at hx hy; subst hx hy; exact .inr rfl
    | 1=>simp [ndC,cutN] at hx hy; subst hx hy; exact .inr rfl
    | 2 =>
     simp only [ndC,cutN,List.getElem?_cons_succ,List.getElem?_cons_zero,Option.some.injEq] at hx hy
     subst hx hy
     exact .inl (Xet rfl (by simp))
    | j+3=>simp at hx
   show T Tryz.prog 79 0 (.rg false Zlm) ⟨_,[.cells P,.cells (ndC (cutN n)),.dead]⟩ _
   have n3:(ndC (cutN n)).length=3:=rfl
   have n3':(ndC (cutN n)).take 3=ndC (cutN n):=rfl
   have n3d:(ndC (cutN n)).drop 3 = []:=rfl
   refine T_W ?_
   simp only [go_sem,Zlm,n3,n3',n3d,s1,s2,tP,Nat.le_refl]
   show T Tryz.prog 79 0 (.rg false Zv8) _ _
   refine T_W ?_
   simp only [go_sem,Zv8,e1]
   refine hN (i+1) _ ⟨by omega,by omega⟩ (by omega) (Zb0 (Zh0 [4] (by decide) (fun i hi=>by omega) [(0,.sl ls),(3,.int .i64 (mostW L:Int)),(4,.osl (some 3) 4 0 (i+1)),(5,.int .i64 ((i+1:Nat):Int))] (by simp only [go_sem])) ?_)
   show St.mk _ [Blk.cells (gcL _ (P++ndC (cutN n)))]=_
   rw [Z4t,hPg,show gcL _ (ndC (cutN n))=ndC (cutN n) from rfl, ← htk]
   rfl
  ·have q2:¬ (i:Int)<(mostW L:Int):=by omega
   have hf:(L.take i).map cutN=fewW L:=by unfold fewW; rw [show i=mostW L by omega]
   have hfl:(fewW L).length=i:=by rw [← hf,List.length_map,List.length_take]; omega
   rw [hfl] at hK
   rw [hf]
   refine T_W ?_
   simp only [go_sem,Zqj,hlsl,q1,q2]
   exact hK _ (by simp only [go_sem])
 ·have q1:¬ (i:Int)<(L.length:Int):=by omega
  have hf:(L.take i).map cutN=fewW L:=by unfold fewW; rw [List.take_of_length_le (by omega),List.take_of_length_le (by omega)]
  have hfl:(fewW L).length=i:=by rw [← hf,List.length_map,List.length_take]; omega
  rw [hfl] at hK
  rw [hf]
  refine T_W ?_
  simp only [go_sem,Zqj,hlsl,q1]
  exact hK _ (by simp only [go_sem])
theorem wfew {L:List Nd}:SpecV Tryz.prog Y0x [.sl (L.map ndAV)] (.sl ((fewW L).map ndAV)):=by
 obtain ⟨ls,hls⟩:∃ ls,ls=L.map ndAV:=⟨_,rfl⟩
 have hlsl:ls.length=L.length:=by rw [hls,List.length_map]
 rw [← hls]
 have main:∀ (e:Nat→AV) (mo:Int),mo=mostW L→e 0 = .sl ls→e 3 = .int .i64 mo →
   T Tryz.prog 79 0 (.seq (.rg false Z1i) (.seq (.seq (.rg false Z1s) (.block 0 (.loop Zoc))) (.seq (.rg false Zlx) .ret))) ⟨e,[]⟩ (retQ [.tmp 2] (.sl ((fewW L).map ndAV))):=fun e mo hmo h0 h3=>by
  subst hmo
  refine Zav (T_W ?_)
  simp only [go_sem,Z1i]
  refine T_le (Zgg 4 (some 3) (by simp only [go_sem]) [(0,.sl ls),(3,.int .i64 (mostW L:Int))] (by simp only [go_sem,h0,h3])) ?_
  refine Zav (Zav (T_W ?_))
  simp only [go_sem,Z1s]
  refine Zaw (Zas [(0,.sl ls),(3,.int .i64 (mostW L:Int)),(4,.osl (some 3) 0 0 0),(5,.int .i64 0)] (by simp only [go_sem]) (Xf1 hls (fun e k4=>?_)))
  show T Tryz.prog 79 0 (.seq (.rg false Zlx) .ret) _ _
  refine T_W ?_
  simp only [go_sem,Zlx,k4]
  exact Xe5 rfl (by simp [allOf])
 refine Zat Yux (by simp) (Za0 2 rfl ?_)
 unfold Yr3
 by_cases h10:10<L.length
 ·have q1:(10:Int)<(L.length:Int):=by omega
  simp only [go_sem,Z1c,Z02,Z1r,Yd3,hlsl,q1]
  exact main _ 11 (by unfold mostW; rw [if_pos h10]; rfl) (by simp only [go_sem]) (by simp only [go_sem])
 ·have q1:¬ (10:Int)<(L.length:Int):=by omega
  simp only [go_sem,Z1c,Z02,Z1r,hlsl,q1]
  exact main _ 5 (by unfold mostW; rw [if_neg h10]; rfl) (by simp only [go_sem]) (by simp only [go_sem])
end GoAbs
