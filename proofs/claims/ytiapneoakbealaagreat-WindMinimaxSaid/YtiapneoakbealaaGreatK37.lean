/- Lemmas for the claim (contracts of the functions that it reaches, and what they compute), without conditions. -/
import Derived.Test.YtiapneoakbealaaGreatK36
set_option linter.unusedVariables false
set_option linter.unusedSimpArgs false
set_option maxRecDepth 10000
set_option maxHeartbeats 2000000
namespace GoAbs
open Go Go.Proofs
set_option maxHeartbeats 8000000
theorem Xg5 {H:Heap}{L:List Nd}{ls Vs:List AV}{t:List UInt8}{P:List (List Int)}{p q:List Int}{s i k:Nat}{fb no:Bool}(hls:ls=L.map ndAV) (hL5:L.length≤5) (hp:P[i]? = some p) (hq:P[k]? = some q) (hpl:p.length=L.length) (hql:q.length=L.length) (hPl:P.length≤1000) {K:Ex→St→Prop}
  (hK:∀ e:Nat→AV,Has e [(5,.sl ls),(6,.str (bs t)),(7,.sl Vs),(9,.sl (ivss P)),(11,.int .i64 (s:Int)),(12,.bool fb),(13,.ptr 1 0),(14,.int .i64 (i:Int)),(15,.ptr 2 0),(16,.bool no),(17,.int .i64 (k:Int)),(18,.bool (alkB L p q L.length))]→K (.exit 4) ⟨e,H⟩) :
  T Tryz.prog 159 0 (.loop Ze6) ⟨envL [(5,.sl ls),(6,.str (bs t)),(7,.sl Vs),(9,.sl (ivss P)),(11,.int .i64 (s:Int)),(12,.bool fb),(13,.ptr 1 0),(14,.int .i64 (i:Int)),(15,.ptr 2 0),(16,.bool no),(17,.int .i64 (k:Int)),(18,.bool true),(19,.int .i64 0)],H⟩ K:=by
 have hmx:Tryz.prog.follows .mixedOrders=true:=by kernel_rfl
 have hlsl:ls.length=L.length:=by rw [hls,List.length_map]
 have hgl:∀ (j:Nat) (n:Nd),L[j]? = some n→ls[j]? = some (AV.agg [.int .i64 n.kind,.str (bs n.rew),.sl (n.mv.map mvAV)]):=fun j n h=>by rw [hls]; exact Yo2 h
 have gp:=Z3j hp
 have gq:=Z3j hq
 have lP:=Zf2 P
 have hil:=(List.getElem?_eq_some_iff.1 hp).1
 have hkl:=(List.getElem?_eq_some_iff.1 hq).1
 generalize hPs:ivss P=Ps at *
 refine Zaf (fun j:Nat=>⟨envL [(5,.sl ls),(6,.str (bs t)),(7,.sl Vs),(9,.sl Ps),(11,.int .i64 (s:Int)),(12,.bool fb),(13,.ptr 1 0),(14,.int .i64 (i:Int)),(15,.ptr 2 0),(16,.bool no),(17,.int .i64 (k:Int)),(18,.bool (alkB L p q j)),(19,.int .i64 (j:Int))],H⟩)
  (fun j=>j≤L.length) (fun j=>L.length - j) 0 (by omega) (Zab _ (by simp only [go_sem]; simp [alkB])) (fun j hj N hN=>?_)
 unfold Ze6
 by_cases hjn:j<L.length
 ·obtain ⟨n,hn⟩:∃ n,L[j]? = some n:=⟨_,List.getElem?_eq_getElem hjn⟩
  have hgd:L.getD j default=n:=by rw [List.getD_eq_getElem?_getD,hn]; rfl
  have hget:=hgl j n hn
  obtain ⟨a,ha⟩:∃ a,p[j]? = some a:=⟨_,List.getElem?_eq_getElem (by omega)⟩
  obtain ⟨b,hb⟩:∃ b,q[j]? = some b:=⟨_,List.getElem?_eq_getElem (by omega)⟩
  have ga:=Zu6 ha
  have gb:=Zu6 hb
  have ea:p.getD j 0=a:=by rw [List.getD_eq_getElem?_getD,ha]; rfl
  have eb:q.getD j 0=b:=by rw [List.getD_eq_getElem?_getD,hb]; rfl
  have hsu:=Y5y (L:=L) (p:=p) (q:=q) (j:=j)
  rw [hgd,ea,eb] at hsu
  have i0:(0:Int)≤(i:Int):=by omega
  have i1:(i:Int)<(P.length:Int):=by omega
  have k0:(0:Int)≤(k:Int):=by omega
  have k1:(k:Int)<(P.length:Int):=by omega
  have q0:(0:Int)≤(j:Int):=by omega
  have q1:(j:Int)<(L.length:Int):=by omega
  have e1:IntKind.i64.wrap ((j:Int)+1)=((j+1:Nat):Int):=by rw [Zac (by omega) (by omega)]; omega
  have go:∀ e:Nat→AV,∀ bb:Bool,bb=alkB L p q (j+1)→Has e [(5,.sl ls),(6,.str (bs t)),(7,.sl Vs),(9,.sl Ps),(11,.int .i64 (s:Int)),(12,.bool fb),(13,.ptr 1 0),(14,.int .i64 (i:Int)),(15,.ptr 2 0),(16,.bool no),(17,.int .i64 (k:Int)),(18,.bool bb),(19,.int .i64 ((j+1:Nat):Int))]→N ⟨e,H⟩:=fun e bb hbb he=>by
   subst hbb
   exact hN (j+1) _ (by omega) (by omega) (Zab _ he)
  cases hal:alkB L p q j with
  | false =>
   rw [hal,Bool.false_and] at hsu
   simp only [go_sem,Zbj,Zbh,Zb7,hlsl,q1,hmx,e1]
   exact go _ false hsu.symm (by simp only [go_sem])
  | true =>
   rw [hal,Bool.true_and] at hsu
   by_cases hk:n.kind=1
   ·rw [decide_eq_true hk,Bool.not_true,Bool.false_or] at hsu
    simp only [go_sem,Zbj,Zbh,Zb7,hlsl,hget,hk,lP,gp,gq,ga,gb,Zat,hpl,hql,i0,i1,k0,k1,q0,q1,hmx,e1]
    exact ⟨fun hab=>go _ true (by rw [hsu,decide_eq_true hab]) (by simp only [go_sem]),fun hab=>go _ false (by rw [hsu,decide_eq_false hab]) (by simp only [go_sem])⟩
   ·rw [decide_eq_false hk,Bool.not_false,Bool.true_or] at hsu
    simp only [go_sem,Zbj,Zbh,Zb7,hlsl,hget,hk,q0,q1,hmx,e1]
    exact go _ true hsu.symm (by simp only [go_sem])
 ·have hje:j=L.length:=by omega
  subst hje
  have q1:¬ ((L.length:Nat):Int)<(L.length:Int):=by omega
  simp only [go_sem,Zbj,hlsl,q1]
  exact hK _ (by simp only [go_sem])
theorem Yx6 {f:Nat→Rat}{c:Nat→Bool}{b n:Nat}(hb:1≤b) (hf:∀ k,k<n→Qb b (f k)) {k:Nat}(hk:k≤n):Qb b ((minS f c k).getD 0):=by
 cases hm:minS f c k with
 | none=>exact Qb.zero hb
 | some m =>
  obtain ⟨j,hj,_,e⟩:=(Z4h k).2 m hm
  show Qb b m
  rw [e]; exact hf j (by omega)
theorem Xbe {f:Nat→Rat}{b n:Nat}(hb:1≤b) (hf:∀ k,k<n→Qb b (f k)) {k:Nat}(hk:k≤n):Qb b ((maxS f k).getD 0):=by
 cases hm:maxS f k with
 | none=>exact Qb.zero hb
 | some m =>
  obtain ⟨j,hj,e⟩:=(Ydw k).2 m hm
  show Qb b m
  rw [e]; exact hf j (by omega)
theorem Xg4 {B0:Blk}{X:List AV}{L:List Nd}{ls Vs:List AV}{t:List UInt8}{P:List (List Int)}{s i:Nat}{fb:Bool}(hlt:LT L t) (hls:ls=L.map ndAV) (hB:∀ f,B0.gc f=B0) (hX:∀ f,gcL f X=X) (hP:∀ p,p∈P→plnB (toGm L t) p=true) (hi:i<P.length) (hs:s<L.length) (hPl:P.length≤1000) {K:Ex→St→Prop}
  (hK:∀ e:Nat→AV,Has e [(5,.sl ls),(6,.str (bs t)),(7,.sl Vs),(9,.sl (ivss P)),(11,.int .i64 (s:Int)),(12,.bool fb),(13,.ptr 1 0),(14,.int .i64 (i:Int)),(15,.ptr 2 0)]→K (.exit 2) ⟨e,[B0,.cells X,.cells (rq (leastR L (toGm L t) P s i))]⟩) :
  T Tryz.prog 159 0 (.loop Ze3) ⟨envL [(5,.sl ls),(6,.str (bs t)),(7,.sl Vs),(9,.sl (ivss P)),(11,.int .i64 (s:Int)),(12,.bool fb),(13,.ptr 1 0),(14,.int .i64 (i:Int)),(15,.ptr 2 0),(16,.bool true),(17,.int .i64 0)],[B0,.cells X,.cells (rq 0)]⟩ K:=by
 have hmx:Tryz.prog.follows .mixedOrders=true:=by kernel_rfl
 obtain ⟨hg,hgn⟩:=hlt.gmP
 have hL5:=hlt.n
 have hlsl:ls.length=L.length:=by rw [hls,List.length_map]
 have hlen:∀ p,p∈P→p.length=L.length:=fun p hp=>by
  have:=hP p hp
  unfold plnB at this
  rw [Bool.and_eq_true,decide_eq_true_eq] at this
  rw [this.1,hgn]
 have lP:=Zf2 P
 have hat:∀ k,k<P.length→P[k]? = some (plAt P k):=fun k hk=>by
  unfold plAt
  rw [List.getD_eq_getElem?_getD,List.getElem?_eq_getElem hk]; rfl
 have hin':=List.mem_of_getElem? (hat i hi)
 have hvq:∀ k,k<P.length→Qb 4000 (vAt (toGm L t) P s k):=fun k hk=>by
  have hpo:=Z0f (hP _ (List.mem_of_getElem? (hat k hk)))
  unfold vAt
  exact Yyc (Zo1 hg hlt.gmL hpo) (by rw [(Zjz hg hpo).1,hgn]; exact hs)
 unfold leastR leastS at hK
 obtain ⟨f,hf⟩:∃ f,f=vAt (toGm L t) P s:=⟨_,rfl⟩
 obtain ⟨c,hc⟩:∃ c:Nat→Bool,c=fun k=>alkB L (plAt P i) (plAt P k) L.length:=⟨_,rfl⟩
 rw [← hf, ← hc] at hK
 rw [← hf] at hvq
 have hqb:=fun k (hk:k≤P.length)=>Yx6 (c:=c) (by omega) hvq hk
 have rl:∀ q:Rat,(rq q).length=4:=fun q=>rfl
 have bvsr:∀ {H ids} {q:Rat},BVs H ids (rq q) (rq q)=True:=fun {H ids q}=>Ya1
 refine Zaf (fun k:Nat=>⟨envL [(5,.sl ls),(6,.str (bs t)),(7,.sl Vs),(9,.sl (ivss P)),(11,.int .i64 (s:Int)),(12,.bool fb),(13,.ptr 1 0),(14,.int .i64 (i:Int)),(15,.ptr 2 0),(16,.bool (minS f c k).isNone),(17,.int .i64 (k:Int))],[B0,.cells X,.cells (rq ((minS f c k).getD 0))]⟩)
  (fun k=>k≤P.length) (fun k=>P.length - k) 0 (by omega) (Zab _ (by simp only [go_sem]; simp [minS])) (fun k hk N hN=>?_)
 unfold Ze3
 by_cases hkn:k<P.length
 ·have k0:(0:Int)≤(k:Int):=by omega
  have k1:(k:Int)<(P.length:Int):=by omega
  have s0:(0:Int)≤(s:Int):=by omega
  have s1:(s:Int)<(L.length:Int):=by omega
  have e1:IntKind.i64.wrap ((k:Int)+1)=((k+1:Nat):Int):=by rw [Zac (by omega) (by omega)]; omega
  have hpk:=hat k hkn
  have hpm:=List.mem_of_getElem? hpk
  obtain ⟨M,m1,m2,m3,m4,m5,m6,m7,_⟩:=lplayed hlt (hP _ hpm)
  rw [← hls] at m1
  obtain ⟨tx,htx,g3,sO⟩:=Y9g m3 m5 (show s<(valP (toGm L t) (plAt P k)).length by rw [m7]; exact hs)
  have hfk:rget (valP (toGm L t) (plAt P k)) s=f k:=by rw [hf]; rfl
  rw [hfk] at sO
  have hV:=rvalid' (l:=tx) (m5 tx (List.mem_of_getElem? htx)).2
  rw [(m5 tx (List.mem_of_getElem? htx)).1] at hV
  have lM:(txts M).length=L.length:=by rw [txts_len',m2]
  have gk:=Z3j hpk
  have hck:c k=alkB L (plAt P i) (plAt P k) L.length:=by rw [hc]
  have hmS:minS f c (k+1)=if c k=true then (match minS f c k with | none=>some (f k) | some m=>if f k<m then some (f k) else some m) else minS f c k:=rfl
  have qfk:=hvq k hkn
  have qmk:=hqb k (by omega)
  generalize txts M=Ms at *
  have fin:∀ (e:Nat→AV) (nb:Bool) (q:Rat) (E:List Blk),nb=(minS f c (k+1)).isNone→q=(minS f c (k+1)).getD 0→Has e [(5,.sl ls),(6,.str (bs t)),(7,.sl Vs),(9,.sl (ivss P)),(11,.int .i64 (s:Int)),(12,.bool fb),(13,.ptr 1 0),(14,.int .i64 (i:Int)),(15,.ptr 2 0),(16,.bool nb),(17,.int .i64 ((k+1:Nat):Int))]→N ⟨e,[B0,.cells X,.cells (rq q)]++E⟩:=fun e nb q E hnb hq he=>by
   subst hnb
   subst hq
   refine hN (k+1) _ (by omega) (by omega) (Zbz (Zgb [0,1,2] (by decide) (fun i hi=>absurd hi (by omega)) [(5,.sl ls),(6,.str (bs t)),(7,.sl Vs),(9,.sl (ivss P)),(11,.int .i64 (s:Int)),(12,.bool fb),(13,.ptr 1 0),(14,.int .i64 (i:Int)),(15,.ptr 2 0),(16,.bool (minS f c (k+1)).isNone),(17,.int .i64 ((k+1:Nat):Int))] he) ?_)
   show St.mk _ [B0.gc _,Blk.cells (gcL _ X),Blk.cells (gcL _ (rq _))]=_
   rw [hB,hX]
   rfl
  simp only [go_sem,Zds,Zji,Zi4,lP,k1]
  refine Zar [(5,.sl ls),(6,.str (bs t)),(7,.sl Vs),(9,.sl (ivss P)),(11,.int .i64 (s:Int)),(12,.bool fb),(13,.ptr 1 0),(14,.int .i64 (i:Int)),(15,.ptr 2 0),(16,.bool (minS f c k).isNone),(17,.int .i64 (k:Int)),(18,.bool true),(19,.int .i64 0)] (by simp only [go_sem]) ?_
  refine Xg5 hls hL5.2 (hat i hi) hpk (hlen _ hin') (hlen _ hpm) hPl (fun e he=>?_)
  rw [← hck] at he
  obtain ⟨a5,a6,a7,a9,a11,a12,a13,a14,a15,a16,a17,a18,_⟩:=he
  cases hcc:c k with
  | false =>
   rw [hcc] at a18 hmS
   rw [if_neg (by decide)] at hmS
   simp only [go_sem,Zdh,a18,Zbi,a17,e1]
   exact fin _ _ _ [] (by rw [hmS]) (by rw [hmS]) (by simp only [go_sem,a5,a6,a7,a9,a11,a12,a13,a14,a15,a16])
  | true =>
   rw [hcc] at a18 hmS
   rw [if_pos rfl] at hmS
   simp only [go_sem,Zdh,a18,Zi6,a5,a6,a9,a17,lP,gk,k0,k1]
   refine Zaa m1 (by simp only [go_sem]) ?_
   simp only [go_sem,Zjg,a5,a11,lM,hlsl,g3,s0,s1]
   refine Zaa hV (by simp only [go_sem]) ?_
   simp only [go_sem,Zjh,a11,lM,g3,s0,s1]
   refine Zaa sO (by simp only [go_sem]) ?_
   cases hm:minS f c k with
   | none =>
    rw [hm] at a16 hmS
    have hmS':minS f c (k+1)=some (f k):=hmS
    have a16':e 16 = .bool true:=a16
    simp only [go_sem,a16',Zdr,Zdn,a15,rl,Zk6,Zka,Nat.le_refl,Zbi,a17,e1]
    exact fin _ false (f k) [_] (by rw [hmS']; rfl) (by rw [hmS']; rfl) (by simp only [go_sem,a5,a6,a7,a9,a11,a12,a13,a14,a15])
   | some m =>
    rw [hm] at a16 hmS qmk
    have qm:Qb 4000 m:=qmk
    have hmS':minS f c (k+1)=if f k<m then some (f k) else some m:=hmS
    have a16':e 16 = .bool false:=a16
    have sX:=Yy5 (Fr.of qfk) (Fr.of qm) (by decide)
    have hcm:(cmpR (f k) m<0)=(f k<m):=propext (by unfold cmpR; constructor <;> intro h <;> grind)
    simp only [go_sem,a16',Zdr,a15,rl,Zk6,Zka,Nat.le_refl,Option.getD_some]
    refine Zaa sX (by simp only [go_sem,bvsr]) ?_
    by_cases hlt':f k<m
    ·rw [if_pos hlt'] at hmS'
     simp only [go_sem,hcm,hlt',Zdn,a15,rl,Zk6,Zka,Nat.le_refl,Zbi,a17,e1]
     exact fin _ false (f k) [_] (by rw [hmS']; rfl) (by rw [hmS']; rfl) (by simp only [go_sem,a5,a6,a7,a9,a11,a12,a13,a14,a15])
    ·rw [if_neg hlt'] at hmS'
     simp only [go_sem,hcm,hlt',Zbi,a17,e1]
     exact fin _ false m [_] (by rw [hmS']; rfl) (by rw [hmS']; rfl) (by simp only [go_sem,a5,a6,a7,a9,a11,a12,a13,a14,a15,a16'])
 ·have hke:k=P.length:=by omega
  subst hke
  have k1:¬ ((P.length:Nat):Int)<(P.length:Int):=by omega
  simp only [go_sem,Zds,lP,k1]
  exact hK _ (by simp only [go_sem])
end GoAbs
namespace GoAbs
open Go Go.Proofs
set_option maxHeartbeats 8000000
theorem Xgi {B0:Blk}{L:List Nd}{ls Vs:List AV}{t:List UInt8}{P:List (List Int)}{s:Nat}(hlt:LT L t) (hls:ls=L.map ndAV) (hB:∀ f,B0.gc f=B0) (hP:∀ p,p∈P→plnB (toGm L t) p=true) (hs:s<L.length) (hPl:P.length≤1000) {K:Ex→St→Prop}
  (hK:∀ e:Nat→AV,Has e [(7,.sl Vs),(11,.int .i64 (s:Int)),(13,.ptr 1 0)]→K (.exit 0) ⟨e,[B0,.cells (rq ((maxS (leastR L (toGm L t) P s) P.length).getD 0))]⟩) :
  T Tryz.prog 159 0 (.loop Zfc) ⟨envL [(5,.sl ls),(6,.str (bs t)),(7,.sl Vs),(9,.sl (ivss P)),(11,.int .i64 (s:Int)),(12,.bool true),(13,.ptr 1 0),(14,.int .i64 0)],[B0,.cells (rq 0)]⟩ K:=by
 have hmx:Tryz.prog.follows .mixedOrders=true:=by kernel_rfl
 obtain ⟨hg,hgn⟩:=hlt.gmP
 have hL5:=hlt.n
 have lP:=Zf2 P
 have hat:∀ k,k<P.length→P[k]? = some (plAt P k):=fun k hk=>by
  unfold plAt
  rw [List.getD_eq_getElem?_getD,List.getElem?_eq_getElem hk]; rfl
 have hvq:∀ k,k<P.length→Qb 4000 (vAt (toGm L t) P s k):=fun k hk=>by
  have hpo:=Z0f (hP _ (List.mem_of_getElem? (hat k hk)))
  unfold vAt
  exact Yyc (Zo1 hg hlt.gmL hpo) (by rw [(Zjz hg hpo).1,hgn]; exact hs)
 have hlq:∀ i,i<P.length→Qb 4000 (leastR L (toGm L t) P s i):=fun i hi=>Yx6 (by omega) hvq (Nat.le_refl _)
 have hL2:=fun i (hi:i<P.length) {fb:Bool} {X:List AV} (hX:∀ f,gcL f X=X) {K:Ex→St→Prop}=>Xg4 (B0:=B0) (X:=X) (ls:=ls) (Vs:=Vs) (i:=i) (fb:=fb) (K:=K) hlt hls hB hX hP hi hs hPl
 obtain ⟨f,hf⟩:∃ f,f=leastR L (toGm L t) P s:=⟨_,rfl⟩
 rw [← hf] at hK hlq hL2
 have hqb:=fun k (hk:k≤P.length)=>Xbe (by omega) hlq hk
 have rl:∀ q:Rat,(rq q).length=4:=fun q=>rfl
 have bvsr:∀ {H ids} {q:Rat},BVs H ids (rq q) (rq q)=True:=fun {H ids q}=>Ya1
 have w0:SpecV Tryz.prog Zpt [.int .i64 0] (.agg (rq 0)):=rwhole (v:=0) (by decide)
 refine Zaf (fun i:Nat=>⟨envL [(5,.sl ls),(6,.str (bs t)),(7,.sl Vs),(9,.sl (ivss P)),(11,.int .i64 (s:Int)),(12,.bool (maxS f i).isNone),(13,.ptr 1 0),(14,.int .i64 (i:Int))],[B0,.cells (rq ((maxS f i).getD 0))]⟩)
  (fun i=>i≤P.length) (fun i=>P.length - i) 0 (by omega) (Zab _ (by simp only [go_sem]; simp [maxS])) (fun i hi N hN=>?_)
 unfold Zfc
 by_cases hin:i<P.length
 ·have k1:(i:Int)<(P.length:Int):=by omega
  have e1:IntKind.i64.wrap ((i:Int)+1)=((i+1:Nat):Int):=by rw [Zac (by omega) (by omega)]; omega
  have hmS:maxS f (i+1)=match maxS f i with | none=>some (f i) | some m=>if m<f i then some (f i) else some m:=rfl
  have qfk:=hlq i hin
  have qmk:=hqb i (by omega)
  have fin:∀ (e:Nat→AV) (nb:Bool) (q:Rat) (E:List Blk),nb=(maxS f (i+1)).isNone→q=(maxS f (i+1)).getD 0→Has e [(5,.sl ls),(6,.str (bs t)),(7,.sl Vs),(9,.sl (ivss P)),(11,.int .i64 (s:Int)),(12,.bool nb),(13,.ptr 1 0),(14,.int .i64 ((i+1:Nat):Int))]→N ⟨e,[B0,.cells (rq q)]++E⟩:=fun e nb q E hnb hq he=>by
   subst hnb
   subst hq
   refine hN (i+1) _ (by omega) (by omega) (Zbz (Zgb [0,1] (by decide) (fun i hi=>absurd hi (by omega)) [(5,.sl ls),(6,.str (bs t)),(7,.sl Vs),(9,.sl (ivss P)),(11,.int .i64 (s:Int)),(12,.bool (maxS f (i+1)).isNone),(13,.ptr 1 0),(14,.int .i64 ((i+1:Nat):Int))] he) ?_)
   show St.mk _ [B0.gc _,Blk.cells (gcL _ (rq _))]=_
   rw [hB]
   rfl
  simp only [go_sem,Zdu,Zjc,lP,k1]
  refine Zaa w0 (by simp only [go_sem]) ?_
  simp only [go_sem,rl,Zk6,Zka,Nat.le_refl,Zi8,Zjd]
  refine Zar [(5,.sl ls),(6,.str (bs t)),(7,.sl Vs),(9,.sl (ivss P)),(11,.int .i64 (s:Int)),(12,.bool (maxS f i).isNone),(13,.ptr 1 0),(14,.int .i64 (i:Int)),(15,.ptr 2 0),(16,.bool true),(17,.int .i64 0)] (by simp only [go_sem]) ?_
  refine hL2 i hin (fun f=>rfl) (fun e he=>?_)
  obtain ⟨a5,a6,a7,a9,a11,a12,a13,a14,a15,_⟩:=he
  cases hm:maxS f i with
  | none =>
   rw [hm] at a12 hmS
   have hmS':maxS f (i+1)=some (f i):=hmS
   have a12':e 12 = .bool true:=a12
   simp only [go_sem,a12',a13,a15,Zdl,Zdp,rl,Zk6,Zka,Nat.le_refl,Zb8,a14,e1]
   exact fin _ false (f i) [_] (by rw [hmS']; rfl) (by rw [hmS']; rfl) (by simp only [go_sem,a5,a6,a7,a9,a11,a13])
  | some m =>
   rw [hm] at a12 hmS qmk
   have qm:Qb 4000 m:=qmk
   have hmS':maxS f (i+1)=if m<f i then some (f i) else some m:=hmS
   have a12':e 12 = .bool false:=a12
   have sX:=Yy5 (Fr.of qfk) (Fr.of qm) (by decide)
   have hcm:(0<cmpR (f i) m)=(m<f i):=propext (by unfold cmpR; constructor <;> intro h <;> grind)
   simp only [go_sem,a12',a13,a15,Zdl,rl,Zk6,Zka,Nat.le_refl,Option.getD_some]
   refine Zaa sX (by simp only [go_sem,bvsr]) ?_
   by_cases hlt':m<f i
   ·rw [if_pos hlt'] at hmS'
    simp only [go_sem,hcm,hlt',Zdp,a13,a15,rl,Zk6,Zka,Nat.le_refl,Zb8,a14,e1]
    exact fin _ false (f i) [_] (by rw [hmS']; rfl) (by rw [hmS']; rfl) (by simp only [go_sem,a5,a6,a7,a9,a11,a13])
   ·rw [if_neg hlt'] at hmS'
    simp only [go_sem,hcm,hlt',Zb8,a14,e1]
    exact fin _ false m [_] (by rw [hmS']; rfl) (by rw [hmS']; rfl) (by simp only [go_sem,a5,a6,a7,a9,a11,a12',a13])
 ·have hie:i=P.length:=by omega
  subst hie
  have k1:¬ ((P.length:Nat):Int)<(P.length:Int):=by omega
  simp only [go_sem,Zdu,lP,k1]
  exact hK _ (by simp only [go_sem])
theorem lminimax {n d a:Int}{ks rs mv:List Int}(hn:0≤n∧n≤255) (hd:0≤d∧d≤255) (_h1:∀ n,n∈ks→(Lit.int .i64 n).wf=true) (_h2:∀ n,n∈rs→(Lit.int .i64 n).wf=true) (_h3:∀ n,n∈mv→(Lit.int .i64 n).wf=true) (ha:0≤a∧a≤255) :
  SpecV Tryz.prog Z6j [.agg [.int .u8 n,.int .u8 d,.sl (ivs ks),.sl (ivs rs),.sl (ivs mv)],.int .u8 a] (.bool true):=by
 have hmx:Tryz.prog.follows .mixedOrders=true:=by kernel_rfl
 have hn4:0≤n % 4∧n % 4≤255:=by omega
 have hgm:=lgame (ks:=ks) (rs:=rs) (mv:=mv) hn4 hd
 have hlt:=Xc1 hn4 hd ks rs mv
 unfold tabAV at hgm
 obtain ⟨L,hL⟩:∃ L,L=tabL (n % 4) ks rs mv:=⟨_,rfl⟩
 obtain ⟨t,ht⟩:∃ t,t=numS (mdD d):=⟨_,rfl⟩
 rw [← hL, ← ht] at hgm hlt
 obtain ⟨hg,hgn⟩:=hlt.gmP
 have hL5:=hlt.n
 have hv:=lvals hlt
 have hvl:=Z36 hg
 have hvb:=Ye5 hg hlt.gmL
 have c4:¬ (4:Int)=0:=by decide
 have t4:n.tmod 4=n % 4:=Int.tmod_eq_emod_of_nonneg hn.1
 have hpv:=rplans (L:=L) (by omega) (fun x hx=>(hlt.nd x hx).len.2)
 have lL:(L.map ndAV).length=L.length:=List.length_map _
 have c0:¬ (L.length:Int)=0:=by omega
 have wa:IntKind.i64.wrap a=a:=Zac (by omega) (by omega)
 obtain ⟨s,hsd⟩:∃ s,s=(a % (L.length:Int)).toNat:=⟨_,rfl⟩
 have ha0:=Int.emod_nonneg a (show (L.length:Int)≠0 by omega)
 have ha1:=Int.emod_lt_of_pos a (show (0:Int)<(L.length:Int) by omega)
 have hs:s<L.length:=by omega
 have ta:a.tmod (L.length:Int)=(s:Int):=by rw [Int.tmod_eq_emod_of_nonneg ha.1]; omega
 have hmm:=minimax hlt hs
 have w0:SpecV Tryz.prog Zpt [.int .i64 0] (.agg (rq 0)):=rwhole (v:=0) (by decide)
 have rl:∀ q:Rat,(rq q).length=4:=fun q=>rfl
 have bvsr:∀ {H ids} {q:Rat},BVs H ids (rq q) (rq q)=True:=fun {H ids q}=>Ya1
 by_cases hfew:∀ j,j<L.length→(plansF L (j+1)).length≤60
 ·rw [show plansV L=_ from if_pos hfew] at hpv
  have hPl:(plansF L L.length).length≤1000:=by
   have:=hfew (L.length - 1) (by omega)
   rw [show L.length - 1+1=L.length by omega] at this
   omega
  have hPp:∀ p,p∈plansF L L.length→plnB (toGm L t) p=true:=fun p hp=>(Ygp hlt).1 hp
  generalize plansF L L.length=P at *
  refine Zba Zls (by simp) (Zbg 9 rfl ?_)
  unfold Zik
  simp only [go_sem,Zet,Ze0,c4,t4,Zew]
  refine Zaa hgm (by simp only [go_sem]) ?_
  simp only [go_sem,Zfe]
  refine Zaa hv (by simp only [go_sem]) ?_
  simp only [go_sem,Ze5]
  refine Zaa hpv (by simp only [go_sem]) ?_
  simp only [go_sem,Zff]
  refine Zaa wlives (by simp only [go_sem]) ?_
  simp only [go_sem,Zev,Zjj,wa,lL,c0,ta,Zi5,Zi7]
  refine Zaa w0 (by simp only [go_sem]) ?_
  simp only [go_sem,rl,Zk6,Zka,Nat.le_refl]
  refine Zbc (Zbc (T_W ?_))
  simp only [go_sem,Ziz,rowV]
  have gV:=Y3s (v:=valG (toGm L t)) (j:=s) (by omega)
  have lV:((valG (toGm L t)).map fun q=>AV.agg (rq q)).length=L.length:=by rw [List.length_map,hvl,hgn]
  generalize ((valG (toGm L t)).map fun q=>AV.agg (rq q))=Vs at *
  refine Za8 (Zar [(5,.sl (L.map ndAV)),(6,.str (bs t)),(7,.sl Vs),(9,.sl (ivss P)),(11,.int .i64 (s:Int)),(12,.bool true),(13,.ptr 1 0),(14,.int .i64 0)] (by simp only [go_sem]) (Xgi (B0 := .cells [.int .u8 (n % 4),.int .u8 d,.sl (ivs ks),.sl (ivs rs),.sl (ivs mv)]) (Vs:=Vs) hlt rfl (fun f=>rfl) hPp hs hPl (fun e he=>?_)))
  obtain ⟨a7,a11,a13,_⟩:=he
  rw [hmm]
  have qv:=Yyc hvb (show s<(valG (toGm L t)).length by omega)
  have sX:=Yy5 (Fr.of qv) (Fr.of qv) (by decide)
  rw [Xc8 rfl] at sX
  have s0:(0:Int)≤(s:Int):=by omega
  have s1:(s:Int)<(L.length:Int):=by omega
  refine T_W ?_
  simp only [go_sem,Zdo,hmx,a7,a11,a13,lV,gV,s0,s1,rl,Zk6,Zka,Nat.le_refl]
  refine Zaa sX (by simp only [go_sem,bvsr]) ?_
  simp only [go_sem]
 ·rw [show plansV L=_ from if_neg hfew] at hpv
  refine Zad Zls (by simp) ?_
  unfold Zik
  simp only [go_sem,Zet,Ze0,c4,t4,Zew]
  refine Zaa hgm (by simp only [go_sem]) ?_
  simp only [go_sem,Zfe]
  refine Zaa hv (by simp only [go_sem]) ?_
  simp only [go_sem,Ze5]
  refine Zaa hpv (by simp only [go_sem]) ?_
  simp only [go_sem,Zff]
  refine Zaa wlives (by simp only [go_sem]) ?_
  simp only [go_sem,Zev,Zkv]
end GoAbs
