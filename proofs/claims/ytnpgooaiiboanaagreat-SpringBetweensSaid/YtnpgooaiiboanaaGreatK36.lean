/- Lemmas for the claim (contracts of the functions that it reaches, and what they compute), without conditions. -/
import Derived.Test.YtnpgooaiiboanaaGreatK35
import Derived.Test.YtnpgooaiiboanaaGreatProg
import Derived.KernelRfl
set_option linter.unusedVariables false
set_option linter.unusedSimpArgs false
set_option maxRecDepth 10000
set_option maxHeartbeats 2000000
namespace GoAbs
open Go Go.Proofs
theorem q_sub' {q w:Rat}:Rat.divInt (q.num*w.den - w.num*q.den) ((q.den:Int)*w.den)=q - w:=by
 have h:=Xbc (q:=q) (w := -w) (wn := -w.num) (wd:=w.den) (by have:=w.den_pos; omega) (by rw [← Rat.neg_divInt,Rat.num_divInt_den])
 rw [Int.neg_mul, ← Int.sub_eq_add_neg] at h
 rw [h]; grind
theorem Xez {x:List Rat}{k:Nat}(hb:Rb k x) (hk:k≤10000000) (hl:x.length≤1000000) (hok:∀ q,q∈x→NumOk q) {K:Ex→St→Prop}
  (hK:∀ e:Nat→AV,K (.exit 0) ⟨e,[]⟩) :
  T Tryz.prog 27 0 (.loop Z0t) ⟨envL [(0,.sl (ss x)),(1,rowV x),(5,.int .i64 0)],[]⟩ K:=by
 have hm:Tryz.prog.follows .mixedOrders=true:=by kernel_rfl
 refine Zae (fun i:Nat=>⟨envL [(0,.sl (ss x)),(1,rowV x),(5,.int .i64 (i:Int))],[]⟩)
  (fun i=>i≤x.length) (fun i=>x.length - i) 0 (by omega) (Zab _ (by simp only [go_sem]; simp)) (fun i hi N hN=>?_)
 unfold Z0t
 have hsl:=Yly x
 have hrl:(x.map fun q=>AV.agg (rq q)).length=x.length:=by simp
 unfold rowV at hN ⊢
 by_cases hin:i<x.length
 ·have gx:=Zag hin
  have hmem:=List.mem_of_getElem? gx
  have okq:=hok _ hmem
  have bq:=hb.get hin
  have g1:(ss x)[i]? = some (.str (bs (numS (rget x i)))):=by unfold ss; rw [List.getElem?_map,gx]; rfl
  have g2:(x.map fun q=>AV.agg (rq q))[i]? = some (.agg (rq (rget x i))):=by rw [List.getElem?_map,gx]; rfl
  have hd:=(rget x i).den_pos
  have his:=ris (s:=bs (numS (rget x i))) bq.ib.1 bq.ib.2 (by omega) hk (Rat.num_divInt_den _)
  rw [decide_eq_true ⟨okq,rfl⟩] at his
  have q0:(0:Int)≤(i:Int):=by omega
  have q1:(i:Int)<(x.length:Int):=by omega
  have e1:IntKind.i64.wrap ((i:Int)+1)=((i+1:Nat):Int):=by rw [Zac (by omega) (by omega)]; omega
  generalize rget x i=q at *
  simp only [go_sem,Z0z,Z1i,Z1k,hm,q0,q1,hsl,hrl,g1,g2,Zdq,Zb6]
  refine Zaa his (by simp only [go_sem,avR]; show BVs _ _ (rc _ _) (rc _ _); rw [Zb2]; trivial) ?_
  simp only [go_sem,Bool.not_true,Z1k,e1]
  exact hN (i+1) _ (by omega) (by omega) (Zab _ (by simp only [go_sem]))
 ·have hie:i=x.length:=by omega
  subst hie
  have q1:¬ ((x.length:Nat):Int)<(x.length:Int):=by omega
  simp only [go_sem,Z0z,q1,hsl]
  exact hK _
theorem rare {x:List Rat}{k:Nat}(hb:Rb k x) (hk:k≤10000000) (hl:x.length≤1000000) (hok:∀ q,q∈x→NumOk q):SpecV Tryz.prog Y2w [.sl (ss x),rowV x] (.bool true):=by
 have hsl:=Yly x
 have hrl:(x.map fun q=>AV.agg (rq q)).length=x.length:=by simp
 refine Zbh Ywz (by simp) (Zcx 1 rfl ?_)
 unfold Yr6
 unfold rowV
 simp only [go_sem,Yb3,Ya9,hsl,hrl]
 refine Zds (Zds (T_W ?_))
 simp only [go_sem,Yc6]
 refine Zet (Zas [(0,.sl (ss x)),(1,.sl (x.map fun q=>AV.agg (rq q))),(5,.int .i64 0)] (by simp only [go_sem]) ?_)
 refine Xez hb hk hl hok (fun e=>?_)
 show T Tryz.prog 27 0 _ _ _
 refine T_W ?_
 simp only [go_sem,Yev]
theorem lends {n a b:Int}:SpecV Tryz.prog Ywp [.int .i64 n,.agg [.int .i64 a,.int .i64 b]] (.int .i64 (if EndsOk n a b then 0 else 1)):=by
 have hm:Tryz.prog.follows .mixedOrders=true:=by kernel_rfl
 have key:EndsOk n a b↔(¬ a<0∧¬ b<0∧¬ n≤a∧¬ n≤b∧¬ a=b):=by unfold EndsOk; omega
 refine Zad Yqp (by simp) ?_
 unfold Ykv
 by_cases c1:a<0
 ·rw [if_neg (fun h=>(key.1 h).1 c1)]
  simp only [go_sem,Zc3,Zc1,Ze9,c1]
 ·by_cases c2:b<0
  ·rw [if_neg (fun h=>(key.1 h).2.1 c2)]
   simp only [go_sem,Zc3,Zc1,Ze9,c1,c2]
  ·by_cases c3:n≤a
   ·rw [if_neg (fun h=>(key.1 h).2.2.1 c3)]
    simp only [go_sem,Zc3,Zc1,Ze9,c1,c2,c3]
   ·by_cases c4:n≤b
    ·rw [if_neg (fun h=>(key.1 h).2.2.2.1 c4)]
     simp only [go_sem,Zc3,Zc1,Ze9,c1,c2,c3,c4]
    ·by_cases c5:a=b
     ·rw [if_neg (fun h=>(key.1 h).2.2.2.2 c5)]
      subst c5
      simp only [go_sem,Zc3,Zc1,Ze9,c1,c2,c3,c4]
     ·rw [if_pos (key.2 ⟨c1,c2,c3,c4,c5⟩)]
      simp only [go_sem,Zc3,Zc1,Z8q,c1,c2,c3,c4,c5]
theorem Xam {n a b:Nat}{ls:AV}(hab:a≠b) (hn:n≤1000) (hls:∀ f,ls.gc f=ls) {K:Ex→St→Prop}
  (hK:∀ e:Nat→AV,e 0 = .int .i64 (n:Int)→e 1=ls→e 9 = .osl (some 4) 0 0 n→K (.exit 0) ⟨e,[.cells (qr ((List.range n).map (edge a b)))]⟩) :
  T Tryz.prog 33 0 (.loop Zwq) ⟨envL [(0,.int .i64 (n:Int)),(1,ls),(2,.int .i64 (a:Int)),(3,.int .i64 (b:Int)),(9,.osl (some 4) 0 0 0),(10,.int .i64 0)],[.cells []]⟩ K:=by
 have hm:Tryz.prog.follows .mixedOrders=true:=by kernel_rfl
 refine Zae (fun i:Nat=>⟨envL [(0,.int .i64 (n:Int)),(1,ls),(2,.int .i64 (a:Int)),(3,.int .i64 (b:Int)),(9,.osl (some 4) 0 0 i),(10,.int .i64 (i:Int))],[.cells (qr ((List.range i).map (edge a b)))]⟩)
  (fun i=>i≤n) (fun i=>n - i) 0 (by omega) (Zab _ (by simp only [go_sem]; simp)) (fun i hi N hN=>?_)
 unfold Zwq
 by_cases hin:i<n
 ·have q1:(i:Int)<(n:Int):=by omega
  have e1:IntKind.i64.wrap ((i:Int)+1)=((i+1:Nat):Int):=by rw [Zac (by omega) (by omega)]; omega
  have l0:((List.range i).map (edge a b)).length=i:=by simp
  have l1:(qr ((List.range i).map (edge a b))).length=i*4:=by rw [Zm9,l0]
  have l2:(qr ((List.range i).map (edge a b))).take (i*4)=qr ((List.range i).map (edge a b)):=List.take_of_length_le (by omega)
  have s1:(i+1)*64≤1099511627776:=by omega
  have cl:∀ v:Int,(rc v 1).length=4:=fun v=>rfl
  have ct:∀ v:Int,(rc v 1).take 4=rc v 1:=fun v=>rfl
  have cd:∀ v:Int,(rc v 1).drop 4 = []:=fun v=>rfl
  have fin:∀ (e:Nat→AV) (v:Int) (bl:Blk),edge a b i=(v:Rat)→Has e [(0,.int .i64 (n:Int)),(1,ls),(2,.int .i64 (a:Int)),(3,.int .i64 (b:Int)),(9,.osl (some 4) 2 0 (i+1)),(10,.int .i64 ((i+1:Nat):Int))]→N ⟨e,[.dead,bl,.cells (qr ((List.range i).map (edge a b))++rc v 1)]⟩:=fun e v bl hv he=>by
   refine hN (i+1) _ (by omega) (by omega) (Zcj (Zjv [2] (by decide) (fun i hi=>by omega) _ he) ?_)
   have hs:qr ((List.range (i+1)).map (edge a b))=qr ((List.range i).map (edge a b))++rc v 1:=by
    rw [List.range_succ,List.map_append,Zjo,List.map_singleton,hv]
    simp [qr,rq]
   show St.mk _ [Blk.cells (gcL _ (qr ((List.range i).map (edge a b))++rc v 1))]=_
   rw [← hs,Yfb]
   simp only [List.map_cons,List.map_nil,hls]
   rfl
  have w0:=rwhole (v:=0) (by decide)
  have w1:=rwhole (v:=1) (by decide)
  have w2:=rwhole (v := -1) (by decide)
  by_cases ha:i=a
  ·have ha':(i:Int)=(a:Int):=by omega
   have hb':¬ (a:Int)=(b:Int):=by omega
   have e1a:IntKind.i64.wrap ((a:Int)+1)=((i+1:Nat):Int):=by rw [← ha']; exact e1
   have q1a:(a:Int)<(n:Int):=by omega
   have hv:edge a b i=((1:Int):Rat):=by unfold edge; rw [if_pos ha,if_neg (by omega)]; decide+kernel
   simp only [go_sem,Zh3,Zlu,Zlw,Z7y,Zlj,Zji,ha',hb',q1a]
   refine Zaa w1 (by simp only [go_sem]) ?_
   simp only [go_sem,avR,cl,ct,cd,l1,l2,s1,Zjd,e1a]
   exact ⟨Nat.le_refl _,fin _ _ _ hv (by simp only [go_sem])⟩
  ·by_cases hb:i=b
   ·have ha':¬ (b:Int)=(a:Int):=by omega
    have hb':(i:Int)=(b:Int):=by omega
    have e1a:IntKind.i64.wrap ((b:Int)+1)=((i+1:Nat):Int):=by rw [← hb']; exact e1
    have q1a:(b:Int)<(n:Int):=by omega
    have hv:edge a b i=((-1:Int):Rat):=by unfold edge; rw [if_neg ha,if_pos hb]; decide+kernel
    simp only [go_sem,Zh3,Zlu,Zlw,Zlj,Z7e,Zji,ha',hb',q1a]
    refine Zaa w2 (by simp only [go_sem]) ?_
    simp only [go_sem,avR,cl,ct,cd,l1,l2,s1,Zjd,e1a]
    exact ⟨Nat.le_refl _,fin _ _ _ hv (by simp only [go_sem])⟩
   ·have ha':¬ (i:Int)=(a:Int):=by omega
    have hb':¬ (i:Int)=(b:Int):=by omega
    have hv:edge a b i=((0:Int):Rat):=by unfold edge; rw [if_neg ha,if_neg hb]; decide+kernel
    simp only [go_sem,Zh3,Zlu,Zlw,Zlj,Zji,ha',hb',q1]
    refine Zaa w0 (by simp only [go_sem]) ?_
    simp only [go_sem,avR,cl,ct,cd,l1,l2,s1,Zjd,e1]
    exact ⟨Nat.le_refl _,fin _ _ _ hv (by simp only [go_sem])⟩
 ·have hie:i=n:=by omega
  subst hie
  have q1:¬ ((i:Nat):Int)<(i:Int):=by omega
  simp only [go_sem,Zh3,q1]
  exact hK _ (by simp only [go_sem]) (by simp only [go_sem]) (by simp only [go_sem])
theorem Yi6 {H:Heap}{ids:List Nat}{b:Nat}{x:List Rat}(hb:H[b]? = some (.cells (qr x))) (hi:b∈ids):BV H ids (.osl (some 4) b 0 x.length) (rowV x):=by
 have h:=Z6u (H:=H) (ids:=ids) (w:=4) (b:=b) (R:=x.map rq) hb hi (by unfold qr; rw [List.flatMap_def]) (fun c hc=>by obtain ⟨q,_,rfl⟩:=List.mem_map.1 hc; rfl) (fun c hc=>by obtain ⟨q,_,rfl⟩:=List.mem_map.1 hc; exact of_eq_true Zb2)
 rw [List.length_map,List.map_map] at h
 exact h
theorem runit {n a b:Nat}{l:List AV}{x:List Rat}(hab:a≠b) (hn:n≤1000) (hmv:SpecV Tryz.prog Ygp [.int .i64 (n:Int),.sl l,rowV ((List.range n).map (edge a b))] (rowV x)) :
  SpecV Tryz.prog Zwx [.int .i64 (n:Int),.sl l,.int .i64 (a:Int),.int .i64 (b:Int)] (rowV x):=by
 have hbv:=Yi6 (H := [.cells (qr ((List.range n).map (edge a b)))]) (ids := [0]) (b:=0) (x:=(List.range n).map (edge a b)) rfl (by simp)
 rw [List.length_map,List.length_range] at hbv
 refine Zbh You (by simp) (Zcx 1 rfl ?_)
 unfold Yj3
 simp only [go_sem,Z8e,Z8o]
 refine T_le (Zik 9 (some 4) (by simp only [go_sem]) [(0,.int .i64 (n:Int)),(1,.sl l),(2,.int .i64 (a:Int)),(3,.int .i64 (b:Int))] (by simp only [go_sem])) ?_
 refine Zds (Zds (T_W ?_))
 simp only [go_sem,Z79]
 refine Zet (Zas [(0,.int .i64 (n:Int)),(1,.sl l),(2,.int .i64 (a:Int)),(3,.int .i64 (b:Int)),(9,.osl (some 4) 0 0 0),(10,.int .i64 0)] (by simp only [go_sem]) ?_)
 refine Xam hab hn (fun f=>rfl) (fun e e0 e1 e9=>?_)
 show T Tryz.prog 33 0 _ _ _
 refine T_W ?_
 simp only [go_sem,Z3n,e0,e1,e9]
 refine Zh5 (ids := [0]) hmv (by simp only [go_sem]; exact hbv) ?_
 unfold rowV
 simp only [go_sem]
theorem rbetween {n a b k:Nat}{l:List AV}{x:List Rat}(hu:SpecV Tryz.prog Zwx [.int .i64 (n:Int),.sl l,.int .i64 (a:Int),.int .i64 (b:Int)] (rowV x)) (ha:a<x.length) (hb:b<x.length) (hx:Rb k x) (hk1:1≤k) (hk:k≤400000) (hne:rget x a - rget x b≠0) :
  SpecV Tryz.prog Yip [.int .i64 (n:Int),.sl l,.int .i64 (a:Int),.int .i64 (b:Int)] (.agg (rq (1 / (rget x a - rget x b)))):=by
 have hm:Tryz.prog.follows .mixedOrders=true:=by kernel_rfl
 have ga:(x.map fun q=>AV.agg (rq q))[a]? = some (.agg (rq (rget x a))):=by rw [List.getElem?_map,Zag ha]; rfl
 have gb:(x.map fun q=>AV.agg (rq q))[b]? = some (.agg (rq (rget x b))):=by rw [List.getElem?_map,Zag hb]; rfl
 have hrl:(x.map fun q=>AV.agg (rq q)).length=x.length:=by simp
 have qa:=hx.get ha
 have qb:=hx.get hb
 have hs:=rsubq qa.ib.1 qa.ib.2 qb.ib.1 qb.ib.2 (by omega)
 have h1:=rwhole (v:=1) (by decide)
 have a0:(0:Int)≤(a:Int):=by omega
 have a1:(a:Int)<(x.length:Int):=by omega
 have b0:(0:Int)≤(b:Int):=by omega
 have b1:(b:Int)<(x.length:Int):=by omega
 have da:=(rget x a).den_pos
 have db:=(rget x b).den_pos
 have hd:(0:Int)<((rget x a).den:Int)*(rget x b).den:=Int.mul_pos (by omega) (by omega)
 have i1:Ib (2*k+1) ((rget x a).num*(rget x b).den - (rget x b).num*(rget x a).den):=by
  have i2:Ib (2*k) (-((rget x b).num*(rget x a).den)):=by have:=qb.ib.1.mul qa.ib.2; show Int.natAbs _<_; rw [Int.natAbs_neg]; exact (this.mono (by omega):Ib (2*k) _)
  rw [Int.sub_eq_add_neg]
  exact Ib.add (k:=2*k) ((qa.ib.1.mul qb.ib.2).mono (by omega)) i2
 have i3:Ib (2*k+1) (((rget x a).den:Int)*(rget x b).den):=(qa.ib.2.mul qb.ib.2).mono (by omega)
 have e:=q_sub' (q:=rget x a) (w:=rget x b)
 generalize (rget x a).num*(rget x b).den - (rget x b).num*(rget x a).den=N at *
 generalize ((rget x a).den:Int)*(rget x b).den=D at *
 have o1:Ib 1 (1:Int):=Xdw
 have hdv:=rdivq (n1:=1) (d1:=1) (n2:=N) (d2:=D) (k:=2*k+1) (o1.mono (by omega)) (o1.mono (by omega)) i1 i3 (by omega)
 have hN:N≠0:=fun h=>hne (by rw [← e,h,Rat.zero_divInt])
 obtain ⟨X,d1,d2,d3⟩:∃ X,SpecV Tryz.prog Z6w [avR 1 1,avR N D] (.agg X)∧(∀ H ids,BVs H ids X X=True)∧SpecV Tryz.prog Zfc [.agg X] (.agg (rq (1 / (rget x a - rget x b)))):=by
  have e1:∀ n d:Int,d≠0→n*N=D*d→Rat.divInt n d=1 / (rget x a - rget x b):=fun n d hd0 h=>by
   have:Rat.divInt n d=Rat.divInt D N:=(Rat.divInt_eq_divInt_iff hd0 hN).2 h
   rw [this, ← e, ← Rat.inv_divInt]
   rw [Rat.div_def,Rat.one_mul]
  by_cases h:1*N<0
  ·rw [if_pos h] at hdv
   have hl:=rlow (k:=2*k+1) (n := -(1*D)) (d := -(1*N)) (by show Int.natAbs _<_; rw [Int.natAbs_neg,Int.one_mul]; exact i3) (by show Int.natAbs _<_; rw [Int.natAbs_neg,Int.one_mul]; exact i1) (by omega) (by omega)
   rw [e1 _ _ (by omega) (by rw [Int.one_mul,Int.one_mul,Int.neg_mul,Int.mul_neg])] at hl
   exact ⟨_,hdv,fun H ids=>Zb2,hl⟩
  ·rw [if_neg h] at hdv
   have hl:=rlow (k:=2*k+1) (n:=1*D) (d:=1*N) (by rw [Int.one_mul]; exact i3) (by rw [Int.one_mul]; exact i1) (by omega) (by omega)
   rw [e1 _ _ (by omega) (by rw [Int.one_mul,Int.one_mul])] at hl
   exact ⟨_,hdv,fun H ids=>Zb2,hl⟩
 have bq:∀ (H:Heap) (ids:List Nat) (q:Rat),BVs H ids (rq q) (rq q)=True:=fun H ids q=>Zb2
 refine Zad Ye5 (by simp) ?_
 unfold Z7x
 simp only [go_sem,Zwr,Zu5]
 refine Zaa hu (by simp only [go_sem]) ?_
 unfold rowV
 simp only [go_sem,Zj9,hm,hrl,ga,gb,a0,a1,b0,b1,Zdq,Zb6]
 refine Zaa h1 (by simp only [go_sem]) ?_
 simp only [go_sem,hrl,ga,gb,a0,a1,b0,b1,Zdq,Zb6]
 refine Zaa hs (by simp only [go_sem,avR]; exact ⟨of_eq_true Zb2,of_eq_true Zb2⟩) ?_
 simp only [go_sem]
 refine Zaa d1 (by simp only [go_sem,avR,Zb2]) ?_
 simp only [go_sem]
 refine Zaa d3 (by simp only [go_sem,d2]) ?_
 simp only [go_sem,Zdq,Zb6,Zf9,bq]
end GoAbs
namespace GoAbs
open Go Go.Proofs
theorem Xd1 {k:Nat}:qr (List.replicate (k+1) 0)=qr (List.replicate k 0)++rc 0 1:=by
 rw [List.replicate_succ',Zjo]
 simp [qr,rq]
theorem Xdr {m i c w:Nat}{ls fs:AV}{J:RM}(hJ:J.length=c) (hm:m≤1000) (hls:∀ f,ls.gc f=ls) (hfs:∀ f,fs.gc f=fs) {K:Ex→St→Prop}
  (hK:∀ e:Nat→AV,e 0 = .int .i64 ((m+1:Nat):Int)→e 1=ls→e 2=fs→e 7 = .osl none 0 0 c→e 8 = .int .i64 (i:Int)→e 9 = .osl (some 4) (1+c) 0 m→K (.exit 2) ⟨e,matR w J ++ [.cells (qr (List.replicate m 0))]⟩) :
  T Tryz.prog 110 0 (.loop Zuj) ⟨envL [(0,.int .i64 ((m+1:Nat):Int)),(1,ls),(2,fs),(7,.osl none 0 0 c),(8,.int .i64 (i:Int)),(9,.osl (some 4) (1+c) 0 0),(10,.int .i64 1)],matR w J ++ [.cells []]⟩ K:=by
 have hmx:Tryz.prog.follows .mixedOrders=true:=by kernel_rfl
 refine Zae (fun k:Nat=>⟨envL [(0,.int .i64 ((m+1:Nat):Int)),(1,ls),(2,fs),(7,.osl none 0 0 c),(8,.int .i64 (i:Int)),(9,.osl (some 4) (1+c) 0 k),(10,.int .i64 ((k+1:Nat):Int))],matR w J ++ [.cells (qr (List.replicate k 0))]⟩)
  (fun k=>k≤m) (fun k=>m - k) 0 (by omega) (Zab _ (by simp only [go_sem]; simp)) (fun k hk N hN=>?_)
 unfold Zuj
 by_cases hkm:k<m
 ·have q1:((k+1:Nat):Int)<((m+1:Nat):Int):=by omega
  have e1:IntKind.i64.wrap (((k+1:Nat):Int)+1)=((k+1+1:Nat):Int):=by rw [Zac (by omega) (by omega)]; omega
  have l1:(qr (List.replicate k (0:Rat))).length=k*4:=by rw [Zm9,List.length_replicate]
  have l2:(qr (List.replicate k (0:Rat))).take (k*4)=qr (List.replicate k 0):=List.take_of_length_le (by omega)
  have s1:(k+1)*64≤1099511627776:=by omega
  have w0:=rwhole (v:=0) (by decide)
  have cl:(rc 0 1).length=4:=rfl
  have ct:(rc 0 1).take 4=rc 0 1:=rfl
  have cd:(rc 0 1).drop 4 = []:=rfl
  have gO:∀ (post:Heap) (t:Nat),(matR w J++post)[1+c+t]? = post[t]?:=fun post t=>Zgj hJ
  have gO0:∀ (post:Heap),(matR w J++post)[1+c]? = post[0]?:=fun post=>gO post 0
  have hlen:∀ post:Heap,(matR w J++post).length=1+c+post.length:=fun post=>by rw [Zhz,hJ]
  have hset:∀ (post:Heap) (t:Nat) (y:Blk),(matR w J++post).set (1+c+t) y=matR w J++post.set t y:=fun post t y=>by
   rw [List.set_append_right _ _ (by rw [Zay]; omega),Zay,hJ]
   congr 2; omega
  have hset0:∀ (post:Heap) (y:Blk),(matR w J++post).set (1+c) y=matR w J++post.set 0 y:=fun post y=>hset post 0 y
  have fin:∀ (e:Nat→AV) (b1 b2:Blk),Has e [(0,.int .i64 ((m+1:Nat):Int)),(1,ls),(2,fs),(7,.osl none 0 0 c),(8,.int .i64 (i:Int)),(9,.osl (some 4) (1+c+2) 0 (k+1)),(10,.int .i64 ((k+1+1:Nat):Int))]→N ⟨e,matR w J ++ [b1,b2,.cells (qr (List.replicate k 0)++rc 0 1)]⟩:=fun e b1 b2 he=>by
   rw [← Xd1]
   refine hN (k+1) _ (by omega) (by omega) (Zcj (Y18 (m:=1+c) (K:=matR w J) (by rw [Zay,hJ]) (by omega) (fun f hf=>Y0l (by rw [hJ]; exact hf)) (fun f=>Yfb _) _ he) ?_)
   simp only [List.map_cons,List.map_nil,AV.gc,hls,hfs]
   rw [Z4d.2,Z4d.1 0 (by omega)]
  simp only [go_sem,Zwo,Z92,q1]
  refine Zaa w0 (by simp only [go_sem]) ?_
  simp only [go_sem,avR,List.append_assoc,hlen,gO,gO0,hset,hset0,cl,ct,cd,l1,l2,s1,Z7p,e1]
  exact ⟨Nat.le_refl _,fin _ _ _ (by simp only [go_sem])⟩
 ·have hke:k=m:=by omega
  subst hke
  have q1:¬ ((k+1:Nat):Int)<((k+1:Nat):Int):=by omega
  simp only [go_sem,Zwo,q1]
  exact hK _ (by simp only [go_sem]) (by simp only [go_sem]) (by simp only [go_sem]) (by simp only [go_sem]) (by simp only [go_sem]) (by simp only [go_sem])
end GoAbs
namespace GoAbs
open Go Go.Proofs
theorem Y8b {a b:Rat}{k:Nat}(ha:Qb k a) (hb:Qb k b) (hk:k≤400000):∃ X,SpecV Tryz.prog Yfk [.agg (rq a),.agg (rq b)] (.agg X)∧(∀ H ids,BVs H ids X X=True)∧SpecV Tryz.prog Zfc [.agg X] (.agg (rq (a+b))):=by
 have da:=a.den_pos
 have db:=b.den_pos
 have h1:=raddq ha.ib.1 ha.ib.2 hb.ib.1 hb.ib.2 (by omega)
 have h2:=rlow (k:=2*k+1) (Ib.add (k:=2*k) ((ha.ib.1.mul hb.ib.2).mono (by omega)) ((hb.ib.1.mul ha.ib.2).mono (by omega))) ((ha.ib.2.mul hb.ib.2).mono (by omega)) (Int.mul_pos (by omega) (by omega)) (by omega)
 rw [Xbc (q:=a) (w:=b) (by omega) (Rat.num_divInt_den _).symm] at h2
 exact ⟨_,h1,fun H ids=>Zb2,h2⟩
theorem Y7w {a b:Rat}{k:Nat}(ha:Qb k a) (hb:Qb k b) (hk:k≤400000):∃ X,SpecV Tryz.prog Z6s [.agg (rq a),.agg (rq b)] (.agg X)∧(∀ H ids,BVs H ids X X=True)∧SpecV Tryz.prog Zfc [.agg X] (.agg (rq (a - b))):=by
 have da:=a.den_pos
 have db:=b.den_pos
 have h1:=rsubq ha.ib.1 ha.ib.2 hb.ib.1 hb.ib.2 (by omega)
 have i2:Ib (2*k) (-(b.num*a.den)):=by have:=hb.ib.1.mul ha.ib.2; show Int.natAbs _<_; rw [Int.natAbs_neg]; exact (this.mono (by omega):Ib (2*k) _)
 have h2:=rlow (k:=2*k+1) (n:=a.num*b.den - b.num*a.den) (d:=(a.den:Int)*b.den) (by
  rw [Int.sub_eq_add_neg]
  exact Ib.add (k:=2*k) ((ha.ib.1.mul hb.ib.2).mono (by omega)) i2) ((ha.ib.2.mul hb.ib.2).mono (by omega)) (Int.mul_pos (by omega) (by omega)) (by omega)
 rw [q_sub'] at h2
 exact ⟨_,h1,fun H ids=>Zb2,h2⟩
theorem Ylb {i a b k l:Nat}{x:Rat}{r:List Rat}(hr:Rb k r) (hx:Qb l x):Rb (k+2*(l+1)) (rowStep i a b x r):=by
 have one:∀ (r:List Rat) (k j:Nat),Rb k r→Rb (k+l+1) (r.set j (rget r j+x)):=fun r k j h y hy=>by
  rcases List.mem_or_eq_of_mem_set hy with h' | h'
  ·exact (h y h').mono (by omega)
  ·rw [h']
   by_cases hj:j<r.length
   ·exact (h.get hj).add2 hx
   ·have:r.set j (rget r j+x)=r:=List.set_eq_of_length_le (by omega)
    rw [this,h'] at hy
    exact (h _ hy).mono (by omega)
 have two:∀ (r:List Rat) (k j:Nat),Rb k r→Rb (k+l+1) (r.set j (rget r j - x)):=fun r k j h y hy=>by
  rcases List.mem_or_eq_of_mem_set hy with h' | h'
  ·exact (h y h').mono (by omega)
  ·rw [h']
   by_cases hj:j<r.length
   ·exact (h.get hj).sub2 hx
   ·have:r.set j (rget r j - x)=r:=List.set_eq_of_length_le (by omega)
    rw [this,h'] at hy
    exact (h _ hy).mono (by omega)
 unfold rowStep
 split
 ·split
  ·exact (one r k _ hr).mono (by omega)
  ·exact (two _ _ _ (one r k _ hr)).mono (by omega)
 ·split
  ·split
   ·exact (one r k _ hr).mono (by omega)
   ·exact (two _ _ _ (one r k _ hr)).mono (by omega)
  ·exact hr.mono (by omega)
theorem Y1o {i m l:Nat}(hl:1≤l):∀ {E:List Sp},(∀ e,e∈E→Qb l e.2.2)→Rb (1+E.length*(2*(l+1))) (rowE i m E):=fun {E} hE=>by
 have main:∀ (E:List Sp) (r:List Rat) (k:Nat),(∀ e,e∈E→Qb l e.2.2)→Rb k r→Rb (k+E.length*(2*(l+1))) (E.foldl (fun r e=>rowStep i e.1 e.2.1 e.2.2 r) r):=fun E=>by
  induction E with
  | nil=>intro r k _ h; simpa using h
  | cons e E ih =>
   intro r k h hr
   rw [List.foldl_cons]
   refine (ih _ _ (fun x hx=>h x (by simp [hx])) (Ylb hr (h e (by simp)))).mono ?_
   rw [List.length_cons,Nat.add_mul]; omega
 exact main E _ 1 hE (fun q hq=>by rw [(List.mem_replicate.1 hq).2]; exact Qb.zero (by omega))
end GoAbs
namespace GoAbs
open Go Go.Proofs
theorem Xfk {m i c w l:Nat}{L:List Spr}{ls:List AV}{fs:AV}{J:RM}(hls:ls=L.map sprAV) (hL:L.length≤1000) (hJ:J.length=c) (hm:m≤1000) (hi:1≤i) (him:i≤m) (hl1:1≤l) (hl:l≤1000) (hfs:∀ f,fs.gc f=fs)
  (hok:∀ s,s∈L→EndsOk ((m+1:Nat):Int) s.1 s.2.1∧s.2.2.length≤1000000000∧∃ q,parseL s.2.2=some q∧Qb l q) (hb:1+L.length*(2*(l+1))≤390000) {K:Ex→St→Prop}
  (hK:∀ e:Nat→AV,e 0 = .int .i64 ((m+1:Nat):Int)→e 1 = .sl ls→e 2=fs→e 7 = .osl none 0 0 c→e 8 = .int .i64 (i:Int)→e 9 = .osl (some 4) (1+c) 0 m→K (.exit 4) ⟨e,matR w J ++ [.cells (qr (rowE i m (L.map toE)))]⟩) :
  T Tryz.prog 110 0 (.loop Zur) ⟨envL [(0,.int .i64 ((m+1:Nat):Int)),(1,.sl ls),(2,fs),(7,.osl none 0 0 c),(8,.int .i64 (i:Int)),(9,.osl (some 4) (1+c) 0 m),(11,.int .i64 0)],matR w J ++ [.cells (qr (List.replicate m 0))]⟩ K:=by
 have hmx:Tryz.prog.follows .mixedOrders=true:=by kernel_rfl
 have hlsl:ls.length=L.length:=by rw [hls,List.length_map]
 refine Zae (fun t:Nat=>⟨envL [(0,.int .i64 ((m+1:Nat):Int)),(1,.sl ls),(2,fs),(7,.osl none 0 0 c),(8,.int .i64 (i:Int)),(9,.osl (some 4) (1+c) 0 m),(11,.int .i64 (t:Int))],matR w J ++ [.cells (qr (rowE i m ((L.take t).map toE)))]⟩)
  (fun t=>t≤L.length) (fun t=>L.length - t) 0 (by omega) (Zab _ (by simp only [go_sem]; simp)) (fun t ht N hN=>?_)
 unfold Zur
 by_cases htL:t<L.length
 ·obtain ⟨s,hs⟩:∃ s:Spr,L[t]? = some s:=⟨_,List.getElem?_eq_getElem htL⟩
  obtain ⟨⟨a0,a1,b0,b1,ab⟩,hlen,q,hq,hqb⟩:=hok s (List.mem_of_getElem? hs)
  obtain ⟨a,ha⟩:∃ a:Nat,s.1=a:=⟨s.1.toNat,by omega⟩
  obtain ⟨b,hb'⟩:∃ b:Nat,s.2.1=b:=⟨s.2.1.toNat,by omega⟩
  have hlsx:ls[t]? = some (.agg [.int .i64 (a:Int),.int .i64 (b:Int),.str (bs s.2.2)]):=by rw [hls,List.getElem?_map,hs, ← ha, ← hb']; rfl
  have hE:toE s=(a,b,q):=by unfold toE; rw [ha,hb',hq]; rfl
  have tk:rowE i m ((L.take (t+1)).map toE)=rowStep i a b q (rowE i m ((L.take t).map toE)):=by
   rw [List.take_add_one,hs,List.map_append]
   show rowE i m ((L.take t).map toE ++ [toE s])=_
   rw [Yzs,hE]
  have hrl:(rowE i m ((L.take t).map toE)).length=m:=Ya1
  have ho:=rof hlen hq
  have q0:(0:Int)≤(t:Int):=by omega
  have q1:(t:Int)<(L.length:Int):=by omega
  have e1:IntKind.i64.wrap ((t:Int)+1)=((t+1:Nat):Int):=by rw [Zac (by omega) (by omega)]; omega
  have hrb:Rb (1+L.length*(2*(l+1))) (rowE i m ((L.take t).map toE)):=(Y1o (i:=i) (m:=m) hl1 (E:=(L.take t).map toE) (fun e he=>by
   obtain ⟨u,hu,rfl⟩:=List.mem_map.1 he
   obtain ⟨_,_,q',hq',hb'⟩:=hok u (List.mem_of_mem_take hu)
   have:(toE u).2.2=q':=by simp [toE,hq']
   rw [this]; exact hb')).mono (by
    rw [List.length_map,List.length_take]
    exact Nat.add_le_add_left (Nat.mul_le_mul_right _ (by omega)) _)
  generalize rowE i m ((L.take t).map toE)=r at *
  have fin:∀ (e:Nat→AV) (r':List Rat),rowStep i a b q r=r'→Has e [(0,.int .i64 ((m+1:Nat):Int)),(1,.sl ls),(2,fs),(7,.osl none 0 0 c),(8,.int .i64 (i:Int)),(9,.osl (some 4) (1+c) 0 m),(11,.int .i64 ((t+1:Nat):Int))]→N ⟨e,matR w J ++ [.cells (qr r'),.cells (rq q)]⟩:=fun e r' hr' he=>by
   refine hN (t+1) _ (by omega) (by omega) ?_
   rw [tk,hr',show matR w J ++ [Blk.cells (qr r'),Blk.cells (rq q)]=(matR w J ++ [.cells (qr r')]) ++ [.cells (rq q)] by simp]
   refine Zt7 (m:=1+c+1) (by rw [Zhz,hJ]; rfl) (Clo.append (Yrb (by omega)) (by unfold Clo; simp only [List.map_cons,List.map_nil,Blk.gc,Yfb])) (by omega) _ he (fun p hp=>?_)
   simp only [List.mem_cons,List.not_mem_nil,or_false] at hp
   rcases hp with rfl | rfl | rfl | rfl | rfl | rfl | rfl
   ·rfl
   ·rfl
   ·exact hfs _
   ·simp only [AV.gc]; rw [Zbm (by omega)]
   ·rfl
   ·simp only [AV.gc]; rw [Zbm (by omega)]
   ·rfl
  by_cases h1:b=i
  ·have k1:(b:Int)=(i:Int):=by omega
   have h2:¬ a=i:=by omega
   have w1:IntKind.i64.wrap ((i:Int) - 1)=((i - 1:Nat):Int):=by rw [Zac (by omega) (by omega)]; omega
   have p0:(0:Int)≤((i - 1:Nat):Int):=by omega
   have p1:((i - 1:Nat):Int)<(m:Int):=by omega
   have t1:=Zgg (Zag (show i - 1<r.length by omega))
   have u1:=Zkm (Zag (show i - 1<r.length by omega))
   obtain ⟨X,x1,x2,x3⟩:=Y8b (k:=390000) ((hrb.get (j:=i - 1) (by omega)).mono hb) (hqb.mono (by omega)) (by omega)
   have gO:∀ (post:Heap) (t:Nat),(matR w J++post)[1+c+t]? = post[t]?:=fun post t=>Zgj hJ
   have gO0:∀ (post:Heap),(matR w J++post)[1+c]? = post[0]?:=fun post=>gO post 0
   have hlen':∀ post:Heap,(matR w J++post).length=1+c+post.length:=fun post=>by rw [Zhz,hJ]
   have hset:∀ (post:Heap) (t:Nat) (y:Blk),(matR w J++post).set (1+c+t) y=matR w J++post.set t y:=fun post t y=>by
    rw [List.set_append_right _ _ (by rw [Zay]; omega),Zay,hJ]
    congr 2; omega
   have hset0:∀ (post:Heap) (y:Blk),(matR w J++post).set (1+c) y=matR w J++post.set 0 y:=fun post y=>hset post 0 y
   have hfit:(i - 1)*4+4≤(qr r).length:=by rw [Zm9]; omega
   have hq4:rc q.num q.den=rq q:=rfl
   have bq:∀ (H:Heap) (ids:List Nat) (q:Rat),BVs H ids (rq q) (rq q)=True:=fun H ids q=>Zb2
   have c0:1+c<1+c+1+1:=by omega
   have c1:1+c+1<1+c+1+1:=by omega
   simp only [go_sem,Zgl,Zfz,Zi5,Z2z,Zjb,Zo7,hmx,q0,q1,hlsl,hlsx,k1]
   refine Zaa ho (by simp only [go_sem]) ?_
   simp only [go_sem,avR,hq4,Zdq,Zb6,Zf9,List.append_assoc,hlen',gO,gO0,hset,hset0,Zi6,hmx,w1,p0,p1,List.getElem?_drop,t1,u1,c0,c1]
   refine Zaa x1 (by simp only [go_sem,bq]) ?_
   simp only [go_sem]
   refine Zaa x3 (by simp only [go_sem,x2]) ?_
   simp only [go_sem,hlen',gO,gO0,hset,hset0,Zdq,Zb6,Zf9,p0,p1,c0,c1,hfit]
   rw [Ymn (by omega)]
   by_cases hb0:a=0
   ·have k3:¬ (a:Int) > 0:=by omega
    have hst:rowStep i a b q r=r.set (i - 1) (rget r (i - 1)+q):=by unfold rowStep; rw [if_neg h2,if_pos h1,if_pos hb0]
    simp only [go_sem,Zgb,k3,Zdp,e1]
    exact fin _ _ hst (by simp only [go_sem])
   ·have k3:(a:Int) > 0:=by omega
    have hst:rowStep i a b q r=(r.set (i - 1) (rget r (i - 1)+q)).set (a - 1) (rget (r.set (i - 1) (rget r (i - 1)+q)) (a - 1) - q):=by unfold rowStep; rw [if_neg h2,if_pos h1,if_neg hb0]
    have hrb1:Rb 392000 (r.set (i - 1) (rget r (i - 1)+q)):=fun y hy=>by
     rcases List.mem_or_eq_of_mem_set hy with h' | h'
     ·exact (hrb y h').mono (by omega)
     ·rw [h']; exact ((hrb.get (j:=i - 1) (by omega)).add2 hqb).mono (by omega)
    have hr1:(r.set (i - 1) (rget r (i - 1)+q)).length=m:=by rw [List.length_set,hrl]
    generalize r.set (i - 1) (rget r (i - 1)+q)=r1 at *
    have w2:IntKind.i64.wrap ((a:Int) - 1)=((a - 1:Nat):Int):=by rw [Zac (by omega) (by omega)]; omega
    have p2:(0:Int)≤((a - 1:Nat):Int):=by omega
    have p3:((a - 1:Nat):Int)<(m:Int):=by omega
    have t2:=Zgg (Zag (show a - 1<r1.length by omega))
    have u2:=Zkm (Zag (show a - 1<r1.length by omega))
    obtain ⟨Y,y1,y2,y3⟩:=Y7w (k:=392000) (hrb1.get (j:=a - 1) (by omega)) (hqb.mono (by omega)) (by omega)
    have hfit1:(a - 1)*4+4≤(qr r1).length:=by rw [Zm9]; omega
    simp only [go_sem,Zgb,k3,Zje,hmx,hlen',gO,gO0,hset,hset0,Zdq,Zb6,Zf9,w2,p2,p3,List.getElem?_drop,t2,u2,c0,c1]
    refine Zaa y1 (by simp only [go_sem,bq]) ?_
    simp only [go_sem]
    refine Zaa y3 (by simp only [go_sem,y2]) ?_
    simp only [go_sem,hlen',gO,gO0,hset,hset0,Zdq,Zb6,Zf9,p2,p3,c0,c1,hfit1,Zdp,e1]
    rw [Ymn (by omega)]
    exact fin _ _ hst (by simp only [go_sem])
  ·by_cases h2:a=i
   ·have k1:¬ (b:Int)=(i:Int):=by omega
    have k2:(a:Int)=(i:Int):=by omega
    have w1:IntKind.i64.wrap ((i:Int) - 1)=((i - 1:Nat):Int):=by rw [Zac (by omega) (by omega)]; omega
    have p0:(0:Int)≤((i - 1:Nat):Int):=by omega
    have p1:((i - 1:Nat):Int)<(m:Int):=by omega
    have t1:=Zgg (Zag (show i - 1<r.length by omega))
    have u1:=Zkm (Zag (show i - 1<r.length by omega))
    obtain ⟨X,x1,x2,x3⟩:=Y8b (k:=390000) ((hrb.get (j:=i - 1) (by omega)).mono hb) (hqb.mono (by omega)) (by omega)
    have gO:∀ (post:Heap) (t:Nat),(matR w J++post)[1+c+t]? = post[t]?:=fun post t=>Zgj hJ
    have gO0:∀ (post:Heap),(matR w J++post)[1+c]? = post[0]?:=fun post=>gO post 0
    have hlen':∀ post:Heap,(matR w J++post).length=1+c+post.length:=fun post=>by rw [Zhz,hJ]
    have hset:∀ (post:Heap) (t:Nat) (y:Blk),(matR w J++post).set (1+c+t) y=matR w J++post.set t y:=fun post t y=>by
     rw [List.set_append_right _ _ (by rw [Zay]; omega),Zay,hJ]
     congr 2; omega
    have hset0:∀ (post:Heap) (y:Blk),(matR w J++post).set (1+c) y=matR w J++post.set 0 y:=fun post y=>hset post 0 y
    have hfit:(i - 1)*4+4≤(qr r).length:=by rw [Zm9]; omega
    have hq4:rc q.num q.den=rq q:=rfl
    have bq:∀ (H:Heap) (ids:List Nat) (q:Rat),BVs H ids (rq q) (rq q)=True:=fun H ids q=>Zb2
    have c0:1+c<1+c+1+1:=by omega
    have c1:1+c+1<1+c+1+1:=by omega
    simp only [go_sem,Zgl,Zfz,Zi5,Zjb,Zo7,hmx,q0,q1,hlsl,hlsx,k1,k2]
    refine Zaa ho (by simp only [go_sem]) ?_
    simp only [go_sem,avR,hq4,Zdq,Zb6,Zf9,List.append_assoc,hlen',gO,gO0,hset,hset0,Zi6,hmx,w1,p0,p1,List.getElem?_drop,t1,u1,c0,c1]
    refine Zaa x1 (by simp only [go_sem,bq]) ?_
    simp only [go_sem]
    refine Zaa x3 (by simp only [go_sem,x2]) ?_
    simp only [go_sem,hlen',gO,gO0,hset,hset0,Zdq,Zb6,Zf9,p0,p1,c0,c1,hfit]
    rw [Ymn (by omega)]
    by_cases hb0:b=0
    ·have k3:¬ (b:Int) > 0:=by omega
     have hst:rowStep i a b q r=r.set (i - 1) (rget r (i - 1)+q):=by unfold rowStep; rw [if_pos h2,if_pos hb0]
     simp only [go_sem,Zgb,k3,Zdp,e1]
     exact fin _ _ hst (by simp only [go_sem])
    ·have k3:(b:Int) > 0:=by omega
     have hst:rowStep i a b q r=(r.set (i - 1) (rget r (i - 1)+q)).set (b - 1) (rget (r.set (i - 1) (rget r (i - 1)+q)) (b - 1) - q):=by unfold rowStep; rw [if_pos h2,if_neg hb0]
     have hrb1:Rb 392000 (r.set (i - 1) (rget r (i - 1)+q)):=fun y hy=>by
      rcases List.mem_or_eq_of_mem_set hy with h' | h'
      ·exact (hrb y h').mono (by omega)
      ·rw [h']; exact ((hrb.get (j:=i - 1) (by omega)).add2 hqb).mono (by omega)
     have hr1:(r.set (i - 1) (rget r (i - 1)+q)).length=m:=by rw [List.length_set,hrl]
     generalize r.set (i - 1) (rget r (i - 1)+q)=r1 at *
     have w2:IntKind.i64.wrap ((b:Int) - 1)=((b - 1:Nat):Int):=by rw [Zac (by omega) (by omega)]; omega
     have p2:(0:Int)≤((b - 1:Nat):Int):=by omega
     have p3:((b - 1:Nat):Int)<(m:Int):=by omega
     have t2:=Zgg (Zag (show b - 1<r1.length by omega))
     have u2:=Zkm (Zag (show b - 1<r1.length by omega))
     obtain ⟨Y,y1,y2,y3⟩:=Y7w (k:=392000) (hrb1.get (j:=b - 1) (by omega)) (hqb.mono (by omega)) (by omega)
     have hfit1:(b - 1)*4+4≤(qr r1).length:=by rw [Zm9]; omega
     simp only [go_sem,Zgb,k3,Zje,hmx,hlen',gO,gO0,hset,hset0,Zdq,Zb6,Zf9,w2,p2,p3,List.getElem?_drop,t2,u2,c0,c1]
     refine Zaa y1 (by simp only [go_sem,bq]) ?_
     simp only [go_sem]
     refine Zaa y3 (by simp only [go_sem,y2]) ?_
     simp only [go_sem,hlen',gO,gO0,hset,hset0,Zdq,Zb6,Zf9,p2,p3,c0,c1,hfit1,Zdp,e1]
     rw [Ymn (by omega)]
     exact fin _ _ hst (by simp only [go_sem])
   ·have hst:rowStep i a b q r=r:=by unfold rowStep; rw [if_neg h2,if_neg h1]
    have k1:¬ (b:Int)=(i:Int):=by omega
    have k2:¬ (a:Int)=(i:Int):=by omega
    simp only [go_sem,Zgl,Zfz,Zi5,Zjb,Zdp,hmx,q0,q1,hlsl,hlsx,k1,k2,e1]
    refine hN (t+1) _ (by omega) (by omega) (Zcj (Zab [(0,.int .i64 ((m+1:Nat):Int)),(1,.sl ls),(2,fs),(7,.osl none 0 0 c),(8,.int .i64 (i:Int)),(9,.osl (some 4) (1+c) 0 m),(11,.int .i64 ((t+1:Nat):Int))] (by simp only [go_sem])) (by rw [tk,hst]))
 ·have hte:t=L.length:=by omega
  subst hte
  have q1:¬ ((L.length:Nat):Int)<(L.length:Int):=by omega
  simp only [go_sem,Zgl,q1,hlsl,List.take_length]
  exact hK _ (by simp only [go_sem]) (by simp only [go_sem]) (by simp only [go_sem]) (by simp only [go_sem]) (by simp only [go_sem]) (by simp only [go_sem])
end GoAbs
namespace GoAbs
open Go Go.Proofs
end GoAbs
namespace GoAbs
open Go Go.Proofs
set_option exponentiation.threshold 20000
end GoAbs
namespace GoAbs
open Go Go.Proofs
set_option exponentiation.threshold 20000
def lt1 (a b i:Nat):List UInt8:=if i=b then [45,49] else if i=a then [49] else [48]
end GoAbs
namespace GoAbs
open Go Go.Proofs
set_option exponentiation.threshold 20000
theorem Yrt {m:Nat}{E:List Sp}{f:List Rat}(h:NetC (m+1) E) (hf:f.length=m+1):Sol (m+1) E (rget (moveX m E f)) (rget f):=fun i hi=>by
 obtain ⟨hp,hP,hI⟩:=Z6v h.ok
 have hd:=h.dt.1
 have hi':=List.mem_range'_1.1 hi
 have hs:=(Z5u (m:=m) (E:=E) (r:=f.drop 1) (fun e he=>⟨by have:=(hI e he).1; omega,by have:=(hI e he).2; omega,(h.ok.e e he).2.2.1,hP e he⟩) (by rw [List.length_drop]; omega) hd).2.2.2 i (by rw [List.mem_range'_1]; omega)
 rw [Zt0,show i - 1+1=i by omega] at hs
 exact hs
theorem Yq1 {m:Nat}{E:List Sp}{f:List Rat}:(moveX m E f).length=m+1:=by unfold moveX; rw [List.length_cons,Zfp]
theorem Y3r {m p q:Nat}{x:Nat→Rat}(hp:p<m+1) (hq:q<m+1) (h0:x 0=0):dotN (m+1) (edge p q) x=x p - x q:=by
 unfold dotN
 exact Ylf (by omega) (by omega) h0
def Gr (n:Nat) (E:List Sp) (a b:Nat):Rat:=if a=b then 0 else oneF n a b E
theorem Y46 {n a b:Nat}{E:List Sp}:Rr n E a b=Gr n E a b / Fsum n id (n - 1) E:=by
 unfold Rr Gr; split
 ·grind
 ·rfl
theorem NetL.netC {n:Nat}{L:List Spr}(h:NetL n L) (h2:2≤n) (h6:n≤6) (hc:connE n (L.map toE)):NetC n (L.map toE):=⟨(h.read h2 h6).2,hc⟩
theorem NetL.grb {n a b:Nat}{L:List Spr}(h:NetL n L) (h2:2≤n) (ha:a<n) (hb:b<n):Qb 900 (Gr n (L.map toE) a b):=by
 unfold Gr
 split
 ·exact Qb.zero (by omega)
 ·rename_i hab
  rw [Znf h2 h ha hb hab]
  have hone:=Yqf h (low:=min a b) (high:=max a b) (by omega) (by omega)
  have c:10 ^ 260<2 ^ 900:=by decide+kernel
  exact ⟨Nat.lt_trans hone.size.1 c,Nat.lt_trans hone.size.2 c⟩
theorem Yu5 {m a b p q:Nat}{L:List Spr}(h:NetL (m+1) L) (hm5:m≤5) (hm:1≤m) (hc:connE (m+1) (L.map toE)) (ha:a<m+1) (hb:b<m+1) (hp:p<m+1) (hq:q<m+1) {x:Nat→Rat}(hx:Sol (m+1) (L.map toE) x (edge a b)) (h0:x 0=0) :
  Qb 4505 (x p - x q):=by
 have hn:=h.netC (by omega) (by omega) hc
 have ht:=hn.transfer ha hb hp hq hx
 rw [Y3r hp hq h0] at ht
 rw [ht,Y46,Y46,Y46,Y46]
 have hD:=hn.dt.2
 have kD:Qb 900 (Fsum (m+1) id (m+1 - 1) (L.map toE)):=by
  have c:10 ^ 260<2 ^ 900:=by decide+kernel
  exact ⟨Nat.lt_trans h.size.1 c,Nat.lt_trans h.size.2 c⟩
 have g1:=h.grb (a:=p) (b:=b) (by omega) hp hb
 have g2:=h.grb (a:=q) (b:=a) (by omega) hq ha
 have g3:=h.grb (a:=p) (b:=a) (by omega) hp ha
 have g4:=h.grb (a:=q) (b:=b) (by omega) hq hb
 generalize Fsum (m+1) id (m+1 - 1) (L.map toE)=D at *
 generalize Gr (m+1) (L.map toE) p b=A at *
 generalize Gr (m+1) (L.map toE) q a=B at *
 generalize Gr (m+1) (L.map toE) p a=C at *
 generalize Gr (m+1) (L.map toE) q b=F at *
 have hD0:D≠0:=by grind
 have e:(A / D+B / D - C / D - F / D) / 2=(A+B - C - F) / (2*D):=by grind
 rw [e]
 have k2:Qb 2 (2:Rat):=⟨by decide+kernel,by decide+kernel⟩
 exact ((((g1.add2 g2).sub2 g3).sub2 g4).div2 (k2.mul2 kD) (by grind)).mono (by omega)
theorem Ywa {k:Nat}{q:Rat}(h:Qb k q) (hk:k≤12000):NumOk q:=by
 have e:2 ^ k≤10 ^ 4000:=by
  have h1:2 ^ k≤2 ^ 12000:=Nat.pow_le_pow_right (by omega) hk
  have h2:2 ^ 12000=8 ^ 4000:=by rw [show (8:Nat)=2 ^ 3 by decide, ← Nat.pow_mul]
  have h3:8 ^ 4000≤10 ^ 4000:=Nat.pow_le_pow_left (by omega) _
  rw [h2] at h1
  exact Nat.le_trans h1 h3
 exact ⟨Zv8 (by omega) (Nat.lt_of_lt_of_le h.n e),.inr (Zv8 (by omega) (Nat.lt_of_lt_of_le h.d e))⟩
theorem Yt8 {n i:Nat}{f:Nat→Rat}(hi:i<n):rget ((List.range n).map f) i=f i:=by
 unfold rget
 rw [List.getD_eq_getElem?_getD,List.getElem?_map,List.getElem?_range hi]; rfl
theorem Yv9 {a b i:Nat}(hab:a≠b):edge a b i=0∨edge a b i=1∨edge a b i = -1:=by
 unfold edge
 by_cases h1:i=a <;> by_cases h2:i=b <;> simp [h1,h2,hab] <;> grind
theorem Y1b {a b i:Nat}(hab:a≠b):Qb 2 (edge a b i):=by
 rcases Yv9 (i:=i) hab with h | h | h <;> rw [h] <;> exact ⟨by decide+kernel,by decide+kernel⟩
end GoAbs
namespace GoAbs
open Go Go.Proofs
theorem Y48 {T:RM}{n i c:Nat}(h:c<i):rget (solR T n i) c=mget T c n / mget T c c:=by
 unfold solR; exact Yt8 h
theorem Yoy {m:Nat}{E:List Sp}{f:List Rat}(h:NetC (m+1) E) (hf:f.length=m+1) :
  Piv m 0 (aug (lapl m E) (f.drop 1))∧Wid (m+1) (aug (lapl m E) (f.drop 1))∧(aug (lapl m E) (f.drop 1)).length=m∧(∀ i,i<m→mget (jorN m 0 (aug (lapl m E) (f.drop 1))) i i≠0) ∧
  (0:Rat)::solR (jorN m 0 (aug (lapl m E) (f.drop 1))) m m=moveX m E f:=by
 obtain ⟨hp,hP,hI⟩:=Z6v h.ok
 have hE:∀ e,e∈E→e.1≤m∧e.2.1≤m∧e.1≠e.2.1:=fun e he=>⟨by have:=(hI e he).1; omega,by have:=(hI e he).2; omega,(h.ok.e e he).2.2.1⟩
 obtain ⟨lW,lL⟩:=Zdl (m:=m) (E:=E)
 have hr:(f.drop 1).length=m:=by rw [List.length_drop]; omega
 have aW:=Yi0 (r:=f.drop 1) lW
 have aL:(aug (lapl m E) (f.drop 1)).length=m:=by rw [Z04 (by rw [hr,lL]),lL]
 have ag:=fun i hi=>Ya2 (M:=lapl m E) (r:=f.drop 1) (m:=m) (i:=i) lL lW hr hi
 have hs:=Yrt (m:=m) (E:=E) (f:=f) h hf
 have hj:=Ysg (m:=m) (x:=rget (moveX m E f)) (k:=m) (c:=0) (M:=aug (lapl m E) (f.drop 1)) (A:=Lm id E) (by omega) aL aW (Zvj (p:=id) hP) h.dt.1
  (fun i j _ hi _ hj=>by rw [(ag i hi).1 j hj,Z5r hE]) (fun i j _ hj _=>by omega) (fun j hj=>by omega)
  (fun i hi=>by
   rw [(ag i hi).2,Zt0, ← hs (i+1) (by show i+1∈List.range' 1 (m+1 - 1); rw [List.mem_range'_1]; omega)]
   show _=sumL (List.range' 1 (m+1 - 1)) _
   rw [Nat.add_sub_cancel]
   refine Zal (fun j hj=>?_)
   have hj':=List.mem_range'_1.1 hj
   rw [(ag i hi).1 (j - 1) (by omega),Z5r hE,show j - 1+1=j by omega])
 refine ⟨hj.1,aW,aL,fun i hi=>(hj.2.2 i hi).1,?_⟩
 have hl:((0:Rat)::solR (jorN m 0 (aug (lapl m E) (f.drop 1))) m m).length=m+1:=by simp [solR]
 apply List.ext_getElem?
 intro i
 by_cases hi:i<m+1
 ·rw [Zag (by omega),Zag (by rw [Yq1]; exact hi)]
  congr 1
  cases i with
  | zero=>rfl
  | succ i =>
   show rget (solR _ m m) i=_
   rw [Y48 (by omega),(hj.2.2 i (by omega)).2]
 ·rw [List.getElem?_eq_none (by omega),List.getElem?_eq_none (by rw [Yq1]; omega)]
theorem Y6w {k:Nat}{M:RM}{r:List Rat}(hM:Mb k M) (hr:Rb k r):Mb k (aug M r):=fun row h=>by
 unfold aug at h
 obtain ⟨i,hi,rfl⟩:=List.mem_iff_getElem.1 h
 rw [List.length_zipWith] at hi
 rw [List.getElem_zipWith]
 intro x hx
 rcases List.mem_append.1 hx with h' | h'
 ·exact hM _ (List.getElem_mem _) x h'
 ·rw [List.mem_singleton.1 h']; exact hr _ (List.getElem_mem _)
def rowsM (m:Nat) (E:List Sp) (f:List Rat) (c:Nat):RM:=(List.range c).map fun i=>rowE (i+1) m E ++ [rget f (i+1)]
theorem Zup {m c:Nat}{E:List Sp}{f:List Rat}:(rowsM m E f c).length=c:=by simp [rowsM]
theorem Yu1 {m c:Nat}{E:List Sp}{f:List Rat}:rowsM m E f (c+1)=rowsM m E f c ++ [rowE (c+1) m E ++ [rget f (c+1)]]:=by unfold rowsM; rw [List.range_succ,List.map_append]; rfl
theorem Yx3 {m:Nat}{E:List Sp}{f:List Rat}(hE:∀ e,e∈E→e.1≤m∧e.2.1≤m∧e.1≠e.2.1) (hf:f.length=m+1):rowsM m E f m=aug (lapl m E) (f.drop 1):=by
 obtain ⟨lW,lL⟩:=Zdl (m:=m) (E:=E)
 have hr:(f.drop 1).length=m:=by rw [List.length_drop]; omega
 have aL:(aug (lapl m E) (f.drop 1)).length=m:=by rw [Z04 (by rw [hr,lL]),lL]
 apply List.ext_getElem?
 intro i
 by_cases hi:i<m
 ·rw [Yn3 (Y0y hi hE) (Zag (r:=f.drop 1) (by omega)),Zt0]
  unfold rowsM
  rw [List.getElem?_map,List.getElem?_range hi]; rfl
 ·rw [List.getElem?_eq_none (by rw [Zup]; omega),List.getElem?_eq_none (by omega)]
end GoAbs
namespace GoAbs
open Go Go.Proofs
theorem Yeu:(∀ (k s b:Nat) (t:List Nat),s≤b→b<s+k→pos (List.range' s k++t) b=some (b - s))∧(∀ k s x:Nat,s+k≤x→pos (List.range' s k ++ [x]) x=some k):=by
 constructor
 ·intro k
  induction k with
  | zero=>intro s b t h1 h2; omega
  | succ k ih =>
   intro s b t h1 h2
   rw [List.range'_succ,List.cons_append]
   unfold pos
   by_cases h:s=b
   ·rw [if_pos h,h,Nat.sub_self]
   ·rw [if_neg h,ih (s+1) b t (by omega) (by omega)]
    simp only [Option.map_some,Option.some.injEq]
    omega
 ·intro k
  induction k with
  | zero=>intro s x _; show pos [x] x=some 0; unfold pos; rw [if_pos rfl]
  | succ k ih =>
   intro s x h
   rw [List.range'_succ,List.cons_append]
   unfold pos
   rw [if_neg (by omega),ih (s+1) x (by omega)]
   rfl
theorem Yog {i:Nat}:(∀ j,j<i→pos ((i+5)::(List.range' 1 i ++ [i+3])) (1+j)=some (1+j))∧pos ((i+5)::(List.range' 1 i ++ [i+3])) (i+3)=some (i+1)∧pos ((i+5)::(List.range' 1 i ++ [i+3])) (i+5)=some 0:=by
 refine ⟨fun j hj=>?_,?_,by unfold pos; rw [if_pos rfl]⟩
 ·unfold pos
  rw [if_neg (by omega),Yeu.1 i 1 (1+j) _ (by omega) (by omega)]
  simp only [Option.map_some,Option.some.injEq]; omega
 ·unfold pos
  rw [if_neg (by omega),Yeu.2 i 1 (i+3) (by omega)]
  rfl
theorem Xad {nt w i:Nat}{e:Nat→AV}{M:RM}{r:List Rat}{b1 b2 b3:Blk}(hM:M.length=i) (l:List (Nat×AV)) (hl:Has e l) :
  Le nt 0 ⟨e,.dead::(rowsR M ++ [b1,b2,.cells (qr r),b3,.cells (ptrR w i ++ [.osl (some 4) (i+3) 0 w])])⟩ ⟨envL (l.map fun p=>(p.1,p.2.gc (pos ((i+5)::(List.range' 1 i ++ [i+3]))))),matR w (M ++ [r])⟩:=by
 have hrl:(rowsR M).length=i:=by simp [rowsR,hM]
 refine Zcj (Zjv ((i+5)::(List.range' 1 i ++ [i+3])) ?_ (fun i hi=>by omega) l hl) (congrArg (St.mk _) ?_)
 ·rw [List.nodup_cons,List.mem_append,List.mem_range'_1,List.mem_singleton,List.nodup_append]
  refine ⟨by omega,List.nodup_range',by simp,fun a ha b hb=>?_⟩
  rw [List.mem_range'_1] at ha; rw [List.mem_singleton] at hb; omega
 ·show List.map (fun j=>((Blk.dead::(rowsR M ++ [b1,b2,.cells (qr r),b3,.cells (ptrR w i ++ [.osl (some 4) (i+3) 0 w])])).getD j Blk.dead).gc (pos ((i+5)::(List.range' 1 i ++ [i+3])))) ((i+5)::(List.range' 1 i ++ [i+3]))=_
  rw [List.map_cons,List.map_append,List.map_singleton]
  have hp:(Blk.dead::(rowsR M ++ [b1,b2,.cells (qr r),b3,.cells (ptrR w i ++ [.osl (some 4) (i+3) 0 w])])).getD (i+5) Blk.dead = .cells (ptrR w i ++ [.osl (some 4) (i+3) 0 w]):=by
   rw [List.getD_eq_getElem?_getD,show i+5=(i+4)+1 by omega,List.getElem?_cons_succ,List.getElem?_append_right (by omega),hrl,show i+4 - i=4 by omega]
   rfl
  have hr:(Blk.dead::(rowsR M ++ [b1,b2,.cells (qr r),b3,.cells (ptrR w i ++ [.osl (some 4) (i+3) 0 w])])).getD (i+3) Blk.dead = .cells (qr r):=by
   rw [List.getD_eq_getElem?_getD,show i+3=(i+2)+1 by omega,List.getElem?_cons_succ,List.getElem?_append_right (by omega),hrl,show i+2 - i=2 by omega]
   rfl
  rw [hp,hr]
  unfold matR
  rw [List.length_append,hM]
  have hrs:rowsR (M ++ [r])=rowsR M ++ [.cells (qr r)]:=by unfold rowsR; rw [List.map_append]; rfl
  rw [hrs]
  congr 1
  ·show Blk.gc _ (Blk.cells (ptrR w i ++ [.osl (some 4) (i+3) 0 w]))=Blk.cells (ptrR w (i+1))
   rw [Yl4]
   simp only [Blk.gc,Zau,List.map_append,List.map_cons,List.map_nil]
   congr 2
   ·unfold ptrR
    rw [List.map_map]
    refine List.map_congr_left fun j hj=>?_
    have hj':=List.mem_range.1 hj
    simp only [Function.comp,AV.gc]
    rw [Yog.1 j (by omega)]
   ·simp only [AV.gc]
    rw [Yog.2.1,Nat.add_comm i 1]
  ·congr 1
   ·apply List.ext_getElem?
    intro j
    rw [List.getElem?_map]
    by_cases hj:j<i
    ·rw [List.getElem?_range' hj]
     show some (Blk.gc _ ((Blk.dead::(rowsR M ++ [b1,b2,.cells (qr r),b3,.cells (ptrR w i ++ [.osl (some 4) (i+3) 0 w])])).getD (1+1*j) Blk.dead))=_
     have hg:(Blk.dead::(rowsR M ++ [b1,b2,.cells (qr r),b3,.cells (ptrR w i ++ [.osl (some 4) (i+3) 0 w])])).getD (1+1*j) Blk.dead = .cells (qr (M.getD j [])):=by
      rw [List.getD_eq_getElem?_getD,show 1+1*j=j+1 by omega,List.getElem?_cons_succ,List.getElem?_append_left (by omega)]
      unfold rowsR
      rw [List.getElem?_map,getD_some (by omega)]; rfl
     rw [hg]
     unfold rowsR
     rw [List.getElem?_map,getD_some (M:=M) (by omega)]
     simp only [Blk.gc,Yfb,Option.map_some]
    ·rw [List.getElem?_eq_none (by rw [List.length_range']; omega),List.getElem?_eq_none (by omega)]; rfl
   ·simp only [Blk.gc,Yfb]
theorem Y9x {w n:Nat}{M:RM}(hn:M.length=n) (hW:Wid w M):BV (matR w M) (allOf (matR w M)) (.osl none 0 0 n) (.sl (rowsV M)):=by
 have hv:(rowsV M).length=n:=by simp [rowsV,hn]
 have hall:∀ i,i<1+n→i∈allOf (matR w M):=fun i hi=>by
  unfold allOf; rw [List.mem_range,Zay]; omega
 refine .osl none 0 0 n (ptrR w n) (rowsV M) (by unfold matR; rw [hn]; rfl) (hall 0 (by omega)) hv (fun x hx=>?_) (by rw [Zll]; simp [es]) (fun i x j y z hx hy hz=>?_)
 ·unfold rowsV at hx; obtain ⟨r,_,rfl⟩:=List.mem_map.1 hx; rfl
 ·have hi:i<n:=by have:=(List.getElem?_eq_some_iff.1 hx).1; omega
  have hri:M[i]? = some (M.getD i []):=getD_some (by omega)
  have hx':x=rowV (M.getD i []):=by
   unfold rowsV at hx; rw [List.getElem?_map,hri] at hx; exact (Option.some.inj hx).symm
  subst hx'
  have hj:j=0:=by
   have:=(List.getElem?_eq_some_iff.1 hy).1
   unfold rowV at this; simp [AV.cells] at this; omega
  subst hj
  have hy':y=rowV (M.getD i []):=by unfold rowV at hy ⊢; simp [AV.cells] at hy; exact hy.symm
  subst hy'
  have hz':z = .osl (some 4) (1+i) 0 w:=by
   simp only [es,Nat.mul_one,Nat.add_zero,Nat.zero_add] at hz
   unfold ptrR at hz
   rw [List.getElem?_map,List.getElem?_range hi] at hz
   exact (Option.some.inj hz).symm
  subst hz'
  have hw:=hW.get (i:=i) (by omega)
  have:=Yi6 (H:=matR w M) (ids:=allOf (matR w M)) (b:=1+i) (x:=M.getD i []) (by have:=Zjc (w:=w) (post := []) hri; rwa [List.append_nil] at this) (hall _ (by omega))
  rwa [hw] at this
theorem Xd8 {m l:Nat}{L:List Spr}{ls:List AV}{f:List Rat}(hls:ls=L.map sprAV) (hL:L.length≤1000) (hm:m≤900) (hl1:1≤l) (hl:l≤1000) (hf:f.length=m+1)
  (hok:∀ s,s∈L→EndsOk ((m+1:Nat):Int) s.1 s.2.1∧s.2.2.length≤1000000000∧∃ q,parseL s.2.2=some q∧Qb l q) (hb:1+L.length*(2*(l+1))≤390000) {K:Ex→St→Prop}
  (hK:∀ e:Nat→AV,e 0 = .int .i64 ((m+1:Nat):Int)→e 7 = .osl none 0 0 m→K (.exit 0) ⟨e,matR (m+1) (rowsM m (L.map toE) f m)⟩) :
  T Tryz.prog 110 0 (.loop Zve) ⟨envL [(0,.int .i64 ((m+1:Nat):Int)),(1,.sl ls),(2,rowV f),(7,.osl none 0 0 0),(8,.int .i64 1)],matR (m+1) []⟩ K:=by
 have hmx:Tryz.prog.follows .mixedOrders=true:=by kernel_rfl
 refine Zae (fun c:Nat=>⟨envL [(0,.int .i64 ((m+1:Nat):Int)),(1,.sl ls),(2,rowV f),(7,.osl none 0 0 c),(8,.int .i64 ((c+1:Nat):Int))],matR (m+1) (rowsM m (L.map toE) f c)⟩)
  (fun c=>c≤m) (fun c=>m - c) 0 (by omega) (Zab _ (by simp only [go_sem]; simp)) (fun c hc N hN=>?_)
 unfold Zve
 by_cases hcm:c<m
 ·have q1:((c+1:Nat):Int)<((m+1:Nat):Int):=by omega
  simp only [go_sem,Zu6,Z9w,Z7z,q1]
  refine T_le (Zik 9 (some 4) (by simp only [go_sem]) [(0,.int .i64 ((m+1:Nat):Int)),(1,.sl ls),(2,rowV f),(7,.osl none 0 0 c),(8,.int .i64 ((c+1:Nat):Int)),(10,.int .i64 1)] (by simp only [go_sem])) ?_
  refine Zas [(0,.int .i64 ((m+1:Nat):Int)),(1,.sl ls),(2,rowV f),(7,.osl none 0 0 c),(8,.int .i64 ((c+1:Nat):Int)),(9,.osl (some 4) (1+c) 0 0),(10,.int .i64 1)] (by simp only [go_sem,Zay,Zup]) ?_
  refine Xdr (w:=m+1) (J:=rowsM m (L.map toE) f c) Zup (by omega) (fun g=>rfl) (fun g=>rfl) (fun e e0 e1 e2 e7 e8 e9=>?_)
  simp only [go_sem,Z3p]
  refine Zas [(0,.int .i64 ((m+1:Nat):Int)),(1,.sl ls),(2,rowV f),(7,.osl none 0 0 c),(8,.int .i64 ((c+1:Nat):Int)),(9,.osl (some 4) (1+c) 0 m),(11,.int .i64 0)] (by simp only [go_sem,e0,e1,e2,e7,e8,e9]) ?_
  refine Xfk (w:=m+1) (J:=rowsM m (L.map toE) f c) hls hL Zup (by omega) (by omega) (by omega) hl1 hl (fun g=>rfl) hok hb (fun e e0 e1 e2 e7 e8 e9=>?_)
  have tk:=Yu1 (m:=m) (c:=c) (E:=L.map toE) (f:=f)
  have hJ:(rowsM m (L.map toE) f c).length=c:=Zup
  generalize rowsM m (L.map toE) f c=J at *
  have hr:(rowE (c+1) m (L.map toE)).length=m:=Ya1
  generalize rowE (c+1) m (L.map toE)=r at *
  have hfl:(f.map fun q=>AV.agg (rq q)).length=m+1:=by rw [List.length_map,hf]
  have hg:(f.map fun q=>AV.agg (rq q))[c+1]? = some (.agg (rq (rget f (c+1)))):=by rw [List.getElem?_map,Zag (by omega)]; rfl
  have q0:(0:Int)≤((c+1:Nat):Int):=by omega
  have q2:((c+1:Nat):Int).toNat=c+1:=by omega
  have w1:IntKind.i64.wrap (((c+1:Nat):Int)+1)=((c+1+1:Nat):Int):=by rw [Zac (by omega) (by omega)]; omega
  have hform:matR (m+1) J = .cells (ptrR (m+1) c)::rowsR J:=by unfold matR; rw [hJ]
  have pl:=Zll (m+1) c
  have pt:(ptrR (m+1) c).take c=ptrR (m+1) c:=List.take_of_length_le (by omega)
  have ql:(qr r).length=m*4:=by rw [Zm9,hr]
  have qt:(qr r).take (m*4)=qr r:=List.take_of_length_le (by omega)
  have s1:(m+1)*64≤1099511627776:=by omega
  have s2:(c+1)*24≤1099511627776:=by omega
  have gL:∀ post:Heap,(matR (m+1) J++post).length=1+c+post.length:=fun post=>by rw [Zhz,hJ]
  have gO:∀ (post:Heap) (t:Nat),(matR (m+1) J++post)[1+c+t]? = post[t]?:=fun post t=>Zgj hJ
  have gO0:∀ (post:Heap),(matR (m+1) J++post)[1+c]? = post[0]?:=fun post=>gO post 0
  have gP:∀ post:Heap,(matR (m+1) J++post)[0]? = some (.cells (ptrR (m+1) c)):=fun post=>by rw [hform]; rfl
  have hset0:∀ (post:Heap) (bl:Blk),(matR (m+1) J++post).set 0 bl=bl::(rowsR J++post):=fun post bl=>by rw [hform]; rfl
  have hsetC:∀ (post:Heap) (y:Blk),(matR (m+1) J++post).set (1+c) y=matR (m+1) J++post.set 0 y:=fun post y=>by
   rw [List.set_append_right _ _ (by rw [Zay]; omega),Zay,hJ]
   congr 2; omega
  have hln:∀ a b c' d:Blk,(rowsR J ++ [a,b,c',d]).length+1=c+5:=fun a b c' d=>by simp [rowsR,hJ]
  have hc3:1+c+2=c+3:=by omega
  unfold rowV at e2
  simp only [go_sem,Z5m,e0,e1,e2,e7,e8,e9,hfl,hg,q0,q1,q2,Zdq,Zb6,Zf9,List.append_assoc,gL,gO,gO0,gP,hsetC,hset0,pl,pt,ql,qt,s1,s2,Z4b,w1,hc3]
  refine ⟨Nat.le_refl _,Nat.le_refl _,hN (c+1) _ (by omega) (by omega) ?_⟩
  rw [tk]
  have hqr:qr (r ++ [rget f (c+1)])=qr r++rq (rget f (c+1)):=by rw [Zjo]; simp [qr]
  rw [← hqr]
  refine Zcj (Xad (i:=c) (r:=r ++ [rget f (c+1)]) hJ [(0,.int .i64 ((m+1:Nat):Int)),(1,.sl ls),(2,.sl (f.map fun q=>AV.agg (rq q))),(7,.osl none (c+5) 0 (c+1)),(8,.int .i64 ((c+1+1:Nat):Int))] (by simp only [go_sem,e0,e1,e2,hln])) ?_
  simp only [List.map_cons,List.map_nil,AV.gc]
  rw [Yog.2.2]
  rfl
 ·have hce:c=m:=by omega
  subst hce
  have q1:¬ ((c+1:Nat):Int)<((c+1:Nat):Int):=by omega
  simp only [go_sem,Zu6,q1]
  exact hK _ (by simp only [go_sem]) (by simp only [go_sem])
theorem rmove {m l k0:Nat}{L:List Spr}{f:List Rat}(h:NetC (m+1) (L.map toE)) (hL:L.length≤1000) (hm1:1≤m) (hm:m≤900) (hl1:1≤l) (hl:l≤1000) (hf:f.length=m+1)
  (hok:∀ s,s∈L→EndsOk ((m+1:Nat):Int) s.1 s.2.1∧s.2.2.length≤1000000000∧∃ q,parseL s.2.2=some q∧Qb l q) (hb:1+L.length*(2*(l+1))≤390000)
  (hB:Mb k0 (lapl m (L.map toE))) (hfB:Rb k0 f) (hk0:1≤k0) (hk:4 ^ (m - 1)*(3*k0+1)≤600001) :
  SpecV Tryz.prog Ygp [.int .i64 ((m+1:Nat):Int),.sl (L.map sprAV),rowV f] (rowV (moveX m (L.map toE) f)):=by
 obtain ⟨p1,p2,p3,p4,p5⟩:=Yoy h hf
 obtain ⟨_,_,hI⟩:=Z6v h.ok
 have hE:∀ e,e∈L.map toE→e.1≤m∧e.2.1≤m∧e.1≠e.2.1:=fun e he=>⟨by have:=(hI e he).1; omega,by have:=(hI e he).2; omega,(h.ok.e e he).2.2.1⟩
 have hag:=Yx3 (f:=f) hE hf
 have hMB:Mb k0 (aug (lapl m (L.map toE)) (f.drop 1)):=Y6w hB (fun x hx=>hfB x (List.mem_of_mem_drop hx))
 have hs:=rsolve p3 hm1 hm p2 hMB hk0 hk p1 p4
 have hmx:Tryz.prog.follows .mixedOrders=true:=by kernel_rfl
 have hsl:(solR (jorN m 0 (aug (lapl m (L.map toE)) (f.drop 1))) m m).length=m:=by simp [solR]
 rw [← p5]
 refine Zbh Ynt (by simp) (Zcx 3 rfl ?_)
 unfold Ynb
 unfold rowV
 simp only [go_sem,Z71,Z7i,Z9k]
 refine T_le (Zik 7 none (by simp only [go_sem]) [(0,.int .i64 ((m+1:Nat):Int)),(1,.sl (L.map sprAV)),(2,.sl (f.map fun q=>AV.agg (rq q))),(8,.int .i64 1)] (by simp only [go_sem])) ?_
 refine Zas [(0,.int .i64 ((m+1:Nat):Int)),(1,.sl (L.map sprAV)),(2,.sl (f.map fun q=>AV.agg (rq q))),(7,.osl none 0 0 0),(8,.int .i64 1)] (by simp only [go_sem]) ?_
 refine Xd8 rfl hL hm hl1 hl hf hok hb (fun e e0 e7=>?_)
 rw [hag]
 generalize aug (lapl m (L.map toE)) (f.drop 1)=M at *
 have w1:IntKind.i64.wrap (((m+1:Nat):Int) - 1)=(m:Int):=by rw [Zac (by omega) (by omega)]; omega
 have hbv:=Y9x p3 p2
 simp only [go_sem,Z44,e0,e7,w1]
 refine Zh5 (ids:=allOf (matR (m+1) M)) hs (by simp only [go_sem]; exact hbv) ?_
 unfold rowV
 simp only [go_sem]
 generalize solR (jorN m 0 M) m m=x at *
 refine T_le (Zjv [] (by simp) (fun i hi=>by omega) [(15,.sl (x.map fun q=>AV.agg (rq q)))] (by simp only [go_sem])) ?_
 show T Tryz.prog 110 0 _ ⟨envL [(15,.sl (x.map fun q=>AV.agg (rq q)))],[]⟩ _
 refine T_W ?_
 have w0:=rwhole (v:=0) (by decide)
 have cl:(rc 0 1).length=4:=rfl
 have ct:(rc 0 1).take 4=rc 0 1:=rfl
 have cd:(rc 0 1).drop 4 = []:=rfl
 have hxl:(x.map fun q=>AV.agg (rq q)).length=m:=by rw [List.length_map,hsl]
 have s1:(1+m)*64≤1099511627776:=by omega
 have ql:(qr x).length=m*4:=by rw [Zm9,hsl]
 simp only [go_sem,Z5s]
 refine Zaa w0 (by simp only [go_sem]) ?_
 simp only [go_sem,avR,cl,ct,cd,hxl,Yka,s1,ql]
 refine ⟨Ymz,?_⟩
 have:=Yi6 (H := [.dead,.cells (rc 0 1++qr x)]) (ids:=allOf [.dead,.cells (rc 0 1++qr x)]) (b:=1) (x:=0::x) (by show some (Blk.cells (rc 0 1++qr x))=_; rfl) (by simp [allOf])
 rwa [List.length_cons,hsl,Nat.add_comm m 1] at this
end GoAbs
namespace GoAbs
open Go Go.Proofs
set_option exponentiation.threshold 20000
def flowX (E:List Sp) (x:List Rat):List Rat:=E.map fun e=>e.2.2*(rget x e.1 - rget x e.2.1)
theorem Y3s {n a b e:Int}{L:List Spr}(he:e≠0) (h:SpecV Tryz.prog Zbb [.int .i64 n,.sl (L.map sprAV),.int .i64 a,.int .i64 b] (.tup [.agg netZ,.nils,.int .i64 e])) :
  SpecV Tryz.prog Zph [.int .i64 n,.sl (L.map sprAV),.int .i64 a,.int .i64 b] (.tup [.nils,.int .i64 e]):=by
 have hl3:netZ.length=3:=rfl
 have ht3:netZ.drop 3 = []:=rfl
 refine Zad Zz2 (by simp) ?_
 unfold Zui
 simp only [go_sem,Zj8,Zkh]
 refine Zaa h (by simp only [go_sem]) ?_
 simp only [go_sem,Zjp,Zt1,he,hl3,ht3]
theorem Y98 {k:Nat}{N0:AV}{E:List Sp}{x:List Rat}{ps cs:List AV}(hps:ps=pairsL E) (hcs:cs=condsL E) (hE:∀ e,e∈E→e.1<x.length∧e.2.1<x.length∧Qb 67 e.2.2) (hEl:E.length≤1000000) (hx:Rb k x) (hk1:67≤k) (hk:k≤60000000000) (hN0:∀ f,N0.gc f=N0) {K:Ex→St→Prop}
  (hK:∀ e:Nat→AV,e 13 = .osl (some 4) 1 0 E.length→K (.exit 0) ⟨e,[.cells [N0,.sl ps,.sl cs],.cells (qc (flowX E x))]⟩) :
  T Tryz.prog 61 0 (.loop Zkp) ⟨envL [(10,.ptr 0 0),(11,.sl (condsR x)),(13,.osl (some 4) 1 0 0),(29,.sl ps),(30,.int .i64 (E.length:Int)),(31,.int .i64 0)],[.cells [N0,.sl ps,.sl cs],.cells []]⟩ K:=by
 have hm:Tryz.prog.follows .mixedOrders=true:=by kernel_rfl
 have hpl:ps.length=E.length:=by rw [hps]; simp [pairsL]
 have hcl:cs.length=E.length:=by rw [hcs]; simp [condsL]
 refine Zae (fun i:Nat=>⟨envL [(10,.ptr 0 0),(11,.sl (condsR x)),(13,.osl (some 4) 1 0 i),(29,.sl ps),(30,.int .i64 (E.length:Int)),(31,.int .i64 (i:Int))],[.cells [N0,.sl ps,.sl cs],.cells (qc (flowX (E.take i) x))]⟩)
  (fun i=>i≤E.length) (fun i=>E.length - i) 0 (by omega) (Zab _ (by simp only [go_sem]; simp)) (fun i hi N hN=>?_)
 unfold Zkp
 by_cases hin:i<E.length
 ·obtain ⟨⟨a,b,q⟩,he⟩:∃ e:Sp,E[i]? = some e:=⟨_,List.getElem?_eq_getElem hin⟩
  obtain ⟨ha,hb,hq⟩:=hE _ (List.mem_of_getElem? he)
  simp only at ha hb hq
  have gp:ps[i]? = some (.agg [.int .i64 (a:Int),.int .i64 (b:Int)]):=by rw [hps]; unfold pairsL; rw [List.getElem?_map,he]; rfl
  have gk:cs[i]? = some (.agg (qcell q)):=by rw [hcs]; unfold condsL; rw [List.getElem?_map,he]; rfl
  have ga:=Zjm (Zag ha)
  have gb:=Zjm (Zag hb)
  have tk:flowX (E.take (i+1)) x=flowX (E.take i) x ++ [q*(rget x a - rget x b)]:=by
   rw [List.take_add_one,he]; unfold flowX; rw [List.map_append]; rfl
  have lF:(flowX (E.take i) x).length=i:=by unfold flowX; rw [List.length_map,List.length_take]; omega
  have b1:=(hx.get ha).sub2 (hx.get hb)
  have h1:=Y6i (k:=k) (hx.get ha) (hx.get hb) (by omega)
  have h2:=Y6k (k:=k+k+1) (hq.mono (by omega)) b1 (by omega)
  generalize rget x a=xa at *
  generalize rget x b=xb at *
  generalize flowX (E.take i) x=F at *
  have q0:(0:Int)≤(i:Int):=by omega
  have q1:(i:Int)<(E.length:Int):=by omega
  have a0:(0:Int)≤(a:Int):=by omega
  have b0:(0:Int)≤(b:Int):=by omega
  have e1:IntKind.i64.wrap ((i:Int)+1)=((i+1:Nat):Int):=by rw [Zac (by omega) (by omega)]; omega
  have l1:(qc F).length=i*4:=by rw [Z85,lF]
  have l2:(qc F).take (i*4)=qc F:=List.take_of_length_le (by omega)
  have l3:i*4≤(qc F).length:=by omega
  have s1:(i+1)*64≤1099511627776:=by omega
  have ql:∀ q:Rat,(qcell q).length=4:=fun q=>rfl
  have qt:∀ q:Rat,(qcell q).take 4=qcell q:=fun q=>rfl
  have qd:∀ q:Rat,(qcell q).drop 4 = []:=fun q=>rfl
  simp only [go_sem,Zkx,Ztu,Zkq,Zrj,hm,q0,q1,hpl,hcl,gp,gk,a0,b0,ga,gb,ql,qt,qd]
  refine Zaa h1 (by simp only [go_sem,Zcv,Zaq]) ?_
  simp only [go_sem]
  refine Zaa h2 (by simp only [go_sem,Zcv,Zaq]) ?_
  simp only [go_sem,Zcv,ql,qt,qd,l1,l2,l3,s1,e1]
  refine ⟨Nat.le_refl _,hN (i+1) _ (by omega) (by omega) (Zcj (Zjv [0,4] (by decide) (fun i hi=>by omega) [(10,.ptr 0 0),(11,.sl (condsR x)),(13,.osl (some 4) 4 0 (i+1)),(29,.sl ps),(30,.int .i64 (E.length:Int)),(31,.int .i64 ((i+1:Nat):Int))] (by simp only [go_sem])) ?_)⟩
  have hqc:qc (flowX (E.take (i+1)) x)=qc F++qcell (q*(xa - xb)):=by rw [tk,Z5c]; simp [qc]
  show St.mk _ [Blk.cells [N0.gc _,AV.sl ps,AV.sl cs],Blk.cells (gcL _ (qc F++qcell (q*(xa - xb))))]=_
  rw [← hqc,Y5w,hN0]
  rfl
 ·have hie:i=E.length:=by omega
  subst hie
  have q1:¬ ((E.length:Nat):Int)<(E.length:Int):=by omega
  simp only [go_sem,Zkx,q1,List.take_length]
  exact hK _ (by simp only [go_sem])
theorem Xa5 {n a b k:Nat}{L:List Spr}{E:List Sp}{x:List Rat}(h:SpecV Tryz.prog Zbb [.int .i64 (n:Int),.sl (L.map sprAV),.int .i64 (a:Int),.int .i64 (b:Int)] (.tup [.agg (netC n E),.sl (condsR x),.int .i64 0]))
  (hE:∀ e,e∈E→e.1<x.length∧e.2.1<x.length∧Qb 67 e.2.2) (hEl:E.length≤1000000) (hx:Rb k x) (hk1:67≤k) (hk:k≤60000000000) :
  SpecV Tryz.prog Zph [.int .i64 (n:Int),.sl (L.map sprAV),.int .i64 (a:Int),.int .i64 (b:Int)] (numsR (flowX E x)):=by
 have hfl:(flowX E x).length=E.length:=by simp [flowX]
 have hns:=Yzk (x:=flowX E x) (fun q hq=>by
  obtain ⟨e,he,rfl⟩:=List.mem_map.1 hq
  obtain ⟨ha,hb,hq⟩:=hE e he
  have b2:=hq.mul2 ((hx.get ha).sub2 (hx.get hb))
  exact ⟨Zv0 b2.n (by omega),Zv0 b2.d (by omega)⟩) (by omega)
 have hbv:=Yau (H := [.cells (netC n E),.cells (qc (flowX E x))]) (ids := [1]) (b:=1) (r:=flowX E x) rfl (by simp)
 rw [hfl] at hbv
 obtain ⟨ps,hps⟩:∃ ps,ps=pairsL E:=⟨_,rfl⟩
 obtain ⟨cs,hcs⟩:∃ cs,cs=condsL E:=⟨_,rfl⟩
 have hn:netC n E = [.int .i64 (n:Int),.sl ps,.sl cs]:=by rw [hps,hcs]; rfl
 have hpl:ps.length=E.length:=by rw [hps]; simp [pairsL]
 rw [hn] at h hbv
 refine Zbh Zz2 (by simp) (Zcx 3 rfl ?_)
 unfold Zui
 simp only [go_sem,Zj8,Zkh]
 refine Zaa h (by simp only [go_sem]) ?_
 simp only [go_sem,Zjp,Zuw]
 refine T_le (Zik 13 (some 4) (by simp only [go_sem]) [(10,.ptr 0 0),(11,.sl (condsR x)),(8,.nils),(9,.int .i64 0)] (by simp only [go_sem])) ?_
 refine T_W ?_
 simp only [go_sem,Zv4,hpl]
 refine Zas [(10,.ptr 0 0),(11,.sl (condsR x)),(13,.osl (some 4) 1 0 0),(29,.sl ps),(30,.int .i64 (E.length:Int)),(31,.int .i64 0)] (by simp only [go_sem]) ?_
 refine Y98 hps hcs hE hEl hx hk1 hk (fun f=>rfl) (fun e e13=>?_)
 simp only [go_sem,Zq5,e13]
 refine Zh5 (ids := [1]) hns (by simp only [go_sem]; exact hbv) ?_
 unfold numsR
 by_cases hall:∀ q,q∈flowX E x→NumOk q
 ·simp only [if_pos hall,go_sem]
 ·simp only [if_neg hall,go_sem]
theorem Yzm {m a b:Nat}{L:List Spr}{E:List Sp}(hE:E=L.map toE) (hL:L.length≤40) (hl:∀ s,s∈L→s.2.2.length≤1000000000) (h:readR ((m+1:Nat):Int) L = .tup [.agg (netC (m+1) E),.int .i64 0]) (ho:NetOk (m+1) E) (hm5:m≤5) (hc:connE (m+1) E)
  (ha:a≤m) (hb:b≤m) (hab:a≠b) :
  SpecV Tryz.prog Zph [.int .i64 ((m+1:Nat):Int),.sl (L.map sprAV),.int .i64 (a:Int),.int .i64 (b:Int)] (numsR (flowX E (unitX m a b E))):=by
 have hEl:E.length≤40:=by rw [hE,List.length_map]; exact hL
 obtain ⟨hmv,hxb⟩:=Ybn ho hm5 hEl hc (f:=unitF (m+1) a b) Zd2 Ycb
 have hxl:(unitX m a b E).length=m+1:=by unfold unitX; rw [List.length_cons,Zfp]
 have hld:=Ymx hE hL hl h ho hm5 hc ha hb hab
 exact Xa5 (k:=7000000000) hld (fun e he=>⟨by rw [hxl]; exact (ho.e e he).1,by rw [hxl]; exact (ho.e e he).2.1,(ho.e e he).2.2.2.2.bits⟩) (by omega) hxb (by omega) (by omega)
end GoAbs
namespace GoAbs
open Go Go.Proofs
theorem Y7j {L:List Spr}{ls:List AV}{x:List Rat}{k:Nat}(hls:ls=L.map sprAV) (hL:L.length≤1000000) (hok:∀ s,s∈L→0≤s.1∧s.1<x.length∧0≤s.2.1∧s.2.1<x.length∧s.2.2.length≤1000000000∧∃ q,parseL s.2.2=some q∧Qb k q) (hx:Rb k x) (hk:k≤300000) {K:Ex→St→Prop}
  (hK:∀ e:Nat→AV,e 10 = .osl (some 4) 0 0 L.length→K (.exit 0) ⟨e,[.cells (qr (flowX (L.map toE) x))]⟩) :
  T Tryz.prog 53 0 (.loop Zvi) ⟨envL [(1,.sl ls),(9,rowV x),(10,.osl (some 4) 0 0 0),(11,.int .i64 0)],[.cells []]⟩ K:=by
 have hm:Tryz.prog.follows .mixedOrders=true:=by kernel_rfl
 refine Zae (fun i:Nat=>⟨envL [(1,.sl ls),(9,rowV x),(10,.osl (some 4) 0 0 i),(11,.int .i64 (i:Int))],[.cells (qr (flowX ((L.take i).map toE) x))]⟩)
  (fun i=>i≤L.length) (fun i=>L.length - i) 0 (by omega) (Zab _ (by simp only [go_sem]; simp)) (fun i hi N hN=>?_)
 unfold Zvi
 have hlsl:ls.length=L.length:=by rw [hls,List.length_map]
 have hrl:(x.map fun q=>AV.agg (rq q)).length=x.length:=by simp
 unfold rowV at hN ⊢
 by_cases hin:i<L.length
 ·obtain ⟨s,hs⟩:∃ s:Spr,L[i]? = some s:=⟨_,List.getElem?_eq_getElem hin⟩
  obtain ⟨a0,a1,b0,b1,hlen,q,hq,hqb⟩:=hok s (List.mem_of_getElem? hs)
  obtain ⟨a,ha⟩:∃ a:Nat,s.1=a:=⟨s.1.toNat,by omega⟩
  obtain ⟨b,hb⟩:∃ b:Nat,s.2.1=b:=⟨s.2.1.toNat,by omega⟩
  have hlsx:ls[i]? = some (.agg [.int .i64 (a:Int),.int .i64 (b:Int),.str (bs s.2.2)]):=by rw [hls,List.getElem?_map,hs, ← ha, ← hb]; rfl
  have hE:toE s=(a,b,q):=by unfold toE; rw [ha,hb,hq]; rfl
  have tk:flowX ((L.take (i+1)).map toE) x=flowX ((L.take i).map toE) x ++ [q*(rget x a - rget x b)]:=by
   rw [List.take_add_one,hs,List.map_append]; unfold flowX; rw [List.map_append]
   show _ ++ [(toE s).2.2*(rget x (toE s).1 - rget x (toE s).2.1)]=_
   rw [hE]
  have lF:(flowX ((L.take i).map toE) x).length=i:=by unfold flowX; rw [List.length_map,List.length_map,List.length_take]; omega
  have ga:(x.map fun q=>AV.agg (rq q))[a]? = some (.agg (rq (rget x a))):=by rw [List.getElem?_map,Zag (by omega)]; rfl
  have gb:(x.map fun q=>AV.agg (rq q))[b]? = some (.agg (rq (rget x b))):=by rw [List.getElem?_map,Zag (by omega)]; rfl
  have qa:=hx.get (j:=a) (by omega)
  have qb:=hx.get (j:=b) (by omega)
  have ho:=rof hlen hq
  have hsu:=rsubq qa.ib.1 qa.ib.2 qb.ib.1 qb.ib.2 (by omega)
  have da:=(rget x a).den_pos
  have db:=(rget x b).den_pos
  have dq:=q.den_pos
  have hd:(0:Int)<((rget x a).den:Int)*(rget x b).den:=Int.mul_pos (by omega) (by omega)
  have i1:Ib (2*k+1) ((rget x a).num*(rget x b).den - (rget x b).num*(rget x a).den):=by
   have i2:Ib (2*k) (-((rget x b).num*(rget x a).den)):=by have:=qb.ib.1.mul qa.ib.2; show Int.natAbs _<_; rw [Int.natAbs_neg]; exact (this.mono (by omega):Ib (2*k) _)
   rw [Int.sub_eq_add_neg]
   exact Ib.add (k:=2*k) ((qa.ib.1.mul qb.ib.2).mono (by omega)) i2
  have i3:Ib (2*k+1) (((rget x a).den:Int)*(rget x b).den):=(qa.ib.2.mul qb.ib.2).mono (by omega)
  have e:=q_sub' (q:=rget x a) (w:=rget x b)
  generalize (rget x a).num*(rget x b).den - (rget x b).num*(rget x a).den=N1 at *
  generalize ((rget x a).den:Int)*(rget x b).den=D1 at *
  have hmu:=rmulq (k:=2*k+1) (hqb.ib.1.mono (by omega)) (hqb.ib.2.mono (by omega)) i1 i3 (by omega)
  have hlo:=rlow (k:=4*k+2) ((hqb.ib.1.mul i1).mono (by omega)) ((hqb.ib.2.mul i3).mono (by omega)) (Int.mul_pos (by omega) hd) (by omega)
  have e2:Rat.divInt (q.num*N1) ((q.den:Int)*D1)=q*(rget x a - rget x b):=by rw [← Rat.divInt_mul_divInt,Rat.num_divInt_den,e]
  rw [e2] at hlo
  generalize flowX ((L.take i).map toE) x=F at *
  have q0:(0:Int)≤(i:Int):=by omega
  have q1:(i:Int)<(L.length:Int):=by omega
  have a0':(0:Int)≤(a:Int):=by omega
  have a1':(a:Int)<(x.length:Int):=by omega
  have b0':(0:Int)≤(b:Int):=by omega
  have b1':(b:Int)<(x.length:Int):=by omega
  have e1:IntKind.i64.wrap ((i:Int)+1)=((i+1:Nat):Int):=by rw [Zac (by omega) (by omega)]; omega
  have l1:(qr F).length=i*4:=by rw [Zm9,lF]
  have l2:(qr F).take (i*4)=qr F:=List.take_of_length_le (by omega)
  have s1:(i+1)*64≤1099511627776:=by omega
  simp only [go_sem,Zwm,Ztz,hm,q0,q1,hlsl,hlsx,hrl,ga,gb,a0',a1',b0',b1',Zdq,Zb6]
  refine Zaa ho (by simp only [go_sem]) ?_
  simp only [go_sem,q0,q1,hlsl,hlsx,hrl,ga,gb,a0',a1',b0',b1',Zdq,Zb6]
  refine Zaa hsu (by simp only [go_sem,avR]; exact ⟨of_eq_true Zb2,of_eq_true Zb2⟩) ?_
  simp only [go_sem]
  refine Zaa hmu (by simp only [go_sem,avR,Zb2]) ?_
  simp only [go_sem]
  refine Zaa hlo (by simp only [go_sem,avR,Zb2]) ?_
  have hr4:(rc (q*(rget x a - rget x b)).num (q*(rget x a - rget x b)).den)=rq (q*(rget x a - rget x b)):=rfl
  simp only [go_sem,avR,hr4,Zdq,Zb6,Zf9,l1,l2,s1,Z77,e1]
  refine ⟨Nat.le_refl _,hN (i+1) _ (by omega) (by omega) (Zcj (Zjv [2] (by decide) (fun i hi=>by omega) [(1,.sl ls),(9,.sl (x.map fun q=>AV.agg (rq q))),(10,.osl (some 4) 2 0 (i+1)),(11,.int .i64 ((i+1:Nat):Int))] (by simp only [go_sem])) ?_)⟩
  have hss:qr (flowX ((L.take (i+1)).map toE) x)=qr F++rq (q*(rget x a - rget x b)):=by rw [tk,Zjo]; simp [qr]
  show St.mk _ [Blk.cells (gcL _ (qr F++rq (q*(rget x a - rget x b))))]=_
  rw [← hss,Yfb]
  rfl
 ·have hie:i=L.length:=by omega
  subst hie
  have q1:¬ ((L.length:Nat):Int)<(L.length:Int):=by omega
  simp only [go_sem,Zwm,q1,hlsl,List.take_length]
  exact hK _ (by simp only [go_sem])
theorem rflow {n a b k:Nat}{L:List Spr}{x:List Rat}(hu:SpecV Tryz.prog Zwx [.int .i64 (n:Int),.sl (L.map sprAV),.int .i64 (a:Int),.int .i64 (b:Int)] (rowV x)) (hL:L.length≤1000000)
  (hok:∀ s,s∈L→0≤s.1∧s.1<x.length∧0≤s.2.1∧s.2.1<x.length∧s.2.2.length≤1000000000∧∃ q,parseL s.2.2=some q∧Qb k q) (hx:Rb k x) (hk:k≤300000) :
  SpecV Tryz.prog Ywc [.int .i64 (n:Int),.sl (L.map sprAV),.int .i64 (a:Int),.int .i64 (b:Int)] (rowV (flowX (L.map toE) x)):=by
 have hfl:(flowX (L.map toE) x).length=L.length:=by simp [flowX]
 have hbv:=Yi6 (H := [.cells (qr (flowX (L.map toE) x))]) (ids:=allOf [.cells (qr (flowX (L.map toE) x))]) (b:=0) (x:=flowX (L.map toE) x) rfl (by simp [allOf])
 rw [hfl] at hbv
 refine Zbh Ypz (by simp) (Zcx 1 rfl ?_)
 unfold Yk4
 simp only [go_sem,Z75,Z87]
 refine Zaa hu (by simp only [go_sem]) ?_
 unfold rowV
 simp only [go_sem]
 refine T_le (Zik 10 (some 4) (by simp only [go_sem]) [(1,.sl (L.map sprAV)),(9,.sl (x.map fun q=>AV.agg (rq q)))] (by simp only [go_sem])) ?_
 refine Zds (Zds (T_W ?_))
 simp only [go_sem,Z9p]
 refine Zet (Zas [(1,.sl (L.map sprAV)),(9,.sl (x.map fun q=>AV.agg (rq q))),(10,.osl (some 4) 0 0 0),(11,.int .i64 0)] (by simp only [go_sem]) ?_)
 refine Y7j rfl hL hok hx hk (fun e e10=>?_)
 show T Tryz.prog 53 0 _ _ _
 refine T_W ?_
 simp only [go_sem,Z7f,e10]
 exact hbv
end GoAbs
namespace GoAbs
open Go Go.Proofs
theorem Ys3 {L:List Spr}:(fewL L).length=min (mostL L) L.length:=by unfold fewL; rw [List.length_map,List.length_take]
theorem Yv6 {L:List Spr}:∀ s,s∈fewL L→s.2.2.length≤23:=fun s hs=>by
 obtain ⟨t,_,rfl⟩:=List.mem_map.1 hs
 exact Ytt
theorem Yuc (n:Int) (L:List Spr):(∃ e:Int,e≠0∧checkE n L []=e∧readR n L = .tup [.agg [.int .i64 0,.nils,.nils],.int .i64 e]) ∨
  (checkE n L []=0∧readR n L = .tup [.agg (netC n.toNat (L.map toE)),.int .i64 0]∧2≤n∧n≤10∧L.length≤40∧∀ s,s∈L→sprOk n s=true∧∃ q,parseL s.2.2=some q):=by
 have hn0:numsE []=0:=by decide
 unfold checkE readR formsE fewN
 cases h1:(L.all fun s=>(parseL s.2.2).isSome) with
 | false=>exact .inl ⟨2,by decide,by simp,by simp⟩
 | true =>
  cases h2:(decide (2≤n∧n≤10∧L.length≤40) && L.all (sprOk n)) with
  | false=>exact .inl ⟨1,by decide,by simp [hn0],by simp⟩
  | true =>
   obtain ⟨h3,h4⟩:=Bool.and_eq_true_iff.1 h2
   obtain ⟨g1,g2,g3⟩:=of_decide_eq_true h3
   refine .inr ⟨by simp [hn0],by simp,g1,g2,g3,fun s hs=>⟨List.all_eq_true.1 h4 s hs,?_⟩⟩
   have:=List.all_eq_true.1 h1 s hs
   exact Option.isSome_iff_exists.1 this
theorem Z56 {n:Int}{s:Spr}{q:Rat}(h:sprOk n s=true) (hq:parseL s.2.2=some q):EndsOk n s.1 s.2.1∧StiffOk q:=by
 unfold sprOk at h
 rw [hq] at h
 obtain ⟨h1,h2⟩:=Bool.and_eq_true_iff.1 h
 exact ⟨of_decide_eq_true h1,of_decide_eq_true h2⟩
end GoAbs
namespace GoAbs
open Go Go.Proofs
set_option exponentiation.threshold 20000
theorem Y7i {n:Nat}{L:List Spr}(h:∀ s,s∈L→EndsOk (n:Int) s.1 s.2.1):EndsAt n (L.map sprAV) (L.map toE):=by
 refine ⟨by simp,fun k e he=>?_⟩
 rw [List.getElem?_map] at he
 cases hs:L[k]? with
 | none=>rw [hs] at he; simp at he
 | some s =>
  rw [hs] at he
  obtain rfl:toE s=e:=by simpa using he
  obtain ⟨h1,h2,h3,h4,h5⟩:=h s (List.mem_of_getElem? hs)
  refine ⟨by show s.1.toNat<n; omega,by show s.2.1.toNat<n; omega,.str (bs s.2.2),?_⟩
  rw [List.getElem?_map,hs]
  show some (AV.agg [.int .i64 s.1,.int .i64 s.2.1,.str (bs s.2.2)])=some (AV.agg [.int .i64 ((s.1.toNat:Nat):Int),.int .i64 ((s.2.1.toNat:Nat):Int),.str (bs s.2.2)])
  rw [Int.toNat_of_nonneg h1,Int.toNat_of_nonneg h3]
theorem Yby {n a b:Nat}(ha:a<n) (hb:b<n) (hab:a≠b):unitF n a b=(List.range n).map (edge a b):=by
 apply List.ext_getElem?
 intro i
 by_cases hi:i<n
 ·rw [Zag (by rw [Zd2]; exact hi),Ya6 ha hb hab,List.getElem?_map,List.getElem?_range hi]; rfl
 ·rw [List.getElem?_eq_none (by rw [Zd2]; omega),List.getElem?_eq_none (by simp; omega)]
theorem Yx9 {n:Int}{L:List Spr}(hL:L.length≤9) (h:∀ s,s∈L→sprOk n s=true∧∃ q,parseL s.2.2=some q) (h6:∀ s,s∈L→s.2.2.length≤6) (hn:0≤n):NetL n.toNat L:=by
 refine ⟨by omega,fun s hs=>?_⟩
 obtain ⟨h1,q,hq⟩:=h s hs
 obtain ⟨he,hp,_⟩:=Z56 h1 hq
 obtain ⟨m1,m2⟩:=Y3m hq (h6 s hs)
 rw [Int.toNat_of_nonneg hn]
 exact ⟨he,q,hq,hp,m1,m2,by have:=h6 s hs; omega⟩
theorem NetL.disp {m:Nat}{L:List Spr}(h:NetL (m+1) L) (hm5:m≤5) (hm:1≤m) (hc:connE (m+1) (L.map toE)) {a b:Nat}(ha:a<m+1) (hb:b<m+1) (hab:a≠b):Rb 4505 (unitX m a b (L.map toE)):=fun x hx=>by
 have hn:=h.netC (by omega) (by omega) hc
 have hs:=Yrt (m:=m) (E:=L.map toE) (f:=unitF (m+1) a b) hn Zd2
 have hs':Sol (m+1) (L.map toE) (rget (unitX m a b (L.map toE))) (edge a b):=fun i hi=>by
  rw [← Ya6 ha hb hab (i:=i)]; exact hs i hi
 obtain ⟨i,hi⟩:=List.mem_iff_getElem?.1 hx
 have hil:i<(unitX m a b (L.map toE)).length:=(List.getElem?_eq_some_iff.1 hi).1
 have hxl:(unitX m a b (L.map toE)).length=m+1:=by unfold unitX; rw [List.length_cons,Zfp]
 have hd:=Yu5 h hm5 hm hc ha hb (p:=i) (q:=0) (by omega) (by omega) hs' rfl
 have hx':x=rget (unitX m a b (L.map toE)) i:=by rw [Zag hil] at hi; exact (Option.some.inj hi).symm
 have h0:rget (unitX m a b (L.map toE)) 0=0:=rfl
 rw [h0] at hd
 rw [hx',show rget (unitX m a b (L.map toE)) i=rget (unitX m a b (L.map toE)) i - 0 by grind]
 exact hd
theorem Y6n {m:Nat}{L:List Spr}(h:NetL (m+1) L) (hL9:L.length≤9) (hm5:m≤5) (hm:1≤m) (hc:connE (m+1) (L.map toE)) {a b:Nat}(ha:a<m+1) (hb:b<m+1) (hab:a≠b) :
  SpecV Tryz.prog Zwx [.int .i64 ((m+1:Nat):Int),.sl (L.map sprAV),.int .i64 (a:Int),.int .i64 (b:Int)] (rowV (unitX m a b (L.map toE))):=by
 have hn:=h.netC (by omega) (by omega) hc
 have c20:(1000000:Nat)<2 ^ 20:=by decide
 have hq:∀ s,s∈L→∃ q,parseL s.2.2=some q∧Qb 20 q:=fun s hs=>by
  obtain ⟨_,q,hq,_,q1,q2,_⟩:=h.ok s hs
  exact ⟨q,hq,Nat.lt_of_le_of_lt q1 c20,Nat.lt_of_le_of_lt q2 c20⟩
 have hE:∀ e,e∈L.map toE→Qb 20 e.2.2:=fun e he=>by
  obtain ⟨s,hs,rfl⟩:=List.mem_map.1 he
  obtain ⟨q,hq,hb⟩:=hq s hs
  have:(toE s).2.2=q:=by simp [toE,hq]
  rw [this]; exact hb
 have hok:∀ s,s∈L→EndsOk ((m+1:Nat):Int) s.1 s.2.1∧s.2.2.length≤1000000000∧∃ q,parseL s.2.2=some q∧Qb 20 q:=fun s hs=>by
  obtain ⟨he,_,_,_,_,_,hl⟩:=h.ok s hs
  exact ⟨he,by omega,hq s hs⟩
 have hB:Mb 776 (lapl m (L.map toE)):=(Yd4 hE (by omega)).mono (by rw [List.length_map]; omega)
 have h4:4 ^ (m - 1)≤4 ^ 4:=Nat.pow_le_pow_right (by omega) (by omega)
 have h5:4 ^ (m - 1)*(3*776+1)≤600001:=Nat.le_trans (Nat.mul_le_mul_right _ h4) (by decide)
 have hmv:=rmove (k0:=776) (l:=20) (f:=(List.range (m+1)).map (edge a b)) hn (by omega) hm (by omega) (by omega) (by omega) (by simp) hok (by
  have:=Nat.mul_le_mul_right (2*(20+1)) hL9; omega) hB (fun x hx=>by
  obtain ⟨i,_,rfl⟩:=List.mem_map.1 hx
  exact (Y1b hab).mono (by omega)) (by omega) h5
 rw [← Yby ha hb hab] at hmv
 rw [Yby ha hb hab] at hmv
 have hx:moveX m (L.map toE) ((List.range (m+1)).map (edge a b))=unitX m a b (L.map toE):=by rw [← Yby ha hb hab]; rfl
 rw [hx] at hmv
 exact runit hab (by omega) hmv
theorem Y2s {m k:Nat}{E:List Sp}{x:List Rat}(hE:∀ e,e∈E→e.1<x.length∧e.2.1<x.length∧Qb 20 e.2.2) (hx:Rb k x):Rb (20+(k+k+1)) (flowX E x):=fun y hy=>by
 unfold flowX at hy
 obtain ⟨e,he,rfl⟩:=List.mem_map.1 hy
 obtain ⟨h1,h2,h3⟩:=hE e he
 exact (h3.mul2 ((hx.get h1).sub2 (hx.get h2))).mono (by omega)
end GoAbs
namespace GoAbs
open Go Go.Proofs
set_option exponentiation.threshold 20000
theorem Yhm {n a b n0 e:Int}{L L0:List Spr}(hL:L.length≤1000000000) (hl:∀ s,s∈L→s.2.2.length≤1000000000) (hf:SpecV Tryz.prog Yke [.agg [.int .i64 n0,.sl (L0.map sprAV)]] (.agg [.int .i64 n,.sl (L.map sprAV)]))
  (he:e≠0) (hld:SpecV Tryz.prog Zbb [.int .i64 n,.sl (L.map sprAV),.int .i64 a,.int .i64 b] (.tup [.agg netZ,.nils,.int .i64 e]))
  (hk:checkE n L []=e∨(checkE n L []=0∧((¬ EndsOk n a b∧e=1)∨(EndsOk n a b∧SpecV Tryz.prog Zvw [.int .i64 n,.sl (L.map sprAV)] (.bool false)∧e=5)))) :
  SpecV Tryz.prog Ziy [.agg [.int .i64 n0,.sl (L0.map sprAV)],.agg [.int .i64 a,.int .i64 b]] (.bool true):=by
 have hm:Tryz.prog.follows .mixedOrders=true:=by kernel_rfl
 have hchk:=rcheck (n:=n) (L:=L) (M := []) hL hl (by decide) (fun s hs=>by simp at hs)
 have hbs:(⟨#[]⟩:ByteArray)=bs []:=rfl
 refine Zad Zc5 (by simp) ?_
 unfold Zce
 simp only [go_sem,Zbn,Zbs]
 refine Zaa hf (by simp only [go_sem]) ?_
 simp only [go_sem,Zbo]
 refine Zaa (Yp9 he hld) (by simp only [go_sem]) ?_
 simp only [go_sem,Zbp]
 refine Zaa (Y3s he hld) (by simp only [go_sem]) ?_
 simp only [go_sem,Zbq]
 rcases hk with hk | ⟨hk,⟨hne,rfl⟩ | ⟨hen,hcn,rfl⟩⟩
 ·rw [hk] at hchk
  refine Zkw (ids := []) hchk (by simp only [go_sem,List.map_nil]) (.inl rfl) (fun b hb=>by simp at hb) ?_
  simp only [go_sem,Zaz,Za0,Zaw,Zbg,he,hbs]
  refine Zaa llives (by simp only [go_sem]) ?_
  simp only [go_sem]
 ·rw [hk] at hchk
  have hen:=lends (n:=n) (a:=a) (b:=b)
  rw [if_neg hne] at hen
  refine Zkw (ids := []) hchk (by simp only [go_sem,List.map_nil]) (.inl rfl) (fun b hb=>by simp at hb) ?_
  simp only [go_sem,Zaz,Za7]
  refine Zaa hen (by simp only [go_sem]) ?_
  simp only [go_sem,Za0,Zaw,Zbg,hbs]
  refine Zaa llives (by simp only [go_sem]) ?_
  simp only [go_sem]
 ·rw [hk] at hchk
  have hle:=lends (n:=n) (a:=a) (b:=b)
  rw [if_pos hen] at hle
  refine Zkw (ids := []) hchk (by simp only [go_sem,List.map_nil]) (.inl rfl) (fun b hb=>by simp at hb) ?_
  simp only [go_sem,Zaz,Za7]
  refine Zaa hle (by simp only [go_sem]) ?_
  simp only [go_sem,Za0]
  refine Zaa hcn (by simp only [go_sem]) ?_
  simp only [go_sem,Bool.not_false,Zgs,Zaw,Zbg,hbs]
  refine Zaa llives (by simp only [go_sem]) ?_
  simp only [go_sem]
theorem Yjx {n a b:Int}{L:List Spr}:SpecV Tryz.prog Ziy [.agg [.int .i64 n,.sl (L.map sprAV)],.agg [.int .i64 a,.int .i64 b]] (.bool true):=by
 have hm:Tryz.prog.follows .mixedOrders=true:=by kernel_rfl
 have hf:=lfew (n:=n) (L:=L)
 have hk6:10<fewK n∨fewK n≤6:=by unfold fewK; split <;> omega
 have hm40:40<(fewL L).length∨(fewL L).length≤9:=by
  rw [Ys3]; unfold mostL; split <;> omega
 have h41:(fewL L).length≤41:=by rw [Ys3]; unfold mostL; split <;> omega
 have hsh:=Yv6 (L:=L)
 generalize fewK n=n' at *
 generalize fewL L=L' at *
 have hl':∀ s,s∈L'→s.2.2.length≤1000000000:=fun s hs=>by have:=hsh s hs; omega
 rcases Yuc n' L' with ⟨e,he,hce,hre⟩ | ⟨hce,hre,g1,g2,g3,hall⟩
 ·exact Yhm (by omega) hl' hf he (Y4v (by omega) hl' hre he) (.inl hce)
 ·have hn6:n'≤6:=by omega
  have hL9:L'.length≤9:=by omega
  obtain ⟨m,hmn⟩:∃ m:Nat,n'=((m+1:Nat):Int):=⟨n'.toNat - 1,by omega⟩
  have hnt:n'.toNat=m+1:=by omega
  by_cases hen:EndsOk n' a b
  ·have hends:∀ s,s∈L'→EndsOk ((m+1:Nat):Int) s.1 s.2.1:=fun s hs=>by
    obtain ⟨h1,q,hq⟩:=hall s hs
    rw [← hmn]; exact (Z56 h1 hq).1
   have hok:NetOk (m+1) (L'.map toE):=by
    refine ⟨by omega,fun e he=>?_⟩
    obtain ⟨s,hs,rfl⟩:=List.mem_map.1 he
    obtain ⟨h1,q,hq⟩:=hall s hs
    obtain ⟨⟨k1,k2,k3,k4,k5⟩,k6,k7⟩:=Z56 h1 hq
    have h3:(toE s).2.2=q:=by simp [toE,hq]
    rw [h3]
    exact ⟨by show s.1.toNat<_; omega,by show s.2.1.toNat<_; omega,by show s.1.toNat≠s.2.1.toNat; omega,k6,k7⟩
   obtain ⟨_,_,hI⟩:=Z6v hok
   have hcn:=rconn (n:=m+1) (by omega) (by omega) (Y7i hends) (by rw [List.length_map]; omega)
   rw [hnt] at hre
   have hen':=hen
   obtain ⟨i1,i2,i3,i4,i5⟩:=hen
   obtain ⟨a',rfl⟩:∃ a':Nat,a=a':=⟨a.toNat,by omega⟩
   obtain ⟨b',rfl⟩:∃ b':Nat,b=b':=⟨b.toNat,by omega⟩
   subst hmn
   by_cases hc:connE (m+1) (L'.map toE)
   ·rw [decide_eq_true hc] at hcn
    have hbt:=Z7q rfl (by omega) hl' hre hok (by omega) hc (a:=a') (b:=b') (by omega) (by omega) (by omega)
    have hfl:=Yzm rfl (by omega) hl' hre hok (by omega) hc (a:=a') (b:=b') (by omega) (by omega) (by omega)
    have hchk:=rcheck (n:=((m+1:Nat):Int)) (L:=L') (M := []) (by omega) hl' (by decide) (fun s hs=>by simp at hs)
    rw [hce] at hchk
    have hle:=lends (n:=((m+1:Nat):Int)) (a:=(a':Int)) (b:=(b':Int))
    rw [if_pos hen'] at hle
    have hlt:=llight (n:=((m+1:Nat):Int)) (L:=L') (by omega) hl'
    cases hlb:lightB L' with
    | false =>
     rw [hlb] at hlt
     obtain ⟨t,x,ht⟩:∃ (t:ByteArray) (x:Int),numR (Fsum (m+1) id m (L'.map toE) / oneF (m+1) a' b' (L'.map toE)) = .tup [.str t,.int .i64 x]:=by
      unfold numR; split
      ·exact ⟨_,_,rfl⟩
      ·exact ⟨_,_,rfl⟩
     obtain ⟨v,y,hv⟩:∃ (v:AV) (y:Int),numsR (flowX (L'.map toE) (unitX m a' b' (L'.map toE))) = .tup [v,.int .i64 y]:=by
      unfold numsR; split
      ·exact ⟨_,_,rfl⟩
      ·exact ⟨_,_,rfl⟩
     rw [ht] at hbt
     rw [hv] at hfl
     refine Zad Zc5 (by simp) ?_
     unfold Zce
     simp only [go_sem,Zbn,Zbs]
     refine Zaa hf (by simp only [go_sem]) ?_
     simp only [go_sem,Zbo]
     refine Zaa hbt (by simp only [go_sem]) ?_
     simp only [go_sem,Zbp]
     refine Zaa hfl (by simp only [go_sem]) ?_
     simp only [go_sem,Zbq]
     refine Zkw (ids := []) hchk (by simp only [go_sem,List.map_nil]) (.inl rfl) (fun b hb=>by simp at hb) ?_
     simp only [go_sem,Zaz,Za7]
     refine Zaa hle (by simp only [go_sem]) ?_
     simp only [go_sem,Za0]
     refine Zaa hcn (by simp only [go_sem]) ?_
     simp only [go_sem,Bool.not_true,Zaw,Zcg]
     refine Zaa hlt (by simp only [go_sem]) ?_
     simp only [go_sem,Bool.not_false,Zf4]
     refine Zaa llives (by simp only [go_sem]) ?_
     simp only [go_sem]
    | true =>
     rw [hlb] at hlt
     obtain ⟨b1,_⟩:=Bool.and_eq_true_iff.1 hlb
     have h6:∀ s,s∈L'→s.2.2.length≤6:=fun s hs=>of_decide_eq_true (List.all_eq_true.1 b1 s hs)
     have hnet:=Yx9 hL9 hall h6 (by omega)
     rw [hnt] at hnet
     have hm1:1≤m:=by omega
     have hab:a'≠b':=by omega
     obtain ⟨_,t1,t2,t3,t4⟩:=hnet.betweenF (by omega) (by omega) hc (a:=a') (b:=b') (by omega) (by omega) hab
     have hu:=Y6n hnet hL9 (by omega) hm1 hc (a:=a') (b:=b') (by omega) (by omega) hab
     have hxb:=hnet.disp (by omega) hm1 hc (a:=a') (b:=b') (by omega) (by omega) hab
     have hud:=Yk1 hok hc (a:=a') (b:=b') (by omega) (by omega) hab
     have hxl:(unitX m a' b' (L'.map toE)).length=m+1:=by unfold unitX; rw [List.length_cons,Zfp]
     have c20:(1000000:Nat)<2 ^ 20:=by decide
     have hspr:∀ s,s∈L'→∃ q,parseL s.2.2=some q∧Qb 20 q:=fun s hs=>by
      obtain ⟨_,q,hq,_,q1,q2,_⟩:=hnet.ok s hs
      exact ⟨q,hq,Nat.lt_of_le_of_lt q1 c20,Nat.lt_of_le_of_lt q2 c20⟩
     have hfb:=Y2s (m:=m) (k:=4505) (E:=L'.map toE) (x:=unitX m a' b' (L'.map toE)) (fun e he=>by
      obtain ⟨s,hs,rfl⟩:=List.mem_map.1 he
      obtain ⟨q,hq,hb⟩:=hspr s hs
      have h3:(toE s).2.2=q:=by simp [toE,hq]
      have hi:=hI _ he
      rw [h3,hxl]
      exact ⟨hi.1,hi.2,hb⟩) hxb
     have hfok:∀ q,q∈flowX (L'.map toE) (unitX m a' b' (L'.map toE))→NumOk q:=fun q hq=>Ywa (hfb q hq) (by omega)
     have hrf:=rflow (k:=4505) hu (by omega) (fun s hs=>by
      obtain ⟨j1,j2,j3,j4,j5⟩:=hends s hs
      rw [hxl]
      obtain ⟨q,hq,hb⟩:=hspr s hs
      exact ⟨j1,by omega,j3,by omega,hl' s hs,q,hq,hb.mono (by omega)⟩) hxb (by omega)
     have har:=rare hfb (by omega) (by simp [flowX]; omega) hfok
     unfold numsR at hfl
     rw [if_pos hfok] at hfl
     have hTF:treesF (m+1) L'=Fsum (m+1) id m (L'.map toE):=rfl
     rw [hTF] at t1 t3 t4
     have hne:rget (unitX m a' b' (L'.map toE)) a' - rget (unitX m a' b' (L'.map toE)) b'≠0:=by
      rw [hud]
      generalize oneF (m+1) a' b' (L'.map toE)=G at *
      generalize Fsum (m+1) id m (L'.map toE)=D at *
      intro h
      have:G=G / D*D:=by grind
      rw [h] at this; grind
     have hrb:=rbetween (k:=4505) hu (by omega) (by omega) hxb (by omega) (by omega) hne
     have hqe:1 / (rget (unitX m a' b' (L'.map toE)) a' - rget (unitX m a' b' (L'.map toE)) b')=Fsum (m+1) id m (L'.map toE) / oneF (m+1) a' b' (L'.map toE):=by
      rw [hud]
      generalize oneF (m+1) a' b' (L'.map toE)=G at *
      generalize Fsum (m+1) id m (L'.map toE)=D at *
      grind
     rw [hqe] at hrb
     unfold numR at hbt
     rw [if_pos t3] at hbt
     generalize Fsum (m+1) id m (L'.map toE) / oneF (m+1) a' b' (L'.map toE)=q at *
     generalize flowX (L'.map toE) (unitX m a' b' (L'.map toE))=F at *
     have his:=ris (n:=q.num) (d:=q.den) (k:=1800) (q:=q) (s:=bs (numS q)) t4.ib.1 t4.ib.2 (by have:=q.den_pos; omega) (by omega) (Rat.num_divInt_den q)
     rw [decide_eq_true (show NumOk q∧bs (numS q)=bs (numS q) from ⟨t3,rfl⟩)] at his
     refine Zad Zc5 (by simp) ?_
     unfold Zce
     simp only [go_sem,Zbn,Zbs]
     refine Zaa hf (by simp only [go_sem]) ?_
     simp only [go_sem,Zbo]
     refine Zaa hbt (by simp only [go_sem]) ?_
     simp only [go_sem,Zbp]
     refine Zaa hfl (by simp only [go_sem]) ?_
     simp only [go_sem,Zbq]
     refine Zkw (ids := []) hchk (by simp only [go_sem,List.map_nil]) (.inl rfl) (fun b hb=>by simp at hb) ?_
     simp only [go_sem,Zaz,Za7]
     refine Zaa hle (by simp only [go_sem]) ?_
     simp only [go_sem,Za0]
     refine Zaa hcn (by simp only [go_sem]) ?_
     simp only [go_sem,Bool.not_true,Zaw,Zcg]
     refine Zaa hlt (by simp only [go_sem]) ?_
     unfold rowV at hrf har
     have hrq:rq q=rc q.num q.den:=rfl
     rw [hrq] at hrb
     simp only [go_sem,Bool.not_true,Zgi]
     refine Zaa hrb (by simp only [go_sem]) ?_
     simp only [go_sem]
     refine Zaa his (by simp only [go_sem,avR,Zb2]) ?_
     simp only [go_sem]
     refine Zaa hrf (by simp only [go_sem]) ?_
     simp only [go_sem]
     refine Zaa har (by simp only [go_sem]) ?_
     simp only [go_sem]
     refine Zaa llives (by simp only [go_sem]) ?_
     simp only [go_sem]
   ·rw [decide_eq_false hc] at hcn
    have hcB:connB (m+1) (L'.map toE)=false:=by rw [Yq4 (by omega) hI,decide_eq_false hc]
    exact Yhm (by omega) hl' hf (by decide) (Yzy (by omega) hl' hre hen' (by omega) (by omega) hI (by rw [List.length_map]; omega) hcB) (.inr ⟨hce,.inr ⟨hen',hcn,rfl⟩⟩)
  ·exact Yhm (by omega) hl' hf (by decide) (Y4r (by omega) hl' hre rfl hen) (.inr ⟨hce,.inl ⟨hen,rfl⟩⟩)
end GoAbs
