/- Lemmas for the claim (contracts of the functions that it reaches, and what they compute), without conditions. -/
import Derived.Test.YtnpgooaiiboanaaGreatK35
set_option linter.unusedVariables false
set_option linter.unusedSimpArgs false
set_option maxRecDepth 10000
set_option maxHeartbeats 2000000
namespace GoAbs
open Go Go.Proofs
set_option maxHeartbeats 4000000
set_option exponentiation.threshold 20000
theorem Yms {b A B:Int}{X:List Spr}(h0:0≤b) (h1:b≤255):SpecV Tryz.prog Zzk [.int .u8 b,.sl (X.map sprAV),.agg [.int .i64 A,.int .i64 B]] (.bool true):=by
 have hm:Tryz.prog.follows .mixedOrders=true:=by kernel_rfl
 obtain ⟨p,hp⟩:∃ p,p = [B,A,IntKind.i64.wrap (B.tdiv 5),IntKind.i64.wrap (A.tdiv 5)]:=⟨_,rfl⟩
 have hmk:=lmade (X:=X) (p:=p) h0 h1
 obtain ⟨_,n2,n6⟩:=Yd2 b
 obtain ⟨hnet,hne⟩:=Y1k (X:=X) (p:=p) n2 n6
 have hc:=Yxq (X:=X) (p:=p) n2
 have hbv:=Xas (H := [.cells [.int .i64 A,.int .i64 B],.cells (ivs p)]) (ids := [1]) (b:=1) (p:=p) rfl (by simp)
 have hpl:p.length=4:=by rw [hp]; rfl
 rw [hpl] at hbv
 have hpe:ivs p = [.int .i64 B,.int .i64 A,.int .i64 (IntKind.i64.wrap (B.tdiv 5)),.int .i64 (IntKind.i64.wrap (A.tdiv 5))]:=by rw [hp]; rfl
 generalize madeN b=n at *
 obtain ⟨m,rfl⟩:∃ m,n=m+1:=⟨n - 1,by omega⟩
 have hpath:=fun (s:Nat) (hs:s<m)=>Yvf (X:=X) (p:=p) hs
 have hLm:m≤(madeL (m+1) X p).length:=by unfold madeL; rw [List.length_append,Znh]; omega
 generalize madeL (m+1) X p=L at *
 have hpr:=lpair (n:=m+1) (A:=A) (B:=B) n2 (by omega)
 obtain ⟨_,_,ha,hb,hab⟩:=Yze (n:=m+1) (A:=A) (B:=B) n2
 generalize pairA (m+1) A=x at *
 generalize pairB (m+1) A B=y at *
 obtain ⟨hr,ho⟩:=hnet.read n2 n6
 have hC:=hnet.netC n2 n6 hc
 have hlen:∀ s,s∈L→s.2.2.length≤1000000000:=fun s hs=>by
  obtain ⟨_,q,_,_,_,_,hl⟩:=hnet.ok s hs; omega
 have hL40:=hnet.len
 obtain ⟨hpos,hP,hI⟩:=Ybv ho
 have hm1:1≤m:=by omega
 have hEl:(L.map toE).length=L.length:=by simp
 have hs:=Yu7 hC ha hb hab
 have hxb:=hnet.disp (by omega) hm1 hc ha hb hab
 have hxl:(unitX m x y (L.map toE)).length=m+1:=by unfold unitX; rw [List.length_cons,Zg4]
 have c20:(1000000:Nat)<2 ^ 20:=by decide
 have hE20:∀ e,e∈L.map toE→Qb 20 e.2.2:=fun e he=>by
  obtain ⟨s,hs,rfl⟩:=List.mem_map.1 he
  obtain ⟨_,q,hq,_,q1,q2,_⟩:=hnet.ok s hs
  have h3:(toE s).2.2=q:=by simp [toE,hq]
  rw [h3]; exact ⟨Nat.lt_of_le_of_lt q1 c20,Nat.lt_of_le_of_lt q2 c20⟩
 have hE67:∀ e,e∈L.map toE→Qb 67 e.2.2∧e.2.2≠0:=fun e he=>⟨(hE20 e he).mono (by omega),by have:=hpos e he; grind⟩
 have hE3:∀ e,e∈L.map toE→e.1<m+1∧e.2.1<m+1∧e.1≠e.2.1:=fun e he=>⟨(ho.e e he).1,(ho.e e he).2.1,(ho.e e he).2.2.1⟩
 have hfb:=Yvg (m:=m) (k:=4505) (E:=L.map toE) (x:=unitX m x y (L.map toE)) (fun e he=>by rw [hxl]; exact ⟨(hI e he).1,(hI e he).2,hE20 e he⟩) hxb
 have hfb':Rb 9031 (flowX (L.map toE) (unitX m x y (L.map toE))):=hfb.mono (by omega)
 have hfok:∀ q,q∈flowX (L.map toE) (unitX m x y (L.map toE))→NumOk q:=fun q hq=>Zeq (hfb' q hq) (by omega)
 have hfl:=Yw5 rfl hL40 hlen hr ho (by omega) hc (a:=x) (b:=y) (by omega) (by omega) hab
 unfold numsR at hfl
 rw [if_pos hfok] at hfl
 have hcar:=Yjq hI ha hb rfl hs
 have hen:=Ym6 hI (fun e he=>(hE67 e he).2) ha hb rfl hs
 have hud:=Yib ho hc (a:=x) (b:=y) (by omega) (by omega) hab
 obtain ⟨hbt,t1,t2,t3,t4⟩:=hnet.betweenF (by omega) (by omega) hc ha hb hab
 have hone:=Yge hnet (low:=min x y) (high:=max x y) (by omega) (by omega)
 have hinv:=Y47 (q:=treesF (m+1 - 1) (oneS (min x y) (max x y) L)) (w:=treesF (m+1) L) hone.size hnet.size t1
 rw [← Zjc n2 hnet ha hb hab] at hinv
 have hTF:treesF (m+1) L=Fsum (m+1) id m (L.map toE):=rfl
 rw [hud, ← hTF] at hen
 have kT:Qb 900 (treesF (m+1) L):=by
  have c:10 ^ 260<2 ^ 900:=by decide+kernel
  exact ⟨Nat.lt_trans hnet.size.1 c,Nat.lt_trans hnet.size.2 c⟩
 have kO:Qb 900 (oneF (m+1) x y (L.map toE)):=by
  have:=hnet.grb (a:=x) (b:=y) (by omega) ha hb
  unfold Gr at this; rwa [if_neg hab] at this
 have hwb:Qb 1800 (oneF (m+1) x y (L.map toE) / treesF (m+1) L):=kO.div2 kT (by grind)
 have hwok:=hinv.1
 have hbv0:treesF (m+1) L / oneF (m+1) x y (L.map toE)≠0:=by
  generalize treesF (m+1) L=D at *
  generalize oneF (m+1) x y (L.map toE)=G at *
  intro h
  have:D=D / G*G:=by grind
  rw [h] at this; grind
 have hinvq:1 / (treesF (m+1) L / oneF (m+1) x y (L.map toE))=oneF (m+1) x y (L.map toE) / treesF (m+1) L:=by
  generalize treesF (m+1) L=D at *
  generalize oneF (m+1) x y (L.map toE)=G at *
  grind
 have hbpos:0<treesF (m+1) L / oneF (m+1) x y (L.map toE):=by
  rw [Rat.div_def]; exact Rat.mul_pos t1 (Rat.inv_pos.2 t2)
 have ring:∀ l lo hi sg c,Ring (L.map toE) l lo hi sg→enerZ ((L.map toE).zip (ringF (flowX (L.map toE) (unitX m x y (L.map toE))) l lo hi sg c))=oneF (m+1) x y (L.map toE) / treesF (m+1) L+c*c*sumL (List.range (L.map toE).length) (fun s=>rho l lo hi sg s*rho l lo hi sg s / (eAt (L.map toE) s).2.2):=fun l lo hi sg c hR=>by
  rw [Ymn hR hpos,hen]
 have hFl:(flowX (L.map toE) (unitX m x y (L.map toE))).length=L.length:=by rw [flowX_len,hEl]
 have hca:=Yd9 (k:=9031) (by omega) hlen hr hfok hFl hEl ha hb hab (by omega) hE3 hfb' (by omega) hcar
 have hea:=Yir (k:=9031) (by omega) hlen hr hfok hFl hEl hE67 hfb' (by omega) (by rw [hen]; exact hwok)
 rw [hen] at hea
 have hca2:=fun (G:List Rat) (hok:∀ q,q∈G→NumOk q) (hGl:G.length=L.length) (hGb:Rb 10000 G) (hcc:carriesB (m+1) x y (L.map toE) G)=>Yd9 (k:=10000) (by omega) hlen hr hok hGl hEl ha hb hab (by omega) hE3 hGb (by omega) hcc
 have hea2:=fun (G:List Rat) (hok:∀ q,q∈G→NumOk q) (hGl:G.length=L.length) (hGb:Rb 10000 G) (hn:NumOk (enerZ ((L.map toE).zip G)))=>Yir (k:=10000) (by omega) hlen hr hok hGl hEl hE67 hGb (by omega) hn
 have hrn:=Yvz hfok (by omega)
 have hrc:=fun l lo hi sg c (hR:Ring (L.map toE) l lo hi sg)=>Yhw (c:=c) hR (by rw [hFl,hEl]) hcar
 generalize flowX (L.map toE) (unitX m x y (L.map toE))=F at *
 generalize hbe:treesF (m+1) L / oneF (m+1) x y (L.map toE)=be at *
 generalize oneF (m+1) x y (L.map toE) / treesF (m+1) L=w at *
 have hval:=rvalid (l:=numS be) (Zb9 t3)
 rw [show (parseL (numS be)).isSome=true by rw [Za3 t3]; rfl] at hval
 have hofb:=rof (Zb9 t3) (Za3 t3)
 have hzb:=rzero (n:=be.num) (d:=be.den)
 rw [decide_eq_false (show ¬ be.num=0 from fun h=>hbv0 (Rat.num_eq_zero.1 h))] at hzb
 have w1:=rwhole (v:=1) (by decide)
 have i1:Ib 1800 (1:Int):=by show (1:Int).natAbs<2 ^ 1800; exact Nat.one_lt_pow (by omega) (by omega)
 have hdv:=rdivq (k:=1800) i1 i1 t4.ib.1 t4.ib.2 (by omega)
 have hbn:0<be.num:=num_pos'.2 hbpos
 have hbd:=be.den_pos
 rw [if_neg (by omega)] at hdv
 have hdq:Rat.divInt (1*(be.den:Int)) (1*be.num)=w:=by
  rw [Int.one_mul,Int.one_mul]
  have h:=Rat.inv_divInt be.num (be.den:Int)
  rw [Rat.num_divInt_den] at h
  rw [← h, ← hinvq,Rat.div_def,Rat.one_mul]
 have his:=ris (s:=bs (numS w)) (n:=1*(be.den:Int)) (d:=1*be.num) (k:=1800) (by rw [Int.one_mul]; exact t4.ib.2) (by rw [Int.one_mul]; exact t4.ib.1) (by omega) (by omega) hdq
 rw [decide_eq_true (show NumOk w∧bs (numS w)=bs (numS w) from ⟨hwok,rfl⟩)] at his
 obtain ⟨ls,hls⟩:∃ ls,ls=L.map sprAV:=⟨_,rfl⟩
 have hlsl:ls.length=L.length:=by rw [hls,List.length_map]
 rw [← hls] at hmk hfl hca hea hbt
 have hca2':∀ (G:List Rat),(∀ q,q∈G→NumOk q)→G.length=L.length→Rb 10000 G→carriesB (m+1) x y (L.map toE) G→SpecV Tryz.prog Zh7 [.int .i64 ((m+1:Nat):Int),.sl ls,.int .i64 (x:Int),.int .i64 (y:Int),.sl (ss G)] (.tup [.bool true,.int .i64 0]):=by rw [hls]; exact hca2
 have hea2':∀ (G:List Rat),(∀ q,q∈G→NumOk q)→G.length=L.length→Rb 10000 G→NumOk (enerZ ((L.map toE).zip G))→SpecV Tryz.prog Zke [.int .i64 ((m+1:Nat):Int),.sl ls,.sl (ss G)] (.tup [.str (bs (numS (enerZ ((L.map toE).zip G)))),.int .i64 0]):=by rw [hls]; exact hea2
 have hFL:(F.length:Int)=(L.length:Int):=by omega
 have z2:(5:Int)≠0:=by decide
 have bq:∀ (H:Heap) (ids:List Nat) (a b:Int),BVs H ids (rc a b) (rc a b)=True:=fun H ids a b=>Yj4
 have e10:IntKind.i64.wrap ((L.length:Int) - 1)=((L.length - 1:Nat):Int):=by rw [Zac (by omega) (by omega)]; omega
 have e11:IntKind.i64.wrap (((m+1:Nat):Int) - 1)=(m:Int):=by rw [Zac (by omega) (by omega)]; omega
 refine Zbr Zwt (by simp) (Zen 13 rfl ?_)
 unfold Zlh
 simp only [go_sem,Zhy,Zhi, ← hpe]
 refine Zhl (ids := [1]) hmk (by simp only [go_sem]; exact hbv) ?_
 simp only [go_sem,Zhx]
 refine Zaa hpr (by simp only [go_sem]) ?_
 simp only [go_sem,Zhe]
 refine Zaa hfl (by simp only [go_sem]) ?_
 simp only [go_sem,Zhr]
 refine Zaa hca (by simp only [go_sem]) ?_
 simp only [go_sem,Zhg]
 refine Zaa hea (by simp only [go_sem]) ?_
 simp only [go_sem,Zhp]
 refine Zaa hbt (by simp only [go_sem]) ?_
 simp only [go_sem,Zhs,Yc6,hlsl,hFL]
 refine Zaa hrn (by simp only [go_sem]) ?_
 simp only [go_sem,Bool.not_true]
 refine Zaa hval (by simp only [go_sem]) ?_
 simp only [go_sem,Bool.not_true]
 refine Zaa hofb (by simp only [go_sem]) ?_
 simp only [go_sem]
 refine Zaa hzb (by simp only [go_sem,avR,bq]) ?_
 simp only [go_sem]
 refine Zaa w1 (by simp only [go_sem]) ?_
 simp only [go_sem]
 refine Zaa hofb (by simp only [go_sem]) ?_
 simp only [go_sem]
 refine Zaa hdv (by simp only [go_sem,avR,bq]) ?_
 simp only [go_sem]
 refine Zaa his (by simp only [go_sem,avR,bq]) ?_
 simp only [go_sem,Bool.not_true]
 refine Zaa llives (by simp only [go_sem]) ?_
 simp only [go_sem,Bool.not_true,Zgc,hlsl,e10,Zf7,e11]
 by_cases hlast:L.length - 1<m
 ·have q1:((L.length - 1:Nat):Int)<(m:Int):=by omega
  simp only [go_sem,q1,Zge]
 ·have q1:¬ ((L.length - 1:Nat):Int)<(m:Int):=by omega
  have hll:L.length - 1<L.length:=by omega
  obtain ⟨s,hs'⟩:∃ s:Spr,L[L.length - 1]? = some s:=⟨_,List.getElem?_eq_getElem hll⟩
  obtain ⟨⟨a0,a1,b0,b1,ab⟩,_⟩:=hnet.ok s (List.mem_of_getElem? hs')
  obtain ⟨P,hP'⟩:∃ P:Nat,s.1=P:=⟨s.1.toNat,by omega⟩
  obtain ⟨Q,hQ'⟩:∃ Q:Nat,s.2.1=Q:=⟨s.2.1.toNat,by omega⟩
  have hlsx:ls[L.length - 1]? = some (.agg [.int .i64 (P:Int),.int .i64 (Q:Int),.str (bs s.2.2)]):=by rw [hls,List.getElem?_map,hs', ← hP', ← hQ']; rfl
  have g0:(0:Int)≤((L.length - 1:Nat):Int):=by omega
  have g1:((L.length - 1:Nat):Int)<(L.length:Int):=by omega
  have g2:((L.length - 1:Nat):Int).toNat=L.length - 1:=by omega
  have s1:F.length*16≤1099511627776:=by omega
  simp only [go_sem,q1,Zgb,hlsl,g0,g1,g2,hlsx,Zga]
  refine Zaa (lnum (v:=A)) (by simp only [go_sem]) ?_
  simp only [go_sem,Zf3,Yc6,s1,Zf8]
  refine ⟨fun yy hy=>by obtain ⟨q,_,rfl⟩:=List.mem_map.1 hy; rfl,?_⟩
  refine T_le (Zii [3,4,6,5,2] (by decide) (fun i hi=>by omega) [(7,.ptr 2 0),(8,.int .i64 (x:Int)),(9,.int .i64 (y:Int)),(14,.str (bs (numS w))),(18,.int .i64 ((L.length - 1:Nat):Int)),(19,.ptr 3 0),(21,.ptr 6 0),(22,.fn Zam [] [.ptr 6 0,.ptr 4 0])] (by simp only [go_sem])) ?_
  show T Tryz.prog 233 0 _ ⟨envL [(7,.ptr 4 0),(8,.int .i64 (x:Int)),(9,.int .i64 (y:Int)),(14,.str (bs (numS w))),(18,.int .i64 ((L.length - 1:Nat):Int)),(19,.ptr 0 0),(21,.ptr 2 0),(22,.fn Zam [] [.ptr 2 0,.ptr 1 0])],[.cells [.int .i64 (P:Int),.int .i64 (Q:Int),.str (bs s.2.2)],.cells [.str (bs (numS (numQ A)))],.cells [.osl none 3 0 F.length],.cells (gcL _ (List.flatMap AV.cells (ss F))),.cells [.int .i64 ((m+1:Nat):Int),.sl ls]]⟩ _
  have hss:List.flatMap AV.cells (ss F)=ss F:=by
   unfold ss
   generalize F=G
   induction G with
   | nil=>rfl
   | cons q G ih=>rw [List.map_cons,List.flatMap_cons,ih]; rfl
  rw [hss,Yza]
  obtain ⟨c1,c2,c3⟩:=Yus A
  have hle:L.length - 1<F.length:=by omega
  have hcast:(((1:Int):Int):Rat)*numQ A=numQ A:=by grind
  have hFl9:=hfb'.get (j:=L.length - 1) hle
  have hlb:Qb 9100 (rget F (L.length - 1)+((1:Int):Rat)*numQ A):=by rw [hcast]; exact (hFl9.add2 c2).mono (by omega)
  have hfn:=Y4x (x0 := .cells [.int .i64 (P:Int),.int .i64 (Q:Int),.str (bs s.2.2)]) (x4 := .cells [.int .i64 ((m+1:Nat):Int),.sl ls]) (t:=F) (c:=numQ A) (i:=L.length - 1) (k:=9031) (sg:=1) hle hfb' hfok c3 (c2.mono (by omega)) (by decide) (by omega) (by omega) (Zeq hlb (by omega))
  generalize thN (rget F (L.length - 1)) (numQ A) 1=U at *
  generalize thD (rget F (L.length - 1)) (numQ A)=V at *
  have hr1:Rb 9100 (F.set (L.length - 1) (rget F (L.length - 1)+((1:Int):Rat)*numQ A)):=fun z hz=>by
   rcases List.mem_or_eq_of_mem_set hz with h | h
   ·exact (hfb' z h).mono (by omega)
   ·rw [h]; exact hlb
  have hl1:(F.set (L.length - 1) (rget F (L.length - 1)+((1:Int):Rat)*numQ A)).length=F.length:=by rw [List.length_set]
  have hE1:(eAt (L.map toE) (L.length - 1)).1=P∧(eAt (L.map toE) (L.length - 1)).2.1=Q:=by
   have h2:(L.map toE)[L.length - 1]? = some (toE s):=by rw [List.getElem?_map,hs']; rfl
   rw [Zd6 (by rw [hEl]; exact hll)] at h2
   rw [Option.some.inj h2]
   exact ⟨by show s.1.toNat=P; omega,by show s.2.1.toNat=Q; omega⟩
  have hSb:∀ lo hi (sg:Rat),sg=1∨sg = -1→Qb 1100 (sumL (List.range (L.map toE).length) (fun s=>rho (L.length - 1) lo hi sg s*rho (L.length - 1) lo hi sg s / (eAt (L.map toE) s).2.2)):=fun lo hi sg hsg=>(Yw7 (k:=24) (fun s hs=>by
   have hsl:=List.mem_range.1 hs
   have hme:=List.mem_of_getElem? (Zd6 hsl)
   exact (((You hsg).mul2 (You hsg)).div2 (hE20 _ hme) (hE67 _ hme).2).mono (by omega))).mono (by rw [List.length_range,hEl]; omega)
  refine T_W ?_
  simp only [go_sem,Zgd]
  refine Zi0 hfn ?_
  by_cases hPQ:P<Q
  ·skip
   have hmn:((min P Q:Nat):Int)=(P:Int):=by omega
   have k1:¬ (Q:Int)<(P:Int):=by omega
   have hR:Ring (L.map toE) (L.length - 1) P Q (((-1:Int):Int):Rat):=⟨by rw [hEl]; exact hll,by omega,by omega,fun s hs=>hpath s (by omega),.inl ⟨rfl,hE1.1,hE1.2⟩⟩
   have hsg:((((-1:Int):Int):Rat)=1∨(((-1:Int):Int):Rat) = -1) := .inr rfl
   have hsgb:Qb 2 ((((-1:Int):Int):Rat)):=⟨by decide+kernel,by decide+kernel⟩
   have hall:∀ i,i<(F.set (L.length - 1) (rget F (L.length - 1)+((1:Int):Rat)*numQ A)).length→(NumOk (rget (F.set (L.length - 1) (rget F (L.length - 1)+((1:Int):Rat)*numQ A)) i)∧Qb 9500 (rget (F.set (L.length - 1) (rget F (L.length - 1)+((1:Int):Rat)*numQ A)) i))∧(NumOk (rget (F.set (L.length - 1) (rget F (L.length - 1)+((1:Int):Rat)*numQ A)) i+((-1:Int):Rat)*numQ A)∧Qb 9500 (rget (F.set (L.length - 1) (rget F (L.length - 1)+((1:Int):Rat)*numQ A)) i+((-1:Int):Rat)*numQ A)):=fun i hi=>by
    have g:=hr1.get (j:=i) hi
    have g2:=(g.add2 (hsgb.mul2 c2)).mono (show _≤9500 by omega)
    exact ⟨⟨Zeq g (by omega),g.mono (by omega)⟩,Zeq g2 (by omega),g2⟩
   simp only [go_sem,Zcl,k1]
   refine T_le (Zii [0,1,2,3,4] (by decide) (fun i hi=>by omega) [(7,.ptr 4 0),(8,.int .i64 (x:Int)),(9,.int .i64 (y:Int)),(14,.str (bs (numS w))),(19,.ptr 0 0),(21,.ptr 2 0),(22,.fn Zam [] [.ptr 2 0,.ptr 1 0]),(23,.int .i64 ((min P Q:Nat):Int))] (by simp only [go_sem,hmn])) ?_
   show T Tryz.prog 233 0 _ ⟨envL [(7,.ptr 4 0),(8,.int .i64 (x:Int)),(9,.int .i64 (y:Int)),(14,.str (bs (numS w))),(19,.ptr 0 0),(21,.ptr 2 0),(22,.fn Zam [] [.ptr 2 0,.ptr 1 0]),(23,.int .i64 ((min P Q:Nat):Int))],[.cells [.int .i64 (P:Int),.int .i64 (Q:Int),.str (bs s.2.2)],.cells [.str (bs (numS (numQ A)))],.cells [.osl none 3 0 F.length],.cells (gcL _ (ss (F.set (L.length - 1) (rget F (L.length - 1)+((1:Int):Rat)*numQ A)))),.cells [.int .i64 ((m+1:Nat):Int),.sl ls]]⟩ _
   rw [Yza, ← hl1]
   refine Y4z (sg := -1) (k:=9500) (.inl ⟨hPQ,rfl⟩) (by omega) (by omega) (by omega) c3 (c2.mono (by omega)) (by omega) (by omega) hall (fun f=>rfl) (fun f=>rfl) (fun e e7 e8 e9 e14 e21=>?_)
   have hG:ringL (F.set (L.length - 1) (rget F (L.length - 1)+((1:Int):Rat)*numQ A)) (((-1:Int):Rat)*numQ A) (min P Q) (max P Q)=ringF F (L.length - 1) P Q (((-1:Int):Int):Rat) (numQ A):=by
    unfold ringF
    rw [hcast,show min P Q=P by omega,show max P Q=Q by omega]
   have hGb:Rb 10000 (ringL (F.set (L.length - 1) (rget F (L.length - 1)+((1:Int):Rat)*numQ A)) (((-1:Int):Rat)*numQ A) (min P Q) (max P Q)):=Znj (p:=Qb 10000) (fun i hi=>⟨(hall i hi).1.2.mono (by omega),(hall i hi).2.2.mono (by omega)⟩)
   have hGok:∀ q,q∈ringL (F.set (L.length - 1) (rget F (L.length - 1)+((1:Int):Rat)*numQ A)) (((-1:Int):Rat)*numQ A) (min P Q) (max P Q)→NumOk q:=Znj (p:=NumOk) (fun i hi=>⟨(hall i hi).1.1,(hall i hi).2.1⟩)
   have hGl:(ringL (F.set (L.length - 1) (rget F (L.length - 1)+((1:Int):Rat)*numQ A)) (((-1:Int):Rat)*numQ A) (min P Q) (max P Q)).length=F.length:=by rw [Zbp,hl1]
   rw [hG] at hGb hGok hGl ⊢
   have hev:=ring _ _ _ _ (numQ A) hR
   have hSp:=Ypm hR hpos
   have hVb:Qb 3000 (enerZ ((L.map toE).zip (ringF F (L.length - 1) P Q (((-1:Int):Int):Rat) (numQ A)))):=by
    rw [hev]; exact (hwb.add2 ((c2.mul2 c2).mul2 (hSb _ _ _ hsg))).mono (by omega)
   have hVok:=Zeq hVb (by omega)
   have hgt:w<enerZ ((L.map toE).zip (ringF F (L.length - 1) P Q (((-1:Int):Int):Rat) (numQ A))):=by
    rw [hev]
    have h3:=Rat.mul_pos (Rat.mul_pos c1 c1) hSp
    generalize numQ A*numQ A*sumL (List.range (L.map toE).length) (fun s=>rho (L.length - 1) P Q (((-1:Int):Int):Rat) s*rho (L.length - 1) P Q (((-1:Int):Int):Rat) s / (eAt (L.map toE) s).2.2)=z at *
    grind
   have r1:=hca2' _ hGok (by omega) hGb (hrc _ _ _ _ (numQ A) hR)
   have r2:=hea2' _ hGok (by omega) hGb hVok
   have bss:=Y5f (H := [.cells [.int .i64 (P:Int),.int .i64 (Q:Int),.str (bs s.2.2)],.cells [.str (bs (numS (numQ A)))],.cells [.osl none 3 0 F.length],.cells (ss (ringF F (L.length - 1) P Q (((-1:Int):Int):Rat) (numQ A))),.cells [.int .i64 ((m+1:Nat):Int),.sl ls]]) (ids := [3]) (b:=3) (x:=ringF F (L.length - 1) P Q (((-1:Int):Int):Rat) (numQ A)) rfl (by simp)
   rw [hGl] at bss
   clear hG hev hall
   generalize ringF F (L.length - 1) P Q (((-1:Int):Int):Rat) (numQ A)=G at *
   generalize enerZ ((L.map toE).zip G)=V' at *
   obtain ⟨cc,hcc,hcmp⟩:=Yzh hgt hVb (hwb.mono (by omega)) (by omega)
   have ov:=rof (Zb9 hVok) (Za3 hVok)
   have ow:=rof (Zb9 hwok) (Za3 hwok)
   have vv:=rvalid (l:=numS V') (Zb9 hVok)
   rw [show (parseL (numS V')).isSome=true by rw [Za3 hVok]; rfl] at vv
   simp only [go_sem,Zcn,e7,e8,e9,e14,e21,hl1]
   refine Zlk (ids := [3]) r1 (by simp only [go_sem]; exact bss) (.inr (.tup _ (fun z hz=>by simp at hz; rcases hz with rfl | rfl; exact .bool _; exact .int _ _))) (fun _ _=>trivial) ?_
   simp only [go_sem,Zcp,e7,e21,hl1]
   refine Zlk (ids := [3]) r2 (by simp only [go_sem]; exact bss) (.inr (.tup _ (fun z hz=>by simp at hz; rcases hz with rfl | rfl; exact .str _; exact .int _ _))) (fun _ _=>trivial) ?_
   simp only [go_sem,Zck]
   refine Zaa vv (by simp only [go_sem]) ?_
   simp only [go_sem,e14]
   refine Zaa ov (by simp only [go_sem]) ?_
   simp only [go_sem,e14]
   refine Zaa ow (by simp only [go_sem]) ?_
   simp only [go_sem]
   refine Zaa hcmp (by simp only [go_sem,avR,bq]) ?_
   simp only [go_sem,hcc]
  ·skip
   have hmn:((min P Q:Nat):Int)=(Q:Int):=by omega
   have k1:(Q:Int)<(P:Int):=by omega
   have hR:Ring (L.map toE) (L.length - 1) Q P (((1:Int):Int):Rat):=⟨by rw [hEl]; exact hll,by omega,by omega,fun s hs=>hpath s (by omega),.inr ⟨rfl,hE1.1,hE1.2⟩⟩
   have hsg:((((1:Int):Int):Rat)=1∨(((1:Int):Int):Rat) = -1) := .inl rfl
   have hsgb:Qb 2 ((((1:Int):Int):Rat)):=⟨by decide+kernel,by decide+kernel⟩
   have hall:∀ i,i<(F.set (L.length - 1) (rget F (L.length - 1)+((1:Int):Rat)*numQ A)).length→(NumOk (rget (F.set (L.length - 1) (rget F (L.length - 1)+((1:Int):Rat)*numQ A)) i)∧Qb 9500 (rget (F.set (L.length - 1) (rget F (L.length - 1)+((1:Int):Rat)*numQ A)) i))∧(NumOk (rget (F.set (L.length - 1) (rget F (L.length - 1)+((1:Int):Rat)*numQ A)) i+((1:Int):Rat)*numQ A)∧Qb 9500 (rget (F.set (L.length - 1) (rget F (L.length - 1)+((1:Int):Rat)*numQ A)) i+((1:Int):Rat)*numQ A)):=fun i hi=>by
    have g:=hr1.get (j:=i) hi
    have g2:=(g.add2 (hsgb.mul2 c2)).mono (show _≤9500 by omega)
    exact ⟨⟨Zeq g (by omega),g.mono (by omega)⟩,Zeq g2 (by omega),g2⟩
   simp only [go_sem,Zcl,k1]
   refine T_le (Zii [0,1,2,3,4] (by decide) (fun i hi=>by omega) [(7,.ptr 4 0),(8,.int .i64 (x:Int)),(9,.int .i64 (y:Int)),(14,.str (bs (numS w))),(19,.ptr 0 0),(21,.ptr 2 0),(22,.fn Zam [] [.ptr 2 0,.ptr 1 0]),(23,.int .i64 ((min P Q:Nat):Int))] (by simp only [go_sem,hmn])) ?_
   show T Tryz.prog 233 0 _ ⟨envL [(7,.ptr 4 0),(8,.int .i64 (x:Int)),(9,.int .i64 (y:Int)),(14,.str (bs (numS w))),(19,.ptr 0 0),(21,.ptr 2 0),(22,.fn Zam [] [.ptr 2 0,.ptr 1 0]),(23,.int .i64 ((min P Q:Nat):Int))],[.cells [.int .i64 (P:Int),.int .i64 (Q:Int),.str (bs s.2.2)],.cells [.str (bs (numS (numQ A)))],.cells [.osl none 3 0 F.length],.cells (gcL _ (ss (F.set (L.length - 1) (rget F (L.length - 1)+((1:Int):Rat)*numQ A)))),.cells [.int .i64 ((m+1:Nat):Int),.sl ls]]⟩ _
   rw [Yza, ← hl1]
   refine Y4z (sg:=1) (k:=9500) (.inr ⟨hPQ,rfl⟩) (by omega) (by omega) (by omega) c3 (c2.mono (by omega)) (by omega) (by omega) hall (fun f=>rfl) (fun f=>rfl) (fun e e7 e8 e9 e14 e21=>?_)
   have hG:ringL (F.set (L.length - 1) (rget F (L.length - 1)+((1:Int):Rat)*numQ A)) (((1:Int):Rat)*numQ A) (min P Q) (max P Q)=ringF F (L.length - 1) Q P (((1:Int):Int):Rat) (numQ A):=by
    unfold ringF
    rw [hcast,show min P Q=Q by omega,show max P Q=P by omega]
   have hGb:Rb 10000 (ringL (F.set (L.length - 1) (rget F (L.length - 1)+((1:Int):Rat)*numQ A)) (((1:Int):Rat)*numQ A) (min P Q) (max P Q)):=Znj (p:=Qb 10000) (fun i hi=>⟨(hall i hi).1.2.mono (by omega),(hall i hi).2.2.mono (by omega)⟩)
   have hGok:∀ q,q∈ringL (F.set (L.length - 1) (rget F (L.length - 1)+((1:Int):Rat)*numQ A)) (((1:Int):Rat)*numQ A) (min P Q) (max P Q)→NumOk q:=Znj (p:=NumOk) (fun i hi=>⟨(hall i hi).1.1,(hall i hi).2.1⟩)
   have hGl:(ringL (F.set (L.length - 1) (rget F (L.length - 1)+((1:Int):Rat)*numQ A)) (((1:Int):Rat)*numQ A) (min P Q) (max P Q)).length=F.length:=by rw [Zbp,hl1]
   rw [hG] at hGb hGok hGl ⊢
   have hev:=ring _ _ _ _ (numQ A) hR
   have hSp:=Ypm hR hpos
   have hVb:Qb 3000 (enerZ ((L.map toE).zip (ringF F (L.length - 1) Q P (((1:Int):Int):Rat) (numQ A)))):=by
    rw [hev]; exact (hwb.add2 ((c2.mul2 c2).mul2 (hSb _ _ _ hsg))).mono (by omega)
   have hVok:=Zeq hVb (by omega)
   have hgt:w<enerZ ((L.map toE).zip (ringF F (L.length - 1) Q P (((1:Int):Int):Rat) (numQ A))):=by
    rw [hev]
    have h3:=Rat.mul_pos (Rat.mul_pos c1 c1) hSp
    generalize numQ A*numQ A*sumL (List.range (L.map toE).length) (fun s=>rho (L.length - 1) Q P (((1:Int):Int):Rat) s*rho (L.length - 1) Q P (((1:Int):Int):Rat) s / (eAt (L.map toE) s).2.2)=z at *
    grind
   have r1:=hca2' _ hGok (by omega) hGb (hrc _ _ _ _ (numQ A) hR)
   have r2:=hea2' _ hGok (by omega) hGb hVok
   have bss:=Y5f (H := [.cells [.int .i64 (P:Int),.int .i64 (Q:Int),.str (bs s.2.2)],.cells [.str (bs (numS (numQ A)))],.cells [.osl none 3 0 F.length],.cells (ss (ringF F (L.length - 1) Q P (((1:Int):Int):Rat) (numQ A))),.cells [.int .i64 ((m+1:Nat):Int),.sl ls]]) (ids := [3]) (b:=3) (x:=ringF F (L.length - 1) Q P (((1:Int):Int):Rat) (numQ A)) rfl (by simp)
   rw [hGl] at bss
   clear hG hev hall
   generalize ringF F (L.length - 1) Q P (((1:Int):Int):Rat) (numQ A)=G at *
   generalize enerZ ((L.map toE).zip G)=V' at *
   obtain ⟨cc,hcc,hcmp⟩:=Yzh hgt hVb (hwb.mono (by omega)) (by omega)
   have ov:=rof (Zb9 hVok) (Za3 hVok)
   have ow:=rof (Zb9 hwok) (Za3 hwok)
   have vv:=rvalid (l:=numS V') (Zb9 hVok)
   rw [show (parseL (numS V')).isSome=true by rw [Za3 hVok]; rfl] at vv
   simp only [go_sem,Zcn,e7,e8,e9,e14,e21,hl1]
   refine Zlk (ids := [3]) r1 (by simp only [go_sem]; exact bss) (.inr (.tup _ (fun z hz=>by simp at hz; rcases hz with rfl | rfl; exact .bool _; exact .int _ _))) (fun _ _=>trivial) ?_
   simp only [go_sem,Zcp,e7,e21,hl1]
   refine Zlk (ids := [3]) r2 (by simp only [go_sem]; exact bss) (.inr (.tup _ (fun z hz=>by simp at hz; rcases hz with rfl | rfl; exact .str _; exact .int _ _))) (fun _ _=>trivial) ?_
   simp only [go_sem,Zck]
   refine Zaa vv (by simp only [go_sem]) ?_
   simp only [go_sem,e14]
   refine Zaa ov (by simp only [go_sem]) ?_
   simp only [go_sem,e14]
   refine Zaa ow (by simp only [go_sem]) ?_
   simp only [go_sem]
   refine Zaa hcmp (by simp only [go_sem,avR,bq]) ?_
   simp only [go_sem,hcc]
end GoAbs
