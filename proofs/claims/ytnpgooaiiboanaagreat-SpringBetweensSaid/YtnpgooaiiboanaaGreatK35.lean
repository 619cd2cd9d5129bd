/- Lemmas for the claim (contracts of the functions that it reaches, and what they compute), without conditions. -/
import Derived.Test.YtnpgooaiiboanaaGreatK34
import Derived.Test.YtnpgooaiiboanaaGreatProg
import Derived.KernelRfl
set_option linter.unusedVariables false
set_option linter.unusedSimpArgs false
set_option maxRecDepth 10000
set_option maxHeartbeats 2000000
namespace GoAbs
open Go Go.Proofs
theorem Yd1 {R:List Nat}{a:Nat}{x:Nat→Rat}(hn:R.Nodup):sumL R (fun i=>(if i=a then 1 else 0)*x i)=if a∈R then x a else 0:=by
 induction R with
 | nil=>simp [Zo8]
 | cons r R ih =>
  obtain ⟨h1,h2⟩:=List.nodup_cons.1 hn
  rw [Zam,ih h2]
  by_cases h:r=a
  ·subst h; rw [if_pos rfl,if_neg h1,if_pos (by simp)]; grind
  ·rw [if_neg h]
   by_cases h':a∈R
   ·rw [if_pos h',if_pos (by simp [h'])]; grind
   ·have h2:¬ a=r:=fun e=>h e.symm
    rw [if_neg h',if_neg (by simp [h',h2])]; grind
theorem Ylf {m a b:Nat}{x:Nat→Rat}(ha:a≤m) (hb:b≤m) (h0:x 0=0):sumL (List.range' 1 m) (fun i=>edge a b i*x i)=x a - x b:=by
 have h1:sumL (List.range' 1 m) (fun i=>edge a b i*x i)=sumL (List.range' 1 m) (fun i=>(if i=a then 1 else 0)*x i)+(-1)*sumL (List.range' 1 m) (fun i=>(if i=b then 1 else 0)*x i):=by
  rw [← Zb3, ← Zch]
  exact Zal (fun i _=>by unfold edge; grind)
 have pick:∀ c,c≤m→(if c∈List.range' 1 m then x c else 0)=x c:=fun c hc=>by
  by_cases h:c=0
  ·subst h; rw [if_neg (by rw [List.mem_range'_1]; omega),h0]
  ·rw [if_pos (by rw [List.mem_range'_1]; omega)]
 rw [h1,Yd1 List.nodup_range',Yd1 List.nodup_range',pick a ha,pick b hb]
 grind
theorem Z6a {m:Nat}{E:List Sp}(hp:Pos E) (hE:InN (m+1) E):dt (List.range' 1 m) (Lm id E)=Fsum (m+1) id m E:=by
 have h:=Zpw hp hE (Yl0 (n:=m+1) (by omega))
 rw [List.length_range',Nat.add_sub_cancel] at h
 exact h.symm
def oneF (n a b:Nat) (E:List Sp):Rat:=Fsum n (mrg id a b) (n - 2) E
theorem Yx6 {m a b:Nat}{E:List Sp}(hp:Pos E) (hE:InN (m+1) E) (hm:1≤m) (ha:a≤m) (hb:b≤m):gt (List.range' 1 m) (Lm id E) (edge a b)=oneF (m+1) a b E:=by
 obtain ⟨k,rfl⟩:∃ k,m=k+1:=⟨m - 1,by omega⟩
 have h1:=Z6a (E:=(a,b,1)::E) (m:=k+1) (fun s hs=>by
  rcases List.mem_cons.1 hs with rfl | hs
  ·show (0:Rat)≤1; decide
  ·exact hp s hs) (fun s hs=>by
  rcases List.mem_cons.1 hs with rfl | hs
  ·exact ⟨by show a<_; omega,by show b<_; omega⟩
  ·exact hE s hs)
 have h2:=Z6a hp hE
 have h3:Lm id ((a,b,(1:Rat))::E)=up1 (Lm id E) 1 (edge a b):=rfl
 have h4:Fsum (k+1+1) id (k+1) ((a,b,1)::E)=Fsum (k+1+1) id (k+1) E+1*Fsum (k+1+1) (mrg id a b) k E:=rfl
 rw [h3,Yri List.nodup_range' (Zvj hp) (by decide),h4,h2] at h1
 unfold oneF
 rw [show k+1+1 - 2=k by omega]
 grind
theorem Xb6 {n a b:Nat}(ha:a<n) (hb:b<n) (hab:a≠b):∃ g R,Lab n (mrg id a b) g R∧R.length=n - 2:=by
 have h:=Yl0 (n:=n) (by omega)
 by_cases h0:a=0
 ·have hb':b∈List.range' 1 (n - 1):=by rw [List.mem_range'_1]; omega
  have:=h.mrg0 hb'
  rw [h0]
  exact ⟨_,_,this,by rw [List.length_erase_of_mem hb',List.length_range']; omega⟩
 ·have ha':a∈List.range' 1 (n - 1):=by rw [List.mem_range'_1]; omega
  have hb':b∈0::List.range' 1 (n - 1):=by
   rw [List.mem_cons,List.mem_range'_1]; omega
  exact ⟨_,_,h.mrg ha' hb' (fun e=>hab e.symm),by rw [List.length_erase_of_mem ha',List.length_range']; omega⟩
theorem Zw1 {n:Nat}{E:List Sp}(hn:1≤n) (hp:∀ e,e∈E→0<e.2.2) (hE:InN n E) (hc:connE n E):0<Fsum n id (n - 1) E:=by
 have h:=Z21 hp hE (Yl0 (n:=n) (by omega)) hc
 rwa [List.length_range'] at h
theorem Yp3 {n a b:Nat}{E:List Sp}(hp:∀ e,e∈E→0<e.2.2) (hE:InN n E) (hc:connE n E) (ha:a<n) (hb:b<n) (hab:a≠b):0<oneF n a b E:=by
 obtain ⟨g,R,hL,hR⟩:=Xb6 ha hb hab
 have h:=Z21 hp hE hL (fun i hi=>Z6p (f:=tieAll E (mrg id a b)) (l:=E) (p:=id) (fun i j hij=>by have:i=j:=hij; rw [this]) (fun e he=>Z0m he) i 0 (hc i hi))
 rw [hR] at h
 exact h
def unitX (m a b:Nat) (E:List Sp):List Rat:=0::bsub (triA m E ((unitF (m+1) a b).drop 1)) m m
theorem Ya6 {n a b i:Nat}(ha:a<n) (hb:b<n) (hab:a≠b):rget (unitF n a b) i=edge a b i:=by
 unfold unitF edge
 rw [Zf2 (by simp; exact hb),Zf2 (by simp; exact ha)]
 have h0:rget (List.replicate n 0) i=0:=by
  unfold rget
  rw [List.getD_eq_getElem?_getD,List.getElem?_replicate]
  split <;> rfl
 rw [h0]
 by_cases h1:i=b
 ·subst h1
  rw [if_pos rfl,if_pos rfl,if_neg (fun e=>hab e.symm)]; grind
 ·rw [if_neg h1,if_neg h1]; grind
theorem Zt0 {f:List Rat}{i:Nat}:rget (f.drop 1) i=rget f (i+1):=by
 unfold rget
 rw [List.getD_eq_getElem?_getD,List.getD_eq_getElem?_getD,List.getElem?_drop,Nat.add_comm]
theorem Z6v {n:Nat}{E:List Sp}(ho:NetOk n E):(∀ e,e∈E→0<e.2.2)∧Pos E∧InN n E :=
 ⟨fun e he=>(ho.e e he).2.2.2.1,fun e he=>Rat.le_of_lt (ho.e e he).2.2.2.1,fun e he=>⟨(ho.e e he).1,(ho.e e he).2.1⟩⟩
theorem Yk1 {m a b:Nat}{E:List Sp}(ho:NetOk (m+1) E) (hc:connE (m+1) E) (ha:a≤m) (hb:b≤m) (hab:a≠b) :
  rget (unitX m a b E) a - rget (unitX m a b E) b=oneF (m+1) a b E / Fsum (m+1) id m E:=by
 obtain ⟨hp,hP,hI⟩:=Z6v ho
 have hm:1≤m:=by have:=ho.n2; omega
 have hD:=Zw1 (n:=m+1) (by omega) hp hI hc
 rw [Nat.add_sub_cancel] at hD
 have hdt:=Z6a hP hI
 have hd0:dt (List.range' 1 m) (Lm id E)≠0:=by rw [hdt]; grind
 have hs:=(Z5u (m:=m) (E:=E) (r:=(unitF (m+1) a b).drop 1) (fun e he=>⟨by have:=(hI e he).1; omega,by have:=(hI e he).2; omega,(ho.e e he).2.2.1,hP e he⟩) (by rw [List.length_drop,Zd2]; omega) hd0).2.2.2
 have hg:=Yje (R:=List.range' 1 m) (A:=Lm id E) (v:=edge a b) (x:=solX (triA m E ((unitF (m+1) a b).drop 1)) m) (Zvj (R := []) hP).sym hd0 (fun i hi=>by
  have hi':=List.mem_range'_1.1 hi
  rw [hs i hi,Zt0,show i - 1+1=i by omega,Ya6 (by omega) (by omega) hab])
 rw [Ylf ha hb rfl,Yx6 hP hI hm ha hb,hdt] at hg
 show solX _ _ a - solX _ _ b=_
 have hD':Fsum (m+1) id m E≠0:=by grind
 generalize solX _ _ a - solX _ _ b=y at *
 rw [← hg]; grind
theorem Rb.elim5 {k:Nat}{p r:List Rat}{c:Nat}(hr:Rb k r) (hp:Rb k p) (hl:p.length=r.length) (hc:c<r.length) (hk:1≤k) (h0:rget p c≠0):Rb (5*k) (GoAbs.elimRow p c r):=fun x hx=>by
 unfold GoAbs.elimRow at hx
 split at hx
 ·exact (hr x hx).mono (by omega)
 ·unfold GoAbs.elimTo at hx
  obtain ⟨j,hj,rfl⟩:=List.mem_map.1 hx
  have hj':=List.mem_range.1 hj
  split
  ·exact ((hr.get hj').sub2 (((hr.get hc).div2 (hp.get (by omega)) h0).mul2 (hp.get (by omega)))).mono (by omega)
  ·exact (hr.get hj').mono (by omega)
theorem Mb.elim5 {k w:Nat}{M:RM}(h:Mb k M) (hw:Wid w M) {c I:Nat}(hcM:c<M.length) (hc:c<w) (hk:1≤k) (h0:mget M c c≠0):Mb (5*k) (elimCol M c I):=fun r hr=>by
 unfold elimCol at hr
 obtain ⟨i,hi,rfl⟩:=List.mem_map.1 hr
 have hi':=List.mem_range.1 hi
 split
 ·exact Rb.elim5 (h.get hi') (h.get hcM) (by rw [hw.get hcM,hw.get hi']) (by rw [hw.get hi']; exact hc) hk h0
 ·exact (h.get hi').mono (by omega)
theorem Yz3 {w:Nat}:∀ {k c l:Nat}{M:RM}{d:Rat},c+k≤M.length→M.length≤w→Wid w M→Mb l M→1≤l→Mb (5 ^ k*l) (tri k c M d).2
 | 0,c,l,M,d,_,_,_,hM,_=>by simpa [tri] using hM
 | k+1,c,l,M,d,hc,hw,hW,hM,hl=>by
  unfold tri
  split
  ·refine hM.mono ?_
   have:1≤5 ^ (k+1):=Nat.pow_pos (by omega)
   exact Nat.le_mul_of_pos_left l this
  ·rename_i h0
   have:=Yz3 (k:=k) (c:=c+1) (d:=d*mget M c c) (by rw [Zax]; omega) (by rw [Zax]; exact hw) (hW.elim (c:=c) (I:=M.length)) (hM.elim5 hW (by omega) (by omega) hl h0) (by omega)
   exact this.mono (by rw [Nat.pow_succ,Nat.mul_assoc]; exact Nat.le_refl _)
theorem Y7y {a k:Nat}(hk:k≤5):bbit a k≤200*(a+1):=by
 have h:bbit a k≤bbit a 5:=Y15 hk
 have:bbit a 5≤200*(a+1):=by simp only [bbit]; omega
 omega
def moveX (m:Nat) (E:List Sp) (f:List Rat):List Rat:=0::bsub (triA m E (f.drop 1)) m m
theorem Ybn {m:Nat}{E:List Sp}{f:List Rat}(ho:NetOk (m+1) E) (hm5:m≤5) (hEl:E.length≤40) (hc:connE (m+1) E) (hf:f.length=m+1) (hfb:Rb 10947 f) :
  SpecV Tryz.prog Zw8 [.agg (netC (m+1) E),.sl (condsR f)] (.sl (condsR (moveX m E f)))∧Rb 7000000000 (moveX m E f):=by
 obtain ⟨hp,hP,hI⟩:=Z6v ho
 have hm:1≤m:=by have:=ho.n2; omega
 have hD:=Zw1 (n:=m+1) (by omega) hp hI hc
 rw [Nat.add_sub_cancel] at hD
 have hd0:dt (List.range' 1 m) (Lm id E)≠0:=by rw [Z6a hP hI]; grind
 obtain ⟨lW,lL⟩:=Zdl (m:=m) (E:=E)
 obtain ⟨s1,s2,s3,s4⟩:=Z5u (m:=m) (E:=E) (r:=f.drop 1) (fun e he=>⟨by have:=(hI e he).1; omega,by have:=(hI e he).2; omega,(ho.e e he).2.2.1,hP e he⟩) (by rw [List.length_drop]; omega) hd0
 have hMb:Mb 10947 (lapl m E):=(Yd4 (fun e he=>(ho.e e he).2.2.2.2.bits) (by omega)).mono (by omega)
 have hAb:Mb 10947 (aug (lapl m E) (f.drop 1)):=fun row hr=>by
  unfold aug at hr
  rw [List.mem_iff_getElem?] at hr
  obtain ⟨i,hi⟩:=hr
  rw [List.getElem?_zipWith] at hi
  revert hi
  cases h1:(lapl m E)[i]? with
  | none=>intro hi; simp at hi
  | some r0 =>
   cases h2:(f.drop 1)[i]? with
   | none=>intro hi; simp at hi
   | some y =>
    intro hi
    simp at hi
    subst hi
    intro x hx
    rcases List.mem_append.1 hx with h | h
    ·exact hMb r0 (List.mem_of_getElem? h1) x h
    ·rw [List.mem_singleton] at h
     rw [h]
     exact hfb y (List.mem_of_mem_drop (List.mem_of_getElem? h2))
 have hAl:(aug (lapl m E) (f.drop 1)).length=m:=by rw [Z04 (by rw [List.length_drop]; omega),lL]
 have h5:5 ^ m*10947≤34209375:=Nat.le_trans (Nat.mul_le_mul_right _ (Nat.pow_le_pow_right (by omega) hm5)) (by decide)
 have h9:9 ^ m*10947≤100000000000:=Nat.le_trans (Nat.mul_le_mul_right _ (Nat.pow_le_pow_right (by omega) hm5)) (by decide)
 have hT:Mb 34209375 (triA m E (f.drop 1)):=(Yz3 (w:=m+1) (k:=m) (c:=0) (l:=10947) (d:=1) (by omega) (by omega) (Yi0 lW) hAb (by omega)).mono h5
 have hTl:(triA m E (f.drop 1)).length=m:=by unfold triA; rw [Yig,hAl]
 refine ⟨Yk0 (k:=10947) (a:=34209375) (kE:=67) hm (by omega) (fun e he=>⟨(ho.e e he).1,(ho.e e he).2.1,(ho.e e he).2.2.2.2.bits⟩) (by omega) (by omega) (by omega) hf hAb (by omega) h9 s1 hT s3 s2 (fun k hk=>?_),fun x hx=>?_⟩
 ·have hb:bbit 34209375 k≤200*(34209375+1):=Y7y (by omega)
  generalize bbit 34209375 k=y at *
  have:k*(34209375+y+1)≤4*(34209375+y+1):=Nat.mul_le_mul_right _ (by omega)
  omega
 ·unfold moveX at hx
  rcases List.mem_cons.1 hx with h | h
  ·rw [h]; exact Qb.zero (by omega)
  ·have hb:bbit 34209375 m≤200*(34209375+1):=Y7y hm5
   exact (Yc9 (n:=m) hT s3 hTl s2 m (Nat.le_refl _) x h).mono (by omega)
theorem Ycb {n a b:Nat}:Rb 10947 (unitF n a b):=fun x hx=>by
 unfold unitF at hx
 have h1:Qb 10947 (1:Rat):=Qb.one (by omega)
 have h2:Qb 10947 (-1:Rat):=h1.neg
 rcases List.mem_or_eq_of_mem_set hx with h | h
 ·rcases List.mem_or_eq_of_mem_set h with h | h
  ·rw [(List.mem_replicate.1 h).2]; exact Qb.zero (by omega)
  ·rw [h]; exact h1
 ·rw [h]; exact h2
theorem Ymx {m a b:Nat}{L:List Spr}{E:List Sp}(hE:E=L.map toE) (hL:L.length≤40) (hl:∀ s,s∈L→s.2.2.length≤1000000000) (h:readR ((m+1:Nat):Int) L = .tup [.agg (netC (m+1) E),.int .i64 0]) (ho:NetOk (m+1) E) (hm5:m≤5) (hc:connE (m+1) E)
  (ha:a≤m) (hb:b≤m) (hab:a≠b) :
  SpecV Tryz.prog Zbb [.int .i64 ((m+1:Nat):Int),.sl (L.map sprAV),.int .i64 (a:Int),.int .i64 (b:Int)] (.tup [.agg (netC (m+1) E),.sl (condsR (unitX m a b E)),.int .i64 0]):=by
 have hEl:E.length≤40:=by rw [hE,List.length_map]; exact hL
 obtain ⟨hp,hP,hI⟩:=Z6v ho
 have hcB:connB (m+1) E=true:=by rw [Yq4 (by omega) hI,decide_eq_true hc]
 obtain ⟨hmv,hxb⟩:=Ybn ho hm5 hEl hc (f:=unitF (m+1) a b) Zd2 Ycb
 exact Yy4 (by omega) hl h (by omega) (by omega) hab (by omega) (by omega) hI (by omega) hcB hmv
theorem Z7q {m a b:Nat}{L:List Spr}{E:List Sp}(hE:E=L.map toE) (hL:L.length≤40) (hl:∀ s,s∈L→s.2.2.length≤1000000000) (h:readR ((m+1:Nat):Int) L = .tup [.agg (netC (m+1) E),.int .i64 0]) (ho:NetOk (m+1) E) (hm5:m≤5) (hc:connE (m+1) E)
  (ha:a≤m) (hb:b≤m) (hab:a≠b) :
  SpecV Tryz.prog Zbt [.int .i64 ((m+1:Nat):Int),.sl (L.map sprAV),.int .i64 (a:Int),.int .i64 (b:Int)] (numR (Fsum (m+1) id m E / oneF (m+1) a b E)):=by
 have hEl:E.length≤40:=by rw [hE,List.length_map]; exact hL
 obtain ⟨hp,hP,hI⟩:=Z6v ho
 have hm:1≤m:=by have:=ho.n2; omega
 have hD:=Zw1 (n:=m+1) (by omega) hp hI hc
 rw [Nat.add_sub_cancel] at hD
 have hG:=Yp3 hp hI hc (a:=a) (b:=b) (by omega) (by omega) hab
 have hd:=Yk1 ho hc ha hb hab
 obtain ⟨hmv,hxb⟩:=Ybn ho hm5 hEl hc (f:=unitF (m+1) a b) Zd2 Ycb
 have hxl:(unitX m a b E).length=m+1:=by unfold unitX; rw [List.length_cons,Zfp]
 have hld:=Ymx hE hL hl h ho hm5 hc ha hb hab
 have hne:oneF (m+1) a b E / Fsum (m+1) id m E≠0:=by
  intro e
  have h1:oneF (m+1) a b E=oneF (m+1) a b E / Fsum (m+1) id m E*Fsum (m+1) id m E:=by grind
  rw [e] at h1
  grind
 have hbt:=Yfp (k:=7000000000) hld (by omega) (by omega) hxb (by omega) (by omega) (by rw [hd]; exact hne)
 rw [hd] at hbt
 have e:1 / (oneF (m+1) a b E / Fsum (m+1) id m E)=Fsum (m+1) id m E / oneF (m+1) a b E:=by grind
 rw [e] at hbt
 exact hbt
end GoAbs
namespace GoAbs
open Go Go.Proofs
end GoAbs
namespace GoAbs
open Go Go.Proofs
set_option exponentiation.threshold 20000
theorem Znf {n a b:Nat}{L:List Spr}(h2:2≤n) (h:NetL n L) (ha:a<n) (hb:b<n) (hab:a≠b) :
  oneF n a b (L.map toE)=treesF (n - 1) (oneS (min a b) (max a b) L):=by
 obtain ⟨hp,hI⟩:=h.pos
 have h1:=Y5s (n:=n) (low:=min a b) (high:=max a b) (l:=L.map toE) (a:=a) (b:=b) (w:=1) h2 (by omega) (by omega) (by omega) hp hI (by decide)
 obtain ⟨k,rfl⟩:∃ k,n=k+2:=⟨n - 2,by omega⟩
 have e1:k+2 - 1=k+1:=rfl
 have e2:k+2 - 2=k:=rfl
 rw [e1,e2,Zvn (l:=_++_),Yeh, ← Zvn,Ytg ⟨ha,hb⟩ hI, ← Y0p] at h1
 unfold oneF treesF
 rw [e1,e2,show k+1 - 1=k from rfl,Zvn]
 have e3:tieP (a,b,(1:Rat)) id=mrg id a b:=rfl
 rw [e3] at h1
 have e4:((a,b,(1:Rat)):MSp).2.2=1:=rfl
 rw [e4] at h1
 grind
theorem Xd6 {n d:Int}{q:Rat}{k:Nat}(hk:1≤k) (hk2:k≤4000) (hd:d≠0) (h:q=Rat.divInt n d) (h1:n.natAbs<10 ^ k) (h2:d.natAbs<10 ^ k):NumOk q:=by
 obtain ⟨g1,g2⟩:=Zea (n:=n) hd
 rw [← h] at g1 g2
 exact ⟨Nat.le_trans (Zv8 hk (Nat.lt_of_le_of_lt g1 h1)) hk2,.inr (Nat.le_trans (Zv8 hk (Nat.lt_of_le_of_lt g2 h2)) hk2)⟩
theorem q_div {q w:Rat}:Rat.divInt (q.num*w.den) ((q.den:Int)*w.num)=q / w:=by
 rw [Rat.div_def, ← Rat.num_divInt_den q,Rat.num_divInt_den]
 have:w⁻¹=Rat.divInt w.den w.num:=by rw [Rat.inv_def]
 rw [this]
 conv=>rhs; rw [← Rat.num_divInt_den q]
 rw [Rat.divInt_mul_divInt]
theorem Xfq {q w:Rat}(hq:q.num.natAbs<10 ^ 260∧q.den<10 ^ 260) (hw:w.num.natAbs<10 ^ 260∧w.den<10 ^ 260) (h0:0<w):NumOk (q / w)∧Ib 1800 (q.num*w.den)∧Ib 1800 ((q.den:Int)*w.num)∧0<(q.den:Int)*w.num:=by
 have hwn:0<w.num:=num_pos'.2 h0
 have hqd:=q.den_pos
 have hp:0<(q.den:Int)*w.num:=Int.mul_pos (by omega) hwn
 obtain ⟨_,i1,i2⟩:=Y1k hq
 obtain ⟨_,i3,i4⟩:=Y1k hw
 have e:10 ^ 260*10 ^ 260=10 ^ 520:=by decide+kernel
 refine ⟨Xd6 (k:=520) (by omega) (by omega) (by omega) q_div.symm ?_ ?_,i1.mul i4,i2.mul i3,hp⟩
 ·rw [Int.natAbs_mul,Int.natAbs_natCast, ← e]; exact Nat.mul_lt_mul'' hq.1 hw.2
 ·rw [Int.natAbs_mul,Int.natAbs_natCast, ← e]; exact Nat.mul_lt_mul'' hq.2 hw.1
theorem NetL.between {n a b:Nat}{L:List Spr}(h:NetL n L) (h2:2≤n) (h6:n≤6) (hc:connE n (L.map toE)) (ha:a<n) (hb:b<n) (hab:a≠b) :
  SpecV Tryz.prog Zbt [.int .i64 (n:Int),.sl (L.map sprAV),.int .i64 (a:Int),.int .i64 (b:Int)] (.tup [.str (bs (numS (treesF n L / treesF (n - 1) (oneS (min a b) (max a b) L)))),.int .i64 0]) ∧
  0<treesF n L∧0<treesF (n - 1) (oneS (min a b) (max a b) L)∧NumOk (treesF n L / treesF (n - 1) (oneS (min a b) (max a b) L)):=by
 obtain ⟨hr,ho⟩:=h.read h2 h6
 have hlen:∀ s,s∈L→s.2.2.length≤1000000000:=fun s hs=>by
  obtain ⟨_,q,_,_,_,_,hl⟩:=h.ok s hs; omega
 obtain ⟨hp,_,hI⟩:=Z6v ho
 have hone:=Yqf h (low:=min a b) (high:=max a b) (by omega) (by omega)
 have hG:=Yp3 hp hI hc ha hb hab
 have hF:=Zw1 (by omega) hp hI hc
 rw [Znf h2 h ha hb hab] at hG
 have hok:=(Xfq (q:=treesF n L) (w:=treesF (n - 1) (oneS (min a b) (max a b) L)) h.size hone.size hG).1
 obtain ⟨m,rfl⟩:∃ m,n=m+1:=⟨n - 1,by omega⟩
 have hbt:=Z7q rfl h.len hlen hr ho (by omega) hc (a:=a) (b:=b) (by omega) (by omega) hab
 rw [Znf h2 h ha hb hab] at hbt
 have hF':Fsum (m+1) id m (L.map toE)=treesF (m+1) L:=rfl
 rw [hF'] at hbt
 unfold numR at hbt
 rw [if_pos hok] at hbt
 exact ⟨hbt,hF,hG,hok⟩
end GoAbs
namespace GoAbs
open Go Go.Proofs
set_option exponentiation.threshold 20000
end GoAbs
namespace GoAbs
open Go Go.Proofs
set_option exponentiation.threshold 20000
theorem Qb.ib {k:Nat}{q:Rat}(h:Qb k q):Ib k q.num∧Ib k (q.den:Int):=⟨h.n,by show (q.den:Int).natAbs<_; rw [Int.natAbs_natCast]; exact h.d⟩
theorem NetL.betweenF {n a b:Nat}{L:List Spr}(h:NetL n L) (h2:2≤n) (h6:n≤6) (hc:connE n (L.map toE)) (ha:a<n) (hb:b<n) (hab:a≠b) :
  SpecV Tryz.prog Zbt [.int .i64 (n:Int),.sl (L.map sprAV),.int .i64 (a:Int),.int .i64 (b:Int)] (.tup [.str (bs (numS (treesF n L / oneF n a b (L.map toE)))),.int .i64 0]) ∧
  0<treesF n L∧0<oneF n a b (L.map toE)∧NumOk (treesF n L / oneF n a b (L.map toE))∧Qb 1800 (treesF n L / oneF n a b (L.map toE)):=by
 have hone:=Yqf h (low:=min a b) (high:=max a b) (by omega) (by omega)
 have hb:=h.between h2 h6 hc ha hb hab
 rw [← Znf h2 h ha (by omega) hab] at hb
 obtain ⟨h1,h3,h4,h5⟩:=hb
 refine ⟨h1,h3,h4,h5,?_⟩
 have k1:Qb 900 (treesF n L):=by
  have c:10 ^ 260<2 ^ 900:=by decide+kernel
  exact ⟨Nat.lt_trans h.size.1 c,Nat.lt_trans h.size.2 c⟩
 have k2:Qb 900 (oneF n a b (L.map toE)):=by
  rw [Znf h2 h ha (by omega) hab]
  have c:10 ^ 260<2 ^ 900:=by decide+kernel
  exact ⟨Nat.lt_trans hone.size.1 c,Nat.lt_trans hone.size.2 c⟩
 exact k1.div2 k2 (by grind)
end GoAbs
namespace GoAbs
open Go Go.Proofs
set_option exponentiation.threshold 20000
theorem Y1q {R S:List Nat}{f:Nat→Nat→Rat}:sumL R (fun i=>sumL S (fun j=>f i j))=sumL S (fun j=>sumL R (fun i=>f i j)):=by
 induction R with
 | nil=>rw [Zo8]; exact (Zfi (fun i _=>Zo8)).symm
 | cons r R ih=>rw [Zam,ih, ← Zch]; exact Zal (fun j _=>by rw [Zam])
theorem Y52 {n a b:Nat}{E:List Sp}(ho:NetOk n E) (hc:connE n E) (ha:a<n) (hb:b<n) (hab:a≠b) :
  ∃ x:Nat→Rat,(∀ i,i∈List.range' 1 (n - 1)→sumL (List.range' 1 (n - 1)) (fun j=>x j*Lm id E i j)=edge a b i)∧sumL (List.range' 1 (n - 1)) (fun i=>edge a b i*x i)=oneF n a b E / Fsum n id (n - 1) E∧0<oneF n a b E∧0<Fsum n id (n - 1) E:=by
 obtain ⟨hp,hP,hI⟩:=Z6v ho
 obtain ⟨m,rfl⟩:∃ m,n=m+1:=⟨n - 1,by omega⟩
 have hm:1≤m:=by have:=ho.n2; omega
 have hD:=Zw1 (n:=m+1) (by omega) hp hI hc
 have hG:=Yp3 hp hI hc ha hb hab
 rw [Nat.add_sub_cancel] at hD ⊢
 have hdt:=Z6a hP hI
 have hd0:dt (List.range' 1 m) (Lm id E)≠0:=by rw [hdt]; grind
 have hs:=(Z5u (m:=m) (E:=E) (r:=(unitF (m+1) a b).drop 1) (fun e he=>⟨by have:=(hI e he).1; omega,by have:=(hI e he).2; omega,(ho.e e he).2.2.1,hP e he⟩) (by rw [List.length_drop,Zd2]; omega) hd0).2.2.2
 have hs':∀ i,i∈List.range' 1 m→sumL (List.range' 1 m) (fun j=>solX (triA m E ((unitF (m+1) a b).drop 1)) m j*Lm id E i j)=edge a b i:=fun i hi=>by
  have hi':=List.mem_range'_1.1 hi
  rw [hs i hi,Zt0,show i - 1+1=i by omega,Ya6 ha hb hab]
 have hg:=Yje (R:=List.range' 1 m) (A:=Lm id E) (v:=edge a b) (Zvj (R := []) hP).sym hd0 hs'
 rw [Yx6 hP hI hm (by omega) (by omega),hdt] at hg
 refine ⟨_,hs',?_,hG,hD⟩
 rw [← hg]
 grind
end GoAbs
namespace GoAbs
set_option exponentiation.threshold 20000
abbrev Rn (n:Nat):List Nat:=List.range' 1 (n - 1)
def Sol (n:Nat) (E:List Sp) (x v:Nat→Rat):Prop:=∀ i,i∈Rn n→sumL (Rn n) (fun j=>x j*Lm id E i j)=v i
def dotN (n:Nat) (v x:Nat→Rat):Rat:=sumL (Rn n) (fun i=>v i*x i)
def Rr (n:Nat) (E:List Sp) (a b:Nat):Rat:=if a=b then 0 else oneF n a b E / Fsum n id (n - 1) E
theorem Sol.sub {n:Nat}{E:List Sp}{x y v u:Nat→Rat}(h:Sol n E x v) (k:Sol n E y u):Sol n E (fun j=>x j - y j) (fun i=>v i - u i):=fun i hi=>by
 have:sumL (Rn n) (fun j=>(x j - y j)*Lm id E i j)=sumL (Rn n) (fun j=>x j*Lm id E i j)+(-1)*sumL (Rn n) (fun j=>y j*Lm id E i j):=by
  rw [← Zb3, ← Zch]
  exact Zal (fun j _=>by grind)
 rw [this,h i hi,k i hi]; grind
theorem Ys8 {n:Nat}{v x y:Nat→Rat}:dotN n v (fun j=>x j - y j)=dotN n v x - dotN n v y:=by
 unfold dotN
 have:sumL (Rn n) (fun i=>v i*(x i - y i))=sumL (Rn n) (fun i=>v i*x i)+(-1)*sumL (Rn n) (fun i=>v i*y i):=by
  rw [← Zb3, ← Zch]
  exact Zal (fun j _=>by grind)
 rw [this]; grind
theorem Yzr {n:Nat}{v u x:Nat→Rat}:dotN n (fun j=>v j - u j) x=dotN n v x - dotN n u x:=by
 unfold dotN
 have:sumL (Rn n) (fun i=>(v i - u i)*x i)=sumL (Rn n) (fun i=>v i*x i)+(-1)*sumL (Rn n) (fun i=>u i*x i):=by
  rw [← Zb3, ← Zch]
  exact Zal (fun j _=>by grind)
 rw [this]; grind
theorem Yg1 {n:Nat}{v u x y:Nat→Rat}(h:∀ i,i∈Rn n→v i=u i) (k:∀ i,i∈Rn n→x i=y i):dotN n v x=dotN n u y:=Zal (fun i hi=>by rw [h i hi,k i hi])
theorem recip {n:Nat}{E:List Sp}{x y v u:Nat→Rat}(hP:Pos E) (h:Sol n E x v) (k:Sol n E y u):dotN n u x=dotN n v y:=by
 have hsym:=(Zvj (R := []) (p:=id) hP).sym
 have a1:dotN n u x=sumL (Rn n) (fun i=>sumL (Rn n) (fun j=>x i*(y j*Lm id E i j))):=Zal (fun i hi=>by rw [Zb3,k i hi]; grind)
 have a2:dotN n v y=sumL (Rn n) (fun i=>sumL (Rn n) (fun j=>y i*(x j*Lm id E i j))):=Zal (fun i hi=>by rw [Zb3,h i hi]; grind)
 rw [a1,a2,Y1q]
 exact Zal (fun i _=>Zal (fun j _=>by rw [hsym j i]; grind))
structure NetC (n:Nat) (E:List Sp):Prop where
 ok:NetOk n E
 con:connE n E
theorem NetC.dt {n:Nat}{E:List Sp}(h:NetC n E):dt (Rn n) (Lm id E)≠0∧0<Fsum n id (n - 1) E:=by
 obtain ⟨hp,hP,hI⟩:=Z6v h.ok
 obtain ⟨m,rfl⟩:∃ m,n=m+1:=⟨n - 1,by have:=h.ok.n2; omega⟩
 have hD:=Zw1 (n:=m+1) (by omega) hp hI h.con
 refine ⟨?_,hD⟩
 have:=Z6a hP hI
 rw [Nat.add_sub_cancel] at hD
 show GoAbs.dt (List.range' 1 (m+1 - 1)) _≠0
 rw [Nat.add_sub_cancel,this]; grind
theorem NetC.uniq {n:Nat}{E:List Sp}(h:NetC n E) {x y v:Nat→Rat}(hx:Sol n E x v) (hy:Sol n E y v):∀ i,i∈Rn n→x i=y i :=
 Y6y (Zvj (R := []) (p:=id) (Z6v h.ok).2.1).sym h.dt.1 hx hy
theorem NetC.unit {n:Nat}{E:List Sp}(h:NetC n E) {a b:Nat}(ha:a<n) (hb:b<n):∃ x,Sol n E x (edge a b)∧dotN n (edge a b) x=Rr n E a b:=by
 by_cases hab:a=b
 ·subst hab
  refine ⟨fun _=>0,fun i hi=>?_,?_⟩
  ·rw [Yeg]; exact Zfi (fun j _=>by grind)
  ·unfold Rr dotN; rw [if_pos rfl]; exact Zfi (fun j _=>by grind)
 ·obtain ⟨x,x1,x2,_⟩:=Y52 h.ok h.con ha hb hab
  exact ⟨x,x1,by unfold Rr; rw [if_neg hab]; exact x2⟩
theorem Y8e {a b:Nat}:edge a b=fun i=>edge a 0 i - edge b 0 i:=by funext i; unfold edge; grind
theorem NetC.transfer {n:Nat}{E:List Sp}(h:NetC n E) {a b p q:Nat}(ha:a<n) (hb:b<n) (hp:p<n) (hq:q<n) {x:Nat→Rat}(hx:Sol n E x (edge a b)) :
  dotN n (edge p q) x=(Rr n E p b+Rr n E q a - Rr n E p a - Rr n E q b) / 2:=by
 obtain ⟨z,hz⟩:∃ z:Nat→Nat→Rat,∀ c,c<n→Sol n E (z c) (edge c 0) :=
  ⟨fun c=>if hc:c<n then Classical.choose (h.unit hc (show 0<n by omega)) else fun _=>0,fun c hc=>by
   show Sol n E (if hc:c<n then _ else _) _
   rw [dif_pos hc]
   exact (Classical.choose_spec (h.unit hc (show 0<n by omega))).1⟩
 have hP:=(Z6v h.ok).2.1
 have hsol:∀ c d,c<n→d<n→Sol n E (fun j=>z c j - z d j) (edge c d):=fun c d hc hd=>by
  rw [Y8e]; exact (hz c hc).sub (hz d hd)
 obtain ⟨g,hg⟩:∃ g:Nat→Nat→Rat,∀ c d,g c d=dotN n (edge c 0) (z d):=⟨_,fun _ _=>rfl⟩
 have hgs:∀ c d,c<n→d<n→g c d=g d c:=fun c d hc hd=>by rw [hg,hg]; exact recip hP (hz d hd) (hz c hc)
 have hexp:∀ c d e f,dotN n (edge c d) (fun j=>z e j - z f j)=g c e - g c f - g d e+g d f:=fun c d e f=>by
  rw [Y8e (a:=c) (b:=d),Yzr,Ys8,Ys8,hg,hg,hg,hg]; grind
 have hR:∀ c d,c<n→d<n→Rr n E c d=g c c+g d d - 2*g c d:=fun c d hc hd=>by
  obtain ⟨y,y1,y2⟩:=h.unit hc hd
  rw [← y2,Yg1 (fun _ _=>rfl) (h.uniq y1 (hsol c d hc hd)),hexp,hgs d c hd hc]; grind
 rw [Yg1 (fun _ _=>rfl) (h.uniq hx (hsol a b ha hb)),hexp,hR p b hp hb,hR q a hq ha,hR p a hp ha,hR q b hq hb]
 grind
end GoAbs
namespace GoAbs
def jorCol (M:RM) (c I:Nat):RM:=(List.range M.length).map fun i=>if i≠c∧i<I then elimRow (M.getD c []) c (M.getD i []) else M.getD i []
theorem Zdj {M:RM}{c I:Nat}:(jorCol M c I).length=M.length:=by simp [jorCol]
theorem Zjl {M:RM}{c I i:Nat}(h:i<M.length):(jorCol M c I)[i]? = some (if i≠c∧i<I then elimRow (M.getD c []) c (M.getD i []) else M.getD i []):=by simp [jorCol,h]
theorem Yen {M:RM}{c I i:Nat}(h:i<M.length):(jorCol M c I).getD i []=if i≠c∧i<I then elimRow (M.getD c []) c (M.getD i []) else M.getD i []:=by
 rw [List.getD_eq_getElem?_getD,Zjl h]; rfl
theorem Yqm {M:RM}{c:Nat}:jorCol M c 0=M:=by
 apply List.ext_getElem?
 intro i
 by_cases hi:i<M.length
 ·rw [Zjl hi,if_neg (by omega),getD_some hi]
 ·rw [List.getElem?_eq_none (by rw [Zdj]; omega),List.getElem?_eq_none (by omega)]
theorem Ypb {M:RM}{c I:Nat}(hI:I<M.length) (hc:I≠c):(jorCol M c I).set I (elimRow (M.getD c []) c (M.getD I []))=jorCol M c (I+1):=by
 apply List.ext_getElem?
 intro i
 by_cases hi:i<M.length
 ·rw [Zjl hi]
  by_cases h1:i=I
  ·subst h1
   rw [List.getElem?_set_self (by rw [Zdj]; exact hi),if_pos ⟨hc,by omega⟩]
  ·rw [List.getElem?_set_ne (by omega),Zjl hi]
   by_cases h2:i≠c∧i<I
   ·rw [if_pos h2,if_pos ⟨h2.1,by omega⟩]
   ·rw [if_neg h2,if_neg (by omega)]
 ·rw [List.getElem?_eq_none (by rw [List.length_set,Zdj]; omega),List.getElem?_eq_none (by rw [Zdj]; omega)]
theorem Ypy {M:RM}{c:Nat}:jorCol M c (c+1)=jorCol M c c:=by
 unfold jorCol
 refine List.map_congr_left fun i _=>?_
 by_cases h:i≠c∧i<c
 ·rw [if_pos h,if_pos ⟨h.1,by omega⟩]
 ·rw [if_neg h,if_neg (by omega)]
theorem Wid.jor {w:Nat}{M:RM}(h:Wid w M) {c I:Nat}:Wid w (jorCol M c I):=fun r hr=>by
 unfold jorCol at hr
 obtain ⟨i,hi,rfl⟩:=List.mem_map.1 hr
 have hi':=List.mem_range.1 hi
 split
 ·rw [Ydk]; exact h.get hi'
 ·exact h.get hi'
def jorN:Nat→Nat→RM→RM
 | 0,_,M=>M
 | k+1,c,M=>jorN k (c+1) (jorCol M c M.length)
theorem Z5b {M:RM}{w c i j:Nat}(hW:Wid w M) (hi:i<M.length) (hj:j<w) (hci:i≠c) (hp:mget M c c≠0) :
  mget (jorCol M c M.length) i j=if c≤j then mget M i j - mget M i c*mget M c j / mget M c c else mget M i j:=by
 unfold mget
 rw [Yen hi,if_pos ⟨hci,hi⟩]
 unfold elimRow
 have hl:=hW.get hi
 split
 ·rename_i h0
  rw [h0]
  split
  ·grind
  ·rfl
 ·show (elimTo _ _ _ _ _).getD j 0=_
  rw [List.getD_eq_getElem?_getD,Zg7 (by rw [hl]; exact hj)]
  simp only [Option.getD_some]
  by_cases h:c≤j
  ·rw [if_pos ⟨h,by rw [hl]; exact hj⟩,if_pos h]
   unfold mget at hp
   grind
  ·rw [if_neg (fun k=>h k.1),if_neg h]
theorem Zw4 {M:RM}{c j:Nat}(hc:c<M.length):mget (jorCol M c M.length) c j=mget M c j:=by
 unfold mget
 rw [Yen hc,if_neg (by omega)]
def Piv:Nat→Nat→RM→Prop
 | 0,_,_=>True
 | k+1,c,M=>mget M c c≠0∧Piv k (c+1) (jorCol M c M.length)
theorem Ysg {m:Nat}{x:Nat→Rat}:∀ {k c:Nat}{M:RM}{A:Mat},c+k=m→M.length=m→Wid (m+1) M→Psd (List.range' (c+1) k) A→dt (List.range' (c+1) k) A≠0 →
  (∀ i j,c≤i→i<m→c≤j→j<m→mget M i j=A (i+1) (j+1))→(∀ i j,i<m→j<c→i≠j→mget M i j=0)→(∀ j,j<c→mget M j j≠0) →
  (∀ i,i<m→sumL (List.range' 1 m) (fun j=>x j*mget M i (j - 1))=mget M i m) →
  Piv k c M∧Wid (m+1) (jorN k c M)∧∀ i,i<m→mget (jorN k c M) i i≠0∧mget (jorN k c M) i m / mget (jorN k c M) i i=x (i+1)
 | 0,c,M,A,hk,hM,hW,_,_,_,hz,hd,hx=>⟨trivial,hW,fun i hi=>by
  have hc:c=m:=by omega
  subst hc
  have h:=hx i hi
  have hs:sumL (List.range' 1 c) (fun j=>x j*mget M i (j - 1))=sumL (List.range' 1 c) (fun j=>(if j=i+1 then 1 else 0)*(x j*mget M i (j - 1))):=Zal (fun j hj=>by
   have hj':=List.mem_range'_1.1 hj
   by_cases h:j=i+1
   ·rw [if_pos h]; grind
   ·rw [if_neg h,hz i (j - 1) hi (by omega) (by omega)]; grind)
  rw [hs,Yd1 List.nodup_range',if_pos (by rw [List.mem_range'_1]; omega),Nat.add_sub_cancel] at h
  have h0:=hd i hi
  refine ⟨h0,?_⟩
  show mget M i c / mget M i i=_
  rw [← h]
  grind⟩
 | k+1,c,M,A,hk,hM,hW,hA,hd,hg,hz,hp,hx=>by
  have hr:c+1 ∉ List.range' (c+1+1) k:=by rw [List.mem_range'_1]; omega
  rw [List.range'_succ] at hA hd
  obtain ⟨d1,d2⟩:=Yim hd
  have hpv:=hg c c (by omega) (by omega) (by omega) (by omega)
  have h0:mget M c c≠0:=by rw [hpv]; exact d1
  have hcM:c<M.length:=by omega
  have hdec:∀ i,i=c∨i≠c:=fun i=>by omega
  have ih:=Ysg (x:=x) (k:=k) (c:=c+1) (M:=jorCol M c M.length) (A:=schur (c+1) A) (by omega) (by rw [Zdj,hM]) hW.jor (hA.schur hr) d2
   (fun i j hi hil hj hjl=>by
    rw [Z5b hW (by omega) (by omega) (by omega) h0,if_pos (by omega),hg i j (by omega) hil (by omega) hjl,hg i c (by omega) hil (by omega) (by omega),hg c j (by omega) (by omega) (by omega) hjl,hpv]
    rfl)
   (fun i j hi hj hij=>by
    rcases hdec i with rfl | hic
    ·rw [Zw4 hcM]; exact hz i j hi (by omega) hij
    ·rw [Z5b hW (by omega) (by omega) hic h0]
     by_cases hjc:j=c
     ·subst hjc
      rw [if_pos (Nat.le_refl _)]; grind
     ·rw [if_neg (by omega)]; exact hz i j hi (by omega) hij)
   (fun j hj=>by
    rcases hdec j with rfl | hjc
    ·rw [Zw4 hcM]; exact h0
    ·rw [Z5b hW (by omega) (by omega) hjc h0,if_neg (by omega)]; exact hp j (by omega))
   (fun i hi=>by
    rcases hdec i with rfl | hic
    ·rw [Zw4 hcM, ← hx i hi]
     exact Zal (fun j hj=>by rw [Zw4 hcM])
    ·rw [Z5b hW (by omega) (by omega) hic h0,if_pos (by omega), ← hx i hi, ← hx c (by omega)]
     have e:sumL (List.range' 1 m) (fun j=>x j*mget (jorCol M c M.length) i (j - 1))=sumL (List.range' 1 m) (fun j=>x j*mget M i (j - 1))+(-(mget M i c / mget M c c))*sumL (List.range' 1 m) (fun j=>x j*mget M c (j - 1)):=by
      rw [← Zb3, ← Zch]
      refine Zal (fun j hj=>?_)
      have hj':=List.mem_range'_1.1 hj
      rw [Z5b hW (by omega) (by omega) hic h0]
      by_cases h:c≤j - 1
      ·rw [if_pos h]; grind
      ·rw [if_neg h,hz c (j - 1) (by omega) (by omega) (by omega)]; grind
     rw [e]
     grind)
  exact ⟨⟨h0,ih.1⟩,ih.2⟩
end GoAbs
namespace GoAbs
open Go Go.Proofs
def Zta:List IOp := [oI 2 (.mv (.c .nils)) 0,oI 3 (.mv (cI 0)) 0]
def Zwk:List IOp := [oI 4 (.mv (.c .nils)) 0]
def Zwl:List IOp := [mI 9 0 0,oI 10 (.len (.t 9)) 0,oI 11 (.mv (cI 0)) 0]
def Zj1:List IOp := [oI 12 (.bin .lss (.t 11) (.t 10)) 0]
def Zvm:List IOp := [xI 13 4 9 11 0,lJ 14 4 13 0,oI 6 (.alloc [.bool false,.nils,.bool false,.nils]) 0,⟨none,.st 4 (.t 6) (.t 14),1,[],[],none⟩]
def Zs8:List IOp := [lJ 16 4 6 0,oI 17 (.call 65 [.t 16]) 0,mI 15 17 0,eI 18 0 15 0,eI 19 1 15 0,mI 7 18 0,mI 8 19 0]
def Zkz:List IOp := [mI 20 8 0,oI 21 (.bin .neq (.t 20) (cI 0)) 0]
def Ztl:List IOp := [mI 22 8 0,oI 2 (.mv (.c .nils)) 0,mI 3 22 0]
def Ztv:List IOp := [mI 23 4 0,mI 24 7 0,oI 25 (.bsl none 1 [.str ⟨#[]⟩] [(0,.t 24)]) 0,oI 26 (.app none 16 (.t 23) (.t 25)) 1,mI 4 26 2]
def Zrc:List IOp := [oI 27 (.bin .add (.t 11) (cI 1)) 0,mI 11 27 0]
def Zjn:CC := .seq (.rg false Zj1) (.seq (.cond (.t 12) .skip (.exit 0)) (.seq (.block 1 (.seq (.rg false Zvm) (.seq (.rg false Zs8) (.seq (.seq (.rg false Zkz) (.cond (.t 21) (.seq (.rg false Ztl) .ret) .skip)) (.rg false Ztv))))) (.rg false Zrc)))
def Zrm:List IOp := [mI 28 4 0,mI 2 28 0,oI 3 (.mv (cI 0)) 0]
def Z72:CC := .seq (.rg false Zta) (.seq (.rg false Zwk) (.seq (.seq (.rg false Zwl) (.block 0 (.loop Zjn))) (.seq (.rg false Zrm) .ret)))
abbrev Yhq:Nat:=88
theorem Yfe:fnOk Tryz.prog 88=some (29,Z72,[.tmp 2,.tmp 3]):=by kernel_rfl
def Zj8:List IOp := [oI 8 (.mv (.c .nils)) 0,oI 9 (.mv (cI 0)) 0]
def Zkh:List IOp := [mI 17 0 0,mI 18 1 0,mI 19 2 0,mI 20 3 0,oI 21 (.call 76 [.t 17,.t 18,.t 19,.t 20]) 0,mI 16 21 0,eI 22 0 16 0,eI 23 1 16 0,eI 24 2 16 0,oI 10 (.alloc [.int .i64 0,.nils,.nils]) 0,⟨none,.st 3 (.t 10) (.t 22),1,[],[],none⟩,mI 11 23 1,mI 12 24 1]
def Zjp:List IOp := [mI 25 12 0,oI 26 (.bin .neq (.t 25) (cI 0)) 0]
def Zt1:List IOp := [mI 27 12 0,oI 8 (.mv (.c .nils)) 0,mI 9 27 0]
def Zuw:List IOp := [oI 13 (.mv (.c .nils)) 0]
def Zv4:List IOp := [fI 28 1 10 0,lI 29 28 0,oI 30 (.len (.t 29)) 0,oI 31 (.mv (cI 0)) 0]
def Zkx:List IOp := [oI 32 (.bin .lss (.t 31) (.t 30)) 0]
def Ztu:List IOp := [mI 33 31 0,xI 34 2 29 31 0,lJ 35 2 34 0,oI 15 (.alloc [.int .i64 0,.int .i64 0]) 0,mI 14 33 1,⟨none,.st 2 (.t 15) (.t 35),1,[],[],none⟩]
def Zkq:List IOp := [mI 36 13 0,fI 37 2 10 0,lI 38 37 0,mI 39 14 0,xI 40 4 38 39 0,lJ 41 4 40 0,mI 42 11 0,fI 43 0 15 0,lI 44 43 0,xI 45 4 42 44 0,lJ 46 4 45 0,mI 47 11 0,fI 48 1 15 0,lI 49 48 0,xI 50 4 47 49 0,lJ 51 4 50 0,oI 52 (.call 79 [.t 46,.t 51]) 0,oI 53 (.call 87 [.t 41,.t 52]) 0,oI 54 (.bsl (some 4) 1 [.bool false,.nils,.bool false,.nils] [(0,.t 53)]) 0,⟨some 55,.app (some 4) 64 (.t 36) (.t 54),1,[0],[],none⟩,⟨some 13,.mv (.t 55),2,[0,1],[],none⟩]
@[go_sem ↓] theorem Z59 : autoK Zkq = (2, 1) := by kernel_rfl
@[go_sem] theorem Yti : autoK [mI 36 13 0, fI 37 2 10 0, lI 38 37 0, mI 39 14 0, xI 40 4 38 39 0, lJ 41 4 40 0, mI 42 11 0, fI 43 0 15 0, lI 44 43 0, xI 45 4 42 44 0, lJ 46 4 45 0, mI 47 11 0, fI 48 1 15 0, lI 49 48 0, xI 50 4 47 49 0, lJ 51 4 50 0, oI 52 (.call 79 [.t 46, .t 51]) 0, oI 53 (.call 87 [.t 41, .t 52]) 0, oI 54 (.bsl (some 4) 1 [.bool false, .nils, .bool false, .nils] [(0, .t 53)]) 0, ⟨some 55, .app (some 4) 64 (.t 36) (.t 54), 1, [0], [], none⟩, ⟨some 13, .mv (.t 55), 2, [0, 1], [], none⟩] = (2, 1) := Z59
def Zrj:List IOp := [oI 56 (.bin .add (.t 31) (cI 1)) 0,mI 31 56 0]
def Zkp:CC := .seq (.rg false Zkx) (.seq (.cond (.t 32) .skip (.exit 0)) (.seq (.block 1 (.seq (.rg false Ztu) (.rg true Zkq))) (.rg false Zrj)))
def Zq5:List IOp := [mI 57 13 0,oI 58 (.call 88 [.t 57]) 0,eI 59 0 58 0,eI 60 1 58 0,mI 8 59 0,mI 9 60 0]
def Zui:CC := .seq (.rg false Zj8) (.seq (.rg false Zkh) (.seq (.seq (.rg false Zjp) (.cond (.t 26) (.seq (.rg false Zt1) .ret) .skip)) (.seq (.rg false Zuw) (.seq (.seq (.rg false Zv4) (.block 0 (.loop Zkp))) (.seq (.rg false Zq5) .ret)))))
abbrev Zph:Nat:=40
theorem Zz2:fnOk Tryz.prog 40=some (61,Zui,[.tmp 8,.tmp 9]):=by kernel_rfl
def Zc3:List IOp := [oI 3 (.box (.t 1)) 0,oI 4 (.mv (cI 0)) 1]
def Zc1:List IOp := [fI 5 0 3 0,lI 6 5 0,oI 7 (.bin .lss (.t 6) (cI 0)) 0,mI 8 7 0,gI 9 (.fa 1 (.t 3)) 0 8 false,gI 10 (.ld none (.t 9)) 0 8 false,gI 11 (.bin .lss (.t 10) (cI 0)) 0 8 false,oI 12 (.pick (.t 8) (.c (.bool true)) (.t 11)) 0,mI 13 12 0,gI 14 (.fa 0 (.t 3)) 0 13 false,gI 15 (.ld none (.t 14)) 0 13 false,gI 16 (.mv (.t 0)) 0 13 false,gI 17 (.bin .geq (.t 15) (.t 16)) 0 13 false,oI 18 (.pick (.t 13) (.c (.bool true)) (.t 17)) 0,mI 19 18 0,gI 20 (.fa 1 (.t 3)) 0 19 false,gI 21 (.ld none (.t 20)) 0 19 false,gI 22 (.mv (.t 0)) 0 19 false,gI 23 (.bin .geq (.t 21) (.t 22)) 0 19 false,oI 24 (.pick (.t 19) (.c (.bool true)) (.t 23)) 0,mI 25 24 0,gI 26 (.fa 0 (.t 3)) 0 25 false,gI 27 (.ld none (.t 26)) 0 25 false,gI 28 (.fa 1 (.t 3)) 0 25 false,gI 29 (.ld none (.t 28)) 0 25 false,gI 30 (.bin .eql (.t 27) (.t 29)) 0 25 false,oI 31 (.pick (.t 25) (.c (.bool true)) (.t 30)) 0]
def Ze9:List IOp := [oI 4 (.mv (cI 1)) 0]
def Z8q:List IOp := [oI 4 (.mv (cI 0)) 0]
def Ykv:CC := .seq (.rg false Zc3) (.seq (.seq (.rg false Zc1) (.cond (.t 31) (.seq (.rg false Ze9) .ret) .skip)) (.seq (.rg false Z8q) .ret))
abbrev Ywp:Nat:=41
theorem Yqp:fnOk Tryz.prog 41=some (32,Ykv,[.tmp 4]):=by kernel_rfl
def Z54:List IOp := [oI 4 (.mv (.c .nils)) 0,oI 5 (.mv (.c (.bool false))) 0]
def Z3i:List IOp := [oI 16 (.bsl none 0 [.nils] []) 0,mI 6 16 1]
def Z4l:List IOp := [oI 7 (.mv (cI 0)) 0]
def Zpf:List IOp := [mI 17 7 0,mI 18 0 0,oI 19 (.len (.t 18)) 0,oI 20 (.bin .lss (.t 17) (.t 19)) 0]
def Z4a:List IOp := [mI 23 6 0,oI 24 (.bsl (some 4) 0 [.bool false,.nils,.bool false,.nils] []) 0,mI 25 0 1,mI 26 7 1,xI 27 1 25 26 1,lI 28 27 1,oI 29 (.app (some 4) 64 (.t 24) (.t 28)) 1,oI 30 (.bsl none 1 [.nils] [(0,.t 29)]) 2,oI 31 (.app none 24 (.t 23) (.t 30)) 3,mI 6 31 4]
def Z4w:List IOp := [mI 21 7 0,oI 22 (.bin .add (.t 21) (cI 1)) 0,mI 7 22 0]
def Zqo:CC := .seq (.seq (.rg false Zpf) (.cond (.t 20) .skip (.exit 0))) (.seq (.block 1 (.rg false Z4a)) (.rg false Z4w))
def Z5d:List IOp := [oI 8 (.mv (cI 0)) 0]
def Zpn:List IOp := [mI 32 8 0,mI 33 1 0,oI 34 (.bin .lss (.t 32) (.t 33)) 0]
def Z24:List IOp := [oI 9 (.mv (cI (-1))) 0]
def Zxl:List IOp := [mI 37 8 0,mI 10 37 0]
def Zho:List IOp := [mI 38 10 0,mI 39 1 0,oI 40 (.bin .lss (.t 38) (.t 39)) 0,mI 41 40 0,gI 42 (.mv (.t 9)) 0 41 true,gI 43 (.bin .lss (.t 42) (cI 0)) 0 41 true,oI 44 (.pick (.t 41) (.t 43) (.c (.bool false))) 0]
def Zza:List IOp := [mI 47 6 0,mI 48 10 0,xI 49 1 47 48 0,lI 50 49 0,mI 51 8 0,xI 52 4 50 51 0,lJ 53 4 52 0,oI 54 (.call 35 [.t 53]) 0,oI 55 (.un .not (.t 54)) 0]
def Zmp:List IOp := [mI 56 10 0,mI 9 56 0]
def Zmx:List IOp := [mI 45 10 0,oI 46 (.bin .add (.t 45) (cI 1)) 0,mI 10 46 0]
def Zpi:CC := .seq (.seq (.rg false Zho) (.cond (.t 44) .skip (.exit 4))) (.seq (.block 5 (.seq (.rg false Zza) (.cond (.t 55) (.rg false Zmp) .skip))) (.rg false Zmx))
def Zyy:List IOp := [mI 57 9 0,oI 58 (.bin .lss (.t 57) (cI 0)) 0]
def Ye4:List IOp := [oI 4 (.mv (.c .nils)) 0,oI 5 (.mv (.c (.bool false))) 0]
def Zl4:List IOp := [mI 59 6 0,mI 60 8 0,mI 61 6 0,mI 62 9 0,mI 63 6 0,mI 64 9 0,xI 65 1 63 64 0,lI 66 65 0,mI 67 6 0,mI 68 8 0,xI 69 1 67 68 0,lI 70 69 0,xI 71 1 59 60 0,⟨none,.st 1 (.t 71) (.t 66),0,[],[],none⟩,xI 72 1 61 62 0,⟨none,.st 1 (.t 72) (.t 70),0,[],[],none⟩]
@[go_sem ↓] theorem Yag : autoK Zl4 = (0, 1) := by kernel_rfl
@[go_sem] theorem Yw4 : autoK [mI 59 6 0, mI 60 8 0, mI 61 6 0, mI 62 9 0, mI 63 6 0, mI 64 9 0, xI 65 1 63 64 0, lI 66 65 0, mI 67 6 0, mI 68 8 0, xI 69 1 67 68 0, lI 70 69 0, xI 71 1 59 60 0, ⟨none, .st 1 (.t 71) (.t 66), 0, [], [], none⟩, xI 72 1 61 62 0, ⟨none, .st 1 (.t 72) (.t 70), 0, [], [], none⟩] = (0, 1) := Yag
def Zz7:List IOp := [oI 11 (.mv (cI 0)) 0]
def Zd4:List IOp := [mI 73 11 0,mI 74 1 0,oI 75 (.bin .lss (.t 73) (.t 74)) 0]
def Zhb:List IOp := [mI 78 11 0,mI 79 8 0,oI 80 (.bin .eql (.t 78) (.t 79)) 0,mI 81 80 0,gI 82 (.mv (.t 6)) 0 81 false,gI 83 (.mv (.t 11)) 0 81 false,gI 84 (.idx 1 (.t 82) (.t 83)) 0 81 false,gI 85 (.ld none (.t 84)) 0 81 false,gI 86 (.mv (.t 8)) 0 81 false,gI 87 (.idx 4 (.t 85) (.t 86)) 0 81 false,gI 88 (.ld (some 4) (.t 87)) 0 81 false,gI 89 (.call 35 [.t 88]) 0 81 false,oI 90 (.pick (.t 81) (.c (.bool true)) (.t 89)) 0]
def Zl8:List IOp := [mI 91 6 0,mI 92 11 0,xI 93 1 91 92 0,lI 94 93 0,mI 95 8 0,xI 96 4 94 95 0,lJ 97 4 96 0,mI 98 6 0,mI 99 8 0,xI 100 1 98 99 0,lI 101 100 0,mI 102 8 0,xI 103 4 101 102 0,lJ 104 4 103 0,oI 105 (.call 32 [.t 97,.t 104]) 0,oI 106 (.call 36 [.t 105]) 0,oI 12 (.alloc [.bool false,.nils,.bool false,.nils]) 0,⟨none,.st 4 (.t 12) (.t 106),1,[0],[],none⟩]
@[go_sem ↓] theorem Yaq : autoK Zl8 = (1, 1) := by kernel_rfl
@[go_sem] theorem Yue : autoK [mI 91 6 0, mI 92 11 0, xI 93 1 91 92 0, lI 94 93 0, mI 95 8 0, xI 96 4 94 95 0, lJ 97 4 96 0, mI 98 6 0, mI 99 8 0, xI 100 1 98 99 0, lI 101 100 0, mI 102 8 0, xI 103 4 101 102 0, lJ 104 4 103 0, oI 105 (.call 32 [.t 97, .t 104]) 0, oI 106 (.call 36 [.t 105]) 0, oI 12 (.alloc [.bool false, .nils, .bool false, .nils]) 0, ⟨none, .st 4 (.t 12) (.t 106), 1, [0], [], none⟩] = (1, 1) := Yaq
def Zyb:List IOp := [mI 107 8 0,mI 13 107 0]
def Zml:List IOp := [mI 108 13 0,mI 109 1 0,oI 110 (.bin .leq (.t 108) (.t 109)) 0]
def Zl5:List IOp := [mI 113 6 0,mI 114 11 0,xI 115 1 113 114 0,lI 116 115 0,mI 117 13 0,mI 118 6 0,mI 119 11 0,xI 120 1 118 119 0,lI 121 120 0,mI 122 13 0,xI 123 4 121 122 0,lJ 124 4 123 0,lJ 125 4 12 0,mI 126 6 0,mI 127 8 0,xI 128 1 126 127 0,lI 129 128 0,mI 130 13 0,xI 131 4 129 130 0,lJ 132 4 131 0,oI 133 (.call 28 [.t 125,.t 132]) 0,oI 134 (.call 52 [.t 124,.t 133]) 0,oI 135 (.call 36 [.t 134]) 0,xI 136 4 116 117 0,⟨none,.st 4 (.t 136) (.t 135),0,[],[],none⟩]
@[go_sem ↓] theorem Yab : autoK Zl5 = (0, 1) := by kernel_rfl
@[go_sem] theorem Yws : autoK [mI 113 6 0, mI 114 11 0, xI 115 1 113 114 0, lI 116 115 0, mI 117 13 0, mI 118 6 0, mI 119 11 0, xI 120 1 118 119 0, lI 121 120 0, mI 122 13 0, xI 123 4 121 122 0, lJ 124 4 123 0, lJ 125 4 12 0, mI 126 6 0, mI 127 8 0, xI 128 1 126 127 0, lI 129 128 0, mI 130 13 0, xI 131 4 129 130 0, lJ 132 4 131 0, oI 133 (.call 28 [.t 125, .t 132]) 0, oI 134 (.call 52 [.t 124, .t 133]) 0, oI 135 (.call 36 [.t 134]) 0, xI 136 4 116 117 0, ⟨none, .st 4 (.t 136) (.t 135), 0, [], [], none⟩] = (0, 1) := Yab
def Zyj:List IOp := [mI 111 13 0,oI 112 (.bin .add (.t 111) (cI 1)) 0,mI 13 112 0]
def Zon:CC := .seq (.seq (.rg false Zml) (.cond (.t 110) .skip (.exit 8))) (.seq (.block 9 (.rg true Zl5)) (.rg false Zyj))
def Zhg:List IOp := [mI 76 11 0,oI 77 (.bin .add (.t 76) (cI 1)) 0,mI 11 77 0]
def Zpz:CC := .seq (.seq (.rg false Zd4) (.cond (.t 75) .skip (.exit 6))) (.seq (.block 7 (.seq (.seq (.rg false Zhb) (.cond (.t 90) (.exit 7) .skip)) (.seq (.rg true Zl8) (.seq (.rg false Zyb) (.block 8 (.loop Zon)))))) (.rg false Zhg))
def Zy8:List IOp := [mI 35 8 0,oI 36 (.bin .add (.t 35) (cI 1)) 0,mI 8 36 0]
def Zn7:CC := .seq (.seq (.rg false Zpn) (.cond (.t 34) .skip (.exit 2))) (.seq (.block 3 (.seq (.rg false Z24) (.seq (.seq (.rg false Zxl) (.block 4 (.loop Zpi))) (.seq (.seq (.rg false Zyy) (.cond (.t 58) (.seq (.rg false Ye4) .ret) .skip)) (.seq (.rg true Zl4) (.seq (.rg false Zz7) (.block 6 (.loop Zpz)))))))) (.rg false Zy8))
def Zxr:List IOp := [oI 137 (.bsl (some 4) 0 [.bool false,.nils,.bool false,.nils] []) 0,mI 14 137 1]
def Zxt:List IOp := [oI 15 (.mv (cI 0)) 0]
def Zmt:List IOp := [mI 138 15 0,mI 139 1 0,oI 140 (.bin .lss (.t 138) (.t 139)) 0]
def Zmz:List IOp := [mI 143 14 0,mI 144 6 0,mI 145 15 0,xI 146 1 144 145 0,lI 147 146 0,mI 148 1 0,xI 149 4 147 148 0,lJ 150 4 149 0,mI 151 6 0,mI 152 15 0,xI 153 1 151 152 0,lI 154 153 0,mI 155 15 0,xI 156 4 154 155 0,lJ 157 4 156 0,oI 158 (.call 32 [.t 150,.t 157]) 0,oI 159 (.call 36 [.t 158]) 0,oI 160 (.bsl (some 4) 1 [.bool false,.nils,.bool false,.nils] [(0,.t 159)]) 0,⟨some 161,.app (some 4) 64 (.t 143) (.t 160),1,[0],[],none⟩,⟨some 14,.mv (.t 161),2,[0,1],[],none⟩]
@[go_sem ↓] theorem Yae : autoK Zmz = (2, 1) := by kernel_rfl
@[go_sem] theorem Yuo : autoK [mI 143 14 0, mI 144 6 0, mI 145 15 0, xI 146 1 144 145 0, lI 147 146 0, mI 148 1 0, xI 149 4 147 148 0, lJ 150 4 149 0, mI 151 6 0, mI 152 15 0, xI 153 1 151 152 0, lI 154 153 0, mI 155 15 0, xI 156 4 154 155 0, lJ 157 4 156 0, oI 158 (.call 32 [.t 150, .t 157]) 0, oI 159 (.call 36 [.t 158]) 0, oI 160 (.bsl (some 4) 1 [.bool false, .nils, .bool false, .nils] [(0, .t 159)]) 0, ⟨some 161, .app (some 4) 64 (.t 143) (.t 160), 1, [0], [], none⟩, ⟨some 14, .mv (.t 161), 2, [0, 1], [], none⟩] = (2, 1) := Yae
def Zxi:List IOp := [mI 141 15 0,oI 142 (.bin .add (.t 141) (cI 1)) 0,mI 15 142 0]
def Zo3:CC := .seq (.seq (.rg false Zmt) (.cond (.t 140) .skip (.exit 10))) (.seq (.block 11 (.rg true Zmz)) (.rg false Zxi))
def Zyk:List IOp := [mI 162 14 0,mI 4 162 0,oI 5 (.mv (.c (.bool true))) 0]
def Ygs:CC := .seq (.rg false Z54) (.seq (.rg false Z3i) (.seq (.seq (.rg false Z4l) (.block 0 (.loop Zqo))) (.seq (.seq (.rg false Z5d) (.block 2 (.loop Zn7))) (.seq (.rg false Zxr) (.seq (.seq (.rg false Zxt) (.block 10 (.loop Zo3))) (.seq (.rg false Zyk) .ret))))))
abbrev Yqq:Nat:=97
theorem Yk3:fnOk Tryz.prog 97=some (163,Ygs,[.tmp 4,.tmp 5]):=by kernel_rfl
def Z71:List IOp := [oI 6 (.mv (.c .nils)) 0]
def Z7i:List IOp := [oI 17 (.bsl none 0 [.nils] []) 0,mI 7 17 1]
def Z9k:List IOp := [oI 8 (.mv (cI 1)) 0]
def Zu6:List IOp := [mI 18 8 0,mI 19 0 0,oI 20 (.bin .lss (.t 18) (.t 19)) 0]
def Z9w:List IOp := [oI 23 (.bsl (some 4) 0 [.bool false,.nils,.bool false,.nils] []) 0,mI 9 23 1]
def Z7z:List IOp := [oI 10 (.mv (cI 1)) 0]
def Zwo:List IOp := [mI 24 10 0,mI 25 0 0,oI 26 (.bin .lss (.t 24) (.t 25)) 0]
def Z92:List IOp := [mI 29 9 0,oI 30 (.call 33 [cI 0]) 0,oI 31 (.bsl (some 4) 1 [.bool false,.nils,.bool false,.nils] [(0,.t 30)]) 0,oI 32 (.app (some 4) 64 (.t 29) (.t 31)) 1,mI 9 32 2]
def Z7p:List IOp := [mI 27 10 0,oI 28 (.bin .add (.t 27) (cI 1)) 0,mI 10 28 0]
def Zuj:CC := .seq (.seq (.rg false Zwo) (.cond (.t 26) .skip (.exit 2))) (.seq (.block 3 (.rg false Z92)) (.rg false Z7p))
def Z3p:List IOp := [oI 11 (.mv (cI 0)) 0]
def Zgl:List IOp := [mI 33 11 0,mI 34 1 0,oI 35 (.len (.t 34)) 0,oI 36 (.bin .lss (.t 33) (.t 35)) 0]
def Zfz:List IOp := [mI 39 1 0,mI 40 11 0,xI 41 3 39 40 0,fI 42 0 41 0,lI 43 42 0,mI 44 1 0,mI 45 11 0,xI 46 3 44 45 0,fI 47 1 46 0,lI 48 47 0,mI 12 43 0,mI 13 48 0]
@[go_sem ↓] theorem Ydi : autoK Zfz = (0, 0) := by kernel_rfl
@[go_sem] theorem Yxb : autoK [mI 39 1 0, mI 40 11 0, xI 41 3 39 40 0, fI 42 0 41 0, lI 43 42 0, mI 44 1 0, mI 45 11 0, xI 46 3 44 45 0, fI 47 1 46 0, lI 48 47 0, mI 12 43 0, mI 13 48 0] = (0, 0) := Ydi
def Zi5:List IOp := [mI 49 13 0,mI 50 8 0,oI 51 (.bin .eql (.t 49) (.t 50)) 0]
def Z2z:List IOp := [mI 52 13 0,mI 53 12 0,mI 12 52 0,mI 13 53 0]
def Zjb:List IOp := [mI 54 12 0,mI 55 8 0,oI 56 (.bin .neq (.t 54) (.t 55)) 0]
def Zo7:List IOp := [mI 57 1 0,mI 58 11 0,xI 59 3 57 58 0,fI 60 2 59 0,lI 61 60 0,oI 62 (.call 29 [.t 61]) 0,oI 14 (.alloc [.bool false,.nils,.bool false,.nils]) 0,⟨none,.st 4 (.t 14) (.t 62),1,[],[],none⟩]
def Zi6:List IOp := [mI 63 9 0,mI 64 8 0,oI 65 (.bin .sub (.t 64) (cI 1)) 0,mI 66 9 0,mI 67 8 0,oI 68 (.bin .sub (.t 67) (cI 1)) 0,xI 69 4 66 68 0,lJ 70 4 69 0,lJ 71 4 14 0,oI 72 (.call 27 [.t 70,.t 71]) 0,oI 73 (.call 36 [.t 72]) 0,xI 74 4 63 65 0,⟨none,.st 4 (.t 74) (.t 73),0,[],[],none⟩]
@[go_sem ↓] theorem Yb7 : autoK Zi6 = (0, 1) := by kernel_rfl
@[go_sem] theorem Yxi : autoK [mI 63 9 0, mI 64 8 0, oI 65 (.bin .sub (.t 64) (cI 1)) 0, mI 66 9 0, mI 67 8 0, oI 68 (.bin .sub (.t 67) (cI 1)) 0, xI 69 4 66 68 0, lJ 70 4 69 0, lJ 71 4 14 0, oI 72 (.call 27 [.t 70, .t 71]) 0, oI 73 (.call 36 [.t 72]) 0, xI 74 4 63 65 0, ⟨none, .st 4 (.t 74) (.t 73), 0, [], [], none⟩] = (0, 1) := Yb7
def Zgb:List IOp := [mI 75 13 0,oI 76 (.bin .gtr (.t 75) (cI 0)) 0]
def Zje:List IOp := [mI 77 9 0,mI 78 13 0,oI 79 (.bin .sub (.t 78) (cI 1)) 0,mI 80 9 0,mI 81 13 0,oI 82 (.bin .sub (.t 81) (cI 1)) 0,xI 83 4 80 82 0,lJ 84 4 83 0,lJ 85 4 14 0,oI 86 (.call 52 [.t 84,.t 85]) 0,oI 87 (.call 36 [.t 86]) 0,xI 88 4 77 79 0,⟨none,.st 4 (.t 88) (.t 87),0,[],[],none⟩]
@[go_sem ↓] theorem Yb2 : autoK Zje = (0, 1) := by kernel_rfl
@[go_sem] theorem Yxj : autoK [mI 77 9 0, mI 78 13 0, oI 79 (.bin .sub (.t 78) (cI 1)) 0, mI 80 9 0, mI 81 13 0, oI 82 (.bin .sub (.t 81) (cI 1)) 0, xI 83 4 80 82 0, lJ 84 4 83 0, lJ 85 4 14 0, oI 86 (.call 52 [.t 84, .t 85]) 0, oI 87 (.call 36 [.t 86]) 0, xI 88 4 77 79 0, ⟨none, .st 4 (.t 88) (.t 87), 0, [], [], none⟩] = (0, 1) := Yb2
def Zdp:List IOp := [mI 37 11 0,oI 38 (.bin .add (.t 37) (cI 1)) 0,mI 11 38 0]
def Zur:CC := .seq (.seq (.rg false Zgl) (.cond (.t 36) .skip (.exit 4))) (.seq (.block 5 (.seq (.rg true Zfz) (.seq (.seq (.rg false Zi5) (.cond (.t 51) (.rg false Z2z) .skip)) (.seq (.seq (.rg false Zjb) (.cond (.t 56) (.exit 5) .skip)) (.seq (.rg false Zo7) (.seq (.rg true Zi6) (.seq (.rg false Zgb) (.cond (.t 76) (.rg true Zje) .skip)))))))) (.rg false Zdp))
def Z5m:List IOp := [mI 89 7 0,mI 90 9 0,mI 91 2 0,mI 92 8 0,xI 93 4 91 92 0,lJ 94 4 93 0,oI 95 (.bsl (some 4) 1 [.bool false,.nils,.bool false,.nils] [(0,.t 94)]) 0,oI 96 (.app (some 4) 64 (.t 90) (.t 95)) 1,oI 97 (.bsl none 1 [.nils] [(0,.t 96)]) 2,oI 98 (.app none 24 (.t 89) (.t 97)) 3,mI 7 98 4]
def Z4b:List IOp := [mI 21 8 0,oI 22 (.bin .add (.t 21) (cI 1)) 0,mI 8 22 0]
def Zve:CC := .seq (.seq (.rg false Zu6) (.cond (.t 20) .skip (.exit 0))) (.seq (.block 1 (.seq (.rg false Z9w) (.seq (.seq (.rg false Z7z) (.block 2 (.loop Zuj))) (.seq (.seq (.rg false Z3p) (.block 4 (.loop Zur))) (.rg false Z5m))))) (.rg false Z4b))
def Z44:List IOp := [mI 100 7 0,mI 101 0 0,oI 102 (.bin .sub (.t 101) (cI 1)) 0,oI 103 (.call 97 [.t 100,.t 102]) 0,mI 99 103 0,eI 104 0 99 0,eI 105 1 99 0,mI 15 104 0,mI 16 105 0]
def Z5s:List IOp := [oI 106 (.call 33 [cI 0]) 0,oI 107 (.bsl (some 4) 1 [.bool false,.nils,.bool false,.nils] [(0,.t 106)]) 0,mI 108 15 1,oI 109 (.app (some 4) 64 (.t 107) (.t 108)) 1,mI 6 109 2]
def Ynb:CC := .seq (.rg false Z71) (.seq (.rg false Z7i) (.seq (.seq (.rg false Z9k) (.block 0 (.loop Zve))) (.seq (.rg false Z44) (.seq (.rg false Z5s) .ret))))
abbrev Ygp:Nat:=48
theorem Ynt:fnOk Tryz.prog 48=some (110,Ynb,[.tmp 6]):=by kernel_rfl
def Z8e:List IOp := [oI 8 (.mv (.c .nils)) 0]
def Z8o:List IOp := [oI 12 (.bsl (some 4) 0 [.bool false,.nils,.bool false,.nils] []) 0,mI 9 12 1]
def Z79:List IOp := [oI 10 (.mv (cI 0)) 0]
def Zh3:List IOp := [mI 13 10 0,mI 14 0 0,oI 15 (.bin .lss (.t 13) (.t 14)) 0]
def Zlu:List IOp := [oI 11 (.mv (cI 0)) 0]
def Zlw:List IOp := [mI 18 10 0,mI 19 2 0,oI 20 (.bin .eql (.t 18) (.t 19)) 0]
def Z7y:List IOp := [oI 11 (.mv (cI 1)) 0]
def Zlj:List IOp := [mI 21 10 0,mI 22 3 0,oI 23 (.bin .eql (.t 21) (.t 22)) 0]
def Z7e:List IOp := [oI 11 (.mv (cI (-1))) 0]
def Zji:List IOp := [mI 24 9 0,mI 25 11 0,oI 26 (.call 33 [.t 25]) 0,oI 27 (.bsl (some 4) 1 [.bool false,.nils,.bool false,.nils] [(0,.t 26)]) 0,oI 28 (.app (some 4) 64 (.t 24) (.t 27)) 1,mI 9 28 2]
def Zjd:List IOp := [mI 16 10 0,oI 17 (.bin .add (.t 16) (cI 1)) 0,mI 10 17 0]
def Zwq:CC := .seq (.seq (.rg false Zh3) (.cond (.t 15) .skip (.exit 0))) (.seq (.block 1 (.seq (.rg false Zlu) (.seq (.seq (.rg false Zlw) (.cond (.t 20) (.rg false Z7y) .skip)) (.seq (.seq (.rg false Zlj) (.cond (.t 23) (.rg false Z7e) .skip)) (.rg false Zji))))) (.rg false Zjd))
def Z3n:List IOp := [mI 29 0 0,mI 30 1 0,mI 31 9 0,oI 32 (.call 48 [.t 29,.t 30,.t 31]) 0,mI 8 32 0]
def Yj3:CC := .seq (.rg false Z8e) (.seq (.rg false Z8o) (.seq (.seq (.rg false Z79) (.block 0 (.loop Zwq))) (.seq (.rg false Z3n) .ret)))
abbrev Zwx:Nat:=90
theorem You:fnOk Tryz.prog 90=some (33,Yj3,[.tmp 8]):=by kernel_rfl
def Zwr:List IOp := [oI 8 (.alloc [.bool false,.nils,.bool false,.nils]) 0]
def Zu5:List IOp := [mI 10 0 0,mI 11 1 0,mI 12 2 0,mI 13 3 0,oI 14 (.call 90 [.t 10,.t 11,.t 12,.t 13]) 0,mI 9 14 0]
def Zj9:List IOp := [oI 15 (.call 33 [cI 1]) 0,mI 16 9 0,mI 17 2 0,xI 18 4 16 17 0,lJ 19 4 18 0,mI 20 9 0,mI 21 3 0,xI 22 4 20 21 0,lJ 23 4 22 0,oI 24 (.callw 52 [.t 19,.t 23]) 0,oI 25 (.callw 32 [.t 15,.t 24]) 0,oI 26 (.callw 36 [.t 25]) 0,⟨none,.st 4 (.t 8) (.t 26),0,[],[],none⟩]
@[go_sem ↓] theorem Z60 : autoK Zj9 = (0, 1) := by kernel_rfl
@[go_sem] theorem Yse : autoK [oI 15 (.call 33 [cI 1]) 0, mI 16 9 0, mI 17 2 0, xI 18 4 16 17 0, lJ 19 4 18 0, mI 20 9 0, mI 21 3 0, xI 22 4 20 21 0, lJ 23 4 22 0, oI 24 (.callw 52 [.t 19, .t 23]) 0, oI 25 (.callw 32 [.t 15, .t 24]) 0, oI 26 (.callw 36 [.t 25]) 0, ⟨none, .st 4 (.t 8) (.t 26), 0, [], [], none⟩] = (0, 1) := Z60
def Z7x:CC := .seq (.rg false Zwr) (.seq (.rg false Zu5) (.seq (.rg true Zj9) .ret))
abbrev Yip:Nat:=43
theorem Ye5:fnOk Tryz.prog 43=some (27,Z7x,[.cell 8 (some 4)]):=by kernel_rfl
def Z75:List IOp := [oI 8 (.mv (.c .nils)) 0]
def Z87:List IOp := [mI 12 0 0,mI 13 1 0,mI 14 2 0,mI 15 3 0,oI 16 (.call 90 [.t 12,.t 13,.t 14,.t 15]) 0,oI 17 (.bsl (some 4) 0 [.bool false,.nils,.bool false,.nils] []) 0,mI 9 16 1,mI 10 17 1]
def Z9p:List IOp := [oI 11 (.mv (cI 0)) 0]
def Zwm:List IOp := [mI 18 11 0,mI 19 1 0,oI 20 (.len (.t 19)) 0,oI 21 (.bin .lss (.t 18) (.t 20)) 0]
def Ztz:List IOp := [mI 24 10 0,mI 25 1 0,mI 26 11 0,xI 27 3 25 26 0,fI 28 2 27 0,lI 29 28 0,oI 30 (.call 29 [.t 29]) 0,mI 31 9 0,mI 32 1 0,mI 33 11 0,xI 34 3 32 33 0,fI 35 0 34 0,lI 36 35 0,xI 37 4 31 36 0,lJ 38 4 37 0,mI 39 9 0,mI 40 1 0,mI 41 11 0,xI 42 3 40 41 0,fI 43 1 42 0,lI 44 43 0,xI 45 4 39 44 0,lJ 46 4 45 0,oI 47 (.call 52 [.t 38,.t 46]) 0,oI 48 (.call 28 [.t 30,.t 47]) 0,oI 49 (.call 36 [.t 48]) 0,oI 50 (.bsl (some 4) 1 [.bool false,.nils,.bool false,.nils] [(0,.t 49)]) 0,⟨some 51,.app (some 4) 64 (.t 24) (.t 50),1,[0],[],none⟩,⟨some 10,.mv (.t 51),2,[0,1],[],none⟩]
@[go_sem ↓] theorem Ye9 : autoK Ztz = (2, 1) := by kernel_rfl
@[go_sem] theorem Yzb : autoK [mI 24 10 0, mI 25 1 0, mI 26 11 0, xI 27 3 25 26 0, fI 28 2 27 0, lI 29 28 0, oI 30 (.call 29 [.t 29]) 0, mI 31 9 0, mI 32 1 0, mI 33 11 0, xI 34 3 32 33 0, fI 35 0 34 0, lI 36 35 0, xI 37 4 31 36 0, lJ 38 4 37 0, mI 39 9 0, mI 40 1 0, mI 41 11 0, xI 42 3 40 41 0, fI 43 1 42 0, lI 44 43 0, xI 45 4 39 44 0, lJ 46 4 45 0, oI 47 (.call 52 [.t 38, .t 46]) 0, oI 48 (.call 28 [.t 30, .t 47]) 0, oI 49 (.call 36 [.t 48]) 0, oI 50 (.bsl (some 4) 1 [.bool false, .nils, .bool false, .nils] [(0, .t 49)]) 0, ⟨some 51, .app (some 4) 64 (.t 24) (.t 50), 1, [0], [], none⟩, ⟨some 10, .mv (.t 51), 2, [0, 1], [], none⟩] = (2, 1) := Ye9
def Z77:List IOp := [mI 22 11 0,oI 23 (.bin .add (.t 22) (cI 1)) 0,mI 11 23 0]
def Zvi:CC := .seq (.seq (.rg false Zwm) (.cond (.t 21) .skip (.exit 0))) (.seq (.block 1 (.rg true Ztz)) (.rg false Z77))
def Z7f:List IOp := [mI 52 10 0,mI 8 52 0]
def Yk4:CC := .seq (.rg false Z75) (.seq (.rg false Z87) (.seq (.seq (.rg false Z9p) (.block 0 (.loop Zvi))) (.seq (.rg false Z7f) .ret)))
abbrev Ywc:Nat:=45
theorem Ypz:fnOk Tryz.prog 45=some (53,Yk4,[.tmp 8]):=by kernel_rfl
def Yb3:List IOp := [oI 4 (.mv (.c (.bool false))) 0]
def Ya9:List IOp := [mI 6 0 0,oI 7 (.len (.t 6)) 0,mI 8 1 0,oI 9 (.len (.t 8)) 0,oI 10 (.bin .neq (.t 7) (.t 9)) 0]
def Yof:List IOp := [oI 4 (.mv (.c (.bool false))) 0]
def Yc6:List IOp := [oI 5 (.mv (cI 0)) 0]
def Z0z:List IOp := [mI 11 5 0,mI 12 0 0,oI 13 (.len (.t 12)) 0,oI 14 (.bin .lss (.t 11) (.t 13)) 0]
def Z1i:List IOp := [mI 17 0 0,mI 18 5 0,xI 19 1 17 18 0,lI 20 19 0,mI 21 1 0,mI 22 5 0,xI 23 4 21 22 0,lJ 24 4 23 0,oI 25 (.callw 20 [.t 20,.t 24]) 0,oI 26 (.un .not (.t 25)) 0]
@[go_sem ↓] theorem Yh2 : autoK Z1i = (0, 0) := by kernel_rfl
@[go_sem] theorem Y3a : autoK [mI 17 0 0, mI 18 5 0, xI 19 1 17 18 0, lI 20 19 0, mI 21 1 0, mI 22 5 0, xI 23 4 21 22 0, lJ 24 4 23 0, oI 25 (.callw 20 [.t 20, .t 24]) 0, oI 26 (.un .not (.t 25)) 0] = (0, 0) := Yh2
def Yoz:List IOp := [oI 4 (.mv (.c (.bool false))) 0]
def Z1k:List IOp := [mI 15 5 0,oI 16 (.bin .add (.t 15) (cI 1)) 0,mI 5 16 0]
def Z0t:CC := .seq (.seq (.rg false Z0z) (.cond (.t 14) .skip (.exit 0))) (.seq (.block 1 (.seq (.rg true Z1i) (.cond (.t 26) (.seq (.rg false Yoz) .ret) .skip))) (.rg false Z1k))
def Yev:List IOp := [oI 4 (.mv (.c (.bool true))) 0]
def Yr6:CC := .seq (.rg false Yb3) (.seq (.seq (.rg false Ya9) (.cond (.t 10) (.seq (.rg false Yof) .ret) .skip)) (.seq (.seq (.rg false Yc6) (.block 0 (.loop Z0t))) (.seq (.rg false Yev) .ret)))
abbrev Y2w:Nat:=44
theorem Ywz:fnOk Tryz.prog 44=some (27,Yr6,[.tmp 4]):=by kernel_rfl
def Zbn:List IOp := [oI 2 (.box (.t 0)) 0,oI 3 (.box (.t 1)) 1,oI 4 (.mv (.c (.bool false))) 2]
def Zbs:List IOp := [lJ 11 2 2 0,oI 12 (.call 15 [.t 11]) 0,oI 5 (.alloc [.int .i64 0,.nils]) 0,⟨none,.st 2 (.t 5) (.t 12),1,[],[],none⟩]
def Zbo:List IOp := [fI 14 0 5 0,lI 15 14 0,fI 16 1 5 0,lI 17 16 0,fI 18 0 3 0,lI 19 18 0,fI 20 1 3 0,lI 21 20 0,oI 22 (.call 31 [.t 15,.t 17,.t 19,.t 21]) 0,mI 13 22 0,eI 23 0 13 0,eI 24 1 13 0,mI 6 23 0,mI 7 24 0]
def Zbp:List IOp := [fI 26 0 5 0,lI 27 26 0,fI 28 1 5 0,lI 29 28 0,fI 30 0 3 0,lI 31 30 0,fI 32 1 3 0,lI 33 32 0,oI 34 (.call 40 [.t 27,.t 29,.t 31,.t 33]) 0,mI 25 34 0,eI 35 0 25 0,eI 36 1 25 0,mI 8 35 0,mI 9 36 0]
def Zbq:List IOp := [fI 37 0 5 0,lI 38 37 0,fI 39 1 5 0,lI 40 39 0,oI 41 (.call 17 [.t 38,.t 40,.c .nils]) 0,mI 10 41 0]
def Zaz:List IOp := [mI 42 10 0,oI 43 (.bin .eql (.t 42) (cI 0)) 0]
def Za7:List IOp := [fI 44 0 5 0,lI 45 44 0,lJ 46 2 3 0,oI 47 (.call 41 [.t 45,.t 46]) 0,mI 10 47 0]
def Za0:List IOp := [mI 48 10 0,oI 49 (.bin .eql (.t 48) (cI 0)) 0,mI 50 49 0,gI 51 (.fa 0 (.t 5)) 0 50 true,gI 52 (.ld none (.t 51)) 0 50 true,gI 53 (.fa 1 (.t 5)) 0 50 true,gI 54 (.ld none (.t 53)) 0 50 true,gI 55 (.call 42 [.t 52,.t 54]) 0 50 true,gI 56 (.un .not (.t 55)) 0 50 true,oI 57 (.pick (.t 50) (.t 56) (.c (.bool false))) 0]
def Zgs:List IOp := [oI 10 (.mv (cI 5)) 0]
def Zaw:List IOp := [mI 58 10 0,oI 59 (.bin .neq (.t 58) (cI 0)) 0]
def Zbg:List IOp := [mI 60 6 0,oI 61 (.bin .eql (.t 60) (.c (.str ⟨#[]⟩))) 0,mI 62 61 0,gI 63 (.mv (.t 7)) 0 62 true,gI 64 (.mv (.t 10)) 0 62 true,gI 65 (.bin .eql (.t 63) (.t 64)) 0 62 true,oI 66 (.pick (.t 62) (.t 65) (.c (.bool false))) 0,mI 67 66 0,gI 68 (.mv (.t 8)) 0 67 true,gI 69 (.len (.t 68)) 0 67 true,gI 70 (.bin .eql (.t 69) (cI 0)) 0 67 true,oI 71 (.pick (.t 67) (.t 70) (.c (.bool false))) 0,mI 72 71 0,gI 73 (.mv (.t 9)) 0 72 true,gI 74 (.mv (.t 10)) 0 72 true,gI 75 (.bin .eql (.t 73) (.t 74)) 0 72 true,oI 76 (.pick (.t 72) (.t 75) (.c (.bool false))) 0,mI 77 76 0,gI 78 (.call 18 []) 0 77 true,oI 79 (.pick (.t 77) (.t 78) (.c (.bool false))) 0,mI 4 79 0]
def Zcg:List IOp := [lJ 80 2 5 0,oI 81 (.call 19 [.t 80]) 0,oI 82 (.un .not (.t 81)) 0]
def Zf4:List IOp := [oI 83 (.call 18 []) 0,mI 4 83 0]
def Zgi:List IOp := [mI 84 6 0,fI 85 0 5 0,lI 86 85 0,fI 87 1 5 0,lI 88 87 0,fI 89 0 3 0,lI 90 89 0,fI 91 1 3 0,lI 92 91 0,oI 93 (.call 43 [.t 86,.t 88,.t 90,.t 92]) 0,oI 94 (.call 20 [.t 84,.t 93]) 0,mI 95 94 0,gI 96 (.mv (.t 7)) 0 95 true,gI 97 (.bin .eql (.t 96) (cI 0)) 0 95 true,oI 98 (.pick (.t 95) (.t 97) (.c (.bool false))) 0,mI 99 98 0,gI 100 (.mv (.t 8)) 0 99 true,gI 101 (.fa 0 (.t 5)) 0 99 true,gI 102 (.ld none (.t 101)) 0 99 true,gI 103 (.fa 1 (.t 5)) 0 99 true,gI 104 (.ld none (.t 103)) 0 99 true,gI 105 (.fa 0 (.t 3)) 0 99 true,gI 106 (.ld none (.t 105)) 0 99 true,gI 107 (.fa 1 (.t 3)) 0 99 true,gI 108 (.ld none (.t 107)) 0 99 true,gI 109 (.call 45 [.t 102,.t 104,.t 106,.t 108]) 0 99 true,gI 110 (.call 44 [.t 100,.t 109]) 0 99 true,oI 111 (.pick (.t 99) (.t 110) (.c (.bool false))) 0,mI 112 111 0,gI 113 (.mv (.t 9)) 0 112 true,gI 114 (.bin .eql (.t 113) (cI 0)) 0 112 true,oI 115 (.pick (.t 112) (.t 114) (.c (.bool false))) 0,mI 116 115 0,gI 117 (.call 18 []) 0 116 true,oI 118 (.pick (.t 116) (.t 117) (.c (.bool false))) 0,mI 4 118 0]
def Zce:CC := .seq (.rg false Zbn) (.seq (.rg false Zbs) (.seq (.rg false Zbo) (.seq (.rg false Zbp) (.seq (.rg false Zbq) (.seq (.seq (.rg false Zaz) (.cond (.t 43) (.rg false Za7) .skip)) (.seq (.seq (.rg false Za0) (.cond (.t 57) (.rg false Zgs) .skip)) (.seq (.seq (.rg false Zaw) (.cond (.t 59) (.seq (.rg false Zbg) .ret) .skip)) (.seq (.seq (.rg false Zcg) (.cond (.t 82) (.seq (.rg false Zf4) .ret) .skip)) (.seq (.rg false Zgi) .ret)))))))))
abbrev Ziy:Nat:=8
theorem Zc5:fnOk Tryz.prog 8=some (119,Zce,[.tmp 4]):=by kernel_rfl
end GoAbs
namespace GoAbs
open Go Go.Proofs
def rq (q:Rat):List AV:=rc q.num q.den
theorem Zdq {q:Rat}:(rq q).length=4:=rfl
theorem Zb6 {q:Rat}:(rq q).take 4=rq q:=rfl
theorem Zf9 {q:Rat}:(rq q).drop 4 = []:=rfl
def qr (r:List Rat):List AV:=r.flatMap rq
theorem Zm9 (r:List Rat):(qr r).length=r.length*4:=by
 induction r with
 | nil=>rfl
 | cons q r ih=>show (rq q++qr r).length=_; rw [List.length_append,ih,List.length_cons,Zdq]; omega
theorem Zjo {r s:List Rat}:qr (r++s)=qr r++qr s:=by simp [qr]
theorem Yqx {r:List Rat}{j:Nat}{q:Rat}(h:r[j]? = some q):qr r=qr (r.take j)++(rq q++qr (r.drop (j+1))):=by
 obtain ⟨hj,he⟩:=List.getElem?_eq_some_iff.1 h
 have:r=r.take j++(q::r.drop (j+1)):=by
  rw [← he]; simp
 conv=>lhs; rw [this,Zjo]
 rfl
theorem Y71 {r:List Rat}{j:Nat}(h:j≤r.length):(qr (r.take j)).length=j*4:=by rw [Zm9,List.length_take,Nat.min_eq_left h]
theorem Yoj {r:List Rat}{j:Nat}{q:Rat}(h:r[j]? = some q):(qr r).drop (j*4)=rq q++qr (r.drop (j+1)):=by
 have hj:=(List.getElem?_eq_some_iff.1 h).1
 rw [Yqx h, ← Y71 (r:=r) (j:=j) (by omega),List.drop_left]
theorem Zgg {r:List Rat}{j:Nat}{q:Rat}(h:r[j]? = some q):((qr r).drop (j*4)).take 4=rq q:=by
 rw [Yoj h]; exact List.take_left' rfl
theorem Zkm {r:List Rat}{j:Nat}{q:Rat}(h:r[j]? = some q):4≤((qr r).drop (j*4)).length:=by
 rw [Yoj h,List.length_append,Zdq]; omega
theorem Ymn {r:List Rat}{j:Nat}{x:Rat}(h:j<r.length):(qr r).take (j*4)++rq x++(qr r).drop (j*4+4)=qr (r.set j x):=by
 have hg:=List.getElem?_eq_getElem h
 have h1:(qr r).take (j*4)=qr (r.take j):=by rw [Yqx hg, ← Y71 (r:=r) (j:=j) (by omega),List.take_left]
 have h2:(qr r).drop (j*4+4)=qr (r.drop (j+1)):=by
  rw [← List.drop_drop,Yoj hg]; exact List.drop_left' rfl
 rw [h1,h2,List.set_eq_take_append_cons_drop,if_pos h,Zjo,List.append_assoc]
 rfl
theorem Yfb {f:Nat→Option Nat}(r:List Rat):gcL f (qr r)=qr r:=by
 induction r with
 | nil=>rfl
 | cons q r ih =>
  show gcL f (rq q++qr r)=rq q++qr r
  rw [Zau] at ih ⊢
  rw [List.map_append,ih]
  rfl
def ptrR (w n:Nat):List AV:=(List.range n).map fun i=>AV.osl (some 4) (1+i) 0 w
def rowsR (M:RM):Heap:=M.map fun r => .cells (qr r)
def matR (w:Nat) (M:RM):Heap := .cells (ptrR w M.length)::rowsR M
theorem Zll (w n:Nat):(ptrR w n).length=n:=by simp [ptrR]
theorem Zp4 {w n i:Nat}(h:i<n):(ptrR w n)[i]? = some (.osl (some 4) (1+i) 0 w):=by simp [ptrR,h]
theorem Zay {w:Nat}{M:RM}:(matR w M).length=1+M.length:=by simp [matR,rowsR]; omega
section
variable {w:Nat} {M:RM} {post:Heap}
theorem Zjc {i:Nat}{r:List Rat}(h:M[i]? = some r):(matR w M++post)[1+i]? = some (.cells (qr r)):=by
 have hi:=(List.getElem?_eq_some_iff.1 h).1
 rw [List.getElem?_append_left (by rw [Zay]; omega)]
 show (_::rowsR M)[1+i]? = _
 rw [Nat.add_comm,List.getElem?_cons_succ]
 unfold rowsR
 rw [List.getElem?_map,h]; rfl
theorem Zw7:(matR w M++post)[0]? = some (.cells (ptrR w M.length)):=rfl
theorem Zgj {n t:Nat}(hn:M.length=n):(matR w M++post)[1+n+t]? = post[t]?:=by
 rw [List.getElem?_append_right (by rw [Zay]; omega),Zay]
 congr 1; omega
theorem Y60 {i:Nat}{r:List Rat}(h:i<M.length):(matR w M++post).set (1+i) (.cells (qr r))=matR w (M.set i r)++post:=by
 rw [List.set_append_left _ _ (by rw [Zay]; omega)]
 congr 1
 show (_::rowsR M).set (1+i) _=_::rowsR (M.set i r)
 rw [Nat.add_comm,List.set_cons_succ,List.length_set]
 unfold rowsR
 rw [List.map_set]
theorem Zhz:(matR w M++post).length=1+M.length+post.length:=by rw [List.length_append,Zay]
end
theorem Xfz {a f b:Rat}{k:Nat}(ha:Qb k a) (hf:Qb (2*k) f) (hb:Qb k b) (hk1:1≤k) (hk:k≤200000) :
  SpecV Tryz.prog Yf1 [.agg (rq f),.agg (rq b)] (avR (f.num*b.num) ((f.den:Int)*b.den)) ∧
  SpecV Tryz.prog Z6s [.agg (rq a),avR (f.num*b.num) ((f.den:Int)*b.den)] (avR (a.num*((f.den:Int)*b.den) - f.num*b.num*a.den) ((a.den:Int)*((f.den:Int)*b.den))) ∧
  SpecV Tryz.prog Zfc [avR (a.num*((f.den:Int)*b.den) - f.num*b.num*a.den) ((a.den:Int)*((f.den:Int)*b.den))] (.agg (rq (a - f*b))):=by
 have da:=a.den_pos
 have df:=f.den_pos
 have db:=b.den_pos
 have i1:Ib (3*k) (f.num*b.num):=(hf.ib.1.mul hb.ib.1).mono (by omega)
 have i2:Ib (3*k) ((f.den:Int)*b.den):=(hf.ib.2.mul hb.ib.2).mono (by omega)
 have h1:=rmulq (k:=2*k) hf.ib.1 hf.ib.2 (hb.ib.1.mono (by omega)) (hb.ib.2.mono (by omega)) (by omega)
 have h2:=rsubq (k:=3*k) (ha.ib.1.mono (by omega)) (ha.ib.2.mono (by omega)) i1 i2 (by omega)
 have hd:(0:Int)<(f.den:Int)*b.den:=Int.mul_pos (by omega) (by omega)
 have e:Rat.divInt (a.num*((f.den:Int)*b.den) - f.num*b.num*a.den) ((a.den:Int)*((f.den:Int)*b.den))=a - f*b:=by
  have h:=Xbc (q:=a) (w := -(f*b)) (wn := -(f.num*b.num)) (wd:=(f.den:Int)*b.den) (by omega) (by rw [← Rat.neg_divInt, ← Rat.divInt_mul_divInt,Rat.num_divInt_den,Rat.num_divInt_den])
  rw [Int.neg_mul, ← Int.sub_eq_add_neg] at h
  rw [h]; grind
 have i3:Ib (4*k) (-(f.num*b.num*a.den)):=by have:=i1.mul ha.ib.2; show Int.natAbs _<_; rw [Int.natAbs_neg]; exact (this.mono (by omega):Ib (4*k) _)
 have h3:=rlow (k:=4*k+1) (n:=a.num*((f.den:Int)*b.den) - f.num*b.num*a.den) (d:=(a.den:Int)*((f.den:Int)*b.den)) (by
  rw [Int.sub_eq_add_neg]
  exact (Ib.add (k:=4*k) ((ha.ib.1.mul i2).mono (by omega)) i3).mono (by omega)) ((ha.ib.2.mul i2).mono (by omega)) (Int.mul_pos (by omega) hd) (by omega)
 rw [e] at h3
 exact ⟨h1,h2,h3⟩
theorem Xd9 {w n i c:Nat}{M:RM}{post:Heap}{f:Rat}{k:Nat}{p r:List Rat}{bz:Nat}(hn:M.length=n) (hnl:n≤1000) (hw:w=n+1) (hi:i<n) (hc:c<n) (hci:c≠i)
  (hp:M[c]? = some p) (hr:M[i]? = some r) (hpw:p.length=w) (hrw:r.length=w) (hbz:bz=1+n) (hpost:post[0]? = some (.cells (rq f))) (bp:Rb k p) (br:Rb k r) (bf:Qb (2*k) f) (hk1:1≤k) (hk:k≤200000) {K:Ex→St→Prop}
  (hK:∀ e:Nat→AV,e 1 = .int .i64 (n:Int)→e 6 = .osl none 0 0 n→e 8 = .int .i64 (c:Int)→e 11 = .int .i64 (i:Int)→K (.exit 8) ⟨e,matR w (M.set i (elimTo p c f r w))++post⟩) :
  T Tryz.prog 163 0 (.loop Zon) ⟨envL [(1,.int .i64 (n:Int)),(6,.osl none 0 0 n),(8,.int .i64 (c:Int)),(11,.int .i64 (i:Int)),(12,.ptr bz 0),(13,.int .i64 (c:Int))],matR w M++post⟩ K:=by
 have hm:Tryz.prog.follows .mixedOrders=true:=by kernel_rfl
 have hMset:M.set i r=M:=by
  apply List.ext_getElem?
  intro x
  by_cases hx:i=x
  ·subst hx; rw [List.getElem?_set_self (by omega),hr]
  ·rw [List.getElem?_set_ne hx]
 refine Zae (fun J:Nat=>⟨envL [(1,.int .i64 (n:Int)),(6,.osl none 0 0 n),(8,.int .i64 (c:Int)),(11,.int .i64 (i:Int)),(12,.ptr bz 0),(13,.int .i64 (J:Int))],matR w (M.set i (elimTo p c f r J))++post⟩)
  (fun J=>c≤J∧J≤w) (fun J=>w - J) c ⟨Nat.le_refl _,by omega⟩ (Zcj (Zab [(1,.int .i64 (n:Int)),(6,.osl none 0 0 n),(8,.int .i64 (c:Int)),(11,.int .i64 (i:Int)),(12,.ptr bz 0),(13,.int .i64 (c:Int))] (by simp only [go_sem])) (by rw [Yc1 (Nat.le_refl _),hMset])) (fun J hJ N hN=>?_)
 obtain ⟨h1,h2⟩:=hJ
 unfold Zon
 have hnS:(M.set i (elimTo p c f r J)).length=n:=by rw [List.length_set,hn]
 have gP:=Zw7 (w:=w) (M:=M.set i (elimTo p c f r J)) (post:=post)
 rw [hnS] at gP
 have gi:=Zp4 (w:=w) hi
 have gc:=Zp4 (w:=w) hc
 have q0:(0:Int)≤(i:Int):=by omega
 have q1:(i:Int)<(n:Int):=by omega
 have q2:(0:Int)≤(c:Int):=by omega
 have q3:(c:Int)<(n:Int):=by omega
 by_cases hJw:J<w
 ·have rJ:(M.set i (elimTo p c f r J))[i]? = some (elimTo p c f r J):=List.getElem?_set_self (by omega)
  have rcc:(M.set i (elimTo p c f r J))[c]? = some p:=by rw [List.getElem?_set_ne (by omega)]; exact hp
  have gR:=Zjc (w:=w) (post:=post) rJ
  have gC:=Zjc (w:=w) (post:=post) rcc
  have gQ:=Zgj (w:=w) (post:=post) (t:=0) hnS
  rw [hpost,Nat.add_zero, ← hbz] at gQ
  have eJ:(elimTo p c f r J)[J]? = some (rget r J):=by rw [Zg7 (by omega),if_neg (by omega)]
  have pJ:p[J]? = some (rget p J):=Zag (by omega)
  have t1:=Zgg eJ
  have t2:=Zkm eJ
  have t3:=Zgg pJ
  have t4:=Zkm pJ
  have r0:(0:Int)≤(J:Int):=by omega
  have r1:(J:Int)<(w:Int):=by omega
  have r2:(J:Int)≤(n:Int):=by omega
  have e1:IntKind.i64.wrap ((J:Int)+1)=((J+1:Nat):Int):=by rw [Zac (by omega) (by omega)]; omega
  have hlen:(matR w (M.set i (elimTo p c f r J))++post).length=1+n+post.length:=by rw [Zhz,hnS]
  have ht:0<post.length:=(List.getElem?_eq_some_iff.1 hpost).1
  have l0:0<1+n+post.length:=by omega
  have l1:1+i<1+n+post.length:=by omega
  have l2:1+c<1+n+post.length:=by omega
  have l3:bz<1+n+post.length:=by omega
  have hfit:J*4+4≤(qr (elimTo p c f r J)).length:=by rw [Zm9,Zdi]; omega
  obtain ⟨m1,m2,m3⟩:=Xfz (br.get (j:=J) (by omega)) bf (bp.get (j:=J) (by omega)) hk1 hk
  have pl:=Zll w n
  simp only [go_sem,Zml,Zl5,Zyj,hm,q0,q1,q2,q3,gP,gi,gc,gR,gC,gQ,List.getElem?_drop,r0,r1,r2,hlen,l0,l1,l2,l3,Zdq,Zb6,t1,t2,t3,t4,pl]
  have bq:∀ (H:Heap) (ids:List Nat) (q:Rat),BVs H ids (rq q) (rq q)=True:=fun H ids q=>Zb2
  refine Zaa m1 (by simp only [go_sem,bq]) ?_
  simp only [go_sem]
  refine Zaa m2 (by simp only [go_sem,bq,avR,Zb2]) ?_
  simp only [go_sem]
  refine Zaa m3 (by simp only [go_sem,avR,Zb2]) ?_
  simp only [go_sem,gR,hlen,l1,Zdq,Zb6,Zf9,hfit,e1,r0,r1]
  rw [Ymn (by rw [Zdi]; omega),Y60 (by omega),Ynd,Ybg (by omega) h1]
  exact hN (J+1) _ ⟨by omega,by omega⟩ (by omega) (Zab _ (by simp only [go_sem]))
 ·have hJw':J=w:=by omega
  have r1:¬ (J:Int)≤(n:Int):=by omega
  simp only [go_sem,Zml,r1]
  rw [hJw']
  exact hK _ (by simp only [go_sem]) (by simp only [go_sem]) (by simp only [go_sem]) (by simp only [go_sem])
theorem Y8m {a b:Rat}{k:Nat}(ha:Qb k a) (hb:Qb k b) (h0:b≠0) (hk:k≤1000000):∃ X,SpecV Tryz.prog Z6w [.agg (rq a),.agg (rq b)] (.agg X)∧(∀ H ids,BVs H ids X X=True)∧SpecV Tryz.prog Zfc [.agg X] (.agg (rq (a / b))):=by
 have da:=a.den_pos
 have db:=b.den_pos
 have hbn:b.num≠0:=fun h=>h0 (Rat.num_eq_zero.1 h)
 have hd:=rdivq ha.ib.1 ha.ib.2 hb.ib.1 hb.ib.2 (by omega)
 have e:=q_div (q:=a) (w:=b)
 have i1:=ha.ib.1.mul hb.ib.2
 have i2:=ha.ib.2.mul hb.ib.1
 by_cases h:(a.den:Int)*b.num<0
 ·rw [if_pos h] at hd
  have j1:Ib (k+k) (-(a.num*b.den)):=by show Int.natAbs _<_; rw [Int.natAbs_neg]; exact i1
  have j2:Ib (k+k) (-((a.den:Int)*b.num)):=by show Int.natAbs _<_; rw [Int.natAbs_neg]; exact i2
  have hl:=rlow j1 j2 (by omega) (by omega)
  have e':Rat.divInt (-(a.num*b.den)) (-((a.den:Int)*b.num))=a / b:=by
   rw [← e]
   exact (Rat.divInt_eq_divInt_iff (by omega) (by omega)).2 (by rw [Int.neg_mul,Int.mul_neg])
  rw [e'] at hl
  exact ⟨_,hd,fun H ids=>Zb2,hl⟩
 ·rw [if_neg h] at hd
  have hne:(a.den:Int)*b.num≠0:=Int.mul_ne_zero (by omega) hbn
  have hl:=rlow i1 i2 (by omega) (by omega)
  rw [e] at hl
  exact ⟨_,hd,fun H ids=>Zb2,hl⟩
theorem Yrb {w m:Nat}{M:RM}(h:1+M.length≤m):Clo m (matR w M):=by
 unfold Clo matR
 rw [List.map_cons]
 congr 1
 ·simp only [Blk.gc,Zau]
  congr 1
  unfold ptrR
  rw [List.map_map]
  refine List.map_congr_left fun i hi=>?_
  have hi':=List.mem_range.1 hi
  simp only [Function.comp,AV.gc]
  rw [Zbm (by omega)]
 ·unfold rowsR
  rw [List.map_map]
  exact List.map_congr_left fun r _=>by simp only [Function.comp,Blk.gc,Yfb]
theorem Xf3 {w n c:Nat}{M:RM}{k:Nat}(hn:M.length=n) (hnl:n≤1000) (hw:w=n+1) (hc:c<n) (hW:Wid w M) (hB:Mb k M) (h0:mget M c c≠0) (hk1:1≤k) (hk:k≤200000) {K:Ex→St→Prop}
  (hK:∀ e:Nat→AV,e 1 = .int .i64 (n:Int)→e 6 = .osl none 0 0 n→e 8 = .int .i64 (c:Int)→K (.exit 6) ⟨e,matR w (jorCol M c n)⟩) :
  T Tryz.prog 163 0 (.loop Zpz) ⟨envL [(1,.int .i64 (n:Int)),(6,.osl none 0 0 n),(8,.int .i64 (c:Int)),(11,.int .i64 0)],matR w M⟩ K:=by
 have hm:Tryz.prog.follows .mixedOrders=true:=by kernel_rfl
 refine Zae (fun I:Nat=>⟨envL [(1,.int .i64 (n:Int)),(6,.osl none 0 0 n),(8,.int .i64 (c:Int)),(11,.int .i64 (I:Int))],matR w (jorCol M c I)⟩)
  (fun I=>I≤n) (fun I=>n - I) 0 (by omega) (Zcj (Zab [(1,.int .i64 (n:Int)),(6,.osl none 0 0 n),(8,.int .i64 (c:Int)),(11,.int .i64 0)] (by simp only [go_sem])) (by rw [Yqm]; rfl)) (fun I hI N hN=>?_)
 unfold Zpz
 by_cases hIn:I<n
 ·have q0:(0:Int)≤(I:Int):=by omega
  have q1:(I:Int)<(n:Int):=by omega
  have q2:(0:Int)≤(c:Int):=by omega
  have q3:(c:Int)<(n:Int):=by omega
  have q4:(c:Int)<(w:Int):=by omega
  have e1:IntKind.i64.wrap ((I:Int)+1)=((I+1:Nat):Int):=by rw [Zac (by omega) (by omega)]; omega
  have hnJ:(jorCol M c I).length=n:=by rw [Zdj,hn]
  by_cases hIc:I=c
  ·have hIc':(I:Int)=(c:Int):=by omega
   have e1c:IntKind.i64.wrap ((c:Int)+1)=((I+1:Nat):Int):=by rw [← hIc']; exact e1
   simp only [go_sem,Zd4,Zhb,Zhg,q3,hIc',e1c]
   refine hN (I+1) _ (by omega) (by omega) (Zcj (Zab [(1,.int .i64 (n:Int)),(6,.osl none 0 0 n),(8,.int .i64 (c:Int)),(11,.int .i64 ((I+1:Nat):Int))] (by simp only [go_sem])) ?_)
   rw [hIc,Ypy]
  ·have hIc':¬ (I:Int)=(c:Int):=by omega
   have hrI:(jorCol M c I)[I]? = some (M.getD I []):=by rw [Zjl (by omega),if_neg (by omega)]
   have hrc:(jorCol M c I)[c]? = some (M.getD c []):=by rw [Zjl (by omega),if_neg (by omega)]
   have wI:=hW.get (i:=I) (by omega)
   have wc:=hW.get (i:=c) (by omega)
   have bI:=hB.get (i:=I) (by omega)
   have bc:=hB.get (i:=c) (by omega)
   have gP:=Zw7 (w:=w) (M:=jorCol M c I) (post := [])
   rw [hnJ,List.append_nil] at gP
   have gI:=Zjc (w:=w) (post := []) hrI
   have gC:=Zjc (w:=w) (post := []) hrc
   rw [List.append_nil] at gI gC
   have gi:=Zp4 (w:=w) hIn
   have gc:=Zp4 (w:=w) hc
   have pl:=Zll w n
   have hlen:(matR w (jorCol M c I)).length=1+n:=by rw [Zay,hnJ]
   have l0:0<1+n:=by omega
   have l1:1+I<1+n:=by omega
   have l2:1+c<1+n:=by omega
   have tI:=Zgg (Zag (show c<(M.getD I []).length by omega))
   have uI:=Zkm (Zag (show c<(M.getD I []).length by omega))
   have tC:=Zgg (Zag (show c<(M.getD c []).length by omega))
   have uC:=Zkm (Zag (show c<(M.getD c []).length by omega))
   have hz:=rzero (n:=(rget (M.getD I []) c).num) (d:=(rget (M.getD I []) c).den)
   have hstep:=Ypb (M:=M) (c:=c) (I:=I) (by omega) hIc
   have hsame:rget (M.getD I []) c=0→jorCol M c (I+1)=jorCol M c I:=fun hz0=>by
    have:elimRow (M.getD c []) c (M.getD I [])=M.getD I []:=by unfold elimRow; rw [if_pos hz0]
    rw [← hstep,this]
    apply List.ext_getElem?
    intro x
    by_cases hx:I=x
    ·subst hx; rw [List.getElem?_set_self (by omega),hrI]
    ·rw [List.getElem?_set_ne hx]
   by_cases hz0:rget (M.getD I []) c=0
   ·rw [decide_eq_true (by rw [hz0]; rfl)] at hz
    simp only [go_sem,Zd4,Zhb,q0,q1,q2,q3,q4,hIc',gP,gi,gI,hlen,l0,l1,List.getElem?_drop,tI,uI,pl]
    refine Zaa hz (by simp only [go_sem,avR]; show BVs _ _ (rc _ _) (rc _ _); rw [Zb2]; trivial) ?_
    simp only [go_sem,Zhg,e1]
    refine hN (I+1) _ (by omega) (by omega) (Zcj (Zab [(1,.int .i64 (n:Int)),(6,.osl none 0 0 n),(8,.int .i64 (c:Int)),(11,.int .i64 ((I+1:Nat):Int))] (by simp only [go_sem])) ?_)
    rw [hsame hz0]
   ·rw [decide_eq_false (fun h=>hz0 (Rat.num_eq_zero.1 h))] at hz
    simp only [go_sem,Zd4,Zhb,q0,q1,q2,q3,q4,hIc',gP,gi,gI,hlen,l0,l1,List.getElem?_drop,tI,uI,pl]
    refine Zaa hz (by simp only [go_sem,avR]; show BVs _ _ (rc _ _) (rc _ _); rw [Zb2]; trivial) ?_
    have gP1:=Zw7 (w:=w) (M:=jorCol M c I) (post := [.unborn])
    rw [hnJ] at gP1
    have gI1:=Zjc (w:=w) (post := [.unborn]) hrI
    have gC1:=Zjc (w:=w) (post := [.unborn]) hrc
    have hlen1:(matR w (jorCol M c I) ++ [Blk.unborn]).length=1+n+1:=by rw [List.length_append,hlen]; rfl
    have l3:0<1+n+1:=by omega
    have l4:1+I<1+n+1:=by omega
    have l5:1+c<1+n+1:=by omega
    obtain ⟨Y,d1,d2,d3⟩:=Y8m (bI.get (j:=c) (by omega)) (bc.get (j:=c) (by omega)) h0 (by omega)
    simp only [go_sem,Zl8,hm,q0,q1,q2,q3,q4,gP1,gi,gI1,gC1,gc,hlen1,l0,l1,l2,l3,l4,l5,List.getElem?_drop,tI,uI,tC,uC,pl,hlen,true_or,true_and]
    have bq:∀ (H:Heap) (ids:List Nat) (q:Rat),BVs H ids (rq q) (rq q)=True:=fun H ids q=>Zb2
    refine Zaa d1 (by simp only [go_sem,bq]) ?_
    simp only [go_sem]
    refine Zaa d3 (by simp only [go_sem,d2]) ?_
    have hget:∀ bl:Blk,(matR w (jorCol M c I) ++ [bl])[1+n]? = some bl:=fun bl=>by
     have:=Zgj (w:=w) (M:=jorCol M c I) (post := [bl]) (t:=0) hnJ
     rw [Nat.add_zero] at this
     rw [this]; rfl
    have hset:∀ x y:Blk,(matR w (jorCol M c I) ++ [x]).set (1+n) y=matR w (jorCol M c I) ++ [y]:=fun x y=>by
     rw [List.set_append_right _ _ (by omega),hlen,Nat.sub_self]; rfl
    simp only [go_sem,hlen1,hlen,Zdq,Zb6,Zf9,hget,hset,Zyb,true_and]
    refine Zas [(1,.int .i64 (n:Int)),(6,.osl none 0 0 n),(8,.int .i64 (c:Int)),(11,.int .i64 (I:Int)),(12,.ptr (1+n) 0),(13,.int .i64 (c:Int))] (by simp only [go_sem]) ?_
    have bf:Qb (2*k) (rget (M.getD I []) c / rget (M.getD c []) c):=((bI.get (j:=c) (by omega)).div2 (bc.get (j:=c) (by omega)) h0).mono (by omega)
    refine Xd9 (f:=rget (M.getD I []) c / rget (M.getD c []) c) (k:=k) hnJ hnl hw hIn hc (fun e=>hIc e.symm) hrc hrI wc wI rfl rfl bc bI bf hk1 hk (fun e e1' e6 e8 e11=>?_)
    have hrow:elimRow (M.getD c []) c (M.getD I [])=elimTo (M.getD c []) c (rget (M.getD I []) c / rget (M.getD c []) c) (M.getD I []) w:=by unfold elimRow; rw [if_neg hz0,wI]
    rw [← hrow,hstep]
    simp only [go_sem,Zhg,e11,e1]
    refine hN (I+1) _ (by omega) (by omega) (Zt7 (m:=1+n) (by rw [Zay,Zdj,hn]) (Yrb (by rw [Zdj,hn]; exact Nat.le_refl _)) (by omega) [(1,.int .i64 (n:Int)),(6,.osl none 0 0 n),(8,.int .i64 (c:Int)),(11,.int .i64 ((I+1:Nat):Int))] (by simp only [go_sem,e1',e6,e8]) (fun p hp=>?_))
    simp only [List.mem_cons,List.not_mem_nil,or_false] at hp
    rcases hp with rfl | rfl | rfl | rfl
    ·rfl
    ·simp only [AV.gc]; rw [Zbm (by omega)]
    ·rfl
    ·rfl
 ·have hIe:I=n:=by omega
  have q1:¬ (I:Int)<(n:Int):=by omega
  simp only [go_sem,Zd4,q1]
  rw [hIe]
  exact hK _ (by simp only [go_sem]) (by simp only [go_sem]) (by simp only [go_sem])
end GoAbs
namespace GoAbs
open Go Go.Proofs
theorem Rb.elim4 {k:Nat}{p r:List Rat}{c:Nat}(hr:Rb k r) (hp:Rb k p) (hl:p.length=r.length) (hc:c<r.length) (h0:rget p c≠0):Rb (4*k+1) (GoAbs.elimRow p c r):=fun x hx=>by
 unfold GoAbs.elimRow at hx
 split at hx
 ·exact (hr x hx).mono (by omega)
 ·unfold GoAbs.elimTo at hx
  obtain ⟨j,hj,rfl⟩:=List.mem_map.1 hx
  have hj':=List.mem_range.1 hj
  split
  ·exact ((hr.get hj').sub2 (((hr.get hc).div2 (hp.get (by omega)) h0).mul2 (hp.get (by omega)))).mono (by omega)
  ·exact (hr.get hj').mono (by omega)
theorem Mb.jor4 {k w:Nat}{M:RM}(h:Mb k M) (hw:Wid w M) {c I:Nat}(hcM:c<M.length) (hc:c<w) (h0:mget M c c≠0):Mb (4*k+1) (jorCol M c I):=fun r hr=>by
 unfold jorCol at hr
 obtain ⟨i,hi,rfl⟩:=List.mem_map.1 hr
 have hi':=List.mem_range.1 hi
 split
 ·exact Rb.elim4 (h.get hi') (h.get hcM) (by rw [hw.get hcM,hw.get hi']) (by rw [hw.get hi']; exact hc) h0
 ·exact (h.get hi').mono (by omega)
theorem Xgk {w n c:Nat}{M:RM}(hn:M.length=n) (hnl:n≤1000) (hc:c<n) (hcw:c<w) (hW:Wid w M) (h0:mget M c c≠0) {K:Ex→St→Prop}
  (hK:∀ e:Nat→AV,e 1 = .int .i64 (n:Int)→e 6 = .osl none 0 0 n→e 8 = .int .i64 (c:Int)→e 9 = .int .i64 (c:Int)→K (.exit 4) ⟨e,matR w M⟩) :
  T Tryz.prog 163 0 (.loop Zpi) ⟨envL [(1,.int .i64 (n:Int)),(6,.osl none 0 0 n),(8,.int .i64 (c:Int)),(9,.int .i64 (-1)),(10,.int .i64 (c:Int))],matR w M⟩ K:=by
 have hm:Tryz.prog.follows .mixedOrders=true:=by kernel_rfl
 refine Zae (fun y:Nat=>⟨envL [(1,.int .i64 (n:Int)),(6,.osl none 0 0 n),(8,.int .i64 (c:Int)),(9,.int .i64 (if y=0 then -1 else (c:Int))),(10,.int .i64 ((c+y:Nat):Int))],matR w M⟩)
  (fun y=>y≤1) (fun y=>1 - y) 0 (by omega) (Zab _ (by simp only [go_sem])) (fun y hy N hN=>?_)
 unfold Zpi
 have q2:(0:Int)≤(c:Int):=by omega
 have q3:(c:Int)<(n:Int):=by omega
 have q4:(c:Int)<(w:Int):=by omega
 have hrc:M[c]? = some (M.getD c []):=getD_some (by omega)
 have wc:=hW.get (i:=c) (by omega)
 have gP:=Zw7 (w:=w) (M:=M) (post := [])
 rw [hn,List.append_nil] at gP
 have gC:=Zjc (w:=w) (post := []) hrc
 rw [List.append_nil] at gC
 have gc:=Zp4 (w:=w) hc
 have pl:=Zll w n
 have hlen:(matR w M).length=1+n:=by rw [Zay,hn]
 have l0:0<1+n:=by omega
 have l2:1+c<1+n:=by omega
 have tC:=Zgg (Zag (show c<(M.getD c []).length by omega))
 have uC:=Zkm (Zag (show c<(M.getD c []).length by omega))
 have hz:=rzero (n:=(rget (M.getD c []) c).num) (d:=(rget (M.getD c []) c).den)
 have h0':¬ (rget (M.getD c []) c).num=0:=fun h=>h0 (Rat.num_eq_zero.1 h)
 rw [decide_eq_false h0'] at hz
 have e1:IntKind.i64.wrap ((c:Int)+1)=((c+1:Nat):Int):=by rw [Zac (by omega) (by omega)]; omega
 have m1:(-1:Int)<0:=by decide
 by_cases h:y=0
 ·subst h
  simp only [go_sem,Nat.add_zero,if_true,Zho,Zza,Zmp,Zmx,q2,q3,q4,m1,gP,gc,gC,hlen,l0,l2,List.getElem?_drop,tC,uC,pl]
  refine Zaa hz (by simp only [go_sem,avR]; show BVs _ _ (rc _ _) (rc _ _); rw [Zb2]; trivial) ?_
  simp only [go_sem,Bool.not_false,Zmp,Zmx,e1]
  exact hN 1 _ (by omega) (by omega) (Zab _ (by simp only [go_sem]))
 ·have:y=1:=by omega
  subst this
  have m2:¬ (c:Int)<0:=by omega
  by_cases hcn:((c+1:Nat):Int)<(n:Int)
  ·simp only [go_sem,Zho,hcn,h,if_false,m2]
   exact hK _ (by simp only [go_sem]) (by simp only [go_sem]) (by simp only [go_sem]) (by simp only [go_sem])
  ·simp only [go_sem,Zho,hcn,h,if_false,m2]
   exact hK _ (by simp only [go_sem]) (by simp only [go_sem]) (by simp only [go_sem]) (by simp only [go_sem])
def jorI (M:RM):Nat→RM
 | 0=>M
 | c+1=>jorCol (jorI M c) c M.length
theorem Yh4 {w n k0:Nat}{M:RM}(hn:M.length=n) (hnw:n≤w) (hW:Wid w M) (hB:Mb k0 M) (hP:Piv n 0 M):∀ c,c≤n→(jorI M c).length=n∧Wid w (jorI M c)∧Piv (n - c) c (jorI M c)∧jorN (n - c) c (jorI M c)=jorN n 0 M∧∃ k,3*k+1=4 ^ c*(3*k0+1)∧Mb k (jorI M c)
 | 0,_=>⟨hn,hW,hP,rfl,k0,by rw [Nat.pow_zero]; omega,hB⟩
 | c+1,h=>by
  obtain ⟨a1,a2,a3,a4,k,a5,a6⟩:=Yh4 hn hnw hW hB hP c (by omega)
  obtain ⟨d,hd⟩:∃ d,n - c=d+1:=⟨n - c - 1,by omega⟩
  have hd':n - (c+1)=d:=by omega
  rw [hd] at a3 a4
  have e:jorCol (jorI M c) c (jorI M c).length=jorI M (c+1):=by rw [a1, ← hn]; rfl
  obtain ⟨b1,b2⟩:=a3
  rw [e] at b2
  refine ⟨by rw [← e,Zdj,a1],by rw [← e]; exact a2.jor,by rw [hd']; exact b2,?_,4*k+1,by rw [Nat.pow_succ,Nat.mul_comm (4 ^ c) 4,Nat.mul_assoc, ← a5]; omega,by rw [← e]; exact a6.jor4 a2 (by omega) (by omega) b1⟩
  rw [hd', ← a4, ← e]
  rfl
theorem Xes {w n k0:Nat}{M:RM}(hn:M.length=n) (hnl:n≤1000) (hw:w=n+1) (hW:Wid w M) (hB:Mb k0 M) (hk0:1≤k0) (hk:4 ^ (n - 1)*(3*k0+1)≤600001) (hP:Piv n 0 M) {K:Ex→St→Prop}
  (hK:∀ e:Nat→AV,e 1 = .int .i64 (n:Int)→e 6 = .osl none 0 0 n→K (.exit 2) ⟨e,matR w (jorI M n)⟩) :
  T Tryz.prog 163 0 (.loop Zn7) ⟨envL [(1,.int .i64 (n:Int)),(6,.osl none 0 0 n),(8,.int .i64 0)],matR w M⟩ K:=by
 have hm:Tryz.prog.follows .mixedOrders=true:=by kernel_rfl
 refine Zae (fun c:Nat=>⟨envL [(1,.int .i64 (n:Int)),(6,.osl none 0 0 n),(8,.int .i64 (c:Int))],matR w (jorI M c)⟩)
  (fun c=>c≤n) (fun c=>n - c) 0 (by omega) (Zab _ (by simp only [go_sem]; simp)) (fun c hc N hN=>?_)
 unfold Zn7
 by_cases hcn:c<n
 ·obtain ⟨a1,a2,a3,_,k,a5,a6⟩:=Yh4 hn (by omega) hW hB hP c hc
  obtain ⟨d,hd⟩:∃ d,n - c=d+1:=⟨n - c - 1,by omega⟩
  rw [hd] at a3
  have h0:=a3.1
  have hk4:4 ^ c*(3*k0+1)≤600001:=Nat.le_trans (Nat.mul_le_mul_right _ (Nat.pow_le_pow_right (by omega) (by omega))) hk
  have hk1:1≤k:=by
   have:1≤4 ^ c:=Nat.pow_pos (by omega)
   have:=Nat.le_mul_of_pos_left (3*k0+1) this
   omega
  have hnext:jorI M (c+1)=jorCol (jorI M c) c n:=by show jorCol (jorI M c) c M.length=_; rw [hn]
  generalize jorI M c=J at *
  have q2:(0:Int)≤(c:Int):=by omega
  have q3:(c:Int)<(n:Int):=by omega
  have m2:¬ (c:Int)<0:=by omega
  have e1:IntKind.i64.wrap ((c:Int)+1)=((c+1:Nat):Int):=by rw [Zac (by omega) (by omega)]; omega
  simp only [go_sem,Zpn,Z24,Zxl,q3]
  refine Zas [(1,.int .i64 (n:Int)),(6,.osl none 0 0 n),(8,.int .i64 (c:Int)),(9,.int .i64 (-1)),(10,.int .i64 (c:Int))] (by simp only [go_sem]) ?_
  refine Xgk a1 hnl hcn (by omega) a2 h0 (fun e x1 x6 x8 x9=>?_)
  have gP:=Zw7 (w:=w) (M:=J) (post := [])
  rw [a1,List.append_nil] at gP
  have gc:=Zp4 (w:=w) hcn
  have pl:=Zll w n
  have hlen:(matR w J).length=1+n:=by rw [Zay,a1]
  have l0:0<1+n:=by omega
  have l2:1+c<1+n:=by omega
  have hset:(ptrR w n).take c ++ [.osl (some 4) (1+c) 0 w]++(ptrR w n).drop (c+1)=ptrR w n:=by
   have:=List.set_eq_take_append_cons_drop (l:=ptrR w n) (i:=c) (a:=AV.osl (some 4) (1+c) 0 w)
   rw [if_pos (by omega)] at this
   rw [List.append_assoc,List.singleton_append, ← this]
   apply List.ext_getElem?
   intro x
   by_cases hx:c=x
   ·subst hx; rw [List.getElem?_set_self (by omega),gc]
   ·rw [List.getElem?_set_ne hx]
  have hset0:(matR w J).set 0 (.cells (ptrR w n))=matR w J:=by unfold matR; rw [a1]; rfl
  simp only [go_sem,Zyy,Zl4,x1,x6,x8,x9,m2,hm,q2,q3,gP,gc,pl,hlen,l0,l2,List.getElem?_drop,hset,hset0]
  refine ⟨by omega,by omega,?_⟩
  simp only [go_sem,Zz7]
  refine Zas [(1,.int .i64 (n:Int)),(6,.osl none 0 0 n),(8,.int .i64 (c:Int)),(11,.int .i64 0)] (by simp only [go_sem,x1,x6,x8]) ?_
  refine Xf3 a1 hnl hw hcn a2 a6 h0 hk1 (by omega) (fun e' y1 y6 y8=>?_)
  rw [← hnext]
  simp only [go_sem,Zy8,y8,e1]
  exact hN (c+1) _ (by omega) (by omega) (Zab _ (by simp only [go_sem,y1,y6]))
 ·have hce:c=n:=by omega
  have q1:¬ (c:Int)<(n:Int):=by omega
  simp only [go_sem,Zpn,q1]
  rw [hce]
  exact hK _ (by simp only [go_sem]) (by simp only [go_sem])
end GoAbs
namespace GoAbs
open Go Go.Proofs
theorem Yo5:∀ {A B:List Nat}{b:Nat},pos (A++B) b=match pos A b with | some j=>some j | none=>(pos B b).map (· + A.length)
 | [],B,b=>by show pos B b=(pos B b).map (· + 0); cases pos B b <;> rfl
 | x::A,B,b=>by
  show (if x=b then some 0 else (pos (A++B) b).map (· + 1))=match (if x=b then some 0 else (pos A b).map (· + 1)) with | some j=>some j | none=>(pos B b).map (· + (A.length+1))
  by_cases h:x=b
  ·rw [if_pos h,if_pos h]
  ·rw [if_neg h,if_neg h,Yo5]
   cases pos A b with
   | some j=>rfl
   | none=>cases pos B b with
    | none=>rfl
    | some j=>show some _=some _; congr 1
theorem Z4d {m:Nat}:(∀ i,i<m→pos (List.range m ++ [m+2]) i=some i)∧pos (List.range m ++ [m+2]) (m+2)=some m:=by
 refine ⟨fun i hi=>by rw [Yo5,Zbm hi],?_⟩
 have:pos (List.range m) (m+2)=none:=by
  cases h:pos (List.range m) (m+2) with
  | none=>rfl
  | some j =>
   have:=Ypg h
   have hj:=(List.getElem?_eq_some_iff.1 this).1
   rw [List.length_range] at hj
   rw [List.getElem?_range hj] at this
   cases this
   omega
 rw [Yo5,this]
 simp [pos]
theorem Y18 {nt n0 m:Nat}{e:Nat→AV}{K:Heap}{b1 b2:Blk}{cs:List AV}(hm:K.length=m) (hn:n0≤m) (hK:∀ f:Nat→Option Nat,(∀ i,i<m→f i=some i)→K.map (Blk.gc f)=K) (hc:∀ f,gcL f cs=cs) (l:List (Nat×AV)) (hl:Has e l) :
  Le nt n0 ⟨e,K ++ [b1,b2,.cells cs]⟩ ⟨envL (l.map fun p=>(p.1,p.2.gc (pos (List.range m ++ [m+2])))),K ++ [.cells cs]⟩:=by
 refine Zcj (Zjv (List.range m ++ [m+2]) ?_ (fun i hi=>by rw [List.getElem?_append_left (by rw [List.length_range]; omega),List.getElem?_range (by omega)]) l hl) ?_
 ·rw [List.nodup_append]
  refine ⟨List.nodup_range,by simp,fun a ha b hb=>?_⟩
  have:=List.mem_range.1 ha
  rw [List.mem_singleton] at hb
  omega
 ·refine congrArg (St.mk _) ?_
  show List.map (fun i=>((K ++ [b1,b2,Blk.cells cs]).getD i Blk.dead).gc (pos (List.range m ++ [m+2]))) (List.range m ++ [m+2])=K ++ [.cells cs]
  rw [List.map_append,List.map_singleton]
  congr 1
  ·conv=>rhs; rw [← hK (pos (List.range m ++ [m+2])) Z4d.1]
   apply List.ext_getElem?
   intro i
   rw [List.getElem?_map,List.getElem?_map]
   by_cases hi:i<m
   ·rw [List.getElem?_range hi,List.getElem?_eq_getElem (show i<K.length by omega)]
    show some (((K ++ [b1,b2,Blk.cells cs]).getD i Blk.dead).gc _)=some _
    rw [List.getD_eq_getElem?_getD,List.getElem?_append_left (by omega),List.getElem?_eq_getElem (by omega)]
    rfl
   ·rw [List.getElem?_eq_none (by rw [List.length_range]; omega),List.getElem?_eq_none (by omega)]; rfl
  ·rw [List.getD_eq_getElem?_getD,List.getElem?_append_right (by omega),hm,show m+2 - m=2 by omega]
   show [Blk.cells (gcL _ cs)]=_
   rw [hc]
theorem Y0l {w:Nat}{M:RM}{f:Nat→Option Nat}(hf:∀ i,i<1+M.length→f i=some i):(matR w M).map (Blk.gc f)=matR w M:=by
 unfold matR
 rw [List.map_cons]
 congr 1
 ·simp only [Blk.gc,Zau]
  congr 1
  unfold ptrR
  rw [List.map_map]
  refine List.map_congr_left fun i hi=>?_
  have hi':=List.mem_range.1 hi
  simp only [Function.comp,AV.gc]
  rw [hf _ (by omega)]
 ·unfold rowsR
  rw [List.map_map]
  exact List.map_congr_left fun r _=>by simp only [Function.comp,Blk.gc,Yfb]
def solR (T:RM) (n i:Nat):List Rat:=(List.range i).map fun c=>mget T c n / mget T c c
theorem Y09 {T:RM}{n i:Nat}:solR T n (i+1)=solR T n i ++ [mget T i n / mget T i i]:=by unfold solR; rw [List.range_succ,List.map_append]; rfl
theorem Xer {w n k:Nat}{T:RM}(hn:T.length=n) (hnl:n≤1000) (hw:w=n+1) (hW:Wid w T) (hB:Mb k T) (hk:k≤1000000) (h0:∀ i,i<n→mget T i i≠0) {K:Ex→St→Prop}
  (hK:∀ e:Nat→AV,e 14 = .osl (some 4) (1+n) 0 n→K (.exit 10) ⟨e,matR w T ++ [.cells (qr (solR T n n))]⟩) :
  GoAbs.T Tryz.prog 163 0 (.loop Zo3) ⟨envL [(1,.int .i64 (n:Int)),(6,.osl none 0 0 n),(14,.osl (some 4) (1+n) 0 0),(15,.int .i64 0)],matR w T ++ [.cells []]⟩ K:=by
 have hm:Tryz.prog.follows .mixedOrders=true:=by kernel_rfl
 refine Zae (fun i:Nat=>⟨envL [(1,.int .i64 (n:Int)),(6,.osl none 0 0 n),(14,.osl (some 4) (1+n) 0 i),(15,.int .i64 (i:Int))],matR w T ++ [.cells (qr (solR T n i))]⟩)
  (fun i=>i≤n) (fun i=>n - i) 0 (by omega) (Zab _ (by simp only [go_sem]; simp)) (fun i hi N hN=>?_)
 unfold Zo3
 by_cases hin:i<n
 ·have q0:(0:Int)≤(i:Int):=by omega
  have q1:(i:Int)<(n:Int):=by omega
  have q2:(0:Int)≤(n:Int):=by omega
  have q3:(n:Int)<(w:Int):=by omega
  have q4:(i:Int)<(w:Int):=by omega
  have e1:IntKind.i64.wrap ((i:Int)+1)=((i+1:Nat):Int):=by rw [Zac (by omega) (by omega)]; omega
  have hri:T[i]? = some (T.getD i []):=getD_some (by omega)
  have wi:=hW.get (i:=i) (by omega)
  have bi:=hB.get (i:=i) (by omega)
  have gi:=Zp4 (w:=w) hin
  have pl:=Zll w n
  have tN:=Zgg (Zag (show n<(T.getD i []).length by omega))
  have uN:=Zkm (Zag (show n<(T.getD i []).length by omega))
  have tI:=Zgg (Zag (show i<(T.getD i []).length by omega))
  have uI:=Zkm (Zag (show i<(T.getD i []).length by omega))
  obtain ⟨Y,d1,d2,d3⟩:=Y8m (bi.get (j:=n) (by omega)) (bi.get (j:=i) (by omega)) (h0 i hin) hk
  have lo:(solR T n i).length=i:=by simp [solR]
  have l1:(qr (solR T n i)).length=i*4:=by rw [Zm9,lo]
  have l2:(qr (solR T n i)).take (i*4)=qr (solR T n i):=List.take_of_length_le (by omega)
  have s1:(i+1)*64≤1099511627776:=by omega
  have gP:∀ post:Heap,(matR w T++post)[0]? = some (.cells (ptrR w n)):=fun post=>by have:=Zw7 (w:=w) (M:=T) (post:=post); rwa [hn] at this
  have gI:∀ post:Heap,(matR w T++post)[1+i]? = some (.cells (qr (T.getD i []))):=fun post=>Zjc hri
  have gO:∀ (post:Heap) (t:Nat),(matR w T++post)[1+n+t]? = post[t]?:=fun post t=>Zgj hn
  have hlen:∀ post:Heap,(matR w T++post).length=1+n+post.length:=fun post=>by rw [Zhz,hn]
  have bq:∀ (H:Heap) (ids:List Nat) (q:Rat),BVs H ids (rq q) (rq q)=True:=fun H ids q=>Zb2
  have l3:0<1+n+1:=by omega
  have l4:1+i<1+n+1:=by omega
  have hset:∀ (post:Heap) (t:Nat) (y:Blk),(matR w T++post).set (1+n+t) y=matR w T++post.set t y:=fun post t y=>by
   rw [List.set_append_right _ _ (by rw [Zay]; omega),Zay]
   congr 2; omega
  have fin:∀ (e:Nat→AV) (b1 b2:Blk),Has e [(1,.int .i64 (n:Int)),(6,.osl none 0 0 n),(14,.osl (some 4) (1+n+2) 0 (i+1)),(15,.int .i64 ((i+1:Nat):Int))]→N ⟨e,matR w T ++ [b1,b2,.cells (qr (solR T n i)++rq (rget (T.getD i []) n / rget (T.getD i []) i))]⟩:=fun e b1 b2 he=>by
   have hs:qr (solR T n (i+1))=qr (solR T n i)++rq (rget (T.getD i []) n / rget (T.getD i []) i):=by rw [Y09,Zjo]; simp [qr,mget]
   rw [← hs]
   refine hN (i+1) _ (by omega) (by omega) (Zcj (Y18 (m:=1+n) (K:=matR w T) (by rw [Zay,hn]) (by omega) (fun f hf=>Y0l (by rw [hn]; exact hf)) (fun f=>Yfb _) _ he) ?_)
   simp only [List.map_cons,List.map_nil,AV.gc]
   rw [Z4d.2,Z4d.1 0 (by omega)]
  simp only [go_sem,Zmt,Zmz,hm,q0,q1,q2,q3,q4,gP,gi,gI,gO,hlen,List.getElem?_drop,tN,uN,tI,uI,pl,List.append_assoc,l3,l4,true_or,true_and]
  refine Zaa d1 (by simp only [go_sem,bq]) ?_
  simp only [go_sem]
  refine Zaa d3 (by simp only [go_sem,d2]) ?_
  have gO0:∀ (post:Heap),(matR w T++post)[1+n]? = post[0]?:=fun post=>gO post 0
  have hset0:∀ (post:Heap) (y:Blk),(matR w T++post).set (1+n) y=matR w T++post.set 0 y:=fun post y=>hset post 0 y
  have l5:1+n<1+n+1:=by omega
  simp only [go_sem,hlen,gO,gO0,hset,hset0,Zdq,Zb6,Zf9,l1,l2,l5,s1,true_or,true_and,Zxi,e1]
  have e2:1+n+1+1=1+n+2:=by omega
  rw [e2,hset]
  exact ⟨Nat.le_refl _,by rw [gO]; rfl,fin _ _ _ (by simp only [go_sem])⟩
 ·have hie:i=n:=by omega
  have q1:¬ (i:Int)<(n:Int):=by omega
  simp only [go_sem,Zmt,q1]
  rw [hie]
  exact hK _ (by simp only [go_sem])
end GoAbs
namespace GoAbs
open Go Go.Proofs
def rowV (r:List Rat):AV := .sl (r.map fun q => .agg (rq q))
def rowsV (M:RM):List AV:=M.map rowV
theorem Yka {r:List Rat}:(r.map fun q=>AV.agg (rq q)).flatMap AV.cells=qr r:=by rw [List.flatMap_map]; rfl
theorem Ymz {r:List Rat}:∀ y,y∈(r.map fun q=>AV.agg (rq q))→y.cells.length=4:=fun y hy=>by obtain ⟨q,_,rfl⟩:=List.mem_map.1 hy; rfl
theorem Yl4 {w n:Nat}:ptrR w (n+1)=ptrR w n ++ [.osl (some 4) (1+n) 0 w]:=by unfold ptrR; rw [List.range_succ,List.map_append]; rfl
theorem Ykz {i:Nat}:(∀ j,j≤i→pos ((i+3)::List.range' 1 (i+1)) (1+j)=some (1+j))∧pos ((i+3)::List.range' 1 (i+1)) (i+3)=some 0:=by
 refine ⟨fun j hj=>?_,by unfold pos; rw [if_pos rfl]⟩
 unfold pos
 rw [if_neg (by omega)]
 have main:∀ (k s b:Nat),s≤b→b<s+k→pos (List.range' s k) b=some (b - s):=by
  intro k
  induction k with
  | zero=>intro s b h1 h2; omega
  | succ k ih =>
   intro s b h1 h2
   rw [List.range'_succ]
   unfold pos
   by_cases h:s=b
   ·rw [if_pos h,h,Nat.sub_self]
   ·rw [if_neg h,ih (s+1) b (by omega) (by omega)]
    simp only [Option.map_some,Option.some.injEq]
    omega
 rw [main (i+1) 1 (1+j) (by omega) (by omega)]
 simp only [Option.map_some,Option.some.injEq]
 omega
theorem Xbi {nt w i:Nat}{e:Nat→AV}{M:RM}{r:List Rat}{b1:Blk}(hM:M.length=i) (l:List (Nat×AV)) (hl:Has e l) :
  Le nt 0 ⟨e,.dead::(rowsR M ++ [.cells (qr r),b1,.cells (ptrR w i ++ [.osl (some 4) (1+i) 0 w])])⟩ ⟨envL (l.map fun p=>(p.1,p.2.gc (pos ((i+3)::List.range' 1 (i+1))))),matR w (M ++ [r])⟩:=by
 have hrl:(rowsR M).length=i:=by simp [rowsR,hM]
 refine Zcj (Zjv ((i+3)::List.range' 1 (i+1)) ?_ (fun i hi=>by omega) l hl) (congrArg (St.mk _) ?_)
 ·rw [List.nodup_cons]
  exact ⟨by rw [List.mem_range'_1]; omega,List.nodup_range'⟩
 ·show List.map (fun j=>((Blk.dead::(rowsR M ++ [.cells (qr r),b1,.cells (ptrR w i ++ [.osl (some 4) (1+i) 0 w])])).getD j Blk.dead).gc (pos ((i+3)::List.range' 1 (i+1)))) ((i+3)::List.range' 1 (i+1))=_
  rw [List.map_cons]
  have hp:(Blk.dead::(rowsR M ++ [.cells (qr r),b1,.cells (ptrR w i ++ [.osl (some 4) (1+i) 0 w])])).getD (i+3) Blk.dead = .cells (ptrR w (i+1)):=by
   rw [List.getD_eq_getElem?_getD,show i+3=(i+2)+1 by omega,List.getElem?_cons_succ,List.getElem?_append_right (by omega),hrl,show i+2 - i=2 by omega,Yl4]
   rfl
  rw [hp]
  unfold matR
  rw [List.length_append,hM]
  congr 1
  ·show Blk.gc _ (Blk.cells (ptrR w (i+1)))=Blk.cells (ptrR w (i+1))
   simp only [Blk.gc,Zau]
   congr 1
   unfold ptrR
   rw [List.map_map]
   refine List.map_congr_left fun j hj=>?_
   have hj':=List.mem_range.1 hj
   simp only [Function.comp,AV.gc]
   rw [Ykz.1 j (by omega)]
  ·apply List.ext_getElem?
   intro j
   rw [List.getElem?_map]
   by_cases hj:j<i+1
   ·rw [List.getElem?_range' hj]
    show some (Blk.gc _ ((Blk.dead::(rowsR M ++ [.cells (qr r),b1,.cells (ptrR w i ++ [.osl (some 4) (1+i) 0 w])])).getD (1+1*j) Blk.dead))=_
    have hg:(Blk.dead::(rowsR M ++ [.cells (qr r),b1,.cells (ptrR w i ++ [.osl (some 4) (1+i) 0 w])])).getD (1+1*j) Blk.dead = .cells (qr ((M ++ [r]).getD j [])):=by
     rw [List.getD_eq_getElem?_getD,show 1+1*j=j+1 by omega,List.getElem?_cons_succ,List.getD_eq_getElem?_getD]
     by_cases hji:j<i
     ·rw [List.getElem?_append_left (by omega),List.getElem?_append_left (by omega)]
      unfold rowsR
      rw [List.getElem?_map,List.getElem?_eq_getElem (by omega)]; rfl
     ·have:j=i:=by omega
      subst this
      rw [List.getElem?_append_right (by omega),hrl,List.getElem?_append_right (by omega),hM,Nat.sub_self]; rfl
    rw [hg]
    unfold rowsR
    rw [List.getElem?_map,getD_some (M:=M ++ [r]) (by rw [List.length_append,hM]; simpa using hj)]
    simp only [Blk.gc,Yfb,Option.map_some]
   ·rw [List.getElem?_eq_none (by rw [List.length_range']; omega),List.getElem?_eq_none (by simp [rowsR,hM]; omega)]; rfl
theorem Xdq {w n:Nat}{M:RM}(hn:M.length=n) (hnl:n≤1000) (hwl:w≤1000) (hW:Wid w M) {K:Ex→St→Prop}
  (hK:∀ e:Nat→AV,e 1 = .int .i64 (n:Int)→e 6 = .osl none 0 0 n→K (.exit 0) ⟨e,matR w M⟩) :
  T Tryz.prog 163 0 (.loop Zqo) ⟨envL [(0,.sl (rowsV M)),(1,.int .i64 (n:Int)),(6,.osl none 0 0 0),(7,.int .i64 0)],matR w []⟩ K:=by
 have hm:Tryz.prog.follows .mixedOrders=true:=by kernel_rfl
 refine Zae (fun i:Nat=>⟨envL [(0,.sl (rowsV M)),(1,.int .i64 (n:Int)),(6,.osl none 0 0 i),(7,.int .i64 (i:Int))],matR w (M.take i)⟩)
  (fun i=>i≤n) (fun i=>n - i) 0 (by omega) (Zab _ (by simp only [go_sem]; simp)) (fun i hi N hN=>?_)
 unfold Zqo
 have hvl:(rowsV M).length=n:=by simp [rowsV,hn]
 by_cases hin:i<n
 ·have q0:(0:Int)≤(i:Int):=by omega
  have q1:(i:Int)<(n:Int):=by omega
  have e1:IntKind.i64.wrap ((i:Int)+1)=((i+1:Nat):Int):=by rw [Zac (by omega) (by omega)]; omega
  have hri:M[i]? = some (M.getD i []):=getD_some (by omega)
  have gv:(rowsV M)[i]? = some (rowV (M.getD i [])):=by unfold rowsV; rw [List.getElem?_map,hri]; rfl
  have wi:=hW.get (i:=i) (by omega)
  have tk:M.take (i+1)=M.take i ++ [M.getD i []]:=by rw [List.take_add_one,hri]; rfl
  have hMl:(M.take i).length=i:=by rw [List.length_take]; omega
  generalize M.getD i []=r at *
  generalize M.take i=J at *
  have hrv:(r.map fun q=>AV.agg (rq q)).length=w:=by rw [List.length_map,wi]
  have hlen:(matR w J).length=1+i:=by rw [Zay,hMl]
  have hform:matR w J = .cells (ptrR w i)::rowsR J:=by unfold matR; rw [hMl]
  have pl:=Zll w i
  have s1:w*64≤1099511627776:=by omega
  have s2:(i+1)*24≤1099511627776:=by omega
  have ql:(qr r).length=w*4:=by rw [Zm9,wi]
  have qt:(qr r).take (w*4)=qr r:=List.take_of_length_le (by omega)
  have pt:(ptrR w i).take i=ptrR w i:=List.take_of_length_le (by omega)
  unfold rowV at gv
  simp only [go_sem,Zpf,Z4a,q0,q1,hvl,gv,hrv,Yka,s1,s2,hlen,pl,pt,ql,qt]
  refine ⟨Ymz,?_⟩
  have gL:∀ post:Heap,(matR w J++post).length=1+i+post.length:=fun post=>by rw [Zhz,hMl]
  have gO:∀ (post:Heap) (t:Nat),(matR w J++post)[1+i+t]? = post[t]?:=fun post t=>Zgj hMl
  have gP:∀ post:Heap,(matR w J++post)[0]? = some (.cells (ptrR w i)):=fun post=>by rw [hform]; rfl
  have hset0:∀ (post:Heap) (bl:Blk),(matR w J++post).set 0 bl=bl::(rowsR J++post):=fun post bl=>by rw [hform]; rfl
  simp only [go_sem,List.append_assoc,gL,gO,gP,hset0,pl,pt,s2,e1,Z4w]
  have hln:∀ a b:Blk,(rowsR J ++ [a,b]).length+1=i+3:=fun a b=>by simp [rowsR,hMl]
  refine ⟨Nat.le_refl _,hN (i+1) _ (by omega) (by omega) ?_⟩
  rw [tk]
  refine Zcj (Xbi (i:=i) hMl [(0,.sl (rowsV M)),(1,.int .i64 (n:Int)),(6,.osl none (i+3) 0 (i+1)),(7,.int .i64 ((i+1:Nat):Int))] (by simp only [go_sem,hln])) ?_
  simp only [List.map_cons,List.map_nil,AV.gc]
  rw [Ykz.2]
 ·have hie:i=n:=by omega
  have q1:¬ (i:Int)<(n:Int):=by omega
  have hall:M.take n=M:=List.take_of_length_le (by omega)
  simp only [go_sem,Zpf,q1,hvl]
  rw [hie,hall]
  exact hK _ (by simp only [go_sem]) (by simp only [go_sem])
theorem rsolve {n k0:Nat}{M:RM}(hn:M.length=n) (hn1:1≤n) (hnl:n≤900) (hW:Wid (n+1) M) (hB:Mb k0 M) (hk0:1≤k0) (hk:4 ^ (n - 1)*(3*k0+1)≤600001) (hP:Piv n 0 M) (h0:∀ i,i<n→mget (jorN n 0 M) i i≠0) :
  SpecV Tryz.prog Yqq [.sl (rowsV M),.int .i64 (n:Int)] (.tup [rowV (solR (jorN n 0 M) n n),.bool true]):=by
 obtain ⟨a1,a2,_,a4,k,a5,a6⟩:=Yh4 hn (by omega) hW hB hP n (Nat.le_refl _)
 rw [Nat.sub_self] at a4
 have hJ:jorI M n=jorN n 0 M:=a4
 rw [hJ] at a1 a2 a6
 have hk4:k≤1000000:=by
  have e:4 ^ n=4*4 ^ (n - 1):=by
   obtain ⟨m,rfl⟩:∃ m,n=m+1:=⟨n - 1,by omega⟩
   rw [Nat.pow_succ,Nat.mul_comm]; rfl
  rw [e,Nat.mul_assoc] at a5
  omega
 refine Zbh Yk3 (by simp) (Zcx 1 rfl ?_)
 unfold Ygs
 simp only [go_sem,Z54,Z3i]
 refine T_le (Zik 6 none (by simp only [go_sem]) [(0,.sl (rowsV M)),(1,.int .i64 (n:Int)),(4,.nils),(5,.bool false)] (by simp only [go_sem])) ?_
 refine Zds (Zds (T_W ?_))
 simp only [go_sem,Z4l]
 refine Zet (Zas [(0,.sl (rowsV M)),(1,.int .i64 (n:Int)),(6,.osl none 0 0 0),(7,.int .i64 0)] (by simp only [go_sem]) ?_)
 refine Xdq hn (by omega) (by omega) hW (fun e e1 e6=>?_)
 show T Tryz.prog 163 0 _ _ _
 refine Zds (Zds (T_W ?_))
 simp only [go_sem,Z5d]
 refine Zet (Zas [(1,.int .i64 (n:Int)),(6,.osl none 0 0 n),(8,.int .i64 0)] (by simp only [go_sem,e1,e6]) ?_)
 refine Xes hn (by omega) rfl hW hB hk0 hk hP (fun e e1 e6=>?_)
 show T Tryz.prog 163 0 _ _ _
 rw [hJ]
 refine Zcx 0 rfl ?_
 simp only [go_sem,Zxr]
 refine T_le (Zik 14 (some 4) (by simp only [go_sem]) [(1,.int .i64 (n:Int)),(6,.osl none 0 0 n)] (by simp only [go_sem,e1,e6])) ?_
 refine Zds (Zds (T_W ?_))
 simp only [go_sem,Zxt]
 refine Zet (Zas [(1,.int .i64 (n:Int)),(6,.osl none 0 0 n),(14,.osl (some 4) (1+n) 0 0),(15,.int .i64 0)] (by simp only [go_sem,Zay,a1]) ?_)
 refine Xer a1 (by omega) rfl a2 a6 hk4 h0 (fun e e14=>?_)
 show T Tryz.prog 163 0 _ _ _
 refine T_W ?_
 simp only [go_sem,Zyk,e14]
 have hsl:(solR (jorN n 0 M) n n).length=n:=by simp [solR]
 have hg:(matR (n+1) (jorN n 0 M) ++ [Blk.cells (qr (solR (jorN n 0 M) n n))])[1+n]? = some (.cells (qr (solR (jorN n 0 M) n n))):=by
  have:=Zgj (w:=n+1) (M:=jorN n 0 M) (post := [Blk.cells (qr (solR (jorN n 0 M) n n))]) (t:=0) a1
  exact this
 have hbv:=Z6u (H:=matR (n+1) (jorN n 0 M) ++ [Blk.cells (qr (solR (jorN n 0 M) n n))]) (ids:=allOf (matR (n+1) (jorN n 0 M) ++ [Blk.cells (qr (solR (jorN n 0 M) n n))])) (w:=4) (b:=1+n) (R:=(solR (jorN n 0 M) n n).map rq) hg (by
  unfold allOf
  rw [List.mem_range,List.length_append,Zay,a1]
  simp) (by unfold qr; rw [List.flatMap_def]) (fun c hc=>by obtain ⟨q,_,rfl⟩:=List.mem_map.1 hc; rfl) (fun c hc=>by obtain ⟨q,_,rfl⟩:=List.mem_map.1 hc; exact of_eq_true Zb2)
 rw [List.length_map,hsl,List.map_map] at hbv
 exact hbv
end GoAbs
namespace GoAbs
def rowStep (i a b:Nat) (x:Rat) (r:List Rat):List Rat :=
 if a=i then (if b=0 then r.set (i - 1) (rget r (i - 1)+x) else (r.set (i - 1) (rget r (i - 1)+x)).set (b - 1) (rget (r.set (i - 1) (rget r (i - 1)+x)) (b - 1) - x))
 else if b=i then (if a=0 then r.set (i - 1) (rget r (i - 1)+x) else (r.set (i - 1) (rget r (i - 1)+x)).set (a - 1) (rget (r.set (i - 1) (rget r (i - 1)+x)) (a - 1) - x))
 else r
theorem Ycd {i a b:Nat}{x:Rat}{r:List Rat}:(rowStep i a b x r).length=r.length:=by
 unfold rowStep
 (repeat' split) <;> simp
theorem Ynf {i a b j m:Nat}{x:Rat}{r:List Rat}(hr:r.length=m) (hi:1≤i) (him:i≤m) (ha:a≤m) (hb:b≤m) (hab:a≠b) :
  rget (rowStep i a b x r) j=rget r j+x*(edge a b i*edge a b (j+1)):=by
 unfold rowStep edge
 by_cases h1:a=i
 ·subst h1
  rw [if_pos rfl,if_pos rfl,if_neg hab]
  by_cases h2:b=0
  ·subst h2
   rw [if_pos rfl,Zf2 (by omega)]
   by_cases h3:j=a - 1
   ·rw [if_pos h3,if_pos (by omega),if_neg (by omega),h3]; grind
   ·rw [if_neg h3,if_neg (by omega),if_neg (by omega)]; grind
  ·rw [if_neg h2,Zf2 (by rw [List.length_set]; omega),Zf2 (by omega),Zf2 (by omega)]
   by_cases h3:j=a - 1
   ·rw [if_neg (by omega),if_pos h3,if_pos (by omega),if_neg (by omega),h3]; grind
   ·by_cases h4:j=b - 1
    ·rw [if_pos h4,if_neg (by omega),if_neg (by omega),if_pos (by omega),h4]; grind
    ·rw [if_neg h4,if_neg h3,if_neg (by omega),if_neg (by omega)]; grind
 ·rw [if_neg h1]
  by_cases h2:b=i
  ·subst h2
   rw [if_pos rfl]
   have hba:¬ b=a:=fun e=>h1 e.symm
   by_cases h5:a=0
   ·subst h5
    rw [if_pos rfl,if_neg hba,if_pos rfl,Zf2 (by omega)]
    by_cases h3:j=b - 1
    ·rw [if_pos h3,if_neg (by omega),if_pos (by omega),h3]; grind
    ·rw [if_neg h3,if_neg (by omega),if_neg (by omega)]; grind
   ·rw [if_neg h5,if_neg hba,if_pos rfl,Zf2 (by rw [List.length_set]; omega),Zf2 (by omega),Zf2 (by omega)]
    by_cases h3:j=b - 1
    ·rw [if_neg (by omega),if_pos h3,if_neg (by omega),if_pos (by omega),h3]; grind
    ·by_cases h4:j=a - 1
     ·rw [if_pos h4,if_neg (by omega),if_pos (by omega),if_neg (by omega),h4]; grind
     ·rw [if_neg h4,if_neg h3,if_neg (by omega),if_neg (by omega)]; grind
  ·have k1:¬ i=a:=fun e=>h1 e.symm
   have k2:¬ i=b:=fun e=>h2 e.symm
   rw [if_neg h2,if_neg k1,if_neg k2]; grind
def rowE (i m:Nat) (E:List Sp):List Rat:=E.foldl (fun r e=>rowStep i e.1 e.2.1 e.2.2 r) (List.replicate m 0)
theorem Ya1 {i m:Nat}:∀ {E:List Sp},(rowE i m E).length=m:=fun {E}=>by
 unfold rowE
 have:∀ (E:List Sp) (r:List Rat),(E.foldl (fun r e=>rowStep i e.1 e.2.1 e.2.2 r) r).length=r.length:=fun E=>by
  induction E with
  | nil=>intro r; rfl
  | cons e E ih=>intro r; rw [List.foldl_cons,ih,Ycd]
 rw [this]; simp
theorem Yzs {i m:Nat}{E:List Sp}{e:Sp}:rowE i m (E ++ [e])=rowStep i e.1 e.2.1 e.2.2 (rowE i m E):=by unfold rowE; rw [List.foldl_append]; rfl
theorem Yz7 {i m:Nat}{E:List Sp}(hi:1≤i) (him:i≤m) (hE:∀ e,e∈E→e.1≤m∧e.2.1≤m∧e.1≠e.2.1) (j:Nat):rget (rowE i m E) j=Lm id E i (j+1):=by
 have main:∀ (E:List Sp) (r:List Rat),r.length=m→(∀ e,e∈E→e.1≤m∧e.2.1≤m∧e.1≠e.2.1)→rget (E.foldl (fun r e=>rowStep i e.1 e.2.1 e.2.2 r) r) j=rget r j+Lm id E i (j+1):=fun E=>by
  induction E with
  | nil=>intro r _ _; show rget r j=rget r j+0; grind
  | cons e E ih =>
   intro r hr h
   obtain ⟨h1,h2,h3⟩:=h e (by simp)
   rw [List.foldl_cons,ih _ (by rw [Ycd,hr]) (fun x hx=>h x (by simp [hx])),Ynf hr hi him h1 h2 h3]
   have hL:Lm id (e::E) i (j+1)=Lm id E i (j+1)+e.2.2*(edge e.1 e.2.1 i*edge e.1 e.2.1 (j+1)):=rfl
   rw [hL]; grind
 unfold rowE
 rw [main E _ (by simp) hE]
 have:rget (List.replicate m (0:Rat)) j=0:=by
  unfold rget
  rw [List.getD_eq_getElem?_getD,List.getElem?_replicate]
  split <;> rfl
 rw [this]; grind
theorem Y0y {i m:Nat}{E:List Sp}(hi:i<m) (hE:∀ e,e∈E→e.1≤m∧e.2.1≤m∧e.1≠e.2.1):(lapl m E)[i]? = some (rowE (i+1) m E):=by
 obtain ⟨lW,lL⟩:=Zdl (m:=m) (E:=E)
 rw [getD_some (M:=lapl m E) (i:=i) (by omega)]
 congr 1
 apply List.ext_getElem?
 intro j
 by_cases hj:j<m
 ·rw [Zag (by rw [lW.get (by omega)]; exact hj),Zag (by rw [Ya1]; exact hj)]
  congr 1
  rw [Yz7 (by omega) (by omega) hE]
  exact Z5r hE i j
 ·rw [List.getElem?_eq_none (by rw [lW.get (by omega)]; omega),List.getElem?_eq_none (by rw [Ya1]; omega)]
end GoAbs
namespace GoAbs
open Go Go.Proofs
set_option exponentiation.threshold 20000
def ss (x:List Rat):List AV:=x.map fun q => .str (bs (numS q))
theorem Yly (x:List Rat):(ss x).length=x.length:=by simp [ss]
theorem Xgp {H:Heap}{ids:List Nat}{b:Nat}{x:List Rat}(hb:H[b]? = some (.cells (ss x))) (hi:b∈ids):BV H ids (.osl none b 0 x.length) (.sl (ss x)):=by
 refine .osl none b 0 x.length (ss x) (ss x) hb hi (Yly x) (fun y hy=>?_) (by rw [Yly]; simp [es]) (fun i y j z w hy hz hw=>?_)
 ·obtain ⟨c,_,rfl⟩:=List.mem_map.1 hy; rfl
 ·obtain ⟨c,_,rfl⟩:=List.mem_map.1 (List.mem_of_getElem? hy)
  have hj:j=0:=by
   have:=(List.getElem?_eq_some_iff.1 hz).1
   simp [AV.cells] at this; omega
  subst hj
  simp [AV.cells] at hz
  subst hz
  simp [es] at hw
  rw [hy] at hw
  cases hw
  exact .str _
theorem Xhc {f:Nat→Option Nat}{x:List Rat}:gcL f (ss x)=ss x:=by
 rw [Zau]; unfold ss; rw [List.map_map]; rfl
def numsR (x:List Rat):AV:=if ∀ q,q∈x→NumOk q then .tup [.sl (ss x),.int .i64 0] else .tup [.nils,.int .i64 4]
theorem Xay {x:List Rat}(hx:∀ q,q∈x→Tx q.num.natAbs∧Tx q.den) (hl:x.length≤1000000) {K:Ex→St→Prop}
  (hK:(∀ q,q∈x→NumOk q)→∀ e:Nat→AV,e 4 = .osl none 0 0 x.length→K (.exit 0) ⟨e,[.cells (ss x)]⟩)
  (hK0:(¬ ∀ q,q∈x→NumOk q)→∀ e:Nat→AV,∀ H,e 2 = .nils→e 3 = .int .i64 4→K .ret ⟨e,H⟩) :
  T Tryz.prog 29 0 (.loop Zjn) ⟨envL [(4,.osl none 0 0 0),(9,.sl (condsR x)),(10,.int .i64 (x.length:Int)),(11,.int .i64 0)],[.cells []]⟩ K:=by
 have hm:Tryz.prog.follows .mixedOrders=true:=by kernel_rfl
 refine Zae (fun i:Nat=>⟨envL [(4,.osl none 0 0 i),(9,.sl (condsR x)),(10,.int .i64 (x.length:Int)),(11,.int .i64 (i:Int))],[.cells (ss (x.take i))]⟩)
  (fun i=>i≤x.length∧∀ q,q∈x.take i→NumOk q) (fun i=>x.length - i) 0 ⟨by omega,by simp⟩ (Zab _ (by simp only [go_sem]; simp)) (fun i hi N hN=>?_)
 obtain ⟨hi,hall⟩:=hi
 unfold Zjn
 by_cases hin:i<x.length
 ·have gx:=Zag hin
  have gc:=Zjm gx
  have hmem:=List.mem_of_getElem? gx
  have hq:=Xcb (hx _ hmem).1 (hx _ hmem).2
  have tk:x.take (i+1)=x.take i ++ [rget x i]:=by rw [List.take_add_one,gx]; rfl
  have q0:(0:Int)≤(i:Int):=by omega
  have q1:(i:Int)<(x.length:Int):=by omega
  have e1:IntKind.i64.wrap ((i:Int)+1)=((i+1:Nat):Int):=by rw [Zac (by omega) (by omega)]; omega
  have l1:(ss (x.take i)).length=i:=by rw [Yly,List.length_take]; omega
  have l2:(ss (x.take i)).take i=ss (x.take i):=List.take_of_length_le (by omega)
  have s1:(i+1)*16≤1099511627776:=by omega
  have ql:(qcell (rget x i)).length=4:=rfl
  have qt:(qcell (rget x i)).take 4=qcell (rget x i):=rfl
  have qd:(qcell (rget x i)).drop 4 = []:=rfl
  simp only [go_sem,Zj1,Zvm,Zs8,q0,q1,gc,ql,qt,qd]
  refine Zaa hq (by simp only [go_sem,Zcv,Zaq]) ?_
  by_cases hok:NumOk (rget x i)
  ·rw [if_pos hok]
   simp only [go_sem,Zkz,Ztv,Zrc,e1,l1,l2,s1]
   refine ⟨Nat.le_refl _,hN (i+1) _ ⟨by omega,?_⟩ (by omega) ?_⟩
   ·rw [tk]; intro q hq
    rcases List.mem_append.1 hq with h | h
    ·exact hall q h
    ·rw [List.mem_singleton.1 h]; exact hok
   ·refine Zcj (Zjv [3] (by decide) (fun i hi=>by omega) [(4,.osl none 3 0 (i+1)),(9,.sl (condsR x)),(10,.int .i64 (x.length:Int)),(11,.int .i64 ((i+1:Nat):Int))] (by simp only [go_sem])) ?_
    have hss:ss (x.take (i+1))=ss (x.take i) ++ [.str (bs (numS (rget x i)))]:=by rw [tk]; unfold ss; rw [List.map_append]; rfl
    show St.mk _ [Blk.cells (gcL _ (ss (x.take i) ++ [.str (bs (numS (rget x i)))]))]=_
    rw [← hss,Xhc]
    rfl
  ·rw [if_neg hok]
   have h4:¬ (4:Int)=0:=by decide
   simp only [go_sem,Zkz,Ztl,h4]
   exact hK0 (fun h=>hok (h _ hmem)) _ _ (by simp only [go_sem]) (by simp only [go_sem])
 ·have hie:i=x.length:=by omega
  subst hie
  have q1:¬ ((x.length:Nat):Int)<(x.length:Int):=by omega
  rw [List.take_length] at hall ⊢
  simp only [go_sem,Zj1,q1]
  exact hK hall _ (by simp only [go_sem])
theorem Yzk {x:List Rat}(hx:∀ q,q∈x→Tx q.num.natAbs∧Tx q.den) (hl:x.length≤1000000):SpecV Tryz.prog Yhq [.sl (condsR x)] (numsR x):=by
 refine Zbh Yfe (by simp) (Zcx 1 rfl ?_)
 unfold Z72
 simp only [go_sem,Zta,Zwk]
 refine T_le (Zik 4 none (by simp only [go_sem]) [(0,.sl (condsR x)),(2,.nils),(3,.int .i64 0)] (by simp only [go_sem])) ?_
 refine T_W ?_
 simp only [go_sem,Zwl,Z6o]
 refine Zas [(4,.osl none 0 0 0),(9,.sl (condsR x)),(10,.int .i64 (x.length:Int)),(11,.int .i64 0)] (by simp only [go_sem]) ?_
 refine Xay hx hl (fun hall e e4=>?_) (fun hall e H e2 e3=>?_)
 ·simp only [go_sem,Zrm,e4,numsR,if_pos hall]
  exact Xgp rfl (by simp [allOf])
 ·simp only [go_sem,e2,e3,numsR,if_neg hall]
end GoAbs
