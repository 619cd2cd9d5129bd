/- Lemmas for the claim (contracts of the functions that it reaches, and what they compute), without conditions. -/
import Derived.Test.YtnpgooaiiboanaaGreatK31
set_option linter.unusedVariables false
set_option linter.unusedSimpArgs false
set_option maxRecDepth 10000
set_option maxHeartbeats 2000000
namespace GoAbs
open Go Go.Proofs
theorem Opens.mono {P:Program}{t:TypeId}{S S':List AV→Prop}(h:Opens P t S) (hs:∀ av,S av→S' av):Opens P t S':=fun enc w base spare held fuel cs x hx=>by
 obtain ⟨av,h1,h2⟩:=h enc w base spare held fuel cs x hx
 exact ⟨av,h1,hs av h2⟩
theorem opensSpr:Opens Tryz.prog 42 (fun av=>∃ s:Spr,av=sC s):=by
 refine Opens.mono (Yhr (n:=3) Tryz.underlying42 (by kernel_rfl) (Ze0 (off:=0) (k:=1) rfl (by kernel_rfl) (by omega) (Zss Tryz.underlying3) (Ze0 (off:=1) (k:=1) rfl (by kernel_rfl) (by omega) (Zss Tryz.underlying3) (Ze0 (off:=2) (k:=1) rfl (by kernel_rfl) (by omega) (Y0s Tryz.underlying26) Z6z)))) ?_
 rintro av ⟨a,b,rfl,_,⟨n,rfl,_⟩,c,d,rfl,_,⟨m,rfl,_⟩,e,f,rfl,_,⟨s,rfl,_⟩,rfl⟩
 obtain ⟨l,rfl⟩:=Xgu s
 exact ⟨(n,m,l),rfl⟩
theorem opensSprs:Opens Tryz.prog 22 (fun av=>∃ L:List Spr,av = [.sl (L.map sprAV)]):=by
 refine Opens.mono (Y2k (n:=3) Tryz.underlying22 (by kernel_rfl) (by omega) opensSpr) ?_
 rintro av ⟨l,rfl,h⟩
 have:∀ l:List (List AV),(∀ c,c∈l→c.length=3∧∃ s:Spr,c=sC s)→∃ L:List Spr,l.map AV.agg=L.map sprAV:=by
  intro l
  induction l with
  | nil=>intro _; exact ⟨[],rfl⟩
  | cons c l ih =>
   intro h
   obtain ⟨L,hL⟩:=ih (fun d hd=>h d (by simp [hd]))
   obtain ⟨_,s,hs⟩:=h c (by simp)
   exact ⟨s::L,by rw [List.map_cons,List.map_cons,hL,hs]; rfl⟩
 obtain ⟨L,hL⟩:=this l h
 exact ⟨L,by rw [hL]⟩
theorem opensNet:Opens Tryz.prog 24 (fun av=>∃ (n:Int) (L:List Spr),av = [.int .i64 n,.sl (L.map sprAV)]):=by
 refine Opens.mono (Yhr (n:=2) Tryz.underlying24 (by kernel_rfl) (Ze0 (off:=0) (k:=1) rfl (by kernel_rfl) (by omega) (Zss Tryz.underlying3) (Ze0 (off:=1) (k:=1) rfl (by kernel_rfl) (by omega) opensSprs Z6z))) ?_
 rintro av ⟨a,b,rfl,_,⟨n,rfl,_⟩,c,d,rfl,_,⟨L,rfl⟩,rfl⟩
 exact ⟨n,L,rfl⟩
theorem Ytw {P:Program}{f:Nat}{xs:List AV}{vs:Array Value}{w:World}(h:SpecV P f xs (.bool true)) (hr:Reps w noX noPl xs vs):Calls P f vs w fun e w'=>e = .returned (.bool true)∧Go.RowKit.Below w.heap.size w w' :=
 (h.2 noX w vs (fun _ hb=>hb.elim) hr).mono fun e w' he=>by
  obtain ⟨v,rfl,hv,hb⟩:=he
  cases hv
  exact ⟨rfl,hb⟩
theorem opensEnds:Opens Tryz.prog 52 (fun av=>∃ (a b:Int),av = [.int .i64 a,.int .i64 b]∧(Lit.int .i64 a).wf=true∧(Lit.int .i64 b).wf=true):=by
 refine Opens.mono (Yhr (n:=2) Tryz.underlying52 (by kernel_rfl) (Ze0 (off:=0) (k:=1) rfl (by kernel_rfl) (by omega) (Zss Tryz.underlying3) (Ze0 (off:=1) (k:=1) rfl (by kernel_rfl) (by omega) (Zss Tryz.underlying3) Z6z))) ?_
 rintro av ⟨a,b,rfl,_,⟨n,rfl,w1⟩,c,d,rfl,_,⟨m,rfl,w2⟩,rfl⟩
 exact ⟨n,m,rfl,w1,w2⟩
theorem Ylo {w:World}{x:AV}{xs:List AV}{v:Value}{l:List Value}(h:Rep w noX noPl x v) (k:Reps w noX noPl xs l.toArray):Reps w noX noPl (x::xs) (v::l).toArray:=by
 refine ⟨by have:=k.1; simp at this ⊢; exact this,fun i y u hy hu=>?_⟩
 cases i with
 | zero=>simp at hy hu; subst hy hu; exact h
 | succ i=>exact k.2 i y u (by simpa using hy) (by simpa using hu)
theorem reps2 {w:World}{x y:AV}{v u:Value}(h:Rep w noX noPl x v) (k:Rep w noX noPl y u):Reps w noX noPl [x,y] #[v,u]:=Ylo h (Ylo (l := []) k ⟨rfl,fun i z t hz=>by simp at hz⟩)
end GoAbs
namespace GoAbs
theorem Zf2 {r:List Rat}{j c:Nat}{x:Rat}(hc:c<r.length):rget (r.set c x) j=if j=c then x else rget r j:=by
 unfold rget
 rw [List.getD_eq_getElem?_getD,List.getD_eq_getElem?_getD,List.getElem?_set]
 by_cases h:c=j
 ·subst h; simp [hc]
 ·rw [if_neg h,if_neg (fun e=>h e.symm)]
theorem Y4t {M:RM}{i a:Nat}{r:List Rat}(ha:a<M.length):(M.set a r).getD i []=if i=a then r else M.getD i []:=by
 rw [List.getD_eq_getElem?_getD,List.getD_eq_getElem?_getD,List.getElem?_set]
 by_cases h:a=i
 ·subst h; simp [ha]
 ·rw [if_neg h,if_neg (fun e=>h e.symm)]
theorem Z6f {M:RM}{w a c i j:Nat}{x:Rat}(hW:Wid w M) (ha:a<M.length) (hc:c<w):mget (addAt M a c x) i j=mget M i j+if i=a∧j=c then x else 0:=by
 unfold addAt
 show rget ((M.set a _).getD i []) j=_
 rw [Y4t ha]
 by_cases h1:i=a
 ·subst h1
  rw [if_pos rfl,Zf2 (by rw [hW.get ha]; exact hc)]
  by_cases h2:j=c
  ·subst h2; rw [if_pos rfl,if_pos ⟨rfl,rfl⟩]
  ·rw [if_neg h2,if_neg (fun h=>h2 h.2)]
   show mget M i j=_
   grind
 ·rw [if_neg h1,if_neg (fun h=>h1 h.1)]
  show mget M i j=_
  grind
theorem Ynk {M:RM}{m a b i j:Nat}{x:Rat}(hW:Wid m M) (hM:M.length=m) (ha:a≤m) (hb:b≤m) :
  mget (half M a b x) i j=mget M i j+(if i+1=a∧j+1=a then x else 0)+(if i+1=a∧j+1=b then -x else 0):=by
 unfold half
 by_cases h1:a=0
 ·rw [if_pos h1,if_neg (by omega),if_neg (by omega)]; grind
 ·rw [if_neg h1]
  have e1:(i=a - 1∧j=a - 1)↔(i+1=a∧j+1=a):=by omega
  by_cases h2:b=0
  ·rw [if_pos h2,Z6f hW (by omega) (by omega),if_neg (show ¬ (i+1=a∧j+1=b) by omega)]
   simp only [e1]; grind
  ·have e2:(i=a - 1∧j=b - 1)↔(i+1=a∧j+1=b):=by omega
   rw [if_neg h2,Z6f hW.addAt (by rw [Zwc]; omega) (by omega),Z6f hW (by omega) (by omega)]
   simp only [e1,e2]
theorem Yyf {M:RM}{m a b i j:Nat}{x:Rat}(hW:Wid m M) (hM:M.length=m) (ha:a≤m) (hb:b≤m) (hab:a≠b) :
  mget (edgeM M (a,b,x)) i j=mget M i j+x*(edge a b (i+1)*edge a b (j+1)):=by
 unfold edgeM
 rw [Ynk hW.half (by rw [Zjf,hM]) hb ha,Ynk hW hM ha hb]
 unfold edge
 by_cases h1:i+1=a <;> by_cases h2:i+1=b <;> by_cases h3:j+1=a <;> by_cases h4:j+1=b <;> simp [h1,h2,h3,h4,hab] <;> grind
theorem Ym9 {m:Nat}:∀ {E:List Sp}{M:RM},Wid m M→M.length=m→(∀ e,e∈E→e.1≤m∧e.2.1≤m∧e.1≠e.2.1)→∀ i j,mget (E.foldl edgeM M) i j=mget M i j+Lm id E (i+1) (j+1)
 | [],M,_,_,_,i,j=>by show mget M i j=mget M i j+0; grind
 | (a,b,x)::E,M,hW,hM,hE,i,j=>by
  obtain ⟨h1,h2,h3⟩:=hE (a,b,x) (by simp)
  rw [List.foldl_cons,Ym9 hW.edge (by rw [Ydo,hM]) (fun e he=>hE e (by simp [he])),Yyf hW hM h1 h2 h3]
  have hL:Lm id ((a,b,x)::E) (i+1) (j+1)=Lm id E (i+1) (j+1)+x*(edge a b (i+1)*edge a b (j+1)):=rfl
  rw [hL]
  grind
theorem Y0g {m i j:Nat}:mget (List.replicate m (List.replicate m (0:Rat))) i j=0:=by
 unfold mget rget
 rw [List.getD_eq_getElem?_getD,List.getD_eq_getElem?_getD,List.getElem?_replicate]
 by_cases h:i<m
 ·rw [if_pos h]
  simp only [Option.getD_some,List.getElem?_replicate]
  split <;> rfl
 ·rw [if_neg h]; simp
theorem Z5r {m:Nat}{E:List Sp}(hE:∀ e,e∈E→e.1≤m∧e.2.1≤m∧e.1≠e.2.1) (i j:Nat):mget (lapl m E) i j=Lm id E (i+1) (j+1):=by
 unfold lapl
 rw [Ym9 (fun r hr=>by rw [(List.mem_replicate.1 hr).2]; simp) (by simp) hE,Y0g]
 grind
theorem Zdl {m:Nat}{E:List Sp}:Wid m (lapl m E)∧(lapl m E).length=m:=by
 unfold lapl
 have main:∀ (E:List Sp) (M:RM),Wid m M→M.length=m→Wid m (E.foldl edgeM M)∧(E.foldl edgeM M).length=m:=by
  intro E
  induction E with
  | nil=>intro M h1 h2; exact ⟨h1,h2⟩
  | cons e E ih=>intro M h1 h2; exact ih _ h1.edge (by rw [Ydo,h2])
 exact main _ _ (fun r hr=>by rw [(List.mem_replicate.1 hr).2]; simp) (by simp)
theorem Yd4 {m k:Nat}{E:List Sp}(hE:∀ e,e∈E→Qb k e.2.2) (hk:1≤k):Mb (k+E.length*(4*(k+1))) (lapl m E):=by
 have main:∀ (E:List Sp) (M:RM) (l:Nat),(∀ e,e∈E→Qb k e.2.2)→1≤l→Mb l M→Mb (l+E.length*(4*(k+1))) (E.foldl edgeM M):=by
  intro E
  induction E with
  | nil=>intro M l _ _ h; simpa using h
  | cons e E ih =>
   intro M l h1 h2 h3
   refine (ih _ _ (fun x hx=>h1 x (by simp [hx])) (by omega) (h3.edge (h1 e (by simp)) h2)).mono ?_
   rw [List.length_cons,Nat.add_mul]; omega
 exact main E _ k hE hk (fun r hr x hx=>by
  rw [(List.mem_replicate.1 hr).2] at hx
  rw [(List.mem_replicate.1 hx).2]
  exact Qb.zero hk)
theorem Z5f {M:RM}{w c i j:Nat}(hW:Wid w M) (hi:i<M.length) (hj:j<w) (hci:c<i) (hcj:c≤j) (hp:mget M c c≠0):mget (elimCol M c M.length) i j=mget M i j - mget M i c*mget M c j / mget M c c:=by
 unfold mget
 rw [List.getD_eq_getElem?_getD (l:=elimCol M c M.length),Ze2 hi,if_pos ⟨hci,hi⟩]
 simp only [Option.getD_some]
 unfold elimRow
 have hl:=hW.get hi
 split
 ·rename_i h0
  rw [h0]
  grind
 ·show (elimTo _ _ _ _ _).getD j 0=_
  rw [List.getD_eq_getElem?_getD,Zg7 (by rw [hl]; exact hj),if_pos ⟨hcj,by rw [hl]; exact hj⟩]
  simp only [Option.getD_some]
  unfold mget at hp
  grind
theorem Y8c {m:Nat}:∀ {k c:Nat}{M:RM}{A:Mat}{d:Rat},c+k=m→M.length=m→Wid m M→Psd (List.range' (c+1) k) A→(∀ i j,c≤i→i<m→c≤j→j<m→mget M i j=A (i+1) (j+1)) →
  (tri k c M d).1=d*dt (List.range' (c+1) k) A∧NoSw k c M
 | 0,c,M,A,d,_,_,_,_,_=>⟨by show d=d*1; grind,trivial⟩
 | k+1,c,M,A,d,hk,hM,hW,hA,hg=>by
  have hr:c+1 ∉ List.range' (c+1+1) k:=by rw [List.mem_range'_1]; omega
  rw [List.range'_succ] at hA ⊢
  have hp:=hg c c (by omega) (by omega) (by omega) (by omega)
  unfold tri NoSw dt
  by_cases h0:mget M c c=0
  ·rw [if_pos h0]
   have h0':A (c+1) (c+1)=0:=by rw [← hp]; exact h0
   refine ⟨by rw [h0']; show (0:Rat)=_; grind,fun _ i hi hil=>?_,fun h=>absurd h0 h⟩
   rcases Nat.lt_or_ge c i with hci | hci
   ·rw [hg i c (by omega) (by omega) (by omega) (by omega),hA.sym]
    exact hA.zero hr h0' (i+1) (by rw [List.mem_range'_1]; omega)
   ·have:i=c:=by omega
    rw [this]; exact h0
  ·rw [if_neg h0]
   have h0':A (c+1) (c+1)≠0:=by rw [← hp]; exact h0
   have ih:=Y8c (k:=k) (c:=c+1) (M:=elimCol M c M.length) (A:=schur (c+1) A) (d:=d*mget M c c) (by omega) (by rw [Zax,hM]) hW.elim (hA.schur hr) (fun i j hi hil hj hjl=>by
    rw [Z5f hW (by omega) (by omega) (by omega) (by omega) h0,hg i j (by omega) hil (by omega) hjl,hg i c (by omega) hil (by omega) (by omega),hg c j (by omega) (by omega) (by omega) hjl,hp]
    rfl)
   refine ⟨?_,fun h=>absurd h h0,fun _=>ih.2⟩
   rw [ih.1,hp]; grind
theorem Yze {m:Nat}{E:List Sp}(hE:∀ e,e∈E→e.1≤m∧e.2.1≤m∧e.1≠e.2.1∧0≤e.2.2):(tri m 0 (lapl m E) 1).1=Fsum (m+1) id m E∧NoSw m 0 (lapl m E):=by
 have hpos:Pos E:=fun e he=>(hE e he).2.2.2
 obtain ⟨h1,h2⟩:=Y8c (k:=m) (c:=0) (M:=lapl m E) (A:=Lm id E) (d:=1) (by omega) Zdl.2 Zdl.1 (Zvj hpos) (fun i j _ _ _ _=>Z5r (fun e he=>⟨(hE e he).1,(hE e he).2.1,(hE e he).2.2.1⟩) i j)
 refine ⟨?_,h2⟩
 have h3:=Zpw (n:=m+1) (l:=E) (p:=id) (g:=0) (R:=List.range' 1 m) hpos (fun e he=>⟨by have:=(hE e he).1; omega,by have:=(hE e he).2.1; omega⟩)
  ⟨by rw [List.nodup_cons]; exact ⟨by rw [List.mem_range'_1]; omega,List.nodup_range'⟩,fun i hi=>by
   rcases Nat.eq_zero_or_pos i with h | h
   ·exact .inl h
   ·exact .inr (by rw [List.mem_range'_1]; simp only [id]; omega),fun x hx=>by
   refine ⟨x,?_,rfl⟩
   rcases List.mem_cons.1 hx with h | h
   ·omega
   ·rw [List.mem_range'_1] at h; omega⟩
 rw [List.length_range'] at h3
 rw [h1,h3]; grind
end GoAbs
namespace GoAbs
open Go Go.Proofs
theorem Ytd {w:Nat}:∀ {k c l:Nat}{M:RM}{d:Rat},c+k≤M.length→M.length≤w→Wid w M→Mb l M→Qb l d→1≤l→Qb (9 ^ k*l) (tri k c M d).1
 | 0,c,l,M,d,_,_,_,_,hd,_=>by simpa [tri] using hd
 | k+1,c,l,M,d,hc,hw,hW,hM,hd,hl=>by
  unfold tri
  split
  ·exact Qb.zero (Nat.mul_pos (Nat.pow_pos (by omega)) hl)
  ·rename_i h0
   have h1:=(hM.elim hW (I:=M.length) (by omega) (show c<w by omega) h0).mono (show 8*l+1≤9*l by omega)
   have h2:=(hd.mul ((hM.get (i:=c) (by omega)).get (j:=c) (by rw [hW.get (by omega)]; omega))).mono (show 2*l≤9*l by omega)
   have:=Ytd (k:=k) (c:=c+1) (by rw [Zax]; omega) (by rw [Zax]; exact hw) hW.elim h1 h2 (by omega)
   rw [Nat.pow_succ,Nat.mul_assoc]
   exact this
structure NetOk (n:Nat) (E:List Sp):Prop where
 n2:2≤n
 e:∀ e,e∈E→e.1<n∧e.2.1<n∧e.1≠e.2.1∧0<e.2.2∧Fitd 20 e.2.2
theorem Ynv {n:Int}{L:List Spr}(hL:L.length≤40) (hn:n≤6) (hl:∀ s,s∈L→s.2.2.length≤1000000000) (h:readR n L = .tup [.agg (netC n.toNat (L.map toE)),.int .i64 0]) (ho:NetOk n.toNat (L.map toE)) :
  SpecV Tryz.prog Zye [.int .i64 n,.sl (L.map sprAV)] (if NumOk (Fsum n.toNat id (n.toNat - 1) (L.map toE)) then .tup [.str (bs (numS (Fsum n.toNat id (n.toNat - 1) (L.map toE)))),.int .i64 0] else .tup [.str (bs []),.int .i64 4]):=by
 obtain ⟨m,hm⟩:∃ m,n.toNat=m+1:=⟨n.toNat - 1,by have:=ho.n2; omega⟩
 have hm1:n.toNat - 1=m:=by omega
 generalize hE:L.map toE=E at *
 have hEl:E.length≤40:=by rw [← hE,List.length_map]; exact hL
 have hdt:=Yze (m:=m) (E:=E) (fun e he=>⟨by have:=(ho.e e he).1; omega,by have:=(ho.e e he).2.1; omega,(ho.e e he).2.2.1,Rat.le_of_lt (ho.e e he).2.2.2.1⟩)
 rw [hm1,hm]
 generalize hq:Fsum (m+1) id m E=q at *
 have hK:67+E.length*(4*(67+1))≤10947:=by omega
 have hMb:Mb 10947 (lapl m E):=(Yd4 (fun e he=>(ho.e e he).2.2.2.2.bits) (by omega)).mono hK
 have h9:9 ^ m*10947≤100000000000:=Nat.le_trans (Nat.mul_le_mul_right _ (Nat.pow_le_pow_right (by omega) (show m≤5 by omega))) (by decide)
 have hqb:Qb (9 ^ m*10947) q:=by
  rw [← hdt.1]
  exact Ytd (by rw [Zdl.2]; omega) (by rw [Zdl.2]; exact Nat.le_refl _) Zdl.1 hMb (Qb.one (by omega)) (by omega)
 refine Zad Ybo (by simp) ?_
 unfold Z37
 have hs:=Zhy (n:=n) (by omega) hl
 rw [h] at hs
 simp only [go_sem,Zq1,Zrt]
 refine Zaa hs (by simp only [go_sem]) ?_
 have hcl:(netC n.toNat E).length=3:=rfl
 have hct:(netC n.toNat E).take 3=netC n.toNat E:=rfl
 have hcd:(netC n.toNat E).drop 3 = []:=rfl
 simp only [go_sem,Zro,Zra,hcl,hct,hcd]
 have hgc:∀ f,gcL f (netC n.toNat E)=netC n.toNat E:=fun f=>rfl
 have hnet:=Zj0 (H := [.cells (netC n.toNat E)]) (Yrm (n:=n.toNat) (k:=67) (E:=E) ho.n2 (by omega) (fun e he=>⟨(ho.e e he).1,(ho.e e he).2.1,(ho.e e he).2.2.2.2.bits⟩) (by omega) (by omega) (by omega)) (by unfold netC; simp only [go_sem])
 obtain ⟨pre,hpre⟩:∃ pre:Heap,pre = [.cells (netC n.toNat E),.cells (netC n.toNat E)]:=⟨_,rfl⟩
 have hh : [Blk.cells (netC n.toNat E)]++([Blk.cells (netC n.toNat E)]++matH 1 (n.toNat - 1) (lapl (n.toNat - 1) E)).map (Blk.gc (fun i=>some (i + [Blk.cells (netC n.toNat E)].length)))=pre++matH 2 m (lapl m E):=by
  rw [List.map_append,hpre,hm1]
  show [Blk.cells (netC n.toNat E)]++([Blk.cells (gcL _ (netC n.toNat E))]++(matH 1 m (lapl m E)).map (Blk.gc (fun i=>some (i+1))))=_
  rw [hgc,Yos]; rfl
 rw [hh] at hnet
 refine Zrs hnet ?_
 have e1:(AV.osl none 1 0 (n.toNat - 1)).gc (fun i=>some (i + [Blk.cells (netC n.toNat E)].length)) = .osl none 2 0 m:=by rw [hm1]; rfl
 rw [e1]
 simp only [go_sem]
 refine Zrs (Y5b (pre:=pre) (o:=2) (w:=m) (n:=m) (k:=10947) (by rw [hpre]; rfl) Zdl.2 (by omega) (by omega) (Nat.le_refl _) Zdl.1 hMb (by omega) h9 hdt.2 (fun m' _=>by rw [hpre]; rfl)) ?_
 rw [hdt.1]
 simp only [go_sem]
 refine Zaa (Xcb (q:=q) (Zv0 hqb.n (by omega)) (Zv0 hqb.d (by omega))) (by simp only [go_sem,Zcv,Zaq]) ?_
 by_cases hok:NumOk q
 ·simp only [if_pos hok,go_sem]
 ·simp only [if_neg hok,go_sem]
end GoAbs
namespace GoAbs
def Ker (n:Nat) (p q:Nat→Nat):Prop:=∀ i j,i<n→j<n→(p i=p j↔q i=q j)
theorem Ker.tie {n:Nat}{p q:Nat→Nat}(h:Ker n p q) {s:MSp}(h1:s.1<n) (h2:s.2.1<n):Ker n (tieP s p) (tieP s q):=fun i j hi hj=>by
 have a1:=h i j hi hj
 have a2:=h i s.1 hi h1
 have a3:=h j s.1 hj h1
 have a4:=h i s.2.1 hi h2
 have a5:=h j s.2.1 hj h2
 have a6:=h s.1 s.2.1 h1 h2
 unfold tieP mrg
 by_cases c1:p i=p s.1 <;> by_cases c2:p j=p s.1
 ·rw [if_pos c1,if_pos c2,if_pos (a2.1 c1),if_pos (a3.1 c2)]; exact ⟨fun _=>rfl,fun _=>rfl⟩
 ·rw [if_pos c1,if_neg c2,if_pos (a2.1 c1),if_neg (fun e=>c2 (a3.2 e))]
  exact ⟨fun e=>(a5.1 e.symm).symm,fun e=>(a5.2 e.symm).symm⟩
 ·rw [if_neg c1,if_pos c2,if_neg (fun e=>c1 (a2.2 e)),if_pos (a3.1 c2)]; exact a4
 ·rw [if_neg c1,if_neg c2,if_neg (fun e=>c1 (a2.2 e)),if_neg (fun e=>c2 (a3.2 e))]; exact a1
theorem Ker.one {n:Nat}{p q:Nat→Nat}(h:Ker n p q):allOne n p=allOne n q:=by
 unfold allOne
 by_cases hn:n=0
 ·rw [if_pos (fun i hi=>by omega),if_pos (fun i hi=>by omega)]
 ·have:(∀ i,i<n→p i=p 0)↔(∀ i,i<n→q i=q 0) :=
   ⟨fun k i hi=>(h i 0 hi (by omega)).1 (k i hi),fun k i hi=>(h i 0 hi (by omega)).2 (k i hi)⟩
  by_cases c:∀ i,i<n→p i=p 0
  ·rw [if_pos c,if_pos (this.1 c)]
  ·rw [if_neg c,if_neg (fun e=>c (this.2 e))]
def InN (n:Nat) (l:List MSp):Prop:=∀ s,s∈l→s.1<n∧s.2.1<n
theorem Yav {n:Nat}:∀ {l:List MSp}{k:Nat}{p q:Nat→Nat},InN n l→Ker n p q→FG (allOne n) p k l=FG (allOne n) q k l
 | l,0,p,q,_,h=>by rw [Zih,Zih,h.one]
 | [],k+1,p,q,_,h=>by rw [Zzv,Zzv]
 | s::l,k+1,p,q,hl,h=>by
  have hl':InN n l:=fun t ht=>hl t (by simp [ht])
  have hs:=hl s (by simp)
  rw [Zg3,Zg3,Yav hl' h,Yav hl' (h.tie hs.1 hs.2)]
theorem Y62 {n:Nat}{p:Nat→Nat}{s t:MSp}:Ker n (tieP s (tieP t p)) (tieP t (tieP s p)):=fun i j _ _=>by
 unfold tieP mrg
 generalize p i=a
 generalize p j=b
 generalize p s.1=x
 generalize p s.2.1=y
 generalize p t.1=u
 generalize p t.2.1=v
 grind
theorem Ytg {n:Nat}{s:MSp}(hs:s.1<n∧s.2.1<n):∀ {l:List MSp}{k:Nat}{p:Nat→Nat},InN n l→FG (fun q=>allOne n (tieP s q)) p k l=FG (allOne n) (tieP s p) k l
 | l,0,p,_=>by rw [Zih,Zih]
 | [],k+1,p,_=>by rw [Zzv,Zzv]
 | t::l,k+1,p,hl=>by
  have hl':InN n l:=fun u hu=>hl u (by simp [hu])
  rw [Zg3,Zg3,Ytg hs hl',Ytg hs hl',Yav hl' Y62]
def nameE (φ:Nat→Nat) (s:MSp):MSp:=(φ s.1,φ s.2.1,s.2.2)
theorem Ypv {n n':Nat}{φ:Nat→Nat}(hn:0<n) (hn':0<n') (hφ:∀ i,i<n→φ i<n') (ho:∀ j,j<n'→∃ i,i<n∧φ i=j):∀ {l:List MSp}{k:Nat}{q:Nat→Nat},FG (allOne n) (fun i=>q (φ i)) k l=FG (allOne n') q k (l.map (nameE φ))
 | l,0,q=>by
  rw [Zih,Zih]
  unfold allOne
  have:(∀ i,i<n→q (φ i)=q (φ 0))↔∀ j,j<n'→q j=q 0:=by
   constructor
   ·intro h j hj
    obtain ⟨i,hi,rfl⟩:=ho j hj
    obtain ⟨z,hz,hz'⟩:=ho 0 hn'
    rw [h i hi, ← h z hz,hz']
   ·intro h i hi
    rw [h _ (hφ i hi),h _ (hφ 0 hn)]
  by_cases c:∀ i,i<n→q (φ i)=q (φ 0)
  ·rw [if_pos c,if_pos (this.1 c)]
  ·rw [if_neg c,if_neg (fun e=>c (this.2 e))]
 | [],k+1,q=>by rw [List.map_nil,Zzv,Zzv]
 | s::l,k+1,q=>by
  rw [List.map_cons,Zg3,Zg3,Ypv hn hn' hφ ho]
  have:tieP s (fun i=>q (φ i))=fun i=>(tieP (nameE φ s) q) (φ i):=rfl
  rw [this,Ypv hn hn' hφ ho]
  rfl
theorem Yh3 {p:Nat→Nat}:∀ {l:List MSp},Lm p l=Lm p (l.filter fun s=>decide (p s.1≠p s.2.1))
 | []=>rfl
 | s::l=>by
  by_cases h:p s.1=p s.2.1
  ·rw [List.filter_cons_of_neg (by simp [h])]
   show up1 (Lm p l) s.2.2 (edge (p s.1) (p s.2.1))=_
   rw [h,Yeg,Yrd]
   exact Yh3
  ·rw [List.filter_cons_of_pos (by simp [h])]
   show up1 (Lm p l) s.2.2 (edge (p s.1) (p s.2.1))=up1 (Lm p _) s.2.2 (edge (p s.1) (p s.2.1))
   rw [Yh3 (l:=l)]
theorem Yl0 {n:Nat}(hn:0<n):Lab n id 0 (List.range' 1 (n - 1)):=by
 refine ⟨by rw [List.nodup_cons]; exact ⟨by rw [List.mem_range'_1]; omega,List.nodup_range'⟩,fun i hi=>?_,fun x hx=>?_⟩
 ·rcases Nat.eq_zero_or_pos i with h | h
  ·exact .inl h
  ·exact .inr (by rw [List.mem_range'_1]; simp only [id]; omega)
 ·refine ⟨x,?_,rfl⟩
  rcases List.mem_cons.1 hx with h | h
  ·omega
  ·rw [List.mem_range'_1] at h; omega
theorem Ywd {n:Nat}{l:List MSp}(hn:0<n) (hp:Pos l) (hl:InN n l):Fsum n id (n - 1) l=Fsum n id (n - 1) (l.filter fun s=>decide (s.1≠s.2.1)):=by
 have h1:=Zpw hp hl (Yl0 hn)
 have h2:=Zpw (l:=l.filter fun s=>decide (s.1≠s.2.1)) (fun s hs=>hp s (List.mem_filter.1 hs).1) (fun s hs=>hl s (List.mem_filter.1 hs).1) (Yl0 hn)
 rw [List.length_range'] at h1 h2
 rw [h1,h2,Yh3 (p:=id) (l:=l)]
 rfl
def oneN (low high i:Nat):Nat:=if i=high then low else if high<i then i - 1 else i
def oneL (low high:Nat) (l:List MSp):List MSp:=(l.map (nameE (oneN low high))).filter fun s=>decide (s.1≠s.2.1)
theorem Y7t {n low high:Nat}(h:low<high) (a b:Nat) (hab:(a=low∧b=high)∨(a=high∧b=low)) (w:Rat):Ker n (tieP (a,b,w) id) (oneN low high):=fun i j _ _=>by
 unfold tieP mrg oneN
 simp only [id]
 rcases hab with ⟨rfl,rfl⟩ | ⟨rfl,rfl⟩
 ·(repeat' split) <;> omega
 ·(repeat' split) <;> omega
theorem Y5s {n low high:Nat}{l:List MSp}{a b:Nat}{w:Rat}(hn:2≤n) (h:low<high) (hh:high<n) (hab:(a=low∧b=high)∨(a=high∧b=low)) (hp:Pos l) (hl:InN n l) (hw:0≤w) :
  Fsum n id (n - 1) (l ++ [(a,b,w)])=Fsum n id (n - 1) l+w*Fsum (n - 1) id (n - 2) (oneL low high l):=by
 have han:a<n∧b<n:=by omega
 obtain ⟨k,rfl⟩:∃ k,n=k+2:=⟨n - 2,by omega⟩
 have e1:k+2 - 1=k+1:=rfl
 have e2:k+2 - 2=k:=rfl
 rw [e1,e2,Zvn,Yeh, ← Zvn,Ytg han hl,Yav hl (Y7t (n:=k+2) h a b hab w)]
 have hφ:∀ i,i<k+2→oneN low high i<k+1:=fun i hi=>by
  unfold oneN; split
  ·omega
  ·split <;> omega
 have ho:∀ j,j<k+1→∃ i,i<k+2∧oneN low high i=j:=fun j hj=>by
  by_cases hj':j<high
  ·exact ⟨j,by omega,by unfold oneN; rw [if_neg (by omega),if_neg (by omega)]⟩
  ·exact ⟨j+1,by omega,by unfold oneN; rw [if_neg (by omega),if_pos (by omega)]; omega⟩
 have hname:=Ypv (n:=k+2) (n':=k+1) (φ:=oneN low high) (by omega) (by omega) hφ ho (l:=l) (k:=k) (q:=id)
 have hid:(fun i=>id (oneN low high i))=oneN low high:=rfl
 rw [hid] at hname
 rw [hname, ← Zvn]
 have hl2:=Ywd (n:=k+1) (l:=l.map (nameE (oneN low high))) (by omega) (fun s hs=>by
  obtain ⟨t,ht,rfl⟩:=List.mem_map.1 hs; exact hp t ht) (fun s hs=>by
  obtain ⟨t,ht,rfl⟩:=List.mem_map.1 hs
  exact ⟨hφ _ (hl t ht).1,hφ _ (hl t ht).2⟩)
 have e3:k+1 - 1=k:=rfl
 rw [e3] at hl2
 rw [hl2]
 rfl
end GoAbs
namespace GoAbs
open Go Go.Proofs
structure NetL (n:Nat) (L:List Spr):Prop where
 len:L.length≤40
 ok:∀ s,s∈L→EndsOk n s.1 s.2.1∧∃ q,parseL s.2.2=some q∧0<q∧q.num.natAbs≤1000000∧q.den≤1000000∧s.2.2.length≤8002
theorem NetL.read {n:Nat}{L:List Spr}(h:NetL n L) (h2:2≤n) (h6:n≤6):readR (n:Int) L = .tup [.agg (netC n (L.map toE)),.int .i64 0]∧NetOk n (L.map toE):=by
 have a1:(L.all fun s=>(parseL s.2.2).isSome)=true:=List.all_eq_true.2 fun s hs=>by
  obtain ⟨_,q,hq,_⟩:=h.ok s hs
  simp [hq]
 have fit:∀ q:Rat,q.num.natAbs≤1000000→q.den≤1000000→Fitd 20 q:=fun q g1 g2 =>
  ⟨Nat.le_trans (Zv8 (k:=7) (by omega) (by omega)) (by omega),Nat.le_trans (Zv8 (k:=7) (by omega) (by omega)) (by omega)⟩
 have a2:(decide (2≤(n:Int)∧(n:Int)≤10∧L.length≤40) && L.all (sprOk n))=true:=by
  rw [Bool.and_eq_true_iff]
  refine ⟨decide_eq_true ⟨by omega,by omega,h.len⟩,List.all_eq_true.2 fun s hs=>?_⟩
  obtain ⟨he,q,hq,q0,q1,q2,_⟩:=h.ok s hs
  unfold sprOk
  rw [hq,Bool.and_eq_true_iff]
  exact ⟨decide_eq_true he,decide_eq_true ⟨q0,fit q q1 q2⟩⟩
 refine ⟨by unfold readR; rw [a1,a2,Int.toNat_natCast]; rfl,h2,fun e he=>?_⟩
 obtain ⟨s,hs,rfl⟩:=List.mem_map.1 he
 obtain ⟨⟨k1,k2,k3,k4,k5⟩,q,hq,q0,q1,q2,_⟩:=h.ok s hs
 have h3:(toE s).2.2=q:=by simp [toE,hq]
 rw [h3]
 exact ⟨by show s.1.toNat<_; omega,by show s.2.1.toNat<_; omega,by show s.1.toNat≠s.2.1.toNat; omega,q0,fit q q1 q2⟩
end GoAbs
