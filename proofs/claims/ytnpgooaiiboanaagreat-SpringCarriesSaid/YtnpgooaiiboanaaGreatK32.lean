/- Lemmas for the claim (contracts of the functions that it reaches, and what they compute), without conditions. -/
import Derived.Test.YtnpgooaiiboanaaGreatK31
import Derived.Test.YtnpgooaiiboanaaGreatProg
import Derived.KernelRfl
set_option linter.unusedVariables false
set_option linter.unusedSimpArgs false
set_option maxRecDepth 10000
set_option maxHeartbeats 2000000
namespace GoAbs
open Go Go.Proofs
theorem Opens.mono {P:Program}{t:TypeId}{S S':List AV→Prop}(h:Opens P t S) (hs:∀ av,S av→S' av):Opens P t S':=fun enc w base spare held fuel cs x hx=>by
 obtain ⟨av,h1,h2⟩:=h enc w base spare held fuel cs x hx
 exact ⟨av,h1,hs av h2⟩
theorem opensSpr:Opens Tryz.prog 42 (fun av=>∃ s:Spr,av=sC s):=by
 refine Opens.mono (Yfw (n:=3) Tryz.underlying42 (by kernel_rfl) (Zes (off:=0) (k:=1) rfl (by kernel_rfl) (by omega) (Ztw Tryz.underlying3) (Zes (off:=1) (k:=1) rfl (by kernel_rfl) (by omega) (Ztw Tryz.underlying3) (Zes (off:=2) (k:=1) rfl (by kernel_rfl) (by omega) (Yia Tryz.underlying26) Z4s)))) ?_
 rintro av ⟨a,b,rfl,_,⟨n,rfl,_⟩,c,d,rfl,_,⟨m,rfl,_⟩,e,f,rfl,_,⟨s,rfl,_⟩,rfl⟩
 obtain ⟨l,rfl⟩:=Xak s
 exact ⟨(n,m,l),rfl⟩
theorem opensSprs:Opens Tryz.prog 22 (fun av=>∃ L:List Spr,av = [.sl (L.map sprAV)]):=by
 refine Opens.mono (Yvn (n:=3) Tryz.underlying22 (by kernel_rfl) (by omega) opensSpr) ?_
 rintro av ⟨l,rfl,h⟩
 have:∀ l:List (List AV),(∀ c,c∈l→c.length=3∧∃ s:Spr,c=sC s)→∃ L:List Spr,l.map AV.agg=L.map sprAV:=by
  intro l
  induction l with
  | nil=>intro _; exact ⟨[],rfl⟩
  | cons c l ih =>
   intro h
   obtain ⟨L,hL⟩:=ih (fun d hd=>h d (by simp [hd]))
   obtain ⟨_,s,hs⟩:=h c (by simp)
   exact ⟨s::L,by rw [List.map_cons,List.map_cons,hL,hs]; rfl⟩
 obtain ⟨L,hL⟩:=this l h
 exact ⟨L,by rw [hL]⟩
theorem opensNet:Opens Tryz.prog 24 (fun av=>∃ (n:Int) (L:List Spr),av = [.int .i64 n,.sl (L.map sprAV)]):=by
 refine Opens.mono (Yfw (n:=2) Tryz.underlying24 (by kernel_rfl) (Zes (off:=0) (k:=1) rfl (by kernel_rfl) (by omega) (Ztw Tryz.underlying3) (Zes (off:=1) (k:=1) rfl (by kernel_rfl) (by omega) opensSprs Z4s))) ?_
 rintro av ⟨a,b,rfl,_,⟨n,rfl,_⟩,c,d,rfl,_,⟨L,rfl⟩,rfl⟩
 exact ⟨n,L,rfl⟩
theorem Yp9 {P:Program}{f:Nat}{xs:List AV}{vs:Array Value}{w:World}(h:SpecV P f xs (.bool true)) (hr:Reps w noX noPl xs vs):Calls P f vs w fun e w'=>e = .returned (.bool true)∧Go.RowKit.Below w.heap.size w w' :=
 (h.2 noX w vs (fun _ hb=>hb.elim) hr).mono fun e w' he=>by
  obtain ⟨v,rfl,hv,hb⟩:=he
  cases hv
  exact ⟨rfl,hb⟩
theorem opensEnds:Opens Tryz.prog 52 (fun av=>∃ (a b:Int),av = [.int .i64 a,.int .i64 b]∧(Lit.int .i64 a).wf=true∧(Lit.int .i64 b).wf=true):=by
 refine Opens.mono (Yfw (n:=2) Tryz.underlying52 (by kernel_rfl) (Zes (off:=0) (k:=1) rfl (by kernel_rfl) (by omega) (Ztw Tryz.underlying3) (Zes (off:=1) (k:=1) rfl (by kernel_rfl) (by omega) (Ztw Tryz.underlying3) Z4s))) ?_
 rintro av ⟨a,b,rfl,_,⟨n,rfl,w1⟩,c,d,rfl,_,⟨m,rfl,w2⟩,rfl⟩
 exact ⟨n,m,rfl,w1,w2⟩
theorem Ybr {w:World}{x:AV}{xs:List AV}{v:Value}{l:List Value}(h:Rep w noX noPl x v) (k:Reps w noX noPl xs l.toArray):Reps w noX noPl (x::xs) (v::l).toArray:=by
 refine ⟨by have:=k.1; simp at this ⊢; exact this,fun i y u hy hu=>?_⟩
 cases i with
 | zero=>simp at hy hu; subst hy hu; exact h
 | succ i=>exact k.2 i y u (by simpa using hy) (by simpa using hu)
theorem reps3 {w:World}{x y z:AV}{v u t:Value}(h:Rep w noX noPl x v) (k:Rep w noX noPl y u) (m:Rep w noX noPl z t):Reps w noX noPl [x,y,z] #[v,u,t]:=Ybr h (Ybr k (Ybr (l := []) m ⟨rfl,fun i z t hz=>by simp at hz⟩))
theorem Y63 {P:Program}{W:World}{r:Reach}{base:Nat}{t:TypeId}{v:Value}{e:TypeId}(ht:P.underlying t=some (.slice e)) (h:Value.okWide P W r base t v):v.cells = #[v]:=by
 obtain ⟨a,l,c,rfl⟩:=Go.WideShapes.okWide_slice ht h; rfl
end GoAbs
namespace GoAbs
open Go Go.Proofs
def Zcq:List IOp := [oI 3 (.box (.t 1)) 0,oI 4 (.mv (cI 0)) 1]
def Zcv:List IOp := [fI 5 0 3 0,lI 6 5 0,oI 7 (.bin .lss (.t 6) (cI 0)) 0,mI 8 7 0,gI 9 (.fa 1 (.t 3)) 0 8 false,gI 10 (.ld none (.t 9)) 0 8 false,gI 11 (.bin .lss (.t 10) (cI 0)) 0 8 false,oI 12 (.pick (.t 8) (.c (.bool true)) (.t 11)) 0,mI 13 12 0,gI 14 (.fa 0 (.t 3)) 0 13 false,gI 15 (.ld none (.t 14)) 0 13 false,gI 16 (.mv (.t 0)) 0 13 false,gI 17 (.bin .geq (.t 15) (.t 16)) 0 13 false,oI 18 (.pick (.t 13) (.c (.bool true)) (.t 17)) 0,mI 19 18 0,gI 20 (.fa 1 (.t 3)) 0 19 false,gI 21 (.ld none (.t 20)) 0 19 false,gI 22 (.mv (.t 0)) 0 19 false,gI 23 (.bin .geq (.t 21) (.t 22)) 0 19 false,oI 24 (.pick (.t 19) (.c (.bool true)) (.t 23)) 0,mI 25 24 0,gI 26 (.fa 0 (.t 3)) 0 25 false,gI 27 (.ld none (.t 26)) 0 25 false,gI 28 (.fa 1 (.t 3)) 0 25 false,gI 29 (.ld none (.t 28)) 0 25 false,gI 30 (.bin .eql (.t 27) (.t 29)) 0 25 false,oI 31 (.pick (.t 25) (.c (.bool true)) (.t 30)) 0]
def Zff:List IOp := [oI 4 (.mv (cI 1)) 0]
def Z7k:List IOp := [oI 4 (.mv (cI 0)) 0]
def Yjp:CC := .seq (.rg false Zcq) (.seq (.seq (.rg false Zcv) (.cond (.t 31) (.seq (.rg false Zff) .ret) .skip)) (.seq (.rg false Z7k) .ret))
abbrev Ysc:Nat:=41
theorem Ymi:fnOk Tryz.prog 41=some (32,Yjp,[.tmp 4]):=by kernel_rfl
end GoAbs
namespace GoAbs
theorem Zwa {r:List Rat}{j c:Nat}{x:Rat}(hc:c<r.length):rget (r.set c x) j=if j=c then x else rget r j:=by
 unfold rget
 rw [List.getD_eq_getElem?_getD,List.getD_eq_getElem?_getD,List.getElem?_set]
 by_cases h:c=j
 ·subst h; simp [hc]
 ·rw [if_neg h,if_neg (fun e=>h e.symm)]
theorem Y19 {M:RM}{i a:Nat}{r:List Rat}(ha:a<M.length):(M.set a r).getD i []=if i=a then r else M.getD i []:=by
 rw [List.getD_eq_getElem?_getD,List.getD_eq_getElem?_getD,List.getElem?_set]
 by_cases h:a=i
 ·subst h; simp [ha]
 ·rw [if_neg h,if_neg (fun e=>h e.symm)]
theorem Z5f {M:RM}{w a c i j:Nat}{x:Rat}(hW:Wid w M) (ha:a<M.length) (hc:c<w):mget (addAt M a c x) i j=mget M i j+if i=a∧j=c then x else 0:=by
 unfold addAt
 show rget ((M.set a _).getD i []) j=_
 rw [Y19 ha]
 by_cases h1:i=a
 ·subst h1
  rw [if_pos rfl,Zwa (by rw [hW.get ha]; exact hc)]
  by_cases h2:j=c
  ·subst h2; rw [if_pos rfl,if_pos ⟨rfl,rfl⟩]
  ·rw [if_neg h2,if_neg (fun h=>h2 h.2)]
   show mget M i j=_
   grind
 ·rw [if_neg h1,if_neg (fun h=>h1 h.1)]
  show mget M i j=_
  grind
theorem Yhh {M:RM}{m a b i j:Nat}{x:Rat}(hW:Wid m M) (hM:M.length=m) (ha:a≤m) (hb:b≤m) :
  mget (half M a b x) i j=mget M i j+(if i+1=a∧j+1=a then x else 0)+(if i+1=a∧j+1=b then -x else 0):=by
 unfold half
 by_cases h1:a=0
 ·rw [if_pos h1,if_neg (by omega),if_neg (by omega)]; grind
 ·rw [if_neg h1]
  have e1:(i=a - 1∧j=a - 1)↔(i+1=a∧j+1=a):=by omega
  by_cases h2:b=0
  ·rw [if_pos h2,Z5f hW (by omega) (by omega),if_neg (show ¬ (i+1=a∧j+1=b) by omega)]
   simp only [e1]; grind
  ·have e2:(i=a - 1∧j=b - 1)↔(i+1=a∧j+1=b):=by omega
   rw [if_neg h2,Z5f hW.addAt (by rw [Zsj]; omega) (by omega),Z5f hW (by omega) (by omega)]
   simp only [e1,e2]
theorem Yty {M:RM}{m a b i j:Nat}{x:Rat}(hW:Wid m M) (hM:M.length=m) (ha:a≤m) (hb:b≤m) (hab:a≠b) :
  mget (edgeM M (a,b,x)) i j=mget M i j+x*(edge a b (i+1)*edge a b (j+1)):=by
 unfold edgeM
 rw [Yhh hW.half (by rw [Zjb,hM]) hb ha,Yhh hW hM ha hb]
 unfold edge
 by_cases h1:i+1=a <;> by_cases h2:i+1=b <;> by_cases h3:j+1=a <;> by_cases h4:j+1=b <;> simp [h1,h2,h3,h4,hab] <;> grind
theorem Yjz {m:Nat}:∀ {E:List Sp}{M:RM},Wid m M→M.length=m→(∀ e,e∈E→e.1≤m∧e.2.1≤m∧e.1≠e.2.1)→∀ i j,mget (E.foldl edgeM M) i j=mget M i j+Lm id E (i+1) (j+1)
 | [],M,_,_,_,i,j=>by show mget M i j=mget M i j+0; grind
 | (a,b,x)::E,M,hW,hM,hE,i,j=>by
  obtain ⟨h1,h2,h3⟩:=hE (a,b,x) (by simp)
  rw [List.foldl_cons,Yjz hW.edge (by rw [Z91,hM]) (fun e he=>hE e (by simp [he])),Yty hW hM h1 h2 h3]
  have hL:Lm id ((a,b,x)::E) (i+1) (j+1)=Lm id E (i+1) (j+1)+x*(edge a b (i+1)*edge a b (j+1)):=rfl
  rw [hL]
  grind
theorem Yw0 {m i j:Nat}:mget (List.replicate m (List.replicate m (0:Rat))) i j=0:=by
 unfold mget rget
 rw [List.getD_eq_getElem?_getD,List.getD_eq_getElem?_getD,List.getElem?_replicate]
 by_cases h:i<m
 ·rw [if_pos h]
  simp only [Option.getD_some,List.getElem?_replicate]
  split <;> rfl
 ·rw [if_neg h]; simp
theorem Y1v {m:Nat}{E:List Sp}(hE:∀ e,e∈E→e.1≤m∧e.2.1≤m∧e.1≠e.2.1) (i j:Nat):mget (lapl m E) i j=Lm id E (i+1) (j+1):=by
 unfold lapl
 rw [Yjz (fun r hr=>by rw [(List.mem_replicate.1 hr).2]; simp) (by simp) hE,Yw0]
 grind
theorem Zlt {m:Nat}{E:List Sp}:Wid m (lapl m E)∧(lapl m E).length=m:=by
 unfold lapl
 have main:∀ (E:List Sp) (M:RM),Wid m M→M.length=m→Wid m (E.foldl edgeM M)∧(E.foldl edgeM M).length=m:=by
  intro E
  induction E with
  | nil=>intro M h1 h2; exact ⟨h1,h2⟩
  | cons e E ih=>intro M h1 h2; exact ih _ h1.edge (by rw [Z91,h2])
 exact main _ _ (fun r hr=>by rw [(List.mem_replicate.1 hr).2]; simp) (by simp)
theorem Yxu {m k:Nat}{E:List Sp}(hE:∀ e,e∈E→Qb k e.2.2) (hk:1≤k):Mb (k+E.length*(4*(k+1))) (lapl m E):=by
 have main:∀ (E:List Sp) (M:RM) (l:Nat),(∀ e,e∈E→Qb k e.2.2)→1≤l→Mb l M→Mb (l+E.length*(4*(k+1))) (E.foldl edgeM M):=by
  intro E
  induction E with
  | nil=>intro M l _ _ h; simpa using h
  | cons e E ih =>
   intro M l h1 h2 h3
   refine (ih _ _ (fun x hx=>h1 x (by simp [hx])) (by omega) (h3.edge (h1 e (by simp)) h2)).mono ?_
   rw [List.length_cons,Nat.add_mul]; omega
 exact main E _ k hE hk (fun r hr x hx=>by
  rw [(List.mem_replicate.1 hr).2] at hx
  rw [(List.mem_replicate.1 hx).2]
  exact Qb.zero hk)
theorem Yvz {M:RM}{w c i j:Nat}(hW:Wid w M) (hi:i<M.length) (hj:j<w) (hci:c<i) (hcj:c≤j) (hp:mget M c c≠0):mget (elimCol M c M.length) i j=mget M i j - mget M i c*mget M c j / mget M c c:=by
 unfold mget
 rw [List.getD_eq_getElem?_getD (l:=elimCol M c M.length),Zg7 hi,if_pos ⟨hci,hi⟩]
 simp only [Option.getD_some]
 unfold elimRow
 have hl:=hW.get hi
 split
 ·rename_i h0
  rw [h0]
  grind
 ·show (elimTo _ _ _ _ _).getD j 0=_
  rw [List.getD_eq_getElem?_getD,Zn4 (by rw [hl]; exact hj),if_pos ⟨hcj,by rw [hl]; exact hj⟩]
  simp only [Option.getD_some]
  unfold mget at hp
  grind
theorem Y3n {m:Nat}:∀ {k c:Nat}{M:RM}{A:Mat}{d:Rat},c+k=m→M.length=m→Wid m M→Psd (List.range' (c+1) k) A→(∀ i j,c≤i→i<m→c≤j→j<m→mget M i j=A (i+1) (j+1)) →
  (tri k c M d).1=d*dt (List.range' (c+1) k) A∧NoSw k c M
 | 0,c,M,A,d,_,_,_,_,_=>⟨by show d=d*1; grind,trivial⟩
 | k+1,c,M,A,d,hk,hM,hW,hA,hg=>by
  have hr:c+1 ∉ List.range' (c+1+1) k:=by rw [List.mem_range'_1]; omega
  rw [List.range'_succ] at hA ⊢
  have hp:=hg c c (by omega) (by omega) (by omega) (by omega)
  unfold tri NoSw dt
  by_cases h0:mget M c c=0
  ·rw [if_pos h0]
   have h0':A (c+1) (c+1)=0:=by rw [← hp]; exact h0
   refine ⟨by rw [h0']; show (0:Rat)=_; grind,fun _ i hi hil=>?_,fun h=>absurd h0 h⟩
   rcases Nat.lt_or_ge c i with hci | hci
   ·rw [hg i c (by omega) (by omega) (by omega) (by omega),hA.sym]
    exact hA.zero hr h0' (i+1) (by rw [List.mem_range'_1]; omega)
   ·have:i=c:=by omega
    rw [this]; exact h0
  ·rw [if_neg h0]
   have h0':A (c+1) (c+1)≠0:=by rw [← hp]; exact h0
   have ih:=Y3n (k:=k) (c:=c+1) (M:=elimCol M c M.length) (A:=schur (c+1) A) (d:=d*mget M c c) (by omega) (by rw [Za9,hM]) hW.elim (hA.schur hr) (fun i j hi hil hj hjl=>by
    rw [Yvz hW (by omega) (by omega) (by omega) (by omega) h0,hg i j (by omega) hil (by omega) hjl,hg i c (by omega) hil (by omega) (by omega),hg c j (by omega) (by omega) (by omega) hjl,hp]
    rfl)
   refine ⟨?_,fun h=>absurd h h0,fun _=>ih.2⟩
   rw [ih.1,hp]; grind
theorem Yul {m:Nat}{E:List Sp}(hE:∀ e,e∈E→e.1≤m∧e.2.1≤m∧e.1≠e.2.1∧0≤e.2.2):(tri m 0 (lapl m E) 1).1=Fsum (m+1) id m E∧NoSw m 0 (lapl m E):=by
 have hpos:Pos E:=fun e he=>(hE e he).2.2.2
 obtain ⟨h1,h2⟩:=Y3n (k:=m) (c:=0) (M:=lapl m E) (A:=Lm id E) (d:=1) (by omega) Zlt.2 Zlt.1 (Yor hpos) (fun i j _ _ _ _=>Y1v (fun e he=>⟨(hE e he).1,(hE e he).2.1,(hE e he).2.2.1⟩) i j)
 refine ⟨?_,h2⟩
 have h3:=Z8s (n:=m+1) (l:=E) (p:=id) (g:=0) (R:=List.range' 1 m) hpos (fun e he=>⟨by have:=(hE e he).1; omega,by have:=(hE e he).2.1; omega⟩)
  ⟨by rw [List.nodup_cons]; exact ⟨by rw [List.mem_range'_1]; omega,List.nodup_range'⟩,fun i hi=>by
   rcases Nat.eq_zero_or_pos i with h | h
   ·exact .inl h
   ·exact .inr (by rw [List.mem_range'_1]; simp only [id]; omega),fun x hx=>by
   refine ⟨x,?_,rfl⟩
   rcases List.mem_cons.1 hx with h | h
   ·omega
   ·rw [List.mem_range'_1] at h; omega⟩
 rw [List.length_range'] at h3
 rw [h1,h3]; grind
end GoAbs
namespace GoAbs
open Go Go.Proofs
theorem Ynq {w:Nat}:∀ {k c l:Nat}{M:RM}{d:Rat},c+k≤M.length→M.length≤w→Wid w M→Mb l M→Qb l d→1≤l→Qb (9 ^ k*l) (tri k c M d).1
 | 0,c,l,M,d,_,_,_,_,hd,_=>by simpa [tri] using hd
 | k+1,c,l,M,d,hc,hw,hW,hM,hd,hl=>by
  unfold tri
  split
  ·exact Qb.zero (Nat.mul_pos (Nat.pow_pos (by omega)) hl)
  ·rename_i h0
   have h1:=(hM.elim hW (I:=M.length) (by omega) (show c<w by omega) h0).mono (show 8*l+1≤9*l by omega)
   have h2:=(hd.mul ((hM.get (i:=c) (by omega)).get (j:=c) (by rw [hW.get (by omega)]; omega))).mono (show 2*l≤9*l by omega)
   have:=Ynq (k:=k) (c:=c+1) (by rw [Za9]; omega) (by rw [Za9]; exact hw) hW.elim h1 h2 (by omega)
   rw [Nat.pow_succ,Nat.mul_assoc]
   exact this
structure NetOk (n:Nat) (E:List Sp):Prop where
 n2:2≤n
 e:∀ e,e∈E→e.1<n∧e.2.1<n∧e.1≠e.2.1∧0<e.2.2∧Fitd 20 e.2.2
theorem Yk8 {n:Int}{L:List Spr}(hL:L.length≤40) (hn:n≤6) (hl:∀ s,s∈L→s.2.2.length≤1000000000) (h:readR n L = .tup [.agg (netC n.toNat (L.map toE)),.int .i64 0]) (ho:NetOk n.toNat (L.map toE)) :
  SpecV Tryz.prog Zxi [.int .i64 n,.sl (L.map sprAV)] (if NumOk (Fsum n.toNat id (n.toNat - 1) (L.map toE)) then .tup [.str (bs (numS (Fsum n.toNat id (n.toNat - 1) (L.map toE)))),.int .i64 0] else .tup [.str (bs []),.int .i64 4]):=by
 obtain ⟨m,hm⟩:∃ m,n.toNat=m+1:=⟨n.toNat - 1,by have:=ho.n2; omega⟩
 have hm1:n.toNat - 1=m:=by omega
 generalize hE:L.map toE=E at *
 have hEl:E.length≤40:=by rw [← hE,List.length_map]; exact hL
 have hdt:=Yul (m:=m) (E:=E) (fun e he=>⟨by have:=(ho.e e he).1; omega,by have:=(ho.e e he).2.1; omega,(ho.e e he).2.2.1,Rat.le_of_lt (ho.e e he).2.2.2.1⟩)
 rw [hm1,hm]
 generalize hq:Fsum (m+1) id m E=q at *
 have hK:67+E.length*(4*(67+1))≤10947:=by omega
 have hMb:Mb 10947 (lapl m E):=(Yxu (fun e he=>(ho.e e he).2.2.2.2.bits) (by omega)).mono hK
 have h9:9 ^ m*10947≤100000000000:=Nat.le_trans (Nat.mul_le_mul_right _ (Nat.pow_le_pow_right (by omega) (show m≤5 by omega))) (by decide)
 have hqb:Qb (9 ^ m*10947) q:=by
  rw [← hdt.1]
  exact Ynq (by rw [Zlt.2]; omega) (by rw [Zlt.2]; exact Nat.le_refl _) Zlt.1 hMb (Qb.one (by omega)) (by omega)
 refine Zad Ybh (by simp) ?_
 unfold Z1l
 have hs:=Zfe (n:=n) (by omega) hl
 rw [h] at hs
 simp only [go_sem,Zq5,Zqu]
 refine Zaa hs (by simp only [go_sem]) ?_
 have hcl:(netC n.toNat E).length=3:=rfl
 have hct:(netC n.toNat E).take 3=netC n.toNat E:=rfl
 have hcd:(netC n.toNat E).drop 3 = []:=rfl
 simp only [go_sem,Zqp,Zrh,hcl,hct,hcd]
 have hgc:∀ f,gcL f (netC n.toNat E)=netC n.toNat E:=fun f=>rfl
 have hnet:=Zkv (H := [.cells (netC n.toNat E)]) (Ypd (n:=n.toNat) (k:=67) (E:=E) ho.n2 (by omega) (fun e he=>⟨(ho.e e he).1,(ho.e e he).2.1,(ho.e e he).2.2.2.2.bits⟩) (by omega) (by omega) (by omega)) (by unfold netC; simp only [go_sem])
 obtain ⟨pre,hpre⟩:∃ pre:Heap,pre = [.cells (netC n.toNat E),.cells (netC n.toNat E)]:=⟨_,rfl⟩
 have hh : [Blk.cells (netC n.toNat E)]++([Blk.cells (netC n.toNat E)]++matH 1 (n.toNat - 1) (lapl (n.toNat - 1) E)).map (Blk.gc (fun i=>some (i + [Blk.cells (netC n.toNat E)].length)))=pre++matH 2 m (lapl m E):=by
  rw [List.map_append,hpre,hm1]
  show [Blk.cells (netC n.toNat E)]++([Blk.cells (gcL _ (netC n.toNat E))]++(matH 1 m (lapl m E)).map (Blk.gc (fun i=>some (i+1))))=_
  rw [hgc,Ylf]; rfl
 rw [hh] at hnet
 refine Znw hnet ?_
 have e1:(AV.osl none 1 0 (n.toNat - 1)).gc (fun i=>some (i + [Blk.cells (netC n.toNat E)].length)) = .osl none 2 0 m:=by rw [hm1]; rfl
 rw [e1]
 simp only [go_sem]
 refine Znw (Yza (pre:=pre) (o:=2) (w:=m) (n:=m) (k:=10947) (by rw [hpre]; rfl) Zlt.2 (by omega) (by omega) (Nat.le_refl _) Zlt.1 hMb (by omega) h9 hdt.2 (fun m' _=>by rw [hpre]; rfl)) ?_
 rw [hdt.1]
 simp only [go_sem]
 refine Zaa (Y6x (q:=q) (Zu9 hqb.n (by omega)) (Zu9 hqb.d (by omega))) (by simp only [go_sem,Zbg,Zan]) ?_
 by_cases hok:NumOk q
 ·simp only [if_pos hok,go_sem]
 ·simp only [if_neg hok,go_sem]
end GoAbs
namespace GoAbs
def oneN (low high i:Nat):Nat:=if i=high then low else if high<i then i - 1 else i
end GoAbs
namespace GoAbs
open Go Go.Proofs
end GoAbs
