/- Lemmas for the claim (contracts of the functions that it reaches, and what they compute), without conditions. -/
import Derived.Test.YtiapneoakbealaaGreatK35
import Derived.Test.YtiapneoakbealaaGreatProg
import Derived.KernelRfl
set_option linter.unusedVariables false
set_option linter.unusedSimpArgs false
set_option maxRecDepth 10000
set_option maxHeartbeats 2000000
namespace GoAbs
open Go Go.Proofs
theorem Opens.mono {P:Program}{t:TypeId}{S S':List AV→Prop}(h:Opens P t S) (hs:∀ av,S av→S' av):Opens P t S':=fun enc w base spare held fuel cs x hx=>by
 obtain ⟨av,h1,h2⟩:=h enc w base spare held fuel cs x hx
 exact ⟨av,h1,hs av h2⟩
theorem Ys5 {P:Program}{f:Nat}{xs:List AV}{vs:Array Value}{w:World}(h:SpecV P f xs (.bool true)) (hr:Reps w noX noPl xs vs):Calls P f vs w fun e w'=>e = .returned (.bool true)∧Go.RowKit.Below w.heap.size w w' :=
 (h.2 noX w vs (fun _ hb=>hb.elim) hr).mono fun e w' he=>by
  obtain ⟨v,rfl,hv,hb⟩:=he
  cases hv
  exact ⟨rfl,hb⟩
theorem Yhw {w:World}{x:AV}{xs:List AV}{v:Value}{l:List Value}(h:Rep w noX noPl x v) (k:Reps w noX noPl xs l.toArray):Reps w noX noPl (x::xs) (v::l).toArray:=by
 refine ⟨by have:=k.1; simp at this ⊢; exact this,fun i y u hy hu=>?_⟩
 cases i with
 | zero=>simp at hy hu; subst hy hu; exact h
 | succ i=>exact k.2 i y u (by simpa using hy) (by simpa using hu)
theorem reps2 {w:World}{x y:AV}{v u:Value}(h:Rep w noX noPl x v) (k:Rep w noX noPl y u):Reps w noX noPl [x,y] #[v,u]:=Yhw h (Yhw (l := []) k ⟨rfl,fun i z t hz=>by simp at hz⟩)
theorem Y8q {P:Program}{W:World}{r:Reach}{base:Nat}{t:TypeId}{v:Value}{k:IntKind}(ht:P.underlying t=some (.int k)) (h:Value.okWide P W r base t v):v.cells = #[v]:=by
 obtain ⟨n,rfl⟩:=Go.WideShapes.okWide_int ht h; rfl
theorem Y6a {n:Int}(h:(Lit.int .u8 n).wf=true):0≤n∧n≤255:=bounds_u8 h
theorem opensInts:Opens Tryz.prog 36 (fun av=>∃ p:List Int,av = [.sl (ivs p)]∧∀ n,n∈p→(Lit.int .i64 n).wf=true):=by
 refine Opens.mono (Yxe (e:=3) (fun x ⟨n,hx,_⟩=>by cases hx; rfl) Tryz.underlying36 (by kernel_rfl) (Z09 Tryz.underlying3)) ?_
 rintro av ⟨l,rfl,h⟩
 have:∀ l:List AV,(∀ c,c∈l→∃ n:Int,[c] = [AV.int .i64 n]∧(Lit.int .i64 n).wf=true)→∃ p:List Int,l=ivs p∧∀ n,n∈p→(Lit.int .i64 n).wf=true:=by
  intro l
  induction l with
  | nil=>intro _; exact ⟨[],rfl,fun n hn=>by simp at hn⟩
  | cons c l ih =>
   intro h
   obtain ⟨p,hp,hw⟩:=ih (fun d hd=>h d (by simp [hd]))
   obtain ⟨n,hn,hnw⟩:=h c (by simp)
   cases hn
   refine ⟨n::p,by rw [hp]; rfl,fun m hm=>?_⟩
   rcases List.mem_cons.1 hm with rfl | hm
   ·exact hnw
   ·exact hw m hm
 obtain ⟨p,hp,hw⟩:=this l h
 exact ⟨p,by rw [hp],hw⟩
theorem opensTable:Opens Tryz.prog 44 (fun av=>∃ (a b:Int) (p q r:List Int),av = [.int .u8 a,.int .u8 b,.sl (ivs p),.sl (ivs q),.sl (ivs r)]∧(Lit.int .u8 a).wf=true∧(Lit.int .u8 b).wf=true∧(∀ n,n∈p→(Lit.int .i64 n).wf=true)∧(∀ n,n∈q→(Lit.int .i64 n).wf=true)∧(∀ n,n∈r→(Lit.int .i64 n).wf=true)):=by
 refine Opens.mono (Y3r (n:=5) Tryz.underlying44 (by kernel_rfl) (Zil (off:=0) (k:=1) rfl (by kernel_rfl) (by omega) (Z09 Tryz.underlying5) (Zil (off:=1) (k:=1) rfl (by kernel_rfl) (by omega) (Z09 Tryz.underlying5)
  (Zil (off:=2) (k:=1) rfl (by kernel_rfl) (by omega) opensInts (Zil (off:=3) (k:=1) rfl (by kernel_rfl) (by omega) opensInts (Zil (off:=4) (k:=1) rfl (by kernel_rfl) (by omega) opensInts Yq3)))))) ?_
 rintro av ⟨a,_,rfl,_,⟨n,rfl,w1⟩,c,_,rfl,_,⟨m,rfl,w2⟩,e,_,rfl,_,⟨p,rfl,w3⟩,g,_,rfl,_,⟨q,rfl,w4⟩,i,_,rfl,_,⟨r,rfl,w5⟩,rfl⟩
 exact ⟨n,m,p,q,r,rfl,w1,w2,w3,w4,w5⟩
end GoAbs
namespace GoAbs
open Go Go.Proofs
def Zsn:List IOp := [oI 4 (.mv (.c (.bool false))) 0]
def Zuh:List IOp := [mI 6 0 0,oI 7 (.len (.t 6)) 0,mI 8 1 0,oI 9 (.len (.t 8)) 0,oI 10 (.bin .neq (.t 7) (.t 9)) 0]
def Z8i:List IOp := [oI 4 (.mv (.c (.bool false))) 0]
def Zs7:List IOp := [oI 5 (.mv (cI 0)) 0]
def Zi8:List IOp := [mI 11 5 0,mI 12 0 0,oI 13 (.len (.t 12)) 0,oI 14 (.bin .lss (.t 11) (.t 13)) 0]
def Zjd:List IOp := [mI 17 0 0,mI 18 5 0,xI 19 1 17 18 0,lI 20 19 0,mI 21 1 0,mI 22 5 0,xI 23 1 21 22 0,lI 24 23 0,oI 25 (.bin .neq (.t 20) (.t 24)) 0]
@[go_sem ↓] theorem Z35 : autoK Zjd = (0, 0) := by kernel_rfl
@[go_sem] theorem Yqf : autoK [mI 17 0 0, mI 18 5 0, xI 19 1 17 18 0, lI 20 19 0, mI 21 1 0, mI 22 5 0, xI 23 1 21 22 0, lI 24 23 0, oI 25 (.bin .neq (.t 20) (.t 24)) 0] = (0, 0) := Z35
def Ya7:List IOp := [oI 4 (.mv (.c (.bool false))) 0]
def Zua:List IOp := [mI 15 5 0,oI 16 (.bin .add (.t 15) (cI 1)) 0,mI 5 16 0]
def Zum:CC := .seq (.seq (.rg false Zi8) (.cond (.t 14) .skip (.exit 0))) (.seq (.block 1 (.seq (.rg true Zjd) (.cond (.t 25) (.seq (.rg false Ya7) .ret) .skip))) (.rg false Zua))
def Zrq:List IOp := [oI 4 (.mv (.c (.bool true))) 0]
def Z60:CC := .seq (.rg false Zsn) (.seq (.seq (.rg false Zuh) (.cond (.t 10) (.seq (.rg false Z8i) .ret) .skip)) (.seq (.seq (.rg false Zs7) (.block 0 (.loop Zum))) (.seq (.rg false Zrq) .ret)))
abbrev Yg1:Nat:=56
theorem Ycc:fnOk Tryz.prog 56=some (26,Z60,[.tmp 4]):=by kernel_rfl
end GoAbs
namespace GoAbs
open Go Go.Proofs
def Zb (b:Nat) (q:Rat):Prop:=∃ z:Int,q=z∧z.natAbs<2 ^ b
def Zq (q:Rat):Prop:=∃ z:Int,q=z
theorem Zb.q {b:Nat}{q:Rat}(h:Zb b q):Zq q:=⟨h.choose,h.choose_spec.1⟩
theorem Zq.add {a b:Rat}(h:Zq a) (k:Zq b):Zq (a+b):=by
 obtain ⟨x,rfl⟩:=h; obtain ⟨y,rfl⟩:=k
 exact ⟨x+y,by simp⟩
theorem Zq.mul {a b:Rat}(h:Zq a) (k:Zq b):Zq (a*b):=by
 obtain ⟨x,rfl⟩:=h; obtain ⟨y,rfl⟩:=k
 exact ⟨x*y,by simp⟩
theorem Zq.sub {a b:Rat}(h:Zq a) (k:Zq b):Zq (a - b):=by
 obtain ⟨x,rfl⟩:=h; obtain ⟨y,rfl⟩:=k
 exact ⟨x - y,by simp⟩
theorem Zq.sum {R:List Nat}{f:Nat→Rat}(h:∀ i,i∈R→Zq (f i)):Zq (sumL R f):=by
 induction R with
 | nil=>exact ⟨0,rfl⟩
 | cons a R ih=>rw [Zar]; exact (h a List.mem_cons_self).add (ih fun i hi=>h i (List.mem_cons_of_mem _ hi))
theorem Zb.mono {a b:Nat}{q:Rat}(h:Zb a q) (hab:a≤b):Zb b q:=by
 obtain ⟨z,h1,h2⟩:=h
 exact ⟨z,h1,Nat.lt_of_lt_of_le h2 (Nat.pow_le_pow_right (by omega) hab)⟩
theorem Zb.mul {a b:Nat}{p q:Rat}(h:Zb a p) (k:Zb b q):Zb (a+b) (p*q):=by
 obtain ⟨x,rfl,h2⟩:=h; obtain ⟨y,rfl,k2⟩:=k
 exact ⟨x*y,by simp,by rw [Int.natAbs_mul,Nat.pow_add]; exact Nat.mul_lt_mul'' h2 k2⟩
theorem Zb.sub {a:Nat}{p q:Rat}(h:Zb a p) (k:Zb a q):Zb (a+1) (p - q):=by
 obtain ⟨x,rfl,h2⟩:=h; obtain ⟨y,rfl,k2⟩:=k
 exact ⟨x - y,by simp,by rw [Nat.pow_succ]; omega⟩
def fbit:Nat→Nat→Nat
 | 0,_=>1
 | k+1,b=>b+fbit k (2*b+1)
theorem Yy1:∀ {k c b:Nat}{A:Nat→Nat→Rat}{r x:Nat→Rat},(∀ i j,c≤i→i<c+k→c≤j→j<c+k→Zb b (A i j))→(∀ i,c≤i→i<c+k→Zb b (r i)) →
  (∀ i,c≤i→i<c+k→(∀ j,c≤j→j<c+k→j≠i→A i j≤0)∧0<sumL (List.range' c k) (A i))→(∀ i,c≤i→i<c+k→sumL (List.range' c k) (fun j=>x j*A i j)=r i) →
  ∃ D:Rat,0<D∧Zb (fbit k b) D∧∀ j,c≤j→j<c+k→Zq (x j*D)
 | 0,c,b,A,r,x,_,_,_,_=>⟨1,by decide,⟨1,rfl,by unfold fbit; decide⟩,fun j h1 h2=>by omega⟩
 | k+1,c,b,A,r,x,hA,hr,hD,hx=>by
  obtain ⟨a1,a2⟩:=hD c (Nat.le_refl _) (by omega)
  have hxc:=hx c (Nat.le_refl _) (by omega)
  rw [List.range'_succ,Zar] at a2 hxc
  have hp:0<A c c:=by
   have:=Z9p (R:=List.range' (c+1) k) (f:=A c) (fun j hj=>by have hj':=List.mem_range'_1.1 hj; exact a1 j (by omega) (by omega) (by omega))
   grind
  obtain ⟨D,d1,d2,d3⟩:=Yy1 (k:=k) (c:=c+1) (b:=2*b+1) (A:=fun i j=>A i j*A c c - A i c*A c j) (r:=fun i=>r i*A c c - A i c*r c) (x:=x)
   (fun i j h1 h2 h3 h4=>by
    have x1:=(hA i j (by omega) (by omega) (by omega) (by omega)).mul (hA c c (by omega) (by omega) (by omega) (by omega))
    have x2:=(hA i c (by omega) (by omega) (by omega) (by omega)).mul (hA c j (by omega) (by omega) (by omega) (by omega))
    exact (x1.sub x2).mono (by omega))
   (fun i h1 h2=>by
    have x1:=(hr i (by omega) (by omega)).mul (hA c c (by omega) (by omega) (by omega) (by omega))
    have x2:=(hA i c (by omega) (by omega) (by omega) (by omega)).mul (hr c (by omega) (by omega))
    exact (x1.sub x2).mono (by omega))
   (fun i h1 h2=>by
    obtain ⟨b1,b2⟩:=hD i (by omega) (by omega)
    have hic:=b1 c (Nat.le_refl _) (by omega) (by omega)
    refine ⟨fun j h3 h4 hji=>?_,?_⟩
    ·have x1:=b1 j (by omega) (by omega) hji
     have x2:=a1 j (by omega) (by omega) (by omega)
     have x3:=Rat.mul_nonneg (show 0 ≤ -A i j by grind) (Rat.le_of_lt hp)
     have x4:=Rat.mul_nonneg (show 0 ≤ -A i c by grind) (show 0 ≤ -A c j by grind)
     grind
    ·rw [List.range'_succ,Zar] at b2
     have e:sumL (List.range' (c+1) k) (fun j=>A i j*A c c - A i c*A c j)=A c c*sumL (List.range' (c+1) k) (A i)+(-(A i c))*sumL (List.range' (c+1) k) (A c):=by
      rw [← Ze5, ← Ze5, ← Z2z]
      exact Za3 (fun j _=>by grind)
     rw [e]
     have x1:=Rat.mul_pos hp b2
     have x2:=Rat.mul_nonneg (show 0 ≤ -A i c by grind) (Rat.le_of_lt a2)
     generalize sumL (List.range' (c+1) k) (A i)=s at *
     generalize sumL (List.range' (c+1) k) (A c)=t at *
     grind)
   (fun i h1 h2=>by
    have hxi:=hx i (by omega) (by omega)
    rw [List.range'_succ,Zar] at hxi
    have e:sumL (List.range' (c+1) k) (fun j=>x j*(A i j*A c c - A i c*A c j))=A c c*sumL (List.range' (c+1) k) (fun j=>x j*A i j)+(-(A i c))*sumL (List.range' (c+1) k) (fun j=>x j*A c j):=by
     rw [← Ze5, ← Ze5, ← Z2z]
     exact Za3 (fun j _=>by grind)
    rw [e, ← hxi, ← hxc]
    grind)
  refine ⟨A c c*D,Rat.mul_pos hp d1,?_,fun j h1 h2=>?_⟩
  ·exact (hA c c (by omega) (by omega) (by omega) (by omega)).mul d2
  ·by_cases hj:j=c
   ·subst hj
    have e:x j*(A j j*D)=D*r j - sumL (List.range' (j+1) k) (fun i=>x i*D*A j i):=by
     have e2:sumL (List.range' (j+1) k) (fun i=>x i*D*A j i)=D*sumL (List.range' (j+1) k) (fun i=>x i*A j i):=by
      rw [← Ze5]; exact Za3 (fun i _=>by grind)
     rw [e2, ← hxc]; grind
    rw [e]
    refine (d2.q.mul (hr j (by omega) (by omega)).q).sub (Zq.sum fun i hi=>?_)
    have hi':=List.mem_range'_1.1 hi
    exact (d3 i (by omega) (by omega)).mul (hA j i (by omega) (by omega) (by omega) (by omega)).q
   ·have h3:=(d3 j (by omega) (by omega)).mul (hA c c (by omega) (by omega) (by omega) (by omega)).q
    rw [show x j*(A c c*D)=x j*D*A c c by grind]
    exact h3
end GoAbs
namespace GoAbs
open Go Go.Proofs
def Lt9 (q:Rat):Prop:=q.den≤9∧q.num.natAbs<10000
structure GmL (g:Gm):Prop where
 rew:∀ q,q∈g.rew→Lt9 q
 d:Lt9 g.d
 odds:∀ x,x∈g.nodes→x.kind=3→∀ q,q∈x.odds→Lt9 q
 n:g.nodes.length≤5
theorem Y6j {n:Nat}(h:n≤9) (h0:0<n):n∣2520:=by
 have:∀ m,m<10→0<m→m∣2520:=by decide
 exact this n (by omega) h0
theorem Z9j (q:Rat):q*q.den=q.num:=by
 have h0:(q.den:Rat)≠0:=by
  intro h
  have h1:q.den=0:=by exact_mod_cast h
  exact q.den_nz h1
 have h:=Rat.num_divInt_den q
 rw [Rat.divInt_eq_div] at h
 have e:((q.den:Int):Rat)=(q.den:Rat):=by norm_cast
 rw [e] at h
 generalize (q.den:Rat)=b at *
 generalize (q.num:Rat)=a at *
 grind
theorem Lt9.z {q:Rat}(h:Lt9 q):Zb 26 (q*2520):=by
 obtain ⟨k,hk⟩:=Y6j h.1 q.den_pos
 have e:(2520:Rat)=q.den*k:=by exact_mod_cast hk
 refine ⟨q.num*k,?_,?_⟩
 ·rw [e, ← Rat.mul_assoc,Z9j]; norm_cast
 ·rw [Int.natAbs_mul,Int.natAbs_natCast]
  have h1:k≤2520:=by
   have:=q.den_pos
   have:1*k≤q.den*k:=Nat.mul_le_mul_right _ (by omega)
   omega
  have:=Nat.mul_le_mul (show q.num.natAbs≤9999 by have:=h.2; omega) h1
  omega
theorem Zb.add {a:Nat}{p q:Rat}(h:Zb a p) (k:Zb a q):Zb (a+1) (p+q):=by
 obtain ⟨x,rfl,h2⟩:=h; obtain ⟨y,rfl,k2⟩:=k
 exact ⟨x+y,by simp,by rw [Nat.pow_succ]; omega⟩
abbrev N2:Rat:=2520*2520
def Ze (c:Nat) (M:RM):Prop:=∀ i j,Zb c (mget M i j*N2)
theorem Ze.add {n c:Nat}{M:RM}(h:Ze c M) (hW:Wid n M) {i j:Nat}{x:Rat}(hi:i<M.length) (hj:j<n) (hx:Zb c (x*N2)):Ze (c+1) (addAt M i j x):=fun a b=>by
 rw [Z32 hW hi hj]
 split
 ·rw [Rat.add_mul]; exact (h a b).add hx
 ·rw [Rat.add_zero]; exact (h a b).mono (by omega)
theorem Lt9.neg {q:Rat}(h:Lt9 q):Zb 38 (-q*N2):=by
 obtain ⟨z,h1,h2⟩:=h.z
 refine ⟨-z*2520,?_,?_⟩
 ·rw [show -q*N2 = -(q*2520)*2520 by grind,h1]; simp
 ·rw [Int.natAbs_mul,Int.natAbs_neg,show ((2520:Int)).natAbs=2520 from rfl]
  have:=Nat.mul_lt_mul_of_pos_right h2 (show 0<2520 by decide)
  omega
theorem Lt9.neg2 {p q:Rat}(h:Lt9 p) (k:Lt9 q):Zb 52 (-(p*q)*N2):=by
 obtain ⟨z,h1,h2⟩:=h.z
 obtain ⟨y,k1,k2⟩:=k.z
 refine ⟨-(z*y),?_,?_⟩
 ·rw [show -(p*q)*N2 = -((p*2520)*(q*2520)) by grind,h1,k1]; simp
 ·rw [Int.natAbs_neg,Int.natAbs_mul,show 52=26+26 from rfl,Nat.pow_add]
  exact Nat.mul_lt_mul'' h2 k2
theorem Yd3 {n i c:Nat}{d:Rat}{odds:List Rat}{to:List Nat}(hd:Lt9 d) (hi:i<n) (ho:∀ t,t<to.length→Lt9 (rget odds t)) (hto:∀ x,x∈to→x<n) (hc:52≤c):∀ {k:Nat}{M:RM},k≤to.length→M.length=n→Wid n M→Ze c M →
  (addOdds d i odds to k M).length=n∧Wid n (addOdds d i odds to k M)∧Ze (c+k) (addOdds d i odds to k M)
 | 0,M,_,hl,hw,h=>⟨hl,hw,h⟩
 | k+1,M,hk,hl,hw,h=>by
  obtain ⟨h1,h2,h3⟩:=Yd3 (odds:=odds) (to:=to) hd hi ho hto hc (k:=k) (M:=M) (by omega) hl hw h
  unfold addOdds
  exact ⟨by rw [Zdt,h1],h2.addAt,h3.add h2 (by rw [h1]; exact hi) (hto _ (Zbm (by omega))) ((hd.neg2 (ho k (by omega))).mono (by omega))⟩
theorem Yps {g:Gm}(hg:GmP g) (hl:GmL g) {p:List Int}(hp:POk g p):∀ {k:Nat},k≤g.nodes.length→(planM g p k).length=g.nodes.length∧Wid g.nodes.length (planM g p k)∧Ze (52+7*k) (planM g p k)
 | 0,_=>by
  unfold planM
  refine ⟨List.length_replicate,fun r hr=>by rw [(List.mem_replicate.1 hr).2,List.length_replicate],fun i j=>?_⟩
  have h0:mget (List.replicate g.nodes.length (List.replicate g.nodes.length (0:Rat))) i j=0:=by
   unfold mget rget
   rw [List.getD_eq_getElem?_getD,List.getD_eq_getElem?_getD,List.getElem?_replicate]
   split
   ·rw [Option.getD_some,List.getElem?_replicate]; split <;> rfl
   ·simp
  rw [h0]
  exact ⟨0,by rw [Rat.zero_mul]; rfl,by decide⟩
 | k+1,hk=>by
  obtain ⟨h1,h2,h3⟩:=Yps hg hl hp (k:=k) (by omega)
  have hkn:k<g.nodes.length:=by omega
  have hx:=Zbd hkn
  have hok:=hg.ok.node _ hx
  have hlt:=hp.lt hkn
  have hod:=hl.odds _ hx
  unfold planM nodeM
  generalize nodeAt g k=x at *
  have a1:=h3.add (i:=k) (j:=k) (x:=1) h2 (by rw [h1]; exact hkn) hkn (Zb.mono (a:=23) ⟨6350400,by decide+kernel,by decide⟩ (by omega))
  have a2:(addAt (planM g p k) k k 1).length=g.nodes.length:=by rw [Zdt,h1]
  have a3:Wid g.nodes.length (addAt (planM g p k) k k 1):=h2.addAt
  split
  ·rename_i h3
   have ho:=(hok.odds h3).1
   obtain ⟨b1,b2,b3⟩:=Yd3 (odds:=x.odds) (to:=x.to) hl.d hkn (fun t ht=>hod h3 _ (List.mem_of_getElem? (Zai (by omega)))) hok.lt (by omega) (Nat.le_refl _) a2 a3 a1
   refine ⟨b1,b2,fun i j=>(b3 i j).mono ?_⟩
   have:=hok.len
   omega
  ·rename_i h3
   refine ⟨by rw [Zdt,a2],a3.addAt,fun i j=>((a1.add a3 (by rw [a2]; exact hkn) (hok.lt _ (Zbm (hlt h3))) (hl.d.neg.mono (by omega))) i j).mono (by omega)⟩
theorem Ywf {q D:Rat}{b c:Nat}(h0:0<D) (hD:Zb b D) (hz:Zq (q*D)) (h1:q≤2 ^ c) (h2 : -(2 ^ c)≤q):Qb (b+c+1) q:=by
 obtain ⟨e,rfl,he⟩:=hD
 obtain ⟨z,hz⟩:=hz
 have e0:0<e:=by exact_mod_cast h0
 have hq:q=Rat.divInt z e:=by
  rw [Rat.divInt_eq_div]
  have:(e:Rat)≠0:=by grind
  rw [← hz]; grind
 obtain ⟨n1,n2⟩:=Zdn (n:=z) (d:=e) (by omega)
 rw [← hq] at n1 n2
 have hzz:z.natAbs≤2 ^ c*e.natAbs:=by
  have x1:=Rat.mul_le_mul_of_nonneg_right h1 (Rat.le_of_lt h0)
  have x2:=Rat.mul_le_mul_of_nonneg_right h2 (Rat.le_of_lt h0)
  rw [hz] at x1 x2
  have e1:(2:Rat) ^ c*(e:Rat)=(((2 ^ c:Nat)*e:Int):Rat):=by simp
  have e2 : -((2:Rat) ^ c)*(e:Rat)=((-((2 ^ c:Nat)*e):Int):Rat):=by simp [Rat.neg_mul]
  rw [e1] at x1
  rw [e2] at x2
  have y1:=Rat.intCast_le_intCast.1 x1
  have y2:=Rat.intCast_le_intCast.1 x2
  have e3:((2 ^ c*e.natAbs:Nat):Int)=((2 ^ c:Nat):Int)*e:=by rw [Int.natCast_mul]; congr 1; omega
  generalize ((2 ^ c:Nat):Int)*e=w at *
  omega
 have hm:2 ^ c*e.natAbs<2 ^ c*2 ^ b:=Nat.mul_lt_mul_of_pos_left he (Nat.two_pow_pos _)
 have hp:2 ^ c*2 ^ b=2 ^ (c+b):=(Nat.pow_add ..).symm
 have hc:=Nat.two_pow_pos c
 refine ⟨?_,?_⟩
 ·rw [show b+c+1=c+b+1 by omega,Nat.pow_succ]; omega
 ·have:2 ^ b≤2 ^ (b+c+1):=Nat.pow_le_pow_right (by omega) (by omega)
  omega
theorem frac9 {d:Rat}(h:Lt9 d) (d1:d<1):d*9≤8:=by
 have h0:=d.den_pos
 have h1:=Z9j d
 have hd:(0:Rat)<d.den:=by exact_mod_cast h0
 have h2:d*d.den<d.den:=by
  have:=Rat.mul_pos (show 0<1 - d by grind) hd
  grind
 rw [h1] at h2
 have h3:d.num<d.den:=by exact_mod_cast h2
 have h4:d.num*9≤8*d.den:=by have:=h.1; omega
 have h5:(d.num:Rat)*9≤8*(d.den:Rat):=by exact_mod_cast h4
 rw [← h1] at h5
 rcases (Rat.le_total:d*9≤8∨8≤d*9) with h6 | h6
 ·exact h6
 ·by_cases he:d*9=8
  ·rw [he]; grind
  ·have:=Rat.mul_pos (show 0<d*9 - 8 by grind) hd
   grind
theorem Lt9.abs {q:Rat}(h:Lt9 q):q≤10000 ∧ -10000≤q:=by
 have h0:=q.den_pos
 have h1:=Z9j q
 have hd:(1:Rat)≤q.den:=by exact_mod_cast h0
 have n1:(q.num:Rat)≤((10000:Int):Rat):=by have:=h.2; exact Rat.intCast_le_intCast.2 (show q.num≤10000 by omega)
 have n2:((-10000:Int):Rat)≤(q.num:Rat):=by have:=h.2; exact Rat.intCast_le_intCast.2 (show -10000≤q.num by omega)
 rw [show ((10000:Int):Rat)=10000 from rfl] at n1
 rw [show ((-10000:Int):Rat) = -10000 from rfl] at n2
 rw [← h1] at n1 n2
 constructor
 ·rcases (Rat.le_total:q≤10000∨10000≤q) with h6 | h6
  ·exact h6
  ·have:=Rat.mul_nonneg (show 0≤q by grind) (show 0≤(q.den:Rat) - 1 by grind)
   grind
 ·rcases (Rat.le_total : -10000≤q∨q ≤ -10000) with h6 | h6
  ·exact h6
  ·have:=Rat.mul_nonneg (show 0 ≤ -q by grind) (show 0≤(q.den:Rat) - 1 by grind)
   grind
theorem Z3y {odds:List Rat}{to:List Nat}{n:Nat}{c:Rat}:∀ {k:Nat},k≤to.length→(∀ x,x∈to→x<n)→dotW odds (List.replicate n c) to k=c*sumO odds k
 | 0,_,_=>by simp only [dotW,sumO]; grind
 | k+1,hk,h=>by
  simp only [dotW,sumO]
  rw [Z3y (by omega) h,Zbx (h _ (Zbm (by omega)))]
  grind
theorem Z5r {g:Gm}(hg:GmP g) {p:List Int}(hp:POk g p) {i:Nat}(hi:i<g.nodes.length) {c:Rat}:worthP (nodeAt g i) (pget p i) (List.replicate g.nodes.length c)=c:=by
 have hx:=Zbd hi
 have hok:=hg.ok.node _ hx
 have hlt:=hp.lt hi
 have hod:=hg.odds _ hx
 unfold worthP
 split
 ·rename_i h3
  rw [Z3y (Nat.le_refl _) hok.lt,(hod h3).2]; grind
 ·rename_i h3
  exact Zbx (hok.lt _ (Zbm (hlt h3)))
theorem Yst {g:Gm}(hg:GmP g) (hl:GmL g) {p:List Int}(hp:POk g p) {v:List Rat}(hv:PVal g p v) {i:Nat}(hi:i<g.nodes.length):rget v i≤100000 ∧ -100000≤rget v i:=by
 have hs:=Ym7 hg hp
 have h9:=frac9 hl.d hg.d1
 have d0:=hg.d0
 have hr:=fun j (hj:j<g.nodes.length)=>(hl.rew _ (List.mem_of_getElem? (Zai (r:=g.rew) (j:=j) (by rw [hg.ok.rew]; exact hj)))).abs
 constructor
 ·have:=hs.le hg.d1 (u:=v) (v:=List.replicate g.nodes.length 100000) (fun j hj=>by rw [← hv.2 j hj]; grind) (fun j hj=>by
   rw [Zbx hj]; unfold planV; rw [Z5r hg hp hj]; have:=hr j hj; grind) i hi
  rwa [Zbx hi] at this
 ·have:=hs.le hg.d1 (u:=List.replicate g.nodes.length (-100000)) (v:=v) (fun j hj=>by
   rw [Zbx hj]; unfold planV; rw [Z5r hg hp hj]; have:=hr j hj; grind) (fun j hj=>by rw [← hv.2 j hj]; grind) i hi
  rwa [Zbx hi] at this
theorem Ykx {g:Gm}(hg:GmP g) (hl:GmL g) {p:List Int}(hp:POk g p):Rb 4000 (valP g p):=fun q hq=>by
 obtain ⟨i,hi,rfl⟩:∃ i,i<g.nodes.length∧q=rget (valP g p) i:=by
  obtain ⟨i,hi⟩:=List.getElem?_of_mem hq
  have hlt:=(List.getElem?_eq_some_iff.1 hi).1
  have:=Zai hlt
  rw [hi] at this
  exact ⟨i,by rw [(Yf6 hg hp).1] at hlt; exact hlt,by simpa using this⟩
 obtain ⟨h1,h2⟩:=Z73 hg hp (Nat.le_refl g.nodes.length)
 obtain ⟨_,_,_,h3,h4⟩:=Yah h1.len h1.wid hg.ok.rew (Z7r hg hp)
 have hD:=Z7r hg hp
 obtain ⟨_,_,hz⟩:=Yps hg hl hp (Nat.le_refl g.nodes.length)
 have hn:=hl.n
 have hpos:(0:Rat)<N2:=by decide+kernel
 obtain ⟨D,d1,d2,d3⟩:=Yy1 (k:=g.nodes.length) (c:=0) (b:=90) (A:=fun i j=>mget (planM g p g.nodes.length) i j*N2) (r:=fun i=>rget g.rew i*N2) (x:=rget (valP g p))
  (fun i j _ _ _ _=>(hz i j).mono (by omega))
  (fun i _ hi=>by
   have:=(hl.rew _ (List.mem_of_getElem? (Zai (r:=g.rew) (j:=i) (by rw [hg.ok.rew]; omega)))).z
   have h2:Zb 12 2520:=⟨2520,rfl,by decide⟩
   have h3:=this.mul h2
   rw [show rget g.rew i*N2=rget g.rew i*2520*2520 by grind]
   exact h3.mono (by omega))
  (fun i h0 hi=>by
   obtain ⟨a,b⟩:=hD i h0 (by omega)
   refine ⟨fun j hj hjn hji=>?_,?_⟩
   ·have:=Rat.mul_nonneg (show 0 ≤ -mget (planM g p g.nodes.length) i j by have:=a j hj (by omega) hji; grind) (Rat.le_of_lt hpos)
    grind
   ·rw [Za3 (g:=fun j=>N2*mget (planM g p g.nodes.length) i j) (fun j _=>by grind),Ze5]
    refine Rat.mul_pos hpos ?_
    rw [List.range'_eq_map_range,Z7z] at b ⊢
    rw [Za3 (g:=fun j=>mget (planM g p g.nodes.length) i (0+j)) (fun j _=>by rw [show 0+1+j - 1=0+j by omega])] at b
    exact b)
  (fun i _ hi=>by
   have:=h4 i (by omega)
   rw [Za3 (g:=fun j=>N2*(rget (valP g p) j*mget (planM g p g.nodes.length) i j)) (fun j _=>by grind),Ze5,List.range'_eq_map_range,Z7z]
   rw [Za3 (g:=fun j=>rget (solvR g.nodes.length (planM g p g.nodes.length) g.rew) j*mget (planM g p g.nodes.length) i j) (fun j _=>by rw [show 0+j=j by omega]; rfl),this]
   grind)
 have ha:=Yst hg hl hp (Yf6 hg hp) hi
 have hb:fbit g.nodes.length 90≤3000:=by
  have:∀ n,n≤5→fbit n 90≤3000:=fun n hn=>by
   have:n=0∨n=1∨n=2∨n=3∨n=4∨n=5:=by omega
   rcases this with rfl | rfl | rfl | rfl | rfl | rfl <;> decide
  exact this _ hn
 have e17:(2:Rat) ^ 17=131072:=by decide+kernel
 exact (Ywf (c:=17) d1 d2 (d3 i (by omega) (by omega)) (by rw [e17]; grind) (by rw [e17]; grind)).mono (by omega)
end GoAbs
namespace GoAbs
open Go Go.Proofs
set_option maxHeartbeats 4000000
end GoAbs
namespace GoAbs
open Go Go.Proofs
def Zzx:List IOp := [oI 4 (.mv (cI 0)) 0]
def Z20:List IOp := [mI 5 0 0,mI 6 1 0,oI 7 (.bin .rem (.t 5) (.t 6)) 0,mI 8 1 0,oI 9 (.bin .add (.t 7) (.t 8)) 0,mI 10 1 0,oI 11 (.bin .rem (.t 9) (.t 10)) 0,mI 4 11 0]
def Yc5:CC := .seq (.rg false Zzx) (.seq (.rg false Z20) .ret)
abbrev Ynl:Nat:=29
theorem Yjl:fnOk Tryz.prog 29=some (12,Yc5,[.tmp 4]):=by kernel_rfl
def Zrb:List IOp := [oI 4 (.mv (cI 0)) 0]
def Zq2:List IOp := [mI 5 1 0,mI 6 0 0,oI 7 (.len (.t 6)) 0,oI 8 (.bin .lss (.t 5) (.t 7)) 0]
def Z4f:List IOp := [mI 9 0 0,mI 10 1 0,xI 11 1 9 10 0,lI 12 11 0,mI 4 12 0]
def Z4o:List IOp := [oI 4 (.mv (cI 0)) 0]
def Yjk:CC := .seq (.rg false Zrb) (.seq (.seq (.rg false Zq2) (.cond (.t 8) (.seq (.rg false Z4f) .ret) .skip)) (.seq (.rg false Z4o) .ret))
abbrev Yr1:Nat:=47
theorem Ynn:fnOk Tryz.prog 47=some (13,Yjk,[.tmp 4]):=by kernel_rfl
def Zv0:List IOp := [oI 4 (.mv (.c .nils)) 0,oI 5 (.mv (.c (.bool false))) 0]
def Zw9:List IOp := [mI 9 0 0,mI 10 1 0,oI 11 (.call 43 [.t 9,.t 10]) 0,mI 8 11 0,eI 12 0 8 0,eI 13 1 8 0,mI 6 12 0,mI 7 13 0]
def Zvy:List IOp := [mI 14 7 0,oI 15 (.bin .neq (.t 14) (cI 0)) 0,mI 16 15 0,gI 17 (.mv (.t 6)) 0 16 false,gI 18 (.len (.t 17)) 0 16 false,gI 19 (.mv (.t 0)) 0 16 false,gI 20 (.len (.t 19)) 0 16 false,gI 21 (.bin .neq (.t 18) (.t 20)) 0 16 false,oI 22 (.pick (.t 16) (.c (.bool true)) (.t 21)) 0,mI 23 22 0,gI 24 (.mv (.t 6)) 0 23 false,gI 25 (.call 24 [.t 24]) 0 23 false,gI 26 (.bin .neq (.t 25) (cI 0)) 0 23 false,oI 27 (.pick (.t 23) (.c (.bool true)) (.t 26)) 0]
def Ycg:List IOp := [oI 4 (.mv (.c .nils)) 0,oI 5 (.mv (.c (.bool false))) 0]
def Zxc:List IOp := [mI 28 6 0,oI 29 (.call 27 [.t 28]) 0,mI 4 29 0,oI 5 (.mv (.c (.bool true))) 0]
def Z9y:CC := .seq (.rg false Zv0) (.seq (.rg false Zw9) (.seq (.seq (.rg false Zvy) (.cond (.t 27) (.seq (.rg false Ycg) .ret) .skip)) (.seq (.rg false Zxc) .ret)))
abbrev Yht:Nat:=23
theorem Yf2:fnOk Tryz.prog 23=some (30,Z9y,[.tmp 4,.tmp 5]):=by kernel_rfl
def Z84:List IOp := [oI 4 (.alloc [.bool false,.nils,.bool false,.nils]) 0]
def Z88:List IOp := [oI 8 (.call 31 [cI 0]) 0,oI 5 (.alloc [.bool false,.nils,.bool false,.nils]) 0,⟨none,.st 4 (.t 5) (.t 8),1,[],[],none⟩]
def Ybz:List IOp := [oI 6 (.mv (cI 0)) 0]
def Zn9:List IOp := [mI 9 6 0,mI 10 0 0,oI 11 (.len (.t 10)) 0,oI 12 (.bin .lss (.t 9) (.t 11)) 0]
def Zm0:List IOp := [mI 15 0 0,mI 16 6 0,xI 17 4 15 16 0,lJ 18 4 17 0,mI 19 1 0,mI 20 6 0,xI 21 4 19 20 0,lJ 22 4 21 0,oI 23 (.call 34 [.t 18,.t 22]) 0,oI 7 (.alloc [.bool false,.nils,.bool false,.nils]) 0,⟨none,.st 4 (.t 7) (.t 23),1,[0],[],none⟩]
@[go_sem ↓] theorem Yf0 : autoK Zm0 = (1, 1) := by kernel_rfl
@[go_sem] theorem Yzn : autoK [mI 15 0 0, mI 16 6 0, xI 17 4 15 16 0, lJ 18 4 17 0, mI 19 1 0, mI 20 6 0, xI 21 4 19 20 0, lJ 22 4 21 0, oI 23 (.call 34 [.t 18, .t 22]) 0, oI 7 (.alloc [.bool false, .nils, .bool false, .nils]) 0, ⟨none, .st 4 (.t 7) (.t 23), 1, [0], [], none⟩] = (1, 1) := Yf0
def Zye:List IOp := [fI 24 0 7 0,fI 25 0 24 0,lI 26 25 0]
def Zyo:List IOp := [oI 27 (.call 31 [cI 0]) 0,lJ 28 4 7 0,oI 29 (.callw 34 [.t 27,.t 28]) 0,⟨none,.st 4 (.t 7) (.t 29),0,[],[],none⟩]
@[go_sem ↓] theorem Ygn : autoK Zyo = (0, 1) := by kernel_rfl
@[go_sem] theorem Yzf : autoK [oI 27 (.call 31 [cI 0]) 0, lJ 28 4 7 0, oI 29 (.callw 34 [.t 27, .t 28]) 0, ⟨none, .st 4 (.t 7) (.t 29), 0, [], [], none⟩] = (0, 1) := Ygn
def Zza:List IOp := [lJ 30 4 7 0,lJ 31 4 5 0,oI 32 (.call 25 [.t 30,.t 31]) 0,oI 33 (.bin .gtr (.t 32) (cI 0)) 0]
def Zyq:List IOp := [lJ 34 4 7 0,⟨none,.st 4 (.t 5) (.t 34),0,[],[],none⟩]
def Zgi:List IOp := [mI 13 6 0,oI 14 (.bin .add (.t 13) (cI 1)) 0,mI 6 14 0]
def Yb3:CC := .seq (.seq (.rg false Zn9) (.cond (.t 12) .skip (.exit 0))) (.seq (.block 1 (.seq (.rg true Zm0) (.seq (.seq (.rg false Zye) (.cond (.t 26) (.rg true Zyo) .skip)) (.seq (.rg false Zza) (.cond (.t 33) (.rg false Zyq) .skip))))) (.rg false Zgi))
def Z5l:List IOp := [lJ 35 4 5 0,⟨none,.st 4 (.t 4) (.t 35),0,[],[],none⟩]
def Ynz:CC := .seq (.rg false Z84) (.seq (.rg false Z88) (.seq (.seq (.rg false Ybz) (.block 0 (.loop Yb3))) (.seq (.rg false Z5l) .ret)))
abbrev Yy2:Nat:=26
theorem Yqq:fnOk Tryz.prog 26=some (36,Ynz,[.cell 4 (some 4)]):=by kernel_rfl
def Zgs:List IOp := [oI 2 (.box (.t 0)) 0,oI 4 (.mv (.c (.bool false))) 1]
def Zg7:List IOp := [lJ 15 5 2 0,oI 16 (.call 22 [.t 15]) 0,mI 14 16 0,eI 17 0 14 0,eI 18 1 14 0,mI 5 17 0,mI 6 18 0]
def Zgv:List IOp := [mI 20 5 0,mI 21 6 0,oI 22 (.call 23 [.t 20,.t 21]) 0,mI 19 22 0,eI 23 0 19 0,eI 24 1 19 0,mI 7 23 0,mI 8 24 0]
def Zg8:List IOp := [mI 25 1 0,oI 26 (.cvi .i64 (.t 25)) 0,oI 27 (.bin .rem (.t 26) (cI 7)) 0,mI 9 27 0]
def Zgu:List IOp := [mI 29 5 0,mI 30 6 0,mI 31 9 0,oI 32 (.call 15 [.t 29,.t 30,.t 31]) 0,mI 28 32 0,eI 33 0 28 0,eI 34 1 28 0,mI 10 33 0,mI 11 34 0]
def Zgo:List IOp := [mI 36 5 0,mI 37 6 0,mI 38 9 0,oI 39 (.bin .add (.t 38) (cI 1)) 0,oI 40 (.call 15 [.t 36,.t 37,.t 39]) 0,mI 35 40 0,eI 41 0 35 0,eI 42 1 35 0,mI 12 41 0,mI 13 42 0]
def Zg5:List IOp := [mI 43 8 0,oI 44 (.un .not (.t 43)) 0,mI 45 44 0,gI 46 (.mv (.t 11)) 0 45 false,gI 47 (.bin .neq (.t 46) (cI 0)) 0 45 false,oI 48 (.pick (.t 45) (.c (.bool true)) (.t 47)) 0,mI 49 48 0,gI 50 (.mv (.t 13)) 0 49 false,gI 51 (.bin .neq (.t 50) (cI 0)) 0 49 false,oI 52 (.pick (.t 49) (.c (.bool true)) (.t 51)) 0,mI 53 52 0,gI 54 (.mv (.t 10)) 0 53 false,gI 55 (.len (.t 54)) 0 53 false,gI 56 (.mv (.t 5)) 0 53 false,gI 57 (.len (.t 56)) 0 53 false,gI 58 (.bin .neq (.t 55) (.t 57)) 0 53 false,oI 59 (.pick (.t 53) (.c (.bool true)) (.t 58)) 0,mI 60 59 0,gI 61 (.mv (.t 12)) 0 60 false,gI 62 (.len (.t 61)) 0 60 false,gI 63 (.mv (.t 5)) 0 60 false,gI 64 (.len (.t 63)) 0 60 false,gI 65 (.bin .neq (.t 62) (.t 64)) 0 60 false,oI 66 (.pick (.t 60) (.c (.bool true)) (.t 65)) 0,mI 67 66 0,gI 68 (.mv (.t 10)) 0 67 false,gI 69 (.call 24 [.t 68]) 0 67 false,gI 70 (.bin .neq (.t 69) (cI 0)) 0 67 false,oI 71 (.pick (.t 67) (.c (.bool true)) (.t 70)) 0,mI 72 71 0,gI 73 (.mv (.t 12)) 0 72 false,gI 74 (.call 24 [.t 73]) 0 72 false,gI 75 (.bin .neq (.t 74) (cI 0)) 0 72 false,oI 76 (.pick (.t 72) (.c (.bool true)) (.t 75)) 0,mI 77 76 0,gI 78 (.call 17 []) 0 77 false,gI 79 (.un .not (.t 78)) 0 77 false,oI 80 (.pick (.t 77) (.c (.bool true)) (.t 79)) 0]
def Zuk:List IOp := [oI 4 (.mv (.c (.bool false))) 0]
def Zgh:List IOp := [mI 81 7 0,mI 82 12 0,oI 83 (.call 27 [.t 82]) 0,oI 84 (.call 26 [.t 81,.t 83]) 0,mI 85 6 0,oI 86 (.call 21 [.t 85]) 0,mI 87 7 0,mI 88 10 0,oI 89 (.call 27 [.t 88]) 0,oI 90 (.call 26 [.t 87,.t 89]) 0,oI 91 (.call 28 [.t 86,.t 90]) 0,oI 92 (.call 25 [.t 84,.t 91]) 0,oI 93 (.bin .leq (.t 92) (cI 0)) 0,mI 4 93 0]
def Zj3:CC := .seq (.rg false Zgs) (.seq (.rg false Zg7) (.seq (.rg false Zgv) (.seq (.rg false Zg8) (.seq (.rg false Zgu) (.seq (.rg false Zgo) (.seq (.seq (.rg false Zg5) (.cond (.t 80) (.seq (.rg false Zuk) .ret) .skip)) (.seq (.rg false Zgh) .ret)))))))
abbrev Zyf:Nat:=4
theorem Zvd:fnOk Tryz.prog 4=some (94,Zj3,[.tmp 4]):=by kernel_rfl
def Zv1:List IOp := [oI 1 (.box (.t 0)) 0,oI 2 (.mv (.c .nils)) 1,oI 3 (.mv (.c (.str ⟨#[]⟩))) 1]
def Zw6:List IOp := [fI 4 0 1 0,lI 5 4 0,fI 6 2 1 0,lI 7 6 0,fI 8 3 1 0,lI 9 8 0,fI 10 4 1 0,lI 11 10 0,fI 12 1 1 0,lI 13 12 0,oI 14 (.call 60 [.t 5,.t 7,.t 9,.t 11,.t 13]) 0,eI 15 0 14 0,eI 16 1 14 0,mI 2 15 0,mI 3 16 0]
def Z80:CC := .seq (.rg false Zv1) (.seq (.rg false Zw6) .ret)
abbrev Yjs:Nat:=22
theorem Yfw:fnOk Tryz.prog 22=some (17,Z80,[.tmp 2,.tmp 3]):=by kernel_rfl
end GoAbs
namespace GoAbs
open Go Go.Proofs
set_option maxHeartbeats 4000000
def strsL (l:List (List UInt8)):List AV:=l.map fun s => .str (bs s)
theorem rsame {l:List (List UInt8)}(hl:l.length≤1000000):SpecV Tryz.prog Yg1 [.sl (strsL l),.sl (strsL l)] (.bool true):=by
 have hmx:Tryz.prog.follows .mixedOrders=true:=by kernel_rfl
 have hsl:(strsL l).length=l.length:=by simp [strsL]
 refine Za5 Ycc (by simp) (Zbi 1 rfl ?_)
 unfold Z60
 simp only [go_sem,Zsn,Zuh,hsl]
 refine Zbg (Zbg (T_W ?_))
 simp only [go_sem,Zs7]
 refine Zbe (Zaf (fun i:Nat=>⟨envL [(0,.sl (strsL l)),(1,.sl (strsL l)),(5,.int .i64 (i:Int))],[]⟩)
  (fun i=>i≤l.length) (fun i=>l.length - i) 0 (by omega) (Zab _ (by simp only [go_sem]; simp)) (fun i hi N hN=>?_))
 unfold Zum
 by_cases hin:i<l.length
 ·obtain ⟨s,hs⟩:∃ s,l[i]? = some s:=⟨_,List.getElem?_eq_getElem hin⟩
  have hget:(strsL l)[i]? = some (.str (bs s)):=by simp [strsL,hs]
  have q0:(0:Int)≤(i:Int):=by omega
  have q1:(i:Int)<(l.length:Int):=by omega
  have e1:IntKind.i64.wrap ((i:Int)+1)=((i+1:Nat):Int):=by rw [Zac (by omega) (by omega)]; omega
  simp only [go_sem,Zi8,Zjd,Zua,q0,q1,hsl,hget,hmx,e1]
  exact hN (i+1) _ (by omega) (by omega) (Zab _ (by simp only [go_sem]))
 ·have hie:i=l.length:=by omega
  subst hie
  have q1:¬ ((l.length:Nat):Int)<(l.length:Int):=by omega
  simp only [go_sem,Zi8,hsl,q1]
  refine T_W ?_
  simp only [go_sem,Zrq]
def L1:List Nd := [⟨1,[49],[(0,[])]⟩]
def d12:List UInt8 := [49,47,50]
theorem Yez:GIn L1 d12:=by
 refine ⟨.inl (by decide),by decide,fun n hn=>?_⟩
 simp [L1] at hn
 subst hn
 refine ⟨by decide,by decide,fun m hm=>?_⟩
 simp at hm
 subst hm
 decide
theorem Yk8:eC L1 d12=0:=by decide+kernel
theorem Ym0:toGm L1 d12=⟨[⟨1,[0],[]⟩],[1],1/2⟩:=by
 unfold toGm L1 d12 toGN oddsQ
 have h1:parseL [49]=some 1:=by decide+kernel
 have h2:parseL [49,47,50]=some (1/2):=by decide+kernel
 simp [h1,h2,hasO]
theorem Y5m:valG (toGm L1 d12) = [2]:=by
 rcases Z7y Yez with ⟨h,_⟩ | ⟨_,_,hg,_⟩
 ·exact absurd Yk8 h
 ·symm
  refine Yiw hg (by rw [Ym0]; rfl) (fun i hi=>?_)
  rw [Ym0] at hi ⊢
  have:i=0:=by simpa using hi
  subst this
  decide+kernel
theorem Y9h:rndR (toGm L1 d12) 3 = [7/4]:=by rw [Ym0]; decide+kernel
theorem Y4s {H:Heap}{ids:List Nat}{b:Nat}{k:Int}{s:ByteArray}{X:AV}{M:List AV}(hb:H[b]? = some (.cells [.int .i64 k,.str s,X])) (hi:b∈ids) (hX:BV H ids X (.sl M)):BV H ids (.osl (some 3) b 0 1) (.sl [.agg [.int .i64 k,.str s,.sl M]]):=by
 refine .osl (some 3) b 0 1 _ _ hb hi rfl (fun x hx=>by simp at hx; subst hx; rfl) (by simp [es]) (fun i x j y z hx hy hz=>?_)
 have hi0:i=0:=by
  have:=(List.getElem?_eq_some_iff.1 hx).1
  simp at this; exact this
 subst hi0
 simp at hx
 subst hx
 rw [show 0+(0*es (some 3)+j)=j by simp] at hz
 match j with
 | 0=>simp [AV.cells] at hy hz; subst hy hz; exact .int _ _
 | 1=>simp [AV.cells] at hy hz; subst hy hz; exact .str _
 | 2=>simp [AV.cells] at hy hz; subst hy hz; exact hX
 | j+3=>simp [AV.cells] at hy
theorem Y4x {H:Heap}{ids:List Nat}{b:Nat}{k:Int}{s:ByteArray}(hb:H[b]? = some (.cells [.int .i64 k,.str s])) (hi:b∈ids):BV H ids (.osl (some 2) b 0 1) (.sl [.agg [.int .i64 k,.str s]]):=by
 refine .osl (some 2) b 0 1 _ _ hb hi rfl (fun x hx=>by simp at hx; subst hx; rfl) (by simp [es]) (fun i x j y z hx hy hz=>?_)
 have hi0:i=0:=by
  have:=(List.getElem?_eq_some_iff.1 hx).1
  simp at this; exact this
 subst hi0
 simp at hx
 subst hx
 rw [show 0+(0*es (some 2)+j)=j by simp] at hz
 match j with
 | 0=>simp [AV.cells] at hy hz; subst hy hz; exact .int _ _
 | 1=>simp [AV.cells] at hy hz; subst hy hz; exact .str _
 | j+2=>simp [AV.cells] at hy
theorem Yu5 {H:Heap}{ids:List Nat}{b:Nat}{s:ByteArray}(hb:H[b]? = some (.cells [.str s])) (hi:b∈ids):BV H ids (.osl none b 0 1) (.sl [.str s]):=by
 refine .osl none b 0 1 _ _ hb hi rfl (fun x hx=>by simp at hx; subst hx; rfl) (by simp [es]) (fun i x j y z hx hy hz=>?_)
 have hi0:i=0:=by
  have:=(List.getElem?_eq_some_iff.1 hx).1
  simp at this; exact this
 subst hi0
 simp at hx
 subst hx
 match j with
 | 0=>simp [AV.cells,es] at hy hz; subst hy hz; exact .str _
 | j+1=>simp [AV.cells] at hy
theorem wlives:SpecV Tryz.prog Ymt [] (.bool true):=by
 have hv:=wvalue Yez
 rw [if_pos Yk8,Y5m,show numsR [2] = .tup [.sl (strsL [[50]]),.int .i64 0] by
  unfold numsR
  rw [if_pos (by decide+kernel)]
  have:numS 2 = [50]:=by decide+kernel
  simp [ss,strsL,this]] at hv
 have hr:=wrounds (r:=3) Yez (by omega)
 rw [show rC L1 d12 3=0 by unfold rC; rw [Yk8]; rfl,if_pos rfl,show (3:Int).toNat=3 from rfl,Y9h,show numsR [7/4] = .tup [.sl (strsL [[55,47,52]]),.int .i64 0] by
  unfold numsR
  rw [if_pos (by decide+kernel)]
  have:numS (7/4) = [55,47,52]:=by decide+kernel
  simp [ss,strsL,this]] at hr
 refine Zae Yjp (by simp) ?_
 unfold Yc1
 simp only [go_sem,Zz8,Z0t]
 refine Zhy (ids := [0,1]) hv (.cons (Y4s rfl (by simp) (Y4x rfl (by simp))) (.cons (.str _) .nil)) ?_
 simp only [go_sem,Z16,kill,List.foldl_cons,List.foldl_nil]
 refine Zhy (ids := [2,3]) hr (.cons (Y4s rfl (by simp) (Y4x rfl (by simp))) (.cons (.str _) (.cons (.int _ _) .nil))) ?_
 simp only [go_sem,Z1n,kill,List.foldl_cons,List.foldl_nil]
 have s1:=rsame (l := [[50]]) (by decide)
 have s2:=rsame (l := [[55,47,52]]) (by decide)
 refine Zq8 (ids := [4]) s1 (.cons (.sl _) (.cons (Yu5 rfl (by simp)) .nil)) (.inr (.bool _)) (fun b _=>trivial) ?_
 simp only [go_sem]
 refine Zq8 (ids := [5]) s2 (.cons (.sl _) (.cons (Yu5 rfl (by simp)) .nil)) (.inr (.bool _)) (fun b _=>trivial) ?_
 simp only [go_sem]
end GoAbs
namespace GoAbs
open Go Go.Proofs
set_option maxHeartbeats 4000000
theorem Y6o {g:Gm}(hg:GmP g) (hl:GmL g) {x:GN}(hx:x∈g.nodes) {v:List Rat}{D:Rat}(hv:∀ j,j<g.nodes.length→Zq (rget v j*D)) (hD:Zq D):Zq (worthR x v*(2520*D)):=by
 have hok:=hg.ok.node x hx
 have z2520:Zq 2520:=⟨2520,rfl⟩
 have hmv:∀ t,t<x.to.length→Zq (rget v (x.to.getD t 0)*D):=fun t ht=>hv _ (hok.lt _ (Zbm ht))
 have key:∀ t,t<x.to.length→Zq (rget v (x.to.getD t 0)*(2520*D)):=fun t ht=>by
  rw [show rget v (x.to.getD t 0)*(2520*D)=rget v (x.to.getD t 0)*D*2520 by grind]
  exact (hmv t ht).mul z2520
 unfold worthR
 split
 ·exact key _ (Zd0 hok.pos (Nat.le_refl _))
 ·split
  ·exact key _ (Zd0 hok.pos (Nat.le_refl _))
  ·rename_i h1 h2
   have h3:x.kind=3:=by have:=hok.kind; omega
   have ho:=(hok.odds h3).1
   have hz:∀ t,t<x.to.length→Zq (rget x.odds t*2520):=fun t ht=>(hl.odds x hx h3 _ (List.mem_of_getElem? (Zai (by omega)))).z.q
   have main:∀ k,k≤x.to.length→Zq (dotW x.odds v x.to k*(2520*D)):=by
    intro k
    induction k with
    | zero=>intro _; exact ⟨0,by show (0:Rat)*_=_; rw [Rat.zero_mul]; rfl⟩
    | succ k ih =>
     intro hk
     show Zq ((dotW x.odds v x.to k+rget x.odds k*rget v (x.to.getD k 0))*(2520*D))
     rw [show (dotW x.odds v x.to k+rget x.odds k*rget v (x.to.getD k 0))*(2520*D)=dotW x.odds v x.to k*(2520*D)+(rget x.odds k*2520)*(rget v (x.to.getD k 0)*D) by grind]
     exact (ih (by omega)).add ((hz k (by omega)).mul (hmv k (by omega)))
   exact main _ (Nat.le_refl _)
theorem Yi2 {g:Gm}(hg:GmP g) {i:Nat}(hi:i<g.nodes.length) {c:Rat}:worthR (nodeAt g i) (List.replicate g.nodes.length c)=c:=by
 have hx:=Zbd hi
 have hok:=hg.ok.node _ hx
 have hod:=hg.odds _ hx
 unfold worthR
 split
 ·exact Zbx (hok.lt _ (Zbm (Zd0 hok.pos (Nat.le_refl _))))
 ·split
  ·exact Zbx (hok.lt _ (Zbm (Zd0 hok.pos (Nat.le_refl _))))
  ·rename_i h1 h2
   have h3:(nodeAt g i).kind=3:=by have:=hok.kind; omega
   rw [Z3y (Nat.le_refl _) hok.lt,(hod h3).2]; grind
theorem Yu6 {g:Gm}(hg:GmP g) (hl:GmL g):∀ k i,i<g.nodes.length→rget (rndR g k) i≤100000 ∧ -100000≤rget (rndR g k) i
 | 0,i,hi=>by
  rw [show rget (rndR g 0) i=0 from Zbx hi]
  constructor <;> decide
 | k+1,i,hi=>by
  have ih:=Yu6 hg hl k
  have hs:=Yly hg
  have h9:=frac9 hl.d hg.d1
  have hr:=(hl.rew _ (List.mem_of_getElem? (Zai (r:=g.rew) (j:=i) (by rw [hg.ok.rew]; exact hi)))).abs
  rw [show rget (rndR g (k+1)) i=nextV g (rndR g k) i from Z3c hi]
  have c:∀ x:Rat,nextV g (List.replicate g.nodes.length x) i=rget g.rew i+g.d*x:=fun x=>by
   unfold nextV
   show _+g.d*worthR (nodeAt g i) _=_
   rw [Yi2 hg hi]
  have a1:=hs.mono (u:=rndR g k) (v:=List.replicate g.nodes.length 100000) (fun j hj=>by rw [Zbx hj]; exact (ih j hj).1) i hi
  have a2:=hs.mono (u:=List.replicate g.nodes.length (-100000)) (v:=rndR g k) (fun j hj=>by rw [Zbx hj]; exact (ih j hj).2) i hi
  rw [c] at a1 a2
  constructor <;> grind
def rD:Nat→Rat
 | 0=>1
 | k+1=>2520*(2520*rD k)
theorem Y42:∀ k,0<rD k
 | 0=>by decide
 | k+1=>Rat.mul_pos (by decide) (Rat.mul_pos (by decide) (Y42 k))
theorem Y2g:∀ k,Zb (1+24*k) (rD k)
 | 0=>⟨1,rfl,by decide⟩
 | k+1=>by
  have h:Zb 12 2520:=⟨2520,rfl,by decide⟩
  exact (h.mul (h.mul (Y2g k))).mono (by omega)
theorem Xay {g:Gm}(hg:GmP g) (hl:GmL g):∀ k i,i<g.nodes.length→Zq (rget (rndR g k) i*rD k)
 | 0,i,hi=>⟨0,by rw [show rget (rndR g 0) i=0 from Zbx hi,Rat.zero_mul]; rfl⟩
 | k+1,i,hi=>by
  have ih:=Xay hg hl k
  have hw:=Y6o hg hl (Zbd hi) ih (Y2g k).q
  have z2520:Zq 2520:=⟨2520,rfl⟩
  have hr:=(hl.rew _ (List.mem_of_getElem? (Zai (r:=g.rew) (j:=i) (by rw [hg.ok.rew]; exact hi)))).z.q
  rw [show rget (rndR g (k+1)) i=nextV g (rndR g k) i from Z3c hi]
  unfold nextV
  show Zq ((rget g.rew i+g.d*worthR (nodeAt g i) (rndR g k))*(2520*(2520*rD k)))
  rw [show (rget g.rew i+g.d*worthR (nodeAt g i) (rndR g k))*(2520*(2520*rD k))=(rget g.rew i*2520)*(2520*rD k)+(g.d*2520)*(worthR (nodeAt g i) (rndR g k)*(2520*rD k)) by grind]
  exact (hr.mul (z2520.mul (Y2g k).q)).add (hl.d.z.q.mul hw)
theorem Yoh {g:Gm}(hg:GmP g) (hl:GmL g) {k:Nat}(hk:k≤30):Rb 800 (rndR g k):=fun q hq=>by
 obtain ⟨i,hi⟩:=List.getElem?_of_mem hq
 have hlt:=(List.getElem?_eq_some_iff.1 hi).1
 have hq':=Zai hlt
 rw [hi] at hq'
 have hqe:q=rget (rndR g k) i:=by simpa using hq'
 rw [Zj0] at hlt
 have ha:=Yu6 hg hl k i hlt
 have e17:(2:Rat) ^ 17=131072:=by decide+kernel
 rw [hqe]
 exact (Ywf (c:=17) (Y42 k) (Y2g k) (Xay hg hl k i hlt) (by rw [e17]; grind) (by rw [e17]; grind)).mono (by omega)
end GoAbs
namespace GoAbs
open Go Go.Proofs
set_option maxHeartbeats 4000000
theorem Ydy {H:Heap}{ids:List Nat}{q:Rat}:BVs H ids (rq q) (rq q)=True:=Yp4
theorem Xdw {d:List UInt8}(hd:okB d=true) (hl:d.length≤1000):SpecV Tryz.prog Yny [.str (bs d)] (.agg (rq ((parseL d).getD 0))):=rof (by omega) (okBq hd)
end GoAbs
namespace GoAbs
open Go Go.Proofs
set_option maxHeartbeats 8000000
theorem txts_len' (M:List (List UInt8)):(txts M).length=M.length:=by simp [txts]
end GoAbs
namespace GoAbs
open Go Go.Proofs
set_option maxHeartbeats 4000000
theorem Yqb (M:List (List UInt8)):M.map strAV=txts M:=rfl
end GoAbs
namespace GoAbs
open Go Go.Proofs
set_option maxHeartbeats 4000000
end GoAbs
namespace GoAbs
open Go Go.Proofs
set_option exponentiation.threshold 20000
def rho (l lo hi:Nat) (sg:Rat) (s:Nat):Rat:=if s=l then 1 else if lo≤s∧s<hi then sg else 0
end GoAbs
namespace GoAbs
open Go Go.Proofs
end GoAbs
namespace GoAbs
open Go Go.Proofs
set_option exponentiation.threshold 20000
theorem Yic {q:Rat}(h:NumOk q):(numS q).length≤1000000000:=by have:=Y10 h; omega
end GoAbs
namespace GoAbs
open Go Go.Proofs
set_option exponentiation.threshold 20000
theorem Yxu {F:List Rat}(hok:∀ q,q∈F→NumOk q):(F.map numS).map toQ=F:=by
 rw [List.map_map]
 conv=>rhs; rw [← List.map_id F]
 exact List.map_congr_left fun q hq=>by
  show toQ (numS q)=q
  unfold toQ; rw [Zu5 (hok q hq)]; rfl
end GoAbs
namespace GoAbs
open Go Go.Proofs
set_option maxHeartbeats 4000000
theorem Yec {g:Gm}(hg:GmP g) (hl:GmL g):Rb 4000 (valG g):=by
 obtain ⟨q,h1,h2⟩:=Ybh hg
 rw [h2]
 exact Ykx hg hl h1.ok
theorem Yxr (x:List Rat):ss x=txts (x.map numS):=by unfold ss txts; rw [List.map_map]; rfl
end GoAbs
namespace GoAbs
open Go Go.Proofs
set_option maxHeartbeats 8000000
def pk (l:List Int) (i:Nat):Int:=l.getD i 0
def mdMany (mv:List Int) (i:Nat):Nat:=(pk mv (4*i) % 3+1).toNat
def mdW (mv:List Int) (i k:Nat):Int:=IntKind.i64.wrap ((pk mv (4*i+k+1)).tdiv 7) % 3+1
def mdS (mv:List Int) (i:Nat):Nat→Int
 | 0=>0
 | k+1=>mdS mv i k+mdW mv i k
def mdKind (ks:List Int) (i:Nat):Int:=pk ks i % 3+1
def mdRew (rs:List Int) (i:Nat):Rat:=(((pk rs i).tmod 50:Int):Rat)
def mdOdd (mv:List Int) (i k:Nat):Rat:=Rat.divInt (mdW mv i k) (mdS mv i (mdMany mv i))
def mdMv (size:Nat) (kd:Int) (mv:List Int) (i k:Nat):Mv:=(pk mv (4*i+k+1) % (size:Int),if kd=3 then numS (mdOdd mv i k) else [])
def mdN (size:Nat) (ks rs mv:List Int) (i:Nat):Nd:=⟨mdKind ks i,numS (mdRew rs i),(List.range (mdMany mv i)).map (mdMv size (mdKind ks i) mv i)⟩
def mdL (size:Nat) (ks rs mv:List Int):List Nd:=(List.range size).map (mdN size ks rs mv)
def mdD (d:Int):Rat:=Rat.divInt (d % 7) (d % 7+1+d / 7 % 3)
theorem Zr3 (mv:List Int) (i:Nat):1≤mdMany mv i∧mdMany mv i≤3:=by
 unfold mdMany
 have h1:=Int.emod_nonneg (pk mv (4*i)) (show (3:Int)≠0 by decide)
 have h2:=Int.emod_lt_of_pos (pk mv (4*i)) (show (0:Int)<3 by decide)
 omega
theorem Yo5 (mv:List Int) (i k:Nat):1≤mdW mv i k∧mdW mv i k≤3:=by
 unfold mdW
 have h1:=Int.emod_nonneg (IntKind.i64.wrap ((pk mv (4*i+k+1)).tdiv 7)) (show (3:Int)≠0 by decide)
 have h2:=Int.emod_lt_of_pos (IntKind.i64.wrap ((pk mv (4*i+k+1)).tdiv 7)) (show (0:Int)<3 by decide)
 omega
theorem Yyy (mv:List Int) (i:Nat):∀ k:Nat,(k:Int)≤mdS mv i k∧mdS mv i k≤3*k
 | 0=>by unfold mdS; omega
 | k+1=>by
  have h1:=Yyy mv i k
  have h2:=Yo5 mv i k
  unfold mdS
  omega
theorem Ylo (mv:List Int) (i:Nat):1≤mdS mv i (mdMany mv i)∧mdS mv i (mdMany mv i)≤9:=by
 have h1:=Zr3 mv i
 have h2:=Yyy mv i (mdMany mv i)
 omega
theorem Ykr (ks:List Int) (i:Nat):mdKind ks i=1∨mdKind ks i=2∨mdKind ks i=3:=by
 unfold mdKind
 have h1:=Int.emod_nonneg (pk ks i) (show (3:Int)≠0 by decide)
 have h2:=Int.emod_lt_of_pos (pk ks i) (show (0:Int)<3 by decide)
 omega
theorem Yp6 (rs:List Int) (i:Nat):(mdRew rs i).den=1∧(mdRew rs i).num=(pk rs i).tmod 50∧(mdRew rs i).num.natAbs<50:=by
 have h1:=(Z8j (v:=pk rs i) (n:=50) (by decide)).1
 have h2:=(Z8j (v:=pk rs i) (n:=50) (by decide)).2.1
 unfold mdRew
 refine ⟨rfl,rfl,?_⟩
 show ((pk rs i).tmod 50).natAbs<50
 omega
theorem Ye0 (mv:List Int) (i k:Nat):(mdOdd mv i k).den≤9∧(mdOdd mv i k).num.natAbs≤3∧0<mdOdd mv i k:=by
 have h1:=Yo5 mv i k
 have h2:=Ylo mv i
 unfold mdOdd
 obtain ⟨n1,n2⟩:=Zdn (n:=mdW mv i k) (d:=mdS mv i (mdMany mv i)) (by omega)
 refine ⟨by omega,by omega,?_⟩
 rw [Rat.divInt_eq_div,Rat.div_def]
 have a1:(0:Rat)<((mdW mv i k:Int):Rat):=by exact_mod_cast (show (0:Int)<mdW mv i k by omega)
 have a2:(0:Rat)<((mdS mv i (mdMany mv i):Int):Rat):=by exact_mod_cast (show (0:Int)<mdS mv i (mdMany mv i) by omega)
 exact Rat.mul_pos a1 (Rat.inv_pos.2 a2)
theorem qb20 {q:Rat}(h:q.num.natAbs<1048576∧q.den<1048576):Qb 20 q:=⟨h.1,h.2⟩
theorem lpick {p:List Int}{i:Nat}:SpecV Tryz.prog Yr1 [.sl (ivs p),.int .i64 (i:Int)] (.int .i64 (pk p i)):=by
 refine Zae Ynn (by simp) ?_
 unfold Yjk
 by_cases hi:i<p.length
 ·have q0:(0:Int)≤(i:Int):=by omega
  have q1:(i:Int)<(p.length:Int):=by omega
  have hg:(ivs p)[i]? = some (.int .i64 (pk p i)):=Z90 (by unfold pk; rw [List.getD_eq_getElem?_getD,List.getElem?_eq_getElem hi]; rfl)
  simp only [go_sem,Zrb,Zq2,Z4f,Zbr,q0,q1,hg]
 ·have q1:¬ (i:Int)<(p.length:Int):=by omega
  have hg:pk p i=0:=by unfold pk; rw [List.getD_eq_getElem?_getD,List.getElem?_eq_none (by omega)]; rfl
  rw [hg]
  simp only [go_sem,Zrb,Zq2,Z4o,Zbr,q1]
theorem lfold1 {v n:Int}(hn:0<n) (hnl:n≤1000000):SpecV Tryz.prog Ynl [.int .i64 v,.int .i64 n] (.int .i64 (v % n)):=by
 obtain ⟨h1,h2,h3⟩:=Z8j (v:=v) hn
 have hn0:n≠0:=by omega
 have e1:IntKind.i64.wrap (v.tmod n+n)=v.tmod n+n:=Zac (by omega) (by omega)
 refine Zae Yjl (by simp) ?_
 unfold Yc5
 simp only [go_sem,Zzx,Z20,hn0,e1,h3]
theorem lnumq {q:Rat}{k:Nat}(hb:Qb k q) (hk:k≤10000000) (hok:NumOk q):SpecV Tryz.prog Ywx [.agg (rq q)] (.str (bs (numS q))):=by
 have h:=rnum hb.ib.1 hb.ib.2 (by have:=q.den_pos; omega) hk (Rat.num_divInt_den q)
 rw [if_pos hok] at h
 have h':SpecV Tryz.prog Ykj [.agg (rq q)] (.tup [.str (bs (numS q)),.bool true]):=h
 have rl:∀ q:Rat,(rq q).length=4:=fun q=>rfl
 refine Zae Yrw (by simp) ?_
 unfold Yo4
 simp only [go_sem,Yau,Z92,rl,Ygr,Yfs]
 refine Zaa h' (by simp only [go_sem,Ydy]) ?_
 simp only [go_sem,Ybs]
theorem Y6l {P:List AV}{B1:Blk}{ks rs mv:List Int}{d size:Int}{i:Nat}(hi:i≤10) (hP:∀ f,gcL f P=P) (hB:∀ f,B1.gc f=B1) {K:Ex→St→Prop}
  (hK:∀ e:Nat→AV,Has e [(1,.sl (ivs ks)),(2,.sl (ivs rs)),(3,.sl (ivs mv)),(4,.int .u8 d),(12,.osl (some 3) 0 0 i),(13,.int .i64 size),(14,.int .i64 (i:Int)),(15,.ptr 1 0),(16,.int .i64 (mdMany mv i:Int)),(17,.osl none 2 0 (mdMany mv i)),(18,.int .i64 (mdS mv i (mdMany mv i)))] →
   K (.exit 2) ⟨e,[.cells P,B1,.cells (ivs ((List.range (mdMany mv i)).map (mdW mv i)))]⟩) :
  T Tryz.prog 125 0 (.loop Zs3) ⟨envL [(1,.sl (ivs ks)),(2,.sl (ivs rs)),(3,.sl (ivs mv)),(4,.int .u8 d),(12,.osl (some 3) 0 0 i),(13,.int .i64 size),(14,.int .i64 (i:Int)),(15,.ptr 1 0),(16,.int .i64 (mdMany mv i:Int)),(17,.osl none 2 0 0),(18,.int .i64 0),(19,.int .i64 0)],[.cells P,B1,.cells []]⟩ K:=by
 have hmx:Tryz.prog.follows .mixedOrders=true:=by kernel_rfl
 have hm:=Zr3 mv i
 obtain ⟨n,hn⟩:∃ n,n=mdMany mv i:=⟨_,rfl⟩
 rw [← hn] at hK hm ⊢
 refine Zaf (fun k:Nat=>⟨envL [(1,.sl (ivs ks)),(2,.sl (ivs rs)),(3,.sl (ivs mv)),(4,.int .u8 d),(12,.osl (some 3) 0 0 i),(13,.int .i64 size),(14,.int .i64 (i:Int)),(15,.ptr 1 0),(16,.int .i64 (n:Int)),(17,.osl none 2 0 k),(18,.int .i64 (mdS mv i k)),(19,.int .i64 (k:Int))],[.cells P,B1,.cells (ivs ((List.range k).map (mdW mv i)))]⟩)
  (fun k=>k≤n) (fun k=>n - k) 0 (by omega) (Zab _ (by simp only [go_sem,mdS]; simp)) (fun k hk N hN=>?_)
 unfold Zs3
 by_cases hkn:k<n
 ·have hpk:=lpick (p:=mv) (i:=4*i+k+1)
  have hfo:=lfold1 (v:=IntKind.i64.wrap ((pk mv (4*i+k+1)).tdiv 7)) (n:=3) (by decide) (by decide)
  have hwl:=Yo5 mv i k
  have hsl:=Yyy mv i k
  have hwd:IntKind.i64.wrap ((pk mv (4*i+k+1)).tdiv 7) % 3=mdW mv i k - 1:=by unfold mdW; omega
  rw [hwd] at hfo
  have hs:mdS mv i (k+1)=mdS mv i k+mdW mv i k:=rfl
  have tk:ivs ((List.range (k+1)).map (mdW mv i))=ivs ((List.range k).map (mdW mv i)) ++ [.int .i64 (mdW mv i k)]:=by rw [List.range_succ]; simp [ivs]
  have l1:(ivs ((List.range k).map (mdW mv i))).length=k:=by rw [Zbr]; simp
  have l2:(ivs ((List.range k).map (mdW mv i))).take k=ivs ((List.range k).map (mdW mv i)):=List.take_of_length_le (by omega)
  have hg:=fun f=>Yuj (f:=f) (p:=(List.range k).map (mdW mv i))
  generalize ivs ((List.range k).map (mdW mv i))=W at *
  have q1:(k:Int)<(n:Int):=by omega
  have s1:(k+1)*8≤1099511627776:=by omega
  have x1:IntKind.i64.wrap (4*(i:Int))=4*(i:Int):=Zac (by omega) (by omega)
  have x2:IntKind.i64.wrap (4*(i:Int)+(k:Int))=4*(i:Int)+(k:Int):=Zac (by omega) (by omega)
  have x3:IntKind.i64.wrap (4*(i:Int)+(k:Int)+1)=((4*i+k+1:Nat):Int):=by rw [Zac (by omega) (by omega)]; omega
  have x4:IntKind.i64.wrap (mdW mv i k - 1+1)=mdW mv i k:=by rw [Zac (by omega) (by omega)]; omega
  have x5:IntKind.i64.wrap (mdS mv i k+mdW mv i k)=mdS mv i k+mdW mv i k:=Zac (by omega) (by omega)
  have c7:¬ (7:Int)=0:=by decide
  have e1:IntKind.i64.wrap ((k:Int)+1)=((k+1:Nat):Int):=by rw [Zac (by omega) (by omega)]; omega
  simp only [go_sem,Zn5,Zzt,q1,x1,x2,x3]
  refine Zaa hpk (by simp only [go_sem]) ?_
  simp only [go_sem,c7]
  refine Zaa hfo (by simp only [go_sem]) ?_
  simp only [go_sem,x4,x5,Z19,s1,l1,l2,Nat.mul_one,Nat.le_refl,Z2w,e1,List.cons_append,List.nil_append]
  refine hN (k+1) _ (by omega) (by omega) (Zb5 (Zhf [0,1,4] (by decide) (fun i hi=>by omega) [(1,.sl (ivs ks)),(2,.sl (ivs rs)),(3,.sl (ivs mv)),(4,.int .u8 d),(12,.osl (some 3) 0 0 i),(13,.int .i64 size),(14,.int .i64 (i:Int)),(15,.ptr 1 0),(16,.int .i64 (n:Int)),(17,.osl none 4 0 (k+1)),(18,.int .i64 (mdS mv i k+mdW mv i k)),(19,.int .i64 ((k+1:Nat):Int))] (by simp only [go_sem])) ?_)
  show St.mk _ [Blk.cells (gcL _ P),B1.gc _,Blk.cells (gcL _ (W ++ [AV.int .i64 (mdW mv i k)]))]=_
  rw [Z1c,hg,hP,hB,hs,tk]
  rfl
 ·have hke:k=n:=by omega
  subst hke
  have q1:¬ ((k:Nat):Int)<(k:Int):=by omega
  simp only [go_sem,Zn5,q1]
  exact hK _ (by simp only [go_sem])
theorem Y70 {P:List AV}{ks rs mv:List Int}{d kd:Int}{size:Nat}{i:Nat}{s:ByteArray}(hi:i≤10) (hsz:1≤size∧size≤10) (hP:∀ f,gcL f P=P) (hkd:kd=1∨kd=2∨kd=3) {K:Ex→St→Prop}
  (hK:∀ e:Nat→AV,Has e [(1,.sl (ivs ks)),(2,.sl (ivs rs)),(3,.sl (ivs mv)),(4,.int .u8 d),(12,.osl (some 3) 0 0 i),(13,.int .i64 (size:Int)),(14,.int .i64 (i:Int)),(15,.ptr 1 0)] →
   K (.exit 4) ⟨e,[.cells P,.cells [.int .i64 kd,.str s,.osl (some 2) 3 0 (mdMany mv i)],.cells (ivs ((List.range (mdMany mv i)).map (mdW mv i))),.cells (((List.range (mdMany mv i)).map (mdMv size kd mv i)).flatMap mvC)]⟩) :
  T Tryz.prog 125 0 (.loop Zj6) ⟨envL [(1,.sl (ivs ks)),(2,.sl (ivs rs)),(3,.sl (ivs mv)),(4,.int .u8 d),(12,.osl (some 3) 0 0 i),(13,.int .i64 (size:Int)),(14,.int .i64 (i:Int)),(15,.ptr 1 0),(16,.int .i64 (mdMany mv i:Int)),(17,.osl none 2 0 (mdMany mv i)),(18,.int .i64 (mdS mv i (mdMany mv i))),(21,.int .i64 0)],
   [.cells P,.cells [.int .i64 kd,.str s,.osl (some 2) 3 0 0],.cells (ivs ((List.range (mdMany mv i)).map (mdW mv i))),.cells []]⟩ K:=by
 have hmx:Tryz.prog.follows .mixedOrders=true:=by kernel_rfl
 have hm:=Zr3 mv i
 have hsp:=Ylo mv i
 have hod:∀ k,mdOdd mv i k=Rat.divInt (mdW mv i k) (mdS mv i (mdMany mv i)):=fun k=>rfl
 have hodl:=Ye0 mv i
 obtain ⟨sm,hsm⟩:∃ sm,sm=mdS mv i (mdMany mv i):=⟨_,rfl⟩
 rw [← hsm] at hod hsp ⊢
 obtain ⟨n,hn⟩:∃ n,n=mdMany mv i:=⟨_,rfl⟩
 rw [← hn] at hK hm ⊢
 have hwl:(ivs ((List.range n).map (mdW mv i))).length=n:=by rw [Zbr]; simp
 have hwg:∀ k,k<n→(ivs ((List.range n).map (mdW mv i)))[k]? = some (.int .i64 (mdW mv i k)):=fun k hk=>Z90 (by rw [List.getElem?_map,List.getElem?_range hk]; rfl)
 have hWgc:=fun f=>Yuj (f:=f) (p:=(List.range n).map (mdW mv i))
 generalize ivs ((List.range n).map (mdW mv i))=W at *
 refine Zaf (fun k:Nat=>⟨envL [(1,.sl (ivs ks)),(2,.sl (ivs rs)),(3,.sl (ivs mv)),(4,.int .u8 d),(12,.osl (some 3) 0 0 i),(13,.int .i64 (size:Int)),(14,.int .i64 (i:Int)),(15,.ptr 1 0),(16,.int .i64 (n:Int)),(17,.osl none 2 0 n),(18,.int .i64 sm),(21,.int .i64 (k:Int))],
   [.cells P,.cells [.int .i64 kd,.str s,.osl (some 2) 3 0 k],.cells W,.cells (((List.range k).map (mdMv size kd mv i)).flatMap mvC)]⟩)
  (fun k=>k≤n) (fun k=>n - k) 0 (by omega) (Zab _ (by simp only [go_sem]; simp)) (fun k hk N hN=>?_)
 unfold Zj6
 by_cases hkn:k<n
 ·have hpk:=lpick (p:=mv) (i:=4*i+k+1)
  have hfo:=lfold1 (v:=pk mv (4*i+k+1)) (n:=(size:Int)) (by omega) (by omega)
  have htk:((List.range (k+1)).map (mdMv size kd mv i)).flatMap mvC=((List.range k).map (mdMv size kd mv i)).flatMap mvC ++ [.int .i64 (pk mv (4*i+k+1) % (size:Int)),.str (bs (if kd=3 then numS (mdOdd mv i k) else []))]:=by
   rw [List.range_succ,List.map_append,List.flatMap_append]; rfl
  have hPl:(((List.range k).map (mdMv size kd mv i)).flatMap mvC).length=k*2:=by rw [Y7p]; simp
  have hPg:=fun f=>Y4n (M:=(List.range k).map (mdMv size kd mv i)) f
  generalize ((List.range k).map (mdMv size kd mv i)).flatMap mvC=Q at *
  have hwk:=Yo5 mv i k
  have hgw:(W.drop k)[0]? = some (.int .i64 (mdW mv i k)):=by rw [List.getElem?_drop,Nat.add_zero]; exact hwg k hkn
  have q0:(0:Int)≤(k:Int):=by omega
  have q1:(k:Int)<(n:Int):=by omega
  have s1:(k+1)*24≤1099511627776:=by omega
  have s2:k*2≤Q.length:=by omega
  have tQ:Q.take (k*2)=Q:=List.take_of_length_le (by omega)
  have x1:IntKind.i64.wrap (4*(i:Int))=4*(i:Int):=Zac (by omega) (by omega)
  have x2:IntKind.i64.wrap (4*(i:Int)+(k:Int))=4*(i:Int)+(k:Int):=Zac (by omega) (by omega)
  have x3:IntKind.i64.wrap (4*(i:Int)+(k:Int)+1)=((4*i+k+1:Nat):Int):=by rw [Zac (by omega) (by omega)]; omega
  have e1:IntKind.i64.wrap ((k:Int)+1)=((k+1:Nat):Int):=by rw [Zac (by omega) (by omega)]; omega
  have fin:∀ (e:Nat→AV) (kd':Int) (l:List UInt8) (B4 B5:Blk),kd'=kd→l=(if kd=3 then numS (mdOdd mv i k) else [])→Has e [(1,.sl (ivs ks)),(2,.sl (ivs rs)),(3,.sl (ivs mv)),(4,.int .u8 d),(12,.osl (some 3) 0 0 i),(13,.int .i64 (size:Int)),(14,.int .i64 (i:Int)),(15,.ptr 1 0),(16,.int .i64 (n:Int)),(17,.osl none 2 0 n),(18,.int .i64 sm),(21,.int .i64 ((k+1:Nat):Int))] →
    N ⟨e,[.cells P,.cells [.int .i64 kd',.str s,.osl (some 2) 6 0 (k+1)],.cells W,.dead,B4,B5,.cells (Q ++ [.int .i64 (pk mv (4*i+k+1) % (size:Int)),.str (bs l)])]⟩:=fun e kd' l B4 B5 hkd' hl he=>by
   subst hkd' hl
   refine hN (k+1) _ (by omega) (by omega) (Zb5 (Zhf [0,1,2,6] (by decide) (fun i hi=>by omega) _ he) ?_)
   rw [← htk]
   show St.mk _ [Blk.cells (gcL _ P),_,Blk.cells (gcL _ W),Blk.cells (gcL _ (((List.range (k+1)).map (mdMv size kd' mv i)).flatMap mvC))]=_
   rw [Y4n,hP,hWgc]
   rfl
  by_cases k3:kd=3
  ·have hob:=hodl k
   have hmk:=rmake (n:=mdW mv i k) (d:=sm) (by omega) (by omega) (by omega)
   have hmk':SpecV Tryz.prog Z34 [.int .i64 (mdW mv i k),.int .i64 sm] (.agg (rq (mdOdd mv i k))):=by rw [hod]; exact hmk
   have hqb:Qb 20 (mdOdd mv i k):=qb20 (by omega)
   have hnm:=lnumq hqb (by omega) (Zig hqb (by omega))
   simp only [go_sem,Zif,Zog,q1,x1,x2,x3]
   refine Zaa hpk (by simp only [go_sem]) ?_
   simp only [go_sem]
   refine Zaa hfo (by simp only [go_sem]) ?_
   simp only [go_sem,Zoq,Zz2,k3,q0,q1,hwl,hgw,List.cons_append,List.nil_append]
   refine Zaa hmk' (by simp only [go_sem]) ?_
   simp only [go_sem]
   refine Zaa hnm (by simp only [go_sem,Ydy]) ?_
   simp only [go_sem,Zn4,Znt,s1,s2,tQ,e1,List.cons_append,List.nil_append]
   exact fin _ _ _ _ _ k3.symm (by rw [if_pos k3]) (by simp only [go_sem])
  ·simp only [go_sem,Zif,Zog,q1,x1,x2,x3]
   refine Zaa hpk (by simp only [go_sem]) ?_
   simp only [go_sem]
   refine Zaa hfo (by simp only [go_sem]) ?_
   simp only [go_sem,Zoq,k3,Zn4,Znt,s1,s2,tQ,e1,List.cons_append,List.nil_append]
   exact fin _ _ [] _ _ rfl (by rw [if_neg k3]) (by simp only [go_sem])
 ·have hke:k=n:=by omega
  subst hke
  have q1:¬ ((k:Nat):Int)<(k:Int):=by omega
  simp only [go_sem,Zif,q1]
  exact hK _ (by simp only [go_sem])
theorem Y5a {d:Int}(hd:0≤d∧d≤255):(mdD d).den≤9∧(mdD d).num.natAbs≤6:=by
 unfold mdD
 obtain ⟨n1,n2⟩:=Zdn (n:=d % 7) (d:=d % 7+1+d / 7 % 3) (by omega)
 omega
theorem Y6p {ks rs mv:List Int}{d:Int}{size:Nat}(hsz:1≤size∧size≤5) {K:Ex→St→Prop}
  (hK:∀ e:Nat→AV,e 4 = .int .u8 d→e 12 = .osl (some 3) 0 0 size→K (.exit 0) ⟨e,[.cells ((mdL size ks rs mv).flatMap ndC)]⟩) :
  T Tryz.prog 125 0 (.loop Zto) ⟨envL [(1,.sl (ivs ks)),(2,.sl (ivs rs)),(3,.sl (ivs mv)),(4,.int .u8 d),(12,.osl (some 3) 0 0 0),(13,.int .i64 (size:Int)),(14,.int .i64 0)],[.cells []]⟩ K:=by
 have hmx:Tryz.prog.follows .mixedOrders=true:=by kernel_rfl
 refine Zq9 (fun i:Nat=>⟨envL [(1,.sl (ivs ks)),(2,.sl (ivs rs)),(3,.sl (ivs mv)),(4,.int .u8 d),(12,.osl (some 3) 0 0 i),(13,.int .i64 (size:Int)),(14,.int .i64 (i:Int))],[.cells (((List.range i).map (mdN size ks rs mv)).flatMap ndC)]⟩)
  (fun i=>i≤size) (fun i=>size - i) 0 (by omega) (Zab _ (by simp only [go_sem]; simp)) (fun i hi N hN=>?_)
 unfold Zto
 by_cases hin:i<size
 ·have hpk:=lpick (p:=ks) (i:=i)
  have hfo:=lfold1 (v:=pk ks i) (n:=3) (by decide) (by decide)
  have hpr:=lpick (p:=rs) (i:=i)
  have hpm:=lpick (p:=mv) (i:=4*i)
  have hfm:=lfold1 (v:=pk mv (4*i)) (n:=3) (by decide) (by decide)
  have hkd:=Ykr ks i
  have hkd':pk ks i % 3=mdKind ks i - 1:=by unfold mdKind; omega
  rw [hkd'] at hfo
  have hmn:=Zr3 mv i
  have hmn':pk mv (4*i) % 3=(mdMany mv i:Int) - 1:=by
   unfold mdMany at hmn ⊢
   omega
  rw [hmn'] at hfm
  obtain ⟨r1,r2,r3⟩:=Yp6 rs i
  have hrq:Qb 20 (mdRew rs i):=qb20 ⟨by omega,by omega⟩
  have hwh:SpecV Tryz.prog Zx6 [.int .i64 ((pk rs i).tmod 50)] (.agg (rq (mdRew rs i))):=by
   have h:=rwhole (v:=(pk rs i).tmod 50) (by omega)
   have e:avR ((pk rs i).tmod 50) 1 = .agg (rq (mdRew rs i)):=by unfold rq; rw [r2,r1]; rfl
   rw [e] at h
   exact h
  have hnm:=lnumq hrq (by omega) (Zig hrq (by omega))
  have htk:((List.range (i+1)).map (mdN size ks rs mv)).flatMap ndC=((List.range i).map (mdN size ks rs mv)).flatMap ndC++ndC (mdN size ks rs mv i):=by rw [List.range_succ,List.map_append,List.flatMap_append]; simp
  have hPl:(((List.range i).map (mdN size ks rs mv)).flatMap ndC).length=i*3:=by rw [Y9l]; simp
  have hPg:=fun f=>Xbv (M:=(List.range i).map (mdN size ks rs mv)) f
  generalize ((List.range i).map (mdN size ks rs mv)).flatMap ndC=P at *
  have c50:¬ (50:Int)=0:=by decide
  have q1:(i:Int)<(size:Int):=by omega
  have s1:(i+1)*48≤1099511627776:=by omega
  have s2:i*3≤P.length:=by omega
  have tP:P.take (i*3)=P:=List.take_of_length_le (by omega)
  have x1:IntKind.i64.wrap (4*(i:Int))=((4*i:Nat):Int):=by rw [Zac (by omega) (by omega)]; omega
  have x2:IntKind.i64.wrap (mdKind ks i - 1+1)=mdKind ks i:=by rw [Zac (by omega) (by omega)]; omega
  have x3:IntKind.i64.wrap ((mdMany mv i:Int) - 1+1)=(mdMany mv i:Int):=by rw [Zac (by omega) (by omega)]; omega
  have e1:IntKind.i64.wrap ((i:Int)+1)=((i+1:Nat):Int):=by rw [Zac (by omega) (by omega)]; omega
  refine Zbi 0 rfl ?_
  simp only [go_sem,Ztb,q1]
  refine Zbg (Zbe (Zbi 2 rfl ?_))
  simp only [go_sem,Z6i]
  refine Zaa hpk (by simp only [go_sem]) ?_
  simp only [go_sem]
  refine Zaa hfo (by simp only [go_sem]) ?_
  simp only [go_sem,x2]
  refine Zaa hpr (by simp only [go_sem]) ?_
  simp only [go_sem,c50]
  refine Zaa hwh (by simp only [go_sem]) ?_
  simp only [go_sem]
  refine Zaa hnm (by simp only [go_sem,Ydy]) ?_
  simp only [go_sem,Z5x,x1,List.cons_append,List.nil_append]
  refine Zaa hpm (by simp only [go_sem]) ?_
  simp only [go_sem]
  refine Zaa hfm (by simp only [go_sem]) ?_
  simp only [go_sem,x3,Z5g]
  refine T_le (Zky 17 none (by simp only [go_sem]) [(1,.sl (ivs ks)),(2,.sl (ivs rs)),(3,.sl (ivs mv)),(4,.int .u8 d),(12,.osl (some 3) 0 0 i),(13,.int .i64 (size:Int)),(14,.int .i64 (i:Int)),(15,.ptr 1 0),(16,.int .i64 (mdMany mv i:Int)),(18,.int .i64 0)] (by simp only [go_sem])) ?_
  refine Zbg (Zbg (T_W ?_))
  simp only [go_sem,Z44,List.cons_append,List.nil_append,List.length_cons,List.length_nil]
  refine Zbe (Zau [(1,.sl (ivs ks)),(2,.sl (ivs rs)),(3,.sl (ivs mv)),(4,.int .u8 d),(12,.osl (some 3) 0 0 i),(13,.int .i64 (size:Int)),(14,.int .i64 (i:Int)),(15,.ptr 1 0),(16,.int .i64 (mdMany mv i:Int)),(17,.osl none 2 0 0),(18,.int .i64 0),(19,.int .i64 0)] (by simp only [go_sem]) (Y6l (by omega) hPg (fun f=>rfl) (fun e he=>?_)))
  show T Tryz.prog 125 0 (.seq (.seq (.rg false Zmy) (.block 4 (.loop Zj6))) (.rg false Zfc)) _ _
  refine T_le (Znn (Zab _ he) (Znn Yjo (Zb5 (Z71 (b:=1) (l := [.int .i64 (mdKind ks i),.str (bs (numS (mdRew rs i))),.nils]) (l' := [.int .i64 (mdKind ks i),.str (bs (numS (mdRew rs i))),.osl (some 2) 3 0 0]) rfl rfl (fun j x y hx hy=>?_)) rfl))) ?_
  ·match j with
   | 0=>simp at hx hy; subst hx hy; exact .inl rfl
   | 1=>simp at hx hy; subst hx hy; exact .inl rfl
   | 2=>simp at hx hy; subst hx hy; exact .inr ⟨rfl,_,_,_,rfl⟩
   | j+3=>simp at hx
  refine Zbg (Zbg (T_W ?_))
  simp only [go_sem,Zmy]
  refine Zbe (Zau [(1,.sl (ivs ks)),(2,.sl (ivs rs)),(3,.sl (ivs mv)),(4,.int .u8 d),(12,.osl (some 3) 0 0 i),(13,.int .i64 (size:Int)),(14,.int .i64 (i:Int)),(15,.ptr 1 0),(16,.int .i64 (mdMany mv i:Int)),(17,.osl none 2 0 (mdMany mv i)),(18,.int .i64 (mdS mv i (mdMany mv i))),(21,.int .i64 0)] (by simp only [go_sem]) (Y70 (by omega) (by omega) hPg hkd (fun e he=>?_)))
  show T Tryz.prog 125 0 (.rg false Zfc) _ _
  have hnd:ndC (mdN size ks rs mv i) = [.int .i64 (mdKind ks i),.str (bs (numS (mdRew rs i))),.sl (((List.range (mdMany mv i)).map (mdMv size (mdKind ks i) mv i)).map mvAV)]:=rfl
  refine T_le (Ywd (b:=1) (ids := [3]) (l := [.int .i64 (mdKind ks i),.str (bs (numS (mdRew rs i))),.osl (some 2) 3 0 (mdMany mv i)]) (l':=ndC (mdN size ks rs mv i)) rfl (by decide) rfl (fun j x y hx hy=>?_) [(1,.sl (ivs ks)),(2,.sl (ivs rs)),(3,.sl (ivs mv)),(4,.int .u8 d),(12,.osl (some 3) 0 0 i),(13,.int .i64 (size:Int)),(14,.int .i64 (i:Int)),(15,.ptr 1 0)] (Ymm he)) ?_
  ·rw [hnd] at hy
   match j with
   | 0=>simp at hx hy; subst hx hy; exact .inr rfl
   | 1=>simp at hx hy; subst hx hy; exact .inr rfl
   | 2 =>
    simp only [List.getElem?_cons_succ,List.getElem?_cons_zero,Option.some.injEq] at hx hy
    subst hx hy
    have hbv:=Y98 (H := [Blk.cells P,.cells [.int .i64 (mdKind ks i),.str (bs (numS (mdRew rs i))),.osl (some 2) 3 0 (mdMany mv i)],.cells (ivs ((List.range (mdMany mv i)).map (mdW mv i))),.cells (((List.range (mdMany mv i)).map (mdMv size (mdKind ks i) mv i)).flatMap mvC)]) (ids := [3]) (b:=3) (M:=(List.range (mdMany mv i)).map (mdMv size (mdKind ks i) mv i)) rfl (by simp)
    rw [List.length_map,List.length_range] at hbv
    exact .inl hbv
   | j+3=>simp at hx
  show T Tryz.prog 125 0 (.rg false Zfc) ⟨_,[.cells P,.cells (ndC (mdN size ks rs mv i)),.cells (ivs ((List.range (mdMany mv i)).map (mdW mv i))),.dead]⟩ _
  have n3:(ndC (mdN size ks rs mv i)).length=3:=rfl
  have n3':(ndC (mdN size ks rs mv i)).take 3=ndC (mdN size ks rs mv i):=rfl
  have n3d:(ndC (mdN size ks rs mv i)).drop 3 = []:=rfl
  have hng:∀ f,gcL f (ndC (mdN size ks rs mv i))=ndC (mdN size ks rs mv i):=fun f=>rfl
  generalize ndC (mdN size ks rs mv i)=nd at *
  refine T_W ?_
  simp only [go_sem,Zfc,n3,n3',n3d,s1,s2,tP,Nat.le_refl,List.cons_append,List.nil_append]
  refine T_W ?_
  simp only [go_sem,Z0f,e1]
  refine hN (i+1) _ (by omega) (by omega) (Zb5 (Zhf [5] (by decide) (fun i hi=>by omega) [(1,.sl (ivs ks)),(2,.sl (ivs rs)),(3,.sl (ivs mv)),(4,.int .u8 d),(12,.osl (some 3) 5 0 (i+1)),(13,.int .i64 (size:Int)),(14,.int .i64 ((i+1:Nat):Int))] (by simp only [go_sem])) ?_)
  show St.mk _ [Blk.cells (gcL _ (P++nd))]=_
  rw [Z1c,hPg,hng, ← htk]
  rfl
 ·have hie:i=size:=by omega
  subst hie
  have q1:¬ ((i:Nat):Int)<(i:Int):=by omega
  refine T_W ?_
  simp only [go_sem,Ztb,q1]
  exact hK _ (by simp only [go_sem]) (by simp only [go_sem])
theorem lmade {n d:Int}{ks rs mv:List Int}(hn:0≤n∧n≤255) (hd:0≤d∧d≤255):SpecV Tryz.prog Ys9 [.int .u8 n,.sl (ivs ks),.sl (ivs rs),.sl (ivs mv),.int .u8 d] (.tup [.sl ((mdL (n % 5+1).toNat ks rs mv).map ndAV),.str (bs (numS (mdD d)))]):=by
 obtain ⟨size,hsz⟩:∃ size,size=(n % 5+1).toNat:=⟨_,rfl⟩
 rw [← hsz]
 have hs5:1≤size∧size≤5:=by omega
 have c5:¬ (5:Int)=0:=by decide
 have c7:¬ (7:Int)=0:=by decide
 have c3:¬ (3:Int)=0:=by decide
 have w1:IntKind.i64.wrap n=n:=Zac (by omega) (by omega)
 have w2:IntKind.i64.wrap d=d:=Zac (by omega) (by omega)
 have t5:n.tmod 5=n % 5:=Int.tmod_eq_emod_of_nonneg hn.1
 have t7:d.tmod 7=d % 7:=Int.tmod_eq_emod_of_nonneg hd.1
 have d7:d.tdiv 7=d / 7:=Int.tdiv_eq_ediv_of_nonneg hd.1
 have t3:(d / 7).tmod 3=d / 7 % 3:=Int.tmod_eq_emod_of_nonneg (by omega)
 have x1:IntKind.i64.wrap (n % 5+1)=(size:Int):=by rw [Zac (by omega) (by omega)]; omega
 have x2:IntKind.i64.wrap (d % 7+1)=d % 7+1:=Zac (by omega) (by omega)
 have x3:IntKind.i64.wrap (d / 7)=d / 7:=Zac (by omega) (by omega)
 have x4:IntKind.i64.wrap (d % 7+1+d / 7 % 3)=d % 7+1+d / 7 % 3:=Zac (by omega) (by omega)
 have hmk:=rmake (n:=d % 7) (d:=d % 7+1+d / 7 % 3) (by omega) (by omega) (by omega)
 have hmk':SpecV Tryz.prog Z34 [.int .i64 (d % 7),.int .i64 (d % 7+1+d / 7 % 3)] (.agg (rq (mdD d))):=hmk
 have hdl:=Y5a hd
 have hqb:Qb 20 (mdD d):=qb20 (by omega)
 have hnm:=lnumq hqb (by omega) (Zig hqb (by omega))
 have hll:(mdL size ks rs mv).length=size:=by unfold mdL; rw [List.length_map,List.length_range]
 refine Za5 Yll (by simp) (Zbi 2 rfl ?_)
 unfold Yjt
 simp only [go_sem,Z4r,Z6f,Z54,w1,c5,t5,x1]
 refine T_le (Zky 12 (some 3) (by simp only [go_sem]) [(1,.sl (ivs ks)),(2,.sl (ivs rs)),(3,.sl (ivs mv)),(4,.int .u8 d),(13,.int .i64 (size:Int))] (by simp only [go_sem])) ?_
 refine Zbg (Zbg (T_W ?_))
 simp only [go_sem,Z6l]
 refine Zbe (Zau [(1,.sl (ivs ks)),(2,.sl (ivs rs)),(3,.sl (ivs mv)),(4,.int .u8 d),(12,.osl (some 3) 0 0 0),(13,.int .i64 (size:Int)),(14,.int .i64 0)] (by simp only [go_sem]) (Y6p hs5 (fun e k4 k12=>?_)))
 show T Tryz.prog 125 0 (.seq (.rg false Zmx) .ret) _ _
 refine T_W ?_
 simp only [go_sem,Zmx,k4,k12,w2,c7,t7,d7,t3,c3,x2,x3,x4]
 refine Zaa hmk' (by simp only [go_sem]) ?_
 simp only [go_sem]
 refine Zaa hnm (by simp only [go_sem,Ydy]) ?_
 simp only [go_sem,k12]
 have hbn:=Xc1 (H := [Blk.cells ((mdL size ks rs mv).flatMap ndC)]) (ids := [0]) (b:=0) (M:=mdL size ks rs mv) rfl (by simp)
 rw [hll] at hbn
 exact hbn
end GoAbs
namespace GoAbs
open Go Go.Proofs
set_option maxHeartbeats 4000000
def Fr (k:Nat) (q:Rat) (A:List AV):Prop:=∃ n d:Int,A=rc n d∧0<d∧Ib k n∧Ib k d∧q=Rat.divInt n d
theorem Zu0 {n d:Int}(h:0<d):Rat.divInt n d*((d:Int):Rat)=((n:Int):Rat):=by
 have hd:((d:Int):Rat)≠0:=by
  have:(0:Rat)<((d:Int):Rat):=by exact_mod_cast h
  grind
 rw [Rat.divInt_eq_div,Rat.div_def,Rat.mul_assoc,Rat.inv_mul_cancel _ hd,Rat.mul_one]
theorem Fr.bvs {k:Nat}{q:Rat}{A:List AV}(h:Fr k q A) (H:Heap) (ids:List Nat):BVs H ids A A=True:=by
 obtain ⟨n,d,rfl,_⟩:=h
 exact Yp4
theorem Fr.len {k:Nat}{q:Rat}{A:List AV}(h:Fr k q A):A.length=4:=by
 obtain ⟨n,d,rfl,_⟩:=h
 rfl
theorem Fr.gc {k:Nat}{q:Rat}{A:List AV}(h:Fr k q A) (f:Nat→Option Nat):gcL f A=A:=by
 obtain ⟨n,d,rfl,_⟩:=h
 rfl
theorem Fr.take {k:Nat}{q:Rat}{A:List AV}(h:Fr k q A):A.take 4=A:=by
 obtain ⟨n,d,rfl,_⟩:=h
 rfl
theorem Fr.drop {k:Nat}{q:Rat}{A:List AV}(h:Fr k q A):A.drop 4 = []:=by
 obtain ⟨n,d,rfl,_⟩:=h
 rfl
theorem Fr.mono {k l:Nat}{q:Rat}{A:List AV}(h:Fr k q A) (hkl:k≤l):Fr l q A:=by
 obtain ⟨n,d,h1,h2,h3,h4,h5⟩:=h
 exact ⟨n,d,h1,h2,h3.mono hkl,h4.mono hkl,h5⟩
theorem Fr.of {k:Nat}{q:Rat}(h:Qb k q):Fr k q (rq q):=⟨q.num,q.den,rfl,by have:=q.den_pos; omega,h.ib.1,h.ib.2,(Rat.num_divInt_den q).symm⟩
theorem Fr.neg {k:Nat}{q:Rat}{A:List AV}(h:Fr k q A):A[0]? = some (.bool (decide (q<0))):=by
 obtain ⟨n,d,rfl,h2,_,_,h5⟩:=h
 have e:=Zu0 (n:=n) h2
 rw [← h5] at e
 have hd:(0:Rat)<((d:Int):Rat):=by exact_mod_cast h2
 have hh:(n<0)↔(q<0):=by
  constructor
  ·intro hn
   have:((n:Int):Rat)<0:=by exact_mod_cast hn
   refine Rat.not_le.1 (fun h0=>?_)
   have:=Rat.mul_nonneg h0 (Rat.le_of_lt hd)
   grind
  ·intro hq
   have:=Rat.mul_lt_mul_of_pos_right hq hd
   have h0:((n:Int):Rat)<0:=by grind
   exact_mod_cast h0
 show some (AV.bool (decide (n<0)))=_
 rw [show decide (n<0)=decide (q<0) from decide_eq_decide.2 hh]
theorem Ypu {v:Int}(hv:v.natAbs<1048576):Fr 20 ((v:Int):Rat) (rc v 1)∧SpecV Tryz.prog Zx6 [.int .i64 v] (.agg (rc v 1)):=by
 refine ⟨⟨v,1,rfl,by decide,hv,show (1:Int).natAbs<2 ^ 20 by decide,?_⟩,rwhole (by omega)⟩
 rw [Rat.divInt_eq_div,Rat.div_def]
 have:(((1:Int):Rat))⁻¹=1:=by decide+kernel
 rw [this,Rat.mul_one]
theorem Xe4 {k:Nat}{p q:Rat}{A B:List AV}(ha:Fr k p A) (hb:Fr k q B) (hk:k≤1000000):∃ C,Fr (2*k+1) (p+q) C∧SpecV Tryz.prog Ycp [.agg A,.agg B] (.agg C):=by
 obtain ⟨n,d,rfl,hd,hn1,hd1,rfl⟩:=ha
 obtain ⟨m,e,rfl,he,hm1,he1,rfl⟩:=hb
 exact ⟨_,⟨_,_,rfl,Int.mul_pos hd he,Ib.add (k:=2*k) ((Ib.mul hn1 he1).mono (by omega)) ((Ib.mul hm1 hd1).mono (by omega)),(Ib.mul hd1 he1).mono (by omega),Rat.divInt_add_divInt _ _ (by omega) (by omega)⟩,raddq hn1 hd1 hm1 he1 hk⟩
theorem Y4k {k:Nat}{p q:Rat}{A B:List AV}(ha:Fr k p A) (hb:Fr k q B) (hk:k≤1000000):∃ C,Fr (2*k+1) (p - q) C∧SpecV Tryz.prog Zl5 [.agg A,.agg B] (.agg C):=by
 obtain ⟨n,d,rfl,hd,hn1,hd1,rfl⟩:=ha
 obtain ⟨m,e,rfl,he,hm1,he1,rfl⟩:=hb
 have hneg:Ib (k+k) (-(m*d)):=by
  have:=Ib.mul hm1 hd1
  unfold Ib at *
  rwa [Int.natAbs_neg]
 have hi:Ib (2*k+1) (n*e - m*d):=by
  rw [Int.sub_eq_add_neg]
  exact (Ib.add (Ib.mul hn1 he1) hneg).mono (by omega)
 exact ⟨_,⟨_,_,rfl,Int.mul_pos hd he,hi,(Ib.mul hd1 he1).mono (by omega),Rat.divInt_sub_divInt _ _ (by omega) (by omega)⟩,rsubq hn1 hd1 hm1 he1 hk⟩
theorem Xby {k:Nat}{p q:Rat}{A B:List AV}(ha:Fr k p A) (hb:Fr k q B) (hk:k≤1000000):∃ C,Fr (2*k) (p*q) C∧SpecV Tryz.prog Yek [.agg A,.agg B] (.agg C):=by
 obtain ⟨n,d,rfl,hd,hn1,hd1,rfl⟩:=ha
 obtain ⟨m,e,rfl,he,hm1,he1,rfl⟩:=hb
 exact ⟨_,⟨_,_,rfl,Int.mul_pos hd he,(Ib.mul hn1 hm1).mono (by omega),(Ib.mul hd1 he1).mono (by omega),Rat.divInt_mul_divInt _ _⟩,rmulq hn1 hd1 hm1 he1 hk⟩
theorem Y4z {k:Nat}{p q:Rat}{A B:List AV}(ha:Fr k p A) (hb:Fr k q B) (hk:k≤1000000):SpecV Tryz.prog Z3e [.agg A,.agg B] (.int .i64 (cmpR p q)):=by
 obtain ⟨n,d,rfl,hd,hn1,hd1,hp⟩:=ha
 obtain ⟨m,e,rfl,he,hm1,he1,hq⟩:=hb
 have h:=rcmpq hn1 hd1 hm1 he1 hk
 have hdd:(0:Rat)<((d:Int):Rat):=by exact_mod_cast hd
 have hee:(0:Rat)<((e:Int):Rat):=by exact_mod_cast he
 have h1:=Zu0 (n:=n) hd
 have h2:=Zu0 (n:=m) he
 rw [← hp] at h1
 rw [← hq] at h2
 have hde:=Rat.mul_pos hdd hee
 have c1:((n*e:Int):Rat)=p*(((d:Int):Rat)*((e:Int):Rat)):=by rw [Rat.intCast_mul]; grind
 have c2:((m*d:Int):Rat)=q*(((d:Int):Rat)*((e:Int):Rat)):=by rw [Rat.intCast_mul]; grind
 have l1:n*e<m*d↔p<q:=by rw [← Rat.intCast_lt_intCast,c1,c2,Rat.mul_lt_mul_right hde]
 have l2:m*d<n*e↔q<p:=by rw [← Rat.intCast_lt_intCast,c1,c2,Rat.mul_lt_mul_right hde]
 have e1:(if n*e=m*d then (0:Int) else if n*e<m*d then -1 else 1)=cmpR p q:=by
  unfold cmpR
  by_cases a:n*e<m*d
  ·rw [if_neg (by omega),if_pos a,if_pos (l1.1 a)]
  ·by_cases b:m*d<n*e
   ·rw [if_neg (by omega),if_neg a,if_neg (fun x=>a (l1.2 x)),if_pos (l2.1 b)]
   ·rw [if_pos (by omega),if_neg (fun x=>a (l1.2 x)),if_neg (fun x=>b (l2.2 x))]
 rw [e1] at h
 exact h
end GoAbs
namespace GoAbs
open Go Go.Proofs
set_option maxHeartbeats 4000000
theorem Lt9.fit {q:Rat}(h:Lt9 q):Fitd 12 q:=by
 obtain ⟨h1,h2⟩:=h
 have c:10000<10 ^ 12:=by decide
 exact ⟨Z3t (by decide) (by omega),Z3t (by decide) (by omega)⟩
theorem Lt9.qb {q:Rat}(h:Lt9 q):Qb 20 q:=qb20 (by have:=h.1; have:=h.2; omega)
theorem Lt9.ok {q:Rat}(h:Lt9 q):NumOk q:=Zig h.qb (by omega)
theorem Lt9.len {q:Rat}(h:Lt9 q):1≤(numS q).length∧(numS q).length≤23:=by
 have a:=Z3t (n:=q.num.natAbs) (k:=4) (by decide) (by have:=h.2; omega)
 have b:=Z3t (n:=q.den) (k:=1) (by decide) (by have:=h.1; omega)
 have c:=Ypc q.num.natAbs
 unfold numS
 rw [List.length_append,List.length_append]
 split <;> split <;> simp only [List.length_cons,List.length_nil] <;> omega
theorem Lt9.ne {q:Rat}(h:Lt9 q):(numS q).isEmpty=false:=by
 have:=h.len.1
 cases hn:numS q with
 | nil=>rw [hn] at this; simp at this
 | cons a l=>rfl
theorem Lt9.parse {q:Rat}(h:Lt9 q):parseL (numS q)=some q:=Zu5 h.ok
structure NT (N:Nat) (n:Nd):Prop where
 kind:n.kind=1∨n.kind=2∨n.kind=3
 rew:∃ q,n.rew=numS q∧Lt9 q
 len:1≤n.mv.length∧n.mv.length≤6
 to:∀ m,m∈n.mv→0≤m.1∧m.1<(N:Int)
 no:n.kind≠3→∀ m,m∈n.mv→m.2 = []
 odds:n.kind=3→(∀ m,m∈n.mv→∃ q,m.2=numS q∧Lt9 q∧0<q)∧sumM n.mv=1
theorem NT.facts {N:Nat}{n:Nd}(h:NT N n):ndVa n=true∧ndFi N n=true∧n.rew.length≤23∧n.mv.length≤7∧∀ m,m∈n.mv→m.2.length≤23:=by
 have hm:∀ m,m∈n.mv→(m.2 = []∧n.kind≠3)∨(n.kind=3∧∃ q,m.2=numS q∧Lt9 q∧0<q):=fun m hmm=>by
  by_cases h3:n.kind=3
  ·exact .inr ⟨h3,(h.odds h3).1 m hmm⟩
  ·exact .inl ⟨h.no h3 m hmm,h3⟩
 obtain ⟨q,hq,hl⟩:=h.rew
 have hpr:parseL n.rew=some q:=by rw [hq]; exact hl.parse
 refine ⟨?_,?_,?_,by have:=h.len; omega,?_⟩
 ·unfold ndVa vaM okB
  rw [hpr]
  simp only [Option.isSome_some,Bool.true_and,List.all_eq_true]
  intro m hmm
  rcases hm m hmm with ⟨e,_⟩ | ⟨_,p,e,hp,_⟩
  ·rw [e]; rfl
  ·rw [e,hp.parse]; simp
 ·unfold ndFi smallB fiM
  rw [hpr]
  simp only [Bool.and_eq_true,decide_eq_true_eq,List.all_eq_true]
  refine ⟨⟨⟨hl.fit,fun m hmm=>?_⟩,h.len⟩,?_⟩
  ·have ht:=h.to m hmm
   unfold mvFit mvFit1
   simp only [Bool.and_eq_true,decide_eq_true_eq,beq_iff_eq,Bool.or_eq_true]
   rcases hm m hmm with ⟨e,h3⟩ | ⟨h3,p,e,hp,hp0⟩
   ·rw [e]; exact ⟨⟨⟨ht.1,ht.2⟩,by simp [h3]⟩,.inl rfl⟩
   ·refine ⟨⟨⟨ht.1,ht.2⟩,?_⟩,.inr ?_⟩
    ·rw [h3,e,hp.ne]; rfl
    ·rw [e,hp.parse]; unfold mvFit2; simp [hp0,hp.fit]
  ·unfold kindF
   rcases h.kind with k | k | k
   ·simp [k]
   ·simp [k]
   ·simp [k,(h.odds k).2]
 ·rw [hq]; exact hl.len.2
 ·intro m hmm
  rcases hm m hmm with ⟨e,_⟩ | ⟨_,p,e,hp,_⟩
  ·rw [e]; simp
  ·rw [e]; exact hp.len.2
structure LT (L:List Nd) (d:List UInt8):Prop where
 n:1≤L.length∧L.length≤5
 nd:∀ n,n∈L→NT L.length n
 d:∃ q,d=numS q∧Lt9 q∧0≤q∧q<1
theorem LT.gin {L:List Nd}{d:List UInt8}(h:LT L d):GIn L d:=by
 obtain ⟨q,hq,hl,_⟩:=h.d
 exact ⟨.inl h.n.2,by rw [hq]; exact hl.len.2,fun n hn=>(h.nd n hn).facts.2.2⟩
theorem LT.ec {L:List Nd}{d:List UInt8}(h:LT L d):eC L d=0:=by
 obtain ⟨q,hq,hl,h0,h1⟩:=h.d
 have hp:parseL d=some q:=by rw [hq]; exact hl.parse
 have hv:(L.all ndVa && okB d)=true:=by
  rw [Bool.and_eq_true,List.all_eq_true]
  exact ⟨fun n hn=>(h.nd n hn).facts.1,by unfold okB; rw [hp]; rfl⟩
 have hf:gFit L d=true:=by
  unfold gFit disF smallB
  rw [hp]
  simp only [Bool.and_eq_true,decide_eq_true_eq,List.all_eq_true]
  exact ⟨⟨⟨h.n.1,by have:=h.n.2; omega⟩,fun n hn=>(h.nd n hn).facts.2.1⟩,hl.fit,h0,h1⟩
 unfold eC
 rw [hv,hf]; rfl
theorem LT.gmL {L:List Nd}{d:List UInt8}(h:LT L d):GmL (toGm L d):=by
 refine ⟨fun q hq=>?_,?_,fun x hx h3 q hq=>?_,?_⟩
 ·obtain ⟨n,hn,rfl⟩:=List.mem_map.1 hq
  obtain ⟨p,hp,hl⟩:=(h.nd n hn).rew
  show Lt9 ((parseL n.rew).getD 0)
  rw [hp,hl.parse]; exact hl
 ·obtain ⟨q,hq,hl,h0,h1⟩:=h.d
  show Lt9 ((parseL d).getD 0)
  rw [hq,hl.parse]; exact hl
 ·obtain ⟨n,hn,rfl⟩:=List.mem_map.1 hx
  obtain ⟨m,hm,rfl⟩:=List.mem_map.1 hq
  have hmm:=(List.mem_filter.1 hm).1
  have h3':n.kind=3:=by have:n.kind.toNat=3:=h3; omega
  obtain ⟨p,hp,hl,_⟩:=((h.nd n hn).odds h3').1 m hmm
  rw [hp,hl.parse]; exact hl
 ·show (L.map toGN).length≤5
  rw [List.length_map]; exact h.n.2
theorem LT.gmP {L:List Nd}{d:List UInt8}(h:LT L d):GmP (toGm L d)∧(toGm L d).nodes.length=L.length:=by
 obtain ⟨_,hg,hgn,_⟩:=((Z7y h.gin).resolve_left (fun x=>x.1 h.ec)).2
 exact ⟨hg,hgn⟩
theorem LT.dq {L:List Nd}{d:List UInt8}(h:LT L d):okB d=true∧d.length≤23∧(toGm L d).d=(parseL d).getD 0∧Lt9 (toGm L d).d:=by
 obtain ⟨q,hq,hl,h0,h1⟩:=h.d
 have hp:parseL d=some q:=by rw [hq]; exact hl.parse
 exact ⟨by unfold okB; rw [hp]; rfl,by rw [hq]; exact hl.len.2,rfl,h.gmL.d⟩
theorem lvals {L:List Nd}{d:List UInt8}(h:LT L d):SpecV Tryz.prog Yht [.sl (L.map ndAV),.str (bs d)] (.tup [rowV (valG (toGm L d)),.bool true]):=by
 obtain ⟨hg,hgn⟩:=h.gmP
 have hv:=wvalue h.gin
 have hvl:=Z2j hg
 have hrb:=Yec hg h.gmL
 have hL5:=h.n
 rw [if_pos h.ec] at hv
 have hok:∀ q,q∈valG (toGm L d)→NumOk q:=fun q hq=>Zig (hrb q hq) (by omega)
 rw [show numsR (valG (toGm L d)) = .tup [.sl (ss (valG (toGm L d))),.int .i64 0] from if_pos hok,Yxr] at hv
 obtain ⟨V,hV⟩:∃ V,V=valG (toGm L d):=⟨_,rfl⟩
 rw [← hV] at hv hvl hrb hok ⊢
 obtain ⟨M,hM⟩:∃ M,M=V.map numS:=⟨_,rfl⟩
 have hMV:M.map toQ=V:=by rw [hM]; exact Yxu hok
 have hMn:M.length=L.length:=by rw [hM,List.length_map,hvl,hgn]
 have hMl:∀ s,s∈M→s.length≤1000000000:=fun s hs=>by
  rw [hM] at hs
  obtain ⟨q,hq,rfl⟩:=List.mem_map.1 hs
  exact Yic (hok q hq)
 have hMp:∀ s,s∈M→okB s=true:=fun s hs=>by
  rw [hM] at hs
  obtain ⟨q,hq,rfl⟩:=List.mem_map.1 hs
  unfold okB
  rw [Zu5 (hok q hq)]; rfl
 have hMall:M.all okB=true:=List.all_eq_true.2 hMp
 have hnm:=rnums (L:=M) (by omega) hMl
 rw [show numsE M=0 by unfold numsE; rw [if_pos (show (M.all fun s=>(parseL s).isSome)=true from hMall)],Yqb] at hnm
 have hqs:=rqs (L:=M) (fun s hs=>⟨hMl s hs,hMp s hs⟩) (by omega)
 rw [hMV] at hqs
 have hle:((M.length:Nat):Int)=(L.length:Int):=by omega
 rw [← hM] at hv
 refine Zae Yf2 (by simp) ?_
 unfold Z9y
 simp only [go_sem,Zv0,Zw9]
 refine Zaa hv (by simp only [go_sem]) ?_
 simp only [go_sem,Zvy,txts_len',List.length_map,hle]
 refine Zaa hnm (by simp only [go_sem]) ?_
 simp only [go_sem,Zxc]
 refine Zaa hqs (by simp only [go_sem]) ?_
 simp only [go_sem,rowV]
theorem lrnd {L:List Nd}{d:List UInt8}(h:LT L d) {r:Nat}(hr:r≤8):∃ M:List (List UInt8),SpecV Tryz.prog Z03 [.sl (L.map ndAV),.str (bs d),.int .i64 (r:Int)] (.tup [.sl (txts M),.int .i64 0])∧M.length=L.length∧M.map toQ=rndR (toGm L d) r∧SpecV Tryz.prog Ydn [.sl (txts M)] (.int .i64 0)∧SpecV Tryz.prog Yof [.sl (txts M)] (rowV (rndR (toGm L d) r))∧(∀ s,s∈M→okB s=true∧s.length≤1000000000):=by
 obtain ⟨hg,hgn⟩:=h.gmP
 have hv:=wrounds (r:=(r:Int)) h.gin (.inr (.inr (by omega)))
 have hrb:=Yoh hg h.gmL (k:=r) (by omega)
 have hL5:=h.n
 have hrc:rC L d (r:Int)=0:=by unfold rC; rw [if_pos h.ec,if_neg (by omega)]
 rw [hrc,if_pos rfl,Int.toNat_natCast] at hv
 have hvl:=Zj0 (g:=toGm L d) r
 have hok:∀ q,q∈rndR (toGm L d) r→NumOk q:=fun q hq=>Zig (hrb q hq) (by omega)
 rw [show numsR (rndR (toGm L d) r) = .tup [.sl (ss (rndR (toGm L d) r)),.int .i64 0] from if_pos hok,Yxr] at hv
 obtain ⟨V,hV⟩:∃ V,V=rndR (toGm L d) r:=⟨_,rfl⟩
 rw [← hV] at hv hvl hrb hok ⊢
 obtain ⟨M,hM⟩:∃ M,M=V.map numS:=⟨_,rfl⟩
 have hMV:M.map toQ=V:=by rw [hM]; exact Yxu hok
 have hMn:M.length=L.length:=by rw [hM,List.length_map,hvl,hgn]
 have hMl:∀ s,s∈M→s.length≤1000000000:=fun s hs=>by
  rw [hM] at hs
  obtain ⟨q,hq,rfl⟩:=List.mem_map.1 hs
  exact Yic (hok q hq)
 have hMp:∀ s,s∈M→okB s=true:=fun s hs=>by
  rw [hM] at hs
  obtain ⟨q,hq,rfl⟩:=List.mem_map.1 hs
  unfold okB
  rw [Zu5 (hok q hq)]; rfl
 have hMall:M.all okB=true:=List.all_eq_true.2 hMp
 have hnm:=rnums (L:=M) (by omega) hMl
 rw [show numsE M=0 by unfold numsE; rw [if_pos (show (M.all fun s=>(parseL s).isSome)=true from hMall)],Yqb] at hnm
 have hqs:=rqs (L:=M) (fun s hs=>⟨hMl s hs,hMp s hs⟩) (by omega)
 rw [hMV] at hqs
 rw [← hM] at hv
 exact ⟨M,hv,hMn,hMV,hnm,hqs,fun s hs=>⟨hMp s hs,hMl s hs⟩⟩
theorem Yj0 (mv:List Int) (i k:Nat):Lt9 (mdOdd mv i k):=by
 have:=Ye0 mv i k
 exact ⟨by omega,by omega⟩
theorem Yax {a b s:Int}:Rat.divInt a s+Rat.divInt b s=Rat.divInt (a+b) s:=by
 rw [Rat.divInt_eq_div,Rat.divInt_eq_div,Rat.divInt_eq_div,Rat.div_def,Rat.div_def,Rat.div_def,Rat.intCast_add,Rat.add_mul]
theorem Y4e {size:Nat}{mv:List Int}{i:Nat}:∀ k,sumM ((List.range k).map (mdMv size 3 mv i))=Rat.divInt (mdS mv i k) (mdS mv i (mdMany mv i))
 | 0=>by
  show (0:Rat)=Rat.divInt 0 _
  rw [Rat.divInt_eq_div,Rat.div_def]
  exact (Rat.zero_mul _).symm
 | k+1=>by
  rw [List.range_succ,List.map_append,List.map_cons,List.map_nil,Z8o,Y4e k]
  unfold stepM
  have hl:=Yj0 mv i k
  have e:(mdMv size 3 mv i k).2=numS (mdOdd mv i k):=by unfold mdMv; rw [if_pos rfl]
  rw [e,hl.ne,if_neg (by decide),hl.parse]
  show _+mdOdd mv i k=_
  unfold mdOdd
  rw [Yax]
  rfl
theorem Xdg {size:Nat}(hs:1≤size) (ks rs mv:List Int) (i:Nat):NT size (mdN size ks rs mv i):=by
 have hm:=Zr3 mv i
 have hmem:∀ m,m∈(mdN size ks rs mv i).mv→∃ k,m=mdMv size (mdKind ks i) mv i k:=fun m h=>by
  obtain ⟨k,_,rfl⟩:=List.mem_map.1 h
  exact ⟨k,rfl⟩
 have hlen:(mdN size ks rs mv i).mv.length=mdMany mv i:=by
  show ((List.range _).map _).length=_
  rw [List.length_map,List.length_range]
 refine ⟨Ykr ks i,⟨_,rfl,?_⟩,by omega,fun m h=>?_,fun h3 m h=>?_,fun h3=>⟨fun m h=>?_,?_⟩⟩
 ·have:=Yp6 rs i
  exact ⟨by omega,by omega⟩
 ·obtain ⟨k,rfl⟩:=hmem m h
  exact ⟨Int.emod_nonneg _ (by omega),Int.emod_lt_of_pos _ (by omega)⟩
 ·obtain ⟨k,rfl⟩:=hmem m h
  exact if_neg h3
 ·obtain ⟨k,rfl⟩:=hmem m h
  exact ⟨_,if_pos h3,Yj0 mv i k,(Ye0 mv i k).2.2⟩
 ·have h3':mdKind ks i=3:=h3
  show sumM ((List.range (mdMany mv i)).map (mdMv size (mdKind ks i) mv i))=1
  rw [h3',Y4e]
  have:=Ylo mv i
  have hp:((mdS mv i (mdMany mv i):Int):Rat)≠0:=by
   have:(0:Rat)<((mdS mv i (mdMany mv i):Int):Rat):=by exact_mod_cast (show (0:Int)<mdS mv i (mdMany mv i) by omega)
   grind
  rw [Rat.divInt_eq_div,Rat.div_def,Rat.mul_inv_cancel _ hp]
theorem md_d {d:Int}(hd:0≤d∧d≤255):∃ q,numS (mdD d)=numS q∧Lt9 q∧0≤q∧q<1:=by
 have h:=Y5a hd
 have hden:(0:Int)<d % 7+1+d / 7 % 3:=by omega
 have hdr:(0:Rat)<((d % 7+1+d / 7 % 3:Int):Rat):=by exact_mod_cast hden
 have hm:=Zu0 (n:=d % 7) hden
 refine ⟨mdD d,rfl,⟨by omega,by omega⟩,?_,?_⟩
 ·refine Rat.not_lt.1 (fun hn=>?_)
  have h1:=Rat.mul_lt_mul_of_pos_right hn hdr
  unfold mdD at h1
  rw [hm,Rat.zero_mul] at h1
  have:(d % 7:Int)<0:=by exact_mod_cast h1
  omega
 ·refine Rat.not_le.1 (fun hn=>?_)
  have h1:=Rat.mul_le_mul_of_nonneg_right hn (Rat.le_of_lt hdr)
  unfold mdD at h1
  rw [hm,Rat.one_mul] at h1
  have:(d % 7+1+d / 7 % 3:Int)≤d % 7:=by exact_mod_cast h1
  omega
theorem Xef {size:Nat}(hs:1≤size∧size≤5) (ks rs mv:List Int) {d:Int}(hd:0≤d∧d≤255):LT (mdL size ks rs mv) (numS (mdD d)):=by
 have hl:(mdL size ks rs mv).length=size:=by unfold mdL; rw [List.length_map,List.length_range]
 refine ⟨by omega,fun n hn=>?_,md_d hd⟩
 rw [hl]
 obtain ⟨i,_,rfl⟩:=List.mem_map.1 hn
 exact Xdg hs.1 ks rs mv i
def tabAV (n d:Int) (ks rs mv:List Int):AV := .agg [.int .u8 n,.int .u8 d,.sl (ivs ks),.sl (ivs rs),.sl (ivs mv)]
def tabL (n:Int) (ks rs mv:List Int):List Nd:=mdL (n % 5+1).toNat ks rs mv
theorem lgame {n d:Int}{ks rs mv:List Int}(hn:0≤n∧n≤255) (hd:0≤d∧d≤255):SpecV Tryz.prog Yjs [tabAV n d ks rs mv] (.tup [.sl ((tabL n ks rs mv).map ndAV),.str (bs (numS (mdD d)))]):=by
 have h:=lmade (ks:=ks) (rs:=rs) (mv:=mv) hn hd
 unfold tabAV
 refine Zae Yfw (by simp) ?_
 unfold Z80
 simp only [go_sem,Zv1,Zw6]
 refine Zaa h (by simp only [go_sem]) ?_
 simp only [go_sem]
 rfl
theorem Xcl {n d:Int}(hn:0≤n∧n≤255) (hd:0≤d∧d≤255) (ks rs mv:List Int):LT (tabL n ks rs mv) (numS (mdD d)):=Xef (by omega) ks rs mv hd
end GoAbs
namespace GoAbs
open Go Go.Proofs
set_option maxHeartbeats 4000000
theorem Y49 {α:Type}{P:Nat→α→Prop}{S:Nat→α→α→Prop}{a0:α}(h0:P 0 a0):∀ {n:Nat},(∀ i a,i<n→P i a→∃ b,P (i+1) b∧S i a b)→∃ f:Nat→α,f 0=a0∧(∀ i,i≤n→P i (f i))∧∀ i,i<n→S i (f i) (f (i+1))
 | 0,_=>⟨fun _=>a0,rfl,fun i hi=>by rw [show i=0 by omega]; exact h0,fun i hi=>by omega⟩
 | n+1,hs=>by
  obtain ⟨f,f0,fP,fS⟩:=Y49 h0 (n:=n) (fun i a hi=>hs i a (by omega))
  obtain ⟨b,bP,bS⟩:=hs n (f n) (by omega) (fP n (Nat.le_refl _))
  refine ⟨fun i=>if i≤n then f i else b,by show (if 0≤n then f 0 else b)=a0; rw [if_pos (Nat.zero_le _)]; exact f0,fun i hi=>?_,fun i hi=>?_⟩
  ·show P i (if i≤n then f i else b)
   by_cases h:i≤n
   ·rw [if_pos h]; exact fP i h
   ·rw [if_neg h,show i=n+1 by omega]; exact bP
  ·show S i (if i≤n then f i else b) (if i+1≤n then f (i+1) else b)
   rw [if_pos (show i≤n by omega)]
   by_cases h:i+1≤n
   ·rw [if_pos h]; exact fS i (by omega)
   ·rw [if_neg h,show i=n by omega]; exact bS
def FarI (x y:List Rat) (i:Nat) (m:Rat):Prop:=0≤m∧(∀ j,j<i→rget x j - rget y j≤m∧rget y j - rget x j≤m)∧(m=0∨∃ j,j<i∧(m=rget x j - rget y j∨m=rget y j - rget x j))
def absR (q:Rat):Rat:=if q<0 then 0 - q else q
structure FarS (x y:List Rat) (i:Nat) (A A':List AV):Prop where
 ex:∃ (D D':List AV) (m:Rat),SpecV Tryz.prog Zl5 [.agg (rq (rget x i)),.agg (rq (rget y i))] (.agg D)∧Fr 8001 (rget x i - rget y i) D∧Fr 20000 (absR (rget x i - rget y i)) D'∧(rget x i - rget y i<0→SpecV Tryz.prog Zl5 [.agg (rc 0 1),.agg D] (.agg D'))∧(¬ rget x i - rget y i<0→D'=D) ∧
  SpecV Tryz.prog Z3e [.agg D',.agg A] (.int .i64 (cmpR (absR (rget x i - rget y i)) m))∧Fr 20000 m A∧(m<absR (rget x i - rget y i)→A'=D')∧(¬ m<absR (rget x i - rget y i)→A'=A)
theorem Y4d {k:Nat}{x:List Rat}(h:Rb k x) {i:Nat}(hi:i<x.length):Qb k (rget x i):=h _ (List.mem_of_getElem? (Zai hi))
theorem Y28 {x y:List Rat}(hx:Rb 4000 x) (hy:Rb 4000 y) (hl:y.length=x.length) {i:Nat}{A:List AV}(hi:i<x.length) (hA:∃ m,Fr 20000 m A∧FarI x y i m) :
  ∃ A',(∃ m,Fr 20000 m A'∧FarI x y (i+1) m)∧FarS x y i A A':=by
 obtain ⟨m,fm,m0,m1,m2⟩:=hA
 obtain ⟨D,fD,sD⟩:=Y4k (k:=4000) (Fr.of (Y4d hx hi)) (Fr.of (Y4d hy (show i<y.length by omega))) (by decide)
 have fw:=(Ypu (v:=0) (by decide)).1
 obtain ⟨E,fE,sE⟩:=Y4k (k:=2*4000+1) (fw.mono (show 20≤2*4000+1 by decide)) fD (by decide)
 obtain ⟨d,hd⟩:∃ d,d=rget x i - rget y i:=⟨_,rfl⟩
 have hab:absR d=d∨absR d=0 - d:=by unfold absR; split <;> simp
 have hab2:d≤absR d∧0 - d≤absR d∧0≤absR d:=by unfold absR; split <;> grind
 rw [← hd] at fD fE
 have h0:(((0:Int):Rat))=0:=rfl
 obtain ⟨D',fD',g1,g2⟩:∃ D',Fr 20000 (absR d) D'∧(d<0→SpecV Tryz.prog Zl5 [.agg (rc 0 1),.agg D] (.agg D'))∧(¬ d<0→D'=D):=by
  by_cases h:d<0
  ·refine ⟨E,?_,fun _=>sE,fun h'=>absurd h h'⟩
   have:absR d=((0:Int):Rat) - d:=by unfold absR; rw [if_pos h]; rfl
   rw [this]; exact fE.mono (by omega)
  ·refine ⟨D,?_,fun h'=>absurd h' h,fun _=>rfl⟩
   have:absR d=d:=by unfold absR; rw [if_neg h]
   rw [this]; exact fD.mono (by omega)
 have hc:=Y4z fD' fm (by omega)
 have nj:∀ {M:Rat},m≤M→absR d≤M→∀ j,j<i+1→rget x j - rget y j≤M∧rget y j - rget x j≤M:=fun {M} a b j hj=>by
  by_cases hji:j=i
  ·subst hji; grind
  ·have:=m1 j (by omega); grind
 by_cases h:m<absR d
 ·refine ⟨D',⟨_,fD',hab2.2.2,nj (Rat.le_of_lt h) (Rat.le_refl),.inr ⟨i,by omega,?_⟩⟩,⟨D,D',m,sD,by rw [← hd]; exact fD,by rw [← hd]; exact fD',by rw [← hd]; exact g1,by rw [← hd]; exact g2,by rw [← hd]; exact hc,fm,fun _=>rfl,fun h'=>absurd (by rw [← hd]; exact h) h'⟩⟩
  rcases hab with e | e
  ·left; rw [e,hd]
  ·right; rw [e,hd]; grind
 ·refine ⟨A,⟨m,fm,m0,nj (Rat.le_refl) (Rat.not_lt.1 h),?_⟩,⟨D,D',m,sD,by rw [← hd]; exact fD,by rw [← hd]; exact fD',by rw [← hd]; exact g1,by rw [← hd]; exact g2,by rw [← hd]; exact hc,fm,fun h'=>absurd (by rw [← hd] at h'; exact h') h,fun _=>rfl⟩⟩
  rcases m2 with e | ⟨j,hj,e⟩
  ·exact .inl e
  ·exact .inr ⟨j,by omega,e⟩
theorem lfar {x y:List Rat}(hx:Rb 4000 x) (hy:Rb 4000 y) (hl:y.length=x.length) (hn:x.length≤1000) :
  ∃ A m,Fr 20000 m A∧FarI x y x.length m∧SpecV Tryz.prog Yy2 [rowV x,rowV y] (.agg A):=by
 obtain ⟨fw,sw⟩:=Ypu (v:=0) (by decide)
 have h0:∃ m,Fr 20000 m (rc 0 1)∧FarI x y 0 m:=⟨0,fw.mono (by omega),Rat.le_refl,fun j hj=>by omega,.inl rfl⟩
 obtain ⟨f,f0,fP,fS⟩:=Y49 (P:=fun i A=>∃ m,Fr 20000 m A∧FarI x y i m) (S:=FarS x y) h0 (n:=x.length) (fun i a hi ha=>Y28 hx hy hl hi ha)
 obtain ⟨m,fm,hm⟩:=fP x.length (Nat.le_refl _)
 refine ⟨f x.length,m,fm,hm,?_⟩
 have hmx:Tryz.prog.follows .mixedOrders=true:=by kernel_rfl
 have gX:=fun i (hi:i<x.length)=>Yoj (v:=x) hi
 have gY:=fun i (hi:i<y.length)=>Yoj (v:=y) hi
 have lX:(x.map fun q=>AV.agg (rq q)).length=x.length:=List.length_map _
 have lY:(y.map fun q=>AV.agg (rq q)).length=x.length:=by rw [List.length_map,hl]
 unfold rowV
 generalize (x.map fun q=>AV.agg (rq q))=X at *
 generalize (y.map fun q=>AV.agg (rq q))=Y at *
 have r4:(rc 0 1).length=4:=rfl
 have t4:(rc 0 1).take 4=rc 0 1:=rfl
 have d4:(rc 0 1).drop 4 = []:=rfl
 have b0:∀ H ids,BVs H ids (rc 0 1) (rc 0 1)=True:=fun H ids=>Yp4
 generalize hz:rc 0 1=z1 at *
 refine Za5 Yqq (by simp) (Zbi 1 rfl ?_)
 unfold Ynz
 simp only [go_sem,Z84,Z88]
 refine Zaa sw (by simp only [go_sem]) ?_
 simp only [go_sem,r4,t4,d4,Nat.le_refl]
 refine Zbg (Zbg (T_W ?_))
 simp only [go_sem,Ybz]
 refine Zbe (Zaf (fun i:Nat=>⟨envL [(0,.sl X),(1,.sl Y),(4,.ptr 0 0),(5,.ptr 1 0),(6,.int .i64 (i:Int))],[.cells [.bool false,.nils,.bool false,.nils],.cells (f i)]⟩)
  (fun i=>i≤x.length) (fun i=>x.length - i) 0 (by omega) (Zb5 (Zab [(0,.sl X),(1,.sl Y),(4,.ptr 0 0),(5,.ptr 1 0),(6,.int .i64 0)] (by simp only [go_sem])) (by simp [f0])) (fun i hi N hN=>?_))
 unfold Yb3
 by_cases hin:i<x.length
 ·obtain ⟨D,D',m,s1,fD,fD',s2,e2,s3,fA,a1,a2⟩:=(fS i hin).ex
  rw [hz] at s2
  have gx:=gX i hin
  have gy:=gY i (by omega)
  have q0:(0:Int)≤(i:Int):=by omega
  have q1:(i:Int)<(x.length:Int):=by omega
  have e1:IntKind.i64.wrap ((i:Int)+1)=((i+1:Nat):Int):=by rw [Zac (by omega) (by omega)]; omega
  have rl:∀ q:Rat,(rq q).length=4:=fun q=>rfl
  have bvsr:∀ {H ids} {q:Rat},BVs H ids (rq q) (rq q)=True:=fun {H ids q}=>Ydy
  have lD:=fD.len
  have tD:=fD.take
  have dD:=fD.drop
  have bD:=fD.bvs
  have nD:=fD.neg
  have lD':=fD'.len
  have tD':=fD'.take
  have dD':=fD'.drop
  have bD':=fD'.bvs
  have lA:=fA.len
  have tA:=fA.take
  have dA:=fA.drop
  have bA:=fA.bvs
  generalize f i=A at *
  have fin:∀ (e:Nat→AV) (E:List AV),Has e [(0,.sl X),(1,.sl Y),(4,.ptr 0 0),(5,.ptr 1 0),(6,.int .i64 ((i+1:Nat):Int))]→N ⟨e,[.cells [.bool false,.nils,.bool false,.nils],.cells (f (i+1)),.cells E]⟩:=fun e E he=>by
   obtain ⟨m',fm',_⟩:=fP (i+1) (by omega)
   refine hN (i+1) _ (by omega) (by omega) (Zb5 (Zhf [0,1] (by decide) (fun i hi=>by omega) [(0,.sl X),(1,.sl Y),(4,.ptr 0 0),(5,.ptr 1 0),(6,.int .i64 ((i+1:Nat):Int))] he) ?_)
   show St.mk _ [_,Blk.cells (gcL _ (f (i+1)))]=_
   rw [fm'.gc]
   rfl
  by_cases hneg:rget x i - rget y i<0
  ·have nD':D[0]? = some (.bool true):=by rw [nD,decide_eq_true hneg]
   simp only [go_sem,Zn9,Zm0,q0,q1,lX,lY,gx,gy,rl,Ygr,Yfs,hmx]
   refine Zaa s1 (by simp only [go_sem,bvsr]) ?_
   simp only [go_sem,lD,tD,dD,Nat.le_refl,Zye,nD',Zyo,hmx]
   refine Zaa sw (by simp only [go_sem]) ?_
   simp only [go_sem,lD,tD,dD,Nat.le_refl]
   refine Zaa (s2 hneg) (by simp only [go_sem,b0,bD]) ?_
   simp only [go_sem,lD,tD,dD,lD',tD',dD',Nat.le_refl,Zza,lA,tA,dA]
   refine Zaa s3 (by simp only [go_sem,bD',bA]) ?_
   have hgt:(0<cmpR (absR (rget x i - rget y i)) m)=(m<absR (rget x i - rget y i)):=propext (by unfold cmpR; constructor <;> intro h <;> grind)
   by_cases hm':m<absR (rget x i - rget y i)
   ·rw [a1 hm'] at fin
    simp only [go_sem,hgt,hm',Zyq,lD',tD',dD',lA,tA,dA,Nat.le_refl,Zgi,e1]
    exact fin _ _ (by simp only [go_sem])
   ·rw [a2 hm'] at fin
    simp only [go_sem,hgt,hm',Zgi,e1]
    exact fin _ _ (by simp only [go_sem])
  ·have nD':D[0]? = some (.bool false):=by rw [nD,decide_eq_false hneg]
   have hDD:=e2 hneg
   subst hDD
   simp only [go_sem,Zn9,Zm0,q0,q1,lX,lY,gx,gy,rl,Ygr,Yfs,hmx]
   refine Zaa s1 (by simp only [go_sem,bvsr]) ?_
   simp only [go_sem,lD,tD,dD,Nat.le_refl,Zye,nD',Zza,lA,tA,dA]
   refine Zaa s3 (by simp only [go_sem,bD,bA]) ?_
   have hgt:(0<cmpR (absR (rget x i - rget y i)) m)=(m<absR (rget x i - rget y i)):=propext (by unfold cmpR; constructor <;> intro h <;> grind)
   by_cases hm':m<absR (rget x i - rget y i)
   ·rw [a1 hm'] at fin
    simp only [go_sem,hgt,hm',Zyq,lD',tD',dD',lA,tA,dA,Nat.le_refl,Zgi,e1]
    exact fin _ _ (by simp only [go_sem])
   ·rw [a2 hm'] at fin
    simp only [go_sem,hgt,hm',Zgi,e1]
    exact fin _ _ (by simp only [go_sem])
 ·have hie:i=x.length:=by omega
  subst hie
  have q1:¬ ((x.length:Nat):Int)<(x.length:Int):=by omega
  simp only [go_sem,Zn9,lX,q1]
  have lA:=fm.len
  have tA:=fm.take
  have dA:=fm.drop
  have bA:=fm.bvs
  refine T_W ?_
  simp only [go_sem,Z5l,lA,tA,dA,Nat.le_refl,bA]
theorem Xan {a b:Rat}(h:a≤b):cmpR a b≤0:=by
 unfold cmpR
 by_cases h1:a<b
 ·rw [if_pos h1]; decide
 ·rw [if_neg h1,if_neg (Rat.not_lt.2 h)]; exact Int.le_refl 0
theorem contracts {g:Gm}(hg:GmP g) {k:Nat}{a b:Rat}(ha:FarI (valG g) (rndR g (k+1)) g.nodes.length a) (hb:FarI (valG g) (rndR g k) g.nodes.length b):a≤g.d*b:=by
 have hs:=Yly hg
 have hv:=Yhm hg
 have hr:∀ i,i<g.nodes.length→rget (rndR g (k+1)) i=nextV g (rndR g k) i:=fun i hi=>by
  show rget (nextR g (rndR g k)) i=_
  unfold nextR
  rw [Z3c hi]
 have hb2:=hb.2.1
 rcases ha.2.2 with e | ⟨j,hj,e | e⟩
 ·rw [e]; exact Rat.mul_nonneg hg.d0 hb.1
 ·have:=hs (valG g) (rndR g k) b (fun j hj=>by have:=(hb2 j hj).1; grind) j hj
  rw [e,hv j hj,hr j hj]; grind
 ·have:=hs (rndR g k) (valG g) b (fun j hj=>by have:=(hb2 j hj).2; grind) j hj
  rw [e,hv j hj,hr j hj]; grind
theorem lcontracts {n d k:Int}{ks rs mv:List Int}(hn:0≤n∧n≤255) (hd:0≤d∧d≤255) (_h1:∀ n,n∈ks→(Lit.int .i64 n).wf=true) (_h2:∀ n,n∈rs→(Lit.int .i64 n).wf=true) (_h3:∀ n,n∈mv→(Lit.int .i64 n).wf=true) (hk:0≤k∧k≤255) :
  SpecV Tryz.prog Zyf [.agg [.int .u8 n,.int .u8 d,.sl (ivs ks),.sl (ivs rs),.sl (ivs mv)],.int .u8 k] (.bool true):=by
 have hgm:=lgame (ks:=ks) (rs:=rs) (mv:=mv) hn hd
 have hlt:=Xcl hn hd ks rs mv
 unfold tabAV at hgm
 obtain ⟨L,hL⟩:∃ L,L=tabL n ks rs mv:=⟨_,rfl⟩
 obtain ⟨t,ht⟩:∃ t,t=numS (mdD d):=⟨_,rfl⟩
 rw [← hL, ← ht] at hgm hlt
 obtain ⟨hg,hgn⟩:=hlt.gmP
 obtain ⟨r,hr⟩:∃ r,r=(k % 7).toNat:=⟨_,rfl⟩
 have hr8:r≤6:=by omega
 have hv:=lvals hlt
 obtain ⟨M,m1,m2,m3,m4,m5,m6⟩:=lrnd hlt (r:=r) (by omega)
 obtain ⟨M',n1,n2,n3,n4,n5,n6⟩:=lrnd hlt (r:=r+1) (by omega)
 have hvb:=Yec hg hlt.gmL
 have hvl:=Z2j hg
 have hb:=fun k hk=>Yoh hg hlt.gmL (k:=k) hk
 obtain ⟨A,a,fA,iA,sA⟩:=lfar (x:=valG (toGm L t)) (y:=rndR (toGm L t) (r+1)) hvb (fun q hq=>(hb (r+1) (by omega) q hq).mono (by omega)) (by rw [Zj0,hvl]) (by rw [hvl,hgn]; have:=hlt.n; omega)
 obtain ⟨B,b,fB,iB,sB⟩:=lfar (x:=valG (toGm L t)) (y:=rndR (toGm L t) r) hvb (fun q hq=>(hb r (by omega) q hq).mono (by omega)) (by rw [Zj0,hvl]) (by rw [hvl,hgn]; have:=hlt.n; omega)
 obtain ⟨hdo,hdl,hdq,hd9⟩:=hlt.dq
 have sD:=Xdw hdo (by omega)
 rw [← hdq] at sD
 obtain ⟨C,fC,sC⟩:=Xby ((Fr.of hd9.qb).mono (show 20≤20000 by omega)) fB (by omega)
 have sE:=Y4z (fA.mono (show 20000≤2*20000 by omega)) fC (by omega)
 rw [hvl] at iA iB
 have hle:=Xan (contracts hg iA iB)
 have bA:=fA.bvs
 have bB:=fB.bvs
 have bC:=fC.bvs
 have c7:¬ (7:Int)=0:=by decide
 have w1:IntKind.i64.wrap k=k:=Zac (by omega) (by omega)
 have t7:k.tmod 7=(r:Int):=by rw [Int.tmod_eq_emod_of_nonneg hk.1]; omega
 have e1:IntKind.i64.wrap ((r:Int)+1)=((r+1:Nat):Int):=by rw [Zac (by omega) (by omega)]; omega
 have l1:((M.length:Nat):Int)=(L.length:Int):=by omega
 have l2:((M'.length:Nat):Int)=(L.length:Int):=by omega
 refine Zae Zvd (by simp) ?_
 unfold Zj3
 simp only [go_sem,Zgs,Zg7]
 refine Zaa hgm (by simp only [go_sem]) ?_
 simp only [go_sem,Zgv]
 refine Zaa hv (by simp only [go_sem]) ?_
 simp only [go_sem,Zg8,w1,c7,t7,Zgu]
 refine Zaa m1 (by simp only [go_sem]) ?_
 simp only [go_sem,Zgo,e1]
 refine Zaa n1 (by simp only [go_sem]) ?_
 simp only [go_sem,Zg5,txts_len',List.length_map,l1,l2]
 refine Zaa m4 (by simp only [go_sem]) ?_
 simp only [go_sem]
 refine Zaa n4 (by simp only [go_sem]) ?_
 simp only [go_sem]
 refine Zaa wlives (by simp only [go_sem]) ?_
 simp only [go_sem,Zgh]
 refine Zaa n5 (by simp only [go_sem]) ?_
 simp only [go_sem]
 refine Zaa sA (by simp only [go_sem,rowV]) ?_
 simp only [go_sem]
 refine Zaa sD (by simp only [go_sem]) ?_
 simp only [go_sem]
 refine Zaa m5 (by simp only [go_sem]) ?_
 simp only [go_sem]
 refine Zaa sB (by simp only [go_sem,rowV]) ?_
 simp only [go_sem]
 refine Zaa sC (by simp only [go_sem,bB,Ydy]) ?_
 simp only [go_sem]
 refine Zaa sE (by simp only [go_sem,bA,bC]) ?_
 simp only [go_sem,hle]
end GoAbs
