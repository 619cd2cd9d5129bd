/- Lemmas for the claim (contracts of the functions that it reaches, and what they compute), without conditions. -/
import Derived.Test.YtiapneoakbealaaGreatK35
import Derived.Test.YtiapneoakbealaaGreatProg
import Derived.KernelRfl
set_option linter.unusedVariables false
set_option linter.unusedSimpArgs false
set_option maxRecDepth 10000
set_option maxHeartbeats 2000000
namespace GoAbs
open Go Go.Proofs
theorem Opens.mono {P:Program}{t:TypeId}{S S':List AV→Prop}(h:Opens P t S) (hs:∀ av,S av→S' av):Opens P t S':=fun enc w base spare held fuel cs x hx=>by
 obtain ⟨av,h1,h2⟩:=h enc w base spare held fuel cs x hx
 exact ⟨av,h1,hs av h2⟩
theorem Yrv {P:Program}{f:Nat}{xs:List AV}{vs:Array Value}{w:World}(h:SpecV P f xs (.bool true)) (hr:Reps w noX noPl xs vs):Calls P f vs w fun e w'=>e = .returned (.bool true)∧Go.RowKit.Below w.heap.size w w' :=
 (h.2 noX w vs (fun _ hb=>hb.elim) hr).mono fun e w' he=>by
  obtain ⟨v,rfl,hv,hb⟩:=he
  cases hv
  exact ⟨rfl,hb⟩
theorem Ycd {w:World}{x:AV}{xs:List AV}{v:Value}{l:List Value}(h:Rep w noX noPl x v) (k:Reps w noX noPl xs l.toArray):Reps w noX noPl (x::xs) (v::l).toArray:=by
 refine ⟨by have:=k.1; simp at this ⊢; exact this,fun i y u hy hu=>?_⟩
 cases i with
 | zero=>simp at hy hu; subst hy hu; exact h
 | succ i=>exact k.2 i y u (by simpa using hy) (by simpa using hu)
theorem reps3 {w:World}{x y z:AV}{v u t:Value}(h:Rep w noX noPl x v) (k:Rep w noX noPl y u) (m:Rep w noX noPl z t):Reps w noX noPl [x,y,z] #[v,u,t]:=Ycd h (Ycd k (Ycd (l := []) m ⟨rfl,fun i z t hz=>by simp at hz⟩))
theorem Yu6 {P:Program}{W:World}{r:Reach}{base:Nat}{t:TypeId}{v:Value}{k:IntKind}(ht:P.underlying t=some (.int k)) (h:Value.okWide P W r base t v):v.cells = #[v]:=by
 obtain ⟨n,rfl⟩:=Go.WideShapes.okWide_int ht h; rfl
theorem Xa8 {n:Int}(h:(Lit.int .u8 n).wf=true):0≤n∧n≤255:=bounds_u8 h
theorem opensInts:Opens Tryz.prog 36 (fun av=>∃ p:List Int,av = [.sl (ivs p)]∧∀ n,n∈p→(Lit.int .i64 n).wf=true):=by
 refine Opens.mono (Yvc (e:=3) (fun x ⟨n,hx,_⟩=>by cases hx; rfl) Tryz.underlying36 (by kernel_rfl) (Zus Tryz.underlying3)) ?_
 rintro av ⟨l,rfl,h⟩
 have:∀ l:List AV,(∀ c,c∈l→∃ n:Int,[c] = [AV.int .i64 n]∧(Lit.int .i64 n).wf=true)→∃ p:List Int,l=ivs p∧∀ n,n∈p→(Lit.int .i64 n).wf=true:=by
  intro l
  induction l with
  | nil=>intro _; exact ⟨[],rfl,fun n hn=>by simp at hn⟩
  | cons c l ih =>
   intro h
   obtain ⟨p,hp,hw⟩:=ih (fun d hd=>h d (by simp [hd]))
   obtain ⟨n,hn,hnw⟩:=h c (by simp)
   cases hn
   refine ⟨n::p,by rw [hp]; rfl,fun m hm=>?_⟩
   rcases List.mem_cons.1 hm with rfl | hm
   ·exact hnw
   ·exact hw m hm
 obtain ⟨p,hp,hw⟩:=this l h
 exact ⟨p,by rw [hp],hw⟩
theorem opensTable:Opens Tryz.prog 44 (fun av=>∃ (a b:Int) (p q r:List Int),av = [.int .u8 a,.int .u8 b,.sl (ivs p),.sl (ivs q),.sl (ivs r)]∧(Lit.int .u8 a).wf=true∧(Lit.int .u8 b).wf=true∧(∀ n,n∈p→(Lit.int .i64 n).wf=true)∧(∀ n,n∈q→(Lit.int .i64 n).wf=true)∧(∀ n,n∈r→(Lit.int .i64 n).wf=true)):=by
 refine Opens.mono (Y2o (n:=5) Tryz.underlying44 (by kernel_rfl) (Ziq (off:=0) (k:=1) rfl (by kernel_rfl) (by omega) (Zus Tryz.underlying5) (Ziq (off:=1) (k:=1) rfl (by kernel_rfl) (by omega) (Zus Tryz.underlying5)
  (Ziq (off:=2) (k:=1) rfl (by kernel_rfl) (by omega) opensInts (Ziq (off:=3) (k:=1) rfl (by kernel_rfl) (by omega) opensInts (Ziq (off:=4) (k:=1) rfl (by kernel_rfl) (by omega) opensInts Ytp)))))) ?_
 rintro av ⟨a,_,rfl,_,⟨n,rfl,w1⟩,c,_,rfl,_,⟨m,rfl,w2⟩,e,_,rfl,_,⟨p,rfl,w3⟩,g,_,rfl,_,⟨q,rfl,w4⟩,i,_,rfl,_,⟨r,rfl,w5⟩,rfl⟩
 exact ⟨n,m,p,q,r,rfl,w1,w2,w3,w4,w5⟩
end GoAbs
namespace GoAbs
open Go Go.Proofs
def Ztm:List IOp := [oI 4 (.mv (.c (.bool false))) 0]
def Zuy:List IOp := [mI 6 0 0,oI 7 (.len (.t 6)) 0,mI 8 1 0,oI 9 (.len (.t 8)) 0,oI 10 (.bin .neq (.t 7) (.t 9)) 0]
def Z90:List IOp := [oI 4 (.mv (.c (.bool false))) 0]
def Zsb:List IOp := [oI 5 (.mv (cI 0)) 0]
def Zj2:List IOp := [mI 11 5 0,mI 12 0 0,oI 13 (.len (.t 12)) 0,oI 14 (.bin .lss (.t 11) (.t 13)) 0]
def Zjs:List IOp := [mI 17 0 0,mI 18 5 0,xI 19 1 17 18 0,lI 20 19 0,mI 21 1 0,mI 22 5 0,xI 23 1 21 22 0,lI 24 23 0,oI 25 (.bin .neq (.t 20) (.t 24)) 0]
@[go_sem ↓] theorem Z31 : autoK Zjs = (0, 0) := by kernel_rfl
@[go_sem] theorem Yon : autoK [mI 17 0 0, mI 18 5 0, xI 19 1 17 18 0, lI 20 19 0, mI 21 1 0, mI 22 5 0, xI 23 1 21 22 0, lI 24 23 0, oI 25 (.bin .neq (.t 20) (.t 24)) 0] = (0, 0) := Z31
def Yay:List IOp := [oI 4 (.mv (.c (.bool false))) 0]
def Ztf:List IOp := [mI 15 5 0,oI 16 (.bin .add (.t 15) (cI 1)) 0,mI 5 16 0]
def Zsn:CC := .seq (.seq (.rg false Zj2) (.cond (.t 14) .skip (.exit 0))) (.seq (.block 1 (.seq (.rg true Zjs) (.cond (.t 25) (.seq (.rg false Yay) .ret) .skip))) (.rg false Ztf))
def Zrz:List IOp := [oI 4 (.mv (.c (.bool true))) 0]
def Z5y:CC := .seq (.rg false Ztm) (.seq (.seq (.rg false Zuy) (.cond (.t 10) (.seq (.rg false Z90) .ret) .skip)) (.seq (.seq (.rg false Zsb) (.block 0 (.loop Zsn))) (.seq (.rg false Zrz) .ret)))
abbrev Yfh:Nat:=56
theorem Ycq:fnOk Tryz.prog 56=some (26,Z5y,[.tmp 4]):=by kernel_rfl
end GoAbs
namespace GoAbs
open Go Go.Proofs
def Zb (b:Nat) (q:Rat):Prop:=∃ z:Int,q=z∧z.natAbs<2 ^ b
def Zq (q:Rat):Prop:=∃ z:Int,q=z
theorem Zb.q {b:Nat}{q:Rat}(h:Zb b q):Zq q:=⟨h.choose,h.choose_spec.1⟩
theorem Zq.add {a b:Rat}(h:Zq a) (k:Zq b):Zq (a+b):=by
 obtain ⟨x,rfl⟩:=h; obtain ⟨y,rfl⟩:=k
 exact ⟨x+y,by simp⟩
theorem Zq.mul {a b:Rat}(h:Zq a) (k:Zq b):Zq (a*b):=by
 obtain ⟨x,rfl⟩:=h; obtain ⟨y,rfl⟩:=k
 exact ⟨x*y,by simp⟩
theorem Zq.sub {a b:Rat}(h:Zq a) (k:Zq b):Zq (a - b):=by
 obtain ⟨x,rfl⟩:=h; obtain ⟨y,rfl⟩:=k
 exact ⟨x - y,by simp⟩
theorem Zq.sum {R:List Nat}{f:Nat→Rat}(h:∀ i,i∈R→Zq (f i)):Zq (sumL R f):=by
 induction R with
 | nil=>exact ⟨0,rfl⟩
 | cons a R ih=>rw [Zar]; exact (h a List.mem_cons_self).add (ih fun i hi=>h i (List.mem_cons_of_mem _ hi))
theorem Zb.mono {a b:Nat}{q:Rat}(h:Zb a q) (hab:a≤b):Zb b q:=by
 obtain ⟨z,h1,h2⟩:=h
 exact ⟨z,h1,Nat.lt_of_lt_of_le h2 (Nat.pow_le_pow_right (by omega) hab)⟩
theorem Zb.mul {a b:Nat}{p q:Rat}(h:Zb a p) (k:Zb b q):Zb (a+b) (p*q):=by
 obtain ⟨x,rfl,h2⟩:=h; obtain ⟨y,rfl,k2⟩:=k
 exact ⟨x*y,by simp,by rw [Int.natAbs_mul,Nat.pow_add]; exact Nat.mul_lt_mul'' h2 k2⟩
theorem Zb.sub {a:Nat}{p q:Rat}(h:Zb a p) (k:Zb a q):Zb (a+1) (p - q):=by
 obtain ⟨x,rfl,h2⟩:=h; obtain ⟨y,rfl,k2⟩:=k
 exact ⟨x - y,by simp,by rw [Nat.pow_succ]; omega⟩
def fbit:Nat→Nat→Nat
 | 0,_=>1
 | k+1,b=>b+fbit k (2*b+1)
theorem Yzp:∀ {k c b:Nat}{A:Nat→Nat→Rat}{r x:Nat→Rat},(∀ i j,c≤i→i<c+k→c≤j→j<c+k→Zb b (A i j))→(∀ i,c≤i→i<c+k→Zb b (r i)) →
  (∀ i,c≤i→i<c+k→(∀ j,c≤j→j<c+k→j≠i→A i j≤0)∧0<sumL (List.range' c k) (A i))→(∀ i,c≤i→i<c+k→sumL (List.range' c k) (fun j=>x j*A i j)=r i) →
  ∃ D:Rat,0<D∧Zb (fbit k b) D∧∀ j,c≤j→j<c+k→Zq (x j*D)
 | 0,c,b,A,r,x,_,_,_,_=>⟨1,by decide,⟨1,rfl,by unfold fbit; decide⟩,fun j h1 h2=>by omega⟩
 | k+1,c,b,A,r,x,hA,hr,hD,hx=>by
  obtain ⟨a1,a2⟩:=hD c (Nat.le_refl _) (by omega)
  have hxc:=hx c (Nat.le_refl _) (by omega)
  rw [List.range'_succ,Zar] at a2 hxc
  have hp:0<A c c:=by
   have:=Z9p (R:=List.range' (c+1) k) (f:=A c) (fun j hj=>by have hj':=List.mem_range'_1.1 hj; exact a1 j (by omega) (by omega) (by omega))
   grind
  obtain ⟨D,d1,d2,d3⟩:=Yzp (k:=k) (c:=c+1) (b:=2*b+1) (A:=fun i j=>A i j*A c c - A i c*A c j) (r:=fun i=>r i*A c c - A i c*r c) (x:=x)
   (fun i j h1 h2 h3 h4=>by
    have x1:=(hA i j (by omega) (by omega) (by omega) (by omega)).mul (hA c c (by omega) (by omega) (by omega) (by omega))
    have x2:=(hA i c (by omega) (by omega) (by omega) (by omega)).mul (hA c j (by omega) (by omega) (by omega) (by omega))
    exact (x1.sub x2).mono (by omega))
   (fun i h1 h2=>by
    have x1:=(hr i (by omega) (by omega)).mul (hA c c (by omega) (by omega) (by omega) (by omega))
    have x2:=(hA i c (by omega) (by omega) (by omega) (by omega)).mul (hr c (by omega) (by omega))
    exact (x1.sub x2).mono (by omega))
   (fun i h1 h2=>by
    obtain ⟨b1,b2⟩:=hD i (by omega) (by omega)
    have hic:=b1 c (Nat.le_refl _) (by omega) (by omega)
    refine ⟨fun j h3 h4 hji=>?_,?_⟩
    ·have x1:=b1 j (by omega) (by omega) hji
     have x2:=a1 j (by omega) (by omega) (by omega)
     have x3:=Rat.mul_nonneg (show 0 ≤ -A i j by grind) (Rat.le_of_lt hp)
     have x4:=Rat.mul_nonneg (show 0 ≤ -A i c by grind) (show 0 ≤ -A c j by grind)
     grind
    ·rw [List.range'_succ,Zar] at b2
     have e:sumL (List.range' (c+1) k) (fun j=>A i j*A c c - A i c*A c j)=A c c*sumL (List.range' (c+1) k) (A i)+(-(A i c))*sumL (List.range' (c+1) k) (A c):=by
      rw [← Zfk, ← Zfk, ← Z0k]
      exact Za3 (fun j _=>by grind)
     rw [e]
     have x1:=Rat.mul_pos hp b2
     have x2:=Rat.mul_nonneg (show 0 ≤ -A i c by grind) (Rat.le_of_lt a2)
     generalize sumL (List.range' (c+1) k) (A i)=s at *
     generalize sumL (List.range' (c+1) k) (A c)=t at *
     grind)
   (fun i h1 h2=>by
    have hxi:=hx i (by omega) (by omega)
    rw [List.range'_succ,Zar] at hxi
    have e:sumL (List.range' (c+1) k) (fun j=>x j*(A i j*A c c - A i c*A c j))=A c c*sumL (List.range' (c+1) k) (fun j=>x j*A i j)+(-(A i c))*sumL (List.range' (c+1) k) (fun j=>x j*A c j):=by
     rw [← Zfk, ← Zfk, ← Z0k]
     exact Za3 (fun j _=>by grind)
    rw [e, ← hxi, ← hxc]
    grind)
  refine ⟨A c c*D,Rat.mul_pos hp d1,?_,fun j h1 h2=>?_⟩
  ·exact (hA c c (by omega) (by omega) (by omega) (by omega)).mul d2
  ·by_cases hj:j=c
   ·subst hj
    have e:x j*(A j j*D)=D*r j - sumL (List.range' (j+1) k) (fun i=>x i*D*A j i):=by
     have e2:sumL (List.range' (j+1) k) (fun i=>x i*D*A j i)=D*sumL (List.range' (j+1) k) (fun i=>x i*A j i):=by
      rw [← Zfk]; exact Za3 (fun i _=>by grind)
     rw [e2, ← hxc]; grind
    rw [e]
    refine (d2.q.mul (hr j (by omega) (by omega)).q).sub (Zq.sum fun i hi=>?_)
    have hi':=List.mem_range'_1.1 hi
    exact (d3 i (by omega) (by omega)).mul (hA j i (by omega) (by omega) (by omega) (by omega)).q
   ·have h3:=(d3 j (by omega) (by omega)).mul (hA c c (by omega) (by omega) (by omega) (by omega)).q
    rw [show x j*(A c c*D)=x j*D*A c c by grind]
    exact h3
end GoAbs
namespace GoAbs
open Go Go.Proofs
def Lt9 (q:Rat):Prop:=q.den≤9∧q.num.natAbs<10000
structure GmL (g:Gm):Prop where
 rew:∀ q,q∈g.rew→Lt9 q
 d:Lt9 g.d
 odds:∀ x,x∈g.nodes→x.kind=3→∀ q,q∈x.odds→Lt9 q
 n:g.nodes.length≤5
theorem Y70 {n:Nat}(h:n≤9) (h0:0<n):n∣2520:=by
 have:∀ m,m<10→0<m→m∣2520:=by decide
 exact this n (by omega) h0
theorem Z8p (q:Rat):q*q.den=q.num:=by
 have h0:(q.den:Rat)≠0:=by
  intro h
  have h1:q.den=0:=by exact_mod_cast h
  exact q.den_nz h1
 have h:=Rat.num_divInt_den q
 rw [Rat.divInt_eq_div] at h
 have e:((q.den:Int):Rat)=(q.den:Rat):=by norm_cast
 rw [e] at h
 generalize (q.den:Rat)=b at *
 generalize (q.num:Rat)=a at *
 grind
theorem Lt9.z {q:Rat}(h:Lt9 q):Zb 26 (q*2520):=by
 obtain ⟨k,hk⟩:=Y70 h.1 q.den_pos
 have e:(2520:Rat)=q.den*k:=by exact_mod_cast hk
 refine ⟨q.num*k,?_,?_⟩
 ·rw [e, ← Rat.mul_assoc,Z8p]; norm_cast
 ·rw [Int.natAbs_mul,Int.natAbs_natCast]
  have h1:k≤2520:=by
   have:=q.den_pos
   have:1*k≤q.den*k:=Nat.mul_le_mul_right _ (by omega)
   omega
  have:=Nat.mul_le_mul (show q.num.natAbs≤9999 by have:=h.2; omega) h1
  omega
theorem Zb.add {a:Nat}{p q:Rat}(h:Zb a p) (k:Zb a q):Zb (a+1) (p+q):=by
 obtain ⟨x,rfl,h2⟩:=h; obtain ⟨y,rfl,k2⟩:=k
 exact ⟨x+y,by simp,by rw [Nat.pow_succ]; omega⟩
abbrev N2:Rat:=2520*2520
def Ze (c:Nat) (M:RM):Prop:=∀ i j,Zb c (mget M i j*N2)
theorem Ze.add {n c:Nat}{M:RM}(h:Ze c M) (hW:Wid n M) {i j:Nat}{x:Rat}(hi:i<M.length) (hj:j<n) (hx:Zb c (x*N2)):Ze (c+1) (addAt M i j x):=fun a b=>by
 rw [Z3k hW hi hj]
 split
 ·rw [Rat.add_mul]; exact (h a b).add hx
 ·rw [Rat.add_zero]; exact (h a b).mono (by omega)
theorem Lt9.neg {q:Rat}(h:Lt9 q):Zb 38 (-q*N2):=by
 obtain ⟨z,h1,h2⟩:=h.z
 refine ⟨-z*2520,?_,?_⟩
 ·rw [show -q*N2 = -(q*2520)*2520 by grind,h1]; simp
 ·rw [Int.natAbs_mul,Int.natAbs_neg,show ((2520:Int)).natAbs=2520 from rfl]
  have:=Nat.mul_lt_mul_of_pos_right h2 (show 0<2520 by decide)
  omega
theorem Lt9.neg2 {p q:Rat}(h:Lt9 p) (k:Lt9 q):Zb 52 (-(p*q)*N2):=by
 obtain ⟨z,h1,h2⟩:=h.z
 obtain ⟨y,k1,k2⟩:=k.z
 refine ⟨-(z*y),?_,?_⟩
 ·rw [show -(p*q)*N2 = -((p*2520)*(q*2520)) by grind,h1,k1]; simp
 ·rw [Int.natAbs_neg,Int.natAbs_mul,show 52=26+26 from rfl,Nat.pow_add]
  exact Nat.mul_lt_mul'' h2 k2
theorem Yeg {n i c:Nat}{d:Rat}{odds:List Rat}{to:List Nat}(hd:Lt9 d) (hi:i<n) (ho:∀ t,t<to.length→Lt9 (rget odds t)) (hto:∀ x,x∈to→x<n) (hc:52≤c):∀ {k:Nat}{M:RM},k≤to.length→M.length=n→Wid n M→Ze c M →
  (addOdds d i odds to k M).length=n∧Wid n (addOdds d i odds to k M)∧Ze (c+k) (addOdds d i odds to k M)
 | 0,M,_,hl,hw,h=>⟨hl,hw,h⟩
 | k+1,M,hk,hl,hw,h=>by
  obtain ⟨h1,h2,h3⟩:=Yeg (odds:=odds) (to:=to) hd hi ho hto hc (k:=k) (M:=M) (by omega) hl hw h
  unfold addOdds
  exact ⟨by rw [Zdu,h1],h2.addAt,h3.add h2 (by rw [h1]; exact hi) (hto _ (Zb2 (by omega))) ((hd.neg2 (ho k (by omega))).mono (by omega))⟩
theorem Yp8 {g:Gm}(hg:GmP g) (hl:GmL g) {p:List Int}(hp:POk g p):∀ {k:Nat},k≤g.nodes.length→(planM g p k).length=g.nodes.length∧Wid g.nodes.length (planM g p k)∧Ze (52+7*k) (planM g p k)
 | 0,_=>by
  unfold planM
  refine ⟨List.length_replicate,fun r hr=>by rw [(List.mem_replicate.1 hr).2,List.length_replicate],fun i j=>?_⟩
  have h0:mget (List.replicate g.nodes.length (List.replicate g.nodes.length (0:Rat))) i j=0:=by
   unfold mget rget
   rw [List.getD_eq_getElem?_getD,List.getD_eq_getElem?_getD,List.getElem?_replicate]
   split
   ·rw [Option.getD_some,List.getElem?_replicate]; split <;> rfl
   ·simp
  rw [h0]
  exact ⟨0,by rw [Rat.zero_mul]; rfl,by decide⟩
 | k+1,hk=>by
  obtain ⟨h1,h2,h3⟩:=Yp8 hg hl hp (k:=k) (by omega)
  have hkn:k<g.nodes.length:=by omega
  have hx:=Zbl hkn
  have hok:=hg.ok.node _ hx
  have hlt:=hp.lt hkn
  have hod:=hl.odds _ hx
  unfold planM nodeM
  generalize nodeAt g k=x at *
  have a1:=h3.add (i:=k) (j:=k) (x:=1) h2 (by rw [h1]; exact hkn) hkn (Zb.mono (a:=23) ⟨6350400,by decide+kernel,by decide⟩ (by omega))
  have a2:(addAt (planM g p k) k k 1).length=g.nodes.length:=by rw [Zdu,h1]
  have a3:Wid g.nodes.length (addAt (planM g p k) k k 1):=h2.addAt
  split
  ·rename_i h3
   have ho:=(hok.odds h3).1
   obtain ⟨b1,b2,b3⟩:=Yeg (odds:=x.odds) (to:=x.to) hl.d hkn (fun t ht=>hod h3 _ (List.mem_of_getElem? (Zaj (by omega)))) hok.lt (by omega) (Nat.le_refl _) a2 a3 a1
   refine ⟨b1,b2,fun i j=>(b3 i j).mono ?_⟩
   have:=hok.len
   omega
  ·rename_i h3
   refine ⟨by rw [Zdu,a2],a3.addAt,fun i j=>((a1.add a3 (by rw [a2]; exact hkn) (hok.lt _ (Zb2 (hlt h3))) (hl.d.neg.mono (by omega))) i j).mono (by omega)⟩
theorem Y56 {q D:Rat}{b c:Nat}(h0:0<D) (hD:Zb b D) (hz:Zq (q*D)) (h1:q≤2 ^ c) (h2 : -(2 ^ c)≤q):Qb (b+c+1) q:=by
 obtain ⟨e,rfl,he⟩:=hD
 obtain ⟨z,hz⟩:=hz
 have e0:0<e:=by exact_mod_cast h0
 have hq:q=Rat.divInt z e:=by
  rw [Rat.divInt_eq_div]
  have:(e:Rat)≠0:=by grind
  rw [← hz]; grind
 obtain ⟨n1,n2⟩:=Zds (n:=z) (d:=e) (by omega)
 rw [← hq] at n1 n2
 have hzz:z.natAbs≤2 ^ c*e.natAbs:=by
  have x1:=Rat.mul_le_mul_of_nonneg_right h1 (Rat.le_of_lt h0)
  have x2:=Rat.mul_le_mul_of_nonneg_right h2 (Rat.le_of_lt h0)
  rw [hz] at x1 x2
  have e1:(2:Rat) ^ c*(e:Rat)=(((2 ^ c:Nat)*e:Int):Rat):=by simp
  have e2 : -((2:Rat) ^ c)*(e:Rat)=((-((2 ^ c:Nat)*e):Int):Rat):=by simp [Rat.neg_mul]
  rw [e1] at x1
  rw [e2] at x2
  have y1:=Rat.intCast_le_intCast.1 x1
  have y2:=Rat.intCast_le_intCast.1 x2
  have e3:((2 ^ c*e.natAbs:Nat):Int)=((2 ^ c:Nat):Int)*e:=by rw [Int.natCast_mul]; congr 1; omega
  generalize ((2 ^ c:Nat):Int)*e=w at *
  omega
 have hm:2 ^ c*e.natAbs<2 ^ c*2 ^ b:=Nat.mul_lt_mul_of_pos_left he (Nat.two_pow_pos _)
 have hp:2 ^ c*2 ^ b=2 ^ (c+b):=(Nat.pow_add ..).symm
 have hc:=Nat.two_pow_pos c
 refine ⟨?_,?_⟩
 ·rw [show b+c+1=c+b+1 by omega,Nat.pow_succ]; omega
 ·have:2 ^ b≤2 ^ (b+c+1):=Nat.pow_le_pow_right (by omega) (by omega)
  omega
theorem frac9 {d:Rat}(h:Lt9 d) (d1:d<1):d*9≤8:=by
 have h0:=d.den_pos
 have h1:=Z8p d
 have hd:(0:Rat)<d.den:=by exact_mod_cast h0
 have h2:d*d.den<d.den:=by
  have:=Rat.mul_pos (show 0<1 - d by grind) hd
  grind
 rw [h1] at h2
 have h3:d.num<d.den:=by exact_mod_cast h2
 have h4:d.num*9≤8*d.den:=by have:=h.1; omega
 have h5:(d.num:Rat)*9≤8*(d.den:Rat):=by exact_mod_cast h4
 rw [← h1] at h5
 rcases (Rat.le_total:d*9≤8∨8≤d*9) with h6 | h6
 ·exact h6
 ·by_cases he:d*9=8
  ·rw [he]; grind
  ·have:=Rat.mul_pos (show 0<d*9 - 8 by grind) hd
   grind
theorem Lt9.abs {q:Rat}(h:Lt9 q):q≤10000 ∧ -10000≤q:=by
 have h0:=q.den_pos
 have h1:=Z8p q
 have hd:(1:Rat)≤q.den:=by exact_mod_cast h0
 have n1:(q.num:Rat)≤((10000:Int):Rat):=by have:=h.2; exact Rat.intCast_le_intCast.2 (show q.num≤10000 by omega)
 have n2:((-10000:Int):Rat)≤(q.num:Rat):=by have:=h.2; exact Rat.intCast_le_intCast.2 (show -10000≤q.num by omega)
 rw [show ((10000:Int):Rat)=10000 from rfl] at n1
 rw [show ((-10000:Int):Rat) = -10000 from rfl] at n2
 rw [← h1] at n1 n2
 constructor
 ·rcases (Rat.le_total:q≤10000∨10000≤q) with h6 | h6
  ·exact h6
  ·have:=Rat.mul_nonneg (show 0≤q by grind) (show 0≤(q.den:Rat) - 1 by grind)
   grind
 ·rcases (Rat.le_total : -10000≤q∨q ≤ -10000) with h6 | h6
  ·exact h6
  ·have:=Rat.mul_nonneg (show 0 ≤ -q by grind) (show 0≤(q.den:Rat) - 1 by grind)
   grind
theorem Ydf {odds:List Rat}{to:List Nat}{n:Nat}{c:Rat}:∀ {k:Nat},k≤to.length→(∀ x,x∈to→x<n)→dotW odds (List.replicate n c) to k=c*sumO odds k
 | 0,_,_=>by simp only [dotW,sumO]; grind
 | k+1,hk,h=>by
  simp only [dotW,sumO]
  rw [Ydf (by omega) h,Zgf (h _ (Zb2 (by omega)))]
  grind
theorem Z64 {g:Gm}(hg:GmP g) {p:List Int}(hp:POk g p) {i:Nat}(hi:i<g.nodes.length) {c:Rat}:worthP (nodeAt g i) (pget p i) (List.replicate g.nodes.length c)=c:=by
 have hx:=Zbl hi
 have hok:=hg.ok.node _ hx
 have hlt:=hp.lt hi
 have hod:=hg.odds _ hx
 unfold worthP
 split
 ·rename_i h3
  rw [Ydf (Nat.le_refl _) hok.lt,(hod h3).2]; grind
 ·rename_i h3
  exact Zgf (hok.lt _ (Zb2 (hlt h3)))
theorem Ys6 {g:Gm}(hg:GmP g) (hl:GmL g) {p:List Int}(hp:POk g p) {v:List Rat}(hv:PVal g p v) {i:Nat}(hi:i<g.nodes.length):rget v i≤100000 ∧ -100000≤rget v i:=by
 have hs:=Ymb hg hp
 have h9:=frac9 hl.d hg.d1
 have d0:=hg.d0
 have hr:=fun j (hj:j<g.nodes.length)=>(hl.rew _ (List.mem_of_getElem? (Zaj (r:=g.rew) (j:=j) (by rw [hg.ok.rew]; exact hj)))).abs
 constructor
 ·have:=hs.le hg.d1 (u:=v) (v:=List.replicate g.nodes.length 100000) (fun j hj=>by rw [← hv.2 j hj]; grind) (fun j hj=>by
   rw [Zgf hj]; unfold planV; rw [Z64 hg hp hj]; have:=hr j hj; grind) i hi
  rwa [Zgf hi] at this
 ·have:=hs.le hg.d1 (u:=List.replicate g.nodes.length (-100000)) (v:=v) (fun j hj=>by
   rw [Zgf hj]; unfold planV; rw [Z64 hg hp hj]; have:=hr j hj; grind) (fun j hj=>by rw [← hv.2 j hj]; grind) i hi
  rwa [Zgf hi] at this
theorem Ymq {g:Gm}(hg:GmP g) (hl:GmL g) {p:List Int}(hp:POk g p):Rb 4000 (valP g p):=fun q hq=>by
 obtain ⟨i,hi,rfl⟩:∃ i,i<g.nodes.length∧q=rget (valP g p) i:=by
  obtain ⟨i,hi⟩:=List.getElem?_of_mem hq
  have hlt:=(List.getElem?_eq_some_iff.1 hi).1
  have:=Zaj hlt
  rw [hi] at this
  exact ⟨i,by rw [(Yfp hg hp).1] at hlt; exact hlt,by simpa using this⟩
 obtain ⟨h1,h2⟩:=Z72 hg hp (Nat.le_refl g.nodes.length)
 obtain ⟨_,_,_,h3,h4⟩:=Z85 h1.len h1.wid hg.ok.rew (Z77 hg hp)
 have hD:=Z77 hg hp
 obtain ⟨_,_,hz⟩:=Yp8 hg hl hp (Nat.le_refl g.nodes.length)
 have hn:=hl.n
 have hpos:(0:Rat)<N2:=by decide+kernel
 obtain ⟨D,d1,d2,d3⟩:=Yzp (k:=g.nodes.length) (c:=0) (b:=90) (A:=fun i j=>mget (planM g p g.nodes.length) i j*N2) (r:=fun i=>rget g.rew i*N2) (x:=rget (valP g p))
  (fun i j _ _ _ _=>(hz i j).mono (by omega))
  (fun i _ hi=>by
   have:=(hl.rew _ (List.mem_of_getElem? (Zaj (r:=g.rew) (j:=i) (by rw [hg.ok.rew]; omega)))).z
   have h2:Zb 12 2520:=⟨2520,rfl,by decide⟩
   have h3:=this.mul h2
   rw [show rget g.rew i*N2=rget g.rew i*2520*2520 by grind]
   exact h3.mono (by omega))
  (fun i h0 hi=>by
   obtain ⟨a,b⟩:=hD i h0 (by omega)
   refine ⟨fun j hj hjn hji=>?_,?_⟩
   ·have:=Rat.mul_nonneg (show 0 ≤ -mget (planM g p g.nodes.length) i j by have:=a j hj (by omega) hji; grind) (Rat.le_of_lt hpos)
    grind
   ·rw [Za3 (g:=fun j=>N2*mget (planM g p g.nodes.length) i j) (fun j _=>by grind),Zfk]
    refine Rat.mul_pos hpos ?_
    rw [List.range'_eq_map_range,Z79] at b ⊢
    rw [Za3 (g:=fun j=>mget (planM g p g.nodes.length) i (0+j)) (fun j _=>by rw [show 0+1+j - 1=0+j by omega])] at b
    exact b)
  (fun i _ hi=>by
   have:=h4 i (by omega)
   rw [Za3 (g:=fun j=>N2*(rget (valP g p) j*mget (planM g p g.nodes.length) i j)) (fun j _=>by grind),Zfk,List.range'_eq_map_range,Z79]
   rw [Za3 (g:=fun j=>rget (solvR g.nodes.length (planM g p g.nodes.length) g.rew) j*mget (planM g p g.nodes.length) i j) (fun j _=>by rw [show 0+j=j by omega]; rfl),this]
   grind)
 have ha:=Ys6 hg hl hp (Yfp hg hp) hi
 have hb:fbit g.nodes.length 90≤3000:=by
  have:∀ n,n≤5→fbit n 90≤3000:=fun n hn=>by
   have:n=0∨n=1∨n=2∨n=3∨n=4∨n=5:=by omega
   rcases this with rfl | rfl | rfl | rfl | rfl | rfl <;> decide
  exact this _ hn
 have e17:(2:Rat) ^ 17=131072:=by decide+kernel
 exact (Y56 (c:=17) d1 d2 (d3 i (by omega) (by omega)) (by rw [e17]; grind) (by rw [e17]; grind)).mono (by omega)
end GoAbs
namespace GoAbs
open Go Go.Proofs
set_option maxHeartbeats 4000000
end GoAbs
namespace GoAbs
open Go Go.Proofs
def Z0c:List IOp := [oI 4 (.mv (cI 0)) 0]
def Z3f:List IOp := [mI 5 0 0,mI 6 1 0,oI 7 (.bin .rem (.t 5) (.t 6)) 0,mI 8 1 0,oI 9 (.bin .add (.t 7) (.t 8)) 0,mI 10 1 0,oI 11 (.bin .rem (.t 9) (.t 10)) 0,mI 4 11 0]
def Yen:CC := .seq (.rg false Z0c) (.seq (.rg false Z3f) .ret)
abbrev Ylx:Nat:=29
theorem Yjs:fnOk Tryz.prog 29=some (12,Yen,[.tmp 4]):=by kernel_rfl
def Zt4:List IOp := [oI 4 (.mv (cI 0)) 0]
def Ztd:List IOp := [mI 5 1 0,mI 6 0 0,oI 7 (.len (.t 6)) 0,oI 8 (.bin .lss (.t 5) (.t 7)) 0]
def Z5f:List IOp := [mI 9 0 0,mI 10 1 0,xI 11 1 9 10 0,lI 12 11 0,mI 4 12 0]
def Z51:List IOp := [oI 4 (.mv (cI 0)) 0]
def Yi6:CC := .seq (.rg false Zt4) (.seq (.seq (.rg false Ztd) (.cond (.t 8) (.seq (.rg false Z5f) .ret) .skip)) (.seq (.rg false Z51) .ret))
abbrev Yti:Nat:=47
theorem Ynx:fnOk Tryz.prog 47=some (13,Yi6,[.tmp 4]):=by kernel_rfl
def Zx6:List IOp := [oI 4 (.mv (.c .nils)) 0,oI 5 (.mv (.c (.bool false))) 0]
def Zv3:List IOp := [mI 9 0 0,mI 10 1 0,oI 11 (.call 43 [.t 9,.t 10]) 0,mI 8 11 0,eI 12 0 8 0,eI 13 1 8 0,mI 6 12 0,mI 7 13 0]
def Zye:List IOp := [mI 14 7 0,oI 15 (.bin .neq (.t 14) (cI 0)) 0,mI 16 15 0,gI 17 (.mv (.t 6)) 0 16 false,gI 18 (.len (.t 17)) 0 16 false,gI 19 (.mv (.t 0)) 0 16 false,gI 20 (.len (.t 19)) 0 16 false,gI 21 (.bin .neq (.t 18) (.t 20)) 0 16 false,oI 22 (.pick (.t 16) (.c (.bool true)) (.t 21)) 0,mI 23 22 0,gI 24 (.mv (.t 6)) 0 23 false,gI 25 (.call 24 [.t 24]) 0 23 false,gI 26 (.bin .neq (.t 25) (cI 0)) 0 23 false,oI 27 (.pick (.t 23) (.c (.bool true)) (.t 26)) 0]
def Ycv:List IOp := [oI 4 (.mv (.c .nils)) 0,oI 5 (.mv (.c (.bool false))) 0]
def Zx9:List IOp := [mI 28 6 0,oI 29 (.call 27 [.t 28]) 0,mI 4 29 0,oI 5 (.mv (.c (.bool true))) 0]
def Yax:CC := .seq (.rg false Zx6) (.seq (.rg false Zv3) (.seq (.seq (.rg false Zye) (.cond (.t 27) (.seq (.rg false Ycv) .ret) .skip)) (.seq (.rg false Zx9) .ret)))
abbrev Yhy:Nat:=23
theorem Yho:fnOk Tryz.prog 23=some (30,Yax,[.tmp 4,.tmp 5]):=by kernel_rfl
def Zkj:List IOp := [oI 3 (.box (.t 0)) 0,oI 6 (.mv (.c (.bool false))) 1]
def Zkp:List IOp := [lJ 23 5 3 0,oI 24 (.call 22 [.t 23]) 0,mI 22 24 0,eI 25 0 22 0,eI 26 1 22 0,mI 7 25 0,mI 8 26 0]
def Zkh:List IOp := [mI 28 7 0,mI 29 8 0,oI 30 (.call 23 [.t 28,.t 29]) 0,mI 27 30 0,eI 31 0 27 0,eI 32 1 27 0,mI 9 31 0,mI 10 32 0]
def Zkf:List IOp := [mI 33 1 0,oI 34 (.call 29 [.t 33,cI 30]) 0,mI 35 2 0,oI 36 (.bin .rem (.t 35) (cI 100)) 0,mI 1 34 0,mI 2 36 0]
def Zkt:List IOp := [oI 37 (.bsl (some 3) 0 [.int .i64 0,.str ⟨#[]⟩,.nils] []) 0,oI 38 (.bsl (some 3) 0 [.int .i64 0,.str ⟨#[]⟩,.nils] []) 1,mI 11 37 2,mI 12 38 2]
def Zj7:List IOp := [oI 13 (.mv (cI 0)) 0]
def Zfq:List IOp := [mI 39 13 0,mI 40 7 0,oI 41 (.len (.t 40)) 0,oI 42 (.bin .lss (.t 39) (.t 41)) 0]
def Ze4:List IOp := [mI 45 7 0,mI 46 13 0,xI 47 3 45 46 0,lJ 48 3 47 0,mI 49 7 0,mI 50 13 0,xI 51 3 49 50 0,⟨some 52,.ld (some 3) (.t 51),0,[],[2],none⟩,oI 14 (.alloc [.int .i64 0,.str ⟨#[]⟩,.nils]) 0,oI 15 (.alloc [.int .i64 0,.str ⟨#[]⟩,.nils]) 1,⟨none,.st 3 (.t 14) (.t 48),2,[0,1],[],none⟩,⟨none,.st 3 (.t 15) (.t 52),2,[0,1],[],none⟩]
@[go_sem ↓] theorem Zvr : autoK Ze4 = (2, 2) := by kernel_rfl
@[go_sem] theorem Yka : autoK [mI 45 7 0, mI 46 13 0, xI 47 3 45 46 0, lJ 48 3 47 0, mI 49 7 0, mI 50 13 0, xI 51 3 49 50 0, ⟨some 52, .ld (some 3) (.t 51), 0, [], [2], none⟩, oI 14 (.alloc [.int .i64 0, .str ⟨#[]⟩, .nils]) 0, oI 15 (.alloc [.int .i64 0, .str ⟨#[]⟩, .nils]) 1, ⟨none, .st 3 (.t 14) (.t 48), 2, [0, 1], [], none⟩, ⟨none, .st 3 (.t 15) (.t 52), 2, [0, 1], [], none⟩] = (2, 2) := Zvr
def Zkd:List IOp := [mI 53 7 0,mI 54 13 0,xI 55 3 53 54 0,fI 56 1 55 0,lI 57 56 0,oI 58 (.call 21 [.t 57]) 0,mI 59 1 0,oI 60 (.call 31 [.t 59]) 0,oI 61 (.call 28 [.t 58,.t 60]) 0,oI 62 (.call 30 [.t 61]) 0,fI 63 1 14 0,⟨none,.st 1 (.t 63) (.t 62),0,[],[],none⟩]
def Zjn:List IOp := [mI 64 7 0,mI 65 13 0,xI 66 3 64 65 0,fI 67 1 66 0,lI 68 67 0,oI 69 (.call 21 [.t 68]) 0,mI 70 2 0,oI 71 (.call 31 [.t 70]) 0,oI 72 (.call 32 [.t 69,.t 71]) 0,oI 73 (.call 30 [.t 72]) 0,fI 74 1 15 0,⟨none,.st 1 (.t 74) (.t 73),0,[],[],none⟩]
def Zee:List IOp := [mI 75 11 0,lJ 76 3 14 0,oI 77 (.bsl (some 3) 1 [.int .i64 0,.str ⟨#[]⟩,.nils] [(0,.t 76)]) 0,⟨some 78,.app (some 3) 48 (.t 75) (.t 77),1,[0],[],none⟩,mI 79 12 2,⟨some 80,.ld (some 3) (.t 15),2,[],[1],none⟩,⟨some 81,.bsl (some 3) 1 [.int .i64 0,.str ⟨#[]⟩,.nils] [(0,.t 80)],2,[],[1],none⟩,⟨some 82,.app (some 3) 48 (.t 79) (.t 81),3,[0,1,2],[],none⟩,⟨some 11,.mv (.t 78),4,[0,1,2,3],[],none⟩,⟨some 12,.mv (.t 82),4,[0,1,2,3],[],none⟩]
@[go_sem ↓] theorem Zsg : autoK Zee = (4, 2) := by kernel_rfl
@[go_sem] theorem Yhr : autoK [mI 75 11 0, lJ 76 3 14 0, oI 77 (.bsl (some 3) 1 [.int .i64 0, .str ⟨#[]⟩, .nils] [(0, .t 76)]) 0, ⟨some 78, .app (some 3) 48 (.t 75) (.t 77), 1, [0], [], none⟩, mI 79 12 2, ⟨some 80, .ld (some 3) (.t 15), 2, [], [1], none⟩, ⟨some 81, .bsl (some 3) 1 [.int .i64 0, .str ⟨#[]⟩, .nils] [(0, .t 80)], 2, [], [1], none⟩, ⟨some 82, .app (some 3) 48 (.t 79) (.t 81), 3, [0, 1, 2], [], none⟩, ⟨some 11, .mv (.t 78), 4, [0, 1, 2, 3], [], none⟩, ⟨some 12, .mv (.t 82), 4, [0, 1, 2, 3], [], none⟩] = (4, 2) := Zsg
def Zjq:List IOp := [mI 43 13 0,oI 44 (.bin .add (.t 43) (cI 1)) 0,mI 13 44 0]
def Zes:CC := .seq (.seq (.rg false Zfq) (.cond (.t 42) .skip (.exit 0))) (.seq (.block 1 (.seq (.rg true Ze4) (.seq (.rg false Zkd) (.seq (.rg false Zjn) (.rg true Zee))))) (.rg false Zjq))
def Zjz:List IOp := [mI 84 11 0,mI 85 8 0,oI 86 (.call 23 [.t 84,.t 85]) 0,mI 83 86 0,eI 87 0 83 0,eI 88 1 83 0,mI 16 87 0,mI 17 88 0]
def Zi1:List IOp := [mI 90 12 0,mI 91 8 0,oI 92 (.call 23 [.t 90,.t 91]) 0,mI 89 92 0,eI 93 0 89 0,eI 94 1 89 0,mI 18 93 0,mI 19 94 0]
def Ziv:List IOp := [mI 95 10 0,oI 96 (.un .not (.t 95)) 0,mI 97 96 0,gI 98 (.mv (.t 17)) 0 97 false,gI 99 (.un .not (.t 98)) 0 97 false,oI 100 (.pick (.t 97) (.c (.bool true)) (.t 99)) 0,mI 101 100 0,gI 102 (.mv (.t 19)) 0 101 false,gI 103 (.un .not (.t 102)) 0 101 false,oI 104 (.pick (.t 101) (.c (.bool true)) (.t 103)) 0,mI 105 104 0,gI 106 (.call 17 []) 0 105 false,gI 107 (.un .not (.t 106)) 0 105 false,oI 108 (.pick (.t 105) (.c (.bool true)) (.t 107)) 0]
def Zzn:List IOp := [oI 6 (.mv (.c (.bool false))) 0]
def Zio:List IOp := [mI 109 2 0,oI 110 (.call 31 [.t 109]) 0,oI 111 (.call 31 [cI 1]) 0,mI 112 8 0,oI 113 (.call 21 [.t 112]) 0,oI 114 (.call 34 [.t 111,.t 113]) 0,oI 115 (.call 33 [.t 110,.t 114]) 0,oI 20 (.alloc [.bool false,.nils,.bool false,.nils]) 0,⟨none,.st 4 (.t 20) (.t 115),1,[],[],none⟩]
def Zjf:List IOp := [oI 21 (.mv (cI 0)) 0]
def Zd8:List IOp := [mI 116 21 0,mI 117 7 0,oI 118 (.len (.t 117)) 0,oI 119 (.bin .lss (.t 116) (.t 118)) 0]
def Zd2:List IOp := [mI 122 16 0,mI 123 21 0,xI 124 4 122 123 0,lJ 125 4 124 0,mI 126 9 0,mI 127 21 0,xI 128 4 126 127 0,lJ 129 4 128 0,mI 130 1 0,oI 131 (.call 31 [.t 130]) 0,oI 132 (.call 28 [.t 129,.t 131]) 0,oI 133 (.callw 25 [.t 125,.t 132]) 0,oI 134 (.bin .neq (.t 133) (cI 0)) 0,mI 135 134 0,gI 136 (.mv (.t 18)) 0 135 false,gI 137 (.mv (.t 21)) 0 135 false,gI 138 (.idx 4 (.t 136) (.t 137)) 0 135 false,gI 139 (.ld (some 4) (.t 138)) 0 135 false,gI 140 (.mv (.t 9)) 0 135 false,gI 141 (.mv (.t 21)) 0 135 false,gI 142 (.idx 4 (.t 140) (.t 141)) 0 135 false,gI 143 (.ld (some 4) (.t 142)) 0 135 false,gI 144 (.ld (some 4) (.t 20)) 0 135 false,gI 145 (.call 32 [.t 143,.t 144]) 0 135 false,gI 146 (.callw 25 [.t 139,.t 145]) 0 135 false,gI 147 (.bin .neq (.t 146) (cI 0)) 0 135 false,oI 148 (.pick (.t 135) (.c (.bool true)) (.t 147)) 0]
@[go_sem ↓] theorem Zrt : autoK Zd2 = (0, 0) := by kernel_rfl
@[go_sem] theorem Yhu : autoK [mI 122 16 0, mI 123 21 0, xI 124 4 122 123 0, lJ 125 4 124 0, mI 126 9 0, mI 127 21 0, xI 128 4 126 127 0, lJ 129 4 128 0, mI 130 1 0, oI 131 (.call 31 [.t 130]) 0, oI 132 (.call 28 [.t 129, .t 131]) 0, oI 133 (.callw 25 [.t 125, .t 132]) 0, oI 134 (.bin .neq (.t 133) (cI 0)) 0, mI 135 134 0, gI 136 (.mv (.t 18)) 0 135 false, gI 137 (.mv (.t 21)) 0 135 false, gI 138 (.idx 4 (.t 136) (.t 137)) 0 135 false, gI 139 (.ld (some 4) (.t 138)) 0 135 false, gI 140 (.mv (.t 9)) 0 135 false, gI 141 (.mv (.t 21)) 0 135 false, gI 142 (.idx 4 (.t 140) (.t 141)) 0 135 false, gI 143 (.ld (some 4) (.t 142)) 0 135 false, gI 144 (.ld (some 4) (.t 20)) 0 135 false, gI 145 (.call 32 [.t 143, .t 144]) 0 135 false, gI 146 (.callw 25 [.t 139, .t 145]) 0 135 false, gI 147 (.bin .neq (.t 146) (cI 0)) 0 135 false, oI 148 (.pick (.t 135) (.c (.bool true)) (.t 147)) 0] = (0, 0) := Zrt
def Zzo:List IOp := [oI 6 (.mv (.c (.bool false))) 0]
def Zin:List IOp := [mI 120 21 0,oI 121 (.bin .add (.t 120) (cI 1)) 0,mI 21 121 0]
def Zkn:CC := .seq (.seq (.rg false Zd8) (.cond (.t 119) .skip (.exit 2))) (.seq (.block 3 (.seq (.rg true Zd2) (.cond (.t 148) (.seq (.rg false Zzo) .ret) .skip))) (.rg false Zin))
def Ziy:List IOp := [oI 6 (.mv (.c (.bool true))) 0]
def Zs5:CC := .seq (.rg false Zkj) (.seq (.rg false Zkp) (.seq (.rg false Zkh) (.seq (.rg false Zkf) (.seq (.rg false Zkt) (.seq (.seq (.rg false Zj7) (.block 0 (.loop Zes))) (.seq (.rg false Zjz) (.seq (.rg false Zi1) (.seq (.seq (.rg false Ziv) (.cond (.t 108) (.seq (.rg false Zzn) .ret) .skip)) (.seq (.rg false Zio) (.seq (.seq (.rg false Zjf) (.block 2 (.loop Zkn))) (.seq (.rg false Ziy) .ret)))))))))))
abbrev Z7t:Nat:=5
theorem Z3t:fnOk Tryz.prog 5=some (149,Zs5,[.tmp 6]):=by kernel_rfl
def Zv6:List IOp := [oI 1 (.box (.t 0)) 0,oI 2 (.mv (.c .nils)) 1,oI 3 (.mv (.c (.str ⟨#[]⟩))) 1]
def Zx4:List IOp := [fI 4 0 1 0,lI 5 4 0,fI 6 2 1 0,lI 7 6 0,fI 8 3 1 0,lI 9 8 0,fI 10 4 1 0,lI 11 10 0,fI 12 1 1 0,lI 13 12 0,oI 14 (.call 60 [.t 5,.t 7,.t 9,.t 11,.t 13]) 0,eI 15 0 14 0,eI 16 1 14 0,mI 2 15 0,mI 3 16 0]
def Z89:CC := .seq (.rg false Zv6) (.seq (.rg false Zx4) .ret)
abbrev Yio:Nat:=22
theorem Yf8:fnOk Tryz.prog 22=some (17,Z89,[.tmp 2,.tmp 3]):=by kernel_rfl
end GoAbs
namespace GoAbs
open Go Go.Proofs
set_option maxHeartbeats 4000000
def strsL (l:List (List UInt8)):List AV:=l.map fun s => .str (bs s)
theorem rsame {l:List (List UInt8)}(hl:l.length≤1000000):SpecV Tryz.prog Yfh [.sl (strsL l),.sl (strsL l)] (.bool true):=by
 have hmx:Tryz.prog.follows .mixedOrders=true:=by kernel_rfl
 have hsl:(strsL l).length=l.length:=by simp [strsL]
 refine Za5 Ycq (by simp) (Zbh 1 rfl ?_)
 unfold Z5y
 simp only [go_sem,Ztm,Zuy,hsl]
 refine Za8 (Za8 (T_W ?_))
 simp only [go_sem,Zsb]
 refine Za9 (Zaf (fun i:Nat=>⟨envL [(0,.sl (strsL l)),(1,.sl (strsL l)),(5,.int .i64 (i:Int))],[]⟩)
  (fun i=>i≤l.length) (fun i=>l.length - i) 0 (by omega) (Zab _ (by simp only [go_sem]; simp)) (fun i hi N hN=>?_))
 unfold Zsn
 by_cases hin:i<l.length
 ·obtain ⟨s,hs⟩:∃ s,l[i]? = some s:=⟨_,List.getElem?_eq_getElem hin⟩
  have hget:(strsL l)[i]? = some (.str (bs s)):=by simp [strsL,hs]
  have q0:(0:Int)≤(i:Int):=by omega
  have q1:(i:Int)<(l.length:Int):=by omega
  have e1:IntKind.i64.wrap ((i:Int)+1)=((i+1:Nat):Int):=by rw [Zac (by omega) (by omega)]; omega
  simp only [go_sem,Zj2,Zjs,Ztf,q0,q1,hsl,hget,hmx,e1]
  exact hN (i+1) _ (by omega) (by omega) (Zab _ (by simp only [go_sem]))
 ·have hie:i=l.length:=by omega
  subst hie
  have q1:¬ ((l.length:Nat):Int)<(l.length:Int):=by omega
  simp only [go_sem,Zj2,hsl,q1]
  refine T_W ?_
  simp only [go_sem,Zrz]
def L1:List Nd := [⟨1,[49],[(0,[])]⟩]
def d12:List UInt8 := [49,47,50]
theorem Yhn:GIn L1 d12:=by
 refine ⟨.inl (by decide),by decide,fun n hn=>?_⟩
 simp [L1] at hn
 subst hn
 refine ⟨by decide,by decide,fun m hm=>?_⟩
 simp at hm
 subst hm
 decide
theorem Ylf:eC L1 d12=0:=by decide+kernel
theorem Yl8:toGm L1 d12=⟨[⟨1,[0],[]⟩],[1],1/2⟩:=by
 unfold toGm L1 d12 toGN oddsQ
 have h1:parseL [49]=some 1:=by decide+kernel
 have h2:parseL [49,47,50]=some (1/2):=by decide+kernel
 simp [h1,h2,hasO]
theorem Y8h:valG (toGm L1 d12) = [2]:=by
 rcases Z75 Yhn with ⟨h,_⟩ | ⟨_,_,hg,_⟩
 ·exact absurd Ylf h
 ·symm
  refine Ya1 hg (by rw [Yl8]; rfl) (fun i hi=>?_)
  rw [Yl8] at hi ⊢
  have:i=0:=by simpa using hi
  subst this
  decide+kernel
theorem Y9p:rndR (toGm L1 d12) 3 = [7/4]:=by rw [Yl8]; decide+kernel
theorem Y4u {H:Heap}{ids:List Nat}{b:Nat}{k:Int}{s:ByteArray}{X:AV}{M:List AV}(hb:H[b]? = some (.cells [.int .i64 k,.str s,X])) (hi:b∈ids) (hX:BV H ids X (.sl M)):BV H ids (.osl (some 3) b 0 1) (.sl [.agg [.int .i64 k,.str s,.sl M]]):=by
 refine .osl (some 3) b 0 1 _ _ hb hi rfl (fun x hx=>by simp at hx; subst hx; rfl) (by simp [es]) (fun i x j y z hx hy hz=>?_)
 have hi0:i=0:=by
  have:=(List.getElem?_eq_some_iff.1 hx).1
  simp at this; exact this
 subst hi0
 simp at hx
 subst hx
 rw [show 0+(0*es (some 3)+j)=j by simp] at hz
 match j with
 | 0=>simp [AV.cells] at hy hz; subst hy hz; exact .int _ _
 | 1=>simp [AV.cells] at hy hz; subst hy hz; exact .str _
 | 2=>simp [AV.cells] at hy hz; subst hy hz; exact hX
 | j+3=>simp [AV.cells] at hy
theorem Y5b {H:Heap}{ids:List Nat}{b:Nat}{k:Int}{s:ByteArray}(hb:H[b]? = some (.cells [.int .i64 k,.str s])) (hi:b∈ids):BV H ids (.osl (some 2) b 0 1) (.sl [.agg [.int .i64 k,.str s]]):=by
 refine .osl (some 2) b 0 1 _ _ hb hi rfl (fun x hx=>by simp at hx; subst hx; rfl) (by simp [es]) (fun i x j y z hx hy hz=>?_)
 have hi0:i=0:=by
  have:=(List.getElem?_eq_some_iff.1 hx).1
  simp at this; exact this
 subst hi0
 simp at hx
 subst hx
 rw [show 0+(0*es (some 2)+j)=j by simp] at hz
 match j with
 | 0=>simp [AV.cells] at hy hz; subst hy hz; exact .int _ _
 | 1=>simp [AV.cells] at hy hz; subst hy hz; exact .str _
 | j+2=>simp [AV.cells] at hy
theorem Yun {H:Heap}{ids:List Nat}{b:Nat}{s:ByteArray}(hb:H[b]? = some (.cells [.str s])) (hi:b∈ids):BV H ids (.osl none b 0 1) (.sl [.str s]):=by
 refine .osl none b 0 1 _ _ hb hi rfl (fun x hx=>by simp at hx; subst hx; rfl) (by simp [es]) (fun i x j y z hx hy hz=>?_)
 have hi0:i=0:=by
  have:=(List.getElem?_eq_some_iff.1 hx).1
  simp at this; exact this
 subst hi0
 simp at hx
 subst hx
 match j with
 | 0=>simp [AV.cells,es] at hy hz; subst hy hz; exact .str _
 | j+1=>simp [AV.cells] at hy
theorem wlives:SpecV Tryz.prog Ylz [] (.bool true):=by
 have hv:=wvalue Yhn
 rw [if_pos Ylf,Y8h,show numsR [2] = .tup [.sl (strsL [[50]]),.int .i64 0] by
  unfold numsR
  rw [if_pos (by decide+kernel)]
  have:numS 2 = [50]:=by decide+kernel
  simp [ss,strsL,this]] at hv
 have hr:=wrounds (r:=3) Yhn (by omega)
 rw [show rC L1 d12 3=0 by unfold rC; rw [Ylf]; rfl,if_pos rfl,show (3:Int).toNat=3 from rfl,Y9p,show numsR [7/4] = .tup [.sl (strsL [[55,47,52]]),.int .i64 0] by
  unfold numsR
  rw [if_pos (by decide+kernel)]
  have:numS (7/4) = [55,47,52]:=by decide+kernel
  simp [ss,strsL,this]] at hr
 refine Zad Yig (by simp) ?_
 unfold Ydy
 simp only [go_sem,Z1v,Z06]
 refine Zhy (ids := [0,1]) hv (.cons (Y4u rfl (by simp) (Y5b rfl (by simp))) (.cons (.str _) .nil)) ?_
 simp only [go_sem,Z2t,kill,List.foldl_cons,List.foldl_nil]
 refine Zhy (ids := [2,3]) hr (.cons (Y4u rfl (by simp) (Y5b rfl (by simp))) (.cons (.str _) (.cons (.int _ _) .nil))) ?_
 simp only [go_sem,Z2f,kill,List.foldl_cons,List.foldl_nil]
 have s1:=rsame (l := [[50]]) (by decide)
 have s2:=rsame (l := [[55,47,52]]) (by decide)
 refine Zs7 (ids := [4]) s1 (.cons (.sl _) (.cons (Yun rfl (by simp)) .nil)) (.inr (.bool _)) (fun b _=>trivial) ?_
 simp only [go_sem]
 refine Zs7 (ids := [5]) s2 (.cons (.sl _) (.cons (Yun rfl (by simp)) .nil)) (.inr (.bool _)) (fun b _=>trivial) ?_
 simp only [go_sem]
end GoAbs
namespace GoAbs
open Go Go.Proofs
set_option maxHeartbeats 4000000
end GoAbs
namespace GoAbs
open Go Go.Proofs
set_option maxHeartbeats 4000000
theorem Z6j {H:Heap}{ids:List Nat}{q:Rat}:BVs H ids (rq q) (rq q)=True:=Yxo
theorem Xc9 {d:List UInt8}(hd:okB d=true) (hl:d.length≤1000):SpecV Tryz.prog Yf6 [.str (bs d)] (.agg (rq ((parseL d).getD 0))):=rof (by omega) (okBq hd)
end GoAbs
namespace GoAbs
open Go Go.Proofs
set_option maxHeartbeats 8000000
theorem txts_len' (M:List (List UInt8)):(txts M).length=M.length:=by simp [txts]
end GoAbs
namespace GoAbs
open Go Go.Proofs
set_option maxHeartbeats 4000000
theorem Y1s (M:List (List UInt8)):M.map strAV=txts M:=rfl
end GoAbs
namespace GoAbs
open Go Go.Proofs
set_option maxHeartbeats 4000000
end GoAbs
namespace GoAbs
open Go Go.Proofs
set_option exponentiation.threshold 20000
def rho (l lo hi:Nat) (sg:Rat) (s:Nat):Rat:=if s=l then 1 else if lo≤s∧s<hi then sg else 0
end GoAbs
namespace GoAbs
open Go Go.Proofs
end GoAbs
namespace GoAbs
open Go Go.Proofs
set_option exponentiation.threshold 20000
theorem Yw8 {q:Rat}(h:NumOk q):(numS q).length≤1000000000:=by have:=Y0j h; omega
end GoAbs
namespace GoAbs
open Go Go.Proofs
set_option exponentiation.threshold 20000
theorem Y76 {F:List Rat}(hok:∀ q,q∈F→NumOk q):(F.map numS).map toQ=F:=by
 rw [List.map_map]
 conv=>rhs; rw [← List.map_id F]
 exact List.map_congr_left fun q hq=>by
  show toQ (numS q)=q
  unfold toQ; rw [Z4a (hok q hq)]; rfl
end GoAbs
namespace GoAbs
open Go Go.Proofs
set_option maxHeartbeats 4000000
theorem Zvh {g:Gm}(hg:GmP g) (hl:GmL g):Rb 4000 (valG g):=by
 obtain ⟨q,h1,h2⟩:=Ya6 hg
 rw [h2]
 exact Ymq hg hl h1.ok
theorem Y6s (x:List Rat):ss x=txts (x.map numS):=by unfold ss txts; rw [List.map_map]; rfl
end GoAbs
namespace GoAbs
open Go Go.Proofs
set_option maxHeartbeats 8000000
def pk (l:List Int) (i:Nat):Int:=l.getD i 0
def mdMany (mv:List Int) (i:Nat):Nat:=(pk mv (4*i) % 3+1).toNat
def mdW (mv:List Int) (i k:Nat):Int:=IntKind.i64.wrap ((pk mv (4*i+k+1)).tdiv 7) % 3+1
def mdS (mv:List Int) (i:Nat):Nat→Int
 | 0=>0
 | k+1=>mdS mv i k+mdW mv i k
def mdKind (ks:List Int) (i:Nat):Int:=pk ks i % 3+1
def mdRew (rs:List Int) (i:Nat):Rat:=(((pk rs i).tmod 50:Int):Rat)
def mdOdd (mv:List Int) (i k:Nat):Rat:=Rat.divInt (mdW mv i k) (mdS mv i (mdMany mv i))
def mdMv (size:Nat) (kd:Int) (mv:List Int) (i k:Nat):Mv:=(pk mv (4*i+k+1) % (size:Int),if kd=3 then numS (mdOdd mv i k) else [])
def mdN (size:Nat) (ks rs mv:List Int) (i:Nat):Nd:=⟨mdKind ks i,numS (mdRew rs i),(List.range (mdMany mv i)).map (mdMv size (mdKind ks i) mv i)⟩
def mdL (size:Nat) (ks rs mv:List Int):List Nd:=(List.range size).map (mdN size ks rs mv)
def mdD (d:Int):Rat:=Rat.divInt (d % 7) (d % 7+1+d / 7 % 3)
theorem Zr1 (mv:List Int) (i:Nat):1≤mdMany mv i∧mdMany mv i≤3:=by
 unfold mdMany
 have h1:=Int.emod_nonneg (pk mv (4*i)) (show (3:Int)≠0 by decide)
 have h2:=Int.emod_lt_of_pos (pk mv (4*i)) (show (0:Int)<3 by decide)
 omega
theorem Ypu (mv:List Int) (i k:Nat):1≤mdW mv i k∧mdW mv i k≤3:=by
 unfold mdW
 have h1:=Int.emod_nonneg (IntKind.i64.wrap ((pk mv (4*i+k+1)).tdiv 7)) (show (3:Int)≠0 by decide)
 have h2:=Int.emod_lt_of_pos (IntKind.i64.wrap ((pk mv (4*i+k+1)).tdiv 7)) (show (0:Int)<3 by decide)
 omega
theorem Yu3 (mv:List Int) (i:Nat):∀ k:Nat,(k:Int)≤mdS mv i k∧mdS mv i k≤3*k
 | 0=>by unfold mdS; omega
 | k+1=>by
  have h1:=Yu3 mv i k
  have h2:=Ypu mv i k
  unfold mdS
  omega
theorem Ync (mv:List Int) (i:Nat):1≤mdS mv i (mdMany mv i)∧mdS mv i (mdMany mv i)≤9:=by
 have h1:=Zr1 mv i
 have h2:=Yu3 mv i (mdMany mv i)
 omega
theorem Yj2 (ks:List Int) (i:Nat):mdKind ks i=1∨mdKind ks i=2∨mdKind ks i=3:=by
 unfold mdKind
 have h1:=Int.emod_nonneg (pk ks i) (show (3:Int)≠0 by decide)
 have h2:=Int.emod_lt_of_pos (pk ks i) (show (0:Int)<3 by decide)
 omega
theorem Ygz (rs:List Int) (i:Nat):(mdRew rs i).den=1∧(mdRew rs i).num=(pk rs i).tmod 50∧(mdRew rs i).num.natAbs<50:=by
 have h1:=(Zr3 (v:=pk rs i) (n:=50) (by decide)).1
 have h2:=(Zr3 (v:=pk rs i) (n:=50) (by decide)).2.1
 unfold mdRew
 refine ⟨rfl,rfl,?_⟩
 show ((pk rs i).tmod 50).natAbs<50
 omega
theorem Yhi (mv:List Int) (i k:Nat):(mdOdd mv i k).den≤9∧(mdOdd mv i k).num.natAbs≤3∧0<mdOdd mv i k:=by
 have h1:=Ypu mv i k
 have h2:=Ync mv i
 unfold mdOdd
 obtain ⟨n1,n2⟩:=Zds (n:=mdW mv i k) (d:=mdS mv i (mdMany mv i)) (by omega)
 refine ⟨by omega,by omega,?_⟩
 rw [Rat.divInt_eq_div,Rat.div_def]
 have a1:(0:Rat)<((mdW mv i k:Int):Rat):=by exact_mod_cast (show (0:Int)<mdW mv i k by omega)
 have a2:(0:Rat)<((mdS mv i (mdMany mv i):Int):Rat):=by exact_mod_cast (show (0:Int)<mdS mv i (mdMany mv i) by omega)
 exact Rat.mul_pos a1 (Rat.inv_pos.2 a2)
theorem qb20 {q:Rat}(h:q.num.natAbs<1048576∧q.den<1048576):Qb 20 q:=⟨h.1,h.2⟩
theorem lpick {p:List Int}{i:Nat}:SpecV Tryz.prog Yti [.sl (ivs p),.int .i64 (i:Int)] (.int .i64 (pk p i)):=by
 refine Zad Ynx (by simp) ?_
 unfold Yi6
 by_cases hi:i<p.length
 ·have q0:(0:Int)≤(i:Int):=by omega
  have q1:(i:Int)<(p.length:Int):=by omega
  have hg:(ivs p)[i]? = some (.int .i64 (pk p i)):=Z87 (by unfold pk; rw [List.getD_eq_getElem?_getD,List.getElem?_eq_getElem hi]; rfl)
  simp only [go_sem,Zt4,Ztd,Z5f,Zbr,q0,q1,hg]
 ·have q1:¬ (i:Int)<(p.length:Int):=by omega
  have hg:pk p i=0:=by unfold pk; rw [List.getD_eq_getElem?_getD,List.getElem?_eq_none (by omega)]; rfl
  rw [hg]
  simp only [go_sem,Zt4,Ztd,Z51,Zbr,q1]
theorem lfold1 {v n:Int}(hn:0<n) (hnl:n≤1000000):SpecV Tryz.prog Ylx [.int .i64 v,.int .i64 n] (.int .i64 (v % n)):=by
 obtain ⟨h1,h2,h3⟩:=Zr3 (v:=v) hn
 have hn0:n≠0:=by omega
 have e1:IntKind.i64.wrap (v.tmod n+n)=v.tmod n+n:=Zac (by omega) (by omega)
 refine Zad Yjs (by simp) ?_
 unfold Yen
 simp only [go_sem,Z0c,Z3f,hn0,e1,h3]
theorem lnumq {q:Rat}{k:Nat}(hb:Qb k q) (hk:k≤10000000) (hok:NumOk q):SpecV Tryz.prog Ykr [.agg (rq q)] (.str (bs (numS q))):=by
 have h:=rnum hb.ib.1 hb.ib.2 (by have:=q.den_pos; omega) hk (Rat.num_divInt_den q)
 rw [if_pos hok] at h
 have h':SpecV Tryz.prog Ybp [.agg (rq q)] (.tup [.str (bs (numS q)),.bool true]):=h
 have rl:∀ q:Rat,(rq q).length=4:=fun q=>rfl
 refine Zad Yeh (by simp) ?_
 unfold Ygb
 simp only [go_sem,Zzs,Zzt,rl,Yfc,Ygn]
 refine Zaa h' (by simp only [go_sem,Z6j]) ?_
 simp only [go_sem,Zyl]
theorem Y73 {P:List AV}{B1:Blk}{ks rs mv:List Int}{d size:Int}{i:Nat}(hi:i≤10) (hP:∀ f,gcL f P=P) (hB:∀ f,B1.gc f=B1) {K:Ex→St→Prop}
  (hK:∀ e:Nat→AV,Has e [(1,.sl (ivs ks)),(2,.sl (ivs rs)),(3,.sl (ivs mv)),(4,.int .u8 d),(12,.osl (some 3) 0 0 i),(13,.int .i64 size),(14,.int .i64 (i:Int)),(15,.ptr 1 0),(16,.int .i64 (mdMany mv i:Int)),(17,.osl none 2 0 (mdMany mv i)),(18,.int .i64 (mdS mv i (mdMany mv i)))] →
   K (.exit 2) ⟨e,[.cells P,B1,.cells (ivs ((List.range (mdMany mv i)).map (mdW mv i)))]⟩) :
  T Tryz.prog 125 0 (.loop Zso) ⟨envL [(1,.sl (ivs ks)),(2,.sl (ivs rs)),(3,.sl (ivs mv)),(4,.int .u8 d),(12,.osl (some 3) 0 0 i),(13,.int .i64 size),(14,.int .i64 (i:Int)),(15,.ptr 1 0),(16,.int .i64 (mdMany mv i:Int)),(17,.osl none 2 0 0),(18,.int .i64 0),(19,.int .i64 0)],[.cells P,B1,.cells []]⟩ K:=by
 have hmx:Tryz.prog.follows .mixedOrders=true:=by kernel_rfl
 have hm:=Zr1 mv i
 obtain ⟨n,hn⟩:∃ n,n=mdMany mv i:=⟨_,rfl⟩
 rw [← hn] at hK hm ⊢
 refine Zaf (fun k:Nat=>⟨envL [(1,.sl (ivs ks)),(2,.sl (ivs rs)),(3,.sl (ivs mv)),(4,.int .u8 d),(12,.osl (some 3) 0 0 i),(13,.int .i64 size),(14,.int .i64 (i:Int)),(15,.ptr 1 0),(16,.int .i64 (n:Int)),(17,.osl none 2 0 k),(18,.int .i64 (mdS mv i k)),(19,.int .i64 (k:Int))],[.cells P,B1,.cells (ivs ((List.range k).map (mdW mv i)))]⟩)
  (fun k=>k≤n) (fun k=>n - k) 0 (by omega) (Zab _ (by simp only [go_sem,mdS]; simp)) (fun k hk N hN=>?_)
 unfold Zso
 by_cases hkn:k<n
 ·have hpk:=lpick (p:=mv) (i:=4*i+k+1)
  have hfo:=lfold1 (v:=IntKind.i64.wrap ((pk mv (4*i+k+1)).tdiv 7)) (n:=3) (by decide) (by decide)
  have hwl:=Ypu mv i k
  have hsl:=Yu3 mv i k
  have hwd:IntKind.i64.wrap ((pk mv (4*i+k+1)).tdiv 7) % 3=mdW mv i k - 1:=by unfold mdW; omega
  rw [hwd] at hfo
  have hs:mdS mv i (k+1)=mdS mv i k+mdW mv i k:=rfl
  have tk:ivs ((List.range (k+1)).map (mdW mv i))=ivs ((List.range k).map (mdW mv i)) ++ [.int .i64 (mdW mv i k)]:=by rw [List.range_succ]; simp [ivs]
  have l1:(ivs ((List.range k).map (mdW mv i))).length=k:=by rw [Zbr]; simp
  have l2:(ivs ((List.range k).map (mdW mv i))).take k=ivs ((List.range k).map (mdW mv i)):=List.take_of_length_le (by omega)
  have hg:=fun f=>Yx1 (f:=f) (p:=(List.range k).map (mdW mv i))
  generalize ivs ((List.range k).map (mdW mv i))=W at *
  have q1:(k:Int)<(n:Int):=by omega
  have s1:(k+1)*8≤1099511627776:=by omega
  have x1:IntKind.i64.wrap (4*(i:Int))=4*(i:Int):=Zac (by omega) (by omega)
  have x2:IntKind.i64.wrap (4*(i:Int)+(k:Int))=4*(i:Int)+(k:Int):=Zac (by omega) (by omega)
  have x3:IntKind.i64.wrap (4*(i:Int)+(k:Int)+1)=((4*i+k+1:Nat):Int):=by rw [Zac (by omega) (by omega)]; omega
  have x4:IntKind.i64.wrap (mdW mv i k - 1+1)=mdW mv i k:=by rw [Zac (by omega) (by omega)]; omega
  have x5:IntKind.i64.wrap (mdS mv i k+mdW mv i k)=mdS mv i k+mdW mv i k:=Zac (by omega) (by omega)
  have c7:¬ (7:Int)=0:=by decide
  have e1:IntKind.i64.wrap ((k:Int)+1)=((k+1:Nat):Int):=by rw [Zac (by omega) (by omega)]; omega
  simp only [go_sem,Zo9,Z1a,q1,x1,x2,x3]
  refine Zaa hpk (by simp only [go_sem]) ?_
  simp only [go_sem,c7]
  refine Zaa hfo (by simp only [go_sem]) ?_
  simp only [go_sem,x4,x5,Z1h,s1,l1,l2,Nat.mul_one,Nat.le_refl,Z1c,e1,List.cons_append,List.nil_append]
  refine hN (k+1) _ (by omega) (by omega) (Zb9 (Zhf [0,1,4] (by decide) (fun i hi=>by omega) [(1,.sl (ivs ks)),(2,.sl (ivs rs)),(3,.sl (ivs mv)),(4,.int .u8 d),(12,.osl (some 3) 0 0 i),(13,.int .i64 size),(14,.int .i64 (i:Int)),(15,.ptr 1 0),(16,.int .i64 (n:Int)),(17,.osl none 4 0 (k+1)),(18,.int .i64 (mdS mv i k+mdW mv i k)),(19,.int .i64 ((k+1:Nat):Int))] (by simp only [go_sem])) ?_)
  show St.mk _ [Blk.cells (gcL _ P),B1.gc _,Blk.cells (gcL _ (W ++ [AV.int .i64 (mdW mv i k)]))]=_
  rw [Zu2,hg,hP,hB,hs,tk]
  rfl
 ·have hke:k=n:=by omega
  subst hke
  have q1:¬ ((k:Nat):Int)<(k:Int):=by omega
  simp only [go_sem,Zo9,q1]
  exact hK _ (by simp only [go_sem])
theorem Y9u {P:List AV}{ks rs mv:List Int}{d kd:Int}{size:Nat}{i:Nat}{s:ByteArray}(hi:i≤10) (hsz:1≤size∧size≤10) (hP:∀ f,gcL f P=P) (hkd:kd=1∨kd=2∨kd=3) {K:Ex→St→Prop}
  (hK:∀ e:Nat→AV,Has e [(1,.sl (ivs ks)),(2,.sl (ivs rs)),(3,.sl (ivs mv)),(4,.int .u8 d),(12,.osl (some 3) 0 0 i),(13,.int .i64 (size:Int)),(14,.int .i64 (i:Int)),(15,.ptr 1 0)] →
   K (.exit 4) ⟨e,[.cells P,.cells [.int .i64 kd,.str s,.osl (some 2) 3 0 (mdMany mv i)],.cells (ivs ((List.range (mdMany mv i)).map (mdW mv i))),.cells (((List.range (mdMany mv i)).map (mdMv size kd mv i)).flatMap mvC)]⟩) :
  T Tryz.prog 125 0 (.loop Zj9) ⟨envL [(1,.sl (ivs ks)),(2,.sl (ivs rs)),(3,.sl (ivs mv)),(4,.int .u8 d),(12,.osl (some 3) 0 0 i),(13,.int .i64 (size:Int)),(14,.int .i64 (i:Int)),(15,.ptr 1 0),(16,.int .i64 (mdMany mv i:Int)),(17,.osl none 2 0 (mdMany mv i)),(18,.int .i64 (mdS mv i (mdMany mv i))),(21,.int .i64 0)],
   [.cells P,.cells [.int .i64 kd,.str s,.osl (some 2) 3 0 0],.cells (ivs ((List.range (mdMany mv i)).map (mdW mv i))),.cells []]⟩ K:=by
 have hmx:Tryz.prog.follows .mixedOrders=true:=by kernel_rfl
 have hm:=Zr1 mv i
 have hsp:=Ync mv i
 have hod:∀ k,mdOdd mv i k=Rat.divInt (mdW mv i k) (mdS mv i (mdMany mv i)):=fun k=>rfl
 have hodl:=Yhi mv i
 obtain ⟨sm,hsm⟩:∃ sm,sm=mdS mv i (mdMany mv i):=⟨_,rfl⟩
 rw [← hsm] at hod hsp ⊢
 obtain ⟨n,hn⟩:∃ n,n=mdMany mv i:=⟨_,rfl⟩
 rw [← hn] at hK hm ⊢
 have hwl:(ivs ((List.range n).map (mdW mv i))).length=n:=by rw [Zbr]; simp
 have hwg:∀ k,k<n→(ivs ((List.range n).map (mdW mv i)))[k]? = some (.int .i64 (mdW mv i k)):=fun k hk=>Z87 (by rw [List.getElem?_map,List.getElem?_range hk]; rfl)
 have hWgc:=fun f=>Yx1 (f:=f) (p:=(List.range n).map (mdW mv i))
 generalize ivs ((List.range n).map (mdW mv i))=W at *
 refine Zaf (fun k:Nat=>⟨envL [(1,.sl (ivs ks)),(2,.sl (ivs rs)),(3,.sl (ivs mv)),(4,.int .u8 d),(12,.osl (some 3) 0 0 i),(13,.int .i64 (size:Int)),(14,.int .i64 (i:Int)),(15,.ptr 1 0),(16,.int .i64 (n:Int)),(17,.osl none 2 0 n),(18,.int .i64 sm),(21,.int .i64 (k:Int))],
   [.cells P,.cells [.int .i64 kd,.str s,.osl (some 2) 3 0 k],.cells W,.cells (((List.range k).map (mdMv size kd mv i)).flatMap mvC)]⟩)
  (fun k=>k≤n) (fun k=>n - k) 0 (by omega) (Zab _ (by simp only [go_sem]; simp)) (fun k hk N hN=>?_)
 unfold Zj9
 by_cases hkn:k<n
 ·have hpk:=lpick (p:=mv) (i:=4*i+k+1)
  have hfo:=lfold1 (v:=pk mv (4*i+k+1)) (n:=(size:Int)) (by omega) (by omega)
  have htk:((List.range (k+1)).map (mdMv size kd mv i)).flatMap mvC=((List.range k).map (mdMv size kd mv i)).flatMap mvC ++ [.int .i64 (pk mv (4*i+k+1) % (size:Int)),.str (bs (if kd=3 then numS (mdOdd mv i k) else []))]:=by
   rw [List.range_succ,List.map_append,List.flatMap_append]; rfl
  have hPl:(((List.range k).map (mdMv size kd mv i)).flatMap mvC).length=k*2:=by rw [Y5y]; simp
  have hPg:=fun f=>Y4w (M:=(List.range k).map (mdMv size kd mv i)) f
  generalize ((List.range k).map (mdMv size kd mv i)).flatMap mvC=Q at *
  have hwk:=Ypu mv i k
  have hgw:(W.drop k)[0]? = some (.int .i64 (mdW mv i k)):=by rw [List.getElem?_drop,Nat.add_zero]; exact hwg k hkn
  have q0:(0:Int)≤(k:Int):=by omega
  have q1:(k:Int)<(n:Int):=by omega
  have s1:(k+1)*24≤1099511627776:=by omega
  have s2:k*2≤Q.length:=by omega
  have tQ:Q.take (k*2)=Q:=List.take_of_length_le (by omega)
  have x1:IntKind.i64.wrap (4*(i:Int))=4*(i:Int):=Zac (by omega) (by omega)
  have x2:IntKind.i64.wrap (4*(i:Int)+(k:Int))=4*(i:Int)+(k:Int):=Zac (by omega) (by omega)
  have x3:IntKind.i64.wrap (4*(i:Int)+(k:Int)+1)=((4*i+k+1:Nat):Int):=by rw [Zac (by omega) (by omega)]; omega
  have e1:IntKind.i64.wrap ((k:Int)+1)=((k+1:Nat):Int):=by rw [Zac (by omega) (by omega)]; omega
  have fin:∀ (e:Nat→AV) (kd':Int) (l:List UInt8) (B4 B5:Blk),kd'=kd→l=(if kd=3 then numS (mdOdd mv i k) else [])→Has e [(1,.sl (ivs ks)),(2,.sl (ivs rs)),(3,.sl (ivs mv)),(4,.int .u8 d),(12,.osl (some 3) 0 0 i),(13,.int .i64 (size:Int)),(14,.int .i64 (i:Int)),(15,.ptr 1 0),(16,.int .i64 (n:Int)),(17,.osl none 2 0 n),(18,.int .i64 sm),(21,.int .i64 ((k+1:Nat):Int))] →
    N ⟨e,[.cells P,.cells [.int .i64 kd',.str s,.osl (some 2) 6 0 (k+1)],.cells W,.dead,B4,B5,.cells (Q ++ [.int .i64 (pk mv (4*i+k+1) % (size:Int)),.str (bs l)])]⟩:=fun e kd' l B4 B5 hkd' hl he=>by
   subst hkd' hl
   refine hN (k+1) _ (by omega) (by omega) (Zb9 (Zhf [0,1,2,6] (by decide) (fun i hi=>by omega) _ he) ?_)
   rw [← htk]
   show St.mk _ [Blk.cells (gcL _ P),_,Blk.cells (gcL _ W),Blk.cells (gcL _ (((List.range (k+1)).map (mdMv size kd' mv i)).flatMap mvC))]=_
   rw [Y4w,hP,hWgc]
   rfl
  by_cases k3:kd=3
  ·have hob:=hodl k
   have hmk:=rmake (n:=mdW mv i k) (d:=sm) (by omega) (by omega) (by omega)
   have hmk':SpecV Tryz.prog Z3x [.int .i64 (mdW mv i k),.int .i64 sm] (.agg (rq (mdOdd mv i k))):=by rw [hod]; exact hmk
   have hqb:Qb 20 (mdOdd mv i k):=qb20 (by omega)
   have hnm:=lnumq hqb (by omega) (Zmc hqb (by omega))
   simp only [go_sem,Zid,Zox,q1,x1,x2,x3]
   refine Zaa hpk (by simp only [go_sem]) ?_
   simp only [go_sem]
   refine Zaa hfo (by simp only [go_sem]) ?_
   simp only [go_sem,Znu,Z2l,k3,q0,q1,hwl,hgw,List.cons_append,List.nil_append]
   refine Zaa hmk' (by simp only [go_sem]) ?_
   simp only [go_sem]
   refine Zaa hnm (by simp only [go_sem,Z6j]) ?_
   simp only [go_sem,Zm6,Zng,s1,s2,tQ,e1,List.cons_append,List.nil_append]
   exact fin _ _ _ _ _ k3.symm (by rw [if_pos k3]) (by simp only [go_sem])
  ·simp only [go_sem,Zid,Zox,q1,x1,x2,x3]
   refine Zaa hpk (by simp only [go_sem]) ?_
   simp only [go_sem]
   refine Zaa hfo (by simp only [go_sem]) ?_
   simp only [go_sem,Znu,k3,Zm6,Zng,s1,s2,tQ,e1,List.cons_append,List.nil_append]
   exact fin _ _ [] _ _ rfl (by rw [if_neg k3]) (by simp only [go_sem])
 ·have hke:k=n:=by omega
  subst hke
  have q1:¬ ((k:Nat):Int)<(k:Int):=by omega
  simp only [go_sem,Zid,q1]
  exact hK _ (by simp only [go_sem])
theorem Y5l {d:Int}(hd:0≤d∧d≤255):(mdD d).den≤9∧(mdD d).num.natAbs≤6:=by
 unfold mdD
 obtain ⟨n1,n2⟩:=Zds (n:=d % 7) (d:=d % 7+1+d / 7 % 3) (by omega)
 omega
theorem Y8a {ks rs mv:List Int}{d:Int}{size:Nat}(hsz:1≤size∧size≤5) {K:Ex→St→Prop}
  (hK:∀ e:Nat→AV,e 4 = .int .u8 d→e 12 = .osl (some 3) 0 0 size→K (.exit 0) ⟨e,[.cells ((mdL size ks rs mv).flatMap ndC)]⟩) :
  T Tryz.prog 125 0 (.loop Zs1) ⟨envL [(1,.sl (ivs ks)),(2,.sl (ivs rs)),(3,.sl (ivs mv)),(4,.int .u8 d),(12,.osl (some 3) 0 0 0),(13,.int .i64 (size:Int)),(14,.int .i64 0)],[.cells []]⟩ K:=by
 have hmx:Tryz.prog.follows .mixedOrders=true:=by kernel_rfl
 refine Zux (fun i:Nat=>⟨envL [(1,.sl (ivs ks)),(2,.sl (ivs rs)),(3,.sl (ivs mv)),(4,.int .u8 d),(12,.osl (some 3) 0 0 i),(13,.int .i64 (size:Int)),(14,.int .i64 (i:Int))],[.cells (((List.range i).map (mdN size ks rs mv)).flatMap ndC)]⟩)
  (fun i=>i≤size) (fun i=>size - i) 0 (by omega) (Zab _ (by simp only [go_sem]; simp)) (fun i hi N hN=>?_)
 unfold Zs1
 by_cases hin:i<size
 ·have hpk:=lpick (p:=ks) (i:=i)
  have hfo:=lfold1 (v:=pk ks i) (n:=3) (by decide) (by decide)
  have hpr:=lpick (p:=rs) (i:=i)
  have hpm:=lpick (p:=mv) (i:=4*i)
  have hfm:=lfold1 (v:=pk mv (4*i)) (n:=3) (by decide) (by decide)
  have hkd:=Yj2 ks i
  have hkd':pk ks i % 3=mdKind ks i - 1:=by unfold mdKind; omega
  rw [hkd'] at hfo
  have hmn:=Zr1 mv i
  have hmn':pk mv (4*i) % 3=(mdMany mv i:Int) - 1:=by
   unfold mdMany at hmn ⊢
   omega
  rw [hmn'] at hfm
  obtain ⟨r1,r2,r3⟩:=Ygz rs i
  have hrq:Qb 20 (mdRew rs i):=qb20 ⟨by omega,by omega⟩
  have hwh:SpecV Tryz.prog Zy7 [.int .i64 ((pk rs i).tmod 50)] (.agg (rq (mdRew rs i))):=by
   have h:=rwhole (v:=(pk rs i).tmod 50) (by omega)
   have e:avR ((pk rs i).tmod 50) 1 = .agg (rq (mdRew rs i)):=by unfold rq; rw [r2,r1]; rfl
   rw [e] at h
   exact h
  have hnm:=lnumq hrq (by omega) (Zmc hrq (by omega))
  have htk:((List.range (i+1)).map (mdN size ks rs mv)).flatMap ndC=((List.range i).map (mdN size ks rs mv)).flatMap ndC++ndC (mdN size ks rs mv i):=by rw [List.range_succ,List.map_append,List.flatMap_append]; simp
  have hPl:(((List.range i).map (mdN size ks rs mv)).flatMap ndC).length=i*3:=by rw [Ylj]; simp
  have hPg:=fun f=>Yu1 (M:=(List.range i).map (mdN size ks rs mv)) f
  generalize ((List.range i).map (mdN size ks rs mv)).flatMap ndC=P at *
  have c50:¬ (50:Int)=0:=by decide
  have q1:(i:Int)<(size:Int):=by omega
  have s1:(i+1)*48≤1099511627776:=by omega
  have s2:i*3≤P.length:=by omega
  have tP:P.take (i*3)=P:=List.take_of_length_le (by omega)
  have x1:IntKind.i64.wrap (4*(i:Int))=((4*i:Nat):Int):=by rw [Zac (by omega) (by omega)]; omega
  have x2:IntKind.i64.wrap (mdKind ks i - 1+1)=mdKind ks i:=by rw [Zac (by omega) (by omega)]; omega
  have x3:IntKind.i64.wrap ((mdMany mv i:Int) - 1+1)=(mdMany mv i:Int):=by rw [Zac (by omega) (by omega)]; omega
  have e1:IntKind.i64.wrap ((i:Int)+1)=((i+1:Nat):Int):=by rw [Zac (by omega) (by omega)]; omega
  refine Zbh 0 rfl ?_
  simp only [go_sem,Zur,q1]
  refine Za8 (Za9 (Zbh 2 rfl ?_))
  simp only [go_sem,Z7l]
  refine Zaa hpk (by simp only [go_sem]) ?_
  simp only [go_sem]
  refine Zaa hfo (by simp only [go_sem]) ?_
  simp only [go_sem,x2]
  refine Zaa hpr (by simp only [go_sem]) ?_
  simp only [go_sem,c50]
  refine Zaa hwh (by simp only [go_sem]) ?_
  simp only [go_sem]
  refine Zaa hnm (by simp only [go_sem,Z6j]) ?_
  simp only [go_sem,Z4r,x1,List.cons_append,List.nil_append]
  refine Zaa hpm (by simp only [go_sem]) ?_
  simp only [go_sem]
  refine Zaa hfm (by simp only [go_sem]) ?_
  simp only [go_sem,x3,Z6y]
  refine T_le (Zg7 17 none (by simp only [go_sem]) [(1,.sl (ivs ks)),(2,.sl (ivs rs)),(3,.sl (ivs mv)),(4,.int .u8 d),(12,.osl (some 3) 0 0 i),(13,.int .i64 (size:Int)),(14,.int .i64 (i:Int)),(15,.ptr 1 0),(16,.int .i64 (mdMany mv i:Int)),(18,.int .i64 0)] (by simp only [go_sem])) ?_
  refine Za8 (Za8 (T_W ?_))
  simp only [go_sem,Z7c,List.cons_append,List.nil_append,List.length_cons,List.length_nil]
  refine Za9 (Zav [(1,.sl (ivs ks)),(2,.sl (ivs rs)),(3,.sl (ivs mv)),(4,.int .u8 d),(12,.osl (some 3) 0 0 i),(13,.int .i64 (size:Int)),(14,.int .i64 (i:Int)),(15,.ptr 1 0),(16,.int .i64 (mdMany mv i:Int)),(17,.osl none 2 0 0),(18,.int .i64 0),(19,.int .i64 0)] (by simp only [go_sem]) (Y73 (by omega) hPg (fun f=>rfl) (fun e he=>?_)))
  show T Tryz.prog 125 0 (.seq (.seq (.rg false Znq) (.block 4 (.loop Zj9))) (.rg false Zfj)) _ _
  refine T_le (Znl (Zab _ he) (Znl Yjt (Zb9 (Z8b (b:=1) (l := [.int .i64 (mdKind ks i),.str (bs (numS (mdRew rs i))),.nils]) (l' := [.int .i64 (mdKind ks i),.str (bs (numS (mdRew rs i))),.osl (some 2) 3 0 0]) rfl rfl (fun j x y hx hy=>?_)) rfl))) ?_
  ·match j with
   | 0=>simp at hx hy; subst hx hy; exact .inl rfl
   | 1=>simp at hx hy; subst hx hy; exact .inl rfl
   | 2=>simp at hx hy; subst hx hy; exact .inr ⟨rfl,_,_,_,rfl⟩
   | j+3=>simp at hx
  refine Za8 (Za8 (T_W ?_))
  simp only [go_sem,Znq]
  refine Za9 (Zav [(1,.sl (ivs ks)),(2,.sl (ivs rs)),(3,.sl (ivs mv)),(4,.int .u8 d),(12,.osl (some 3) 0 0 i),(13,.int .i64 (size:Int)),(14,.int .i64 (i:Int)),(15,.ptr 1 0),(16,.int .i64 (mdMany mv i:Int)),(17,.osl none 2 0 (mdMany mv i)),(18,.int .i64 (mdS mv i (mdMany mv i))),(21,.int .i64 0)] (by simp only [go_sem]) (Y9u (by omega) (by omega) hPg hkd (fun e he=>?_)))
  show T Tryz.prog 125 0 (.rg false Zfj) _ _
  have hnd:ndC (mdN size ks rs mv i) = [.int .i64 (mdKind ks i),.str (bs (numS (mdRew rs i))),.sl (((List.range (mdMany mv i)).map (mdMv size (mdKind ks i) mv i)).map mvAV)]:=rfl
  refine T_le (Yx5 (b:=1) (ids := [3]) (l := [.int .i64 (mdKind ks i),.str (bs (numS (mdRew rs i))),.osl (some 2) 3 0 (mdMany mv i)]) (l':=ndC (mdN size ks rs mv i)) rfl (by decide) rfl (fun j x y hx hy=>?_) [(1,.sl (ivs ks)),(2,.sl (ivs rs)),(3,.sl (ivs mv)),(4,.int .u8 d),(12,.osl (some 3) 0 0 i),(13,.int .i64 (size:Int)),(14,.int .i64 (i:Int)),(15,.ptr 1 0)] (Ylv he)) ?_
  ·rw [hnd] at hy
   match j with
   | 0=>simp at hx hy; subst hx hy; exact .inr rfl
   | 1=>simp at hx hy; subst hx hy; exact .inr rfl
   | 2 =>
    simp only [List.getElem?_cons_succ,List.getElem?_cons_zero,Option.some.injEq] at hx hy
    subst hx hy
    have hbv:=Xcu (H := [Blk.cells P,.cells [.int .i64 (mdKind ks i),.str (bs (numS (mdRew rs i))),.osl (some 2) 3 0 (mdMany mv i)],.cells (ivs ((List.range (mdMany mv i)).map (mdW mv i))),.cells (((List.range (mdMany mv i)).map (mdMv size (mdKind ks i) mv i)).flatMap mvC)]) (ids := [3]) (b:=3) (M:=(List.range (mdMany mv i)).map (mdMv size (mdKind ks i) mv i)) rfl (by simp)
    rw [List.length_map,List.length_range] at hbv
    exact .inl hbv
   | j+3=>simp at hx
  show T Tryz.prog 125 0 (.rg false Zfj) ⟨_,[.cells P,.cells (ndC (mdN size ks rs mv i)),.cells (ivs ((List.range (mdMany mv i)).map (mdW mv i))),.dead]⟩ _
  have n3:(ndC (mdN size ks rs mv i)).length=3:=rfl
  have n3':(ndC (mdN size ks rs mv i)).take 3=ndC (mdN size ks rs mv i):=rfl
  have n3d:(ndC (mdN size ks rs mv i)).drop 3 = []:=rfl
  have hng:∀ f,gcL f (ndC (mdN size ks rs mv i))=ndC (mdN size ks rs mv i):=fun f=>rfl
  generalize ndC (mdN size ks rs mv i)=nd at *
  refine T_W ?_
  simp only [go_sem,Zfj,n3,n3',n3d,s1,s2,tP,Nat.le_refl,List.cons_append,List.nil_append]
  refine T_W ?_
  simp only [go_sem,Z0q,e1]
  refine hN (i+1) _ (by omega) (by omega) (Zb9 (Zhf [5] (by decide) (fun i hi=>by omega) [(1,.sl (ivs ks)),(2,.sl (ivs rs)),(3,.sl (ivs mv)),(4,.int .u8 d),(12,.osl (some 3) 5 0 (i+1)),(13,.int .i64 (size:Int)),(14,.int .i64 ((i+1:Nat):Int))] (by simp only [go_sem])) ?_)
  show St.mk _ [Blk.cells (gcL _ (P++nd))]=_
  rw [Zu2,hPg,hng, ← htk]
  rfl
 ·have hie:i=size:=by omega
  subst hie
  have q1:¬ ((i:Nat):Int)<(i:Int):=by omega
  refine T_W ?_
  simp only [go_sem,Zur,q1]
  exact hK _ (by simp only [go_sem]) (by simp only [go_sem])
theorem lmade {n d:Int}{ks rs mv:List Int}(hn:0≤n∧n≤255) (hd:0≤d∧d≤255):SpecV Tryz.prog Ytt [.int .u8 n,.sl (ivs ks),.sl (ivs rs),.sl (ivs mv),.int .u8 d] (.tup [.sl ((mdL (n % 5+1).toNat ks rs mv).map ndAV),.str (bs (numS (mdD d)))]):=by
 obtain ⟨size,hsz⟩:∃ size,size=(n % 5+1).toNat:=⟨_,rfl⟩
 rw [← hsz]
 have hs5:1≤size∧size≤5:=by omega
 have c5:¬ (5:Int)=0:=by decide
 have c7:¬ (7:Int)=0:=by decide
 have c3:¬ (3:Int)=0:=by decide
 have w1:IntKind.i64.wrap n=n:=Zac (by omega) (by omega)
 have w2:IntKind.i64.wrap d=d:=Zac (by omega) (by omega)
 have t5:n.tmod 5=n % 5:=Int.tmod_eq_emod_of_nonneg hn.1
 have t7:d.tmod 7=d % 7:=Int.tmod_eq_emod_of_nonneg hd.1
 have d7:d.tdiv 7=d / 7:=Int.tdiv_eq_ediv_of_nonneg hd.1
 have t3:(d / 7).tmod 3=d / 7 % 3:=Int.tmod_eq_emod_of_nonneg (by omega)
 have x1:IntKind.i64.wrap (n % 5+1)=(size:Int):=by rw [Zac (by omega) (by omega)]; omega
 have x2:IntKind.i64.wrap (d % 7+1)=d % 7+1:=Zac (by omega) (by omega)
 have x3:IntKind.i64.wrap (d / 7)=d / 7:=Zac (by omega) (by omega)
 have x4:IntKind.i64.wrap (d % 7+1+d / 7 % 3)=d % 7+1+d / 7 % 3:=Zac (by omega) (by omega)
 have hmk:=rmake (n:=d % 7) (d:=d % 7+1+d / 7 % 3) (by omega) (by omega) (by omega)
 have hmk':SpecV Tryz.prog Z3x [.int .i64 (d % 7),.int .i64 (d % 7+1+d / 7 % 3)] (.agg (rq (mdD d))):=hmk
 have hdl:=Y5l hd
 have hqb:Qb 20 (mdD d):=qb20 (by omega)
 have hnm:=lnumq hqb (by omega) (Zmc hqb (by omega))
 have hll:(mdL size ks rs mv).length=size:=by unfold mdL; rw [List.length_map,List.length_range]
 refine Za5 Ymr (by simp) (Zbh 2 rfl ?_)
 unfold Ykw
 simp only [go_sem,Z6b,Z65,Z58,w1,c5,t5,x1]
 refine T_le (Zg7 12 (some 3) (by simp only [go_sem]) [(1,.sl (ivs ks)),(2,.sl (ivs rs)),(3,.sl (ivs mv)),(4,.int .u8 d),(13,.int .i64 (size:Int))] (by simp only [go_sem])) ?_
 refine Za8 (Za8 (T_W ?_))
 simp only [go_sem,Z6n]
 refine Za9 (Zav [(1,.sl (ivs ks)),(2,.sl (ivs rs)),(3,.sl (ivs mv)),(4,.int .u8 d),(12,.osl (some 3) 0 0 0),(13,.int .i64 (size:Int)),(14,.int .i64 0)] (by simp only [go_sem]) (Y8a hs5 (fun e k4 k12=>?_)))
 show T Tryz.prog 125 0 (.seq (.rg false Zoo) .ret) _ _
 refine T_W ?_
 simp only [go_sem,Zoo,k4,k12,w2,c7,t7,d7,t3,c3,x2,x3,x4]
 refine Zaa hmk' (by simp only [go_sem]) ?_
 simp only [go_sem]
 refine Zaa hnm (by simp only [go_sem,Z6j]) ?_
 simp only [go_sem,k12]
 have hbn:=Yuz (H := [Blk.cells ((mdL size ks rs mv).flatMap ndC)]) (ids := [0]) (b:=0) (M:=mdL size ks rs mv) rfl (by simp)
 rw [hll] at hbn
 exact hbn
end GoAbs
namespace GoAbs
open Go Go.Proofs
set_option maxHeartbeats 4000000
def Fr (k:Nat) (q:Rat) (A:List AV):Prop:=∃ n d:Int,A=rc n d∧0<d∧Ib k n∧Ib k d∧q=Rat.divInt n d
theorem Zvo {n d:Int}(h:0<d):Rat.divInt n d*((d:Int):Rat)=((n:Int):Rat):=by
 have hd:((d:Int):Rat)≠0:=by
  have:(0:Rat)<((d:Int):Rat):=by exact_mod_cast h
  grind
 rw [Rat.divInt_eq_div,Rat.div_def,Rat.mul_assoc,Rat.inv_mul_cancel _ hd,Rat.mul_one]
theorem Fr.bvs {k:Nat}{q:Rat}{A:List AV}(h:Fr k q A) (H:Heap) (ids:List Nat):BVs H ids A A=True:=by
 obtain ⟨n,d,rfl,_⟩:=h
 exact Yxo
theorem Fr.len {k:Nat}{q:Rat}{A:List AV}(h:Fr k q A):A.length=4:=by
 obtain ⟨n,d,rfl,_⟩:=h
 rfl
theorem Fr.gc {k:Nat}{q:Rat}{A:List AV}(h:Fr k q A) (f:Nat→Option Nat):gcL f A=A:=by
 obtain ⟨n,d,rfl,_⟩:=h
 rfl
theorem Fr.take {k:Nat}{q:Rat}{A:List AV}(h:Fr k q A):A.take 4=A:=by
 obtain ⟨n,d,rfl,_⟩:=h
 rfl
theorem Fr.drop {k:Nat}{q:Rat}{A:List AV}(h:Fr k q A):A.drop 4 = []:=by
 obtain ⟨n,d,rfl,_⟩:=h
 rfl
theorem Fr.mono {k l:Nat}{q:Rat}{A:List AV}(h:Fr k q A) (hkl:k≤l):Fr l q A:=by
 obtain ⟨n,d,h1,h2,h3,h4,h5⟩:=h
 exact ⟨n,d,h1,h2,h3.mono hkl,h4.mono hkl,h5⟩
theorem Fr.of {k:Nat}{q:Rat}(h:Qb k q):Fr k q (rq q):=⟨q.num,q.den,rfl,by have:=q.den_pos; omega,h.ib.1,h.ib.2,(Rat.num_divInt_den q).symm⟩
theorem Z07 {v:Int}(hv:v.natAbs<1048576):Fr 20 ((v:Int):Rat) (rc v 1)∧SpecV Tryz.prog Zy7 [.int .i64 v] (.agg (rc v 1)):=by
 refine ⟨⟨v,1,rfl,by decide,hv,show (1:Int).natAbs<2 ^ 20 by decide,?_⟩,rwhole (by omega)⟩
 rw [Rat.divInt_eq_div,Rat.div_def]
 have:(((1:Int):Rat))⁻¹=1:=by decide+kernel
 rw [this,Rat.mul_one]
theorem Y5h {k:Nat}{p q:Rat}{A B:List AV}(ha:Fr k p A) (hb:Fr k q B) (hk:k≤1000000):∃ C,Fr (2*k+1) (p+q) C∧SpecV Tryz.prog Yd4 [.agg A,.agg B] (.agg C):=by
 obtain ⟨n,d,rfl,hd,hn1,hd1,rfl⟩:=ha
 obtain ⟨m,e,rfl,he,hm1,he1,rfl⟩:=hb
 exact ⟨_,⟨_,_,rfl,Int.mul_pos hd he,Ib.add (k:=2*k) ((Ib.mul hn1 he1).mono (by omega)) ((Ib.mul hm1 hd1).mono (by omega)),(Ib.mul hd1 he1).mono (by omega),Rat.divInt_add_divInt _ _ (by omega) (by omega)⟩,raddq hn1 hd1 hm1 he1 hk⟩
theorem Xc3 {k:Nat}{p q:Rat}{A B:List AV}(ha:Fr k p A) (hb:Fr k q B) (hk:k≤1000000):∃ C,Fr (2*k+1) (p - q) C∧SpecV Tryz.prog Yed [.agg A,.agg B] (.agg C):=by
 obtain ⟨n,d,rfl,hd,hn1,hd1,rfl⟩:=ha
 obtain ⟨m,e,rfl,he,hm1,he1,rfl⟩:=hb
 have hneg:Ib (k+k) (-(m*d)):=by
  have:=Ib.mul hm1 hd1
  unfold Ib at *
  rwa [Int.natAbs_neg]
 have hi:Ib (2*k+1) (n*e - m*d):=by
  rw [Int.sub_eq_add_neg]
  exact (Ib.add (Ib.mul hn1 he1) hneg).mono (by omega)
 exact ⟨_,⟨_,_,rfl,Int.mul_pos hd he,hi,(Ib.mul hd1 he1).mono (by omega),Rat.divInt_sub_divInt _ _ (by omega) (by omega)⟩,rsubq hn1 hd1 hm1 he1 hk⟩
theorem Y47 {k:Nat}{p q:Rat}{A B:List AV}(ha:Fr k p A) (hb:Fr k q B) (hk:k≤1000000):∃ C,Fr (2*k) (p*q) C∧SpecV Tryz.prog Ydh [.agg A,.agg B] (.agg C):=by
 obtain ⟨n,d,rfl,hd,hn1,hd1,rfl⟩:=ha
 obtain ⟨m,e,rfl,he,hm1,he1,rfl⟩:=hb
 exact ⟨_,⟨_,_,rfl,Int.mul_pos hd he,(Ib.mul hn1 hm1).mono (by omega),(Ib.mul hd1 he1).mono (by omega),Rat.divInt_mul_divInt _ _⟩,rmulq hn1 hd1 hm1 he1 hk⟩
theorem Xbf {k:Nat}{p q:Rat}{A B:List AV}(ha:Fr k p A) (hb:Fr k q B) (h0:0<q) (hk:k≤1000000):∃ C,Fr (2*k) (p / q) C∧SpecV Tryz.prog Ydx [.agg A,.agg B] (.agg C):=by
 obtain ⟨n,d,rfl,hd,hn1,hd1,rfl⟩:=ha
 obtain ⟨m,e,rfl,he,hm1,he1,hq⟩:=hb
 have hm0:0<m:=by
  have h:=Zvo (n:=m) he
  rw [← hq] at h
  have hee:(0:Rat)<((e:Int):Rat):=by exact_mod_cast he
  have:=Rat.mul_pos h0 hee
  rw [h] at this
  exact_mod_cast this
 have h:=rdivq hn1 hd1 hm1 he1 hk
 have hp:0<d*m:=Int.mul_pos hd hm0
 rw [if_neg (by omega)] at h
 refine ⟨_,⟨_,_,rfl,hp,(Ib.mul hn1 he1).mono (by omega),(Ib.mul hd1 hm1).mono (by omega),?_⟩,h⟩
 rw [Rat.div_def,hq,Rat.inv_divInt,Rat.divInt_mul_divInt]
theorem Y5q {k:Nat}{p q:Rat}{A B:List AV}(ha:Fr k p A) (hb:Fr k q B) (hk:k≤1000000):SpecV Tryz.prog Yec [.agg A,.agg B] (.int .i64 (cmpR p q)):=by
 obtain ⟨n,d,rfl,hd,hn1,hd1,hp⟩:=ha
 obtain ⟨m,e,rfl,he,hm1,he1,hq⟩:=hb
 have h:=rcmpq hn1 hd1 hm1 he1 hk
 have hdd:(0:Rat)<((d:Int):Rat):=by exact_mod_cast hd
 have hee:(0:Rat)<((e:Int):Rat):=by exact_mod_cast he
 have h1:=Zvo (n:=n) hd
 have h2:=Zvo (n:=m) he
 rw [← hp] at h1
 rw [← hq] at h2
 have hde:=Rat.mul_pos hdd hee
 have c1:((n*e:Int):Rat)=p*(((d:Int):Rat)*((e:Int):Rat)):=by rw [Rat.intCast_mul]; grind
 have c2:((m*d:Int):Rat)=q*(((d:Int):Rat)*((e:Int):Rat)):=by rw [Rat.intCast_mul]; grind
 have l1:n*e<m*d↔p<q:=by rw [← Rat.intCast_lt_intCast,c1,c2,Rat.mul_lt_mul_right hde]
 have l2:m*d<n*e↔q<p:=by rw [← Rat.intCast_lt_intCast,c1,c2,Rat.mul_lt_mul_right hde]
 have e1:(if n*e=m*d then (0:Int) else if n*e<m*d then -1 else 1)=cmpR p q:=by
  unfold cmpR
  by_cases a:n*e<m*d
  ·rw [if_neg (by omega),if_pos a,if_pos (l1.1 a)]
  ·by_cases b:m*d<n*e
   ·rw [if_neg (by omega),if_neg a,if_neg (fun x=>a (l1.2 x)),if_pos (l2.1 b)]
   ·rw [if_pos (by omega),if_neg (fun x=>a (l1.2 x)),if_neg (fun x=>b (l2.2 x))]
 rw [e1] at h
 exact h
theorem Y4v {k:Nat}{q:Rat}{A:List AV}(ha:Fr k q A) (hk:k≤1000000) (hok:NumOk q):SpecV Tryz.prog Ykr [.agg A] (.str (bs (numS q))):=by
 have l4:=ha.len
 have t4:=ha.take
 have d4:=ha.drop
 have b4:=ha.bvs
 obtain ⟨n,d,hA,hd,hn1,hd1,hq⟩:=ha
 have h:=rnum hn1 hd1 hd (by omega) hq.symm
 rw [if_pos hok] at h
 have h':SpecV Tryz.prog Ybp [.agg A] (.tup [.str (bs (numS q)),.bool true]):=by rw [hA]; exact h
 refine Zad Yeh (by simp) ?_
 unfold Ygb
 simp only [go_sem,Zzs,Zzt,l4,t4,d4,Nat.le_refl]
 refine Zaa h' (by simp only [go_sem,b4]) ?_
 simp only [go_sem,Zyl]
end GoAbs
namespace GoAbs
open Go Go.Proofs
set_option maxHeartbeats 4000000
theorem Lt9.fit {q:Rat}(h:Lt9 q):Fitd 12 q:=by
 obtain ⟨h1,h2⟩:=h
 have c:10000<10 ^ 12:=by decide
 exact ⟨Z4j (by decide) (by omega),Z4j (by decide) (by omega)⟩
theorem Lt9.qb {q:Rat}(h:Lt9 q):Qb 20 q:=qb20 (by have:=h.1; have:=h.2; omega)
theorem Lt9.ok {q:Rat}(h:Lt9 q):NumOk q:=Zmc h.qb (by omega)
theorem Lt9.len {q:Rat}(h:Lt9 q):1≤(numS q).length∧(numS q).length≤23:=by
 have a:=Z4j (n:=q.num.natAbs) (k:=4) (by decide) (by have:=h.2; omega)
 have b:=Z4j (n:=q.den) (k:=1) (by decide) (by have:=h.1; omega)
 have c:=Yoh q.num.natAbs
 unfold numS
 rw [List.length_append,List.length_append]
 split <;> split <;> simp only [List.length_cons,List.length_nil] <;> omega
theorem Lt9.ne {q:Rat}(h:Lt9 q):(numS q).isEmpty=false:=by
 have:=h.len.1
 cases hn:numS q with
 | nil=>rw [hn] at this; simp at this
 | cons a l=>rfl
theorem Lt9.parse {q:Rat}(h:Lt9 q):parseL (numS q)=some q:=Z4a h.ok
structure NT (N:Nat) (n:Nd):Prop where
 kind:n.kind=1∨n.kind=2∨n.kind=3
 rew:∃ q,n.rew=numS q∧Lt9 q
 len:1≤n.mv.length∧n.mv.length≤6
 to:∀ m,m∈n.mv→0≤m.1∧m.1<(N:Int)
 no:n.kind≠3→∀ m,m∈n.mv→m.2 = []
 odds:n.kind=3→(∀ m,m∈n.mv→∃ q,m.2=numS q∧Lt9 q∧0<q)∧sumM n.mv=1
theorem NT.facts {N:Nat}{n:Nd}(h:NT N n):ndVa n=true∧ndFi N n=true∧n.rew.length≤23∧n.mv.length≤7∧∀ m,m∈n.mv→m.2.length≤23:=by
 have hm:∀ m,m∈n.mv→(m.2 = []∧n.kind≠3)∨(n.kind=3∧∃ q,m.2=numS q∧Lt9 q∧0<q):=fun m hmm=>by
  by_cases h3:n.kind=3
  ·exact .inr ⟨h3,(h.odds h3).1 m hmm⟩
  ·exact .inl ⟨h.no h3 m hmm,h3⟩
 obtain ⟨q,hq,hl⟩:=h.rew
 have hpr:parseL n.rew=some q:=by rw [hq]; exact hl.parse
 refine ⟨?_,?_,?_,by have:=h.len; omega,?_⟩
 ·unfold ndVa vaM okB
  rw [hpr]
  simp only [Option.isSome_some,Bool.true_and,List.all_eq_true]
  intro m hmm
  rcases hm m hmm with ⟨e,_⟩ | ⟨_,p,e,hp,_⟩
  ·rw [e]; rfl
  ·rw [e,hp.parse]; simp
 ·unfold ndFi smallB fiM
  rw [hpr]
  simp only [Bool.and_eq_true,decide_eq_true_eq,List.all_eq_true]
  refine ⟨⟨⟨hl.fit,fun m hmm=>?_⟩,h.len⟩,?_⟩
  ·have ht:=h.to m hmm
   unfold mvFit mvFit1
   simp only [Bool.and_eq_true,decide_eq_true_eq,beq_iff_eq,Bool.or_eq_true]
   rcases hm m hmm with ⟨e,h3⟩ | ⟨h3,p,e,hp,hp0⟩
   ·rw [e]; exact ⟨⟨⟨ht.1,ht.2⟩,by simp [h3]⟩,.inl rfl⟩
   ·refine ⟨⟨⟨ht.1,ht.2⟩,?_⟩,.inr ?_⟩
    ·rw [h3,e,hp.ne]; rfl
    ·rw [e,hp.parse]; unfold mvFit2; simp [hp0,hp.fit]
  ·unfold kindF
   rcases h.kind with k | k | k
   ·simp [k]
   ·simp [k]
   ·simp [k,(h.odds k).2]
 ·rw [hq]; exact hl.len.2
 ·intro m hmm
  rcases hm m hmm with ⟨e,_⟩ | ⟨_,p,e,hp,_⟩
  ·rw [e]; simp
  ·rw [e]; exact hp.len.2
structure LT (L:List Nd) (d:List UInt8):Prop where
 n:1≤L.length∧L.length≤5
 nd:∀ n,n∈L→NT L.length n
 d:∃ q,d=numS q∧Lt9 q∧0≤q∧q<1
theorem LT.gin {L:List Nd}{d:List UInt8}(h:LT L d):GIn L d:=by
 obtain ⟨q,hq,hl,_⟩:=h.d
 exact ⟨.inl h.n.2,by rw [hq]; exact hl.len.2,fun n hn=>(h.nd n hn).facts.2.2⟩
theorem LT.ec {L:List Nd}{d:List UInt8}(h:LT L d):eC L d=0:=by
 obtain ⟨q,hq,hl,h0,h1⟩:=h.d
 have hp:parseL d=some q:=by rw [hq]; exact hl.parse
 have hv:(L.all ndVa && okB d)=true:=by
  rw [Bool.and_eq_true,List.all_eq_true]
  exact ⟨fun n hn=>(h.nd n hn).facts.1,by unfold okB; rw [hp]; rfl⟩
 have hf:gFit L d=true:=by
  unfold gFit disF smallB
  rw [hp]
  simp only [Bool.and_eq_true,decide_eq_true_eq,List.all_eq_true]
  exact ⟨⟨⟨h.n.1,by have:=h.n.2; omega⟩,fun n hn=>(h.nd n hn).facts.2.1⟩,hl.fit,h0,h1⟩
 unfold eC
 rw [hv,hf]; rfl
theorem LT.gmL {L:List Nd}{d:List UInt8}(h:LT L d):GmL (toGm L d):=by
 refine ⟨fun q hq=>?_,?_,fun x hx h3 q hq=>?_,?_⟩
 ·obtain ⟨n,hn,rfl⟩:=List.mem_map.1 hq
  obtain ⟨p,hp,hl⟩:=(h.nd n hn).rew
  show Lt9 ((parseL n.rew).getD 0)
  rw [hp,hl.parse]; exact hl
 ·obtain ⟨q,hq,hl,h0,h1⟩:=h.d
  show Lt9 ((parseL d).getD 0)
  rw [hq,hl.parse]; exact hl
 ·obtain ⟨n,hn,rfl⟩:=List.mem_map.1 hx
  obtain ⟨m,hm,rfl⟩:=List.mem_map.1 hq
  have hmm:=(List.mem_filter.1 hm).1
  have h3':n.kind=3:=by have:n.kind.toNat=3:=h3; omega
  obtain ⟨p,hp,hl,_⟩:=((h.nd n hn).odds h3').1 m hmm
  rw [hp,hl.parse]; exact hl
 ·show (L.map toGN).length≤5
  rw [List.length_map]; exact h.n.2
theorem LT.gmP {L:List Nd}{d:List UInt8}(h:LT L d):GmP (toGm L d)∧(toGm L d).nodes.length=L.length:=by
 obtain ⟨_,hg,hgn,_⟩:=((Z75 h.gin).resolve_left (fun x=>x.1 h.ec)).2
 exact ⟨hg,hgn⟩
theorem LT.dq {L:List Nd}{d:List UInt8}(h:LT L d):okB d=true∧d.length≤23∧(toGm L d).d=(parseL d).getD 0∧Lt9 (toGm L d).d:=by
 obtain ⟨q,hq,hl,h0,h1⟩:=h.d
 have hp:parseL d=some q:=by rw [hq]; exact hl.parse
 exact ⟨by unfold okB; rw [hp]; rfl,by rw [hq]; exact hl.len.2,rfl,h.gmL.d⟩
theorem lvals {L:List Nd}{d:List UInt8}(h:LT L d):SpecV Tryz.prog Yhy [.sl (L.map ndAV),.str (bs d)] (.tup [rowV (valG (toGm L d)),.bool true]):=by
 obtain ⟨hg,hgn⟩:=h.gmP
 have hv:=wvalue h.gin
 have hvl:=Zkv hg
 have hrb:=Zvh hg h.gmL
 have hL5:=h.n
 rw [if_pos h.ec] at hv
 have hok:∀ q,q∈valG (toGm L d)→NumOk q:=fun q hq=>Zmc (hrb q hq) (by omega)
 rw [show numsR (valG (toGm L d)) = .tup [.sl (ss (valG (toGm L d))),.int .i64 0] from if_pos hok,Y6s] at hv
 obtain ⟨V,hV⟩:∃ V,V=valG (toGm L d):=⟨_,rfl⟩
 rw [← hV] at hv hvl hrb hok ⊢
 obtain ⟨M,hM⟩:∃ M,M=V.map numS:=⟨_,rfl⟩
 have hMV:M.map toQ=V:=by rw [hM]; exact Y76 hok
 have hMn:M.length=L.length:=by rw [hM,List.length_map,hvl,hgn]
 have hMl:∀ s,s∈M→s.length≤1000000000:=fun s hs=>by
  rw [hM] at hs
  obtain ⟨q,hq,rfl⟩:=List.mem_map.1 hs
  exact Yw8 (hok q hq)
 have hMp:∀ s,s∈M→okB s=true:=fun s hs=>by
  rw [hM] at hs
  obtain ⟨q,hq,rfl⟩:=List.mem_map.1 hs
  unfold okB
  rw [Z4a (hok q hq)]; rfl
 have hMall:M.all okB=true:=List.all_eq_true.2 hMp
 have hnm:=rnums (L:=M) (by omega) hMl
 rw [show numsE M=0 by unfold numsE; rw [if_pos (show (M.all fun s=>(parseL s).isSome)=true from hMall)],Y1s] at hnm
 have hqs:=rqs (L:=M) (fun s hs=>⟨hMl s hs,hMp s hs⟩) (by omega)
 rw [hMV] at hqs
 have hle:((M.length:Nat):Int)=(L.length:Int):=by omega
 rw [← hM] at hv
 refine Zad Yho (by simp) ?_
 unfold Yax
 simp only [go_sem,Zx6,Zv3]
 refine Zaa hv (by simp only [go_sem]) ?_
 simp only [go_sem,Zye,txts_len',List.length_map,hle]
 refine Zaa hnm (by simp only [go_sem]) ?_
 simp only [go_sem,Zx9]
 refine Zaa hqs (by simp only [go_sem]) ?_
 simp only [go_sem,rowV]
theorem Yin (mv:List Int) (i k:Nat):Lt9 (mdOdd mv i k):=by
 have:=Yhi mv i k
 exact ⟨by omega,by omega⟩
theorem Ybu {a b s:Int}:Rat.divInt a s+Rat.divInt b s=Rat.divInt (a+b) s:=by
 rw [Rat.divInt_eq_div,Rat.divInt_eq_div,Rat.divInt_eq_div,Rat.div_def,Rat.div_def,Rat.div_def,Rat.intCast_add,Rat.add_mul]
theorem Y5j {size:Nat}{mv:List Int}{i:Nat}:∀ k,sumM ((List.range k).map (mdMv size 3 mv i))=Rat.divInt (mdS mv i k) (mdS mv i (mdMany mv i))
 | 0=>by
  show (0:Rat)=Rat.divInt 0 _
  rw [Rat.divInt_eq_div,Rat.div_def]
  exact (Rat.zero_mul _).symm
 | k+1=>by
  rw [List.range_succ,List.map_append,List.map_cons,List.map_nil,Z93,Y5j k]
  unfold stepM
  have hl:=Yin mv i k
  have e:(mdMv size 3 mv i k).2=numS (mdOdd mv i k):=by unfold mdMv; rw [if_pos rfl]
  rw [e,hl.ne,if_neg (by decide),hl.parse]
  show _+mdOdd mv i k=_
  unfold mdOdd
  rw [Ybu]
  rfl
theorem Xen {size:Nat}(hs:1≤size) (ks rs mv:List Int) (i:Nat):NT size (mdN size ks rs mv i):=by
 have hm:=Zr1 mv i
 have hmem:∀ m,m∈(mdN size ks rs mv i).mv→∃ k,m=mdMv size (mdKind ks i) mv i k:=fun m h=>by
  obtain ⟨k,_,rfl⟩:=List.mem_map.1 h
  exact ⟨k,rfl⟩
 have hlen:(mdN size ks rs mv i).mv.length=mdMany mv i:=by
  show ((List.range _).map _).length=_
  rw [List.length_map,List.length_range]
 refine ⟨Yj2 ks i,⟨_,rfl,?_⟩,by omega,fun m h=>?_,fun h3 m h=>?_,fun h3=>⟨fun m h=>?_,?_⟩⟩
 ·have:=Ygz rs i
  exact ⟨by omega,by omega⟩
 ·obtain ⟨k,rfl⟩:=hmem m h
  exact ⟨Int.emod_nonneg _ (by omega),Int.emod_lt_of_pos _ (by omega)⟩
 ·obtain ⟨k,rfl⟩:=hmem m h
  exact if_neg h3
 ·obtain ⟨k,rfl⟩:=hmem m h
  exact ⟨_,if_pos h3,Yin mv i k,(Yhi mv i k).2.2⟩
 ·have h3':mdKind ks i=3:=h3
  show sumM ((List.range (mdMany mv i)).map (mdMv size (mdKind ks i) mv i))=1
  rw [h3',Y5j]
  have:=Ync mv i
  have hp:((mdS mv i (mdMany mv i):Int):Rat)≠0:=by
   have:(0:Rat)<((mdS mv i (mdMany mv i):Int):Rat):=by exact_mod_cast (show (0:Int)<mdS mv i (mdMany mv i) by omega)
   grind
  rw [Rat.divInt_eq_div,Rat.div_def,Rat.mul_inv_cancel _ hp]
theorem md_d {d:Int}(hd:0≤d∧d≤255):∃ q,numS (mdD d)=numS q∧Lt9 q∧0≤q∧q<1:=by
 have h:=Y5l hd
 have hden:(0:Int)<d % 7+1+d / 7 % 3:=by omega
 have hdr:(0:Rat)<((d % 7+1+d / 7 % 3:Int):Rat):=by exact_mod_cast hden
 have hm:=Zvo (n:=d % 7) hden
 refine ⟨mdD d,rfl,⟨by omega,by omega⟩,?_,?_⟩
 ·refine Rat.not_lt.1 (fun hn=>?_)
  have h1:=Rat.mul_lt_mul_of_pos_right hn hdr
  unfold mdD at h1
  rw [hm,Rat.zero_mul] at h1
  have:(d % 7:Int)<0:=by exact_mod_cast h1
  omega
 ·refine Rat.not_le.1 (fun hn=>?_)
  have h1:=Rat.mul_le_mul_of_nonneg_right hn (Rat.le_of_lt hdr)
  unfold mdD at h1
  rw [hm,Rat.one_mul] at h1
  have:(d % 7+1+d / 7 % 3:Int)≤d % 7:=by exact_mod_cast h1
  omega
theorem Xe7 {size:Nat}(hs:1≤size∧size≤5) (ks rs mv:List Int) {d:Int}(hd:0≤d∧d≤255):LT (mdL size ks rs mv) (numS (mdD d)):=by
 have hl:(mdL size ks rs mv).length=size:=by unfold mdL; rw [List.length_map,List.length_range]
 refine ⟨by omega,fun n hn=>?_,md_d hd⟩
 rw [hl]
 obtain ⟨i,_,rfl⟩:=List.mem_map.1 hn
 exact Xen hs.1 ks rs mv i
def tabAV (n d:Int) (ks rs mv:List Int):AV := .agg [.int .u8 n,.int .u8 d,.sl (ivs ks),.sl (ivs rs),.sl (ivs mv)]
def tabL (n:Int) (ks rs mv:List Int):List Nd:=mdL (n % 5+1).toNat ks rs mv
theorem lgame {n d:Int}{ks rs mv:List Int}(hn:0≤n∧n≤255) (hd:0≤d∧d≤255):SpecV Tryz.prog Yio [tabAV n d ks rs mv] (.tup [.sl ((tabL n ks rs mv).map ndAV),.str (bs (numS (mdD d)))]):=by
 have h:=lmade (ks:=ks) (rs:=rs) (mv:=mv) hn hd
 unfold tabAV
 refine Zad Yf8 (by simp) ?_
 unfold Z89
 simp only [go_sem,Zv6,Zx4]
 refine Zaa h (by simp only [go_sem]) ?_
 simp only [go_sem]
 rfl
theorem Xca {n d:Int}(hn:0≤n∧n≤255) (hd:0≤d∧d≤255) (ks rs mv:List Int):LT (tabL n ks rs mv) (numS (mdD d)):=Xe7 (by omega) ks rs mv hd
end GoAbs
namespace GoAbs
open Go Go.Proofs
set_option maxHeartbeats 4000000
theorem Yum {k:Nat}{x:List Rat}(h:Rb k x) {i:Nat}(hi:i<x.length):Qb k (rget x i):=h _ (List.mem_of_getElem? (Zaj hi))
end GoAbs
namespace GoAbs
open Go Go.Proofs
set_option maxHeartbeats 4000000
theorem Yie {x:GN}{n:Nat}(hx:GnOk n x) (h1:x.kind=1) (v:List Rat):(∃ t,t<x.to.length∧worthR x v=rget v (x.to.getD t 0))∧∀ t,t<x.to.length→rget v (x.to.getD t 0)≤worthR x v:=by
 have b1:=Zgg (v:=v) (sg:=1) hx.pos (Nat.le_refl _)
 have e:worthR x v=rget v (x.to.getD (bestG v x.to 1 x.to.length) 0):=by unfold worthR bestA; rw [if_pos h1]
 exact ⟨⟨_,b1,e⟩,fun t ht=>by rw [e]; exact (Z8i (v:=v) (to:=x.to) (k:=x.to.length)).1 t ht⟩
theorem Yik {x:GN}{n:Nat}(hx:GnOk n x) (h2:x.kind=2) (v:List Rat):(∃ t,t<x.to.length∧worthR x v=rget v (x.to.getD t 0))∧∀ t,t<x.to.length→worthR x v≤rget v (x.to.getD t 0):=by
 have b1:=Zgg (v:=v) (sg := -1) hx.pos (Nat.le_refl _)
 have e:worthR x v=rget v (x.to.getD (bestG v x.to (-1) x.to.length) 0):=by unfold worthR bestA; rw [if_neg (by omega),if_pos h2]
 exact ⟨⟨_,b1,e⟩,fun t ht=>by rw [e]; exact (Z17 (v:=v) (to:=x.to) (k:=x.to.length)).1 t ht⟩
theorem Yd6 {x:GN}(h3:x.kind=3) (v:List Rat):worthR x v=dotW x.odds v x.to x.to.length:=by
 unfold worthR
 rw [if_neg (by omega),if_neg (by omega)]
theorem Y2x {f:Rat→Rat}{v:List Rat}{j:Nat}(h:j<v.length):rget (v.map f) j=f (rget v j):=by
 have e:=Zaj h
 unfold rget at *
 rw [List.getD_eq_getElem?_getD (l:=v.map f),List.getElem?_map,e]
 rfl
theorem Yjq {f:Nd→Rat}{L:List Nd}{j:Nat}{n:Nd}(h:L[j]? = some n):rget (L.map f) j=f n:=by
 unfold rget
 rw [List.getD_eq_getElem?_getD,List.getElem?_map,h]
 rfl
theorem Ypl {odds u v:List Rat}{to:List Nat}{a b:Rat}:∀ {k:Nat},(∀ t,t<k→rget u (to.getD t 0)=a*rget v (to.getD t 0)+b)→dotW odds u to k=a*dotW odds v to k+b*sumO odds k
 | 0,_=>by simp only [dotW,sumO]; grind
 | k+1,h=>by
  have ih:=Ypl (odds:=odds) (k:=k) (fun t ht=>h t (by omega))
  have hk:=h k (by omega)
  simp only [dotW,sumO]
  rw [ih,hk]
  grind
theorem Yx0 {x:GN}{n:Nat}(hx:GnOk n x) (ho:x.kind=3→sumO x.odds x.to.length=1) {a b:Rat}(ha:0≤a) {u v:List Rat}(hu:∀ j,j<n→rget u j=a*rget v j+b):worthR x u=a*worthR x v+b:=by
 have hto:∀ t,t<x.to.length→rget u (x.to.getD t 0)=a*rget v (x.to.getD t 0)+b:=fun t ht=>hu _ (hx.lt _ (Zb2 ht))
 have hm:∀ p q:Rat,p≤q→a*p+b≤a*q+b:=fun p q h=>by
  have:=Rat.mul_le_mul_of_nonneg_left h ha
  grind
 rcases hx.kind with h | h | h
 ·obtain ⟨⟨t,ht,e⟩,h1⟩:=Yie hx h v
  obtain ⟨⟨s,hs,e'⟩,h2⟩:=Yie hx h u
  refine Rat.le_antisymm ?_ ?_
  ·rw [e',hto s hs]; exact hm _ _ (h1 s hs)
  ·rw [e, ← hto t ht]; exact h2 t ht
 ·obtain ⟨⟨t,ht,e⟩,h1⟩:=Yik hx h v
  obtain ⟨⟨s,hs,e'⟩,h2⟩:=Yik hx h u
  refine Rat.le_antisymm ?_ ?_
  ·rw [e, ← hto t ht]; exact h2 t ht
  ·rw [e',hto s hs]; exact hm _ _ (h1 s hs)
 ·rw [Yd6 h,Yd6 h,Ypl hto,ho h]
  grind
theorem Y28 {g g':Gm}(hg:GmP g) (hn:g'.nodes=g.nodes) (hd:g'.d=g.d) {a b r:Rat}(ha:0≤a) (hr:∀ i,i<g.nodes.length→rget g'.rew i=a*rget g.rew i+r) {u v:List Rat}(hu:∀ j,j<g.nodes.length→rget u j=a*rget v j+b) :
  ∀ i,i<g.nodes.length→nextV g' u i=a*nextV g v i+(r+g.d*b):=fun i hi=>by
 have hx:=Zbl hi
 have hw:=Yx0 (hg.ok.node _ hx) (fun h=>(hg.odds _ hx h).2) ha hu
 unfold nextV
 rw [hn,hd,hr i hi]
 show _+g.d*worthR (nodeAt g i) u=a*(_+g.d*worthR (nodeAt g i) v)+_
 rw [hw]
 grind
theorem Ywo {g g':Gm}(hg:GmP g) (hg':GmP g') (hn:g'.nodes=g.nodes) (hd:g'.d=g.d) {a b r:Rat}(ha:0≤a) (hr:∀ i,i<g.nodes.length→rget g'.rew i=a*rget g.rew i+r) (hb:r+g.d*b=b) :
  ∀ i,i<g.nodes.length→rget (valG g') i=a*rget (valG g) i+b:=fun i hi=>by
 have hl:=Zkv hg
 have hu:∀ j,j<g.nodes.length→rget ((valG g).map fun q=>a*q+b) j=a*rget (valG g) j+b:=fun j hj=>Y2x (f:=fun q=>a*q+b) (by omega)
 have:=Ya1 hg' (v:=(valG g).map fun q=>a*q+b) (by rw [List.length_map,hl,hn]) (fun j hj=>by
  rw [hn] at hj
  rw [hu j hj,Y28 hg hn hd ha hr hu j hj,hb,Ykj hg j hj])
 rw [← this]
 exact hu i hi
def rewQ (n:Nd):Rat:=(parseL n.rew).getD 0
def wRew (n:Nd) (q:Rat):Nd:=⟨n.kind,numS q,n.mv⟩
def mapR (f:Rat→Rat) (L:List Nd):List Nd:=L.map fun n=>wRew n (f (rewQ n))
theorem NT.rq {N:Nat}{n:Nd}(h:NT N n):n.rew=numS (rewQ n)∧Lt9 (rewQ n):=by
 obtain ⟨q,e,hl⟩:=h.rew
 have:rewQ n=q:=by unfold rewQ; rw [e,hl.parse]; rfl
 rw [this]
 exact ⟨e,hl⟩
theorem NT.okB {N:Nat}{n:Nd}(h:NT N n):okB n.rew=true∧n.rew.length≤1000:=by
 have:=h.rq
 refine ⟨by unfold GoAbs.okB; rw [this.1,this.2.parse]; rfl,by have:=h.facts.2.2.1; omega⟩
theorem NT.wrew {N:Nat}{n:Nd}(h:NT N n) {q:Rat}(hq:Lt9 q):NT N (wRew n q):=⟨h.kind,⟨q,rfl,hq⟩,h.len,h.to,h.no,h.odds⟩
theorem LT.mapR {L:List Nd}{d:List UInt8}(h:LT L d) {f:Rat→Rat}(hf:∀ n,n∈L→Lt9 (f (rewQ n))):LT (mapR f L) d:=by
 have hl:(GoAbs.mapR f L).length=L.length:=List.length_map _
 refine ⟨by rw [hl]; exact h.n,fun n hn=>?_,h.d⟩
 obtain ⟨m,hm,rfl⟩:=List.mem_map.1 hn
 rw [hl]
 exact (h.nd m hm).wrew (hf m hm)
theorem Yu2 {L:List Nd}{d:List UInt8}{f:Rat→Rat}(hf:∀ n,n∈L→Lt9 (f (rewQ n))):(toGm (mapR f L) d).nodes=(toGm L d).nodes∧(toGm (mapR f L) d).d=(toGm L d).d∧∀ i,i<L.length→rget (toGm (mapR f L) d).rew i=f (rget (toGm L d).rew i):=by
 refine ⟨?_,rfl,fun i hi=>?_⟩
 ·show (L.map _).map toGN=L.map toGN
  rw [List.map_map]
  rfl
 ·have hg:L[i]? = some L[i]:=List.getElem?_eq_getElem hi
  show rget ((L.map _).map fun n:Nd=>(parseL n.rew).getD 0) i=f (rget (L.map fun n:Nd=>(parseL n.rew).getD 0) i)
  rw [List.map_map,Yjq hg,Yjq hg]
  show (parseL (numS (f (rewQ L[i])))).getD 0=f (rewQ L[i])
  rw [(hf _ (List.getElem_mem hi)).parse]
  rfl
end GoAbs
namespace GoAbs
open Go Go.Proofs
set_option maxHeartbeats 8000000
theorem Y9r {L:List Nd}{i:Nat}{n:Nd}(h:L[i]? = some n):(L.map ndAV)[i]? = some (.agg [.int .i64 n.kind,.str (bs n.rew),.sl (n.mv.map mvAV)]):=by
 rw [List.getElem?_map,h]; rfl
theorem Yqg {L:List Nd}{f:Nd→Nd}{i:Nat}{n:Nd}(h:L[i]? = some n):((L.take (i+1)).map f).flatMap ndC=((L.take i).map f).flatMap ndC++ndC (f n):=by
 have:L.take (i+1)=L.take i ++ [n]:=by rw [List.take_add_one,h]; rfl
 rw [this,List.map_append,List.flatMap_append]
 simp
theorem Y5k {a b:Rat}(h:a=b):cmpR a b=0:=by
 unfold cmpR
 rw [if_neg (by rw [h]; exact Rat.lt_irrefl),if_neg (by rw [h]; exact Rat.lt_irrefl)]
end GoAbs
namespace GoAbs
open Go Go.Proofs
set_option maxHeartbeats 8000000
theorem Yzl {B0:Blk}{L:List Nd}{d:ByteArray}{V:List AV}{b c:Int}(hnd:∀ n,n∈L→NT L.length n) (hL5:L.length≤5) (hB:∀ f,B0.gc f=B0)
  (hb:b.natAbs<1000) (hc:c.natAbs<1000) (h9:∀ n,n∈L→Lt9 (rewQ n*(b:Rat))∧Lt9 (rewQ n+(c:Rat))) {K:Ex→St→Prop}
  (hK:∀ e:Nat→AV,Has e [(1,.int .i64 b),(2,.int .i64 c),(7,.sl (L.map ndAV)),(8,.str d),(9,.sl V),(10,.bool true),(11,.osl (some 3) 1 0 L.length),(12,.osl (some 3) 2 0 L.length)] →
   K (.exit 0) ⟨e,[B0,.cells ((mapR (fun q=>q*(b:Rat)) L).flatMap ndC),.cells ((mapR (fun q=>q+(c:Rat)) L).flatMap ndC)]⟩) :
  T Tryz.prog 149 0 (.loop Zes) ⟨envL [(1,.int .i64 b),(2,.int .i64 c),(7,.sl (L.map ndAV)),(8,.str d),(9,.sl V),(10,.bool true),(11,.osl (some 3) 1 0 0),(12,.osl (some 3) 2 0 0),(13,.int .i64 0)],[B0,.cells [],.cells []]⟩ K:=by
 have hmx:Tryz.prog.follows .mixedOrders=true:=by kernel_rfl
 obtain ⟨ls,hls⟩:∃ ls,ls=L.map ndAV:=⟨_,rfl⟩
 have hlsl:ls.length=L.length:=by rw [hls,List.length_map]
 have hgl:=fun i n (h:L[i]? = some n)=>Y9r h
 rw [← hls] at hK hgl ⊢
 unfold mapR at hK
 obtain ⟨F,hF⟩:∃ F:Nd→Nd,F=fun n=>wRew n ((fun q=>q*(b:Rat)) (rewQ n)):=⟨_,rfl⟩
 obtain ⟨G,hG⟩:∃ G:Nd→Nd,G=fun n=>wRew n ((fun q=>q+(c:Rat)) (rewQ n)):=⟨_,rfl⟩
 rw [← hF, ← hG] at hK
 refine Zaf (fun i:Nat=>⟨envL [(1,.int .i64 b),(2,.int .i64 c),(7,.sl ls),(8,.str d),(9,.sl V),(10,.bool true),(11,.osl (some 3) 1 0 i),(12,.osl (some 3) 2 0 i),(13,.int .i64 (i:Int))],[B0,.cells (((L.take i).map F).flatMap ndC),.cells (((L.take i).map G).flatMap ndC)]⟩)
  (fun i=>i≤L.length) (fun i=>L.length - i) 0 (by omega) (Zab _ (by simp only [go_sem]; simp)) (fun i hi N hN=>?_)
 unfold Zes
 by_cases hin:i<L.length
 ·obtain ⟨n,hn⟩:∃ n,L[i]? = some n:=⟨_,List.getElem?_eq_getElem hin⟩
  have hnt:=hnd n (List.mem_of_getElem? hn)
  obtain ⟨h91,h92⟩:=h9 n (List.mem_of_getElem? hn)
  have hget:=hgl i n hn
  have htk:=Yqg (f:=F) hn
  have htk':=Yqg (f:=G) hn
  have hPl:(((L.take i).map F).flatMap ndC).length=i*3:=by rw [Ylj,List.length_map,List.length_take]; omega
  have hQl:(((L.take i).map G).flatMap ndC).length=i*3:=by rw [Ylj,List.length_map,List.length_take]; omega
  have hPg:=fun f=>Yu1 (M:=(L.take i).map F) f
  have hQg:=fun f=>Yu1 (M:=(L.take i).map G) f
  have hfl:ndC (F n) = [.int .i64 n.kind,.str (bs (numS (rewQ n*(b:Rat)))),.sl (n.mv.map mvAV)]:=by rw [hF]; rfl
  have hgl':ndC (G n) = [.int .i64 n.kind,.str (bs (numS (rewQ n+(c:Rat)))),.sl (n.mv.map mvAV)]:=by rw [hG]; rfl
  rw [hfl] at htk
  rw [hgl'] at htk'
  generalize ((L.take i).map F).flatMap ndC=P at *
  generalize ((L.take i).map G).flatMap ndC=Q at *
  obtain ⟨fb,sb⟩:=Z07 (v:=b) (by omega)
  obtain ⟨fc,sc⟩:=Z07 (v:=c) (by omega)
  have hq9:=hnt.rq.2
  have sO:SpecV Tryz.prog Yf6 [.str (bs n.rew)] (.agg (rq (rewQ n))):=Xc9 hnt.okB.1 hnt.okB.2
  obtain ⟨C,fC,sC⟩:=Y47 (Fr.of hq9.qb) fb (by decide)
  obtain ⟨D,fD,sD⟩:=Y5h (Fr.of hq9.qb) fc (by decide)
  have sN:=Y4v fC (by decide) h91.ok
  have sM:=Y4v fD (by decide) h92.ok
  have bC:=fC.bvs
  have bD:=fD.bvs
  have bb:=fb.bvs
  have bc:=fc.bvs
  generalize rc b 1=z1 at *
  generalize rc c 1=z2 at *
  have q0:(0:Int)≤(i:Int):=by omega
  have q1:(i:Int)<(L.length:Int):=by omega
  have s1:(i+1)*48≤1099511627776:=by omega
  have s2:i*3≤P.length:=by omega
  have s3:i*3≤Q.length:=by omega
  have tP:P.take (i*3)=P:=List.take_of_length_le (by omega)
  have tQ:Q.take (i*3)=Q:=List.take_of_length_le (by omega)
  have e1:IntKind.i64.wrap ((i:Int)+1)=((i+1:Nat):Int):=by rw [Zac (by omega) (by omega)]; omega
  have fin:∀ (e:Nat→AV) (X Y Z W:Blk),Has e [(1,.int .i64 b),(2,.int .i64 c),(7,.sl ls),(8,.str d),(9,.sl V),(10,.bool true),(11,.osl (some 3) 6 0 (i+1)),(12,.osl (some 3) 8 0 (i+1)),(13,.int .i64 ((i+1:Nat):Int))] →
    N ⟨e,[B0,.dead,.dead,X,Y,Z,.cells (P ++ [.int .i64 n.kind,.str (bs (numS (rewQ n*(b:Rat)))),.sl (n.mv.map mvAV)]),W,.cells (Q ++ [.int .i64 n.kind,.str (bs (numS (rewQ n+(c:Rat)))),.sl (n.mv.map mvAV)])]⟩:=fun e X Y Z W he=>by
   refine hN (i+1) _ (by omega) (by omega) (Zb9 (Zhf [0,6,8] (by decide) (fun i hi=>by omega) [(1,.int .i64 b),(2,.int .i64 c),(7,.sl ls),(8,.str d),(9,.sl V),(10,.bool true),(11,.osl (some 3) 6 0 (i+1)),(12,.osl (some 3) 8 0 (i+1)),(13,.int .i64 ((i+1:Nat):Int))] he) ?_)
   show St.mk _ [B0.gc _,Blk.cells (gcL _ (P++_)),Blk.cells (gcL _ (Q++_))]=_
   rw [Zu2,Zu2,hB,hPg,hQg,htk,htk']
   rfl
  simp only [go_sem,Zfq,q1,hlsl]
  refine Z18 hmx (fun t b=>t=2∧(b=3∨b=4)) 2 ?_
  simp only [go_sem,Ze4,q0,q1,hlsl,hget,List.cons_append,List.nil_append]
  simp only [go_sem,Zkd,q0,q1,hlsl,hget]
  refine Zaa sO (by simp only [go_sem]) ?_
  simp only [go_sem]
  refine Zaa sb (by simp only [go_sem]) ?_
  simp only [go_sem]
  refine Zaa sC (by simp only [go_sem,bb,Z6j]) ?_
  simp only [go_sem]
  refine Zaa sN (by simp only [go_sem,bC]) ?_
  simp only [go_sem,Zjn,q0,q1,hlsl,hget]
  refine Zaa sO (by simp only [go_sem]) ?_
  simp only [go_sem]
  refine Zaa sc (by simp only [go_sem]) ?_
  simp only [go_sem]
  refine Zaa sD (by simp only [go_sem,bc,Z6j]) ?_
  simp only [go_sem]
  refine Zaa sM (by simp only [go_sem,bD]) ?_
  simp only [go_sem]
  refine Z18 hmx (fun t b=>(t=1∧b=1)∨(t=3∧b=2)) 4 ?_
  simp only [go_sem,Zee,hmx,s1,s2,s3,tP,tQ,hPl,hQl,Nat.le_refl,List.cons_append,List.nil_append,Zjq,e1]
  exact fin _ _ _ _ _ (by simp only [go_sem])
 ·have hie:i=L.length:=by omega
  subst hie
  have q1:¬ ((L.length:Nat):Int)<(L.length:Int):=by omega
  rw [List.take_length]
  simp only [go_sem,Zfq,hlsl,q1]
  exact hK _ (by simp only [go_sem])
theorem Y6e {n:Int}{ks rs mv:List Int}:∀ x,x∈tabL n ks rs mv→∃ z:Int,rewQ x=(z:Rat)∧z.natAbs<50:=fun x hx=>by
 obtain ⟨i,_,rfl⟩:=List.mem_map.1 hx
 have h:=Ygz rs i
 have h9:Lt9 (mdRew rs i):=⟨by omega,by omega⟩
 refine ⟨(pk rs i).tmod 50,?_,by omega⟩
 show (parseL (numS (mdRew rs i))).getD 0=_
 rw [h9.parse]
 rfl
theorem Yw3 {z:Int}(h:z.natAbs<10000):Lt9 ((z:Int):Rat):=⟨by show (1:Nat)≤9; decide,h⟩
theorem lscales {n d b c:Int}{ks rs mv:List Int}(hn:0≤n∧n≤255) (hd:0≤d∧d≤255) (_h1:∀ n,n∈ks→(Lit.int .i64 n).wf=true) (_h2:∀ n,n∈rs→(Lit.int .i64 n).wf=true) (_h3:∀ n,n∈mv→(Lit.int .i64 n).wf=true) (_hb:(Lit.int .i64 b).wf=true) (_hc:(Lit.int .i64 c).wf=true) :
  SpecV Tryz.prog Z7t [.agg [.int .u8 n,.int .u8 d,.sl (ivs ks),.sl (ivs rs),.sl (ivs mv)],.int .i64 b,.int .i64 c] (.bool true):=by
 have hmx:Tryz.prog.follows .mixedOrders=true:=by kernel_rfl
 have hgm:=lgame (ks:=ks) (rs:=rs) (mv:=mv) hn hd
 have hlt:=Xca hn hd ks rs mv
 have hint:=Y6e (n:=n) (ks:=ks) (rs:=rs) (mv:=mv)
 unfold tabAV at hgm
 obtain ⟨L,hL⟩:∃ L,L=tabL n ks rs mv:=⟨_,rfl⟩
 obtain ⟨t,ht⟩:∃ t,t=numS (mdD d):=⟨_,rfl⟩
 rw [← hL] at hgm hlt hint
 rw [← ht] at hgm hlt
 have hfo:=lfold1 (v:=b) (n:=30) (by decide) (by decide)
 obtain ⟨y,hy⟩:∃ y,y=b % 30:=⟨_,rfl⟩
 obtain ⟨z,hz⟩:∃ z,z=c.tmod 100:=⟨_,rfl⟩
 have hy30:0≤y∧y<30:=by omega
 have hz100:z.natAbs<100:=by
  have:=(Zr3 (v:=c) (n:=100) (by decide)).1
  have:=(Zr3 (v:=c) (n:=100) (by decide)).2.1
  omega
 rw [← hy] at hfo
 have h9:∀ n,n∈L→Lt9 (rewQ n*(y:Rat))∧Lt9 (rewQ n+(z:Rat)):=fun n hn=>by
  obtain ⟨x,e,hx⟩:=hint n hn
  rw [e, ← Rat.intCast_mul, ← Rat.intCast_add]
  refine ⟨Yw3 ?_,Yw3 (by omega)⟩
  rw [Int.natAbs_mul]
  have:x.natAbs*y.natAbs≤50*30:=Nat.mul_le_mul (by omega) (by omega)
  omega
 have hlt1:=hlt.mapR (f:=fun q=>q*(y:Rat)) (fun n hn=>(h9 n hn).1)
 have hlt2:=hlt.mapR (f:=fun q=>q+(z:Rat)) (fun n hn=>(h9 n hn).2)
 obtain ⟨g1,g2,g3⟩:=Yu2 (L:=L) (d:=t) (f:=fun q=>q*(y:Rat)) (fun n hn=>(h9 n hn).1)
 obtain ⟨k1,k2,k3⟩:=Yu2 (L:=L) (d:=t) (f:=fun q=>q+(z:Rat)) (fun n hn=>(h9 n hn).2)
 obtain ⟨hg,hgn⟩:=hlt.gmP
 obtain ⟨hg1,hgn1⟩:=hlt1.gmP
 obtain ⟨hg2,hgn2⟩:=hlt2.gmP
 have hl1:(mapR (fun q=>q*(y:Rat)) L).length=L.length:=List.length_map _
 have hl2:(mapR (fun q=>q+(z:Rat)) L).length=L.length:=List.length_map _
 rw [hl1] at hgn1
 rw [hl2] at hgn2
 have hv:=lvals hlt
 have hv1:=lvals hlt1
 have hv2:=lvals hlt2
 have hvb:=Zvh hg hlt.gmL
 have hvb1:=Zvh hg1 hlt1.gmL
 have hvb2:=Zvh hg2 hlt2.gmL
 have hvl:=Zkv hg
 have hvl1:=Zkv hg1
 have hvl2:=Zkv hg2
 have hL5:=hlt.n
 obtain ⟨hdo,hdl,hdq,hd9⟩:=hlt.dq
 have sD:=Xc9 hdo (by omega)
 rw [← hdq] at sD
 have hd1:=hg.d1
 obtain ⟨dd,hdd⟩:∃ dd,dd=(toGm L t).d:=⟨_,rfl⟩
 have hpos:0<((1:Int):Rat) - dd:=by
  have:((1:Int):Rat)=1:=rfl
  rw [hdd,this]; grind
 obtain ⟨m,hm⟩:∃ m,m=((z:Int):Rat) / (((1:Int):Rat) - dd):=⟨_,rfl⟩
 have hmm:m*(((1:Int):Rat) - dd)=((z:Int):Rat):=by
  rw [hm]
  exact Rat.div_mul_cancel (by grind)
 have hmb:((z:Int):Rat)+(toGm L t).d*m=m:=by
  have:((1:Int):Rat)=1:=rfl
  rw [this] at hmm
  rw [← hdd]
  grind
 have hy0:(0:Rat)≤((y:Int):Rat):=by exact_mod_cast hy30.1
 have f1:=Ywo hg hg1 g1 g2 (a:=((y:Int):Rat)) (b:=0) (r:=0) hy0 (fun i hi=>by rw [g3 i (by omega)]; grind) (by grind)
 have f2:=Ywo hg hg2 k1 k2 (a:=1) (b:=m) (r:=((z:Int):Rat)) (by decide) (fun i hi=>by rw [k3 i (by omega)]; grind) hmb
 obtain ⟨fy,sy⟩:=Z07 (v:=y) (by omega)
 obtain ⟨fz,sz⟩:=Z07 (v:=z) (by omega)
 obtain ⟨fo,so⟩:=Z07 (v:=1) (by decide)
 rw [← hdd] at sD hd9
 obtain ⟨C,fC,sC⟩:=Xc3 fo (Fr.of hd9.qb) (by decide)
 obtain ⟨D,fD,sDv⟩:=Xbf (fz.mono (show 20≤2*20+1 by decide)) fC hpos (by decide)
 rw [← hm] at fD
 obtain ⟨V,hV⟩:∃ V,V=valG (toGm L t):=⟨_,rfl⟩
 obtain ⟨U,hU⟩:∃ U,U=valG (toGm (mapR (fun q=>q*(y:Rat)) L) t):=⟨_,rfl⟩
 obtain ⟨W,hW⟩:∃ W,W=valG (toGm (mapR (fun q=>q+(z:Rat)) L) t):=⟨_,rfl⟩
 rw [← hV] at hv hvb hvl f1 f2
 rw [← hU] at hv1 hvb1 hvl1 f1
 rw [← hW] at hv2 hvb2 hvl2 f2
 have c100:¬ (100:Int)=0:=by decide
 refine Za5 Z3t (by simp) (Zbh 4 rfl ?_)
 unfold Zs5
 simp only [go_sem,Zkj,Zkp]
 refine Zaa hgm (by simp only [go_sem]) ?_
 simp only [go_sem,Zkh]
 refine Zaa hv (by simp only [go_sem]) ?_
 simp only [go_sem,Zkf]
 refine Zaa hfo (by simp only [go_sem]) ?_
 simp only [go_sem,c100, ← hz,Zkt]
 refine T_le (Zg7 11 (some 3) (by simp only [go_sem]) [(1,.int .i64 y),(2,.int .i64 z),(7,.sl (L.map ndAV)),(8,.str (bs t)),(9,rowV V),(10,.bool true),(12,.nils)] (by simp only [go_sem])) ?_
 refine T_le (Zg7 12 (some 3) (by simp only [go_sem]) [(1,.int .i64 y),(2,.int .i64 z),(7,.sl (L.map ndAV)),(8,.str (bs t)),(9,rowV V),(10,.bool true),(11,.osl (some 3) 1 0 0)] (by simp only [go_sem])) ?_
 refine Za8 (Za8 (T_W ?_))
 simp only [go_sem,Zj7,List.cons_append,List.nil_append,List.length_cons,List.length_nil]
 refine Za9 (Zav [(1,.int .i64 y),(2,.int .i64 z),(7,.sl (L.map ndAV)),(8,.str (bs t)),(9,rowV V),(10,.bool true),(11,.osl (some 3) 1 0 0),(12,.osl (some 3) 2 0 0),(13,.int .i64 0)] (by simp only [go_sem]) (Yzl (V:=V.map fun q => .agg (rq q)) hlt.nd hL5.2 (fun f=>rfl) (by omega) (by omega) h9 (fun e he=>?_)))
 obtain ⟨a1,a2,a3,a4,a5,a6,a7,a8,_⟩:=he
 refine Zvl [1,2] [(1,.int .i64 y),(2,.int .i64 z),(7,.sl (L.map ndAV)),(8,.str (bs t)),(9,rowV V),(10,.bool true),(11,.sl ((mapR (fun q=>q*(y:Rat)) L).map ndAV)),(12,.sl ((mapR (fun q=>q+(z:Rat)) L).map ndAV))] ?_ ?_
 ·refine ⟨.inr a1,.inr a2,.inr a3,.inr a4,.inr a5,.inr a6,.inl ?_,.inl ?_,trivial⟩
  ·have hbn:=Yuz (H := [Blk.cells [AV.int IntKind.u8 n,AV.int IntKind.u8 d,AV.sl (ivs ks),AV.sl (ivs rs),AV.sl (ivs mv)],Blk.cells ((mapR (fun q=>q*(y:Rat)) L).flatMap ndC),Blk.cells ((mapR (fun q=>q+(z:Rat)) L).flatMap ndC)]) (ids := [1,2]) (b:=1) (M:=mapR (fun q=>q*(y:Rat)) L) rfl (by simp)
   rw [hl1] at hbn
   show BV _ _ (e 11) _
   rw [a7]
   exact hbn
  ·have hbn:=Yuz (H := [Blk.cells [AV.int IntKind.u8 n,AV.int IntKind.u8 d,AV.sl (ivs ks),AV.sl (ivs rs),AV.sl (ivs mv)],Blk.cells ((mapR (fun q=>q*(y:Rat)) L).flatMap ndC),Blk.cells ((mapR (fun q=>q+(z:Rat)) L).flatMap ndC)]) (ids := [1,2]) (b:=2) (M:=mapR (fun q=>q+(z:Rat)) L) rfl (by simp)
   rw [hl2] at hbn
   show BV _ _ (e 12) _
   rw [a8]
   exact hbn
 have lV:(V.map fun q=>AV.agg (rq q)).length=L.length:=by rw [List.length_map,hvl,hgn]
 have lU:(U.map fun q=>AV.agg (rq q)).length=L.length:=by rw [List.length_map,hvl1,hgn1]
 have lW:(W.map fun q=>AV.agg (rq q)).length=L.length:=by rw [List.length_map,hvl2,hgn2]
 have gV:=fun i (hi:i<V.length)=>Yg6 (v:=V) hi
 have gU:=fun i (hi:i<U.length)=>Yg6 (v:=U) hi
 have gW:=fun i (hi:i<W.length)=>Yg6 (v:=W) hi
 have lL:(L.map ndAV).length=L.length:=List.length_map _
 have bz:=fz.bvs
 have bo:=fo.bvs
 have by':=fy.bvs
 have bC:=fC.bvs
 have bD:=fD.bvs
 have lD:=fD.len
 have tD:=fD.take
 have dD:=fD.drop
 have gD:=fD.gc
 refine Zbh 3 rfl ?_
 simp only [go_sem,Zjz]
 refine Zaa hv1 (by simp only [go_sem]) ?_
 simp only [go_sem,Zi1]
 refine Zaa hv2 (by simp only [go_sem]) ?_
 simp only [go_sem,Ziv]
 refine Zaa wlives (by simp only [go_sem]) ?_
 simp only [go_sem,Zio]
 refine Zaa sz (by simp only [go_sem]) ?_
 simp only [go_sem]
 refine Zaa so (by simp only [go_sem]) ?_
 simp only [go_sem]
 refine Zaa sD (by simp only [go_sem]) ?_
 simp only [go_sem]
 refine Zaa sC (by simp only [go_sem,bo,Z6j]) ?_
 simp only [go_sem]
 refine Zaa sDv (by simp only [go_sem,bz,bC]) ?_
 simp only [go_sem,lD,tD,dD,Nat.le_refl]
 refine Za8 (Za8 (T_W ?_))
 simp only [go_sem,Zjf,rowV]
 generalize (V.map fun q=>AV.agg (rq q))=Vs at *
 generalize (U.map fun q=>AV.agg (rq q))=Us at *
 generalize (W.map fun q=>AV.agg (rq q))=Ws at *
 generalize L.map ndAV=ls at *
 refine Za9 (Zaf (fun i:Nat=>⟨envL [(1,.int .i64 y),(7,.sl ls),(9,.sl Vs),(16,.sl Us),(18,.sl Ws),(20,.ptr 3 0),(21,.int .i64 (i:Int))],[Blk.cells [AV.int IntKind.u8 n,AV.int IntKind.u8 d,AV.sl (ivs ks),AV.sl (ivs rs),AV.sl (ivs mv)],Blk.dead,Blk.dead,.cells D]⟩)
  (fun i=>i≤L.length) (fun i=>L.length - i) 0 (by omega) (Zab _ (by simp only [go_sem]; simp)) (fun i hi N hN=>?_))
 unfold Zkn
 by_cases hin:i<L.length
 ·have g1:=gV i (by omega)
  have g2:=gU i (by omega)
  have g3:=gW i (by omega)
  have qv:=Yum hvb (show i<V.length by omega)
  have qu:=Yum hvb1 (show i<U.length by omega)
  have qw:=Yum hvb2 (show i<W.length by omega)
  obtain ⟨E,fE,sE⟩:=Y47 (k:=4000) (Fr.of qv) (fy.mono (by decide)) (by decide)
  have sX:=Y5q ((Fr.of qu).mono (show 4000≤2*4000 by decide)) fE (by decide)
  obtain ⟨E',fE',sE'⟩:=Y5h (k:=4000) (Fr.of qv) (fD.mono (by decide)) (by decide)
  have sX':=Y5q ((Fr.of qw).mono (show 4000≤2*4000+1 by decide)) fE' (by decide)
  rw [Y5k (by rw [f1 i (by omega)]; grind)] at sX
  rw [Y5k (by rw [f2 i (by omega)]; grind)] at sX'
  have bE:=fE.bvs
  have bE':=fE'.bvs
  have rl:∀ q:Rat,(rq q).length=4:=fun q=>rfl
  have bvsr:∀ {H ids} {q:Rat},BVs H ids (rq q) (rq q)=True:=fun {H ids q}=>Z6j
  generalize rc y 1=z1 at *
  have q0:(0:Int)≤(i:Int):=by omega
  have q1:(i:Int)<(L.length:Int):=by omega
  have e1:IntKind.i64.wrap ((i:Int)+1)=((i+1:Nat):Int):=by rw [Zac (by omega) (by omega)]; omega
  simp only [go_sem,Zd8,Zd2,q0,q1,lL,lV,lU,lW,g1,g2,g3,rl,Yfc,Ygn,hmx]
  refine Zaa sy (by simp only [go_sem]) ?_
  simp only [go_sem]
  refine Zaa sE (by simp only [go_sem,by',bvsr]) ?_
  simp only [go_sem]
  refine Zaa sX (by simp only [go_sem,bE,bvsr]) ?_
  simp only [go_sem,q0,q1,lV,lW,g1,g3,rl,Yfc,Ygn,lD,tD,dD,Nat.le_refl]
  refine Zaa sE' (by simp only [go_sem,bD,bvsr]) ?_
  simp only [go_sem]
  refine Zaa sX' (by simp only [go_sem,bE',bvsr]) ?_
  simp only [go_sem,Zin,e1]
  exact hN (i+1) _ (by omega) (by omega) (Zab _ (by simp only [go_sem]))
 ·have hie:i=L.length:=by omega
  subst hie
  have q1:¬ ((L.length:Nat):Int)<(L.length:Int):=by omega
  simp only [go_sem,Zd8,lL,q1]
  refine T_W ?_
  simp only [go_sem,Ziy]
end GoAbs
