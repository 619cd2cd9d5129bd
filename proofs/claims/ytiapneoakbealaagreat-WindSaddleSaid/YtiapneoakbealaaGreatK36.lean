/- Lemmas for the claim (contracts of the functions that it reaches, and what they compute), without conditions. -/
import Derived.Test.YtiapneoakbealaaGreatK35
import Derived.Test.YtiapneoakbealaaGreatProg
import Derived.KernelRfl
set_option linter.unusedVariables false
set_option linter.unusedSimpArgs false
set_option maxRecDepth 10000
set_option maxHeartbeats 2000000
namespace GoAbs
open Go Go.Proofs
theorem Opens.mono {P:Program}{t:TypeId}{S S':List AV→Prop}(h:Opens P t S) (hs:∀ av,S av→S' av):Opens P t S':=fun enc w base spare held fuel cs x hx=>by
 obtain ⟨av,h1,h2⟩:=h enc w base spare held fuel cs x hx
 exact ⟨av,h1,hs av h2⟩
theorem Ys4 {P:Program}{f:Nat}{xs:List AV}{vs:Array Value}{w:World}(h:SpecV P f xs (.bool true)) (hr:Reps w noX noPl xs vs):Calls P f vs w fun e w'=>e = .returned (.bool true)∧Go.RowKit.Below w.heap.size w w' :=
 (h.2 noX w vs (fun _ hb=>hb.elim) hr).mono fun e w' he=>by
  obtain ⟨v,rfl,hv,hb⟩:=he
  cases hv
  exact ⟨rfl,hb⟩
theorem Ylw {w:World}{x:AV}{xs:List AV}{v:Value}{l:List Value}(h:Rep w noX noPl x v) (k:Reps w noX noPl xs l.toArray):Reps w noX noPl (x::xs) (v::l).toArray:=by
 refine ⟨by have:=k.1; simp at this ⊢; exact this,fun i y u hy hu=>?_⟩
 cases i with
 | zero=>simp at hy hu; subst hy hu; exact h
 | succ i=>exact k.2 i y u (by simpa using hy) (by simpa using hu)
theorem reps2 {w:World}{x y:AV}{v u:Value}(h:Rep w noX noPl x v) (k:Rep w noX noPl y u):Reps w noX noPl [x,y] #[v,u]:=Ylw h (Ylw (l := []) k ⟨rfl,fun i z t hz=>by simp at hz⟩)
theorem Xb4 {P:Program}{W:World}{r:Reach}{base:Nat}{t:TypeId}{v:Value}{e:TypeId}(ht:P.underlying t=some (.slice e)) (h:Value.okWide P W r base t v):v.cells = #[v]:=by
 obtain ⟨a,l,c,rfl⟩:=Go.WideShapes.okWide_slice ht h; rfl
theorem Xdo {n:Int}(h:(Lit.int .u8 n).wf=true):0≤n∧n≤255:=bounds_u8 h
theorem opensInts:Opens Tryz.prog 36 (fun av=>∃ p:List Int,av = [.sl (ivs p)]∧∀ n,n∈p→(Lit.int .i64 n).wf=true):=by
 refine Opens.mono (Yz9 (e:=3) (fun x ⟨n,hx,_⟩=>by cases hx; rfl) Tryz.underlying36 (by kernel_rfl) (Ya7 Tryz.underlying3)) ?_
 rintro av ⟨l,rfl,h⟩
 have:∀ l:List AV,(∀ c,c∈l→∃ n:Int,[c] = [AV.int .i64 n]∧(Lit.int .i64 n).wf=true)→∃ p:List Int,l=ivs p∧∀ n,n∈p→(Lit.int .i64 n).wf=true:=by
  intro l
  induction l with
  | nil=>intro _; exact ⟨[],rfl,fun n hn=>by simp at hn⟩
  | cons c l ih =>
   intro h
   obtain ⟨p,hp,hw⟩:=ih (fun d hd=>h d (by simp [hd]))
   obtain ⟨n,hn,hnw⟩:=h c (by simp)
   cases hn
   refine ⟨n::p,by rw [hp]; rfl,fun m hm=>?_⟩
   rcases List.mem_cons.1 hm with rfl | hm
   ·exact hnw
   ·exact hw m hm
 obtain ⟨p,hp,hw⟩:=this l h
 exact ⟨p,by rw [hp],hw⟩
theorem opensTable:Opens Tryz.prog 44 (fun av=>∃ (a b:Int) (p q r:List Int),av = [.int .u8 a,.int .u8 b,.sl (ivs p),.sl (ivs q),.sl (ivs r)]∧(Lit.int .u8 a).wf=true∧(Lit.int .u8 b).wf=true∧(∀ n,n∈p→(Lit.int .i64 n).wf=true)∧(∀ n,n∈q→(Lit.int .i64 n).wf=true)∧(∀ n,n∈r→(Lit.int .i64 n).wf=true)):=by
 refine Opens.mono (Y5r (n:=5) Tryz.underlying44 (by kernel_rfl) (Zku (off:=0) (k:=1) rfl (by kernel_rfl) (by omega) (Ya7 Tryz.underlying5) (Zku (off:=1) (k:=1) rfl (by kernel_rfl) (by omega) (Ya7 Tryz.underlying5)
  (Zku (off:=2) (k:=1) rfl (by kernel_rfl) (by omega) opensInts (Zku (off:=3) (k:=1) rfl (by kernel_rfl) (by omega) opensInts (Zku (off:=4) (k:=1) rfl (by kernel_rfl) (by omega) opensInts Ytd)))))) ?_
 rintro av ⟨a,_,rfl,_,⟨n,rfl,w1⟩,c,_,rfl,_,⟨m,rfl,w2⟩,e,_,rfl,_,⟨p,rfl,w3⟩,g,_,rfl,_,⟨q,rfl,w4⟩,i,_,rfl,_,⟨r,rfl,w5⟩,rfl⟩
 exact ⟨n,m,p,q,r,rfl,w1,w2,w3,w4,w5⟩
end GoAbs
namespace GoAbs
open Go Go.Proofs
def Zvs:List IOp := [oI 4 (.mv (.c (.bool false))) 0]
def Ztf:List IOp := [mI 6 0 0,oI 7 (.len (.t 6)) 0,mI 8 1 0,oI 9 (.len (.t 8)) 0,oI 10 (.bin .neq (.t 7) (.t 9)) 0]
def Ydi:List IOp := [oI 4 (.mv (.c (.bool false))) 0]
def Zs3:List IOp := [oI 5 (.mv (cI 0)) 0]
def Zj8:List IOp := [mI 11 5 0,mI 12 0 0,oI 13 (.len (.t 12)) 0,oI 14 (.bin .lss (.t 11) (.t 13)) 0]
def Zk1:List IOp := [mI 17 0 0,mI 18 5 0,xI 19 1 17 18 0,lI 20 19 0,mI 21 1 0,mI 22 5 0,xI 23 1 21 22 0,lI 24 23 0,oI 25 (.bin .neq (.t 20) (.t 24)) 0]
@[go_sem ↓] theorem Z58 : autoK Zk1 = (0, 0) := by kernel_rfl
@[go_sem] theorem Yry : autoK [mI 17 0 0, mI 18 5 0, xI 19 1 17 18 0, lI 20 19 0, mI 21 1 0, mI 22 5 0, xI 23 1 21 22 0, lI 24 23 0, oI 25 (.bin .neq (.t 20) (.t 24)) 0] = (0, 0) := Z58
def Ya8:List IOp := [oI 4 (.mv (.c (.bool false))) 0]
def Ztx:List IOp := [mI 15 5 0,oI 16 (.bin .add (.t 15) (cI 1)) 0,mI 5 16 0]
def Zu0:CC := .seq (.seq (.rg false Zj8) (.cond (.t 14) .skip (.exit 0))) (.seq (.block 1 (.seq (.rg true Zk1) (.cond (.t 25) (.seq (.rg false Ya8) .ret) .skip))) (.rg false Ztx))
def Zvw:List IOp := [oI 4 (.mv (.c (.bool true))) 0]
def Z6p:CC := .seq (.rg false Zvs) (.seq (.seq (.rg false Ztf) (.cond (.t 10) (.seq (.rg false Ydi) .ret) .skip)) (.seq (.seq (.rg false Zs3) (.block 0 (.loop Zu0))) (.seq (.rg false Zvw) .ret)))
abbrev Yir:Nat:=56
theorem Yeu:fnOk Tryz.prog 56=some (26,Z6p,[.tmp 4]):=by kernel_rfl
end GoAbs
namespace GoAbs
open Go Go.Proofs
def Zb (b:Nat) (q:Rat):Prop:=∃ z:Int,q=z∧z.natAbs<2 ^ b
def Zq (q:Rat):Prop:=∃ z:Int,q=z
theorem Zb.q {b:Nat}{q:Rat}(h:Zb b q):Zq q:=⟨h.choose,h.choose_spec.1⟩
theorem Zq.add {a b:Rat}(h:Zq a) (k:Zq b):Zq (a+b):=by
 obtain ⟨x,rfl⟩:=h; obtain ⟨y,rfl⟩:=k
 exact ⟨x+y,by simp⟩
theorem Zq.mul {a b:Rat}(h:Zq a) (k:Zq b):Zq (a*b):=by
 obtain ⟨x,rfl⟩:=h; obtain ⟨y,rfl⟩:=k
 exact ⟨x*y,by simp⟩
theorem Zq.sub {a b:Rat}(h:Zq a) (k:Zq b):Zq (a - b):=by
 obtain ⟨x,rfl⟩:=h; obtain ⟨y,rfl⟩:=k
 exact ⟨x - y,by simp⟩
theorem Zq.sum {R:List Nat}{f:Nat→Rat}(h:∀ i,i∈R→Zq (f i)):Zq (sumL R f):=by
 induction R with
 | nil=>exact ⟨0,rfl⟩
 | cons a R ih=>rw [Zat]; exact (h a List.mem_cons_self).add (ih fun i hi=>h i (List.mem_cons_of_mem _ hi))
theorem Zb.mono {a b:Nat}{q:Rat}(h:Zb a q) (hab:a≤b):Zb b q:=by
 obtain ⟨z,h1,h2⟩:=h
 exact ⟨z,h1,Nat.lt_of_lt_of_le h2 (Nat.pow_le_pow_right (by omega) hab)⟩
theorem Zb.mul {a b:Nat}{p q:Rat}(h:Zb a p) (k:Zb b q):Zb (a+b) (p*q):=by
 obtain ⟨x,rfl,h2⟩:=h; obtain ⟨y,rfl,k2⟩:=k
 exact ⟨x*y,by simp,by rw [Int.natAbs_mul,Nat.pow_add]; exact Nat.mul_lt_mul'' h2 k2⟩
theorem Zb.sub {a:Nat}{p q:Rat}(h:Zb a p) (k:Zb a q):Zb (a+1) (p - q):=by
 obtain ⟨x,rfl,h2⟩:=h; obtain ⟨y,rfl,k2⟩:=k
 exact ⟨x - y,by simp,by rw [Nat.pow_succ]; omega⟩
def fbit:Nat→Nat→Nat
 | 0,_=>1
 | k+1,b=>b+fbit k (2*b+1)
theorem Yxf:∀ {k c b:Nat}{A:Nat→Nat→Rat}{r x:Nat→Rat},(∀ i j,c≤i→i<c+k→c≤j→j<c+k→Zb b (A i j))→(∀ i,c≤i→i<c+k→Zb b (r i)) →
  (∀ i,c≤i→i<c+k→(∀ j,c≤j→j<c+k→j≠i→A i j≤0)∧0<sumL (List.range' c k) (A i))→(∀ i,c≤i→i<c+k→sumL (List.range' c k) (fun j=>x j*A i j)=r i) →
  ∃ D:Rat,0<D∧Zb (fbit k b) D∧∀ j,c≤j→j<c+k→Zq (x j*D)
 | 0,c,b,A,r,x,_,_,_,_=>⟨1,by decide,⟨1,rfl,by unfold fbit; decide⟩,fun j h1 h2=>by omega⟩
 | k+1,c,b,A,r,x,hA,hr,hD,hx=>by
  obtain ⟨a1,a2⟩:=hD c (Nat.le_refl _) (by omega)
  have hxc:=hx c (Nat.le_refl _) (by omega)
  rw [List.range'_succ,Zat] at a2 hxc
  have hp:0<A c c:=by
   have:=Ycr (R:=List.range' (c+1) k) (f:=A c) (fun j hj=>by have hj':=List.mem_range'_1.1 hj; exact a1 j (by omega) (by omega) (by omega))
   grind
  obtain ⟨D,d1,d2,d3⟩:=Yxf (k:=k) (c:=c+1) (b:=2*b+1) (A:=fun i j=>A i j*A c c - A i c*A c j) (r:=fun i=>r i*A c c - A i c*r c) (x:=x)
   (fun i j h1 h2 h3 h4=>by
    have x1:=(hA i j (by omega) (by omega) (by omega) (by omega)).mul (hA c c (by omega) (by omega) (by omega) (by omega))
    have x2:=(hA i c (by omega) (by omega) (by omega) (by omega)).mul (hA c j (by omega) (by omega) (by omega) (by omega))
    exact (x1.sub x2).mono (by omega))
   (fun i h1 h2=>by
    have x1:=(hr i (by omega) (by omega)).mul (hA c c (by omega) (by omega) (by omega) (by omega))
    have x2:=(hA i c (by omega) (by omega) (by omega) (by omega)).mul (hr c (by omega) (by omega))
    exact (x1.sub x2).mono (by omega))
   (fun i h1 h2=>by
    obtain ⟨b1,b2⟩:=hD i (by omega) (by omega)
    have hic:=b1 c (Nat.le_refl _) (by omega) (by omega)
    refine ⟨fun j h3 h4 hji=>?_,?_⟩
    ·have x1:=b1 j (by omega) (by omega) hji
     have x2:=a1 j (by omega) (by omega) (by omega)
     have x3:=Rat.mul_nonneg (show 0 ≤ -A i j by grind) (Rat.le_of_lt hp)
     have x4:=Rat.mul_nonneg (show 0 ≤ -A i c by grind) (show 0 ≤ -A c j by grind)
     grind
    ·rw [List.range'_succ,Zat] at b2
     have e:sumL (List.range' (c+1) k) (fun j=>A i j*A c c - A i c*A c j)=A c c*sumL (List.range' (c+1) k) (A i)+(-(A i c))*sumL (List.range' (c+1) k) (A c):=by
      rw [← Zge, ← Zge, ← Z5a]
      exact Zbc (fun j _=>by grind)
     rw [e]
     have x1:=Rat.mul_pos hp b2
     have x2:=Rat.mul_nonneg (show 0 ≤ -A i c by grind) (Rat.le_of_lt a2)
     generalize sumL (List.range' (c+1) k) (A i)=s at *
     generalize sumL (List.range' (c+1) k) (A c)=t at *
     grind)
   (fun i h1 h2=>by
    have hxi:=hx i (by omega) (by omega)
    rw [List.range'_succ,Zat] at hxi
    have e:sumL (List.range' (c+1) k) (fun j=>x j*(A i j*A c c - A i c*A c j))=A c c*sumL (List.range' (c+1) k) (fun j=>x j*A i j)+(-(A i c))*sumL (List.range' (c+1) k) (fun j=>x j*A c j):=by
     rw [← Zge, ← Zge, ← Z5a]
     exact Zbc (fun j _=>by grind)
    rw [e, ← hxi, ← hxc]
    grind)
  refine ⟨A c c*D,Rat.mul_pos hp d1,?_,fun j h1 h2=>?_⟩
  ·exact (hA c c (by omega) (by omega) (by omega) (by omega)).mul d2
  ·by_cases hj:j=c
   ·subst hj
    have e:x j*(A j j*D)=D*r j - sumL (List.range' (j+1) k) (fun i=>x i*D*A j i):=by
     have e2:sumL (List.range' (j+1) k) (fun i=>x i*D*A j i)=D*sumL (List.range' (j+1) k) (fun i=>x i*A j i):=by
      rw [← Zge]; exact Zbc (fun i _=>by grind)
     rw [e2, ← hxc]; grind
    rw [e]
    refine (d2.q.mul (hr j (by omega) (by omega)).q).sub (Zq.sum fun i hi=>?_)
    have hi':=List.mem_range'_1.1 hi
    exact (d3 i (by omega) (by omega)).mul (hA j i (by omega) (by omega) (by omega) (by omega)).q
   ·have h3:=(d3 j (by omega) (by omega)).mul (hA c c (by omega) (by omega) (by omega) (by omega)).q
    rw [show x j*(A c c*D)=x j*D*A c c by grind]
    exact h3
end GoAbs
namespace GoAbs
open Go Go.Proofs
def Lt9 (q:Rat):Prop:=q.den≤9∧q.num.natAbs<10000
structure GmL (g:Gm):Prop where
 rew:∀ q,q∈g.rew→Lt9 q
 d:Lt9 g.d
 odds:∀ x,x∈g.nodes→x.kind=3→∀ q,q∈x.odds→Lt9 q
 n:g.nodes.length≤5
theorem Y8e {n:Nat}(h:n≤9) (h0:0<n):n∣2520:=by
 have:∀ m,m<10→0<m→m∣2520:=by decide
 exact this n (by omega) h0
theorem Ybu (q:Rat):q*q.den=q.num:=by
 have h0:(q.den:Rat)≠0:=by
  intro h
  have h1:q.den=0:=by exact_mod_cast h
  exact q.den_nz h1
 have h:=Rat.num_divInt_den q
 rw [Rat.divInt_eq_div] at h
 have e:((q.den:Int):Rat)=(q.den:Rat):=by norm_cast
 rw [e] at h
 generalize (q.den:Rat)=b at *
 generalize (q.num:Rat)=a at *
 grind
theorem Lt9.z {q:Rat}(h:Lt9 q):Zb 26 (q*2520):=by
 obtain ⟨k,hk⟩:=Y8e h.1 q.den_pos
 have e:(2520:Rat)=q.den*k:=by exact_mod_cast hk
 refine ⟨q.num*k,?_,?_⟩
 ·rw [e, ← Rat.mul_assoc,Ybu]; norm_cast
 ·rw [Int.natAbs_mul,Int.natAbs_natCast]
  have h1:k≤2520:=by
   have:=q.den_pos
   have:1*k≤q.den*k:=Nat.mul_le_mul_right _ (by omega)
   omega
  have:=Nat.mul_le_mul (show q.num.natAbs≤9999 by have:=h.2; omega) h1
  omega
theorem Zb.add {a:Nat}{p q:Rat}(h:Zb a p) (k:Zb a q):Zb (a+1) (p+q):=by
 obtain ⟨x,rfl,h2⟩:=h; obtain ⟨y,rfl,k2⟩:=k
 exact ⟨x+y,by simp,by rw [Nat.pow_succ]; omega⟩
abbrev N2:Rat:=2520*2520
def Ze (c:Nat) (M:RM):Prop:=∀ i j,Zb c (mget M i j*N2)
theorem Ze.add {n c:Nat}{M:RM}(h:Ze c M) (hW:Wid n M) {i j:Nat}{x:Rat}(hi:i<M.length) (hj:j<n) (hx:Zb c (x*N2)):Ze (c+1) (addAt M i j x):=fun a b=>by
 rw [Z52 hW hi hj]
 split
 ·rw [Rat.add_mul]; exact (h a b).add hx
 ·rw [Rat.add_zero]; exact (h a b).mono (by omega)
theorem Lt9.neg {q:Rat}(h:Lt9 q):Zb 38 (-q*N2):=by
 obtain ⟨z,h1,h2⟩:=h.z
 refine ⟨-z*2520,?_,?_⟩
 ·rw [show -q*N2 = -(q*2520)*2520 by grind,h1]; simp
 ·rw [Int.natAbs_mul,Int.natAbs_neg,show ((2520:Int)).natAbs=2520 from rfl]
  have:=Nat.mul_lt_mul_of_pos_right h2 (show 0<2520 by decide)
  omega
theorem Lt9.neg2 {p q:Rat}(h:Lt9 p) (k:Lt9 q):Zb 52 (-(p*q)*N2):=by
 obtain ⟨z,h1,h2⟩:=h.z
 obtain ⟨y,k1,k2⟩:=k.z
 refine ⟨-(z*y),?_,?_⟩
 ·rw [show -(p*q)*N2 = -((p*2520)*(q*2520)) by grind,h1,k1]; simp
 ·rw [Int.natAbs_neg,Int.natAbs_mul,show 52=26+26 from rfl,Nat.pow_add]
  exact Nat.mul_lt_mul'' h2 k2
theorem Ygr {n i c:Nat}{d:Rat}{odds:List Rat}{to:List Nat}(hd:Lt9 d) (hi:i<n) (ho:∀ t,t<to.length→Lt9 (rget odds t)) (hto:∀ x,x∈to→x<n) (hc:52≤c):∀ {k:Nat}{M:RM},k≤to.length→M.length=n→Wid n M→Ze c M →
  (addOdds d i odds to k M).length=n∧Wid n (addOdds d i odds to k M)∧Ze (c+k) (addOdds d i odds to k M)
 | 0,M,_,hl,hw,h=>⟨hl,hw,h⟩
 | k+1,M,hk,hl,hw,h=>by
  obtain ⟨h1,h2,h3⟩:=Ygr (odds:=odds) (to:=to) hd hi ho hto hc (k:=k) (M:=M) (by omega) hl hw h
  unfold addOdds
  exact ⟨by rw [Zd2,h1],h2.addAt,h3.add h2 (by rw [h1]; exact hi) (hto _ (Zcw (by omega))) ((hd.neg2 (ho k (by omega))).mono (by omega))⟩
theorem Ysp {g:Gm}(hg:GmP g) (hl:GmL g) {p:List Int}(hp:POk g p):∀ {k:Nat},k≤g.nodes.length→(planM g p k).length=g.nodes.length∧Wid g.nodes.length (planM g p k)∧Ze (52+7*k) (planM g p k)
 | 0,_=>by
  unfold planM
  refine ⟨List.length_replicate,fun r hr=>by rw [(List.mem_replicate.1 hr).2,List.length_replicate],fun i j=>?_⟩
  have h0:mget (List.replicate g.nodes.length (List.replicate g.nodes.length (0:Rat))) i j=0:=by
   unfold mget rget
   rw [List.getD_eq_getElem?_getD,List.getD_eq_getElem?_getD,List.getElem?_replicate]
   split
   ·rw [Option.getD_some,List.getElem?_replicate]; split <;> rfl
   ·simp
  rw [h0]
  exact ⟨0,by rw [Rat.zero_mul]; rfl,by decide⟩
 | k+1,hk=>by
  obtain ⟨h1,h2,h3⟩:=Ysp hg hl hp (k:=k) (by omega)
  have hkn:k<g.nodes.length:=by omega
  have hx:=Zbf hkn
  have hok:=hg.ok.node _ hx
  have hlt:=hp.lt hkn
  have hod:=hl.odds _ hx
  unfold planM nodeM
  generalize nodeAt g k=x at *
  have a1:=h3.add (i:=k) (j:=k) (x:=1) h2 (by rw [h1]; exact hkn) hkn (Zb.mono (a:=23) ⟨6350400,by decide+kernel,by decide⟩ (by omega))
  have a2:(addAt (planM g p k) k k 1).length=g.nodes.length:=by rw [Zd2,h1]
  have a3:Wid g.nodes.length (addAt (planM g p k) k k 1):=h2.addAt
  split
  ·rename_i h3
   have ho:=(hok.odds h3).1
   obtain ⟨b1,b2,b3⟩:=Ygr (odds:=x.odds) (to:=x.to) hl.d hkn (fun t ht=>hod h3 _ (List.mem_of_getElem? (Zai (by omega)))) hok.lt (by omega) (Nat.le_refl _) a2 a3 a1
   refine ⟨b1,b2,fun i j=>(b3 i j).mono ?_⟩
   have:=hok.len
   omega
  ·rename_i h3
   refine ⟨by rw [Zd2,a2],a3.addAt,fun i j=>((a1.add a3 (by rw [a2]; exact hkn) (hok.lt _ (Zcw (hlt h3))) (hl.d.neg.mono (by omega))) i j).mono (by omega)⟩
theorem Y8s {q D:Rat}{b c:Nat}(h0:0<D) (hD:Zb b D) (hz:Zq (q*D)) (h1:q≤2 ^ c) (h2 : -(2 ^ c)≤q):Qb (b+c+1) q:=by
 obtain ⟨e,rfl,he⟩:=hD
 obtain ⟨z,hz⟩:=hz
 have e0:0<e:=by exact_mod_cast h0
 have hq:q=Rat.divInt z e:=by
  rw [Rat.divInt_eq_div]
  have:(e:Rat)≠0:=by grind
  rw [← hz]; grind
 obtain ⟨n1,n2⟩:=Zd5 (n:=z) (d:=e) (by omega)
 rw [← hq] at n1 n2
 have hzz:z.natAbs≤2 ^ c*e.natAbs:=by
  have x1:=Rat.mul_le_mul_of_nonneg_right h1 (Rat.le_of_lt h0)
  have x2:=Rat.mul_le_mul_of_nonneg_right h2 (Rat.le_of_lt h0)
  rw [hz] at x1 x2
  have e1:(2:Rat) ^ c*(e:Rat)=(((2 ^ c:Nat)*e:Int):Rat):=by simp
  have e2 : -((2:Rat) ^ c)*(e:Rat)=((-((2 ^ c:Nat)*e):Int):Rat):=by simp [Rat.neg_mul]
  rw [e1] at x1
  rw [e2] at x2
  have y1:=Rat.intCast_le_intCast.1 x1
  have y2:=Rat.intCast_le_intCast.1 x2
  have e3:((2 ^ c*e.natAbs:Nat):Int)=((2 ^ c:Nat):Int)*e:=by rw [Int.natCast_mul]; congr 1; omega
  generalize ((2 ^ c:Nat):Int)*e=w at *
  omega
 have hm:2 ^ c*e.natAbs<2 ^ c*2 ^ b:=Nat.mul_lt_mul_of_pos_left he (Nat.two_pow_pos _)
 have hp:2 ^ c*2 ^ b=2 ^ (c+b):=(Nat.pow_add ..).symm
 have hc:=Nat.two_pow_pos c
 refine ⟨?_,?_⟩
 ·rw [show b+c+1=c+b+1 by omega,Nat.pow_succ]; omega
 ·have:2 ^ b≤2 ^ (b+c+1):=Nat.pow_le_pow_right (by omega) (by omega)
  omega
theorem frac9 {d:Rat}(h:Lt9 d) (d1:d<1):d*9≤8:=by
 have h0:=d.den_pos
 have h1:=Ybu d
 have hd:(0:Rat)<d.den:=by exact_mod_cast h0
 have h2:d*d.den<d.den:=by
  have:=Rat.mul_pos (show 0<1 - d by grind) hd
  grind
 rw [h1] at h2
 have h3:d.num<d.den:=by exact_mod_cast h2
 have h4:d.num*9≤8*d.den:=by have:=h.1; omega
 have h5:(d.num:Rat)*9≤8*(d.den:Rat):=by exact_mod_cast h4
 rw [← h1] at h5
 rcases (Rat.le_total:d*9≤8∨8≤d*9) with h6 | h6
 ·exact h6
 ·by_cases he:d*9=8
  ·rw [he]; grind
  ·have:=Rat.mul_pos (show 0<d*9 - 8 by grind) hd
   grind
theorem Lt9.abs {q:Rat}(h:Lt9 q):q≤10000 ∧ -10000≤q:=by
 have h0:=q.den_pos
 have h1:=Ybu q
 have hd:(1:Rat)≤q.den:=by exact_mod_cast h0
 have n1:(q.num:Rat)≤((10000:Int):Rat):=by have:=h.2; exact Rat.intCast_le_intCast.2 (show q.num≤10000 by omega)
 have n2:((-10000:Int):Rat)≤(q.num:Rat):=by have:=h.2; exact Rat.intCast_le_intCast.2 (show -10000≤q.num by omega)
 rw [show ((10000:Int):Rat)=10000 from rfl] at n1
 rw [show ((-10000:Int):Rat) = -10000 from rfl] at n2
 rw [← h1] at n1 n2
 constructor
 ·rcases (Rat.le_total:q≤10000∨10000≤q) with h6 | h6
  ·exact h6
  ·have:=Rat.mul_nonneg (show 0≤q by grind) (show 0≤(q.den:Rat) - 1 by grind)
   grind
 ·rcases (Rat.le_total : -10000≤q∨q ≤ -10000) with h6 | h6
  ·exact h6
  ·have:=Rat.mul_nonneg (show 0 ≤ -q by grind) (show 0≤(q.den:Rat) - 1 by grind)
   grind
theorem Ygl {odds:List Rat}{to:List Nat}{n:Nat}{c:Rat}:∀ {k:Nat},k≤to.length→(∀ x,x∈to→x<n)→dotW odds (List.replicate n c) to k=c*sumO odds k
 | 0,_,_=>by simp only [dotW,sumO]; grind
 | k+1,hk,h=>by
  simp only [dotW,sumO]
  rw [Ygl (by omega) h,Zhi (h _ (Zcw (by omega)))]
  grind
theorem Z8b {g:Gm}(hg:GmP g) {p:List Int}(hp:POk g p) {i:Nat}(hi:i<g.nodes.length) {c:Rat}:worthP (nodeAt g i) (pget p i) (List.replicate g.nodes.length c)=c:=by
 have hx:=Zbf hi
 have hok:=hg.ok.node _ hx
 have hlt:=hp.lt hi
 have hod:=hg.odds _ hx
 unfold worthP
 split
 ·rename_i h3
  rw [Ygl (Nat.le_refl _) hok.lt,(hod h3).2]; grind
 ·rename_i h3
  exact Zhi (hok.lt _ (Zcw (hlt h3)))
theorem Ytr {g:Gm}(hg:GmP g) (hl:GmL g) {p:List Int}(hp:POk g p) {v:List Rat}(hv:PVal g p v) {i:Nat}(hi:i<g.nodes.length):rget v i≤100000 ∧ -100000≤rget v i:=by
 have hs:=Yal hg hp
 have h9:=frac9 hl.d hg.d1
 have d0:=hg.d0
 have hr:=fun j (hj:j<g.nodes.length)=>(hl.rew _ (List.mem_of_getElem? (Zai (r:=g.rew) (j:=j) (by rw [hg.ok.rew]; exact hj)))).abs
 constructor
 ·have:=hs.le hg.d1 (u:=v) (v:=List.replicate g.nodes.length 100000) (fun j hj=>by rw [← hv.2 j hj]; grind) (fun j hj=>by
   rw [Zhi hj]; unfold planV; rw [Z8b hg hp hj]; have:=hr j hj; grind) i hi
  rwa [Zhi hi] at this
 ·have:=hs.le hg.d1 (u:=List.replicate g.nodes.length (-100000)) (v:=v) (fun j hj=>by
   rw [Zhi hj]; unfold planV; rw [Z8b hg hp hj]; have:=hr j hj; grind) (fun j hj=>by rw [← hv.2 j hj]; grind) i hi
  rwa [Zhi hi] at this
theorem Yav {g:Gm}(hg:GmP g) (hl:GmL g) {p:List Int}(hp:POk g p):Rb 4000 (valP g p):=fun q hq=>by
 obtain ⟨i,hi,rfl⟩:∃ i,i<g.nodes.length∧q=rget (valP g p) i:=by
  obtain ⟨i,hi⟩:=List.getElem?_of_mem hq
  have hlt:=(List.getElem?_eq_some_iff.1 hi).1
  have:=Zai hlt
  rw [hi] at this
  exact ⟨i,by rw [(Zln hg hp).1] at hlt; exact hlt,by simpa using this⟩
 obtain ⟨h1,h2⟩:=Z98 hg hp (Nat.le_refl g.nodes.length)
 obtain ⟨_,_,_,h3,h4⟩:=Yce h1.len h1.wid hg.ok.rew (Z95 hg hp)
 have hD:=Z95 hg hp
 obtain ⟨_,_,hz⟩:=Ysp hg hl hp (Nat.le_refl g.nodes.length)
 have hn:=hl.n
 have hpos:(0:Rat)<N2:=by decide+kernel
 obtain ⟨D,d1,d2,d3⟩:=Yxf (k:=g.nodes.length) (c:=0) (b:=90) (A:=fun i j=>mget (planM g p g.nodes.length) i j*N2) (r:=fun i=>rget g.rew i*N2) (x:=rget (valP g p))
  (fun i j _ _ _ _=>(hz i j).mono (by omega))
  (fun i _ hi=>by
   have:=(hl.rew _ (List.mem_of_getElem? (Zai (r:=g.rew) (j:=i) (by rw [hg.ok.rew]; omega)))).z
   have h2:Zb 12 2520:=⟨2520,rfl,by decide⟩
   have h3:=this.mul h2
   rw [show rget g.rew i*N2=rget g.rew i*2520*2520 by grind]
   exact h3.mono (by omega))
  (fun i h0 hi=>by
   obtain ⟨a,b⟩:=hD i h0 (by omega)
   refine ⟨fun j hj hjn hji=>?_,?_⟩
   ·have:=Rat.mul_nonneg (show 0 ≤ -mget (planM g p g.nodes.length) i j by have:=a j hj (by omega) hji; grind) (Rat.le_of_lt hpos)
    grind
   ·rw [Zbc (g:=fun j=>N2*mget (planM g p g.nodes.length) i j) (fun j _=>by grind),Zge]
    refine Rat.mul_pos hpos ?_
    rw [List.range'_eq_map_range,Z91] at b ⊢
    rw [Zbc (g:=fun j=>mget (planM g p g.nodes.length) i (0+j)) (fun j _=>by rw [show 0+1+j - 1=0+j by omega])] at b
    exact b)
  (fun i _ hi=>by
   have:=h4 i (by omega)
   rw [Zbc (g:=fun j=>N2*(rget (valP g p) j*mget (planM g p g.nodes.length) i j)) (fun j _=>by grind),Zge,List.range'_eq_map_range,Z91]
   rw [Zbc (g:=fun j=>rget (solvR g.nodes.length (planM g p g.nodes.length) g.rew) j*mget (planM g p g.nodes.length) i j) (fun j _=>by rw [show 0+j=j by omega]; rfl),this]
   grind)
 have ha:=Ytr hg hl hp (Zln hg hp) hi
 have hb:fbit g.nodes.length 90≤3000:=by
  have:∀ n,n≤5→fbit n 90≤3000:=fun n hn=>by
   have:n=0∨n=1∨n=2∨n=3∨n=4∨n=5:=by omega
   rcases this with rfl | rfl | rfl | rfl | rfl | rfl <;> decide
  exact this _ hn
 have e17:(2:Rat) ^ 17=131072:=by decide+kernel
 exact (Y8s (c:=17) d1 d2 (d3 i (by omega) (by omega)) (by rw [e17]; grind) (by rw [e17]; grind)).mono (by omega)
end GoAbs
namespace GoAbs
open Go Go.Proofs
set_option maxHeartbeats 4000000
end GoAbs
namespace GoAbs
open Go Go.Proofs
def Z3h:List IOp := [oI 4 (.mv (cI 0)) 0]
def Z4q:List IOp := [mI 5 0 0,mI 6 1 0,oI 7 (.bin .rem (.t 5) (.t 6)) 0,mI 8 1 0,oI 9 (.bin .add (.t 7) (.t 8)) 0,mI 10 1 0,oI 11 (.bin .rem (.t 9) (.t 10)) 0,mI 4 11 0]
def Yfe:CC := .seq (.rg false Z3h) (.seq (.rg false Z4q) .ret)
abbrev Yog:Nat:=29
theorem Ym7:fnOk Tryz.prog 29=some (12,Yfe,[.tmp 4]):=by kernel_rfl
def Zuy:List IOp := [oI 4 (.mv (cI 0)) 0]
def Zvg:List IOp := [mI 5 1 0,mI 6 0 0,oI 7 (.len (.t 6)) 0,oI 8 (.bin .lss (.t 5) (.t 7)) 0]
def Z85:List IOp := [mI 9 0 0,mI 10 1 0,xI 11 1 9 10 0,lI 12 11 0,mI 4 12 0]
def Z89:List IOp := [oI 4 (.mv (cI 0)) 0]
def Yk2:CC := .seq (.rg false Zuy) (.seq (.seq (.rg false Zvg) (.cond (.t 8) (.seq (.rg false Z85) .ret) .skip)) (.seq (.rg false Z89) .ret))
abbrev Yum:Nat:=47
theorem Yn4:fnOk Tryz.prog 47=some (13,Yk2,[.tmp 4]):=by kernel_rfl
def Zya:List IOp := [oI 4 (.mv (.c .nils)) 0,oI 5 (.mv (.c (.bool false))) 0]
def Zxw:List IOp := [mI 9 0 0,mI 10 1 0,oI 11 (.call 43 [.t 9,.t 10]) 0,mI 8 11 0,eI 12 0 8 0,eI 13 1 8 0,mI 6 12 0,mI 7 13 0]
def Zyt:List IOp := [mI 14 7 0,oI 15 (.bin .neq (.t 14) (cI 0)) 0,mI 16 15 0,gI 17 (.mv (.t 6)) 0 16 false,gI 18 (.len (.t 17)) 0 16 false,gI 19 (.mv (.t 0)) 0 16 false,gI 20 (.len (.t 19)) 0 16 false,gI 21 (.bin .neq (.t 18) (.t 20)) 0 16 false,oI 22 (.pick (.t 16) (.c (.bool true)) (.t 21)) 0,mI 23 22 0,gI 24 (.mv (.t 6)) 0 23 false,gI 25 (.call 24 [.t 24]) 0 23 false,gI 26 (.bin .neq (.t 25) (cI 0)) 0 23 false,oI 27 (.pick (.t 23) (.c (.bool true)) (.t 26)) 0]
def Yeq:List IOp := [oI 4 (.mv (.c .nils)) 0,oI 5 (.mv (.c (.bool false))) 0]
def Zy7:List IOp := [mI 28 6 0,oI 29 (.call 27 [.t 28]) 0,mI 4 29 0,oI 5 (.mv (.c (.bool true))) 0]
def Yb3:CC := .seq (.rg false Zya) (.seq (.rg false Zxw) (.seq (.seq (.rg false Zyt) (.cond (.t 27) (.seq (.rg false Yeq) .ret) .skip)) (.seq (.rg false Zy7) .ret)))
abbrev Yl4:Nat:=23
theorem Yhl:fnOk Tryz.prog 23=some (30,Yb3,[.tmp 4,.tmp 5]):=by kernel_rfl
def Zlo:List IOp := [oI 2 (.box (.t 0)) 0,oI 4 (.mv (.c (.bool false))) 1]
def Zll:List IOp := [lJ 21 5 2 0,oI 22 (.call 22 [.t 21]) 0,mI 20 22 0,eI 23 0 20 0,eI 24 1 20 0,mI 5 23 0,mI 6 24 0]
def Zlw:List IOp := [mI 26 5 0,mI 27 6 0,oI 28 (.call 23 [.t 26,.t 27]) 0,mI 25 28 0,eI 29 0 25 0,eI 30 1 25 0,mI 7 29 0,mI 8 30 0]
def Zlm:List IOp := [mI 32 5 0,mI 33 6 0,oI 34 (.call 44 [.t 32,.t 33]) 0,mI 31 34 0,eI 35 0 31 0,eI 36 1 31 0,mI 9 35 0,mI 10 36 0]
def Zle:List IOp := [mI 38 5 0,mI 39 6 0,mI 40 9 0,oI 41 (.call 38 [.t 38,.t 39,.t 40]) 0,mI 37 41 0,eI 42 0 37 0,eI 43 1 37 0,mI 11 42 0,mI 12 43 0]
def Zlr:List IOp := [mI 44 8 0,oI 45 (.un .not (.t 44)) 0,mI 46 45 0,gI 47 (.mv (.t 10)) 0 46 false,gI 48 (.bin .neq (.t 47) (cI 0)) 0 46 false,oI 49 (.pick (.t 46) (.c (.bool true)) (.t 48)) 0,mI 50 49 0,gI 51 (.mv (.t 12)) 0 50 false,gI 52 (.bin .neq (.t 51) (cI 0)) 0 50 false,oI 53 (.pick (.t 50) (.c (.bool true)) (.t 52)) 0,mI 54 53 0,gI 55 (.mv (.t 5)) 0 54 false,gI 56 (.mv (.t 9)) 0 54 false,gI 57 (.call 39 [.t 55,.t 56]) 0 54 false,gI 58 (.un .not (.t 57)) 0 54 false,oI 59 (.pick (.t 54) (.c (.bool true)) (.t 58)) 0,mI 60 59 0,gI 61 (.mv (.t 11)) 0 60 false,gI 62 (.mv (.t 7)) 0 60 false,gI 63 (.call 19 [.t 61,.t 62]) 0 60 false,gI 64 (.un .not (.t 63)) 0 60 false,oI 65 (.pick (.t 60) (.c (.bool true)) (.t 64)) 0,mI 66 65 0,gI 67 (.call 17 []) 0 66 false,gI 68 (.un .not (.t 67)) 0 66 false,oI 69 (.pick (.t 66) (.c (.bool true)) (.t 68)) 0]
def Z3i:List IOp := [oI 4 (.mv (.c (.bool false))) 0]
def Zla:List IOp := [oI 13 (.mv (cI 1)) 0]
def Zf1:List IOp := [mI 70 13 0,oI 71 (.bin .leq (.t 70) (cI 2)) 0]
def Zkd:List IOp := [oI 74 (.bsl none 0 [.int .i64 0] []) 0,mI 75 9 1,oI 76 (.app none 8 (.t 74) (.t 75)) 1,mI 14 76 2]
def Zjq:List IOp := [oI 15 (.mv (cI 0)) 0]
def Zb9:List IOp := [mI 77 15 0,mI 78 5 0,oI 79 (.len (.t 78)) 0,oI 80 (.bin .lss (.t 77) (.t 79)) 0]
def Zey:List IOp := [mI 83 5 0,mI 84 15 0,xI 85 3 83 84 0,fI 86 0 85 0,lI 87 86 0,mI 88 13 0,oI 89 (.bin .eql (.t 87) (.t 88)) 0]
def Zez:List IOp := [mI 90 14 0,mI 91 15 0,mI 92 1 0,mI 93 15 0,oI 94 (.call 47 [.t 92,.t 93]) 0,mI 95 5 0,mI 96 15 0,xI 97 3 95 96 0,fI 98 2 97 0,lI 99 98 0,oI 100 (.len (.t 99)) 0,oI 101 (.call 29 [.t 94,.t 100]) 0,xI 102 1 90 91 0,⟨none,.st 1 (.t 102) (.t 101),0,[],[],none⟩]
@[go_sem ↓] theorem Zvj : autoK Zez = (0, 1) := by kernel_rfl
@[go_sem] theorem Yjw : autoK [mI 90 14 0, mI 91 15 0, mI 92 1 0, mI 93 15 0, oI 94 (.call 47 [.t 92, .t 93]) 0, mI 95 5 0, mI 96 15 0, xI 97 3 95 96 0, fI 98 2 97 0, lI 99 98 0, oI 100 (.len (.t 99)) 0, oI 101 (.call 29 [.t 94, .t 100]) 0, xI 102 1 90 91 0, ⟨none, .st 1 (.t 102) (.t 101), 0, [], [], none⟩] = (0, 1) := Zvj
def Zex:List IOp := [mI 81 15 0,oI 82 (.bin .add (.t 81) (cI 1)) 0,mI 15 82 0]
def Zfv:CC := .seq (.seq (.rg false Zb9) (.cond (.t 80) .skip (.exit 2))) (.seq (.block 3 (.seq (.rg false Zey) (.cond (.t 89) (.rg true Zez) .skip))) (.rg false Zex))
def Zj7:List IOp := [mI 104 5 0,mI 105 6 0,mI 106 14 0,oI 107 (.call 38 [.t 104,.t 105,.t 106]) 0,mI 103 107 0,eI 108 0 103 0,eI 109 1 103 0,mI 16 108 0,mI 17 109 0]
def Zkr:List IOp := [mI 110 17 0,oI 111 (.bin .neq (.t 110) (cI 0)) 0,mI 112 111 0,gI 113 (.mv (.t 16)) 0 112 false,gI 114 (.len (.t 113)) 0 112 false,gI 115 (.mv (.t 5)) 0 112 false,gI 116 (.len (.t 115)) 0 112 false,gI 117 (.bin .neq (.t 114) (.t 116)) 0 112 false,oI 118 (.pick (.t 112) (.c (.bool true)) (.t 117)) 0,mI 119 118 0,gI 120 (.mv (.t 16)) 0 119 false,gI 121 (.call 24 [.t 120]) 0 119 false,gI 122 (.bin .neq (.t 121) (cI 0)) 0 119 false,oI 123 (.pick (.t 119) (.c (.bool true)) (.t 122)) 0]
def Z0n:List IOp := [oI 4 (.mv (.c (.bool false))) 0]
def Zkp:List IOp := [oI 18 (.mv (cI 0)) 0]
def Zcd:List IOp := [mI 124 18 0,mI 125 5 0,oI 126 (.len (.t 125)) 0,oI 127 (.bin .lss (.t 124) (.t 126)) 0]
def Zcb:List IOp := [mI 130 16 0,mI 131 18 0,xI 132 1 130 131 0,lI 133 132 0,oI 134 (.call 21 [.t 133]) 0,mI 135 7 0,mI 136 18 0,xI 137 4 135 136 0,lJ 138 4 137 0,oI 139 (.callw 25 [.t 134,.t 138]) 0,mI 19 139 0]
@[go_sem ↓] theorem Zux : autoK Zcb = (0, 0) := by kernel_rfl
@[go_sem] theorem Yjx : autoK [mI 130 16 0, mI 131 18 0, xI 132 1 130 131 0, lI 133 132 0, oI 134 (.call 21 [.t 133]) 0, mI 135 7 0, mI 136 18 0, xI 137 4 135 136 0, lJ 138 4 137 0, oI 139 (.callw 25 [.t 134, .t 138]) 0, mI 19 139 0] = (0, 0) := Zux
def Zeu:List IOp := [mI 140 13 0,oI 141 (.bin .eql (.t 140) (cI 1)) 0,mI 142 141 0,gI 143 (.mv (.t 19)) 0 142 true,gI 144 (.bin .gtr (.t 143) (cI 0)) 0 142 true,oI 145 (.pick (.t 142) (.t 144) (.c (.bool false))) 0,mI 146 145 0,gI 147 (.mv (.t 13)) 0 146 false,gI 148 (.bin .eql (.t 147) (cI 2)) 0 146 false,gI 149 (.mv (.t 148)) 0 146 false,gI 150 (.mv (.t 19)) 0 149 true,gI 151 (.bin .lss (.t 150) (cI 0)) 0 149 true,gI 152 (.pick (.t 149) (.t 151) (.c (.bool false))) 0 146 false,oI 153 (.pick (.t 146) (.c (.bool true)) (.t 152)) 0]
def Z1h:List IOp := [oI 4 (.mv (.c (.bool false))) 0]
def Zei:List IOp := [mI 128 18 0,oI 129 (.bin .add (.t 128) (cI 1)) 0,mI 18 129 0]
def Zgc:CC := .seq (.seq (.rg false Zcd) (.cond (.t 127) .skip (.exit 4))) (.seq (.block 5 (.seq (.rg true Zcb) (.seq (.rg false Zeu) (.cond (.t 153) (.seq (.rg false Z1h) .ret) .skip)))) (.rg false Zei))
def Zew:List IOp := [mI 72 13 0,oI 73 (.bin .add (.t 72) (cI 1)) 0,mI 13 73 0]
def Zf6:CC := .seq (.seq (.rg false Zf1) (.cond (.t 71) .skip (.exit 0))) (.seq (.block 1 (.seq (.rg false Zkd) (.seq (.seq (.rg false Zjq) (.block 2 (.loop Zfv))) (.seq (.rg false Zj7) (.seq (.seq (.rg false Zkr) (.cond (.t 123) (.seq (.rg false Z0n) .ret) .skip)) (.seq (.rg false Zkp) (.block 4 (.loop Zgc)))))))) (.rg false Zew))
def Zkc:List IOp := [oI 4 (.mv (.c (.bool true))) 0]
def Zsq:CC := .seq (.rg false Zlo) (.seq (.rg false Zll) (.seq (.rg false Zlw) (.seq (.rg false Zlm) (.seq (.rg false Zle) (.seq (.seq (.rg false Zlr) (.cond (.t 69) (.seq (.rg false Z3i) .ret) .skip)) (.seq (.seq (.rg false Zla) (.block 0 (.loop Zf6))) (.seq (.rg false Zkc) .ret)))))))
abbrev Z9y:Nat:=12
theorem Z5p:fnOk Tryz.prog 12=some (154,Zsq,[.tmp 4]):=by kernel_rfl
def Zx8:List IOp := [oI 1 (.box (.t 0)) 0,oI 2 (.mv (.c .nils)) 1,oI 3 (.mv (.c (.str ⟨#[]⟩))) 1]
def Zxa:List IOp := [fI 4 0 1 0,lI 5 4 0,fI 6 2 1 0,lI 7 6 0,fI 8 3 1 0,lI 9 8 0,fI 10 4 1 0,lI 11 10 0,fI 12 1 1 0,lI 13 12 0,oI 14 (.call 60 [.t 5,.t 7,.t 9,.t 11,.t 13]) 0,eI 15 0 14 0,eI 16 1 14 0,mI 2 15 0,mI 3 16 0]
def Ydu:CC := .seq (.rg false Zx8) (.seq (.rg false Zxa) .ret)
abbrev Ymd:Nat:=22
theorem Yib:fnOk Tryz.prog 22=some (17,Ydu,[.tmp 2,.tmp 3]):=by kernel_rfl
end GoAbs
namespace GoAbs
open Go Go.Proofs
set_option maxHeartbeats 4000000
def strsL (l:List (List UInt8)):List AV:=l.map fun s => .str (bs s)
theorem rsame {l:List (List UInt8)}(hl:l.length≤1000000):SpecV Tryz.prog Yir [.sl (strsL l),.sl (strsL l)] (.bool true):=by
 have hmx:Tryz.prog.follows .mixedOrders=true:=by kernel_rfl
 have hsl:(strsL l).length=l.length:=by simp [strsL]
 refine Za4 Yeu (by simp) (Zbd 1 rfl ?_)
 unfold Z6p
 simp only [go_sem,Zvs,Ztf,hsl]
 refine Za8 (Za8 (T_W ?_))
 simp only [go_sem,Zs3]
 refine Za3 (Zaf (fun i:Nat=>⟨envL [(0,.sl (strsL l)),(1,.sl (strsL l)),(5,.int .i64 (i:Int))],[]⟩)
  (fun i=>i≤l.length) (fun i=>l.length - i) 0 (by omega) (Zab _ (by simp only [go_sem]; simp)) (fun i hi N hN=>?_))
 unfold Zu0
 by_cases hin:i<l.length
 ·obtain ⟨s,hs⟩:∃ s,l[i]? = some s:=⟨_,List.getElem?_eq_getElem hin⟩
  have hget:(strsL l)[i]? = some (.str (bs s)):=by simp [strsL,hs]
  have q0:(0:Int)≤(i:Int):=by omega
  have q1:(i:Int)<(l.length:Int):=by omega
  have e1:IntKind.i64.wrap ((i:Int)+1)=((i+1:Nat):Int):=by rw [Zac (by omega) (by omega)]; omega
  simp only [go_sem,Zj8,Zk1,Ztx,q0,q1,hsl,hget,hmx,e1]
  exact hN (i+1) _ (by omega) (by omega) (Zab _ (by simp only [go_sem]))
 ·have hie:i=l.length:=by omega
  subst hie
  have q1:¬ ((l.length:Nat):Int)<(l.length:Int):=by omega
  simp only [go_sem,Zj8,hsl,q1]
  refine T_W ?_
  simp only [go_sem,Zvw]
def L1:List Nd := [⟨1,[49],[(0,[])]⟩]
def d12:List UInt8 := [49,47,50]
theorem Yit:GIn L1 d12:=by
 refine ⟨.inl (by decide),by decide,fun n hn=>?_⟩
 simp [L1] at hn
 subst hn
 refine ⟨by decide,by decide,fun m hm=>?_⟩
 simp at hm
 subst hm
 decide
theorem Yod:eC L1 d12=0:=by decide+kernel
theorem Ynw:toGm L1 d12=⟨[⟨1,[0],[]⟩],[1],1/2⟩:=by
 unfold toGm L1 d12 toGN oddsQ
 have h1:parseL [49]=some 1:=by decide+kernel
 have h2:parseL [49,47,50]=some (1/2):=by decide+kernel
 simp [h1,h2,hasO]
theorem Y8a:valG (toGm L1 d12) = [2]:=by
 rcases Zwv Yit with ⟨h,_⟩ | ⟨_,_,hg,_⟩
 ·exact absurd Yod h
 ·symm
  refine Yk3 hg (by rw [Ynw]; rfl) (fun i hi=>?_)
  rw [Ynw] at hi ⊢
  have:i=0:=by simpa using hi
  subst this
  decide+kernel
theorem Xby:rndR (toGm L1 d12) 3 = [7/4]:=by rw [Ynw]; decide+kernel
theorem Y7k {H:Heap}{ids:List Nat}{b:Nat}{k:Int}{s:ByteArray}{X:AV}{M:List AV}(hb:H[b]? = some (.cells [.int .i64 k,.str s,X])) (hi:b∈ids) (hX:BV H ids X (.sl M)):BV H ids (.osl (some 3) b 0 1) (.sl [.agg [.int .i64 k,.str s,.sl M]]):=by
 refine .osl (some 3) b 0 1 _ _ hb hi rfl (fun x hx=>by simp at hx; subst hx; rfl) (by simp [es]) (fun i x j y z hx hy hz=>?_)
 have hi0:i=0:=by
  have:=(List.getElem?_eq_some_iff.1 hx).1
  simp at this; exact this
 subst hi0
 simp at hx
 subst hx
 rw [show 0+(0*es (some 3)+j)=j by simp] at hz
 match j with
 | 0=>simp [AV.cells] at hy hz; subst hy hz; exact .int _ _
 | 1=>simp [AV.cells] at hy hz; subst hy hz; exact .str _
 | 2=>simp [AV.cells] at hy hz; subst hy hz; exact hX
 | j+3=>simp [AV.cells] at hy
theorem Y7w {H:Heap}{ids:List Nat}{b:Nat}{k:Int}{s:ByteArray}(hb:H[b]? = some (.cells [.int .i64 k,.str s])) (hi:b∈ids):BV H ids (.osl (some 2) b 0 1) (.sl [.agg [.int .i64 k,.str s]]):=by
 refine .osl (some 2) b 0 1 _ _ hb hi rfl (fun x hx=>by simp at hx; subst hx; rfl) (by simp [es]) (fun i x j y z hx hy hz=>?_)
 have hi0:i=0:=by
  have:=(List.getElem?_eq_some_iff.1 hx).1
  simp at this; exact this
 subst hi0
 simp at hx
 subst hx
 rw [show 0+(0*es (some 2)+j)=j by simp] at hz
 match j with
 | 0=>simp [AV.cells] at hy hz; subst hy hz; exact .int _ _
 | 1=>simp [AV.cells] at hy hz; subst hy hz; exact .str _
 | j+2=>simp [AV.cells] at hy
theorem Yxl {H:Heap}{ids:List Nat}{b:Nat}{s:ByteArray}(hb:H[b]? = some (.cells [.str s])) (hi:b∈ids):BV H ids (.osl none b 0 1) (.sl [.str s]):=by
 refine .osl none b 0 1 _ _ hb hi rfl (fun x hx=>by simp at hx; subst hx; rfl) (by simp [es]) (fun i x j y z hx hy hz=>?_)
 have hi0:i=0:=by
  have:=(List.getElem?_eq_some_iff.1 hx).1
  simp at this; exact this
 subst hi0
 simp at hx
 subst hx
 match j with
 | 0=>simp [AV.cells,es] at hy hz; subst hy hz; exact .str _
 | j+1=>simp [AV.cells] at hy
theorem wlives:SpecV Tryz.prog Yn6 [] (.bool true):=by
 have hv:=wvalue Yit
 rw [if_pos Yod,Y8a,show numsR [2] = .tup [.sl (strsL [[50]]),.int .i64 0] by
  unfold numsR
  rw [if_pos (by decide+kernel)]
  have:numS 2 = [50]:=by decide+kernel
  simp [ss,strsL,this]] at hv
 have hr:=wrounds (r:=3) Yit (by omega)
 rw [show rC L1 d12 3=0 by unfold rC; rw [Yod]; rfl,if_pos rfl,show (3:Int).toNat=3 from rfl,Xby,show numsR [7/4] = .tup [.sl (strsL [[55,47,52]]),.int .i64 0] by
  unfold numsR
  rw [if_pos (by decide+kernel)]
  have:numS (7/4) = [55,47,52]:=by decide+kernel
  simp [ss,strsL,this]] at hr
 refine Zad Yk9 (by simp) ?_
 unfold Ygu
 simp only [go_sem,Z43,Z1s]
 refine Zi0 (ids := [0,1]) hv (.cons (Y7k rfl (by simp) (Y7w rfl (by simp))) (.cons (.str _) .nil)) ?_
 simp only [go_sem,Z1q,kill,List.foldl_cons,List.foldl_nil]
 refine Zi0 (ids := [2,3]) hr (.cons (Y7k rfl (by simp) (Y7w rfl (by simp))) (.cons (.str _) (.cons (.int _ _) .nil))) ?_
 simp only [go_sem,Z2g,kill,List.foldl_cons,List.foldl_nil]
 have s1:=rsame (l := [[50]]) (by decide)
 have s2:=rsame (l := [[55,47,52]]) (by decide)
 refine Zs0 (ids := [4]) s1 (.cons (.sl _) (.cons (Yxl rfl (by simp)) .nil)) (.inr (.bool _)) (fun b _=>trivial) ?_
 simp only [go_sem]
 refine Zs0 (ids := [5]) s2 (.cons (.sl _) (.cons (Yxl rfl (by simp)) .nil)) (.inr (.bool _)) (fun b _=>trivial) ?_
 simp only [go_sem]
end GoAbs
namespace GoAbs
open Go Go.Proofs
set_option maxHeartbeats 4000000
end GoAbs
namespace GoAbs
open Go Go.Proofs
set_option maxHeartbeats 4000000
theorem Ymr {H:Heap}{ids:List Nat}{q:Rat}:BVs H ids (rq q) (rq q)=True:=Yw2
end GoAbs
namespace GoAbs
open Go Go.Proofs
set_option maxHeartbeats 8000000
theorem txts_len' (M:List (List UInt8)):(txts M).length=M.length:=by simp [txts]
end GoAbs
namespace GoAbs
open Go Go.Proofs
set_option maxHeartbeats 4000000
theorem Yqw (M:List (List UInt8)):M.map strAV=txts M:=rfl
end GoAbs
namespace GoAbs
open Go Go.Proofs
set_option maxHeartbeats 4000000
end GoAbs
namespace GoAbs
open Go Go.Proofs
set_option exponentiation.threshold 20000
def rho (l lo hi:Nat) (sg:Rat) (s:Nat):Rat:=if s=l then 1 else if lo≤s∧s<hi then sg else 0
end GoAbs
namespace GoAbs
open Go Go.Proofs
end GoAbs
namespace GoAbs
open Go Go.Proofs
set_option exponentiation.threshold 20000
theorem Ym6 {q:Rat}(h:NumOk q):(numS q).length≤1000000000:=by have:=Y47 h; omega
end GoAbs
namespace GoAbs
open Go Go.Proofs
set_option exponentiation.threshold 20000
theorem Y1h {F:List Rat}(hok:∀ q,q∈F→NumOk q):(F.map numS).map toQ=F:=by
 rw [List.map_map]
 conv=>rhs; rw [← List.map_id F]
 exact List.map_congr_left fun q hq=>by
  show toQ (numS q)=q
  unfold toQ; rw [Zwq (hok q hq)]; rfl
end GoAbs
namespace GoAbs
open Go Go.Proofs
set_option maxHeartbeats 4000000
theorem Ygi {g:Gm}(hg:GmP g) (hl:GmL g):Rb 4000 (valG g):=by
 obtain ⟨q,h1,h2⟩:=Yck hg
 rw [h2]
 exact Yav hg hl h1.ok
theorem Yon (x:List Rat):ss x=txts (x.map numS):=by unfold ss txts; rw [List.map_map]; rfl
end GoAbs
namespace GoAbs
open Go Go.Proofs
set_option maxHeartbeats 8000000
def pk (l:List Int) (i:Nat):Int:=l.getD i 0
def mdMany (mv:List Int) (i:Nat):Nat:=(pk mv (4*i) % 3+1).toNat
def mdW (mv:List Int) (i k:Nat):Int:=IntKind.i64.wrap ((pk mv (4*i+k+1)).tdiv 7) % 3+1
def mdS (mv:List Int) (i:Nat):Nat→Int
 | 0=>0
 | k+1=>mdS mv i k+mdW mv i k
def mdKind (ks:List Int) (i:Nat):Int:=pk ks i % 3+1
def mdRew (rs:List Int) (i:Nat):Rat:=(((pk rs i).tmod 50:Int):Rat)
def mdOdd (mv:List Int) (i k:Nat):Rat:=Rat.divInt (mdW mv i k) (mdS mv i (mdMany mv i))
def mdMv (size:Nat) (kd:Int) (mv:List Int) (i k:Nat):Mv:=(pk mv (4*i+k+1) % (size:Int),if kd=3 then numS (mdOdd mv i k) else [])
def mdN (size:Nat) (ks rs mv:List Int) (i:Nat):Nd:=⟨mdKind ks i,numS (mdRew rs i),(List.range (mdMany mv i)).map (mdMv size (mdKind ks i) mv i)⟩
def mdL (size:Nat) (ks rs mv:List Int):List Nd:=(List.range size).map (mdN size ks rs mv)
def mdD (d:Int):Rat:=Rat.divInt (d % 7) (d % 7+1+d / 7 % 3)
theorem Zsw (mv:List Int) (i:Nat):1≤mdMany mv i∧mdMany mv i≤3:=by
 unfold mdMany
 have h1:=Int.emod_nonneg (pk mv (4*i)) (show (3:Int)≠0 by decide)
 have h2:=Int.emod_lt_of_pos (pk mv (4*i)) (show (0:Int)<3 by decide)
 omega
theorem Ysr (mv:List Int) (i k:Nat):1≤mdW mv i k∧mdW mv i k≤3:=by
 unfold mdW
 have h1:=Int.emod_nonneg (IntKind.i64.wrap ((pk mv (4*i+k+1)).tdiv 7)) (show (3:Int)≠0 by decide)
 have h2:=Int.emod_lt_of_pos (IntKind.i64.wrap ((pk mv (4*i+k+1)).tdiv 7)) (show (0:Int)<3 by decide)
 omega
theorem Y1y (mv:List Int) (i:Nat):∀ k:Nat,(k:Int)≤mdS mv i k∧mdS mv i k≤3*k
 | 0=>by unfold mdS; omega
 | k+1=>by
  have h1:=Y1y mv i k
  have h2:=Ysr mv i k
  unfold mdS
  omega
theorem Yov (mv:List Int) (i:Nat):1≤mdS mv i (mdMany mv i)∧mdS mv i (mdMany mv i)≤9:=by
 have h1:=Zsw mv i
 have h2:=Y1y mv i (mdMany mv i)
 omega
theorem Ylm (ks:List Int) (i:Nat):mdKind ks i=1∨mdKind ks i=2∨mdKind ks i=3:=by
 unfold mdKind
 have h1:=Int.emod_nonneg (pk ks i) (show (3:Int)≠0 by decide)
 have h2:=Int.emod_lt_of_pos (pk ks i) (show (0:Int)<3 by decide)
 omega
theorem Yqv (rs:List Int) (i:Nat):(mdRew rs i).den=1∧(mdRew rs i).num=(pk rs i).tmod 50∧(mdRew rs i).num.natAbs<50:=by
 have h1:=(Yee (v:=pk rs i) (n:=50) (by decide)).1
 have h2:=(Yee (v:=pk rs i) (n:=50) (by decide)).2.1
 unfold mdRew
 refine ⟨rfl,rfl,?_⟩
 show ((pk rs i).tmod 50).natAbs<50
 omega
theorem Yhp (mv:List Int) (i k:Nat):(mdOdd mv i k).den≤9∧(mdOdd mv i k).num.natAbs≤3∧0<mdOdd mv i k:=by
 have h1:=Ysr mv i k
 have h2:=Yov mv i
 unfold mdOdd
 obtain ⟨n1,n2⟩:=Zd5 (n:=mdW mv i k) (d:=mdS mv i (mdMany mv i)) (by omega)
 refine ⟨by omega,by omega,?_⟩
 rw [Rat.divInt_eq_div,Rat.div_def]
 have a1:(0:Rat)<((mdW mv i k:Int):Rat):=by exact_mod_cast (show (0:Int)<mdW mv i k by omega)
 have a2:(0:Rat)<((mdS mv i (mdMany mv i):Int):Rat):=by exact_mod_cast (show (0:Int)<mdS mv i (mdMany mv i) by omega)
 exact Rat.mul_pos a1 (Rat.inv_pos.2 a2)
theorem qb20 {q:Rat}(h:q.num.natAbs<1048576∧q.den<1048576):Qb 20 q:=⟨h.1,h.2⟩
theorem lpick {p:List Int}{i:Nat}:SpecV Tryz.prog Yum [.sl (ivs p),.int .i64 (i:Int)] (.int .i64 (pk p i)):=by
 refine Zad Yn4 (by simp) ?_
 unfold Yk2
 by_cases hi:i<p.length
 ·have q0:(0:Int)≤(i:Int):=by omega
  have q1:(i:Int)<(p.length:Int):=by omega
  have hg:(ivs p)[i]? = some (.int .i64 (pk p i)):=Z02 (by unfold pk; rw [List.getD_eq_getElem?_getD,List.getElem?_eq_getElem hi]; rfl)
  simp only [go_sem,Zuy,Zvg,Z85,Zaq,q0,q1,hg]
 ·have q1:¬ (i:Int)<(p.length:Int):=by omega
  have hg:pk p i=0:=by unfold pk; rw [List.getD_eq_getElem?_getD,List.getElem?_eq_none (by omega)]; rfl
  rw [hg]
  simp only [go_sem,Zuy,Zvg,Z89,Zaq,q1]
theorem lfold1 {v n:Int}(hn:0<n) (hnl:n≤1000000):SpecV Tryz.prog Yog [.int .i64 v,.int .i64 n] (.int .i64 (v % n)):=by
 obtain ⟨h1,h2,h3⟩:=Yee (v:=v) hn
 have hn0:n≠0:=by omega
 have e1:IntKind.i64.wrap (v.tmod n+n)=v.tmod n+n:=Zac (by omega) (by omega)
 refine Zad Ym7 (by simp) ?_
 unfold Yfe
 simp only [go_sem,Z3h,Z4q,hn0,e1,h3]
theorem lnumq {q:Rat}{k:Nat}(hb:Qb k q) (hk:k≤10000000) (hok:NumOk q):SpecV Tryz.prog Y0z [.agg (rq q)] (.str (bs (numS q))):=by
 have h:=rnum hb.ib.1 hb.ib.2 (by have:=q.den_pos; omega) hk (Rat.num_divInt_den q)
 rw [if_pos hok] at h
 have h':SpecV Tryz.prog Ym0 [.agg (rq q)] (.tup [.str (bs (numS q)),.bool true]):=h
 have rl:∀ q:Rat,(rq q).length=4:=fun q=>rfl
 refine Zad Ytc (by simp) ?_
 unfold Yp9
 simp only [go_sem,Yd1,Yeh,rl,Zz5,Z6i]
 refine Zaa h' (by simp only [go_sem,Ymr]) ?_
 simp only [go_sem,Ycx]
theorem Xa6 {P:List AV}{B1:Blk}{ks rs mv:List Int}{d size:Int}{i:Nat}(hi:i≤10) (hP:∀ f,gcL f P=P) (hB:∀ f,B1.gc f=B1) {K:Ex→St→Prop}
  (hK:∀ e:Nat→AV,Has e [(1,.sl (ivs ks)),(2,.sl (ivs rs)),(3,.sl (ivs mv)),(4,.int .u8 d),(12,.osl (some 3) 0 0 i),(13,.int .i64 size),(14,.int .i64 (i:Int)),(15,.ptr 1 0),(16,.int .i64 (mdMany mv i:Int)),(17,.osl none 2 0 (mdMany mv i)),(18,.int .i64 (mdS mv i (mdMany mv i)))] →
   K (.exit 2) ⟨e,[.cells P,B1,.cells (ivs ((List.range (mdMany mv i)).map (mdW mv i)))]⟩) :
  T Tryz.prog 125 0 (.loop Zs7) ⟨envL [(1,.sl (ivs ks)),(2,.sl (ivs rs)),(3,.sl (ivs mv)),(4,.int .u8 d),(12,.osl (some 3) 0 0 i),(13,.int .i64 size),(14,.int .i64 (i:Int)),(15,.ptr 1 0),(16,.int .i64 (mdMany mv i:Int)),(17,.osl none 2 0 0),(18,.int .i64 0),(19,.int .i64 0)],[.cells P,B1,.cells []]⟩ K:=by
 have hmx:Tryz.prog.follows .mixedOrders=true:=by kernel_rfl
 have hm:=Zsw mv i
 obtain ⟨n,hn⟩:∃ n,n=mdMany mv i:=⟨_,rfl⟩
 rw [← hn] at hK hm ⊢
 refine Zaf (fun k:Nat=>⟨envL [(1,.sl (ivs ks)),(2,.sl (ivs rs)),(3,.sl (ivs mv)),(4,.int .u8 d),(12,.osl (some 3) 0 0 i),(13,.int .i64 size),(14,.int .i64 (i:Int)),(15,.ptr 1 0),(16,.int .i64 (n:Int)),(17,.osl none 2 0 k),(18,.int .i64 (mdS mv i k)),(19,.int .i64 (k:Int))],[.cells P,B1,.cells (ivs ((List.range k).map (mdW mv i)))]⟩)
  (fun k=>k≤n) (fun k=>n - k) 0 (by omega) (Zab _ (by simp only [go_sem,mdS]; simp)) (fun k hk N hN=>?_)
 unfold Zs7
 by_cases hkn:k<n
 ·have hpk:=lpick (p:=mv) (i:=4*i+k+1)
  have hfo:=lfold1 (v:=IntKind.i64.wrap ((pk mv (4*i+k+1)).tdiv 7)) (n:=3) (by decide) (by decide)
  have hwl:=Ysr mv i k
  have hsl:=Y1y mv i k
  have hwd:IntKind.i64.wrap ((pk mv (4*i+k+1)).tdiv 7) % 3=mdW mv i k - 1:=by unfold mdW; omega
  rw [hwd] at hfo
  have hs:mdS mv i (k+1)=mdS mv i k+mdW mv i k:=rfl
  have tk:ivs ((List.range (k+1)).map (mdW mv i))=ivs ((List.range k).map (mdW mv i)) ++ [.int .i64 (mdW mv i k)]:=by rw [List.range_succ]; simp [ivs]
  have l1:(ivs ((List.range k).map (mdW mv i))).length=k:=by rw [Zaq]; simp
  have l2:(ivs ((List.range k).map (mdW mv i))).take k=ivs ((List.range k).map (mdW mv i)):=List.take_of_length_le (by omega)
  have hg:=fun f=>Yui (f:=f) (p:=(List.range k).map (mdW mv i))
  generalize ivs ((List.range k).map (mdW mv i))=W at *
  have q1:(k:Int)<(n:Int):=by omega
  have s1:(k+1)*8≤1099511627776:=by omega
  have x1:IntKind.i64.wrap (4*(i:Int))=4*(i:Int):=Zac (by omega) (by omega)
  have x2:IntKind.i64.wrap (4*(i:Int)+(k:Int))=4*(i:Int)+(k:Int):=Zac (by omega) (by omega)
  have x3:IntKind.i64.wrap (4*(i:Int)+(k:Int)+1)=((4*i+k+1:Nat):Int):=by rw [Zac (by omega) (by omega)]; omega
  have x4:IntKind.i64.wrap (mdW mv i k - 1+1)=mdW mv i k:=by rw [Zac (by omega) (by omega)]; omega
  have x5:IntKind.i64.wrap (mdS mv i k+mdW mv i k)=mdS mv i k+mdW mv i k:=Zac (by omega) (by omega)
  have c7:¬ (7:Int)=0:=by decide
  have e1:IntKind.i64.wrap ((k:Int)+1)=((k+1:Nat):Int):=by rw [Zac (by omega) (by omega)]; omega
  simp only [go_sem,Zp2,Z4s,q1,x1,x2,x3]
  refine Zaa hpk (by simp only [go_sem]) ?_
  simp only [go_sem,c7]
  refine Zaa hfo (by simp only [go_sem]) ?_
  simp only [go_sem,x4,x5,Z46,s1,l1,l2,Nat.mul_one,Nat.le_refl,Z4y,e1,List.cons_append,List.nil_append]
  refine hN (k+1) _ (by omega) (by omega) (Zcg (Zht [0,1,4] (by decide) (fun i hi=>by omega) [(1,.sl (ivs ks)),(2,.sl (ivs rs)),(3,.sl (ivs mv)),(4,.int .u8 d),(12,.osl (some 3) 0 0 i),(13,.int .i64 size),(14,.int .i64 (i:Int)),(15,.ptr 1 0),(16,.int .i64 (n:Int)),(17,.osl none 4 0 (k+1)),(18,.int .i64 (mdS mv i k+mdW mv i k)),(19,.int .i64 ((k+1:Nat):Int))] (by simp only [go_sem])) ?_)
  show St.mk _ [Blk.cells (gcL _ P),B1.gc _,Blk.cells (gcL _ (W ++ [AV.int .i64 (mdW mv i k)]))]=_
  rw [Z3g,hg,hP,hB,hs,tk]
  rfl
 ·have hke:k=n:=by omega
  subst hke
  have q1:¬ ((k:Nat):Int)<(k:Int):=by omega
  simp only [go_sem,Zp2,q1]
  exact hK _ (by simp only [go_sem])
theorem Y8m {P:List AV}{ks rs mv:List Int}{d kd:Int}{size:Nat}{i:Nat}{s:ByteArray}(hi:i≤10) (hsz:1≤size∧size≤10) (hP:∀ f,gcL f P=P) (hkd:kd=1∨kd=2∨kd=3) {K:Ex→St→Prop}
  (hK:∀ e:Nat→AV,Has e [(1,.sl (ivs ks)),(2,.sl (ivs rs)),(3,.sl (ivs mv)),(4,.int .u8 d),(12,.osl (some 3) 0 0 i),(13,.int .i64 (size:Int)),(14,.int .i64 (i:Int)),(15,.ptr 1 0)] →
   K (.exit 4) ⟨e,[.cells P,.cells [.int .i64 kd,.str s,.osl (some 2) 3 0 (mdMany mv i)],.cells (ivs ((List.range (mdMany mv i)).map (mdW mv i))),.cells (((List.range (mdMany mv i)).map (mdMv size kd mv i)).flatMap mvC)]⟩) :
  T Tryz.prog 125 0 (.loop Zlz) ⟨envL [(1,.sl (ivs ks)),(2,.sl (ivs rs)),(3,.sl (ivs mv)),(4,.int .u8 d),(12,.osl (some 3) 0 0 i),(13,.int .i64 (size:Int)),(14,.int .i64 (i:Int)),(15,.ptr 1 0),(16,.int .i64 (mdMany mv i:Int)),(17,.osl none 2 0 (mdMany mv i)),(18,.int .i64 (mdS mv i (mdMany mv i))),(21,.int .i64 0)],
   [.cells P,.cells [.int .i64 kd,.str s,.osl (some 2) 3 0 0],.cells (ivs ((List.range (mdMany mv i)).map (mdW mv i))),.cells []]⟩ K:=by
 have hmx:Tryz.prog.follows .mixedOrders=true:=by kernel_rfl
 have hm:=Zsw mv i
 have hsp:=Yov mv i
 have hod:∀ k,mdOdd mv i k=Rat.divInt (mdW mv i k) (mdS mv i (mdMany mv i)):=fun k=>rfl
 have hodl:=Yhp mv i
 obtain ⟨sm,hsm⟩:∃ sm,sm=mdS mv i (mdMany mv i):=⟨_,rfl⟩
 rw [← hsm] at hod hsp ⊢
 obtain ⟨n,hn⟩:∃ n,n=mdMany mv i:=⟨_,rfl⟩
 rw [← hn] at hK hm ⊢
 have hwl:(ivs ((List.range n).map (mdW mv i))).length=n:=by rw [Zaq]; simp
 have hwg:∀ k,k<n→(ivs ((List.range n).map (mdW mv i)))[k]? = some (.int .i64 (mdW mv i k)):=fun k hk=>Z02 (by rw [List.getElem?_map,List.getElem?_range hk]; rfl)
 have hWgc:=fun f=>Yui (f:=f) (p:=(List.range n).map (mdW mv i))
 generalize ivs ((List.range n).map (mdW mv i))=W at *
 refine Zaf (fun k:Nat=>⟨envL [(1,.sl (ivs ks)),(2,.sl (ivs rs)),(3,.sl (ivs mv)),(4,.int .u8 d),(12,.osl (some 3) 0 0 i),(13,.int .i64 (size:Int)),(14,.int .i64 (i:Int)),(15,.ptr 1 0),(16,.int .i64 (n:Int)),(17,.osl none 2 0 n),(18,.int .i64 sm),(21,.int .i64 (k:Int))],
   [.cells P,.cells [.int .i64 kd,.str s,.osl (some 2) 3 0 k],.cells W,.cells (((List.range k).map (mdMv size kd mv i)).flatMap mvC)]⟩)
  (fun k=>k≤n) (fun k=>n - k) 0 (by omega) (Zab _ (by simp only [go_sem]; simp)) (fun k hk N hN=>?_)
 unfold Zlz
 by_cases hkn:k<n
 ·have hpk:=lpick (p:=mv) (i:=4*i+k+1)
  have hfo:=lfold1 (v:=pk mv (4*i+k+1)) (n:=(size:Int)) (by omega) (by omega)
  have htk:((List.range (k+1)).map (mdMv size kd mv i)).flatMap mvC=((List.range k).map (mdMv size kd mv i)).flatMap mvC ++ [.int .i64 (pk mv (4*i+k+1) % (size:Int)),.str (bs (if kd=3 then numS (mdOdd mv i k) else []))]:=by
   rw [List.range_succ,List.map_append,List.flatMap_append]; rfl
  have hPl:(((List.range k).map (mdMv size kd mv i)).flatMap mvC).length=k*2:=by rw [Y9d]; simp
  have hPg:=fun f=>Y7n (M:=(List.range k).map (mdMv size kd mv i)) f
  generalize ((List.range k).map (mdMv size kd mv i)).flatMap mvC=Q at *
  have hwk:=Ysr mv i k
  have hgw:(W.drop k)[0]? = some (.int .i64 (mdW mv i k)):=by rw [List.getElem?_drop,Nat.add_zero]; exact hwg k hkn
  have q0:(0:Int)≤(k:Int):=by omega
  have q1:(k:Int)<(n:Int):=by omega
  have s1:(k+1)*24≤1099511627776:=by omega
  have s2:k*2≤Q.length:=by omega
  have tQ:Q.take (k*2)=Q:=List.take_of_length_le (by omega)
  have x1:IntKind.i64.wrap (4*(i:Int))=4*(i:Int):=Zac (by omega) (by omega)
  have x2:IntKind.i64.wrap (4*(i:Int)+(k:Int))=4*(i:Int)+(k:Int):=Zac (by omega) (by omega)
  have x3:IntKind.i64.wrap (4*(i:Int)+(k:Int)+1)=((4*i+k+1:Nat):Int):=by rw [Zac (by omega) (by omega)]; omega
  have e1:IntKind.i64.wrap ((k:Int)+1)=((k+1:Nat):Int):=by rw [Zac (by omega) (by omega)]; omega
  have fin:∀ (e:Nat→AV) (kd':Int) (l:List UInt8) (B4 B5:Blk),kd'=kd→l=(if kd=3 then numS (mdOdd mv i k) else [])→Has e [(1,.sl (ivs ks)),(2,.sl (ivs rs)),(3,.sl (ivs mv)),(4,.int .u8 d),(12,.osl (some 3) 0 0 i),(13,.int .i64 (size:Int)),(14,.int .i64 (i:Int)),(15,.ptr 1 0),(16,.int .i64 (n:Int)),(17,.osl none 2 0 n),(18,.int .i64 sm),(21,.int .i64 ((k+1:Nat):Int))] →
    N ⟨e,[.cells P,.cells [.int .i64 kd',.str s,.osl (some 2) 6 0 (k+1)],.cells W,.dead,B4,B5,.cells (Q ++ [.int .i64 (pk mv (4*i+k+1) % (size:Int)),.str (bs l)])]⟩:=fun e kd' l B4 B5 hkd' hl he=>by
   subst hkd' hl
   refine hN (k+1) _ (by omega) (by omega) (Zcg (Zht [0,1,2,6] (by decide) (fun i hi=>by omega) _ he) ?_)
   rw [← htk]
   show St.mk _ [Blk.cells (gcL _ P),_,Blk.cells (gcL _ W),Blk.cells (gcL _ (((List.range (k+1)).map (mdMv size kd' mv i)).flatMap mvC))]=_
   rw [Y7n,hP,hWgc]
   rfl
  by_cases k3:kd=3
  ·have hob:=hodl k
   have hmk:=rmake (n:=mdW mv i k) (d:=sm) (by omega) (by omega) (by omega)
   have hmk':SpecV Tryz.prog Z51 [.int .i64 (mdW mv i k),.int .i64 sm] (.agg (rq (mdOdd mv i k))):=by rw [hod]; exact hmk
   have hqb:Qb 20 (mdOdd mv i k):=qb20 (by omega)
   have hnm:=lnumq hqb (by omega) (Zgt hqb (by omega))
   simp only [go_sem,Zjd,Zpw,q1,x1,x2,x3]
   refine Zaa hpk (by simp only [go_sem]) ?_
   simp only [go_sem]
   refine Zaa hfo (by simp only [go_sem]) ?_
   simp only [go_sem,Zpp,Z4f,k3,q0,q1,hwl,hgw,List.cons_append,List.nil_append]
   refine Zaa hmk' (by simp only [go_sem]) ?_
   simp only [go_sem]
   refine Zaa hnm (by simp only [go_sem,Ymr]) ?_
   simp only [go_sem,Zou,Zoz,s1,s2,tQ,e1,List.cons_append,List.nil_append]
   exact fin _ _ _ _ _ k3.symm (by rw [if_pos k3]) (by simp only [go_sem])
  ·simp only [go_sem,Zjd,Zpw,q1,x1,x2,x3]
   refine Zaa hpk (by simp only [go_sem]) ?_
   simp only [go_sem]
   refine Zaa hfo (by simp only [go_sem]) ?_
   simp only [go_sem,Zpp,k3,Zou,Zoz,s1,s2,tQ,e1,List.cons_append,List.nil_append]
   exact fin _ _ [] _ _ rfl (by rw [if_neg k3]) (by simp only [go_sem])
 ·have hke:k=n:=by omega
  subst hke
  have q1:¬ ((k:Nat):Int)<(k:Int):=by omega
  simp only [go_sem,Zjd,q1]
  exact hK _ (by simp only [go_sem])
theorem Y67 {d:Int}(hd:0≤d∧d≤255):(mdD d).den≤9∧(mdD d).num.natAbs≤6:=by
 unfold mdD
 obtain ⟨n1,n2⟩:=Zd5 (n:=d % 7) (d:=d % 7+1+d / 7 % 3) (by omega)
 omega
theorem Y79 {ks rs mv:List Int}{d:Int}{size:Nat}(hsz:1≤size∧size≤5) {K:Ex→St→Prop}
  (hK:∀ e:Nat→AV,e 4 = .int .u8 d→e 12 = .osl (some 3) 0 0 size→K (.exit 0) ⟨e,[.cells ((mdL size ks rs mv).flatMap ndC)]⟩) :
  T Tryz.prog 125 0 (.loop Zwp) ⟨envL [(1,.sl (ivs ks)),(2,.sl (ivs rs)),(3,.sl (ivs mv)),(4,.int .u8 d),(12,.osl (some 3) 0 0 0),(13,.int .i64 (size:Int)),(14,.int .i64 0)],[.cells []]⟩ K:=by
 have hmx:Tryz.prog.follows .mixedOrders=true:=by kernel_rfl
 refine Znx (fun i:Nat=>⟨envL [(1,.sl (ivs ks)),(2,.sl (ivs rs)),(3,.sl (ivs mv)),(4,.int .u8 d),(12,.osl (some 3) 0 0 i),(13,.int .i64 (size:Int)),(14,.int .i64 (i:Int))],[.cells (((List.range i).map (mdN size ks rs mv)).flatMap ndC)]⟩)
  (fun i=>i≤size) (fun i=>size - i) 0 (by omega) (Zab _ (by simp only [go_sem]; simp)) (fun i hi N hN=>?_)
 unfold Zwp
 by_cases hin:i<size
 ·have hpk:=lpick (p:=ks) (i:=i)
  have hfo:=lfold1 (v:=pk ks i) (n:=3) (by decide) (by decide)
  have hpr:=lpick (p:=rs) (i:=i)
  have hpm:=lpick (p:=mv) (i:=4*i)
  have hfm:=lfold1 (v:=pk mv (4*i)) (n:=3) (by decide) (by decide)
  have hkd:=Ylm ks i
  have hkd':pk ks i % 3=mdKind ks i - 1:=by unfold mdKind; omega
  rw [hkd'] at hfo
  have hmn:=Zsw mv i
  have hmn':pk mv (4*i) % 3=(mdMany mv i:Int) - 1:=by
   unfold mdMany at hmn ⊢
   omega
  rw [hmn'] at hfm
  obtain ⟨r1,r2,r3⟩:=Yqv rs i
  have hrq:Qb 20 (mdRew rs i):=qb20 ⟨by omega,by omega⟩
  have hwh:SpecV Tryz.prog Ydj [.int .i64 ((pk rs i).tmod 50)] (.agg (rq (mdRew rs i))):=by
   have h:=rwhole (v:=(pk rs i).tmod 50) (by omega)
   have e:avR ((pk rs i).tmod 50) 1 = .agg (rq (mdRew rs i)):=by unfold rq; rw [r2,r1]; rfl
   rw [e] at h
   exact h
  have hnm:=lnumq hrq (by omega) (Zgt hrq (by omega))
  have htk:((List.range (i+1)).map (mdN size ks rs mv)).flatMap ndC=((List.range i).map (mdN size ks rs mv)).flatMap ndC++ndC (mdN size ks rs mv i):=by rw [List.range_succ,List.map_append,List.flatMap_append]; simp
  have hPl:(((List.range i).map (mdN size ks rs mv)).flatMap ndC).length=i*3:=by rw [Xae]; simp
  have hPg:=fun f=>Xf2 (M:=(List.range i).map (mdN size ks rs mv)) f
  generalize ((List.range i).map (mdN size ks rs mv)).flatMap ndC=P at *
  have c50:¬ (50:Int)=0:=by decide
  have q1:(i:Int)<(size:Int):=by omega
  have s1:(i+1)*48≤1099511627776:=by omega
  have s2:i*3≤P.length:=by omega
  have tP:P.take (i*3)=P:=List.take_of_length_le (by omega)
  have x1:IntKind.i64.wrap (4*(i:Int))=((4*i:Nat):Int):=by rw [Zac (by omega) (by omega)]; omega
  have x2:IntKind.i64.wrap (mdKind ks i - 1+1)=mdKind ks i:=by rw [Zac (by omega) (by omega)]; omega
  have x3:IntKind.i64.wrap ((mdMany mv i:Int) - 1+1)=(mdMany mv i:Int):=by rw [Zac (by omega) (by omega)]; omega
  have e1:IntKind.i64.wrap ((i:Int)+1)=((i+1:Nat):Int):=by rw [Zac (by omega) (by omega)]; omega
  refine Zbd 0 rfl ?_
  simp only [go_sem,Zvm,q1]
  refine Za8 (Za3 (Zbd 2 rfl ?_))
  simp only [go_sem,Z9i]
  refine Zaa hpk (by simp only [go_sem]) ?_
  simp only [go_sem]
  refine Zaa hfo (by simp only [go_sem]) ?_
  simp only [go_sem,x2]
  refine Zaa hpr (by simp only [go_sem]) ?_
  simp only [go_sem,c50]
  refine Zaa hwh (by simp only [go_sem]) ?_
  simp only [go_sem]
  refine Zaa hnm (by simp only [go_sem,Ymr]) ?_
  simp only [go_sem,Z6k,x1,List.cons_append,List.nil_append]
  refine Zaa hpm (by simp only [go_sem]) ?_
  simp only [go_sem]
  refine Zaa hfm (by simp only [go_sem]) ?_
  simp only [go_sem,x3,Z8g]
  refine T_le (Zjm 17 none (by simp only [go_sem]) [(1,.sl (ivs ks)),(2,.sl (ivs rs)),(3,.sl (ivs mv)),(4,.int .u8 d),(12,.osl (some 3) 0 0 i),(13,.int .i64 (size:Int)),(14,.int .i64 (i:Int)),(15,.ptr 1 0),(16,.int .i64 (mdMany mv i:Int)),(18,.int .i64 0)] (by simp only [go_sem])) ?_
  refine Za8 (Za8 (T_W ?_))
  simp only [go_sem,Z7c,List.cons_append,List.nil_append,List.length_cons,List.length_nil]
  refine Za3 (Zar [(1,.sl (ivs ks)),(2,.sl (ivs rs)),(3,.sl (ivs mv)),(4,.int .u8 d),(12,.osl (some 3) 0 0 i),(13,.int .i64 (size:Int)),(14,.int .i64 (i:Int)),(15,.ptr 1 0),(16,.int .i64 (mdMany mv i:Int)),(17,.osl none 2 0 0),(18,.int .i64 0),(19,.int .i64 0)] (by simp only [go_sem]) (Xa6 (by omega) hPg (fun f=>rfl) (fun e he=>?_)))
  show T Tryz.prog 125 0 (.seq (.seq (.rg false Zoi) (.block 4 (.loop Zlz))) (.rg false Zfj)) _ _
  refine T_le (Zp6 (Zab _ he) (Zp6 Ym8 (Zcg (Z97 (b:=1) (l := [.int .i64 (mdKind ks i),.str (bs (numS (mdRew rs i))),.nils]) (l' := [.int .i64 (mdKind ks i),.str (bs (numS (mdRew rs i))),.osl (some 2) 3 0 0]) rfl rfl (fun j x y hx hy=>?_)) rfl))) ?_
  ·match j with
   | 0=>simp at hx hy; subst hx hy; exact .inl rfl
   | 1=>simp at hx hy; subst hx hy; exact .inl rfl
   | 2=>simp at hx hy; subst hx hy; exact .inr ⟨rfl,_,_,_,rfl⟩
   | j+3=>simp at hx
  refine Za8 (Za8 (T_W ?_))
  simp only [go_sem,Zoi]
  refine Za3 (Zar [(1,.sl (ivs ks)),(2,.sl (ivs rs)),(3,.sl (ivs mv)),(4,.int .u8 d),(12,.osl (some 3) 0 0 i),(13,.int .i64 (size:Int)),(14,.int .i64 (i:Int)),(15,.ptr 1 0),(16,.int .i64 (mdMany mv i:Int)),(17,.osl none 2 0 (mdMany mv i)),(18,.int .i64 (mdS mv i (mdMany mv i))),(21,.int .i64 0)] (by simp only [go_sem]) (Y8m (by omega) (by omega) hPg hkd (fun e he=>?_)))
  show T Tryz.prog 125 0 (.rg false Zfj) _ _
  have hnd:ndC (mdN size ks rs mv i) = [.int .i64 (mdKind ks i),.str (bs (numS (mdRew rs i))),.sl (((List.range (mdMany mv i)).map (mdMv size (mdKind ks i) mv i)).map mvAV)]:=rfl
  refine T_le (Yyg (b:=1) (ids := [3]) (l := [.int .i64 (mdKind ks i),.str (bs (numS (mdRew rs i))),.osl (some 2) 3 0 (mdMany mv i)]) (l':=ndC (mdN size ks rs mv i)) rfl (by decide) rfl (fun j x y hx hy=>?_) [(1,.sl (ivs ks)),(2,.sl (ivs rs)),(3,.sl (ivs mv)),(4,.int .u8 d),(12,.osl (some 3) 0 0 i),(13,.int .i64 (size:Int)),(14,.int .i64 (i:Int)),(15,.ptr 1 0)] (Yp5 he)) ?_
  ·rw [hnd] at hy
   match j with
   | 0=>simp at hx hy; subst hx hy; exact .inr rfl
   | 1=>simp at hx hy; subst hx hy; exact .inr rfl
   | 2 =>
    simp only [List.getElem?_cons_succ,List.getElem?_cons_zero,Option.some.injEq] at hx hy
    subst hx hy
    have hbv:=Xe3 (H := [Blk.cells P,.cells [.int .i64 (mdKind ks i),.str (bs (numS (mdRew rs i))),.osl (some 2) 3 0 (mdMany mv i)],.cells (ivs ((List.range (mdMany mv i)).map (mdW mv i))),.cells (((List.range (mdMany mv i)).map (mdMv size (mdKind ks i) mv i)).flatMap mvC)]) (ids := [3]) (b:=3) (M:=(List.range (mdMany mv i)).map (mdMv size (mdKind ks i) mv i)) rfl (by simp)
    rw [List.length_map,List.length_range] at hbv
    exact .inl hbv
   | j+3=>simp at hx
  show T Tryz.prog 125 0 (.rg false Zfj) ⟨_,[.cells P,.cells (ndC (mdN size ks rs mv i)),.cells (ivs ((List.range (mdMany mv i)).map (mdW mv i))),.dead]⟩ _
  have n3:(ndC (mdN size ks rs mv i)).length=3:=rfl
  have n3':(ndC (mdN size ks rs mv i)).take 3=ndC (mdN size ks rs mv i):=rfl
  have n3d:(ndC (mdN size ks rs mv i)).drop 3 = []:=rfl
  have hng:∀ f,gcL f (ndC (mdN size ks rs mv i))=ndC (mdN size ks rs mv i):=fun f=>rfl
  generalize ndC (mdN size ks rs mv i)=nd at *
  refine T_W ?_
  simp only [go_sem,Zfj,n3,n3',n3d,s1,s2,tP,Nat.le_refl,List.cons_append,List.nil_append]
  refine T_W ?_
  simp only [go_sem,Z19,e1]
  refine hN (i+1) _ (by omega) (by omega) (Zcg (Zht [5] (by decide) (fun i hi=>by omega) [(1,.sl (ivs ks)),(2,.sl (ivs rs)),(3,.sl (ivs mv)),(4,.int .u8 d),(12,.osl (some 3) 5 0 (i+1)),(13,.int .i64 (size:Int)),(14,.int .i64 ((i+1:Nat):Int))] (by simp only [go_sem])) ?_)
  show St.mk _ [Blk.cells (gcL _ (P++nd))]=_
  rw [Z3g,hPg,hng, ← htk]
  rfl
 ·have hie:i=size:=by omega
  subst hie
  have q1:¬ ((i:Nat):Int)<(i:Int):=by omega
  refine T_W ?_
  simp only [go_sem,Zvm,q1]
  exact hK _ (by simp only [go_sem]) (by simp only [go_sem])
theorem lmade {n d:Int}{ks rs mv:List Int}(hn:0≤n∧n≤255) (hd:0≤d∧d≤255):SpecV Tryz.prog Ytk [.int .u8 n,.sl (ivs ks),.sl (ivs rs),.sl (ivs mv),.int .u8 d] (.tup [.sl ((mdL (n % 5+1).toNat ks rs mv).map ndAV),.str (bs (numS (mdD d)))]):=by
 obtain ⟨size,hsz⟩:∃ size,size=(n % 5+1).toNat:=⟨_,rfl⟩
 rw [← hsz]
 have hs5:1≤size∧size≤5:=by omega
 have c5:¬ (5:Int)=0:=by decide
 have c7:¬ (7:Int)=0:=by decide
 have c3:¬ (3:Int)=0:=by decide
 have w1:IntKind.i64.wrap n=n:=Zac (by omega) (by omega)
 have w2:IntKind.i64.wrap d=d:=Zac (by omega) (by omega)
 have t5:n.tmod 5=n % 5:=Int.tmod_eq_emod_of_nonneg hn.1
 have t7:d.tmod 7=d % 7:=Int.tmod_eq_emod_of_nonneg hd.1
 have d7:d.tdiv 7=d / 7:=Int.tdiv_eq_ediv_of_nonneg hd.1
 have t3:(d / 7).tmod 3=d / 7 % 3:=Int.tmod_eq_emod_of_nonneg (by omega)
 have x1:IntKind.i64.wrap (n % 5+1)=(size:Int):=by rw [Zac (by omega) (by omega)]; omega
 have x2:IntKind.i64.wrap (d % 7+1)=d % 7+1:=Zac (by omega) (by omega)
 have x3:IntKind.i64.wrap (d / 7)=d / 7:=Zac (by omega) (by omega)
 have x4:IntKind.i64.wrap (d % 7+1+d / 7 % 3)=d % 7+1+d / 7 % 3:=Zac (by omega) (by omega)
 have hmk:=rmake (n:=d % 7) (d:=d % 7+1+d / 7 % 3) (by omega) (by omega) (by omega)
 have hmk':SpecV Tryz.prog Z51 [.int .i64 (d % 7),.int .i64 (d % 7+1+d / 7 % 3)] (.agg (rq (mdD d))):=hmk
 have hdl:=Y67 hd
 have hqb:Qb 20 (mdD d):=qb20 (by omega)
 have hnm:=lnumq hqb (by omega) (Zgt hqb (by omega))
 have hll:(mdL size ks rs mv).length=size:=by unfold mdL; rw [List.length_map,List.length_range]
 refine Za4 Yn3 (by simp) (Zbd 2 rfl ?_)
 unfold Yk0
 simp only [go_sem,Z9a,Z8i,Z9c,w1,c5,t5,x1]
 refine T_le (Zjm 12 (some 3) (by simp only [go_sem]) [(1,.sl (ivs ks)),(2,.sl (ivs rs)),(3,.sl (ivs mv)),(4,.int .u8 d),(13,.int .i64 (size:Int))] (by simp only [go_sem])) ?_
 refine Za8 (Za8 (T_W ?_))
 simp only [go_sem,Z67]
 refine Za3 (Zar [(1,.sl (ivs ks)),(2,.sl (ivs rs)),(3,.sl (ivs mv)),(4,.int .u8 d),(12,.osl (some 3) 0 0 0),(13,.int .i64 (size:Int)),(14,.int .i64 0)] (by simp only [go_sem]) (Y79 hs5 (fun e k4 k12=>?_)))
 show T Tryz.prog 125 0 (.seq (.rg false Zpj) .ret) _ _
 refine T_W ?_
 simp only [go_sem,Zpj,k4,k12,w2,c7,t7,d7,t3,c3,x2,x3,x4]
 refine Zaa hmk' (by simp only [go_sem]) ?_
 simp only [go_sem]
 refine Zaa hnm (by simp only [go_sem,Ymr]) ?_
 simp only [go_sem,k12]
 have hbn:=Xfp (H := [Blk.cells ((mdL size ks rs mv).flatMap ndC)]) (ids := [0]) (b:=0) (M:=mdL size ks rs mv) rfl (by simp)
 rw [hll] at hbn
 exact hbn
end GoAbs
namespace GoAbs
open Go Go.Proofs
set_option maxHeartbeats 4000000
def Fr (k:Nat) (q:Rat) (A:List AV):Prop:=∃ n d:Int,A=rc n d∧0<d∧Ib k n∧Ib k d∧q=Rat.divInt n d
theorem Z5o {n d:Int}(h:0<d):Rat.divInt n d*((d:Int):Rat)=((n:Int):Rat):=by
 have hd:((d:Int):Rat)≠0:=by
  have:(0:Rat)<((d:Int):Rat):=by exact_mod_cast h
  grind
 rw [Rat.divInt_eq_div,Rat.div_def,Rat.mul_assoc,Rat.inv_mul_cancel _ hd,Rat.mul_one]
theorem Fr.of {k:Nat}{q:Rat}(h:Qb k q):Fr k q (rq q):=⟨q.num,q.den,rfl,by have:=q.den_pos; omega,h.ib.1,h.ib.2,(Rat.num_divInt_den q).symm⟩
theorem Xf4 {k:Nat}{p q:Rat}{A B:List AV}(ha:Fr k p A) (hb:Fr k q B) (hk:k≤1000000):SpecV Tryz.prog Ygh [.agg A,.agg B] (.int .i64 (cmpR p q)):=by
 obtain ⟨n,d,rfl,hd,hn1,hd1,hp⟩:=ha
 obtain ⟨m,e,rfl,he,hm1,he1,hq⟩:=hb
 have h:=rcmpq hn1 hd1 hm1 he1 hk
 have hdd:(0:Rat)<((d:Int):Rat):=by exact_mod_cast hd
 have hee:(0:Rat)<((e:Int):Rat):=by exact_mod_cast he
 have h1:=Z5o (n:=n) hd
 have h2:=Z5o (n:=m) he
 rw [← hp] at h1
 rw [← hq] at h2
 have hde:=Rat.mul_pos hdd hee
 have c1:((n*e:Int):Rat)=p*(((d:Int):Rat)*((e:Int):Rat)):=by rw [Rat.intCast_mul]; grind
 have c2:((m*d:Int):Rat)=q*(((d:Int):Rat)*((e:Int):Rat)):=by rw [Rat.intCast_mul]; grind
 have l1:n*e<m*d↔p<q:=by rw [← Rat.intCast_lt_intCast,c1,c2,Rat.mul_lt_mul_right hde]
 have l2:m*d<n*e↔q<p:=by rw [← Rat.intCast_lt_intCast,c1,c2,Rat.mul_lt_mul_right hde]
 have e1:(if n*e=m*d then (0:Int) else if n*e<m*d then -1 else 1)=cmpR p q:=by
  unfold cmpR
  by_cases a:n*e<m*d
  ·rw [if_neg (by omega),if_pos a,if_pos (l1.1 a)]
  ·by_cases b:m*d<n*e
   ·rw [if_neg (by omega),if_neg a,if_neg (fun x=>a (l1.2 x)),if_pos (l2.1 b)]
   ·rw [if_pos (by omega),if_neg (fun x=>a (l1.2 x)),if_neg (fun x=>b (l2.2 x))]
 rw [e1] at h
 exact h
end GoAbs
namespace GoAbs
open Go Go.Proofs
set_option maxHeartbeats 4000000
theorem Lt9.fit {q:Rat}(h:Lt9 q):Fitd 12 q:=by
 obtain ⟨h1,h2⟩:=h
 have c:10000<10 ^ 12:=by decide
 exact ⟨Z5d (by decide) (by omega),Z5d (by decide) (by omega)⟩
theorem Lt9.qb {q:Rat}(h:Lt9 q):Qb 20 q:=qb20 (by have:=h.1; have:=h.2; omega)
theorem Lt9.ok {q:Rat}(h:Lt9 q):NumOk q:=Zgt h.qb (by omega)
theorem Lt9.len {q:Rat}(h:Lt9 q):1≤(numS q).length∧(numS q).length≤23:=by
 have a:=Z5d (n:=q.num.natAbs) (k:=4) (by decide) (by have:=h.2; omega)
 have b:=Z5d (n:=q.den) (k:=1) (by decide) (by have:=h.1; omega)
 have c:=Yqh q.num.natAbs
 unfold numS
 rw [List.length_append,List.length_append]
 split <;> split <;> simp only [List.length_cons,List.length_nil] <;> omega
theorem Lt9.ne {q:Rat}(h:Lt9 q):(numS q).isEmpty=false:=by
 have:=h.len.1
 cases hn:numS q with
 | nil=>rw [hn] at this; simp at this
 | cons a l=>rfl
theorem Lt9.parse {q:Rat}(h:Lt9 q):parseL (numS q)=some q:=Zwq h.ok
structure NT (N:Nat) (n:Nd):Prop where
 kind:n.kind=1∨n.kind=2∨n.kind=3
 rew:∃ q,n.rew=numS q∧Lt9 q
 len:1≤n.mv.length∧n.mv.length≤6
 to:∀ m,m∈n.mv→0≤m.1∧m.1<(N:Int)
 no:n.kind≠3→∀ m,m∈n.mv→m.2 = []
 odds:n.kind=3→(∀ m,m∈n.mv→∃ q,m.2=numS q∧Lt9 q∧0<q)∧sumM n.mv=1
theorem NT.facts {N:Nat}{n:Nd}(h:NT N n):ndVa n=true∧ndFi N n=true∧n.rew.length≤23∧n.mv.length≤7∧∀ m,m∈n.mv→m.2.length≤23:=by
 have hm:∀ m,m∈n.mv→(m.2 = []∧n.kind≠3)∨(n.kind=3∧∃ q,m.2=numS q∧Lt9 q∧0<q):=fun m hmm=>by
  by_cases h3:n.kind=3
  ·exact .inr ⟨h3,(h.odds h3).1 m hmm⟩
  ·exact .inl ⟨h.no h3 m hmm,h3⟩
 obtain ⟨q,hq,hl⟩:=h.rew
 have hpr:parseL n.rew=some q:=by rw [hq]; exact hl.parse
 refine ⟨?_,?_,?_,by have:=h.len; omega,?_⟩
 ·unfold ndVa vaM okB
  rw [hpr]
  simp only [Option.isSome_some,Bool.true_and,List.all_eq_true]
  intro m hmm
  rcases hm m hmm with ⟨e,_⟩ | ⟨_,p,e,hp,_⟩
  ·rw [e]; rfl
  ·rw [e,hp.parse]; simp
 ·unfold ndFi smallB fiM
  rw [hpr]
  simp only [Bool.and_eq_true,decide_eq_true_eq,List.all_eq_true]
  refine ⟨⟨⟨hl.fit,fun m hmm=>?_⟩,h.len⟩,?_⟩
  ·have ht:=h.to m hmm
   unfold mvFit mvFit1
   simp only [Bool.and_eq_true,decide_eq_true_eq,beq_iff_eq,Bool.or_eq_true]
   rcases hm m hmm with ⟨e,h3⟩ | ⟨h3,p,e,hp,hp0⟩
   ·rw [e]; exact ⟨⟨⟨ht.1,ht.2⟩,by simp [h3]⟩,.inl rfl⟩
   ·refine ⟨⟨⟨ht.1,ht.2⟩,?_⟩,.inr ?_⟩
    ·rw [h3,e,hp.ne]; rfl
    ·rw [e,hp.parse]; unfold mvFit2; simp [hp0,hp.fit]
  ·unfold kindF
   rcases h.kind with k | k | k
   ·simp [k]
   ·simp [k]
   ·simp [k,(h.odds k).2]
 ·rw [hq]; exact hl.len.2
 ·intro m hmm
  rcases hm m hmm with ⟨e,_⟩ | ⟨_,p,e,hp,_⟩
  ·rw [e]; simp
  ·rw [e]; exact hp.len.2
structure LT (L:List Nd) (d:List UInt8):Prop where
 n:1≤L.length∧L.length≤5
 nd:∀ n,n∈L→NT L.length n
 d:∃ q,d=numS q∧Lt9 q∧0≤q∧q<1
theorem LT.gin {L:List Nd}{d:List UInt8}(h:LT L d):GIn L d:=by
 obtain ⟨q,hq,hl,_⟩:=h.d
 exact ⟨.inl h.n.2,by rw [hq]; exact hl.len.2,fun n hn=>(h.nd n hn).facts.2.2⟩
theorem LT.ec {L:List Nd}{d:List UInt8}(h:LT L d):eC L d=0:=by
 obtain ⟨q,hq,hl,h0,h1⟩:=h.d
 have hp:parseL d=some q:=by rw [hq]; exact hl.parse
 have hv:(L.all ndVa && okB d)=true:=by
  rw [Bool.and_eq_true,List.all_eq_true]
  exact ⟨fun n hn=>(h.nd n hn).facts.1,by unfold okB; rw [hp]; rfl⟩
 have hf:gFit L d=true:=by
  unfold gFit disF smallB
  rw [hp]
  simp only [Bool.and_eq_true,decide_eq_true_eq,List.all_eq_true]
  exact ⟨⟨⟨h.n.1,by have:=h.n.2; omega⟩,fun n hn=>(h.nd n hn).facts.2.1⟩,hl.fit,h0,h1⟩
 unfold eC
 rw [hv,hf]; rfl
theorem LT.gmL {L:List Nd}{d:List UInt8}(h:LT L d):GmL (toGm L d):=by
 refine ⟨fun q hq=>?_,?_,fun x hx h3 q hq=>?_,?_⟩
 ·obtain ⟨n,hn,rfl⟩:=List.mem_map.1 hq
  obtain ⟨p,hp,hl⟩:=(h.nd n hn).rew
  show Lt9 ((parseL n.rew).getD 0)
  rw [hp,hl.parse]; exact hl
 ·obtain ⟨q,hq,hl,h0,h1⟩:=h.d
  show Lt9 ((parseL d).getD 0)
  rw [hq,hl.parse]; exact hl
 ·obtain ⟨n,hn,rfl⟩:=List.mem_map.1 hx
  obtain ⟨m,hm,rfl⟩:=List.mem_map.1 hq
  have hmm:=(List.mem_filter.1 hm).1
  have h3':n.kind=3:=by have:n.kind.toNat=3:=h3; omega
  obtain ⟨p,hp,hl,_⟩:=((h.nd n hn).odds h3').1 m hmm
  rw [hp,hl.parse]; exact hl
 ·show (L.map toGN).length≤5
  rw [List.length_map]; exact h.n.2
theorem LT.gmP {L:List Nd}{d:List UInt8}(h:LT L d):GmP (toGm L d)∧(toGm L d).nodes.length=L.length:=by
 obtain ⟨_,hg,hgn,_⟩:=((Zwv h.gin).resolve_left (fun x=>x.1 h.ec)).2
 exact ⟨hg,hgn⟩
theorem lvals {L:List Nd}{d:List UInt8}(h:LT L d):SpecV Tryz.prog Yl4 [.sl (L.map ndAV),.str (bs d)] (.tup [rowV (valG (toGm L d)),.bool true]):=by
 obtain ⟨hg,hgn⟩:=h.gmP
 have hv:=wvalue h.gin
 have hvl:=Zjh hg
 have hrb:=Ygi hg h.gmL
 have hL5:=h.n
 rw [if_pos h.ec] at hv
 have hok:∀ q,q∈valG (toGm L d)→NumOk q:=fun q hq=>Zgt (hrb q hq) (by omega)
 rw [show numsR (valG (toGm L d)) = .tup [.sl (ss (valG (toGm L d))),.int .i64 0] from if_pos hok,Yon] at hv
 obtain ⟨V,hV⟩:∃ V,V=valG (toGm L d):=⟨_,rfl⟩
 rw [← hV] at hv hvl hrb hok ⊢
 obtain ⟨M,hM⟩:∃ M,M=V.map numS:=⟨_,rfl⟩
 have hMV:M.map toQ=V:=by rw [hM]; exact Y1h hok
 have hMn:M.length=L.length:=by rw [hM,List.length_map,hvl,hgn]
 have hMl:∀ s,s∈M→s.length≤1000000000:=fun s hs=>by
  rw [hM] at hs
  obtain ⟨q,hq,rfl⟩:=List.mem_map.1 hs
  exact Ym6 (hok q hq)
 have hMp:∀ s,s∈M→okB s=true:=fun s hs=>by
  rw [hM] at hs
  obtain ⟨q,hq,rfl⟩:=List.mem_map.1 hs
  unfold okB
  rw [Zwq (hok q hq)]; rfl
 have hMall:M.all okB=true:=List.all_eq_true.2 hMp
 have hnm:=rnums (L:=M) (by omega) hMl
 rw [show numsE M=0 by unfold numsE; rw [if_pos (show (M.all fun s=>(parseL s).isSome)=true from hMall)],Yqw] at hnm
 have hqs:=rqs (L:=M) (fun s hs=>⟨hMl s hs,hMp s hs⟩) (by omega)
 rw [hMV] at hqs
 have hle:((M.length:Nat):Int)=(L.length:Int):=by omega
 rw [← hM] at hv
 refine Zad Yhl (by simp) ?_
 unfold Yb3
 simp only [go_sem,Zya,Zxw]
 refine Zaa hv (by simp only [go_sem]) ?_
 simp only [go_sem,Zyt,txts_len',List.length_map,hle]
 refine Zaa hnm (by simp only [go_sem]) ?_
 simp only [go_sem,Zy7]
 refine Zaa hqs (by simp only [go_sem]) ?_
 simp only [go_sem,rowV]
theorem Yl3 (mv:List Int) (i k:Nat):Lt9 (mdOdd mv i k):=by
 have:=Yhp mv i k
 exact ⟨by omega,by omega⟩
theorem Ybo {a b s:Int}:Rat.divInt a s+Rat.divInt b s=Rat.divInt (a+b) s:=by
 rw [Rat.divInt_eq_div,Rat.divInt_eq_div,Rat.divInt_eq_div,Rat.div_def,Rat.div_def,Rat.div_def,Rat.intCast_add,Rat.add_mul]
theorem Y7q {size:Nat}{mv:List Int}{i:Nat}:∀ k,sumM ((List.range k).map (mdMv size 3 mv i))=Rat.divInt (mdS mv i k) (mdS mv i (mdMany mv i))
 | 0=>by
  show (0:Rat)=Rat.divInt 0 _
  rw [Rat.divInt_eq_div,Rat.div_def]
  exact (Rat.zero_mul _).symm
 | k+1=>by
  rw [List.range_succ,List.map_append,List.map_cons,List.map_nil,Yd0,Y7q k]
  unfold stepM
  have hl:=Yl3 mv i k
  have e:(mdMv size 3 mv i k).2=numS (mdOdd mv i k):=by unfold mdMv; rw [if_pos rfl]
  rw [e,hl.ne,if_neg (by decide),hl.parse]
  show _+mdOdd mv i k=_
  unfold mdOdd
  rw [Ybo]
  rfl
theorem Xgz {size:Nat}(hs:1≤size) (ks rs mv:List Int) (i:Nat):NT size (mdN size ks rs mv i):=by
 have hm:=Zsw mv i
 have hmem:∀ m,m∈(mdN size ks rs mv i).mv→∃ k,m=mdMv size (mdKind ks i) mv i k:=fun m h=>by
  obtain ⟨k,_,rfl⟩:=List.mem_map.1 h
  exact ⟨k,rfl⟩
 have hlen:(mdN size ks rs mv i).mv.length=mdMany mv i:=by
  show ((List.range _).map _).length=_
  rw [List.length_map,List.length_range]
 refine ⟨Ylm ks i,⟨_,rfl,?_⟩,by omega,fun m h=>?_,fun h3 m h=>?_,fun h3=>⟨fun m h=>?_,?_⟩⟩
 ·have:=Yqv rs i
  exact ⟨by omega,by omega⟩
 ·obtain ⟨k,rfl⟩:=hmem m h
  exact ⟨Int.emod_nonneg _ (by omega),Int.emod_lt_of_pos _ (by omega)⟩
 ·obtain ⟨k,rfl⟩:=hmem m h
  exact if_neg h3
 ·obtain ⟨k,rfl⟩:=hmem m h
  exact ⟨_,if_pos h3,Yl3 mv i k,(Yhp mv i k).2.2⟩
 ·have h3':mdKind ks i=3:=h3
  show sumM ((List.range (mdMany mv i)).map (mdMv size (mdKind ks i) mv i))=1
  rw [h3',Y7q]
  have:=Yov mv i
  have hp:((mdS mv i (mdMany mv i):Int):Rat)≠0:=by
   have:(0:Rat)<((mdS mv i (mdMany mv i):Int):Rat):=by exact_mod_cast (show (0:Int)<mdS mv i (mdMany mv i) by omega)
   grind
  rw [Rat.divInt_eq_div,Rat.div_def,Rat.mul_inv_cancel _ hp]
theorem md_d {d:Int}(hd:0≤d∧d≤255):∃ q,numS (mdD d)=numS q∧Lt9 q∧0≤q∧q<1:=by
 have h:=Y67 hd
 have hden:(0:Int)<d % 7+1+d / 7 % 3:=by omega
 have hdr:(0:Rat)<((d % 7+1+d / 7 % 3:Int):Rat):=by exact_mod_cast hden
 have hm:=Z5o (n:=d % 7) hden
 refine ⟨mdD d,rfl,⟨by omega,by omega⟩,?_,?_⟩
 ·refine Rat.not_lt.1 (fun hn=>?_)
  have h1:=Rat.mul_lt_mul_of_pos_right hn hdr
  unfold mdD at h1
  rw [hm,Rat.zero_mul] at h1
  have:(d % 7:Int)<0:=by exact_mod_cast h1
  omega
 ·refine Rat.not_le.1 (fun hn=>?_)
  have h1:=Rat.mul_le_mul_of_nonneg_right hn (Rat.le_of_lt hdr)
  unfold mdD at h1
  rw [hm,Rat.one_mul] at h1
  have:(d % 7+1+d / 7 % 3:Int)≤d % 7:=by exact_mod_cast h1
  omega
theorem Xgv {size:Nat}(hs:1≤size∧size≤5) (ks rs mv:List Int) {d:Int}(hd:0≤d∧d≤255):LT (mdL size ks rs mv) (numS (mdD d)):=by
 have hl:(mdL size ks rs mv).length=size:=by unfold mdL; rw [List.length_map,List.length_range]
 refine ⟨by omega,fun n hn=>?_,md_d hd⟩
 rw [hl]
 obtain ⟨i,_,rfl⟩:=List.mem_map.1 hn
 exact Xgz hs.1 ks rs mv i
def tabAV (n d:Int) (ks rs mv:List Int):AV := .agg [.int .u8 n,.int .u8 d,.sl (ivs ks),.sl (ivs rs),.sl (ivs mv)]
def tabL (n:Int) (ks rs mv:List Int):List Nd:=mdL (n % 5+1).toNat ks rs mv
theorem lgame {n d:Int}{ks rs mv:List Int}(hn:0≤n∧n≤255) (hd:0≤d∧d≤255):SpecV Tryz.prog Ymd [tabAV n d ks rs mv] (.tup [.sl ((tabL n ks rs mv).map ndAV),.str (bs (numS (mdD d)))]):=by
 have h:=lmade (ks:=ks) (rs:=rs) (mv:=mv) hn hd
 unfold tabAV
 refine Zad Yib (by simp) ?_
 unfold Ydu
 simp only [go_sem,Zx8,Zxa]
 refine Zaa h (by simp only [go_sem]) ?_
 simp only [go_sem]
 rfl
theorem Xf3 {n d:Int}(hn:0≤n∧n≤255) (hd:0≤d∧d≤255) (ks rs mv:List Int):LT (tabL n ks rs mv) (numS (mdD d)):=Xgv (by omega) ks rs mv hd
end GoAbs
namespace GoAbs
open Go Go.Proofs
set_option maxHeartbeats 4000000
theorem Y68 {k:Nat}{x:List Rat}(h:Rb k x) {i:Nat}(hi:i<x.length):Qb k (rget x i):=h _ (List.mem_of_getElem? (Zai hi))
end GoAbs
namespace GoAbs
open Go Go.Proofs
set_option maxHeartbeats 4000000
theorem Y1s {x:GN}{n:Nat}(hx:GnOk n x) (h1:x.kind=1) (v:List Rat):(∃ t,t<x.to.length∧worthR x v=rget v (x.to.getD t 0))∧∀ t,t<x.to.length→rget v (x.to.getD t 0)≤worthR x v:=by
 have b1:=Zfe (v:=v) (sg:=1) hx.pos (Nat.le_refl _)
 have e:worthR x v=rget v (x.to.getD (bestG v x.to 1 x.to.length) 0):=by unfold worthR bestA; rw [if_pos h1]
 exact ⟨⟨_,b1,e⟩,fun t ht=>by rw [e]; exact (Yad (v:=v) (to:=x.to) (k:=x.to.length)).1 t ht⟩
theorem Yxm {x:GN}{n:Nat}(hx:GnOk n x) (h2:x.kind=2) (v:List Rat):(∃ t,t<x.to.length∧worthR x v=rget v (x.to.getD t 0))∧∀ t,t<x.to.length→worthR x v≤rget v (x.to.getD t 0):=by
 have b1:=Zfe (v:=v) (sg := -1) hx.pos (Nat.le_refl _)
 have e:worthR x v=rget v (x.to.getD (bestG v x.to (-1) x.to.length) 0):=by unfold worthR bestA; rw [if_neg (by omega),if_pos h2]
 exact ⟨⟨_,b1,e⟩,fun t ht=>by rw [e]; exact (Z34 (v:=v) (to:=x.to) (k:=x.to.length)).1 t ht⟩
theorem Yfu {x:GN}(h3:x.kind=3) (v:List Rat):worthR x v=dotW x.odds v x.to x.to.length:=by
 unfold worthR
 rw [if_neg (by omega),if_neg (by omega)]
end GoAbs
namespace GoAbs
open Go Go.Proofs
set_option maxHeartbeats 8000000
theorem Xbr {L:List Nd}{i:Nat}{n:Nd}(h:L[i]? = some n):(L.map ndAV)[i]? = some (.agg [.int .i64 n.kind,.str (bs n.rew),.sl (n.mv.map mvAV)]):=by
 rw [List.getElem?_map,h]; rfl
theorem Y8u {M:List (List UInt8)}{x:List Rat}(hM:M.map toQ=x) (h:∀ s,s∈M→okB s=true∧s.length≤1000000000) {i:Nat}(hi:i<x.length):∃ s,M[i]? = some s∧(txts M)[i]? = some (.str (bs s))∧SpecV Tryz.prog Ysi [.str (bs s)] (.agg (rq (rget x i))):=by
 have hl:M.length=x.length:=by rw [← hM,List.length_map]
 obtain ⟨s,hs⟩:∃ s,M[i]? = some s:=⟨_,List.getElem?_eq_getElem (by omega)⟩
 obtain ⟨h1,h2⟩:=h s (List.mem_of_getElem? hs)
 have e:rget x i=toQ s:=by
  rw [← hM]
  unfold rget
  rw [List.getD_eq_getElem?_getD,List.getElem?_map,hs]
  rfl
 refine ⟨s,hs,by unfold txts; rw [List.getElem?_map,hs]; rfl,?_⟩
 rw [e]
 exact rof h2 (okBq h1)
end GoAbs
namespace GoAbs
open Go Go.Proofs
set_option maxHeartbeats 8000000
def plnI (g:Gm) (p:List Int) (i:Nat):Bool:=if (nodeAt g i).kind=3 then decide (p.getD i 0 = -1) else decide (0≤p.getD i 0∧p.getD i 0<((nodeAt g i).to.length:Int))
def plnB (g:Gm) (p:List Int):Bool:=decide (p.length=g.nodes.length) && (List.range g.nodes.length).all (plnI g p)
theorem Yd5 {g:Gm}{p:List Int}(h:plnB g p=true):POk g p:=by
 unfold plnB at h
 rw [Bool.and_eq_true,decide_eq_true_eq,List.all_eq_true] at h
 refine ⟨h.1,fun i hi h3=>?_⟩
 have:=h.2 i (List.mem_range.2 hi)
 unfold plnI at this
 rw [if_neg h3] at this
 exact of_decide_eq_true this
theorem Xcx {g:Gm}{p:List Int}{n:Nat}(hg:GmOk g) (hn:n=g.nodes.length) (hp:p.length=n) {K:Ex→St→Prop}
  (hK:(List.range n).all (plnI g p)=true→∀ e:Nat→AV,K (.exit 0) ⟨e,[]⟩)
  (hK0:(List.range n).all (plnI g p)=false→∀ e:Nat→AV,∀ H,e 4 = .bool false→K .ret ⟨e,H⟩) :
  T Tryz.prog 64 0 (.loop Zio) ⟨envL [(1,.sl (ivs p)),(22,.sl (g.nodes.map gnAV)),(23,.int .i64 (n:Int)),(24,.int .i64 0)],[]⟩ K:=by
 have hmx:Tryz.prog.follows .mixedOrders=true:=by kernel_rfl
 have hnl:=hg.n
 refine Zaf (fun i:Nat=>⟨envL [(1,.sl (ivs p)),(22,.sl (g.nodes.map gnAV)),(23,.int .i64 (n:Int)),(24,.int .i64 (i:Int))],[]⟩)
  (fun i=>i≤n∧(List.range i).all (plnI g p)=true) (fun i=>n - i) 0 ⟨by omega,rfl⟩ (Zab _ (by simp only [go_sem]; simp)) (fun i hI N hN=>?_)
 obtain ⟨hi,hal⟩:=hI
 unfold Zio
 by_cases hin:i<n
 ·have hig:i<g.nodes.length:=by omega
  obtain ⟨x,hx⟩:∃ x,g.nodes[i]? = some x:=⟨_,List.getElem?_eq_getElem hig⟩
  have hxa:nodeAt g i=x:=by unfold nodeAt; rw [List.getD_eq_getElem?_getD,hx]; rfl
  have hxg:(g.nodes.map gnAV)[i]? = some (gnAV x):=by rw [List.getElem?_map,hx]; rfl
  have hok:=hg.node x (List.mem_of_getElem? hx)
  have hlen:=hok.len
  have hpi:plnI g p i=if x.kind=3 then decide (p.getD i 0 = -1) else decide (0≤p.getD i 0∧p.getD i 0<(x.to.length:Int)):=by unfold plnI; rw [hxa]
  have hgp:(ivs p)[i]? = some (.int .i64 (p.getD i 0)):=by
   refine Z02 ?_
   rw [List.getD_eq_getElem?_getD,List.getElem?_eq_getElem (by omega)]; rfl
  have hpll:(ivs p).length=n:=by rw [Zaq]; omega
  have hbad:plnI g p i=false→(List.range n).all (plnI g p)=false:=fun h=>by
   rw [List.all_eq_false]
   exact ⟨i,List.mem_range.2 hin,by rw [h]; decide⟩
  have hgood:plnI g p i=true→(List.range (i+1)).all (plnI g p)=true:=fun h=>by rw [List.range_succ,List.all_append,hal]; simp [h]
  generalize p.getD i 0=z at *
  have q0:(0:Int)≤(i:Int):=by omega
  have q1:(i:Int)<(n:Int):=by omega
  have e1:IntKind.i64.wrap ((i:Int)+1)=((i+1:Nat):Int):=by rw [Zac (by omega) (by omega)]; omega
  have xc:(gnAV x).cells = [gnAV x]:=by unfold gnAV; split; rfl; split <;> rfl
  have fin:∀ (e:Nat→AV) (post:Heap),plnI g p i=true→Has e [(1,.sl (ivs p)),(22,.sl (g.nodes.map gnAV)),(23,.int .i64 (n:Int)),(24,.int .i64 ((i+1:Nat):Int))]→N ⟨e,post⟩:=fun e post h he =>
   hN (i+1) _ ⟨by omega,hgood h⟩ (by omega) (Zj4 (K := []) (post:=post) (m:=0) rfl rfl (Nat.le_refl _) _ he (by simp [AV.gc]))
  by_cases k3:x.kind=3
  ·have hgx:gnAV x = .ifc 140 (.agg [.sl (ivs (nv x.to)),.sl (condsR x.odds)]):=by unfold gnAV; rw [if_neg (by omega),if_neg (by omega)]
   rw [hgx] at hxg xc
   rw [if_pos k3] at hpi
   by_cases hz:z = -1
   ·rw [decide_eq_true hz] at hpi
    simp only [go_sem,Zau,Za2,Zaz,Za1,Za0,Zbn,Zgy,Zgu,Zgv,Zdc,q0,q1,hxg,xc,hpll,hgp,hz,List.length_map,e1,List.cons_append,List.nil_append]
    exact fin _ _ hpi (by simp only [go_sem])
   ·rw [decide_eq_false hz] at hpi
    simp only [go_sem,Zau,Za2,Zaz,Za1,Za0,Zbn,Zgy,Zgu,Zgv,Znp,q0,q1,hxg,xc,hpll,hgp,hz,List.length_map,List.cons_append,List.nil_append]
    exact hK0 (hbad hpi) _ _ (by simp only [go_sem])
  ·rw [if_neg k3] at hpi
   by_cases k1:x.kind=1
   ·have hgx:gnAV x = .ifc 129 (.agg [.sl (ivs (nv x.to))]):=by unfold gnAV; rw [if_pos k1]
    rw [hgx] at hxg xc
    by_cases z0:z<0
    ·rw [decide_eq_false (by omega)] at hpi
     simp only [go_sem,Zau,Za2,Zaz,Za1,Za0,Zdb,Zc9,Zbb,Zb7,q0,q1,hxg,xc,hpll,hgp,z0,List.length_map,List.cons_append,List.nil_append,Zaq,Zf4]
     exact hK0 (hbad hpi) _ _ (by simp only [go_sem])
    ·by_cases z1:(x.to.length:Int)≤z
     ·rw [decide_eq_false (by omega)] at hpi
      simp only [go_sem,Zau,Za2,Zaz,Za1,Za0,Zdb,Zc9,Zbb,Zb7,q0,q1,hxg,xc,hpll,hgp,z0,z1,List.length_map,List.cons_append,List.nil_append,Zaq,Zf4]
      exact hK0 (hbad hpi) _ _ (by simp only [go_sem])
     ·rw [decide_eq_true (by omega)] at hpi
      simp only [go_sem,Zau,Za2,Zaz,Za1,Za0,Zdb,Zc9,Zbb,Zdc,q0,q1,hxg,xc,hpll,hgp,z0,z1,List.length_map,List.cons_append,List.nil_append,Zaq,Zf4,e1]
      exact fin _ _ hpi (by simp only [go_sem])
   ·have hgx:gnAV x = .ifc 131 (.agg [.sl (ivs (nv x.to))]):=by unfold gnAV; rw [if_neg k1,if_pos (by have:=hok.kind; omega)]
    rw [hgx] at hxg xc
    by_cases z0:z<0
    ·rw [decide_eq_false (by omega)] at hpi
     simp only [go_sem,Zau,Za2,Zaz,Za1,Za0,Zbn,Zc7,Zda,Zbb,Zb7,q0,q1,hxg,xc,hpll,hgp,z0,List.length_map,List.cons_append,List.nil_append,Zaq,Zf4]
     exact hK0 (hbad hpi) _ _ (by simp only [go_sem])
    ·by_cases z1:(x.to.length:Int)≤z
     ·rw [decide_eq_false (by omega)] at hpi
      simp only [go_sem,Zau,Za2,Zaz,Za1,Za0,Zbn,Zc7,Zda,Zbb,Zb7,q0,q1,hxg,xc,hpll,hgp,z0,z1,List.length_map,List.cons_append,List.nil_append,Zaq,Zf4]
      exact hK0 (hbad hpi) _ _ (by simp only [go_sem])
     ·rw [decide_eq_true (by omega)] at hpi
      simp only [go_sem,Zau,Za2,Zaz,Za1,Za0,Zbn,Zc7,Zda,Zbb,Zdc,q0,q1,hxg,xc,hpll,hgp,z0,z1,List.length_map,List.cons_append,List.nil_append,Zaq,Zf4,e1]
      exact fin _ _ hpi (by simp only [go_sem])
 ·have hie:i=n:=by omega
  subst hie
  have q1:¬ ((i:Nat):Int)<(i:Int):=by omega
  simp only [go_sem,Zau,q1]
  exact hK hal _
theorem Ykw {g:Gm}{p:List Int}(hg:GmOk g):SpecV Tryz.prog Yep [.rp (gmC g),.sl (ivs p)] (.bool (plnB g p)):=by
 obtain ⟨n,hn⟩:∃ n,n=g.nodes.length:=⟨_,rfl⟩
 have gd0:(gmC g)[0]? = some (.sl (g.nodes.map gnAV)):=rfl
 obtain ⟨gc,hgc⟩:∃ gc,gc=gmC g:=⟨_,rfl⟩
 rw [← hgc] at gd0 ⊢
 refine Za4 Ydt (by simp) (Zbd 1 rfl ?_)
 unfold Z2y
 by_cases hl:p.length=n
 ·have hl':((p.length:Nat):Int)=(n:Int):=by omega
  have hB:plnB g p=(List.range n).all (plnI g p):=by unfold plnB; rw [decide_eq_true (by omega),hn]; rfl
  rw [hB]
  simp only [go_sem,Ziq,Zij,gd0,List.length_map,Zaq]
  rw [← hn]
  simp only [go_sem,hl']
  refine Za8 (Za8 (T_W ?_))
  simp only [go_sem,Zq8,gd0,List.length_map]
  rw [← hn]
  refine Za3 (Zar [(1,.sl (ivs p)),(22,.sl (g.nodes.map gnAV)),(23,.int .i64 (n:Int)),(24,.int .i64 0)] (by simp only [go_sem]) (Xcx hg hn hl (fun ha e=>?_) (fun hf e H k4=>?_)))
  ·show T Tryz.prog 64 0 (.seq (.rg false Zgm) .ret) _ _
   refine T_W ?_
   rw [ha]
   simp only [go_sem,Zgm]
  ·rw [hf]
   simp only [go_sem,k4]
 ·have hl':¬ ((p.length:Nat):Int)=(n:Int):=by omega
  have hB:plnB g p=false:=by unfold plnB; rw [decide_eq_false (by omega)]; rfl
  rw [hB]
  simp only [go_sem,Ziq,Zij,gd0,List.length_map,Zaq]
  rw [← hn]
  simp only [go_sem,hl',Zrk]
def lC (L:List Nd) (d:List UInt8) (p:List Int):Int:=if eC L d=0 then (if plnB (toGm L d) p=true then 0 else 1) else eC L d
theorem wplays {L:List Nd}{d:List UInt8}{p:List Int}(h:GIn L d):SpecV Tryz.prog Z9j [.sl (L.map ndAV),.str (bs d),.sl (ivs p)] (if lC L d p=0 then numsR (valP (toGm L d) p) else .tup [.nils,.int .i64 (lC L d p)]):=by
 rcases Zwv h with ⟨h1,hs⟩ | ⟨h1,hs,hg,hn,hn1,hn5⟩
 ·rw [show lC L d p=eC L d from if_neg h1,if_neg h1]
  refine Zad Zow (by simp) ?_
  unfold Zn4
  simp only [go_sem,Zg5,Zg1]
  refine Zaa hs (by simp only [go_sem]) ?_
  simp only [go_sem,Zg3,Zy5,h1]
 ·rw [show lC L d p=if plnB (toGm L d) p=true then 0 else 1 from if_pos h1]
  generalize toGm L d=g at *
  have hpl:=Ykw (p:=p) hg.ok
  cases hb:plnB g p with
  | false =>
   rw [hb] at hpl
   rw [if_neg (by decide),if_neg (by decide)]
   refine Zad Zow (by simp) ?_
   unfold Zn4
   simp only [go_sem,Zg5,Zg1]
   refine Zaa hs (by simp only [go_sem]) ?_
   simp only [go_sem,Zg3,Zm2]
   refine Zaa hpl (by simp only [go_sem]) ?_
   simp only [go_sem,Zze]
  | true =>
   rw [hb] at hpl
   rw [if_pos rfl,if_pos rfl]
   have hp:=Yd5 hb
   have hv:=Z6c (pre := []) (o:=0) (p:=p) (pl := .sl (ivs p)) rfl (fun f=>rfl) (by omega) (fun m hm=>rfl) (.inl rfl) hg hp (by omega) (by omega)
   have hm:=Ycm (Y9k (Zn2 hg hp (by omega)).2.2.2.2 (by omega)) (by rw [(Zln hg hp).1]; omega)
   refine Zad Zow (by simp) ?_
   unfold Zn4
   simp only [go_sem,Zg5,Zg1]
   refine Zaa hs (by simp only [go_sem]) ?_
   simp only [go_sem,Zg3,Zm2]
   refine Zaa hpl (by simp only [go_sem]) ?_
   simp only [go_sem,Zxy]
   refine Zdq hv ?_
   simp only [go_sem]
   refine Zaa hm (by simp only [go_sem]) ?_
   by_cases hN:∀ q,q∈valP g p→NumOk q
   ·rw [show numsR (valP g p) = .tup [.sl (ss (valP g p)),.int .i64 0] from if_pos hN]
    simp only [go_sem]
   ·rw [show numsR (valP g p) = .tup [.nils,.int .i64 4] from if_neg hN]
    simp only [go_sem]
end GoAbs
namespace GoAbs
open Go Go.Proofs
set_option maxHeartbeats 4000000
theorem Xbg {L:List Nd}{d:List UInt8}{i:Nat}{n:Nd}(h:L[i]? = some n):nodeAt (toGm L d) i=toGN n:=by
 unfold nodeAt
 show (L.map toGN).getD i default=_
 rw [List.getD_eq_getElem?_getD,List.getElem?_map,h]; rfl
theorem rplan {L:List Nd}{d:List UInt8}{p:List Int}(hL:∀ n,n∈L→NdG L.length n) (hN1:L.length≤100):SpecV Tryz.prog Yvq [.sl (L.map ndAV),.sl (ivs p)] (.bool (plnB (toGm L d) p)):=by
 have hmx:Tryz.prog.follows .mixedOrders=true:=by kernel_rfl
 obtain ⟨ls,hls⟩:∃ ls,ls=L.map ndAV:=⟨_,rfl⟩
 have hlsl:ls.length=L.length:=by rw [hls,List.length_map]
 have hgn:(toGm L d).nodes.length=L.length:=by unfold toGm; rw [List.length_map]
 rw [← hls]
 refine Za4 Yoo (by simp) (Zbd 1 rfl ?_)
 unfold Yli
 by_cases hl:p.length=L.length
 ·have hl':((p.length:Nat):Int)=(L.length:Int):=by omega
  have hB:plnB (toGm L d) p=(List.range L.length).all (plnI (toGm L d) p):=by unfold plnB; rw [decide_eq_true (by omega),hgn]; rfl
  rw [hB]
  simp only [go_sem,Ztm,Zt4,hlsl,Zaq,hl']
  refine Za8 (Za8 (T_W ?_))
  simp only [go_sem,Z7x]
  refine Za3 (Zaf (fun i:Nat=>⟨envL [(0,.sl ls),(1,.sl (ivs p)),(5,.int .i64 (i:Int))],[]⟩)
   (fun i=>i≤L.length∧(List.range i).all (plnI (toGm L d) p)=true) (fun i=>L.length - i) 0 ⟨by omega,rfl⟩ (Zab _ (by simp only [go_sem]; simp)) (fun i hI N hN=>?_))
  obtain ⟨hi,hal⟩:=hI
  unfold Z7q
  by_cases hin:i<L.length
  ·obtain ⟨n,hn⟩:∃ n,L[i]? = some n:=⟨_,List.getElem?_eq_getElem hin⟩
   have hx:=hL n (List.mem_of_getElem? hn)
   obtain ⟨ms,hms⟩:∃ ms,ms=n.mv.map mvAV:=⟨_,rfl⟩
   have hmsl:ms.length=n.mv.length:=by rw [hms,List.length_map]
   have hget:ls[i]? = some (.agg [.int .i64 n.kind,.str (bs n.rew),.sl ms]):=by rw [hls,List.getElem?_map,hn,hms]; rfl
   have hkd:=hx.kind
   have hlen:=hx.len
   have hl6:=hx.ok.len
   have hpi:plnI (toGm L d) p i=if (toGN n).kind=3 then decide (p.getD i 0 = -1) else decide (0≤p.getD i 0∧p.getD i 0<((toGN n).to.length:Int)):=by unfold plnI; rw [Xbg hn]
   have hgp:(ivs p)[i]? = some (.int .i64 (p.getD i 0)):=by
    refine Z02 ?_
    rw [List.getD_eq_getElem?_getD,List.getElem?_eq_getElem (by omega)]; rfl
   have hpll:(ivs p).length=L.length:=by rw [Zaq]; omega
   have hbad:plnI (toGm L d) p i=false→(List.range L.length).all (plnI (toGm L d) p)=false:=fun h=>by
    rw [List.all_eq_false]
    exact ⟨i,List.mem_range.2 hin,by rw [h]; decide⟩
   have hgood:plnI (toGm L d) p i=true→(List.range (i+1)).all (plnI (toGm L d) p)=true:=fun h=>by rw [List.range_succ,List.all_append,hal]; simp [h]
   generalize p.getD i 0=z at *
   have q0:(0:Int)≤(i:Int):=by omega
   have q1:(i:Int)<(L.length:Int):=by omega
   have e1:IntKind.i64.wrap ((i:Int)+1)=((i+1:Nat):Int):=by rw [Zac (by omega) (by omega)]; omega
   have e2:IntKind.i64.wrap ((n.mv.length:Int) - 1)=(n.mv.length:Int) - 1:=Zac (by omega) (by omega)
   by_cases k3:n.kind=3
   ·rw [if_pos (by omega)] at hpi
    by_cases hz:z = -1
    ·rw [decide_eq_true hz] at hpi
     simp only [go_sem,Ze5,Zfa,Zvy,q0,q1,hlsl,hget,hgp,hpll,k3,hz,hmx,e1]
     exact hN (i+1) _ ⟨by omega,hgood hpi⟩ (by omega) (Zab _ (by simp only [go_sem]))
    ·rw [decide_eq_false hz] at hpi
     rw [hbad hpi]
     simp only [go_sem,Ze5,Zfa,Zuh,q0,q1,hlsl,hget,hgp,hpll,k3,hz,hmx]
   ·rw [if_neg (by omega)] at hpi
    by_cases hz:0≤z∧z≤(n.mv.length:Int) - 1
    ·rw [decide_eq_true (by omega)] at hpi
     simp only [go_sem,Ze5,Zfa,q0,q1,hlsl,hget,hgp,hpll,hmsl,k3,hmx,e2]
     refine Zaa (Xhg hz) (by simp only [go_sem]) ?_
     simp only [go_sem,Zvy,e1]
     exact hN (i+1) _ ⟨by omega,hgood hpi⟩ (by omega) (Zab _ (by simp only [go_sem]))
    ·rw [decide_eq_false (by omega)] at hpi
     rw [hbad hpi]
     simp only [go_sem,Ze5,Zfa,q0,q1,hlsl,hget,hgp,hpll,hmsl,k3,hmx,e2]
     refine Zaa (Xgm hz) (by simp only [go_sem]) ?_
     simp only [go_sem,Zuh]
  ·have hie:i=L.length:=by omega
   subst hie
   have q1:¬ ((L.length:Nat):Int)<(L.length:Int):=by omega
   rw [hal]
   simp only [go_sem,Ze5,hlsl,q1]
   refine T_W ?_
   simp only [go_sem,Z8n]
 ·have hl':¬ ((p.length:Nat):Int)=(L.length:Int):=by omega
  have hB:plnB (toGm L d) p=false:=by unfold plnB; rw [decide_eq_false (by omega)]; rfl
  rw [hB]
  simp only [go_sem,Ztm,Zt4,Z6l,hlsl,Zaq,hl']
instance:Inhabited Nd:=⟨⟨0,[],[]⟩⟩
end GoAbs
namespace GoAbs
open Go Go.Proofs
set_option maxHeartbeats 8000000
theorem dle' {d a b:Rat}(d0:0≤d) (h:a≤b) (r:Rat):r+d*a≤r+d*b:=by
 have:=Rat.mul_le_mul_of_nonneg_left h d0
 grind
theorem lplayed {L:List Nd}{d:List UInt8}(h:LT L d) {p:List Int}(hp:plnB (toGm L d) p=true):∃ M:List (List UInt8),SpecV Tryz.prog Z9j [.sl (L.map ndAV),.str (bs d),.sl (ivs p)] (.tup [.sl (txts M),.int .i64 0])∧M.length=L.length∧M.map toQ=valP (toGm L d) p∧SpecV Tryz.prog Yfj [.sl (txts M)] (.int .i64 0)∧(∀ s,s∈M→okB s=true∧s.length≤1000000000)∧Rb 4000 (valP (toGm L d) p)∧(valP (toGm L d) p).length=L.length∧txts M=ss (valP (toGm L d) p):=by
 obtain ⟨hg,hgn⟩:=h.gmP
 have hv:=wplays (p:=p) h.gin
 have hrb:=Yav hg h.gmL (Yd5 hp)
 have hL5:=h.n
 have hrc:lC L d p=0:=by unfold lC; rw [if_pos h.ec,hp,if_pos rfl]
 rw [hrc,if_pos rfl] at hv
 have hvl:=(Zln hg (Yd5 hp)).1
 have hok:∀ q,q∈valP (toGm L d) p→NumOk q:=fun q hq=>Zgt (hrb q hq) (by omega)
 rw [show numsR (valP (toGm L d) p) = .tup [.sl (ss (valP (toGm L d) p)),.int .i64 0] from if_pos hok,Yon] at hv
 obtain ⟨V,hV⟩:∃ V,V=valP (toGm L d) p:=⟨_,rfl⟩
 rw [← hV] at hv hvl hrb hok ⊢
 obtain ⟨M,hM⟩:∃ M,M=V.map numS:=⟨_,rfl⟩
 have hMV:M.map toQ=V:=by rw [hM]; exact Y1h hok
 have hMn:M.length=L.length:=by rw [hM,List.length_map,hvl,hgn]
 have hMl:∀ s,s∈M→s.length≤1000000000:=fun s hs=>by
  rw [hM] at hs
  obtain ⟨q,hq,rfl⟩:=List.mem_map.1 hs
  exact Ym6 (hok q hq)
 have hMp:∀ s,s∈M→okB s=true:=fun s hs=>by
  rw [hM] at hs
  obtain ⟨q,hq,rfl⟩:=List.mem_map.1 hs
  unfold okB
  rw [Zwq (hok q hq)]; rfl
 have hMall:M.all okB=true:=List.all_eq_true.2 hMp
 have hnm:=rnums (L:=M) (by omega) hMl
 rw [show numsE M=0 by unfold numsE; rw [if_pos (show (M.all fun s=>(parseL s).isSome)=true from hMall)],Yqw] at hnm
 rw [← hM] at hv
 exact ⟨M,hv,hMn,hMV,hnm,fun s hs=>⟨hMp s hs,hMl s hs⟩,hrb,by rw [hvl,hgn],by rw [hM,Yon]⟩
theorem Z3b {g:Gm}(hg:GmP g) {v:List Rat}:plnB g (bestL g v)=true:=by
 have hl:(bestL g v).length=g.nodes.length:=by unfold bestL; rw [List.length_map,List.length_range]
 unfold plnB
 rw [Bool.and_eq_true,decide_eq_true_eq,List.all_eq_true]
 refine ⟨hl,fun i hi=>?_⟩
 have hi:=List.mem_range.1 hi
 have hok:=hg.ok.node _ (Zbf hi)
 have e:(bestL g v).getD i 0=bestP g v i:=by
  unfold bestL
  rw [List.getD_eq_getElem?_getD,List.getElem?_map,List.getElem?_range hi]; rfl
 unfold plnI
 rw [e]
 unfold bestP
 have b1:=fun sg=>Zfe (v:=v) (sg:=sg) hok.pos (Nat.le_refl _)
 rcases hok.kind with h | h | h
 ·have:=b1 1
  rw [if_neg (by omega),if_pos h,decide_eq_true_eq]
  unfold bestA
  omega
 ·have:=b1 (-1)
  rw [if_neg (by omega),if_neg (by omega),if_pos h,decide_eq_true_eq]
  unfold bestA
  omega
 ·rw [if_pos h,if_neg (by omega),if_neg (by omega),decide_eq_true_eq]
theorem Yql {g:Gm}{v:List Rat}{i:Nat}(hi:i<g.nodes.length):(bestL g v).getD i 0=bestP g v i:=by
 unfold bestL
 rw [List.getD_eq_getElem?_getD,List.getElem?_map,List.getElem?_range hi]; rfl
theorem Y0w {g:Gm}(hg:GmP g) {q:List Int}(hq:POk g q) (h2:∀ i,i<g.nodes.length→(nodeAt g i).kind=2→pget q i=bestA (valG g) (nodeAt g i).to (-1)):∀ i,i<g.nodes.length→rget (valP g q) i≤rget (valG g) i:=by
 have hs:=Yal hg hq
 have hv:=(Zln hg hq).2
 refine hs.le hg.d1 (fun i hi=>by rw [← hv i hi]; exact Rat.le_refl) (fun i hi=>?_)
 rw [Ybf hg i hi]
 unfold planV nextV
 refine dle' hg.d0 ?_ _
 show worthP (nodeAt g i) (pget q i) (valG g)≤worthR (nodeAt g i) (valG g)
 have hok:=hg.ok.node _ (Zbf hi)
 rcases hok.kind with h | h | h
 ·rw [Zec (by omega)]
  exact (Y1s hok h _).2 _ (hq.lt hi (by omega))
 ·rw [Zec (by omega),h2 i hi h]
  unfold worthR
  rw [if_neg (by omega),if_pos h]
  exact Rat.le_refl
 ·rw [Yfu h]
  unfold worthP
  rw [if_pos h]
  exact Rat.le_refl
theorem Yw1 {g:Gm}(hg:GmP g) {q:List Int}(hq:POk g q) (h2:∀ i,i<g.nodes.length→(nodeAt g i).kind=1→pget q i=bestA (valG g) (nodeAt g i).to 1):∀ i,i<g.nodes.length→rget (valG g) i≤rget (valP g q) i:=by
 have hs:=Yal hg hq
 have hv:=(Zln hg hq).2
 refine hs.le hg.d1 (fun i hi=>?_) (fun i hi=>by rw [← hv i hi]; exact Rat.le_refl)
 rw [Ybf hg i hi]
 unfold planV nextV
 refine dle' hg.d0 ?_ _
 show worthR (nodeAt g i) (valG g)≤worthP (nodeAt g i) (pget q i) (valG g)
 have hok:=hg.ok.node _ (Zbf hi)
 rcases hok.kind with h | h | h
 ·rw [Zec (by omega),h2 i hi h]
  unfold worthR
  rw [if_pos h]
  exact Rat.le_refl
 ·rw [Zec (by omega)]
  exact (Yxm hok h _).2 _ (hq.lt hi (by omega))
 ·rw [Yfu h]
  unfold worthP
  rw [if_pos h]
  exact Rat.le_refl
theorem Y4r {g:Gm}(hg:GmP g):valP g (bestL g (valG g))=valG g:=by
 have hp:=Yd5 (Z3b hg (v:=valG g))
 have e:∀ i,i<g.nodes.length→pget (bestL g (valG g)) i=(bestP g (valG g) i).toNat:=fun i hi=>by unfold pget; rw [Yql hi]
 refine Zwm (by rw [(Zln hg hp).1,Zjh hg]) (fun i hi=>?_)
 rw [Zjh hg] at hi
 refine Rat.le_antisymm (Y0w hg hp (fun i hi h=>?_) i hi) (Yw1 hg hp (fun i hi h=>?_) i hi)
 ·rw [e i hi]; unfold bestP; rw [if_neg (by omega),if_pos h]; omega
 ·rw [e i hi]; unfold bestP; rw [if_pos h]; omega
def sadI (L:List Nd) (p o:List Int) (kd:Int) (i:Nat):Int:=match L[i]? with
 | some n=>if n.kind=kd then pk o i % (n.mv.length:Int) else p.getD i 0
 | none=>0
def sadL (L:List Nd) (p o:List Int) (kd:Int):List Int:=(List.range L.length).map (sadI L p o kd)
def mix (p q:List Int) (i:Nat):List Int:=q.take i++p.drop i
theorem Y2u {p q:List Int}{i:Nat}{a b:Int}(ha:p[i]? = some a) (hb:q[i]? = some b):(mix p q i).set i b=mix p q (i+1)∧(a=b→mix p q i=mix p q (i+1)):=by
 have hi:=(List.getElem?_eq_some_iff.1 hb).1
 have hi':=(List.getElem?_eq_some_iff.1 ha).1
 have e:mix p q (i+1)=q.take i++b::p.drop (i+1):=by
  unfold mix
  rw [List.take_add_one,hb]; simp
 have e0:mix p q i=q.take i++a::p.drop (i+1):=by
  unfold mix
  rw [List.drop_eq_getElem_cons hi',(List.getElem?_eq_some_iff.1 ha).2]
 constructor
 ·rw [e0,e,List.set_append,if_neg (by rw [List.length_take]; omega)]
  have:i - (q.take i).length=0:=by rw [List.length_take]; omega
  rw [this]; rfl
 ·intro h
  rw [e0,e,h]
theorem Y90 {p q:List Int}{n:Nat}(hp:p.length=n) (hq:q.length=n) {i:Nat}(hi:i≤n):(mix p q i).length=n:=by
 unfold mix
 rw [List.length_append,List.length_take,List.length_drop]
 omega
theorem set_parts' {P:List AV}{o:Nat}{v:AV}(h:o<P.length):P.take o ++ [v]++P.drop (o+1)=P.set o v:=by
 rw [List.set_eq_take_append_cons_drop,if_pos h]
 simp
theorem Y9q {p:List Int}{i:Nat}{b:Int}(hi:i<p.length):(ivs p).take i ++ [AV.int .i64 b]++(ivs p).drop (i+1)=ivs (p.set i b):=by
 rw [set_parts' (by rw [Zaq]; exact hi)]
 unfold ivs
 rw [List.map_set]
end GoAbs
namespace GoAbs
open Go Go.Proofs
set_option maxHeartbeats 8000000
theorem Yh1 {L:List Nd}{p o:List Int}{kd:Int}:(sadL L p o kd).length=L.length:=by unfold sadL; rw [List.length_map,List.length_range]
theorem Yi4 {L:List Nd}{p o:List Int}{kd:Int}{i:Nat}{n:Nd}(hn:L[i]? = some n):(sadL L p o kd)[i]? = some (if n.kind=kd then pk o i % (n.mv.length:Int) else p.getD i 0):=by
 have hi:=(List.getElem?_eq_some_iff.1 hn).1
 unfold sadL
 rw [List.getElem?_map,List.getElem?_range hi]
 show some (sadI L p o kd i)=_
 unfold sadI
 rw [hn]
theorem Xdz {B0:Blk}{L:List Nd}{o p:List Int}{d:ByteArray}{V:List AV}{kd:Int}(hnd:∀ n,n∈L→NT L.length n) (hL5:L.length≤5) (hB:∀ f,B0.gc f=B0) (hp:p.length=L.length) {K:Ex→St→Prop}
  (hK:∀ e:Nat→AV,Has e [(1,.sl (ivs o)),(5,.sl (L.map ndAV)),(6,.str d),(7,.sl V),(9,.sl (ivs p)),(13,.int .i64 kd),(14,.osl none 1 0 L.length)]→K (.exit 2) ⟨e,[B0,.cells (ivs (sadL L p o kd))]⟩) :
  T Tryz.prog 154 0 (.loop Zfv) ⟨envL [(1,.sl (ivs o)),(5,.sl (L.map ndAV)),(6,.str d),(7,.sl V),(9,.sl (ivs p)),(13,.int .i64 kd),(14,.osl none 1 0 L.length),(15,.int .i64 0)],[B0,.cells (ivs p)]⟩ K:=by
 have hmx:Tryz.prog.follows .mixedOrders=true:=by kernel_rfl
 obtain ⟨ls,hls⟩:∃ ls,ls=L.map ndAV:=⟨_,rfl⟩
 have hlsl:ls.length=L.length:=by rw [hls,List.length_map]
 have hgl:=fun i n (h:L[i]? = some n)=>Xbr h
 obtain ⟨q,hq⟩:∃ q,q=sadL L p o kd:=⟨_,rfl⟩
 have hql:q.length=L.length:=by rw [hq]; exact Yh1
 have hqg:=fun i n (h:L[i]? = some n)=>Yi4 (p:=p) (o:=o) (kd:=kd) h
 rw [← hq] at hK hqg
 rw [← hls] at hK hgl ⊢
 refine Zaf (fun i:Nat=>⟨envL [(1,.sl (ivs o)),(5,.sl ls),(6,.str d),(7,.sl V),(9,.sl (ivs p)),(13,.int .i64 kd),(14,.osl none 1 0 L.length),(15,.int .i64 (i:Int))],[B0,.cells (ivs (mix p q i))]⟩)
  (fun i=>i≤L.length) (fun i=>L.length - i) 0 (by omega) (Zab _ (by simp only [go_sem]; simp)) (fun i hi N hN=>?_)
 unfold Zfv
 by_cases hin:i<L.length
 ·obtain ⟨n,hn⟩:∃ n,L[i]? = some n:=⟨_,List.getElem?_eq_getElem hin⟩
  have hnt:=hnd n (List.mem_of_getElem? hn)
  have hget:=hgl i n hn
  have hmn:=hnt.len
  have hpk:=lpick (p:=o) (i:=i)
  have hfo:=lfold1 (v:=pk o i) (n:=(n.mv.length:Int)) (by omega) (by omega)
  have hqi:=hqg i n hn
  obtain ⟨a,hpi⟩:∃ a,p[i]? = some a:=⟨_,List.getElem?_eq_getElem (by omega)⟩
  have hpd:p.getD i 0=a:=by rw [List.getD_eq_getElem?_getD,hpi]; rfl
  obtain ⟨ms1,ms2⟩:=Y2u hpi hqi
  have hml:(mix p q i).length=L.length:=Y90 hp hql (by omega)
  have hst:=fun b=>Y9q (p:=mix p q i) (b:=b) (show i<(mix p q i).length by omega)
  have hvl:(ivs (mix p q i)).length=L.length:=by rw [Zaq,hml]
  have lms:(n.mv.map mvAV).length=n.mv.length:=List.length_map _
  have q0:(0:Int)≤(i:Int):=by omega
  have q1:(i:Int)<(L.length:Int):=by omega
  have e1:IntKind.i64.wrap ((i:Int)+1)=((i+1:Nat):Int):=by rw [Zac (by omega) (by omega)]; omega
  have b1:i+1≤L.length:=by omega
  by_cases hk:n.kind=kd
  ·rw [if_pos hk] at ms1
   simp only [go_sem,Zb9,Zey,q0,q1,hlsl,hget,hk]
   simp only [go_sem,Zez,hmx]
   refine Zaa hpk (by simp only [go_sem]) ?_
   simp only [go_sem,q0,q1,hlsl,hget,lms]
   refine Zaa hfo (by simp only [go_sem]) ?_
   simp only [go_sem,q0,q1,hvl,b1,Nat.mul_one,hst,ms1,Zex,e1]
   exact hN (i+1) _ (by omega) (by omega) (Zab _ (by simp only [go_sem]))
  ·rw [if_neg hk,hpd] at ms2
   simp only [go_sem,Zb9,Zey,q0,q1,hlsl,hget,hk,Zex,e1]
   rw [ms2 rfl]
   exact hN (i+1) _ (by omega) (by omega) (Zab _ (by simp only [go_sem]))
 ·have hie:i=L.length:=by omega
  subst hie
  have q1:¬ ((L.length:Nat):Int)<(L.length:Int):=by omega
  have hmx':mix p q L.length=q:=by
   unfold mix
   rw [List.take_of_length_le (by omega),List.drop_eq_nil_of_le (by omega),List.append_nil]
  rw [hmx']
  simp only [go_sem,Zb9,hlsl,q1]
  exact hK _ (by simp only [go_sem])
theorem Xdi {H:Heap}{n:Nat}{ls:List AV}{M:List (List UInt8)}{u v:List Rat}{O P:AV}{d:ByteArray}{kd:Int}(hM:M.map toQ=u) (hMo:∀ s,s∈M→okB s=true∧s.length≤1000000000) (hu:Rb 4000 u) (hv:Rb 4000 v) (hul:u.length=n) (hvl:v.length=n) (hls:ls.length=n) (hn5:n≤5)
  (hk:(kd=1∧∀ j,j<n→rget u j≤rget v j)∨(kd=2∧∀ j,j<n→rget v j≤rget u j)) {K:Ex→St→Prop}
  (hK:∀ e:Nat→AV,Has e [(1,O),(5,.sl ls),(6,.str d),(7,.sl (v.map fun q => .agg (rq q))),(9,P),(13,.int .i64 kd)]→K (.exit 4) ⟨e,H⟩) :
  T Tryz.prog 154 0 (.loop Zgc) ⟨envL [(1,O),(5,.sl ls),(6,.str d),(7,.sl (v.map fun q => .agg (rq q))),(9,P),(13,.int .i64 kd),(16,.sl (txts M)),(18,.int .i64 0)],H⟩ K:=by
 have hmx:Tryz.prog.follows .mixedOrders=true:=by kernel_rfl
 have hOm:=fun i (hi:i<u.length)=>Y8u hM hMo hi
 have gV:=fun i (hi:i<v.length)=>Y5b (v:=v) hi
 have lV:(v.map fun q=>AV.agg (rq q)).length=n:=by rw [List.length_map,hvl]
 have lM:(txts M).length=n:=by rw [txts_len', ← hul, ← hM,List.length_map]
 generalize (v.map fun q=>AV.agg (rq q))=Vs at *
 generalize txts M=Ms at *
 refine Zaf (fun i:Nat=>⟨envL [(1,O),(5,.sl ls),(6,.str d),(7,.sl Vs),(9,P),(13,.int .i64 kd),(16,.sl Ms),(18,.int .i64 (i:Int))],H⟩)
  (fun i=>i≤n) (fun i=>n - i) 0 (by omega) (Zab _ (by simp only [go_sem]; simp)) (fun i hi N hN=>?_)
 unfold Zgc
 by_cases hin:i<n
 ·have g1:=gV i (by omega)
  obtain ⟨s,_,g3,sO⟩:=hOm i (by omega)
  have sX:=Xf4 (Fr.of (Y68 hu (show i<u.length by omega))) (Fr.of (Y68 hv (show i<v.length by omega))) (by decide)
  have rl:∀ q:Rat,(rq q).length=4:=fun q=>rfl
  have bvsr:∀ {H ids} {q:Rat},BVs H ids (rq q) (rq q)=True:=fun {H ids q}=>Ymr
  have q0:(0:Int)≤(i:Int):=by omega
  have q1:(i:Int)<(n:Int):=by omega
  have e1:IntKind.i64.wrap ((i:Int)+1)=((i+1:Nat):Int):=by rw [Zac (by omega) (by omega)]; omega
  have h12:(kd=1∧¬ 0<cmpR (rget u i) (rget v i))∨(kd=2∧¬ cmpR (rget u i) (rget v i)<0):=by
   rcases hk with ⟨h,h'⟩ | ⟨h,h'⟩
   ·have:=h' i hin
    exact .inl ⟨h,by unfold cmpR; split <;> grind⟩
   ·have:=h' i hin
    exact .inr ⟨h,by unfold cmpR; split <;> grind⟩
  rcases h12 with ⟨hk1,hc⟩ | ⟨hk1,hc⟩
  ·subst hk1
   simp only [go_sem,Zcd,Zcb,q0,q1,hls,lV,lM,g1,g3,rl,Zz5,Z6i,hmx]
   refine Zaa sO (by simp only [go_sem]) ?_
   simp only [go_sem,q0,q1,lV,g1,rl,Zz5,Z6i]
   refine Zaa sX (by simp only [go_sem,bvsr]) ?_
   simp only [go_sem,Zeu,hc,Zei,e1]
   exact hN (i+1) _ (by omega) (by omega) (Zab _ (by simp only [go_sem]))
  ·subst hk1
   simp only [go_sem,Zcd,Zcb,q0,q1,hls,lV,lM,g1,g3,rl,Zz5,Z6i,hmx]
   refine Zaa sO (by simp only [go_sem]) ?_
   simp only [go_sem,q0,q1,lV,g1,rl,Zz5,Z6i]
   refine Zaa sX (by simp only [go_sem,bvsr]) ?_
   simp only [go_sem,Zeu,hc,Zei,e1]
   exact hN (i+1) _ (by omega) (by omega) (Zab _ (by simp only [go_sem]))
 ·have hie:i=n:=by omega
  subst hie
  have q1:¬ ((i:Nat):Int)<(i:Int):=by omega
  simp only [go_sem,Zcd,hls,q1]
  exact hK _ (by simp only [go_sem])
theorem Yq2 {L:List Nd}{d:List UInt8}(h:LT L d) {p o:List Int}{kd:Int}(hp:plnB (toGm L d) p=true) (hkd:kd=1∨kd=2):plnB (toGm L d) (sadL L p o kd)=true:=by
 obtain ⟨hg,hgn⟩:=h.gmP
 unfold plnB at *
 rw [Bool.and_eq_true,decide_eq_true_eq,List.all_eq_true] at *
 refine ⟨by rw [Yh1,hgn],fun i hi=>?_⟩
 have hpi:=hp.2 i hi
 have hi':i<L.length:=by have:=List.mem_range.1 hi; omega
 obtain ⟨n,hn⟩:∃ n,L[i]? = some n:=⟨_,List.getElem?_eq_getElem hi'⟩
 have hnt:=h.nd n (List.mem_of_getElem? hn)
 have hat:nodeAt (toGm L d) i=toGN n:=by
  show (L.map toGN).getD i default=_
  rw [List.getD_eq_getElem?_getD,List.getElem?_map,hn]; rfl
 have hgd:(sadL L p o kd).getD i 0=if n.kind=kd then pk o i % (n.mv.length:Int) else p.getD i 0:=by
  rw [List.getD_eq_getElem?_getD,Yi4 hn]; rfl
 unfold plnI at hpi ⊢
 rw [hat] at hpi ⊢
 rw [hgd]
 by_cases hk:n.kind=kd
 ·rw [if_pos hk]
  have h3:(toGN n).kind≠3:=by show n.kind.toNat≠3; omega
  rw [if_neg h3,decide_eq_true_eq]
  have hl:(toGN n).to.length=n.mv.length:=List.length_map _
  rw [hl]
  have:=hnt.len
  exact ⟨Int.emod_nonneg _ (by omega),Int.emod_lt_of_pos _ (by omega)⟩
 ·rw [if_neg hk]; exact hpi
theorem Xdc {L:List Nd}{d:List UInt8}(h:LT L d) {o:List Int}{kd:Int}(hkd:kd=1∨kd=2) :
  (kd=1∧∀ j,j<L.length→rget (valP (toGm L d) (sadL L (bestL (toGm L d) (valG (toGm L d))) o kd)) j≤rget (valG (toGm L d)) j)∨(kd=2∧∀ j,j<L.length→rget (valG (toGm L d)) j≤rget (valP (toGm L d) (sadL L (bestL (toGm L d) (valG (toGm L d))) o kd)) j):=by
 obtain ⟨hg,hgn⟩:=h.gmP
 have hpo:=Yd5 (Yq2 h (p:=bestL (toGm L d) (valG (toGm L d))) (o:=o) (Z3b hg) hkd)
 have key:∀ i,i<(toGm L d).nodes.length→((nodeAt (toGm L d) i).kind:Int)≠kd→pget (sadL L (bestL (toGm L d) (valG (toGm L d))) o kd) i=(bestP (toGm L d) (valG (toGm L d)) i).toNat:=fun i hi hne=>by
  obtain ⟨n,hn⟩:∃ n,L[i]? = some n:=⟨_,List.getElem?_eq_getElem (by omega)⟩
  have hnt:=h.nd n (List.mem_of_getElem? hn)
  have hat:nodeAt (toGm L d) i=toGN n:=by
   show (L.map toGN).getD i default=_
   rw [List.getD_eq_getElem?_getD,List.getElem?_map,hn]; rfl
  have hnk:n.kind≠kd:=by
   rw [hat] at hne
   have e:((toGN n).kind:Int)=n.kind:=by show (n.kind.toNat:Int)=n.kind; have:=hnt.kind; omega
   rw [e] at hne
   exact hne
  unfold pget
  rw [List.getD_eq_getElem?_getD,Yi4 hn,if_neg hnk]
  show ((bestL _ _).getD i 0).toNat=_
  rw [Yql hi]
 rcases hkd with e | e
 ·refine .inl ⟨e,fun j hj=>Y0w hg hpo (fun i hi h2=>?_) j (by omega)⟩
  rw [key i hi (by omega)]
  unfold bestP
  rw [if_neg (by omega),if_pos h2]; omega
 ·refine .inr ⟨e,fun j hj=>Yw1 hg hpo (fun i hi h2=>?_) j (by omega)⟩
  rw [key i hi (by omega)]
  unfold bestP
  rw [if_pos h2]; omega
end GoAbs
namespace GoAbs
open Go Go.Proofs
set_option maxHeartbeats 8000000
theorem LT.ndg {L:List Nd}{d:List UInt8}(h:LT L d):∀ n,n∈L→NdG L.length n:=fun n hn=>Xdk (h.nd n hn).facts.1 (h.nd n hn).facts.2.1 (h.nd n hn).facts.2.2
theorem Xfe {B0:Blk}{L:List Nd}{t:List UInt8}{o:List Int}(hlt:LT L t) (hB:∀ f,B0.gc f=B0) {K:Ex→St→Prop}
  (hK:∀ e:Nat→AV,K (.exit 0) ⟨e,[B0]⟩) :
  T Tryz.prog 154 0 (.loop Zf6) ⟨envL [(1,.sl (ivs o)),(5,.sl (L.map ndAV)),(6,.str (bs t)),(7,.sl ((valG (toGm L t)).map fun q => .agg (rq q))),(9,.sl (ivs (bestL (toGm L t) (valG (toGm L t))))),(13,.int .i64 1)],[B0]⟩ K:=by
 have hmx:Tryz.prog.follows .mixedOrders=true:=by kernel_rfl
 obtain ⟨hg,hgn⟩:=hlt.gmP
 have hL5:=hlt.n
 have hvb:=Ygi hg hlt.gmL
 have hvl:=Zjh hg
 have hplb:=Z3b hg (v:=valG (toGm L t))
 have hsl:=fun kd (h:kd=1∨kd=2)=>Xdc hlt (o:=o) h
 have hsp:=fun kd (h:kd=1∨kd=2)=>Yq2 hlt (o:=o) (p:=bestL (toGm L t) (valG (toGm L t))) hplb h
 obtain ⟨p,hp⟩:∃ p,p=bestL (toGm L t) (valG (toGm L t)):=⟨_,rfl⟩
 rw [← hp] at hplb hsl hsp ⊢
 have hpl:p.length=L.length:=by
  unfold plnB at hplb
  rw [Bool.and_eq_true,decide_eq_true_eq] at hplb
  rw [hplb.1,hgn]
 have cl:∀ y,y∈ivs p→y.cells.length=1:=fun y hy=>by
  obtain ⟨z,_,rfl⟩:=List.mem_map.1 hy
  rfl
 have cm:∀ q:List Int,(ivs q).flatMap AV.cells=ivs q:=fun q=>by
  induction q with
  | nil=>rfl
  | cons a l ih=>show AV.int .i64 a::_=AV.int .i64 a::_; congr 1
 have lL:(L.map ndAV).length=L.length:=List.length_map _
 refine Znx (fun k:Nat=>⟨envL [(1,.sl (ivs o)),(5,.sl (L.map ndAV)),(6,.str (bs t)),(7,.sl ((valG (toGm L t)).map fun q => .agg (rq q))),(9,.sl (ivs p)),(13,.int .i64 (k:Int))],[B0]⟩)
  (fun k=>1≤k∧k≤3) (fun k=>3 - k) 1 (by omega) (Zab _ (by simp only [go_sem]; simp)) (fun k hk N hN=>?_)
 unfold Zf6
 by_cases hk3:k<3
 ·have q1:(k:Int)≤2:=by omega
  have hkd:(k:Int)=1∨(k:Int)=2:=by omega
  obtain ⟨M,m1,m2,m3,m4,m5,m6,m7,_⟩:=lplayed hlt (hsp k hkd)
  have lM:(txts M).length=L.length:=by rw [txts_len',m2]
  have e1:IntKind.i64.wrap ((k:Int)+1)=((k+1:Nat):Int):=by rw [Zac (by omega) (by omega)]; omega
  have s8:L.length*8≤1099511627776:=by omega
  refine Zbd 0 rfl ?_
  simp only [go_sem,Zf1,q1]
  refine Za8 (Za3 (Zbd 0 rfl ?_))
  simp only [go_sem,Zkd,Zaq,hpl,s8]
  refine ⟨cl,?_⟩
  rw [cm]
  refine Za8 (Za8 (T_W ?_))
  simp only [go_sem,Zjq]
  refine Za3 (Zar [(1,.sl (ivs o)),(5,.sl (L.map ndAV)),(6,.str (bs t)),(7,.sl ((valG (toGm L t)).map fun q => .agg (rq q))),(9,.sl (ivs p)),(13,.int .i64 (k:Int)),(14,.osl none 1 0 L.length),(15,.int .i64 0)] (by simp only [go_sem]) (Xdz hlt.nd hL5.2 hB hpl (fun e he=>?_)))
  obtain ⟨a1,a2,a3,a4,a5,a6,a7,_⟩:=he
  refine Zw0 [1] [(1,.sl (ivs o)),(5,.sl (L.map ndAV)),(6,.str (bs t)),(7,.sl ((valG (toGm L t)).map fun q => .agg (rq q))),(9,.sl (ivs p)),(13,.int .i64 (k:Int)),(14,.sl (ivs (sadL L p o (k:Int))))] ?_ ?_
  ·refine ⟨.inr a1,.inr a2,.inr a3,.inr a4,.inr a5,.inr a6,.inl ?_,trivial⟩
   have hbv:=Yw8 (H := [B0,Blk.cells (ivs (sadL L p o (k:Int)))]) (ids := [1]) (b:=1) (p:=sadL L p o (k:Int)) rfl (by simp)
   rw [Yh1] at hbv
   show BV _ _ (e 14) _
   rw [a7]
   exact hbv
  refine Zbd 1 rfl ?_
  simp only [go_sem,Zj7]
  refine Zaa m1 (by simp only [go_sem]) ?_
  simp only [go_sem,Zkr,lM,lL]
  refine Zaa m4 (by simp only [go_sem]) ?_
  simp only [go_sem]
  refine Za8 (T_W ?_)
  simp only [go_sem,Zkp]
  refine Za3 (Zar [(1,.sl (ivs o)),(5,.sl (L.map ndAV)),(6,.str (bs t)),(7,.sl ((valG (toGm L t)).map fun q => .agg (rq q))),(9,.sl (ivs p)),(13,.int .i64 (k:Int)),(16,.sl (txts M)),(18,.int .i64 0)] (by simp only [go_sem]) (Xdi (n:=L.length) m3 m5 m6 hvb m7 (by rw [hvl,hgn]) lL hL5.2 (hsl k hkd) (fun e he=>?_)))
  show T Tryz.prog 154 0 (.rg false Zew) _ _
  obtain ⟨a1,a2,a3,a4,a5,a6,_⟩:=he
  refine T_W ?_
  simp only [go_sem,Zew,a6,e1]
  refine hN (k+1) _ (by omega) (by omega) (Zcg (Zht [0] (by decide) (fun i hi=>by omega) [(1,.sl (ivs o)),(5,.sl (L.map ndAV)),(6,.str (bs t)),(7,.sl ((valG (toGm L t)).map fun q => .agg (rq q))),(9,.sl (ivs p)),(13,.int .i64 ((k+1:Nat):Int))] (by simp only [go_sem,a1,a2,a3,a4,a5])) ?_)
  show St.mk _ [B0.gc _]=_
  rw [hB]
  rfl
 ·have hke:k=3:=by omega
  subst hke
  have q1:¬ ((3:Nat):Int)≤2:=by omega
  refine Zbd 0 rfl ?_
  simp only [go_sem,Zf1,q1]
  exact hK _
theorem lsaddle {n d:Int}{ks rs mv o:List Int}(hn:0≤n∧n≤255) (hd:0≤d∧d≤255) (_h1:∀ n,n∈ks→(Lit.int .i64 n).wf=true) (_h2:∀ n,n∈rs→(Lit.int .i64 n).wf=true) (_h3:∀ n,n∈mv→(Lit.int .i64 n).wf=true) (_h4:∀ n,n∈o→(Lit.int .i64 n).wf=true) :
  SpecV Tryz.prog Z9y [.agg [.int .u8 n,.int .u8 d,.sl (ivs ks),.sl (ivs rs),.sl (ivs mv)],.sl (ivs o)] (.bool true):=by
 have hgm:=lgame (ks:=ks) (rs:=rs) (mv:=mv) hn hd
 have hlt:=Xf3 hn hd ks rs mv
 unfold tabAV at hgm
 obtain ⟨L,hL⟩:∃ L,L=tabL n ks rs mv:=⟨_,rfl⟩
 obtain ⟨t,ht⟩:∃ t,t=numS (mdD d):=⟨_,rfl⟩
 rw [← hL, ← ht] at hgm hlt
 obtain ⟨hg,hgn⟩:=hlt.gmP
 have hL5:=hlt.n
 have hv:=lvals hlt
 have hb:=wbest hlt.gin
 rw [if_pos hlt.ec] at hb
 have hvl:=Zjh hg
 have hplb:=Z3b hg (v:=valG (toGm L t))
 obtain ⟨M,m1,m2,m3,m4,m5,m6,m7,m8⟩:=lplayed hlt hplb
 have hrp:=rplan (d:=t) (p:=bestL (toGm L t) (valG (toGm L t))) hlt.ndg (by omega)
 rw [hplb] at hrp
 rw [Y4r hg] at m6 m7 m8
 have hok:∀ q,q∈valG (toGm L t)→NumOk q:=fun q hq=>Zgt (m6 q hq) (by omega)
 have hare:=rare m6 (by omega) (by omega) hok
 rw [← m8] at hare
 refine Za4 Z5p (by simp) (Zbd 5 rfl ?_)
 unfold Zsq
 simp only [go_sem,Zlo,Zll]
 refine Zaa hgm (by simp only [go_sem]) ?_
 simp only [go_sem,Zlw]
 refine Zaa hv (by simp only [go_sem]) ?_
 simp only [go_sem,Zlm]
 refine Zaa hb (by simp only [go_sem]) ?_
 simp only [go_sem,Zle]
 refine Zaa m1 (by simp only [go_sem]) ?_
 simp only [go_sem,Zlr]
 refine Zaa hrp (by simp only [go_sem]) ?_
 simp only [go_sem]
 refine Zaa hare (by simp only [go_sem,rowV]) ?_
 simp only [go_sem]
 refine Zaa wlives (by simp only [go_sem]) ?_
 simp only [go_sem]
 refine Za8 (Za8 (T_W ?_))
 simp only [go_sem,Zla,rowV]
 refine Za3 (Zar [(1,.sl (ivs o)),(5,.sl (L.map ndAV)),(6,.str (bs t)),(7,.sl ((valG (toGm L t)).map fun q => .agg (rq q))),(9,.sl (ivs (bestL (toGm L t) (valG (toGm L t))))),(13,.int .i64 1)] (by simp only [go_sem]) (Xfe hlt (fun f=>rfl) (fun e=>?_)))
 refine T_W ?_
 simp only [go_sem,Zkc]
end GoAbs
