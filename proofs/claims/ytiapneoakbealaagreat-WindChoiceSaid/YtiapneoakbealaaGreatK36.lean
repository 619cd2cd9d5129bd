/- Lemmas for the claim (contracts of the functions that it reaches, and what they compute), without conditions. -/
import Derived.Test.YtiapneoakbealaaGreatK35
import Derived.Test.YtiapneoakbealaaGreatProg
import Derived.KernelRfl
set_option linter.unusedVariables false
set_option linter.unusedSimpArgs false
set_option maxRecDepth 10000
set_option maxHeartbeats 2000000
namespace GoAbs
open Go Go.Proofs
theorem Opens.mono {P:Program}{t:TypeId}{S S':List AV→Prop}(h:Opens P t S) (hs:∀ av,S av→S' av):Opens P t S':=fun enc w base spare held fuel cs x hx=>by
 obtain ⟨av,h1,h2⟩:=h enc w base spare held fuel cs x hx
 exact ⟨av,h1,hs av h2⟩
theorem Ys8 {P:Program}{f:Nat}{xs:List AV}{vs:Array Value}{w:World}(h:SpecV P f xs (.bool true)) (hr:Reps w noX noPl xs vs):Calls P f vs w fun e w'=>e = .returned (.bool true)∧Go.RowKit.Below w.heap.size w w' :=
 (h.2 noX w vs (fun _ hb=>hb.elim) hr).mono fun e w' he=>by
  obtain ⟨v,rfl,hv,hb⟩:=he
  cases hv
  exact ⟨rfl,hb⟩
theorem Ya5 {w:World}{x:AV}{xs:List AV}{v:Value}{l:List Value}(h:Rep w noX noPl x v) (k:Reps w noX noPl xs l.toArray):Reps w noX noPl (x::xs) (v::l).toArray:=by
 refine ⟨by have:=k.1; simp at this ⊢; exact this,fun i y u hy hu=>?_⟩
 cases i with
 | zero=>simp at hy hu; subst hy hu; exact h
 | succ i=>exact k.2 i y u (by simpa using hy) (by simpa using hu)
theorem reps3 {w:World}{x y z:AV}{v u t:Value}(h:Rep w noX noPl x v) (k:Rep w noX noPl y u) (m:Rep w noX noPl z t):Reps w noX noPl [x,y,z] #[v,u,t]:=Ya5 h (Ya5 k (Ya5 (l := []) m ⟨rfl,fun i z t hz=>by simp at hz⟩))
theorem Yy2 {P:Program}{W:World}{r:Reach}{base:Nat}{t:TypeId}{v:Value}{k:IntKind}(ht:P.underlying t=some (.int k)) (h:Value.okWide P W r base t v):v.cells = #[v]:=by
 obtain ⟨n,rfl⟩:=Go.WideShapes.okWide_int ht h; rfl
theorem Y2a {n:Int}(h:(Lit.int .u8 n).wf=true):0≤n∧n≤255:=bounds_u8 h
theorem opensInts:Opens Tryz.prog 36 (fun av=>∃ p:List Int,av = [.sl (ivs p)]∧∀ n,n∈p→(Lit.int .i64 n).wf=true):=by
 refine Opens.mono (Ywl (e:=3) (fun x ⟨n,hx,_⟩=>by cases hx; rfl) Tryz.underlying36 (by kernel_rfl) (Zsn Tryz.underlying3)) ?_
 rintro av ⟨l,rfl,h⟩
 have:∀ l:List AV,(∀ c,c∈l→∃ n:Int,[c] = [AV.int .i64 n]∧(Lit.int .i64 n).wf=true)→∃ p:List Int,l=ivs p∧∀ n,n∈p→(Lit.int .i64 n).wf=true:=by
  intro l
  induction l with
  | nil=>intro _; exact ⟨[],rfl,fun n hn=>by simp at hn⟩
  | cons c l ih =>
   intro h
   obtain ⟨p,hp,hw⟩:=ih (fun d hd=>h d (by simp [hd]))
   obtain ⟨n,hn,hnw⟩:=h c (by simp)
   cases hn
   refine ⟨n::p,by rw [hp]; rfl,fun m hm=>?_⟩
   rcases List.mem_cons.1 hm with rfl | hm
   ·exact hnw
   ·exact hw m hm
 obtain ⟨p,hp,hw⟩:=this l h
 exact ⟨p,by rw [hp],hw⟩
theorem opensTable:Opens Tryz.prog 44 (fun av=>∃ (a b:Int) (p q r:List Int),av = [.int .u8 a,.int .u8 b,.sl (ivs p),.sl (ivs q),.sl (ivs r)]∧(Lit.int .u8 a).wf=true∧(Lit.int .u8 b).wf=true∧(∀ n,n∈p→(Lit.int .i64 n).wf=true)∧(∀ n,n∈q→(Lit.int .i64 n).wf=true)∧(∀ n,n∈r→(Lit.int .i64 n).wf=true)):=by
 refine Opens.mono (Y1t (n:=5) Tryz.underlying44 (by kernel_rfl) (Zit (off:=0) (k:=1) rfl (by kernel_rfl) (by omega) (Zsn Tryz.underlying5) (Zit (off:=1) (k:=1) rfl (by kernel_rfl) (by omega) (Zsn Tryz.underlying5)
  (Zit (off:=2) (k:=1) rfl (by kernel_rfl) (by omega) opensInts (Zit (off:=3) (k:=1) rfl (by kernel_rfl) (by omega) opensInts (Zit (off:=4) (k:=1) rfl (by kernel_rfl) (by omega) opensInts Yql)))))) ?_
 rintro av ⟨a,_,rfl,_,⟨n,rfl,w1⟩,c,_,rfl,_,⟨m,rfl,w2⟩,e,_,rfl,_,⟨p,rfl,w3⟩,g,_,rfl,_,⟨q,rfl,w4⟩,i,_,rfl,_,⟨r,rfl,w5⟩,rfl⟩
 exact ⟨n,m,p,q,r,rfl,w1,w2,w3,w4,w5⟩
end GoAbs
namespace GoAbs
open Go Go.Proofs
def Zu5:List IOp := [oI 4 (.mv (.c (.bool false))) 0]
def Zsm:List IOp := [mI 6 0 0,oI 7 (.len (.t 6)) 0,mI 8 1 0,oI 9 (.len (.t 8)) 0,oI 10 (.bin .neq (.t 7) (.t 9)) 0]
def Ybp:List IOp := [oI 4 (.mv (.c (.bool false))) 0]
def Zrc:List IOp := [oI 5 (.mv (cI 0)) 0]
def Ziw:List IOp := [mI 11 5 0,mI 12 0 0,oI 13 (.len (.t 12)) 0,oI 14 (.bin .lss (.t 11) (.t 13)) 0]
def Zi3:List IOp := [mI 17 0 0,mI 18 5 0,xI 19 1 17 18 0,lI 20 19 0,mI 21 1 0,mI 22 5 0,xI 23 1 21 22 0,lI 24 23 0,oI 25 (.bin .neq (.t 20) (.t 24)) 0]
@[go_sem ↓] theorem Z4c : autoK Zi3 = (0, 0) := by kernel_rfl
@[go_sem] theorem Ypk : autoK [mI 17 0 0, mI 18 5 0, xI 19 1 17 18 0, lI 20 19 0, mI 21 1 0, mI 22 5 0, xI 23 1 21 22 0, lI 24 23 0, oI 25 (.bin .neq (.t 20) (.t 24)) 0] = (0, 0) := Z4c
def Yb8:List IOp := [oI 4 (.mv (.c (.bool false))) 0]
def Zse:List IOp := [mI 15 5 0,oI 16 (.bin .add (.t 15) (cI 1)) 0,mI 5 16 0]
def Ztx:CC := .seq (.seq (.rg false Ziw) (.cond (.t 14) .skip (.exit 0))) (.seq (.block 1 (.seq (.rg true Zi3) (.cond (.t 25) (.seq (.rg false Yb8) .ret) .skip))) (.rg false Zse))
def Zrq:List IOp := [oI 4 (.mv (.c (.bool true))) 0]
def Z4w:CC := .seq (.rg false Zu5) (.seq (.seq (.rg false Zsm) (.cond (.t 10) (.seq (.rg false Ybp) .ret) .skip)) (.seq (.seq (.rg false Zrc) (.block 0 (.loop Ztx))) (.seq (.rg false Zrq) .ret)))
abbrev Yf1:Nat:=56
theorem Ych:fnOk Tryz.prog 56=some (26,Z4w,[.tmp 4]):=by kernel_rfl
end GoAbs
namespace GoAbs
open Go Go.Proofs
def Zb (b:Nat) (q:Rat):Prop:=∃ z:Int,q=z∧z.natAbs<2 ^ b
def Zq (q:Rat):Prop:=∃ z:Int,q=z
theorem Zb.q {b:Nat}{q:Rat}(h:Zb b q):Zq q:=⟨h.choose,h.choose_spec.1⟩
theorem Zq.add {a b:Rat}(h:Zq a) (k:Zq b):Zq (a+b):=by
 obtain ⟨x,rfl⟩:=h; obtain ⟨y,rfl⟩:=k
 exact ⟨x+y,by simp⟩
theorem Zq.mul {a b:Rat}(h:Zq a) (k:Zq b):Zq (a*b):=by
 obtain ⟨x,rfl⟩:=h; obtain ⟨y,rfl⟩:=k
 exact ⟨x*y,by simp⟩
theorem Zq.sub {a b:Rat}(h:Zq a) (k:Zq b):Zq (a - b):=by
 obtain ⟨x,rfl⟩:=h; obtain ⟨y,rfl⟩:=k
 exact ⟨x - y,by simp⟩
theorem Zq.sum {R:List Nat}{f:Nat→Rat}(h:∀ i,i∈R→Zq (f i)):Zq (sumL R f):=by
 induction R with
 | nil=>exact ⟨0,rfl⟩
 | cons a R ih=>rw [Zar]; exact (h a List.mem_cons_self).add (ih fun i hi=>h i (List.mem_cons_of_mem _ hi))
theorem Zb.mono {a b:Nat}{q:Rat}(h:Zb a q) (hab:a≤b):Zb b q:=by
 obtain ⟨z,h1,h2⟩:=h
 exact ⟨z,h1,Nat.lt_of_lt_of_le h2 (Nat.pow_le_pow_right (by omega) hab)⟩
theorem Zb.mul {a b:Nat}{p q:Rat}(h:Zb a p) (k:Zb b q):Zb (a+b) (p*q):=by
 obtain ⟨x,rfl,h2⟩:=h; obtain ⟨y,rfl,k2⟩:=k
 exact ⟨x*y,by simp,by rw [Int.natAbs_mul,Nat.pow_add]; exact Nat.mul_lt_mul'' h2 k2⟩
theorem Zb.sub {a:Nat}{p q:Rat}(h:Zb a p) (k:Zb a q):Zb (a+1) (p - q):=by
 obtain ⟨x,rfl,h2⟩:=h; obtain ⟨y,rfl,k2⟩:=k
 exact ⟨x - y,by simp,by rw [Nat.pow_succ]; omega⟩
def fbit:Nat→Nat→Nat
 | 0,_=>1
 | k+1,b=>b+fbit k (2*b+1)
theorem Yu7:∀ {k c b:Nat}{A:Nat→Nat→Rat}{r x:Nat→Rat},(∀ i j,c≤i→i<c+k→c≤j→j<c+k→Zb b (A i j))→(∀ i,c≤i→i<c+k→Zb b (r i)) →
  (∀ i,c≤i→i<c+k→(∀ j,c≤j→j<c+k→j≠i→A i j≤0)∧0<sumL (List.range' c k) (A i))→(∀ i,c≤i→i<c+k→sumL (List.range' c k) (fun j=>x j*A i j)=r i) →
  ∃ D:Rat,0<D∧Zb (fbit k b) D∧∀ j,c≤j→j<c+k→Zq (x j*D)
 | 0,c,b,A,r,x,_,_,_,_=>⟨1,by decide,⟨1,rfl,by unfold fbit; decide⟩,fun j h1 h2=>by omega⟩
 | k+1,c,b,A,r,x,hA,hr,hD,hx=>by
  obtain ⟨a1,a2⟩:=hD c (Nat.le_refl _) (by omega)
  have hxc:=hx c (Nat.le_refl _) (by omega)
  rw [List.range'_succ,Zar] at a2 hxc
  have hp:0<A c c:=by
   have:=Z94 (R:=List.range' (c+1) k) (f:=A c) (fun j hj=>by have hj':=List.mem_range'_1.1 hj; exact a1 j (by omega) (by omega) (by omega))
   grind
  obtain ⟨D,d1,d2,d3⟩:=Yu7 (k:=k) (c:=c+1) (b:=2*b+1) (A:=fun i j=>A i j*A c c - A i c*A c j) (r:=fun i=>r i*A c c - A i c*r c) (x:=x)
   (fun i j h1 h2 h3 h4=>by
    have x1:=(hA i j (by omega) (by omega) (by omega) (by omega)).mul (hA c c (by omega) (by omega) (by omega) (by omega))
    have x2:=(hA i c (by omega) (by omega) (by omega) (by omega)).mul (hA c j (by omega) (by omega) (by omega) (by omega))
    exact (x1.sub x2).mono (by omega))
   (fun i h1 h2=>by
    have x1:=(hr i (by omega) (by omega)).mul (hA c c (by omega) (by omega) (by omega) (by omega))
    have x2:=(hA i c (by omega) (by omega) (by omega) (by omega)).mul (hr c (by omega) (by omega))
    exact (x1.sub x2).mono (by omega))
   (fun i h1 h2=>by
    obtain ⟨b1,b2⟩:=hD i (by omega) (by omega)
    have hic:=b1 c (Nat.le_refl _) (by omega) (by omega)
    refine ⟨fun j h3 h4 hji=>?_,?_⟩
    ·have x1:=b1 j (by omega) (by omega) hji
     have x2:=a1 j (by omega) (by omega) (by omega)
     have x3:=Rat.mul_nonneg (show 0 ≤ -A i j by grind) (Rat.le_of_lt hp)
     have x4:=Rat.mul_nonneg (show 0 ≤ -A i c by grind) (show 0 ≤ -A c j by grind)
     grind
    ·rw [List.range'_succ,Zar] at b2
     have e:sumL (List.range' (c+1) k) (fun j=>A i j*A c c - A i c*A c j)=A c c*sumL (List.range' (c+1) k) (A i)+(-(A i c))*sumL (List.range' (c+1) k) (A c):=by
      rw [← Zft, ← Zft, ← Z2a]
      exact Za2 (fun j _=>by grind)
     rw [e]
     have x1:=Rat.mul_pos hp b2
     have x2:=Rat.mul_nonneg (show 0 ≤ -A i c by grind) (Rat.le_of_lt a2)
     generalize sumL (List.range' (c+1) k) (A i)=s at *
     generalize sumL (List.range' (c+1) k) (A c)=t at *
     grind)
   (fun i h1 h2=>by
    have hxi:=hx i (by omega) (by omega)
    rw [List.range'_succ,Zar] at hxi
    have e:sumL (List.range' (c+1) k) (fun j=>x j*(A i j*A c c - A i c*A c j))=A c c*sumL (List.range' (c+1) k) (fun j=>x j*A i j)+(-(A i c))*sumL (List.range' (c+1) k) (fun j=>x j*A c j):=by
     rw [← Zft, ← Zft, ← Z2a]
     exact Za2 (fun j _=>by grind)
    rw [e, ← hxi, ← hxc]
    grind)
  refine ⟨A c c*D,Rat.mul_pos hp d1,?_,fun j h1 h2=>?_⟩
  ·exact (hA c c (by omega) (by omega) (by omega) (by omega)).mul d2
  ·by_cases hj:j=c
   ·subst hj
    have e:x j*(A j j*D)=D*r j - sumL (List.range' (j+1) k) (fun i=>x i*D*A j i):=by
     have e2:sumL (List.range' (j+1) k) (fun i=>x i*D*A j i)=D*sumL (List.range' (j+1) k) (fun i=>x i*A j i):=by
      rw [← Zft]; exact Za2 (fun i _=>by grind)
     rw [e2, ← hxc]; grind
    rw [e]
    refine (d2.q.mul (hr j (by omega) (by omega)).q).sub (Zq.sum fun i hi=>?_)
    have hi':=List.mem_range'_1.1 hi
    exact (d3 i (by omega) (by omega)).mul (hA j i (by omega) (by omega) (by omega) (by omega)).q
   ·have h3:=(d3 j (by omega) (by omega)).mul (hA c c (by omega) (by omega) (by omega) (by omega)).q
    rw [show x j*(A c c*D)=x j*D*A c c by grind]
    exact h3
end GoAbs
namespace GoAbs
open Go Go.Proofs
def Lt9 (q:Rat):Prop:=q.den≤9∧q.num.natAbs<10000
structure GmL (g:Gm):Prop where
 rew:∀ q,q∈g.rew→Lt9 q
 d:Lt9 g.d
 odds:∀ x,x∈g.nodes→x.kind=3→∀ q,q∈x.odds→Lt9 q
 n:g.nodes.length≤5
theorem Y51 {n:Nat}(h:n≤9) (h0:0<n):n∣2520:=by
 have:∀ m,m<10→0<m→m∣2520:=by decide
 exact this n (by omega) h0
theorem Yb6 (q:Rat):q*q.den=q.num:=by
 have h0:(q.den:Rat)≠0:=by
  intro h
  have h1:q.den=0:=by exact_mod_cast h
  exact q.den_nz h1
 have h:=Rat.num_divInt_den q
 rw [Rat.divInt_eq_div] at h
 have e:((q.den:Int):Rat)=(q.den:Rat):=by norm_cast
 rw [e] at h
 generalize (q.den:Rat)=b at *
 generalize (q.num:Rat)=a at *
 grind
theorem Lt9.z {q:Rat}(h:Lt9 q):Zb 26 (q*2520):=by
 obtain ⟨k,hk⟩:=Y51 h.1 q.den_pos
 have e:(2520:Rat)=q.den*k:=by exact_mod_cast hk
 refine ⟨q.num*k,?_,?_⟩
 ·rw [e, ← Rat.mul_assoc,Yb6]; norm_cast
 ·rw [Int.natAbs_mul,Int.natAbs_natCast]
  have h1:k≤2520:=by
   have:=q.den_pos
   have:1*k≤q.den*k:=Nat.mul_le_mul_right _ (by omega)
   omega
  have:=Nat.mul_le_mul (show q.num.natAbs≤9999 by have:=h.2; omega) h1
  omega
theorem Zb.add {a:Nat}{p q:Rat}(h:Zb a p) (k:Zb a q):Zb (a+1) (p+q):=by
 obtain ⟨x,rfl,h2⟩:=h; obtain ⟨y,rfl,k2⟩:=k
 exact ⟨x+y,by simp,by rw [Nat.pow_succ]; omega⟩
abbrev N2:Rat:=2520*2520
def Ze (c:Nat) (M:RM):Prop:=∀ i j,Zb c (mget M i j*N2)
theorem Ze.add {n c:Nat}{M:RM}(h:Ze c M) (hW:Wid n M) {i j:Nat}{x:Rat}(hi:i<M.length) (hj:j<n) (hx:Zb c (x*N2)):Ze (c+1) (addAt M i j x):=fun a b=>by
 rw [Z4b hW hi hj]
 split
 ·rw [Rat.add_mul]; exact (h a b).add hx
 ·rw [Rat.add_zero]; exact (h a b).mono (by omega)
theorem Lt9.neg {q:Rat}(h:Lt9 q):Zb 38 (-q*N2):=by
 obtain ⟨z,h1,h2⟩:=h.z
 refine ⟨-z*2520,?_,?_⟩
 ·rw [show -q*N2 = -(q*2520)*2520 by grind,h1]; simp
 ·rw [Int.natAbs_mul,Int.natAbs_neg,show ((2520:Int)).natAbs=2520 from rfl]
  have:=Nat.mul_lt_mul_of_pos_right h2 (show 0<2520 by decide)
  omega
theorem Lt9.neg2 {p q:Rat}(h:Lt9 p) (k:Lt9 q):Zb 52 (-(p*q)*N2):=by
 obtain ⟨z,h1,h2⟩:=h.z
 obtain ⟨y,k1,k2⟩:=k.z
 refine ⟨-(z*y),?_,?_⟩
 ·rw [show -(p*q)*N2 = -((p*2520)*(q*2520)) by grind,h1,k1]; simp
 ·rw [Int.natAbs_neg,Int.natAbs_mul,show 52=26+26 from rfl,Nat.pow_add]
  exact Nat.mul_lt_mul'' h2 k2
theorem Ydt {n i c:Nat}{d:Rat}{odds:List Rat}{to:List Nat}(hd:Lt9 d) (hi:i<n) (ho:∀ t,t<to.length→Lt9 (rget odds t)) (hto:∀ x,x∈to→x<n) (hc:52≤c):∀ {k:Nat}{M:RM},k≤to.length→M.length=n→Wid n M→Ze c M →
  (addOdds d i odds to k M).length=n∧Wid n (addOdds d i odds to k M)∧Ze (c+k) (addOdds d i odds to k M)
 | 0,M,_,hl,hw,h=>⟨hl,hw,h⟩
 | k+1,M,hk,hl,hw,h=>by
  obtain ⟨h1,h2,h3⟩:=Ydt (odds:=odds) (to:=to) hd hi ho hto hc (k:=k) (M:=M) (by omega) hl hw h
  unfold addOdds
  exact ⟨by rw [Zde,h1],h2.addAt,h3.add h2 (by rw [h1]; exact hi) (hto _ (Zcn (by omega))) ((hd.neg2 (ho k (by omega))).mono (by omega))⟩
theorem Yo3 {g:Gm}(hg:GmP g) (hl:GmL g) {p:List Int}(hp:POk g p):∀ {k:Nat},k≤g.nodes.length→(planM g p k).length=g.nodes.length∧Wid g.nodes.length (planM g p k)∧Ze (52+7*k) (planM g p k)
 | 0,_=>by
  unfold planM
  refine ⟨List.length_replicate,fun r hr=>by rw [(List.mem_replicate.1 hr).2,List.length_replicate],fun i j=>?_⟩
  have h0:mget (List.replicate g.nodes.length (List.replicate g.nodes.length (0:Rat))) i j=0:=by
   unfold mget rget
   rw [List.getD_eq_getElem?_getD,List.getD_eq_getElem?_getD,List.getElem?_replicate]
   split
   ·rw [Option.getD_some,List.getElem?_replicate]; split <;> rfl
   ·simp
  rw [h0]
  exact ⟨0,by rw [Rat.zero_mul]; rfl,by decide⟩
 | k+1,hk=>by
  obtain ⟨h1,h2,h3⟩:=Yo3 hg hl hp (k:=k) (by omega)
  have hkn:k<g.nodes.length:=by omega
  have hx:=Zbd hkn
  have hok:=hg.ok.node _ hx
  have hlt:=hp.lt hkn
  have hod:=hl.odds _ hx
  unfold planM nodeM
  generalize nodeAt g k=x at *
  have a1:=h3.add (i:=k) (j:=k) (x:=1) h2 (by rw [h1]; exact hkn) hkn (Zb.mono (a:=23) ⟨6350400,by decide+kernel,by decide⟩ (by omega))
  have a2:(addAt (planM g p k) k k 1).length=g.nodes.length:=by rw [Zde,h1]
  have a3:Wid g.nodes.length (addAt (planM g p k) k k 1):=h2.addAt
  split
  ·rename_i h3
   have ho:=(hok.odds h3).1
   obtain ⟨b1,b2,b3⟩:=Ydt (odds:=x.odds) (to:=x.to) hl.d hkn (fun t ht=>hod h3 _ (List.mem_of_getElem? (Zak (by omega)))) hok.lt (by omega) (Nat.le_refl _) a2 a3 a1
   refine ⟨b1,b2,fun i j=>(b3 i j).mono ?_⟩
   have:=hok.len
   omega
  ·rename_i h3
   refine ⟨by rw [Zde,a2],a3.addAt,fun i j=>((a1.add a3 (by rw [a2]; exact hkn) (hok.lt _ (Zcn (hlt h3))) (hl.d.neg.mono (by omega))) i j).mono (by omega)⟩
theorem Y7b {q D:Rat}{b c:Nat}(h0:0<D) (hD:Zb b D) (hz:Zq (q*D)) (h1:q≤2 ^ c) (h2 : -(2 ^ c)≤q):Qb (b+c+1) q:=by
 obtain ⟨e,rfl,he⟩:=hD
 obtain ⟨z,hz⟩:=hz
 have e0:0<e:=by exact_mod_cast h0
 have hq:q=Rat.divInt z e:=by
  rw [Rat.divInt_eq_div]
  have:(e:Rat)≠0:=by grind
  rw [← hz]; grind
 obtain ⟨n1,n2⟩:=Zdc (n:=z) (d:=e) (by omega)
 rw [← hq] at n1 n2
 have hzz:z.natAbs≤2 ^ c*e.natAbs:=by
  have x1:=Rat.mul_le_mul_of_nonneg_right h1 (Rat.le_of_lt h0)
  have x2:=Rat.mul_le_mul_of_nonneg_right h2 (Rat.le_of_lt h0)
  rw [hz] at x1 x2
  have e1:(2:Rat) ^ c*(e:Rat)=(((2 ^ c:Nat)*e:Int):Rat):=by simp
  have e2 : -((2:Rat) ^ c)*(e:Rat)=((-((2 ^ c:Nat)*e):Int):Rat):=by simp [Rat.neg_mul]
  rw [e1] at x1
  rw [e2] at x2
  have y1:=Rat.intCast_le_intCast.1 x1
  have y2:=Rat.intCast_le_intCast.1 x2
  have e3:((2 ^ c*e.natAbs:Nat):Int)=((2 ^ c:Nat):Int)*e:=by rw [Int.natCast_mul]; congr 1; omega
  generalize ((2 ^ c:Nat):Int)*e=w at *
  omega
 have hm:2 ^ c*e.natAbs<2 ^ c*2 ^ b:=Nat.mul_lt_mul_of_pos_left he (Nat.two_pow_pos _)
 have hp:2 ^ c*2 ^ b=2 ^ (c+b):=(Nat.pow_add ..).symm
 have hc:=Nat.two_pow_pos c
 refine ⟨?_,?_⟩
 ·rw [show b+c+1=c+b+1 by omega,Nat.pow_succ]; omega
 ·have:2 ^ b≤2 ^ (b+c+1):=Nat.pow_le_pow_right (by omega) (by omega)
  omega
theorem frac9 {d:Rat}(h:Lt9 d) (d1:d<1):d*9≤8:=by
 have h0:=d.den_pos
 have h1:=Yb6 d
 have hd:(0:Rat)<d.den:=by exact_mod_cast h0
 have h2:d*d.den<d.den:=by
  have:=Rat.mul_pos (show 0<1 - d by grind) hd
  grind
 rw [h1] at h2
 have h3:d.num<d.den:=by exact_mod_cast h2
 have h4:d.num*9≤8*d.den:=by have:=h.1; omega
 have h5:(d.num:Rat)*9≤8*(d.den:Rat):=by exact_mod_cast h4
 rw [← h1] at h5
 rcases (Rat.le_total:d*9≤8∨8≤d*9) with h6 | h6
 ·exact h6
 ·by_cases he:d*9=8
  ·rw [he]; grind
  ·have:=Rat.mul_pos (show 0<d*9 - 8 by grind) hd
   grind
theorem Lt9.abs {q:Rat}(h:Lt9 q):q≤10000 ∧ -10000≤q:=by
 have h0:=q.den_pos
 have h1:=Yb6 q
 have hd:(1:Rat)≤q.den:=by exact_mod_cast h0
 have n1:(q.num:Rat)≤((10000:Int):Rat):=by have:=h.2; exact Rat.intCast_le_intCast.2 (show q.num≤10000 by omega)
 have n2:((-10000:Int):Rat)≤(q.num:Rat):=by have:=h.2; exact Rat.intCast_le_intCast.2 (show -10000≤q.num by omega)
 rw [show ((10000:Int):Rat)=10000 from rfl] at n1
 rw [show ((-10000:Int):Rat) = -10000 from rfl] at n2
 rw [← h1] at n1 n2
 constructor
 ·rcases (Rat.le_total:q≤10000∨10000≤q) with h6 | h6
  ·exact h6
  ·have:=Rat.mul_nonneg (show 0≤q by grind) (show 0≤(q.den:Rat) - 1 by grind)
   grind
 ·rcases (Rat.le_total : -10000≤q∨q ≤ -10000) with h6 | h6
  ·exact h6
  ·have:=Rat.mul_nonneg (show 0 ≤ -q by grind) (show 0≤(q.den:Rat) - 1 by grind)
   grind
theorem Yd3 {odds:List Rat}{to:List Nat}{n:Nat}{c:Rat}:∀ {k:Nat},k≤to.length→(∀ x,x∈to→x<n)→dotW odds (List.replicate n c) to k=c*sumO odds k
 | 0,_,_=>by simp only [dotW,sumO]; grind
 | k+1,hk,h=>by
  simp only [dotW,sumO]
  rw [Yd3 (by omega) h,Zgj (h _ (Zcn (by omega)))]
  grind
theorem Z48 {g:Gm}(hg:GmP g) {p:List Int}(hp:POk g p) {i:Nat}(hi:i<g.nodes.length) {c:Rat}:worthP (nodeAt g i) (pget p i) (List.replicate g.nodes.length c)=c:=by
 have hx:=Zbd hi
 have hok:=hg.ok.node _ hx
 have hlt:=hp.lt hi
 have hod:=hg.odds _ hx
 unfold worthP
 split
 ·rename_i h3
  rw [Yd3 (Nat.le_refl _) hok.lt,(hod h3).2]; grind
 ·rename_i h3
  exact Zgj (hok.lt _ (Zcn (hlt h3)))
theorem Yr1 {g:Gm}(hg:GmP g) (hl:GmL g) {p:List Int}(hp:POk g p) {v:List Rat}(hv:PVal g p v) {i:Nat}(hi:i<g.nodes.length):rget v i≤100000 ∧ -100000≤rget v i:=by
 have hs:=Ymh hg hp
 have h9:=frac9 hl.d hg.d1
 have d0:=hg.d0
 have hr:=fun j (hj:j<g.nodes.length)=>(hl.rew _ (List.mem_of_getElem? (Zak (r:=g.rew) (j:=j) (by rw [hg.ok.rew]; exact hj)))).abs
 constructor
 ·have:=hs.le hg.d1 (u:=v) (v:=List.replicate g.nodes.length 100000) (fun j hj=>by rw [← hv.2 j hj]; grind) (fun j hj=>by
   rw [Zgj hj]; unfold planV; rw [Z48 hg hp hj]; have:=hr j hj; grind) i hi
  rwa [Zgj hi] at this
 ·have:=hs.le hg.d1 (u:=List.replicate g.nodes.length (-100000)) (v:=v) (fun j hj=>by
   rw [Zgj hj]; unfold planV; rw [Z48 hg hp hj]; have:=hr j hj; grind) (fun j hj=>by rw [← hv.2 j hj]; grind) i hi
  rwa [Zgj hi] at this
theorem Yma {g:Gm}(hg:GmP g) (hl:GmL g) {p:List Int}(hp:POk g p):Rb 4000 (valP g p):=fun q hq=>by
 obtain ⟨i,hi,rfl⟩:∃ i,i<g.nodes.length∧q=rget (valP g p) i:=by
  obtain ⟨i,hi⟩:=List.getElem?_of_mem hq
  have hlt:=(List.getElem?_eq_some_iff.1 hi).1
  have:=Zak hlt
  rw [hi] at this
  exact ⟨i,by rw [(Yew hg hp).1] at hlt; exact hlt,by simpa using this⟩
 obtain ⟨h1,h2⟩:=Z71 hg hp (Nat.le_refl g.nodes.length)
 obtain ⟨_,_,_,h3,h4⟩:=Yad h1.len h1.wid hg.ok.rew (Z75 hg hp)
 have hD:=Z75 hg hp
 obtain ⟨_,_,hz⟩:=Yo3 hg hl hp (Nat.le_refl g.nodes.length)
 have hn:=hl.n
 have hpos:(0:Rat)<N2:=by decide+kernel
 obtain ⟨D,d1,d2,d3⟩:=Yu7 (k:=g.nodes.length) (c:=0) (b:=90) (A:=fun i j=>mget (planM g p g.nodes.length) i j*N2) (r:=fun i=>rget g.rew i*N2) (x:=rget (valP g p))
  (fun i j _ _ _ _=>(hz i j).mono (by omega))
  (fun i _ hi=>by
   have:=(hl.rew _ (List.mem_of_getElem? (Zak (r:=g.rew) (j:=i) (by rw [hg.ok.rew]; omega)))).z
   have h2:Zb 12 2520:=⟨2520,rfl,by decide⟩
   have h3:=this.mul h2
   rw [show rget g.rew i*N2=rget g.rew i*2520*2520 by grind]
   exact h3.mono (by omega))
  (fun i h0 hi=>by
   obtain ⟨a,b⟩:=hD i h0 (by omega)
   refine ⟨fun j hj hjn hji=>?_,?_⟩
   ·have:=Rat.mul_nonneg (show 0 ≤ -mget (planM g p g.nodes.length) i j by have:=a j hj (by omega) hji; grind) (Rat.le_of_lt hpos)
    grind
   ·rw [Za2 (g:=fun j=>N2*mget (planM g p g.nodes.length) i j) (fun j _=>by grind),Zft]
    refine Rat.mul_pos hpos ?_
    rw [List.range'_eq_map_range,Z7y] at b ⊢
    rw [Za2 (g:=fun j=>mget (planM g p g.nodes.length) i (0+j)) (fun j _=>by rw [show 0+1+j - 1=0+j by omega])] at b
    exact b)
  (fun i _ hi=>by
   have:=h4 i (by omega)
   rw [Za2 (g:=fun j=>N2*(rget (valP g p) j*mget (planM g p g.nodes.length) i j)) (fun j _=>by grind),Zft,List.range'_eq_map_range,Z7y]
   rw [Za2 (g:=fun j=>rget (solvR g.nodes.length (planM g p g.nodes.length) g.rew) j*mget (planM g p g.nodes.length) i j) (fun j _=>by rw [show 0+j=j by omega]; rfl),this]
   grind)
 have ha:=Yr1 hg hl hp (Yew hg hp) hi
 have hb:fbit g.nodes.length 90≤3000:=by
  have:∀ n,n≤5→fbit n 90≤3000:=fun n hn=>by
   have:n=0∨n=1∨n=2∨n=3∨n=4∨n=5:=by omega
   rcases this with rfl | rfl | rfl | rfl | rfl | rfl <;> decide
  exact this _ hn
 have e17:(2:Rat) ^ 17=131072:=by decide+kernel
 exact (Y7b (c:=17) d1 d2 (d3 i (by omega) (by omega)) (by rw [e17]; grind) (by rw [e17]; grind)).mono (by omega)
end GoAbs
namespace GoAbs
open Go Go.Proofs
set_option maxHeartbeats 4000000
end GoAbs
namespace GoAbs
open Go Go.Proofs
def Z27:List IOp := [oI 4 (.mv (cI 0)) 0]
def Z2x:List IOp := [mI 5 0 0,mI 6 1 0,oI 7 (.bin .rem (.t 5) (.t 6)) 0,mI 8 1 0,oI 9 (.bin .add (.t 7) (.t 8)) 0,mI 10 1 0,oI 11 (.bin .rem (.t 9) (.t 10)) 0,mI 4 11 0]
def Ycv:CC := .seq (.rg false Z27) (.seq (.rg false Z2x) .ret)
abbrev Ym8:Nat:=29
theorem Yid:fnOk Tryz.prog 29=some (12,Ycv,[.tmp 4]):=by kernel_rfl
def Zro:List IOp := [oI 4 (.mv (cI 0)) 0]
def Zrs:List IOp := [mI 5 1 0,mI 6 0 0,oI 7 (.len (.t 6)) 0,oI 8 (.bin .lss (.t 5) (.t 7)) 0]
def Z45:List IOp := [mI 9 0 0,mI 10 1 0,xI 11 1 9 10 0,lI 12 11 0,mI 4 12 0]
def Z5o:List IOp := [oI 4 (.mv (cI 0)) 0]
def Ykn:CC := .seq (.rg false Zro) (.seq (.seq (.rg false Zrs) (.cond (.t 8) (.seq (.rg false Z45) .ret) .skip)) (.seq (.rg false Z5o) .ret))
abbrev Ys1:Nat:=47
theorem Yl5:fnOk Tryz.prog 47=some (13,Ykn,[.tmp 4]):=by kernel_rfl
def Zwu:List IOp := [oI 4 (.mv (.c .nils)) 0,oI 5 (.mv (.c (.bool false))) 0]
def Zwt:List IOp := [mI 9 0 0,mI 10 1 0,oI 11 (.call 43 [.t 9,.t 10]) 0,mI 8 11 0,eI 12 0 8 0,eI 13 1 8 0,mI 6 12 0,mI 7 13 0]
def Zv2:List IOp := [mI 14 7 0,oI 15 (.bin .neq (.t 14) (cI 0)) 0,mI 16 15 0,gI 17 (.mv (.t 6)) 0 16 false,gI 18 (.len (.t 17)) 0 16 false,gI 19 (.mv (.t 0)) 0 16 false,gI 20 (.len (.t 19)) 0 16 false,gI 21 (.bin .neq (.t 18) (.t 20)) 0 16 false,oI 22 (.pick (.t 16) (.c (.bool true)) (.t 21)) 0,mI 23 22 0,gI 24 (.mv (.t 6)) 0 23 false,gI 25 (.call 24 [.t 24]) 0 23 false,gI 26 (.bin .neq (.t 25) (cI 0)) 0 23 false,oI 27 (.pick (.t 23) (.c (.bool true)) (.t 26)) 0]
def Ycf:List IOp := [oI 4 (.mv (.c .nils)) 0,oI 5 (.mv (.c (.bool false))) 0]
def Zwb:List IOp := [mI 28 6 0,oI 29 (.call 27 [.t 28]) 0,mI 4 29 0,oI 5 (.mv (.c (.bool true))) 0]
def Z8d:CC := .seq (.rg false Zwu) (.seq (.rg false Zwt) (.seq (.seq (.rg false Zv2) (.cond (.t 27) (.seq (.rg false Ycf) .ret) .skip)) (.seq (.rg false Zwb) .ret)))
abbrev Yh0:Nat:=23
theorem Yg8:fnOk Tryz.prog 23=some (30,Z8d,[.tmp 4,.tmp 5]):=by kernel_rfl
def Zfs:List IOp := [oI 3 (.box (.t 0)) 0,oI 6 (.mv (.c (.bool false))) 1]
def Zfb:List IOp := [lJ 21 5 3 0,oI 22 (.call 22 [.t 21]) 0,mI 20 22 0,eI 23 0 20 0,eI 24 1 20 0,mI 7 23 0,mI 8 24 0]
def Zes:List IOp := [mI 26 7 0,mI 27 8 0,oI 28 (.call 23 [.t 26,.t 27]) 0,mI 25 28 0,eI 29 0 25 0,eI 30 1 25 0,mI 9 29 0,mI 10 30 0]
def Ze0:List IOp := [mI 31 1 0,oI 32 (.cvi .i64 (.t 31)) 0,mI 33 7 0,oI 34 (.len (.t 33)) 0,oI 35 (.bin .rem (.t 32) (.t 34)) 0,mI 11 35 0]
def Zfe:List IOp := [mI 36 7 0,mI 37 11 0,xI 38 3 36 37 0,fI 39 0 38 0,lI 40 39 0,oI 41 (.bin .eql (.t 40) (cI 3)) 0]
def Zj8:List IOp := [mI 42 10 0,mI 43 42 0,gI 44 (.call 17 []) 0 43 true,oI 45 (.pick (.t 43) (.t 44) (.c (.bool false))) 0,mI 6 45 0]
def Zkc:List IOp := [oI 46 (.bsl (some 3) 0 [.int .i64 0,.str ⟨#[]⟩,.nils] []) 0,mI 47 7 1,oI 48 (.app (some 3) 48 (.t 46) (.t 47)) 1,oI 49 (.bsl (some 3) 0 [.int .i64 0,.str ⟨#[]⟩,.nils] []) 2,mI 50 7 3,oI 51 (.app (some 3) 48 (.t 49) (.t 50)) 3,mI 12 48 4,mI 13 51 4]
def Zfh:List IOp := [mI 52 12 0,mI 53 11 0,oI 54 (.bsl (some 2) 0 [.int .i64 0,.str ⟨#[]⟩] []) 0,mI 55 7 1,mI 56 11 1,xI 57 3 55 56 1,fI 58 2 57 1,lI 59 58 1,⟨some 60,.app (some 2) 24 (.t 54) (.t 59),1,[0],[],none⟩,mI 61 2 2,oI 62 (.cvi .i64 (.t 61)) 2,mI 63 7 2,oI 64 (.len (.t 63)) 2,oI 65 (.bin .rem (.t 62) (.t 64)) 2,oI 66 (.build [.int .i64 0,.str ⟨#[]⟩] [(0,1,.t 65)]) 2,⟨some 67,.bsl (some 2) 1 [.int .i64 0,.str ⟨#[]⟩] [(0,.t 66)],2,[],[1],none⟩,⟨some 68,.app (some 2) 24 (.t 60) (.t 67),3,[0,1,2],[],none⟩,⟨some 69,.idx 3 (.t 52) (.t 53),4,[0,1,2,3],[],none⟩,⟨some 70,.fa 2 (.t 69),4,[0,1,2,3],[],none⟩,⟨none,.st 1 (.t 70) (.t 68),4,[0,1,2,3],[],none⟩]
@[go_sem ↓] theorem Zvj : autoK Zfh = (4, 2) := by kernel_rfl
@[go_sem] theorem Yka : autoK [mI 52 12 0, mI 53 11 0, oI 54 (.bsl (some 2) 0 [.int .i64 0, .str ⟨#[]⟩] []) 0, mI 55 7 1, mI 56 11 1, xI 57 3 55 56 1, fI 58 2 57 1, lI 59 58 1, ⟨some 60, .app (some 2) 24 (.t 54) (.t 59), 1, [0], [], none⟩, mI 61 2 2, oI 62 (.cvi .i64 (.t 61)) 2, mI 63 7 2, oI 64 (.len (.t 63)) 2, oI 65 (.bin .rem (.t 62) (.t 64)) 2, oI 66 (.build [.int .i64 0, .str ⟨#[]⟩] [(0, 1, .t 65)]) 2, ⟨some 67, .bsl (some 2) 1 [.int .i64 0, .str ⟨#[]⟩] [(0, .t 66)], 2, [], [1], none⟩, ⟨some 68, .app (some 2) 24 (.t 60) (.t 67), 3, [0, 1, 2], [], none⟩, ⟨some 69, .idx 3 (.t 52) (.t 53), 4, [0, 1, 2, 3], [], none⟩, ⟨some 70, .fa 2 (.t 69), 4, [0, 1, 2, 3], [], none⟩, ⟨none, .st 1 (.t 70) (.t 68), 4, [0, 1, 2, 3], [], none⟩] = (4, 2) := Zvj
def Zev:List IOp := [mI 71 13 0,mI 72 11 0,oI 73 (.bsl (some 2) 0 [.int .i64 0,.str ⟨#[]⟩] []) 0,mI 74 7 1,mI 75 11 1,xI 76 3 74 75 1,fI 77 2 76 1,lI 78 77 1,⟨some 79,.app (some 2) 24 (.t 73) (.t 78),1,[0],[],none⟩,mI 80 7 2,mI 81 11 2,xI 82 3 80 81 2,fI 83 2 82 2,⟨some 84,.ld none (.t 83),2,[],[1],none⟩,oI 85 (.idx 2 (.t 84) (cI 0)) 2,⟨some 86,.ld (some 2) (.t 85),2,[],[1],none⟩,⟨some 87,.bsl (some 2) 1 [.int .i64 0,.str ⟨#[]⟩] [(0,.t 86)],2,[],[1],none⟩,⟨some 88,.app (some 2) 24 (.t 79) (.t 87),3,[0,1,2],[],none⟩,⟨some 89,.idx 3 (.t 71) (.t 72),4,[0,1,2,3],[],none⟩,⟨some 90,.fa 2 (.t 89),4,[0,1,2,3],[],none⟩,⟨none,.st 1 (.t 90) (.t 88),4,[0,1,2,3],[],none⟩]
@[go_sem ↓] theorem Zvf : autoK Zev = (4, 2) := by kernel_rfl
@[go_sem] theorem Ykl : autoK [mI 71 13 0, mI 72 11 0, oI 73 (.bsl (some 2) 0 [.int .i64 0, .str ⟨#[]⟩] []) 0, mI 74 7 1, mI 75 11 1, xI 76 3 74 75 1, fI 77 2 76 1, lI 78 77 1, ⟨some 79, .app (some 2) 24 (.t 73) (.t 78), 1, [0], [], none⟩, mI 80 7 2, mI 81 11 2, xI 82 3 80 81 2, fI 83 2 82 2, ⟨some 84, .ld none (.t 83), 2, [], [1], none⟩, oI 85 (.idx 2 (.t 84) (cI 0)) 2, ⟨some 86, .ld (some 2) (.t 85), 2, [], [1], none⟩, ⟨some 87, .bsl (some 2) 1 [.int .i64 0, .str ⟨#[]⟩] [(0, .t 86)], 2, [], [1], none⟩, ⟨some 88, .app (some 2) 24 (.t 79) (.t 87), 3, [0, 1, 2], [], none⟩, ⟨some 89, .idx 3 (.t 71) (.t 72), 4, [0, 1, 2, 3], [], none⟩, ⟨some 90, .fa 2 (.t 89), 4, [0, 1, 2, 3], [], none⟩, ⟨none, .st 1 (.t 90) (.t 88), 4, [0, 1, 2, 3], [], none⟩] = (4, 2) := Zvf
def Zj3:List IOp := [mI 92 12 0,mI 93 8 0,oI 94 (.call 23 [.t 92,.t 93]) 0,mI 91 94 0,eI 95 0 91 0,eI 96 1 91 0,mI 14 95 0,mI 15 96 0]
def Zj4:List IOp := [mI 98 13 0,mI 99 8 0,oI 100 (.call 23 [.t 98,.t 99]) 0,mI 97 100 0,eI 101 0 97 0,eI 102 1 97 0,mI 16 101 0,mI 17 102 0]
def Zjk:List IOp := [mI 103 10 0,oI 104 (.un .not (.t 103)) 0,mI 105 104 0,gI 106 (.mv (.t 15)) 0 105 false,gI 107 (.un .not (.t 106)) 0 105 false,oI 108 (.pick (.t 105) (.c (.bool true)) (.t 107)) 0,mI 109 108 0,gI 110 (.mv (.t 17)) 0 109 false,gI 111 (.un .not (.t 110)) 0 109 false,oI 112 (.pick (.t 109) (.c (.bool true)) (.t 111)) 0,mI 113 112 0,gI 114 (.call 17 []) 0 113 false,gI 115 (.un .not (.t 114)) 0 113 false,oI 116 (.pick (.t 113) (.c (.bool true)) (.t 115)) 0]
def Zyd:List IOp := [oI 6 (.mv (.c (.bool false))) 0]
def Zjp:List IOp := [oI 18 (.mv (cI 0)) 0]
def Zb2:List IOp := [mI 117 18 0,mI 118 7 0,oI 119 (.len (.t 118)) 0,oI 120 (.bin .lss (.t 117) (.t 119)) 0]
def Zb1:List IOp := [mI 123 14 0,mI 124 18 0,xI 125 4 123 124 0,lJ 126 4 125 0,mI 127 9 0,mI 128 18 0,xI 129 4 127 128 0,lJ 130 4 129 0,oI 131 (.callw 25 [.t 126,.t 130]) 0,mI 19 131 0]
@[go_sem ↓] theorem Zun : autoK Zb1 = (0, 0) := by kernel_rfl
@[go_sem] theorem Yhd : autoK [mI 123 14 0, mI 124 18 0, xI 125 4 123 124 0, lJ 126 4 125 0, mI 127 9 0, mI 128 18 0, xI 129 4 127 128 0, lJ 130 4 129 0, oI 131 (.callw 25 [.t 126, .t 130]) 0, mI 19 131 0] = (0, 0) := Zun
def Zb5:List IOp := [mI 132 7 0,mI 133 11 0,xI 134 3 132 133 0,fI 135 0 134 0,lI 136 135 0,oI 137 (.bin .eql (.t 136) (cI 1)) 0,mI 138 137 0,gI 139 (.mv (.t 19)) 0 138 true,gI 140 (.bin .lss (.t 139) (cI 0)) 0 138 true,oI 141 (.pick (.t 138) (.t 140) (.c (.bool false))) 0,mI 142 141 0,gI 143 (.mv (.t 7)) 0 142 false,gI 144 (.mv (.t 11)) 0 142 false,gI 145 (.idx 3 (.t 143) (.t 144)) 0 142 false,gI 146 (.fa 0 (.t 145)) 0 142 false,gI 147 (.ld none (.t 146)) 0 142 false,gI 148 (.bin .eql (.t 147) (cI 2)) 0 142 false,gI 149 (.mv (.t 148)) 0 142 false,gI 150 (.mv (.t 19)) 0 149 true,gI 151 (.bin .gtr (.t 150) (cI 0)) 0 149 true,gI 152 (.pick (.t 149) (.t 151) (.c (.bool false))) 0 142 false,oI 153 (.pick (.t 142) (.c (.bool true)) (.t 152)) 0,mI 154 153 0,gI 155 (.mv (.t 16)) 0 154 false,gI 156 (.mv (.t 18)) 0 154 false,gI 157 (.idx 4 (.t 155) (.t 156)) 0 154 false,gI 158 (.ld (some 4) (.t 157)) 0 154 false,gI 159 (.mv (.t 9)) 0 154 false,gI 160 (.mv (.t 18)) 0 154 false,gI 161 (.idx 4 (.t 159) (.t 160)) 0 154 false,gI 162 (.ld (some 4) (.t 161)) 0 154 false,gI 163 (.callw 25 [.t 158,.t 162]) 0 154 false,gI 164 (.bin .neq (.t 163) (cI 0)) 0 154 false,oI 165 (.pick (.t 154) (.c (.bool true)) (.t 164)) 0]
@[go_sem ↓] theorem Zsj : autoK Zb5 = (0, 0) := by kernel_rfl
@[go_sem] theorem Yhb : autoK [mI 132 7 0, mI 133 11 0, xI 134 3 132 133 0, fI 135 0 134 0, lI 136 135 0, oI 137 (.bin .eql (.t 136) (cI 1)) 0, mI 138 137 0, gI 139 (.mv (.t 19)) 0 138 true, gI 140 (.bin .lss (.t 139) (cI 0)) 0 138 true, oI 141 (.pick (.t 138) (.t 140) (.c (.bool false))) 0, mI 142 141 0, gI 143 (.mv (.t 7)) 0 142 false, gI 144 (.mv (.t 11)) 0 142 false, gI 145 (.idx 3 (.t 143) (.t 144)) 0 142 false, gI 146 (.fa 0 (.t 145)) 0 142 false, gI 147 (.ld none (.t 146)) 0 142 false, gI 148 (.bin .eql (.t 147) (cI 2)) 0 142 false, gI 149 (.mv (.t 148)) 0 142 false, gI 150 (.mv (.t 19)) 0 149 true, gI 151 (.bin .gtr (.t 150) (cI 0)) 0 149 true, gI 152 (.pick (.t 149) (.t 151) (.c (.bool false))) 0 142 false, oI 153 (.pick (.t 142) (.c (.bool true)) (.t 152)) 0, mI 154 153 0, gI 155 (.mv (.t 16)) 0 154 false, gI 156 (.mv (.t 18)) 0 154 false, gI 157 (.idx 4 (.t 155) (.t 156)) 0 154 false, gI 158 (.ld (some 4) (.t 157)) 0 154 false, gI 159 (.mv (.t 9)) 0 154 false, gI 160 (.mv (.t 18)) 0 154 false, gI 161 (.idx 4 (.t 159) (.t 160)) 0 154 false, gI 162 (.ld (some 4) (.t 161)) 0 154 false, gI 163 (.callw 25 [.t 158, .t 162]) 0 154 false, gI 164 (.bin .neq (.t 163) (cI 0)) 0 154 false, oI 165 (.pick (.t 154) (.c (.bool true)) (.t 164)) 0] = (0, 0) := Zsj
def Zzn:List IOp := [oI 6 (.mv (.c (.bool false))) 0]
def Zea:List IOp := [mI 121 18 0,oI 122 (.bin .add (.t 121) (cI 1)) 0,mI 18 122 0]
def Zki:CC := .seq (.seq (.rg false Zb2) (.cond (.t 120) .skip (.exit 0))) (.seq (.block 1 (.seq (.rg true Zb1) (.seq (.rg true Zb5) (.cond (.t 165) (.seq (.rg false Zzn) .ret) .skip)))) (.rg false Zea))
def Ziy:List IOp := [oI 6 (.mv (.c (.bool true))) 0]
def Zjt:CC := .seq (.rg false Zfs) (.seq (.rg false Zfb) (.seq (.rg false Zes) (.seq (.rg false Ze0) (.seq (.seq (.rg false Zfe) (.cond (.t 41) (.seq (.rg false Zj8) .ret) .skip)) (.seq (.rg false Zkc) (.seq (.rg true Zfh) (.seq (.rg true Zev) (.seq (.rg false Zj3) (.seq (.rg false Zj4) (.seq (.seq (.rg false Zjk) (.cond (.t 116) (.seq (.rg false Zyd) .ret) .skip)) (.seq (.seq (.rg false Zjp) (.block 0 (.loop Zki))) (.seq (.rg false Ziy) .ret))))))))))))
abbrev Z7c:Nat:=7
theorem Zl5:fnOk Tryz.prog 7=some (166,Zjt,[.tmp 6]):=by kernel_rfl
def Zwy:List IOp := [oI 1 (.box (.t 0)) 0,oI 2 (.mv (.c .nils)) 1,oI 3 (.mv (.c (.str ⟨#[]⟩))) 1]
def Zv5:List IOp := [fI 4 0 1 0,lI 5 4 0,fI 6 2 1 0,lI 7 6 0,fI 8 3 1 0,lI 9 8 0,fI 10 4 1 0,lI 11 10 0,fI 12 1 1 0,lI 13 12 0,oI 14 (.call 60 [.t 5,.t 7,.t 9,.t 11,.t 13]) 0,eI 15 0 14 0,eI 16 1 14 0,mI 2 15 0,mI 3 16 0]
def Yaa:CC := .seq (.rg false Zwy) (.seq (.rg false Zv5) .ret)
abbrev Yhp:Nat:=22
theorem Yg0:fnOk Tryz.prog 22=some (17,Yaa,[.tmp 2,.tmp 3]):=by kernel_rfl
end GoAbs
namespace GoAbs
open Go Go.Proofs
set_option maxHeartbeats 4000000
def strsL (l:List (List UInt8)):List AV:=l.map fun s => .str (bs s)
theorem rsame {l:List (List UInt8)}(hl:l.length≤1000000):SpecV Tryz.prog Yf1 [.sl (strsL l),.sl (strsL l)] (.bool true):=by
 have hmx:Tryz.prog.follows .mixedOrders=true:=by kernel_rfl
 have hsl:(strsL l).length=l.length:=by simp [strsL]
 refine Za5 Ych (by simp) (Zbi 1 rfl ?_)
 unfold Z4w
 simp only [go_sem,Zu5,Zsm,hsl]
 refine Za7 (Za7 (T_W ?_))
 simp only [go_sem,Zrc]
 refine Zbg (Zaf (fun i:Nat=>⟨envL [(0,.sl (strsL l)),(1,.sl (strsL l)),(5,.int .i64 (i:Int))],[]⟩)
  (fun i=>i≤l.length) (fun i=>l.length - i) 0 (by omega) (Zab _ (by simp only [go_sem]; simp)) (fun i hi N hN=>?_))
 unfold Ztx
 by_cases hin:i<l.length
 ·obtain ⟨s,hs⟩:∃ s,l[i]? = some s:=⟨_,List.getElem?_eq_getElem hin⟩
  have hget:(strsL l)[i]? = some (.str (bs s)):=by simp [strsL,hs]
  have q0:(0:Int)≤(i:Int):=by omega
  have q1:(i:Int)<(l.length:Int):=by omega
  have e1:IntKind.i64.wrap ((i:Int)+1)=((i+1:Nat):Int):=by rw [Zac (by omega) (by omega)]; omega
  simp only [go_sem,Ziw,Zi3,Zse,q0,q1,hsl,hget,hmx,e1]
  exact hN (i+1) _ (by omega) (by omega) (Zab _ (by simp only [go_sem]))
 ·have hie:i=l.length:=by omega
  subst hie
  have q1:¬ ((l.length:Nat):Int)<(l.length:Int):=by omega
  simp only [go_sem,Ziw,hsl,q1]
  refine T_W ?_
  simp only [go_sem,Zrq]
def L1:List Nd := [⟨1,[49],[(0,[])]⟩]
def d12:List UInt8 := [49,47,50]
theorem Yg1:GIn L1 d12:=by
 refine ⟨.inl (by decide),by decide,fun n hn=>?_⟩
 simp [L1] at hn
 subst hn
 refine ⟨by decide,by decide,fun m hm=>?_⟩
 simp at hm
 subst hm
 decide
theorem Ymk:eC L1 d12=0:=by decide+kernel
theorem Yle:toGm L1 d12=⟨[⟨1,[0],[]⟩],[1],1/2⟩:=by
 unfold toGm L1 d12 toGN oddsQ
 have h1:parseL [49]=some 1:=by decide+kernel
 have h2:parseL [49,47,50]=some (1/2):=by decide+kernel
 simp [h1,h2,hasO]
theorem Y7h:valG (toGm L1 d12) = [2]:=by
 rcases Z7v Yg1 with ⟨h,_⟩ | ⟨_,_,hg,_⟩
 ·exact absurd Ymk h
 ·symm
  refine Yah hg (by rw [Yle]; rfl) (fun i hi=>?_)
  rw [Yle] at hi ⊢
  have:i=0:=by simpa using hi
  subst this
  decide+kernel
theorem Y6i:rndR (toGm L1 d12) 3 = [7/4]:=by rw [Yle]; decide+kernel
theorem Y4k {H:Heap}{ids:List Nat}{b:Nat}{k:Int}{s:ByteArray}{X:AV}{M:List AV}(hb:H[b]? = some (.cells [.int .i64 k,.str s,X])) (hi:b∈ids) (hX:BV H ids X (.sl M)):BV H ids (.osl (some 3) b 0 1) (.sl [.agg [.int .i64 k,.str s,.sl M]]):=by
 refine .osl (some 3) b 0 1 _ _ hb hi rfl (fun x hx=>by simp at hx; subst hx; rfl) (by simp [es]) (fun i x j y z hx hy hz=>?_)
 have hi0:i=0:=by
  have:=(List.getElem?_eq_some_iff.1 hx).1
  simp at this; exact this
 subst hi0
 simp at hx
 subst hx
 rw [show 0+(0*es (some 3)+j)=j by simp] at hz
 match j with
 | 0=>simp [AV.cells] at hy hz; subst hy hz; exact .int _ _
 | 1=>simp [AV.cells] at hy hz; subst hy hz; exact .str _
 | 2=>simp [AV.cells] at hy hz; subst hy hz; exact hX
 | j+3=>simp [AV.cells] at hy
theorem Y4u {H:Heap}{ids:List Nat}{b:Nat}{k:Int}{s:ByteArray}(hb:H[b]? = some (.cells [.int .i64 k,.str s])) (hi:b∈ids):BV H ids (.osl (some 2) b 0 1) (.sl [.agg [.int .i64 k,.str s]]):=by
 refine .osl (some 2) b 0 1 _ _ hb hi rfl (fun x hx=>by simp at hx; subst hx; rfl) (by simp [es]) (fun i x j y z hx hy hz=>?_)
 have hi0:i=0:=by
  have:=(List.getElem?_eq_some_iff.1 hx).1
  simp at this; exact this
 subst hi0
 simp at hx
 subst hx
 rw [show 0+(0*es (some 2)+j)=j by simp] at hz
 match j with
 | 0=>simp [AV.cells] at hy hz; subst hy hz; exact .int _ _
 | 1=>simp [AV.cells] at hy hz; subst hy hz; exact .str _
 | j+2=>simp [AV.cells] at hy
theorem Yya {H:Heap}{ids:List Nat}{b:Nat}{s:ByteArray}(hb:H[b]? = some (.cells [.str s])) (hi:b∈ids):BV H ids (.osl none b 0 1) (.sl [.str s]):=by
 refine .osl none b 0 1 _ _ hb hi rfl (fun x hx=>by simp at hx; subst hx; rfl) (by simp [es]) (fun i x j y z hx hy hz=>?_)
 have hi0:i=0:=by
  have:=(List.getElem?_eq_some_iff.1 hx).1
  simp at this; exact this
 subst hi0
 simp at hx
 subst hx
 match j with
 | 0=>simp [AV.cells,es] at hy hz; subst hy hz; exact .str _
 | j+1=>simp [AV.cells] at hy
theorem wlives:SpecV Tryz.prog Ymi [] (.bool true):=by
 have hv:=wvalue Yg1
 rw [if_pos Ymk,Y7h,show numsR [2] = .tup [.sl (strsL [[50]]),.int .i64 0] by
  unfold numsR
  rw [if_pos (by decide+kernel)]
  have:numS 2 = [50]:=by decide+kernel
  simp [ss,strsL,this]] at hv
 have hr:=wrounds (r:=3) Yg1 (by omega)
 rw [show rC L1 d12 3=0 by unfold rC; rw [Ymk]; rfl,if_pos rfl,show (3:Int).toNat=3 from rfl,Y6i,show numsR [7/4] = .tup [.sl (strsL [[55,47,52]]),.int .i64 0] by
  unfold numsR
  rw [if_pos (by decide+kernel)]
  have:numS (7/4) = [55,47,52]:=by decide+kernel
  simp [ss,strsL,this]] at hr
 refine Zae Yip (by simp) ?_
 unfold Ycx
 simp only [go_sem,Z0t,Z1x]
 refine Zhy (ids := [0,1]) hv (.cons (Y4k rfl (by simp) (Y4u rfl (by simp))) (.cons (.str _) .nil)) ?_
 simp only [go_sem,Z15,kill,List.foldl_cons,List.foldl_nil]
 refine Zhy (ids := [2,3]) hr (.cons (Y4k rfl (by simp) (Y4u rfl (by simp))) (.cons (.str _) (.cons (.int _ _) .nil))) ?_
 simp only [go_sem,Z2z,kill,List.foldl_cons,List.foldl_nil]
 have s1:=rsame (l := [[50]]) (by decide)
 have s2:=rsame (l := [[55,47,52]]) (by decide)
 refine Zsz (ids := [4]) s1 (.cons (.sl _) (.cons (Yya rfl (by simp)) .nil)) (.inr (.bool _)) (fun b _=>trivial) ?_
 simp only [go_sem]
 refine Zsz (ids := [5]) s2 (.cons (.sl _) (.cons (Yya rfl (by simp)) .nil)) (.inr (.bool _)) (fun b _=>trivial) ?_
 simp only [go_sem]
end GoAbs
namespace GoAbs
open Go Go.Proofs
set_option maxHeartbeats 4000000
end GoAbs
namespace GoAbs
open Go Go.Proofs
set_option maxHeartbeats 4000000
theorem Yjo {H:Heap}{ids:List Nat}{q:Rat}:BVs H ids (rq q) (rq q)=True:=Y39
end GoAbs
namespace GoAbs
open Go Go.Proofs
set_option maxHeartbeats 8000000
theorem txts_len' (M:List (List UInt8)):(txts M).length=M.length:=by simp [txts]
end GoAbs
namespace GoAbs
open Go Go.Proofs
set_option maxHeartbeats 4000000
theorem Y2p (M:List (List UInt8)):M.map strAV=txts M:=rfl
end GoAbs
namespace GoAbs
open Go Go.Proofs
set_option maxHeartbeats 4000000
end GoAbs
namespace GoAbs
open Go Go.Proofs
set_option exponentiation.threshold 20000
def rho (l lo hi:Nat) (sg:Rat) (s:Nat):Rat:=if s=l then 1 else if lo≤s∧s<hi then sg else 0
end GoAbs
namespace GoAbs
open Go Go.Proofs
end GoAbs
namespace GoAbs
open Go Go.Proofs
set_option exponentiation.threshold 20000
theorem Yw5 {q:Rat}(h:NumOk q):(numS q).length≤1000000000:=by have:=Y06 h; omega
end GoAbs
namespace GoAbs
open Go Go.Proofs
set_option exponentiation.threshold 20000
theorem Y6n {F:List Rat}(hok:∀ q,q∈F→NumOk q):(F.map numS).map toQ=F:=by
 rw [List.map_map]
 conv=>rhs; rw [← List.map_id F]
 exact List.map_congr_left fun q hq=>by
  show toQ (numS q)=q
  unfold toQ; rw [Z29 (hok q hq)]; rfl
end GoAbs
namespace GoAbs
open Go Go.Proofs
set_option maxHeartbeats 4000000
theorem Z32 {g:Gm}(hg:GmP g) (hl:GmL g):Rb 4000 (valG g):=by
 obtain ⟨q,h1,h2⟩:=Z9p hg
 rw [h2]
 exact Yma hg hl h1.ok
theorem Y67 (x:List Rat):ss x=txts (x.map numS):=by unfold ss txts; rw [List.map_map]; rfl
end GoAbs
namespace GoAbs
open Go Go.Proofs
set_option maxHeartbeats 8000000
def pk (l:List Int) (i:Nat):Int:=l.getD i 0
def mdMany (mv:List Int) (i:Nat):Nat:=(pk mv (4*i) % 3+1).toNat
def mdW (mv:List Int) (i k:Nat):Int:=IntKind.i64.wrap ((pk mv (4*i+k+1)).tdiv 7) % 3+1
def mdS (mv:List Int) (i:Nat):Nat→Int
 | 0=>0
 | k+1=>mdS mv i k+mdW mv i k
def mdKind (ks:List Int) (i:Nat):Int:=pk ks i % 3+1
def mdRew (rs:List Int) (i:Nat):Rat:=(((pk rs i).tmod 50:Int):Rat)
def mdOdd (mv:List Int) (i k:Nat):Rat:=Rat.divInt (mdW mv i k) (mdS mv i (mdMany mv i))
def mdMv (size:Nat) (kd:Int) (mv:List Int) (i k:Nat):Mv:=(pk mv (4*i+k+1) % (size:Int),if kd=3 then numS (mdOdd mv i k) else [])
def mdN (size:Nat) (ks rs mv:List Int) (i:Nat):Nd:=⟨mdKind ks i,numS (mdRew rs i),(List.range (mdMany mv i)).map (mdMv size (mdKind ks i) mv i)⟩
def mdL (size:Nat) (ks rs mv:List Int):List Nd:=(List.range size).map (mdN size ks rs mv)
def mdD (d:Int):Rat:=Rat.divInt (d % 7) (d % 7+1+d / 7 % 3)
theorem Zmc (mv:List Int) (i:Nat):1≤mdMany mv i∧mdMany mv i≤3:=by
 unfold mdMany
 have h1:=Int.emod_nonneg (pk mv (4*i)) (show (3:Int)≠0 by decide)
 have h2:=Int.emod_lt_of_pos (pk mv (4*i)) (show (0:Int)<3 by decide)
 omega
theorem Yn9 (mv:List Int) (i k:Nat):1≤mdW mv i k∧mdW mv i k≤3:=by
 unfold mdW
 have h1:=Int.emod_nonneg (IntKind.i64.wrap ((pk mv (4*i+k+1)).tdiv 7)) (show (3:Int)≠0 by decide)
 have h2:=Int.emod_lt_of_pos (IntKind.i64.wrap ((pk mv (4*i+k+1)).tdiv 7)) (show (0:Int)<3 by decide)
 omega
theorem Yt5 (mv:List Int) (i:Nat):∀ k:Nat,(k:Int)≤mdS mv i k∧mdS mv i k≤3*k
 | 0=>by unfold mdS; omega
 | k+1=>by
  have h1:=Yt5 mv i k
  have h2:=Yn9 mv i k
  unfold mdS
  omega
theorem Yl8 (mv:List Int) (i:Nat):1≤mdS mv i (mdMany mv i)∧mdS mv i (mdMany mv i)≤9:=by
 have h1:=Zmc mv i
 have h2:=Yt5 mv i (mdMany mv i)
 omega
theorem Yjc (ks:List Int) (i:Nat):mdKind ks i=1∨mdKind ks i=2∨mdKind ks i=3:=by
 unfold mdKind
 have h1:=Int.emod_nonneg (pk ks i) (show (3:Int)≠0 by decide)
 have h2:=Int.emod_lt_of_pos (pk ks i) (show (0:Int)<3 by decide)
 omega
theorem Yn2 (rs:List Int) (i:Nat):(mdRew rs i).den=1∧(mdRew rs i).num=(pk rs i).tmod 50∧(mdRew rs i).num.natAbs<50:=by
 have h1:=(Z9n (v:=pk rs i) (n:=50) (by decide)).1
 have h2:=(Z9n (v:=pk rs i) (n:=50) (by decide)).2.1
 unfold mdRew
 refine ⟨rfl,rfl,?_⟩
 show ((pk rs i).tmod 50).natAbs<50
 omega
theorem Yg6 (mv:List Int) (i k:Nat):(mdOdd mv i k).den≤9∧(mdOdd mv i k).num.natAbs≤3∧0<mdOdd mv i k:=by
 have h1:=Yn9 mv i k
 have h2:=Yl8 mv i
 unfold mdOdd
 obtain ⟨n1,n2⟩:=Zdc (n:=mdW mv i k) (d:=mdS mv i (mdMany mv i)) (by omega)
 refine ⟨by omega,by omega,?_⟩
 rw [Rat.divInt_eq_div,Rat.div_def]
 have a1:(0:Rat)<((mdW mv i k:Int):Rat):=by exact_mod_cast (show (0:Int)<mdW mv i k by omega)
 have a2:(0:Rat)<((mdS mv i (mdMany mv i):Int):Rat):=by exact_mod_cast (show (0:Int)<mdS mv i (mdMany mv i) by omega)
 exact Rat.mul_pos a1 (Rat.inv_pos.2 a2)
theorem qb20 {q:Rat}(h:q.num.natAbs<1048576∧q.den<1048576):Qb 20 q:=⟨h.1,h.2⟩
theorem lpick {p:List Int}{i:Nat}:SpecV Tryz.prog Ys1 [.sl (ivs p),.int .i64 (i:Int)] (.int .i64 (pk p i)):=by
 refine Zae Yl5 (by simp) ?_
 unfold Ykn
 by_cases hi:i<p.length
 ·have q0:(0:Int)≤(i:Int):=by omega
  have q1:(i:Int)<(p.length:Int):=by omega
  have hg:(ivs p)[i]? = some (.int .i64 (pk p i)):=Yb7 (by unfold pk; rw [List.getD_eq_getElem?_getD,List.getElem?_eq_getElem hi]; rfl)
  simp only [go_sem,Zro,Zrs,Z45,Zbs,q0,q1,hg]
 ·have q1:¬ (i:Int)<(p.length:Int):=by omega
  have hg:pk p i=0:=by unfold pk; rw [List.getD_eq_getElem?_getD,List.getElem?_eq_none (by omega)]; rfl
  rw [hg]
  simp only [go_sem,Zro,Zrs,Z5o,Zbs,q1]
theorem lfold1 {v n:Int}(hn:0<n) (hnl:n≤1000000):SpecV Tryz.prog Ym8 [.int .i64 v,.int .i64 n] (.int .i64 (v % n)):=by
 obtain ⟨h1,h2,h3⟩:=Z9n (v:=v) hn
 have hn0:n≠0:=by omega
 have e1:IntKind.i64.wrap (v.tmod n+n)=v.tmod n+n:=Zac (by omega) (by omega)
 refine Zae Yid (by simp) ?_
 unfold Ycv
 simp only [go_sem,Z27,Z2x,hn0,e1,h3]
theorem lnumq {q:Rat}{k:Nat}(hb:Qb k q) (hk:k≤10000000) (hok:NumOk q):SpecV Tryz.prog Ywk [.agg (rq q)] (.str (bs (numS q))):=by
 have h:=rnum hb.ib.1 hb.ib.2 (by have:=q.den_pos; omega) hk (Rat.num_divInt_den q)
 rw [if_pos hok] at h
 have h':SpecV Tryz.prog Yjd [.agg (rq q)] (.tup [.str (bs (numS q)),.bool true]):=h
 have rl:∀ q:Rat,(rq q).length=4:=fun q=>rfl
 refine Zae Yqk (by simp) ?_
 unfold Yp6
 simp only [go_sem,Yap,Z8c,rl,Z3v,Z3s]
 refine Zaa h' (by simp only [go_sem,Yjo]) ?_
 simp only [go_sem,Z9j]
theorem Y75 {P:List AV}{B1:Blk}{ks rs mv:List Int}{d size:Int}{i:Nat}(hi:i≤10) (hP:∀ f,gcL f P=P) (hB:∀ f,B1.gc f=B1) {K:Ex→St→Prop}
  (hK:∀ e:Nat→AV,Has e [(1,.sl (ivs ks)),(2,.sl (ivs rs)),(3,.sl (ivs mv)),(4,.int .u8 d),(12,.osl (some 3) 0 0 i),(13,.int .i64 size),(14,.int .i64 (i:Int)),(15,.ptr 1 0),(16,.int .i64 (mdMany mv i:Int)),(17,.osl none 2 0 (mdMany mv i)),(18,.int .i64 (mdS mv i (mdMany mv i)))] →
   K (.exit 2) ⟨e,[.cells P,B1,.cells (ivs ((List.range (mdMany mv i)).map (mdW mv i)))]⟩) :
  T Tryz.prog 125 0 (.loop Ztr) ⟨envL [(1,.sl (ivs ks)),(2,.sl (ivs rs)),(3,.sl (ivs mv)),(4,.int .u8 d),(12,.osl (some 3) 0 0 i),(13,.int .i64 size),(14,.int .i64 (i:Int)),(15,.ptr 1 0),(16,.int .i64 (mdMany mv i:Int)),(17,.osl none 2 0 0),(18,.int .i64 0),(19,.int .i64 0)],[.cells P,B1,.cells []]⟩ K:=by
 have hmx:Tryz.prog.follows .mixedOrders=true:=by kernel_rfl
 have hm:=Zmc mv i
 obtain ⟨n,hn⟩:∃ n,n=mdMany mv i:=⟨_,rfl⟩
 rw [← hn] at hK hm ⊢
 refine Zaf (fun k:Nat=>⟨envL [(1,.sl (ivs ks)),(2,.sl (ivs rs)),(3,.sl (ivs mv)),(4,.int .u8 d),(12,.osl (some 3) 0 0 i),(13,.int .i64 size),(14,.int .i64 (i:Int)),(15,.ptr 1 0),(16,.int .i64 (n:Int)),(17,.osl none 2 0 k),(18,.int .i64 (mdS mv i k)),(19,.int .i64 (k:Int))],[.cells P,B1,.cells (ivs ((List.range k).map (mdW mv i)))]⟩)
  (fun k=>k≤n) (fun k=>n - k) 0 (by omega) (Zab _ (by simp only [go_sem,mdS]; simp)) (fun k hk N hN=>?_)
 unfold Ztr
 by_cases hkn:k<n
 ·have hpk:=lpick (p:=mv) (i:=4*i+k+1)
  have hfo:=lfold1 (v:=IntKind.i64.wrap ((pk mv (4*i+k+1)).tdiv 7)) (n:=3) (by decide) (by decide)
  have hwl:=Yn9 mv i k
  have hsl:=Yt5 mv i k
  have hwd:IntKind.i64.wrap ((pk mv (4*i+k+1)).tdiv 7) % 3=mdW mv i k - 1:=by unfold mdW; omega
  rw [hwd] at hfo
  have hs:mdS mv i (k+1)=mdS mv i k+mdW mv i k:=rfl
  have tk:ivs ((List.range (k+1)).map (mdW mv i))=ivs ((List.range k).map (mdW mv i)) ++ [.int .i64 (mdW mv i k)]:=by rw [List.range_succ]; simp [ivs]
  have l1:(ivs ((List.range k).map (mdW mv i))).length=k:=by rw [Zbs]; simp
  have l2:(ivs ((List.range k).map (mdW mv i))).take k=ivs ((List.range k).map (mdW mv i)):=List.take_of_length_le (by omega)
  have hg:=fun f=>Yy1 (f:=f) (p:=(List.range k).map (mdW mv i))
  generalize ivs ((List.range k).map (mdW mv i))=W at *
  have q1:(k:Int)<(n:Int):=by omega
  have s1:(k+1)*8≤1099511627776:=by omega
  have x1:IntKind.i64.wrap (4*(i:Int))=4*(i:Int):=Zac (by omega) (by omega)
  have x2:IntKind.i64.wrap (4*(i:Int)+(k:Int))=4*(i:Int)+(k:Int):=Zac (by omega) (by omega)
  have x3:IntKind.i64.wrap (4*(i:Int)+(k:Int)+1)=((4*i+k+1:Nat):Int):=by rw [Zac (by omega) (by omega)]; omega
  have x4:IntKind.i64.wrap (mdW mv i k - 1+1)=mdW mv i k:=by rw [Zac (by omega) (by omega)]; omega
  have x5:IntKind.i64.wrap (mdS mv i k+mdW mv i k)=mdS mv i k+mdW mv i k:=Zac (by omega) (by omega)
  have c7:¬ (7:Int)=0:=by decide
  have e1:IntKind.i64.wrap ((k:Int)+1)=((k+1:Nat):Int):=by rw [Zac (by omega) (by omega)]; omega
  simp only [go_sem,Zn2,Z25,q1,x1,x2,x3]
  refine Zaa hpk (by simp only [go_sem]) ?_
  simp only [go_sem,c7]
  refine Zaa hfo (by simp only [go_sem]) ?_
  simp only [go_sem,x4,x5,Z0n,s1,l1,l2,Nat.mul_one,Nat.le_refl,Z01,e1,List.cons_append,List.nil_append]
  refine hN (k+1) _ (by omega) (by omega) (Zcm (Zid [0,1,4] (by decide) (fun i hi=>by omega) [(1,.sl (ivs ks)),(2,.sl (ivs rs)),(3,.sl (ivs mv)),(4,.int .u8 d),(12,.osl (some 3) 0 0 i),(13,.int .i64 size),(14,.int .i64 (i:Int)),(15,.ptr 1 0),(16,.int .i64 (n:Int)),(17,.osl none 4 0 (k+1)),(18,.int .i64 (mdS mv i k+mdW mv i k)),(19,.int .i64 ((k+1:Nat):Int))] (by simp only [go_sem])) ?_)
  show St.mk _ [Blk.cells (gcL _ P),B1.gc _,Blk.cells (gcL _ (W ++ [AV.int .i64 (mdW mv i k)]))]=_
  rw [Z1j,hg,hP,hB,hs,tk]
  rfl
 ·have hke:k=n:=by omega
  subst hke
  have q1:¬ ((k:Nat):Int)<(k:Int):=by omega
  simp only [go_sem,Zn2,q1]
  exact hK _ (by simp only [go_sem])
theorem Y8n {P:List AV}{ks rs mv:List Int}{d kd:Int}{size:Nat}{i:Nat}{s:ByteArray}(hi:i≤10) (hsz:1≤size∧size≤10) (hP:∀ f,gcL f P=P) (hkd:kd=1∨kd=2∨kd=3) {K:Ex→St→Prop}
  (hK:∀ e:Nat→AV,Has e [(1,.sl (ivs ks)),(2,.sl (ivs rs)),(3,.sl (ivs mv)),(4,.int .u8 d),(12,.osl (some 3) 0 0 i),(13,.int .i64 (size:Int)),(14,.int .i64 (i:Int)),(15,.ptr 1 0)] →
   K (.exit 4) ⟨e,[.cells P,.cells [.int .i64 kd,.str s,.osl (some 2) 3 0 (mdMany mv i)],.cells (ivs ((List.range (mdMany mv i)).map (mdW mv i))),.cells (((List.range (mdMany mv i)).map (mdMv size kd mv i)).flatMap mvC)]⟩) :
  T Tryz.prog 125 0 (.loop Zkf) ⟨envL [(1,.sl (ivs ks)),(2,.sl (ivs rs)),(3,.sl (ivs mv)),(4,.int .u8 d),(12,.osl (some 3) 0 0 i),(13,.int .i64 (size:Int)),(14,.int .i64 (i:Int)),(15,.ptr 1 0),(16,.int .i64 (mdMany mv i:Int)),(17,.osl none 2 0 (mdMany mv i)),(18,.int .i64 (mdS mv i (mdMany mv i))),(21,.int .i64 0)],
   [.cells P,.cells [.int .i64 kd,.str s,.osl (some 2) 3 0 0],.cells (ivs ((List.range (mdMany mv i)).map (mdW mv i))),.cells []]⟩ K:=by
 have hmx:Tryz.prog.follows .mixedOrders=true:=by kernel_rfl
 have hm:=Zmc mv i
 have hsp:=Yl8 mv i
 have hod:∀ k,mdOdd mv i k=Rat.divInt (mdW mv i k) (mdS mv i (mdMany mv i)):=fun k=>rfl
 have hodl:=Yg6 mv i
 obtain ⟨sm,hsm⟩:∃ sm,sm=mdS mv i (mdMany mv i):=⟨_,rfl⟩
 rw [← hsm] at hod hsp ⊢
 obtain ⟨n,hn⟩:∃ n,n=mdMany mv i:=⟨_,rfl⟩
 rw [← hn] at hK hm ⊢
 have hwl:(ivs ((List.range n).map (mdW mv i))).length=n:=by rw [Zbs]; simp
 have hwg:∀ k,k<n→(ivs ((List.range n).map (mdW mv i)))[k]? = some (.int .i64 (mdW mv i k)):=fun k hk=>Yb7 (by rw [List.getElem?_map,List.getElem?_range hk]; rfl)
 have hWgc:=fun f=>Yy1 (f:=f) (p:=(List.range n).map (mdW mv i))
 generalize ivs ((List.range n).map (mdW mv i))=W at *
 refine Zaf (fun k:Nat=>⟨envL [(1,.sl (ivs ks)),(2,.sl (ivs rs)),(3,.sl (ivs mv)),(4,.int .u8 d),(12,.osl (some 3) 0 0 i),(13,.int .i64 (size:Int)),(14,.int .i64 (i:Int)),(15,.ptr 1 0),(16,.int .i64 (n:Int)),(17,.osl none 2 0 n),(18,.int .i64 sm),(21,.int .i64 (k:Int))],
   [.cells P,.cells [.int .i64 kd,.str s,.osl (some 2) 3 0 k],.cells W,.cells (((List.range k).map (mdMv size kd mv i)).flatMap mvC)]⟩)
  (fun k=>k≤n) (fun k=>n - k) 0 (by omega) (Zab _ (by simp only [go_sem]; simp)) (fun k hk N hN=>?_)
 unfold Zkf
 by_cases hkn:k<n
 ·have hpk:=lpick (p:=mv) (i:=4*i+k+1)
  have hfo:=lfold1 (v:=pk mv (4*i+k+1)) (n:=(size:Int)) (by omega) (by omega)
  have htk:((List.range (k+1)).map (mdMv size kd mv i)).flatMap mvC=((List.range k).map (mdMv size kd mv i)).flatMap mvC ++ [.int .i64 (pk mv (4*i+k+1) % (size:Int)),.str (bs (if kd=3 then numS (mdOdd mv i k) else []))]:=by
   rw [List.range_succ,List.map_append,List.flatMap_append]; rfl
  have hPl:(((List.range k).map (mdMv size kd mv i)).flatMap mvC).length=k*2:=by rw [Yvi]; simp
  have hPg:=fun f=>Y4x (M:=(List.range k).map (mdMv size kd mv i)) f
  generalize ((List.range k).map (mdMv size kd mv i)).flatMap mvC=Q at *
  have hwk:=Yn9 mv i k
  have hgw:(W.drop k)[0]? = some (.int .i64 (mdW mv i k)):=by rw [List.getElem?_drop,Nat.add_zero]; exact hwg k hkn
  have q0:(0:Int)≤(k:Int):=by omega
  have q1:(k:Int)<(n:Int):=by omega
  have s1:(k+1)*24≤1099511627776:=by omega
  have s2:k*2≤Q.length:=by omega
  have tQ:Q.take (k*2)=Q:=List.take_of_length_le (by omega)
  have x1:IntKind.i64.wrap (4*(i:Int))=4*(i:Int):=Zac (by omega) (by omega)
  have x2:IntKind.i64.wrap (4*(i:Int)+(k:Int))=4*(i:Int)+(k:Int):=Zac (by omega) (by omega)
  have x3:IntKind.i64.wrap (4*(i:Int)+(k:Int)+1)=((4*i+k+1:Nat):Int):=by rw [Zac (by omega) (by omega)]; omega
  have e1:IntKind.i64.wrap ((k:Int)+1)=((k+1:Nat):Int):=by rw [Zac (by omega) (by omega)]; omega
  have fin:∀ (e:Nat→AV) (kd':Int) (l:List UInt8) (B4 B5:Blk),kd'=kd→l=(if kd=3 then numS (mdOdd mv i k) else [])→Has e [(1,.sl (ivs ks)),(2,.sl (ivs rs)),(3,.sl (ivs mv)),(4,.int .u8 d),(12,.osl (some 3) 0 0 i),(13,.int .i64 (size:Int)),(14,.int .i64 (i:Int)),(15,.ptr 1 0),(16,.int .i64 (n:Int)),(17,.osl none 2 0 n),(18,.int .i64 sm),(21,.int .i64 ((k+1:Nat):Int))] →
    N ⟨e,[.cells P,.cells [.int .i64 kd',.str s,.osl (some 2) 6 0 (k+1)],.cells W,.dead,B4,B5,.cells (Q ++ [.int .i64 (pk mv (4*i+k+1) % (size:Int)),.str (bs l)])]⟩:=fun e kd' l B4 B5 hkd' hl he=>by
   subst hkd' hl
   refine hN (k+1) _ (by omega) (by omega) (Zcm (Zid [0,1,2,6] (by decide) (fun i hi=>by omega) _ he) ?_)
   rw [← htk]
   show St.mk _ [Blk.cells (gcL _ P),_,Blk.cells (gcL _ W),Blk.cells (gcL _ (((List.range (k+1)).map (mdMv size kd' mv i)).flatMap mvC))]=_
   rw [Y4x,hP,hWgc]
   rfl
  by_cases k3:kd=3
  ·have hob:=hodl k
   have hmk:=rmake (n:=mdW mv i k) (d:=sm) (by omega) (by omega) (by omega)
   have hmk':SpecV Tryz.prog Z38 [.int .i64 (mdW mv i k),.int .i64 sm] (.agg (rq (mdOdd mv i k))):=by rw [hod]; exact hmk
   have hqb:Qb 20 (mdOdd mv i k):=qb20 (by omega)
   have hnm:=lnumq hqb (by omega) (Zmo hqb (by omega))
   simp only [go_sem,Zib,Zn0,q1,x1,x2,x3]
   refine Zaa hpk (by simp only [go_sem]) ?_
   simp only [go_sem]
   refine Zaa hfo (by simp only [go_sem]) ?_
   simp only [go_sem,Zop,Z0x,k3,q0,q1,hwl,hgw,List.cons_append,List.nil_append]
   refine Zaa hmk' (by simp only [go_sem]) ?_
   simp only [go_sem]
   refine Zaa hnm (by simp only [go_sem,Yjo]) ?_
   simp only [go_sem,Zn3,Zo5,s1,s2,tQ,e1,List.cons_append,List.nil_append]
   exact fin _ _ _ _ _ k3.symm (by rw [if_pos k3]) (by simp only [go_sem])
  ·simp only [go_sem,Zib,Zn0,q1,x1,x2,x3]
   refine Zaa hpk (by simp only [go_sem]) ?_
   simp only [go_sem]
   refine Zaa hfo (by simp only [go_sem]) ?_
   simp only [go_sem,Zop,k3,Zn3,Zo5,s1,s2,tQ,e1,List.cons_append,List.nil_append]
   exact fin _ _ [] _ _ rfl (by rw [if_neg k3]) (by simp only [go_sem])
 ·have hke:k=n:=by omega
  subst hke
  have q1:¬ ((k:Nat):Int)<(k:Int):=by omega
  simp only [go_sem,Zib,q1]
  exact hK _ (by simp only [go_sem])
theorem Y4e {d:Int}(hd:0≤d∧d≤255):(mdD d).den≤9∧(mdD d).num.natAbs≤6:=by
 unfold mdD
 obtain ⟨n1,n2⟩:=Zdc (n:=d % 7) (d:=d % 7+1+d / 7 % 3) (by omega)
 omega
theorem Y49 {ks rs mv:List Int}{d:Int}{size:Nat}(hsz:1≤size∧size≤5) {K:Ex→St→Prop}
  (hK:∀ e:Nat→AV,e 4 = .int .u8 d→e 12 = .osl (some 3) 0 0 size→K (.exit 0) ⟨e,[.cells ((mdL size ks rs mv).flatMap ndC)]⟩) :
  T Tryz.prog 125 0 (.loop Zs5) ⟨envL [(1,.sl (ivs ks)),(2,.sl (ivs rs)),(3,.sl (ivs mv)),(4,.int .u8 d),(12,.osl (some 3) 0 0 0),(13,.int .i64 (size:Int)),(14,.int .i64 0)],[.cells []]⟩ K:=by
 have hmx:Tryz.prog.follows .mixedOrders=true:=by kernel_rfl
 refine Zt2 (fun i:Nat=>⟨envL [(1,.sl (ivs ks)),(2,.sl (ivs rs)),(3,.sl (ivs mv)),(4,.int .u8 d),(12,.osl (some 3) 0 0 i),(13,.int .i64 (size:Int)),(14,.int .i64 (i:Int))],[.cells (((List.range i).map (mdN size ks rs mv)).flatMap ndC)]⟩)
  (fun i=>i≤size) (fun i=>size - i) 0 (by omega) (Zab _ (by simp only [go_sem]; simp)) (fun i hi N hN=>?_)
 unfold Zs5
 by_cases hin:i<size
 ·have hpk:=lpick (p:=ks) (i:=i)
  have hfo:=lfold1 (v:=pk ks i) (n:=3) (by decide) (by decide)
  have hpr:=lpick (p:=rs) (i:=i)
  have hpm:=lpick (p:=mv) (i:=4*i)
  have hfm:=lfold1 (v:=pk mv (4*i)) (n:=3) (by decide) (by decide)
  have hkd:=Yjc ks i
  have hkd':pk ks i % 3=mdKind ks i - 1:=by unfold mdKind; omega
  rw [hkd'] at hfo
  have hmn:=Zmc mv i
  have hmn':pk mv (4*i) % 3=(mdMany mv i:Int) - 1:=by
   unfold mdMany at hmn ⊢
   omega
  rw [hmn'] at hfm
  obtain ⟨r1,r2,r3⟩:=Yn2 rs i
  have hrq:Qb 20 (mdRew rs i):=qb20 ⟨by omega,by omega⟩
  have hwh:SpecV Tryz.prog Yai [.int .i64 ((pk rs i).tmod 50)] (.agg (rq (mdRew rs i))):=by
   have h:=rwhole (v:=(pk rs i).tmod 50) (by omega)
   have e:avR ((pk rs i).tmod 50) 1 = .agg (rq (mdRew rs i)):=by unfold rq; rw [r2,r1]; rfl
   rw [e] at h
   exact h
  have hnm:=lnumq hrq (by omega) (Zmo hrq (by omega))
  have htk:((List.range (i+1)).map (mdN size ks rs mv)).flatMap ndC=((List.range i).map (mdN size ks rs mv)).flatMap ndC++ndC (mdN size ks rs mv i):=by rw [List.range_succ,List.map_append,List.flatMap_append]; simp
  have hPl:(((List.range i).map (mdN size ks rs mv)).flatMap ndC).length=i*3:=by rw [Yw7]; simp
  have hPg:=fun f=>Xbw (M:=(List.range i).map (mdN size ks rs mv)) f
  generalize ((List.range i).map (mdN size ks rs mv)).flatMap ndC=P at *
  have c50:¬ (50:Int)=0:=by decide
  have q1:(i:Int)<(size:Int):=by omega
  have s1:(i+1)*48≤1099511627776:=by omega
  have s2:i*3≤P.length:=by omega
  have tP:P.take (i*3)=P:=List.take_of_length_le (by omega)
  have x1:IntKind.i64.wrap (4*(i:Int))=((4*i:Nat):Int):=by rw [Zac (by omega) (by omega)]; omega
  have x2:IntKind.i64.wrap (mdKind ks i - 1+1)=mdKind ks i:=by rw [Zac (by omega) (by omega)]; omega
  have x3:IntKind.i64.wrap ((mdMany mv i:Int) - 1+1)=(mdMany mv i:Int):=by rw [Zac (by omega) (by omega)]; omega
  have e1:IntKind.i64.wrap ((i:Int)+1)=((i+1:Nat):Int):=by rw [Zac (by omega) (by omega)]; omega
  refine Zbi 0 rfl ?_
  simp only [go_sem,Zr5,q1]
  refine Za7 (Zbg (Zbi 2 rfl ?_))
  simp only [go_sem,Z6k]
  refine Zaa hpk (by simp only [go_sem]) ?_
  simp only [go_sem]
  refine Zaa hfo (by simp only [go_sem]) ?_
  simp only [go_sem,x2]
  refine Zaa hpr (by simp only [go_sem]) ?_
  simp only [go_sem,c50]
  refine Zaa hwh (by simp only [go_sem]) ?_
  simp only [go_sem]
  refine Zaa hnm (by simp only [go_sem,Yjo]) ?_
  simp only [go_sem,Z7a,x1,List.cons_append,List.nil_append]
  refine Zaa hpm (by simp only [go_sem]) ?_
  simp only [go_sem]
  refine Zaa hfm (by simp only [go_sem]) ?_
  simp only [go_sem,x3,Z5r]
  refine T_le (Zkr 17 none (by simp only [go_sem]) [(1,.sl (ivs ks)),(2,.sl (ivs rs)),(3,.sl (ivs mv)),(4,.int .u8 d),(12,.osl (some 3) 0 0 i),(13,.int .i64 (size:Int)),(14,.int .i64 (i:Int)),(15,.ptr 1 0),(16,.int .i64 (mdMany mv i:Int)),(18,.int .i64 0)] (by simp only [go_sem])) ?_
  refine Za7 (Za7 (T_W ?_))
  simp only [go_sem,Z41,List.cons_append,List.nil_append,List.length_cons,List.length_nil]
  refine Zbg (Zau [(1,.sl (ivs ks)),(2,.sl (ivs rs)),(3,.sl (ivs mv)),(4,.int .u8 d),(12,.osl (some 3) 0 0 i),(13,.int .i64 (size:Int)),(14,.int .i64 (i:Int)),(15,.ptr 1 0),(16,.int .i64 (mdMany mv i:Int)),(17,.osl none 2 0 0),(18,.int .i64 0),(19,.int .i64 0)] (by simp only [go_sem]) (Y75 (by omega) hPg (fun f=>rfl) (fun e he=>?_)))
  show T Tryz.prog 125 0 (.seq (.seq (.rg false Znl) (.block 4 (.loop Zkf))) (.rg false Zfj)) _ _
  refine T_le (Zno (Zab _ he) (Zno Yjt (Zcm (Z76 (b:=1) (l := [.int .i64 (mdKind ks i),.str (bs (numS (mdRew rs i))),.nils]) (l' := [.int .i64 (mdKind ks i),.str (bs (numS (mdRew rs i))),.osl (some 2) 3 0 0]) rfl rfl (fun j x y hx hy=>?_)) rfl))) ?_
  ·match j with
   | 0=>simp at hx hy; subst hx hy; exact .inl rfl
   | 1=>simp at hx hy; subst hx hy; exact .inl rfl
   | 2=>simp at hx hy; subst hx hy; exact .inr ⟨rfl,_,_,_,rfl⟩
   | j+3=>simp at hx
  refine Za7 (Za7 (T_W ?_))
  simp only [go_sem,Znl]
  refine Zbg (Zau [(1,.sl (ivs ks)),(2,.sl (ivs rs)),(3,.sl (ivs mv)),(4,.int .u8 d),(12,.osl (some 3) 0 0 i),(13,.int .i64 (size:Int)),(14,.int .i64 (i:Int)),(15,.ptr 1 0),(16,.int .i64 (mdMany mv i:Int)),(17,.osl none 2 0 (mdMany mv i)),(18,.int .i64 (mdS mv i (mdMany mv i))),(21,.int .i64 0)] (by simp only [go_sem]) (Y8n (by omega) (by omega) hPg hkd (fun e he=>?_)))
  show T Tryz.prog 125 0 (.rg false Zfj) _ _
  have hnd:ndC (mdN size ks rs mv i) = [.int .i64 (mdKind ks i),.str (bs (numS (mdRew rs i))),.sl (((List.range (mdMany mv i)).map (mdMv size (mdKind ks i) mv i)).map mvAV)]:=rfl
  refine T_le (Yev (b:=1) (ids := [3]) (l := [.int .i64 (mdKind ks i),.str (bs (numS (mdRew rs i))),.osl (some 2) 3 0 (mdMany mv i)]) (l':=ndC (mdN size ks rs mv i)) rfl (by decide) rfl (fun j x y hx hy=>?_) [(1,.sl (ivs ks)),(2,.sl (ivs rs)),(3,.sl (ivs mv)),(4,.int .u8 d),(12,.osl (some 3) 0 0 i),(13,.int .i64 (size:Int)),(14,.int .i64 (i:Int)),(15,.ptr 1 0)] (Z85 he)) ?_
  ·rw [hnd] at hy
   match j with
   | 0=>simp at hx hy; subst hx hy; exact .inr rfl
   | 1=>simp at hx hy; subst hx hy; exact .inr rfl
   | 2 =>
    simp only [List.getElem?_cons_succ,List.getElem?_cons_zero,Option.some.injEq] at hx hy
    subst hx hy
    have hbv:=Yvk (H := [Blk.cells P,.cells [.int .i64 (mdKind ks i),.str (bs (numS (mdRew rs i))),.osl (some 2) 3 0 (mdMany mv i)],.cells (ivs ((List.range (mdMany mv i)).map (mdW mv i))),.cells (((List.range (mdMany mv i)).map (mdMv size (mdKind ks i) mv i)).flatMap mvC)]) (ids := [3]) (b:=3) (M:=(List.range (mdMany mv i)).map (mdMv size (mdKind ks i) mv i)) rfl (by simp)
    rw [List.length_map,List.length_range] at hbv
    exact .inl hbv
   | j+3=>simp at hx
  show T Tryz.prog 125 0 (.rg false Zfj) ⟨_,[.cells P,.cells (ndC (mdN size ks rs mv i)),.cells (ivs ((List.range (mdMany mv i)).map (mdW mv i))),.dead]⟩ _
  have n3:(ndC (mdN size ks rs mv i)).length=3:=rfl
  have n3':(ndC (mdN size ks rs mv i)).take 3=ndC (mdN size ks rs mv i):=rfl
  have n3d:(ndC (mdN size ks rs mv i)).drop 3 = []:=rfl
  have hng:∀ f,gcL f (ndC (mdN size ks rs mv i))=ndC (mdN size ks rs mv i):=fun f=>rfl
  generalize ndC (mdN size ks rs mv i)=nd at *
  refine T_W ?_
  simp only [go_sem,Zfj,n3,n3',n3d,s1,s2,tP,Nat.le_refl,List.cons_append,List.nil_append]
  refine T_W ?_
  simp only [go_sem,Z09,e1]
  refine hN (i+1) _ (by omega) (by omega) (Zcm (Zid [5] (by decide) (fun i hi=>by omega) [(1,.sl (ivs ks)),(2,.sl (ivs rs)),(3,.sl (ivs mv)),(4,.int .u8 d),(12,.osl (some 3) 5 0 (i+1)),(13,.int .i64 (size:Int)),(14,.int .i64 ((i+1:Nat):Int))] (by simp only [go_sem])) ?_)
  show St.mk _ [Blk.cells (gcL _ (P++nd))]=_
  rw [Z1j,hPg,hng, ← htk]
  rfl
 ·have hie:i=size:=by omega
  subst hie
  have q1:¬ ((i:Nat):Int)<(i:Int):=by omega
  refine T_W ?_
  simp only [go_sem,Zr5,q1]
  exact hK _ (by simp only [go_sem]) (by simp only [go_sem])
theorem lmade {n d:Int}{ks rs mv:List Int}(hn:0≤n∧n≤255) (hd:0≤d∧d≤255):SpecV Tryz.prog Yrm [.int .u8 n,.sl (ivs ks),.sl (ivs rs),.sl (ivs mv),.int .u8 d] (.tup [.sl ((mdL (n % 5+1).toNat ks rs mv).map ndAV),.str (bs (numS (mdD d)))]):=by
 obtain ⟨size,hsz⟩:∃ size,size=(n % 5+1).toNat:=⟨_,rfl⟩
 rw [← hsz]
 have hs5:1≤size∧size≤5:=by omega
 have c5:¬ (5:Int)=0:=by decide
 have c7:¬ (7:Int)=0:=by decide
 have c3:¬ (3:Int)=0:=by decide
 have w1:IntKind.i64.wrap n=n:=Zac (by omega) (by omega)
 have w2:IntKind.i64.wrap d=d:=Zac (by omega) (by omega)
 have t5:n.tmod 5=n % 5:=Int.tmod_eq_emod_of_nonneg hn.1
 have t7:d.tmod 7=d % 7:=Int.tmod_eq_emod_of_nonneg hd.1
 have d7:d.tdiv 7=d / 7:=Int.tdiv_eq_ediv_of_nonneg hd.1
 have t3:(d / 7).tmod 3=d / 7 % 3:=Int.tmod_eq_emod_of_nonneg (by omega)
 have x1:IntKind.i64.wrap (n % 5+1)=(size:Int):=by rw [Zac (by omega) (by omega)]; omega
 have x2:IntKind.i64.wrap (d % 7+1)=d % 7+1:=Zac (by omega) (by omega)
 have x3:IntKind.i64.wrap (d / 7)=d / 7:=Zac (by omega) (by omega)
 have x4:IntKind.i64.wrap (d % 7+1+d / 7 % 3)=d % 7+1+d / 7 % 3:=Zac (by omega) (by omega)
 have hmk:=rmake (n:=d % 7) (d:=d % 7+1+d / 7 % 3) (by omega) (by omega) (by omega)
 have hmk':SpecV Tryz.prog Z38 [.int .i64 (d % 7),.int .i64 (d % 7+1+d / 7 % 3)] (.agg (rq (mdD d))):=hmk
 have hdl:=Y4e hd
 have hqb:Qb 20 (mdD d):=qb20 (by omega)
 have hnm:=lnumq hqb (by omega) (Zmo hqb (by omega))
 have hll:(mdL size ks rs mv).length=size:=by unfold mdL; rw [List.length_map,List.length_range]
 refine Za5 Ylh (by simp) (Zbi 2 rfl ?_)
 unfold Yic
 simp only [go_sem,Z4t,Z5i,Z5f,w1,c5,t5,x1]
 refine T_le (Zkr 12 (some 3) (by simp only [go_sem]) [(1,.sl (ivs ks)),(2,.sl (ivs rs)),(3,.sl (ivs mv)),(4,.int .u8 d),(13,.int .i64 (size:Int))] (by simp only [go_sem])) ?_
 refine Za7 (Za7 (T_W ?_))
 simp only [go_sem,Z59]
 refine Zbg (Zau [(1,.sl (ivs ks)),(2,.sl (ivs rs)),(3,.sl (ivs mv)),(4,.int .u8 d),(12,.osl (some 3) 0 0 0),(13,.int .i64 (size:Int)),(14,.int .i64 0)] (by simp only [go_sem]) (Y49 hs5 (fun e k4 k12=>?_)))
 show T Tryz.prog 125 0 (.seq (.rg false Zmx) .ret) _ _
 refine T_W ?_
 simp only [go_sem,Zmx,k4,k12,w2,c7,t7,d7,t3,c3,x2,x3,x4]
 refine Zaa hmk' (by simp only [go_sem]) ?_
 simp only [go_sem]
 refine Zaa hnm (by simp only [go_sem,Yjo]) ?_
 simp only [go_sem,k12]
 have hbn:=Yvc (H := [Blk.cells ((mdL size ks rs mv).flatMap ndC)]) (ids := [0]) (b:=0) (M:=mdL size ks rs mv) rfl (by simp)
 rw [hll] at hbn
 exact hbn
end GoAbs
namespace GoAbs
open Go Go.Proofs
set_option maxHeartbeats 4000000
def Fr (k:Nat) (q:Rat) (A:List AV):Prop:=∃ n d:Int,A=rc n d∧0<d∧Ib k n∧Ib k d∧q=Rat.divInt n d
theorem Z3i {n d:Int}(h:0<d):Rat.divInt n d*((d:Int):Rat)=((n:Int):Rat):=by
 have hd:((d:Int):Rat)≠0:=by
  have:(0:Rat)<((d:Int):Rat):=by exact_mod_cast h
  grind
 rw [Rat.divInt_eq_div,Rat.div_def,Rat.mul_assoc,Rat.inv_mul_cancel _ hd,Rat.mul_one]
theorem Fr.of {k:Nat}{q:Rat}(h:Qb k q):Fr k q (rq q):=⟨q.num,q.den,rfl,by have:=q.den_pos; omega,h.ib.1,h.ib.2,(Rat.num_divInt_den q).symm⟩
theorem Y4a {k:Nat}{p q:Rat}{A B:List AV}(ha:Fr k p A) (hb:Fr k q B) (hk:k≤1000000):SpecV Tryz.prog Yei [.agg A,.agg B] (.int .i64 (cmpR p q)):=by
 obtain ⟨n,d,rfl,hd,hn1,hd1,hp⟩:=ha
 obtain ⟨m,e,rfl,he,hm1,he1,hq⟩:=hb
 have h:=rcmpq hn1 hd1 hm1 he1 hk
 have hdd:(0:Rat)<((d:Int):Rat):=by exact_mod_cast hd
 have hee:(0:Rat)<((e:Int):Rat):=by exact_mod_cast he
 have h1:=Z3i (n:=n) hd
 have h2:=Z3i (n:=m) he
 rw [← hp] at h1
 rw [← hq] at h2
 have hde:=Rat.mul_pos hdd hee
 have c1:((n*e:Int):Rat)=p*(((d:Int):Rat)*((e:Int):Rat)):=by rw [Rat.intCast_mul]; grind
 have c2:((m*d:Int):Rat)=q*(((d:Int):Rat)*((e:Int):Rat)):=by rw [Rat.intCast_mul]; grind
 have l1:n*e<m*d↔p<q:=by rw [← Rat.intCast_lt_intCast,c1,c2,Rat.mul_lt_mul_right hde]
 have l2:m*d<n*e↔q<p:=by rw [← Rat.intCast_lt_intCast,c1,c2,Rat.mul_lt_mul_right hde]
 have e1:(if n*e=m*d then (0:Int) else if n*e<m*d then -1 else 1)=cmpR p q:=by
  unfold cmpR
  by_cases a:n*e<m*d
  ·rw [if_neg (by omega),if_pos a,if_pos (l1.1 a)]
  ·by_cases b:m*d<n*e
   ·rw [if_neg (by omega),if_neg a,if_neg (fun x=>a (l1.2 x)),if_pos (l2.1 b)]
   ·rw [if_pos (by omega),if_neg (fun x=>a (l1.2 x)),if_neg (fun x=>b (l2.2 x))]
 rw [e1] at h
 exact h
end GoAbs
namespace GoAbs
open Go Go.Proofs
set_option maxHeartbeats 4000000
theorem Lt9.fit {q:Rat}(h:Lt9 q):Fitd 12 q:=by
 obtain ⟨h1,h2⟩:=h
 have c:10000<10 ^ 12:=by decide
 exact ⟨Z3y (by decide) (by omega),Z3y (by decide) (by omega)⟩
theorem Lt9.qb {q:Rat}(h:Lt9 q):Qb 20 q:=qb20 (by have:=h.1; have:=h.2; omega)
theorem Lt9.ok {q:Rat}(h:Lt9 q):NumOk q:=Zmo h.qb (by omega)
theorem Lt9.len {q:Rat}(h:Lt9 q):1≤(numS q).length∧(numS q).length≤23:=by
 have a:=Z3y (n:=q.num.natAbs) (k:=4) (by decide) (by have:=h.2; omega)
 have b:=Z3y (n:=q.den) (k:=1) (by decide) (by have:=h.1; omega)
 have c:=Ypr q.num.natAbs
 unfold numS
 rw [List.length_append,List.length_append]
 split <;> split <;> simp only [List.length_cons,List.length_nil] <;> omega
theorem Lt9.ne {q:Rat}(h:Lt9 q):(numS q).isEmpty=false:=by
 have:=h.len.1
 cases hn:numS q with
 | nil=>rw [hn] at this; simp at this
 | cons a l=>rfl
theorem Lt9.parse {q:Rat}(h:Lt9 q):parseL (numS q)=some q:=Z29 h.ok
structure NT (N:Nat) (n:Nd):Prop where
 kind:n.kind=1∨n.kind=2∨n.kind=3
 rew:∃ q,n.rew=numS q∧Lt9 q
 len:1≤n.mv.length∧n.mv.length≤6
 to:∀ m,m∈n.mv→0≤m.1∧m.1<(N:Int)
 no:n.kind≠3→∀ m,m∈n.mv→m.2 = []
 odds:n.kind=3→(∀ m,m∈n.mv→∃ q,m.2=numS q∧Lt9 q∧0<q)∧sumM n.mv=1
theorem NT.facts {N:Nat}{n:Nd}(h:NT N n):ndVa n=true∧ndFi N n=true∧n.rew.length≤23∧n.mv.length≤7∧∀ m,m∈n.mv→m.2.length≤23:=by
 have hm:∀ m,m∈n.mv→(m.2 = []∧n.kind≠3)∨(n.kind=3∧∃ q,m.2=numS q∧Lt9 q∧0<q):=fun m hmm=>by
  by_cases h3:n.kind=3
  ·exact .inr ⟨h3,(h.odds h3).1 m hmm⟩
  ·exact .inl ⟨h.no h3 m hmm,h3⟩
 obtain ⟨q,hq,hl⟩:=h.rew
 have hpr:parseL n.rew=some q:=by rw [hq]; exact hl.parse
 refine ⟨?_,?_,?_,by have:=h.len; omega,?_⟩
 ·unfold ndVa vaM okB
  rw [hpr]
  simp only [Option.isSome_some,Bool.true_and,List.all_eq_true]
  intro m hmm
  rcases hm m hmm with ⟨e,_⟩ | ⟨_,p,e,hp,_⟩
  ·rw [e]; rfl
  ·rw [e,hp.parse]; simp
 ·unfold ndFi smallB fiM
  rw [hpr]
  simp only [Bool.and_eq_true,decide_eq_true_eq,List.all_eq_true]
  refine ⟨⟨⟨hl.fit,fun m hmm=>?_⟩,h.len⟩,?_⟩
  ·have ht:=h.to m hmm
   unfold mvFit mvFit1
   simp only [Bool.and_eq_true,decide_eq_true_eq,beq_iff_eq,Bool.or_eq_true]
   rcases hm m hmm with ⟨e,h3⟩ | ⟨h3,p,e,hp,hp0⟩
   ·rw [e]; exact ⟨⟨⟨ht.1,ht.2⟩,by simp [h3]⟩,.inl rfl⟩
   ·refine ⟨⟨⟨ht.1,ht.2⟩,?_⟩,.inr ?_⟩
    ·rw [h3,e,hp.ne]; rfl
    ·rw [e,hp.parse]; unfold mvFit2; simp [hp0,hp.fit]
  ·unfold kindF
   rcases h.kind with k | k | k
   ·simp [k]
   ·simp [k]
   ·simp [k,(h.odds k).2]
 ·rw [hq]; exact hl.len.2
 ·intro m hmm
  rcases hm m hmm with ⟨e,_⟩ | ⟨_,p,e,hp,_⟩
  ·rw [e]; simp
  ·rw [e]; exact hp.len.2
structure LT (L:List Nd) (d:List UInt8):Prop where
 n:1≤L.length∧L.length≤5
 nd:∀ n,n∈L→NT L.length n
 d:∃ q,d=numS q∧Lt9 q∧0≤q∧q<1
theorem LT.gin {L:List Nd}{d:List UInt8}(h:LT L d):GIn L d:=by
 obtain ⟨q,hq,hl,_⟩:=h.d
 exact ⟨.inl h.n.2,by rw [hq]; exact hl.len.2,fun n hn=>(h.nd n hn).facts.2.2⟩
theorem LT.ec {L:List Nd}{d:List UInt8}(h:LT L d):eC L d=0:=by
 obtain ⟨q,hq,hl,h0,h1⟩:=h.d
 have hp:parseL d=some q:=by rw [hq]; exact hl.parse
 have hv:(L.all ndVa && okB d)=true:=by
  rw [Bool.and_eq_true,List.all_eq_true]
  exact ⟨fun n hn=>(h.nd n hn).facts.1,by unfold okB; rw [hp]; rfl⟩
 have hf:gFit L d=true:=by
  unfold gFit disF smallB
  rw [hp]
  simp only [Bool.and_eq_true,decide_eq_true_eq,List.all_eq_true]
  exact ⟨⟨⟨h.n.1,by have:=h.n.2; omega⟩,fun n hn=>(h.nd n hn).facts.2.1⟩,hl.fit,h0,h1⟩
 unfold eC
 rw [hv,hf]; rfl
theorem LT.gmL {L:List Nd}{d:List UInt8}(h:LT L d):GmL (toGm L d):=by
 refine ⟨fun q hq=>?_,?_,fun x hx h3 q hq=>?_,?_⟩
 ·obtain ⟨n,hn,rfl⟩:=List.mem_map.1 hq
  obtain ⟨p,hp,hl⟩:=(h.nd n hn).rew
  show Lt9 ((parseL n.rew).getD 0)
  rw [hp,hl.parse]; exact hl
 ·obtain ⟨q,hq,hl,h0,h1⟩:=h.d
  show Lt9 ((parseL d).getD 0)
  rw [hq,hl.parse]; exact hl
 ·obtain ⟨n,hn,rfl⟩:=List.mem_map.1 hx
  obtain ⟨m,hm,rfl⟩:=List.mem_map.1 hq
  have hmm:=(List.mem_filter.1 hm).1
  have h3':n.kind=3:=by have:n.kind.toNat=3:=h3; omega
  obtain ⟨p,hp,hl,_⟩:=((h.nd n hn).odds h3').1 m hmm
  rw [hp,hl.parse]; exact hl
 ·show (L.map toGN).length≤5
  rw [List.length_map]; exact h.n.2
theorem LT.gmP {L:List Nd}{d:List UInt8}(h:LT L d):GmP (toGm L d)∧(toGm L d).nodes.length=L.length:=by
 obtain ⟨_,hg,hgn,_⟩:=((Z7v h.gin).resolve_left (fun x=>x.1 h.ec)).2
 exact ⟨hg,hgn⟩
theorem lvals {L:List Nd}{d:List UInt8}(h:LT L d):SpecV Tryz.prog Yh0 [.sl (L.map ndAV),.str (bs d)] (.tup [rowV (valG (toGm L d)),.bool true]):=by
 obtain ⟨hg,hgn⟩:=h.gmP
 have hv:=wvalue h.gin
 have hvl:=Zpb hg
 have hrb:=Z32 hg h.gmL
 have hL5:=h.n
 rw [if_pos h.ec] at hv
 have hok:∀ q,q∈valG (toGm L d)→NumOk q:=fun q hq=>Zmo (hrb q hq) (by omega)
 rw [show numsR (valG (toGm L d)) = .tup [.sl (ss (valG (toGm L d))),.int .i64 0] from if_pos hok,Y67] at hv
 obtain ⟨V,hV⟩:∃ V,V=valG (toGm L d):=⟨_,rfl⟩
 rw [← hV] at hv hvl hrb hok ⊢
 obtain ⟨M,hM⟩:∃ M,M=V.map numS:=⟨_,rfl⟩
 have hMV:M.map toQ=V:=by rw [hM]; exact Y6n hok
 have hMn:M.length=L.length:=by rw [hM,List.length_map,hvl,hgn]
 have hMl:∀ s,s∈M→s.length≤1000000000:=fun s hs=>by
  rw [hM] at hs
  obtain ⟨q,hq,rfl⟩:=List.mem_map.1 hs
  exact Yw5 (hok q hq)
 have hMp:∀ s,s∈M→okB s=true:=fun s hs=>by
  rw [hM] at hs
  obtain ⟨q,hq,rfl⟩:=List.mem_map.1 hs
  unfold okB
  rw [Z29 (hok q hq)]; rfl
 have hMall:M.all okB=true:=List.all_eq_true.2 hMp
 have hnm:=rnums (L:=M) (by omega) hMl
 rw [show numsE M=0 by unfold numsE; rw [if_pos (show (M.all fun s=>(parseL s).isSome)=true from hMall)],Y2p] at hnm
 have hqs:=rqs (L:=M) (fun s hs=>⟨hMl s hs,hMp s hs⟩) (by omega)
 rw [hMV] at hqs
 have hle:((M.length:Nat):Int)=(L.length:Int):=by omega
 rw [← hM] at hv
 refine Zae Yg8 (by simp) ?_
 unfold Z8d
 simp only [go_sem,Zwu,Zwt]
 refine Zaa hv (by simp only [go_sem]) ?_
 simp only [go_sem,Zv2,txts_len',List.length_map,hle]
 refine Zaa hnm (by simp only [go_sem]) ?_
 simp only [go_sem,Zwb]
 refine Zaa hqs (by simp only [go_sem]) ?_
 simp only [go_sem,rowV]
theorem Yjx (mv:List Int) (i k:Nat):Lt9 (mdOdd mv i k):=by
 have:=Yg6 mv i k
 exact ⟨by omega,by omega⟩
theorem Ybj {a b s:Int}:Rat.divInt a s+Rat.divInt b s=Rat.divInt (a+b) s:=by
 rw [Rat.divInt_eq_div,Rat.divInt_eq_div,Rat.divInt_eq_div,Rat.div_def,Rat.div_def,Rat.div_def,Rat.intCast_add,Rat.add_mul]
theorem Y4d {size:Nat}{mv:List Int}{i:Nat}:∀ k,sumM ((List.range k).map (mdMv size 3 mv i))=Rat.divInt (mdS mv i k) (mdS mv i (mdMany mv i))
 | 0=>by
  show (0:Rat)=Rat.divInt 0 _
  rw [Rat.divInt_eq_div,Rat.div_def]
  exact (Rat.zero_mul _).symm
 | k+1=>by
  rw [List.range_succ,List.map_append,List.map_cons,List.map_nil,Z9g,Y4d k]
  unfold stepM
  have hl:=Yjx mv i k
  have e:(mdMv size 3 mv i k).2=numS (mdOdd mv i k):=by unfold mdMv; rw [if_pos rfl]
  rw [e,hl.ne,if_neg (by decide),hl.parse]
  show _+mdOdd mv i k=_
  unfold mdOdd
  rw [Ybj]
  rfl
theorem Xdv {size:Nat}(hs:1≤size) (ks rs mv:List Int) (i:Nat):NT size (mdN size ks rs mv i):=by
 have hm:=Zmc mv i
 have hmem:∀ m,m∈(mdN size ks rs mv i).mv→∃ k,m=mdMv size (mdKind ks i) mv i k:=fun m h=>by
  obtain ⟨k,_,rfl⟩:=List.mem_map.1 h
  exact ⟨k,rfl⟩
 have hlen:(mdN size ks rs mv i).mv.length=mdMany mv i:=by
  show ((List.range _).map _).length=_
  rw [List.length_map,List.length_range]
 refine ⟨Yjc ks i,⟨_,rfl,?_⟩,by omega,fun m h=>?_,fun h3 m h=>?_,fun h3=>⟨fun m h=>?_,?_⟩⟩
 ·have:=Yn2 rs i
  exact ⟨by omega,by omega⟩
 ·obtain ⟨k,rfl⟩:=hmem m h
  exact ⟨Int.emod_nonneg _ (by omega),Int.emod_lt_of_pos _ (by omega)⟩
 ·obtain ⟨k,rfl⟩:=hmem m h
  exact if_neg h3
 ·obtain ⟨k,rfl⟩:=hmem m h
  exact ⟨_,if_pos h3,Yjx mv i k,(Yg6 mv i k).2.2⟩
 ·have h3':mdKind ks i=3:=h3
  show sumM ((List.range (mdMany mv i)).map (mdMv size (mdKind ks i) mv i))=1
  rw [h3',Y4d]
  have:=Yl8 mv i
  have hp:((mdS mv i (mdMany mv i):Int):Rat)≠0:=by
   have:(0:Rat)<((mdS mv i (mdMany mv i):Int):Rat):=by exact_mod_cast (show (0:Int)<mdS mv i (mdMany mv i) by omega)
   grind
  rw [Rat.divInt_eq_div,Rat.div_def,Rat.mul_inv_cancel _ hp]
theorem md_d {d:Int}(hd:0≤d∧d≤255):∃ q,numS (mdD d)=numS q∧Lt9 q∧0≤q∧q<1:=by
 have h:=Y4e hd
 have hden:(0:Int)<d % 7+1+d / 7 % 3:=by omega
 have hdr:(0:Rat)<((d % 7+1+d / 7 % 3:Int):Rat):=by exact_mod_cast hden
 have hm:=Z3i (n:=d % 7) hden
 refine ⟨mdD d,rfl,⟨by omega,by omega⟩,?_,?_⟩
 ·refine Rat.not_lt.1 (fun hn=>?_)
  have h1:=Rat.mul_lt_mul_of_pos_right hn hdr
  unfold mdD at h1
  rw [hm,Rat.zero_mul] at h1
  have:(d % 7:Int)<0:=by exact_mod_cast h1
  omega
 ·refine Rat.not_le.1 (fun hn=>?_)
  have h1:=Rat.mul_le_mul_of_nonneg_right hn (Rat.le_of_lt hdr)
  unfold mdD at h1
  rw [hm,Rat.one_mul] at h1
  have:(d % 7+1+d / 7 % 3:Int)≤d % 7:=by exact_mod_cast h1
  omega
theorem Xeu {size:Nat}(hs:1≤size∧size≤5) (ks rs mv:List Int) {d:Int}(hd:0≤d∧d≤255):LT (mdL size ks rs mv) (numS (mdD d)):=by
 have hl:(mdL size ks rs mv).length=size:=by unfold mdL; rw [List.length_map,List.length_range]
 refine ⟨by omega,fun n hn=>?_,md_d hd⟩
 rw [hl]
 obtain ⟨i,_,rfl⟩:=List.mem_map.1 hn
 exact Xdv hs.1 ks rs mv i
def tabAV (n d:Int) (ks rs mv:List Int):AV := .agg [.int .u8 n,.int .u8 d,.sl (ivs ks),.sl (ivs rs),.sl (ivs mv)]
def tabL (n:Int) (ks rs mv:List Int):List Nd:=mdL (n % 5+1).toNat ks rs mv
theorem lgame {n d:Int}{ks rs mv:List Int}(hn:0≤n∧n≤255) (hd:0≤d∧d≤255):SpecV Tryz.prog Yhp [tabAV n d ks rs mv] (.tup [.sl ((tabL n ks rs mv).map ndAV),.str (bs (numS (mdD d)))]):=by
 have h:=lmade (ks:=ks) (rs:=rs) (mv:=mv) hn hd
 unfold tabAV
 refine Zae Yg0 (by simp) ?_
 unfold Yaa
 simp only [go_sem,Zwy,Zv5]
 refine Zaa h (by simp only [go_sem]) ?_
 simp only [go_sem]
 rfl
theorem Xbo {n d:Int}(hn:0≤n∧n≤255) (hd:0≤d∧d≤255) (ks rs mv:List Int):LT (tabL n ks rs mv) (numS (mdD d)):=Xeu (by omega) ks rs mv hd
end GoAbs
namespace GoAbs
open Go Go.Proofs
set_option maxHeartbeats 4000000
theorem Y40 {k:Nat}{x:List Rat}(h:Rb k x) {i:Nat}(hi:i<x.length):Qb k (rget x i):=h _ (List.mem_of_getElem? (Zak hi))
end GoAbs
namespace GoAbs
open Go Go.Proofs
set_option maxHeartbeats 4000000
theorem Z0g {x:GN}{n:Nat}(hx:GnOk n x) (h1:x.kind=1) (v:List Rat):(∃ t,t<x.to.length∧worthR x v=rget v (x.to.getD t 0))∧∀ t,t<x.to.length→rget v (x.to.getD t 0)≤worthR x v:=by
 have b1:=Zgi (v:=v) (sg:=1) hx.pos (Nat.le_refl _)
 have e:worthR x v=rget v (x.to.getD (bestG v x.to 1 x.to.length) 0):=by unfold worthR bestA; rw [if_pos h1]
 exact ⟨⟨_,b1,e⟩,fun t ht=>by rw [e]; exact (Z7s (v:=v) (to:=x.to) (k:=x.to.length)).1 t ht⟩
theorem Z1v {x:GN}{n:Nat}(hx:GnOk n x) (h2:x.kind=2) (v:List Rat):(∃ t,t<x.to.length∧worthR x v=rget v (x.to.getD t 0))∧∀ t,t<x.to.length→worthR x v≤rget v (x.to.getD t 0):=by
 have b1:=Zgi (v:=v) (sg := -1) hx.pos (Nat.le_refl _)
 have e:worthR x v=rget v (x.to.getD (bestG v x.to (-1) x.to.length) 0):=by unfold worthR bestA; rw [if_neg (by omega),if_pos h2]
 exact ⟨⟨_,b1,e⟩,fun t ht=>by rw [e]; exact (Zzu (v:=v) (to:=x.to) (k:=x.to.length)).1 t ht⟩
end GoAbs
namespace GoAbs
open Go Go.Proofs
set_option maxHeartbeats 8000000
theorem Y7d {L:List Nd}{i:Nat}{n:Nd}(h:L[i]? = some n):(L.map ndAV)[i]? = some (.agg [.int .i64 n.kind,.str (bs n.rew),.sl (n.mv.map mvAV)]):=by
 rw [List.getElem?_map,h]; rfl
theorem Xac {a b:Rat}(h:a=b):cmpR a b=0:=by
 unfold cmpR
 rw [if_neg (by rw [h]; exact Rat.lt_irrefl),if_neg (by rw [h]; exact Rat.lt_irrefl)]
end GoAbs
namespace GoAbs
open Go Go.Proofs
set_option maxHeartbeats 8000000
end GoAbs
namespace GoAbs
open Go Go.Proofs
set_option maxHeartbeats 8000000
structure Add (g g':Gm) (i t:Nat):Prop where
 len:g'.nodes.length=g.nodes.length
 d:g'.d=g.d
 rew:∀ j,j<g.nodes.length→rget g'.rew j=rget g.rew j
 other:∀ j,j≠i→nodeAt g' j=nodeAt g j
 kind:(nodeAt g' i).kind=(nodeAt g i).kind
 to:(nodeAt g' i).to=(nodeAt g i).to ++ [t]
theorem Yf9 {to:List Nat}{t s:Nat}(h:s<to.length):(to ++ [t]).getD s 0=to.getD s 0:=by
 rw [List.getD_eq_getElem?_getD,List.getD_eq_getElem?_getD,List.getElem?_append_left h]
theorem Yx9 {to:List Nat}{t:Nat}:(to ++ [t]).getD to.length 0=t:=by
 rw [List.getD_eq_getElem?_getD,List.getElem?_append_right (Nat.le_refl _),Nat.sub_self]; rfl
theorem Z8k {g g':Gm}{i t:Nat}(h:Add g g' i t) {v:List Rat}{R:Rat→Rat→Prop}(hr:∀ a,R a a) (hR:i<g.nodes.length→R (rget g.rew i+g.d*worthR (nodeAt g i) v) (rget g.rew i+g.d*worthR (nodeAt g' i) v)) {j:Nat}(hj:j<g.nodes.length):R (nextV g v j) (nextV g' v j):=by
 unfold nextV
 show R (_+g.d*worthR (nodeAt g j) v) (_+g'.d*worthR (nodeAt g' j) v)
 rw [h.rew j hj,h.d]
 by_cases hji:j=i
 ·subst hji; exact hR hj
 ·rw [h.other j hji]; exact hr _
theorem Ydw {x x':GN}{n t:Nat}(hx:GnOk n x) (hx':GnOk n x') (hk:x'.kind=x.kind) (ht:x'.to=x.to ++ [t]) (h1:x.kind=1) (v:List Rat):worthR x v≤worthR x' v:=by
 obtain ⟨⟨s,hs,e⟩,_⟩:=Z0g hx h1 v
 have h2:=(Z0g hx' (by rw [hk]; exact h1) v).2 s (by rw [ht,List.length_append]; omega)
 rw [ht,Yf9 hs, ← e] at h2
 exact h2
theorem Yd0 {x x':GN}{n t:Nat}(hx:GnOk n x) (hx':GnOk n x') (hk:x'.kind=x.kind) (ht:x'.to=x.to ++ [t]) (h1:x.kind=2) (v:List Rat):worthR x' v≤worthR x v:=by
 obtain ⟨⟨s,hs,e⟩,_⟩:=Z1v hx h1 v
 have h2:=(Z1v hx' (by rw [hk]; exact h1) v).2 s (by rw [ht,List.length_append]; omega)
 rw [ht,Yf9 hs, ← e] at h2
 exact h2
theorem Ysb {x x':GN}{n t:Nat}(hx:GnOk n x) (hx':GnOk n x') (hk:x'.kind=x.kind) (ht:x'.to=x.to ++ [t]) (h0:t=x.to.getD 0 0) (h1:x.kind≠3) (v:List Rat):worthR x' v=worthR x v:=by
 have hp:=hx.pos
 have get:∀ s,s<x'.to.length→∃ r,r<x.to.length∧x'.to.getD s 0=x.to.getD r 0:=fun s hs=>by
  rw [ht,List.length_append,List.length_singleton] at hs
  by_cases h:s<x.to.length
  ·exact ⟨s,h,by rw [ht,Yf9 h]⟩
  ·refine ⟨0,hp,?_⟩
   rw [ht,show s=x.to.length by omega,Yx9,h0]
 rcases hx.kind with h | h | h
 ·obtain ⟨⟨s,hs,e⟩,_⟩:=Z0g hx' (by rw [hk]; exact h) v
  obtain ⟨r,hr,er⟩:=get s hs
  refine Rat.le_antisymm ?_ (Ydw hx hx' hk ht h v)
  rw [e,er]
  exact (Z0g hx h v).2 r hr
 ·obtain ⟨⟨s,hs,e⟩,_⟩:=Z1v hx' (by rw [hk]; exact h) v
  obtain ⟨r,hr,er⟩:=get s hs
  refine Rat.le_antisymm (Yd0 hx hx' hk ht h v) ?_
  rw [e,er]
  exact (Z1v hx h v).2 r hr
 ·exact absurd h h1
theorem dle {d a b:Rat}(d0:0≤d) (h:a≤b) (r:Rat):r+d*a≤r+d*b:=by
 have:=Rat.mul_le_mul_of_nonneg_left h d0
 grind
section
variable {g g':Gm} {i t:Nat} (hg:GmP g) (hg':GmP g') (h:Add g g' i t)
include hg hg' h
theorem Add.oks (hi:i<g.nodes.length):GnOk g.nodes.length (nodeAt g i)∧GnOk g.nodes.length (nodeAt g' i):=by
 have a:=hg.ok.node _ (Zbd hi)
 have b:=hg'.ok.node _ (Zbd (g:=g') (i:=i) (by rw [h.len]; exact hi))
 rw [h.len] at b
 exact ⟨a,b⟩
theorem Y1k (h1:(nodeAt g i).kind=1):∀ j,j<g.nodes.length→rget (valG g) j≤rget (valG g') j:=by
 have hs:=Yk0 hg'
 rw [h.len] at hs
 have hv:=Zmh hg
 have hv':=Zmh hg'
 rw [h.len] at hv'
 refine hs.le hg'.d1 (fun j hj=>?_) (fun j hj=>by rw [← hv' j hj]; exact Rat.le_refl)
 rw [hv j hj]
 exact Z8k h (R:=fun a b=>a≤b) (fun a=>Rat.le_refl) (fun hi=>dle hg.d0 (Ydw (h.oks hg hg' hi).1 (h.oks hg hg' hi).2 h.kind h.to h1 _) _) hj
theorem Y0a (h1:(nodeAt g i).kind=2):∀ j,j<g.nodes.length→rget (valG g') j≤rget (valG g) j:=by
 have hs:=Yk0 hg'
 rw [h.len] at hs
 have hv:=Zmh hg
 have hv':=Zmh hg'
 rw [h.len] at hv'
 refine hs.le hg'.d1 (fun j hj=>by rw [← hv' j hj]; exact Rat.le_refl) (fun j hj=>?_)
 have:=Z8k h (v:=valG g) (R:=fun a b=>b≤a) (fun a=>Rat.le_refl) (fun hi=>dle hg.d0 (Yd0 (h.oks hg hg' hi).1 (h.oks hg hg' hi).2 h.kind h.to h1 _) _) hj
 rw [← hv j hj] at this
 exact this
theorem Y3g (h0:t=(nodeAt g i).to.getD 0 0) (h1:(nodeAt g i).kind≠3):valG g'=valG g:=by
 refine (Yah hg' (by rw [h.len,Zpb hg]) (fun j hj=>?_)).symm
 rw [h.len] at hj
 have:=Z8k h (v:=valG g) (R:=fun a b=>a=b) (fun a=>rfl) (fun hi=>by rw [Ysb (h.oks hg hg' hi).1 (h.oks hg hg' hi).2 h.kind h.to h0 h1]) hj
 rw [← this]
 exact Zmh hg j hj
end
def addM (n:Nd) (m:Mv):Nd:=⟨n.kind,n.rew,n.mv ++ [m]⟩
theorem LT.add {L:List Nd}{d:List UInt8}(h:LT L d) {i:Nat}{n:Nd}(hn:L[i]? = some n) (h3:n.kind≠3) (hl:n.mv.length≤5) {m:Mv}(hm:0≤m.1∧m.1<(L.length:Int)) (hm2:m.2 = []):LT (L.set i (addM n m)) d:=by
 refine ⟨by rw [List.length_set]; exact h.n,fun x hx=>?_,h.d⟩
 rw [List.length_set]
 rcases List.mem_or_eq_of_mem_set hx with hx | rfl
 ·exact h.nd x hx
 ·have hnt:=h.nd n (List.mem_of_getElem? hn)
  have hll:(addM n m).mv.length=n.mv.length+1:=by show (n.mv ++ [m]).length=_; simp
  refine ⟨hnt.kind,hnt.rew,by have:=hnt.len; omega,fun y hy=>?_,fun _ y hy=>?_,fun h3'=>absurd h3' h3⟩
  ·rcases List.mem_append.1 hy with hy | hy
   ·exact hnt.to y hy
   ·rw [List.mem_singleton.1 hy]; exact hm
  ·rcases List.mem_append.1 hy with hy | hy
   ·exact hnt.no h3 y hy
   ·rw [List.mem_singleton.1 hy]; exact hm2
theorem Y4w {L:List Nd}{d:List UInt8}{i:Nat}{n:Nd}(hn:L[i]? = some n) {m:Mv}:Add (toGm L d) (toGm (L.set i (addM n m)) d) i m.1.toNat∧nodeAt (toGm L d) i=toGN n:=by
 have hi:=(List.getElem?_eq_some_iff.1 hn).1
 have hat:∀ j,nodeAt (toGm L d) j=((L[j]?).map toGN).getD default:=fun j=>by
  show (L.map toGN).getD j default=_
  rw [List.getD_eq_getElem?_getD,List.getElem?_map]
 have hat':∀ j,nodeAt (toGm (L.set i (addM n m)) d) j=(((L.set i (addM n m))[j]?).map toGN).getD default:=fun j=>by
  show ((L.set i (addM n m)).map toGN).getD j default=_
  rw [List.getD_eq_getElem?_getD,List.getElem?_map]
 have e1:nodeAt (toGm L d) i=toGN n:=by rw [hat,hn]; rfl
 have e2:nodeAt (toGm (L.set i (addM n m)) d) i=toGN (addM n m):=by rw [hat',List.getElem?_set_self hi]; rfl
 refine ⟨⟨?_,rfl,fun j hj=>?_,fun j hj=>?_,?_,?_⟩,e1⟩
 ·show ((L.set i _).map toGN).length=(L.map toGN).length
  rw [List.length_map,List.length_map,List.length_set]
 ·have:(L.set i (addM n m)).map (fun n:Nd=>(parseL n.rew).getD 0)=L.map (fun n:Nd=>(parseL n.rew).getD 0):=by
   rw [List.map_set]
   apply List.ext_getElem?
   intro k
   by_cases hk:k=i
   ·subst hk
    rw [List.getElem?_set_self (by rw [List.length_map]; exact hi),List.getElem?_map,hn]
    rfl
   ·rw [List.getElem?_set_ne (fun h=>hk h.symm)]
  show rget ((L.set i (addM n m)).map (fun n:Nd=>(parseL n.rew).getD 0)) j=rget (L.map (fun n:Nd=>(parseL n.rew).getD 0)) j
  rw [this]
 ·rw [hat,hat',List.getElem?_set_ne (fun h=>hj h.symm)]
 ·rw [e1,e2]; rfl
 ·rw [e1,e2]
  show (n.mv ++ [m]).map _=n.mv.map _ ++ [_]
  rw [List.map_append]; rfl
theorem Ymp:∀ {L:List Nd}{i:Nat}{n:Nd}{x:List Mv},L[i]? = some n→(L.set i ⟨n.kind,n.rew,x⟩).flatMap ndC=(L.flatMap ndC).set (i*3+2) (.sl (x.map mvAV))
 | [],i,n,x,h=>by simp at h
 | a::L,0,n,x,h=>by
  simp at h; subst h
  rw [List.set_cons_zero,List.flatMap_cons,List.flatMap_cons]
  rfl
 | a::L,i+1,n,x,h=>by
  have ih:=Ymp (L:=L) (i:=i) (n:=n) (x:=x) (by simpa using h)
  rw [List.set_cons_succ,List.flatMap_cons,List.flatMap_cons,ih,show (i+1)*3+2=i*3+2+3 by omega]
  rfl
theorem Yv7 {L:List Nd}:(L.map ndAV).flatMap AV.cells=L.flatMap ndC:=by
 rw [List.flatMap_map]; rfl
theorem Yi6 {M:List Mv}:(M.map mvAV).flatMap AV.cells=M.flatMap mvC:=by
 rw [List.flatMap_map]; rfl
end GoAbs
namespace GoAbs
open Go Go.Proofs
set_option maxHeartbeats 8000000
theorem Y52 {n:Int}{ks rs mv:List Int}:∀ x,x∈tabL n ks rs mv→x.mv.length≤3:=fun x hx=>by
 obtain ⟨i,_,rfl⟩:=List.mem_map.1 hx
 have hm:=Zmc mv i
 show ((List.range _).map _).length≤3
 rw [List.length_map,List.length_range]
 exact hm.2
theorem Ywc {P:List AV}{o:Nat}{v:AV}(h:o<P.length):P.take o ++ [v]++P.drop (o+1)=P.set o v:=by
 rw [List.set_eq_take_append_cons_drop,if_pos h]
 simp
theorem lchoice {n d a b:Int}{ks rs mv:List Int}(hn:0≤n∧n≤255) (hd:0≤d∧d≤255) (_h1:∀ n,n∈ks→(Lit.int .i64 n).wf=true) (_h2:∀ n,n∈rs→(Lit.int .i64 n).wf=true) (_h3:∀ n,n∈mv→(Lit.int .i64 n).wf=true) (ha:0≤a∧a≤255) (hb:0≤b∧b≤255) :
  SpecV Tryz.prog Z7c [.agg [.int .u8 n,.int .u8 d,.sl (ivs ks),.sl (ivs rs),.sl (ivs mv)],.int .u8 a,.int .u8 b] (.bool true):=by
 have hmx:Tryz.prog.follows .mixedOrders=true:=by kernel_rfl
 have hgm:=lgame (ks:=ks) (rs:=rs) (mv:=mv) hn hd
 have hlt:=Xbo hn hd ks rs mv
 have hlen:=Y52 (n:=n) (ks:=ks) (rs:=rs) (mv:=mv)
 unfold tabAV at hgm
 obtain ⟨L,hL⟩:∃ L,L=tabL n ks rs mv:=⟨_,rfl⟩
 obtain ⟨t,ht⟩:∃ t,t=numS (mdD d):=⟨_,rfl⟩
 rw [← hL] at hgm hlt hlen
 rw [← ht] at hgm hlt
 have hL5:=hlt.n
 have hv:=lvals hlt
 obtain ⟨i,hi⟩:∃ i,i=(a % (L.length:Int)).toNat:=⟨_,rfl⟩
 have ha0:=Int.emod_nonneg a (show (L.length:Int)≠0 by omega)
 have ha1:=Int.emod_lt_of_pos a (show (0:Int)<(L.length:Int) by omega)
 have hb0:=Int.emod_nonneg b (show (L.length:Int)≠0 by omega)
 have hb1:=Int.emod_lt_of_pos b (show (0:Int)<(L.length:Int) by omega)
 have hil:i<L.length:=by omega
 obtain ⟨x,hx⟩:∃ x,L[i]? = some x:=⟨_,List.getElem?_eq_getElem hil⟩
 have hnt:=hlt.nd x (List.mem_of_getElem? hx)
 have hx3:=hlen x (List.mem_of_getElem? hx)
 have wa:IntKind.i64.wrap a=a:=Zac (by omega) (by omega)
 have wb:IntKind.i64.wrap b=b:=Zac (by omega) (by omega)
 have ta:a.tmod (L.length:Int)=(i:Int):=by rw [Int.tmod_eq_emod_of_nonneg ha.1]; omega
 have tb:b.tmod (L.length:Int)=b % (L.length:Int):=Int.tmod_eq_emod_of_nonneg hb.1
 have c0:¬ (L.length:Int)=0:=by omega
 have lL:(L.map ndAV).length=L.length:=List.length_map _
 have hget:=Y7d hx
 have q0:(0:Int)≤(i:Int):=by omega
 have q1:(i:Int)<(L.length:Int):=by omega
 have hcl:∀ y,y∈L.map ndAV→y.cells.length=3:=fun y hy=>by
  obtain ⟨z,_,rfl⟩:=List.mem_map.1 hy; rfl
 have hcm:∀ y,y∈x.mv.map mvAV→y.cells.length=2:=fun y hy=>by
  obtain ⟨z,_,rfl⟩:=List.mem_map.1 hy; rfl
 have hPl:(L.flatMap ndC).length=L.length*3:=Yw7 L
 have hMl:(x.mv.flatMap mvC).length=x.mv.length*2:=Yvi x.mv
 by_cases h3:x.kind=3
 ·refine Zae Zl5 (by simp) ?_
  unfold Zjt
  simp only [go_sem,Zfs,Zfb]
  refine Zaa hgm (by simp only [go_sem]) ?_
  simp only [go_sem,Zes]
  refine Zaa hv (by simp only [go_sem]) ?_
  simp only [go_sem,Ze0,lL,wa,c0,ta,Zfe,q0,q1,hget,h3,Zj8]
  refine Zaa wlives (by simp only [go_sem]) ?_
  simp only [go_sem]
 refine Za5 Zl5 (by simp) (Zbi 5 rfl ?_)
 unfold Zjt
 simp only [go_sem,Zfs,Zfb]
 refine Zaa hgm (by simp only [go_sem]) ?_
 simp only [go_sem,Zes]
 refine Zaa hv (by simp only [go_sem]) ?_
 simp only [go_sem,Ze0,lL,wa,c0,ta,Zfe,q0,q1,hget,h3]
 have s48:L.length*48≤1099511627776:=by omega
 simp only [go_sem,Zkc,lL,Yv7,s48]
 refine ⟨hcl,hcl,?_⟩
 obtain ⟨tab,htab⟩:∃ tab,tab = [AV.int IntKind.u8 n,AV.int IntKind.u8 d,AV.sl (ivs ks),AV.sl (ivs rs),AV.sl (ivs mv)]:=⟨_,rfl⟩
 rw [← htab]
 refine Zau [(2,.int .u8 b),(7,.sl (L.map ndAV)),(8,.str (bs t)),(9,rowV (valG (toGm L t))),(10,.bool true),(11,.int .i64 (i:Int)),(12,.osl (some 3) 1 0 L.length),(13,.osl (some 3) 2 0 L.length)] (by simp only [go_sem]) ?_
 have hms:(x.mv.map mvAV).length=x.mv.length:=List.length_map _
 have s24:x.mv.length*24≤1099511627776:=by omega
 have s25:(x.mv.length+1)*24≤1099511627776:=by omega
 obtain ⟨m0,hm0⟩:∃ m0,x.mv[0]? = some m0:=⟨_,List.getElem?_eq_getElem (by have:=hnt.len; omega)⟩
 have hg0:(x.mv.map mvAV)[0]? = some (.agg [.int .i64 m0.1,.str (bs m0.2)]):=by rw [List.getElem?_map,hm0]; rfl
 have hpos:(0:Int)<(x.mv.length:Int):=by have:=hnt.len; omega
 have hc3:i*3+2<(L.flatMap ndC).length:=by omega
 have hsp:=fun v=>Ywc (P:=L.flatMap ndC) (o:=i*3+2) (v:=v) hc3
 have hx1:(L.set i (addM x (b % (L.length:Int),[]))).flatMap ndC=(L.flatMap ndC).set (i*3+2) (.sl ((x.mv ++ [(b % (L.length:Int),[])]).map mvAV)):=Ymp hx
 have hx2:(L.set i (addM x m0)).flatMap ndC=(L.flatMap ndC).set (i*3+2) (.sl ((x.mv ++ [m0]).map mvAV)):=Ymp hx
 refine Za7 (Z05 hmx (fun t b=>(t=3∧b=4)∨(t=4∧b=1)) 4 ?_)
 simp only [go_sem,Zfh,lL,wb,c0,tb,q0,q1,hget,hms,Yi6,s24,s25,List.cons_append,List.nil_append]
 refine ⟨hcm,by omega,by omega,?_⟩
 have htk2:(x.mv.flatMap mvC).take (x.mv.length*2)=x.mv.flatMap mvC:=List.take_of_length_le (by omega)
 have hM1:x.mv.flatMap mvC ++ [AV.int IntKind.i64 (b % ↑L.length),AV.str ⟨#[]⟩]=(x.mv ++ [(b % (L.length:Int),[])]).flatMap mvC:=by rw [List.flatMap_append]; rfl
 have hM2:x.mv.flatMap mvC ++ [AV.int IntKind.i64 m0.1,AV.str (bs m0.2)]=(x.mv ++ [m0]).flatMap mvC:=by rw [List.flatMap_append]; rfl
 rw [hsp,htk2,hM1]
 refine T_le (Yev (b:=1) (ids := [6]) (l:=(L.flatMap ndC).set (i*3+2) (.osl (some 2) 6 0 (x.mv.length+1))) (l':=(L.set i (addM x (b % (L.length:Int),[]))).flatMap ndC) rfl (by decide) (by rw [hx1,List.length_set,List.length_set]) (fun j y z hy hz=>?_) [(2,.int .u8 b),(7,.sl (L.map ndAV)),(8,.str (bs t)),(9,rowV (valG (toGm L t))),(10,.bool true),(11,.int .i64 (i:Int)),(12,.osl (some 3) 1 0 L.length),(13,.osl (some 3) 2 0 L.length)] (Z85 (by simp only [go_sem]))) ?_
 ·rw [hx1] at hz
  by_cases hj:j=i*3+2
  ·subst hj
   rw [List.getElem?_set_self hc3] at hy hz
   cases hy
   cases hz
   have hbv:=Yvk (H := [Blk.cells tab,.cells ((L.flatMap ndC).set (i*3+2) (.osl (some 2) 6 0 (x.mv.length+1))),.cells (L.flatMap ndC),.unborn,.dead,.cells [AV.int IntKind.i64 (b % ↑L.length),AV.str ⟨#[]⟩],.cells ((x.mv ++ [(b % (L.length:Int),[])]).flatMap mvC)]) (ids := [6]) (b:=6) (M:=x.mv ++ [(b % (L.length:Int),[])]) rfl (by simp)
   rw [List.length_append] at hbv
   exact .inl hbv
  ·rw [List.getElem?_set_ne (fun h=>hj h.symm)] at hy hz
   rw [hy] at hz
   exact .inr (Option.some.inj hz)
 show T Tryz.prog 166 0 _ ⟨_,[Blk.cells tab,.cells ((L.set i (addM x (b % (L.length:Int),[]))).flatMap ndC),.cells (L.flatMap ndC),.unborn,.dead,.cells [AV.int IntKind.i64 (b % ↑L.length),AV.str ⟨#[]⟩],.dead]⟩ _
 refine Za7 (Z05 hmx (fun t b=>(t=3∧b=8)∨(t=4∧b=2)) 4 ?_)
 simp only [go_sem,Zev,lL,q0,q1,hget,hms,hg0,hpos,Yi6,s24,s25,List.cons_append,List.nil_append]
 refine ⟨hcm,by omega,by omega,?_⟩
 rw [hsp,htk2,hM2]
 refine T_le (Yev (b:=2) (ids := [10]) (l:=(L.flatMap ndC).set (i*3+2) (.osl (some 2) 10 0 (x.mv.length+1))) (l':=(L.set i (addM x m0)).flatMap ndC) rfl (by decide) (by rw [hx2,List.length_set,List.length_set]) (fun j y z hy hz=>?_) [(2,.int .u8 b),(7,.sl (L.map ndAV)),(8,.str (bs t)),(9,rowV (valG (toGm L t))),(10,.bool true),(11,.int .i64 (i:Int)),(12,.osl (some 3) 1 0 L.length),(13,.osl (some 3) 2 0 L.length)] (Z85 (by simp only [go_sem]))) ?_
 ·rw [hx2] at hz
  by_cases hj:j=i*3+2
  ·subst hj
   rw [List.getElem?_set_self hc3] at hy hz
   cases hy
   cases hz
   have hbv:=Yvk (H := [Blk.cells tab,.cells ((L.set i (addM x (b % (L.length:Int),[]))).flatMap ndC),.cells ((L.flatMap ndC).set (i*3+2) (.osl (some 2) 10 0 (x.mv.length+1))),.unborn,.dead,.cells [AV.int IntKind.i64 (b % ↑L.length),AV.str ⟨#[]⟩],.dead,.unborn,.dead,.cells [AV.int IntKind.i64 m0.1,AV.str (bs m0.2)],.cells ((x.mv ++ [m0]).flatMap mvC)]) (ids := [10]) (b:=10) (M:=x.mv ++ [m0]) rfl (by simp)
   rw [List.length_append] at hbv
   exact .inl hbv
  ·rw [List.getElem?_set_ne (fun h=>hj h.symm)] at hy hz
   rw [hy] at hz
   exact .inr (Option.some.inj hz)
 show T Tryz.prog 166 0 _ ⟨_,[Blk.cells tab,.cells ((L.set i (addM x (b % (L.length:Int),[]))).flatMap ndC),.cells ((L.set i (addM x m0)).flatMap ndC),.unborn,.dead,.cells [AV.int IntKind.i64 (b % ↑L.length),AV.str ⟨#[]⟩],.dead,.unborn,.dead,.cells [AV.int IntKind.i64 m0.1,AV.str (bs m0.2)],.dead]⟩ _
 refine Zu9 [1,2] [(7,.sl (L.map ndAV)),(8,.str (bs t)),(9,rowV (valG (toGm L t))),(10,.bool true),(11,.int .i64 (i:Int)),(12,.sl ((L.set i (addM x (b % (L.length:Int),[]))).map ndAV)),(13,.sl ((L.set i (addM x m0)).map ndAV))] ?_ ?_
 ·refine ⟨.inr (by simp only [go_sem]),.inr (by simp only [go_sem]),.inr (by simp only [go_sem]),.inr (by simp only [go_sem]),.inr (by simp only [go_sem]),.inl ?_,.inl ?_,trivial⟩
  ·have hbn:=Yvc (H := [Blk.cells tab,.cells ((L.set i (addM x (b % (L.length:Int),[]))).flatMap ndC),.cells ((L.set i (addM x m0)).flatMap ndC),.unborn,.dead,.cells [AV.int IntKind.i64 (b % ↑L.length),AV.str ⟨#[]⟩],.dead,.unborn,.dead,.cells [AV.int IntKind.i64 m0.1,AV.str (bs m0.2)],.dead]) (ids := [1,2]) (b:=1) (M:=L.set i (addM x (b % (L.length:Int),[]))) rfl (by simp)
   rw [List.length_set] at hbn
   simp only [go_sem]
   exact hbn
  ·have hbn:=Yvc (H := [Blk.cells tab,.cells ((L.set i (addM x (b % (L.length:Int),[]))).flatMap ndC),.cells ((L.set i (addM x m0)).flatMap ndC),.unborn,.dead,.cells [AV.int IntKind.i64 (b % ↑L.length),AV.str ⟨#[]⟩],.dead,.unborn,.dead,.cells [AV.int IntKind.i64 m0.1,AV.str (bs m0.2)],.dead]) (ids := [1,2]) (b:=2) (M:=L.set i (addM x m0)) rfl (by simp)
   rw [List.length_set] at hbn
   simp only [go_sem]
   exact hbn
 generalize kill [1,2] _=H0
 have hnm0:=List.mem_of_getElem? hm0
 have hlt1:=hlt.add hx h3 (by omega) (m:=(b % (L.length:Int),[])) ⟨hb0,hb1⟩ rfl
 have hlt2:=hlt.add hx h3 (by omega) (m:=m0) (hnt.to m0 hnm0) (hnt.no h3 m0 hnm0)
 obtain ⟨ad1,at1⟩:=Y4w (d:=t) hx (m:=(b % (L.length:Int),[]))
 obtain ⟨ad2,_⟩:=Y4w (d:=t) hx (m:=m0)
 obtain ⟨hg,hgn⟩:=hlt.gmP
 obtain ⟨hg1,hgn1⟩:=hlt1.gmP
 obtain ⟨hg2,hgn2⟩:=hlt2.gmP
 rw [List.length_set] at hgn1 hgn2
 have hv1:=lvals hlt1
 have hv2:=lvals hlt2
 have hvb:=Z32 hg hlt.gmL
 have hvb1:=Z32 hg1 hlt1.gmL
 have hvl:=Zpb hg
 have hvl1:=Zpb hg1
 have hkd:(nodeAt (toGm L t) i).kind=x.kind.toNat:=by rw [at1]; rfl
 have hto0:m0.1.toNat=(nodeAt (toGm L t) i).to.getD 0 0:=by
  rw [at1]
  show _=(x.mv.map (·.1.toNat)).getD 0 0
  rw [List.getD_eq_getElem?_getD,List.getElem?_map,hm0]
  rfl
 have f0:=Y3g hg hg2 ad2 hto0 (by rw [hkd]; have:=hnt.kind; omega)
 have f1:x.kind=1→∀ j,j<L.length→rget (valG (toGm L t)) j≤rget (valG (toGm (L.set i (addM x (b % (L.length:Int),[]))) t)) j:=fun h j hj=>Y1k hg hg1 ad1 (by rw [hkd,h]; rfl) j (by omega)
 have f2:x.kind=2→∀ j,j<L.length→rget (valG (toGm (L.set i (addM x (b % (L.length:Int),[]))) t)) j≤rget (valG (toGm L t)) j:=fun h j hj=>Y0a hg hg1 ad1 (by rw [hkd,h]; rfl) j (by omega)
 rw [f0] at hv2
 obtain ⟨V,hV⟩:∃ V,V=valG (toGm L t):=⟨_,rfl⟩
 obtain ⟨U,hU⟩:∃ U,U=valG (toGm (L.set i (addM x (b % (L.length:Int),[]))) t):=⟨_,rfl⟩
 rw [← hV] at hv2 hvb hvl f1 f2 ⊢
 rw [← hU] at hv1 hvb1 hvl1 f1 f2
 have lV:(V.map fun q=>AV.agg (rq q)).length=L.length:=by rw [List.length_map,hvl,hgn]
 have lU:(U.map fun q=>AV.agg (rq q)).length=L.length:=by rw [List.length_map,hvl1,hgn1]
 have gV:=fun i (hi:i<V.length)=>Yn5 (v:=V) hi
 have gU:=fun i (hi:i<U.length)=>Yn5 (v:=U) hi
 refine Zbi 2 rfl ?_
 simp only [go_sem,Zj3]
 refine Zaa hv1 (by simp only [go_sem]) ?_
 simp only [go_sem,Zj4]
 refine Zaa hv2 (by simp only [go_sem]) ?_
 simp only [go_sem,Zjk]
 refine Zaa wlives (by simp only [go_sem]) ?_
 simp only [go_sem]
 refine Za7 (Za7 (T_W ?_))
 simp only [go_sem,Zjp,rowV]
 generalize (V.map fun q=>AV.agg (rq q))=Vs at *
 generalize (U.map fun q=>AV.agg (rq q))=Us at *
 generalize L.map ndAV=ls at *
 have hk12:x.kind=1∨x.kind=2:=by have:=hnt.kind; omega
 refine Zbg (Zaf (fun k:Nat=>⟨envL [(7,.sl ls),(9,.sl Vs),(11,.int .i64 (i:Int)),(14,.sl Us),(16,.sl Vs),(18,.int .i64 (k:Int))],H0⟩)
  (fun k=>k≤L.length) (fun k=>L.length - k) 0 (by omega) (Zab _ (by simp only [go_sem]; simp)) (fun k hk N hN=>?_))
 unfold Zki
 by_cases hkn:k<L.length
 ·have g1:=gV k (by omega)
  have g2:=gU k (by omega)
  have qv:=Y40 hvb (show k<V.length by omega)
  have qu:=Y40 hvb1 (show k<U.length by omega)
  have sX:=Y4a (Fr.of qu) (Fr.of qv) (by decide)
  have sY:=Y4a (Fr.of qv) (Fr.of qv) (by decide)
  rw [Xac rfl] at sY
  have rl:∀ q:Rat,(rq q).length=4:=fun q=>rfl
  have bvsr:∀ {H ids} {q:Rat},BVs H ids (rq q) (rq q)=True:=fun {H ids q}=>Yjo
  have q0':(0:Int)≤(k:Int):=by omega
  have q1':(k:Int)<(L.length:Int):=by omega
  have e1:IntKind.i64.wrap ((k:Int)+1)=((k+1:Nat):Int):=by rw [Zac (by omega) (by omega)]; omega
  have l1:=f1
  have h12:(x.kind=1∧¬ cmpR (rget U k) (rget V k)<0)∨(x.kind=2∧¬ 0<cmpR (rget U k) (rget V k)):=by
   rcases hk12 with h | h
   ·have:=f1 h k hkn
    exact .inl ⟨h,by unfold cmpR; split <;> grind⟩
   ·have:=f2 h k hkn
    exact .inr ⟨h,by unfold cmpR; split <;> grind⟩
  rcases h12 with ⟨hk1,hc⟩ | ⟨hk1,hc⟩
  ·simp only [go_sem,Zb2,Zb1,q0',q1',lL,lV,lU,g1,g2,rl,Z3v,Z3s,hmx]
   refine Zaa sX (by simp only [go_sem,bvsr]) ?_
   simp only [go_sem,Zb5,q0,q1,q0',q1',lL,lV,lU,g1,g2,hget,hk1,hc,rl,Z3v,Z3s,hmx]
   refine Zaa sY (by simp only [go_sem,bvsr]) ?_
   simp only [go_sem,Zea,e1]
   exact hN (k+1) _ (by omega) (by omega) (Zab _ (by simp only [go_sem]))
  ·simp only [go_sem,Zb2,Zb1,q0',q1',lL,lV,lU,g1,g2,rl,Z3v,Z3s,hmx]
   refine Zaa sX (by simp only [go_sem,bvsr]) ?_
   simp only [go_sem,Zb5,q0,q1,q0',q1',lL,lV,lU,g1,g2,hget,hk1,hc,rl,Z3v,Z3s,hmx]
   refine Zaa sY (by simp only [go_sem,bvsr]) ?_
   simp only [go_sem,Zea,e1]
   exact hN (k+1) _ (by omega) (by omega) (Zab _ (by simp only [go_sem]))
 ·have hke:k=L.length:=by omega
  subst hke
  have q1':¬ ((L.length:Nat):Int)<(L.length:Int):=by omega
  simp only [go_sem,Zb2,lL,q1']
  refine T_W ?_
  simp only [go_sem,Ziy]
end GoAbs
