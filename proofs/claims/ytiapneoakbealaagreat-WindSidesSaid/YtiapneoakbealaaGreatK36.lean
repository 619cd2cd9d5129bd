/- Lemmas for the claim (contracts of the functions that it reaches, and what they compute), without conditions. -/
import Derived.Test.YtiapneoakbealaaGreatK35
import Derived.Test.YtiapneoakbealaaGreatProg
import Derived.KernelRfl
set_option linter.unusedVariables false
set_option linter.unusedSimpArgs false
set_option maxRecDepth 10000
set_option maxHeartbeats 2000000
namespace GoAbs
open Go Go.Proofs
theorem Opens.mono {P:Program}{t:TypeId}{S S':List AV→Prop}(h:Opens P t S) (hs:∀ av,S av→S' av):Opens P t S':=fun enc w base spare held fuel cs x hx=>by
 obtain ⟨av,h1,h2⟩:=h enc w base spare held fuel cs x hx
 exact ⟨av,h1,hs av h2⟩
theorem Ysb {P:Program}{f:Nat}{xs:List AV}{vs:Array Value}{w:World}(h:SpecV P f xs (.bool true)) (hr:Reps w noX noPl xs vs):Calls P f vs w fun e w'=>e = .returned (.bool true)∧Go.RowKit.Below w.heap.size w w' :=
 (h.2 noX w vs (fun _ hb=>hb.elim) hr).mono fun e w' he=>by
  obtain ⟨v,rfl,hv,hb⟩:=he
  cases hv
  exact ⟨rfl,hb⟩
theorem Yht {w:World}{x:AV}{xs:List AV}{v:Value}{l:List Value}(h:Rep w noX noPl x v) (k:Reps w noX noPl xs l.toArray):Reps w noX noPl (x::xs) (v::l).toArray:=by
 refine ⟨by have:=k.1; simp at this ⊢; exact this,fun i y u hy hu=>?_⟩
 cases i with
 | zero=>simp at hy hu; subst hy hu; exact h
 | succ i=>exact k.2 i y u (by simpa using hy) (by simpa using hu)
theorem reps2 {w:World}{x y:AV}{v u:Value}(h:Rep w noX noPl x v) (k:Rep w noX noPl y u):Reps w noX noPl [x,y] #[v,u]:=Yht h (Yht (l := []) k ⟨rfl,fun i z t hz=>by simp at hz⟩)
theorem Y64 {P:Program}{W:World}{r:Reach}{base:Nat}{t:TypeId}{v:Value}{k:IntKind}(ht:P.underlying t=some (.int k)) (h:Value.okWide P W r base t v):v.cells = #[v]:=by
 obtain ⟨n,rfl⟩:=Go.WideShapes.okWide_int ht h; rfl
theorem Y6j {n:Int}(h:(Lit.int .u8 n).wf=true):0≤n∧n≤255:=bounds_u8 h
theorem opensInts:Opens Tryz.prog 36 (fun av=>∃ p:List Int,av = [.sl (ivs p)]∧∀ n,n∈p→(Lit.int .i64 n).wf=true):=by
 refine Opens.mono (Yyb (e:=3) (fun x ⟨n,hx,_⟩=>by cases hx; rfl) Tryz.underlying36 (by kernel_rfl) (Z3b Tryz.underlying3)) ?_
 rintro av ⟨l,rfl,h⟩
 have:∀ l:List AV,(∀ c,c∈l→∃ n:Int,[c] = [AV.int .i64 n]∧(Lit.int .i64 n).wf=true)→∃ p:List Int,l=ivs p∧∀ n,n∈p→(Lit.int .i64 n).wf=true:=by
  intro l
  induction l with
  | nil=>intro _; exact ⟨[],rfl,fun n hn=>by simp at hn⟩
  | cons c l ih =>
   intro h
   obtain ⟨p,hp,hw⟩:=ih (fun d hd=>h d (by simp [hd]))
   obtain ⟨n,hn,hnw⟩:=h c (by simp)
   cases hn
   refine ⟨n::p,by rw [hp]; rfl,fun m hm=>?_⟩
   rcases List.mem_cons.1 hm with rfl | hm
   ·exact hnw
   ·exact hw m hm
 obtain ⟨p,hp,hw⟩:=this l h
 exact ⟨p,by rw [hp],hw⟩
theorem opensTable:Opens Tryz.prog 44 (fun av=>∃ (a b:Int) (p q r:List Int),av = [.int .u8 a,.int .u8 b,.sl (ivs p),.sl (ivs q),.sl (ivs r)]∧(Lit.int .u8 a).wf=true∧(Lit.int .u8 b).wf=true∧(∀ n,n∈p→(Lit.int .i64 n).wf=true)∧(∀ n,n∈q→(Lit.int .i64 n).wf=true)∧(∀ n,n∈r→(Lit.int .i64 n).wf=true)):=by
 refine Opens.mono (Y0y (n:=5) Tryz.underlying44 (by kernel_rfl) (Zjw (off:=0) (k:=1) rfl (by kernel_rfl) (by omega) (Z3b Tryz.underlying5) (Zjw (off:=1) (k:=1) rfl (by kernel_rfl) (by omega) (Z3b Tryz.underlying5)
  (Zjw (off:=2) (k:=1) rfl (by kernel_rfl) (by omega) opensInts (Zjw (off:=3) (k:=1) rfl (by kernel_rfl) (by omega) opensInts (Zjw (off:=4) (k:=1) rfl (by kernel_rfl) (by omega) opensInts Yse)))))) ?_
 rintro av ⟨a,_,rfl,_,⟨n,rfl,w1⟩,c,_,rfl,_,⟨m,rfl,w2⟩,e,_,rfl,_,⟨p,rfl,w3⟩,g,_,rfl,_,⟨q,rfl,w4⟩,i,_,rfl,_,⟨r,rfl,w5⟩,rfl⟩
 exact ⟨n,m,p,q,r,rfl,w1,w2,w3,w4,w5⟩
end GoAbs
namespace GoAbs
open Go Go.Proofs
def Zsk:List IOp := [oI 4 (.mv (.c (.bool false))) 0]
def Zte:List IOp := [mI 6 0 0,oI 7 (.len (.t 6)) 0,mI 8 1 0,oI 9 (.len (.t 8)) 0,oI 10 (.bin .neq (.t 7) (.t 9)) 0]
def Z8w:List IOp := [oI 4 (.mv (.c (.bool false))) 0]
def Ztr:List IOp := [oI 5 (.mv (cI 0)) 0]
def Zi0:List IOp := [mI 11 5 0,mI 12 0 0,oI 13 (.len (.t 12)) 0,oI 14 (.bin .lss (.t 11) (.t 13)) 0]
def Zi5:List IOp := [mI 17 0 0,mI 18 5 0,xI 19 1 17 18 0,lI 20 19 0,mI 21 1 0,mI 22 5 0,xI 23 1 21 22 0,lI 24 23 0,oI 25 (.bin .neq (.t 20) (.t 24)) 0]
@[go_sem ↓] theorem Z3y : autoK Zi5 = (0, 0) := by kernel_rfl
@[go_sem] theorem Yoi : autoK [mI 17 0 0, mI 18 5 0, xI 19 1 17 18 0, lI 20 19 0, mI 21 1 0, mI 22 5 0, xI 23 1 21 22 0, lI 24 23 0, oI 25 (.bin .neq (.t 20) (.t 24)) 0] = (0, 0) := Z3y
def Ycb:List IOp := [oI 4 (.mv (.c (.bool false))) 0]
def Zuu:List IOp := [mI 15 5 0,oI 16 (.bin .add (.t 15) (cI 1)) 0,mI 5 16 0]
def Zss:CC := .seq (.seq (.rg false Zi0) (.cond (.t 14) .skip (.exit 0))) (.seq (.block 1 (.seq (.rg true Zi5) (.cond (.t 25) (.seq (.rg false Ycb) .ret) .skip))) (.rg false Zuu))
def Zu9:List IOp := [oI 4 (.mv (.c (.bool true))) 0]
def Z5i:CC := .seq (.rg false Zsk) (.seq (.seq (.rg false Zte) (.cond (.t 10) (.seq (.rg false Z8w) .ret) .skip)) (.seq (.seq (.rg false Ztr) (.block 0 (.loop Zss))) (.seq (.rg false Zu9) .ret)))
abbrev Yfj:Nat:=56
theorem Yc2:fnOk Tryz.prog 56=some (26,Z5i,[.tmp 4]):=by kernel_rfl
end GoAbs
namespace GoAbs
open Go Go.Proofs
def Zb (b:Nat) (q:Rat):Prop:=∃ z:Int,q=z∧z.natAbs<2 ^ b
def Zq (q:Rat):Prop:=∃ z:Int,q=z
theorem Zb.q {b:Nat}{q:Rat}(h:Zb b q):Zq q:=⟨h.choose,h.choose_spec.1⟩
theorem Zq.add {a b:Rat}(h:Zq a) (k:Zq b):Zq (a+b):=by
 obtain ⟨x,rfl⟩:=h; obtain ⟨y,rfl⟩:=k
 exact ⟨x+y,by simp⟩
theorem Zq.mul {a b:Rat}(h:Zq a) (k:Zq b):Zq (a*b):=by
 obtain ⟨x,rfl⟩:=h; obtain ⟨y,rfl⟩:=k
 exact ⟨x*y,by simp⟩
theorem Zq.sub {a b:Rat}(h:Zq a) (k:Zq b):Zq (a - b):=by
 obtain ⟨x,rfl⟩:=h; obtain ⟨y,rfl⟩:=k
 exact ⟨x - y,by simp⟩
theorem Zq.sum {R:List Nat}{f:Nat→Rat}(h:∀ i,i∈R→Zq (f i)):Zq (sumL R f):=by
 induction R with
 | nil=>exact ⟨0,rfl⟩
 | cons a R ih=>rw [Zaq]; exact (h a List.mem_cons_self).add (ih fun i hi=>h i (List.mem_cons_of_mem _ hi))
theorem Zb.mono {a b:Nat}{q:Rat}(h:Zb a q) (hab:a≤b):Zb b q:=by
 obtain ⟨z,h1,h2⟩:=h
 exact ⟨z,h1,Nat.lt_of_lt_of_le h2 (Nat.pow_le_pow_right (by omega) hab)⟩
theorem Zb.mul {a b:Nat}{p q:Rat}(h:Zb a p) (k:Zb b q):Zb (a+b) (p*q):=by
 obtain ⟨x,rfl,h2⟩:=h; obtain ⟨y,rfl,k2⟩:=k
 exact ⟨x*y,by simp,by rw [Int.natAbs_mul,Nat.pow_add]; exact Nat.mul_lt_mul'' h2 k2⟩
theorem Zb.sub {a:Nat}{p q:Rat}(h:Zb a p) (k:Zb a q):Zb (a+1) (p - q):=by
 obtain ⟨x,rfl,h2⟩:=h; obtain ⟨y,rfl,k2⟩:=k
 exact ⟨x - y,by simp,by rw [Nat.pow_succ]; omega⟩
def fbit:Nat→Nat→Nat
 | 0,_=>1
 | k+1,b=>b+fbit k (2*b+1)
theorem Yww:∀ {k c b:Nat}{A:Nat→Nat→Rat}{r x:Nat→Rat},(∀ i j,c≤i→i<c+k→c≤j→j<c+k→Zb b (A i j))→(∀ i,c≤i→i<c+k→Zb b (r i)) →
  (∀ i,c≤i→i<c+k→(∀ j,c≤j→j<c+k→j≠i→A i j≤0)∧0<sumL (List.range' c k) (A i))→(∀ i,c≤i→i<c+k→sumL (List.range' c k) (fun j=>x j*A i j)=r i) →
  ∃ D:Rat,0<D∧Zb (fbit k b) D∧∀ j,c≤j→j<c+k→Zq (x j*D)
 | 0,c,b,A,r,x,_,_,_,_=>⟨1,by decide,⟨1,rfl,by unfold fbit; decide⟩,fun j h1 h2=>by omega⟩
 | k+1,c,b,A,r,x,hA,hr,hD,hx=>by
  obtain ⟨a1,a2⟩:=hD c (Nat.le_refl _) (by omega)
  have hxc:=hx c (Nat.le_refl _) (by omega)
  rw [List.range'_succ,Zaq] at a2 hxc
  have hp:0<A c c:=by
   have:=Z96 (R:=List.range' (c+1) k) (f:=A c) (fun j hj=>by have hj':=List.mem_range'_1.1 hj; exact a1 j (by omega) (by omega) (by omega))
   grind
  obtain ⟨D,d1,d2,d3⟩:=Yww (k:=k) (c:=c+1) (b:=2*b+1) (A:=fun i j=>A i j*A c c - A i c*A c j) (r:=fun i=>r i*A c c - A i c*r c) (x:=x)
   (fun i j h1 h2 h3 h4=>by
    have x1:=(hA i j (by omega) (by omega) (by omega) (by omega)).mul (hA c c (by omega) (by omega) (by omega) (by omega))
    have x2:=(hA i c (by omega) (by omega) (by omega) (by omega)).mul (hA c j (by omega) (by omega) (by omega) (by omega))
    exact (x1.sub x2).mono (by omega))
   (fun i h1 h2=>by
    have x1:=(hr i (by omega) (by omega)).mul (hA c c (by omega) (by omega) (by omega) (by omega))
    have x2:=(hA i c (by omega) (by omega) (by omega) (by omega)).mul (hr c (by omega) (by omega))
    exact (x1.sub x2).mono (by omega))
   (fun i h1 h2=>by
    obtain ⟨b1,b2⟩:=hD i (by omega) (by omega)
    have hic:=b1 c (Nat.le_refl _) (by omega) (by omega)
    refine ⟨fun j h3 h4 hji=>?_,?_⟩
    ·have x1:=b1 j (by omega) (by omega) hji
     have x2:=a1 j (by omega) (by omega) (by omega)
     have x3:=Rat.mul_nonneg (show 0 ≤ -A i j by grind) (Rat.le_of_lt hp)
     have x4:=Rat.mul_nonneg (show 0 ≤ -A i c by grind) (show 0 ≤ -A c j by grind)
     grind
    ·rw [List.range'_succ,Zaq] at b2
     have e:sumL (List.range' (c+1) k) (fun j=>A i j*A c c - A i c*A c j)=A c c*sumL (List.range' (c+1) k) (A i)+(-(A i c))*sumL (List.range' (c+1) k) (A c):=by
      rw [← Zfe, ← Zfe, ← Z2j]
      exact Za3 (fun j _=>by grind)
     rw [e]
     have x1:=Rat.mul_pos hp b2
     have x2:=Rat.mul_nonneg (show 0 ≤ -A i c by grind) (Rat.le_of_lt a2)
     generalize sumL (List.range' (c+1) k) (A i)=s at *
     generalize sumL (List.range' (c+1) k) (A c)=t at *
     grind)
   (fun i h1 h2=>by
    have hxi:=hx i (by omega) (by omega)
    rw [List.range'_succ,Zaq] at hxi
    have e:sumL (List.range' (c+1) k) (fun j=>x j*(A i j*A c c - A i c*A c j))=A c c*sumL (List.range' (c+1) k) (fun j=>x j*A i j)+(-(A i c))*sumL (List.range' (c+1) k) (fun j=>x j*A c j):=by
     rw [← Zfe, ← Zfe, ← Z2j]
     exact Za3 (fun j _=>by grind)
    rw [e, ← hxi, ← hxc]
    grind)
  refine ⟨A c c*D,Rat.mul_pos hp d1,?_,fun j h1 h2=>?_⟩
  ·exact (hA c c (by omega) (by omega) (by omega) (by omega)).mul d2
  ·by_cases hj:j=c
   ·subst hj
    have e:x j*(A j j*D)=D*r j - sumL (List.range' (j+1) k) (fun i=>x i*D*A j i):=by
     have e2:sumL (List.range' (j+1) k) (fun i=>x i*D*A j i)=D*sumL (List.range' (j+1) k) (fun i=>x i*A j i):=by
      rw [← Zfe]; exact Za3 (fun i _=>by grind)
     rw [e2, ← hxc]; grind
    rw [e]
    refine (d2.q.mul (hr j (by omega) (by omega)).q).sub (Zq.sum fun i hi=>?_)
    have hi':=List.mem_range'_1.1 hi
    exact (d3 i (by omega) (by omega)).mul (hA j i (by omega) (by omega) (by omega) (by omega)).q
   ·have h3:=(d3 j (by omega) (by omega)).mul (hA c c (by omega) (by omega) (by omega) (by omega)).q
    rw [show x j*(A c c*D)=x j*D*A c c by grind]
    exact h3
end GoAbs
namespace GoAbs
open Go Go.Proofs
def Lt9 (q:Rat):Prop:=q.den≤9∧q.num.natAbs<10000
structure GmL (g:Gm):Prop where
 rew:∀ q,q∈g.rew→Lt9 q
 d:Lt9 g.d
 odds:∀ x,x∈g.nodes→x.kind=3→∀ q,q∈x.odds→Lt9 q
 n:g.nodes.length≤5
theorem Y8u {n:Nat}(h:n≤9) (h0:0<n):n∣2520:=by
 have:∀ m,m<10→0<m→m∣2520:=by decide
 exact this n (by omega) h0
theorem Yb5 (q:Rat):q*q.den=q.num:=by
 have h0:(q.den:Rat)≠0:=by
  intro h
  have h1:q.den=0:=by exact_mod_cast h
  exact q.den_nz h1
 have h:=Rat.num_divInt_den q
 rw [Rat.divInt_eq_div] at h
 have e:((q.den:Int):Rat)=(q.den:Rat):=by norm_cast
 rw [e] at h
 generalize (q.den:Rat)=b at *
 generalize (q.num:Rat)=a at *
 grind
theorem Lt9.z {q:Rat}(h:Lt9 q):Zb 26 (q*2520):=by
 obtain ⟨k,hk⟩:=Y8u h.1 q.den_pos
 have e:(2520:Rat)=q.den*k:=by exact_mod_cast hk
 refine ⟨q.num*k,?_,?_⟩
 ·rw [e, ← Rat.mul_assoc,Yb5]; norm_cast
 ·rw [Int.natAbs_mul,Int.natAbs_natCast]
  have h1:k≤2520:=by
   have:=q.den_pos
   have:1*k≤q.den*k:=Nat.mul_le_mul_right _ (by omega)
   omega
  have:=Nat.mul_le_mul (show q.num.natAbs≤9999 by have:=h.2; omega) h1
  omega
theorem Zb.add {a:Nat}{p q:Rat}(h:Zb a p) (k:Zb a q):Zb (a+1) (p+q):=by
 obtain ⟨x,rfl,h2⟩:=h; obtain ⟨y,rfl,k2⟩:=k
 exact ⟨x+y,by simp,by rw [Nat.pow_succ]; omega⟩
abbrev N2:Rat:=2520*2520
def Ze (c:Nat) (M:RM):Prop:=∀ i j,Zb c (mget M i j*N2)
theorem Ze.add {n c:Nat}{M:RM}(h:Ze c M) (hW:Wid n M) {i j:Nat}{x:Rat}(hi:i<M.length) (hj:j<n) (hx:Zb c (x*N2)):Ze (c+1) (addAt M i j x):=fun a b=>by
 rw [Z34 hW hi hj]
 split
 ·rw [Rat.add_mul]; exact (h a b).add hx
 ·rw [Rat.add_zero]; exact (h a b).mono (by omega)
theorem Lt9.neg {q:Rat}(h:Lt9 q):Zb 38 (-q*N2):=by
 obtain ⟨z,h1,h2⟩:=h.z
 refine ⟨-z*2520,?_,?_⟩
 ·rw [show -q*N2 = -(q*2520)*2520 by grind,h1]; simp
 ·rw [Int.natAbs_mul,Int.natAbs_neg,show ((2520:Int)).natAbs=2520 from rfl]
  have:=Nat.mul_lt_mul_of_pos_right h2 (show 0<2520 by decide)
  omega
theorem Lt9.neg2 {p q:Rat}(h:Lt9 p) (k:Lt9 q):Zb 52 (-(p*q)*N2):=by
 obtain ⟨z,h1,h2⟩:=h.z
 obtain ⟨y,k1,k2⟩:=k.z
 refine ⟨-(z*y),?_,?_⟩
 ·rw [show -(p*q)*N2 = -((p*2520)*(q*2520)) by grind,h1,k1]; simp
 ·rw [Int.natAbs_neg,Int.natAbs_mul,show 52=26+26 from rfl,Nat.pow_add]
  exact Nat.mul_lt_mul'' h2 k2
theorem Yd5 {n i c:Nat}{d:Rat}{odds:List Rat}{to:List Nat}(hd:Lt9 d) (hi:i<n) (ho:∀ t,t<to.length→Lt9 (rget odds t)) (hto:∀ x,x∈to→x<n) (hc:52≤c):∀ {k:Nat}{M:RM},k≤to.length→M.length=n→Wid n M→Ze c M →
  (addOdds d i odds to k M).length=n∧Wid n (addOdds d i odds to k M)∧Ze (c+k) (addOdds d i odds to k M)
 | 0,M,_,hl,hw,h=>⟨hl,hw,h⟩
 | k+1,M,hk,hl,hw,h=>by
  obtain ⟨h1,h2,h3⟩:=Yd5 (odds:=odds) (to:=to) hd hi ho hto hc (k:=k) (M:=M) (by omega) hl hw h
  unfold addOdds
  exact ⟨by rw [Zdk,h1],h2.addAt,h3.add h2 (by rw [h1]; exact hi) (hto _ (Zbb (by omega))) ((hd.neg2 (ho k (by omega))).mono (by omega))⟩
theorem Yo0 {g:Gm}(hg:GmP g) (hl:GmL g) {p:List Int}(hp:POk g p):∀ {k:Nat},k≤g.nodes.length→(planM g p k).length=g.nodes.length∧Wid g.nodes.length (planM g p k)∧Ze (52+7*k) (planM g p k)
 | 0,_=>by
  unfold planM
  refine ⟨List.length_replicate,fun r hr=>by rw [(List.mem_replicate.1 hr).2,List.length_replicate],fun i j=>?_⟩
  have h0:mget (List.replicate g.nodes.length (List.replicate g.nodes.length (0:Rat))) i j=0:=by
   unfold mget rget
   rw [List.getD_eq_getElem?_getD,List.getD_eq_getElem?_getD,List.getElem?_replicate]
   split
   ·rw [Option.getD_some,List.getElem?_replicate]; split <;> rfl
   ·simp
  rw [h0]
  exact ⟨0,by rw [Rat.zero_mul]; rfl,by decide⟩
 | k+1,hk=>by
  obtain ⟨h1,h2,h3⟩:=Yo0 hg hl hp (k:=k) (by omega)
  have hkn:k<g.nodes.length:=by omega
  have hx:=Za0 hkn
  have hok:=hg.ok.node _ hx
  have hlt:=hp.lt hkn
  have hod:=hl.odds _ hx
  unfold planM nodeM
  generalize nodeAt g k=x at *
  have a1:=h3.add (i:=k) (j:=k) (x:=1) h2 (by rw [h1]; exact hkn) hkn (Zb.mono (a:=23) ⟨6350400,by decide+kernel,by decide⟩ (by omega))
  have a2:(addAt (planM g p k) k k 1).length=g.nodes.length:=by rw [Zdk,h1]
  have a3:Wid g.nodes.length (addAt (planM g p k) k k 1):=h2.addAt
  split
  ·rename_i h3
   have ho:=(hok.odds h3).1
   obtain ⟨b1,b2,b3⟩:=Yd5 (odds:=x.odds) (to:=x.to) hl.d hkn (fun t ht=>hod h3 _ (List.mem_of_getElem? (Zah (by omega)))) hok.lt (by omega) (Nat.le_refl _) a2 a3 a1
   refine ⟨b1,b2,fun i j=>(b3 i j).mono ?_⟩
   have:=hok.len
   omega
  ·rename_i h3
   refine ⟨by rw [Zdk,a2],a3.addAt,fun i j=>((a1.add a3 (by rw [a2]; exact hkn) (hok.lt _ (Zbb (hlt h3))) (hl.d.neg.mono (by omega))) i j).mono (by omega)⟩
theorem Yu4 {q D:Rat}{b c:Nat}(h0:0<D) (hD:Zb b D) (hz:Zq (q*D)) (h1:q≤2 ^ c) (h2 : -(2 ^ c)≤q):Qb (b+c+1) q:=by
 obtain ⟨e,rfl,he⟩:=hD
 obtain ⟨z,hz⟩:=hz
 have e0:0<e:=by exact_mod_cast h0
 have hq:q=Rat.divInt z e:=by
  rw [Rat.divInt_eq_div]
  have:(e:Rat)≠0:=by grind
  rw [← hz]; grind
 obtain ⟨n1,n2⟩:=Zdi (n:=z) (d:=e) (by omega)
 rw [← hq] at n1 n2
 have hzz:z.natAbs≤2 ^ c*e.natAbs:=by
  have x1:=Rat.mul_le_mul_of_nonneg_right h1 (Rat.le_of_lt h0)
  have x2:=Rat.mul_le_mul_of_nonneg_right h2 (Rat.le_of_lt h0)
  rw [hz] at x1 x2
  have e1:(2:Rat) ^ c*(e:Rat)=(((2 ^ c:Nat)*e:Int):Rat):=by simp
  have e2 : -((2:Rat) ^ c)*(e:Rat)=((-((2 ^ c:Nat)*e):Int):Rat):=by simp [Rat.neg_mul]
  rw [e1] at x1
  rw [e2] at x2
  have y1:=Rat.intCast_le_intCast.1 x1
  have y2:=Rat.intCast_le_intCast.1 x2
  have e3:((2 ^ c*e.natAbs:Nat):Int)=((2 ^ c:Nat):Int)*e:=by rw [Int.natCast_mul]; congr 1; omega
  generalize ((2 ^ c:Nat):Int)*e=w at *
  omega
 have hm:2 ^ c*e.natAbs<2 ^ c*2 ^ b:=Nat.mul_lt_mul_of_pos_left he (Nat.two_pow_pos _)
 have hp:2 ^ c*2 ^ b=2 ^ (c+b):=(Nat.pow_add ..).symm
 have hc:=Nat.two_pow_pos c
 refine ⟨?_,?_⟩
 ·rw [show b+c+1=c+b+1 by omega,Nat.pow_succ]; omega
 ·have:2 ^ b≤2 ^ (b+c+1):=Nat.pow_le_pow_right (by omega) (by omega)
  omega
theorem frac9 {d:Rat}(h:Lt9 d) (d1:d<1):d*9≤8:=by
 have h0:=d.den_pos
 have h1:=Yb5 d
 have hd:(0:Rat)<d.den:=by exact_mod_cast h0
 have h2:d*d.den<d.den:=by
  have:=Rat.mul_pos (show 0<1 - d by grind) hd
  grind
 rw [h1] at h2
 have h3:d.num<d.den:=by exact_mod_cast h2
 have h4:d.num*9≤8*d.den:=by have:=h.1; omega
 have h5:(d.num:Rat)*9≤8*(d.den:Rat):=by exact_mod_cast h4
 rw [← h1] at h5
 rcases (Rat.le_total:d*9≤8∨8≤d*9) with h6 | h6
 ·exact h6
 ·by_cases he:d*9=8
  ·rw [he]; grind
  ·have:=Rat.mul_pos (show 0<d*9 - 8 by grind) hd
   grind
theorem Lt9.abs {q:Rat}(h:Lt9 q):q≤10000 ∧ -10000≤q:=by
 have h0:=q.den_pos
 have h1:=Yb5 q
 have hd:(1:Rat)≤q.den:=by exact_mod_cast h0
 have n1:(q.num:Rat)≤((10000:Int):Rat):=by have:=h.2; exact Rat.intCast_le_intCast.2 (show q.num≤10000 by omega)
 have n2:((-10000:Int):Rat)≤(q.num:Rat):=by have:=h.2; exact Rat.intCast_le_intCast.2 (show -10000≤q.num by omega)
 rw [show ((10000:Int):Rat)=10000 from rfl] at n1
 rw [show ((-10000:Int):Rat) = -10000 from rfl] at n2
 rw [← h1] at n1 n2
 constructor
 ·rcases (Rat.le_total:q≤10000∨10000≤q) with h6 | h6
  ·exact h6
  ·have:=Rat.mul_nonneg (show 0≤q by grind) (show 0≤(q.den:Rat) - 1 by grind)
   grind
 ·rcases (Rat.le_total : -10000≤q∨q ≤ -10000) with h6 | h6
  ·exact h6
  ·have:=Rat.mul_nonneg (show 0 ≤ -q by grind) (show 0≤(q.den:Rat) - 1 by grind)
   grind
theorem Z4a {odds:List Rat}{to:List Nat}{n:Nat}{c:Rat}:∀ {k:Nat},k≤to.length→(∀ x,x∈to→x<n)→dotW odds (List.replicate n c) to k=c*sumO odds k
 | 0,_,_=>by simp only [dotW,sumO]; grind
 | k+1,hk,h=>by
  simp only [dotW,sumO]
  rw [Z4a (by omega) h,Zbi (h _ (Zbb (by omega)))]
  grind
theorem Z7o {g:Gm}(hg:GmP g) {p:List Int}(hp:POk g p) {i:Nat}(hi:i<g.nodes.length) {c:Rat}:worthP (nodeAt g i) (pget p i) (List.replicate g.nodes.length c)=c:=by
 have hx:=Za0 hi
 have hok:=hg.ok.node _ hx
 have hlt:=hp.lt hi
 have hod:=hg.odds _ hx
 unfold worthP
 split
 ·rename_i h3
  rw [Z4a (Nat.le_refl _) hok.lt,(hod h3).2]; grind
 ·rename_i h3
  exact Zbi (hok.lt _ (Zbb (hlt h3)))
theorem Yr8 {g:Gm}(hg:GmP g) (hl:GmL g) {p:List Int}(hp:POk g p) {v:List Rat}(hv:PVal g p v) {i:Nat}(hi:i<g.nodes.length):rget v i≤100000 ∧ -100000≤rget v i:=by
 have hs:=Ynx hg hp
 have h9:=frac9 hl.d hg.d1
 have d0:=hg.d0
 have hr:=fun j (hj:j<g.nodes.length)=>(hl.rew _ (List.mem_of_getElem? (Zah (r:=g.rew) (j:=j) (by rw [hg.ok.rew]; exact hj)))).abs
 constructor
 ·have:=hs.le hg.d1 (u:=v) (v:=List.replicate g.nodes.length 100000) (fun j hj=>by rw [← hv.2 j hj]; grind) (fun j hj=>by
   rw [Zbi hj]; unfold planV; rw [Z7o hg hp hj]; have:=hr j hj; grind) i hi
  rwa [Zbi hi] at this
 ·have:=hs.le hg.d1 (u:=List.replicate g.nodes.length (-100000)) (v:=v) (fun j hj=>by
   rw [Zbi hj]; unfold planV; rw [Z7o hg hp hj]; have:=hr j hj; grind) (fun j hj=>by rw [← hv.2 j hj]; grind) i hi
  rwa [Zbi hi] at this
theorem Yl0 {g:Gm}(hg:GmP g) (hl:GmL g) {p:List Int}(hp:POk g p):Rb 4000 (valP g p):=fun q hq=>by
 obtain ⟨i,hi,rfl⟩:∃ i,i<g.nodes.length∧q=rget (valP g p) i:=by
  obtain ⟨i,hi⟩:=List.getElem?_of_mem hq
  have hlt:=(List.getElem?_eq_some_iff.1 hi).1
  have:=Zah hlt
  rw [hi] at this
  exact ⟨i,by rw [(Yfn hg hp).1] at hlt; exact hlt,by simpa using this⟩
 obtain ⟨h1,h2⟩:=Z8m hg hp (Nat.le_refl g.nodes.length)
 obtain ⟨_,_,_,h3,h4⟩:=Z82 h1.len h1.wid hg.ok.rew (Z79 hg hp)
 have hD:=Z79 hg hp
 obtain ⟨_,_,hz⟩:=Yo0 hg hl hp (Nat.le_refl g.nodes.length)
 have hn:=hl.n
 have hpos:(0:Rat)<N2:=by decide+kernel
 obtain ⟨D,d1,d2,d3⟩:=Yww (k:=g.nodes.length) (c:=0) (b:=90) (A:=fun i j=>mget (planM g p g.nodes.length) i j*N2) (r:=fun i=>rget g.rew i*N2) (x:=rget (valP g p))
  (fun i j _ _ _ _=>(hz i j).mono (by omega))
  (fun i _ hi=>by
   have:=(hl.rew _ (List.mem_of_getElem? (Zah (r:=g.rew) (j:=i) (by rw [hg.ok.rew]; omega)))).z
   have h2:Zb 12 2520:=⟨2520,rfl,by decide⟩
   have h3:=this.mul h2
   rw [show rget g.rew i*N2=rget g.rew i*2520*2520 by grind]
   exact h3.mono (by omega))
  (fun i h0 hi=>by
   obtain ⟨a,b⟩:=hD i h0 (by omega)
   refine ⟨fun j hj hjn hji=>?_,?_⟩
   ·have:=Rat.mul_nonneg (show 0 ≤ -mget (planM g p g.nodes.length) i j by have:=a j hj (by omega) hji; grind) (Rat.le_of_lt hpos)
    grind
   ·rw [Za3 (g:=fun j=>N2*mget (planM g p g.nodes.length) i j) (fun j _=>by grind),Zfe]
    refine Rat.mul_pos hpos ?_
    rw [List.range'_eq_map_range,Z8a] at b ⊢
    rw [Za3 (g:=fun j=>mget (planM g p g.nodes.length) i (0+j)) (fun j _=>by rw [show 0+1+j - 1=0+j by omega])] at b
    exact b)
  (fun i _ hi=>by
   have:=h4 i (by omega)
   rw [Za3 (g:=fun j=>N2*(rget (valP g p) j*mget (planM g p g.nodes.length) i j)) (fun j _=>by grind),Zfe,List.range'_eq_map_range,Z8a]
   rw [Za3 (g:=fun j=>rget (solvR g.nodes.length (planM g p g.nodes.length) g.rew) j*mget (planM g p g.nodes.length) i j) (fun j _=>by rw [show 0+j=j by omega]; rfl),this]
   grind)
 have ha:=Yr8 hg hl hp (Yfn hg hp) hi
 have hb:fbit g.nodes.length 90≤3000:=by
  have:∀ n,n≤5→fbit n 90≤3000:=fun n hn=>by
   have:n=0∨n=1∨n=2∨n=3∨n=4∨n=5:=by omega
   rcases this with rfl | rfl | rfl | rfl | rfl | rfl <;> decide
  exact this _ hn
 have e17:(2:Rat) ^ 17=131072:=by decide+kernel
 exact (Yu4 (c:=17) d1 d2 (d3 i (by omega) (by omega)) (by rw [e17]; grind) (by rw [e17]; grind)).mono (by omega)
end GoAbs
namespace GoAbs
open Go Go.Proofs
set_option maxHeartbeats 4000000
end GoAbs
namespace GoAbs
open Go Go.Proofs
def Z0k:List IOp := [oI 4 (.mv (cI 0)) 0]
def Z2g:List IOp := [mI 5 0 0,mI 6 1 0,oI 7 (.bin .rem (.t 5) (.t 6)) 0,mI 8 1 0,oI 9 (.bin .add (.t 7) (.t 8)) 0,mI 10 1 0,oI 11 (.bin .rem (.t 9) (.t 10)) 0,mI 4 11 0]
def Yd2:CC := .seq (.rg false Z0k) (.seq (.rg false Z2g) .ret)
abbrev Ynr:Nat:=29
theorem Yit:fnOk Tryz.prog 29=some (12,Yd2,[.tmp 4]):=by kernel_rfl
def Zsl:List IOp := [oI 4 (.mv (cI 0)) 0]
def Zu7:List IOp := [mI 5 1 0,mI 6 0 0,oI 7 (.len (.t 6)) 0,oI 8 (.bin .lss (.t 5) (.t 7)) 0]
def Z5t:List IOp := [mI 9 0 0,mI 10 1 0,xI 11 1 9 10 0,lI 12 11 0,mI 4 12 0]
def Z62:List IOp := [oI 4 (.mv (cI 0)) 0]
def Yj3:CC := .seq (.rg false Zsl) (.seq (.seq (.rg false Zu7) (.cond (.t 8) (.seq (.rg false Z5t) .ret) .skip)) (.seq (.rg false Z62) .ret))
abbrev Ytu:Nat:=47
theorem Ylx:fnOk Tryz.prog 47=some (13,Yj3,[.tmp 4]):=by kernel_rfl
def Zx5:List IOp := [oI 4 (.mv (.c .nils)) 0,oI 5 (.mv (.c (.bool false))) 0]
def Zxr:List IOp := [mI 9 0 0,mI 10 1 0,oI 11 (.call 43 [.t 9,.t 10]) 0,mI 8 11 0,eI 12 0 8 0,eI 13 1 8 0,mI 6 12 0,mI 7 13 0]
def Zwa:List IOp := [mI 14 7 0,oI 15 (.bin .neq (.t 14) (cI 0)) 0,mI 16 15 0,gI 17 (.mv (.t 6)) 0 16 false,gI 18 (.len (.t 17)) 0 16 false,gI 19 (.mv (.t 0)) 0 16 false,gI 20 (.len (.t 19)) 0 16 false,gI 21 (.bin .neq (.t 18) (.t 20)) 0 16 false,oI 22 (.pick (.t 16) (.c (.bool true)) (.t 21)) 0,mI 23 22 0,gI 24 (.mv (.t 6)) 0 23 false,gI 25 (.call 24 [.t 24]) 0 23 false,gI 26 (.bin .neq (.t 25) (cI 0)) 0 23 false,oI 27 (.pick (.t 23) (.c (.bool true)) (.t 26)) 0]
def Ycm:List IOp := [oI 4 (.mv (.c .nils)) 0,oI 5 (.mv (.c (.bool false))) 0]
def Zwf:List IOp := [mI 28 6 0,oI 29 (.call 27 [.t 28]) 0,mI 4 29 0,oI 5 (.mv (.c (.bool true))) 0]
def Z9s:CC := .seq (.rg false Zx5) (.seq (.rg false Zxr) (.seq (.seq (.rg false Zwa) (.cond (.t 27) (.seq (.rg false Ycm) .ret) .skip)) (.seq (.rg false Zwf) .ret)))
abbrev Yjc:Nat:=23
theorem Yg4:fnOk Tryz.prog 23=some (30,Z9s,[.tmp 4,.tmp 5]):=by kernel_rfl
def Zmn:List IOp := [oI 2 (.box (.t 0)) 0,oI 4 (.mv (.c (.bool false))) 1]
def Zme:List IOp := [lJ 20 5 2 0,oI 21 (.call 22 [.t 20]) 0,mI 19 21 0,eI 22 0 19 0,eI 23 1 19 0,mI 5 22 0,mI 6 23 0]
def Zmz:List IOp := [mI 25 5 0,mI 26 6 0,oI 27 (.call 23 [.t 25,.t 26]) 0,mI 24 27 0,eI 28 0 24 0,eI 29 1 24 0,mI 7 28 0,mI 8 29 0]
def Zmi:List IOp := [oI 30 (.bsl (some 3) 0 [.int .i64 0,.str ⟨#[]⟩,.nils] []) 0,mI 9 30 1]
def Zmh:List IOp := [oI 10 (.mv (cI 0)) 0]
def Zb2:List IOp := [mI 31 10 0,mI 32 5 0,oI 33 (.len (.t 32)) 0,oI 34 (.bin .lss (.t 31) (.t 33)) 0]
def Zc6:List IOp := [mI 37 5 0,mI 38 10 0,xI 39 3 37 38 0,lJ 40 3 39 0,oI 11 (.alloc [.int .i64 0,.str ⟨#[]⟩,.nils]) 0,⟨none,.st 3 (.t 11) (.t 40),1,[],[],none⟩]
def Zb4:List IOp := [oI 41 (.call 31 [cI 0]) 0,fI 42 1 11 0,lI 43 42 0,oI 44 (.callw 21 [.t 43]) 0,oI 45 (.callw 34 [.t 41,.t 44]) 0,oI 46 (.callw 30 [.t 45]) 0,fI 47 1 11 0,⟨none,.st 1 (.t 47) (.t 46),0,[],[],none⟩]
@[go_sem ↓] theorem Zyz : autoK Zb4 = (0, 1) := by kernel_rfl
@[go_sem] theorem Yk8 : autoK [oI 41 (.call 31 [cI 0]) 0, fI 42 1 11 0, lI 43 42 0, oI 44 (.callw 21 [.t 43]) 0, oI 45 (.callw 34 [.t 41, .t 44]) 0, oI 46 (.callw 30 [.t 45]) 0, fI 47 1 11 0, ⟨none, .st 1 (.t 47) (.t 46), 0, [], [], none⟩] = (0, 1) := Zyz
def Zc5:List IOp := [fI 48 0 11 0,lI 49 48 0]
def Zcr:List IOp := [oI 51 (.bin .eql (.t 49) (cI 1)) 0,mI 50 51 0]
def Zkp:List IOp := [fI 52 0 11 0,⟨none,.st 1 (.t 52) (cI 2),0,[],[],none⟩]
def Ze9:List IOp := [oI 54 (.bin .eql (.t 49) (cI 2)) 0,mI 53 54 0]
def Zkr:List IOp := [fI 55 0 11 0,⟨none,.st 1 (.t 55) (cI 1),0,[],[],none⟩]
def Zco:List IOp := [mI 56 9 0,lJ 57 3 11 0,oI 58 (.bsl (some 3) 1 [.int .i64 0,.str ⟨#[]⟩,.nils] [(0,.t 57)]) 0,oI 59 (.app (some 3) 48 (.t 56) (.t 58)) 1,mI 9 59 2]
def Zcs:List IOp := [mI 35 10 0,oI 36 (.bin .add (.t 35) (cI 1)) 0,mI 10 36 0]
def Zf3:CC := .seq (.seq (.rg false Zb2) (.cond (.t 34) .skip (.exit 0))) (.seq (.block 1 (.seq (.rg false Zc6) (.seq (.rg true Zb4) (.seq (.seq (.rg false Zc5) (.block 2 (.seq (.rg false Zcr) (.cond (.t 50) (.rg false Zkp) (.seq (.rg false Ze9) (.cond (.t 53) (.rg false Zkr) .skip)))))) (.rg false Zco))))) (.rg false Zcs))
def Zj3:List IOp := [mI 61 9 0,mI 62 6 0,oI 63 (.call 23 [.t 61,.t 62]) 0,mI 60 63 0,eI 64 0 60 0,eI 65 1 60 0,mI 12 64 0,mI 13 65 0]
def Zkq:List IOp := [mI 67 5 0,mI 68 6 0,mI 69 1 0,oI 70 (.cvi .i64 (.t 69)) 0,oI 71 (.bin .rem (.t 70) (cI 6)) 0,oI 72 (.call 15 [.t 67,.t 68,.t 71]) 0,mI 66 72 0,eI 73 0 66 0,eI 74 1 66 0,mI 14 73 0,mI 15 74 0]
def Zka:List IOp := [mI 76 9 0,mI 77 6 0,mI 78 1 0,oI 79 (.cvi .i64 (.t 78)) 0,oI 80 (.bin .rem (.t 79) (cI 6)) 0,oI 81 (.call 15 [.t 76,.t 77,.t 80]) 0,mI 75 81 0,eI 82 0 75 0,eI 83 1 75 0,mI 16 82 0,mI 17 83 0]
def Zkk:List IOp := [mI 84 8 0,oI 85 (.un .not (.t 84)) 0,mI 86 85 0,gI 87 (.mv (.t 13)) 0 86 false,gI 88 (.un .not (.t 87)) 0 86 false,oI 89 (.pick (.t 86) (.c (.bool true)) (.t 88)) 0,mI 90 89 0,gI 91 (.mv (.t 15)) 0 90 false,gI 92 (.bin .neq (.t 91) (cI 0)) 0 90 false,oI 93 (.pick (.t 90) (.c (.bool true)) (.t 92)) 0,mI 94 93 0,gI 95 (.mv (.t 17)) 0 94 false,gI 96 (.bin .neq (.t 95) (cI 0)) 0 94 false,oI 97 (.pick (.t 94) (.c (.bool true)) (.t 96)) 0,mI 98 97 0,gI 99 (.mv (.t 14)) 0 98 false,gI 100 (.len (.t 99)) 0 98 false,gI 101 (.mv (.t 5)) 0 98 false,gI 102 (.len (.t 101)) 0 98 false,gI 103 (.bin .neq (.t 100) (.t 102)) 0 98 false,oI 104 (.pick (.t 98) (.c (.bool true)) (.t 103)) 0,mI 105 104 0,gI 106 (.mv (.t 16)) 0 105 false,gI 107 (.len (.t 106)) 0 105 false,gI 108 (.mv (.t 5)) 0 105 false,gI 109 (.len (.t 108)) 0 105 false,gI 110 (.bin .neq (.t 107) (.t 109)) 0 105 false,oI 111 (.pick (.t 105) (.c (.bool true)) (.t 110)) 0,mI 112 111 0,gI 113 (.mv (.t 14)) 0 112 false,gI 114 (.call 24 [.t 113]) 0 112 false,gI 115 (.bin .neq (.t 114) (cI 0)) 0 112 false,oI 116 (.pick (.t 112) (.c (.bool true)) (.t 115)) 0,mI 117 116 0,gI 118 (.mv (.t 16)) 0 117 false,gI 119 (.call 24 [.t 118]) 0 117 false,gI 120 (.bin .neq (.t 119) (cI 0)) 0 117 false,oI 121 (.pick (.t 117) (.c (.bool true)) (.t 120)) 0,mI 122 121 0,gI 123 (.call 17 []) 0 122 false,gI 124 (.un .not (.t 123)) 0 122 false,oI 125 (.pick (.t 122) (.c (.bool true)) (.t 124)) 0]
def Zz8:List IOp := [oI 4 (.mv (.c (.bool false))) 0]
def Zkg:List IOp := [oI 18 (.mv (cI 0)) 0]
def Zff:List IOp := [mI 126 18 0,mI 127 5 0,oI 128 (.len (.t 127)) 0,oI 129 (.bin .lss (.t 126) (.t 128)) 0]
def Zfi:List IOp := [mI 132 7 0,mI 133 18 0,xI 134 4 132 133 0,lJ 135 4 134 0,oI 136 (.call 31 [cI 0]) 0,mI 137 12 0,mI 138 18 0,xI 139 4 137 138 0,lJ 140 4 139 0,oI 141 (.call 34 [.t 136,.t 140]) 0,oI 142 (.callw 25 [.t 135,.t 141]) 0,oI 143 (.bin .neq (.t 142) (cI 0)) 0,mI 144 143 0,gI 145 (.mv (.t 14)) 0 144 false,gI 146 (.mv (.t 18)) 0 144 false,gI 147 (.idx 1 (.t 145) (.t 146)) 0 144 false,gI 148 (.ld none (.t 147)) 0 144 false,gI 149 (.call 21 [.t 148]) 0 144 false,gI 150 (.call 31 [cI 0]) 0 144 false,gI 151 (.mv (.t 16)) 0 144 false,gI 152 (.mv (.t 18)) 0 144 false,gI 153 (.idx 1 (.t 151) (.t 152)) 0 144 false,gI 154 (.ld none (.t 153)) 0 144 false,gI 155 (.callw 21 [.t 154]) 0 144 false,gI 156 (.callw 34 [.t 150,.t 155]) 0 144 false,gI 157 (.callw 25 [.t 149,.t 156]) 0 144 false,gI 158 (.bin .neq (.t 157) (cI 0)) 0 144 false,oI 159 (.pick (.t 144) (.c (.bool true)) (.t 158)) 0]
@[go_sem ↓] theorem Zvl : autoK Zfi = (0, 0) := by kernel_rfl
@[go_sem] theorem Yiw : autoK [mI 132 7 0, mI 133 18 0, xI 134 4 132 133 0, lJ 135 4 134 0, oI 136 (.call 31 [cI 0]) 0, mI 137 12 0, mI 138 18 0, xI 139 4 137 138 0, lJ 140 4 139 0, oI 141 (.call 34 [.t 136, .t 140]) 0, oI 142 (.callw 25 [.t 135, .t 141]) 0, oI 143 (.bin .neq (.t 142) (cI 0)) 0, mI 144 143 0, gI 145 (.mv (.t 14)) 0 144 false, gI 146 (.mv (.t 18)) 0 144 false, gI 147 (.idx 1 (.t 145) (.t 146)) 0 144 false, gI 148 (.ld none (.t 147)) 0 144 false, gI 149 (.call 21 [.t 148]) 0 144 false, gI 150 (.call 31 [cI 0]) 0 144 false, gI 151 (.mv (.t 16)) 0 144 false, gI 152 (.mv (.t 18)) 0 144 false, gI 153 (.idx 1 (.t 151) (.t 152)) 0 144 false, gI 154 (.ld none (.t 153)) 0 144 false, gI 155 (.callw 21 [.t 154]) 0 144 false, gI 156 (.callw 34 [.t 150, .t 155]) 0 144 false, gI 157 (.callw 25 [.t 149, .t 156]) 0 144 false, gI 158 (.bin .neq (.t 157) (cI 0)) 0 144 false, oI 159 (.pick (.t 144) (.c (.bool true)) (.t 158)) 0] = (0, 0) := Zvl
def Z3k:List IOp := [oI 4 (.mv (.c (.bool false))) 0]
def Zks:List IOp := [mI 130 18 0,oI 131 (.bin .add (.t 130) (cI 1)) 0,mI 18 131 0]
def Zl4:CC := .seq (.seq (.rg false Zff) (.cond (.t 129) .skip (.exit 3))) (.seq (.block 4 (.seq (.rg true Zfi) (.cond (.t 159) (.seq (.rg false Z3k) .ret) .skip))) (.rg false Zks))
def Zki:List IOp := [oI 4 (.mv (.c (.bool true))) 0]
def Zxy:CC := .seq (.rg false Zmn) (.seq (.rg false Zme) (.seq (.rg false Zmz) (.seq (.rg false Zmi) (.seq (.seq (.rg false Zmh) (.block 0 (.loop Zf3))) (.seq (.rg false Zj3) (.seq (.rg false Zkq) (.seq (.rg false Zka) (.seq (.seq (.rg false Zkk) (.cond (.t 125) (.seq (.rg false Zz8) .ret) .skip)) (.seq (.seq (.rg false Zkg) (.block 3 (.loop Zl4))) (.seq (.rg false Zki) .ret))))))))))
abbrev Ycc:Nat:=6
theorem Z7u:fnOk Tryz.prog 6=some (160,Zxy,[.tmp 4]):=by kernel_rfl
def Zw5:List IOp := [oI 1 (.box (.t 0)) 0,oI 2 (.mv (.c .nils)) 1,oI 3 (.mv (.c (.str ⟨#[]⟩))) 1]
def Zwh:List IOp := [fI 4 0 1 0,lI 5 4 0,fI 6 2 1 0,lI 7 6 0,fI 8 3 1 0,lI 9 8 0,fI 10 4 1 0,lI 11 10 0,fI 12 1 1 0,lI 13 12 0,oI 14 (.call 60 [.t 5,.t 7,.t 9,.t 11,.t 13]) 0,eI 15 0 14 0,eI 16 1 14 0,mI 2 15 0,mI 3 16 0]
def Ya9:CC := .seq (.rg false Zw5) (.seq (.rg false Zwh) .ret)
abbrev Yjr:Nat:=22
theorem Yhe:fnOk Tryz.prog 22=some (17,Ya9,[.tmp 2,.tmp 3]):=by kernel_rfl
end GoAbs
namespace GoAbs
open Go Go.Proofs
set_option maxHeartbeats 4000000
def strsL (l:List (List UInt8)):List AV:=l.map fun s => .str (bs s)
theorem rsame {l:List (List UInt8)}(hl:l.length≤1000000):SpecV Tryz.prog Yfj [.sl (strsL l),.sl (strsL l)] (.bool true):=by
 have hmx:Tryz.prog.follows .mixedOrders=true:=by kernel_rfl
 have hsl:(strsL l).length=l.length:=by simp [strsL]
 refine Za6 Yc2 (by simp) (Zbk 1 rfl ?_)
 unfold Z5i
 simp only [go_sem,Zsk,Zte,hsl]
 refine Zba (Zba (T_W ?_))
 simp only [go_sem,Ztr]
 refine Za8 (Zaf (fun i:Nat=>⟨envL [(0,.sl (strsL l)),(1,.sl (strsL l)),(5,.int .i64 (i:Int))],[]⟩)
  (fun i=>i≤l.length) (fun i=>l.length - i) 0 (by omega) (Zab _ (by simp only [go_sem]; simp)) (fun i hi N hN=>?_))
 unfold Zss
 by_cases hin:i<l.length
 ·obtain ⟨s,hs⟩:∃ s,l[i]? = some s:=⟨_,List.getElem?_eq_getElem hin⟩
  have hget:(strsL l)[i]? = some (.str (bs s)):=by simp [strsL,hs]
  have q0:(0:Int)≤(i:Int):=by omega
  have q1:(i:Int)<(l.length:Int):=by omega
  have e1:IntKind.i64.wrap ((i:Int)+1)=((i+1:Nat):Int):=by rw [Zac (by omega) (by omega)]; omega
  simp only [go_sem,Zi0,Zi5,Zuu,q0,q1,hsl,hget,hmx,e1]
  exact hN (i+1) _ (by omega) (by omega) (Zab _ (by simp only [go_sem]))
 ·have hie:i=l.length:=by omega
  subst hie
  have q1:¬ ((l.length:Nat):Int)<(l.length:Int):=by omega
  simp only [go_sem,Zi0,hsl,q1]
  refine T_W ?_
  simp only [go_sem,Zu9]
def L1:List Nd := [⟨1,[49],[(0,[])]⟩]
def d12:List UInt8 := [49,47,50]
theorem Yfm:GIn L1 d12:=by
 refine ⟨.inl (by decide),by decide,fun n hn=>?_⟩
 simp [L1] at hn
 subst hn
 refine ⟨by decide,by decide,fun m hm=>?_⟩
 simp at hm
 subst hm
 decide
theorem Ymn:eC L1 d12=0:=by decide+kernel
theorem Ynb:toGm L1 d12=⟨[⟨1,[0],[]⟩],[1],1/2⟩:=by
 unfold toGm L1 d12 toGN oddsQ
 have h1:parseL [49]=some 1:=by decide+kernel
 have h2:parseL [49,47,50]=some (1/2):=by decide+kernel
 simp [h1,h2,hasO]
theorem Y73:valG (toGm L1 d12) = [2]:=by
 rcases Z8f Yfm with ⟨h,_⟩ | ⟨_,_,hg,_⟩
 ·exact absurd Ymn h
 ·symm
  refine Z3g hg (by rw [Ynb]; rfl) (fun i hi=>?_)
  rw [Ynb] at hi ⊢
  have:i=0:=by simpa using hi
  subst this
  decide+kernel
theorem Y7s:rndR (toGm L1 d12) 3 = [7/4]:=by rw [Ynb]; decide+kernel
theorem Y4v {H:Heap}{ids:List Nat}{b:Nat}{k:Int}{s:ByteArray}{X:AV}{M:List AV}(hb:H[b]? = some (.cells [.int .i64 k,.str s,X])) (hi:b∈ids) (hX:BV H ids X (.sl M)):BV H ids (.osl (some 3) b 0 1) (.sl [.agg [.int .i64 k,.str s,.sl M]]):=by
 refine .osl (some 3) b 0 1 _ _ hb hi rfl (fun x hx=>by simp at hx; subst hx; rfl) (by simp [es]) (fun i x j y z hx hy hz=>?_)
 have hi0:i=0:=by
  have:=(List.getElem?_eq_some_iff.1 hx).1
  simp at this; exact this
 subst hi0
 simp at hx
 subst hx
 rw [show 0+(0*es (some 3)+j)=j by simp] at hz
 match j with
 | 0=>simp [AV.cells] at hy hz; subst hy hz; exact .int _ _
 | 1=>simp [AV.cells] at hy hz; subst hy hz; exact .str _
 | 2=>simp [AV.cells] at hy hz; subst hy hz; exact hX
 | j+3=>simp [AV.cells] at hy
theorem Y5o {H:Heap}{ids:List Nat}{b:Nat}{k:Int}{s:ByteArray}(hb:H[b]? = some (.cells [.int .i64 k,.str s])) (hi:b∈ids):BV H ids (.osl (some 2) b 0 1) (.sl [.agg [.int .i64 k,.str s]]):=by
 refine .osl (some 2) b 0 1 _ _ hb hi rfl (fun x hx=>by simp at hx; subst hx; rfl) (by simp [es]) (fun i x j y z hx hy hz=>?_)
 have hi0:i=0:=by
  have:=(List.getElem?_eq_some_iff.1 hx).1
  simp at this; exact this
 subst hi0
 simp at hx
 subst hx
 rw [show 0+(0*es (some 2)+j)=j by simp] at hz
 match j with
 | 0=>simp [AV.cells] at hy hz; subst hy hz; exact .int _ _
 | 1=>simp [AV.cells] at hy hz; subst hy hz; exact .str _
 | j+2=>simp [AV.cells] at hy
theorem Yxs {H:Heap}{ids:List Nat}{b:Nat}{s:ByteArray}(hb:H[b]? = some (.cells [.str s])) (hi:b∈ids):BV H ids (.osl none b 0 1) (.sl [.str s]):=by
 refine .osl none b 0 1 _ _ hb hi rfl (fun x hx=>by simp at hx; subst hx; rfl) (by simp [es]) (fun i x j y z hx hy hz=>?_)
 have hi0:i=0:=by
  have:=(List.getElem?_eq_some_iff.1 hx).1
  simp at this; exact this
 subst hi0
 simp at hx
 subst hx
 match j with
 | 0=>simp [AV.cells,es] at hy hz; subst hy hz; exact .str _
 | j+1=>simp [AV.cells] at hy
theorem wlives:SpecV Tryz.prog Ymg [] (.bool true):=by
 have hv:=wvalue Yfm
 rw [if_pos Ymn,Y73,show numsR [2] = .tup [.sl (strsL [[50]]),.int .i64 0] by
  unfold numsR
  rw [if_pos (by decide+kernel)]
  have:numS 2 = [50]:=by decide+kernel
  simp [ss,strsL,this]] at hv
 have hr:=wrounds (r:=3) Yfm (by omega)
 rw [show rC L1 d12 3=0 by unfold rC; rw [Ymn]; rfl,if_pos rfl,show (3:Int).toNat=3 from rfl,Y7s,show numsR [7/4] = .tup [.sl (strsL [[55,47,52]]),.int .i64 0] by
  unfold numsR
  rw [if_pos (by decide+kernel)]
  have:numS (7/4) = [55,47,52]:=by decide+kernel
  simp [ss,strsL,this]] at hr
 refine Zae Ykh (by simp) ?_
 unfold Yev
 simp only [go_sem,Z1y,Z0j]
 refine Zh2 (ids := [0,1]) hv (.cons (Y4v rfl (by simp) (Y5o rfl (by simp))) (.cons (.str _) .nil)) ?_
 simp only [go_sem,Z26,kill,List.foldl_cons,List.foldl_nil]
 refine Zh2 (ids := [2,3]) hr (.cons (Y4v rfl (by simp) (Y5o rfl (by simp))) (.cons (.str _) (.cons (.int _ _) .nil))) ?_
 simp only [go_sem,Z0u,kill,List.foldl_cons,List.foldl_nil]
 have s1:=rsame (l := [[50]]) (by decide)
 have s2:=rsame (l := [[55,47,52]]) (by decide)
 refine Zrz (ids := [4]) s1 (.cons (.sl _) (.cons (Yxs rfl (by simp)) .nil)) (.inr (.bool _)) (fun b _=>trivial) ?_
 simp only [go_sem]
 refine Zrz (ids := [5]) s2 (.cons (.sl _) (.cons (Yxs rfl (by simp)) .nil)) (.inr (.bool _)) (fun b _=>trivial) ?_
 simp only [go_sem]
end GoAbs
namespace GoAbs
open Go Go.Proofs
set_option maxHeartbeats 4000000
theorem Y5u {g:Gm}(hg:GmP g) (hl:GmL g) {x:GN}(hx:x∈g.nodes) {v:List Rat}{D:Rat}(hv:∀ j,j<g.nodes.length→Zq (rget v j*D)) (hD:Zq D):Zq (worthR x v*(2520*D)):=by
 have hok:=hg.ok.node x hx
 have z2520:Zq 2520:=⟨2520,rfl⟩
 have hmv:∀ t,t<x.to.length→Zq (rget v (x.to.getD t 0)*D):=fun t ht=>hv _ (hok.lt _ (Zbb ht))
 have key:∀ t,t<x.to.length→Zq (rget v (x.to.getD t 0)*(2520*D)):=fun t ht=>by
  rw [show rget v (x.to.getD t 0)*(2520*D)=rget v (x.to.getD t 0)*D*2520 by grind]
  exact (hmv t ht).mul z2520
 unfold worthR
 split
 ·exact key _ (Zcq hok.pos (Nat.le_refl _))
 ·split
  ·exact key _ (Zcq hok.pos (Nat.le_refl _))
  ·rename_i h1 h2
   have h3:x.kind=3:=by have:=hok.kind; omega
   have ho:=(hok.odds h3).1
   have hz:∀ t,t<x.to.length→Zq (rget x.odds t*2520):=fun t ht=>(hl.odds x hx h3 _ (List.mem_of_getElem? (Zah (by omega)))).z.q
   have main:∀ k,k≤x.to.length→Zq (dotW x.odds v x.to k*(2520*D)):=by
    intro k
    induction k with
    | zero=>intro _; exact ⟨0,by show (0:Rat)*_=_; rw [Rat.zero_mul]; rfl⟩
    | succ k ih =>
     intro hk
     show Zq ((dotW x.odds v x.to k+rget x.odds k*rget v (x.to.getD k 0))*(2520*D))
     rw [show (dotW x.odds v x.to k+rget x.odds k*rget v (x.to.getD k 0))*(2520*D)=dotW x.odds v x.to k*(2520*D)+(rget x.odds k*2520)*(rget v (x.to.getD k 0)*D) by grind]
     exact (ih (by omega)).add ((hz k (by omega)).mul (hmv k (by omega)))
   exact main _ (Nat.le_refl _)
theorem Yio {g:Gm}(hg:GmP g) {i:Nat}(hi:i<g.nodes.length) {c:Rat}:worthR (nodeAt g i) (List.replicate g.nodes.length c)=c:=by
 have hx:=Za0 hi
 have hok:=hg.ok.node _ hx
 have hod:=hg.odds _ hx
 unfold worthR
 split
 ·exact Zbi (hok.lt _ (Zbb (Zcq hok.pos (Nat.le_refl _))))
 ·split
  ·exact Zbi (hok.lt _ (Zbb (Zcq hok.pos (Nat.le_refl _))))
  ·rename_i h1 h2
   have h3:(nodeAt g i).kind=3:=by have:=hok.kind; omega
   rw [Z4a (Nat.le_refl _) hok.lt,(hod h3).2]; grind
theorem Yut {g:Gm}(hg:GmP g) (hl:GmL g):∀ k i,i<g.nodes.length→rget (rndR g k) i≤100000 ∧ -100000≤rget (rndR g k) i
 | 0,i,hi=>by
  rw [show rget (rndR g 0) i=0 from Zbi hi]
  constructor <;> decide
 | k+1,i,hi=>by
  have ih:=Yut hg hl k
  have hs:=Yzd hg
  have h9:=frac9 hl.d hg.d1
  have hr:=(hl.rew _ (List.mem_of_getElem? (Zah (r:=g.rew) (j:=i) (by rw [hg.ok.rew]; exact hi)))).abs
  rw [show rget (rndR g (k+1)) i=nextV g (rndR g k) i from Zvj hi]
  have c:∀ x:Rat,nextV g (List.replicate g.nodes.length x) i=rget g.rew i+g.d*x:=fun x=>by
   unfold nextV
   show _+g.d*worthR (nodeAt g i) _=_
   rw [Yio hg hi]
  have a1:=hs.mono (u:=rndR g k) (v:=List.replicate g.nodes.length 100000) (fun j hj=>by rw [Zbi hj]; exact (ih j hj).1) i hi
  have a2:=hs.mono (u:=List.replicate g.nodes.length (-100000)) (v:=rndR g k) (fun j hj=>by rw [Zbi hj]; exact (ih j hj).2) i hi
  rw [c] at a1 a2
  constructor <;> grind
def rD:Nat→Rat
 | 0=>1
 | k+1=>2520*(2520*rD k)
theorem Y4t:∀ k,0<rD k
 | 0=>by decide
 | k+1=>Rat.mul_pos (by decide) (Rat.mul_pos (by decide) (Y4t k))
theorem Y17:∀ k,Zb (1+24*k) (rD k)
 | 0=>⟨1,rfl,by decide⟩
 | k+1=>by
  have h:Zb 12 2520:=⟨2520,rfl,by decide⟩
  exact (h.mul (h.mul (Y17 k))).mono (by omega)
theorem Xc7 {g:Gm}(hg:GmP g) (hl:GmL g):∀ k i,i<g.nodes.length→Zq (rget (rndR g k) i*rD k)
 | 0,i,hi=>⟨0,by rw [show rget (rndR g 0) i=0 from Zbi hi,Rat.zero_mul]; rfl⟩
 | k+1,i,hi=>by
  have ih:=Xc7 hg hl k
  have hw:=Y5u hg hl (Za0 hi) ih (Y17 k).q
  have z2520:Zq 2520:=⟨2520,rfl⟩
  have hr:=(hl.rew _ (List.mem_of_getElem? (Zah (r:=g.rew) (j:=i) (by rw [hg.ok.rew]; exact hi)))).z.q
  rw [show rget (rndR g (k+1)) i=nextV g (rndR g k) i from Zvj hi]
  unfold nextV
  show Zq ((rget g.rew i+g.d*worthR (nodeAt g i) (rndR g k))*(2520*(2520*rD k)))
  rw [show (rget g.rew i+g.d*worthR (nodeAt g i) (rndR g k))*(2520*(2520*rD k))=(rget g.rew i*2520)*(2520*rD k)+(g.d*2520)*(worthR (nodeAt g i) (rndR g k)*(2520*rD k)) by grind]
  exact (hr.mul (z2520.mul (Y17 k).q)).add (hl.d.z.q.mul hw)
theorem Ygr {g:Gm}(hg:GmP g) (hl:GmL g) {k:Nat}(hk:k≤30):Rb 800 (rndR g k):=fun q hq=>by
 obtain ⟨i,hi⟩:=List.getElem?_of_mem hq
 have hlt:=(List.getElem?_eq_some_iff.1 hi).1
 have hq':=Zah hlt
 rw [hi] at hq'
 have hqe:q=rget (rndR g k) i:=by simpa using hq'
 rw [Zkt] at hlt
 have ha:=Yut hg hl k i hlt
 have e17:(2:Rat) ^ 17=131072:=by decide+kernel
 rw [hqe]
 exact (Yu4 (c:=17) (Y4t k) (Y17 k) (Xc7 hg hl k i hlt) (by rw [e17]; grind) (by rw [e17]; grind)).mono (by omega)
end GoAbs
namespace GoAbs
open Go Go.Proofs
set_option maxHeartbeats 4000000
theorem Z44 {H:Heap}{ids:List Nat}{q:Rat}:BVs H ids (rq q) (rq q)=True:=Yko
theorem Xe1 {d:List UInt8}(hd:okB d=true) (hl:d.length≤1000):SpecV Tryz.prog Z8i [.str (bs d)] (.agg (rq ((parseL d).getD 0))):=rof (by omega) (okBq hd)
end GoAbs
namespace GoAbs
open Go Go.Proofs
set_option maxHeartbeats 8000000
theorem txts_len' (M:List (List UInt8)):(txts M).length=M.length:=by simp [txts]
end GoAbs
namespace GoAbs
open Go Go.Proofs
set_option maxHeartbeats 4000000
theorem Yo9 (M:List (List UInt8)):M.map strAV=txts M:=rfl
end GoAbs
namespace GoAbs
open Go Go.Proofs
set_option maxHeartbeats 4000000
end GoAbs
namespace GoAbs
open Go Go.Proofs
set_option exponentiation.threshold 20000
def rho (l lo hi:Nat) (sg:Rat) (s:Nat):Rat:=if s=l then 1 else if lo≤s∧s<hi then sg else 0
end GoAbs
namespace GoAbs
open Go Go.Proofs
end GoAbs
namespace GoAbs
open Go Go.Proofs
set_option exponentiation.threshold 20000
theorem Yh3 {q:Rat}(h:NumOk q):(numS q).length≤1000000000:=by have:=Y04 h; omega
end GoAbs
namespace GoAbs
open Go Go.Proofs
set_option exponentiation.threshold 20000
theorem Yvg {F:List Rat}(hok:∀ q,q∈F→NumOk q):(F.map numS).map toQ=F:=by
 rw [List.map_map]
 conv=>rhs; rw [← List.map_id F]
 exact List.map_congr_left fun q hq=>by
  show toQ (numS q)=q
  unfold toQ; rw [Zvf (hok q hq)]; rfl
end GoAbs
namespace GoAbs
open Go Go.Proofs
set_option maxHeartbeats 4000000
theorem Z4i {g:Gm}(hg:GmP g) (hl:GmL g):Rb 4000 (valG g):=by
 obtain ⟨q,h1,h2⟩:=Z8z hg
 rw [h2]
 exact Yl0 hg hl h1.ok
theorem Yxd (x:List Rat):ss x=txts (x.map numS):=by unfold ss txts; rw [List.map_map]; rfl
end GoAbs
namespace GoAbs
open Go Go.Proofs
set_option maxHeartbeats 8000000
def pk (l:List Int) (i:Nat):Int:=l.getD i 0
def mdMany (mv:List Int) (i:Nat):Nat:=(pk mv (4*i) % 3+1).toNat
def mdW (mv:List Int) (i k:Nat):Int:=IntKind.i64.wrap ((pk mv (4*i+k+1)).tdiv 7) % 3+1
def mdS (mv:List Int) (i:Nat):Nat→Int
 | 0=>0
 | k+1=>mdS mv i k+mdW mv i k
def mdKind (ks:List Int) (i:Nat):Int:=pk ks i % 3+1
def mdRew (rs:List Int) (i:Nat):Rat:=(((pk rs i).tmod 50:Int):Rat)
def mdOdd (mv:List Int) (i k:Nat):Rat:=Rat.divInt (mdW mv i k) (mdS mv i (mdMany mv i))
def mdMv (size:Nat) (kd:Int) (mv:List Int) (i k:Nat):Mv:=(pk mv (4*i+k+1) % (size:Int),if kd=3 then numS (mdOdd mv i k) else [])
def mdN (size:Nat) (ks rs mv:List Int) (i:Nat):Nd:=⟨mdKind ks i,numS (mdRew rs i),(List.range (mdMany mv i)).map (mdMv size (mdKind ks i) mv i)⟩
def mdL (size:Nat) (ks rs mv:List Int):List Nd:=(List.range size).map (mdN size ks rs mv)
def mdD (d:Int):Rat:=Rat.divInt (d % 7) (d % 7+1+d / 7 % 3)
theorem Ztn (mv:List Int) (i:Nat):1≤mdMany mv i∧mdMany mv i≤3:=by
 unfold mdMany
 have h1:=Int.emod_nonneg (pk mv (4*i)) (show (3:Int)≠0 by decide)
 have h2:=Int.emod_lt_of_pos (pk mv (4*i)) (show (0:Int)<3 by decide)
 omega
theorem Yoj (mv:List Int) (i k:Nat):1≤mdW mv i k∧mdW mv i k≤3:=by
 unfold mdW
 have h1:=Int.emod_nonneg (IntKind.i64.wrap ((pk mv (4*i+k+1)).tdiv 7)) (show (3:Int)≠0 by decide)
 have h2:=Int.emod_lt_of_pos (IntKind.i64.wrap ((pk mv (4*i+k+1)).tdiv 7)) (show (0:Int)<3 by decide)
 omega
theorem Yyl (mv:List Int) (i:Nat):∀ k:Nat,(k:Int)≤mdS mv i k∧mdS mv i k≤3*k
 | 0=>by unfold mdS; omega
 | k+1=>by
  have h1:=Yyl mv i k
  have h2:=Yoj mv i k
  unfold mdS
  omega
theorem Ym3 (mv:List Int) (i:Nat):1≤mdS mv i (mdMany mv i)∧mdS mv i (mdMany mv i)≤9:=by
 have h1:=Ztn mv i
 have h2:=Yyl mv i (mdMany mv i)
 omega
theorem Yij (ks:List Int) (i:Nat):mdKind ks i=1∨mdKind ks i=2∨mdKind ks i=3:=by
 unfold mdKind
 have h1:=Int.emod_nonneg (pk ks i) (show (3:Int)≠0 by decide)
 have h2:=Int.emod_lt_of_pos (pk ks i) (show (0:Int)<3 by decide)
 omega
theorem Ypm (rs:List Int) (i:Nat):(mdRew rs i).den=1∧(mdRew rs i).num=(pk rs i).tmod 50∧(mdRew rs i).num.natAbs<50:=by
 have h1:=(Yag (v:=pk rs i) (n:=50) (by decide)).1
 have h2:=(Yag (v:=pk rs i) (n:=50) (by decide)).2.1
 unfold mdRew
 refine ⟨rfl,rfl,?_⟩
 show ((pk rs i).tmod 50).natAbs<50
 omega
theorem Yhf (mv:List Int) (i k:Nat):(mdOdd mv i k).den≤9∧(mdOdd mv i k).num.natAbs≤3∧0<mdOdd mv i k:=by
 have h1:=Yoj mv i k
 have h2:=Ym3 mv i
 unfold mdOdd
 obtain ⟨n1,n2⟩:=Zdi (n:=mdW mv i k) (d:=mdS mv i (mdMany mv i)) (by omega)
 refine ⟨by omega,by omega,?_⟩
 rw [Rat.divInt_eq_div,Rat.div_def]
 have a1:(0:Rat)<((mdW mv i k:Int):Rat):=by exact_mod_cast (show (0:Int)<mdW mv i k by omega)
 have a2:(0:Rat)<((mdS mv i (mdMany mv i):Int):Rat):=by exact_mod_cast (show (0:Int)<mdS mv i (mdMany mv i) by omega)
 exact Rat.mul_pos a1 (Rat.inv_pos.2 a2)
theorem qb20 {q:Rat}(h:q.num.natAbs<1048576∧q.den<1048576):Qb 20 q:=⟨h.1,h.2⟩
theorem lpick {p:List Int}{i:Nat}:SpecV Tryz.prog Ytu [.sl (ivs p),.int .i64 (i:Int)] (.int .i64 (pk p i)):=by
 refine Zae Ylx (by simp) ?_
 unfold Yj3
 by_cases hi:i<p.length
 ·have q0:(0:Int)≤(i:Int):=by omega
  have q1:(i:Int)<(p.length:Int):=by omega
  have hg:(ivs p)[i]? = some (.int .i64 (pk p i)):=Z9h (by unfold pk; rw [List.getD_eq_getElem?_getD,List.getElem?_eq_getElem hi]; rfl)
  simp only [go_sem,Zsl,Zu7,Z5t,Zbr,q0,q1,hg]
 ·have q1:¬ (i:Int)<(p.length:Int):=by omega
  have hg:pk p i=0:=by unfold pk; rw [List.getD_eq_getElem?_getD,List.getElem?_eq_none (by omega)]; rfl
  rw [hg]
  simp only [go_sem,Zsl,Zu7,Z62,Zbr,q1]
theorem lfold1 {v n:Int}(hn:0<n) (hnl:n≤1000000):SpecV Tryz.prog Ynr [.int .i64 v,.int .i64 n] (.int .i64 (v % n)):=by
 obtain ⟨h1,h2,h3⟩:=Yag (v:=v) hn
 have hn0:n≠0:=by omega
 have e1:IntKind.i64.wrap (v.tmod n+n)=v.tmod n+n:=Zac (by omega) (by omega)
 refine Zae Yit (by simp) ?_
 unfold Yd2
 simp only [go_sem,Z0k,Z2g,hn0,e1,h3]
theorem lnumq {q:Rat}{k:Nat}(hb:Qb k q) (hk:k≤10000000) (hok:NumOk q):SpecV Tryz.prog Yjd [.agg (rq q)] (.str (bs (numS q))):=by
 have h:=rnum hb.ib.1 hb.ib.2 (by have:=q.den_pos; omega) hk (Rat.num_divInt_den q)
 rw [if_pos hok] at h
 have h':SpecV Tryz.prog Ycd [.agg (rq q)] (.tup [.str (bs (numS q)),.bool true]):=h
 have rl:∀ q:Rat,(rq q).length=4:=fun q=>rfl
 refine Zae Yd3 (by simp) ?_
 unfold Ygg
 simp only [go_sem,Zzh,Zyf,rl,Ye5,Yhi]
 refine Zaa h' (by simp only [go_sem,Z44]) ?_
 simp only [go_sem,Zyu]
theorem Y9w {P:List AV}{B1:Blk}{ks rs mv:List Int}{d size:Int}{i:Nat}(hi:i≤10) (hP:∀ f,gcL f P=P) (hB:∀ f,B1.gc f=B1) {K:Ex→St→Prop}
  (hK:∀ e:Nat→AV,Has e [(1,.sl (ivs ks)),(2,.sl (ivs rs)),(3,.sl (ivs mv)),(4,.int .u8 d),(12,.osl (some 3) 0 0 i),(13,.int .i64 size),(14,.int .i64 (i:Int)),(15,.ptr 1 0),(16,.int .i64 (mdMany mv i:Int)),(17,.osl none 2 0 (mdMany mv i)),(18,.int .i64 (mdS mv i (mdMany mv i)))] →
   K (.exit 2) ⟨e,[.cells P,B1,.cells (ivs ((List.range (mdMany mv i)).map (mdW mv i)))]⟩) :
  T Tryz.prog 125 0 (.loop Zst) ⟨envL [(1,.sl (ivs ks)),(2,.sl (ivs rs)),(3,.sl (ivs mv)),(4,.int .u8 d),(12,.osl (some 3) 0 0 i),(13,.int .i64 size),(14,.int .i64 (i:Int)),(15,.ptr 1 0),(16,.int .i64 (mdMany mv i:Int)),(17,.osl none 2 0 0),(18,.int .i64 0),(19,.int .i64 0)],[.cells P,B1,.cells []]⟩ K:=by
 have hmx:Tryz.prog.follows .mixedOrders=true:=by kernel_rfl
 have hm:=Ztn mv i
 obtain ⟨n,hn⟩:∃ n,n=mdMany mv i:=⟨_,rfl⟩
 rw [← hn] at hK hm ⊢
 refine Zaf (fun k:Nat=>⟨envL [(1,.sl (ivs ks)),(2,.sl (ivs rs)),(3,.sl (ivs mv)),(4,.int .u8 d),(12,.osl (some 3) 0 0 i),(13,.int .i64 size),(14,.int .i64 (i:Int)),(15,.ptr 1 0),(16,.int .i64 (n:Int)),(17,.osl none 2 0 k),(18,.int .i64 (mdS mv i k)),(19,.int .i64 (k:Int))],[.cells P,B1,.cells (ivs ((List.range k).map (mdW mv i)))]⟩)
  (fun k=>k≤n) (fun k=>n - k) 0 (by omega) (Zab _ (by simp only [go_sem,mdS]; simp)) (fun k hk N hN=>?_)
 unfold Zst
 by_cases hkn:k<n
 ·have hpk:=lpick (p:=mv) (i:=4*i+k+1)
  have hfo:=lfold1 (v:=IntKind.i64.wrap ((pk mv (4*i+k+1)).tdiv 7)) (n:=3) (by decide) (by decide)
  have hwl:=Yoj mv i k
  have hsl:=Yyl mv i k
  have hwd:IntKind.i64.wrap ((pk mv (4*i+k+1)).tdiv 7) % 3=mdW mv i k - 1:=by unfold mdW; omega
  rw [hwd] at hfo
  have hs:mdS mv i (k+1)=mdS mv i k+mdW mv i k:=rfl
  have tk:ivs ((List.range (k+1)).map (mdW mv i))=ivs ((List.range k).map (mdW mv i)) ++ [.int .i64 (mdW mv i k)]:=by rw [List.range_succ]; simp [ivs]
  have l1:(ivs ((List.range k).map (mdW mv i))).length=k:=by rw [Zbr]; simp
  have l2:(ivs ((List.range k).map (mdW mv i))).take k=ivs ((List.range k).map (mdW mv i)):=List.take_of_length_le (by omega)
  have hg:=fun f=>Yya (f:=f) (p:=(List.range k).map (mdW mv i))
  generalize ivs ((List.range k).map (mdW mv i))=W at *
  have q1:(k:Int)<(n:Int):=by omega
  have s1:(k+1)*8≤1099511627776:=by omega
  have x1:IntKind.i64.wrap (4*(i:Int))=4*(i:Int):=Zac (by omega) (by omega)
  have x2:IntKind.i64.wrap (4*(i:Int)+(k:Int))=4*(i:Int)+(k:Int):=Zac (by omega) (by omega)
  have x3:IntKind.i64.wrap (4*(i:Int)+(k:Int)+1)=((4*i+k+1:Nat):Int):=by rw [Zac (by omega) (by omega)]; omega
  have x4:IntKind.i64.wrap (mdW mv i k - 1+1)=mdW mv i k:=by rw [Zac (by omega) (by omega)]; omega
  have x5:IntKind.i64.wrap (mdS mv i k+mdW mv i k)=mdS mv i k+mdW mv i k:=Zac (by omega) (by omega)
  have c7:¬ (7:Int)=0:=by decide
  have e1:IntKind.i64.wrap ((k:Int)+1)=((k+1:Nat):Int):=by rw [Zac (by omega) (by omega)]; omega
  simp only [go_sem,Zol,Z2a,q1,x1,x2,x3]
  refine Zaa hpk (by simp only [go_sem]) ?_
  simp only [go_sem,c7]
  refine Zaa hfo (by simp only [go_sem]) ?_
  simp only [go_sem,x4,x5,Z09,s1,l1,l2,Nat.mul_one,Nat.le_refl,Z1h,e1,List.cons_append,List.nil_append]
  refine hN (k+1) _ (by omega) (by omega) (Zcc (Zhq [0,1,4] (by decide) (fun i hi=>by omega) [(1,.sl (ivs ks)),(2,.sl (ivs rs)),(3,.sl (ivs mv)),(4,.int .u8 d),(12,.osl (some 3) 0 0 i),(13,.int .i64 size),(14,.int .i64 (i:Int)),(15,.ptr 1 0),(16,.int .i64 (n:Int)),(17,.osl none 4 0 (k+1)),(18,.int .i64 (mdS mv i k+mdW mv i k)),(19,.int .i64 ((k+1:Nat):Int))] (by simp only [go_sem])) ?_)
  show St.mk _ [Blk.cells (gcL _ P),B1.gc _,Blk.cells (gcL _ (W ++ [AV.int .i64 (mdW mv i k)]))]=_
  rw [Zws,hg,hP,hB,hs,tk]
  rfl
 ·have hke:k=n:=by omega
  subst hke
  have q1:¬ ((k:Nat):Int)<(k:Int):=by omega
  simp only [go_sem,Zol,q1]
  exact hK _ (by simp only [go_sem])
theorem Y9u {P:List AV}{ks rs mv:List Int}{d kd:Int}{size:Nat}{i:Nat}{s:ByteArray}(hi:i≤10) (hsz:1≤size∧size≤10) (hP:∀ f,gcL f P=P) (hkd:kd=1∨kd=2∨kd=3) {K:Ex→St→Prop}
  (hK:∀ e:Nat→AV,Has e [(1,.sl (ivs ks)),(2,.sl (ivs rs)),(3,.sl (ivs mv)),(4,.int .u8 d),(12,.osl (some 3) 0 0 i),(13,.int .i64 (size:Int)),(14,.int .i64 (i:Int)),(15,.ptr 1 0)] →
   K (.exit 4) ⟨e,[.cells P,.cells [.int .i64 kd,.str s,.osl (some 2) 3 0 (mdMany mv i)],.cells (ivs ((List.range (mdMany mv i)).map (mdW mv i))),.cells (((List.range (mdMany mv i)).map (mdMv size kd mv i)).flatMap mvC)]⟩) :
  T Tryz.prog 125 0 (.loop Zkb) ⟨envL [(1,.sl (ivs ks)),(2,.sl (ivs rs)),(3,.sl (ivs mv)),(4,.int .u8 d),(12,.osl (some 3) 0 0 i),(13,.int .i64 (size:Int)),(14,.int .i64 (i:Int)),(15,.ptr 1 0),(16,.int .i64 (mdMany mv i:Int)),(17,.osl none 2 0 (mdMany mv i)),(18,.int .i64 (mdS mv i (mdMany mv i))),(21,.int .i64 0)],
   [.cells P,.cells [.int .i64 kd,.str s,.osl (some 2) 3 0 0],.cells (ivs ((List.range (mdMany mv i)).map (mdW mv i))),.cells []]⟩ K:=by
 have hmx:Tryz.prog.follows .mixedOrders=true:=by kernel_rfl
 have hm:=Ztn mv i
 have hsp:=Ym3 mv i
 have hod:∀ k,mdOdd mv i k=Rat.divInt (mdW mv i k) (mdS mv i (mdMany mv i)):=fun k=>rfl
 have hodl:=Yhf mv i
 obtain ⟨sm,hsm⟩:∃ sm,sm=mdS mv i (mdMany mv i):=⟨_,rfl⟩
 rw [← hsm] at hod hsp ⊢
 obtain ⟨n,hn⟩:∃ n,n=mdMany mv i:=⟨_,rfl⟩
 rw [← hn] at hK hm ⊢
 have hwl:(ivs ((List.range n).map (mdW mv i))).length=n:=by rw [Zbr]; simp
 have hwg:∀ k,k<n→(ivs ((List.range n).map (mdW mv i)))[k]? = some (.int .i64 (mdW mv i k)):=fun k hk=>Z9h (by rw [List.getElem?_map,List.getElem?_range hk]; rfl)
 have hWgc:=fun f=>Yya (f:=f) (p:=(List.range n).map (mdW mv i))
 generalize ivs ((List.range n).map (mdW mv i))=W at *
 refine Zaf (fun k:Nat=>⟨envL [(1,.sl (ivs ks)),(2,.sl (ivs rs)),(3,.sl (ivs mv)),(4,.int .u8 d),(12,.osl (some 3) 0 0 i),(13,.int .i64 (size:Int)),(14,.int .i64 (i:Int)),(15,.ptr 1 0),(16,.int .i64 (n:Int)),(17,.osl none 2 0 n),(18,.int .i64 sm),(21,.int .i64 (k:Int))],
   [.cells P,.cells [.int .i64 kd,.str s,.osl (some 2) 3 0 k],.cells W,.cells (((List.range k).map (mdMv size kd mv i)).flatMap mvC)]⟩)
  (fun k=>k≤n) (fun k=>n - k) 0 (by omega) (Zab _ (by simp only [go_sem]; simp)) (fun k hk N hN=>?_)
 unfold Zkb
 by_cases hkn:k<n
 ·have hpk:=lpick (p:=mv) (i:=4*i+k+1)
  have hfo:=lfold1 (v:=pk mv (4*i+k+1)) (n:=(size:Int)) (by omega) (by omega)
  have htk:((List.range (k+1)).map (mdMv size kd mv i)).flatMap mvC=((List.range k).map (mdMv size kd mv i)).flatMap mvC ++ [.int .i64 (pk mv (4*i+k+1) % (size:Int)),.str (bs (if kd=3 then numS (mdOdd mv i k) else []))]:=by
   rw [List.range_succ,List.map_append,List.flatMap_append]; rfl
  have hPl:(((List.range k).map (mdMv size kd mv i)).flatMap mvC).length=k*2:=by rw [Y7z]; simp
  have hPg:=fun f=>Y4u (M:=(List.range k).map (mdMv size kd mv i)) f
  generalize ((List.range k).map (mdMv size kd mv i)).flatMap mvC=Q at *
  have hwk:=Yoj mv i k
  have hgw:(W.drop k)[0]? = some (.int .i64 (mdW mv i k)):=by rw [List.getElem?_drop,Nat.add_zero]; exact hwg k hkn
  have q0:(0:Int)≤(k:Int):=by omega
  have q1:(k:Int)<(n:Int):=by omega
  have s1:(k+1)*24≤1099511627776:=by omega
  have s2:k*2≤Q.length:=by omega
  have tQ:Q.take (k*2)=Q:=List.take_of_length_le (by omega)
  have x1:IntKind.i64.wrap (4*(i:Int))=4*(i:Int):=Zac (by omega) (by omega)
  have x2:IntKind.i64.wrap (4*(i:Int)+(k:Int))=4*(i:Int)+(k:Int):=Zac (by omega) (by omega)
  have x3:IntKind.i64.wrap (4*(i:Int)+(k:Int)+1)=((4*i+k+1:Nat):Int):=by rw [Zac (by omega) (by omega)]; omega
  have e1:IntKind.i64.wrap ((k:Int)+1)=((k+1:Nat):Int):=by rw [Zac (by omega) (by omega)]; omega
  have fin:∀ (e:Nat→AV) (kd':Int) (l:List UInt8) (B4 B5:Blk),kd'=kd→l=(if kd=3 then numS (mdOdd mv i k) else [])→Has e [(1,.sl (ivs ks)),(2,.sl (ivs rs)),(3,.sl (ivs mv)),(4,.int .u8 d),(12,.osl (some 3) 0 0 i),(13,.int .i64 (size:Int)),(14,.int .i64 (i:Int)),(15,.ptr 1 0),(16,.int .i64 (n:Int)),(17,.osl none 2 0 n),(18,.int .i64 sm),(21,.int .i64 ((k+1:Nat):Int))] →
    N ⟨e,[.cells P,.cells [.int .i64 kd',.str s,.osl (some 2) 6 0 (k+1)],.cells W,.dead,B4,B5,.cells (Q ++ [.int .i64 (pk mv (4*i+k+1) % (size:Int)),.str (bs l)])]⟩:=fun e kd' l B4 B5 hkd' hl he=>by
   subst hkd' hl
   refine hN (k+1) _ (by omega) (by omega) (Zcc (Zhq [0,1,2,6] (by decide) (fun i hi=>by omega) _ he) ?_)
   rw [← htk]
   show St.mk _ [Blk.cells (gcL _ P),_,Blk.cells (gcL _ W),Blk.cells (gcL _ (((List.range (k+1)).map (mdMv size kd' mv i)).flatMap mvC))]=_
   rw [Y4u,hP,hWgc]
   rfl
  by_cases k3:kd=3
  ·have hob:=hodl k
   have hmk:=rmake (n:=mdW mv i k) (d:=sm) (by omega) (by omega) (by omega)
   have hmk':SpecV Tryz.prog Z3x [.int .i64 (mdW mv i k),.int .i64 sm] (.agg (rq (mdOdd mv i k))):=by rw [hod]; exact hmk
   have hqb:Qb 20 (mdOdd mv i k):=qb20 (by omega)
   have hnm:=lnumq hqb (by omega) (Zii hqb (by omega))
   simp only [go_sem,Zh5,Zpe,q1,x1,x2,x3]
   refine Zaa hpk (by simp only [go_sem]) ?_
   simp only [go_sem]
   refine Zaa hfo (by simp only [go_sem]) ?_
   simp only [go_sem,Znn,Z22,k3,q0,q1,hwl,hgw,List.cons_append,List.nil_append]
   refine Zaa hmk' (by simp only [go_sem]) ?_
   simp only [go_sem]
   refine Zaa hnm (by simp only [go_sem,Z44]) ?_
   simp only [go_sem,Zm9,Zop,s1,s2,tQ,e1,List.cons_append,List.nil_append]
   exact fin _ _ _ _ _ k3.symm (by rw [if_pos k3]) (by simp only [go_sem])
  ·simp only [go_sem,Zh5,Zpe,q1,x1,x2,x3]
   refine Zaa hpk (by simp only [go_sem]) ?_
   simp only [go_sem]
   refine Zaa hfo (by simp only [go_sem]) ?_
   simp only [go_sem,Znn,k3,Zm9,Zop,s1,s2,tQ,e1,List.cons_append,List.nil_append]
   exact fin _ _ [] _ _ rfl (by rw [if_neg k3]) (by simp only [go_sem])
 ·have hke:k=n:=by omega
  subst hke
  have q1:¬ ((k:Nat):Int)<(k:Int):=by omega
  simp only [go_sem,Zh5,q1]
  exact hK _ (by simp only [go_sem])
theorem Y46 {d:Int}(hd:0≤d∧d≤255):(mdD d).den≤9∧(mdD d).num.natAbs≤6:=by
 unfold mdD
 obtain ⟨n1,n2⟩:=Zdi (n:=d % 7) (d:=d % 7+1+d / 7 % 3) (by omega)
 omega
theorem Y9b {ks rs mv:List Int}{d:Int}{size:Nat}(hsz:1≤size∧size≤5) {K:Ex→St→Prop}
  (hK:∀ e:Nat→AV,e 4 = .int .u8 d→e 12 = .osl (some 3) 0 0 size→K (.exit 0) ⟨e,[.cells ((mdL size ks rs mv).flatMap ndC)]⟩) :
  T Tryz.prog 125 0 (.loop Zr8) ⟨envL [(1,.sl (ivs ks)),(2,.sl (ivs rs)),(3,.sl (ivs mv)),(4,.int .u8 d),(12,.osl (some 3) 0 0 0),(13,.int .i64 (size:Int)),(14,.int .i64 0)],[.cells []]⟩ K:=by
 have hmx:Tryz.prog.follows .mixedOrders=true:=by kernel_rfl
 refine Zs2 (fun i:Nat=>⟨envL [(1,.sl (ivs ks)),(2,.sl (ivs rs)),(3,.sl (ivs mv)),(4,.int .u8 d),(12,.osl (some 3) 0 0 i),(13,.int .i64 (size:Int)),(14,.int .i64 (i:Int))],[.cells (((List.range i).map (mdN size ks rs mv)).flatMap ndC)]⟩)
  (fun i=>i≤size) (fun i=>size - i) 0 (by omega) (Zab _ (by simp only [go_sem]; simp)) (fun i hi N hN=>?_)
 unfold Zr8
 by_cases hin:i<size
 ·have hpk:=lpick (p:=ks) (i:=i)
  have hfo:=lfold1 (v:=pk ks i) (n:=3) (by decide) (by decide)
  have hpr:=lpick (p:=rs) (i:=i)
  have hpm:=lpick (p:=mv) (i:=4*i)
  have hfm:=lfold1 (v:=pk mv (4*i)) (n:=3) (by decide) (by decide)
  have hkd:=Yij ks i
  have hkd':pk ks i % 3=mdKind ks i - 1:=by unfold mdKind; omega
  rw [hkd'] at hfo
  have hmn:=Ztn mv i
  have hmn':pk mv (4*i) % 3=(mdMany mv i:Int) - 1:=by
   unfold mdMany at hmn ⊢
   omega
  rw [hmn'] at hfm
  obtain ⟨r1,r2,r3⟩:=Ypm rs i
  have hrq:Qb 20 (mdRew rs i):=qb20 ⟨by omega,by omega⟩
  have hwh:SpecV Tryz.prog Zzq [.int .i64 ((pk rs i).tmod 50)] (.agg (rq (mdRew rs i))):=by
   have h:=rwhole (v:=(pk rs i).tmod 50) (by omega)
   have e:avR ((pk rs i).tmod 50) 1 = .agg (rq (mdRew rs i)):=by unfold rq; rw [r2,r1]; rfl
   rw [e] at h
   exact h
  have hnm:=lnumq hrq (by omega) (Zii hrq (by omega))
  have htk:((List.range (i+1)).map (mdN size ks rs mv)).flatMap ndC=((List.range i).map (mdN size ks rs mv)).flatMap ndC++ndC (mdN size ks rs mv i):=by rw [List.range_succ,List.map_append,List.flatMap_append]; simp
  have hPl:(((List.range i).map (mdN size ks rs mv)).flatMap ndC).length=i*3:=by rw [Yzq]; simp
  have hPg:=fun f=>Y4s (M:=(List.range i).map (mdN size ks rs mv)) f
  generalize ((List.range i).map (mdN size ks rs mv)).flatMap ndC=P at *
  have c50:¬ (50:Int)=0:=by decide
  have q1:(i:Int)<(size:Int):=by omega
  have s1:(i+1)*48≤1099511627776:=by omega
  have s2:i*3≤P.length:=by omega
  have tP:P.take (i*3)=P:=List.take_of_length_le (by omega)
  have x1:IntKind.i64.wrap (4*(i:Int))=((4*i:Nat):Int):=by rw [Zac (by omega) (by omega)]; omega
  have x2:IntKind.i64.wrap (mdKind ks i - 1+1)=mdKind ks i:=by rw [Zac (by omega) (by omega)]; omega
  have x3:IntKind.i64.wrap ((mdMany mv i:Int) - 1+1)=(mdMany mv i:Int):=by rw [Zac (by omega) (by omega)]; omega
  have e1:IntKind.i64.wrap ((i:Int)+1)=((i+1:Nat):Int):=by rw [Zac (by omega) (by omega)]; omega
  refine Zbk 0 rfl ?_
  simp only [go_sem,Zrs,q1]
  refine Zba (Za8 (Zbk 2 rfl ?_))
  simp only [go_sem,Z6p]
  refine Zaa hpk (by simp only [go_sem]) ?_
  simp only [go_sem]
  refine Zaa hfo (by simp only [go_sem]) ?_
  simp only [go_sem,x2]
  refine Zaa hpr (by simp only [go_sem]) ?_
  simp only [go_sem,c50]
  refine Zaa hwh (by simp only [go_sem]) ?_
  simp only [go_sem]
  refine Zaa hnm (by simp only [go_sem,Z44]) ?_
  simp only [go_sem,Z7h,x1,List.cons_append,List.nil_append]
  refine Zaa hpm (by simp only [go_sem]) ?_
  simp only [go_sem]
  refine Zaa hfm (by simp only [go_sem]) ?_
  simp only [go_sem,x3,Z6z]
  refine T_le (Zio 17 none (by simp only [go_sem]) [(1,.sl (ivs ks)),(2,.sl (ivs rs)),(3,.sl (ivs mv)),(4,.int .u8 d),(12,.osl (some 3) 0 0 i),(13,.int .i64 (size:Int)),(14,.int .i64 (i:Int)),(15,.ptr 1 0),(16,.int .i64 (mdMany mv i:Int)),(18,.int .i64 0)] (by simp only [go_sem])) ?_
  refine Zba (Zba (T_W ?_))
  simp only [go_sem,Z65,List.cons_append,List.nil_append,List.length_cons,List.length_nil]
  refine Za8 (Zau [(1,.sl (ivs ks)),(2,.sl (ivs rs)),(3,.sl (ivs mv)),(4,.int .u8 d),(12,.osl (some 3) 0 0 i),(13,.int .i64 (size:Int)),(14,.int .i64 (i:Int)),(15,.ptr 1 0),(16,.int .i64 (mdMany mv i:Int)),(17,.osl none 2 0 0),(18,.int .i64 0),(19,.int .i64 0)] (by simp only [go_sem]) (Y9w (by omega) hPg (fun f=>rfl) (fun e he=>?_)))
  show T Tryz.prog 125 0 (.seq (.seq (.rg false Zoj) (.block 4 (.loop Zkb))) (.rg false Zfj)) _ _
  refine T_le (Znu (Zab _ he) (Znu Yhw (Zcc (Z8g (b:=1) (l := [.int .i64 (mdKind ks i),.str (bs (numS (mdRew rs i))),.nils]) (l' := [.int .i64 (mdKind ks i),.str (bs (numS (mdRew rs i))),.osl (some 2) 3 0 0]) rfl rfl (fun j x y hx hy=>?_)) rfl))) ?_
  ·match j with
   | 0=>simp at hx hy; subst hx hy; exact .inl rfl
   | 1=>simp at hx hy; subst hx hy; exact .inl rfl
   | 2=>simp at hx hy; subst hx hy; exact .inr ⟨rfl,_,_,_,rfl⟩
   | j+3=>simp at hx
  refine Zba (Zba (T_W ?_))
  simp only [go_sem,Zoj]
  refine Za8 (Zau [(1,.sl (ivs ks)),(2,.sl (ivs rs)),(3,.sl (ivs mv)),(4,.int .u8 d),(12,.osl (some 3) 0 0 i),(13,.int .i64 (size:Int)),(14,.int .i64 (i:Int)),(15,.ptr 1 0),(16,.int .i64 (mdMany mv i:Int)),(17,.osl none 2 0 (mdMany mv i)),(18,.int .i64 (mdS mv i (mdMany mv i))),(21,.int .i64 0)] (by simp only [go_sem]) (Y9u (by omega) (by omega) hPg hkd (fun e he=>?_)))
  show T Tryz.prog 125 0 (.rg false Zfj) _ _
  have hnd:ndC (mdN size ks rs mv i) = [.int .i64 (mdKind ks i),.str (bs (numS (mdRew rs i))),.sl (((List.range (mdMany mv i)).map (mdMv size (mdKind ks i) mv i)).map mvAV)]:=rfl
  refine T_le (Yu8 (b:=1) (ids := [3]) (l := [.int .i64 (mdKind ks i),.str (bs (numS (mdRew rs i))),.osl (some 2) 3 0 (mdMany mv i)]) (l':=ndC (mdN size ks rs mv i)) rfl (by decide) rfl (fun j x y hx hy=>?_) [(1,.sl (ivs ks)),(2,.sl (ivs rs)),(3,.sl (ivs mv)),(4,.int .u8 d),(12,.osl (some 3) 0 0 i),(13,.int .i64 (size:Int)),(14,.int .i64 (i:Int)),(15,.ptr 1 0)] (Yna he)) ?_
  ·rw [hnd] at hy
   match j with
   | 0=>simp at hx hy; subst hx hy; exact .inr rfl
   | 1=>simp at hx hy; subst hx hy; exact .inr rfl
   | 2 =>
    simp only [List.getElem?_cons_succ,List.getElem?_cons_zero,Option.some.injEq] at hx hy
    subst hx hy
    have hbv:=Xbu (H := [Blk.cells P,.cells [.int .i64 (mdKind ks i),.str (bs (numS (mdRew rs i))),.osl (some 2) 3 0 (mdMany mv i)],.cells (ivs ((List.range (mdMany mv i)).map (mdW mv i))),.cells (((List.range (mdMany mv i)).map (mdMv size (mdKind ks i) mv i)).flatMap mvC)]) (ids := [3]) (b:=3) (M:=(List.range (mdMany mv i)).map (mdMv size (mdKind ks i) mv i)) rfl (by simp)
    rw [List.length_map,List.length_range] at hbv
    exact .inl hbv
   | j+3=>simp at hx
  show T Tryz.prog 125 0 (.rg false Zfj) ⟨_,[.cells P,.cells (ndC (mdN size ks rs mv i)),.cells (ivs ((List.range (mdMany mv i)).map (mdW mv i))),.dead]⟩ _
  have n3:(ndC (mdN size ks rs mv i)).length=3:=rfl
  have n3':(ndC (mdN size ks rs mv i)).take 3=ndC (mdN size ks rs mv i):=rfl
  have n3d:(ndC (mdN size ks rs mv i)).drop 3 = []:=rfl
  have hng:∀ f,gcL f (ndC (mdN size ks rs mv i))=ndC (mdN size ks rs mv i):=fun f=>rfl
  generalize ndC (mdN size ks rs mv i)=nd at *
  refine T_W ?_
  simp only [go_sem,Zfj,n3,n3',n3d,s1,s2,tP,Nat.le_refl,List.cons_append,List.nil_append]
  refine T_W ?_
  simp only [go_sem,Zz6,e1]
  refine hN (i+1) _ (by omega) (by omega) (Zcc (Zhq [5] (by decide) (fun i hi=>by omega) [(1,.sl (ivs ks)),(2,.sl (ivs rs)),(3,.sl (ivs mv)),(4,.int .u8 d),(12,.osl (some 3) 5 0 (i+1)),(13,.int .i64 (size:Int)),(14,.int .i64 ((i+1:Nat):Int))] (by simp only [go_sem])) ?_)
  show St.mk _ [Blk.cells (gcL _ (P++nd))]=_
  rw [Zws,hPg,hng, ← htk]
  rfl
 ·have hie:i=size:=by omega
  subst hie
  have q1:¬ ((i:Nat):Int)<(i:Int):=by omega
  refine T_W ?_
  simp only [go_sem,Zrs,q1]
  exact hK _ (by simp only [go_sem]) (by simp only [go_sem])
theorem lmade {n d:Int}{ks rs mv:List Int}(hn:0≤n∧n≤255) (hd:0≤d∧d≤255):SpecV Tryz.prog Yrd [.int .u8 n,.sl (ivs ks),.sl (ivs rs),.sl (ivs mv),.int .u8 d] (.tup [.sl ((mdL (n % 5+1).toNat ks rs mv).map ndAV),.str (bs (numS (mdD d)))]):=by
 obtain ⟨size,hsz⟩:∃ size,size=(n % 5+1).toNat:=⟨_,rfl⟩
 rw [← hsz]
 have hs5:1≤size∧size≤5:=by omega
 have c5:¬ (5:Int)=0:=by decide
 have c7:¬ (7:Int)=0:=by decide
 have c3:¬ (3:Int)=0:=by decide
 have w1:IntKind.i64.wrap n=n:=Zac (by omega) (by omega)
 have w2:IntKind.i64.wrap d=d:=Zac (by omega) (by omega)
 have t5:n.tmod 5=n % 5:=Int.tmod_eq_emod_of_nonneg hn.1
 have t7:d.tmod 7=d % 7:=Int.tmod_eq_emod_of_nonneg hd.1
 have d7:d.tdiv 7=d / 7:=Int.tdiv_eq_ediv_of_nonneg hd.1
 have t3:(d / 7).tmod 3=d / 7 % 3:=Int.tmod_eq_emod_of_nonneg (by omega)
 have x1:IntKind.i64.wrap (n % 5+1)=(size:Int):=by rw [Zac (by omega) (by omega)]; omega
 have x2:IntKind.i64.wrap (d % 7+1)=d % 7+1:=Zac (by omega) (by omega)
 have x3:IntKind.i64.wrap (d / 7)=d / 7:=Zac (by omega) (by omega)
 have x4:IntKind.i64.wrap (d % 7+1+d / 7 % 3)=d % 7+1+d / 7 % 3:=Zac (by omega) (by omega)
 have hmk:=rmake (n:=d % 7) (d:=d % 7+1+d / 7 % 3) (by omega) (by omega) (by omega)
 have hmk':SpecV Tryz.prog Z3x [.int .i64 (d % 7),.int .i64 (d % 7+1+d / 7 % 3)] (.agg (rq (mdD d))):=hmk
 have hdl:=Y46 hd
 have hqb:Qb 20 (mdD d):=qb20 (by omega)
 have hnm:=lnumq hqb (by omega) (Zii hqb (by omega))
 have hll:(mdL size ks rs mv).length=size:=by unfold mdL; rw [List.length_map,List.length_range]
 refine Za6 Ynd (by simp) (Zbk 2 rfl ?_)
 unfold Yj8
 simp only [go_sem,Z5r,Z5e,Z6t,w1,c5,t5,x1]
 refine T_le (Zio 12 (some 3) (by simp only [go_sem]) [(1,.sl (ivs ks)),(2,.sl (ivs rs)),(3,.sl (ivs mv)),(4,.int .u8 d),(13,.int .i64 (size:Int))] (by simp only [go_sem])) ?_
 refine Zba (Zba (T_W ?_))
 simp only [go_sem,Z7e]
 refine Za8 (Zau [(1,.sl (ivs ks)),(2,.sl (ivs rs)),(3,.sl (ivs mv)),(4,.int .u8 d),(12,.osl (some 3) 0 0 0),(13,.int .i64 (size:Int)),(14,.int .i64 0)] (by simp only [go_sem]) (Y9b hs5 (fun e k4 k12=>?_)))
 show T Tryz.prog 125 0 (.seq (.rg false Zpg) .ret) _ _
 refine T_W ?_
 simp only [go_sem,Zpg,k4,k12,w2,c7,t7,d7,t3,c3,x2,x3,x4]
 refine Zaa hmk' (by simp only [go_sem]) ?_
 simp only [go_sem]
 refine Zaa hnm (by simp only [go_sem,Z44]) ?_
 simp only [go_sem,k12]
 have hbn:=Y4z (H := [Blk.cells ((mdL size ks rs mv).flatMap ndC)]) (ids := [0]) (b:=0) (M:=mdL size ks rs mv) rfl (by simp)
 rw [hll] at hbn
 exact hbn
end GoAbs
namespace GoAbs
open Go Go.Proofs
set_option maxHeartbeats 4000000
def Fr (k:Nat) (q:Rat) (A:List AV):Prop:=∃ n d:Int,A=rc n d∧0<d∧Ib k n∧Ib k d∧q=Rat.divInt n d
theorem Z4o {n d:Int}(h:0<d):Rat.divInt n d*((d:Int):Rat)=((n:Int):Rat):=by
 have hd:((d:Int):Rat)≠0:=by
  have:(0:Rat)<((d:Int):Rat):=by exact_mod_cast h
  grind
 rw [Rat.divInt_eq_div,Rat.div_def,Rat.mul_assoc,Rat.inv_mul_cancel _ hd,Rat.mul_one]
theorem Fr.bvs {k:Nat}{q:Rat}{A:List AV}(h:Fr k q A) (H:Heap) (ids:List Nat):BVs H ids A A=True:=by
 obtain ⟨n,d,rfl,_⟩:=h
 exact Yko
theorem Fr.len {k:Nat}{q:Rat}{A:List AV}(h:Fr k q A):A.length=4:=by
 obtain ⟨n,d,rfl,_⟩:=h
 rfl
theorem Fr.take {k:Nat}{q:Rat}{A:List AV}(h:Fr k q A):A.take 4=A:=by
 obtain ⟨n,d,rfl,_⟩:=h
 rfl
theorem Fr.drop {k:Nat}{q:Rat}{A:List AV}(h:Fr k q A):A.drop 4 = []:=by
 obtain ⟨n,d,rfl,_⟩:=h
 rfl
theorem Fr.mono {k l:Nat}{q:Rat}{A:List AV}(h:Fr k q A) (hkl:k≤l):Fr l q A:=by
 obtain ⟨n,d,h1,h2,h3,h4,h5⟩:=h
 exact ⟨n,d,h1,h2,h3.mono hkl,h4.mono hkl,h5⟩
theorem Fr.of {k:Nat}{q:Rat}(h:Qb k q):Fr k q (rq q):=⟨q.num,q.den,rfl,by have:=q.den_pos; omega,h.ib.1,h.ib.2,(Rat.num_divInt_den q).symm⟩
theorem Yoz {v:Int}(hv:v.natAbs<1048576):Fr 20 ((v:Int):Rat) (rc v 1)∧SpecV Tryz.prog Zzq [.int .i64 v] (.agg (rc v 1)):=by
 refine ⟨⟨v,1,rfl,by decide,hv,show (1:Int).natAbs<2 ^ 20 by decide,?_⟩,rwhole (by omega)⟩
 rw [Rat.divInt_eq_div,Rat.div_def]
 have:(((1:Int):Rat))⁻¹=1:=by decide+kernel
 rw [this,Rat.mul_one]
theorem Xfh {k:Nat}{p q:Rat}{A B:List AV}(ha:Fr k p A) (hb:Fr k q B) (hk:k≤1000000):∃ C,Fr (2*k+1) (p+q) C∧SpecV Tryz.prog Ydh [.agg A,.agg B] (.agg C):=by
 obtain ⟨n,d,rfl,hd,hn1,hd1,rfl⟩:=ha
 obtain ⟨m,e,rfl,he,hm1,he1,rfl⟩:=hb
 exact ⟨_,⟨_,_,rfl,Int.mul_pos hd he,Ib.add (k:=2*k) ((Ib.mul hn1 he1).mono (by omega)) ((Ib.mul hm1 hd1).mono (by omega)),(Ib.mul hd1 he1).mono (by omega),Rat.divInt_add_divInt _ _ (by omega) (by omega)⟩,raddq hn1 hd1 hm1 he1 hk⟩
theorem Yxc {k:Nat}{p q:Rat}{A B:List AV}(ha:Fr k p A) (hb:Fr k q B) (hk:k≤1000000):∃ C,Fr (2*k+1) (p - q) C∧SpecV Tryz.prog Ye0 [.agg A,.agg B] (.agg C):=by
 obtain ⟨n,d,rfl,hd,hn1,hd1,rfl⟩:=ha
 obtain ⟨m,e,rfl,he,hm1,he1,rfl⟩:=hb
 have hneg:Ib (k+k) (-(m*d)):=by
  have:=Ib.mul hm1 hd1
  unfold Ib at *
  rwa [Int.natAbs_neg]
 have hi:Ib (2*k+1) (n*e - m*d):=by
  rw [Int.sub_eq_add_neg]
  exact (Ib.add (Ib.mul hn1 he1) hneg).mono (by omega)
 exact ⟨_,⟨_,_,rfl,Int.mul_pos hd he,hi,(Ib.mul hd1 he1).mono (by omega),Rat.divInt_sub_divInt _ _ (by omega) (by omega)⟩,rsubq hn1 hd1 hm1 he1 hk⟩
theorem Y45 {k:Nat}{p q:Rat}{A B:List AV}(ha:Fr k p A) (hb:Fr k q B) (hk:k≤1000000):SpecV Tryz.prog Ydm [.agg A,.agg B] (.int .i64 (cmpR p q)):=by
 obtain ⟨n,d,rfl,hd,hn1,hd1,hp⟩:=ha
 obtain ⟨m,e,rfl,he,hm1,he1,hq⟩:=hb
 have h:=rcmpq hn1 hd1 hm1 he1 hk
 have hdd:(0:Rat)<((d:Int):Rat):=by exact_mod_cast hd
 have hee:(0:Rat)<((e:Int):Rat):=by exact_mod_cast he
 have h1:=Z4o (n:=n) hd
 have h2:=Z4o (n:=m) he
 rw [← hp] at h1
 rw [← hq] at h2
 have hde:=Rat.mul_pos hdd hee
 have c1:((n*e:Int):Rat)=p*(((d:Int):Rat)*((e:Int):Rat)):=by rw [Rat.intCast_mul]; grind
 have c2:((m*d:Int):Rat)=q*(((d:Int):Rat)*((e:Int):Rat)):=by rw [Rat.intCast_mul]; grind
 have l1:n*e<m*d↔p<q:=by rw [← Rat.intCast_lt_intCast,c1,c2,Rat.mul_lt_mul_right hde]
 have l2:m*d<n*e↔q<p:=by rw [← Rat.intCast_lt_intCast,c1,c2,Rat.mul_lt_mul_right hde]
 have e1:(if n*e=m*d then (0:Int) else if n*e<m*d then -1 else 1)=cmpR p q:=by
  unfold cmpR
  by_cases a:n*e<m*d
  ·rw [if_neg (by omega),if_pos a,if_pos (l1.1 a)]
  ·by_cases b:m*d<n*e
   ·rw [if_neg (by omega),if_neg a,if_neg (fun x=>a (l1.2 x)),if_pos (l2.1 b)]
   ·rw [if_pos (by omega),if_neg (fun x=>a (l1.2 x)),if_neg (fun x=>b (l2.2 x))]
 rw [e1] at h
 exact h
theorem Xar {k:Nat}{q:Rat}{A:List AV}(ha:Fr k q A) (hk:k≤1000000) (hok:NumOk q):SpecV Tryz.prog Yjd [.agg A] (.str (bs (numS q))):=by
 have l4:=ha.len
 have t4:=ha.take
 have d4:=ha.drop
 have b4:=ha.bvs
 obtain ⟨n,d,hA,hd,hn1,hd1,hq⟩:=ha
 have h:=rnum hn1 hd1 hd (by omega) hq.symm
 rw [if_pos hok] at h
 have h':SpecV Tryz.prog Ycd [.agg A] (.tup [.str (bs (numS q)),.bool true]):=by rw [hA]; exact h
 refine Zae Yd3 (by simp) ?_
 unfold Ygg
 simp only [go_sem,Zzh,Zyf,l4,t4,d4,Nat.le_refl]
 refine Zaa h' (by simp only [go_sem,b4]) ?_
 simp only [go_sem,Zyu]
end GoAbs
namespace GoAbs
open Go Go.Proofs
set_option maxHeartbeats 4000000
theorem Lt9.fit {q:Rat}(h:Lt9 q):Fitd 12 q:=by
 obtain ⟨h1,h2⟩:=h
 have c:10000<10 ^ 12:=by decide
 exact ⟨Z4g (by decide) (by omega),Z4g (by decide) (by omega)⟩
theorem Lt9.qb {q:Rat}(h:Lt9 q):Qb 20 q:=qb20 (by have:=h.1; have:=h.2; omega)
theorem Lt9.ok {q:Rat}(h:Lt9 q):NumOk q:=Zii h.qb (by omega)
theorem Lt9.len {q:Rat}(h:Lt9 q):1≤(numS q).length∧(numS q).length≤23:=by
 have a:=Z4g (n:=q.num.natAbs) (k:=4) (by decide) (by have:=h.2; omega)
 have b:=Z4g (n:=q.den) (k:=1) (by decide) (by have:=h.1; omega)
 have c:=Yo3 q.num.natAbs
 unfold numS
 rw [List.length_append,List.length_append]
 split <;> split <;> simp only [List.length_cons,List.length_nil] <;> omega
theorem Lt9.ne {q:Rat}(h:Lt9 q):(numS q).isEmpty=false:=by
 have:=h.len.1
 cases hn:numS q with
 | nil=>rw [hn] at this; simp at this
 | cons a l=>rfl
theorem Lt9.parse {q:Rat}(h:Lt9 q):parseL (numS q)=some q:=Zvf h.ok
structure NT (N:Nat) (n:Nd):Prop where
 kind:n.kind=1∨n.kind=2∨n.kind=3
 rew:∃ q,n.rew=numS q∧Lt9 q
 len:1≤n.mv.length∧n.mv.length≤6
 to:∀ m,m∈n.mv→0≤m.1∧m.1<(N:Int)
 no:n.kind≠3→∀ m,m∈n.mv→m.2 = []
 odds:n.kind=3→(∀ m,m∈n.mv→∃ q,m.2=numS q∧Lt9 q∧0<q)∧sumM n.mv=1
theorem NT.facts {N:Nat}{n:Nd}(h:NT N n):ndVa n=true∧ndFi N n=true∧n.rew.length≤23∧n.mv.length≤7∧∀ m,m∈n.mv→m.2.length≤23:=by
 have hm:∀ m,m∈n.mv→(m.2 = []∧n.kind≠3)∨(n.kind=3∧∃ q,m.2=numS q∧Lt9 q∧0<q):=fun m hmm=>by
  by_cases h3:n.kind=3
  ·exact .inr ⟨h3,(h.odds h3).1 m hmm⟩
  ·exact .inl ⟨h.no h3 m hmm,h3⟩
 obtain ⟨q,hq,hl⟩:=h.rew
 have hpr:parseL n.rew=some q:=by rw [hq]; exact hl.parse
 refine ⟨?_,?_,?_,by have:=h.len; omega,?_⟩
 ·unfold ndVa vaM okB
  rw [hpr]
  simp only [Option.isSome_some,Bool.true_and,List.all_eq_true]
  intro m hmm
  rcases hm m hmm with ⟨e,_⟩ | ⟨_,p,e,hp,_⟩
  ·rw [e]; rfl
  ·rw [e,hp.parse]; simp
 ·unfold ndFi smallB fiM
  rw [hpr]
  simp only [Bool.and_eq_true,decide_eq_true_eq,List.all_eq_true]
  refine ⟨⟨⟨hl.fit,fun m hmm=>?_⟩,h.len⟩,?_⟩
  ·have ht:=h.to m hmm
   unfold mvFit mvFit1
   simp only [Bool.and_eq_true,decide_eq_true_eq,beq_iff_eq,Bool.or_eq_true]
   rcases hm m hmm with ⟨e,h3⟩ | ⟨h3,p,e,hp,hp0⟩
   ·rw [e]; exact ⟨⟨⟨ht.1,ht.2⟩,by simp [h3]⟩,.inl rfl⟩
   ·refine ⟨⟨⟨ht.1,ht.2⟩,?_⟩,.inr ?_⟩
    ·rw [h3,e,hp.ne]; rfl
    ·rw [e,hp.parse]; unfold mvFit2; simp [hp0,hp.fit]
  ·unfold kindF
   rcases h.kind with k | k | k
   ·simp [k]
   ·simp [k]
   ·simp [k,(h.odds k).2]
 ·rw [hq]; exact hl.len.2
 ·intro m hmm
  rcases hm m hmm with ⟨e,_⟩ | ⟨_,p,e,hp,_⟩
  ·rw [e]; simp
  ·rw [e]; exact hp.len.2
structure LT (L:List Nd) (d:List UInt8):Prop where
 n:1≤L.length∧L.length≤5
 nd:∀ n,n∈L→NT L.length n
 d:∃ q,d=numS q∧Lt9 q∧0≤q∧q<1
theorem LT.gin {L:List Nd}{d:List UInt8}(h:LT L d):GIn L d:=by
 obtain ⟨q,hq,hl,_⟩:=h.d
 exact ⟨.inl h.n.2,by rw [hq]; exact hl.len.2,fun n hn=>(h.nd n hn).facts.2.2⟩
theorem LT.ec {L:List Nd}{d:List UInt8}(h:LT L d):eC L d=0:=by
 obtain ⟨q,hq,hl,h0,h1⟩:=h.d
 have hp:parseL d=some q:=by rw [hq]; exact hl.parse
 have hv:(L.all ndVa && okB d)=true:=by
  rw [Bool.and_eq_true,List.all_eq_true]
  exact ⟨fun n hn=>(h.nd n hn).facts.1,by unfold okB; rw [hp]; rfl⟩
 have hf:gFit L d=true:=by
  unfold gFit disF smallB
  rw [hp]
  simp only [Bool.and_eq_true,decide_eq_true_eq,List.all_eq_true]
  exact ⟨⟨⟨h.n.1,by have:=h.n.2; omega⟩,fun n hn=>(h.nd n hn).facts.2.1⟩,hl.fit,h0,h1⟩
 unfold eC
 rw [hv,hf]; rfl
theorem LT.gmL {L:List Nd}{d:List UInt8}(h:LT L d):GmL (toGm L d):=by
 refine ⟨fun q hq=>?_,?_,fun x hx h3 q hq=>?_,?_⟩
 ·obtain ⟨n,hn,rfl⟩:=List.mem_map.1 hq
  obtain ⟨p,hp,hl⟩:=(h.nd n hn).rew
  show Lt9 ((parseL n.rew).getD 0)
  rw [hp,hl.parse]; exact hl
 ·obtain ⟨q,hq,hl,h0,h1⟩:=h.d
  show Lt9 ((parseL d).getD 0)
  rw [hq,hl.parse]; exact hl
 ·obtain ⟨n,hn,rfl⟩:=List.mem_map.1 hx
  obtain ⟨m,hm,rfl⟩:=List.mem_map.1 hq
  have hmm:=(List.mem_filter.1 hm).1
  have h3':n.kind=3:=by have:n.kind.toNat=3:=h3; omega
  obtain ⟨p,hp,hl,_⟩:=((h.nd n hn).odds h3').1 m hmm
  rw [hp,hl.parse]; exact hl
 ·show (L.map toGN).length≤5
  rw [List.length_map]; exact h.n.2
theorem LT.gmP {L:List Nd}{d:List UInt8}(h:LT L d):GmP (toGm L d)∧(toGm L d).nodes.length=L.length:=by
 obtain ⟨_,hg,hgn,_⟩:=((Z8f h.gin).resolve_left (fun x=>x.1 h.ec)).2
 exact ⟨hg,hgn⟩
theorem lvals {L:List Nd}{d:List UInt8}(h:LT L d):SpecV Tryz.prog Yjc [.sl (L.map ndAV),.str (bs d)] (.tup [rowV (valG (toGm L d)),.bool true]):=by
 obtain ⟨hg,hgn⟩:=h.gmP
 have hv:=wvalue h.gin
 have hvl:=Zj2 hg
 have hrb:=Z4i hg h.gmL
 have hL5:=h.n
 rw [if_pos h.ec] at hv
 have hok:∀ q,q∈valG (toGm L d)→NumOk q:=fun q hq=>Zii (hrb q hq) (by omega)
 rw [show numsR (valG (toGm L d)) = .tup [.sl (ss (valG (toGm L d))),.int .i64 0] from if_pos hok,Yxd] at hv
 obtain ⟨V,hV⟩:∃ V,V=valG (toGm L d):=⟨_,rfl⟩
 rw [← hV] at hv hvl hrb hok ⊢
 obtain ⟨M,hM⟩:∃ M,M=V.map numS:=⟨_,rfl⟩
 have hMV:M.map toQ=V:=by rw [hM]; exact Yvg hok
 have hMn:M.length=L.length:=by rw [hM,List.length_map,hvl,hgn]
 have hMl:∀ s,s∈M→s.length≤1000000000:=fun s hs=>by
  rw [hM] at hs
  obtain ⟨q,hq,rfl⟩:=List.mem_map.1 hs
  exact Yh3 (hok q hq)
 have hMp:∀ s,s∈M→okB s=true:=fun s hs=>by
  rw [hM] at hs
  obtain ⟨q,hq,rfl⟩:=List.mem_map.1 hs
  unfold okB
  rw [Zvf (hok q hq)]; rfl
 have hMall:M.all okB=true:=List.all_eq_true.2 hMp
 have hnm:=rnums (L:=M) (by omega) hMl
 rw [show numsE M=0 by unfold numsE; rw [if_pos (show (M.all fun s=>(parseL s).isSome)=true from hMall)],Yo9] at hnm
 have hqs:=rqs (L:=M) (fun s hs=>⟨hMl s hs,hMp s hs⟩) (by omega)
 rw [hMV] at hqs
 have hle:((M.length:Nat):Int)=(L.length:Int):=by omega
 rw [← hM] at hv
 refine Zae Yg4 (by simp) ?_
 unfold Z9s
 simp only [go_sem,Zx5,Zxr]
 refine Zaa hv (by simp only [go_sem]) ?_
 simp only [go_sem,Zwa,txts_len',List.length_map,hle]
 refine Zaa hnm (by simp only [go_sem]) ?_
 simp only [go_sem,Zwf]
 refine Zaa hqs (by simp only [go_sem]) ?_
 simp only [go_sem,rowV]
theorem lrnd {L:List Nd}{d:List UInt8}(h:LT L d) {r:Nat}(hr:r≤8):∃ M:List (List UInt8),SpecV Tryz.prog Z2y [.sl (L.map ndAV),.str (bs d),.int .i64 (r:Int)] (.tup [.sl (txts M),.int .i64 0])∧M.length=L.length∧M.map toQ=rndR (toGm L d) r∧SpecV Tryz.prog Yc4 [.sl (txts M)] (.int .i64 0)∧SpecV Tryz.prog Yol [.sl (txts M)] (rowV (rndR (toGm L d) r))∧(∀ s,s∈M→okB s=true∧s.length≤1000000000):=by
 obtain ⟨hg,hgn⟩:=h.gmP
 have hv:=wrounds (r:=(r:Int)) h.gin (.inr (.inr (by omega)))
 have hrb:=Ygr hg h.gmL (k:=r) (by omega)
 have hL5:=h.n
 have hrc:rC L d (r:Int)=0:=by unfold rC; rw [if_pos h.ec,if_neg (by omega)]
 rw [hrc,if_pos rfl,Int.toNat_natCast] at hv
 have hvl:=Zkt (g:=toGm L d) r
 have hok:∀ q,q∈rndR (toGm L d) r→NumOk q:=fun q hq=>Zii (hrb q hq) (by omega)
 rw [show numsR (rndR (toGm L d) r) = .tup [.sl (ss (rndR (toGm L d) r)),.int .i64 0] from if_pos hok,Yxd] at hv
 obtain ⟨V,hV⟩:∃ V,V=rndR (toGm L d) r:=⟨_,rfl⟩
 rw [← hV] at hv hvl hrb hok ⊢
 obtain ⟨M,hM⟩:∃ M,M=V.map numS:=⟨_,rfl⟩
 have hMV:M.map toQ=V:=by rw [hM]; exact Yvg hok
 have hMn:M.length=L.length:=by rw [hM,List.length_map,hvl,hgn]
 have hMl:∀ s,s∈M→s.length≤1000000000:=fun s hs=>by
  rw [hM] at hs
  obtain ⟨q,hq,rfl⟩:=List.mem_map.1 hs
  exact Yh3 (hok q hq)
 have hMp:∀ s,s∈M→okB s=true:=fun s hs=>by
  rw [hM] at hs
  obtain ⟨q,hq,rfl⟩:=List.mem_map.1 hs
  unfold okB
  rw [Zvf (hok q hq)]; rfl
 have hMall:M.all okB=true:=List.all_eq_true.2 hMp
 have hnm:=rnums (L:=M) (by omega) hMl
 rw [show numsE M=0 by unfold numsE; rw [if_pos (show (M.all fun s=>(parseL s).isSome)=true from hMall)],Yo9] at hnm
 have hqs:=rqs (L:=M) (fun s hs=>⟨hMl s hs,hMp s hs⟩) (by omega)
 rw [hMV] at hqs
 rw [← hM] at hv
 exact ⟨M,hv,hMn,hMV,hnm,hqs,fun s hs=>⟨hMp s hs,hMl s hs⟩⟩
theorem Yi5 (mv:List Int) (i k:Nat):Lt9 (mdOdd mv i k):=by
 have:=Yhf mv i k
 exact ⟨by omega,by omega⟩
theorem Yb7 {a b s:Int}:Rat.divInt a s+Rat.divInt b s=Rat.divInt (a+b) s:=by
 rw [Rat.divInt_eq_div,Rat.divInt_eq_div,Rat.divInt_eq_div,Rat.div_def,Rat.div_def,Rat.div_def,Rat.intCast_add,Rat.add_mul]
theorem Y40 {size:Nat}{mv:List Int}{i:Nat}:∀ k,sumM ((List.range k).map (mdMv size 3 mv i))=Rat.divInt (mdS mv i k) (mdS mv i (mdMany mv i))
 | 0=>by
  show (0:Rat)=Rat.divInt 0 _
  rw [Rat.divInt_eq_div,Rat.div_def]
  exact (Rat.zero_mul _).symm
 | k+1=>by
  rw [List.range_succ,List.map_append,List.map_cons,List.map_nil,Yak,Y40 k]
  unfold stepM
  have hl:=Yi5 mv i k
  have e:(mdMv size 3 mv i k).2=numS (mdOdd mv i k):=by unfold mdMv; rw [if_pos rfl]
  rw [e,hl.ne,if_neg (by decide),hl.parse]
  show _+mdOdd mv i k=_
  unfold mdOdd
  rw [Yb7]
  rfl
theorem Xen {size:Nat}(hs:1≤size) (ks rs mv:List Int) (i:Nat):NT size (mdN size ks rs mv i):=by
 have hm:=Ztn mv i
 have hmem:∀ m,m∈(mdN size ks rs mv i).mv→∃ k,m=mdMv size (mdKind ks i) mv i k:=fun m h=>by
  obtain ⟨k,_,rfl⟩:=List.mem_map.1 h
  exact ⟨k,rfl⟩
 have hlen:(mdN size ks rs mv i).mv.length=mdMany mv i:=by
  show ((List.range _).map _).length=_
  rw [List.length_map,List.length_range]
 refine ⟨Yij ks i,⟨_,rfl,?_⟩,by omega,fun m h=>?_,fun h3 m h=>?_,fun h3=>⟨fun m h=>?_,?_⟩⟩
 ·have:=Ypm rs i
  exact ⟨by omega,by omega⟩
 ·obtain ⟨k,rfl⟩:=hmem m h
  exact ⟨Int.emod_nonneg _ (by omega),Int.emod_lt_of_pos _ (by omega)⟩
 ·obtain ⟨k,rfl⟩:=hmem m h
  exact if_neg h3
 ·obtain ⟨k,rfl⟩:=hmem m h
  exact ⟨_,if_pos h3,Yi5 mv i k,(Yhf mv i k).2.2⟩
 ·have h3':mdKind ks i=3:=h3
  show sumM ((List.range (mdMany mv i)).map (mdMv size (mdKind ks i) mv i))=1
  rw [h3',Y40]
  have:=Ym3 mv i
  have hp:((mdS mv i (mdMany mv i):Int):Rat)≠0:=by
   have:(0:Rat)<((mdS mv i (mdMany mv i):Int):Rat):=by exact_mod_cast (show (0:Int)<mdS mv i (mdMany mv i) by omega)
   grind
  rw [Rat.divInt_eq_div,Rat.div_def,Rat.mul_inv_cancel _ hp]
theorem md_d {d:Int}(hd:0≤d∧d≤255):∃ q,numS (mdD d)=numS q∧Lt9 q∧0≤q∧q<1:=by
 have h:=Y46 hd
 have hden:(0:Int)<d % 7+1+d / 7 % 3:=by omega
 have hdr:(0:Rat)<((d % 7+1+d / 7 % 3:Int):Rat):=by exact_mod_cast hden
 have hm:=Z4o (n:=d % 7) hden
 refine ⟨mdD d,rfl,⟨by omega,by omega⟩,?_,?_⟩
 ·refine Rat.not_lt.1 (fun hn=>?_)
  have h1:=Rat.mul_lt_mul_of_pos_right hn hdr
  unfold mdD at h1
  rw [hm,Rat.zero_mul] at h1
  have:(d % 7:Int)<0:=by exact_mod_cast h1
  omega
 ·refine Rat.not_le.1 (fun hn=>?_)
  have h1:=Rat.mul_le_mul_of_nonneg_right hn (Rat.le_of_lt hdr)
  unfold mdD at h1
  rw [hm,Rat.one_mul] at h1
  have:(d % 7+1+d / 7 % 3:Int)≤d % 7:=by exact_mod_cast h1
  omega
theorem Xe9 {size:Nat}(hs:1≤size∧size≤5) (ks rs mv:List Int) {d:Int}(hd:0≤d∧d≤255):LT (mdL size ks rs mv) (numS (mdD d)):=by
 have hl:(mdL size ks rs mv).length=size:=by unfold mdL; rw [List.length_map,List.length_range]
 refine ⟨by omega,fun n hn=>?_,md_d hd⟩
 rw [hl]
 obtain ⟨i,_,rfl⟩:=List.mem_map.1 hn
 exact Xen hs.1 ks rs mv i
def tabAV (n d:Int) (ks rs mv:List Int):AV := .agg [.int .u8 n,.int .u8 d,.sl (ivs ks),.sl (ivs rs),.sl (ivs mv)]
def tabL (n:Int) (ks rs mv:List Int):List Nd:=mdL (n % 5+1).toNat ks rs mv
theorem lgame {n d:Int}{ks rs mv:List Int}(hn:0≤n∧n≤255) (hd:0≤d∧d≤255):SpecV Tryz.prog Yjr [tabAV n d ks rs mv] (.tup [.sl ((tabL n ks rs mv).map ndAV),.str (bs (numS (mdD d)))]):=by
 have h:=lmade (ks:=ks) (rs:=rs) (mv:=mv) hn hd
 unfold tabAV
 refine Zae Yhe (by simp) ?_
 unfold Ya9
 simp only [go_sem,Zw5,Zwh]
 refine Zaa h (by simp only [go_sem]) ?_
 simp only [go_sem]
 rfl
theorem Xct {n d:Int}(hn:0≤n∧n≤255) (hd:0≤d∧d≤255) (ks rs mv:List Int):LT (tabL n ks rs mv) (numS (mdD d)):=Xe9 (by omega) ks rs mv hd
end GoAbs
namespace GoAbs
open Go Go.Proofs
set_option maxHeartbeats 4000000
theorem Ypr {k:Nat}{x:List Rat}(h:Rb k x) {i:Nat}(hi:i<x.length):Qb k (rget x i):=h _ (List.mem_of_getElem? (Zah hi))
end GoAbs
namespace GoAbs
open Go Go.Proofs
set_option maxHeartbeats 4000000
theorem Z1q {x:GN}{n:Nat}(hx:GnOk n x) (h1:x.kind=1) (v:List Rat):(∃ t,t<x.to.length∧worthR x v=rget v (x.to.getD t 0))∧∀ t,t<x.to.length→rget v (x.to.getD t 0)≤worthR x v:=by
 have b1:=Zcq (v:=v) (sg:=1) hx.pos (Nat.le_refl _)
 have e:worthR x v=rget v (x.to.getD (bestG v x.to 1 x.to.length) 0):=by unfold worthR bestA; rw [if_pos h1]
 exact ⟨⟨_,b1,e⟩,fun t ht=>by rw [e]; exact (Z8k (v:=v) (to:=x.to) (k:=x.to.length)).1 t ht⟩
theorem Z0g {x:GN}{n:Nat}(hx:GnOk n x) (h2:x.kind=2) (v:List Rat):(∃ t,t<x.to.length∧worthR x v=rget v (x.to.getD t 0))∧∀ t,t<x.to.length→worthR x v≤rget v (x.to.getD t 0):=by
 have b1:=Zcq (v:=v) (sg := -1) hx.pos (Nat.le_refl _)
 have e:worthR x v=rget v (x.to.getD (bestG v x.to (-1) x.to.length) 0):=by unfold worthR bestA; rw [if_neg (by omega),if_pos h2]
 exact ⟨⟨_,b1,e⟩,fun t ht=>by rw [e]; exact (Z0n (v:=v) (to:=x.to) (k:=x.to.length)).1 t ht⟩
theorem Zvd {x:GN}(h3:x.kind=3) (v:List Rat):worthR x v=dotW x.odds v x.to x.to.length:=by
 unfold worthR
 rw [if_neg (by omega),if_neg (by omega)]
theorem Yn2 {f:Rat→Rat}{v:List Rat}{j:Nat}(h:j<v.length):rget (v.map f) j=f (rget v j):=by
 have e:=Zah h
 unfold rget at *
 rw [List.getD_eq_getElem?_getD (l:=v.map f),List.getElem?_map,e]
 rfl
theorem Yim {f:Nd→Rat}{L:List Nd}{j:Nat}{n:Nd}(h:L[j]? = some n):rget (L.map f) j=f n:=by
 unfold rget
 rw [List.getD_eq_getElem?_getD,List.getElem?_map,h]
 rfl
theorem Yg5 {odds u v:List Rat}{to:List Nat}{a b:Rat}:∀ {k:Nat},(∀ t,t<k→rget u (to.getD t 0)=a*rget v (to.getD t 0)+b)→dotW odds u to k=a*dotW odds v to k+b*sumO odds k
 | 0,_=>by simp only [dotW,sumO]; grind
 | k+1,h=>by
  have ih:=Yg5 (odds:=odds) (k:=k) (fun t ht=>h t (by omega))
  have hk:=h k (by omega)
  simp only [dotW,sumO]
  rw [ih,hk]
  grind
theorem Yyk {x:GN}{n:Nat}(hx:GnOk n x) (ho:x.kind=3→sumO x.odds x.to.length=1) {a b:Rat}(ha:0≤a) {u v:List Rat}(hu:∀ j,j<n→rget u j=a*rget v j+b):worthR x u=a*worthR x v+b:=by
 have hto:∀ t,t<x.to.length→rget u (x.to.getD t 0)=a*rget v (x.to.getD t 0)+b:=fun t ht=>hu _ (hx.lt _ (Zbb ht))
 have hm:∀ p q:Rat,p≤q→a*p+b≤a*q+b:=fun p q h=>by
  have:=Rat.mul_le_mul_of_nonneg_left h ha
  grind
 rcases hx.kind with h | h | h
 ·obtain ⟨⟨t,ht,e⟩,h1⟩:=Z1q hx h v
  obtain ⟨⟨s,hs,e'⟩,h2⟩:=Z1q hx h u
  refine Rat.le_antisymm ?_ ?_
  ·rw [e',hto s hs]; exact hm _ _ (h1 s hs)
  ·rw [e, ← hto t ht]; exact h2 t ht
 ·obtain ⟨⟨t,ht,e⟩,h1⟩:=Z0g hx h v
  obtain ⟨⟨s,hs,e'⟩,h2⟩:=Z0g hx h u
  refine Rat.le_antisymm ?_ ?_
  ·rw [e, ← hto t ht]; exact h2 t ht
  ·rw [e',hto s hs]; exact hm _ _ (h1 s hs)
 ·rw [Zvd h,Zvd h,Yg5 hto,ho h]
  grind
theorem Y26 {g g':Gm}(hg:GmP g) (hn:g'.nodes=g.nodes) (hd:g'.d=g.d) {a b r:Rat}(ha:0≤a) (hr:∀ i,i<g.nodes.length→rget g'.rew i=a*rget g.rew i+r) {u v:List Rat}(hu:∀ j,j<g.nodes.length→rget u j=a*rget v j+b) :
  ∀ i,i<g.nodes.length→nextV g' u i=a*nextV g v i+(r+g.d*b):=fun i hi=>by
 have hx:=Za0 hi
 have hw:=Yyk (hg.ok.node _ hx) (fun h=>(hg.odds _ hx h).2) ha hu
 unfold nextV
 rw [hn,hd,hr i hi]
 show _+g.d*worthR (nodeAt g i) u=a*(_+g.d*worthR (nodeAt g i) v)+_
 rw [hw]
 grind
theorem Xe6 {g g':Gm}(hg:GmP g) (hg':GmP g') (hn:g'.nodes=g.nodes) (hd:g'.d=g.d) {a b r:Rat}(ha:0≤a) (hr:∀ i,i<g.nodes.length→rget g'.rew i=a*rget g.rew i+r) (hb:r+g.d*b=b) :
  ∀ i,i<g.nodes.length→rget (valG g') i=a*rget (valG g) i+b:=fun i hi=>by
 have hl:=Zj2 hg
 have hu:∀ j,j<g.nodes.length→rget ((valG g).map fun q=>a*q+b) j=a*rget (valG g) j+b:=fun j hj=>Yn2 (f:=fun q=>a*q+b) (by omega)
 have:=Z3g hg' (v:=(valG g).map fun q=>a*q+b) (by rw [List.length_map,hl,hn]) (fun j hj=>by
  rw [hn] at hj
  rw [hu j hj,Y26 hg hn hd ha hr hu j hj,hb,Z83 hg j hj])
 rw [← this]
 exact hu i hi
def flipG (x:GN):GN:=⟨if x.kind=1 then 2 else if x.kind=2 then 1 else x.kind,x.to,x.odds⟩
theorem Ysv {x:GN}{n:Nat}(hx:GnOk n x) (hy:GnOk n (flipG x)) {u v:List Rat}(hu:∀ j,j<n→rget u j = - rget v j):worthR (flipG x) u = - worthR x v:=by
 have hto:∀ t,t<x.to.length→rget u (x.to.getD t 0) = - rget v (x.to.getD t 0):=fun t ht=>hu _ (hx.lt _ (Zbb ht))
 rcases hx.kind with h | h | h
 ·obtain ⟨⟨t,ht,e⟩,h1⟩:=Z1q hx h v
  have hk:(flipG x).kind=2:=by unfold flipG; rw [if_pos h]
  obtain ⟨⟨s,hs,e'⟩,h2⟩:=Z0g hy hk u
  have a1:=h1 s hs
  have a2:=h2 t ht
  have a3:rget u ((flipG x).to.getD s 0) = - rget v (x.to.getD s 0):=hto s hs
  have a4:rget u ((flipG x).to.getD t 0) = - rget v (x.to.getD t 0):=hto t ht
  refine Rat.le_antisymm ?_ ?_ <;> grind
 ·obtain ⟨⟨t,ht,e⟩,h1⟩:=Z0g hx h v
  have hk:(flipG x).kind=1:=by unfold flipG; rw [if_neg (by omega),if_pos h]
  obtain ⟨⟨s,hs,e'⟩,h2⟩:=Z1q hy hk u
  have a1:=h1 s hs
  have a2:=h2 t ht
  have a3:rget u ((flipG x).to.getD s 0) = - rget v (x.to.getD s 0):=hto s hs
  have a4:rget u ((flipG x).to.getD t 0) = - rget v (x.to.getD t 0):=hto t ht
  refine Rat.le_antisymm ?_ ?_ <;> grind
 ·have hk:(flipG x).kind=3:=by unfold flipG; rw [if_neg (by omega),if_neg (by omega)]; exact h
  rw [Zvd h,Zvd hk]
  show dotW x.odds u x.to x.to.length=_
  rw [Yg5 (a := -1) (b:=0) (v:=v) (fun t ht=>by rw [hto t ht]; grind)]
  grind
structure Flip (g g':Gm):Prop where
 nodes:g'.nodes=g.nodes.map flipG
 d:g'.d=g.d
 rew:∀ i,i<g.nodes.length→rget g'.rew i = - rget g.rew i
theorem Flip.len {g g':Gm}(h:Flip g g'):g'.nodes.length=g.nodes.length:=by rw [h.nodes,List.length_map]
theorem Flip.at {g g':Gm}(h:Flip g g') {i:Nat}(hi:i<g.nodes.length):nodeAt g' i=flipG (nodeAt g i):=by
 unfold nodeAt
 rw [h.nodes,List.getD_eq_getElem?_getD,List.getD_eq_getElem?_getD,List.getElem?_map,List.getElem?_eq_getElem hi]
 rfl
theorem Yhq {g g':Gm}(hg:GmP g) (hg':GmP g') (h:Flip g g') {u v:List Rat}(hu:∀ j,j<g.nodes.length→rget u j = - rget v j):∀ i,i<g.nodes.length→nextV g' u i = - nextV g v i:=fun i hi=>by
 have hx:=hg.ok.node _ (Za0 hi)
 have hy:=hg'.ok.node _ (Za0 (g:=g') (i:=i) (by rw [h.len]; exact hi))
 rw [h.at hi,h.len] at hy
 have hw:=Ysv hx hy hu
 unfold nextV
 show rget g'.rew i+g'.d*worthR (nodeAt g' i) u = - (rget g.rew i+g.d*worthR (nodeAt g i) v)
 rw [h.at hi,h.d,h.rew i hi,hw]
 grind
theorem Y2j {g g':Gm}(hg:GmP g) (hg':GmP g') (h:Flip g g'):∀ i,i<g.nodes.length→rget (valG g') i = - rget (valG g) i:=fun i hi=>by
 have hl:=Zj2 hg
 have hu:∀ j,j<g.nodes.length→rget ((valG g).map fun q => - q) j = - rget (valG g) j:=fun j hj=>Yn2 (f:=fun q => - q) (by omega)
 have:=Z3g hg' (v:=(valG g).map fun q => - q) (by rw [List.length_map,hl,h.len]) (fun j hj=>by
  rw [h.len] at hj
  rw [hu j hj,Yhq hg hg' h hu j hj,Z83 hg j hj])
 rw [← this]
 exact hu i hi
theorem Yqo {g g':Gm}(hg:GmP g) (hg':GmP g') (h:Flip g g'):∀ k i,i<g.nodes.length→rget (rndR g' k) i = - rget (rndR g k) i
 | 0,i,hi=>by
  show rget (List.replicate _ (0:Rat)) i = - rget (List.replicate _ (0:Rat)) i
  rw [Zbi hi,Zbi (by rw [h.len]; exact hi)]
  rfl
 | k+1,i,hi=>by
  show rget (nextR g' _) i = - rget (nextR g _) i
  unfold nextR
  rw [Zvj hi,Zvj (by rw [h.len]; exact hi)]
  exact Yhq hg hg' h (Yqo hg hg' h k) i hi
def rewQ (n:Nd):Rat:=(parseL n.rew).getD 0
def flipK (k:Int):Int:=if k=1 then 2 else if k=2 then 1 else k
def flipN (n:Nd):Nd:=⟨flipK n.kind,numS (0 - rewQ n),n.mv⟩
theorem NT.rq {N:Nat}{n:Nd}(h:NT N n):n.rew=numS (rewQ n)∧Lt9 (rewQ n):=by
 obtain ⟨q,e,hl⟩:=h.rew
 have:rewQ n=q:=by unfold rewQ; rw [e,hl.parse]; rfl
 rw [this]
 exact ⟨e,hl⟩
theorem NT.okB {N:Nat}{n:Nd}(h:NT N n):okB n.rew=true∧n.rew.length≤1000:=by
 have:=h.rq
 refine ⟨by unfold GoAbs.okB; rw [this.1,this.2.parse]; rfl,by have:=h.facts.2.2.1; omega⟩
theorem Lt9.neg0 {q:Rat}(h:Lt9 q):Lt9 (0 - q):=by
 have e:0 - q = -q:=by grind
 rw [e]
 refine ⟨h.1,?_⟩
 show (-q.num).natAbs<10000
 rw [Int.natAbs_neg]; exact h.2
theorem NT.flip {N:Nat}{n:Nd}(h:NT N n):NT N (flipN n):=by
 have hk:flipK n.kind=3↔n.kind=3:=by have:=h.kind; unfold flipK; split <;> (try split) <;> omega
 refine ⟨?_,⟨_,rfl,h.rq.2.neg0⟩,h.len,h.to,fun h3=>h.no (fun h'=>h3 (hk.2 h')),fun h3=>h.odds (hk.1 h3)⟩
 show flipK n.kind=1∨flipK n.kind=2∨flipK n.kind=3
 have:=h.kind
 unfold flipK
 split <;> (try split) <;> omega
theorem LT.flip {L:List Nd}{d:List UInt8}(h:LT L d):LT (L.map flipN) d:=by
 refine ⟨by rw [List.length_map]; exact h.n,fun n hn=>?_,h.d⟩
 obtain ⟨m,hm,rfl⟩:=List.mem_map.1 hn
 rw [List.length_map]
 exact (h.nd m hm).flip
theorem Y7f {L:List Nd}{d:List UInt8}(h:LT L d):Flip (toGm L d) (toGm (L.map flipN) d):=by
 refine ⟨?_,rfl,fun i hi=>?_⟩
 ·show (L.map flipN).map toGN=(L.map toGN).map flipG
  rw [List.map_map,List.map_map]
  refine List.map_congr_left fun n hn=>?_
  have hk:=(h.nd n hn).kind
  show toGN (flipN n)=flipG (toGN n)
  unfold flipG toGN flipN flipK
  congr 1
  show (if n.kind=1 then (2:Int) else if n.kind=2 then 1 else n.kind).toNat=if n.kind.toNat=1 then 2 else if n.kind.toNat=2 then 1 else n.kind.toNat
  rcases hk with e | e | e <;> rw [e] <;> rfl
 ·have hi':i<L.length:=by rw [← h.gmP.2]; exact hi
  have hg:L[i]? = some L[i]:=List.getElem?_eq_getElem hi'
  have hq:=(h.nd _ (List.getElem_mem hi')).rq
  show rget ((L.map flipN).map fun n:Nd=>(parseL n.rew).getD 0) i = - rget (L.map fun n:Nd=>(parseL n.rew).getD 0) i
  rw [List.map_map,Yim hg,Yim hg]
  show (parseL (numS (0 - rewQ L[i]))).getD 0 = - rewQ L[i]
  rw [hq.2.neg0.parse]
  show 0 - rewQ L[i]=_
  grind
end GoAbs
namespace GoAbs
open Go Go.Proofs
set_option maxHeartbeats 8000000
theorem Y77 {L:List Nd}{i:Nat}{n:Nd}(h:L[i]? = some n):(L.map ndAV)[i]? = some (.agg [.int .i64 n.kind,.str (bs n.rew),.sl (n.mv.map mvAV)]):=by
 rw [List.getElem?_map,h]; rfl
theorem Y0m {L:List Nd}{f:Nd→Nd}{i:Nat}{n:Nd}(h:L[i]? = some n):((L.take (i+1)).map f).flatMap ndC=((L.take i).map f).flatMap ndC++ndC (f n):=by
 have:L.take (i+1)=L.take i ++ [n]:=by rw [List.take_add_one,h]; rfl
 rw [this,List.map_append,List.flatMap_append]
 simp
theorem Y3p {B0:Blk}{L:List Nd}{d:ByteArray}{V:List AV}{k:Int}(hnd:∀ n,n∈L→NT L.length n) (hL5:L.length≤5) (hB:∀ f,B0.gc f=B0) {K:Ex→St→Prop}
  (hK:∀ e:Nat→AV,Has e [(1,.int .u8 k),(5,.sl (L.map ndAV)),(6,.str d),(7,.sl V),(8,.bool true),(9,.osl (some 3) 1 0 L.length)]→K (.exit 0) ⟨e,[B0,.cells ((L.map flipN).flatMap ndC)]⟩) :
  T Tryz.prog 160 0 (.loop Zf3) ⟨envL [(1,.int .u8 k),(5,.sl (L.map ndAV)),(6,.str d),(7,.sl V),(8,.bool true),(9,.osl (some 3) 1 0 0),(10,.int .i64 0)],[B0,.cells []]⟩ K:=by
 have hmx:Tryz.prog.follows .mixedOrders=true:=by kernel_rfl
 obtain ⟨ls,hls⟩:∃ ls,ls=L.map ndAV:=⟨_,rfl⟩
 have hlsl:ls.length=L.length:=by rw [hls,List.length_map]
 have hgl:=fun i n (h:L[i]? = some n)=>Y77 h
 rw [← hls] at hK hgl ⊢
 refine Zaf (fun i:Nat=>⟨envL [(1,.int .u8 k),(5,.sl ls),(6,.str d),(7,.sl V),(8,.bool true),(9,.osl (some 3) 1 0 i),(10,.int .i64 (i:Int))],[B0,.cells (((L.take i).map flipN).flatMap ndC)]⟩)
  (fun i=>i≤L.length) (fun i=>L.length - i) 0 (by omega) (Zab _ (by simp only [go_sem]; simp)) (fun i hi N hN=>?_)
 unfold Zf3
 by_cases hin:i<L.length
 ·obtain ⟨n,hn⟩:∃ n,L[i]? = some n:=⟨_,List.getElem?_eq_getElem hin⟩
  have hnt:=hnd n (List.mem_of_getElem? hn)
  have hget:=hgl i n hn
  have htk:=Y0m (f:=flipN) hn
  have hPl:(((L.take i).map flipN).flatMap ndC).length=i*3:=by rw [Yzq,List.length_map,List.length_take]; omega
  have hPg:=fun f=>Y4s (M:=(L.take i).map flipN) f
  have hfl:ndC (flipN n) = [.int .i64 (flipK n.kind),.str (bs (numS (0 - rewQ n))),.sl (n.mv.map mvAV)]:=rfl
  rw [hfl] at htk
  generalize ((L.take i).map flipN).flatMap ndC=P at *
  obtain ⟨fw,sw⟩:=Yoz (v:=0) (by decide)
  have sO:=Xe1 hnt.okB.1 hnt.okB.2
  have hq9:=hnt.rq.2
  have sO':SpecV Tryz.prog Z8i [.str (bs n.rew)] (.agg (rq (rewQ n))):=sO
  obtain ⟨C,fC,sC⟩:=Yxc fw (Fr.of hq9.qb) (by decide)
  have h00:((0:Int):Rat) - rewQ n=0 - rewQ n:=rfl
  rw [h00] at fC
  have sN:=Xar fC (by decide) hq9.neg0.ok
  have bC:=fC.bvs
  have b0:∀ H ids,BVs H ids (rc 0 1) (rc 0 1)=True:=fun H ids=>Yko
  generalize rc 0 1=z1 at *
  have hkd:=hnt.kind
  have ex:∃ kd,flipK n.kind=kd∧((n.kind=1∧kd=2)∨(n.kind=2∧kd=1)∨(n.kind=3∧kd=3)):=by
   refine ⟨_,rfl,?_⟩
   unfold flipK
   rcases hkd with e | e | e <;> rw [e] <;> simp
  obtain ⟨kd,hkd1,hkd2⟩:=ex
  rw [hkd1] at htk
  have q0:(0:Int)≤(i:Int):=by omega
  have q1:(i:Int)<(L.length:Int):=by omega
  have s1:(i+1)*48≤1099511627776:=by omega
  have s2:i*3≤P.length:=by omega
  have tP:P.take (i*3)=P:=List.take_of_length_le (by omega)
  have e1:IntKind.i64.wrap ((i:Int)+1)=((i+1:Nat):Int):=by rw [Zac (by omega) (by omega)]; omega
  have fin:∀ (e:Nat→AV) (X Y:Blk),Has e [(1,.int .u8 k),(5,.sl ls),(6,.str d),(7,.sl V),(8,.bool true),(9,.osl (some 3) 4 0 (i+1)),(10,.int .i64 ((i+1:Nat):Int))] →
    N ⟨e,[B0,.dead,X,Y,.cells (P ++ [.int .i64 kd,.str (bs (numS (0 - rewQ n))),.sl (n.mv.map mvAV)])]⟩:=fun e X Y he=>by
   refine hN (i+1) _ (by omega) (by omega) (Zcc (Zhq [0,4] (by decide) (fun i hi=>by omega) [(1,.int .u8 k),(5,.sl ls),(6,.str d),(7,.sl V),(8,.bool true),(9,.osl (some 3) 4 0 (i+1)),(10,.int .i64 ((i+1:Nat):Int))] he) ?_)
   show St.mk _ [B0.gc _,Blk.cells (gcL _ (P++_))]=_
   rw [Zws,hB,hPg,htk]
   rfl
  rcases hkd2 with ⟨k1,k2⟩ | ⟨k1,k2⟩ | ⟨k1,k2⟩
  ·simp only [go_sem,Zb2,Zc6,q0,q1,hlsl,hget]
   simp only [go_sem,Zb4,hmx]
   refine Zaa sw (by simp only [go_sem]) ?_
   simp only [go_sem]
   refine Zaa sO' (by simp only [go_sem]) ?_
   simp only [go_sem]
   refine Zaa sC (by simp only [go_sem,b0,Z44]) ?_
   simp only [go_sem]
   refine Zaa sN (by simp only [go_sem,bC]) ?_
   simp only [go_sem,Zc5,Zcr,Zkp,k1,Zco,s1,s2,tP,hPl,Nat.le_refl,Zcs,e1,List.cons_append,List.nil_append]
   rw [k2] at fin
   exact fin _ _ _ (by simp only [go_sem])
  ·simp only [go_sem,Zb2,Zc6,q0,q1,hlsl,hget]
   simp only [go_sem,Zb4,hmx]
   refine Zaa sw (by simp only [go_sem]) ?_
   simp only [go_sem]
   refine Zaa sO' (by simp only [go_sem]) ?_
   simp only [go_sem]
   refine Zaa sC (by simp only [go_sem,b0,Z44]) ?_
   simp only [go_sem]
   refine Zaa sN (by simp only [go_sem,bC]) ?_
   simp only [go_sem,Zc5,Zcr,Ze9,Zkr,k1,Zco,s1,s2,tP,hPl,Nat.le_refl,Zcs,e1,List.cons_append,List.nil_append]
   rw [k2] at fin
   exact fin _ _ _ (by simp only [go_sem])
  ·simp only [go_sem,Zb2,Zc6,q0,q1,hlsl,hget]
   simp only [go_sem,Zb4,hmx]
   refine Zaa sw (by simp only [go_sem]) ?_
   simp only [go_sem]
   refine Zaa sO' (by simp only [go_sem]) ?_
   simp only [go_sem]
   refine Zaa sC (by simp only [go_sem,b0,Z44]) ?_
   simp only [go_sem]
   refine Zaa sN (by simp only [go_sem,bC]) ?_
   simp only [go_sem,Zc5,Zcr,Ze9,k1,Zco,s1,s2,tP,hPl,Nat.le_refl,Zcs,e1,List.cons_append,List.nil_append]
   rw [k2] at fin
   exact fin _ _ _ (by simp only [go_sem])
 ·have hie:i=L.length:=by omega
  subst hie
  have q1:¬ ((L.length:Nat):Int)<(L.length:Int):=by omega
  rw [List.take_length]
  simp only [go_sem,Zb2,hlsl,q1]
  exact hK _ (by simp only [go_sem])
theorem Y44 {a b:Rat}(h:a=b):cmpR a b=0:=by
 unfold cmpR
 rw [if_neg (by rw [h]; exact Rat.lt_irrefl),if_neg (by rw [h]; exact Rat.lt_irrefl)]
theorem Yw5 {M:List (List UInt8)}{x:List Rat}(hM:M.map toQ=x) (h:∀ s,s∈M→okB s=true∧s.length≤1000000000) {i:Nat}(hi:i<x.length):∃ s,M[i]? = some s∧(txts M)[i]? = some (.str (bs s))∧SpecV Tryz.prog Z8i [.str (bs s)] (.agg (rq (rget x i))):=by
 have hl:M.length=x.length:=by rw [← hM,List.length_map]
 obtain ⟨s,hs⟩:∃ s,M[i]? = some s:=⟨_,List.getElem?_eq_getElem (by omega)⟩
 obtain ⟨h1,h2⟩:=h s (List.mem_of_getElem? hs)
 have e:rget x i=toQ s:=by
  rw [← hM]
  unfold rget
  rw [List.getD_eq_getElem?_getD,List.getElem?_map,hs]
  rfl
 refine ⟨s,hs,by unfold txts; rw [List.getElem?_map,hs]; rfl,?_⟩
 rw [e]
 exact rof h2 (okBq h1)
theorem lsides {n d k:Int}{ks rs mv:List Int}(hn:0≤n∧n≤255) (hd:0≤d∧d≤255) (_h1:∀ n,n∈ks→(Lit.int .i64 n).wf=true) (_h2:∀ n,n∈rs→(Lit.int .i64 n).wf=true) (_h3:∀ n,n∈mv→(Lit.int .i64 n).wf=true) (hk:0≤k∧k≤255) :
  SpecV Tryz.prog Ycc [.agg [.int .u8 n,.int .u8 d,.sl (ivs ks),.sl (ivs rs),.sl (ivs mv)],.int .u8 k] (.bool true):=by
 have hmx:Tryz.prog.follows .mixedOrders=true:=by kernel_rfl
 have hgm:=lgame (ks:=ks) (rs:=rs) (mv:=mv) hn hd
 have hlt:=Xct hn hd ks rs mv
 unfold tabAV at hgm
 obtain ⟨L,hL⟩:∃ L,L=tabL n ks rs mv:=⟨_,rfl⟩
 obtain ⟨t,ht⟩:∃ t,t=numS (mdD d):=⟨_,rfl⟩
 rw [← hL, ← ht] at hgm hlt
 have hlt':=hlt.flip
 have hff:=Y7f hlt
 obtain ⟨hg,hgn⟩:=hlt.gmP
 obtain ⟨hg',hgn'⟩:=hlt'.gmP
 rw [List.length_map] at hgn'
 obtain ⟨r,hr⟩:∃ r,r=(k % 6).toNat:=⟨_,rfl⟩
 have hr8:r≤5:=by omega
 have hv:=lvals hlt
 have hv':=lvals hlt'
 obtain ⟨M,m1,m2,m3,m4,m5,m6⟩:=lrnd hlt (r:=r) (by omega)
 obtain ⟨M',n1,n2,n3,n4,n5,n6⟩:=lrnd hlt' (r:=r) (by omega)
 rw [List.length_map] at n2
 have hvb:=Z4i hg hlt.gmL
 have hvb':=Z4i hg' hlt'.gmL
 have hvl:=Zj2 hg
 have hvl':=Zj2 hg'
 have hL5:=hlt.n
 have hb:=Ygr hg hlt.gmL (k:=r) (by omega)
 have hb':=Ygr hg' hlt'.gmL (k:=r) (by omega)
 have f1:=Y2j hg hg' hff
 have f2:=Yqo hg hg' hff r
 have hrl:=Zkt (g:=toGm L t) r
 have hrl':=Zkt (g:=toGm (L.map flipN) t) r
 obtain ⟨V,hV⟩:∃ V,V=valG (toGm L t):=⟨_,rfl⟩
 obtain ⟨W,hW⟩:∃ W,W=valG (toGm (L.map flipN) t):=⟨_,rfl⟩
 obtain ⟨X,hX⟩:∃ X,X=rndR (toGm L t) r:=⟨_,rfl⟩
 obtain ⟨Y,hY⟩:∃ Y,Y=rndR (toGm (L.map flipN) t) r:=⟨_,rfl⟩
 rw [← hV] at hv hvb hvl f1
 rw [← hW] at hv' hvb' hvl' f1
 rw [← hX] at m3 m5 hb f2 hrl
 rw [← hY] at n3 n5 hb' f2 hrl'
 have c6:¬ (6:Int)=0:=by decide
 have w1:IntKind.i64.wrap k=k:=Zac (by omega) (by omega)
 have t6:k.tmod 6=(r:Int):=by rw [Int.tmod_eq_emod_of_nonneg hk.1]; omega
 have l1:((M.length:Nat):Int)=(L.length:Int):=by omega
 have l2:((M'.length:Nat):Int)=(L.length:Int):=by omega
 refine Za6 Z7u (by simp) (Zbk 3 rfl ?_)
 unfold Zxy
 simp only [go_sem,Zmn,Zme]
 refine Zaa hgm (by simp only [go_sem]) ?_
 simp only [go_sem,Zmz]
 refine Zaa hv (by simp only [go_sem]) ?_
 simp only [go_sem,Zmi]
 refine T_le (Zio 9 (some 3) (by simp only [go_sem]) [(1,.int .u8 k),(5,.sl (L.map ndAV)),(6,.str (bs t)),(7,rowV V),(8,.bool true)] (by simp only [go_sem])) ?_
 refine Zba (Zba (T_W ?_))
 simp only [go_sem,Zmh,List.cons_append,List.nil_append,List.length_cons,List.length_nil]
 refine Za8 (Zau [(1,.int .u8 k),(5,.sl (L.map ndAV)),(6,.str (bs t)),(7,rowV V),(8,.bool true),(9,.osl (some 3) 1 0 0),(10,.int .i64 0)] (by simp only [go_sem]) (Y3p (V:=V.map fun q => .agg (rq q)) hlt.nd hL5.2 (fun f=>rfl) (fun e he=>?_)))
 obtain ⟨a1,a2,a3,a4,a5,a6,_⟩:=he
 refine Zvi [1] [(1,.int .u8 k),(5,.sl (L.map ndAV)),(6,.str (bs t)),(7,rowV V),(8,.bool true),(9,.sl ((L.map flipN).map ndAV))] ?_ ?_
 ·refine ⟨.inr a1,.inr a2,.inr a3,.inr a4,.inr a5,.inl ?_,trivial⟩
  have hbn:=Y4z (H := [Blk.cells [AV.int IntKind.u8 n,AV.int IntKind.u8 d,AV.sl (ivs ks),AV.sl (ivs rs),AV.sl (ivs mv)],Blk.cells ((L.map flipN).flatMap ndC)]) (ids := [1]) (b:=1) (M:=L.map flipN) rfl (by simp)
  rw [List.length_map] at hbn
  show BV _ _ (e 9) _
  rw [a6]
  exact hbn
 have lV:(V.map fun q=>AV.agg (rq q)).length=L.length:=by rw [List.length_map,hvl,hgn]
 have lW:(W.map fun q=>AV.agg (rq q)).length=L.length:=by rw [List.length_map,hvl',hgn']
 have gV:=fun i (hi:i<V.length)=>Yp8 (v:=V) hi
 have gW:=fun i (hi:i<W.length)=>Yp8 (v:=W) hi
 have lM:(txts M).length=L.length:=by rw [txts_len',m2]
 have lM':(txts M').length=L.length:=by rw [txts_len',n2]
 have lL:(L.map ndAV).length=L.length:=List.length_map _
 refine Zbk 3 rfl ?_
 simp only [go_sem,Zj3]
 refine Zaa hv' (by simp only [go_sem]) ?_
 simp only [go_sem,Zkq,w1,c6,t6]
 refine Zaa m1 (by simp only [go_sem]) ?_
 simp only [go_sem,Zka,w1,c6,t6]
 refine Zaa n1 (by simp only [go_sem]) ?_
 simp only [go_sem,Zkk,lM,lM',lL]
 refine Zaa m4 (by simp only [go_sem]) ?_
 simp only [go_sem]
 refine Zaa n4 (by simp only [go_sem]) ?_
 simp only [go_sem]
 refine Zaa wlives (by simp only [go_sem]) ?_
 simp only [go_sem]
 refine Zba (Zba (T_W ?_))
 simp only [go_sem,Zkg,rowV]
 have hOm:=fun i (hi:i<X.length)=>Yw5 m3 m6 hi
 have hOn:=fun i (hi:i<Y.length)=>Yw5 n3 n6 hi
 generalize (V.map fun q=>AV.agg (rq q))=Vs at *
 generalize (W.map fun q=>AV.agg (rq q))=Ws at *
 generalize txts M=Ms at *
 generalize txts M'=Ns at *
 generalize L.map ndAV=ls at *
 refine Za8 (Zaf (fun i:Nat=>⟨envL [(5,.sl ls),(7,.sl Vs),(12,.sl Ws),(14,.sl Ms),(16,.sl Ns),(18,.int .i64 (i:Int))],[Blk.cells [AV.int IntKind.u8 n,AV.int IntKind.u8 d,AV.sl (ivs ks),AV.sl (ivs rs),AV.sl (ivs mv)],Blk.dead]⟩)
  (fun i=>i≤L.length) (fun i=>L.length - i) 0 (by omega) (Zab _ (by simp only [go_sem]; simp)) (fun i hi N hN=>?_))
 unfold Zl4
 by_cases hin:i<L.length
 ·obtain ⟨fw,sw⟩:=Yoz (v:=0) (by decide)
  have g1:=gV i (by omega)
  have g2:=gW i (by omega)
  obtain ⟨s,_,g3,sO⟩:=hOm i (by omega)
  obtain ⟨s',_,g4,sO'⟩:=hOn i (by omega)
  obtain ⟨C,fC,sC⟩:=Yxc (k:=4000) (fw.mono (by decide)) (Fr.of (Ypr hvb' (show i<W.length by omega))) (by decide)
  have sE:=Y45 ((Fr.of (Ypr hvb (show i<V.length by omega))).mono (show 4000≤2*4000+1 by decide)) fC (by decide)
  obtain ⟨C',fC',sC'⟩:=Yxc (k:=800) (fw.mono (by decide)) (Fr.of (Ypr hb' (show i<Y.length by omega))) (by decide)
  have sE':=Y45 ((Fr.of (Ypr hb (show i<X.length by omega))).mono (show 800≤2*800+1 by decide)) fC' (by decide)
  have h00:∀ q:Rat,((0:Int):Rat) - q=0 - q:=fun q=>rfl
  rw [h00,Y44 (by rw [f1 i (by omega)]; grind)] at sE
  rw [h00,Y44 (by rw [f2 i (by omega)]; grind)] at sE'
  have bC:=fC.bvs
  have bC':=fC'.bvs
  have b0:∀ H ids,BVs H ids (rc 0 1) (rc 0 1)=True:=fun H ids=>Yko
  have rl:∀ q:Rat,(rq q).length=4:=fun q=>rfl
  have bvsr:∀ {H ids} {q:Rat},BVs H ids (rq q) (rq q)=True:=fun {H ids q}=>Z44
  generalize rc 0 1=z1 at *
  have q0:(0:Int)≤(i:Int):=by omega
  have q1:(i:Int)<(L.length:Int):=by omega
  have e1:IntKind.i64.wrap ((i:Int)+1)=((i+1:Nat):Int):=by rw [Zac (by omega) (by omega)]; omega
  simp only [go_sem,Zff,Zfi,q0,q1,lL,lV,lW,lM,lM',g1,g2,rl,Ye5,Yhi,hmx]
  refine Zaa sw (by simp only [go_sem]) ?_
  simp only [go_sem,q0,q1,lW,g2,rl,Ye5,Yhi]
  refine Zaa sC (by simp only [go_sem,b0,bvsr]) ?_
  simp only [go_sem]
  refine Zaa sE (by simp only [go_sem,bC,bvsr]) ?_
  simp only [go_sem,q0,q1,lM,g3]
  refine Zaa sO (by simp only [go_sem]) ?_
  simp only [go_sem]
  refine Zaa sw (by simp only [go_sem]) ?_
  simp only [go_sem,q0,q1,lM',g4]
  refine Zaa sO' (by simp only [go_sem]) ?_
  simp only [go_sem]
  refine Zaa sC' (by simp only [go_sem,b0,bvsr]) ?_
  simp only [go_sem]
  refine Zaa sE' (by simp only [go_sem,bC',bvsr]) ?_
  simp only [go_sem,Zks,e1]
  exact hN (i+1) _ (by omega) (by omega) (Zab _ (by simp only [go_sem]))
 ·have hie:i=L.length:=by omega
  subst hie
  have q1:¬ ((L.length:Nat):Int)<(L.length:Int):=by omega
  simp only [go_sem,Zff,lL,q1]
  refine T_W ?_
  simp only [go_sem,Zki]
end GoAbs
