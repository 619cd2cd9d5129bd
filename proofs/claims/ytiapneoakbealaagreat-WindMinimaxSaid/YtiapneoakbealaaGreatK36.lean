/- Lemmas for the claim (contracts of the functions that it reaches, and what they compute), without conditions. -/
import Derived.Test.YtiapneoakbealaaGreatK35
import Derived.Test.YtiapneoakbealaaGreatProg
import Derived.KernelRfl
set_option linter.unusedVariables false
set_option linter.unusedSimpArgs false
set_option maxRecDepth 10000
set_option maxHeartbeats 2000000
namespace GoAbs
open Go Go.Proofs
theorem Opens.mono {P:Program}{t:TypeId}{S S':List AV→Prop}(h:Opens P t S) (hs:∀ av,S av→S' av):Opens P t S':=fun enc w base spare held fuel cs x hx=>by
 obtain ⟨av,h1,h2⟩:=h enc w base spare held fuel cs x hx
 exact ⟨av,h1,hs av h2⟩
theorem Ytv {P:Program}{f:Nat}{xs:List AV}{vs:Array Value}{w:World}(h:SpecV P f xs (.bool true)) (hr:Reps w noX noPl xs vs):Calls P f vs w fun e w'=>e = .returned (.bool true)∧Go.RowKit.Below w.heap.size w w' :=
 (h.2 noX w vs (fun _ hb=>hb.elim) hr).mono fun e w' he=>by
  obtain ⟨v,rfl,hv,hb⟩:=he
  cases hv
  exact ⟨rfl,hb⟩
theorem Ylg {w:World}{x:AV}{xs:List AV}{v:Value}{l:List Value}(h:Rep w noX noPl x v) (k:Reps w noX noPl xs l.toArray):Reps w noX noPl (x::xs) (v::l).toArray:=by
 refine ⟨by have:=k.1; simp at this ⊢; exact this,fun i y u hy hu=>?_⟩
 cases i with
 | zero=>simp at hy hu; subst hy hu; exact h
 | succ i=>exact k.2 i y u (by simpa using hy) (by simpa using hu)
theorem reps2 {w:World}{x y:AV}{v u:Value}(h:Rep w noX noPl x v) (k:Rep w noX noPl y u):Reps w noX noPl [x,y] #[v,u]:=Ylg h (Ylg (l := []) k ⟨rfl,fun i z t hz=>by simp at hz⟩)
theorem Xal {P:Program}{W:World}{r:Reach}{base:Nat}{t:TypeId}{v:Value}{k:IntKind}(ht:P.underlying t=some (.int k)) (h:Value.okWide P W r base t v):v.cells = #[v]:=by
 obtain ⟨n,rfl⟩:=Go.WideShapes.okWide_int ht h; rfl
theorem Xbi {n:Int}(h:(Lit.int .u8 n).wf=true):0≤n∧n≤255:=bounds_u8 h
theorem opensInts:Opens Tryz.prog 36 (fun av=>∃ p:List Int,av = [.sl (ivs p)]∧∀ n,n∈p→(Lit.int .i64 n).wf=true):=by
 refine Opens.mono (Yxs (e:=3) (fun x ⟨n,hx,_⟩=>by cases hx; rfl) Tryz.underlying36 (by kernel_rfl) (Z2a Tryz.underlying3)) ?_
 rintro av ⟨l,rfl,h⟩
 have:∀ l:List AV,(∀ c,c∈l→∃ n:Int,[c] = [AV.int .i64 n]∧(Lit.int .i64 n).wf=true)→∃ p:List Int,l=ivs p∧∀ n,n∈p→(Lit.int .i64 n).wf=true:=by
  intro l
  induction l with
  | nil=>intro _; exact ⟨[],rfl,fun n hn=>by simp at hn⟩
  | cons c l ih =>
   intro h
   obtain ⟨p,hp,hw⟩:=ih (fun d hd=>h d (by simp [hd]))
   obtain ⟨n,hn,hnw⟩:=h c (by simp)
   cases hn
   refine ⟨n::p,by rw [hp]; rfl,fun m hm=>?_⟩
   rcases List.mem_cons.1 hm with rfl | hm
   ·exact hnw
   ·exact hw m hm
 obtain ⟨p,hp,hw⟩:=this l h
 exact ⟨p,by rw [hp],hw⟩
theorem opensTable:Opens Tryz.prog 44 (fun av=>∃ (a b:Int) (p q r:List Int),av = [.int .u8 a,.int .u8 b,.sl (ivs p),.sl (ivs q),.sl (ivs r)]∧(Lit.int .u8 a).wf=true∧(Lit.int .u8 b).wf=true∧(∀ n,n∈p→(Lit.int .i64 n).wf=true)∧(∀ n,n∈q→(Lit.int .i64 n).wf=true)∧(∀ n,n∈r→(Lit.int .i64 n).wf=true)):=by
 refine Opens.mono (Y2d (n:=5) Tryz.underlying44 (by kernel_rfl) (Zj4 (off:=0) (k:=1) rfl (by kernel_rfl) (by omega) (Z2a Tryz.underlying5) (Zj4 (off:=1) (k:=1) rfl (by kernel_rfl) (by omega) (Z2a Tryz.underlying5)
  (Zj4 (off:=2) (k:=1) rfl (by kernel_rfl) (by omega) opensInts (Zj4 (off:=3) (k:=1) rfl (by kernel_rfl) (by omega) opensInts (Zj4 (off:=4) (k:=1) rfl (by kernel_rfl) (by omega) opensInts Ys1)))))) ?_
 rintro av ⟨a,_,rfl,_,⟨n,rfl,w1⟩,c,_,rfl,_,⟨m,rfl,w2⟩,e,_,rfl,_,⟨p,rfl,w3⟩,g,_,rfl,_,⟨q,rfl,w4⟩,i,_,rfl,_,⟨r,rfl,w5⟩,rfl⟩
 exact ⟨n,m,p,q,r,rfl,w1,w2,w3,w4,w5⟩
end GoAbs
namespace GoAbs
open Go Go.Proofs
def Zvd:List IOp := [oI 4 (.mv (.c (.bool false))) 0]
def Zv0:List IOp := [mI 6 0 0,oI 7 (.len (.t 6)) 0,mI 8 1 0,oI 9 (.len (.t 8)) 0,oI 10 (.bin .neq (.t 7) (.t 9)) 0]
def Ya4:List IOp := [oI 4 (.mv (.c (.bool false))) 0]
def Zt5:List IOp := [oI 5 (.mv (cI 0)) 0]
def Zlb:List IOp := [mI 11 5 0,mI 12 0 0,oI 13 (.len (.t 12)) 0,oI 14 (.bin .lss (.t 11) (.t 13)) 0]
def Zj8:List IOp := [mI 17 0 0,mI 18 5 0,xI 19 1 17 18 0,lI 20 19 0,mI 21 1 0,mI 22 5 0,xI 23 1 21 22 0,lI 24 23 0,oI 25 (.bin .neq (.t 20) (.t 24)) 0]
@[go_sem ↓] theorem Z6b : autoK Zj8 = (0, 0) := by kernel_rfl
@[go_sem] theorem Yre : autoK [mI 17 0 0, mI 18 5 0, xI 19 1 17 18 0, lI 20 19 0, mI 21 1 0, mI 22 5 0, xI 23 1 21 22 0, lI 24 23 0, oI 25 (.bin .neq (.t 20) (.t 24)) 0] = (0, 0) := Z6b
def Yc1:List IOp := [oI 4 (.mv (.c (.bool false))) 0]
def Zwd:List IOp := [mI 15 5 0,oI 16 (.bin .add (.t 15) (cI 1)) 0,mI 5 16 0]
def Zv1:CC := .seq (.seq (.rg false Zlb) (.cond (.t 14) .skip (.exit 0))) (.seq (.block 1 (.seq (.rg true Zj8) (.cond (.t 25) (.seq (.rg false Yc1) .ret) .skip))) (.rg false Zwd))
def Zuo:List IOp := [oI 4 (.mv (.c (.bool true))) 0]
def Z73:CC := .seq (.rg false Zvd) (.seq (.seq (.rg false Zv0) (.cond (.t 10) (.seq (.rg false Ya4) .ret) .skip)) (.seq (.seq (.rg false Zt5) (.block 0 (.loop Zv1))) (.seq (.rg false Zuo) .ret)))
abbrev Yhb:Nat:=56
theorem Yen:fnOk Tryz.prog 56=some (26,Z73,[.tmp 4]):=by kernel_rfl
end GoAbs
namespace GoAbs
open Go Go.Proofs
def Zb (b:Nat) (q:Rat):Prop:=∃ z:Int,q=z∧z.natAbs<2 ^ b
def Zq (q:Rat):Prop:=∃ z:Int,q=z
theorem Zb.q {b:Nat}{q:Rat}(h:Zb b q):Zq q:=⟨h.choose,h.choose_spec.1⟩
theorem Zq.add {a b:Rat}(h:Zq a) (k:Zq b):Zq (a+b):=by
 obtain ⟨x,rfl⟩:=h; obtain ⟨y,rfl⟩:=k
 exact ⟨x+y,by simp⟩
theorem Zq.mul {a b:Rat}(h:Zq a) (k:Zq b):Zq (a*b):=by
 obtain ⟨x,rfl⟩:=h; obtain ⟨y,rfl⟩:=k
 exact ⟨x*y,by simp⟩
theorem Zq.sub {a b:Rat}(h:Zq a) (k:Zq b):Zq (a - b):=by
 obtain ⟨x,rfl⟩:=h; obtain ⟨y,rfl⟩:=k
 exact ⟨x - y,by simp⟩
theorem Zq.sum {R:List Nat}{f:Nat→Rat}(h:∀ i,i∈R→Zq (f i)):Zq (sumL R f):=by
 induction R with
 | nil=>exact ⟨0,rfl⟩
 | cons a R ih=>rw [Zas]; exact (h a List.mem_cons_self).add (ih fun i hi=>h i (List.mem_cons_of_mem _ hi))
theorem Zb.mono {a b:Nat}{q:Rat}(h:Zb a q) (hab:a≤b):Zb b q:=by
 obtain ⟨z,h1,h2⟩:=h
 exact ⟨z,h1,Nat.lt_of_lt_of_le h2 (Nat.pow_le_pow_right (by omega) hab)⟩
theorem Zb.mul {a b:Nat}{p q:Rat}(h:Zb a p) (k:Zb b q):Zb (a+b) (p*q):=by
 obtain ⟨x,rfl,h2⟩:=h; obtain ⟨y,rfl,k2⟩:=k
 exact ⟨x*y,by simp,by rw [Int.natAbs_mul,Nat.pow_add]; exact Nat.mul_lt_mul'' h2 k2⟩
theorem Zb.sub {a:Nat}{p q:Rat}(h:Zb a p) (k:Zb a q):Zb (a+1) (p - q):=by
 obtain ⟨x,rfl,h2⟩:=h; obtain ⟨y,rfl,k2⟩:=k
 exact ⟨x - y,by simp,by rw [Nat.pow_succ]; omega⟩
def fbit:Nat→Nat→Nat
 | 0,_=>1
 | k+1,b=>b+fbit k (2*b+1)
theorem Y0j:∀ {k c b:Nat}{A:Nat→Nat→Rat}{r x:Nat→Rat},(∀ i j,c≤i→i<c+k→c≤j→j<c+k→Zb b (A i j))→(∀ i,c≤i→i<c+k→Zb b (r i)) →
  (∀ i,c≤i→i<c+k→(∀ j,c≤j→j<c+k→j≠i→A i j≤0)∧0<sumL (List.range' c k) (A i))→(∀ i,c≤i→i<c+k→sumL (List.range' c k) (fun j=>x j*A i j)=r i) →
  ∃ D:Rat,0<D∧Zb (fbit k b) D∧∀ j,c≤j→j<c+k→Zq (x j*D)
 | 0,c,b,A,r,x,_,_,_,_=>⟨1,by decide,⟨1,rfl,by unfold fbit; decide⟩,fun j h1 h2=>by omega⟩
 | k+1,c,b,A,r,x,hA,hr,hD,hx=>by
  obtain ⟨a1,a2⟩:=hD c (Nat.le_refl _) (by omega)
  have hxc:=hx c (Nat.le_refl _) (by omega)
  rw [List.range'_succ,Zas] at a2 hxc
  have hp:0<A c c:=by
   have:=Yd7 (R:=List.range' (c+1) k) (f:=A c) (fun j hj=>by have hj':=List.mem_range'_1.1 hj; exact a1 j (by omega) (by omega) (by omega))
   grind
  obtain ⟨D,d1,d2,d3⟩:=Y0j (k:=k) (c:=c+1) (b:=2*b+1) (A:=fun i j=>A i j*A c c - A i c*A c j) (r:=fun i=>r i*A c c - A i c*r c) (x:=x)
   (fun i j h1 h2 h3 h4=>by
    have x1:=(hA i j (by omega) (by omega) (by omega) (by omega)).mul (hA c c (by omega) (by omega) (by omega) (by omega))
    have x2:=(hA i c (by omega) (by omega) (by omega) (by omega)).mul (hA c j (by omega) (by omega) (by omega) (by omega))
    exact (x1.sub x2).mono (by omega))
   (fun i h1 h2=>by
    have x1:=(hr i (by omega) (by omega)).mul (hA c c (by omega) (by omega) (by omega) (by omega))
    have x2:=(hA i c (by omega) (by omega) (by omega) (by omega)).mul (hr c (by omega) (by omega))
    exact (x1.sub x2).mono (by omega))
   (fun i h1 h2=>by
    obtain ⟨b1,b2⟩:=hD i (by omega) (by omega)
    have hic:=b1 c (Nat.le_refl _) (by omega) (by omega)
    refine ⟨fun j h3 h4 hji=>?_,?_⟩
    ·have x1:=b1 j (by omega) (by omega) hji
     have x2:=a1 j (by omega) (by omega) (by omega)
     have x3:=Rat.mul_nonneg (show 0 ≤ -A i j by grind) (Rat.le_of_lt hp)
     have x4:=Rat.mul_nonneg (show 0 ≤ -A i c by grind) (show 0 ≤ -A c j by grind)
     grind
    ·rw [List.range'_succ,Zas] at b2
     have e:sumL (List.range' (c+1) k) (fun j=>A i j*A c c - A i c*A c j)=A c c*sumL (List.range' (c+1) k) (A i)+(-(A i c))*sumL (List.range' (c+1) k) (A c):=by
      rw [← Zgd, ← Zgd, ← Z2q]
      exact Zbb (fun j _=>by grind)
     rw [e]
     have x1:=Rat.mul_pos hp b2
     have x2:=Rat.mul_nonneg (show 0 ≤ -A i c by grind) (Rat.le_of_lt a2)
     generalize sumL (List.range' (c+1) k) (A i)=s at *
     generalize sumL (List.range' (c+1) k) (A c)=t at *
     grind)
   (fun i h1 h2=>by
    have hxi:=hx i (by omega) (by omega)
    rw [List.range'_succ,Zas] at hxi
    have e:sumL (List.range' (c+1) k) (fun j=>x j*(A i j*A c c - A i c*A c j))=A c c*sumL (List.range' (c+1) k) (fun j=>x j*A i j)+(-(A i c))*sumL (List.range' (c+1) k) (fun j=>x j*A c j):=by
     rw [← Zgd, ← Zgd, ← Z2q]
     exact Zbb (fun j _=>by grind)
    rw [e, ← hxi, ← hxc]
    grind)
  refine ⟨A c c*D,Rat.mul_pos hp d1,?_,fun j h1 h2=>?_⟩
  ·exact (hA c c (by omega) (by omega) (by omega) (by omega)).mul d2
  ·by_cases hj:j=c
   ·subst hj
    have e:x j*(A j j*D)=D*r j - sumL (List.range' (j+1) k) (fun i=>x i*D*A j i):=by
     have e2:sumL (List.range' (j+1) k) (fun i=>x i*D*A j i)=D*sumL (List.range' (j+1) k) (fun i=>x i*A j i):=by
      rw [← Zgd]; exact Zbb (fun i _=>by grind)
     rw [e2, ← hxc]; grind
    rw [e]
    refine (d2.q.mul (hr j (by omega) (by omega)).q).sub (Zq.sum fun i hi=>?_)
    have hi':=List.mem_range'_1.1 hi
    exact (d3 i (by omega) (by omega)).mul (hA j i (by omega) (by omega) (by omega) (by omega)).q
   ·have h3:=(d3 j (by omega) (by omega)).mul (hA c c (by omega) (by omega) (by omega) (by omega)).q
    rw [show x j*(A c c*D)=x j*D*A c c by grind]
    exact h3
end GoAbs
namespace GoAbs
open Go Go.Proofs
def Lt9 (q:Rat):Prop:=q.den≤9∧q.num.natAbs<10000
structure GmL (g:Gm):Prop where
 rew:∀ q,q∈g.rew→Lt9 q
 d:Lt9 g.d
 odds:∀ x,x∈g.nodes→x.kind=3→∀ q,q∈x.odds→Lt9 q
 n:g.nodes.length≤5
theorem Xay {n:Nat}(h:n≤9) (h0:0<n):n∣2520:=by
 have:∀ m,m<10→0<m→m∣2520:=by decide
 exact this n (by omega) h0
theorem Ydo (q:Rat):q*q.den=q.num:=by
 have h0:(q.den:Rat)≠0:=by
  intro h
  have h1:q.den=0:=by exact_mod_cast h
  exact q.den_nz h1
 have h:=Rat.num_divInt_den q
 rw [Rat.divInt_eq_div] at h
 have e:((q.den:Int):Rat)=(q.den:Rat):=by norm_cast
 rw [e] at h
 generalize (q.den:Rat)=b at *
 generalize (q.num:Rat)=a at *
 grind
theorem Lt9.z {q:Rat}(h:Lt9 q):Zb 26 (q*2520):=by
 obtain ⟨k,hk⟩:=Xay h.1 q.den_pos
 have e:(2520:Rat)=q.den*k:=by exact_mod_cast hk
 refine ⟨q.num*k,?_,?_⟩
 ·rw [e, ← Rat.mul_assoc,Ydo]; norm_cast
 ·rw [Int.natAbs_mul,Int.natAbs_natCast]
  have h1:k≤2520:=by
   have:=q.den_pos
   have:1*k≤q.den*k:=Nat.mul_le_mul_right _ (by omega)
   omega
  have:=Nat.mul_le_mul (show q.num.natAbs≤9999 by have:=h.2; omega) h1
  omega
theorem Zb.add {a:Nat}{p q:Rat}(h:Zb a p) (k:Zb a q):Zb (a+1) (p+q):=by
 obtain ⟨x,rfl,h2⟩:=h; obtain ⟨y,rfl,k2⟩:=k
 exact ⟨x+y,by simp,by rw [Nat.pow_succ]; omega⟩
abbrev N2:Rat:=2520*2520
def Ze (c:Nat) (M:RM):Prop:=∀ i j,Zb c (mget M i j*N2)
theorem Ze.add {n c:Nat}{M:RM}(h:Ze c M) (hW:Wid n M) {i j:Nat}{x:Rat}(hi:i<M.length) (hj:j<n) (hx:Zb c (x*N2)):Ze (c+1) (addAt M i j x):=fun a b=>by
 rw [Z5r hW hi hj]
 split
 ·rw [Rat.add_mul]; exact (h a b).add hx
 ·rw [Rat.add_zero]; exact (h a b).mono (by omega)
theorem Lt9.neg {q:Rat}(h:Lt9 q):Zb 38 (-q*N2):=by
 obtain ⟨z,h1,h2⟩:=h.z
 refine ⟨-z*2520,?_,?_⟩
 ·rw [show -q*N2 = -(q*2520)*2520 by grind,h1]; simp
 ·rw [Int.natAbs_mul,Int.natAbs_neg,show ((2520:Int)).natAbs=2520 from rfl]
  have:=Nat.mul_lt_mul_of_pos_right h2 (show 0<2520 by decide)
  omega
theorem Lt9.neg2 {p q:Rat}(h:Lt9 p) (k:Lt9 q):Zb 52 (-(p*q)*N2):=by
 obtain ⟨z,h1,h2⟩:=h.z
 obtain ⟨y,k1,k2⟩:=k.z
 refine ⟨-(z*y),?_,?_⟩
 ·rw [show -(p*q)*N2 = -((p*2520)*(q*2520)) by grind,h1,k1]; simp
 ·rw [Int.natAbs_neg,Int.natAbs_mul,show 52=26+26 from rfl,Nat.pow_add]
  exact Nat.mul_lt_mul'' h2 k2
theorem Ygg {n i c:Nat}{d:Rat}{odds:List Rat}{to:List Nat}(hd:Lt9 d) (hi:i<n) (ho:∀ t,t<to.length→Lt9 (rget odds t)) (hto:∀ x,x∈to→x<n) (hc:52≤c):∀ {k:Nat}{M:RM},k≤to.length→M.length=n→Wid n M→Ze c M →
  (addOdds d i odds to k M).length=n∧Wid n (addOdds d i odds to k M)∧Ze (c+k) (addOdds d i odds to k M)
 | 0,M,_,hl,hw,h=>⟨hl,hw,h⟩
 | k+1,M,hk,hl,hw,h=>by
  obtain ⟨h1,h2,h3⟩:=Ygg (odds:=odds) (to:=to) hd hi ho hto hc (k:=k) (M:=M) (by omega) hl hw h
  unfold addOdds
  exact ⟨by rw [Zec,h1],h2.addAt,h3.add h2 (by rw [h1]; exact hi) (hto _ (Zcy (by omega))) ((hd.neg2 (ho k (by omega))).mono (by omega))⟩
theorem Yqp {g:Gm}(hg:GmP g) (hl:GmL g) {p:List Int}(hp:POk g p):∀ {k:Nat},k≤g.nodes.length→(planM g p k).length=g.nodes.length∧Wid g.nodes.length (planM g p k)∧Ze (52+7*k) (planM g p k)
 | 0,_=>by
  unfold planM
  refine ⟨List.length_replicate,fun r hr=>by rw [(List.mem_replicate.1 hr).2,List.length_replicate],fun i j=>?_⟩
  have h0:mget (List.replicate g.nodes.length (List.replicate g.nodes.length (0:Rat))) i j=0:=by
   unfold mget rget
   rw [List.getD_eq_getElem?_getD,List.getD_eq_getElem?_getD,List.getElem?_replicate]
   split
   ·rw [Option.getD_some,List.getElem?_replicate]; split <;> rfl
   ·simp
  rw [h0]
  exact ⟨0,by rw [Rat.zero_mul]; rfl,by decide⟩
 | k+1,hk=>by
  obtain ⟨h1,h2,h3⟩:=Yqp hg hl hp (k:=k) (by omega)
  have hkn:k<g.nodes.length:=by omega
  have hx:=Zbe hkn
  have hok:=hg.ok.node _ hx
  have hlt:=hp.lt hkn
  have hod:=hl.odds _ hx
  unfold planM nodeM
  generalize nodeAt g k=x at *
  have a1:=h3.add (i:=k) (j:=k) (x:=1) h2 (by rw [h1]; exact hkn) hkn (Zb.mono (a:=23) ⟨6350400,by decide+kernel,by decide⟩ (by omega))
  have a2:(addAt (planM g p k) k k 1).length=g.nodes.length:=by rw [Zec,h1]
  have a3:Wid g.nodes.length (addAt (planM g p k) k k 1):=h2.addAt
  split
  ·rename_i h3
   have ho:=(hok.odds h3).1
   obtain ⟨b1,b2,b3⟩:=Ygg (odds:=x.odds) (to:=x.to) hl.d hkn (fun t ht=>hod h3 _ (List.mem_of_getElem? (Zak (by omega)))) hok.lt (by omega) (Nat.le_refl _) a2 a3 a1
   refine ⟨b1,b2,fun i j=>(b3 i j).mono ?_⟩
   have:=hok.len
   omega
  ·rename_i h3
   refine ⟨by rw [Zec,a2],a3.addAt,fun i j=>((a1.add a3 (by rw [a2]; exact hkn) (hok.lt _ (Zcy (hlt h3))) (hl.d.neg.mono (by omega))) i j).mono (by omega)⟩
theorem Xa7 {q D:Rat}{b c:Nat}(h0:0<D) (hD:Zb b D) (hz:Zq (q*D)) (h1:q≤2 ^ c) (h2 : -(2 ^ c)≤q):Qb (b+c+1) q:=by
 obtain ⟨e,rfl,he⟩:=hD
 obtain ⟨z,hz⟩:=hz
 have e0:0<e:=by exact_mod_cast h0
 have hq:q=Rat.divInt z e:=by
  rw [Rat.divInt_eq_div]
  have:(e:Rat)≠0:=by grind
  rw [← hz]; grind
 obtain ⟨n1,n2⟩:=Zed (n:=z) (d:=e) (by omega)
 rw [← hq] at n1 n2
 have hzz:z.natAbs≤2 ^ c*e.natAbs:=by
  have x1:=Rat.mul_le_mul_of_nonneg_right h1 (Rat.le_of_lt h0)
  have x2:=Rat.mul_le_mul_of_nonneg_right h2 (Rat.le_of_lt h0)
  rw [hz] at x1 x2
  have e1:(2:Rat) ^ c*(e:Rat)=(((2 ^ c:Nat)*e:Int):Rat):=by simp
  have e2 : -((2:Rat) ^ c)*(e:Rat)=((-((2 ^ c:Nat)*e):Int):Rat):=by simp [Rat.neg_mul]
  rw [e1] at x1
  rw [e2] at x2
  have y1:=Rat.intCast_le_intCast.1 x1
  have y2:=Rat.intCast_le_intCast.1 x2
  have e3:((2 ^ c*e.natAbs:Nat):Int)=((2 ^ c:Nat):Int)*e:=by rw [Int.natCast_mul]; congr 1; omega
  generalize ((2 ^ c:Nat):Int)*e=w at *
  omega
 have hm:2 ^ c*e.natAbs<2 ^ c*2 ^ b:=Nat.mul_lt_mul_of_pos_left he (Nat.two_pow_pos _)
 have hp:2 ^ c*2 ^ b=2 ^ (c+b):=(Nat.pow_add ..).symm
 have hc:=Nat.two_pow_pos c
 refine ⟨?_,?_⟩
 ·rw [show b+c+1=c+b+1 by omega,Nat.pow_succ]; omega
 ·have:2 ^ b≤2 ^ (b+c+1):=Nat.pow_le_pow_right (by omega) (by omega)
  omega
theorem frac9 {d:Rat}(h:Lt9 d) (d1:d<1):d*9≤8:=by
 have h0:=d.den_pos
 have h1:=Ydo d
 have hd:(0:Rat)<d.den:=by exact_mod_cast h0
 have h2:d*d.den<d.den:=by
  have:=Rat.mul_pos (show 0<1 - d by grind) hd
  grind
 rw [h1] at h2
 have h3:d.num<d.den:=by exact_mod_cast h2
 have h4:d.num*9≤8*d.den:=by have:=h.1; omega
 have h5:(d.num:Rat)*9≤8*(d.den:Rat):=by exact_mod_cast h4
 rw [← h1] at h5
 rcases (Rat.le_total:d*9≤8∨8≤d*9) with h6 | h6
 ·exact h6
 ·by_cases he:d*9=8
  ·rw [he]; grind
  ·have:=Rat.mul_pos (show 0<d*9 - 8 by grind) hd
   grind
theorem Lt9.abs {q:Rat}(h:Lt9 q):q≤10000 ∧ -10000≤q:=by
 have h0:=q.den_pos
 have h1:=Ydo q
 have hd:(1:Rat)≤q.den:=by exact_mod_cast h0
 have n1:(q.num:Rat)≤((10000:Int):Rat):=by have:=h.2; exact Rat.intCast_le_intCast.2 (show q.num≤10000 by omega)
 have n2:((-10000:Int):Rat)≤(q.num:Rat):=by have:=h.2; exact Rat.intCast_le_intCast.2 (show -10000≤q.num by omega)
 rw [show ((10000:Int):Rat)=10000 from rfl] at n1
 rw [show ((-10000:Int):Rat) = -10000 from rfl] at n2
 rw [← h1] at n1 n2
 constructor
 ·rcases (Rat.le_total:q≤10000∨10000≤q) with h6 | h6
  ·exact h6
  ·have:=Rat.mul_nonneg (show 0≤q by grind) (show 0≤(q.den:Rat) - 1 by grind)
   grind
 ·rcases (Rat.le_total : -10000≤q∨q ≤ -10000) with h6 | h6
  ·exact h6
  ·have:=Rat.mul_nonneg (show 0 ≤ -q by grind) (show 0≤(q.den:Rat) - 1 by grind)
   grind
theorem Ye0 {odds:List Rat}{to:List Nat}{n:Nat}{c:Rat}:∀ {k:Nat},k≤to.length→(∀ x,x∈to→x<n)→dotW odds (List.replicate n c) to k=c*sumO odds k
 | 0,_,_=>by simp only [dotW,sumO]; grind
 | k+1,hk,h=>by
  simp only [dotW,sumO]
  rw [Ye0 (by omega) h,Zg7 (h _ (Zcy (by omega)))]
  grind
theorem Z7r {g:Gm}(hg:GmP g) {p:List Int}(hp:POk g p) {i:Nat}(hi:i<g.nodes.length) {c:Rat}:worthP (nodeAt g i) (pget p i) (List.replicate g.nodes.length c)=c:=by
 have hx:=Zbe hi
 have hok:=hg.ok.node _ hx
 have hlt:=hp.lt hi
 have hod:=hg.odds _ hx
 unfold worthP
 split
 ·rename_i h3
  rw [Ye0 (Nat.le_refl _) hok.lt,(hod h3).2]; grind
 ·rename_i h3
  exact Zg7 (hok.lt _ (Zcy (hlt h3)))
theorem Yvx {g:Gm}(hg:GmP g) (hl:GmL g) {p:List Int}(hp:POk g p) {v:List Rat}(hv:PVal g p v) {i:Nat}(hi:i<g.nodes.length):rget v i≤100000 ∧ -100000≤rget v i:=by
 have hs:=Yc6 hg hp
 have h9:=frac9 hl.d hg.d1
 have d0:=hg.d0
 have hr:=fun j (hj:j<g.nodes.length)=>(hl.rew _ (List.mem_of_getElem? (Zak (r:=g.rew) (j:=j) (by rw [hg.ok.rew]; exact hj)))).abs
 constructor
 ·have:=hs.le hg.d1 (u:=v) (v:=List.replicate g.nodes.length 100000) (fun j hj=>by rw [← hv.2 j hj]; grind) (fun j hj=>by
   rw [Zg7 hj]; unfold planV; rw [Z7r hg hp hj]; have:=hr j hj; grind) i hi
  rwa [Zg7 hi] at this
 ·have:=hs.le hg.d1 (u:=List.replicate g.nodes.length (-100000)) (v:=v) (fun j hj=>by
   rw [Zg7 hj]; unfold planV; rw [Z7r hg hp hj]; have:=hr j hj; grind) (fun j hj=>by rw [← hv.2 j hj]; grind) i hi
  rwa [Zg7 hi] at this
theorem Zo1 {g:Gm}(hg:GmP g) (hl:GmL g) {p:List Int}(hp:POk g p):Rb 4000 (valP g p):=fun q hq=>by
 obtain ⟨i,hi,rfl⟩:∃ i,i<g.nodes.length∧q=rget (valP g p) i:=by
  obtain ⟨i,hi⟩:=List.getElem?_of_mem hq
  have hlt:=(List.getElem?_eq_some_iff.1 hi).1
  have:=Zak hlt
  rw [hi] at this
  exact ⟨i,by rw [(Zjz hg hp).1] at hlt; exact hlt,by simpa using this⟩
 obtain ⟨h1,h2⟩:=Yad hg hp (Nat.le_refl g.nodes.length)
 obtain ⟨_,_,_,h3,h4⟩:=Yam h1.len h1.wid hg.ok.rew (Z9w hg hp)
 have hD:=Z9w hg hp
 obtain ⟨_,_,hz⟩:=Yqp hg hl hp (Nat.le_refl g.nodes.length)
 have hn:=hl.n
 have hpos:(0:Rat)<N2:=by decide+kernel
 obtain ⟨D,d1,d2,d3⟩:=Y0j (k:=g.nodes.length) (c:=0) (b:=90) (A:=fun i j=>mget (planM g p g.nodes.length) i j*N2) (r:=fun i=>rget g.rew i*N2) (x:=rget (valP g p))
  (fun i j _ _ _ _=>(hz i j).mono (by omega))
  (fun i _ hi=>by
   have:=(hl.rew _ (List.mem_of_getElem? (Zak (r:=g.rew) (j:=i) (by rw [hg.ok.rew]; omega)))).z
   have h2:Zb 12 2520:=⟨2520,rfl,by decide⟩
   have h3:=this.mul h2
   rw [show rget g.rew i*N2=rget g.rew i*2520*2520 by grind]
   exact h3.mono (by omega))
  (fun i h0 hi=>by
   obtain ⟨a,b⟩:=hD i h0 (by omega)
   refine ⟨fun j hj hjn hji=>?_,?_⟩
   ·have:=Rat.mul_nonneg (show 0 ≤ -mget (planM g p g.nodes.length) i j by have:=a j hj (by omega) hji; grind) (Rat.le_of_lt hpos)
    grind
   ·rw [Zbb (g:=fun j=>N2*mget (planM g p g.nodes.length) i j) (fun j _=>by grind),Zgd]
    refine Rat.mul_pos hpos ?_
    rw [List.range'_eq_map_range,Z97] at b ⊢
    rw [Zbb (g:=fun j=>mget (planM g p g.nodes.length) i (0+j)) (fun j _=>by rw [show 0+1+j - 1=0+j by omega])] at b
    exact b)
  (fun i _ hi=>by
   have:=h4 i (by omega)
   rw [Zbb (g:=fun j=>N2*(rget (valP g p) j*mget (planM g p g.nodes.length) i j)) (fun j _=>by grind),Zgd,List.range'_eq_map_range,Z97]
   rw [Zbb (g:=fun j=>rget (solvR g.nodes.length (planM g p g.nodes.length) g.rew) j*mget (planM g p g.nodes.length) i j) (fun j _=>by rw [show 0+j=j by omega]; rfl),this]
   grind)
 have ha:=Yvx hg hl hp (Zjz hg hp) hi
 have hb:fbit g.nodes.length 90≤3000:=by
  have:∀ n,n≤5→fbit n 90≤3000:=fun n hn=>by
   have:n=0∨n=1∨n=2∨n=3∨n=4∨n=5:=by omega
   rcases this with rfl | rfl | rfl | rfl | rfl | rfl <;> decide
  exact this _ hn
 have e17:(2:Rat) ^ 17=131072:=by decide+kernel
 exact (Xa7 (c:=17) d1 d2 (d3 i (by omega) (by omega)) (by rw [e17]; grind) (by rw [e17]; grind)).mono (by omega)
end GoAbs
namespace GoAbs
open Go Go.Proofs
set_option maxHeartbeats 4000000
end GoAbs
namespace GoAbs
open Go Go.Proofs
def Z1n:List IOp := [oI 4 (.mv (cI 0)) 0]
def Z44:List IOp := [mI 5 0 0,mI 6 1 0,oI 7 (.bin .rem (.t 5) (.t 6)) 0,mI 8 1 0,oI 9 (.bin .add (.t 7) (.t 8)) 0,mI 10 1 0,oI 11 (.bin .rem (.t 9) (.t 10)) 0,mI 4 11 0]
def Ygh:CC := .seq (.rg false Z1n) (.seq (.rg false Z44) .ret)
abbrev Ynn:Nat:=29
theorem Ykb:fnOk Tryz.prog 29=some (12,Ygh,[.tmp 4]):=by kernel_rfl
def Zt2:List IOp := [oI 4 (.mv (cI 0)) 0]
def Zwq:List IOp := [mI 5 1 0,mI 6 0 0,oI 7 (.len (.t 6)) 0,oI 8 (.bin .lss (.t 5) (.t 7)) 0]
def Z6w:List IOp := [mI 9 0 0,mI 10 1 0,xI 11 1 9 10 0,lI 12 11 0,mI 4 12 0]
def Z7j:List IOp := [oI 4 (.mv (cI 0)) 0]
def Yml:CC := .seq (.rg false Zt2) (.seq (.seq (.rg false Zwq) (.cond (.t 8) (.seq (.rg false Z6w) .ret) .skip)) (.seq (.rg false Z7j) .ret))
abbrev Yu2:Nat:=47
theorem Yn9:fnOk Tryz.prog 47=some (13,Yml,[.tmp 4]):=by kernel_rfl
def Zzu:List IOp := [oI 4 (.mv (.c .nils)) 0,oI 5 (.mv (.c (.bool false))) 0]
def Zyg:List IOp := [mI 9 0 0,mI 10 1 0,oI 11 (.call 43 [.t 9,.t 10]) 0,mI 8 11 0,eI 12 0 8 0,eI 13 1 8 0,mI 6 12 0,mI 7 13 0]
def Zya:List IOp := [mI 14 7 0,oI 15 (.bin .neq (.t 14) (cI 0)) 0,mI 16 15 0,gI 17 (.mv (.t 6)) 0 16 false,gI 18 (.len (.t 17)) 0 16 false,gI 19 (.mv (.t 0)) 0 16 false,gI 20 (.len (.t 19)) 0 16 false,gI 21 (.bin .neq (.t 18) (.t 20)) 0 16 false,oI 22 (.pick (.t 16) (.c (.bool true)) (.t 21)) 0,mI 23 22 0,gI 24 (.mv (.t 6)) 0 23 false,gI 25 (.call 24 [.t 24]) 0 23 false,gI 26 (.bin .neq (.t 25) (cI 0)) 0 23 false,oI 27 (.pick (.t 23) (.c (.bool true)) (.t 26)) 0]
def Yeu:List IOp := [oI 4 (.mv (.c .nils)) 0,oI 5 (.mv (.c (.bool false))) 0]
def Zxa:List IOp := [mI 28 6 0,oI 29 (.call 27 [.t 28]) 0,mI 4 29 0,oI 5 (.mv (.c (.bool true))) 0]
def Ydq:CC := .seq (.rg false Zzu) (.seq (.rg false Zyg) (.seq (.seq (.rg false Zya) (.cond (.t 27) (.seq (.rg false Yeu) .ret) .skip)) (.seq (.rg false Zxa) .ret)))
abbrev Yl0:Nat:=23
theorem Yh4:fnOk Tryz.prog 23=some (30,Ydq,[.tmp 4,.tmp 5]):=by kernel_rfl
def Zet:List IOp := [oI 2 (.box (.t 0)) 0,oI 4 (.mv (.c (.bool false))) 1]
def Ze0:List IOp := [fI 23 0 2 0,lI 24 23 0,oI 25 (.bin .rem (.t 24) (.c (.int .u8 4))) 0,fI 26 0 2 0,⟨none,.st 1 (.t 26) (.t 25),0,[],[],none⟩]
def Zew:List IOp := [lJ 28 5 2 0,oI 29 (.call 22 [.t 28]) 0,mI 27 29 0,eI 30 0 27 0,eI 31 1 27 0,mI 5 30 0,mI 6 31 0]
def Zfe:List IOp := [mI 33 5 0,mI 34 6 0,oI 35 (.call 23 [.t 33,.t 34]) 0,mI 32 35 0,eI 36 0 32 0,eI 37 1 32 0,mI 7 36 0,mI 8 37 0]
def Ze5:List IOp := [mI 39 5 0,oI 40 (.call 41 [.t 39,cI 60]) 0,mI 38 40 0,eI 41 0 38 0,eI 42 1 38 0,mI 9 41 0,mI 10 42 0]
def Zff:List IOp := [mI 43 8 0,oI 44 (.un .not (.t 43)) 0,mI 45 44 0,gI 46 (.call 17 []) 0 45 false,gI 47 (.un .not (.t 46)) 0 45 false,oI 48 (.pick (.t 45) (.c (.bool true)) (.t 47)) 0]
def Z0w:List IOp := [oI 4 (.mv (.c (.bool false))) 0]
def Zev:List IOp := [mI 49 10 0,oI 50 (.un .not (.t 49)) 0]
def Zkv:List IOp := [oI 4 (.mv (.c (.bool true))) 0]
def Zjj:List IOp := [mI 51 1 0,oI 52 (.cvi .i64 (.t 51)) 0,mI 53 5 0,oI 54 (.len (.t 53)) 0,oI 55 (.bin .rem (.t 52) (.t 54)) 0,mI 11 55 0]
def Zi5:List IOp := [oI 12 (.mv (.c (.bool true))) 0]
def Zi7:List IOp := [oI 56 (.call 31 [cI 0]) 0,oI 13 (.alloc [.bool false,.nils,.bool false,.nils]) 0,⟨none,.st 4 (.t 13) (.t 56),1,[],[],none⟩]
def Ziz:List IOp := [oI 14 (.mv (cI 0)) 0]
def Zdu:List IOp := [mI 57 14 0,mI 58 9 0,oI 59 (.len (.t 58)) 0,oI 60 (.bin .lss (.t 57) (.t 59)) 0]
def Zjc:List IOp := [oI 63 (.call 31 [cI 0]) 0,oI 15 (.alloc [.bool false,.nils,.bool false,.nils]) 0,⟨none,.st 4 (.t 15) (.t 63),1,[],[],none⟩]
def Zi8:List IOp := [oI 16 (.mv (.c (.bool true))) 0]
def Zjd:List IOp := [oI 17 (.mv (cI 0)) 0]
def Zds:List IOp := [mI 64 17 0,mI 65 9 0,oI 66 (.len (.t 65)) 0,oI 67 (.bin .lss (.t 64) (.t 66)) 0]
def Zji:List IOp := [oI 18 (.mv (.c (.bool true))) 0]
def Zi4:List IOp := [oI 19 (.mv (cI 0)) 0]
def Zbj:List IOp := [mI 70 19 0,mI 71 5 0,oI 72 (.len (.t 71)) 0,oI 73 (.bin .lss (.t 70) (.t 72)) 0]
def Zbh:List IOp := [mI 76 18 0,mI 77 76 0,gI 78 (.mv (.t 5)) 0 77 true,gI 79 (.mv (.t 19)) 0 77 true,gI 80 (.idx 3 (.t 78) (.t 79)) 0 77 true,gI 81 (.fa 0 (.t 80)) 0 77 true,gI 82 (.ld none (.t 81)) 0 77 true,gI 83 (.bin .neq (.t 82) (cI 1)) 0 77 true,gI 84 (.mv (.t 83)) 0 77 true,gI 85 (.mv (.t 9)) 0 84 false,gI 86 (.mv (.t 14)) 0 84 false,gI 87 (.idx 1 (.t 85) (.t 86)) 0 84 false,gI 88 (.ld none (.t 87)) 0 84 false,gI 89 (.mv (.t 19)) 0 84 false,gI 90 (.idx 1 (.t 88) (.t 89)) 0 84 false,gI 91 (.ld none (.t 90)) 0 84 false,gI 92 (.mv (.t 9)) 0 84 false,gI 93 (.mv (.t 17)) 0 84 false,gI 94 (.idx 1 (.t 92) (.t 93)) 0 84 false,gI 95 (.ld none (.t 94)) 0 84 false,gI 96 (.mv (.t 19)) 0 84 false,gI 97 (.idx 1 (.t 95) (.t 96)) 0 84 false,gI 98 (.ld none (.t 97)) 0 84 false,gI 99 (.bin .eql (.t 91) (.t 98)) 0 84 false,gI 100 (.pick (.t 84) (.c (.bool true)) (.t 99)) 0 77 true,oI 101 (.pick (.t 77) (.t 100) (.c (.bool false))) 0,mI 18 101 0]
@[go_sem ↓] theorem Zsi : autoK Zbh = (0, 0) := by kernel_rfl
@[go_sem] theorem Yg7 : autoK [mI 76 18 0, mI 77 76 0, gI 78 (.mv (.t 5)) 0 77 true, gI 79 (.mv (.t 19)) 0 77 true, gI 80 (.idx 3 (.t 78) (.t 79)) 0 77 true, gI 81 (.fa 0 (.t 80)) 0 77 true, gI 82 (.ld none (.t 81)) 0 77 true, gI 83 (.bin .neq (.t 82) (cI 1)) 0 77 true, gI 84 (.mv (.t 83)) 0 77 true, gI 85 (.mv (.t 9)) 0 84 false, gI 86 (.mv (.t 14)) 0 84 false, gI 87 (.idx 1 (.t 85) (.t 86)) 0 84 false, gI 88 (.ld none (.t 87)) 0 84 false, gI 89 (.mv (.t 19)) 0 84 false, gI 90 (.idx 1 (.t 88) (.t 89)) 0 84 false, gI 91 (.ld none (.t 90)) 0 84 false, gI 92 (.mv (.t 9)) 0 84 false, gI 93 (.mv (.t 17)) 0 84 false, gI 94 (.idx 1 (.t 92) (.t 93)) 0 84 false, gI 95 (.ld none (.t 94)) 0 84 false, gI 96 (.mv (.t 19)) 0 84 false, gI 97 (.idx 1 (.t 95) (.t 96)) 0 84 false, gI 98 (.ld none (.t 97)) 0 84 false, gI 99 (.bin .eql (.t 91) (.t 98)) 0 84 false, gI 100 (.pick (.t 84) (.c (.bool true)) (.t 99)) 0 77 true, oI 101 (.pick (.t 77) (.t 100) (.c (.bool false))) 0, mI 18 101 0] = (0, 0) := Zsi
def Zb7:List IOp := [mI 74 19 0,oI 75 (.bin .add (.t 74) (cI 1)) 0,mI 19 75 0]
def Ze6:CC := .seq (.seq (.rg false Zbj) (.cond (.t 73) .skip (.exit 4))) (.seq (.block 5 (.rg true Zbh)) (.rg false Zb7))
def Zdh:List IOp := [mI 102 18 0,oI 103 (.un .not (.t 102)) 0]
def Zi6:List IOp := [mI 105 5 0,mI 106 6 0,mI 107 9 0,mI 108 17 0,xI 109 1 107 108 0,lI 110 109 0,oI 111 (.call 38 [.t 105,.t 106,.t 110]) 0,mI 104 111 0,eI 112 0 104 0,eI 113 1 104 0,mI 20 112 0,mI 21 113 0]
def Zjg:List IOp := [mI 114 21 0,oI 115 (.bin .neq (.t 114) (cI 0)) 0,mI 116 115 0,gI 117 (.mv (.t 20)) 0 116 false,gI 118 (.len (.t 117)) 0 116 false,gI 119 (.mv (.t 5)) 0 116 false,gI 120 (.len (.t 119)) 0 116 false,gI 121 (.bin .neq (.t 118) (.t 120)) 0 116 false,oI 122 (.pick (.t 116) (.c (.bool true)) (.t 121)) 0,mI 123 122 0,gI 124 (.mv (.t 20)) 0 123 false,gI 125 (.mv (.t 11)) 0 123 false,gI 126 (.idx 1 (.t 124) (.t 125)) 0 123 false,gI 127 (.ld none (.t 126)) 0 123 false,gI 128 (.call 42 [.t 127]) 0 123 false,gI 129 (.un .not (.t 128)) 0 123 false,oI 130 (.pick (.t 123) (.c (.bool true)) (.t 129)) 0]
def Zw4:List IOp := [oI 4 (.mv (.c (.bool false))) 0]
def Zjh:List IOp := [mI 131 20 0,mI 132 11 0,xI 133 1 131 132 0,lI 134 133 0,oI 135 (.call 21 [.t 134]) 0,oI 22 (.alloc [.bool false,.nils,.bool false,.nils]) 0,⟨none,.st 4 (.t 22) (.t 135),1,[],[],none⟩]
def Zdr:List IOp := [mI 136 16 0,mI 137 136 0,gI 138 (.ld (some 4) (.t 22)) 0 137 false,gI 139 (.ld (some 4) (.t 15)) 0 137 false,gI 140 (.call 25 [.t 138,.t 139]) 0 137 false,gI 141 (.bin .lss (.t 140) (cI 0)) 0 137 false,oI 142 (.pick (.t 137) (.c (.bool true)) (.t 141)) 0]
def Zdn:List IOp := [lJ 143 4 22 0,⟨none,.st 4 (.t 15) (.t 143),0,[],[],none⟩,oI 16 (.mv (.c (.bool false))) 0]
def Zbi:List IOp := [mI 68 17 0,oI 69 (.bin .add (.t 68) (cI 1)) 0,mI 17 69 0]
def Ze3:CC := .seq (.seq (.rg false Zds) (.cond (.t 67) .skip (.exit 2))) (.seq (.block 3 (.seq (.rg false Zji) (.seq (.seq (.rg false Zi4) (.block 4 (.loop Ze6))) (.seq (.seq (.rg false Zdh) (.cond (.t 103) (.exit 3) .skip)) (.seq (.rg false Zi6) (.seq (.seq (.rg false Zjg) (.cond (.t 130) (.seq (.rg false Zw4) .ret) .skip)) (.seq (.rg false Zjh) (.seq (.rg false Zdr) (.cond (.t 142) (.rg false Zdn) .skip))))))))) (.rg false Zbi))
def Zdl:List IOp := [mI 144 12 0,mI 145 144 0,gI 146 (.ld (some 4) (.t 15)) 0 145 false,gI 147 (.ld (some 4) (.t 13)) 0 145 false,gI 148 (.call 25 [.t 146,.t 147]) 0 145 false,gI 149 (.bin .gtr (.t 148) (cI 0)) 0 145 false,oI 150 (.pick (.t 145) (.c (.bool true)) (.t 149)) 0]
def Zdp:List IOp := [lJ 151 4 15 0,⟨none,.st 4 (.t 13) (.t 151),0,[],[],none⟩,oI 12 (.mv (.c (.bool false))) 0]
def Zb8:List IOp := [mI 61 14 0,oI 62 (.bin .add (.t 61) (cI 1)) 0,mI 14 62 0]
def Zfc:CC := .seq (.seq (.rg false Zdu) (.cond (.t 60) .skip (.exit 0))) (.seq (.block 1 (.seq (.rg false Zjc) (.seq (.rg false Zi8) (.seq (.seq (.rg false Zjd) (.block 2 (.loop Ze3))) (.seq (.rg false Zdl) (.cond (.t 150) (.rg false Zdp) .skip)))))) (.rg false Zb8))
def Zdo:List IOp := [lJ 152 4 13 0,mI 153 7 0,mI 154 11 0,xI 155 4 153 154 0,lJ 156 4 155 0,oI 157 (.callw 25 [.t 152,.t 156]) 0,oI 158 (.bin .eql (.t 157) (cI 0)) 0,mI 4 158 0]
@[go_sem ↓] theorem Zsp : autoK Zdo = (0, 0) := by kernel_rfl
@[go_sem] theorem Yhk : autoK [lJ 152 4 13 0, mI 153 7 0, mI 154 11 0, xI 155 4 153 154 0, lJ 156 4 155 0, oI 157 (.callw 25 [.t 152, .t 156]) 0, oI 158 (.bin .eql (.t 157) (cI 0)) 0, mI 4 158 0] = (0, 0) := Zsp
def Zik:CC := .seq (.rg false Zet) (.seq (.rg false Ze0) (.seq (.rg false Zew) (.seq (.rg false Zfe) (.seq (.rg false Ze5) (.seq (.seq (.rg false Zff) (.cond (.t 48) (.seq (.rg false Z0w) .ret) .skip)) (.seq (.seq (.rg false Zev) (.cond (.t 50) (.seq (.rg false Zkv) .ret) .skip)) (.seq (.rg false Zjj) (.seq (.rg false Zi5) (.seq (.rg false Zi7) (.seq (.seq (.rg false Ziz) (.block 0 (.loop Zfc))) (.seq (.rg true Zdo) .ret)))))))))))
abbrev Z6j:Nat:=10
theorem Zls:fnOk Tryz.prog 10=some (159,Zik,[.tmp 4]):=by kernel_rfl
def Zxk:List IOp := [oI 1 (.box (.t 0)) 0,oI 2 (.mv (.c .nils)) 1,oI 3 (.mv (.c (.str ⟨#[]⟩))) 1]
def Zye:List IOp := [fI 4 0 1 0,lI 5 4 0,fI 6 2 1 0,lI 7 6 0,fI 8 3 1 0,lI 9 8 0,fI 10 4 1 0,lI 11 10 0,fI 12 1 1 0,lI 13 12 0,oI 14 (.call 60 [.t 5,.t 7,.t 9,.t 11,.t 13]) 0,eI 15 0 14 0,eI 16 1 14 0,mI 2 15 0,mI 3 16 0]
def Yda:CC := .seq (.rg false Zxk) (.seq (.rg false Zye) .ret)
abbrev Yl4:Nat:=22
theorem Yi3:fnOk Tryz.prog 22=some (17,Yda,[.tmp 2,.tmp 3]):=by kernel_rfl
end GoAbs
namespace GoAbs
open Go Go.Proofs
set_option maxHeartbeats 4000000
def strsL (l:List (List UInt8)):List AV:=l.map fun s => .str (bs s)
theorem rsame {l:List (List UInt8)}(hl:l.length≤1000000):SpecV Tryz.prog Yhb [.sl (strsL l),.sl (strsL l)] (.bool true):=by
 have hmx:Tryz.prog.follows .mixedOrders=true:=by kernel_rfl
 have hsl:(strsL l).length=l.length:=by simp [strsL]
 refine Zba Yen (by simp) (Zbg 1 rfl ?_)
 unfold Z73
 simp only [go_sem,Zvd,Zv0,hsl]
 refine Zbc (Zbc (T_W ?_))
 simp only [go_sem,Zt5]
 refine Za8 (Zaf (fun i:Nat=>⟨envL [(0,.sl (strsL l)),(1,.sl (strsL l)),(5,.int .i64 (i:Int))],[]⟩)
  (fun i=>i≤l.length) (fun i=>l.length - i) 0 (by omega) (Zab _ (by simp only [go_sem]; simp)) (fun i hi N hN=>?_))
 unfold Zv1
 by_cases hin:i<l.length
 ·obtain ⟨s,hs⟩:∃ s,l[i]? = some s:=⟨_,List.getElem?_eq_getElem hin⟩
  have hget:(strsL l)[i]? = some (.str (bs s)):=by simp [strsL,hs]
  have q0:(0:Int)≤(i:Int):=by omega
  have q1:(i:Int)<(l.length:Int):=by omega
  have e1:IntKind.i64.wrap ((i:Int)+1)=((i+1:Nat):Int):=by rw [Zac (by omega) (by omega)]; omega
  simp only [go_sem,Zlb,Zj8,Zwd,q0,q1,hsl,hget,hmx,e1]
  exact hN (i+1) _ (by omega) (by omega) (Zab _ (by simp only [go_sem]))
 ·have hie:i=l.length:=by omega
  subst hie
  have q1:¬ ((l.length:Nat):Int)<(l.length:Int):=by omega
  simp only [go_sem,Zlb,hsl,q1]
  refine T_W ?_
  simp only [go_sem,Zuo]
def L1:List Nd := [⟨1,[49],[(0,[])]⟩]
def d12:List UInt8 := [49,47,50]
theorem Yjk:GIn L1 d12:=by
 refine ⟨.inl (by decide),by decide,fun n hn=>?_⟩
 simp [L1] at hn
 subst hn
 refine ⟨by decide,by decide,fun m hm=>?_⟩
 simp at hm
 subst hm
 decide
theorem Ym9:eC L1 d12=0:=by decide+kernel
theorem Ynp:toGm L1 d12=⟨[⟨1,[0],[]⟩],[1],1/2⟩:=by
 unfold toGm L1 d12 toGN oddsQ
 have h1:parseL [49]=some 1:=by decide+kernel
 have h2:parseL [49,47,50]=some (1/2):=by decide+kernel
 simp [h1,h2,hasO]
theorem Y8a:valG (toGm L1 d12) = [2]:=by
 rcases Z3i Yjk with ⟨h,_⟩ | ⟨_,_,hg,_⟩
 ·exact absurd Ym9 h
 ·symm
  refine Ymg hg (by rw [Ynp]; rfl) (fun i hi=>?_)
  rw [Ynp] at hi ⊢
  have:i=0:=by simpa using hi
  subst this
  decide+kernel
theorem Y9b:rndR (toGm L1 d12) 3 = [7/4]:=by rw [Ynp]; decide+kernel
theorem Y6y {H:Heap}{ids:List Nat}{b:Nat}{k:Int}{s:ByteArray}{X:AV}{M:List AV}(hb:H[b]? = some (.cells [.int .i64 k,.str s,X])) (hi:b∈ids) (hX:BV H ids X (.sl M)):BV H ids (.osl (some 3) b 0 1) (.sl [.agg [.int .i64 k,.str s,.sl M]]):=by
 refine .osl (some 3) b 0 1 _ _ hb hi rfl (fun x hx=>by simp at hx; subst hx; rfl) (by simp [es]) (fun i x j y z hx hy hz=>?_)
 have hi0:i=0:=by
  have:=(List.getElem?_eq_some_iff.1 hx).1
  simp at this; exact this
 subst hi0
 simp at hx
 subst hx
 rw [show 0+(0*es (some 3)+j)=j by simp] at hz
 match j with
 | 0=>simp [AV.cells] at hy hz; subst hy hz; exact .int _ _
 | 1=>simp [AV.cells] at hy hz; subst hy hz; exact .str _
 | 2=>simp [AV.cells] at hy hz; subst hy hz; exact hX
 | j+3=>simp [AV.cells] at hy
theorem Y7b {H:Heap}{ids:List Nat}{b:Nat}{k:Int}{s:ByteArray}(hb:H[b]? = some (.cells [.int .i64 k,.str s])) (hi:b∈ids):BV H ids (.osl (some 2) b 0 1) (.sl [.agg [.int .i64 k,.str s]]):=by
 refine .osl (some 2) b 0 1 _ _ hb hi rfl (fun x hx=>by simp at hx; subst hx; rfl) (by simp [es]) (fun i x j y z hx hy hz=>?_)
 have hi0:i=0:=by
  have:=(List.getElem?_eq_some_iff.1 hx).1
  simp at this; exact this
 subst hi0
 simp at hx
 subst hx
 rw [show 0+(0*es (some 2)+j)=j by simp] at hz
 match j with
 | 0=>simp [AV.cells] at hy hz; subst hy hz; exact .int _ _
 | 1=>simp [AV.cells] at hy hz; subst hy hz; exact .str _
 | j+2=>simp [AV.cells] at hy
theorem Y05 {H:Heap}{ids:List Nat}{b:Nat}{s:ByteArray}(hb:H[b]? = some (.cells [.str s])) (hi:b∈ids):BV H ids (.osl none b 0 1) (.sl [.str s]):=by
 refine .osl none b 0 1 _ _ hb hi rfl (fun x hx=>by simp at hx; subst hx; rfl) (by simp [es]) (fun i x j y z hx hy hz=>?_)
 have hi0:i=0:=by
  have:=(List.getElem?_eq_some_iff.1 hx).1
  simp at this; exact this
 subst hi0
 simp at hx
 subst hx
 match j with
 | 0=>simp [AV.cells,es] at hy hz; subst hy hz; exact .str _
 | j+1=>simp [AV.cells] at hy
theorem wlives:SpecV Tryz.prog Yoq [] (.bool true):=by
 have hv:=wvalue Yjk
 rw [if_pos Ym9,Y8a,show numsR [2] = .tup [.sl (strsL [[50]]),.int .i64 0] by
  unfold numsR
  rw [if_pos (by decide+kernel)]
  have:numS 2 = [50]:=by decide+kernel
  simp [ss,strsL,this]] at hv
 have hr:=wrounds (r:=3) Yjk (by omega)
 rw [show rC L1 d12 3=0 by unfold rC; rw [Ym9]; rfl,if_pos rfl,show (3:Int).toNat=3 from rfl,Y9b,show numsR [7/4] = .tup [.sl (strsL [[55,47,52]]),.int .i64 0] by
  unfold numsR
  rw [if_pos (by decide+kernel)]
  have:numS (7/4) = [55,47,52]:=by decide+kernel
  simp [ss,strsL,this]] at hr
 refine Zad Ykt (by simp) ?_
 unfold Ygz
 simp only [go_sem,Z49,Z5a]
 refine Zjb (ids := [0,1]) hv (.cons (Y6y rfl (by simp) (Y7b rfl (by simp))) (.cons (.str _) .nil)) ?_
 simp only [go_sem,Z5c,kill,List.foldl_cons,List.foldl_nil]
 refine Zjb (ids := [2,3]) hr (.cons (Y6y rfl (by simp) (Y7b rfl (by simp))) (.cons (.str _) (.cons (.int _ _) .nil))) ?_
 simp only [go_sem,Z4q,kill,List.foldl_cons,List.foldl_nil]
 have s1:=rsame (l := [[50]]) (by decide)
 have s2:=rsame (l := [[55,47,52]]) (by decide)
 refine Zus (ids := [4]) s1 (.cons (.sl _) (.cons (Y05 rfl (by simp)) .nil)) (.inr (.bool _)) (fun b _=>trivial) ?_
 simp only [go_sem]
 refine Zus (ids := [5]) s2 (.cons (.sl _) (.cons (Y05 rfl (by simp)) .nil)) (.inr (.bool _)) (fun b _=>trivial) ?_
 simp only [go_sem]
end GoAbs
namespace GoAbs
open Go Go.Proofs
set_option maxHeartbeats 4000000
end GoAbs
namespace GoAbs
open Go Go.Proofs
set_option maxHeartbeats 4000000
theorem Ya1 {H:Heap}{ids:List Nat}{q:Rat}:BVs H ids (rq q) (rq q)=True:=Y69
end GoAbs
namespace GoAbs
open Go Go.Proofs
set_option maxHeartbeats 8000000
theorem txts_len' (M:List (List UInt8)):(txts M).length=M.length:=by simp [txts]
end GoAbs
namespace GoAbs
open Go Go.Proofs
set_option maxHeartbeats 4000000
theorem Yr1 (M:List (List UInt8)):M.map strAV=txts M:=rfl
end GoAbs
namespace GoAbs
open Go Go.Proofs
set_option maxHeartbeats 4000000
end GoAbs
namespace GoAbs
open Go Go.Proofs
set_option exponentiation.threshold 20000
def rho (l lo hi:Nat) (sg:Rat) (s:Nat):Rat:=if s=l then 1 else if lo≤s∧s<hi then sg else 0
end GoAbs
namespace GoAbs
open Go Go.Proofs
end GoAbs
namespace GoAbs
open Go Go.Proofs
set_option exponentiation.threshold 20000
theorem Ymh {q:Rat}(h:NumOk q):(numS q).length≤1000000000:=by have:=Y2r h; omega
end GoAbs
namespace GoAbs
open Go Go.Proofs
set_option exponentiation.threshold 20000
theorem Yxm {F:List Rat}(hok:∀ q,q∈F→NumOk q):(F.map numS).map toQ=F:=by
 rw [List.map_map]
 conv=>rhs; rw [← List.map_id F]
 exact List.map_congr_left fun q hq=>by
  show toQ (numS q)=q
  unfold toQ; rw [Zwy (hok q hq)]; rfl
end GoAbs
namespace GoAbs
open Go Go.Proofs
set_option maxHeartbeats 4000000
theorem Ye5 {g:Gm}(hg:GmP g) (hl:GmL g):Rb 4000 (valG g):=by
 obtain ⟨q,h1,h2⟩:=Yav hg
 rw [h2]
 exact Zo1 hg hl h1.ok
theorem Ynv (x:List Rat):ss x=txts (x.map numS):=by unfold ss txts; rw [List.map_map]; rfl
end GoAbs
namespace GoAbs
open Go Go.Proofs
set_option maxHeartbeats 8000000
def pk (l:List Int) (i:Nat):Int:=l.getD i 0
def mdMany (mv:List Int) (i:Nat):Nat:=(pk mv (4*i) % 3+1).toNat
def mdW (mv:List Int) (i k:Nat):Int:=IntKind.i64.wrap ((pk mv (4*i+k+1)).tdiv 7) % 3+1
def mdS (mv:List Int) (i:Nat):Nat→Int
 | 0=>0
 | k+1=>mdS mv i k+mdW mv i k
def mdKind (ks:List Int) (i:Nat):Int:=pk ks i % 3+1
def mdRew (rs:List Int) (i:Nat):Rat:=(((pk rs i).tmod 50:Int):Rat)
def mdOdd (mv:List Int) (i k:Nat):Rat:=Rat.divInt (mdW mv i k) (mdS mv i (mdMany mv i))
def mdMv (size:Nat) (kd:Int) (mv:List Int) (i k:Nat):Mv:=(pk mv (4*i+k+1) % (size:Int),if kd=3 then numS (mdOdd mv i k) else [])
def mdN (size:Nat) (ks rs mv:List Int) (i:Nat):Nd:=⟨mdKind ks i,numS (mdRew rs i),(List.range (mdMany mv i)).map (mdMv size (mdKind ks i) mv i)⟩
def mdL (size:Nat) (ks rs mv:List Int):List Nd:=(List.range size).map (mdN size ks rs mv)
def mdD (d:Int):Rat:=Rat.divInt (d % 7) (d % 7+1+d / 7 % 3)
theorem Zvl (mv:List Int) (i:Nat):1≤mdMany mv i∧mdMany mv i≤3:=by
 unfold mdMany
 have h1:=Int.emod_nonneg (pk mv (4*i)) (show (3:Int)≠0 by decide)
 have h2:=Int.emod_lt_of_pos (pk mv (4*i)) (show (0:Int)<3 by decide)
 omega
theorem Yrz (mv:List Int) (i k:Nat):1≤mdW mv i k∧mdW mv i k≤3:=by
 unfold mdW
 have h1:=Int.emod_nonneg (IntKind.i64.wrap ((pk mv (4*i+k+1)).tdiv 7)) (show (3:Int)≠0 by decide)
 have h2:=Int.emod_lt_of_pos (IntKind.i64.wrap ((pk mv (4*i+k+1)).tdiv 7)) (show (0:Int)<3 by decide)
 omega
theorem Yw2 (mv:List Int) (i:Nat):∀ k:Nat,(k:Int)≤mdS mv i k∧mdS mv i k≤3*k
 | 0=>by unfold mdS; omega
 | k+1=>by
  have h1:=Yw2 mv i k
  have h2:=Yrz mv i k
  unfold mdS
  omega
theorem Yn1 (mv:List Int) (i:Nat):1≤mdS mv i (mdMany mv i)∧mdS mv i (mdMany mv i)≤9:=by
 have h1:=Zvl mv i
 have h2:=Yw2 mv i (mdMany mv i)
 omega
theorem Yjw (ks:List Int) (i:Nat):mdKind ks i=1∨mdKind ks i=2∨mdKind ks i=3:=by
 unfold mdKind
 have h1:=Int.emod_nonneg (pk ks i) (show (3:Int)≠0 by decide)
 have h2:=Int.emod_lt_of_pos (pk ks i) (show (0:Int)<3 by decide)
 omega
theorem Yse (rs:List Int) (i:Nat):(mdRew rs i).den=1∧(mdRew rs i).num=(pk rs i).tmod 50∧(mdRew rs i).num.natAbs<50:=by
 have h1:=(Ybx (v:=pk rs i) (n:=50) (by decide)).1
 have h2:=(Ybx (v:=pk rs i) (n:=50) (by decide)).2.1
 unfold mdRew
 refine ⟨rfl,rfl,?_⟩
 show ((pk rs i).tmod 50).natAbs<50
 omega
theorem Yhv (mv:List Int) (i k:Nat):(mdOdd mv i k).den≤9∧(mdOdd mv i k).num.natAbs≤3∧0<mdOdd mv i k:=by
 have h1:=Yrz mv i k
 have h2:=Yn1 mv i
 unfold mdOdd
 obtain ⟨n1,n2⟩:=Zed (n:=mdW mv i k) (d:=mdS mv i (mdMany mv i)) (by omega)
 refine ⟨by omega,by omega,?_⟩
 rw [Rat.divInt_eq_div,Rat.div_def]
 have a1:(0:Rat)<((mdW mv i k:Int):Rat):=by exact_mod_cast (show (0:Int)<mdW mv i k by omega)
 have a2:(0:Rat)<((mdS mv i (mdMany mv i):Int):Rat):=by exact_mod_cast (show (0:Int)<mdS mv i (mdMany mv i) by omega)
 exact Rat.mul_pos a1 (Rat.inv_pos.2 a2)
theorem qb20 {q:Rat}(h:q.num.natAbs<1048576∧q.den<1048576):Qb 20 q:=⟨h.1,h.2⟩
theorem lpick {p:List Int}{i:Nat}:SpecV Tryz.prog Yu2 [.sl (ivs p),.int .i64 (i:Int)] (.int .i64 (pk p i)):=by
 refine Zad Yn9 (by simp) ?_
 unfold Yml
 by_cases hi:i<p.length
 ·have q0:(0:Int)≤(i:Int):=by omega
  have q1:(i:Int)<(p.length:Int):=by omega
  have hg:(ivs p)[i]? = some (.int .i64 (pk p i)):=Zu6 (by unfold pk; rw [List.getD_eq_getElem?_getD,List.getElem?_eq_getElem hi]; rfl)
  simp only [go_sem,Zt2,Zwq,Z6w,Zat,q0,q1,hg]
 ·have q1:¬ (i:Int)<(p.length:Int):=by omega
  have hg:pk p i=0:=by unfold pk; rw [List.getD_eq_getElem?_getD,List.getElem?_eq_none (by omega)]; rfl
  rw [hg]
  simp only [go_sem,Zt2,Zwq,Z7j,Zat,q1]
theorem lfold1 {v n:Int}(hn:0<n) (hnl:n≤1000000):SpecV Tryz.prog Ynn [.int .i64 v,.int .i64 n] (.int .i64 (v % n)):=by
 obtain ⟨h1,h2,h3⟩:=Ybx (v:=v) hn
 have hn0:n≠0:=by omega
 have e1:IntKind.i64.wrap (v.tmod n+n)=v.tmod n+n:=Zac (by omega) (by omega)
 refine Zad Ykb (by simp) ?_
 unfold Ygh
 simp only [go_sem,Z1n,Z44,hn0,e1,h3]
theorem lnumq {q:Rat}{k:Nat}(hb:Qb k q) (hk:k≤10000000) (hok:NumOk q):SpecV Tryz.prog Ywm [.agg (rq q)] (.str (bs (numS q))):=by
 have h:=rnum hb.ib.1 hb.ib.2 (by have:=q.den_pos; omega) hk (Rat.num_divInt_den q)
 rw [if_pos hok] at h
 have h':SpecV Tryz.prog Yjr [.agg (rq q)] (.tup [.str (bs (numS q)),.bool true]):=h
 have rl:∀ q:Rat,(rq q).length=4:=fun q=>rfl
 refine Zad Ysu (by simp) ?_
 unfold Yrj
 simp only [go_sem,Ydl,Yde,rl,Zk6,Zka]
 refine Zaa h' (by simp only [go_sem,Ya1]) ?_
 simp only [go_sem,Ydh]
theorem Y90 {P:List AV}{B1:Blk}{ks rs mv:List Int}{d size:Int}{i:Nat}(hi:i≤10) (hP:∀ f,gcL f P=P) (hB:∀ f,B1.gc f=B1) {K:Ex→St→Prop}
  (hK:∀ e:Nat→AV,Has e [(1,.sl (ivs ks)),(2,.sl (ivs rs)),(3,.sl (ivs mv)),(4,.int .u8 d),(12,.osl (some 3) 0 0 i),(13,.int .i64 size),(14,.int .i64 (i:Int)),(15,.ptr 1 0),(16,.int .i64 (mdMany mv i:Int)),(17,.osl none 2 0 (mdMany mv i)),(18,.int .i64 (mdS mv i (mdMany mv i)))] →
   K (.exit 2) ⟨e,[.cells P,B1,.cells (ivs ((List.range (mdMany mv i)).map (mdW mv i)))]⟩) :
  T Tryz.prog 125 0 (.loop Zwf) ⟨envL [(1,.sl (ivs ks)),(2,.sl (ivs rs)),(3,.sl (ivs mv)),(4,.int .u8 d),(12,.osl (some 3) 0 0 i),(13,.int .i64 size),(14,.int .i64 (i:Int)),(15,.ptr 1 0),(16,.int .i64 (mdMany mv i:Int)),(17,.osl none 2 0 0),(18,.int .i64 0),(19,.int .i64 0)],[.cells P,B1,.cells []]⟩ K:=by
 have hmx:Tryz.prog.follows .mixedOrders=true:=by kernel_rfl
 have hm:=Zvl mv i
 obtain ⟨n,hn⟩:∃ n,n=mdMany mv i:=⟨_,rfl⟩
 rw [← hn] at hK hm ⊢
 refine Zaf (fun k:Nat=>⟨envL [(1,.sl (ivs ks)),(2,.sl (ivs rs)),(3,.sl (ivs mv)),(4,.int .u8 d),(12,.osl (some 3) 0 0 i),(13,.int .i64 size),(14,.int .i64 (i:Int)),(15,.ptr 1 0),(16,.int .i64 (n:Int)),(17,.osl none 2 0 k),(18,.int .i64 (mdS mv i k)),(19,.int .i64 (k:Int))],[.cells P,B1,.cells (ivs ((List.range k).map (mdW mv i)))]⟩)
  (fun k=>k≤n) (fun k=>n - k) 0 (by omega) (Zab _ (by simp only [go_sem,mdS]; simp)) (fun k hk N hN=>?_)
 unfold Zwf
 by_cases hkn:k<n
 ·have hpk:=lpick (p:=mv) (i:=4*i+k+1)
  have hfo:=lfold1 (v:=IntKind.i64.wrap ((pk mv (4*i+k+1)).tdiv 7)) (n:=3) (by decide) (by decide)
  have hwl:=Yrz mv i k
  have hsl:=Yw2 mv i k
  have hwd:IntKind.i64.wrap ((pk mv (4*i+k+1)).tdiv 7) % 3=mdW mv i k - 1:=by unfold mdW; omega
  rw [hwd] at hfo
  have hs:mdS mv i (k+1)=mdS mv i k+mdW mv i k:=rfl
  have tk:ivs ((List.range (k+1)).map (mdW mv i))=ivs ((List.range k).map (mdW mv i)) ++ [.int .i64 (mdW mv i k)]:=by rw [List.range_succ]; simp [ivs]
  have l1:(ivs ((List.range k).map (mdW mv i))).length=k:=by rw [Zat]; simp
  have l2:(ivs ((List.range k).map (mdW mv i))).take k=ivs ((List.range k).map (mdW mv i)):=List.take_of_length_le (by omega)
  have hg:=fun f=>Yzp (f:=f) (p:=(List.range k).map (mdW mv i))
  generalize ivs ((List.range k).map (mdW mv i))=W at *
  have q1:(k:Int)<(n:Int):=by omega
  have s1:(k+1)*8≤1099511627776:=by omega
  have x1:IntKind.i64.wrap (4*(i:Int))=4*(i:Int):=Zac (by omega) (by omega)
  have x2:IntKind.i64.wrap (4*(i:Int)+(k:Int))=4*(i:Int)+(k:Int):=Zac (by omega) (by omega)
  have x3:IntKind.i64.wrap (4*(i:Int)+(k:Int)+1)=((4*i+k+1:Nat):Int):=by rw [Zac (by omega) (by omega)]; omega
  have x4:IntKind.i64.wrap (mdW mv i k - 1+1)=mdW mv i k:=by rw [Zac (by omega) (by omega)]; omega
  have x5:IntKind.i64.wrap (mdS mv i k+mdW mv i k)=mdS mv i k+mdW mv i k:=Zac (by omega) (by omega)
  have c7:¬ (7:Int)=0:=by decide
  have e1:IntKind.i64.wrap ((k:Int)+1)=((k+1:Nat):Int):=by rw [Zac (by omega) (by omega)]; omega
  simp only [go_sem,Zqa,Z3s,q1,x1,x2,x3]
  refine Zaa hpk (by simp only [go_sem]) ?_
  simp only [go_sem,c7]
  refine Zaa hfo (by simp only [go_sem]) ?_
  simp only [go_sem,x4,x5,Z27,s1,l1,l2,Nat.mul_one,Nat.le_refl,Z3v,e1,List.cons_append,List.nil_append]
  refine hN (k+1) _ (by omega) (by omega) (Zbz (Zgb [0,1,4] (by decide) (fun i hi=>by omega) [(1,.sl (ivs ks)),(2,.sl (ivs rs)),(3,.sl (ivs mv)),(4,.int .u8 d),(12,.osl (some 3) 0 0 i),(13,.int .i64 size),(14,.int .i64 (i:Int)),(15,.ptr 1 0),(16,.int .i64 (n:Int)),(17,.osl none 4 0 (k+1)),(18,.int .i64 (mdS mv i k+mdW mv i k)),(19,.int .i64 ((k+1:Nat):Int))] (by simp only [go_sem])) ?_)
  show St.mk _ [Blk.cells (gcL _ P),B1.gc _,Blk.cells (gcL _ (W ++ [AV.int .i64 (mdW mv i k)]))]=_
  rw [Z45,hg,hP,hB,hs,tk]
  rfl
 ·have hke:k=n:=by omega
  subst hke
  have q1:¬ ((k:Nat):Int)<(k:Int):=by omega
  simp only [go_sem,Zqa,q1]
  exact hK _ (by simp only [go_sem])
theorem Y8x {P:List AV}{ks rs mv:List Int}{d kd:Int}{size:Nat}{i:Nat}{s:ByteArray}(hi:i≤10) (hsz:1≤size∧size≤10) (hP:∀ f,gcL f P=P) (hkd:kd=1∨kd=2∨kd=3) {K:Ex→St→Prop}
  (hK:∀ e:Nat→AV,Has e [(1,.sl (ivs ks)),(2,.sl (ivs rs)),(3,.sl (ivs mv)),(4,.int .u8 d),(12,.osl (some 3) 0 0 i),(13,.int .i64 (size:Int)),(14,.int .i64 (i:Int)),(15,.ptr 1 0)] →
   K (.exit 4) ⟨e,[.cells P,.cells [.int .i64 kd,.str s,.osl (some 2) 3 0 (mdMany mv i)],.cells (ivs ((List.range (mdMany mv i)).map (mdW mv i))),.cells (((List.range (mdMany mv i)).map (mdMv size kd mv i)).flatMap mvC)]⟩) :
  T Tryz.prog 125 0 (.loop Zlx) ⟨envL [(1,.sl (ivs ks)),(2,.sl (ivs rs)),(3,.sl (ivs mv)),(4,.int .u8 d),(12,.osl (some 3) 0 0 i),(13,.int .i64 (size:Int)),(14,.int .i64 (i:Int)),(15,.ptr 1 0),(16,.int .i64 (mdMany mv i:Int)),(17,.osl none 2 0 (mdMany mv i)),(18,.int .i64 (mdS mv i (mdMany mv i))),(21,.int .i64 0)],
   [.cells P,.cells [.int .i64 kd,.str s,.osl (some 2) 3 0 0],.cells (ivs ((List.range (mdMany mv i)).map (mdW mv i))),.cells []]⟩ K:=by
 have hmx:Tryz.prog.follows .mixedOrders=true:=by kernel_rfl
 have hm:=Zvl mv i
 have hsp:=Yn1 mv i
 have hod:∀ k,mdOdd mv i k=Rat.divInt (mdW mv i k) (mdS mv i (mdMany mv i)):=fun k=>rfl
 have hodl:=Yhv mv i
 obtain ⟨sm,hsm⟩:∃ sm,sm=mdS mv i (mdMany mv i):=⟨_,rfl⟩
 rw [← hsm] at hod hsp ⊢
 obtain ⟨n,hn⟩:∃ n,n=mdMany mv i:=⟨_,rfl⟩
 rw [← hn] at hK hm ⊢
 have hwl:(ivs ((List.range n).map (mdW mv i))).length=n:=by rw [Zat]; simp
 have hwg:∀ k,k<n→(ivs ((List.range n).map (mdW mv i)))[k]? = some (.int .i64 (mdW mv i k)):=fun k hk=>Zu6 (by rw [List.getElem?_map,List.getElem?_range hk]; rfl)
 have hWgc:=fun f=>Yzp (f:=f) (p:=(List.range n).map (mdW mv i))
 generalize ivs ((List.range n).map (mdW mv i))=W at *
 refine Zaf (fun k:Nat=>⟨envL [(1,.sl (ivs ks)),(2,.sl (ivs rs)),(3,.sl (ivs mv)),(4,.int .u8 d),(12,.osl (some 3) 0 0 i),(13,.int .i64 (size:Int)),(14,.int .i64 (i:Int)),(15,.ptr 1 0),(16,.int .i64 (n:Int)),(17,.osl none 2 0 n),(18,.int .i64 sm),(21,.int .i64 (k:Int))],
   [.cells P,.cells [.int .i64 kd,.str s,.osl (some 2) 3 0 k],.cells W,.cells (((List.range k).map (mdMv size kd mv i)).flatMap mvC)]⟩)
  (fun k=>k≤n) (fun k=>n - k) 0 (by omega) (Zab _ (by simp only [go_sem]; simp)) (fun k hk N hN=>?_)
 unfold Zlx
 by_cases hkn:k<n
 ·have hpk:=lpick (p:=mv) (i:=4*i+k+1)
  have hfo:=lfold1 (v:=pk mv (4*i+k+1)) (n:=(size:Int)) (by omega) (by omega)
  have htk:((List.range (k+1)).map (mdMv size kd mv i)).flatMap mvC=((List.range k).map (mdMv size kd mv i)).flatMap mvC ++ [.int .i64 (pk mv (4*i+k+1) % (size:Int)),.str (bs (if kd=3 then numS (mdOdd mv i k) else []))]:=by
   rw [List.range_succ,List.map_append,List.flatMap_append]; rfl
  have hPl:(((List.range k).map (mdMv size kd mv i)).flatMap mvC).length=k*2:=by rw [Xbv]; simp
  have hPg:=fun f=>Y6m (M:=(List.range k).map (mdMv size kd mv i)) f
  generalize ((List.range k).map (mdMv size kd mv i)).flatMap mvC=Q at *
  have hwk:=Yrz mv i k
  have hgw:(W.drop k)[0]? = some (.int .i64 (mdW mv i k)):=by rw [List.getElem?_drop,Nat.add_zero]; exact hwg k hkn
  have q0:(0:Int)≤(k:Int):=by omega
  have q1:(k:Int)<(n:Int):=by omega
  have s1:(k+1)*24≤1099511627776:=by omega
  have s2:k*2≤Q.length:=by omega
  have tQ:Q.take (k*2)=Q:=List.take_of_length_le (by omega)
  have x1:IntKind.i64.wrap (4*(i:Int))=4*(i:Int):=Zac (by omega) (by omega)
  have x2:IntKind.i64.wrap (4*(i:Int)+(k:Int))=4*(i:Int)+(k:Int):=Zac (by omega) (by omega)
  have x3:IntKind.i64.wrap (4*(i:Int)+(k:Int)+1)=((4*i+k+1:Nat):Int):=by rw [Zac (by omega) (by omega)]; omega
  have e1:IntKind.i64.wrap ((k:Int)+1)=((k+1:Nat):Int):=by rw [Zac (by omega) (by omega)]; omega
  have fin:∀ (e:Nat→AV) (kd':Int) (l:List UInt8) (B4 B5:Blk),kd'=kd→l=(if kd=3 then numS (mdOdd mv i k) else [])→Has e [(1,.sl (ivs ks)),(2,.sl (ivs rs)),(3,.sl (ivs mv)),(4,.int .u8 d),(12,.osl (some 3) 0 0 i),(13,.int .i64 (size:Int)),(14,.int .i64 (i:Int)),(15,.ptr 1 0),(16,.int .i64 (n:Int)),(17,.osl none 2 0 n),(18,.int .i64 sm),(21,.int .i64 ((k+1:Nat):Int))] →
    N ⟨e,[.cells P,.cells [.int .i64 kd',.str s,.osl (some 2) 6 0 (k+1)],.cells W,.dead,B4,B5,.cells (Q ++ [.int .i64 (pk mv (4*i+k+1) % (size:Int)),.str (bs l)])]⟩:=fun e kd' l B4 B5 hkd' hl he=>by
   subst hkd' hl
   refine hN (k+1) _ (by omega) (by omega) (Zbz (Zgb [0,1,2,6] (by decide) (fun i hi=>by omega) _ he) ?_)
   rw [← htk]
   show St.mk _ [Blk.cells (gcL _ P),_,Blk.cells (gcL _ W),Blk.cells (gcL _ (((List.range (k+1)).map (mdMv size kd' mv i)).flatMap mvC))]=_
   rw [Y6m,hP,hWgc]
   rfl
  by_cases k3:kd=3
  ·have hob:=hodl k
   have hmk:=rmake (n:=mdW mv i k) (d:=sm) (by omega) (by omega) (by omega)
   have hmk':SpecV Tryz.prog Z5o [.int .i64 (mdW mv i k),.int .i64 sm] (.agg (rq (mdOdd mv i k))):=by rw [hod]; exact hmk
   have hqb:Qb 20 (mdOdd mv i k):=qb20 (by omega)
   have hnm:=lnumq hqb (by omega) (Zj0 hqb (by omega))
   simp only [go_sem,Zjm,Zo2,q1,x1,x2,x3]
   refine Zaa hpk (by simp only [go_sem]) ?_
   simp only [go_sem]
   refine Zaa hfo (by simp only [go_sem]) ?_
   simp only [go_sem,Zpz,Z1m,k3,q0,q1,hwl,hgw,List.cons_append,List.nil_append]
   refine Zaa hmk' (by simp only [go_sem]) ?_
   simp only [go_sem]
   refine Zaa hnm (by simp only [go_sem,Ya1]) ?_
   simp only [go_sem,Zpl,Zof,s1,s2,tQ,e1,List.cons_append,List.nil_append]
   exact fin _ _ _ _ _ k3.symm (by rw [if_pos k3]) (by simp only [go_sem])
  ·simp only [go_sem,Zjm,Zo2,q1,x1,x2,x3]
   refine Zaa hpk (by simp only [go_sem]) ?_
   simp only [go_sem]
   refine Zaa hfo (by simp only [go_sem]) ?_
   simp only [go_sem,Zpz,k3,Zpl,Zof,s1,s2,tQ,e1,List.cons_append,List.nil_append]
   exact fin _ _ [] _ _ rfl (by rw [if_neg k3]) (by simp only [go_sem])
 ·have hke:k=n:=by omega
  subst hke
  have q1:¬ ((k:Nat):Int)<(k:Int):=by omega
  simp only [go_sem,Zjm,q1]
  exact hK _ (by simp only [go_sem])
theorem Y60 {d:Int}(hd:0≤d∧d≤255):(mdD d).den≤9∧(mdD d).num.natAbs≤6:=by
 unfold mdD
 obtain ⟨n1,n2⟩:=Zed (n:=d % 7) (d:=d % 7+1+d / 7 % 3) (by omega)
 omega
theorem Y7p {ks rs mv:List Int}{d:Int}{size:Nat}(hsz:1≤size∧size≤5) {K:Ex→St→Prop}
  (hK:∀ e:Nat→AV,e 4 = .int .u8 d→e 12 = .osl (some 3) 0 0 size→K (.exit 0) ⟨e,[.cells ((mdL size ks rs mv).flatMap ndC)]⟩) :
  T Tryz.prog 125 0 (.loop Zva) ⟨envL [(1,.sl (ivs ks)),(2,.sl (ivs rs)),(3,.sl (ivs mv)),(4,.int .u8 d),(12,.osl (some 3) 0 0 0),(13,.int .i64 (size:Int)),(14,.int .i64 0)],[.cells []]⟩ K:=by
 have hmx:Tryz.prog.follows .mixedOrders=true:=by kernel_rfl
 refine Zny (fun i:Nat=>⟨envL [(1,.sl (ivs ks)),(2,.sl (ivs rs)),(3,.sl (ivs mv)),(4,.int .u8 d),(12,.osl (some 3) 0 0 i),(13,.int .i64 (size:Int)),(14,.int .i64 (i:Int))],[.cells (((List.range i).map (mdN size ks rs mv)).flatMap ndC)]⟩)
  (fun i=>i≤size) (fun i=>size - i) 0 (by omega) (Zab _ (by simp only [go_sem]; simp)) (fun i hi N hN=>?_)
 unfold Zva
 by_cases hin:i<size
 ·have hpk:=lpick (p:=ks) (i:=i)
  have hfo:=lfold1 (v:=pk ks i) (n:=3) (by decide) (by decide)
  have hpr:=lpick (p:=rs) (i:=i)
  have hpm:=lpick (p:=mv) (i:=4*i)
  have hfm:=lfold1 (v:=pk mv (4*i)) (n:=3) (by decide) (by decide)
  have hkd:=Yjw ks i
  have hkd':pk ks i % 3=mdKind ks i - 1:=by unfold mdKind; omega
  rw [hkd'] at hfo
  have hmn:=Zvl mv i
  have hmn':pk mv (4*i) % 3=(mdMany mv i:Int) - 1:=by
   unfold mdMany at hmn ⊢
   omega
  rw [hmn'] at hfm
  obtain ⟨r1,r2,r3⟩:=Yse rs i
  have hrq:Qb 20 (mdRew rs i):=qb20 ⟨by omega,by omega⟩
  have hwh:SpecV Tryz.prog Zpt [.int .i64 ((pk rs i).tmod 50)] (.agg (rq (mdRew rs i))):=by
   have h:=rwhole (v:=(pk rs i).tmod 50) (by omega)
   have e:avR ((pk rs i).tmod 50) 1 = .agg (rq (mdRew rs i)):=by unfold rq; rw [r2,r1]; rfl
   rw [e] at h
   exact h
  have hnm:=lnumq hrq (by omega) (Zj0 hrq (by omega))
  have htk:((List.range (i+1)).map (mdN size ks rs mv)).flatMap ndC=((List.range i).map (mdN size ks rs mv)).flatMap ndC++ndC (mdN size ks rs mv i):=by rw [List.range_succ,List.map_append,List.flatMap_append]; simp
  have hPl:(((List.range i).map (mdN size ks rs mv)).flatMap ndC).length=i*3:=by rw [Y9i]; simp
  have hPg:=fun f=>Xeu (M:=(List.range i).map (mdN size ks rs mv)) f
  generalize ((List.range i).map (mdN size ks rs mv)).flatMap ndC=P at *
  have c50:¬ (50:Int)=0:=by decide
  have q1:(i:Int)<(size:Int):=by omega
  have s1:(i+1)*48≤1099511627776:=by omega
  have s2:i*3≤P.length:=by omega
  have tP:P.take (i*3)=P:=List.take_of_length_le (by omega)
  have x1:IntKind.i64.wrap (4*(i:Int))=((4*i:Nat):Int):=by rw [Zac (by omega) (by omega)]; omega
  have x2:IntKind.i64.wrap (mdKind ks i - 1+1)=mdKind ks i:=by rw [Zac (by omega) (by omega)]; omega
  have x3:IntKind.i64.wrap ((mdMany mv i:Int) - 1+1)=(mdMany mv i:Int):=by rw [Zac (by omega) (by omega)]; omega
  have e1:IntKind.i64.wrap ((i:Int)+1)=((i+1:Nat):Int):=by rw [Zac (by omega) (by omega)]; omega
  refine Zbg 0 rfl ?_
  simp only [go_sem,Zui,q1]
  refine Zbc (Za8 (Zbg 2 rfl ?_))
  simp only [go_sem,Z7b]
  refine Zaa hpk (by simp only [go_sem]) ?_
  simp only [go_sem]
  refine Zaa hfo (by simp only [go_sem]) ?_
  simp only [go_sem,x2]
  refine Zaa hpr (by simp only [go_sem]) ?_
  simp only [go_sem,c50]
  refine Zaa hwh (by simp only [go_sem]) ?_
  simp only [go_sem]
  refine Zaa hnm (by simp only [go_sem,Ya1]) ?_
  simp only [go_sem,Z85,x1,List.cons_append,List.nil_append]
  refine Zaa hpm (by simp only [go_sem]) ?_
  simp only [go_sem]
  refine Zaa hfm (by simp only [go_sem]) ?_
  simp only [go_sem,x3,Z8q]
  refine T_le (Zkb 17 none (by simp only [go_sem]) [(1,.sl (ivs ks)),(2,.sl (ivs rs)),(3,.sl (ivs mv)),(4,.int .u8 d),(12,.osl (some 3) 0 0 i),(13,.int .i64 (size:Int)),(14,.int .i64 (i:Int)),(15,.ptr 1 0),(16,.int .i64 (mdMany mv i:Int)),(18,.int .i64 0)] (by simp only [go_sem])) ?_
  refine Zbc (Zbc (T_W ?_))
  simp only [go_sem,Z7n,List.cons_append,List.nil_append,List.length_cons,List.length_nil]
  refine Za8 (Zar [(1,.sl (ivs ks)),(2,.sl (ivs rs)),(3,.sl (ivs mv)),(4,.int .u8 d),(12,.osl (some 3) 0 0 i),(13,.int .i64 (size:Int)),(14,.int .i64 (i:Int)),(15,.ptr 1 0),(16,.int .i64 (mdMany mv i:Int)),(17,.osl none 2 0 0),(18,.int .i64 0),(19,.int .i64 0)] (by simp only [go_sem]) (Y90 (by omega) hPg (fun f=>rfl) (fun e he=>?_)))
  show T Tryz.prog 125 0 (.seq (.seq (.rg false Zq0) (.block 4 (.loop Zlx))) (.rg false Zgf)) _ _
  refine T_le (Zhp (Zab _ he) (Zhp Yl6 (Zbz (Yab (b:=1) (l := [.int .i64 (mdKind ks i),.str (bs (numS (mdRew rs i))),.nils]) (l' := [.int .i64 (mdKind ks i),.str (bs (numS (mdRew rs i))),.osl (some 2) 3 0 0]) rfl rfl (fun j x y hx hy=>?_)) rfl))) ?_
  ·match j with
   | 0=>simp at hx hy; subst hx hy; exact .inl rfl
   | 1=>simp at hx hy; subst hx hy; exact .inl rfl
   | 2=>simp at hx hy; subst hx hy; exact .inr ⟨rfl,_,_,_,rfl⟩
   | j+3=>simp at hx
  refine Zbc (Zbc (T_W ?_))
  simp only [go_sem,Zq0]
  refine Za8 (Zar [(1,.sl (ivs ks)),(2,.sl (ivs rs)),(3,.sl (ivs mv)),(4,.int .u8 d),(12,.osl (some 3) 0 0 i),(13,.int .i64 (size:Int)),(14,.int .i64 (i:Int)),(15,.ptr 1 0),(16,.int .i64 (mdMany mv i:Int)),(17,.osl none 2 0 (mdMany mv i)),(18,.int .i64 (mdS mv i (mdMany mv i))),(21,.int .i64 0)] (by simp only [go_sem]) (Y8x (by omega) (by omega) hPg hkd (fun e he=>?_)))
  show T Tryz.prog 125 0 (.rg false Zgf) _ _
  have hnd:ndC (mdN size ks rs mv i) = [.int .i64 (mdKind ks i),.str (bs (numS (mdRew rs i))),.sl (((List.range (mdMany mv i)).map (mdMv size (mdKind ks i) mv i)).map mvAV)]:=rfl
  refine T_le (Ypi (b:=1) (ids := [3]) (l := [.int .i64 (mdKind ks i),.str (bs (numS (mdRew rs i))),.osl (some 2) 3 0 (mdMany mv i)]) (l':=ndC (mdN size ks rs mv i)) rfl (by decide) rfl (fun j x y hx hy=>?_) [(1,.sl (ivs ks)),(2,.sl (ivs rs)),(3,.sl (ivs mv)),(4,.int .u8 d),(12,.osl (some 3) 0 0 i),(13,.int .i64 (size:Int)),(14,.int .i64 (i:Int)),(15,.ptr 1 0)] (Yhj he)) ?_
  ·rw [hnd] at hy
   match j with
   | 0=>simp at hx hy; subst hx hy; exact .inr rfl
   | 1=>simp at hx hy; subst hx hy; exact .inr rfl
   | 2 =>
    simp only [List.getElem?_cons_succ,List.getElem?_cons_zero,Option.some.injEq] at hx hy
    subst hx hy
    have hbv:=Xfi (H := [Blk.cells P,.cells [.int .i64 (mdKind ks i),.str (bs (numS (mdRew rs i))),.osl (some 2) 3 0 (mdMany mv i)],.cells (ivs ((List.range (mdMany mv i)).map (mdW mv i))),.cells (((List.range (mdMany mv i)).map (mdMv size (mdKind ks i) mv i)).flatMap mvC)]) (ids := [3]) (b:=3) (M:=(List.range (mdMany mv i)).map (mdMv size (mdKind ks i) mv i)) rfl (by simp)
    rw [List.length_map,List.length_range] at hbv
    exact .inl hbv
   | j+3=>simp at hx
  show T Tryz.prog 125 0 (.rg false Zgf) ⟨_,[.cells P,.cells (ndC (mdN size ks rs mv i)),.cells (ivs ((List.range (mdMany mv i)).map (mdW mv i))),.dead]⟩ _
  have n3:(ndC (mdN size ks rs mv i)).length=3:=rfl
  have n3':(ndC (mdN size ks rs mv i)).take 3=ndC (mdN size ks rs mv i):=rfl
  have n3d:(ndC (mdN size ks rs mv i)).drop 3 = []:=rfl
  have hng:∀ f,gcL f (ndC (mdN size ks rs mv i))=ndC (mdN size ks rs mv i):=fun f=>rfl
  generalize ndC (mdN size ks rs mv i)=nd at *
  refine T_W ?_
  simp only [go_sem,Zgf,n3,n3',n3d,s1,s2,tP,Nat.le_refl,List.cons_append,List.nil_append]
  refine T_W ?_
  simp only [go_sem,Z35,e1]
  refine hN (i+1) _ (by omega) (by omega) (Zbz (Zgb [5] (by decide) (fun i hi=>by omega) [(1,.sl (ivs ks)),(2,.sl (ivs rs)),(3,.sl (ivs mv)),(4,.int .u8 d),(12,.osl (some 3) 5 0 (i+1)),(13,.int .i64 (size:Int)),(14,.int .i64 ((i+1:Nat):Int))] (by simp only [go_sem])) ?_)
  show St.mk _ [Blk.cells (gcL _ (P++nd))]=_
  rw [Z45,hPg,hng, ← htk]
  rfl
 ·have hie:i=size:=by omega
  subst hie
  have q1:¬ ((i:Nat):Int)<(i:Int):=by omega
  refine T_W ?_
  simp only [go_sem,Zui,q1]
  exact hK _ (by simp only [go_sem]) (by simp only [go_sem])
theorem lmade {n d:Int}{ks rs mv:List Int}(hn:0≤n∧n≤255) (hd:0≤d∧d≤255):SpecV Tryz.prog Yvh [.int .u8 n,.sl (ivs ks),.sl (ivs rs),.sl (ivs mv),.int .u8 d] (.tup [.sl ((mdL (n % 5+1).toNat ks rs mv).map ndAV),.str (bs (numS (mdD d)))]):=by
 obtain ⟨size,hsz⟩:∃ size,size=(n % 5+1).toNat:=⟨_,rfl⟩
 rw [← hsz]
 have hs5:1≤size∧size≤5:=by omega
 have c5:¬ (5:Int)=0:=by decide
 have c7:¬ (7:Int)=0:=by decide
 have c3:¬ (3:Int)=0:=by decide
 have w1:IntKind.i64.wrap n=n:=Zac (by omega) (by omega)
 have w2:IntKind.i64.wrap d=d:=Zac (by omega) (by omega)
 have t5:n.tmod 5=n % 5:=Int.tmod_eq_emod_of_nonneg hn.1
 have t7:d.tmod 7=d % 7:=Int.tmod_eq_emod_of_nonneg hd.1
 have d7:d.tdiv 7=d / 7:=Int.tdiv_eq_ediv_of_nonneg hd.1
 have t3:(d / 7).tmod 3=d / 7 % 3:=Int.tmod_eq_emod_of_nonneg (by omega)
 have x1:IntKind.i64.wrap (n % 5+1)=(size:Int):=by rw [Zac (by omega) (by omega)]; omega
 have x2:IntKind.i64.wrap (d % 7+1)=d % 7+1:=Zac (by omega) (by omega)
 have x3:IntKind.i64.wrap (d / 7)=d / 7:=Zac (by omega) (by omega)
 have x4:IntKind.i64.wrap (d % 7+1+d / 7 % 3)=d % 7+1+d / 7 % 3:=Zac (by omega) (by omega)
 have hmk:=rmake (n:=d % 7) (d:=d % 7+1+d / 7 % 3) (by omega) (by omega) (by omega)
 have hmk':SpecV Tryz.prog Z5o [.int .i64 (d % 7),.int .i64 (d % 7+1+d / 7 % 3)] (.agg (rq (mdD d))):=hmk
 have hdl:=Y60 hd
 have hqb:Qb 20 (mdD d):=qb20 (by omega)
 have hnm:=lnumq hqb (by omega) (Zj0 hqb (by omega))
 have hll:(mdL size ks rs mv).length=size:=by unfold mdL; rw [List.length_map,List.length_range]
 refine Zba Ynw (by simp) (Zbg 2 rfl ?_)
 unfold Ymb
 simp only [go_sem,Z6v,Z8l,Z8x,w1,c5,t5,x1]
 refine T_le (Zkb 12 (some 3) (by simp only [go_sem]) [(1,.sl (ivs ks)),(2,.sl (ivs rs)),(3,.sl (ivs mv)),(4,.int .u8 d),(13,.int .i64 (size:Int))] (by simp only [go_sem])) ?_
 refine Zbc (Zbc (T_W ?_))
 simp only [go_sem,Z7u]
 refine Za8 (Zar [(1,.sl (ivs ks)),(2,.sl (ivs rs)),(3,.sl (ivs mv)),(4,.int .u8 d),(12,.osl (some 3) 0 0 0),(13,.int .i64 (size:Int)),(14,.int .i64 0)] (by simp only [go_sem]) (Y7p hs5 (fun e k4 k12=>?_)))
 show T Tryz.prog 125 0 (.seq (.rg false Zpp) .ret) _ _
 refine T_W ?_
 simp only [go_sem,Zpp,k4,k12,w2,c7,t7,d7,t3,c3,x2,x3,x4]
 refine Zaa hmk' (by simp only [go_sem]) ?_
 simp only [go_sem]
 refine Zaa hnm (by simp only [go_sem,Ya1]) ?_
 simp only [go_sem,k12]
 have hbn:=Xd7 (H := [Blk.cells ((mdL size ks rs mv).flatMap ndC)]) (ids := [0]) (b:=0) (M:=mdL size ks rs mv) rfl (by simp)
 rw [hll] at hbn
 exact hbn
end GoAbs
namespace GoAbs
open Go Go.Proofs
set_option maxHeartbeats 4000000
def Fr (k:Nat) (q:Rat) (A:List AV):Prop:=∃ n d:Int,A=rc n d∧0<d∧Ib k n∧Ib k d∧q=Rat.divInt n d
theorem Z5w {n d:Int}(h:0<d):Rat.divInt n d*((d:Int):Rat)=((n:Int):Rat):=by
 have hd:((d:Int):Rat)≠0:=by
  have:(0:Rat)<((d:Int):Rat):=by exact_mod_cast h
  grind
 rw [Rat.divInt_eq_div,Rat.div_def,Rat.mul_assoc,Rat.inv_mul_cancel _ hd,Rat.mul_one]
theorem Fr.of {k:Nat}{q:Rat}(h:Qb k q):Fr k q (rq q):=⟨q.num,q.den,rfl,by have:=q.den_pos; omega,h.ib.1,h.ib.2,(Rat.num_divInt_den q).symm⟩
theorem Yy5 {k:Nat}{p q:Rat}{A B:List AV}(ha:Fr k p A) (hb:Fr k q B) (hk:k≤1000000):SpecV Tryz.prog Yfj [.agg A,.agg B] (.int .i64 (cmpR p q)):=by
 obtain ⟨n,d,rfl,hd,hn1,hd1,hp⟩:=ha
 obtain ⟨m,e,rfl,he,hm1,he1,hq⟩:=hb
 have h:=rcmpq hn1 hd1 hm1 he1 hk
 have hdd:(0:Rat)<((d:Int):Rat):=by exact_mod_cast hd
 have hee:(0:Rat)<((e:Int):Rat):=by exact_mod_cast he
 have h1:=Z5w (n:=n) hd
 have h2:=Z5w (n:=m) he
 rw [← hp] at h1
 rw [← hq] at h2
 have hde:=Rat.mul_pos hdd hee
 have c1:((n*e:Int):Rat)=p*(((d:Int):Rat)*((e:Int):Rat)):=by rw [Rat.intCast_mul]; grind
 have c2:((m*d:Int):Rat)=q*(((d:Int):Rat)*((e:Int):Rat)):=by rw [Rat.intCast_mul]; grind
 have l1:n*e<m*d↔p<q:=by rw [← Rat.intCast_lt_intCast,c1,c2,Rat.mul_lt_mul_right hde]
 have l2:m*d<n*e↔q<p:=by rw [← Rat.intCast_lt_intCast,c1,c2,Rat.mul_lt_mul_right hde]
 have e1:(if n*e=m*d then (0:Int) else if n*e<m*d then -1 else 1)=cmpR p q:=by
  unfold cmpR
  by_cases a:n*e<m*d
  ·rw [if_neg (by omega),if_pos a,if_pos (l1.1 a)]
  ·by_cases b:m*d<n*e
   ·rw [if_neg (by omega),if_neg a,if_neg (fun x=>a (l1.2 x)),if_pos (l2.1 b)]
   ·rw [if_pos (by omega),if_neg (fun x=>a (l1.2 x)),if_neg (fun x=>b (l2.2 x))]
 rw [e1] at h
 exact h
end GoAbs
namespace GoAbs
open Go Go.Proofs
set_option maxHeartbeats 4000000
theorem Lt9.fit {q:Rat}(h:Lt9 q):Fitd 12 q:=by
 obtain ⟨h1,h2⟩:=h
 have c:10000<10 ^ 12:=by decide
 exact ⟨Z58 (by decide) (by omega),Z58 (by decide) (by omega)⟩
theorem Lt9.qb {q:Rat}(h:Lt9 q):Qb 20 q:=qb20 (by have:=h.1; have:=h.2; omega)
theorem Lt9.ok {q:Rat}(h:Lt9 q):NumOk q:=Zj0 h.qb (by omega)
theorem Lt9.len {q:Rat}(h:Lt9 q):1≤(numS q).length∧(numS q).length≤23:=by
 have a:=Z58 (n:=q.num.natAbs) (k:=4) (by decide) (by have:=h.2; omega)
 have b:=Z58 (n:=q.den) (k:=1) (by decide) (by have:=h.1; omega)
 have c:=Yrp q.num.natAbs
 unfold numS
 rw [List.length_append,List.length_append]
 split <;> split <;> simp only [List.length_cons,List.length_nil] <;> omega
theorem Lt9.ne {q:Rat}(h:Lt9 q):(numS q).isEmpty=false:=by
 have:=h.len.1
 cases hn:numS q with
 | nil=>rw [hn] at this; simp at this
 | cons a l=>rfl
theorem Lt9.parse {q:Rat}(h:Lt9 q):parseL (numS q)=some q:=Zwy h.ok
structure NT (N:Nat) (n:Nd):Prop where
 kind:n.kind=1∨n.kind=2∨n.kind=3
 rew:∃ q,n.rew=numS q∧Lt9 q
 len:1≤n.mv.length∧n.mv.length≤6
 to:∀ m,m∈n.mv→0≤m.1∧m.1<(N:Int)
 no:n.kind≠3→∀ m,m∈n.mv→m.2 = []
 odds:n.kind=3→(∀ m,m∈n.mv→∃ q,m.2=numS q∧Lt9 q∧0<q)∧sumM n.mv=1
theorem NT.facts {N:Nat}{n:Nd}(h:NT N n):ndVa n=true∧ndFi N n=true∧n.rew.length≤23∧n.mv.length≤7∧∀ m,m∈n.mv→m.2.length≤23:=by
 have hm:∀ m,m∈n.mv→(m.2 = []∧n.kind≠3)∨(n.kind=3∧∃ q,m.2=numS q∧Lt9 q∧0<q):=fun m hmm=>by
  by_cases h3:n.kind=3
  ·exact .inr ⟨h3,(h.odds h3).1 m hmm⟩
  ·exact .inl ⟨h.no h3 m hmm,h3⟩
 obtain ⟨q,hq,hl⟩:=h.rew
 have hpr:parseL n.rew=some q:=by rw [hq]; exact hl.parse
 refine ⟨?_,?_,?_,by have:=h.len; omega,?_⟩
 ·unfold ndVa vaM okB
  rw [hpr]
  simp only [Option.isSome_some,Bool.true_and,List.all_eq_true]
  intro m hmm
  rcases hm m hmm with ⟨e,_⟩ | ⟨_,p,e,hp,_⟩
  ·rw [e]; rfl
  ·rw [e,hp.parse]; simp
 ·unfold ndFi smallB fiM
  rw [hpr]
  simp only [Bool.and_eq_true,decide_eq_true_eq,List.all_eq_true]
  refine ⟨⟨⟨hl.fit,fun m hmm=>?_⟩,h.len⟩,?_⟩
  ·have ht:=h.to m hmm
   unfold mvFit mvFit1
   simp only [Bool.and_eq_true,decide_eq_true_eq,beq_iff_eq,Bool.or_eq_true]
   rcases hm m hmm with ⟨e,h3⟩ | ⟨h3,p,e,hp,hp0⟩
   ·rw [e]; exact ⟨⟨⟨ht.1,ht.2⟩,by simp [h3]⟩,.inl rfl⟩
   ·refine ⟨⟨⟨ht.1,ht.2⟩,?_⟩,.inr ?_⟩
    ·rw [h3,e,hp.ne]; rfl
    ·rw [e,hp.parse]; unfold mvFit2; simp [hp0,hp.fit]
  ·unfold kindF
   rcases h.kind with k | k | k
   ·simp [k]
   ·simp [k]
   ·simp [k,(h.odds k).2]
 ·rw [hq]; exact hl.len.2
 ·intro m hmm
  rcases hm m hmm with ⟨e,_⟩ | ⟨_,p,e,hp,_⟩
  ·rw [e]; simp
  ·rw [e]; exact hp.len.2
structure LT (L:List Nd) (d:List UInt8):Prop where
 n:1≤L.length∧L.length≤5
 nd:∀ n,n∈L→NT L.length n
 d:∃ q,d=numS q∧Lt9 q∧0≤q∧q<1
theorem LT.gin {L:List Nd}{d:List UInt8}(h:LT L d):GIn L d:=by
 obtain ⟨q,hq,hl,_⟩:=h.d
 exact ⟨.inl h.n.2,by rw [hq]; exact hl.len.2,fun n hn=>(h.nd n hn).facts.2.2⟩
theorem LT.ec {L:List Nd}{d:List UInt8}(h:LT L d):eC L d=0:=by
 obtain ⟨q,hq,hl,h0,h1⟩:=h.d
 have hp:parseL d=some q:=by rw [hq]; exact hl.parse
 have hv:(L.all ndVa && okB d)=true:=by
  rw [Bool.and_eq_true,List.all_eq_true]
  exact ⟨fun n hn=>(h.nd n hn).facts.1,by unfold okB; rw [hp]; rfl⟩
 have hf:gFit L d=true:=by
  unfold gFit disF smallB
  rw [hp]
  simp only [Bool.and_eq_true,decide_eq_true_eq,List.all_eq_true]
  exact ⟨⟨⟨h.n.1,by have:=h.n.2; omega⟩,fun n hn=>(h.nd n hn).facts.2.1⟩,hl.fit,h0,h1⟩
 unfold eC
 rw [hv,hf]; rfl
theorem LT.gmL {L:List Nd}{d:List UInt8}(h:LT L d):GmL (toGm L d):=by
 refine ⟨fun q hq=>?_,?_,fun x hx h3 q hq=>?_,?_⟩
 ·obtain ⟨n,hn,rfl⟩:=List.mem_map.1 hq
  obtain ⟨p,hp,hl⟩:=(h.nd n hn).rew
  show Lt9 ((parseL n.rew).getD 0)
  rw [hp,hl.parse]; exact hl
 ·obtain ⟨q,hq,hl,h0,h1⟩:=h.d
  show Lt9 ((parseL d).getD 0)
  rw [hq,hl.parse]; exact hl
 ·obtain ⟨n,hn,rfl⟩:=List.mem_map.1 hx
  obtain ⟨m,hm,rfl⟩:=List.mem_map.1 hq
  have hmm:=(List.mem_filter.1 hm).1
  have h3':n.kind=3:=by have:n.kind.toNat=3:=h3; omega
  obtain ⟨p,hp,hl,_⟩:=((h.nd n hn).odds h3').1 m hmm
  rw [hp,hl.parse]; exact hl
 ·show (L.map toGN).length≤5
  rw [List.length_map]; exact h.n.2
theorem LT.gmP {L:List Nd}{d:List UInt8}(h:LT L d):GmP (toGm L d)∧(toGm L d).nodes.length=L.length:=by
 obtain ⟨_,hg,hgn,_⟩:=((Z3i h.gin).resolve_left (fun x=>x.1 h.ec)).2
 exact ⟨hg,hgn⟩
theorem lvals {L:List Nd}{d:List UInt8}(h:LT L d):SpecV Tryz.prog Yl0 [.sl (L.map ndAV),.str (bs d)] (.tup [rowV (valG (toGm L d)),.bool true]):=by
 obtain ⟨hg,hgn⟩:=h.gmP
 have hv:=wvalue h.gin
 have hvl:=Z36 hg
 have hrb:=Ye5 hg h.gmL
 have hL5:=h.n
 rw [if_pos h.ec] at hv
 have hok:∀ q,q∈valG (toGm L d)→NumOk q:=fun q hq=>Zj0 (hrb q hq) (by omega)
 rw [show numsR (valG (toGm L d)) = .tup [.sl (ss (valG (toGm L d))),.int .i64 0] from if_pos hok,Ynv] at hv
 obtain ⟨V,hV⟩:∃ V,V=valG (toGm L d):=⟨_,rfl⟩
 rw [← hV] at hv hvl hrb hok ⊢
 obtain ⟨M,hM⟩:∃ M,M=V.map numS:=⟨_,rfl⟩
 have hMV:M.map toQ=V:=by rw [hM]; exact Yxm hok
 have hMn:M.length=L.length:=by rw [hM,List.length_map,hvl,hgn]
 have hMl:∀ s,s∈M→s.length≤1000000000:=fun s hs=>by
  rw [hM] at hs
  obtain ⟨q,hq,rfl⟩:=List.mem_map.1 hs
  exact Ymh (hok q hq)
 have hMp:∀ s,s∈M→okB s=true:=fun s hs=>by
  rw [hM] at hs
  obtain ⟨q,hq,rfl⟩:=List.mem_map.1 hs
  unfold okB
  rw [Zwy (hok q hq)]; rfl
 have hMall:M.all okB=true:=List.all_eq_true.2 hMp
 have hnm:=rnums (L:=M) (by omega) hMl
 rw [show numsE M=0 by unfold numsE; rw [if_pos (show (M.all fun s=>(parseL s).isSome)=true from hMall)],Yr1] at hnm
 have hqs:=rqs (L:=M) (fun s hs=>⟨hMl s hs,hMp s hs⟩) (by omega)
 rw [hMV] at hqs
 have hle:((M.length:Nat):Int)=(L.length:Int):=by omega
 rw [← hM] at hv
 refine Zad Yh4 (by simp) ?_
 unfold Ydq
 simp only [go_sem,Zzu,Zyg]
 refine Zaa hv (by simp only [go_sem]) ?_
 simp only [go_sem,Zya,txts_len',List.length_map,hle]
 refine Zaa hnm (by simp only [go_sem]) ?_
 simp only [go_sem,Zxa]
 refine Zaa hqs (by simp only [go_sem]) ?_
 simp only [go_sem,rowV]
theorem Yk3 (mv:List Int) (i k:Nat):Lt9 (mdOdd mv i k):=by
 have:=Yhv mv i k
 exact ⟨by omega,by omega⟩
theorem Yal {a b s:Int}:Rat.divInt a s+Rat.divInt b s=Rat.divInt (a+b) s:=by
 rw [Rat.divInt_eq_div,Rat.divInt_eq_div,Rat.divInt_eq_div,Rat.div_def,Rat.div_def,Rat.div_def,Rat.intCast_add,Rat.add_mul]
theorem Y6t {size:Nat}{mv:List Int}{i:Nat}:∀ k,sumM ((List.range k).map (mdMv size 3 mv i))=Rat.divInt (mdS mv i k) (mdS mv i (mdMany mv i))
 | 0=>by
  show (0:Rat)=Rat.divInt 0 _
  rw [Rat.divInt_eq_div,Rat.div_def]
  exact (Rat.zero_mul _).symm
 | k+1=>by
  rw [List.range_succ,List.map_append,List.map_cons,List.map_nil,Yca,Y6t k]
  unfold stepM
  have hl:=Yk3 mv i k
  have e:(mdMv size 3 mv i k).2=numS (mdOdd mv i k):=by unfold mdMv; rw [if_pos rfl]
  rw [e,hl.ne,if_neg (by decide),hl.parse]
  show _+mdOdd mv i k=_
  unfold mdOdd
  rw [Yal]
  rfl
theorem Xg2 {size:Nat}(hs:1≤size) (ks rs mv:List Int) (i:Nat):NT size (mdN size ks rs mv i):=by
 have hm:=Zvl mv i
 have hmem:∀ m,m∈(mdN size ks rs mv i).mv→∃ k,m=mdMv size (mdKind ks i) mv i k:=fun m h=>by
  obtain ⟨k,_,rfl⟩:=List.mem_map.1 h
  exact ⟨k,rfl⟩
 have hlen:(mdN size ks rs mv i).mv.length=mdMany mv i:=by
  show ((List.range _).map _).length=_
  rw [List.length_map,List.length_range]
 refine ⟨Yjw ks i,⟨_,rfl,?_⟩,by omega,fun m h=>?_,fun h3 m h=>?_,fun h3=>⟨fun m h=>?_,?_⟩⟩
 ·have:=Yse rs i
  exact ⟨by omega,by omega⟩
 ·obtain ⟨k,rfl⟩:=hmem m h
  exact ⟨Int.emod_nonneg _ (by omega),Int.emod_lt_of_pos _ (by omega)⟩
 ·obtain ⟨k,rfl⟩:=hmem m h
  exact if_neg h3
 ·obtain ⟨k,rfl⟩:=hmem m h
  exact ⟨_,if_pos h3,Yk3 mv i k,(Yhv mv i k).2.2⟩
 ·have h3':mdKind ks i=3:=h3
  show sumM ((List.range (mdMany mv i)).map (mdMv size (mdKind ks i) mv i))=1
  rw [h3',Y6t]
  have:=Yn1 mv i
  have hp:((mdS mv i (mdMany mv i):Int):Rat)≠0:=by
   have:(0:Rat)<((mdS mv i (mdMany mv i):Int):Rat):=by exact_mod_cast (show (0:Int)<mdS mv i (mdMany mv i) by omega)
   grind
  rw [Rat.divInt_eq_div,Rat.div_def,Rat.mul_inv_cancel _ hp]
theorem md_d {d:Int}(hd:0≤d∧d≤255):∃ q,numS (mdD d)=numS q∧Lt9 q∧0≤q∧q<1:=by
 have h:=Y60 hd
 have hden:(0:Int)<d % 7+1+d / 7 % 3:=by omega
 have hdr:(0:Rat)<((d % 7+1+d / 7 % 3:Int):Rat):=by exact_mod_cast hden
 have hm:=Z5w (n:=d % 7) hden
 refine ⟨mdD d,rfl,⟨by omega,by omega⟩,?_,?_⟩
 ·refine Rat.not_lt.1 (fun hn=>?_)
  have h1:=Rat.mul_lt_mul_of_pos_right hn hdr
  unfold mdD at h1
  rw [hm,Rat.zero_mul] at h1
  have:(d % 7:Int)<0:=by exact_mod_cast h1
  omega
 ·refine Rat.not_le.1 (fun hn=>?_)
  have h1:=Rat.mul_le_mul_of_nonneg_right hn (Rat.le_of_lt hdr)
  unfold mdD at h1
  rw [hm,Rat.one_mul] at h1
  have:(d % 7+1+d / 7 % 3:Int)≤d % 7:=by exact_mod_cast h1
  omega
theorem Xfu {size:Nat}(hs:1≤size∧size≤5) (ks rs mv:List Int) {d:Int}(hd:0≤d∧d≤255):LT (mdL size ks rs mv) (numS (mdD d)):=by
 have hl:(mdL size ks rs mv).length=size:=by unfold mdL; rw [List.length_map,List.length_range]
 refine ⟨by omega,fun n hn=>?_,md_d hd⟩
 rw [hl]
 obtain ⟨i,_,rfl⟩:=List.mem_map.1 hn
 exact Xg2 hs.1 ks rs mv i
def tabAV (n d:Int) (ks rs mv:List Int):AV := .agg [.int .u8 n,.int .u8 d,.sl (ivs ks),.sl (ivs rs),.sl (ivs mv)]
def tabL (n:Int) (ks rs mv:List Int):List Nd:=mdL (n % 5+1).toNat ks rs mv
theorem lgame {n d:Int}{ks rs mv:List Int}(hn:0≤n∧n≤255) (hd:0≤d∧d≤255):SpecV Tryz.prog Yl4 [tabAV n d ks rs mv] (.tup [.sl ((tabL n ks rs mv).map ndAV),.str (bs (numS (mdD d)))]):=by
 have h:=lmade (ks:=ks) (rs:=rs) (mv:=mv) hn hd
 unfold tabAV
 refine Zad Yi3 (by simp) ?_
 unfold Yda
 simp only [go_sem,Zxk,Zye]
 refine Zaa h (by simp only [go_sem]) ?_
 simp only [go_sem]
 rfl
theorem Xc1 {n d:Int}(hn:0≤n∧n≤255) (hd:0≤d∧d≤255) (ks rs mv:List Int):LT (tabL n ks rs mv) (numS (mdD d)):=Xfu (by omega) ks rs mv hd
end GoAbs
namespace GoAbs
open Go Go.Proofs
set_option maxHeartbeats 4000000
theorem Yyc {k:Nat}{x:List Rat}(h:Rb k x) {i:Nat}(hi:i<x.length):Qb k (rget x i):=h _ (List.mem_of_getElem? (Zak hi))
end GoAbs
namespace GoAbs
open Go Go.Proofs
set_option maxHeartbeats 4000000
theorem Y0g {x:GN}{n:Nat}(hx:GnOk n x) (h1:x.kind=1) (v:List Rat):(∃ t,t<x.to.length∧worthR x v=rget v (x.to.getD t 0))∧∀ t,t<x.to.length→rget v (x.to.getD t 0)≤worthR x v:=by
 have b1:=Zgg (v:=v) (sg:=1) hx.pos (Nat.le_refl _)
 have e:worthR x v=rget v (x.to.getD (bestG v x.to 1 x.to.length) 0):=by unfold worthR bestA; rw [if_pos h1]
 exact ⟨⟨_,b1,e⟩,fun t ht=>by rw [e]; exact (Z91 (v:=v) (to:=x.to) (k:=x.to.length)).1 t ht⟩
theorem Yxj {x:GN}{n:Nat}(hx:GnOk n x) (h2:x.kind=2) (v:List Rat):(∃ t,t<x.to.length∧worthR x v=rget v (x.to.getD t 0))∧∀ t,t<x.to.length→worthR x v≤rget v (x.to.getD t 0):=by
 have b1:=Zgg (v:=v) (sg := -1) hx.pos (Nat.le_refl _)
 have e:worthR x v=rget v (x.to.getD (bestG v x.to (-1) x.to.length) 0):=by unfold worthR bestA; rw [if_neg (by omega),if_pos h2]
 exact ⟨⟨_,b1,e⟩,fun t ht=>by rw [e]; exact (Z17 (v:=v) (to:=x.to) (k:=x.to.length)).1 t ht⟩
theorem Ygk {x:GN}(h3:x.kind=3) (v:List Rat):worthR x v=dotW x.odds v x.to x.to.length:=by
 unfold worthR
 rw [if_neg (by omega),if_neg (by omega)]
end GoAbs
namespace GoAbs
open Go Go.Proofs
set_option maxHeartbeats 8000000
theorem Yo2 {L:List Nd}{i:Nat}{n:Nd}(h:L[i]? = some n):(L.map ndAV)[i]? = some (.agg [.int .i64 n.kind,.str (bs n.rew),.sl (n.mv.map mvAV)]):=by
 rw [List.getElem?_map,h]; rfl
theorem Xc8 {a b:Rat}(h:a=b):cmpR a b=0:=by
 unfold cmpR
 rw [if_neg (by rw [h]; exact Rat.lt_irrefl),if_neg (by rw [h]; exact Rat.lt_irrefl)]
theorem Y9g {M:List (List UInt8)}{x:List Rat}(hM:M.map toQ=x) (h:∀ s,s∈M→okB s=true∧s.length≤1000000000) {i:Nat}(hi:i<x.length):∃ s,M[i]? = some s∧(txts M)[i]? = some (.str (bs s))∧SpecV Tryz.prog Yrt [.str (bs s)] (.agg (rq (rget x i))):=by
 have hl:M.length=x.length:=by rw [← hM,List.length_map]
 obtain ⟨s,hs⟩:∃ s,M[i]? = some s:=⟨_,List.getElem?_eq_getElem (by omega)⟩
 obtain ⟨h1,h2⟩:=h s (List.mem_of_getElem? hs)
 have e:rget x i=toQ s:=by
  rw [← hM]
  unfold rget
  rw [List.getD_eq_getElem?_getD,List.getElem?_map,hs]
  rfl
 refine ⟨s,hs,by unfold txts; rw [List.getElem?_map,hs]; rfl,?_⟩
 rw [e]
 exact rof h2 (okBq h1)
end GoAbs
namespace GoAbs
open Go Go.Proofs
set_option maxHeartbeats 8000000
def plnI (g:Gm) (p:List Int) (i:Nat):Bool:=if (nodeAt g i).kind=3 then decide (p.getD i 0 = -1) else decide (0≤p.getD i 0∧p.getD i 0<((nodeAt g i).to.length:Int))
def plnB (g:Gm) (p:List Int):Bool:=decide (p.length=g.nodes.length) && (List.range g.nodes.length).all (plnI g p)
theorem Z0f {g:Gm}{p:List Int}(h:plnB g p=true):POk g p:=by
 unfold plnB at h
 rw [Bool.and_eq_true,decide_eq_true_eq,List.all_eq_true] at h
 refine ⟨h.1,fun i hi h3=>?_⟩
 have:=h.2 i (List.mem_range.2 hi)
 unfold plnI at this
 rw [if_neg h3] at this
 exact of_decide_eq_true this
theorem Xct {g:Gm}{p:List Int}{n:Nat}(hg:GmOk g) (hn:n=g.nodes.length) (hp:p.length=n) {K:Ex→St→Prop}
  (hK:(List.range n).all (plnI g p)=true→∀ e:Nat→AV,K (.exit 0) ⟨e,[]⟩)
  (hK0:(List.range n).all (plnI g p)=false→∀ e:Nat→AV,∀ H,e 4 = .bool false→K .ret ⟨e,H⟩) :
  T Tryz.prog 64 0 (.loop Zii) ⟨envL [(1,.sl (ivs p)),(22,.sl (g.nodes.map gnAV)),(23,.int .i64 (n:Int)),(24,.int .i64 0)],[]⟩ K:=by
 have hmx:Tryz.prog.follows .mixedOrders=true:=by kernel_rfl
 have hnl:=hg.n
 refine Zaf (fun i:Nat=>⟨envL [(1,.sl (ivs p)),(22,.sl (g.nodes.map gnAV)),(23,.int .i64 (n:Int)),(24,.int .i64 (i:Int))],[]⟩)
  (fun i=>i≤n∧(List.range i).all (plnI g p)=true) (fun i=>n - i) 0 ⟨by omega,rfl⟩ (Zab _ (by simp only [go_sem]; simp)) (fun i hI N hN=>?_)
 obtain ⟨hi,hal⟩:=hI
 unfold Zii
 by_cases hin:i<n
 ·have hig:i<g.nodes.length:=by omega
  obtain ⟨x,hx⟩:∃ x,g.nodes[i]? = some x:=⟨_,List.getElem?_eq_getElem hig⟩
  have hxa:nodeAt g i=x:=by unfold nodeAt; rw [List.getD_eq_getElem?_getD,hx]; rfl
  have hxg:(g.nodes.map gnAV)[i]? = some (gnAV x):=by rw [List.getElem?_map,hx]; rfl
  have hok:=hg.node x (List.mem_of_getElem? hx)
  have hlen:=hok.len
  have hpi:plnI g p i=if x.kind=3 then decide (p.getD i 0 = -1) else decide (0≤p.getD i 0∧p.getD i 0<(x.to.length:Int)):=by unfold plnI; rw [hxa]
  have hgp:(ivs p)[i]? = some (.int .i64 (p.getD i 0)):=by
   refine Zu6 ?_
   rw [List.getD_eq_getElem?_getD,List.getElem?_eq_getElem (by omega)]; rfl
  have hpll:(ivs p).length=n:=by rw [Zat]; omega
  have hbad:plnI g p i=false→(List.range n).all (plnI g p)=false:=fun h=>by
   rw [List.all_eq_false]
   exact ⟨i,List.mem_range.2 hin,by rw [h]; decide⟩
  have hgood:plnI g p i=true→(List.range (i+1)).all (plnI g p)=true:=fun h=>by rw [List.range_succ,List.all_append,hal]; simp [h]
  generalize p.getD i 0=z at *
  have q0:(0:Int)≤(i:Int):=by omega
  have q1:(i:Int)<(n:Int):=by omega
  have e1:IntKind.i64.wrap ((i:Int)+1)=((i+1:Nat):Int):=by rw [Zac (by omega) (by omega)]; omega
  have xc:(gnAV x).cells = [gnAV x]:=by unfold gnAV; split; rfl; split <;> rfl
  have fin:∀ (e:Nat→AV) (post:Heap),plnI g p i=true→Has e [(1,.sl (ivs p)),(22,.sl (g.nodes.map gnAV)),(23,.int .i64 (n:Int)),(24,.int .i64 ((i+1:Nat):Int))]→N ⟨e,post⟩:=fun e post h he =>
   hN (i+1) _ ⟨by omega,hgood h⟩ (by omega) (Zk7 (K := []) (post:=post) (m:=0) rfl rfl (Nat.le_refl _) _ he (by simp [AV.gc]))
  by_cases k3:x.kind=3
  ·have hgx:gnAV x = .ifc 140 (.agg [.sl (ivs (nv x.to)),.sl (condsR x.odds)]):=by unfold gnAV; rw [if_neg (by omega),if_neg (by omega)]
   rw [hgx] at hxg xc
   rw [if_pos k3] at hpi
   by_cases hz:z = -1
   ·rw [decide_eq_true hz] at hpi
    simp only [go_sem,Zau,Za0,Za3,Za1,Za2,Zbr,Zg2,Zgy,Zg4,Zdb,q0,q1,hxg,xc,hpll,hgp,hz,List.length_map,e1,List.cons_append,List.nil_append]
    exact fin _ _ hpi (by simp only [go_sem])
   ·rw [decide_eq_false hz] at hpi
    simp only [go_sem,Zau,Za0,Za3,Za1,Za2,Zbr,Zg2,Zgy,Zg4,Znk,q0,q1,hxg,xc,hpll,hgp,hz,List.length_map,List.cons_append,List.nil_append]
    exact hK0 (hbad hpi) _ _ (by simp only [go_sem])
  ·rw [if_neg k3] at hpi
   by_cases k1:x.kind=1
   ·have hgx:gnAV x = .ifc 129 (.agg [.sl (ivs (nv x.to))]):=by unfold gnAV; rw [if_pos k1]
    rw [hgx] at hxg xc
    by_cases z0:z<0
    ·rw [decide_eq_false (by omega)] at hpi
     simp only [go_sem,Zau,Za0,Za3,Za1,Za2,Zdf,Zc9,Za9,Zb9,q0,q1,hxg,xc,hpll,hgp,z0,List.length_map,List.cons_append,List.nil_append,Zat,Zfy]
     exact hK0 (hbad hpi) _ _ (by simp only [go_sem])
    ·by_cases z1:(x.to.length:Int)≤z
     ·rw [decide_eq_false (by omega)] at hpi
      simp only [go_sem,Zau,Za0,Za3,Za1,Za2,Zdf,Zc9,Za9,Zb9,q0,q1,hxg,xc,hpll,hgp,z0,z1,List.length_map,List.cons_append,List.nil_append,Zat,Zfy]
      exact hK0 (hbad hpi) _ _ (by simp only [go_sem])
     ·rw [decide_eq_true (by omega)] at hpi
      simp only [go_sem,Zau,Za0,Za3,Za1,Za2,Zdf,Zc9,Za9,Zdb,q0,q1,hxg,xc,hpll,hgp,z0,z1,List.length_map,List.cons_append,List.nil_append,Zat,Zfy,e1]
      exact fin _ _ hpi (by simp only [go_sem])
   ·have hgx:gnAV x = .ifc 131 (.agg [.sl (ivs (nv x.to))]):=by unfold gnAV; rw [if_neg k1,if_pos (by have:=hok.kind; omega)]
    rw [hgx] at hxg xc
    by_cases z0:z<0
    ·rw [decide_eq_false (by omega)] at hpi
     simp only [go_sem,Zau,Za0,Za3,Za1,Za2,Zbr,Zda,Zde,Za9,Zb9,q0,q1,hxg,xc,hpll,hgp,z0,List.length_map,List.cons_append,List.nil_append,Zat,Zfy]
     exact hK0 (hbad hpi) _ _ (by simp only [go_sem])
    ·by_cases z1:(x.to.length:Int)≤z
     ·rw [decide_eq_false (by omega)] at hpi
      simp only [go_sem,Zau,Za0,Za3,Za1,Za2,Zbr,Zda,Zde,Za9,Zb9,q0,q1,hxg,xc,hpll,hgp,z0,z1,List.length_map,List.cons_append,List.nil_append,Zat,Zfy]
      exact hK0 (hbad hpi) _ _ (by simp only [go_sem])
     ·rw [decide_eq_true (by omega)] at hpi
      simp only [go_sem,Zau,Za0,Za3,Za1,Za2,Zbr,Zda,Zde,Za9,Zdb,q0,q1,hxg,xc,hpll,hgp,z0,z1,List.length_map,List.cons_append,List.nil_append,Zat,Zfy,e1]
      exact fin _ _ hpi (by simp only [go_sem])
 ·have hie:i=n:=by omega
  subst hie
  have q1:¬ ((i:Nat):Int)<(i:Int):=by omega
  simp only [go_sem,Zau,q1]
  exact hK hal _
theorem Yj2 {g:Gm}{p:List Int}(hg:GmOk g):SpecV Tryz.prog Yej [.rp (gmC g),.sl (ivs p)] (.bool (plnB g p)):=by
 obtain ⟨n,hn⟩:∃ n,n=g.nodes.length:=⟨_,rfl⟩
 have gd0:(gmC g)[0]? = some (.sl (g.nodes.map gnAV)):=rfl
 obtain ⟨gc,hgc⟩:∃ gc,gc=gmC g:=⟨_,rfl⟩
 rw [← hgc] at gd0 ⊢
 refine Zba Ybm (by simp) (Zbg 1 rfl ?_)
 unfold Z4i
 by_cases hl:p.length=n
 ·have hl':((p.length:Nat):Int)=(n:Int):=by omega
  have hB:plnB g p=(List.range n).all (plnI g p):=by unfold plnB; rw [decide_eq_true (by omega),hn]; rfl
  rw [hB]
  simp only [go_sem,Zim,Zil,gd0,List.length_map,Zat]
  rw [← hn]
  simp only [go_sem,hl']
  refine Zbc (Zbc (T_W ?_))
  simp only [go_sem,Zrr,gd0,List.length_map]
  rw [← hn]
  refine Za8 (Zar [(1,.sl (ivs p)),(22,.sl (g.nodes.map gnAV)),(23,.int .i64 (n:Int)),(24,.int .i64 0)] (by simp only [go_sem]) (Xct hg hn hl (fun ha e=>?_) (fun hf e H k4=>?_)))
  ·show T Tryz.prog 64 0 (.seq (.rg false Zg0) .ret) _ _
   refine T_W ?_
   rw [ha]
   simp only [go_sem,Zg0]
  ·rw [hf]
   simp only [go_sem,k4]
 ·have hl':¬ ((p.length:Nat):Int)=(n:Int):=by omega
  have hB:plnB g p=false:=by unfold plnB; rw [decide_eq_false (by omega)]; rfl
  rw [hB]
  simp only [go_sem,Zim,Zil,gd0,List.length_map,Zat]
  rw [← hn]
  simp only [go_sem,hl',Zrs]
def lC (L:List Nd) (d:List UInt8) (p:List Int):Int:=if eC L d=0 then (if plnB (toGm L d) p=true then 0 else 1) else eC L d
theorem wplays {L:List Nd}{d:List UInt8}{p:List Int}(h:GIn L d):SpecV Tryz.prog Z8i [.sl (L.map ndAV),.str (bs d),.sl (ivs p)] (if lC L d p=0 then numsR (valP (toGm L d) p) else .tup [.nils,.int .i64 (lC L d p)]):=by
 rcases Z3i h with ⟨h1,hs⟩ | ⟨h1,hs,hg,hn,hn1,hn5⟩
 ·rw [show lC L d p=eC L d from if_neg h1,if_neg h1]
  refine Zad Zpc (by simp) ?_
  unfold Zpq
  simp only [go_sem,Zhi,Zho]
  refine Zaa hs (by simp only [go_sem]) ?_
  simp only [go_sem,Zhh,Zyr,h1]
 ·rw [show lC L d p=if plnB (toGm L d) p=true then 0 else 1 from if_pos h1]
  generalize toGm L d=g at *
  have hpl:=Yj2 (p:=p) hg.ok
  cases hb:plnB g p with
  | false =>
   rw [hb] at hpl
   rw [if_neg (by decide),if_neg (by decide)]
   refine Zad Zpc (by simp) ?_
   unfold Zpq
   simp only [go_sem,Zhi,Zho]
   refine Zaa hs (by simp only [go_sem]) ?_
   simp only [go_sem,Zhh,Zml]
   refine Zaa hpl (by simp only [go_sem]) ?_
   simp only [go_sem,Zxn]
  | true =>
   rw [hb] at hpl
   rw [if_pos rfl,if_pos rfl]
   have hp:=Z0f hb
   have hv:=Z5p (pre := []) (o:=0) (p:=p) (pl := .sl (ivs p)) rfl (fun f=>rfl) (by omega) (fun m hm=>rfl) (.inl rfl) hg hp (by omega) (by omega)
   have hm:=Yc2 (Xbx (Zn8 hg hp (by omega)).2.2.2.2 (by omega)) (by rw [(Zjz hg hp).1]; omega)
   refine Zad Zpc (by simp) ?_
   unfold Zpq
   simp only [go_sem,Zhi,Zho]
   refine Zaa hs (by simp only [go_sem]) ?_
   simp only [go_sem,Zhh,Zml]
   refine Zaa hpl (by simp only [go_sem]) ?_
   simp only [go_sem,Zz0]
   refine Zd4 hv ?_
   simp only [go_sem]
   refine Zaa hm (by simp only [go_sem]) ?_
   by_cases hN:∀ q,q∈valP g p→NumOk q
   ·rw [show numsR (valP g p) = .tup [.sl (ss (valP g p)),.int .i64 0] from if_pos hN]
    simp only [go_sem]
   ·rw [show numsR (valP g p) = .tup [.nils,.int .i64 4] from if_neg hN]
    simp only [go_sem]
end GoAbs
namespace GoAbs
open Go Go.Proofs
set_option maxHeartbeats 4000000
instance:Inhabited Nd:=⟨⟨0,[],[]⟩⟩
end GoAbs
namespace GoAbs
open Go Go.Proofs
set_option maxHeartbeats 8000000
theorem dle' {d a b:Rat}(d0:0≤d) (h:a≤b) (r:Rat):r+d*a≤r+d*b:=by
 have:=Rat.mul_le_mul_of_nonneg_left h d0
 grind
theorem lplayed {L:List Nd}{d:List UInt8}(h:LT L d) {p:List Int}(hp:plnB (toGm L d) p=true):∃ M:List (List UInt8),SpecV Tryz.prog Z8i [.sl (L.map ndAV),.str (bs d),.sl (ivs p)] (.tup [.sl (txts M),.int .i64 0])∧M.length=L.length∧M.map toQ=valP (toGm L d) p∧SpecV Tryz.prog Ygc [.sl (txts M)] (.int .i64 0)∧(∀ s,s∈M→okB s=true∧s.length≤1000000000)∧Rb 4000 (valP (toGm L d) p)∧(valP (toGm L d) p).length=L.length∧txts M=ss (valP (toGm L d) p):=by
 obtain ⟨hg,hgn⟩:=h.gmP
 have hv:=wplays (p:=p) h.gin
 have hrb:=Zo1 hg h.gmL (Z0f hp)
 have hL5:=h.n
 have hrc:lC L d p=0:=by unfold lC; rw [if_pos h.ec,hp,if_pos rfl]
 rw [hrc,if_pos rfl] at hv
 have hvl:=(Zjz hg (Z0f hp)).1
 have hok:∀ q,q∈valP (toGm L d) p→NumOk q:=fun q hq=>Zj0 (hrb q hq) (by omega)
 rw [show numsR (valP (toGm L d) p) = .tup [.sl (ss (valP (toGm L d) p)),.int .i64 0] from if_pos hok,Ynv] at hv
 obtain ⟨V,hV⟩:∃ V,V=valP (toGm L d) p:=⟨_,rfl⟩
 rw [← hV] at hv hvl hrb hok ⊢
 obtain ⟨M,hM⟩:∃ M,M=V.map numS:=⟨_,rfl⟩
 have hMV:M.map toQ=V:=by rw [hM]; exact Yxm hok
 have hMn:M.length=L.length:=by rw [hM,List.length_map,hvl,hgn]
 have hMl:∀ s,s∈M→s.length≤1000000000:=fun s hs=>by
  rw [hM] at hs
  obtain ⟨q,hq,rfl⟩:=List.mem_map.1 hs
  exact Ymh (hok q hq)
 have hMp:∀ s,s∈M→okB s=true:=fun s hs=>by
  rw [hM] at hs
  obtain ⟨q,hq,rfl⟩:=List.mem_map.1 hs
  unfold okB
  rw [Zwy (hok q hq)]; rfl
 have hMall:M.all okB=true:=List.all_eq_true.2 hMp
 have hnm:=rnums (L:=M) (by omega) hMl
 rw [show numsE M=0 by unfold numsE; rw [if_pos (show (M.all fun s=>(parseL s).isSome)=true from hMall)],Yr1] at hnm
 rw [← hM] at hv
 exact ⟨M,hv,hMn,hMV,hnm,fun s hs=>⟨hMp s hs,hMl s hs⟩,hrb,by rw [hvl,hgn],by rw [hM,Ynv]⟩
theorem Yzr {g:Gm}(hg:GmP g) {v:List Rat}:plnB g (bestL g v)=true:=by
 have hl:(bestL g v).length=g.nodes.length:=by unfold bestL; rw [List.length_map,List.length_range]
 unfold plnB
 rw [Bool.and_eq_true,decide_eq_true_eq,List.all_eq_true]
 refine ⟨hl,fun i hi=>?_⟩
 have hi:=List.mem_range.1 hi
 have hok:=hg.ok.node _ (Zbe hi)
 have e:(bestL g v).getD i 0=bestP g v i:=by
  unfold bestL
  rw [List.getD_eq_getElem?_getD,List.getElem?_map,List.getElem?_range hi]; rfl
 unfold plnI
 rw [e]
 unfold bestP
 have b1:=fun sg=>Zgg (v:=v) (sg:=sg) hok.pos (Nat.le_refl _)
 rcases hok.kind with h | h | h
 ·have:=b1 1
  rw [if_neg (by omega),if_pos h,decide_eq_true_eq]
  unfold bestA
  omega
 ·have:=b1 (-1)
  rw [if_neg (by omega),if_neg (by omega),if_pos h,decide_eq_true_eq]
  unfold bestA
  omega
 ·rw [if_pos h,if_neg (by omega),if_neg (by omega),decide_eq_true_eq]
theorem Yra {g:Gm}{v:List Rat}{i:Nat}(hi:i<g.nodes.length):(bestL g v).getD i 0=bestP g v i:=by
 unfold bestL
 rw [List.getD_eq_getElem?_getD,List.getElem?_map,List.getElem?_range hi]; rfl
theorem Xa2 {g:Gm}(hg:GmP g) {q:List Int}(hq:POk g q) (h2:∀ i,i<g.nodes.length→(nodeAt g i).kind=2→pget q i=bestA (valG g) (nodeAt g i).to (-1)):∀ i,i<g.nodes.length→rget (valP g q) i≤rget (valG g) i:=by
 have hs:=Yc6 hg hq
 have hv:=(Zjz hg hq).2
 refine hs.le hg.d1 (fun i hi=>by rw [← hv i hi]; exact Rat.le_refl) (fun i hi=>?_)
 rw [Ybd hg i hi]
 unfold planV nextV
 refine dle' hg.d0 ?_ _
 show worthP (nodeAt g i) (pget q i) (valG g)≤worthR (nodeAt g i) (valG g)
 have hok:=hg.ok.node _ (Zbe hi)
 rcases hok.kind with h | h | h
 ·rw [Zd7 (by omega)]
  exact (Y0g hok h _).2 _ (hq.lt hi (by omega))
 ·rw [Zd7 (by omega),h2 i hi h]
  unfold worthR
  rw [if_neg (by omega),if_pos h]
  exact Rat.le_refl
 ·rw [Ygk h]
  unfold worthP
  rw [if_pos h]
  exact Rat.le_refl
theorem Y9a {g:Gm}(hg:GmP g) {q:List Int}(hq:POk g q) (h2:∀ i,i<g.nodes.length→(nodeAt g i).kind=1→pget q i=bestA (valG g) (nodeAt g i).to 1):∀ i,i<g.nodes.length→rget (valG g) i≤rget (valP g q) i:=by
 have hs:=Yc6 hg hq
 have hv:=(Zjz hg hq).2
 refine hs.le hg.d1 (fun i hi=>?_) (fun i hi=>by rw [← hv i hi]; exact Rat.le_refl)
 rw [Ybd hg i hi]
 unfold planV nextV
 refine dle' hg.d0 ?_ _
 show worthR (nodeAt g i) (valG g)≤worthP (nodeAt g i) (pget q i) (valG g)
 have hok:=hg.ok.node _ (Zbe hi)
 rcases hok.kind with h | h | h
 ·rw [Zd7 (by omega),h2 i hi h]
  unfold worthR
  rw [if_pos h]
  exact Rat.le_refl
 ·rw [Zd7 (by omega)]
  exact (Yxj hok h _).2 _ (hq.lt hi (by omega))
 ·rw [Ygk h]
  unfold worthP
  rw [if_pos h]
  exact Rat.le_refl
end GoAbs
namespace GoAbs
open Go Go.Proofs
set_option maxHeartbeats 8000000
end GoAbs
namespace GoAbs
open Go Go.Proofs
set_option maxHeartbeats 8000000
end GoAbs
namespace GoAbs
open Go Go.Proofs
set_option maxHeartbeats 8000000
def extP (n:Nd) (p:List Int):List (List Int):=if n.kind=3 then [p ++ [-1]] else (List.range n.mv.length).map fun (k:Nat)=>p ++ [(k:Int)]
def plansF (L:List Nd):Nat→List (List Int)
 | 0 => [[]]
 | i+1=>(plansF L i).flatMap (extP (L.getD i default))
def ivss (C:List (List Int)):List AV:=C.map fun c => .sl (ivs c)
theorem Zf2 (C:List (List Int)):(ivss C).length=C.length:=by simp [ivss]
theorem Yrf {C D:List (List Int)}:ivss (C++D)=ivss C++ivss D:=by simp [ivss]
theorem Yyq {f:Nat→Option Nat}{C:List (List Int)}:gcL f (ivss C)=ivss C:=by
 rw [Zax]; unfold ivss; rw [List.map_map]; rfl
theorem Z3j {C:List (List Int)}{i:Nat}{c:List Int}(h:C[i]? = some c):(ivss C)[i]? = some (.sl (ivs c)):=by simp [ivss,h]
theorem Y8c {H:Heap}{ids:List Nat}{b:Nat}{C:List (List Int)}(hb:H[b]? = some (.cells (ivss C))) (hi:b∈ids):BV H ids (.osl none b 0 C.length) (.sl (ivss C)):=by
 refine .osl none b 0 C.length (ivss C) (ivss C) hb hi (Zf2 C) (fun x hx=>?_) (by rw [Zf2]; simp [es]) (fun i x j y z hx hy hz=>?_)
 ·obtain ⟨c,_,rfl⟩:=List.mem_map.1 hx; rfl
 ·obtain ⟨c,_,rfl⟩:=List.mem_map.1 (List.mem_of_getElem? hx)
  have hj:j=0:=by
   have:=(List.getElem?_eq_some_iff.1 hy).1
   simp [AV.cells] at this; omega
  subst hj
  simp [AV.cells] at hy
  subst hy
  simp [es] at hz
  rw [hx] at hz
  cases hz
  exact .sl _
theorem Ymm (q:List Int):(ivs q).flatMap AV.cells=ivs q:=by
 induction q with
 | nil=>rfl
 | cons a l ih=>show AV.int .i64 a::_=AV.int .i64 a::_; congr 1
theorem Yye {q:List Int}:∀ y,y∈ivs q→y.cells.length=1:=fun y hy=>by
 obtain ⟨z,_,rfl⟩:=List.mem_map.1 hy
 rfl
theorem Yp8 {q:List Int}{z:Int}:ivs q ++ [AV.int .i64 z]=ivs (q ++ [z]):=by simp [ivs]
theorem Yy0 {D:List AV}{c:List Int}{z:Int}{m:Nat}{e:Nat→AV}{l:List (Nat×AV)}{X Y Z W:Blk}{nt:Nat}(hD:∀ f,gcL f D=D) (hl:∀ f,l.map (fun p=>(p.1,p.2.gc f))=l) (hh:Has (envL ((8,.osl none 5 0 m)::l)) ((8,.osl none 5 0 m)::l)) (he:Has e ((8,.osl none 5 0 m)::l)) :
  Le nt 0 ⟨e,[X,Y,Z,.cells (ivs (c ++ [z])),W,.cells (D ++ [.osl none 3 0 (c.length+1)])]⟩ ⟨envL ((8,.osl none 0 0 m)::l),[.cells (D ++ [.sl (ivs (c ++ [z]))])]⟩:=by
 refine Zhp (Ypi (b:=5) (ids := [3]) (l:=D ++ [.osl none 3 0 (c.length+1)]) (l':=D ++ [.sl (ivs (c ++ [z]))]) rfl (by decide) (by simp) (fun j x y hx hy=>?_) ((8,.osl none 5 0 m)::l) (Yhj he)) ?_
 ·by_cases hj:j<D.length
  ·rw [List.getElem?_append_left hj] at hx hy
   rw [hx] at hy; cases hy
   exact .inr rfl
  ·have hj':j=D.length:=by
    have:=(List.getElem?_eq_some_iff.1 hx).1
    simp at this; omega
   subst hj'
   simp at hx hy
   subst hx hy
   have:=Y7f (H := [X,Y,Z,.cells (ivs (c ++ [z])),W,.cells (D ++ [.osl none 3 0 (c.length+1)])]) (ids := [3]) (b:=3) (p:=c ++ [z]) rfl (by simp)
   rw [List.length_append] at this
   exact .inl this
 ·refine Zbz (Zgb [5] (by decide) (fun i hi=>absurd hi (by omega)) ((8,.osl none 5 0 m)::l) hh) ?_
  rw [List.map_cons,hl]
  show St.mk _ [Blk.cells (gcL _ (D ++ [.sl (ivs (c ++ [z]))]))]=_
  have:∀ f,gcL f (D ++ [AV.sl (ivs (c ++ [z]))])=D ++ [.sl (ivs (c ++ [z]))]:=fun f=>by
   rw [Zax,List.map_append, ← Zax,hD]; rfl
  rw [this]
  rfl
theorem Xd5 {L:List Nd}{n:Nd}{i j:Nat}{A C:List (List Int)}{c:List Int}{mo:Int}(hn:L[i]? = some n) (hL5:L.length≤1000) (hml:n.mv.length≤6) (hc:C[j]? = some c) (hCl:C.length≤1000000) (hA:A.length≤1000000) (hcl:c.length≤1000) {K:Ex→St→Prop}
  (hK:∀ e:Nat→AV,Has e [(0,.sl (L.map ndAV)),(1,.int .i64 mo),(6,.sl (ivss C)),(7,.int .i64 (i:Int)),(8,.osl none 0 0 (A.length+n.mv.length)),(9,.int .i64 (j:Int))]→K (.exit 4) ⟨e,[.cells (ivss (A++(List.range n.mv.length).map fun (k:Nat)=>c ++ [(k:Int)]))]⟩) :
  T Tryz.prog 71 0 (.loop Zp4) ⟨envL [(0,.sl (L.map ndAV)),(1,.int .i64 mo),(6,.sl (ivss C)),(7,.int .i64 (i:Int)),(8,.osl none 0 0 A.length),(9,.int .i64 (j:Int)),(10,.int .i64 0)],[.cells (ivss A)]⟩ K:=by
 have hget:=Yo2 hn
 have hil:=(List.getElem?_eq_some_iff.1 hn).1
 have hjl:=(List.getElem?_eq_some_iff.1 hc).1
 have lL:(L.map ndAV).length=L.length:=List.length_map _
 have hgc:=Z3j hc
 have lC:=Zf2 C
 have lms:(n.mv.map mvAV).length=n.mv.length:=List.length_map _
 generalize L.map ndAV=ls at *
 generalize ivss C=Cs at *
 refine Zaf (fun k:Nat=>⟨envL [(0,.sl ls),(1,.int .i64 mo),(6,.sl Cs),(7,.int .i64 (i:Int)),(8,.osl none 0 0 (A.length+k)),(9,.int .i64 (j:Int)),(10,.int .i64 (k:Int))],[.cells (ivss (A++(List.range k).map fun (k:Nat)=>c ++ [(k:Int)]))]⟩)
  (fun k=>k≤n.mv.length) (fun k=>n.mv.length - k) 0 (by omega) (Zbz (Zab [(0,.sl ls),(1,.int .i64 mo),(6,.sl Cs),(7,.int .i64 (i:Int)),(8,.osl none 0 0 A.length),(9,.int .i64 (j:Int)),(10,.int .i64 0)] (by simp only [go_sem])) (by simp)) (fun k hk N hN=>?_)
 unfold Zp4
 have q0:(0:Int)≤(i:Int):=by omega
 have q1:(i:Int)<(L.length:Int):=by omega
 have r0:(0:Int)≤(j:Int):=by omega
 have r1:(j:Int)<(C.length:Int):=by omega
 by_cases hkn:k<n.mv.length
 ·have e1:IntKind.i64.wrap ((k:Int)+1)=((k+1:Nat):Int):=by rw [Zac (by omega) (by omega)]; omega
  have hB:(ivss (A++(List.range k).map fun (k:Nat)=>c ++ [(k:Int)])).length=A.length+k:=by rw [Zf2,List.length_append,List.length_map,List.length_range]
  have hnew:ivss (A++(List.range (k+1)).map fun (k:Nat)=>c ++ [(k:Int)])=ivss (A++(List.range k).map fun (k:Nat)=>c ++ [(k:Int)]) ++ [.sl (ivs (c ++ [(k:Int)]))]:=by
   rw [List.range_succ,List.map_append, ← List.append_assoc,Yrf]
   rfl
  have hgD:=fun f=>Yyq (f:=f) (C:=A++(List.range k).map fun (k:Nat)=>c ++ [(k:Int)])
  generalize hD:ivss (A++(List.range k).map fun (k:Nat)=>c ++ [(k:Int)])=D at *
  have k1:(k:Int)<(n.mv.length:Int):=by omega
  have s1:(c.length)*8≤1099511627776:=by omega
  have s2:(c.length+1)*8≤1099511627776:=by omega
  have s3:(A.length+k+1)*24≤1099511627776:=by omega
  have tD:D.take (A.length+k)=D:=List.take_of_length_le (by omega)
  have lD:A.length+k≤D.length:=by omega
  have tc:(ivs c).take c.length=ivs c:=List.take_of_length_le (by rw [Zat]; exact Nat.le_refl _)
  simp only [go_sem,Zm4,Zyj,Zxs,q0,q1,r0,r1,k1,lL,lC,lms,hget,hgc,e1,Zat,Ymm,s1,s2,s3,tD,lD,tc,Nat.le_refl,Nat.mul_one]
  refine ⟨Yye,hN (k+1) _ (by omega) (by omega) ?_⟩
  rw [Yp8,hnew]
  refine Zhp (Yy0 (m:=A.length+k+1) (l := [(0,.sl ls),(1,.int .i64 mo),(6,.sl Cs),(7,.int .i64 (i:Int)),(9,.int .i64 (j:Int)),(10,.int .i64 ((k+1:Nat):Int))]) hgD (fun f=>rfl) (by simp only [go_sem]) (by simp only [go_sem])) (Zab _ (by simp only [go_sem]; simp [Nat.add_assoc]))
 ·have hke:k=n.mv.length:=by omega
  subst hke
  have k1:¬ ((n.mv.length:Nat):Int)<(n.mv.length:Int):=by omega
  simp only [go_sem,Zm4,q0,q1,lL,lms,hget,k1]
  exact hK _ (by simp only [go_sem])
theorem Xbj {n:Nd}{p:List Int}(hml:n.mv.length≤6):(extP n p).length≤6:=by
 unfold extP
 split
 ·simp
 ·rw [List.length_map,List.length_range]; exact hml
theorem Yq9 {n:Nd}(hml:n.mv.length≤6):∀ C:List (List Int),(C.flatMap (extP n)).length≤6*C.length
 | []=>by simp
 | c::C=>by
  have h1:=Yq9 hml C
  have h2:=Xbj (p:=c) hml
  rw [List.flatMap_cons,List.length_append,List.length_cons]
  omega
theorem Xd1 {L:List Nd}{n:Nd}{i:Nat}{C:List (List Int)}{mo:Int}(hn:L[i]? = some n) (hL5:L.length≤1000) (hml:n.mv.length≤6) (hCl:C.length≤1000) (hcl:∀ c,c∈C→c.length≤1000) {K:Ex→St→Prop}
  (hK:∀ e:Nat→AV,Has e [(0,.sl (L.map ndAV)),(1,.int .i64 mo),(7,.int .i64 (i:Int)),(8,.osl none 0 0 (C.flatMap (extP n)).length)]→K (.exit 2) ⟨e,[.cells (ivss (C.flatMap (extP n)))]⟩) :
  T Tryz.prog 71 0 (.loop Zqx) ⟨envL [(0,.sl (L.map ndAV)),(1,.int .i64 mo),(6,.sl (ivss C)),(7,.int .i64 (i:Int)),(8,.osl none 0 0 0),(9,.int .i64 0)],[.cells []]⟩ K:=by
 have hget:=Yo2 hn
 have hil:=(List.getElem?_eq_some_iff.1 hn).1
 have lL:(L.map ndAV).length=L.length:=List.length_map _
 have lC:=Zf2 C
 refine Zaf (fun j:Nat=>⟨envL [(0,.sl (L.map ndAV)),(1,.int .i64 mo),(6,.sl (ivss C)),(7,.int .i64 (i:Int)),(8,.osl none 0 0 ((C.take j).flatMap (extP n)).length),(9,.int .i64 (j:Int))],[.cells (ivss ((C.take j).flatMap (extP n)))]⟩)
  (fun j=>j≤C.length) (fun j=>C.length - j) 0 (by omega) (Zab _ (by simp only [go_sem]; simp)) (fun j hj N hN=>?_)
 unfold Zqx
 have q0:(0:Int)≤(i:Int):=by omega
 have q1:(i:Int)<(L.length:Int):=by omega
 by_cases hjc:j<C.length
 ·obtain ⟨c,hc⟩:∃ c,C[j]? = some c:=⟨_,List.getElem?_eq_getElem hjc⟩
  have hc1:=hcl c (List.mem_of_getElem? hc)
  have e1:IntKind.i64.wrap ((j:Int)+1)=((j+1:Nat):Int):=by rw [Zac (by omega) (by omega)]; omega
  have r0:(0:Int)≤(j:Int):=by omega
  have r1:(j:Int)<(C.length:Int):=by omega
  have tk:(C.take (j+1)).flatMap (extP n)=(C.take j).flatMap (extP n)++extP n c:=by
   rw [List.take_add_one,hc,Option.toList_some,List.flatMap_append]
   simp
  have hAl:=Yq9 hml (C.take j)
  have htl:(C.take j).length≤C.length:=by rw [List.length_take]; omega
  generalize (C.take j).flatMap (extP n)=A at *
  by_cases h3:n.kind=3
  ·have hx:extP n c = [c ++ [-1]]:=by unfold extP; rw [if_pos h3]
   rw [hx] at tk
   have hgc:=Z3j hc
   have hgD:=fun f=>Yyq (f:=f) (C:=A)
   have hnew:ivss (A ++ [c ++ [-1]])=ivss A ++ [.sl (ivs (c ++ [-1]))]:=by rw [Yrf]; rfl
   have s1:(c.length)*8≤1099511627776:=by omega
   have s2:(c.length+1)*8≤1099511627776:=by omega
   have s3:(A.length+1)*24≤1099511627776:=by omega
   have hB:=Zf2 A
   have tD:(ivss A).take A.length=ivss A:=List.take_of_length_le (by omega)
   have lD:A.length≤(ivss A).length:=by omega
   have tc:(ivs c).take c.length=ivs c:=List.take_of_length_le (by rw [Zat]; exact Nat.le_refl _)
   simp only [go_sem,Zjl,Zpm,Z4d,Znf,q0,q1,r0,r1,lL,lC,hget,h3,hgc,e1,Zat,Ymm,s1,s2,s3,tD,lD,tc,Nat.le_refl,Nat.mul_one]
   refine ⟨Yye,hN (j+1) _ (by omega) (by omega) ?_⟩
   rw [Yp8,tk,hnew]
   refine Zhp (Yy0 (m:=A.length+1) (l := [(0,.sl (L.map ndAV)),(1,.int .i64 mo),(6,.sl (ivss C)),(7,.int .i64 (i:Int)),(9,.int .i64 ((j+1:Nat):Int))]) hgD (fun f=>rfl) (by simp only [go_sem]) (by simp only [go_sem])) (Zab _ (by simp only [go_sem]; simp))
  ·have hx:extP n c=(List.range n.mv.length).map fun (k:Nat)=>c ++ [(k:Int)]:=by unfold extP; rw [if_neg h3]
   rw [hx] at tk
   simp only [go_sem,Zjl,Zpm,Zze,q0,q1,r0,r1,lL,lC,hget,h3]
   refine Zar [(0,.sl (L.map ndAV)),(1,.int .i64 mo),(6,.sl (ivss C)),(7,.int .i64 (i:Int)),(8,.osl none 0 0 A.length),(9,.int .i64 (j:Int)),(10,.int .i64 0)] (by simp only [go_sem]) ?_
   refine Xd5 hn hL5 hml hc (by omega) (by omega) hc1 (fun e he=>?_)
   obtain ⟨a1,a2,a3,a4,a5,a6,_⟩:=he
   simp only [go_sem,Znf,a6,e1]
   refine hN (j+1) _ (by omega) (by omega) (Zbz (Zab [(0,.sl (L.map ndAV)),(1,.int .i64 mo),(6,.sl (ivss C)),(7,.int .i64 (i:Int)),(8,.osl none 0 0 (A.length+n.mv.length)),(9,.int .i64 ((j+1:Nat):Int))] (by simp only [go_sem,a1,a2,a3,a4,a5])) ?_)
   rw [tk]
   simp
 ·have hje:j=C.length:=by omega
  subst hje
  have r1:¬ ((C.length:Nat):Int)<(C.length:Int):=by omega
  rw [List.take_length]
  simp only [go_sem,Zjl,lC,r1]
  exact hK _ (by simp only [go_sem])
def plansV (L:List Nd):AV:=if ∀ j,j<L.length→(plansF L (j+1)).length≤60 then .tup [.sl (ivss (plansF L L.length)),.bool true] else .tup [.nils,.bool false]
theorem Ygt {L:List Nd}:∀ i c,c∈plansF L i→c.length=i
 | 0,c,h=>by simp [plansF] at h; rw [h]; rfl
 | i+1,c,h=>by
  obtain ⟨p,hp,hc⟩:=List.mem_flatMap.1 h
  have ih:=Ygt i p hp
  unfold extP at hc
  split at hc
  ·rw [List.mem_singleton.1 hc,List.length_append]; simp [ih]
  ·obtain ⟨k,_,rfl⟩:=List.mem_map.1 hc
   rw [List.length_append]; simp [ih]
theorem rplans {L:List Nd}(hL5:L.length≤100) (hml:∀ n,n∈L→n.mv.length≤6):SpecV Tryz.prog Ynf [.sl (L.map ndAV),.int .i64 60] (plansV L):=by
 have lL:(L.map ndAV).length=L.length:=List.length_map _
 refine Zba Yki (by simp) (Zbg 1 rfl ?_)
 unfold Yfw
 simp only [go_sem,Z4f,Z2u]
 refine Zp6 [0] [(0,.sl (L.map ndAV)),(1,.int .i64 60),(6,.sl (ivss [[]]))] ?_ ?_
 ·refine ⟨.inr (by simp only [go_sem]),.inr (by simp only [go_sem]),.inl ?_,trivial⟩
  simp only [go_sem]
  refine .osl none 0 0 1 [.nils] [.sl []] rfl (by simp) rfl (fun x hx=>by simp at hx; subst hx; rfl) (by simp [es]) (fun i x j y z hx hy hz=>?_)
  have hi:i=0:=by have:=(List.getElem?_eq_some_iff.1 hx).1; simp at this; omega
  subst hi
  simp at hx; subst hx
  have hj:j=0:=by have:=(List.getElem?_eq_some_iff.1 hy).1; simp [AV.cells] at this; omega
  subst hj
  simp [AV.cells] at hy; subst hy
  simp [es] at hz; subst hz
  exact .nilsl
 refine Zbc (Zbc (T_W ?_))
 simp only [go_sem,Z1w]
 refine Za8 (Zny (fun i:Nat=>⟨envL [(0,.sl (L.map ndAV)),(1,.int .i64 60),(6,.sl (ivss (plansF L i))),(7,.int .i64 (i:Int))],[]⟩)
  (fun i=>i≤L.length∧∀ j,j<i→(plansF L (j+1)).length≤60) (fun i=>L.length - i) 0 ⟨by omega,fun j hj=>by omega⟩ ?_ (fun i hi N hN=>?_))
 ·refine Zbz (Zgb [] (by decide) (fun i hi=>absurd hi (by omega)) [(0,.sl (L.map ndAV)),(1,.int .i64 60),(6,.sl (ivss [[]])),(7,.int .i64 0)] (by simp only [go_sem])) ?_
  rfl
 obtain ⟨hi1,hi2⟩:=hi
 unfold Z3d
 by_cases hin:i<L.length
 ·obtain ⟨n,hn⟩:∃ n,L[i]? = some n:=⟨_,List.getElem?_eq_getElem hin⟩
  have hm:=hml n (List.mem_of_getElem? hn)
  have hC60:(plansF L i).length≤60:=by
   cases i with
   | zero=>simp [plansF]
   | succ k=>exact hi2 k (by omega)
  have hstep:(plansF L i).flatMap (extP n)=plansF L (i+1):=by
   show _=(plansF L i).flatMap (extP (L.getD i default))
   rw [List.getD_eq_getElem?_getD,hn]; rfl
  have q1:(i:Int)<(L.length:Int):=by omega
  have e1:IntKind.i64.wrap ((i:Int)+1)=((i+1:Nat):Int):=by rw [Zac (by omega) (by omega)]; omega
  refine Zbg 0 rfl ?_
  simp only [go_sem,Zog,q1,lL]
  refine Zbc (Za8 (Zbg 0 rfl ?_))
  simp only [go_sem,Z3g]
  refine T_le (Zkb 8 none (by simp only [go_sem]) [(0,.sl (L.map ndAV)),(1,.int .i64 60),(6,.sl (ivss (plansF L i))),(7,.int .i64 (i:Int))] (by simp only [go_sem])) ?_
  refine Zbc (Zbc (T_W ?_))
  simp only [go_sem,Z13,List.nil_append,List.length_nil]
  refine Za8 (Zar [(0,.sl (L.map ndAV)),(1,.int .i64 60),(6,.sl (ivss (plansF L i))),(7,.int .i64 (i:Int)),(8,.osl none 0 0 0),(9,.int .i64 0)] (by simp only [go_sem]) (Xd1 hn (by omega) hm (by omega) (fun c hc=>by rw [Ygt i c hc]; omega) (fun e he=>?_)))
  rw [hstep] at he ⊢
  obtain ⟨a1,a2,a3,a4,_⟩:=he
  refine Zp6 [0] [(0,.sl (L.map ndAV)),(1,.int .i64 60),(7,.int .i64 (i:Int)),(8,.sl (ivss (plansF L (i+1))))] ?_ ?_
  ·refine ⟨.inr a1,.inr a2,.inr a3,.inl ?_,trivial⟩
   show BV _ _ (e 8) _
   rw [a4]
   exact Y8c rfl (by simp)
  by_cases h60:(plansF L (i+1)).length≤60
  ·have g1:¬ (60:Int)<((plansF L (i+1)).length:Int):=by omega
   refine T_W ?_
   simp only [go_sem,Znc,Zf2,g1,Zzb]
   refine T_W ?_
   simp only [go_sem,Zxo,e1]
   refine hN (i+1) _ ⟨by omega,fun j hj=>?_⟩ (by omega) (Zbz (Zgb [] (by decide) (fun i hi=>absurd hi (by omega)) [(0,.sl (L.map ndAV)),(1,.int .i64 60),(6,.sl (ivss (plansF L (i+1)))),(7,.int .i64 ((i+1:Nat):Int))] (by simp only [go_sem])) rfl)
   by_cases hji:j=i
   ·subst hji; exact h60
   ·exact hi2 j (by omega)
  ·have g1:(60:Int)<((plansF L (i+1)).length:Int):=by omega
   refine T_W ?_
   simp only [go_sem,Znc,Zf2,g1,Zy9]
   rw [show plansV L = .tup [.nils,.bool false] from if_neg (fun h=>h60 (h i hin))]
   simp only [go_sem]
 ·have hie:i=L.length:=by omega
  subst hie
  have q1:¬ ((L.length:Nat):Int)<(L.length:Int):=by omega
  refine Zbg 0 rfl ?_
  simp only [go_sem,Zog,q1,lL]
  refine T_W ?_
  simp only [go_sem,Zzg]
  unfold plansV
  rw [if_pos hi2]
  simp only [go_sem]
end GoAbs
namespace GoAbs
open Go Go.Proofs
set_option maxHeartbeats 4000000
def okAt (n:Nd) (z:Int):Prop:=if n.kind=3 then z = -1 else 0≤z∧z<(n.mv.length:Int)
theorem Yrs {p:List Int}{z:Int}{j:Nat}(h:j<p.length):(p ++ [z]).getD j 0=p.getD j 0:=by
 rw [List.getD_eq_getElem?_getD,List.getD_eq_getElem?_getD,List.getElem?_append_left h]
theorem Yj0 {p:List Int}{z:Int}:(p ++ [z]).getD p.length 0=z:=by
 rw [List.getD_eq_getElem?_getD,List.getElem?_append_right (Nat.le_refl _),Nat.sub_self]; rfl
theorem Y0c {n:Nd}{p:List Int}{z:Int}:p ++ [z]∈extP n p↔okAt n z:=by
 unfold extP okAt
 by_cases h:n.kind=3
 ·rw [if_pos h,if_pos h,List.mem_singleton]
  constructor
  ·intro e; have:=List.append_cancel_left e; simpa using this
  ·intro e; rw [e]
 ·rw [if_neg h,if_neg h,List.mem_map]
  constructor
  ·rintro ⟨k,hk,e⟩
   have:=List.append_cancel_left e
   have hk':=List.mem_range.1 hk
   simp at this
   omega
  ·intro ⟨h1,h2⟩
   refine ⟨z.toNat,List.mem_range.2 (by omega),?_⟩
   rw [show ((z.toNat:Nat):Int)=z by omega]
theorem Y45 {n:Nd}{p c:List Int}(h:c∈extP n p):∃ z,c=p ++ [z]:=by
 unfold extP at h
 split at h
 ·exact ⟨_,List.mem_singleton.1 h⟩
 ·obtain ⟨k,_,rfl⟩:=List.mem_map.1 h
  exact ⟨_,rfl⟩
theorem Yc5 {L:List Nd}:∀ {i:Nat}{c:List Int},c∈plansF L i↔c.length=i∧∀ j,j<i→okAt (L.getD j default) (c.getD j 0)
 | 0,c=>by
  simp only [plansF,List.mem_singleton]
  constructor
  ·intro h; rw [h]; exact ⟨rfl,fun j hj=>by omega⟩
  ·intro h; exact List.eq_nil_of_length_eq_zero h.1
 | i+1,c=>by
  show c∈(plansF L i).flatMap (extP (L.getD i default))↔_
  rw [List.mem_flatMap]
  constructor
  ·rintro ⟨p,hp,hc⟩
   obtain ⟨h1,h2⟩:=Yc5.1 hp
   obtain ⟨z,rfl⟩:=Y45 hc
   have hz:=Y0c.1 hc
   refine ⟨by rw [List.length_append,h1]; rfl,fun j hj=>?_⟩
   by_cases hji:j=i
   ·subst hji
    have:=Yj0 (p:=p) (z:=z)
    rw [h1] at this
    rw [this]; exact hz
   ·rw [Yrs (by omega)]; exact h2 j (by omega)
  ·rintro ⟨h1,h2⟩
   obtain ⟨p,z,rfl⟩:∃ p z,c=p ++ [z]:=by
    rcases List.eq_nil_or_concat c with h | ⟨p,z,h⟩
    ·rw [h] at h1; simp at h1
    ·exact ⟨p,z,by simpa using h⟩
   have hl:p.length=i:=by simpa using h1
   refine ⟨p,Yc5.2 ⟨hl,fun j hj=>?_⟩,Y0c.2 ?_⟩
   ·have:=h2 j (by omega)
    rwa [Yrs (by omega)] at this
   ·have:=h2 i (by omega)
    have e:=Yj0 (p:=p) (z:=z)
    rw [hl] at e
    rwa [e] at this
theorem Ygp {L:List Nd}{d:List UInt8}(h:LT L d) {c:List Int}:c∈plansF L L.length↔plnB (toGm L d) c=true:=by
 obtain ⟨hg,hgn⟩:=h.gmP
 rw [Yc5]
 unfold plnB
 rw [Bool.and_eq_true,decide_eq_true_eq,List.all_eq_true,hgn]
 have key:∀ j,j<L.length→(okAt (L.getD j default) (c.getD j 0)↔plnI (toGm L d) c j=true):=fun j hj=>by
  obtain ⟨n,hn⟩:∃ n,L[j]? = some n:=⟨_,List.getElem?_eq_getElem hj⟩
  have hnt:=h.nd n (List.mem_of_getElem? hn)
  have hat:nodeAt (toGm L d) j=toGN n:=by
   show (L.map toGN).getD j default=_
   rw [List.getD_eq_getElem?_getD,List.getElem?_map,hn]; rfl
  have hgd:L.getD j default=n:=by rw [List.getD_eq_getElem?_getD,hn]; rfl
  have hl:(toGN n).to.length=n.mv.length:=List.length_map _
  have hk:(toGN n).kind=3↔n.kind=3:=by show n.kind.toNat=3↔_; omega
  unfold plnI okAt
  rw [hgd,hat,hl]
  by_cases h3:n.kind=3
  ·rw [if_pos h3,if_pos (hk.2 h3),decide_eq_true_eq]
  ·rw [if_neg h3,if_neg (fun x=>h3 (hk.1 x)),decide_eq_true_eq]
 constructor
 ·rintro ⟨h1,h2⟩
  exact ⟨h1,fun j hj=>(key j (List.mem_range.1 hj)).1 (h2 j (List.mem_range.1 hj))⟩
 ·rintro ⟨h1,h2⟩
  exact ⟨h1,fun j hj=>(key j hj).2 (h2 j (List.mem_range.2 hj))⟩
def minS (f:Nat→Rat) (c:Nat→Bool):Nat→Option Rat
 | 0=>none
 | k+1=>if c k=true then (match minS f c k with | none=>some (f k) | some m=>if f k<m then some (f k) else some m) else minS f c k
def maxS (f:Nat→Rat):Nat→Option Rat
 | 0=>none
 | k+1=>match maxS f k with | none=>some (f k) | some m=>if m<f k then some (f k) else some m
theorem Z4h {f:Nat→Rat}{c:Nat→Bool}:∀ n,(∀ k,k<n→c k=true→∃ m,minS f c n=some m∧m≤f k)∧(∀ m,minS f c n=some m→∃ k,k<n∧c k=true∧m=f k)
 | 0=>⟨fun k hk=>by omega,fun m h=>by simp [minS] at h⟩
 | n+1=>by
  obtain ⟨h1,h2⟩:=Z4h (f:=f) (c:=c) n
  unfold minS
  by_cases hc:c n=true
  ·rw [if_pos hc]
   cases hm:minS f c n with
   | none =>
    refine ⟨fun k hk hck=>⟨f n,rfl,?_⟩,fun m h=>⟨n,by omega,hc,(Option.some.inj h).symm⟩⟩
    by_cases hkn:k=n
    ·rw [hkn]; exact Rat.le_refl
    ·obtain ⟨m,e,_⟩:=h1 k (by omega) hck
     rw [hm] at e; cases e
   | some b =>
    obtain ⟨k0,hk0,hck0,eb⟩:=h2 b hm
    dsimp only
    by_cases hlt:f n<b
    ·rw [if_pos hlt]
     refine ⟨fun k hk hck=>⟨f n,rfl,?_⟩,fun m h=>⟨n,by omega,hc,(Option.some.inj h).symm⟩⟩
     by_cases hkn:k=n
     ·rw [hkn]; exact Rat.le_refl
     ·obtain ⟨m,e,hm'⟩:=h1 k (by omega) hck
      rw [hm] at e; cases e
      exact Rat.le_trans (Rat.le_of_lt hlt) hm'
    ·rw [if_neg hlt]
     refine ⟨fun k hk hck=>⟨b,rfl,?_⟩,fun m h=>⟨k0,by omega,hck0,by rw [← Option.some.inj h,eb]⟩⟩
     by_cases hkn:k=n
     ·rw [hkn]; exact Rat.not_lt.1 hlt
     ·obtain ⟨m,e,hm'⟩:=h1 k (by omega) hck
      rw [hm] at e; cases e
      exact hm'
  ·rw [if_neg hc]
   refine ⟨fun k hk hck=>?_,fun m h=>?_⟩
   ·by_cases hkn:k=n
    ·rw [hkn] at hck; exact absurd hck hc
    ·exact h1 k (by omega) hck
   ·obtain ⟨k,hk,h'⟩:=h2 m h
    exact ⟨k,by omega,h'⟩
theorem Ydw {f:Nat→Rat}:∀ n,(∀ k,k<n→∃ m,maxS f n=some m∧f k≤m)∧(∀ m,maxS f n=some m→∃ k,k<n∧m=f k)
 | 0=>⟨fun k hk=>by omega,fun m h=>by simp [maxS] at h⟩
 | n+1=>by
  obtain ⟨h1,h2⟩:=Ydw (f:=f) n
  unfold maxS
  cases hm:maxS f n with
  | none =>
   refine ⟨fun k hk=>⟨f n,rfl,?_⟩,fun m h=>⟨n,by omega,(Option.some.inj h).symm⟩⟩
   by_cases hkn:k=n
   ·rw [hkn]; exact Rat.le_refl
   ·obtain ⟨m,e,_⟩:=h1 k (by omega)
    rw [hm] at e; cases e
  | some b =>
   obtain ⟨k0,hk0,eb⟩:=h2 b hm
   dsimp only
   by_cases hlt:b<f n
   ·rw [if_pos hlt]
    refine ⟨fun k hk=>⟨f n,rfl,?_⟩,fun m h=>⟨n,by omega,(Option.some.inj h).symm⟩⟩
    by_cases hkn:k=n
    ·rw [hkn]; exact Rat.le_refl
    ·obtain ⟨m,e,hm'⟩:=h1 k (by omega)
     rw [hm] at e; cases e
     exact Rat.le_trans hm' (Rat.le_of_lt hlt)
   ·rw [if_neg hlt]
    refine ⟨fun k hk=>⟨b,rfl,?_⟩,fun m h=>⟨k0,by omega,by rw [← Option.some.inj h,eb]⟩⟩
    by_cases hkn:k=n
    ·rw [hkn]; exact Rat.not_lt.1 hlt
    ·obtain ⟨m,e,hm'⟩:=h1 k (by omega)
     rw [hm] at e; cases e
     exact hm'
def alkB (L:List Nd) (p q:List Int) (j:Nat):Bool:=(List.range j).all fun i=>(!decide ((L.getD i default).kind=1)) || decide (p.getD i 0=q.getD i 0)
theorem Ypb {L:List Nd}{p q:List Int}{j:Nat}:alkB L p q j=true↔∀ i,i<j→(L.getD i default).kind=1→p.getD i 0=q.getD i 0:=by
 unfold alkB
 rw [List.all_eq_true]
 have e:∀ i,(((!decide ((L.getD i default).kind=1)) || decide (p.getD i 0=q.getD i 0))=true)↔((L.getD i default).kind=1→p.getD i 0=q.getD i 0):=fun i=>by
  by_cases hk:(L.getD i default).kind=1
  ·rw [decide_eq_true hk,Bool.not_true,Bool.false_or,decide_eq_true_eq]
   exact ⟨fun h _=>h,fun h=>h hk⟩
  ·rw [decide_eq_false hk,Bool.not_false,Bool.true_or]
   exact ⟨fun _ h=>absurd h hk,fun _=>rfl⟩
 exact ⟨fun h i hi hk=>(e i).1 (h i (List.mem_range.2 hi)) hk,fun h i hi=>(e i).2 (fun hk=>h i (List.mem_range.1 hi) hk)⟩
theorem Y5y {L:List Nd}{p q:List Int}{j:Nat}:alkB L p q (j+1)=(alkB L p q j && ((!decide ((L.getD j default).kind=1)) || decide (p.getD j 0=q.getD j 0))):=by
 unfold alkB
 rw [List.range_succ,List.all_append]
 simp
def plAt (P:List (List Int)) (k:Nat):List Int:=P.getD k []
def vAt (g:Gm) (P:List (List Int)) (s k:Nat):Rat:=rget (valP g (plAt P k)) s
def leastS (L:List Nd) (g:Gm) (P:List (List Int)) (s i:Nat):Nat→Option Rat:=minS (vAt g P s) (fun k=>alkB L (plAt P i) (plAt P k) L.length)
def leastR (L:List Nd) (g:Gm) (P:List (List Int)) (s i:Nat):Rat:=(leastS L g P s i P.length).getD 0
theorem minimax {L:List Nd}{d:List UInt8}(h:LT L d) {s:Nat}(hs:s<L.length):(maxS (leastR L (toGm L d) (plansF L L.length) s) (plansF L L.length).length).getD 0=rget (valG (toGm L d)) s:=by
 obtain ⟨hg,hgn⟩:=h.gmP
 have hmem:=fun c=>Ygp h (c:=c)
 obtain ⟨P,hP⟩:∃ P,P=plansF L L.length:=⟨_,rfl⟩
 rw [← hP] at hmem ⊢
 have hat:∀ i,i<L.length→nodeAt (toGm L d) i=toGN (L.getD i default):=fun i hi=>by
  show (L.map toGN).getD i default=_
  rw [List.getD_eq_getElem?_getD,List.getElem?_map,List.getD_eq_getElem?_getD,List.getElem?_eq_getElem hi]; rfl
 have hkd:∀ i,i<L.length→((nodeAt (toGm L d) i).kind:Int)=(L.getD i default).kind:=fun i hi=>by
  rw [hat i hi]
  have hm:L.getD i default∈L:=by rw [List.getD_eq_getElem?_getD,List.getElem?_eq_getElem hi]; exact List.getElem_mem hi
  have:=(h.nd _ hm).kind
  show ((L.getD i default).kind.toNat:Int)=_
  omega
 have hidx:∀ c,c∈P→∃ k,k<P.length∧plAt P k=c:=fun c hc=>by
  obtain ⟨k,hk⟩:=List.getElem?_of_mem hc
  exact ⟨k,(List.getElem?_eq_some_iff.1 hk).1,by unfold plAt; rw [List.getD_eq_getElem?_getD,hk]; rfl⟩
 have hpk:∀ k,k<P.length→plnB (toGm L d) (plAt P k)=true:=fun k hk=>(hmem _).1 (by
  unfold plAt
  rw [List.getD_eq_getElem?_getD,List.getElem?_eq_getElem hk]
  exact List.getElem_mem hk)
 have hb:=Yzr hg (v:=valG (toGm L d))
 obtain ⟨i0,hi0,e0⟩:=hidx _ ((hmem _).2 hb)
 have low:rget (valG (toGm L d)) s≤leastR L (toGm L d) P s i0:=by
  obtain ⟨g1,g2⟩:=Z4h (f:=vAt (toGm L d) P s) (c:=fun k=>alkB L (plAt P i0) (plAt P k) L.length) P.length
  obtain ⟨m,em,_⟩:=g1 i0 hi0 (Ypb.2 fun _ _ _=>rfl)
  obtain ⟨k,hk,hck,ek⟩:=g2 m em
  have e:leastR L (toGm L d) P s i0=m:=by unfold leastR leastS; rw [em]; rfl
  rw [e,ek]
  have hal:=Ypb.1 hck
  refine Y9a hg (Z0f (hpk k hk)) (fun i hi h1=>?_) s (by omega)
  have hi':i<L.length:=by omega
  have:=hal i hi' (by have:=hkd i hi'; omega)
  unfold pget
  rw [← this,e0,Yra hi]
  unfold bestP
  rw [if_pos h1]; omega
 have up:∀ i,i<P.length→leastR L (toGm L d) P s i≤rget (valG (toGm L d)) s:=fun i hi=>by
  obtain ⟨q,hq⟩:∃ q:List Int,q=(List.range L.length).map fun j=>if (nodeAt (toGm L d) j).kind=2 then bestP (toGm L d) (valG (toGm L d)) j else (plAt P i).getD j 0:=⟨_,rfl⟩
  have hql:q.length=L.length:=by rw [hq,List.length_map,List.length_range]
  have hqg:∀ j,j<L.length→q.getD j 0=if (nodeAt (toGm L d) j).kind=2 then bestP (toGm L d) (valG (toGm L d)) j else (plAt P i).getD j 0:=fun j hj=>by
   rw [hq,List.getD_eq_getElem?_getD,List.getElem?_map,List.getElem?_range hj]; rfl
  have hqB:plnB (toGm L d) q=true:=by
   have a:=hpk i hi
   unfold plnB at a hb ⊢
   rw [Bool.and_eq_true,decide_eq_true_eq,List.all_eq_true] at a hb ⊢
   refine ⟨by rw [hql,hgn],fun j hj=>?_⟩
   have hj':j<L.length:=by have:=List.mem_range.1 hj; omega
   have a':=a.2 j hj
   have b':=hb.2 j hj
   unfold plnI at a' b' ⊢
   rw [hqg j hj']
   by_cases h2:(nodeAt (toGm L d) j).kind=2
   ·rw [if_pos h2]
    rw [Yra (by omega)] at b'
    exact b'
   ·rw [if_neg h2]; exact a'
  obtain ⟨k,hk,ek⟩:=hidx q ((hmem q).2 hqB)
  obtain ⟨g1,g2⟩:=Z4h (f:=vAt (toGm L d) P s) (c:=fun k=>alkB L (plAt P i) (plAt P k) L.length) P.length
  obtain ⟨m,em,hm⟩:=g1 k hk (Ypb.2 fun j hj h1=>by
   rw [ek,hqg j hj,if_neg (by have:=hkd j hj; omega)])
  have e:leastR L (toGm L d) P s i=m:=by unfold leastR leastS; rw [em]; rfl
  rw [e]
  refine Rat.le_trans hm ?_
  unfold vAt
  rw [ek]
  refine Xa2 hg (Z0f hqB) (fun j hj h2=>?_) s (by omega)
  have hj':j<L.length:=by omega
  unfold pget
  rw [hqg j hj',if_pos h2]
  unfold bestP
  rw [if_neg (by omega),if_pos h2]; omega
 obtain ⟨g1,g2⟩:=Ydw (f:=leastR L (toGm L d) P s) P.length
 obtain ⟨m,em,hm⟩:=g1 i0 hi0
 obtain ⟨k,hk,ek⟩:=g2 m em
 rw [em]
 show m=_
 refine Rat.le_antisymm ?_ (Rat.le_trans low hm)
 rw [ek]
 exact up k hk
end GoAbs
