/- Lemmas for the claim (contracts of the functions that it reaches, and what they compute), without conditions. -/
import Derived.Test.YtiapneoakbealaaGreatK36
import Derived.Test.YtiapneoakbealaaGreatProg
import Derived.KernelRfl
set_option linter.unusedVariables false
set_option linter.unusedSimpArgs false
set_option maxRecDepth 10000
set_option maxHeartbeats 2000000
namespace GoAbs
open Go Go.Proofs
theorem Xlv (s:ByteArray):∃ l,s=bs l:=⟨s.data.toList,by simp [bs]⟩
theorem Opens.mono {P:Program}{t:TypeId}{S S':List AV→Prop}(h:Opens P t S) (hs:∀ av,S av→S' av):Opens P t S':=fun enc w base spare held fuel cs x hx=>by
 obtain ⟨av,h1,h2⟩:=h enc w base spare held fuel cs x hx
 exact ⟨av,h1,hs av h2⟩
theorem Yxc {P:Program}{f:Nat}{xs:List AV}{vs:Array Value}{w:World}(h:SpecV P f xs (.bool true)) (hr:Reps w noX noPl xs vs):Calls P f vs w fun e w'=>e = .returned (.bool true)∧Go.RowKit.Below w.heap.size w w' :=
 (h.2 noX w vs (fun _ hb=>hb.elim) hr).mono fun e w' he=>by
  obtain ⟨v,rfl,hv,hb⟩:=he
  cases hv
  exact ⟨rfl,hb⟩
theorem Ydh {w:World}{x:AV}{xs:List AV}{v:Value}{l:List Value}(h:Rep w noX noPl x v) (k:Reps w noX noPl xs l.toArray):Reps w noX noPl (x::xs) (v::l).toArray:=by
 refine ⟨by have:=k.1; simp at this ⊢; exact this,fun i y u hy hu=>?_⟩
 cases i with
 | zero=>simp at hy hu; subst hy hu; exact h
 | succ i=>exact k.2 i y u (by simpa using hy) (by simpa using hu)
theorem reps3 {w:World}{x y z:AV}{v u t:Value}(h:Rep w noX noPl x v) (k:Rep w noX noPl y u) (m:Rep w noX noPl z t):Reps w noX noPl [x,y,z] #[v,u,t]:=Ydh h (Ydh k (Ydh (l := []) m ⟨rfl,fun i z t hz=>by simp at hz⟩))
theorem Y4l {P:Program}{W:World}{r:Reach}{base:Nat}{t:TypeId}{v:Value}{e:TypeId}(ht:P.underlying t=some (.slice e)) (h:Value.okWide P W r base t v):v.cells = #[v]:=by
 obtain ⟨a,l,c,rfl⟩:=Go.WideShapes.okWide_slice ht h; rfl
theorem Xeu {P:Program}{W:World}{r:Reach}{base:Nat}{t:TypeId}{v:Value}(ht:P.underlying t=some .string) (h:Value.okWide P W r base t v):v.cells = #[v]:=by
 obtain ⟨s,rfl⟩:=Go.WideShapes.okWide_string ht h; rfl
theorem opensNum:Opens Tryz.prog 23 (fun av=>∃ l:List UInt8,av = [.str (bs l)]):=by
 refine Opens.mono (Y4o Tryz.underlying23) ?_
 rintro av ⟨s,rfl,_⟩
 obtain ⟨l,rfl⟩:=Xlv s
 exact ⟨l,rfl⟩
theorem opensMove:Opens Tryz.prog 63 (fun av=>∃ m:Mv,av=mvC m):=by
 refine Opens.mono (Yuz (n:=2) Tryz.underlying63 (by kernel_rfl) (Zlj (off:=0) (k:=1) rfl (by kernel_rfl) (by omega) (Yds Tryz.underlying3) (Zlj (off:=1) (k:=1) rfl (by kernel_rfl) (by omega) opensNum Yj3))) ?_
 rintro av ⟨a,b,rfl,_,⟨n,rfl,_⟩,c,d,rfl,_,⟨l,rfl⟩,rfl⟩
 exact ⟨(n,l),rfl⟩
theorem rowsOf {α:Type}{f:α→List AV}{n:Nat}:∀ l:List (List AV),(∀ c,c∈l→c.length=n∧∃ s:α,c=f s)→∃ L:List α,l.map AV.agg=L.map fun s=>AV.agg (f s):=by
 intro l
 induction l with
 | nil=>intro _; exact ⟨[],rfl⟩
 | cons c l ih =>
  intro h
  obtain ⟨L,hL⟩:=ih (fun d hd=>h d (by simp [hd]))
  obtain ⟨_,s,hs⟩:=h c (by simp)
  exact ⟨s::L,by rw [List.map_cons,List.map_cons,hL,hs]⟩
theorem opensMoves:Opens Tryz.prog 56 (fun av=>∃ L:List Mv,av = [.sl (L.map mvAV)]):=by
 refine Opens.mono (Ynm (n:=2) Tryz.underlying56 (by kernel_rfl) (by omega) opensMove) ?_
 rintro av ⟨l,rfl,h⟩
 obtain ⟨L,hL⟩:=rowsOf l h
 exact ⟨L,by rw [hL]; rfl⟩
theorem opensNode:Opens Tryz.prog 58 (fun av=>∃ n:Nd,av=ndC n):=by
 refine Opens.mono (Yuz (n:=3) Tryz.underlying58 (by kernel_rfl) (Zlj (off:=0) (k:=1) rfl (by kernel_rfl) (by omega) (Yds Tryz.underlying3) (Zlj (off:=1) (k:=1) rfl (by kernel_rfl) (by omega) opensNum
  (Zlj (off:=2) (k:=1) rfl (by kernel_rfl) (by omega) opensMoves Yj3)))) ?_
 rintro av ⟨a,b,rfl,_,⟨n,rfl,_⟩,c,d,rfl,_,⟨l,rfl⟩,e,f,rfl,_,⟨M,rfl⟩,rfl⟩
 exact ⟨⟨n,l,M⟩,rfl⟩
theorem opensNodes:Opens Tryz.prog 22 (fun av=>∃ L:List Nd,av = [.sl (L.map ndAV)]):=by
 refine Opens.mono (Ynm (n:=3) Tryz.underlying22 (by kernel_rfl) (by omega) opensNode) ?_
 rintro av ⟨l,rfl,h⟩
 obtain ⟨L,hL⟩:=rowsOf l h
 exact ⟨L,by rw [hL]; rfl⟩
theorem opensInts:Opens Tryz.prog 36 (fun av=>∃ p:List Int,av = [.sl (ivs p)]∧∀ n,n∈p→(Lit.int .i64 n).wf=true):=by
 refine Opens.mono (Y3c (e:=3) (fun x ⟨n,hx,_⟩=>by cases hx; rfl) Tryz.underlying36 (by kernel_rfl) (Yds Tryz.underlying3)) ?_
 rintro av ⟨l,rfl,h⟩
 have:∀ l:List AV,(∀ c,c∈l→∃ n:Int,[c] = [AV.int .i64 n]∧(Lit.int .i64 n).wf=true)→∃ p:List Int,l=ivs p∧∀ n,n∈p→(Lit.int .i64 n).wf=true:=by
  intro l
  induction l with
  | nil=>intro _; exact ⟨[],rfl,fun n hn=>by simp at hn⟩
  | cons c l ih =>
   intro h
   obtain ⟨p,hp,hw⟩:=ih (fun d hd=>h d (by simp [hd]))
   obtain ⟨n,hn,hnw⟩:=h c (by simp)
   cases hn
   refine ⟨n::p,by rw [hp]; rfl,fun m hm=>?_⟩
   rcases List.mem_cons.1 hm with rfl | hm
   ·exact hnw
   ·exact hw m hm
 obtain ⟨p,hp,hw⟩:=this l h
 exact ⟨p,by rw [hp],hw⟩
end GoAbs
namespace GoAbs
open Go Go.Proofs
def Zva:List IOp := [oI 4 (.mv (.c (.bool false))) 0]
def Zvd:List IOp := [mI 6 0 0,oI 7 (.len (.t 6)) 0,mI 8 1 0,oI 9 (.len (.t 8)) 0,oI 10 (.bin .neq (.t 7) (.t 9)) 0]
def Yd2:List IOp := [oI 4 (.mv (.c (.bool false))) 0]
def Zv8:List IOp := [oI 5 (.mv (cI 0)) 0]
def Zk0:List IOp := [mI 11 5 0,mI 12 0 0,oI 13 (.len (.t 12)) 0,oI 14 (.bin .lss (.t 11) (.t 13)) 0]
def Zkn:List IOp := [mI 17 0 0,mI 18 5 0,xI 19 1 17 18 0,lI 20 19 0,mI 21 1 0,mI 22 5 0,xI 23 1 21 22 0,lI 24 23 0,oI 25 (.bin .neq (.t 20) (.t 24)) 0]
@[go_sem ↓] theorem Z85 : autoK Zkn = (0, 0) := by kernel_rfl
@[go_sem] theorem Yup : autoK [mI 17 0 0, mI 18 5 0, xI 19 1 17 18 0, lI 20 19 0, mI 21 1 0, mI 22 5 0, xI 23 1 21 22 0, lI 24 23 0, oI 25 (.bin .neq (.t 20) (.t 24)) 0] = (0, 0) := Z85
def Yef:List IOp := [oI 4 (.mv (.c (.bool false))) 0]
def Zuw:List IOp := [mI 15 5 0,oI 16 (.bin .add (.t 15) (cI 1)) 0,mI 5 16 0]
def Zvp:CC := .seq (.seq (.rg false Zk0) (.cond (.t 14) .skip (.exit 0))) (.seq (.block 1 (.seq (.rg true Zkn) (.cond (.t 25) (.seq (.rg false Yef) .ret) .skip))) (.rg false Zuw))
def Zwq:List IOp := [oI 4 (.mv (.c (.bool true))) 0]
def Yak:CC := .seq (.rg false Zva) (.seq (.seq (.rg false Zvd) (.cond (.t 10) (.seq (.rg false Yd2) .ret) .skip)) (.seq (.seq (.rg false Zv8) (.block 0 (.loop Zvp))) (.seq (.rg false Zwq) .ret)))
abbrev Ykn:Nat:=56
theorem Yh4:fnOk Tryz.prog 56=some (26,Yak,[.tmp 4]):=by kernel_rfl
end GoAbs
namespace GoAbs
open Go Go.Proofs
def Zb (b:Nat) (q:Rat):Prop:=∃ z:Int,q=z∧z.natAbs<2 ^ b
def Zq (q:Rat):Prop:=∃ z:Int,q=z
theorem Zb.q {b:Nat}{q:Rat}(h:Zb b q):Zq q:=⟨h.choose,h.choose_spec.1⟩
theorem Zq.add {a b:Rat}(h:Zq a) (k:Zq b):Zq (a+b):=by
 obtain ⟨x,rfl⟩:=h; obtain ⟨y,rfl⟩:=k
 exact ⟨x+y,by simp⟩
theorem Zq.mul {a b:Rat}(h:Zq a) (k:Zq b):Zq (a*b):=by
 obtain ⟨x,rfl⟩:=h; obtain ⟨y,rfl⟩:=k
 exact ⟨x*y,by simp⟩
theorem Zq.sub {a b:Rat}(h:Zq a) (k:Zq b):Zq (a - b):=by
 obtain ⟨x,rfl⟩:=h; obtain ⟨y,rfl⟩:=k
 exact ⟨x - y,by simp⟩
theorem Zq.sum {R:List Nat}{f:Nat→Rat}(h:∀ i,i∈R→Zq (f i)):Zq (sumL R f):=by
 induction R with
 | nil=>exact ⟨0,rfl⟩
 | cons a R ih=>rw [Zaw]; exact (h a List.mem_cons_self).add (ih fun i hi=>h i (List.mem_cons_of_mem _ hi))
theorem Zb.mono {a b:Nat}{q:Rat}(h:Zb a q) (hab:a≤b):Zb b q:=by
 obtain ⟨z,h1,h2⟩:=h
 exact ⟨z,h1,Nat.lt_of_lt_of_le h2 (Nat.pow_le_pow_right (by omega) hab)⟩
theorem Zb.mul {a b:Nat}{p q:Rat}(h:Zb a p) (k:Zb b q):Zb (a+b) (p*q):=by
 obtain ⟨x,rfl,h2⟩:=h; obtain ⟨y,rfl,k2⟩:=k
 exact ⟨x*y,by simp,by rw [Int.natAbs_mul,Nat.pow_add]; exact Nat.mul_lt_mul'' h2 k2⟩
theorem Zb.sub {a:Nat}{p q:Rat}(h:Zb a p) (k:Zb a q):Zb (a+1) (p - q):=by
 obtain ⟨x,rfl,h2⟩:=h; obtain ⟨y,rfl,k2⟩:=k
 exact ⟨x - y,by simp,by rw [Nat.pow_succ]; omega⟩
def fbit:Nat→Nat→Nat
 | 0,_=>1
 | k+1,b=>b+fbit k (2*b+1)
theorem Y2e:∀ {k c b:Nat}{A:Nat→Nat→Rat}{r x:Nat→Rat},(∀ i j,c≤i→i<c+k→c≤j→j<c+k→Zb b (A i j))→(∀ i,c≤i→i<c+k→Zb b (r i)) →
  (∀ i,c≤i→i<c+k→(∀ j,c≤j→j<c+k→j≠i→A i j≤0)∧0<sumL (List.range' c k) (A i))→(∀ i,c≤i→i<c+k→sumL (List.range' c k) (fun j=>x j*A i j)=r i) →
  ∃ D:Rat,0<D∧Zb (fbit k b) D∧∀ j,c≤j→j<c+k→Zq (x j*D)
 | 0,c,b,A,r,x,_,_,_,_=>⟨1,by decide,⟨1,rfl,by unfold fbit; decide⟩,fun j h1 h2=>by omega⟩
 | k+1,c,b,A,r,x,hA,hr,hD,hx=>by
  obtain ⟨a1,a2⟩:=hD c (Nat.le_refl _) (by omega)
  have hxc:=hx c (Nat.le_refl _) (by omega)
  rw [List.range'_succ,Zaw] at a2 hxc
  have hp:0<A c c:=by
   have:=Yf3 (R:=List.range' (c+1) k) (f:=A c) (fun j hj=>by have hj':=List.mem_range'_1.1 hj; exact a1 j (by omega) (by omega) (by omega))
   grind
  obtain ⟨D,d1,d2,d3⟩:=Y2e (k:=k) (c:=c+1) (b:=2*b+1) (A:=fun i j=>A i j*A c c - A i c*A c j) (r:=fun i=>r i*A c c - A i c*r c) (x:=x)
   (fun i j h1 h2 h3 h4=>by
    have x1:=(hA i j (by omega) (by omega) (by omega) (by omega)).mul (hA c c (by omega) (by omega) (by omega) (by omega))
    have x2:=(hA i c (by omega) (by omega) (by omega) (by omega)).mul (hA c j (by omega) (by omega) (by omega) (by omega))
    exact (x1.sub x2).mono (by omega))
   (fun i h1 h2=>by
    have x1:=(hr i (by omega) (by omega)).mul (hA c c (by omega) (by omega) (by omega) (by omega))
    have x2:=(hA i c (by omega) (by omega) (by omega) (by omega)).mul (hr c (by omega) (by omega))
    exact (x1.sub x2).mono (by omega))
   (fun i h1 h2=>by
    obtain ⟨b1,b2⟩:=hD i (by omega) (by omega)
    have hic:=b1 c (Nat.le_refl _) (by omega) (by omega)
    refine ⟨fun j h3 h4 hji=>?_,?_⟩
    ·have x1:=b1 j (by omega) (by omega) hji
     have x2:=a1 j (by omega) (by omega) (by omega)
     have x3:=Rat.mul_nonneg (show 0 ≤ -A i j by grind) (Rat.le_of_lt hp)
     have x4:=Rat.mul_nonneg (show 0 ≤ -A i c by grind) (show 0 ≤ -A c j by grind)
     grind
    ·rw [List.range'_succ,Zaw] at b2
     have e:sumL (List.range' (c+1) k) (fun j=>A i j*A c c - A i c*A c j)=A c c*sumL (List.range' (c+1) k) (A i)+(-(A i c))*sumL (List.range' (c+1) k) (A c):=by
      rw [← Zey, ← Zey, ← Zy1]
      exact Zas (fun j _=>by grind)
     rw [e]
     have x1:=Rat.mul_pos hp b2
     have x2:=Rat.mul_nonneg (show 0 ≤ -A i c by grind) (Rat.le_of_lt a2)
     generalize sumL (List.range' (c+1) k) (A i)=s at *
     generalize sumL (List.range' (c+1) k) (A c)=t at *
     grind)
   (fun i h1 h2=>by
    have hxi:=hx i (by omega) (by omega)
    rw [List.range'_succ,Zaw] at hxi
    have e:sumL (List.range' (c+1) k) (fun j=>x j*(A i j*A c c - A i c*A c j))=A c c*sumL (List.range' (c+1) k) (fun j=>x j*A i j)+(-(A i c))*sumL (List.range' (c+1) k) (fun j=>x j*A c j):=by
     rw [← Zey, ← Zey, ← Zy1]
     exact Zas (fun j _=>by grind)
    rw [e, ← hxi, ← hxc]
    grind)
  refine ⟨A c c*D,Rat.mul_pos hp d1,?_,fun j h1 h2=>?_⟩
  ·exact (hA c c (by omega) (by omega) (by omega) (by omega)).mul d2
  ·by_cases hj:j=c
   ·subst hj
    have e:x j*(A j j*D)=D*r j - sumL (List.range' (j+1) k) (fun i=>x i*D*A j i):=by
     have e2:sumL (List.range' (j+1) k) (fun i=>x i*D*A j i)=D*sumL (List.range' (j+1) k) (fun i=>x i*A j i):=by
      rw [← Zey]; exact Zas (fun i _=>by grind)
     rw [e2, ← hxc]; grind
    rw [e]
    refine (d2.q.mul (hr j (by omega) (by omega)).q).sub (Zq.sum fun i hi=>?_)
    have hi':=List.mem_range'_1.1 hi
    exact (d3 i (by omega) (by omega)).mul (hA j i (by omega) (by omega) (by omega) (by omega)).q
   ·have h3:=(d3 j (by omega) (by omega)).mul (hA c c (by omega) (by omega) (by omega) (by omega)).q
    rw [show x j*(A c c*D)=x j*D*A c c by grind]
    exact h3
end GoAbs
namespace GoAbs
open Go Go.Proofs
def Lt9 (q:Rat):Prop:=q.den≤9∧q.num.natAbs<10000
structure GmL (g:Gm):Prop where
 rew:∀ q,q∈g.rew→Lt9 q
 d:Lt9 g.d
 odds:∀ x,x∈g.nodes→x.kind=3→∀ q,q∈x.odds→Lt9 q
 n:g.nodes.length≤5
theorem Xff {n:Nat}(h:n≤9) (h0:0<n):n∣2520:=by
 have:∀ m,m<10→0<m→m∣2520:=by decide
 exact this n (by omega) h0
theorem Yg0 (q:Rat):q*q.den=q.num:=by
 have h0:(q.den:Rat)≠0:=by
  intro h
  have h1:q.den=0:=by exact_mod_cast h
  exact q.den_nz h1
 have h:=Rat.num_divInt_den q
 rw [Rat.divInt_eq_div] at h
 have e:((q.den:Int):Rat)=(q.den:Rat):=by norm_cast
 rw [e] at h
 generalize (q.den:Rat)=b at *
 generalize (q.num:Rat)=a at *
 grind
theorem Lt9.z {q:Rat}(h:Lt9 q):Zb 26 (q*2520):=by
 obtain ⟨k,hk⟩:=Xff h.1 q.den_pos
 have e:(2520:Rat)=q.den*k:=by exact_mod_cast hk
 refine ⟨q.num*k,?_,?_⟩
 ·rw [e, ← Rat.mul_assoc,Yg0]; norm_cast
 ·rw [Int.natAbs_mul,Int.natAbs_natCast]
  have h1:k≤2520:=by
   have:=q.den_pos
   have:1*k≤q.den*k:=Nat.mul_le_mul_right _ (by omega)
   omega
  have:=Nat.mul_le_mul (show q.num.natAbs≤9999 by have:=h.2; omega) h1
  omega
theorem Zb.add {a:Nat}{p q:Rat}(h:Zb a p) (k:Zb a q):Zb (a+1) (p+q):=by
 obtain ⟨x,rfl,h2⟩:=h; obtain ⟨y,rfl,k2⟩:=k
 exact ⟨x+y,by simp,by rw [Nat.pow_succ]; omega⟩
abbrev N2:Rat:=2520*2520
def Ze (c:Nat) (M:RM):Prop:=∀ i j,Zb c (mget M i j*N2)
theorem Ze.add {n c:Nat}{M:RM}(h:Ze c M) (hW:Wid n M) {i j:Nat}{x:Rat}(hi:i<M.length) (hj:j<n) (hx:Zb c (x*N2)):Ze (c+1) (addAt M i j x):=fun a b=>by
 rw [Zkj hW hi hj]
 split
 ·rw [Rat.add_mul]; exact (h a b).add hx
 ·rw [Rat.add_zero]; exact (h a b).mono (by omega)
theorem Lt9.neg {q:Rat}(h:Lt9 q):Zb 38 (-q*N2):=by
 obtain ⟨z,h1,h2⟩:=h.z
 refine ⟨-z*2520,?_,?_⟩
 ·rw [show -q*N2 = -(q*2520)*2520 by grind,h1]; simp
 ·rw [Int.natAbs_mul,Int.natAbs_neg,show ((2520:Int)).natAbs=2520 from rfl]
  have:=Nat.mul_lt_mul_of_pos_right h2 (show 0<2520 by decide)
  omega
theorem Lt9.neg2 {p q:Rat}(h:Lt9 p) (k:Lt9 q):Zb 52 (-(p*q)*N2):=by
 obtain ⟨z,h1,h2⟩:=h.z
 obtain ⟨y,k1,k2⟩:=k.z
 refine ⟨-(z*y),?_,?_⟩
 ·rw [show -(p*q)*N2 = -((p*2520)*(q*2520)) by grind,h1,k1]; simp
 ·rw [Int.natAbs_neg,Int.natAbs_mul,show 52=26+26 from rfl,Nat.pow_add]
  exact Nat.mul_lt_mul'' h2 k2
theorem Yiw {n i c:Nat}{d:Rat}{odds:List Rat}{to:List Nat}(hd:Lt9 d) (hi:i<n) (ho:∀ t,t<to.length→Lt9 (rget odds t)) (hto:∀ x,x∈to→x<n) (hc:52≤c):∀ {k:Nat}{M:RM},k≤to.length→M.length=n→Wid n M→Ze c M →
  (addOdds d i odds to k M).length=n∧Wid n (addOdds d i odds to k M)∧Ze (c+k) (addOdds d i odds to k M)
 | 0,M,_,hl,hw,h=>⟨hl,hw,h⟩
 | k+1,M,hk,hl,hw,h=>by
  obtain ⟨h1,h2,h3⟩:=Yiw (odds:=odds) (to:=to) hd hi ho hto hc (k:=k) (M:=M) (by omega) hl hw h
  unfold addOdds
  exact ⟨by rw [Zcn,h1],h2.addAt,h3.add h2 (by rw [h1]; exact hi) (hto _ (Zbi (by omega))) ((hd.neg2 (ho k (by omega))).mono (by omega))⟩
theorem Ylz {g:Gm}(hg:GmP g) (hl:GmL g) {p:List Int}(hp:POk g p):∀ {k:Nat},k≤g.nodes.length→(planM g p k).length=g.nodes.length∧Wid g.nodes.length (planM g p k)∧Ze (52+7*k) (planM g p k)
 | 0,_=>by
  unfold planM
  refine ⟨List.length_replicate,fun r hr=>by rw [(List.mem_replicate.1 hr).2,List.length_replicate],fun i j=>?_⟩
  have h0:mget (List.replicate g.nodes.length (List.replicate g.nodes.length (0:Rat))) i j=0:=by
   unfold mget rget
   rw [List.getD_eq_getElem?_getD,List.getD_eq_getElem?_getD,List.getElem?_replicate]
   split
   ·rw [Option.getD_some,List.getElem?_replicate]; split <;> rfl
   ·simp
  rw [h0]
  exact ⟨0,by rw [Rat.zero_mul]; rfl,by decide⟩
 | k+1,hk=>by
  obtain ⟨h1,h2,h3⟩:=Ylz hg hl hp (k:=k) (by omega)
  have hkn:k<g.nodes.length:=by omega
  have hx:=Zbf hkn
  have hok:=hg.ok.node _ hx
  have hlt:=hp.lt hkn
  have hod:=hl.odds _ hx
  unfold planM nodeM
  generalize nodeAt g k=x at *
  have a1:=h3.add (i:=k) (j:=k) (x:=1) h2 (by rw [h1]; exact hkn) hkn (Zb.mono (a:=23) ⟨6350400,by decide+kernel,by decide⟩ (by omega))
  have a2:(addAt (planM g p k) k k 1).length=g.nodes.length:=by rw [Zcn,h1]
  have a3:Wid g.nodes.length (addAt (planM g p k) k k 1):=h2.addAt
  split
  ·rename_i h3
   have ho:=(hok.odds h3).1
   obtain ⟨b1,b2,b3⟩:=Yiw (odds:=x.odds) (to:=x.to) hl.d hkn (fun t ht=>hod h3 _ (List.mem_of_getElem? (Zag (by omega)))) hok.lt (by omega) (Nat.le_refl _) a2 a3 a1
   refine ⟨b1,b2,fun i j=>(b3 i j).mono ?_⟩
   have:=hok.len
   omega
  ·rename_i h3
   refine ⟨by rw [Zcn,a2],a3.addAt,fun i j=>((a1.add a3 (by rw [a2]; exact hkn) (hok.lt _ (Zbi (hlt h3))) (hl.d.neg.mono (by omega))) i j).mono (by omega)⟩
theorem Xf1 {q D:Rat}{b c:Nat}(h0:0<D) (hD:Zb b D) (hz:Zq (q*D)) (h1:q≤2 ^ c) (h2 : -(2 ^ c)≤q):Qb (b+c+1) q:=by
 obtain ⟨e,rfl,he⟩:=hD
 obtain ⟨z,hz⟩:=hz
 have e0:0<e:=by exact_mod_cast h0
 have hq:q=Rat.divInt z e:=by
  rw [Rat.divInt_eq_div]
  have:(e:Rat)≠0:=by grind
  rw [← hz]; grind
 obtain ⟨n1,n2⟩:=Zgu (n:=z) (d:=e) (by omega)
 rw [← hq] at n1 n2
 have hzz:z.natAbs≤2 ^ c*e.natAbs:=by
  have x1:=Rat.mul_le_mul_of_nonneg_right h1 (Rat.le_of_lt h0)
  have x2:=Rat.mul_le_mul_of_nonneg_right h2 (Rat.le_of_lt h0)
  rw [hz] at x1 x2
  have e1:(2:Rat) ^ c*(e:Rat)=(((2 ^ c:Nat)*e:Int):Rat):=by simp
  have e2 : -((2:Rat) ^ c)*(e:Rat)=((-((2 ^ c:Nat)*e):Int):Rat):=by simp [Rat.neg_mul]
  rw [e1] at x1
  rw [e2] at x2
  have y1:=Rat.intCast_le_intCast.1 x1
  have y2:=Rat.intCast_le_intCast.1 x2
  have e3:((2 ^ c*e.natAbs:Nat):Int)=((2 ^ c:Nat):Int)*e:=by rw [Int.natCast_mul]; congr 1; omega
  generalize ((2 ^ c:Nat):Int)*e=w at *
  omega
 have hm:2 ^ c*e.natAbs<2 ^ c*2 ^ b:=Nat.mul_lt_mul_of_pos_left he (Nat.two_pow_pos _)
 have hp:2 ^ c*2 ^ b=2 ^ (c+b):=(Nat.pow_add ..).symm
 have hc:=Nat.two_pow_pos c
 refine ⟨?_,?_⟩
 ·rw [show b+c+1=c+b+1 by omega,Nat.pow_succ]; omega
 ·have:2 ^ b≤2 ^ (b+c+1):=Nat.pow_le_pow_right (by omega) (by omega)
  omega
theorem frac9 {d:Rat}(h:Lt9 d) (d1:d<1):d*9≤8:=by
 have h0:=d.den_pos
 have h1:=Yg0 d
 have hd:(0:Rat)<d.den:=by exact_mod_cast h0
 have h2:d*d.den<d.den:=by
  have:=Rat.mul_pos (show 0<1 - d by grind) hd
  grind
 rw [h1] at h2
 have h3:d.num<d.den:=by exact_mod_cast h2
 have h4:d.num*9≤8*d.den:=by have:=h.1; omega
 have h5:(d.num:Rat)*9≤8*(d.den:Rat):=by exact_mod_cast h4
 rw [← h1] at h5
 rcases (Rat.le_total:d*9≤8∨8≤d*9) with h6 | h6
 ·exact h6
 ·by_cases he:d*9=8
  ·rw [he]; grind
  ·have:=Rat.mul_pos (show 0<d*9 - 8 by grind) hd
   grind
theorem Lt9.abs {q:Rat}(h:Lt9 q):q≤10000 ∧ -10000≤q:=by
 have h0:=q.den_pos
 have h1:=Yg0 q
 have hd:(1:Rat)≤q.den:=by exact_mod_cast h0
 have n1:(q.num:Rat)≤((10000:Int):Rat):=by have:=h.2; exact Rat.intCast_le_intCast.2 (show q.num≤10000 by omega)
 have n2:((-10000:Int):Rat)≤(q.num:Rat):=by have:=h.2; exact Rat.intCast_le_intCast.2 (show -10000≤q.num by omega)
 rw [show ((10000:Int):Rat)=10000 from rfl] at n1
 rw [show ((-10000:Int):Rat) = -10000 from rfl] at n2
 rw [← h1] at n1 n2
 constructor
 ·rcases (Rat.le_total:q≤10000∨10000≤q) with h6 | h6
  ·exact h6
  ·have:=Rat.mul_nonneg (show 0≤q by grind) (show 0≤(q.den:Rat) - 1 by grind)
   grind
 ·rcases (Rat.le_total : -10000≤q∨q ≤ -10000) with h6 | h6
  ·exact h6
  ·have:=Rat.mul_nonneg (show 0 ≤ -q by grind) (show 0≤(q.den:Rat) - 1 by grind)
   grind
theorem Yi3 {odds:List Rat}{to:List Nat}{n:Nat}{c:Rat}:∀ {k:Nat},k≤to.length→(∀ x,x∈to→x<n)→dotW odds (List.replicate n c) to k=c*sumO odds k
 | 0,_,_=>by simp only [dotW,sumO]; grind
 | k+1,hk,h=>by
  simp only [dotW,sumO]
  rw [Yi3 (by omega) h,Zht (h _ (Zbi (by omega)))]
  grind
theorem Ya9 {g:Gm}(hg:GmP g) {p:List Int}(hp:POk g p) {i:Nat}(hi:i<g.nodes.length) {c:Rat}:worthP (nodeAt g i) (pget p i) (List.replicate g.nodes.length c)=c:=by
 have hx:=Zbf hi
 have hok:=hg.ok.node _ hx
 have hlt:=hp.lt hi
 have hod:=hg.odds _ hx
 unfold worthP
 split
 ·rename_i h3
  rw [Yi3 (Nat.le_refl _) hok.lt,(hod h3).2]; grind
 ·rename_i h3
  exact Zht (hok.lt _ (Zbi (hlt h3)))
theorem Yyg {g:Gm}(hg:GmP g) (hl:GmL g) {p:List Int}(hp:POk g p) {v:List Rat}(hv:PVal g p v) {i:Nat}(hi:i<g.nodes.length):rget v i≤100000 ∧ -100000≤rget v i:=by
 have hs:=Yt0 hg hp
 have h9:=frac9 hl.d hg.d1
 have d0:=hg.d0
 have hr:=fun j (hj:j<g.nodes.length)=>(hl.rew _ (List.mem_of_getElem? (Zag (r:=g.rew) (j:=j) (by rw [hg.ok.rew]; exact hj)))).abs
 constructor
 ·have:=hs.le hg.d1 (u:=v) (v:=List.replicate g.nodes.length 100000) (fun j hj=>by rw [← hv.2 j hj]; grind) (fun j hj=>by
   rw [Zht hj]; unfold planV; rw [Ya9 hg hp hj]; have:=hr j hj; grind) i hi
  rwa [Zht hi] at this
 ·have:=hs.le hg.d1 (u:=List.replicate g.nodes.length (-100000)) (v:=v) (fun j hj=>by
   rw [Zht hj]; unfold planV; rw [Ya9 hg hp hj]; have:=hr j hj; grind) (fun j hj=>by rw [← hv.2 j hj]; grind) i hi
  rwa [Zht hi] at this
theorem Yr6 {g:Gm}(hg:GmP g) (hl:GmL g) {p:List Int}(hp:POk g p):Rb 4000 (valP g p):=fun q hq=>by
 obtain ⟨i,hi,rfl⟩:∃ i,i<g.nodes.length∧q=rget (valP g p) i:=by
  obtain ⟨i,hi⟩:=List.getElem?_of_mem hq
  have hlt:=(List.getElem?_eq_some_iff.1 hi).1
  have:=Zag hlt
  rw [hi] at this
  exact ⟨i,by rw [(Zy5 hg hp).1] at hlt; exact hlt,by simpa using this⟩
 obtain ⟨h1,h2⟩:=Z6b hg hp (Nat.le_refl g.nodes.length)
 obtain ⟨_,_,_,h3,h4⟩:=Z4y h1.len h1.wid hg.ok.rew (Zy0 hg hp)
 have hD:=Zy0 hg hp
 obtain ⟨_,_,hz⟩:=Ylz hg hl hp (Nat.le_refl g.nodes.length)
 have hn:=hl.n
 have hpos:(0:Rat)<N2:=by decide+kernel
 obtain ⟨D,d1,d2,d3⟩:=Y2e (k:=g.nodes.length) (c:=0) (b:=90) (A:=fun i j=>mget (planM g p g.nodes.length) i j*N2) (r:=fun i=>rget g.rew i*N2) (x:=rget (valP g p))
  (fun i j _ _ _ _=>(hz i j).mono (by omega))
  (fun i _ hi=>by
   have:=(hl.rew _ (List.mem_of_getElem? (Zag (r:=g.rew) (j:=i) (by rw [hg.ok.rew]; omega)))).z
   have h2:Zb 12 2520:=⟨2520,rfl,by decide⟩
   have h3:=this.mul h2
   rw [show rget g.rew i*N2=rget g.rew i*2520*2520 by grind]
   exact h3.mono (by omega))
  (fun i h0 hi=>by
   obtain ⟨a,b⟩:=hD i h0 (by omega)
   refine ⟨fun j hj hjn hji=>?_,?_⟩
   ·have:=Rat.mul_nonneg (show 0 ≤ -mget (planM g p g.nodes.length) i j by have:=a j hj (by omega) hji; grind) (Rat.le_of_lt hpos)
    grind
   ·rw [Zas (g:=fun j=>N2*mget (planM g p g.nodes.length) i j) (fun j _=>by grind),Zey]
    refine Rat.mul_pos hpos ?_
    rw [List.range'_eq_map_range,Z48] at b ⊢
    rw [Zas (g:=fun j=>mget (planM g p g.nodes.length) i (0+j)) (fun j _=>by rw [show 0+1+j - 1=0+j by omega])] at b
    exact b)
  (fun i _ hi=>by
   have:=h4 i (by omega)
   rw [Zas (g:=fun j=>N2*(rget (valP g p) j*mget (planM g p g.nodes.length) i j)) (fun j _=>by grind),Zey,List.range'_eq_map_range,Z48]
   rw [Zas (g:=fun j=>rget (solvR g.nodes.length (planM g p g.nodes.length) g.rew) j*mget (planM g p g.nodes.length) i j) (fun j _=>by rw [show 0+j=j by omega]; rfl),this]
   grind)
 have ha:=Yyg hg hl hp (Zy5 hg hp) hi
 have hb:fbit g.nodes.length 90≤3000:=by
  have:∀ n,n≤5→fbit n 90≤3000:=fun n hn=>by
   have:n=0∨n=1∨n=2∨n=3∨n=4∨n=5:=by omega
   rcases this with rfl | rfl | rfl | rfl | rfl | rfl <;> decide
  exact this _ hn
 have e17:(2:Rat) ^ 17=131072:=by decide+kernel
 exact (Xf1 (c:=17) d1 d2 (d3 i (by omega) (by omega)) (by rw [e17]; grind) (by rw [e17]; grind)).mono (by omega)
end GoAbs
namespace GoAbs
open Go Go.Proofs
set_option maxHeartbeats 4000000
def lightM (l:List Mv):Bool:=l.all fun m=>decide (m.2.length≤3)
def lightN (n:Nd):Bool:=decide (n.rew.length≤3) && lightM n.mv
def lightW (L:List Nd) (d:List UInt8):Bool:=decide (d.length≤3) && L.all lightN
theorem Y86 {ls:List AV}{L:List Nd}{n:Nd}{b:Bool}{i:Nat}(hls:ls=L.map ndAV) (hll:L.length≤1000000) (hi:L[i]? = some n) (hml:n.mv.length≤7) {K:Ex→St→Prop}
  (hK:∀ e:Nat→AV,e 0 = .sl ls→e 5 = .bool (b && lightM n.mv)→e 6 = .int .i64 (i:Int)→K (.exit 2) ⟨e,[]⟩) :
  T Tryz.prog 52 0 (.loop Zkb) ⟨envL [(0,.sl ls),(5,.bool b),(6,.int .i64 (i:Int)),(7,.int .i64 0)],[]⟩ K:=by
 obtain ⟨ms,hms⟩:∃ ms,ms=n.mv.map mvAV:=⟨_,rfl⟩
 have hmsl:ms.length=n.mv.length:=by rw [hms,List.length_map]
 have hil:=(List.getElem?_eq_some_iff.1 hi).1
 have hlsl:ls.length=L.length:=by rw [hls,List.length_map]
 have hget:ls[i]? = some (.agg [.int .i64 n.kind,.str (bs n.rew),.sl ms]):=by rw [hls,List.getElem?_map,hi,hms]; rfl
 refine Zad (fun k:Nat=>⟨envL [(0,.sl ls),(5,.bool (b && lightM (n.mv.take k))),(6,.int .i64 (i:Int)),(7,.int .i64 (k:Int))],[]⟩)
  (fun k=>k≤n.mv.length) (fun k=>n.mv.length - k) 0 (by omega) (Zab _ (by simp only [go_sem]; simp [lightM])) (fun k hk N hN=>?_)
 unfold Zkb
 have p0:(0:Int)≤(i:Int):=by omega
 have p1:(i:Int)<(L.length:Int):=by omega
 by_cases hkn:k<n.mv.length
 ·obtain ⟨m,hmi⟩:∃ m,n.mv[k]? = some m:=⟨_,List.getElem?_eq_getElem hkn⟩
  have tk:lightM (n.mv.take (k+1))=(lightM (n.mv.take k) && decide (m.2.length≤3)):=by rw [List.take_add_one,hmi]; unfold lightM; simp
  have hmsi:ms[k]? = some (.agg [.int .i64 m.1,.str (bs m.2)]):=by rw [hms,List.getElem?_map,hmi]; rfl
  have q0:(0:Int)≤(k:Int):=by omega
  have q1:(k:Int)<(n.mv.length:Int):=by omega
  have e1:IntKind.i64.wrap ((k:Int)+1)=((k+1:Nat):Int):=by rw [Zac (by omega) (by omega)]; omega
  generalize lightM (n.mv.take k)=v at *
  have fin:∀ (x:Bool) (e:Nat→AV),x=(b && lightM (n.mv.take (k+1)))→Has e [(0,.sl ls),(5,.bool x),(6,.int .i64 (i:Int)),(7,.int .i64 ((k+1:Nat):Int))]→N ⟨e,[]⟩:=fun x e hx he=>by
   refine hN (k+1) _ (by omega) (by omega) (Zab _ ?_)
   rw [← hx]; exact he
  cases hbv:(b && v) with
  | false =>
   simp only [go_sem,Zgj,Zkf,Zjy,p0,p1,q0,q1,hlsl,hget,hmsl,e1]
   exact fin false _ (by rw [tk, ← Bool.and_assoc,hbv]; rfl) (by simp only [go_sem])
  | true =>
   by_cases a:(m.2.length:Int)≤3
   ·simp only [go_sem,Zgj,Zkf,Zjy,p0,p1,q0,q1,hlsl,hget,hmsl,hmsi,Zak,a,e1]
    exact fin true _ (by rw [tk, ← Bool.and_assoc,hbv,decide_eq_true (show m.2.length≤3 by omega)]; rfl) (by simp only [go_sem])
   ·simp only [go_sem,Zgj,Zkf,Zjy,p0,p1,q0,q1,hlsl,hget,hmsl,hmsi,Zak,a,e1]
    exact fin false _ (by rw [tk, ← Bool.and_assoc,hbv,decide_eq_false (show ¬ m.2.length≤3 by omega)]; rfl) (by simp only [go_sem])
 ·have hke:k=n.mv.length:=by omega
  subst hke
  have q1:¬ ((n.mv.length:Nat):Int)<(n.mv.length:Int):=by omega
  rw [List.take_length]
  simp only [go_sem,Zgj,p0,p1,hlsl,hget,hmsl,q1]
  exact hK _ (by simp only [go_sem]) (by simp only [go_sem]) (by simp only [go_sem])
theorem Y6w {ls:List AV}{L:List Nd}{b:Bool}(hls:ls=L.map ndAV) (hll:L.length≤1000000) (hok:∀ n,n∈L→n.rew.length≤23∧n.mv.length≤7∧∀ m,m∈n.mv→m.2.length≤23) {K:Ex→St→Prop}
  (hK:∀ e:Nat→AV,e 5 = .bool (b && L.all lightN)→K (.exit 0) ⟨e,[]⟩) :
  T Tryz.prog 52 0 (.loop Zkc) ⟨envL [(0,.sl ls),(5,.bool b),(6,.int .i64 0)],[]⟩ K:=by
 have hlsl:ls.length=L.length:=by rw [hls,List.length_map]
 refine Zfy (fun i:Nat=>⟨envL [(0,.sl ls),(5,.bool (b && (L.take i).all lightN)),(6,.int .i64 (i:Int))],[]⟩)
  (fun i=>i≤L.length) (fun i=>L.length - i) 0 (by omega) (Zab _ (by simp only [go_sem]; simp)) (fun i hi N hN=>?_)
 unfold Zkc
 by_cases hin:i<L.length
 ·obtain ⟨n,hn⟩:∃ n,L[i]? = some n:=⟨_,List.getElem?_eq_getElem hin⟩
  obtain ⟨o1,o2,o3⟩:=hok n (List.mem_of_getElem? hn)
  have tk:(L.take (i+1)).all lightN=((L.take i).all lightN && (decide (n.rew.length≤3) && lightM n.mv)):=by rw [List.take_add_one,hn]; simp [lightN]
  have hget:ls[i]? = some (.agg [.int .i64 n.kind,.str (bs n.rew),.sl (n.mv.map mvAV)]):=by rw [hls,List.getElem?_map,hn]; rfl
  have q0:(0:Int)≤(i:Int):=by omega
  have q1:(i:Int)<(L.length:Int):=by omega
  have e1:IntKind.i64.wrap ((i:Int)+1)=((i+1:Nat):Int):=by rw [Zac (by omega) (by omega)]; omega
  generalize (L.take i).all lightN=v at *
  have rest:∀ (x:Bool) (e:Nat→AV),x=(b && v && decide (n.rew.length≤3))→Has e [(0,.sl ls),(5,.bool x),(6,.int .i64 (i:Int)),(7,.int .i64 0)] →
    T Tryz.prog 52 0 (.loop Zkb) ⟨e,[]⟩ (blockQ 2 (blockQ 1 (thenQ (goT Tryz.prog 52 0 (.rg false Zhr) (thenQ N K)) (thenQ N K)))):=fun x e hx he=>by
   refine T_le (Zab _ he) (Y86 hls hll hn o2 (fun e k0 k5 k6=>?_))
   show T Tryz.prog 52 0 (.rg false Zhr) _ _
   refine T_W ?_
   simp only [go_sem,Zhr,k6,e1]
   refine hN (i+1) _ (by omega) (by omega) (Zab _ ?_)
   simp only [go_sem,k0,k5]
   rw [tk,hx]; simp [Bool.and_assoc]
  refine Za9 1 rfl ?_
  cases hbv:(b && v) with
  | false =>
   rw [hbv] at rest
   simp only [go_sem,Zgo,Zjs,Zke,q0,q1,hlsl]
   exact rest false _ rfl (by simp only [go_sem])
  | true =>
   rw [hbv] at rest
   by_cases a:(n.rew.length:Int)≤3
   ·simp only [go_sem,Zgo,Zjs,Zke,q0,q1,hlsl,hget,Zak,a]
    exact rest true _ (by rw [decide_eq_true (show n.rew.length≤3 by omega)]; rfl) (by simp only [go_sem])
   ·simp only [go_sem,Zgo,Zjs,Zke,q0,q1,hlsl,hget,Zak,a]
    exact rest false _ (by rw [decide_eq_false (show ¬ n.rew.length≤3 by omega)]; rfl) (by simp only [go_sem])
 ·have hie:i=L.length:=by omega
  subst hie
  have q1:¬ ((L.length:Nat):Int)<(L.length:Int):=by omega
  refine T_W ?_
  rw [List.take_length]
  simp only [go_sem,Zgo,hlsl,q1]
  exact hK _ (by simp only [go_sem])
theorem wlight {L:List Nd}{d:List UInt8}(hll:L.length≤1000000) (hok:∀ n,n∈L→n.rew.length≤23∧n.mv.length≤7∧∀ m,m∈n.mv→m.2.length≤23) :
  SpecV Tryz.prog Ysd [.sl (L.map ndAV),.str (bs d)] (.bool (lightW L d)):=by
 obtain ⟨ls,hls⟩:∃ ls,ls=L.map ndAV:=⟨_,rfl⟩
 rw [← hls]
 have main:∀ (b:Bool) (e:Nat→AV),b=decide (d.length≤3)→e 0 = .sl ls→e 5 = .bool b →
   T Tryz.prog 52 0 (.seq (.seq (.rg false Zq5) (.block 0 (.loop Zkc))) (.seq (.rg false Zhu) .ret)) ⟨e,[]⟩ (retQ [.tmp 4] (.bool (lightW L d))):=fun b e hb h0 h5=>by
  refine Zau (Zau (T_W ?_))
  simp only [go_sem,Zq5]
  refine Zat (Zap [(0,.sl ls),(5,.bool b),(6,.int .i64 0)] (by simp only [go_sem,h0,h5]) (Y6w hls hll hok (fun e k5=>?_)))
  show T Tryz.prog 52 0 (.seq (.rg false Zhu) .ret) _ _
  refine T_W ?_
  simp only [go_sem,Zhu,k5]
  rw [hb]; rfl
 refine Za0 Ypl (by simp) (Za9 1 rfl ?_)
 unfold Yjj
 by_cases a:(d.length:Int)≤3
 ·simp only [go_sem,Zrw,Zso,Zak,a]
  exact main true _ (decide_eq_true (by omega)).symm (by simp only [go_sem]) (by simp only [go_sem])
 ·simp only [go_sem,Zrw,Zso,Zak,a]
  exact main false _ (decide_eq_false (by omega)).symm (by simp only [go_sem]) (by simp only [go_sem])
end GoAbs
namespace GoAbs
open Go Go.Proofs
def Zpd:List IOp := [oI 6 (.mv (.c (.bool false))) 0]
def Zpc:List IOp := [mI 13 0 0,oI 14 (.call 13 [.t 13]) 0,mI 15 1 0,oI 16 (.call 14 [.t 15]) 0,mI 7 14 0,mI 8 16 0]
def Zo9:List IOp := [oI 17 (.bsl none 0 [.int .i64 0] []) 0,mI 18 2 1,mI 19 2 1,oI 20 (.len (.t 19)) 1,oI 21 (.mn (.t 20) (cI 12)) 1,oI 22 (.slc 1 (.t 18) none (some (.t 21))) 1,oI 23 (.app none 8 (.t 17) (.t 22)) 1,mI 9 23 2]
def Zbu:List IOp := [mI 25 7 0,mI 26 8 0,mI 27 9 0,oI 28 (.call 38 [.t 25,.t 26,.t 27]) 0,mI 24 28 0,eI 29 0 24 0,eI 30 1 24 0,mI 10 29 0,mI 11 30 0]
def Zbv:List IOp := [mI 31 7 0,mI 32 8 0,oI 33 (.call 16 [.t 31,.t 32,.c .nils]) 0,mI 12 33 0]
def Zbt:List IOp := [mI 34 12 0,oI 35 (.bin .eql (.t 34) (cI 0)) 0,mI 36 35 0,gI 37 (.mv (.t 7)) 0 36 true,gI 38 (.mv (.t 9)) 0 36 true,gI 39 (.call 39 [.t 37,.t 38]) 0 36 true,gI 40 (.un .not (.t 39)) 0 36 true,oI 41 (.pick (.t 36) (.t 40) (.c (.bool false))) 0]
def Zg6:List IOp := [oI 12 (.mv (cI 1)) 0]
def Zbq:List IOp := [mI 42 12 0,oI 43 (.bin .neq (.t 42) (cI 0)) 0]
def Zdr:List IOp := [mI 44 10 0,oI 45 (.len (.t 44)) 0,oI 46 (.bin .eql (.t 45) (cI 0)) 0,mI 47 46 0,gI 48 (.mv (.t 11)) 0 47 true,gI 49 (.mv (.t 12)) 0 47 true,gI 50 (.bin .eql (.t 48) (.t 49)) 0 47 true,oI 51 (.pick (.t 47) (.t 50) (.c (.bool false))) 0,mI 52 51 0,gI 53 (.call 17 []) 0 52 true,oI 54 (.pick (.t 52) (.t 53) (.c (.bool false))) 0,mI 6 54 0]
def Zc7:List IOp := [mI 55 7 0,mI 56 8 0,oI 57 (.call 18 [.t 55,.t 56]) 0,oI 58 (.un .not (.t 57)) 0]
def Zf4:List IOp := [oI 59 (.call 17 []) 0,mI 6 59 0]
def Zfr:List IOp := [mI 60 10 0,mI 61 7 0,mI 62 8 0,oI 63 (.call 21 [.t 62]) 0,mI 64 9 0,oI 65 (.call 40 [.t 61,.t 63,.t 64]) 0,oI 66 (.call 19 [.t 60,.t 65]) 0,mI 67 66 0,gI 68 (.mv (.t 11)) 0 67 true,gI 69 (.bin .eql (.t 68) (cI 0)) 0 67 true,oI 70 (.pick (.t 67) (.t 69) (.c (.bool false))) 0,mI 71 70 0,gI 72 (.call 17 []) 0 71 true,oI 73 (.pick (.t 71) (.t 72) (.c (.bool false))) 0,mI 6 73 0]
def Z0g:CC := .seq (.rg false Zpd) (.seq (.rg false Zpc) (.seq (.rg false Zo9) (.seq (.rg false Zbu) (.seq (.rg false Zbv) (.seq (.seq (.rg false Zbt) (.cond (.t 41) (.rg false Zg6) .skip)) (.seq (.seq (.rg false Zbq) (.cond (.t 43) (.seq (.rg false Zdr) .ret) .skip)) (.seq (.seq (.rg false Zc7) (.cond (.t 58) (.seq (.rg false Zf4) .ret) .skip)) (.seq (.rg false Zfr) .ret))))))))
abbrev Yd6:Nat:=9
theorem Yct:fnOk Tryz.prog 9=some (74,Z0g,[.tmp 6]):=by kernel_rfl
end GoAbs
namespace GoAbs
open Go Go.Proofs
set_option maxHeartbeats 4000000
def strsL (l:List (List UInt8)):List AV:=l.map fun s => .str (bs s)
theorem rsame {l:List (List UInt8)}(hl:l.length≤1000000):SpecV Tryz.prog Ykn [.sl (strsL l),.sl (strsL l)] (.bool true):=by
 have hmx:Tryz.prog.follows .mixedOrders=true:=by kernel_rfl
 have hsl:(strsL l).length=l.length:=by simp [strsL]
 refine Za0 Yh4 (by simp) (Za9 1 rfl ?_)
 unfold Yak
 simp only [go_sem,Zva,Zvd,hsl]
 refine Zau (Zau (T_W ?_))
 simp only [go_sem,Zv8]
 refine Zat (Zad (fun i:Nat=>⟨envL [(0,.sl (strsL l)),(1,.sl (strsL l)),(5,.int .i64 (i:Int))],[]⟩)
  (fun i=>i≤l.length) (fun i=>l.length - i) 0 (by omega) (Zab _ (by simp only [go_sem]; simp)) (fun i hi N hN=>?_))
 unfold Zvp
 by_cases hin:i<l.length
 ·obtain ⟨s,hs⟩:∃ s,l[i]? = some s:=⟨_,List.getElem?_eq_getElem hin⟩
  have hget:(strsL l)[i]? = some (.str (bs s)):=by simp [strsL,hs]
  have q0:(0:Int)≤(i:Int):=by omega
  have q1:(i:Int)<(l.length:Int):=by omega
  have e1:IntKind.i64.wrap ((i:Int)+1)=((i+1:Nat):Int):=by rw [Zac (by omega) (by omega)]; omega
  simp only [go_sem,Zk0,Zkn,Zuw,q0,q1,hsl,hget,hmx,e1]
  exact hN (i+1) _ (by omega) (by omega) (Zab _ (by simp only [go_sem]))
 ·have hie:i=l.length:=by omega
  subst hie
  have q1:¬ ((l.length:Nat):Int)<(l.length:Int):=by omega
  simp only [go_sem,Zk0,hsl,q1]
  refine T_W ?_
  simp only [go_sem,Zwq]
def L1:List Nd := [⟨1,[49],[(0,[])]⟩]
def d12:List UInt8 := [49,47,50]
theorem Ykm:GIn L1 d12:=by
 refine ⟨.inl (by decide),by decide,fun n hn=>?_⟩
 simp [L1] at hn
 subst hn
 refine ⟨by decide,by decide,fun m hm=>?_⟩
 simp at hm
 subst hm
 decide
theorem Ysp:eC L1 d12=0:=by decide+kernel
theorem Ytn:toGm L1 d12=⟨[⟨1,[0],[]⟩],[1],1/2⟩:=by
 unfold toGm L1 d12 toGN oddsQ
 have h1:parseL [49]=some 1:=by decide+kernel
 have h2:parseL [49,47,50]=some (1/2):=by decide+kernel
 simp [h1,h2,hasO]
theorem Xfn:valG (toGm L1 d12) = [2]:=by
 rcases Z5m Ykm with ⟨h,_⟩ | ⟨_,_,hg,_⟩
 ·exact absurd Ysp h
 ·symm
  refine Yql hg (by rw [Ytn]; rfl) (fun i hi=>?_)
  rw [Ytn] at hi ⊢
  have:i=0:=by simpa using hi
  subst this
  decide+kernel
theorem Xey:rndR (toGm L1 d12) 3 = [7/4]:=by rw [Ytn]; decide+kernel
theorem Xbg {H:Heap}{ids:List Nat}{b:Nat}{k:Int}{s:ByteArray}{X:AV}{M:List AV}(hb:H[b]? = some (.cells [.int .i64 k,.str s,X])) (hi:b∈ids) (hX:BV H ids X (.sl M)):BV H ids (.osl (some 3) b 0 1) (.sl [.agg [.int .i64 k,.str s,.sl M]]):=by
 refine .osl (some 3) b 0 1 _ _ hb hi rfl (fun x hx=>by simp at hx; subst hx; rfl) (by simp [es]) (fun i x j y z hx hy hz=>?_)
 have hi0:i=0:=by
  have:=(List.getElem?_eq_some_iff.1 hx).1
  simp at this; exact this
 subst hi0
 simp at hx
 subst hx
 rw [show 0+(0*es (some 3)+j)=j by simp] at hz
 match j with
 | 0=>simp [AV.cells] at hy hz; subst hy hz; exact .int _ _
 | 1=>simp [AV.cells] at hy hz; subst hy hz; exact .str _
 | 2=>simp [AV.cells] at hy hz; subst hy hz; exact hX
 | j+3=>simp [AV.cells] at hy
theorem Xa0 {H:Heap}{ids:List Nat}{b:Nat}{k:Int}{s:ByteArray}(hb:H[b]? = some (.cells [.int .i64 k,.str s])) (hi:b∈ids):BV H ids (.osl (some 2) b 0 1) (.sl [.agg [.int .i64 k,.str s]]):=by
 refine .osl (some 2) b 0 1 _ _ hb hi rfl (fun x hx=>by simp at hx; subst hx; rfl) (by simp [es]) (fun i x j y z hx hy hz=>?_)
 have hi0:i=0:=by
  have:=(List.getElem?_eq_some_iff.1 hx).1
  simp at this; exact this
 subst hi0
 simp at hx
 subst hx
 rw [show 0+(0*es (some 2)+j)=j by simp] at hz
 match j with
 | 0=>simp [AV.cells] at hy hz; subst hy hz; exact .int _ _
 | 1=>simp [AV.cells] at hy hz; subst hy hz; exact .str _
 | j+2=>simp [AV.cells] at hy
theorem Y46 {H:Heap}{ids:List Nat}{b:Nat}{s:ByteArray}(hb:H[b]? = some (.cells [.str s])) (hi:b∈ids):BV H ids (.osl none b 0 1) (.sl [.str s]):=by
 refine .osl none b 0 1 _ _ hb hi rfl (fun x hx=>by simp at hx; subst hx; rfl) (by simp [es]) (fun i x j y z hx hy hz=>?_)
 have hi0:i=0:=by
  have:=(List.getElem?_eq_some_iff.1 hx).1
  simp at this; exact this
 subst hi0
 simp at hx
 subst hx
 match j with
 | 0=>simp [AV.cells,es] at hy hz; subst hy hz; exact .str _
 | j+1=>simp [AV.cells] at hy
theorem wlives:SpecV Tryz.prog Yt4 [] (.bool true):=by
 have hv:=wvalue Ykm
 rw [if_pos Ysp,Xfn,show numsR [2] = .tup [.sl (strsL [[50]]),.int .i64 0] by
  unfold numsR
  rw [if_pos (by decide+kernel)]
  have:numS 2 = [50]:=by decide+kernel
  simp [ss,strsL,this]] at hv
 have hr:=wrounds (r:=3) Ykm (by omega)
 rw [show rC L1 d12 3=0 by unfold rC; rw [Ysp]; rfl,if_pos rfl,show (3:Int).toNat=3 from rfl,Xey,show numsR [7/4] = .tup [.sl (strsL [[55,47,52]]),.int .i64 0] by
  unfold numsR
  rw [if_pos (by decide+kernel)]
  have:numS (7/4) = [55,47,52]:=by decide+kernel
  simp [ss,strsL,this]] at hr
 refine Zae Ypn (by simp) ?_
 unfold Yi5
 simp only [go_sem,Z7v,Z8b]
 refine Zjj (ids := [0,1]) hv (.cons (Xbg rfl (by simp) (Xa0 rfl (by simp))) (.cons (.str _) .nil)) ?_
 simp only [go_sem,Z46,kill,List.foldl_cons,List.foldl_nil]
 refine Zjj (ids := [2,3]) hr (.cons (Xbg rfl (by simp) (Xa0 rfl (by simp))) (.cons (.str _) (.cons (.int _ _) .nil))) ?_
 simp only [go_sem,Z7d,kill,List.foldl_cons,List.foldl_nil]
 have s1:=rsame (l := [[50]]) (by decide)
 have s2:=rsame (l := [[55,47,52]]) (by decide)
 refine Zl1 (ids := [4]) s1 (.cons (.sl _) (.cons (Y46 rfl (by simp)) .nil)) (.inr (.bool _)) (fun b _=>trivial) ?_
 simp only [go_sem]
 refine Zl1 (ids := [5]) s2 (.cons (.sl _) (.cons (Y46 rfl (by simp)) .nil)) (.inr (.bool _)) (fun b _=>trivial) ?_
 simp only [go_sem]
end GoAbs
namespace GoAbs
open Go Go.Proofs
set_option maxHeartbeats 4000000
theorem Ylq {l:List UInt8}{q:Rat}(h:parseL l=some q) (hl:l.length≤3):Lt9 q:=by
 obtain ⟨b1,b2⟩:=Yvn (k:=3) (by omega) h hl
 obtain ⟨h1,h2,h3,h4⟩:=Z8t h
 refine ⟨?_,by omega⟩
 by_cases h47:47∈(signL l).1
 ·obtain ⟨g1,g2⟩:=h3 h47
  have hs:(signL l).1.length≤3:=by
   unfold signL
   split
   ·show l.tail.length≤3
    rw [List.length_tail]; omega
   ·exact hl
  have e:=congrArg List.length (Yd7 h47)
  rw [List.length_append,List.length_cons] at e
  have hb:0<(befL (signL l).1).length:=List.length_pos_iff.2 h1.2.1
  have:=Z9b (n:=q.den) (k:=1) (by rw [g2]; omega)
  omega
 ·rw [h4 h47]; decide
theorem Xiw {L:List Nd}{d:List UInt8}(hl:lightW L d=true) (hL:∀ n,n∈L→NdG L.length n) (hd:okB d=true) (hn:L.length≤5):GmL (toGm L d):=by
 unfold lightW at hl
 rw [Bool.and_eq_true,decide_eq_true_eq] at hl
 have hln:∀ n,n∈L→n.rew.length≤3∧∀ m,m∈n.mv→m.2.length≤3:=fun n hn=>by
  have:=List.all_eq_true.1 hl.2 n hn
  unfold lightN lightM at this
  rw [Bool.and_eq_true,decide_eq_true_eq,List.all_eq_true] at this
  exact ⟨this.1,fun m hm=>by simpa using this.2 m hm⟩
 refine ⟨fun q hq=>?_,Ylq (okBq hd) hl.1,fun x hx h3 q hq=>?_,by unfold toGm; rw [List.length_map]; exact hn⟩
 ·obtain ⟨n,hn,rfl⟩:=List.mem_map.1 hq
  exact Ylq (hL n hn).rq.1 (hln n hn).1
 ·obtain ⟨n,hn,rfl⟩:=List.mem_map.1 hx
  obtain ⟨m,hm,rfl⟩:=List.mem_map.1 hq
  have hm':=(List.mem_filter.1 hm).1
  obtain ⟨k,hk⟩:=List.getElem?_of_mem hm'
  have hp:=((hL n hn).to k m hk).2.2 h3
  rw [hp]
  exact Ylq hp ((hln n hn).2 m hm')
end GoAbs
namespace GoAbs
open Go Go.Proofs
set_option maxHeartbeats 4000000
theorem Xia {L:List Nd}{d:List UInt8}(h:GIn L d) (he:eC L d=0):(∀ n,n∈L→NdG L.length n)∧okB d=true:=by
 unfold eC at he
 split at he
 ·cases he
 ·rename_i h1
  split at he
  ·cases he
  ·rename_i h2
   have h1':(L.all ndVa && okB d)=true:=by simpa using h1
   have h2':gFit L d=true:=by simpa using h2
   rw [Bool.and_eq_true] at h1'
   unfold gFit at h2'
   simp only [Bool.and_eq_true] at h2'
   exact ⟨fun n hn=>Xhe (List.all_eq_true.1 h1'.1 n hn) (List.all_eq_true.1 h2'.1.2 n hn) (h.ok n hn),h1'.2⟩
theorem Xj0 {H:Heap}{ids:List Nat}{q:Rat}:BVs H ids (rq q) (rq q)=True:=Zlr
theorem Xku {d:List UInt8}(hd:okB d=true) (hl:d.length≤1000):SpecV Tryz.prog Zza [.str (bs d)] (.agg (rq ((parseL d).getD 0))):=rof (by omega) (okBq hd)
end GoAbs
namespace GoAbs
open Go Go.Proofs
set_option maxHeartbeats 8000000
end GoAbs
namespace GoAbs
open Go Go.Proofs
set_option maxHeartbeats 4000000
end GoAbs
namespace GoAbs
open Go Go.Proofs
set_option maxHeartbeats 4000000
end GoAbs
namespace GoAbs
open Go Go.Proofs
set_option exponentiation.threshold 20000
def rho (l lo hi:Nat) (sg:Rat) (s:Nat):Rat:=if s=l then 1 else if lo≤s∧s<hi then sg else 0
end GoAbs
namespace GoAbs
open Go Go.Proofs
end GoAbs
namespace GoAbs
open Go Go.Proofs
set_option exponentiation.threshold 20000
end GoAbs
namespace GoAbs
open Go Go.Proofs
set_option exponentiation.threshold 20000
end GoAbs
namespace GoAbs
open Go Go.Proofs
set_option maxHeartbeats 4000000
end GoAbs
namespace GoAbs
open Go Go.Proofs
set_option maxHeartbeats 8000000
def plnI (g:Gm) (p:List Int) (i:Nat):Bool:=if (nodeAt g i).kind=3 then decide (p.getD i 0 = -1) else decide (0≤p.getD i 0∧p.getD i 0<((nodeAt g i).to.length:Int))
def plnB (g:Gm) (p:List Int):Bool:=decide (p.length=g.nodes.length) && (List.range g.nodes.length).all (plnI g p)
theorem Yr2 {g:Gm}{p:List Int}(h:plnB g p=true):POk g p:=by
 unfold plnB at h
 rw [Bool.and_eq_true,decide_eq_true_eq,List.all_eq_true] at h
 refine ⟨h.1,fun i hi h3=>?_⟩
 have:=h.2 i (List.mem_range.2 hi)
 unfold plnI at this
 rw [if_neg h3] at this
 exact of_decide_eq_true this
theorem Xi7 {g:Gm}{p:List Int}{n:Nat}(hg:GmOk g) (hn:n=g.nodes.length) (hp:p.length=n) {K:Ex→St→Prop}
  (hK:(List.range n).all (plnI g p)=true→∀ e:Nat→AV,K (.exit 0) ⟨e,[]⟩)
  (hK0:(List.range n).all (plnI g p)=false→∀ e:Nat→AV,∀ H,e 4 = .bool false→K .ret ⟨e,H⟩) :
  T Tryz.prog 64 0 (.loop Zi1) ⟨envL [(1,.sl (ivs p)),(22,.sl (g.nodes.map gnAV)),(23,.int .i64 (n:Int)),(24,.int .i64 0)],[]⟩ K:=by
 have hmx:Tryz.prog.follows .mixedOrders=true:=by kernel_rfl
 have hnl:=hg.n
 refine Zad (fun i:Nat=>⟨envL [(1,.sl (ivs p)),(22,.sl (g.nodes.map gnAV)),(23,.int .i64 (n:Int)),(24,.int .i64 (i:Int))],[]⟩)
  (fun i=>i≤n∧(List.range i).all (plnI g p)=true) (fun i=>n - i) 0 ⟨by omega,rfl⟩ (Zab _ (by simp only [go_sem]; simp)) (fun i hI N hN=>?_)
 obtain ⟨hi,hal⟩:=hI
 unfold Zi1
 by_cases hin:i<n
 ·have hig:i<g.nodes.length:=by omega
  obtain ⟨x,hx⟩:∃ x,g.nodes[i]? = some x:=⟨_,List.getElem?_eq_getElem hig⟩
  have hxa:nodeAt g i=x:=by unfold nodeAt; rw [List.getD_eq_getElem?_getD,hx]; rfl
  have hxg:(g.nodes.map gnAV)[i]? = some (gnAV x):=by rw [List.getElem?_map,hx]; rfl
  have hok:=hg.node x (List.mem_of_getElem? hx)
  have hlen:=hok.len
  have hpi:plnI g p i=if x.kind=3 then decide (p.getD i 0 = -1) else decide (0≤p.getD i 0∧p.getD i 0<(x.to.length:Int)):=by unfold plnI; rw [hxa]
  have hgp:(ivs p)[i]? = some (.int .i64 (p.getD i 0)):=by
   refine Z9e ?_
   rw [List.getD_eq_getElem?_getD,List.getElem?_eq_getElem (by omega)]; rfl
  have hpll:(ivs p).length=n:=by rw [Za4]; omega
  have hbad:plnI g p i=false→(List.range n).all (plnI g p)=false:=fun h=>by
   rw [List.all_eq_false]
   exact ⟨i,List.mem_range.2 hin,by rw [h]; decide⟩
  have hgood:plnI g p i=true→(List.range (i+1)).all (plnI g p)=true:=fun h=>by rw [List.range_succ,List.all_append,hal]; simp [h]
  generalize p.getD i 0=z at *
  have q0:(0:Int)≤(i:Int):=by omega
  have q1:(i:Int)<(n:Int):=by omega
  have e1:IntKind.i64.wrap ((i:Int)+1)=((i+1:Nat):Int):=by rw [Zac (by omega) (by omega)]; omega
  have xc:(gnAV x).cells = [gnAV x]:=by unfold gnAV; split; rfl; split <;> rfl
  have fin:∀ (e:Nat→AV) (post:Heap),plnI g p i=true→Has e [(1,.sl (ivs p)),(22,.sl (g.nodes.map gnAV)),(23,.int .i64 (n:Int)),(24,.int .i64 ((i+1:Nat):Int))]→N ⟨e,post⟩:=fun e post h he =>
   hN (i+1) _ ⟨by omega,hgood h⟩ (by omega) (Ze4 (K := []) (post:=post) (m:=0) rfl rfl (Nat.le_refl _) _ he (by simp [AV.gc]))
  by_cases k3:x.kind=3
  ·have hgx:gnAV x = .ifc 140 (.agg [.sl (ivs (nv x.to)),.sl (condsR x.odds)]):=by unfold gnAV; rw [if_neg (by omega),if_neg (by omega)]
   rw [hgx] at hxg xc
   rw [if_pos k3] at hpi
   by_cases hz:z = -1
   ·rw [decide_eq_true hz] at hpi
    simp only [go_sem,Zax,Za8,Za5,Za7,Za6,Zbs,Zg8,Zg2,Zg5,Zdj,q0,q1,hxg,xc,hpll,hgp,hz,List.length_map,e1,List.cons_append,List.nil_append]
    exact fin _ _ hpi (by simp only [go_sem])
   ·rw [decide_eq_false hz] at hpi
    simp only [go_sem,Zax,Za8,Za5,Za7,Za6,Zbs,Zg8,Zg2,Zg5,Zo2,q0,q1,hxg,xc,hpll,hgp,hz,List.length_map,List.cons_append,List.nil_append]
    exact hK0 (hbad hpi) _ _ (by simp only [go_sem])
  ·rw [if_neg k3] at hpi
   by_cases k1:x.kind=1
   ·have hgx:gnAV x = .ifc 129 (.agg [.sl (ivs (nv x.to))]):=by unfold gnAV; rw [if_pos k1]
    rw [hgx] at hxg xc
    by_cases z0:z<0
    ·rw [decide_eq_false (by omega)] at hpi
     simp only [go_sem,Zax,Za8,Za5,Za7,Za6,Zdk,Zdm,Zbg,Zce,q0,q1,hxg,xc,hpll,hgp,z0,List.length_map,List.cons_append,List.nil_append,Za4,Zgi]
     exact hK0 (hbad hpi) _ _ (by simp only [go_sem])
    ·by_cases z1:(x.to.length:Int)≤z
     ·rw [decide_eq_false (by omega)] at hpi
      simp only [go_sem,Zax,Za8,Za5,Za7,Za6,Zdk,Zdm,Zbg,Zce,q0,q1,hxg,xc,hpll,hgp,z0,z1,List.length_map,List.cons_append,List.nil_append,Za4,Zgi]
      exact hK0 (hbad hpi) _ _ (by simp only [go_sem])
     ·rw [decide_eq_true (by omega)] at hpi
      simp only [go_sem,Zax,Za8,Za5,Za7,Za6,Zdk,Zdm,Zbg,Zdj,q0,q1,hxg,xc,hpll,hgp,z0,z1,List.length_map,List.cons_append,List.nil_append,Za4,Zgi,e1]
      exact fin _ _ hpi (by simp only [go_sem])
   ·have hgx:gnAV x = .ifc 131 (.agg [.sl (ivs (nv x.to))]):=by unfold gnAV; rw [if_neg k1,if_pos (by have:=hok.kind; omega)]
    rw [hgx] at hxg xc
    by_cases z0:z<0
    ·rw [decide_eq_false (by omega)] at hpi
     simp only [go_sem,Zax,Za8,Za5,Za7,Za6,Zbs,Zdt,Zds,Zbg,Zce,q0,q1,hxg,xc,hpll,hgp,z0,List.length_map,List.cons_append,List.nil_append,Za4,Zgi]
     exact hK0 (hbad hpi) _ _ (by simp only [go_sem])
    ·by_cases z1:(x.to.length:Int)≤z
     ·rw [decide_eq_false (by omega)] at hpi
      simp only [go_sem,Zax,Za8,Za5,Za7,Za6,Zbs,Zdt,Zds,Zbg,Zce,q0,q1,hxg,xc,hpll,hgp,z0,z1,List.length_map,List.cons_append,List.nil_append,Za4,Zgi]
      exact hK0 (hbad hpi) _ _ (by simp only [go_sem])
     ·rw [decide_eq_true (by omega)] at hpi
      simp only [go_sem,Zax,Za8,Za5,Za7,Za6,Zbs,Zdt,Zds,Zbg,Zdj,q0,q1,hxg,xc,hpll,hgp,z0,z1,List.length_map,List.cons_append,List.nil_append,Za4,Zgi,e1]
      exact fin _ _ hpi (by simp only [go_sem])
 ·have hie:i=n:=by omega
  subst hie
  have q1:¬ ((i:Nat):Int)<(i:Int):=by omega
  simp only [go_sem,Zax,q1]
  exact hK hal _
theorem You {g:Gm}{p:List Int}(hg:GmOk g):SpecV Tryz.prog Yh0 [.rp (gmC g),.sl (ivs p)] (.bool (plnB g p)):=by
 obtain ⟨n,hn⟩:∃ n,n=g.nodes.length:=⟨_,rfl⟩
 have gd0:(gmC g)[0]? = some (.sl (g.nodes.map gnAV)):=rfl
 obtain ⟨gc,hgc⟩:∃ gc,gc=gmC g:=⟨_,rfl⟩
 rw [← hgc] at gd0 ⊢
 refine Za0 Yha (by simp) (Za9 1 rfl ?_)
 unfold Z5o
 by_cases hl:p.length=n
 ·have hl':((p.length:Nat):Int)=(n:Int):=by omega
  have hB:plnB g p=(List.range n).all (plnI g p):=by unfold plnB; rw [decide_eq_true (by omega),hn]; rfl
  rw [hB]
  simp only [go_sem,Zi4,Zi7,gd0,List.length_map,Za4]
  rw [← hn]
  simp only [go_sem,hl']
  refine Zau (Zau (T_W ?_))
  simp only [go_sem,Zts,gd0,List.length_map]
  rw [← hn]
  refine Zat (Zap [(1,.sl (ivs p)),(22,.sl (g.nodes.map gnAV)),(23,.int .i64 (n:Int)),(24,.int .i64 0)] (by simp only [go_sem]) (Xi7 hg hn hl (fun ha e=>?_) (fun hf e H k4=>?_)))
  ·show T Tryz.prog 64 0 (.seq (.rg false Zha) .ret) _ _
   refine T_W ?_
   rw [ha]
   simp only [go_sem,Zha]
  ·rw [hf]
   simp only [go_sem,k4]
 ·have hl':¬ ((p.length:Nat):Int)=(n:Int):=by omega
  have hB:plnB g p=false:=by unfold plnB; rw [decide_eq_false (by omega)]; rfl
  rw [hB]
  simp only [go_sem,Zi4,Zi7,gd0,List.length_map,Za4]
  rw [← hn]
  simp only [go_sem,hl',Zs4]
def lC (L:List Nd) (d:List UInt8) (p:List Int):Int:=if eC L d=0 then (if plnB (toGm L d) p=true then 0 else 1) else eC L d
theorem wplays {L:List Nd}{d:List UInt8}{p:List Int}(h:GIn L d):SpecV Tryz.prog Yqf [.sl (L.map ndAV),.str (bs d),.sl (ivs p)] (if lC L d p=0 then numsR (valP (toGm L d) p) else .tup [.nils,.int .i64 (lC L d p)]):=by
 rcases Z5m h with ⟨h1,hs⟩ | ⟨h1,hs,hg,hn,hn1,hn5⟩
 ·rw [show lC L d p=eC L d from if_neg h1,if_neg h1]
  refine Zae Zqn (by simp) ?_
  unfold Zsr
  simp only [go_sem,Zhx,Zh4]
  refine Zaa hs (by simp only [go_sem]) ?_
  simp only [go_sem,Zh8,Z0d,h1]
 ·rw [show lC L d p=if plnB (toGm L d) p=true then 0 else 1 from if_pos h1]
  generalize toGm L d=g at *
  have hpl:=You (p:=p) hg.ok
  cases hb:plnB g p with
  | false =>
   rw [hb] at hpl
   rw [if_neg (by decide),if_neg (by decide)]
   refine Zae Zqn (by simp) ?_
   unfold Zsr
   simp only [go_sem,Zhx,Zh4]
   refine Zaa hs (by simp only [go_sem]) ?_
   simp only [go_sem,Zh8,Zm1]
   refine Zaa hpl (by simp only [go_sem]) ?_
   simp only [go_sem,Z2f]
  | true =>
   rw [hb] at hpl
   rw [if_pos rfl,if_pos rfl]
   have hp:=Yr2 hb
   have hv:=Z80 (pre := []) (o:=0) (p:=p) (pl := .sl (ivs p)) rfl (fun f=>rfl) (by omega) (fun m hm=>rfl) (.inl rfl) hg hp (by omega) (by omega)
   have hm:=Yeq (Xd7 (Zo6 hg hp (by omega)).2.2.2.2 (by omega)) (by rw [(Zy5 hg hp).1]; omega)
   refine Zae Zqn (by simp) ?_
   unfold Zsr
   simp only [go_sem,Zhx,Zh4]
   refine Zaa hs (by simp only [go_sem]) ?_
   simp only [go_sem,Zh8,Zm1]
   refine Zaa hpl (by simp only [go_sem]) ?_
   simp only [go_sem,Z0u]
   refine Zd5 hv ?_
   simp only [go_sem]
   refine Zaa hm (by simp only [go_sem]) ?_
   by_cases hN:∀ q,q∈valP g p→NumOk q
   ·rw [show numsR (valP g p) = .tup [.sl (ss (valP g p)),.int .i64 0] from if_pos hN]
    simp only [go_sem]
   ·rw [show numsR (valP g p) = .tup [.nils,.int .i64 4] from if_neg hN]
    simp only [go_sem]
end GoAbs
namespace GoAbs
open Go Go.Proofs
set_option maxHeartbeats 4000000
theorem Y5i {L:List Nd}{d:List UInt8}{i:Nat}{n:Nd}(h:L[i]? = some n):nodeAt (toGm L d) i=toGN n:=by
 unfold nodeAt
 show (L.map toGN).getD i default=_
 rw [List.getD_eq_getElem?_getD,List.getElem?_map,h]; rfl
theorem rplan {L:List Nd}{d:List UInt8}{p:List Int}(hL:∀ n,n∈L→NdG L.length n) (hN1:L.length≤100):SpecV Tryz.prog Yz1 [.sl (L.map ndAV),.sl (ivs p)] (.bool (plnB (toGm L d) p)):=by
 have hmx:Tryz.prog.follows .mixedOrders=true:=by kernel_rfl
 obtain ⟨ls,hls⟩:∃ ls,ls=L.map ndAV:=⟨_,rfl⟩
 have hlsl:ls.length=L.length:=by rw [hls,List.length_map]
 have hgn:(toGm L d).nodes.length=L.length:=by unfold toGm; rw [List.length_map]
 rw [← hls]
 refine Za0 Yq7 (by simp) (Za9 1 rfl ?_)
 unfold Yn6
 by_cases hl:p.length=L.length
 ·have hl':((p.length:Nat):Int)=(L.length:Int):=by omega
  have hB:plnB (toGm L d) p=(List.range L.length).all (plnI (toGm L d) p):=by unfold plnB; rw [decide_eq_true (by omega),hgn]; rfl
  rw [hB]
  simp only [go_sem,Zyb,Zvw,hlsl,Za4,hl']
  refine Zau (Zau (T_W ?_))
  simp only [go_sem,Ybc]
  refine Zat (Zad (fun i:Nat=>⟨envL [(0,.sl ls),(1,.sl (ivs p)),(5,.int .i64 (i:Int))],[]⟩)
   (fun i=>i≤L.length∧(List.range i).all (plnI (toGm L d) p)=true) (fun i=>L.length - i) 0 ⟨by omega,rfl⟩ (Zab _ (by simp only [go_sem]; simp)) (fun i hI N hN=>?_))
  obtain ⟨hi,hal⟩:=hI
  unfold Yaj
  by_cases hin:i<L.length
  ·obtain ⟨n,hn⟩:∃ n,L[i]? = some n:=⟨_,List.getElem?_eq_getElem hin⟩
   have hx:=hL n (List.mem_of_getElem? hn)
   obtain ⟨ms,hms⟩:∃ ms,ms=n.mv.map mvAV:=⟨_,rfl⟩
   have hmsl:ms.length=n.mv.length:=by rw [hms,List.length_map]
   have hget:ls[i]? = some (.agg [.int .i64 n.kind,.str (bs n.rew),.sl ms]):=by rw [hls,List.getElem?_map,hn,hms]; rfl
   have hkd:=hx.kind
   have hlen:=hx.len
   have hl6:=hx.ok.len
   have hpi:plnI (toGm L d) p i=if (toGN n).kind=3 then decide (p.getD i 0 = -1) else decide (0≤p.getD i 0∧p.getD i 0<((toGN n).to.length:Int)):=by unfold plnI; rw [Y5i hn]
   have hgp:(ivs p)[i]? = some (.int .i64 (p.getD i 0)):=by
    refine Z9e ?_
    rw [List.getD_eq_getElem?_getD,List.getElem?_eq_getElem (by omega)]; rfl
   have hpll:(ivs p).length=L.length:=by rw [Za4]; omega
   have hbad:plnI (toGm L d) p i=false→(List.range L.length).all (plnI (toGm L d) p)=false:=fun h=>by
    rw [List.all_eq_false]
    exact ⟨i,List.mem_range.2 hin,by rw [h]; decide⟩
   have hgood:plnI (toGm L d) p i=true→(List.range (i+1)).all (plnI (toGm L d) p)=true:=fun h=>by rw [List.range_succ,List.all_append,hal]; simp [h]
   generalize p.getD i 0=z at *
   have q0:(0:Int)≤(i:Int):=by omega
   have q1:(i:Int)<(L.length:Int):=by omega
   have e1:IntKind.i64.wrap ((i:Int)+1)=((i+1:Nat):Int):=by rw [Zac (by omega) (by omega)]; omega
   have e2:IntKind.i64.wrap ((n.mv.length:Int) - 1)=(n.mv.length:Int) - 1:=Zac (by omega) (by omega)
   by_cases k3:n.kind=3
   ·rw [if_pos (by omega)] at hpi
    by_cases hz:z = -1
    ·rw [decide_eq_true hz] at hpi
     simp only [go_sem,Zfh,Zfm,Zx9,q0,q1,hlsl,hget,hgp,hpll,k3,hz,hmx,e1]
     exact hN (i+1) _ ⟨by omega,hgood hpi⟩ (by omega) (Zab _ (by simp only [go_sem]))
    ·rw [decide_eq_false hz] at hpi
     rw [hbad hpi]
     simp only [go_sem,Zfh,Zfm,Zx0,q0,q1,hlsl,hget,hgp,hpll,k3,hz,hmx]
   ·rw [if_neg (by omega)] at hpi
    by_cases hz:0≤z∧z≤(n.mv.length:Int) - 1
    ·rw [decide_eq_true (by omega)] at hpi
     simp only [go_sem,Zfh,Zfm,q0,q1,hlsl,hget,hgp,hpll,hmsl,k3,hmx,e2]
     refine Zaa (Y2b hz) (by simp only [go_sem]) ?_
     simp only [go_sem,Zx9,e1]
     exact hN (i+1) _ ⟨by omega,hgood hpi⟩ (by omega) (Zab _ (by simp only [go_sem]))
    ·rw [decide_eq_false (by omega)] at hpi
     rw [hbad hpi]
     simp only [go_sem,Zfh,Zfm,q0,q1,hlsl,hget,hgp,hpll,hmsl,k3,hmx,e2]
     refine Zaa (Y3l hz) (by simp only [go_sem]) ?_
     simp only [go_sem,Zx0]
  ·have hie:i=L.length:=by omega
   subst hie
   have q1:¬ ((L.length:Nat):Int)<(L.length:Int):=by omega
   rw [hal]
   simp only [go_sem,Zfh,hlsl,q1]
   refine T_W ?_
   simp only [go_sem,Ybk]
 ·have hl':¬ ((p.length:Nat):Int)=(L.length:Int):=by omega
  have hB:plnB (toGm L d) p=false:=by unfold plnB; rw [decide_eq_false (by omega)]; rfl
  rw [hB]
  simp only [go_sem,Zyb,Zvw,Ycc,hlsl,Za4,hl']
def fixN (n:Nd) (z:Int):Nd:=if 0≤z then ⟨n.kind,n.rew,[n.mv.getD z.toNat (0,[])]⟩ else n
instance:Inhabited Nd:=⟨⟨0,[],[]⟩⟩
def fxL (L:List Nd) (p:List Int):List Nd:=(List.range L.length).map fun i=>fixN (L.getD i default) (p.getD i 0)
theorem Ylh {L:List Nd}{p:List Int}:(fxL L p).length=L.length:=by unfold fxL; rw [List.length_map,List.length_range]
theorem Y4e {L:List Nd}{p:List Int}{i:Nat}{n:Nd}(h:L[i]? = some n):(fxL L p)[i]? = some (fixN n (p.getD i 0)):=by
 unfold fxL
 rw [List.getElem?_map,List.getElem?_range (List.getElem?_eq_some_iff.1 h).1]
 show some (fixN (L.getD i default) _)=_
 rw [List.getD_eq_getElem?_getD,h]; rfl
theorem rfixed {L:List Nd}{p:List Int}(hp:p.length=L.length) (hpm:∀ i n,L[i]? = some n→0≤p.getD i 0→p.getD i 0<(n.mv.length:Int)) (hN1:L.length≤100) (hm7:∀ n,n∈L→n.mv.length≤7) :
  SpecV Tryz.prog Yeo [.sl (L.map ndAV),.sl (ivs p)] (.sl ((fxL L p).map ndAV)):=by
 have hmx:Tryz.prog.follows .mixedOrders=true:=by kernel_rfl
 obtain ⟨ls,hls⟩:∃ ls,ls=L.map ndAV:=⟨_,rfl⟩
 have hlsl:ls.length=L.length:=by rw [hls,List.length_map]
 rw [← hls]
 refine Za0 Yp5 (by simp) (Za9 1 rfl ?_)
 unfold Yig
 simp only [go_sem,Z4w,Z7q]
 refine T_le (Zgz 5 (some 3) (by simp only [go_sem]) [(0,.sl ls),(1,.sl (ivs p))] (by simp only [go_sem])) ?_
 refine Zau (Zau (T_W ?_))
 simp only [go_sem,Z5e]
 refine Zat (Zfy (fun i:Nat=>⟨envL [(0,.sl ls),(1,.sl (ivs p)),(5,.osl (some 3) 0 0 i),(6,.int .i64 (i:Int))],[.cells (((fxL L p).take i).flatMap ndC)]⟩)
  (fun i=>i≤L.length) (fun i=>L.length - i) 0 (by omega) (Zab _ (by simp only [go_sem]; simp)) (fun i hi N hN=>?_))
 unfold Z7g
 by_cases hin:i<L.length
 ·obtain ⟨n,hn⟩:∃ n,L[i]? = some n:=⟨_,List.getElem?_eq_getElem hin⟩
  have hm:=hm7 n (List.mem_of_getElem? hn)
  obtain ⟨ms,hms⟩:∃ ms,ms=n.mv.map mvAV:=⟨_,rfl⟩
  have hmsl:ms.length=n.mv.length:=by rw [hms,List.length_map]
  have hget:ls[i]? = some (.agg [.int .i64 n.kind,.str (bs n.rew),.sl ms]):=by rw [hls,List.getElem?_map,hn,hms]; rfl
  have hgp:(ivs p)[i]? = some (.int .i64 (p.getD i 0)):=by
   refine Z9e ?_
   rw [List.getD_eq_getElem?_getD,List.getElem?_eq_getElem (by omega)]; rfl
  have hpll:(ivs p).length=L.length:=by rw [Za4]; omega
  have hpb:=hpm i n hn
  have hfx:=Y4e (p:=p) hn
  have htk:((fxL L p).take (i+1)).flatMap ndC=((fxL L p).take i).flatMap ndC++ndC (fixN n (p.getD i 0)):=by rw [List.take_add_one,hfx]; simp
  have hPl:(((fxL L p).take i).flatMap ndC).length=i*3:=by rw [Y14,List.length_take,Ylh]; congr 1; omega
  have hPg:=fun f=>Xbf (M:=(fxL L p).take i) f
  generalize ((fxL L p).take i).flatMap ndC=P at *
  generalize p.getD i 0=z at *
  have q0:(0:Int)≤(i:Int):=by omega
  have q1:(i:Int)<(L.length:Int):=by omega
  have e1:IntKind.i64.wrap ((i:Int)+1)=((i+1:Nat):Int):=by rw [Zac (by omega) (by omega)]; omega
  have s1:(i+1)*48≤1099511627776:=by omega
  have s2:i*3≤P.length:=by omega
  have tP:P.take (i*3)=P:=List.take_of_length_le (by omega)
  have clP:∀ nn:Nd,Clo 2 [.cells P,.cells (ndC nn)]:=fun nn=>by
   unfold Clo
   show [Blk.cells (gcL _ P),.cells (gcL _ (ndC nn))]=_
   rw [hPg]; rfl
  refine Za9 0 rfl ?_
  simp only [go_sem,Zsn,hlsl,q1]
  refine Zau (Zat (Za9 1 rfl ?_))
  by_cases hz:0≤z
  ·have hz2:=hpb hz
   obtain ⟨k,hk⟩:∃ k:Nat,z=k:=⟨z.toNat,by omega⟩
   obtain ⟨m,hmk⟩:∃ m,n.mv[k]? = some m:=⟨_,List.getElem?_eq_getElem (by omega)⟩
   have hmsk:ms[k]? = some (.agg [.int .i64 m.1,.str (bs m.2)]):=by rw [hms,List.getElem?_map,hmk]; rfl
   have hfn:ndC (fixN n z) = [.int .i64 n.kind,.str (bs n.rew),.sl [mvAV m]]:=by
    unfold fixN
    rw [if_pos hz,hk]
    show [_,_,AV.sl [mvAV (n.mv.getD ((k:Nat):Int).toNat (0,[]))]]=_
    rw [Int.toNat_natCast,List.getD_eq_getElem?_getD,hmk]; rfl
   have r0:(0:Int)≤(k:Int):=by omega
   have r1:(k:Int)<(n.mv.length:Int):=by omega
   rw [hk] at hgp
   simp only [go_sem,Zrp,Zpy,Zsb,q0,q1,r0,r1,hlsl,hget,hgp,hpll,hmsl,hmsk,hmx,List.cons_append,List.nil_append]
   refine T_le (Yl2 (b:=1) (ids := [2]) (l := [.int .i64 n.kind,.str (bs n.rew),.osl (some 2) 2 0 1]) (l':=ndC (fixN n z)) rfl (by decide) (by rw [hfn]; rfl) (fun j x y hx hy=>?_) [(0,.sl ls),(1,.sl (ivs p)),(5,.osl (some 3) 0 0 i),(6,.int .i64 (i:Int)),(7,.ptr 1 0)] (Yga (by simp only [go_sem]))) ?_
   ·rw [hfn] at hy
    match j with
    | 0=>simp at hx hy; subst hx hy; exact .inr rfl
    | 1=>simp at hx hy; subst hx hy; exact .inr rfl
    | 2 =>
     simp only [List.getElem?_cons_succ,List.getElem?_cons_zero,Option.some.injEq] at hx hy
     subst hx hy
     exact .inl (Xbs (M := [m]) rfl (by simp))
    | j+3=>simp at hx
   refine T_le (Ze4 (K := [.cells P,.cells (ndC (fixN n z))]) (post := [.dead]) (m:=2) rfl (clP _) (by omega) [(0,.sl ls),(1,.sl (ivs p)),(5,.osl (some 3) 0 0 i),(6,.int .i64 (i:Int)),(7,.ptr 1 0)] (by simp only [go_sem]) (by simp [AV.gc,Zbb])) ?_
   ·skip
    have n3:(ndC (fixN n z)).length=3:=by unfold fixN; split <;> rfl
    have n3':(ndC (fixN n z)).take 3=ndC (fixN n z):=List.take_of_length_le (by omega)
    have n3d:(ndC (fixN n z)).drop 3 = []:=List.drop_eq_nil_of_le (by omega)
    refine T_W ?_
    simp only [go_sem,Zrv,n3,n3',n3d,s1,s2,tP,Nat.le_refl,List.cons_append,List.nil_append]
    refine T_W ?_
    simp only [go_sem,Zrn,e1]
    refine hN (i+1) _ (by omega) (by omega) (Zbj (Zgv [3] (by decide) (fun i hi=>by omega) [(0,.sl ls),(1,.sl (ivs p)),(5,.osl (some 3) 3 0 (i+1)),(6,.int .i64 ((i+1:Nat):Int))] (by simp only [go_sem])) ?_)
    show St.mk _ [Blk.cells (gcL _ (P++ndC (fixN n z)))]=_
    rw [Ztf,hPg,show ∀ f,gcL f (ndC (fixN n z))=ndC (fixN n z) from fun f=>by unfold fixN; split <;> rfl, ← htk]
    rfl
  ·have hfn:ndC (fixN n z) = [.int .i64 n.kind,.str (bs n.rew),.sl ms]:=by unfold fixN; rw [if_neg hz]; unfold ndC; rw [hms]
   simp only [go_sem,Zrp,Zpy,q0,q1,hz,hlsl,hget,hgp,hpll,hmx,List.cons_append,List.nil_append]
   rw [← hfn]
   ·skip
    have n3:(ndC (fixN n z)).length=3:=by unfold fixN; split <;> rfl
    have n3':(ndC (fixN n z)).take 3=ndC (fixN n z):=List.take_of_length_le (by omega)
    have n3d:(ndC (fixN n z)).drop 3 = []:=List.drop_eq_nil_of_le (by omega)
    refine T_W ?_
    simp only [go_sem,Zrv,n3,n3',n3d,s1,s2,tP,Nat.le_refl,List.cons_append,List.nil_append]
    refine T_W ?_
    simp only [go_sem,Zrn,e1]
    refine hN (i+1) _ (by omega) (by omega) (Zbj (Zgv [3] (by decide) (fun i hi=>by omega) [(0,.sl ls),(1,.sl (ivs p)),(5,.osl (some 3) 3 0 (i+1)),(6,.int .i64 ((i+1:Nat):Int))] (by simp only [go_sem])) ?_)
    show St.mk _ [Blk.cells (gcL _ (P++ndC (fixN n z)))]=_
    rw [Ztf,hPg,show ∀ f,gcL f (ndC (fixN n z))=ndC (fixN n z) from fun f=>by unfold fixN; split <;> rfl, ← htk]
    rfl
 ·have hie:i=L.length:=by omega
  subst hie
  have q1:¬ ((L.length:Nat):Int)<(L.length:Int):=by omega
  rw [List.take_of_length_le (by rw [Ylh]; omega)]
  refine T_W ?_
  simp only [go_sem,Zsn,hlsl,q1]
  refine T_W ?_
  simp only [go_sem,Z07]
  have hl:=Ylh (L:=L) (p:=p)
  rw [← hl]
  exact Xba rfl (by simp [allOf])
end GoAbs
namespace GoAbs
open Go Go.Proofs
set_option maxHeartbeats 4000000
theorem Dom.jor {m c k:Nat}{M:RM}(h:Dom m c (k+1) M) (hk:c+(k+1)=m) (hM:M.length=m) (hW:Wid (m+1) M):Dom m (c+1) k (jorCol M c M.length):=fun i h1 h2=>by
 have hp:=h.pos hk (Nat.le_refl c) (by omega)
 have h0:mget M c c≠0:=fun e=>by rw [e] at hp; exact absurd hp (by decide)
 obtain ⟨e1,e2⟩:=h.elim hk hM hW i h1 h2
 have hj:∀ j,c+1≤j→j<m+1→mget (jorCol M c M.length) i j=mget (elimCol M c M.length) i j:=fun j hj hjm=>by
  rw [Z67 hW (by omega) hjm (by omega) h0,if_pos (by omega),Zwi hW (by omega) hjm (by omega) (by omega) h0]
 refine ⟨fun j h3 h4 h5=>by rw [hj j h3 (by omega)]; exact e1 j h3 h4 h5,?_⟩
 rw [Zas (g:=fun j=>mget (elimCol M c M.length) i (j - 1)) (fun j hj'=>by
  have hj':=List.mem_range'_1.1 hj'
  exact hj (j - 1) (by omega) (by omega))]
 exact e2
theorem Y0x {m:Nat}{x:Nat→Rat}:∀ {k c:Nat}{M:RM},c+k=m→M.length=m→Wid (m+1) M→Dom m c k M →
  (∀ i j,i<m→j<c→i≠j→mget M i j=0)→(∀ j,j<c→mget M j j≠0) →
  (∀ i,i<m→sumL (List.range' 1 m) (fun j=>x j*mget M i (j - 1))=mget M i m) →
  Piv k c M∧Wid (m+1) (jorN k c M)∧∀ i,i<m→mget (jorN k c M) i i≠0∧mget (jorN k c M) i m / mget (jorN k c M) i i=x (i+1)
 | 0,c,M,hk,hM,hW,_,hz,hd,hx=>⟨trivial,hW,fun i hi=>by
  have hc:c=m:=by omega
  subst hc
  have h:=hx i hi
  have hs:sumL (List.range' 1 c) (fun j=>x j*mget M i (j - 1))=sumL (List.range' 1 c) (fun j=>(if j=i+1 then 1 else 0)*(x j*mget M i (j - 1))):=Zas (fun j hj=>by
   have hj':=List.mem_range'_1.1 hj
   by_cases h:j=i+1
   ·rw [if_pos h]; grind
   ·rw [if_neg h,hz i (j - 1) hi (by omega) (by omega)]; grind)
  rw [hs,Yps List.nodup_range',if_pos (by rw [List.mem_range'_1]; omega),Nat.add_sub_cancel] at h
  have h0:=hd i hi
  refine ⟨h0,?_⟩
  show mget M i c / mget M i i=_
  rw [← h]
  grind⟩
 | k+1,c,M,hk,hM,hW,hD,hz,hp,hx=>by
  have hpv:=hD.pos hk (Nat.le_refl c) (by omega)
  have h0:mget M c c≠0:=fun e=>by rw [e] at hpv; exact absurd hpv (by decide)
  have hcM:c<M.length:=by omega
  have hdec:∀ i,i=c∨i≠c:=fun i=>by omega
  have ih:=Y0x (x:=x) (k:=k) (c:=c+1) (M:=jorCol M c M.length) (by omega) (by rw [Zdn,hM]) hW.jor (hD.jor hk hM hW)
   (fun i j hi hj hij=>by
    rcases hdec i with rfl | hic
    ·rw [Zzb hcM]; exact hz i j hi (by omega) hij
    ·rw [Z67 hW (by omega) (by omega) hic h0]
     by_cases hjc:j=c
     ·subst hjc
      rw [if_pos (Nat.le_refl _)]; grind
     ·rw [if_neg (by omega)]; exact hz i j hi (by omega) hij)
   (fun j hj=>by
    rcases hdec j with rfl | hjc
    ·rw [Zzb hcM]; exact h0
    ·rw [Z67 hW (by omega) (by omega) hjc h0,if_neg (by omega)]; exact hp j (by omega))
   (fun i hi=>by
    rcases hdec i with rfl | hic
    ·rw [Zzb hcM, ← hx i hi]
     exact Zas (fun j hj=>by rw [Zzb hcM])
    ·rw [Z67 hW (by omega) (by omega) hic h0,if_pos (by omega), ← hx i hi, ← hx c (by omega)]
     have e:sumL (List.range' 1 m) (fun j=>x j*mget (jorCol M c M.length) i (j - 1))=sumL (List.range' 1 m) (fun j=>x j*mget M i (j - 1))+(-(mget M i c / mget M c c))*sumL (List.range' 1 m) (fun j=>x j*mget M c (j - 1)):=by
      rw [← Zey, ← Zy1]
      refine Zas (fun j hj=>?_)
      have hj':=List.mem_range'_1.1 hj
      rw [Z67 hW (by omega) (by omega) hic h0]
      by_cases hcj:c≤j - 1
      ·rw [if_pos hcj]; grind
      ·rw [if_neg hcj,hz c (j - 1) (by omega) (by omega) (by omega)]; grind
     rw [e]
     generalize sumL (List.range' 1 m) (fun j=>x j*mget M i (j - 1))=s
     generalize sumL (List.range' 1 m) (fun j=>x j*mget M c (j - 1))=t
     grind)
  unfold Piv jorN
  exact ⟨⟨h0,ih.1⟩,ih.2⟩
theorem Xd8 {g:Gm}(hg:GmP g) {p:List Int}(hp:POk g p) :
  Piv g.nodes.length 0 (aug (planM g p g.nodes.length) g.rew)∧(∀ i,i<g.nodes.length→mget (jorN g.nodes.length 0 (aug (planM g p g.nodes.length) g.rew)) i i≠0) ∧
  solR (jorN g.nodes.length 0 (aug (planM g p g.nodes.length) g.rew)) g.nodes.length g.nodes.length=valP g p:=by
 obtain ⟨h1,h2⟩:=Z6b hg hp (Nat.le_refl g.nodes.length)
 obtain ⟨_,_,_,h3,h4⟩:=Z4y h1.len h1.wid hg.ok.rew (Zy0 hg hp)
 have hD:=Zy0 hg hp
 have hr:=hg.ok.rew
 have hvl:(valP g p).length=g.nodes.length:=(Zy5 hg hp).1
 have hm:∀ i,i<g.nodes.length→(∀ j,j<g.nodes.length→mget (aug (planM g p g.nodes.length) g.rew) i j=mget (planM g p g.nodes.length) i j)∧mget (aug (planM g p g.nodes.length) g.rew) i g.nodes.length=rget g.rew i:=fun i hi=>Yu9 h1.len h1.wid hr hi
 have hD':Dom g.nodes.length 0 g.nodes.length (aug (planM g p g.nodes.length) g.rew):=fun i h1 h2=>by
  obtain ⟨a,b⟩:=hD i h1 h2
  refine ⟨fun j hj hjn hji=>by rw [(hm i h2).1 j hjn]; exact a j hj hjn hji,?_⟩
  rw [Zas (g:=fun j=>mget (planM g p g.nodes.length) i (j - 1)) (fun j hj=>by
   have hj':=List.mem_range'_1.1 hj
   exact (hm i h2).1 (j - 1) (by omega))]
  exact b
 obtain ⟨j1,_,j3⟩:=Y0x (m:=g.nodes.length) (x:=fun j=>rget (valP g p) (j - 1)) (k:=g.nodes.length) (c:=0) (M:=aug (planM g p g.nodes.length) g.rew) (by omega) (by rw [Z23 (by rw [h1.len]; exact hr),h1.len]) (Yec h1.wid) hD'
  (fun i j _ hj=>by omega) (fun j hj=>by omega) (fun i hi=>by
   rw [(hm i hi).2, ← h4 i hi,List.range'_eq_map_range,Z48]
   refine Zas (fun j hj=>?_)
   have hj':=List.mem_range.1 hj
   rw [show 1+j - 1=j by omega,(hm i hi).1 j hj']
   rfl)
 refine ⟨j1,fun i hi=>(j3 i hi).1,?_⟩
 refine Zmo (by rw [hvl]; simp [solR]) (fun i hi=>?_)
 rw [hvl] at hi
 have h5:=(j3 i hi).2
 rw [Nat.add_sub_cancel] at h5
 rw [← h5]
 unfold solR
 exact Yjt hi
def entW (odds:List Rat) (to:List Nat) (j:Nat):Nat→Rat
 | 0=>0
 | k+1=>entW odds to j k+if to.getD k 0=j then rget odds k else 0
theorem Ygp {n i:Nat}{d:Rat}{odds:List Rat}{to:List Nat}(hi:i<n) (hto:∀ x,x∈to→x<n):∀ {k:Nat}{M:RM},k≤to.length→M.length=n→Wid n M →
  (addOdds d i odds to k M).length=n∧Wid n (addOdds d i odds to k M)∧∀ a j,mget (addOdds d i odds to k M) a j=mget M a j - if a=i then d*entW odds to j k else 0
 | 0,M,_,hl,hw=>⟨hl,hw,fun a j=>by unfold addOdds entW; split <;> grind⟩
 | k+1,M,hk,hl,hw=>by
  obtain ⟨h1,h2,h3⟩:=Ygp (i:=i) (d:=d) (odds:=odds) (to:=to) hi hto (k:=k) (M:=M) (by omega) hl hw
  unfold addOdds
  refine ⟨by rw [Zcn,h1],h2.addAt,fun a j=>?_⟩
  rw [Zkj h2 (by rw [h1]; exact hi) (hto _ (Zbi (by omega))),h3]
  simp only [entW]
  by_cases ha:a=i
  ·rw [if_pos ha,if_pos ha]
   by_cases hj:to.getD k 0=j
   ·rw [if_pos ⟨ha,hj.symm⟩,if_pos hj]; grind
   ·rw [if_neg (fun h=>hj h.2.symm),if_neg hj]; grind
  ·rw [if_neg ha,if_neg ha,if_neg (fun h=>ha h.1)]; grind
def toF (x:GN) (k:Nat):List Nat:=if x.kind=3 then x.to else [x.to.getD k 0]
def odF (x:GN):List Rat:=if x.kind=3 then x.odds else [1]
theorem ent1 {t j:Nat}:entW [1] [t] j [t].length=if t=j then 1 else 0:=by
 show (0:Rat)+(if [t].getD 0 0=j then rget [1] 0 else 0)=_
 rw [Rat.zero_add]
 rfl
theorem Yqb {g:Gm}(hg:GmOk g) {p:List Int}(hp:POk g p):∀ {k:Nat},k≤g.nodes.length →
  ∀ a j,mget (planM g p k) a j=if a<k then (if a=j then 1 else 0) - g.d*entW (odF (nodeAt g a)) (toF (nodeAt g a) (pget p a)) j (toF (nodeAt g a) (pget p a)).length else 0
 | 0,_,a,j=>by
  rw [if_neg (by omega)]
  unfold planM mget rget
  rw [List.getD_eq_getElem?_getD,List.getD_eq_getElem?_getD,List.getElem?_replicate]
  split
  ·rw [Option.getD_some,List.getElem?_replicate]; split <;> rfl
  ·simp
 | k+1,hk,a,j=>by
  have ih:=Yqb hg hp (k:=k) (by omega)
  obtain ⟨m1,m2,_⟩:=Zpo hg (p:=p) (k:=k) (by omega)
  have hkn:k<g.nodes.length:=by omega
  have hok:=hg.node _ (Zbf hkn)
  have hlt:=hp.lt hkn
  have b2:(addAt (planM g p k) k k 1).length=g.nodes.length:=by rw [Zcn,m1]
  have b3:Wid g.nodes.length (addAt (planM g p k) k k 1):=m2.addAt
  have e1:∀ a j,mget (addAt (planM g p k) k k 1) a j=mget (planM g p k) a j+if a=k∧j=k then 1 else 0:=fun a j=>Zkj m2 (by rw [m1]; exact hkn) hkn
  have hz:∀ j,mget (planM g p k) k j=0:=fun j=>by rw [ih,if_neg (by omega)]
  unfold planM nodeM
  by_cases h3:(nodeAt g k).kind=3
  ·rw [if_pos h3]
   obtain ⟨_,_,c3⟩:=Ygp (i:=k) (d:=g.d) (odds:=(nodeAt g k).odds) (to:=(nodeAt g k).to) hkn hok.lt (Nat.le_refl _) b2 b3
   rw [c3,e1]
   by_cases ha:a=k
   ·subst ha
    rw [if_pos (show a=a from rfl),if_pos (show a<a+1 by omega),hz]
    unfold odF toF
    rw [if_pos h3,if_pos h3]
    by_cases hj:a=j
    ·rw [if_pos ⟨rfl,hj.symm⟩,if_pos hj]; grind
    ·rw [if_neg (fun h=>hj h.2.symm),if_neg hj]; grind
   ·rw [if_neg ha,if_neg (fun h=>ha h.1),ih]
    by_cases hl:a<k
    ·rw [if_pos hl,if_pos (show a<k+1 by omega)]; grind
    ·rw [if_neg hl,if_neg (show ¬ a<k+1 by omega)]; grind
  ·rw [if_neg h3,Zkj b3 (by rw [b2]; exact hkn) (hok.lt _ (Zbi (hlt h3))),e1]
   by_cases ha:a=k
   ·subst ha
    rw [if_pos (show a<a+1 by omega),hz]
    unfold odF toF
    rw [if_neg h3,if_neg h3]
    rw [ent1]
    by_cases hj:a=j
    ·rw [if_pos ⟨rfl,hj.symm⟩,if_pos hj]
     by_cases ht:(nodeAt g a).to.getD (pget p a) 0=j
     ·rw [if_pos ⟨rfl,ht.symm⟩,if_pos ht]; grind
     ·rw [if_neg (fun h=>ht h.2.symm),if_neg ht]; grind
    ·rw [if_neg (fun h=>hj h.2.symm),if_neg hj]
     by_cases ht:(nodeAt g a).to.getD (pget p a) 0=j
     ·rw [if_pos ⟨rfl,ht.symm⟩,if_pos ht]; grind
     ·rw [if_neg (fun h=>ht h.2.symm),if_neg ht]; grind
   ·rw [if_neg (fun h=>ha h.1),if_neg (fun h=>ha h.1),ih]
    by_cases hl:a<k
    ·rw [if_pos hl,if_pos (show a<k+1 by omega)]; grind
    ·rw [if_neg hl,if_neg (show ¬ a<k+1 by omega)]; grind
end GoAbs
namespace GoAbs
open Go Go.Proofs
set_option maxHeartbeats 8000000
def rowR (d:Rat) (odds:List Rat) (to:List Nat) (r:List Rat):Nat→List Rat
 | 0=>r
 | k+1=>(rowR d odds to r k).set (to.getD k 0) (rget (rowR d odds to r k) (to.getD k 0) - d*rget odds k)
theorem Zy7 {d:Rat}{odds:List Rat}{to:List Nat}{r:List Rat}:∀ k,(rowR d odds to r k).length=r.length
 | 0=>rfl
 | k+1=>by unfold rowR; rw [List.length_set,Zy7 k]
theorem Yvi {d:Rat}{odds:List Rat}{to:List Nat}{r:List Rat}(hto:∀ x,x∈to→x<r.length):∀ k,k≤to.length→∀ j,rget (rowR d odds to r k) j=rget r j - d*entW odds to j k
 | 0,_,j=>by unfold rowR entW; grind
 | k+1,hk,j=>by
  have ih:=Yvi (d:=d) (odds:=odds) hto k (by omega)
  unfold rowR
  rw [Ywh (by rw [Zy7]; exact hto _ (Zbi (by omega)))]
  simp only [entW]
  by_cases hj:j=to.getD k 0
  ·rw [if_pos hj,if_pos hj.symm, ← hj,ih]; grind
  ·rw [if_neg hj,if_neg (fun h=>hj h.symm),ih]; grind
theorem Yn9 {d:Rat}{odds:List Rat}{to:List Nat}{r:List Rat}(hd:Qb 40 d) (ho:∀ t,t<to.length→Qb 40 (rget odds t)) (hto:∀ x,x∈to→x<r.length) (hr:Rb 1 r):∀ k,k≤to.length→Rb (1+82*k) (rowR d odds to r k)
 | 0,_=>hr
 | k+1,hk=>fun q hq=>by
  have ih:=Yn9 hd ho hto hr k (by omega)
  unfold rowR at hq
  rcases List.mem_or_eq_of_mem_set hq with h | rfl
  ·exact (ih q h).mono (by omega)
  ·have h1:=ih.get (j:=to.getD k 0) (by rw [Zy7]; exact hto _ (Zbi (by omega)))
   exact (h1.sub2 (hd.mul2 (ho k (by omega)))).mono (by omega)
def unitR (n i:Nat):List Rat:=(List.range n).map fun k=>if i=k then 1 else 0
theorem Zk3 {n i:Nat}:(unitR n i).length=n:=by simp [unitR]
theorem Yol {n i j:Nat}(h:j<n):rget (unitR n i) j=if i=j then 1 else 0:=by unfold unitR; exact Yjt h
theorem Yx0 {n i:Nat}:Rb 1 (unitR n i):=fun q hq=>by
 obtain ⟨k,_,rfl⟩:=List.mem_map.1 hq
 split
 ·exact Qb.one (by omega)
 ·exact Qb.zero (by omega)
def rowF (g:Gm) (p:List Int) (i:Nat):List Rat :=
 rowR g.d (odF (nodeAt g i)) (toF (nodeAt g i) (pget p i)) (unitR g.nodes.length i) (toF (nodeAt g i) (pget p i)).length
def rowsF (g:Gm) (p:List Int):RM:=(List.range g.nodes.length).map fun i=>rowF g p i ++ [rget g.rew i]
theorem Xbc {g:Gm}(hg:GmOk g) {p:List Int}(hp:POk g p) {i:Nat}(hi:i<g.nodes.length):∀ x,x∈toF (nodeAt g i) (pget p i)→x<g.nodes.length:=fun x hx=>by
 have hok:=hg.node _ (Zbf hi)
 unfold toF at hx
 split at hx
 ·exact hok.lt x hx
 ·rename_i h3
  rw [List.mem_singleton.1 hx]
  exact hok.lt _ (Zbi (hp.lt hi h3))
theorem Yno {g:Gm}(hg:GmOk g) {p:List Int}(hp:POk g p):rowsF g p=aug (planM g p g.nodes.length) g.rew:=by
 obtain ⟨w1,w2,_⟩:=Zpo hg (p:=p) (Nat.le_refl _)
 refine List.ext_getElem? (fun i=>?_)
 by_cases hi:i<g.nodes.length
 ·have h1:=Yrv (M:=planM g p g.nodes.length) (r:=g.rew) (getD_some (M:=planM g p g.nodes.length) (i:=i) (by omega)) (Zag (r:=g.rew) (j:=i) (by rw [hg.rew]; exact hi))
  rw [h1]
  unfold rowsF
  rw [List.getElem?_map,List.getElem?_range hi]
  show some (rowF g p i ++ [rget g.rew i])=_
  congr 2
  have hl:=w2.get (i:=i) (by omega)
  refine Zmo (by rw [hl]; unfold rowF; rw [Zy7,Zk3]) (fun j hj=>?_)
  rw [hl] at hj
  show rget (rowF g p i) j=mget (planM g p g.nodes.length) i j
  rw [Yqb hg hp (Nat.le_refl _),if_pos hi]
  unfold rowF
  rw [Yvi (fun x hx=>by rw [Zk3]; exact Xbc hg hp hi x hx) _ (Nat.le_refl _),Yol hj]
 ·rw [List.getElem?_eq_none (by unfold rowsF; rw [List.length_map,List.length_range]; omega),List.getElem?_eq_none (by rw [Z23 (by rw [w1]; exact hg.rew),w1]; omega)]
theorem Xad {H:Heap}{ids:List Nat}{b:Nat}{M:RM}(hb:H[b]? = some (.cells (rowsV M))) (hi:b∈ids):BV H ids (.osl none b 0 M.length) (.sl (rowsV M)):=by
 have hc:∀ x,x∈rowsV M→∃ r,x=rowV r:=fun x hx=>by obtain ⟨r,_,rfl⟩:=List.mem_map.1 hx; exact ⟨r,rfl⟩
 refine .osl none b 0 M.length (rowsV M) (rowsV M) hb hi (by simp [rowsV]) (fun x hx=>?_) (by simp [rowsV,es]) (fun i x j y z hx hy hz=>?_)
 ·obtain ⟨r,rfl⟩:=hc x hx; rfl
 ·obtain ⟨r,rfl⟩:=hc x (List.mem_of_getElem? hx)
  cases j with
  | zero =>
   have hy':rowV r=y:=by simpa [AV.cells,rowV] using hy
   subst hy'
   rw [show 0+(i*es none+0)=i by show 0+(i*1+0)=i; omega,hx] at hz
   cases hz
   exact .sl _
  | succ j=>simp [AV.cells,rowV] at hy
theorem Y9c {M:RM}(f:Nat→Option Nat):gcL f (rowsV M)=rowsV M:=by rw [Zay]; unfold rowsV; rw [List.map_map]; rfl
theorem Xjy {fs:List AV}{n i:Nat}{D R:List AV}(hfs:fs.length=n) (hn:n≤100) (hi:i<n) (hD:∀ f,gcL f D=D) (hR:∀ f,gcL f R=R) {K:Ex→St→Prop}
  (hK:∀ e:Nat→AV,e 4 = .ptr 0 0→e 7 = .sl fs→e 8 = .osl none 1 0 i→e 9 = .int .i64 (i:Int)→e 10 = .osl (some 4) 2 0 n→K (.exit 2) ⟨e,[.cells D,.cells R,.cells (qr (unitR n i))]⟩) :
  T Tryz.prog 105 0 (.loop Zry) ⟨envL [(4,.ptr 0 0),(7,.sl fs),(8,.osl none 1 0 i),(9,.int .i64 (i:Int)),(10,.osl (some 4) 2 0 0),(11,.int .i64 0)],[.cells D,.cells R,.cells []]⟩ K:=by
 have w0:SpecV Tryz.prog Ze3 [.int .i64 0] (.agg (rq 0)):=rwhole (v:=0) (by decide)
 have w1:SpecV Tryz.prog Ze3 [.int .i64 1] (.agg (rq 1)):=rwhole (v:=1) (by decide)
 have rl:∀ q:Rat,(rq q).length=4:=fun q=>rfl
 refine Zad (fun k:Nat=>⟨envL [(4,.ptr 0 0),(7,.sl fs),(8,.osl none 1 0 i),(9,.int .i64 (i:Int)),(10,.osl (some 4) 2 0 k),(11,.int .i64 (k:Int))],[.cells D,.cells R,.cells (qr ((unitR n i).take k))]⟩)
  (fun k=>k≤n) (fun k=>n - k) 0 (by omega) (Zab _ (by simp only [go_sem]; simp)) (fun k hk N hN=>?_)
 unfold Zry
 by_cases hkn:k<n
 ·have hux:(unitR n i)[k]? = some (rget (unitR n i) k):=Zag (by rw [Zk3]; exact hkn)
  have hu:=Yol (i:=i) hkn
  have tk:qr ((unitR n i).take (k+1))=qr ((unitR n i).take k)++rq (rget (unitR n i) k):=by rw [List.take_add_one,hux]; exact Y5l
  have l1:(qr ((unitR n i).take k)).length=k*4:=by rw [Z2c,List.length_take,Zk3]; congr 1; omega
  have l2:(qr ((unitR n i).take k)).take (k*4)=qr ((unitR n i).take k):=List.take_of_length_le (by omega)
  have hg:=fun f=>Ysz (f:=f) (r:=(unitR n i).take k)
  generalize qr ((unitR n i).take k)=P at *
  have q1:(k:Int)<(n:Int):=by omega
  have s1:(k+1)*64≤1099511627776:=by omega
  have e1:IntKind.i64.wrap ((k:Int)+1)=((k+1:Nat):Int):=by rw [Zac (by omega) (by omega)]; omega
  have fin:∀ (e:Nat→AV) (z:Rat),z=rget (unitR n i) k→Has e [(4,.ptr 0 0),(7,.sl fs),(8,.osl none 1 0 i),(9,.int .i64 (i:Int)),(10,.osl (some 4) 4 0 (k+1)),(11,.int .i64 ((k+1:Nat):Int))] →
    N ⟨e,[.cells D,.cells R,.dead,.cells (rq z),.cells (P++rq z)]⟩:=fun e z hz he=>by
   subst hz
   refine hN (k+1) _ (by omega) (by omega) (Zbj (Zgv [0,1,4] (by decide) (fun i hi=>by omega) _ he) ?_)
   show St.mk _ [Blk.cells (gcL _ D),Blk.cells (gcL _ R),Blk.cells (gcL _ (P++rq (rget (unitR n i) k)))]=_
   rw [← tk,Ysz,hD,hR]
   rfl
  by_cases hik:i=k
  ·have hik':((i:Nat):Int)=(k:Int):=by omega
   rw [if_pos hik] at hu
   simp only [go_sem,Zj0,Zr8,Zrh,Zzt,Znc,q1,hfs,hik']
   refine Zaa w1 (by simp only [go_sem]) ?_
   simp only [go_sem,rl,Zcb,Zc5,l1,l2,s1,Zmw,e1,Nat.le_refl,List.cons_append,List.nil_append]
   exact fin _ _ hu.symm (by simp only [go_sem,hik'])
  ·have hik':¬ ((i:Nat):Int)=(k:Int):=by omega
   rw [if_neg hik] at hu
   simp only [go_sem,Zj0,Zr8,Zrh,Znc,q1,hfs,hik']
   refine Zaa w0 (by simp only [go_sem]) ?_
   simp only [go_sem,rl,Zcb,Zc5,l1,l2,s1,Zmw,e1,Nat.le_refl,List.cons_append,List.nil_append]
   exact fin _ _ hu.symm (by simp only [go_sem])
 ·have hke:k=n:=by omega
  subst hke
  have q1:¬ ((k:Nat):Int)<(k:Int):=by omega
  rw [List.take_of_length_le (by rw [Zk3]; omega)]
  simp only [go_sem,Zj0,hfs,q1]
  exact hK _ (by simp only [go_sem]) (by simp only [go_sem]) (by simp only [go_sem]) (by simp only [go_sem]) (by simp only [go_sem])
structure FxG (f:Nd) (to:List Nat) (odds:List Rat):Prop where
 len:f.mv.length=to.length
 mv:∀ k m,f.mv[k]? = some m→m.1=(to.getD k 0:Int)∧m.2.length≤23∧(f.kind=3→parseL m.2=some (rget odds k))∧(f.kind≠3→rget odds k=1)
theorem Xhk {fs:List AV}{f:Nd}{n i:Nat}{d:Rat}{odds:List Rat}{to:List Nat}{r:List Rat}{R:List AV}(hf:fs[i]? = some (ndAV f)) (hfs:fs.length≤1000) (hx:FxG f to odds) (hd:Qb 40 d) (ho:∀ t,t<to.length→Qb 40 (rget odds t)) (hto:∀ x,x∈to→x<n) (hr:r.length=n) (hrb:Rb 1 r) (htl:to.length≤7) (hn:n≤100) (hR:∀ f,gcL f R=R) {K:Ex→St→Prop}
  (hK:∀ e:Nat→AV,e 4 = .ptr 0 0→e 7 = .sl fs→e 8 = .osl none 1 0 i→e 9 = .int .i64 (i:Int)→e 10 = .osl (some 4) 2 0 n→K (.exit 4) ⟨e,[.cells (rq d),.cells R,.cells (qr (rowR d odds to r to.length))]⟩) :
  T Tryz.prog 105 0 (.loop Zj3) ⟨envL [(4,.ptr 0 0),(7,.sl fs),(8,.osl none 1 0 i),(9,.int .i64 (i:Int)),(10,.osl (some 4) 2 0 n),(13,.int .i64 0)],[.cells (rq d),.cells R,.cells (qr r)]⟩ K:=by
 have hmx:Tryz.prog.follows .mixedOrders=true:=by kernel_rfl
 have w1:SpecV Tryz.prog Ze3 [.int .i64 1] (.agg (rq 1)):=rwhole (v:=1) (by decide)
 have rl:∀ q:Rat,(rq q).length=4:=fun q=>rfl
 have bvsr:∀ {H ids} {q:Rat},BVs H ids (rq q) (rq q)=True:=fun {H ids q}=>by unfold rq rc; simp only [go_sem]
 obtain ⟨ms,hms⟩:∃ ms,ms=f.mv.map mvAV:=⟨_,rfl⟩
 have hmsl:ms.length=to.length:=by rw [hms,List.length_map,hx.len]
 have hget:fs[i]? = some (.agg [.int .i64 f.kind,.str (bs f.rew),.sl ms]):=by rw [hf,hms]; rfl
 have hil:=(List.getElem?_eq_some_iff.1 hf).1
 refine Zad (fun k:Nat=>⟨envL [(4,.ptr 0 0),(7,.sl fs),(8,.osl none 1 0 i),(9,.int .i64 (i:Int)),(10,.osl (some 4) 2 0 n),(13,.int .i64 (k:Int))],[.cells (rq d),.cells R,.cells (qr (rowR d odds to r k))]⟩)
  (fun k=>k≤to.length) (fun k=>to.length - k) 0 (by omega) (Zab _ (by simp only [go_sem]; simp)) (fun k hk N hN=>?_)
 unfold Zj3
 have p0:(0:Int)≤(i:Int):=by omega
 have p1:(i:Int)<(fs.length:Int):=by omega
 by_cases hkn:k<to.length
 ·obtain ⟨m,hmi⟩:∃ m,f.mv[k]? = some m:=⟨_,List.getElem?_eq_getElem (by rw [hx.len]; exact hkn)⟩
  obtain ⟨t1,t2,t3,t4⟩:=hx.mv k m hmi
  have hmsk:ms[k]? = some (.agg [.int .i64 m.1,.str (bs m.2)]):=by rw [hms,List.getElem?_map,hmi]; rfl
  have hlt:=hto _ (Zbi hkn)
  have hrl:=Zy7 (d:=d) (odds:=odds) (to:=to) (r:=r) k
  have hrk:=Yn9 hd ho (fun x hx=>by rw [hr]; exact hto x hx) hrb k (by omega)
  have hnx:rowR d odds to r (k+1)=(rowR d odds to r k).set (to.getD k 0) (rget (rowR d odds to r k) (to.getD k 0) - d*rget odds k):=rfl
  have hob:=ho k hkn
  rw [t1] at hmsk
  generalize rowR d odds to r k=row at *
  generalize to.getD k 0=y at *
  generalize hw:rget odds k=w at *
  have hrow:row[y]? = some (rget row y):=Zag (by omega)
  obtain ⟨c1,c2,c3⟩:=Xa1 (k:=700) ((hrk.get (j:=y) (by omega)).mono (by omega)) (hd.mono (show 40≤2*700 by omega)) (hob.mono (by omega)) (by omega) (by omega)
  have q0:(0:Int)≤(k:Int):=by omega
  have q1:(k:Int)<(to.length:Int):=by omega
  have q2:(0:Int)≤(y:Int):=by omega
  have q3:(y:Int)<(n:Int):=by omega
  have e1:IntKind.i64.wrap ((k:Int)+1)=((k+1:Nat):Int):=by rw [Zac (by omega) (by omega)]; omega
  have hql:(qr row).length=n*4:=by rw [Z2c,hrl,hr]
  have hfit:y*4+4≤(qr row).length:=by omega
  have hsp:=Yk8 hrow
  have htk:((qr row).drop (y*4)).take 4=rq (rget row y):=by
   rw [hsp,List.drop_append_of_le_length (by rw [Z2c,List.length_take]; omega),List.drop_eq_nil_of_le (by rw [Z2c,List.length_take]; omega),List.nil_append,List.take_append_of_le_length (by rw [rl]; omega),List.take_of_length_le (by rw [rl]; omega)]
  have hld:4≤((qr row).drop (y*4)).length:=by rw [List.length_drop]; omega
  have hset:∀ z:Rat,(qr row).take (y*4)++rq z++(qr row).drop (y*4+4)=qr (row.set y z):=fun z=>by
   rw [List.set_eq_take_append_cons_drop,if_pos (by omega)]
   rw [show qr (row.take y++z::row.drop (y+1))=qr (row.take y)++(rq z++qr (row.drop (y+1))) by unfold qr; rw [List.flatMap_append,List.flatMap_cons]]
   rw [hsp]
   have hl1:(qr (row.take y)).length=y*4:=by rw [Z2c,List.length_take]; congr 1; omega
   rw [List.take_append_of_le_length (by omega),List.take_of_length_le (by omega)]
   rw [show y*4+4=(qr (row.take y)++rq (rget row y)).length by rw [List.length_append,hl1,rl], ← List.append_assoc (qr (row.take y)),List.drop_left,List.append_assoc]
  have fin:∀ (e:Nat→AV) (post:Heap),Has e [(4,.ptr 0 0),(7,.sl fs),(8,.osl none 1 0 i),(9,.int .i64 (i:Int)),(10,.osl (some 4) 2 0 n),(13,.int .i64 ((k+1:Nat):Int))] →
    N ⟨e,[.cells (rq d),.cells R,.cells (qr (row.set y (rget row y - d*w)))]++post⟩:=fun e post he=>by
   rw [← hnx]
   refine hN (k+1) _ (by omega) (by omega) (Ze4 (K := [.cells (rq d),.cells R,.cells (qr (rowR d odds to r (k+1)))]) (m:=3) rfl ?_ (by omega) _ he (by simp [AV.gc,Zbb]))
   unfold Clo
   show [Blk.cells (gcL _ (rq d)),Blk.cells (gcL _ R),Blk.cells (gcL _ (qr _))]=_
   rw [Ysz,hR]; rfl
  by_cases k3:f.kind=3
  ·have hof:SpecV Tryz.prog Zza [.str (bs m.2)] (.agg (rq w)):=rof (by omega) (t3 k3)
   simp only [go_sem,Zhe,Zh9,Zn8,Zz4,p0,p1,q0,q1,hget,hmsl,hmsk,hmx]
   refine Zaa w1 (by simp only [go_sem]) ?_
   simp only [go_sem,p0,p1,q0,q1,hget,hmsl,hmsk,k3,rl,Zcb,Zc5]
   refine Zaa hof (by simp only [go_sem]) ?_
   simp only [go_sem,Zh1,p0,p1,q2,q3,htk,hld,rl,Zcb,Zc5,hmx]
   refine Zaa c1 (by simp only [go_sem,bvsr]) ?_
   simp only [go_sem]
   refine Zaa c2 (by simp only [go_sem,bvsr,Zaq]) ?_
   simp only [go_sem]
   refine Zaa c3 (by simp only [go_sem,Zaq]) ?_
   simp only [go_sem,p0,p1,q2,q3,hfit,hset,rl,Zcb,Zc5,Zn9,e1]
   exact fin _ [_,_] (by simp only [go_sem])
  ·have hw1:w=1:=t4 k3
   subst hw1
   simp only [go_sem,Zhe,Zh9,Zn8,p0,p1,q0,q1,hget,hmsl,hmsk,hmx]
   refine Zaa w1 (by simp only [go_sem]) ?_
   simp only [go_sem,p0,p1,q0,q1,hget,hmsl,hmsk,k3,rl,Zcb,Zc5]
   simp only [go_sem,Zh1,p0,p1,q2,q3,htk,hld,rl,Zcb,Zc5,hmx]
   refine Zaa c1 (by simp only [go_sem,bvsr]) ?_
   simp only [go_sem]
   refine Zaa c2 (by simp only [go_sem,bvsr,Zaq]) ?_
   simp only [go_sem]
   refine Zaa c3 (by simp only [go_sem,Zaq]) ?_
   simp only [go_sem,p0,p1,q2,q3,hfit,hset,rl,Zcb,Zc5,Zn9,e1]
   exact fin _ [_,_] (by simp only [go_sem])
 ·have hke:k=to.length:=by omega
  subst hke
  have q1:¬ ((to.length:Nat):Int)<(to.length:Int):=by omega
  simp only [go_sem,Zhe,p0,p1,hget,hmsl,q1]
  exact hK _ (by simp only [go_sem]) (by simp only [go_sem]) (by simp only [go_sem]) (by simp only [go_sem]) (by simp only [go_sem])
theorem Yhn {g:Gm}{p:List Int}:(rowsF g p).length=g.nodes.length:=by unfold rowsF; rw [List.length_map,List.length_range]
theorem Y52 {g:Gm}{p:List Int}{i:Nat}(h:i<g.nodes.length):(rowsF g p)[i]? = some (rowF g p i ++ [rget g.rew i]):=by unfold rowsF; rw [List.getElem?_map,List.getElem?_range h]; rfl
theorem Xbx {L:List Nd}{d:List UInt8}{p:List Int}(hL:∀ n,n∈L→NdG L.length n) (hB:plnB (toGm L d) p=true) {i:Nat}{n:Nd}(hn:L[i]? = some n) :
  FxG (fixN n (p.getD i 0)) (toF (nodeAt (toGm L d) i) (pget p i)) (odF (nodeAt (toGm L d) i))∧(fixN n (p.getD i 0)).rew=n.rew∧(0≤p.getD i 0→p.getD i 0<(n.mv.length:Int)):=by
 have hi:=(List.getElem?_eq_some_iff.1 hn).1
 have hx:=hL n (List.mem_of_getElem? hn)
 have hkd:=hx.kind
 have hlen:=hx.len
 have hgn:(toGm L d).nodes.length=L.length:=by unfold toGm; rw [List.length_map]
 unfold plnB at hB
 rw [Bool.and_eq_true,List.all_eq_true] at hB
 have hpi:=hB.2 i (List.mem_range.2 (by omega))
 unfold plnI at hpi
 rw [Y5i hn] at hpi ⊢
 by_cases h3:(toGN n).kind=3
 ·rw [if_pos h3] at hpi
  have hz:p.getD i 0 = -1:=of_decide_eq_true hpi
  have hf:fixN n (p.getD i 0)=n:=by unfold fixN; rw [if_neg (by omega)]
  rw [hf]
  unfold toF odF
  rw [if_pos h3,if_pos h3]
  refine ⟨⟨hlen,fun k m hm=>?_⟩,rfl,fun h=>by omega⟩
  obtain ⟨a,b,c⟩:=hx.to k m hm
  exact ⟨a,b,fun _=>c h3,fun h=>absurd (show n.kind=3 by omega) h⟩
 ·rw [if_neg h3] at hpi
  have hz:=of_decide_eq_true hpi
  have hpe:p.getD i 0=(pget p i:Int):=by unfold pget; omega
  have hf:fixN n (p.getD i 0)=⟨n.kind,n.rew,[n.mv.getD (pget p i) (0,[])]⟩:=by unfold fixN; rw [if_pos hz.1]; rfl
  rw [hf]
  unfold toF odF
  rw [if_neg h3,if_neg h3]
  refine ⟨⟨rfl,fun k m hm=>?_⟩,rfl,fun _=>by omega⟩
  cases k with
  | zero =>
   have hme:n.mv.getD (pget p i) (0,[])=m:=by simpa using hm
   obtain ⟨a,b,c⟩:=hx.to (pget p i) m (by rw [← hme,List.getD_eq_getElem?_getD,List.getElem?_eq_getElem (by omega)]; rfl)
   exact ⟨a,b,fun h=>absurd (show (toGN n).kind=3 by have:n.kind=3:=h; omega) h3,fun _=>rfl⟩
  | succ k=>simp at hm
theorem rplays {L:List Nd}{d:List UInt8}{p:List Int}(hL:∀ n,n∈L→NdG L.length n) (hg:GmP (toGm L d)) (hB:plnB (toGm L d) p=true) (hn1:1≤L.length) (hn5:L.length≤5) (hmb:Mb 90 (rowsF (toGm L d) p)) :
  SpecV Tryz.prog Ytf [.sl (L.map ndAV),.agg (rq (toGm L d).d),.sl (ivs p)] (rowV (valP (toGm L d) p)):=by
 have hmx:Tryz.prog.follows .mixedOrders=true:=by kernel_rfl
 have rl:∀ q:Rat,(rq q).length=4:=fun q=>rfl
 have bvsr:∀ {H ids} {q:Rat},BVs H ids (rq q) (rq q)=True:=fun {H ids q}=>by unfold rq rc; simp only [go_sem]
 have hp:=Yr2 hB
 have hgn:(toGm L d).nodes.length=L.length:=by unfold toGm; rw [List.length_map]
 have hfx:SpecV Tryz.prog Yeo [.sl (L.map ndAV),.sl (ivs p)] (.sl ((fxL L p).map ndAV)):=rfixed (by rw [hp.1,hgn]) (fun i n hn=>(Xbx (d:=d) hL hB hn).2.2) (by omega) (fun n hn=>by have h1:=(hL n hn).len; have h2:=(hL n hn).ok.len; omega)
 obtain ⟨j1,j2,j3⟩:=Xd8 hg hp
 rw [hgn] at j1 j2 j3
 have haug:=Yno hg.ok hp
 rw [hgn] at haug
 have hsv:=rsolve (n:=L.length) (k0:=90) (M:=rowsF (toGm L d) p) (by rw [Yhn,hgn]) hn1 (by omega) (by
   rw [haug]
   have:=(Zpo hg.ok (p:=p) (Nat.le_refl _)).2.1
   rw [hgn] at this
   exact Yec this) hmb (by omega) (by
   have:4 ^ (L.length - 1)≤4 ^ 4:=Nat.pow_le_pow_right (by omega) (by omega)
   have h2:4 ^ (L.length - 1)*(3*90+1)≤4 ^ 4*(3*90+1):=Nat.mul_le_mul_right _ this
   omega) (by rw [haug]; exact j1) (by rw [haug]; exact j2)
 rw [show solR (jorN L.length 0 (rowsF (toGm L d) p)) L.length L.length=valP (toGm L d) p by rw [haug]; exact j3] at hsv
 obtain ⟨fs,hfs⟩:∃ fs,fs=(fxL L p).map ndAV:=⟨_,rfl⟩
 have hfsl:fs.length=L.length:=by rw [hfs,List.length_map,Ylh]
 rw [← hfs] at hfx
 have hdb:=hg.ok.db
 refine Za0 Ynw (by simp) (Za9 1 rfl ?_)
 unfold Yjg
 simp only [go_sem,Z4h,Z5t]
 refine Zaa hfx (by simp only [go_sem]) ?_
 simp only [go_sem]
 refine T_le (Zgz 8 none (by simp only [go_sem]) [(4,.ptr 0 0),(7,.sl fs)] (by simp only [go_sem])) ?_
 refine Zau (Zau (T_W ?_))
 simp only [go_sem,Z8e,List.cons_append,List.nil_append,List.length_cons,List.length_nil]
 refine Zat (Zfy (fun i:Nat=>⟨envL [(4,.ptr 0 0),(7,.sl fs),(8,.osl none 1 0 i),(9,.int .i64 (i:Int))],[.cells (rq (toGm L d).d),.cells (rowsV ((rowsF (toGm L d) p).take i))]⟩)
  (fun i=>i≤L.length) (fun i=>L.length - i) 0 (by omega) (Zbj (Zab [(4,.ptr 0 0),(7,.sl fs),(8,.osl none 1 0 0),(9,.int .i64 0)] (by simp only [go_sem])) (by simp [rowsV])) (fun i hi N hN=>?_))
 unfold Z6k
 by_cases hin:i<L.length
 ·obtain ⟨n,hn⟩:∃ n,L[i]? = some n:=⟨_,List.getElem?_eq_getElem hin⟩
  have hx:=hL n (List.mem_of_getElem? hn)
  obtain ⟨f1,f2,_⟩:=Xbx (d:=d) hL hB hn
  have hfg:=Y4e (p:=p) hn
  have hfget:fs[i]? = some (ndAV (fixN n (p.getD i 0))):=by rw [hfs,List.getElem?_map,hfg]; rfl
  have hof:SpecV Tryz.prog Zza [.str (bs n.rew)] (.agg (rq ((parseL n.rew).getD 0))):=rof (by have:=hx.rew; omega) hx.rq.1
  have hrw:rget (toGm L d).rew i=(parseL n.rew).getD 0:=by
   unfold toGm rget
   rw [List.getD_eq_getElem?_getD,List.getElem?_map,hn]; rfl
  have hrow:=Y52 (g:=toGm L d) (p:=p) (i:=i) (by omega)
  rw [hrw] at hrow
  have hto:=Xbc hg.ok hp (i:=i) (by omega)
  rw [hgn] at hto
  have hod:∀ t,t<(toF (nodeAt (toGm L d) i) (pget p i)).length→Qb 40 (rget (odF (nodeAt (toGm L d) i)) t):=fun t ht=>by
   have hok:=hg.ok.node _ (Zbf (g:=toGm L d) (i:=i) (by omega))
   unfold toF at ht
   unfold odF
   by_cases h3:(nodeAt (toGm L d) i).kind=3
   ·rw [if_pos h3] at ht ⊢
    obtain ⟨o1,o2⟩:=hok.odds h3
    exact o2.get (by omega)
   ·rw [if_neg h3] at ht ⊢
    have:t=0:=by simpa using ht
    rw [this]
    exact Qb.one (by omega)
  have htl:(toF (nodeAt (toGm L d) i) (pget p i)).length≤7:=by
   have hok:=hg.ok.node _ (Zbf (g:=toGm L d) (i:=i) (by omega))
   have:=hok.len
   unfold toF
   split
   ·omega
   ·simp
  have hrf:rowF (toGm L d) p i=rowR (toGm L d).d (odF (nodeAt (toGm L d) i)) (toF (nodeAt (toGm L d) i) (pget p i)) (unitR L.length i) (toF (nodeAt (toGm L d) i) (pget p i)).length:=by unfold rowF; rw [hgn]
  have hrfl:(rowF (toGm L d) p i).length=L.length:=by rw [hrf,Zy7,Zk3]
  generalize odF (nodeAt (toGm L d) i)=ods at *
  generalize toF (nodeAt (toGm L d) i) (pget p i)=tos at *
  generalize fixN n (p.getD i 0)=fn at *
  have tk:(rowsF (toGm L d) p).take (i+1)=(rowsF (toGm L d) p).take i ++ [rowF (toGm L d) p i ++ [(parseL n.rew).getD 0]]:=by rw [List.take_add_one,hrow]; rfl
  have tk2:rowsV ((rowsF (toGm L d) p).take (i+1))=rowsV ((rowsF (toGm L d) p).take i) ++ [rowV (rowF (toGm L d) p i ++ [(parseL n.rew).getD 0])]:=by rw [tk]; simp [rowsV]
  have l1:(rowsV ((rowsF (toGm L d) p).take i)).length=i:=by unfold rowsV; rw [List.length_map,List.length_take,Yhn]; omega
  have l2:(rowsV ((rowsF (toGm L d) p).take i)).take i=rowsV ((rowsF (toGm L d) p).take i):=List.take_of_length_le (by omega)
  have hRg:=fun f=>Y9c (f:=f) (M:=(rowsF (toGm L d) p).take i)
  generalize rowsV ((rowsF (toGm L d) p).take i)=R at *
  generalize (parseL n.rew).getD 0=w at *
  have hfn2:ndAV fn = .agg [.int .i64 fn.kind,.str (bs fn.rew),.sl (fn.mv.map mvAV)]:=rfl
  have hfget2:fs[i]? = some (.agg [.int .i64 fn.kind,.str (bs n.rew),.sl (fn.mv.map mvAV)]):=by rw [hfget,hfn2,f2]
  have q0:(0:Int)≤(i:Int):=by omega
  have q1:(i:Int)<(L.length:Int):=by omega
  have e1:IntKind.i64.wrap ((i:Int)+1)=((i+1:Nat):Int):=by rw [Zac (by omega) (by omega)]; omega
  refine Za9 0 rfl ?_
  simp only [go_sem,Zqx,hfsl,q1]
  refine Zau (Zat (Zau (T_W ?_)))
  simp only [go_sem,Z5p]
  refine T_le (Zgz 10 (some 4) (by simp only [go_sem]) [(4,.ptr 0 0),(7,.sl fs),(8,.osl none 1 0 i),(9,.int .i64 (i:Int))] (by simp only [go_sem])) ?_
  refine Zau (Zau (T_W ?_))
  simp only [go_sem,Z4k,List.cons_append,List.nil_append,List.length_cons,List.length_nil]
  refine Zat (Zap [(4,.ptr 0 0),(7,.sl fs),(8,.osl none 1 0 i),(9,.int .i64 (i:Int)),(10,.osl (some 4) 2 0 0),(11,.int .i64 0)] (by simp only [go_sem]) (Xjy hfsl (by omega) hin (fun f=>rfl) hRg (fun e k4 k7 k8 k9 k10=>?_)))
  show T Tryz.prog 105 0 (.seq (.seq (.rg false Znf) (.block 4 (.loop Zj3))) (.rg false Zhg)) _ _
  refine Zau (Zau (T_W ?_))
  simp only [go_sem,Znf]
  refine Zat (Zap [(4,.ptr 0 0),(7,.sl fs),(8,.osl none 1 0 i),(9,.int .i64 (i:Int)),(10,.osl (some 4) 2 0 L.length),(13,.int .i64 0)] (by simp only [go_sem,k4,k7,k8,k9,k10]) (Xhk hfget (by omega) f1 hdb hod hto Zk3 Yx0 htl (by omega) hRg (fun e k4 k7 k8 k9 k10=>?_)))
  rw [← hrf]
  show T Tryz.prog 105 0 (.rg false Zhg) _ _
  have m1:(qr (rowF (toGm L d) p i)).length=L.length*4:=by rw [Z2c,hrfl]
  have m2:(qr (rowF (toGm L d) p i)).take (L.length*4)=qr (rowF (toGm L d) p i):=List.take_of_length_le (by omega)
  have s1:(L.length+1)*64≤1099511627776:=by omega
  have s2:(i+1)*24≤1099511627776:=by omega
  refine T_W ?_
  simp only [go_sem,Zhg,k4,k7,k8,k9,k10,q0,q1,hfsl,hfget2]
  refine Zaa hof (by simp only [go_sem]) ?_
  simp only [go_sem,rl,Zcb,Zc5,k4,k7,k8,k9,k10,m1,m2,s1,s2,l1,l2,Nat.mul_one,Nat.le_refl,List.cons_append,List.nil_append]
  show T Tryz.prog 105 0 (.rg false Zoe) _ _
  refine T_le (Zmq (Yl2 (b:=6) (ids := [4]) (l:=R ++ [.osl (some 4) 4 0 (L.length+1)]) (l':=R ++ [rowV (rowF (toGm L d) p i ++ [w])]) rfl (by decide) (by simp) (fun j x y hx hy=>?_) [(4,.ptr 0 0),(7,.sl fs),(8,.osl none 6 0 (i+1)),(9,.int .i64 (i:Int))] (Yga (by simp only [go_sem,k4,k7,k8,k9,k10])))
   (Zbj (Zgv [0,6] (by decide) (fun i hi=>by omega) [(4,.ptr 0 0),(7,.sl fs),(8,.osl none 6 0 (i+1)),(9,.int .i64 (i:Int))] (by simp only [go_sem])) (?_:_=St.mk (envL [(4,.ptr 0 0),(7,.sl fs),(8,.osl none 1 0 (i+1)),(9,.int .i64 (i:Int))]) [.cells (rq (toGm L d).d),.cells (R ++ [rowV (rowF (toGm L d) p i ++ [w])])]))) ?_
  ·by_cases hj:j<R.length
   ·rw [List.getElem?_append_left hj] at hx hy
    rw [hx] at hy; cases hy
    exact .inr rfl
   ·rw [List.getElem?_append_right (by omega)] at hx hy
    cases hjr:j - R.length with
    | zero =>
     rw [hjr] at hx hy
     simp only [List.getElem?_cons_zero,Option.some.injEq] at hx hy
     subst hx hy
     have hbv:=Xe8 (H := [Blk.cells (rq (toGm L d).d),.dead,.dead,.cells (rq w),.cells (qr (rowF (toGm L d) p i)++rq w),.cells [.osl (some 4) 4 0 (L.length+1)],.cells (R ++ [.osl (some 4) 4 0 (L.length+1)])]) (ids := [4]) (b:=4) (x:=rowF (toGm L d) p i ++ [w]) (by rw [Y5l]; rfl) (by simp)
     rw [show (rowF (toGm L d) p i ++ [w]).length=L.length+1 by rw [List.length_append,hrfl]; rfl] at hbv
     exact .inl hbv
    | succ k=>rw [hjr] at hx; simp at hx
  ·show St.mk _ [Blk.cells (gcL _ (rq (toGm L d).d)),Blk.cells (gcL _ (R ++ [rowV (rowF (toGm L d) p i ++ [w])]))]=_
   rw [Ztf,hRg]
   rfl
  refine T_W ?_
  simp only [go_sem,Zoe,e1]
  exact hN (i+1) _ (by omega) (by omega) (Zbj (Zab [(4,.ptr 0 0),(7,.sl fs),(8,.osl none 1 0 (i+1)),(9,.int .i64 ((i+1:Nat):Int))] (by simp only [go_sem])) (by rw [tk2]))
 ·have hie:i=L.length:=by omega
  subst hie
  have q1:¬ ((L.length:Nat):Int)<(L.length:Int):=by omega
  have hMl:(rowsF (toGm L d) p).length=L.length:=by rw [Yhn,hgn]
  rw [List.take_of_length_le (by omega)]
  refine T_W ?_
  simp only [go_sem,Zqx,hfsl,q1]
  refine Zq1 [1] [(7,.sl fs),(8,.sl (rowsV (rowsF (toGm L d) p)))] ?_ ?_
  ·refine ⟨.inr (by simp only [go_sem]),.inl ?_,trivial⟩
   have hbv:=Xad (H := [Blk.cells (rq (toGm L d).d),Blk.cells (rowsV (rowsF (toGm L d) p))]) (ids := [1]) (b:=1) (M:=rowsF (toGm L d) p) rfl (by simp)
   rw [hMl] at hbv
   simp only [go_sem]
   exact hbv
  refine T_W ?_
  simp only [go_sem,Zzm,hfsl]
  refine Zaa hsv (by simp only [go_sem]) ?_
  simp only [go_sem,Z1s,rowV]
end GoAbs
namespace GoAbs
open Go Go.Proofs
set_option maxHeartbeats 4000000
theorem Yxq {g:Gm}(hg:GmP g) (hl:GmL g) {p:List Int}(hp:POk g p):Mb 90 (rowsF g p):=by
 rw [Yno hg.ok hp]
 obtain ⟨w1,w2,hz⟩:=Ylz hg hl hp (Nat.le_refl g.nodes.length)
 intro r hr x hx
 obtain ⟨i,hi⟩:=List.getElem?_of_mem hr
 unfold aug at hi
 rw [List.getElem?_zipWith] at hi
 have hpos:(0:Rat)<N2:=by decide+kernel
 have hn:=hl.n
 have main:∀ q:Rat,Zb 87 (q*N2)→Qb 90 q:=fun q ⟨z,h1,h2⟩=>by
  have hne:N2≠0:=by grind
  have hq:q=Rat.divInt z 6350400:=by
   rw [Rat.divInt_eq_div]
   have e:((6350400:Int):Rat)=N2:=by decide+kernel
   rw [e, ← h1]
   grind
  obtain ⟨n1,n2⟩:=Zgu (n:=z) (d:=6350400) (by decide)
  rw [← hq] at n1 n2
  have c1:2 ^ 87≤2 ^ 90:=by decide
  have c2:(6350400:Int).natAbs<2 ^ 90:=by decide
  exact ⟨by omega,by omega⟩
 split at hi
 ·rename_i a b ha hb
  cases hi
  rcases List.mem_append.1 hx with h | h
  ·obtain ⟨j,hj⟩:=List.getElem?_of_mem h
   have hjl:=(List.getElem?_eq_some_iff.1 hj).1
   have he:x=mget (planM g p g.nodes.length) i j:=by
    unfold mget rget
    rw [List.getD_eq_getElem?_getD (l:=planM g p g.nodes.length),ha]
    show x=a.getD j 0
    rw [List.getD_eq_getElem?_getD,hj]; rfl
   rw [he]
   exact main _ ((hz i j).mono (by omega))
  ·rw [List.mem_singleton.1 h]
   have hb':=hl.rew b (List.mem_of_getElem? hb)
   have:=hb'.1
   have:=hb'.2
   have c:10000<2 ^ 90:=by decide
   exact ⟨by omega,by omega⟩
 ·cases hi
theorem lplays {X:List Nd}{l:List UInt8}{Z:List Int}(_hw:∀ n,n∈Z→(Lit.int .i64 n).wf=true):SpecV Tryz.prog Yd6 [.sl (X.map ndAV),.str (bs l),.sl (ivs Z)] (.bool true):=by
 have hmx:Tryz.prog.follows .mixedOrders=true:=by kernel_rfl
 obtain ⟨L,hL⟩:∃ L,L=fewW X:=⟨_,rfl⟩
 obtain ⟨d,hd⟩:∃ d,d=shW l:=⟨_,rfl⟩
 obtain ⟨p,hp⟩:∃ p,p=Z.take 12:=⟨_,rfl⟩
 have hin:GIn L d:=by rw [hL,hd]; exact Xes
 have hf:=wfew (L:=X)
 have hs:=wshort (l:=l)
 rw [← hL] at hf
 rw [← hd] at hs
 have hchk:SpecV Tryz.prog Yfl [.sl (L.map ndAV),.str (bs d),.sl []] (.int .i64 (eC L d)):=by
  have:=rcheck (M := []) (by have:=hin.le; omega) hin.ok hin.d (by simp) (by simp)
  rw [Xjv] at this
  exact this
 have hlt:=wlight (d:=d) (by have:=hin.le; omega) hin.ok
 have bvn:∀ H ids,BVs H ids [AV.sl (L.map ndAV),.str (bs d),.nils] [AV.sl (L.map ndAV),.str (bs d),.sl []]:=fun H ids => .cons (.sl _) (.cons (.str _) (.cons .nilsl .nil))
 have hpl:=wplays (p:=p) hin
 have main:∀ (e:Nat→AV) (H:Heap),e 7 = .sl (L.map ndAV)→e 8 = .str (bs d)→e 9 = .sl (ivs p) →
   T Tryz.prog 74 0 (.seq (.rg false Zbu) (.seq (.rg false Zbv) (.seq (.seq (.rg false Zbt) (.cond (.t 41) (.rg false Zg6) .skip)) (.seq (.seq (.rg false Zbq) (.cond (.t 43) (.seq (.rg false Zdr) .ret) .skip)) (.seq (.seq (.rg false Zc7) (.cond (.t 58) (.seq (.rg false Zf4) .ret) .skip)) (.seq (.rg false Zfr) .ret)))))) ⟨e,H⟩ (retQ [.tmp 6] (.bool true)):=fun e H k7 k8 k9=>by
  refine T_W ?_
  by_cases he:eC L d=0
  ·obtain ⟨hnd,hdo⟩:=Xia hin he
   obtain ⟨_,hg,hgn,hn1,hn5⟩:=((Z5m hin).resolve_left (fun h=>h.1 he)).2
   have hrp:=rplan (d:=d) (p:=p) hnd (by omega)
   rw [he] at hchk
   cases hB:plnB (toGm L d) p with
   | false =>
    have hrc:lC L d p=1:=by unfold lC; rw [if_pos he,hB,if_neg (by decide)]
    rw [hrc,if_neg (by decide)] at hpl
    rw [hB] at hrp
    simp only [go_sem,Zbu,k7,k8,k9]
    refine Zaa hpl (by simp only [go_sem]) ?_
    simp only [go_sem,Zbv,k7,k8]
    refine Zl1 (ids := []) hchk (bvn _ _) (.inl rfl) (fun b hb=>by simp at hb) ?_
    simp only [go_sem,Zbt,k7,k9]
    refine Zaa hrp (by simp only [go_sem]) ?_
    simp only [go_sem,Zg6,Zbq,Zdr]
    refine Zaa wlives (by simp only [go_sem]) ?_
    simp only [go_sem]
   | true =>
    have hrc:lC L d p=0:=by unfold lC; rw [if_pos he,hB,if_pos rfl]
    rw [hrc,if_pos rfl] at hpl
    rw [hB] at hrp
    have hpo:=Yr2 hB
    cases hlw:lightW L d with
    | false =>
     rw [hlw] at hlt
     obtain ⟨x,eno,hx⟩:∃ (x:AV) (eno:Int),numsR (valP (toGm L d) p) = .tup [x,.int .i64 eno]:=by
      by_cases hN:∀ q,q∈valP (toGm L d) p→NumOk q
      ·exact ⟨_,_,if_pos hN⟩
      ·exact ⟨_,_,if_neg hN⟩
     rw [hx] at hpl
     simp only [go_sem,Zbu,k7,k8,k9]
     refine Zaa hpl (by simp only [go_sem]) ?_
     simp only [go_sem,Zbv,k7,k8]
     refine Zl1 (ids := []) hchk (bvn _ _) (.inl rfl) (fun b hb=>by simp at hb) ?_
     simp only [go_sem,Zbt,k7,k9]
     refine Zaa hrp (by simp only [go_sem]) ?_
     simp only [go_sem,Zbq,Zc7,k7,k8]
     refine Zaa hlt (by simp only [go_sem]) ?_
     simp only [go_sem,Zf4]
     refine Zaa wlives (by simp only [go_sem]) ?_
     simp only [go_sem]
    | true =>
     rw [hlw] at hlt
     have hgl:=Xiw hlw hnd hdo hn5
     have hrb:=Yr6 hg hgl hpo
     have hok:∀ q,q∈valP (toGm L d) p→NumOk q:=fun q hq=>Y0d (hrb q hq) (by omega)
     rw [show numsR (valP (toGm L d) p) = .tup [.sl (ss (valP (toGm L d) p)),.int .i64 0] from if_pos hok] at hpl
     have hrps:=rplays hnd hg hB hn1 hn5 (Yxq hg hgl hpo)
     have hare:=rare hrb (by omega) (by rw [(Zy5 hg hpo).1]; omega) hok
     simp only [go_sem,Zbu,k7,k8,k9]
     refine Zaa hpl (by simp only [go_sem]) ?_
     simp only [go_sem,Zbv,k7,k8]
     refine Zl1 (ids := []) hchk (bvn _ _) (.inl rfl) (fun b hb=>by simp at hb) ?_
     simp only [go_sem,Zbt,k7,k9]
     refine Zaa hrp (by simp only [go_sem]) ?_
     simp only [go_sem,Zbq,Zc7,k7,k8]
     refine Zaa hlt (by simp only [go_sem]) ?_
     simp only [go_sem,Zfr,k7,k8,k9]
     refine Zaa (Xku hdo (by have:=hin.d; omega)) (by simp only [go_sem]) ?_
     simp only [go_sem,k9]
     refine Zaa hrps (by simp only [go_sem,Xj0]) ?_
     simp only [go_sem]
     refine Zaa hare (by simp only [go_sem,rowV]) ?_
     simp only [go_sem]
     refine Zaa wlives (by simp only [go_sem]) ?_
     simp only [go_sem]
  ·have hrc:lC L d p=eC L d:=by unfold lC; rw [if_neg he]
   rw [hrc,if_neg he] at hpl
   simp only [go_sem,Zbu,k7,k8,k9]
   refine Zaa hpl (by simp only [go_sem]) ?_
   simp only [go_sem,Zbv,k7,k8]
   refine Zl1 (ids := []) hchk (bvn _ _) (.inl rfl) (fun b hb=>by simp at hb) ?_
   simp only [go_sem,Zbt,Zbq,Zdr,he]
   refine Zaa wlives (by simp only [go_sem]) ?_
   simp only [go_sem]
 have n12:(if (12:Int)<(Z.length:Int) then 12 else (Z.length:Int))=((min Z.length 12:Nat):Int):=by split <;> omega
 have p12:(0:Int)≤((min Z.length 12:Nat):Int):=by omega
 have l12:min Z.length 12≤(ivs Z).length:=by rw [Za4]; omega
 have ht:(ivs Z).take (min Z.length 12)=ivs p:=by rw [hp]; unfold ivs; rw [← List.map_take]; congr 1; exact List.take_eq_take_iff.2 (by omega)
 refine Za0 Yct (by simp) (Za9 2 rfl ?_)
 unfold Z0g
 simp only [go_sem,Zpd,Zpc]
 refine Zaa hf (by simp only [go_sem]) ?_
 simp only [go_sem]
 refine Zaa hs (by simp only [go_sem]) ?_
 simp only [go_sem,Zo9,Za4,n12,p12,l12,ht,List.drop_zero,Int.toNat_natCast,Nat.zero_le]
 have cl:∀ q:List Int,∀ y,y∈ivs q→y.cells.length=1:=fun q y hy=>by
  obtain ⟨z,_,rfl⟩:=List.mem_map.1 hy
  rfl
 have cm:∀ q:List Int,(ivs q).flatMap AV.cells=ivs q:=fun q=>by
  induction q with
  | nil=>rfl
  | cons a l ih=>show AV.int .i64 a::_=AV.int .i64 a::_; congr 1
 have pl:p.length≤12:=by rw [hp,List.length_take]; omega
 refine ⟨by omega,cl Z,cl p,by omega,?_⟩
 rw [cm]
 refine Zq1 [0] [(7,.sl (L.map ndAV)),(8,.str (bs d)),(9,.sl (ivs p))] ?_ ?_
 ·refine ⟨.inr (by simp only [go_sem]),.inr (by simp only [go_sem]),.inl ?_,trivial⟩
  simp only [go_sem]
  exact Xa7 rfl (by simp [allOf])
 exact main _ _ (by simp only [go_sem]) (by simp only [go_sem]) (by simp only [go_sem])
end GoAbs
