/- Lemmas for the claim (contracts of the functions that it reaches, and what they compute), without conditions. -/
import Derived.Test.YtiapneoakbealaaGreatK35
import Derived.Test.YtiapneoakbealaaGreatProg
import Derived.KernelRfl
set_option linter.unusedVariables false
set_option linter.unusedSimpArgs false
set_option maxRecDepth 10000
set_option maxHeartbeats 2000000
namespace GoAbs
open Go Go.Proofs
theorem Xio (s:ByteArray):∃ l,s=bs l:=⟨s.data.toList,by simp [bs]⟩
theorem Opens.mono {P:Program}{t:TypeId}{S S':List AV→Prop}(h:Opens P t S) (hs:∀ av,S av→S' av):Opens P t S':=fun enc w base spare held fuel cs x hx=>by
 obtain ⟨av,h1,h2⟩:=h enc w base spare held fuel cs x hx
 exact ⟨av,h1,hs av h2⟩
theorem Yuh {P:Program}{f:Nat}{xs:List AV}{vs:Array Value}{w:World}(h:SpecV P f xs (.bool true)) (hr:Reps w noX noPl xs vs):Calls P f vs w fun e w'=>e = .returned (.bool true)∧Go.RowKit.Below w.heap.size w w' :=
 (h.2 noX w vs (fun _ hb=>hb.elim) hr).mono fun e w' he=>by
  obtain ⟨v,rfl,hv,hb⟩:=he
  cases hv
  exact ⟨rfl,hb⟩
theorem Ymm {w:World}{x:AV}{xs:List AV}{v:Value}{l:List Value}(h:Rep w noX noPl x v) (k:Reps w noX noPl xs l.toArray):Reps w noX noPl (x::xs) (v::l).toArray:=by
 refine ⟨by have:=k.1; simp at this ⊢; exact this,fun i y u hy hu=>?_⟩
 cases i with
 | zero=>simp at hy hu; subst hy hu; exact h
 | succ i=>exact k.2 i y u (by simpa using hy) (by simpa using hu)
theorem reps2 {w:World}{x y:AV}{v u:Value}(h:Rep w noX noPl x v) (k:Rep w noX noPl y u):Reps w noX noPl [x,y] #[v,u]:=Ymm h (Ymm (l := []) k ⟨rfl,fun i z t hz=>by simp at hz⟩)
theorem Xai {P:Program}{W:World}{r:Reach}{base:Nat}{t:TypeId}{v:Value}{e:TypeId}(ht:P.underlying t=some (.slice e)) (h:Value.okWide P W r base t v):v.cells = #[v]:=by
 obtain ⟨a,l,c,rfl⟩:=Go.WideShapes.okWide_slice ht h; rfl
theorem Xcq {P:Program}{W:World}{r:Reach}{base:Nat}{t:TypeId}{v:Value}(ht:P.underlying t=some .string) (h:Value.okWide P W r base t v):v.cells = #[v]:=by
 obtain ⟨s,rfl⟩:=Go.WideShapes.okWide_string ht h; rfl
theorem opensNum:Opens Tryz.prog 23 (fun av=>∃ l:List UInt8,av = [.str (bs l)]):=by
 refine Opens.mono (Y11 Tryz.underlying23) ?_
 rintro av ⟨s,rfl,_⟩
 obtain ⟨l,rfl⟩:=Xio s
 exact ⟨l,rfl⟩
theorem opensMove:Opens Tryz.prog 63 (fun av=>∃ m:Mv,av=mvC m):=by
 refine Opens.mono (Ysx (n:=2) Tryz.underlying63 (by kernel_rfl) (Zkn (off:=0) (k:=1) rfl (by kernel_rfl) (by omega) (Yl5 Tryz.underlying3) (Zkn (off:=1) (k:=1) rfl (by kernel_rfl) (by omega) opensNum Ygf))) ?_
 rintro av ⟨a,b,rfl,_,⟨n,rfl,_⟩,c,d,rfl,_,⟨l,rfl⟩,rfl⟩
 exact ⟨(n,l),rfl⟩
theorem rowsOf {α:Type}{f:α→List AV}{n:Nat}:∀ l:List (List AV),(∀ c,c∈l→c.length=n∧∃ s:α,c=f s)→∃ L:List α,l.map AV.agg=L.map fun s=>AV.agg (f s):=by
 intro l
 induction l with
 | nil=>intro _; exact ⟨[],rfl⟩
 | cons c l ih =>
  intro h
  obtain ⟨L,hL⟩:=ih (fun d hd=>h d (by simp [hd]))
  obtain ⟨_,s,hs⟩:=h c (by simp)
  exact ⟨s::L,by rw [List.map_cons,List.map_cons,hL,hs]⟩
theorem opensMoves:Opens Tryz.prog 56 (fun av=>∃ L:List Mv,av = [.sl (L.map mvAV)]):=by
 refine Opens.mono (Ylr (n:=2) Tryz.underlying56 (by kernel_rfl) (by omega) opensMove) ?_
 rintro av ⟨l,rfl,h⟩
 obtain ⟨L,hL⟩:=rowsOf l h
 exact ⟨L,by rw [hL]; rfl⟩
theorem opensNode:Opens Tryz.prog 58 (fun av=>∃ n:Nd,av=ndC n):=by
 refine Opens.mono (Ysx (n:=3) Tryz.underlying58 (by kernel_rfl) (Zkn (off:=0) (k:=1) rfl (by kernel_rfl) (by omega) (Yl5 Tryz.underlying3) (Zkn (off:=1) (k:=1) rfl (by kernel_rfl) (by omega) opensNum
  (Zkn (off:=2) (k:=1) rfl (by kernel_rfl) (by omega) opensMoves Ygf)))) ?_
 rintro av ⟨a,b,rfl,_,⟨n,rfl,_⟩,c,d,rfl,_,⟨l,rfl⟩,e,f,rfl,_,⟨M,rfl⟩,rfl⟩
 exact ⟨⟨n,l,M⟩,rfl⟩
theorem opensNodes:Opens Tryz.prog 22 (fun av=>∃ L:List Nd,av = [.sl (L.map ndAV)]):=by
 refine Opens.mono (Ylr (n:=3) Tryz.underlying22 (by kernel_rfl) (by omega) opensNode) ?_
 rintro av ⟨l,rfl,h⟩
 obtain ⟨L,hL⟩:=rowsOf l h
 exact ⟨L,by rw [hL]; rfl⟩
end GoAbs
namespace GoAbs
open Go Go.Proofs
def Zv7:List IOp := [oI 4 (.mv (.c (.bool false))) 0]
def Zuu:List IOp := [mI 6 0 0,oI 7 (.len (.t 6)) 0,mI 8 1 0,oI 9 (.len (.t 8)) 0,oI 10 (.bin .neq (.t 7) (.t 9)) 0]
def Yeu:List IOp := [oI 4 (.mv (.c (.bool false))) 0]
def Zvj:List IOp := [oI 5 (.mv (cI 0)) 0]
def Zjv:List IOp := [mI 11 5 0,mI 12 0 0,oI 13 (.len (.t 12)) 0,oI 14 (.bin .lss (.t 11) (.t 13)) 0]
def Zk1:List IOp := [mI 17 0 0,mI 18 5 0,xI 19 1 17 18 0,lI 20 19 0,mI 21 1 0,mI 22 5 0,xI 23 1 21 22 0,lI 24 23 0,oI 25 (.bin .neq (.t 20) (.t 24)) 0]
@[go_sem ↓] theorem Z6z : autoK Zk1 = (0, 0) := by kernel_rfl
@[go_sem] theorem Yrs : autoK [mI 17 0 0, mI 18 5 0, xI 19 1 17 18 0, lI 20 19 0, mI 21 1 0, mI 22 5 0, xI 23 1 21 22 0, lI 24 23 0, oI 25 (.bin .neq (.t 20) (.t 24)) 0] = (0, 0) := Z6z
def Ycq:List IOp := [oI 4 (.mv (.c (.bool false))) 0]
def Zvu:List IOp := [mI 15 5 0,oI 16 (.bin .add (.t 15) (cI 1)) 0,mI 5 16 0]
def Zwc:CC := .seq (.seq (.rg false Zjv) (.cond (.t 14) .skip (.exit 0))) (.seq (.block 1 (.seq (.rg true Zk1) (.cond (.t 25) (.seq (.rg false Ycq) .ret) .skip))) (.rg false Zvu))
def Zwg:List IOp := [oI 4 (.mv (.c (.bool true))) 0]
def Z90:CC := .seq (.rg false Zv7) (.seq (.seq (.rg false Zuu) (.cond (.t 10) (.seq (.rg false Yeu) .ret) .skip)) (.seq (.seq (.rg false Zvj) (.block 0 (.loop Zwc))) (.seq (.rg false Zwg) .ret)))
abbrev Yjl:Nat:=56
theorem Yf1:fnOk Tryz.prog 56=some (26,Z90,[.tmp 4]):=by kernel_rfl
end GoAbs
namespace GoAbs
open Go Go.Proofs
def Zb (b:Nat) (q:Rat):Prop:=∃ z:Int,q=z∧z.natAbs<2 ^ b
def Zq (q:Rat):Prop:=∃ z:Int,q=z
theorem Zb.q {b:Nat}{q:Rat}(h:Zb b q):Zq q:=⟨h.choose,h.choose_spec.1⟩
theorem Zq.add {a b:Rat}(h:Zq a) (k:Zq b):Zq (a+b):=by
 obtain ⟨x,rfl⟩:=h; obtain ⟨y,rfl⟩:=k
 exact ⟨x+y,by simp⟩
theorem Zq.mul {a b:Rat}(h:Zq a) (k:Zq b):Zq (a*b):=by
 obtain ⟨x,rfl⟩:=h; obtain ⟨y,rfl⟩:=k
 exact ⟨x*y,by simp⟩
theorem Zq.sub {a b:Rat}(h:Zq a) (k:Zq b):Zq (a - b):=by
 obtain ⟨x,rfl⟩:=h; obtain ⟨y,rfl⟩:=k
 exact ⟨x - y,by simp⟩
theorem Zq.sum {R:List Nat}{f:Nat→Rat}(h:∀ i,i∈R→Zq (f i)):Zq (sumL R f):=by
 induction R with
 | nil=>exact ⟨0,rfl⟩
 | cons a R ih=>rw [Zar]; exact (h a List.mem_cons_self).add (ih fun i hi=>h i (List.mem_cons_of_mem _ hi))
theorem Zb.mono {a b:Nat}{q:Rat}(h:Zb a q) (hab:a≤b):Zb b q:=by
 obtain ⟨z,h1,h2⟩:=h
 exact ⟨z,h1,Nat.lt_of_lt_of_le h2 (Nat.pow_le_pow_right (by omega) hab)⟩
theorem Zb.mul {a b:Nat}{p q:Rat}(h:Zb a p) (k:Zb b q):Zb (a+b) (p*q):=by
 obtain ⟨x,rfl,h2⟩:=h; obtain ⟨y,rfl,k2⟩:=k
 exact ⟨x*y,by simp,by rw [Int.natAbs_mul,Nat.pow_add]; exact Nat.mul_lt_mul'' h2 k2⟩
theorem Zb.sub {a:Nat}{p q:Rat}(h:Zb a p) (k:Zb a q):Zb (a+1) (p - q):=by
 obtain ⟨x,rfl,h2⟩:=h; obtain ⟨y,rfl,k2⟩:=k
 exact ⟨x - y,by simp,by rw [Nat.pow_succ]; omega⟩
def fbit:Nat→Nat→Nat
 | 0,_=>1
 | k+1,b=>b+fbit k (2*b+1)
theorem Y0j:∀ {k c b:Nat}{A:Nat→Nat→Rat}{r x:Nat→Rat},(∀ i j,c≤i→i<c+k→c≤j→j<c+k→Zb b (A i j))→(∀ i,c≤i→i<c+k→Zb b (r i)) →
  (∀ i,c≤i→i<c+k→(∀ j,c≤j→j<c+k→j≠i→A i j≤0)∧0<sumL (List.range' c k) (A i))→(∀ i,c≤i→i<c+k→sumL (List.range' c k) (fun j=>x j*A i j)=r i) →
  ∃ D:Rat,0<D∧Zb (fbit k b) D∧∀ j,c≤j→j<c+k→Zq (x j*D)
 | 0,c,b,A,r,x,_,_,_,_=>⟨1,by decide,⟨1,rfl,by unfold fbit; decide⟩,fun j h1 h2=>by omega⟩
 | k+1,c,b,A,r,x,hA,hr,hD,hx=>by
  obtain ⟨a1,a2⟩:=hD c (Nat.le_refl _) (by omega)
  have hxc:=hx c (Nat.le_refl _) (by omega)
  rw [List.range'_succ,Zar] at a2 hxc
  have hp:0<A c c:=by
   have:=Ycp (R:=List.range' (c+1) k) (f:=A c) (fun j hj=>by have hj':=List.mem_range'_1.1 hj; exact a1 j (by omega) (by omega) (by omega))
   grind
  obtain ⟨D,d1,d2,d3⟩:=Y0j (k:=k) (c:=c+1) (b:=2*b+1) (A:=fun i j=>A i j*A c c - A i c*A c j) (r:=fun i=>r i*A c c - A i c*r c) (x:=x)
   (fun i j h1 h2 h3 h4=>by
    have x1:=(hA i j (by omega) (by omega) (by omega) (by omega)).mul (hA c c (by omega) (by omega) (by omega) (by omega))
    have x2:=(hA i c (by omega) (by omega) (by omega) (by omega)).mul (hA c j (by omega) (by omega) (by omega) (by omega))
    exact (x1.sub x2).mono (by omega))
   (fun i h1 h2=>by
    have x1:=(hr i (by omega) (by omega)).mul (hA c c (by omega) (by omega) (by omega) (by omega))
    have x2:=(hA i c (by omega) (by omega) (by omega) (by omega)).mul (hr c (by omega) (by omega))
    exact (x1.sub x2).mono (by omega))
   (fun i h1 h2=>by
    obtain ⟨b1,b2⟩:=hD i (by omega) (by omega)
    have hic:=b1 c (Nat.le_refl _) (by omega) (by omega)
    refine ⟨fun j h3 h4 hji=>?_,?_⟩
    ·have x1:=b1 j (by omega) (by omega) hji
     have x2:=a1 j (by omega) (by omega) (by omega)
     have x3:=Rat.mul_nonneg (show 0 ≤ -A i j by grind) (Rat.le_of_lt hp)
     have x4:=Rat.mul_nonneg (show 0 ≤ -A i c by grind) (show 0 ≤ -A c j by grind)
     grind
    ·rw [List.range'_succ,Zar] at b2
     have e:sumL (List.range' (c+1) k) (fun j=>A i j*A c c - A i c*A c j)=A c c*sumL (List.range' (c+1) k) (A i)+(-(A i c))*sumL (List.range' (c+1) k) (A c):=by
      rw [← Zf2, ← Zf2, ← Z31]
      exact Za5 (fun j _=>by grind)
     rw [e]
     have x1:=Rat.mul_pos hp b2
     have x2:=Rat.mul_nonneg (show 0 ≤ -A i c by grind) (Rat.le_of_lt a2)
     generalize sumL (List.range' (c+1) k) (A i)=s at *
     generalize sumL (List.range' (c+1) k) (A c)=t at *
     grind)
   (fun i h1 h2=>by
    have hxi:=hx i (by omega) (by omega)
    rw [List.range'_succ,Zar] at hxi
    have e:sumL (List.range' (c+1) k) (fun j=>x j*(A i j*A c c - A i c*A c j))=A c c*sumL (List.range' (c+1) k) (fun j=>x j*A i j)+(-(A i c))*sumL (List.range' (c+1) k) (fun j=>x j*A c j):=by
     rw [← Zf2, ← Zf2, ← Z31]
     exact Za5 (fun j _=>by grind)
    rw [e, ← hxi, ← hxc]
    grind)
  refine ⟨A c c*D,Rat.mul_pos hp d1,?_,fun j h1 h2=>?_⟩
  ·exact (hA c c (by omega) (by omega) (by omega) (by omega)).mul d2
  ·by_cases hj:j=c
   ·subst hj
    have e:x j*(A j j*D)=D*r j - sumL (List.range' (j+1) k) (fun i=>x i*D*A j i):=by
     have e2:sumL (List.range' (j+1) k) (fun i=>x i*D*A j i)=D*sumL (List.range' (j+1) k) (fun i=>x i*A j i):=by
      rw [← Zf2]; exact Za5 (fun i _=>by grind)
     rw [e2, ← hxc]; grind
    rw [e]
    refine (d2.q.mul (hr j (by omega) (by omega)).q).sub (Zq.sum fun i hi=>?_)
    have hi':=List.mem_range'_1.1 hi
    exact (d3 i (by omega) (by omega)).mul (hA j i (by omega) (by omega) (by omega) (by omega)).q
   ·have h3:=(d3 j (by omega) (by omega)).mul (hA c c (by omega) (by omega) (by omega) (by omega)).q
    rw [show x j*(A c c*D)=x j*D*A c c by grind]
    exact h3
end GoAbs
namespace GoAbs
open Go Go.Proofs
def Lt9 (q:Rat):Prop:=q.den≤9∧q.num.natAbs<10000
structure GmL (g:Gm):Prop where
 rew:∀ q,q∈g.rew→Lt9 q
 d:Lt9 g.d
 odds:∀ x,x∈g.nodes→x.kind=3→∀ q,q∈x.odds→Lt9 q
 n:g.nodes.length≤5
theorem Y88 {n:Nat}(h:n≤9) (h0:0<n):n∣2520:=by
 have:∀ m,m<10→0<m→m∣2520:=by decide
 exact this n (by omega) h0
theorem Yeg (q:Rat):q*q.den=q.num:=by
 have h0:(q.den:Rat)≠0:=by
  intro h
  have h1:q.den=0:=by exact_mod_cast h
  exact q.den_nz h1
 have h:=Rat.num_divInt_den q
 rw [Rat.divInt_eq_div] at h
 have e:((q.den:Int):Rat)=(q.den:Rat):=by norm_cast
 rw [e] at h
 generalize (q.den:Rat)=b at *
 generalize (q.num:Rat)=a at *
 grind
theorem Lt9.z {q:Rat}(h:Lt9 q):Zb 26 (q*2520):=by
 obtain ⟨k,hk⟩:=Y88 h.1 q.den_pos
 have e:(2520:Rat)=q.den*k:=by exact_mod_cast hk
 refine ⟨q.num*k,?_,?_⟩
 ·rw [e, ← Rat.mul_assoc,Yeg]; norm_cast
 ·rw [Int.natAbs_mul,Int.natAbs_natCast]
  have h1:k≤2520:=by
   have:=q.den_pos
   have:1*k≤q.den*k:=Nat.mul_le_mul_right _ (by omega)
   omega
  have:=Nat.mul_le_mul (show q.num.natAbs≤9999 by have:=h.2; omega) h1
  omega
theorem Zb.add {a:Nat}{p q:Rat}(h:Zb a p) (k:Zb a q):Zb (a+1) (p+q):=by
 obtain ⟨x,rfl,h2⟩:=h; obtain ⟨y,rfl,k2⟩:=k
 exact ⟨x+y,by simp,by rw [Nat.pow_succ]; omega⟩
abbrev N2:Rat:=2520*2520
def Ze (c:Nat) (M:RM):Prop:=∀ i j,Zb c (mget M i j*N2)
theorem Ze.add {n c:Nat}{M:RM}(h:Ze c M) (hW:Wid n M) {i j:Nat}{x:Rat}(hi:i<M.length) (hj:j<n) (hx:Zb c (x*N2)):Ze (c+1) (addAt M i j x):=fun a b=>by
 rw [Z56 hW hi hj]
 split
 ·rw [Rat.add_mul]; exact (h a b).add hx
 ·rw [Rat.add_zero]; exact (h a b).mono (by omega)
theorem Lt9.neg {q:Rat}(h:Lt9 q):Zb 38 (-q*N2):=by
 obtain ⟨z,h1,h2⟩:=h.z
 refine ⟨-z*2520,?_,?_⟩
 ·rw [show -q*N2 = -(q*2520)*2520 by grind,h1]; simp
 ·rw [Int.natAbs_mul,Int.natAbs_neg,show ((2520:Int)).natAbs=2520 from rfl]
  have:=Nat.mul_lt_mul_of_pos_right h2 (show 0<2520 by decide)
  omega
theorem Lt9.neg2 {p q:Rat}(h:Lt9 p) (k:Lt9 q):Zb 52 (-(p*q)*N2):=by
 obtain ⟨z,h1,h2⟩:=h.z
 obtain ⟨y,k1,k2⟩:=k.z
 refine ⟨-(z*y),?_,?_⟩
 ·rw [show -(p*q)*N2 = -((p*2520)*(q*2520)) by grind,h1,k1]; simp
 ·rw [Int.natAbs_neg,Int.natAbs_mul,show 52=26+26 from rfl,Nat.pow_add]
  exact Nat.mul_lt_mul'' h2 k2
theorem Yhh {n i c:Nat}{d:Rat}{odds:List Rat}{to:List Nat}(hd:Lt9 d) (hi:i<n) (ho:∀ t,t<to.length→Lt9 (rget odds t)) (hto:∀ x,x∈to→x<n) (hc:52≤c):∀ {k:Nat}{M:RM},k≤to.length→M.length=n→Wid n M→Ze c M →
  (addOdds d i odds to k M).length=n∧Wid n (addOdds d i odds to k M)∧Ze (c+k) (addOdds d i odds to k M)
 | 0,M,_,hl,hw,h=>⟨hl,hw,h⟩
 | k+1,M,hk,hl,hw,h=>by
  obtain ⟨h1,h2,h3⟩:=Yhh (odds:=odds) (to:=to) hd hi ho hto hc (k:=k) (M:=M) (by omega) hl hw h
  unfold addOdds
  exact ⟨by rw [Zdl,h1],h2.addAt,h3.add h2 (by rw [h1]; exact hi) (hto _ (Zbl (by omega))) ((hd.neg2 (ho k (by omega))).mono (by omega))⟩
theorem Ytq {g:Gm}(hg:GmP g) (hl:GmL g) {p:List Int}(hp:POk g p):∀ {k:Nat},k≤g.nodes.length→(planM g p k).length=g.nodes.length∧Wid g.nodes.length (planM g p k)∧Ze (52+7*k) (planM g p k)
 | 0,_=>by
  unfold planM
  refine ⟨List.length_replicate,fun r hr=>by rw [(List.mem_replicate.1 hr).2,List.length_replicate],fun i j=>?_⟩
  have h0:mget (List.replicate g.nodes.length (List.replicate g.nodes.length (0:Rat))) i j=0:=by
   unfold mget rget
   rw [List.getD_eq_getElem?_getD,List.getD_eq_getElem?_getD,List.getElem?_replicate]
   split
   ·rw [Option.getD_some,List.getElem?_replicate]; split <;> rfl
   ·simp
  rw [h0]
  exact ⟨0,by rw [Rat.zero_mul]; rfl,by decide⟩
 | k+1,hk=>by
  obtain ⟨h1,h2,h3⟩:=Ytq hg hl hp (k:=k) (by omega)
  have hkn:k<g.nodes.length:=by omega
  have hx:=Zb4 hkn
  have hok:=hg.ok.node _ hx
  have hlt:=hp.lt hkn
  have hod:=hl.odds _ hx
  unfold planM nodeM
  generalize nodeAt g k=x at *
  have a1:=h3.add (i:=k) (j:=k) (x:=1) h2 (by rw [h1]; exact hkn) hkn (Zb.mono (a:=23) ⟨6350400,by decide+kernel,by decide⟩ (by omega))
  have a2:(addAt (planM g p k) k k 1).length=g.nodes.length:=by rw [Zdl,h1]
  have a3:Wid g.nodes.length (addAt (planM g p k) k k 1):=h2.addAt
  split
  ·rename_i h3
   have ho:=(hok.odds h3).1
   obtain ⟨b1,b2,b3⟩:=Yhh (odds:=x.odds) (to:=x.to) hl.d hkn (fun t ht=>hod h3 _ (List.mem_of_getElem? (Zai (by omega)))) hok.lt (by omega) (Nat.le_refl _) a2 a3 a1
   refine ⟨b1,b2,fun i j=>(b3 i j).mono ?_⟩
   have:=hok.len
   omega
  ·rename_i h3
   refine ⟨by rw [Zdl,a2],a3.addAt,fun i j=>((a1.add a3 (by rw [a2]; exact hkn) (hok.lt _ (Zbl (hlt h3))) (hl.d.neg.mono (by omega))) i j).mono (by omega)⟩
theorem Y89 {q D:Rat}{b c:Nat}(h0:0<D) (hD:Zb b D) (hz:Zq (q*D)) (h1:q≤2 ^ c) (h2 : -(2 ^ c)≤q):Qb (b+c+1) q:=by
 obtain ⟨e,rfl,he⟩:=hD
 obtain ⟨z,hz⟩:=hz
 have e0:0<e:=by exact_mod_cast h0
 have hq:q=Rat.divInt z e:=by
  rw [Rat.divInt_eq_div]
  have:(e:Rat)≠0:=by grind
  rw [← hz]; grind
 obtain ⟨n1,n2⟩:=Zkx (n:=z) (d:=e) (by omega)
 rw [← hq] at n1 n2
 have hzz:z.natAbs≤2 ^ c*e.natAbs:=by
  have x1:=Rat.mul_le_mul_of_nonneg_right h1 (Rat.le_of_lt h0)
  have x2:=Rat.mul_le_mul_of_nonneg_right h2 (Rat.le_of_lt h0)
  rw [hz] at x1 x2
  have e1:(2:Rat) ^ c*(e:Rat)=(((2 ^ c:Nat)*e:Int):Rat):=by simp
  have e2 : -((2:Rat) ^ c)*(e:Rat)=((-((2 ^ c:Nat)*e):Int):Rat):=by simp [Rat.neg_mul]
  rw [e1] at x1
  rw [e2] at x2
  have y1:=Rat.intCast_le_intCast.1 x1
  have y2:=Rat.intCast_le_intCast.1 x2
  have e3:((2 ^ c*e.natAbs:Nat):Int)=((2 ^ c:Nat):Int)*e:=by rw [Int.natCast_mul]; congr 1; omega
  generalize ((2 ^ c:Nat):Int)*e=w at *
  omega
 have hm:2 ^ c*e.natAbs<2 ^ c*2 ^ b:=Nat.mul_lt_mul_of_pos_left he (Nat.two_pow_pos _)
 have hp:2 ^ c*2 ^ b=2 ^ (c+b):=(Nat.pow_add ..).symm
 have hc:=Nat.two_pow_pos c
 refine ⟨?_,?_⟩
 ·rw [show b+c+1=c+b+1 by omega,Nat.pow_succ]; omega
 ·have:2 ^ b≤2 ^ (b+c+1):=Nat.pow_le_pow_right (by omega) (by omega)
  omega
theorem frac9 {d:Rat}(h:Lt9 d) (d1:d<1):d*9≤8:=by
 have h0:=d.den_pos
 have h1:=Yeg d
 have hd:(0:Rat)<d.den:=by exact_mod_cast h0
 have h2:d*d.den<d.den:=by
  have:=Rat.mul_pos (show 0<1 - d by grind) hd
  grind
 rw [h1] at h2
 have h3:d.num<d.den:=by exact_mod_cast h2
 have h4:d.num*9≤8*d.den:=by have:=h.1; omega
 have h5:(d.num:Rat)*9≤8*(d.den:Rat):=by exact_mod_cast h4
 rw [← h1] at h5
 rcases (Rat.le_total:d*9≤8∨8≤d*9) with h6 | h6
 ·exact h6
 ·by_cases he:d*9=8
  ·rw [he]; grind
  ·have:=Rat.mul_pos (show 0<d*9 - 8 by grind) hd
   grind
theorem Lt9.abs {q:Rat}(h:Lt9 q):q≤10000 ∧ -10000≤q:=by
 have h0:=q.den_pos
 have h1:=Yeg q
 have hd:(1:Rat)≤q.den:=by exact_mod_cast h0
 have n1:(q.num:Rat)≤((10000:Int):Rat):=by have:=h.2; exact Rat.intCast_le_intCast.2 (show q.num≤10000 by omega)
 have n2:((-10000:Int):Rat)≤(q.num:Rat):=by have:=h.2; exact Rat.intCast_le_intCast.2 (show -10000≤q.num by omega)
 rw [show ((10000:Int):Rat)=10000 from rfl] at n1
 rw [show ((-10000:Int):Rat) = -10000 from rfl] at n2
 rw [← h1] at n1 n2
 constructor
 ·rcases (Rat.le_total:q≤10000∨10000≤q) with h6 | h6
  ·exact h6
  ·have:=Rat.mul_nonneg (show 0≤q by grind) (show 0≤(q.den:Rat) - 1 by grind)
   grind
 ·rcases (Rat.le_total : -10000≤q∨q ≤ -10000) with h6 | h6
  ·exact h6
  ·have:=Rat.mul_nonneg (show 0 ≤ -q by grind) (show 0≤(q.den:Rat) - 1 by grind)
   grind
theorem Yhr {odds:List Rat}{to:List Nat}{n:Nat}{c:Rat}:∀ {k:Nat},k≤to.length→(∀ x,x∈to→x<n)→dotW odds (List.replicate n c) to k=c*sumO odds k
 | 0,_,_=>by simp only [dotW,sumO]; grind
 | k+1,hk,h=>by
  simp only [dotW,sumO]
  rw [Yhr (by omega) h,Zgr (h _ (Zbl (by omega)))]
  grind
theorem Yac {g:Gm}(hg:GmP g) {p:List Int}(hp:POk g p) {i:Nat}(hi:i<g.nodes.length) {c:Rat}:worthP (nodeAt g i) (pget p i) (List.replicate g.nodes.length c)=c:=by
 have hx:=Zb4 hi
 have hok:=hg.ok.node _ hx
 have hlt:=hp.lt hi
 have hod:=hg.odds _ hx
 unfold worthP
 split
 ·rename_i h3
  rw [Yhr (Nat.le_refl _) hok.lt,(hod h3).2]; grind
 ·rename_i h3
  exact Zgr (hok.lt _ (Zbl (hlt h3)))
theorem Ywh {g:Gm}(hg:GmP g) (hl:GmL g) {p:List Int}(hp:POk g p) {v:List Rat}(hv:PVal g p v) {i:Nat}(hi:i<g.nodes.length):rget v i≤100000 ∧ -100000≤rget v i:=by
 have hs:=Yq3 hg hp
 have h9:=frac9 hl.d hg.d1
 have d0:=hg.d0
 have hr:=fun j (hj:j<g.nodes.length)=>(hl.rew _ (List.mem_of_getElem? (Zai (r:=g.rew) (j:=j) (by rw [hg.ok.rew]; exact hj)))).abs
 constructor
 ·have:=hs.le hg.d1 (u:=v) (v:=List.replicate g.nodes.length 100000) (fun j hj=>by rw [← hv.2 j hj]; grind) (fun j hj=>by
   rw [Zgr hj]; unfold planV; rw [Yac hg hp hj]; have:=hr j hj; grind) i hi
  rwa [Zgr hi] at this
 ·have:=hs.le hg.d1 (u:=List.replicate g.nodes.length (-100000)) (v:=v) (fun j hj=>by
   rw [Zgr hj]; unfold planV; rw [Yac hg hp hj]; have:=hr j hj; grind) (fun j hj=>by rw [← hv.2 j hj]; grind) i hi
  rwa [Zgr hi] at this
theorem Yq0 {g:Gm}(hg:GmP g) (hl:GmL g) {p:List Int}(hp:POk g p):Rb 4000 (valP g p):=fun q hq=>by
 obtain ⟨i,hi,rfl⟩:∃ i,i<g.nodes.length∧q=rget (valP g p) i:=by
  obtain ⟨i,hi⟩:=List.getElem?_of_mem hq
  have hlt:=(List.getElem?_eq_some_iff.1 hi).1
  have:=Zai hlt
  rw [hi] at this
  exact ⟨i,by rw [(Yje hg hp).1] at hlt; exact hlt,by simpa using this⟩
 obtain ⟨h1,h2⟩:=Ybh hg hp (Nat.le_refl g.nodes.length)
 obtain ⟨_,_,_,h3,h4⟩:=Ydc h1.len h1.wid hg.ok.rew (Ybm hg hp)
 have hD:=Ybm hg hp
 obtain ⟨_,_,hz⟩:=Ytq hg hl hp (Nat.le_refl g.nodes.length)
 have hn:=hl.n
 have hpos:(0:Rat)<N2:=by decide+kernel
 obtain ⟨D,d1,d2,d3⟩:=Y0j (k:=g.nodes.length) (c:=0) (b:=90) (A:=fun i j=>mget (planM g p g.nodes.length) i j*N2) (r:=fun i=>rget g.rew i*N2) (x:=rget (valP g p))
  (fun i j _ _ _ _=>(hz i j).mono (by omega))
  (fun i _ hi=>by
   have:=(hl.rew _ (List.mem_of_getElem? (Zai (r:=g.rew) (j:=i) (by rw [hg.ok.rew]; omega)))).z
   have h2:Zb 12 2520:=⟨2520,rfl,by decide⟩
   have h3:=this.mul h2
   rw [show rget g.rew i*N2=rget g.rew i*2520*2520 by grind]
   exact h3.mono (by omega))
  (fun i h0 hi=>by
   obtain ⟨a,b⟩:=hD i h0 (by omega)
   refine ⟨fun j hj hjn hji=>?_,?_⟩
   ·have:=Rat.mul_nonneg (show 0 ≤ -mget (planM g p g.nodes.length) i j by have:=a j hj (by omega) hji; grind) (Rat.le_of_lt hpos)
    grind
   ·rw [Za5 (g:=fun j=>N2*mget (planM g p g.nodes.length) i j) (fun j _=>by grind),Zf2]
    refine Rat.mul_pos hpos ?_
    rw [List.range'_eq_map_range,Ybl] at b ⊢
    rw [Za5 (g:=fun j=>mget (planM g p g.nodes.length) i (0+j)) (fun j _=>by rw [show 0+1+j - 1=0+j by omega])] at b
    exact b)
  (fun i _ hi=>by
   have:=h4 i (by omega)
   rw [Za5 (g:=fun j=>N2*(rget (valP g p) j*mget (planM g p g.nodes.length) i j)) (fun j _=>by grind),Zf2,List.range'_eq_map_range,Ybl]
   rw [Za5 (g:=fun j=>rget (solvR g.nodes.length (planM g p g.nodes.length) g.rew) j*mget (planM g p g.nodes.length) i j) (fun j _=>by rw [show 0+j=j by omega]; rfl),this]
   grind)
 have ha:=Ywh hg hl hp (Yje hg hp) hi
 have hb:fbit g.nodes.length 90≤3000:=by
  have:∀ n,n≤5→fbit n 90≤3000:=fun n hn=>by
   have:n=0∨n=1∨n=2∨n=3∨n=4∨n=5:=by omega
   rcases this with rfl | rfl | rfl | rfl | rfl | rfl <;> decide
  exact this _ hn
 have e17:(2:Rat) ^ 17=131072:=by decide+kernel
 exact (Y89 (c:=17) d1 d2 (d3 i (by omega) (by omega)) (by rw [e17]; grind) (by rw [e17]; grind)).mono (by omega)
end GoAbs
namespace GoAbs
open Go Go.Proofs
set_option maxHeartbeats 4000000
def lightM (l:List Mv):Bool:=l.all fun m=>decide (m.2.length≤3)
def lightN (n:Nd):Bool:=decide (n.rew.length≤3) && lightM n.mv
def lightW (L:List Nd) (d:List UInt8):Bool:=decide (d.length≤3) && L.all lightN
theorem Y3t {ls:List AV}{L:List Nd}{n:Nd}{b:Bool}{i:Nat}(hls:ls=L.map ndAV) (hll:L.length≤1000000) (hi:L[i]? = some n) (hml:n.mv.length≤7) {K:Ex→St→Prop}
  (hK:∀ e:Nat→AV,e 0 = .sl ls→e 5 = .bool (b && lightM n.mv)→e 6 = .int .i64 (i:Int)→K (.exit 2) ⟨e,[]⟩) :
  T Tryz.prog 52 0 (.loop Zi1) ⟨envL [(0,.sl ls),(5,.bool b),(6,.int .i64 (i:Int)),(7,.int .i64 0)],[]⟩ K:=by
 obtain ⟨ms,hms⟩:∃ ms,ms=n.mv.map mvAV:=⟨_,rfl⟩
 have hmsl:ms.length=n.mv.length:=by rw [hms,List.length_map]
 have hil:=(List.getElem?_eq_some_iff.1 hi).1
 have hlsl:ls.length=L.length:=by rw [hls,List.length_map]
 have hget:ls[i]? = some (.agg [.int .i64 n.kind,.str (bs n.rew),.sl ms]):=by rw [hls,List.getElem?_map,hi,hms]; rfl
 refine Zae (fun k:Nat=>⟨envL [(0,.sl ls),(5,.bool (b && lightM (n.mv.take k))),(6,.int .i64 (i:Int)),(7,.int .i64 (k:Int))],[]⟩)
  (fun k=>k≤n.mv.length) (fun k=>n.mv.length - k) 0 (by omega) (Zab _ (by simp only [go_sem]; simp [lightM])) (fun k hk N hN=>?_)
 unfold Zi1
 have p0:(0:Int)≤(i:Int):=by omega
 have p1:(i:Int)<(L.length:Int):=by omega
 by_cases hkn:k<n.mv.length
 ·obtain ⟨m,hmi⟩:∃ m,n.mv[k]? = some m:=⟨_,List.getElem?_eq_getElem hkn⟩
  have tk:lightM (n.mv.take (k+1))=(lightM (n.mv.take k) && decide (m.2.length≤3)):=by rw [List.take_add_one,hmi]; unfold lightM; simp
  have hmsi:ms[k]? = some (.agg [.int .i64 m.1,.str (bs m.2)]):=by rw [hms,List.getElem?_map,hmi]; rfl
  have q0:(0:Int)≤(k:Int):=by omega
  have q1:(k:Int)<(n.mv.length:Int):=by omega
  have e1:IntKind.i64.wrap ((k:Int)+1)=((k+1:Nat):Int):=by rw [Zac (by omega) (by omega)]; omega
  generalize lightM (n.mv.take k)=v at *
  have fin:∀ (x:Bool) (e:Nat→AV),x=(b && lightM (n.mv.take (k+1)))→Has e [(0,.sl ls),(5,.bool x),(6,.int .i64 (i:Int)),(7,.int .i64 ((k+1:Nat):Int))]→N ⟨e,[]⟩:=fun x e hx he=>by
   refine hN (k+1) _ (by omega) (by omega) (Zab _ ?_)
   rw [← hx]; exact he
  cases hbv:(b && v) with
  | false =>
   simp only [go_sem,Zf4,Zi6,Zjb,p0,p1,q0,q1,hlsl,hget,hmsl,e1]
   exact fin false _ (by rw [tk, ← Bool.and_assoc,hbv]; rfl) (by simp only [go_sem])
  | true =>
   by_cases a:(m.2.length:Int)≤3
   ·simp only [go_sem,Zf4,Zi6,Zjb,p0,p1,q0,q1,hlsl,hget,hmsl,hmsi,Zal,a,e1]
    exact fin true _ (by rw [tk, ← Bool.and_assoc,hbv,decide_eq_true (show m.2.length≤3 by omega)]; rfl) (by simp only [go_sem])
   ·simp only [go_sem,Zf4,Zi6,Zjb,p0,p1,q0,q1,hlsl,hget,hmsl,hmsi,Zal,a,e1]
    exact fin false _ (by rw [tk, ← Bool.and_assoc,hbv,decide_eq_false (show ¬ m.2.length≤3 by omega)]; rfl) (by simp only [go_sem])
 ·have hke:k=n.mv.length:=by omega
  subst hke
  have q1:¬ ((n.mv.length:Nat):Int)<(n.mv.length:Int):=by omega
  rw [List.take_length]
  simp only [go_sem,Zf4,p0,p1,hlsl,hget,hmsl,q1]
  exact hK _ (by simp only [go_sem]) (by simp only [go_sem]) (by simp only [go_sem])
theorem Y33 {ls:List AV}{L:List Nd}{b:Bool}(hls:ls=L.map ndAV) (hll:L.length≤1000000) (hok:∀ n,n∈L→n.rew.length≤23∧n.mv.length≤7∧∀ m,m∈n.mv→m.2.length≤23) {K:Ex→St→Prop}
  (hK:∀ e:Nat→AV,e 5 = .bool (b && L.all lightN)→K (.exit 0) ⟨e,[]⟩) :
  T Tryz.prog 52 0 (.loop Zjh) ⟨envL [(0,.sl ls),(5,.bool b),(6,.int .i64 0)],[]⟩ K:=by
 have hlsl:ls.length=L.length:=by rw [hls,List.length_map]
 refine Zfq (fun i:Nat=>⟨envL [(0,.sl ls),(5,.bool (b && (L.take i).all lightN)),(6,.int .i64 (i:Int))],[]⟩)
  (fun i=>i≤L.length) (fun i=>L.length - i) 0 (by omega) (Zab _ (by simp only [go_sem]; simp)) (fun i hi N hN=>?_)
 unfold Zjh
 by_cases hin:i<L.length
 ·obtain ⟨n,hn⟩:∃ n,L[i]? = some n:=⟨_,List.getElem?_eq_getElem hin⟩
  obtain ⟨o1,o2,o3⟩:=hok n (List.mem_of_getElem? hn)
  have tk:(L.take (i+1)).all lightN=((L.take i).all lightN && (decide (n.rew.length≤3) && lightM n.mv)):=by rw [List.take_add_one,hn]; simp [lightN]
  have hget:ls[i]? = some (.agg [.int .i64 n.kind,.str (bs n.rew),.sl (n.mv.map mvAV)]):=by rw [hls,List.getElem?_map,hn]; rfl
  have q0:(0:Int)≤(i:Int):=by omega
  have q1:(i:Int)<(L.length:Int):=by omega
  have e1:IntKind.i64.wrap ((i:Int)+1)=((i+1:Nat):Int):=by rw [Zac (by omega) (by omega)]; omega
  generalize (L.take i).all lightN=v at *
  have rest:∀ (x:Bool) (e:Nat→AV),x=(b && v && decide (n.rew.length≤3))→Has e [(0,.sl ls),(5,.bool x),(6,.int .i64 (i:Int)),(7,.int .i64 0)] →
    T Tryz.prog 52 0 (.loop Zi1) ⟨e,[]⟩ (blockQ 2 (blockQ 1 (thenQ (goT Tryz.prog 52 0 (.rg false Zhe) (thenQ N K)) (thenQ N K)))):=fun x e hx he=>by
   refine T_le (Zab _ he) (Y3t hls hll hn o2 (fun e k0 k5 k6=>?_))
   show T Tryz.prog 52 0 (.rg false Zhe) _ _
   refine T_W ?_
   simp only [go_sem,Zhe,k6,e1]
   refine hN (i+1) _ (by omega) (by omega) (Zab _ ?_)
   simp only [go_sem,k0,k5]
   rw [tk,hx]; simp [Bool.and_assoc]
  refine Za0 1 rfl ?_
  cases hbv:(b && v) with
  | false =>
   rw [hbv] at rest
   simp only [go_sem,Zfh,Zi2,Zjj,q0,q1,hlsl]
   exact rest false _ rfl (by simp only [go_sem])
  | true =>
   rw [hbv] at rest
   by_cases a:(n.rew.length:Int)≤3
   ·simp only [go_sem,Zfh,Zi2,Zjj,q0,q1,hlsl,hget,Zal,a]
    exact rest true _ (by rw [decide_eq_true (show n.rew.length≤3 by omega)]; rfl) (by simp only [go_sem])
   ·simp only [go_sem,Zfh,Zi2,Zjj,q0,q1,hlsl,hget,Zal,a]
    exact rest false _ (by rw [decide_eq_false (show ¬ n.rew.length≤3 by omega)]; rfl) (by simp only [go_sem])
 ·have hie:i=L.length:=by omega
  subst hie
  have q1:¬ ((L.length:Nat):Int)<(L.length:Int):=by omega
  refine T_W ?_
  rw [List.take_length]
  simp only [go_sem,Zfh,hlsl,q1]
  exact hK _ (by simp only [go_sem])
theorem wlight {L:List Nd}{d:List UInt8}(hll:L.length≤1000000) (hok:∀ n,n∈L→n.rew.length≤23∧n.mv.length≤7∧∀ m,m∈n.mv→m.2.length≤23) :
  SpecV Tryz.prog Yon [.sl (L.map ndAV),.str (bs d)] (.bool (lightW L d)):=by
 obtain ⟨ls,hls⟩:∃ ls,ls=L.map ndAV:=⟨_,rfl⟩
 rw [← hls]
 have main:∀ (b:Bool) (e:Nat→AV),b=decide (d.length≤3)→e 0 = .sl ls→e 5 = .bool b →
   T Tryz.prog 52 0 (.seq (.seq (.rg false Zpx) (.block 0 (.loop Zjh))) (.seq (.rg false Zgt) .ret)) ⟨e,[]⟩ (retQ [.tmp 4] (.bool (lightW L d))):=fun b e hb h0 h5=>by
  refine Zav (Zav (T_W ?_))
  simp only [go_sem,Zpx]
  refine Zaw (Zas [(0,.sl ls),(5,.bool b),(6,.int .i64 0)] (by simp only [go_sem,h0,h5]) (Y33 hls hll hok (fun e k5=>?_)))
  show T Tryz.prog 52 0 (.seq (.rg false Zgt) .ret) _ _
  refine T_W ?_
  simp only [go_sem,Zgt,k5]
  rw [hb]; rfl
 refine Zat Ylb (by simp) (Za0 1 rfl ?_)
 unfold Yhn
 by_cases a:(d.length:Int)≤3
 ·simp only [go_sem,Zqr,Zpy,Zal,a]
  exact main true _ (decide_eq_true (by omega)).symm (by simp only [go_sem]) (by simp only [go_sem])
 ·simp only [go_sem,Zqr,Zpy,Zal,a]
  exact main false _ (decide_eq_false (by omega)).symm (by simp only [go_sem]) (by simp only [go_sem])
end GoAbs
namespace GoAbs
open Go Go.Proofs
def Zly:List IOp := [oI 4 (.mv (.c (.bool false))) 0]
def Zlr:List IOp := [mI 14 0 0,oI 15 (.call 13 [.t 14]) 0,mI 16 1 0,oI 17 (.call 14 [.t 16]) 0,mI 5 15 0,mI 6 17 0]
def Zla:List IOp := [mI 19 5 0,mI 20 6 0,oI 21 (.call 43 [.t 19,.t 20]) 0,mI 18 21 0,eI 22 0 18 0,eI 23 1 18 0,mI 7 22 0,mI 8 23 0]
def Zcu:List IOp := [mI 25 5 0,mI 26 6 0,oI 27 (.call 44 [.t 25,.t 26]) 0,mI 24 27 0,eI 28 0 24 0,eI 29 1 24 0,mI 9 28 0,mI 10 29 0]
def Zct:List IOp := [mI 30 5 0,mI 31 6 0,oI 32 (.call 16 [.t 30,.t 31,.c .nils]) 0,mI 11 32 0]
def Zcs:List IOp := [mI 33 11 0,oI 34 (.bin .neq (.t 33) (cI 0)) 0]
def Zl0:List IOp := [mI 35 7 0,oI 36 (.len (.t 35)) 0,oI 37 (.bin .eql (.t 36) (cI 0)) 0,mI 38 37 0,gI 39 (.mv (.t 8)) 0 38 true,gI 40 (.mv (.t 11)) 0 38 true,gI 41 (.bin .eql (.t 39) (.t 40)) 0 38 true,oI 42 (.pick (.t 38) (.t 41) (.c (.bool false))) 0,mI 43 42 0,gI 44 (.mv (.t 9)) 0 43 true,gI 45 (.len (.t 44)) 0 43 true,gI 46 (.bin .eql (.t 45) (cI 0)) 0 43 true,oI 47 (.pick (.t 43) (.t 46) (.c (.bool false))) 0,mI 48 47 0,gI 49 (.mv (.t 10)) 0 48 true,gI 50 (.mv (.t 11)) 0 48 true,gI 51 (.bin .eql (.t 49) (.t 50)) 0 48 true,oI 52 (.pick (.t 48) (.t 51) (.c (.bool false))) 0,mI 53 52 0,gI 54 (.call 17 []) 0 53 true,oI 55 (.pick (.t 53) (.t 54) (.c (.bool false))) 0,mI 4 55 0]
def Zfd:List IOp := [mI 56 5 0,mI 57 6 0,oI 58 (.call 18 [.t 56,.t 57]) 0,oI 59 (.un .not (.t 58)) 0]
def Zls:List IOp := [oI 60 (.call 17 []) 0,mI 4 60 0]
def Zkk:List IOp := [mI 61 8 0,oI 62 (.bin .neq (.t 61) (cI 0)) 0,mI 63 62 0,gI 64 (.mv (.t 10)) 0 63 false,gI 65 (.bin .neq (.t 64) (cI 0)) 0 63 false,oI 66 (.pick (.t 63) (.c (.bool true)) (.t 65)) 0,mI 67 66 0,gI 68 (.mv (.t 7)) 0 67 false,gI 69 (.len (.t 68)) 0 67 false,gI 70 (.mv (.t 5)) 0 67 false,gI 71 (.len (.t 70)) 0 67 false,gI 72 (.bin .neq (.t 69) (.t 71)) 0 67 false,oI 73 (.pick (.t 67) (.c (.bool true)) (.t 72)) 0,mI 74 73 0,gI 75 (.mv (.t 7)) 0 74 false,gI 76 (.call 24 [.t 75]) 0 74 false,gI 77 (.bin .neq (.t 76) (cI 0)) 0 74 false,oI 78 (.pick (.t 74) (.c (.bool true)) (.t 77)) 0,mI 79 78 0,gI 80 (.mv (.t 5)) 0 79 false,gI 81 (.mv (.t 6)) 0 79 false,gI 82 (.call 21 [.t 81]) 0 79 false,gI 83 (.mv (.t 7)) 0 79 false,gI 84 (.call 27 [.t 83]) 0 79 false,gI 85 (.call 37 [.t 80,.t 82,.t 84]) 0 79 false,gI 86 (.un .not (.t 85)) 0 79 false,oI 87 (.pick (.t 79) (.c (.bool true)) (.t 86)) 0,mI 88 87 0,gI 89 (.call 17 []) 0 88 false,gI 90 (.un .not (.t 89)) 0 88 false,oI 91 (.pick (.t 88) (.c (.bool true)) (.t 90)) 0]
def Z0t:List IOp := [oI 4 (.mv (.c (.bool false))) 0]
def Zke:List IOp := [mI 93 5 0,mI 94 6 0,mI 95 7 0,oI 96 (.call 36 [.t 93,.t 94,.t 95]) 0,mI 92 96 0,eI 97 0 92 0,eI 98 1 92 0,mI 12 97 0,mI 13 98 0]
def Zk3:List IOp := [mI 99 12 0,mI 100 99 0,gI 101 (.mv (.t 13)) 0 100 true,gI 102 (.bin .eql (.t 101) (cI 0)) 0 100 true,oI 103 (.pick (.t 100) (.t 102) (.c (.bool false))) 0,mI 104 103 0,gI 105 (.mv (.t 9)) 0 104 true,gI 106 (.mv (.t 5)) 0 104 true,gI 107 (.mv (.t 7)) 0 104 true,gI 108 (.call 27 [.t 107]) 0 104 true,gI 109 (.call 46 [.t 106,.t 108]) 0 104 true,gI 110 (.call 45 [.t 105,.t 109]) 0 104 true,oI 111 (.pick (.t 104) (.t 110) (.c (.bool false))) 0,mI 4 111 0]
def Zvy:CC := .seq (.rg false Zly) (.seq (.rg false Zlr) (.seq (.rg false Zla) (.seq (.rg false Zcu) (.seq (.seq (.rg false Zct) (.seq (.rg false Zcs) (.cond (.t 34) (.seq (.rg false Zl0) .ret) .skip))) (.seq (.seq (.rg false Zfd) (.cond (.t 59) (.seq (.rg false Zls) .ret) .skip)) (.seq (.seq (.rg false Zkk) (.cond (.t 91) (.seq (.rg false Z0t) .ret) .skip)) (.seq (.rg false Zke) (.seq (.rg false Zk3) .ret))))))))
abbrev Yap:Nat:=11
theorem Z6i:fnOk Tryz.prog 11=some (112,Zvy,[.tmp 4]):=by kernel_rfl
end GoAbs
namespace GoAbs
open Go Go.Proofs
set_option maxHeartbeats 4000000
def strsL (l:List (List UInt8)):List AV:=l.map fun s => .str (bs s)
theorem rsame {l:List (List UInt8)}(hl:l.length≤1000000):SpecV Tryz.prog Yjl [.sl (strsL l),.sl (strsL l)] (.bool true):=by
 have hmx:Tryz.prog.follows .mixedOrders=true:=by kernel_rfl
 have hsl:(strsL l).length=l.length:=by simp [strsL]
 refine Zat Yf1 (by simp) (Za0 1 rfl ?_)
 unfold Z90
 simp only [go_sem,Zv7,Zuu,hsl]
 refine Zav (Zav (T_W ?_))
 simp only [go_sem,Zvj]
 refine Zaw (Zae (fun i:Nat=>⟨envL [(0,.sl (strsL l)),(1,.sl (strsL l)),(5,.int .i64 (i:Int))],[]⟩)
  (fun i=>i≤l.length) (fun i=>l.length - i) 0 (by omega) (Zab _ (by simp only [go_sem]; simp)) (fun i hi N hN=>?_))
 unfold Zwc
 by_cases hin:i<l.length
 ·obtain ⟨s,hs⟩:∃ s,l[i]? = some s:=⟨_,List.getElem?_eq_getElem hin⟩
  have hget:(strsL l)[i]? = some (.str (bs s)):=by simp [strsL,hs]
  have q0:(0:Int)≤(i:Int):=by omega
  have q1:(i:Int)<(l.length:Int):=by omega
  have e1:IntKind.i64.wrap ((i:Int)+1)=((i+1:Nat):Int):=by rw [Zac (by omega) (by omega)]; omega
  simp only [go_sem,Zjv,Zk1,Zvu,q0,q1,hsl,hget,hmx,e1]
  exact hN (i+1) _ (by omega) (by omega) (Zab _ (by simp only [go_sem]))
 ·have hie:i=l.length:=by omega
  subst hie
  have q1:¬ ((l.length:Nat):Int)<(l.length:Int):=by omega
  simp only [go_sem,Zjv,hsl,q1]
  refine T_W ?_
  simp only [go_sem,Zwg]
def L1:List Nd := [⟨1,[49],[(0,[])]⟩]
def d12:List UInt8 := [49,47,50]
theorem Yi6:GIn L1 d12:=by
 refine ⟨.inl (by decide),by decide,fun n hn=>?_⟩
 simp [L1] at hn
 subst hn
 refine ⟨by decide,by decide,fun m hm=>?_⟩
 simp at hm
 subst hm
 decide
theorem Yom:eC L1 d12=0:=by decide+kernel
theorem Yp8:toGm L1 d12=⟨[⟨1,[0],[]⟩],[1],1/2⟩:=by
 unfold toGm L1 d12 toGN oddsQ
 have h1:parseL [49]=some 1:=by decide+kernel
 have h2:parseL [49,47,50]=some (1/2):=by decide+kernel
 simp [h1,h2,hasO]
theorem Xca:valG (toGm L1 d12) = [2]:=by
 rcases Zpp Yi6 with ⟨h,_⟩ | ⟨_,_,hg,_⟩
 ·exact absurd Yom h
 ·symm
  refine Ynw hg (by rw [Yp8]; rfl) (fun i hi=>?_)
  rw [Yp8] at hi ⊢
  have:i=0:=by simpa using hi
  subst this
  decide+kernel
theorem Xcp:rndR (toGm L1 d12) 3 = [7/4]:=by rw [Yp8]; decide+kernel
theorem Y8e {H:Heap}{ids:List Nat}{b:Nat}{k:Int}{s:ByteArray}{X:AV}{M:List AV}(hb:H[b]? = some (.cells [.int .i64 k,.str s,X])) (hi:b∈ids) (hX:BV H ids X (.sl M)):BV H ids (.osl (some 3) b 0 1) (.sl [.agg [.int .i64 k,.str s,.sl M]]):=by
 refine .osl (some 3) b 0 1 _ _ hb hi rfl (fun x hx=>by simp at hx; subst hx; rfl) (by simp [es]) (fun i x j y z hx hy hz=>?_)
 have hi0:i=0:=by
  have:=(List.getElem?_eq_some_iff.1 hx).1
  simp at this; exact this
 subst hi0
 simp at hx
 subst hx
 rw [show 0+(0*es (some 3)+j)=j by simp] at hz
 match j with
 | 0=>simp [AV.cells] at hy hz; subst hy hz; exact .int _ _
 | 1=>simp [AV.cells] at hy hz; subst hy hz; exact .str _
 | 2=>simp [AV.cells] at hy hz; subst hy hz; exact hX
 | j+3=>simp [AV.cells] at hy
theorem Y72 {H:Heap}{ids:List Nat}{b:Nat}{k:Int}{s:ByteArray}(hb:H[b]? = some (.cells [.int .i64 k,.str s])) (hi:b∈ids):BV H ids (.osl (some 2) b 0 1) (.sl [.agg [.int .i64 k,.str s]]):=by
 refine .osl (some 2) b 0 1 _ _ hb hi rfl (fun x hx=>by simp at hx; subst hx; rfl) (by simp [es]) (fun i x j y z hx hy hz=>?_)
 have hi0:i=0:=by
  have:=(List.getElem?_eq_some_iff.1 hx).1
  simp at this; exact this
 subst hi0
 simp at hx
 subst hx
 rw [show 0+(0*es (some 2)+j)=j by simp] at hz
 match j with
 | 0=>simp [AV.cells] at hy hz; subst hy hz; exact .int _ _
 | 1=>simp [AV.cells] at hy hz; subst hy hz; exact .str _
 | j+2=>simp [AV.cells] at hy
theorem Y18 {H:Heap}{ids:List Nat}{b:Nat}{s:ByteArray}(hb:H[b]? = some (.cells [.str s])) (hi:b∈ids):BV H ids (.osl none b 0 1) (.sl [.str s]):=by
 refine .osl none b 0 1 _ _ hb hi rfl (fun x hx=>by simp at hx; subst hx; rfl) (by simp [es]) (fun i x j y z hx hy hz=>?_)
 have hi0:i=0:=by
  have:=(List.getElem?_eq_some_iff.1 hx).1
  simp at this; exact this
 subst hi0
 simp at hx
 subst hx
 match j with
 | 0=>simp [AV.cells,es] at hy hz; subst hy hz; exact .str _
 | j+1=>simp [AV.cells] at hy
theorem wlives:SpecV Tryz.prog Ypw [] (.bool true):=by
 have hv:=wvalue Yi6
 rw [if_pos Yom,Xca,show numsR [2] = .tup [.sl (strsL [[50]]),.int .i64 0] by
  unfold numsR
  rw [if_pos (by decide+kernel)]
  have:numS 2 = [50]:=by decide+kernel
  simp [ss,strsL,this]] at hv
 have hr:=wrounds (r:=3) Yi6 (by omega)
 rw [show rC L1 d12 3=0 by unfold rC; rw [Yom]; rfl,if_pos rfl,show (3:Int).toNat=3 from rfl,Xcp,show numsR [7/4] = .tup [.sl (strsL [[55,47,52]]),.int .i64 0] by
  unfold numsR
  rw [if_pos (by decide+kernel)]
  have:numS (7/4) = [55,47,52]:=by decide+kernel
  simp [ss,strsL,this]] at hr
 refine Zaf Yoc (by simp) ?_
 unfold Yhv
 simp only [go_sem,Z5k,Z3n]
 refine Zio (ids := [0,1]) hv (.cons (Y8e rfl (by simp) (Y72 rfl (by simp))) (.cons (.str _) .nil)) ?_
 simp only [go_sem,Z2i,kill,List.foldl_cons,List.foldl_nil]
 refine Zio (ids := [2,3]) hr (.cons (Y8e rfl (by simp) (Y72 rfl (by simp))) (.cons (.str _) (.cons (.int _ _) .nil))) ?_
 simp only [go_sem,Z4a,kill,List.foldl_cons,List.foldl_nil]
 have s1:=rsame (l := [[50]]) (by decide)
 have s2:=rsame (l := [[55,47,52]]) (by decide)
 refine Zlk (ids := [4]) s1 (.cons (.sl _) (.cons (Y18 rfl (by simp)) .nil)) (.inr (.bool _)) (fun b _=>trivial) ?_
 simp only [go_sem]
 refine Zlk (ids := [5]) s2 (.cons (.sl _) (.cons (Y18 rfl (by simp)) .nil)) (.inr (.bool _)) (fun b _=>trivial) ?_
 simp only [go_sem]
end GoAbs
namespace GoAbs
open Go Go.Proofs
set_option maxHeartbeats 4000000
theorem Yjv {l:List UInt8}{q:Rat}(h:parseL l=some q) (hl:l.length≤3):Lt9 q:=by
 obtain ⟨b1,b2⟩:=Yrl (k:=3) (by omega) h hl
 obtain ⟨h1,h2,h3,h4⟩:=Z6k h
 refine ⟨?_,by omega⟩
 by_cases h47:47∈(signL l).1
 ·obtain ⟨g1,g2⟩:=h3 h47
  have hs:(signL l).1.length≤3:=by
   unfold signL
   split
   ·show l.tail.length≤3
    rw [List.length_tail]; omega
   ·exact hl
  have e:=congrArg List.length (Yeq h47)
  rw [List.length_append,List.length_cons] at e
  have hb:0<(befL (signL l).1).length:=List.length_pos_iff.2 h1.2.1
  have:=Z50 (n:=q.den) (k:=1) (by rw [g2]; omega)
  omega
 ·rw [h4 h47]; decide
theorem Xec {L:List Nd}{d:List UInt8}(hl:lightW L d=true) (hL:∀ n,n∈L→NdG L.length n) (hd:okB d=true) (hn:L.length≤5):GmL (toGm L d):=by
 unfold lightW at hl
 rw [Bool.and_eq_true,decide_eq_true_eq] at hl
 have hln:∀ n,n∈L→n.rew.length≤3∧∀ m,m∈n.mv→m.2.length≤3:=fun n hn=>by
  have:=List.all_eq_true.1 hl.2 n hn
  unfold lightN lightM at this
  rw [Bool.and_eq_true,decide_eq_true_eq,List.all_eq_true] at this
  exact ⟨this.1,fun m hm=>by simpa using this.2 m hm⟩
 refine ⟨fun q hq=>?_,Yjv (okBq hd) hl.1,fun x hx h3 q hq=>?_,by unfold toGm; rw [List.length_map]; exact hn⟩
 ·obtain ⟨n,hn,rfl⟩:=List.mem_map.1 hq
  exact Yjv (hL n hn).rq.1 (hln n hn).1
 ·obtain ⟨n,hn,rfl⟩:=List.mem_map.1 hx
  obtain ⟨m,hm,rfl⟩:=List.mem_map.1 hq
  have hm':=(List.mem_filter.1 hm).1
  obtain ⟨k,hk⟩:=List.getElem?_of_mem hm'
  have hp:=((hL n hn).to k m hk).2.2 h3
  rw [hp]
  exact Yjv hp ((hln n hn).2 m hm')
end GoAbs
namespace GoAbs
open Go Go.Proofs
set_option maxHeartbeats 4000000
theorem Xe8 {L:List Nd}{d:List UInt8}(h:GIn L d) (he:eC L d=0):(∀ n,n∈L→NdG L.length n)∧okB d=true:=by
 unfold eC at he
 split at he
 ·cases he
 ·rename_i h1
  split at he
  ·cases he
  ·rename_i h2
   have h1':(L.all ndVa && okB d)=true:=by simpa using h1
   have h2':gFit L d=true:=by simpa using h2
   rw [Bool.and_eq_true] at h1'
   unfold gFit at h2'
   simp only [Bool.and_eq_true] at h2'
   exact ⟨fun n hn=>Xf9 (List.all_eq_true.1 h1'.1 n hn) (List.all_eq_true.1 h2'.1.2 n hn) (h.ok n hn),h1'.2⟩
theorem Xft {H:Heap}{ids:List Nat}{q:Rat}:BVs H ids (rq q) (rq q)=True:=Ymq
theorem Xid {d:List UInt8}(hd:okB d=true) (hl:d.length≤1000):SpecV Tryz.prog Zxg [.str (bs d)] (.agg (rq ((parseL d).getD 0))):=rof (by omega) (okBq hd)
end GoAbs
namespace GoAbs
open Go Go.Proofs
set_option maxHeartbeats 8000000
theorem txts_len' (M:List (List UInt8)):(txts M).length=M.length:=by simp [txts]
theorem Xfe {ls:List AV}{G:AV}{ec:Int}{M:List (List UInt8)}(hM:M.length≤1000000) (hMl:∀ s,s∈M→s.length≤1000000000) {K:Ex→St→Prop}
  (hK:M.all okB=true→∀ e:Nat→AV,e 0 = .sl ls→e 2 = .sl (txts M)→e 8=G→e 9 = .int .i64 ec→e 10 = .osl (some 4) 0 0 M.length→K (.exit 0) ⟨e,[.cells (qc (M.map toQ))]⟩)
  (hK0:M.all okB=false→∀ e:Nat→AV,∀ H,e 6 = .bool false→e 7 = .int .i64 2→K .ret ⟨e,H⟩) (hG:∀ f,G.gc f=G) :
  T Tryz.prog 68 0 (.loop Zkp) ⟨envL [(0,.sl ls),(2,.sl (txts M)),(8,G),(9,.int .i64 ec),(10,.osl (some 4) 0 0 0),(23,.sl (txts M)),(24,.int .i64 (M.length:Int)),(25,.int .i64 0)],[.cells []]⟩ K:=by
 have hmx:Tryz.prog.follows .mixedOrders=true:=by kernel_rfl
 refine Zae (fun i:Nat=>⟨envL [(0,.sl ls),(2,.sl (txts M)),(8,G),(9,.int .i64 ec),(10,.osl (some 4) 0 0 i),(23,.sl (txts M)),(24,.int .i64 (M.length:Int)),(25,.int .i64 (i:Int))],[.cells (qc ((M.take i).map toQ))]⟩)
  (fun i=>i≤M.length∧(M.take i).all okB=true) (fun i=>M.length - i) 0 ⟨by omega,rfl⟩ (Zab _ (by simp only [go_sem]; simp)) (fun i hI N hN=>?_)
 obtain ⟨hi,hal⟩:=hI
 unfold Zkp
 by_cases hin:i<M.length
 ·obtain ⟨s,hs⟩:∃ s,M[i]? = some s:=⟨_,List.getElem?_eq_getElem hin⟩
  have hsl:=hMl s (List.mem_of_getElem? hs)
  have hget:(txts M)[i]? = some (.str (bs s)):=Yti hs
  obtain ⟨c,t,c4,cg,cb,hp,hor⟩:=Yx5 hsl
  have tk:(M.take (i+1)).map toQ=(M.take i).map toQ ++ [toQ s]:=by rw [List.take_add_one,hs]; simp
  have tb:(M.take (i+1)).all okB=((M.take i).all okB && okB s):=by rw [List.take_add_one,hs]; simp
  have l1:(qc ((M.take i).map toQ)).length=i*4:=by rw [qc_len',List.length_map,List.length_take]; congr 1; omega
  have l2:(qc ((M.take i).map toQ)).take (i*4)=qc ((M.take i).map toQ):=List.take_of_length_le (by omega)
  have q0:(0:Int)≤(i:Int):=by omega
  have q1:(i:Int)<(M.length:Int):=by omega
  have s1:(i+1)*64≤1099511627776:=by omega
  have e1:IntKind.i64.wrap ((i:Int)+1)=((i+1:Nat):Int):=by rw [Zac (by omega) (by omega)]; omega
  have ct:c.take 4=c:=List.take_of_length_le (by omega)
  have cd:c.drop 4 = []:=List.drop_eq_nil_of_le (by omega)
  simp only [go_sem,Zkg,Zs9,Zvt,q0,q1,txts_len',hget]
  refine Zaa hp (by simp only [go_sem]) ?_
  rcases hor with ⟨rfl,q,hq,rfl⟩ | ⟨rfl,hq⟩
  ·have hok:okB s=true:=by unfold okB; rw [hq]; rfl
   have htq:toQ s=q:=by unfold toQ; rw [hq]; rfl
   rw [htq] at tk
   have tk2:qc ((M.take (i+1)).map toQ)=qc ((M.take i).map toQ)++qcell q:=by rw [tk]; exact Y2q
   have ql:∀ q:Rat,(qcell q).length=4:=fun q=>rfl
   have qt:∀ q:Rat,(qcell q).take 4=qcell q:=fun q=>rfl
   have qd:∀ q:Rat,(qcell q).drop 4 = []:=fun q=>rfl
   simp only [go_sem,Zk2,Zre,Zry,ql,qt,qd,l1,l2,s1,e1,Nat.le_refl,List.cons_append,List.nil_append]
   refine hN (i+1) _ ⟨by omega,by rw [tb,hal,hok]; rfl⟩ (by omega) (Zb0 (Zh0 [3] (by decide) (fun i hi=>by omega) [(0,.sl ls),(2,.sl (txts M)),(8,G),(9,.int .i64 ec),(10,.osl (some 4) 3 0 (i+1)),(23,.sl (txts M)),(24,.int .i64 (M.length:Int)),(25,.int .i64 ((i+1:Nat):Int))] (by simp only [go_sem])) ?_)
   show St.mk _ [Blk.cells (gcL _ (qc ((M.take i).map toQ)++qcell q))]=_
   rw [← tk2,gc_qc']
   simp [AV.gc,hG,pos]
  ·have hok:okB s=false:=by unfold okB; rw [hq]; rfl
   have hf:M.all okB=false:=by
    rw [List.all_eq_false]
    exact ⟨s,List.mem_of_getElem? hs,by rw [hok]; decide⟩
   simp only [go_sem,Zk2,Zt2,c4,ct,cd]
   exact hK0 hf _ _ (by simp only [go_sem]) (by simp only [go_sem])
 ·have hie:i=M.length:=by omega
  subst hie
  have q1:¬ ((M.length:Nat):Int)<(M.length:Int):=by omega
  rw [List.take_length] at hal ⊢
  simp only [go_sem,Zkg,q1]
  exact hK hal _ (by simp only [go_sem]) (by simp only [go_sem]) (by simp only [go_sem]) (by simp only [go_sem]) (by simp only [go_sem])
theorem Xf2 {v w:List Rat}{k:Nat}{H:Heap}{n:Nat}(hv:Rb k v) (hw:Rb k w) (hk:2*k+1≤1000000000000) (hvl:v.length=n) (hwl:w.length=n) (hn:n≤1000000) (hH:H = [.dead]) {K:Ex→St→Prop}
  (hK:((List.range n).all fun i=>decide (rget v i=rget w i))=true→∀ e:Nat→AV,∀ H,K (.exit 3) ⟨e,H⟩)
  (hK0:((List.range n).all fun i=>decide (rget v i=rget w i))=false→∀ e:Nat→AV,∀ H,e 6 = .bool false→e 7 = .int .i64 0→K .ret ⟨e,H⟩) :
  T Tryz.prog 68 0 (.loop Ze4) ⟨envL [(10,.sl (condsR v)),(53,.sl (condsR w)),(54,.int .i64 (n:Int)),(55,.int .i64 0)],H⟩ K:=by
 have hmx:Tryz.prog.follows .mixedOrders=true:=by kernel_rfl
 subst hH
 refine Zae (fun i:Nat=>⟨envL [(10,.sl (condsR v)),(53,.sl (condsR w)),(54,.int .i64 (n:Int)),(55,.int .i64 (i:Int))],[.dead]⟩)
  (fun i=>i≤n∧((List.range i).all fun i=>decide (rget v i=rget w i))=true) (fun i=>n - i) 0 ⟨by omega,rfl⟩ (Zab _ (by simp only [go_sem]; simp)) (fun i hI N hN=>?_)
 obtain ⟨hi,hal⟩:=hI
 unfold Ze4
 by_cases hin:i<n
 ·have hcm:=Y0k (hw.get (j:=i) (by omega)) (hv.get (j:=i) (by omega)) hk
  have q0:(0:Int)≤(i:Int):=by omega
  have q1:(i:Int)<(n:Int):=by omega
  have e1:IntKind.i64.wrap ((i:Int)+1)=((i+1:Nat):Int):=by rw [Zac (by omega) (by omega)]; omega
  have ql:∀ q:Rat,(qcell q).length=4:=fun q=>rfl
  have qt:∀ q:Rat,(qcell q).take 4=qcell q:=fun q=>rfl
  have qd:∀ q:Rat,(qcell q).drop 4 = []:=fun q=>rfl
  simp only [go_sem,Zh1,Zrb,Zih,q0,q1,Zce,hvl,hwl,Za8 (Zai (r:=v) (j:=i) (by omega)),Za8 (Zai (r:=w) (j:=i) (by omega)),ql,qt,qd,hmx,List.cons_append,List.nil_append]
  refine Zaa hcm (by simp only [go_sem,Zau,Zah]) ?_
  by_cases hc:rget v i=rget w i
  ·have hc0:cmpR (rget w i) (rget v i)=0:=by rw [Yo1]; exact hc.symm
   simp only [go_sem,hc0,Zrs,e1]
   exact hN (i+1) _ ⟨by omega,by rw [List.range_succ,List.all_append,hal]; simp [hc]⟩ (by omega) (Zgl (K := [.dead]) (post := [_]) (m:=1) rfl rfl (by omega) _ (by simp only [go_sem]) (by simp [AV.gc]))
  ·have hc0:¬ cmpR (rget w i) (rget v i)=0:=by rw [Yo1]; exact fun h=>hc h.symm
   have hf:((List.range n).all fun i=>decide (rget v i=rget w i))=false:=by
    rw [List.all_eq_false]
    exact ⟨i,List.mem_range.2 hin,by simp [hc]⟩
   simp only [go_sem,hc0,Zrp]
   exact hK0 hf _ _ (by simp only [go_sem]) (by simp only [go_sem])
 ·have hie:i=n:=by omega
  subst hie
  have q1:¬ ((i:Nat):Int)<(i:Int):=by omega
  simp only [go_sem,Zh1,q1]
  exact hK hal _ _
def pC (L:List Nd) (d:List UInt8) (M:List (List UInt8)):Int:=if M.all okB=false then 2 else if eC L d=0 then (if M.length=L.length then 0 else 1) else eC L d
theorem wproves {L:List Nd}{d:List UInt8}{M:List (List UInt8)}{k:Nat}(h:GIn L d) (hM:M.length≤1000000) (hMl:∀ s,s∈M→s.length≤1000000000) (hb:∀ s,s∈M→Qb k (toQ s)) (hk:k≤1000000000) :
  SpecV Tryz.prog Z2y [.sl (L.map ndAV),.str (bs d),.sl (txts M)]
   (if pC L d M=0 then .tup [.bool ((List.range L.length).all fun i=>decide (rget (M.map toQ) i=nextV (toGm L d) (M.map toQ) i)),.int .i64 0] else .tup [.bool false,.int .i64 (pC L d M)]):=by
 obtain ⟨ls,hls⟩:∃ ls,ls=L.map ndAV:=⟨_,rfl⟩
 have hlsl:ls.length=L.length:=by rw [hls,List.length_map]
 have hle:=h.le
 have gen:∀ (G:AV) (R:AV),SpecV Tryz.prog Zqp [.sl ls,.str (bs d)] (.tup [G,.int .i64 (eC L d)])→(∀ f,G.gc f=G) →
   (M.all okB=false→R = .tup [.bool false,.int .i64 2]) →
   (M.all okB=true→∀ e:Nat→AV,e 0 = .sl ls→e 2 = .sl (txts M)→e 8=G→e 9 = .int .i64 (eC L d)→e 10 = .osl (some 4) 0 0 M.length →
    T Tryz.prog 68 0 (.seq (.block 2 (.seq (.rg false Zb9) (.cond (.t 41) (.seq (.rg false Zic) .ret) (.seq (.rg false Zeh) (.cond (.t 45) (.seq (.rg false Zh3) .ret) .skip))))) (.seq (.seq (.rg false Zig) (.block 3 (.loop Ze4))) (.seq (.rg false Zee) .ret))) ⟨e,[.cells (qc (M.map toQ))]⟩ (retQ [.tmp 6,.tmp 7] R)) →
   SpecV Tryz.prog Z2y [.sl ls,.str (bs d),.sl (txts M)] R:=fun G R hs hG h0 h1=>by
  refine Zat Yfs (by simp) (Za0 2 rfl ?_)
  unfold Z8k
  simp only [go_sem,Ztb,Zvc]
  refine Zaa hs (by simp only [go_sem]) ?_
  simp only [go_sem,Zu3]
  refine T_le (Zgg 10 (some 4) (by simp only [go_sem]) [(0,.sl ls),(2,.sl (txts M)),(8,G),(9,.int .i64 (eC L d))] (by simp only [go_sem])) ?_
  refine Zav (Zav (T_W ?_))
  simp only [go_sem,Zwl,txts_len']
  refine Zaw (Zas [(0,.sl ls),(2,.sl (txts M)),(8,G),(9,.int .i64 (eC L d)),(10,.osl (some 4) 0 0 0),(23,.sl (txts M)),(24,.int .i64 (M.length:Int)),(25,.int .i64 0)] (by simp only [go_sem]) (Xfe hM hMl (fun ha e k0 k2 k8 k9 k10=>?_) (fun hf e H k6 k7=>?_) hG))
  ·exact h1 ha e k0 k2 k8 k9 k10
  ·rw [h0 hf]
   simp only [go_sem,k6,k7]
 rw [← hls]
 by_cases hall:M.all okB=false
 ·have hp:pC L d M=2:=by unfold pC; rw [if_pos hall]
  rw [hp,if_neg (by decide)]
  rcases Zpp h with ⟨h1,hs⟩ | ⟨h1,hs,hg,hn,hn1,hn5⟩
  ·rw [← hls] at hs
   exact gen _ _ hs (fun m=>rfl) (fun _=>rfl) (fun ha=>by rw [ha] at hall; cases hall)
  ·rw [← hls] at hs
   exact gen _ _ (by rw [h1]; exact hs) (fun m=>rfl) (fun _=>rfl) (fun ha=>by rw [ha] at hall; cases hall)
 ·have hp:pC L d M=if eC L d=0 then (if M.length=L.length then 0 else 1) else eC L d:=by unfold pC; rw [if_neg hall]
  rw [hp]
  rcases Zpp h with ⟨h1,hs⟩ | ⟨h1,hs,hg,hn,hn1,hn5⟩
  ·rw [← hls] at hs
   rw [if_neg h1,if_neg h1]
   refine gen _ _ hs (fun m=>rfl) (fun hf=>absurd hf hall) (fun _ e k0 k2 k8 k9 k10=>?_)
   refine Za0 0 rfl ?_
   simp only [go_sem,Zb9,Zic,k9,h1]
  ·rw [← hls] at hs
   rw [if_pos h1]
   by_cases hl:M.length=L.length
   ·rw [if_pos hl,if_pos rfl]
    refine gen _ _ (by rw [h1]; exact hs) (fun m=>rfl) (fun hf=>absurd hf hall) (fun _ e k0 k2 k8 k9 k10=>?_)
    obtain ⟨v,hv⟩:∃ v,v=M.map toQ:=⟨_,rfl⟩
    have hvl:v.length=L.length:=by rw [hv,List.length_map,hl]
    have hvb:Rb k v:=fun q hq=>by
     rw [hv] at hq
     obtain ⟨s,hs,rfl⟩:=List.mem_map.1 hq
     exact hb s hs
    rw [← hv]
    generalize toGm L d=g at *
    have hnx:=Ym2 hg.ok hvb (by rw [hvl,hn]) (by omega)
    have hnb:=Ycs hg.ok hvb (by rw [hvl,hn])
    have hnl:(nextR g v).length=L.length:=by rw [Zkf,hn]
    have he:((List.range L.length).all fun i=>decide (rget v i=nextV g v i))=((List.range L.length).all fun i=>decide (rget v i=rget (nextR g v) i)):=by
     rw [Bool.eq_iff_iff,List.all_eq_true,List.all_eq_true]
     have e:∀ i,i∈List.range L.length→rget (nextR g v) i=nextV g v i:=fun i hi=>by
      unfold nextR; rw [Ygd (by rw [hn]; exact List.mem_range.1 hi)]
     exact ⟨fun H i hi=>by rw [e i hi]; exact H i hi,fun H i hi=>by have:=H i hi; rw [e i hi] at this; exact this⟩
    rw [he]
    rw [h1] at k9
    rw [hl, ← hvl] at k10
    refine Zxe [0] [(0,.sl ls),(2,.sl (txts M)),(8,.rp (gmC g)),(9,.int .i64 0),(10,.sl (condsR v))] ?_ ?_
    ·refine ⟨.inr k0,.inr k2,.inr k8,.inr k9,.inl ?_,trivial⟩
     show BV [Blk.cells (qc v)] [0] (e 10) _
     rw [k10]
     exact Ybf rfl (by simp)
    show T Tryz.prog 68 0 _ ⟨_,[Blk.dead]⟩ _
    have hll:((L.length:Nat):Int)=((L.length:Nat):Int):=rfl
    refine Za0 0 rfl ?_
    simp only [go_sem,Zb9,Zeh,txts_len',hl,hlsl]
    refine Zav (Zav (T_W ?_))
    simp only [go_sem,Zig]
    refine Zaa hnx (by simp only [go_sem]) ?_
    simp only [go_sem,Zce,hnl]
    refine Zaw (Zas [(10,.sl (condsR v)),(53,.sl (condsR (nextR g v))),(54,.int .i64 (L.length:Int)),(55,.int .i64 0)] (by simp only [go_sem]) (Xf2 (k:=6*k+331) (hvb.mono (by omega)) hnb (by omega) hvl hnl (by omega) rfl (fun ha e H=>?_) (fun hf e H k6 k7=>?_)))
    ·show T Tryz.prog 68 0 (.seq (.rg false Zee) .ret) _ _
     refine T_W ?_
     rw [ha]
     simp only [go_sem,Zee]
    ·rw [hf]
     simp only [go_sem,k6,k7]
   ·rw [if_neg hl,if_neg (by decide)]
    refine gen _ _ (by rw [h1]; exact hs) (fun m=>rfl) (fun hf=>absurd hf hall) (fun _ e k0 k2 k8 k9 k10=>?_)
    have hl':¬ ((M.length:Nat):Int)=(L.length:Int):=by omega
    refine Za0 0 rfl ?_
    simp only [go_sem,Zb9,Zeh,Zh3,k0,k2,k9,h1,txts_len',hlsl,hl']
end GoAbs
namespace GoAbs
open Go Go.Proofs
set_option maxHeartbeats 4000000
theorem Y63 (M:List (List UInt8)):M.map strAV=txts M:=rfl
end GoAbs
namespace GoAbs
open Go Go.Proofs
set_option maxHeartbeats 4000000
theorem Yuc {N:Nat}{x:GN}{v:List Rat}(hx:GnOk N x) (h3:x.kind≠3):∃ b:Nat,b<x.to.length∧rget v (x.to.getD b 0)=worthR x v∧(∀ t,t<b→rget v (x.to.getD t 0)≠worthR x v) ∧
  ((b:Nat):Int)=(if x.kind=1 then (bestA v x.to 1:Int) else if x.kind=2 then (bestA v x.to (-1):Int) else -1):=by
 have hk:=hx.kind
 by_cases h1:x.kind=1
 ·refine ⟨bestA v x.to 1,Ze9 hx.pos (Nat.le_refl _),by unfold worthR; rw [if_pos h1],fun t ht=>?_,by rw [if_pos h1]⟩
  have:=(Ybj (v:=v) (to:=x.to) (k:=x.to.length)).2.1 t ht
  unfold worthR
  rw [if_pos h1]
  unfold bestA
  grind
 ·have h2:x.kind=2:=by omega
  refine ⟨bestA v x.to (-1),Ze9 hx.pos (Nat.le_refl _),by unfold worthR; rw [if_neg h1,if_pos h2],fun t ht=>?_,by rw [if_neg h1,if_pos h2]⟩
  have:=(Z45 (v:=v) (to:=x.to) (k:=x.to.length)).2.1 t ht
  unfold worthR
  rw [if_neg h1,if_pos h2]
  unfold bestA
  grind
theorem Y56 {ls P:List AV}{n:Nd}{v:List Rat}{N i b kb:Nat}{w:Rat}(hls:ls[i]? = some (ndAV n)) (hx:NdG N n) (hv:Rb kb v) (hvl:v.length=N) (hkb:6*kb+250≤1000000) (hwb:Qb (6*kb+250) w) (hb:b<(toGN n).to.length) (he:rget v ((toGN n).to.getD b 0)=w) (hne:∀ t,t<b→rget v ((toGN n).to.getD t 0)≠w)
  {K:Ex→St→Prop}
  (hK:∀ e:Nat→AV,e 0 = .sl ls→e 1=rowV v→e 5 = .osl none 0 0 i→e 6 = .int .i64 (i:Int)→e 7 = .int .i64 (b:Int)→K (.exit 2) ⟨e,[.cells P,.cells (rq w)]⟩) :
  T Tryz.prog 50 0 (.loop Zs5) ⟨envL [(0,.sl ls),(1,rowV v),(5,.osl none 0 0 i),(6,.int .i64 (i:Int)),(7,.int .i64 0),(8,.ptr 1 0)],[.cells P,.cells (rq w)]⟩ K:=by
 have hmx:Tryz.prog.follows .mixedOrders=true:=by kernel_rfl
 obtain ⟨ms,hms⟩:∃ ms,ms=n.mv.map mvAV:=⟨_,rfl⟩
 have hmsl:ms.length=n.mv.length:=by rw [hms,List.length_map]
 have hA:ndAV n = .agg [.int .i64 n.kind,.str (bs n.rew),.sl ms]:=by unfold ndAV; rw [hms]
 rw [hA] at hls
 have hil:=(List.getElem?_eq_some_iff.1 hls).1
 have hlen:=hx.len
 have hl6:=hx.ok.len
 have rl:∀ q:Rat,(rq q).length=4:=fun q=>rfl
 have bvsr:∀ {H ids} {q:Rat},BVs H ids (rq q) (rq q)=True:=fun {H ids q}=>by unfold rq rc; simp only [go_sem]
 refine Zae (fun k:Nat=>⟨envL [(0,.sl ls),(1,rowV v),(5,.osl none 0 0 i),(6,.int .i64 (i:Int)),(7,.int .i64 (k:Int)),(8,.ptr 1 0)],[.cells P,.cells (rq w)]⟩)
  (fun k=>k≤b) (fun k=>b - k) 0 (by omega) (Zab _ (by simp only [go_sem]; simp)) (fun k hk N' hN=>?_)
 unfold Zs5
 have p0:(0:Int)≤(i:Int):=by omega
 have p1:(i:Int)<(ls.length:Int):=by omega
 obtain ⟨m,hmi⟩:∃ m,n.mv[k]? = some m:=⟨_,List.getElem?_eq_getElem (by omega)⟩
 obtain ⟨t1,t2,t3⟩:=hx.to k m hmi
 have hmsi:ms[k]? = some (.agg [.int .i64 m.1,.str (bs m.2)]):=by rw [hms,List.getElem?_map,hmi]; rfl
 have hlt:=hx.ok.lt _ (Zbl (to:=(toGN n).to) (k:=k) (by omega))
 have hgw:=Z5t (v:=v) (j:=(toGN n).to.getD k 0) (by omega)
 have hwb2:=hv.get (j:=(toGN n).to.getD k 0) (by omega)
 rw [t1] at hmsi
 have hcm:=Ydl (k:=6*kb+250) (hwb2.mono (by omega)) hwb hkb
 have q0:(0:Int)≤(k:Int):=by omega
 have q1:(k:Int)<(n.mv.length:Int):=by omega
 have q2:(0:Int)≤(((toGN n).to.getD k 0:Nat):Int):=by omega
 have q3:(((toGN n).to.getD k 0:Nat):Int)<(v.length:Int):=by omega
 have e1:IntKind.i64.wrap ((k:Int)+1)=((k+1:Nat):Int):=by rw [Zac (by omega) (by omega)]; omega
 have hne':k<b→rget v ((toGN n).to.getD k 0)≠w:=hne k
 have heq':k=b→rget v ((toGN n).to.getD k 0)=w:=fun h=>by rw [h]; exact he
 generalize (toGN n).to.getD k 0=y at *
 unfold rowV at hN hK ⊢
 simp only [go_sem,Zt5,p0,p1,q0,q1,q2,q3,hls,hmsl,hmsi,hgw,rl,Za9,Zba,List.length_map,hmx]
 refine Zaa hcm (by simp only [go_sem,bvsr]) ?_
 by_cases hc:k=b
 ·have hc0:cmpR (rget v y) w=0:=by rw [Yo1]; exact heq' hc
  subst hc
  simp only [go_sem,hc0]
  exact hK _ (by simp only [go_sem]) (by simp only [go_sem]) (by simp only [go_sem]) (by simp only [go_sem]) (by simp only [go_sem])
 ·have hc0:¬ cmpR (rget v y) w=0:=by rw [Yo1]; exact hne' (by omega)
  simp only [go_sem,hc0,Z2f,e1]
  exact hN (k+1) _ (by omega) (by omega) (Zab _ (by simp only [go_sem]))
theorem rbest {L:List Nd}{d:List UInt8}{v:List Rat}{k:Nat}(hL:∀ n,n∈L→NdG L.length n) (hv:Rb k v) (hk1:1≤k) (hk:k≤20000) (hl:v.length=L.length) (hN1:L.length≤100) :
  SpecV Tryz.prog Yv6 [.sl (L.map ndAV),rowV v] (.sl (ivs (bestL (toGm L d) v))):=by
 have hmx:Tryz.prog.follows .mixedOrders=true:=by kernel_rfl
 obtain ⟨ls,hls⟩:∃ ls,ls=L.map ndAV:=⟨_,rfl⟩
 have hlsl:ls.length=L.length:=by rw [hls,List.length_map]
 obtain ⟨g,hg⟩:∃ g,g=toGm L d:=⟨_,rfl⟩
 have hgn:g.nodes.length=L.length:=by rw [hg]; unfold toGm; rw [List.length_map]
 have hbl:(bestL g v).length=L.length:=by unfold bestL; rw [List.length_map,List.length_range,hgn]
 have rl:∀ q:Rat,(rq q).length=4:=fun q=>rfl
 have bvsr:∀ {H ids} {q:Rat},BVs H ids (rq q) (rq q)=True:=fun {H ids q}=>by unfold rq rc; simp only [go_sem]
 rw [← hls, ← hg]
 refine Zat Yp0 (by simp) (Za0 1 rfl ?_)
 unfold Ylh
 simp only [go_sem,Z85,Z8f]
 refine T_le (Zgg 5 none (by simp only [go_sem]) [(0,.sl ls),(1,rowV v)] (by simp only [go_sem])) ?_
 refine Zav (Zav (T_W ?_))
 simp only [go_sem,Z71]
 refine Zaw (Zfq (fun i:Nat=>⟨envL [(0,.sl ls),(1,rowV v),(5,.osl none 0 0 i),(6,.int .i64 (i:Int))],[.cells (ivs ((bestL g v).take i))]⟩)
  (fun i=>i≤L.length) (fun i=>L.length - i) 0 (by omega) (Zab _ (by simp only [go_sem]; simp)) (fun i hi N hN=>?_))
 unfold Z7k
 by_cases hin:i<L.length
 ·obtain ⟨n,hn⟩:∃ n,L[i]? = some n:=⟨_,List.getElem?_eq_getElem hin⟩
  have hx:=hL n (List.mem_of_getElem? hn)
  have hget:ls[i]? = some (ndAV n):=by rw [hls,List.getElem?_map,hn]; rfl
  have hna:nodeAt g i=toGN n:=by
   unfold nodeAt
   rw [hg]
   show (L.map toGN).getD i default=_
   rw [List.getD_eq_getElem?_getD,List.getElem?_map,hn]; rfl
  have hnx:(bestL g v)[i]? = some (bestP g v i):=by unfold bestL; rw [List.getElem?_map,List.getElem?_range (by omega)]; rfl
  have hbp:bestP g v i=if (toGN n).kind=1 then (bestA v (toGN n).to 1:Int) else if (toGN n).kind=2 then (bestA v (toGN n).to (-1):Int) else -1:=by unfold bestP; rw [hna]
  have tk:ivs ((bestL g v).take (i+1))=ivs ((bestL g v).take i) ++ [.int .i64 (bestP g v i)]:=by rw [List.take_add_one,hnx]; simp [ivs]
  have l1:(ivs ((bestL g v).take i)).length=i:=by rw [Zbn,List.length_take]; omega
  have l2:(ivs ((bestL g v).take i)).take i=ivs ((bestL g v).take i):=List.take_of_length_le (by omega)
  have hkd:=hx.kind
  have hkk:=hx.ok.kind
  have q0:(0:Int)≤(i:Int):=by omega
  have q1:(i:Int)<(L.length:Int):=by omega
  have s1:(i+1)*8≤1099511627776:=by omega
  have e1:IntKind.i64.wrap ((i:Int)+1)=((i+1:Nat):Int):=by rw [Zac (by omega) (by omega)]; omega
  have hgc:=fun f=>Ywq (f:=f) (p:=(bestL g v).take i)
  have fin:∀ (e:Nat→AV) (K:Heap) (z:Int) (b:Nat),z=bestP g v i→K.length=b→Has e [(0,.sl ls),(1,rowV v),(5,.osl none b 0 (i+1)),(6,.int .i64 ((i+1:Nat):Int))] →
    N ⟨e,K ++ [.cells (ivs ((bestL g v).take i) ++ [.int .i64 z])]⟩:=fun e K z b hz hb he=>by
   subst hz
   refine hN (i+1) _ (by omega) (by omega) (Zb0 (Zh0 [b] (by simp) (fun i hi=>by omega) [(0,.sl ls),(1,rowV v),(5,.osl none b 0 (i+1)),(6,.int .i64 ((i+1:Nat):Int))] he) ?_)
   rw [← tk]
   have hg:(K ++ [Blk.cells (ivs ((bestL g v).take (i+1)))]).getD b .dead = .cells (ivs ((bestL g v).take (i+1))):=by
    rw [List.getD_eq_getElem?_getD,List.getElem?_append_right (by omega),hb,Nat.sub_self]; rfl
   simp only [List.map_cons,List.map_nil,hg,Blk.gc,Ywq,AV.gc,rowV]
   simp [pos]
  generalize ivs ((bestL g v).take i)=P at *
  have hA:ndAV n = .agg [.int .i64 n.kind,.str (bs n.rew),.sl (n.mv.map mvAV)]:=rfl
  by_cases k3:n.kind=3
  ·rw [if_neg (by omega),if_neg (by omega)] at hbp
   rw [hA] at hget
   refine T_W ?_
   simp only [go_sem,Zlg,Zuo,Zwi,Zol,Zpc,q0,q1,hlsl,hget,k3,s1,l1,l2,e1,Nat.mul_one,Nat.le_refl,List.cons_append,List.nil_append]
   exact fin _ [_,_] _ 2 hbp.symm rfl (by simp only [go_sem])
  ·obtain ⟨b,hb1,hb2,hb3,hb4⟩:=Yuc (v:=v) hx.ok (show (toGN n).kind≠3 by omega)
   rw [← hb4] at hbp
   have hnxt:=rnext hx hv hk1 hk hl hN1
   have hwb:=Zxa hx.ok hv hl
   have hget':=hget
   rw [hA] at hget hnxt
   refine Za0 1 rfl ?_
   simp only [go_sem,Zlg,Zuo,Zwi,Z7q,q0,q1,hlsl,hget,k3]
   refine Zaa hnxt (by simp only [go_sem,rowV]) ?_
   simp only [go_sem,rl,Za9,Zba,Z73,List.cons_append,List.nil_append]
   refine Zas [(0,.sl ls),(1,rowV v),(5,.osl none 0 0 i),(6,.int .i64 (i:Int)),(7,.int .i64 0),(8,.ptr 1 0)] (by simp only [go_sem]) ?_
   refine Y56 (N:=L.length) hget' hx hv hl (by omega) hwb hb1 hb2 hb3 (fun e k0 k1 k5 k6 k7=>?_)
   simp only [go_sem,Zol,k0,k1,k5,k6,k7,s1,l1,l2,Nat.mul_one,Nat.le_refl,List.cons_append,List.nil_append]
   refine T_W ?_
   simp only [go_sem,Zpc,k0,k1,k5,k6,k7,e1]
   exact fin _ [_,_,_] _ 3 hbp.symm rfl (by simp only [go_sem,k0,k1])
 ·have hie:i=L.length:=by omega
  subst hie
  have q1:¬ ((L.length:Nat):Int)<(L.length:Int):=by omega
  rw [List.take_of_length_le (by omega)]
  refine T_W ?_
  simp only [go_sem,Zlg,hlsl,q1]
  refine T_W ?_
  simp only [go_sem,Z39]
  rw [← hbl]
  exact Y0c rfl (by simp [allOf])
end GoAbs
namespace GoAbs
open Go Go.Proofs
set_option exponentiation.threshold 20000
def rho (l lo hi:Nat) (sg:Rat) (s:Nat):Rat:=if s=l then 1 else if lo≤s∧s<hi then sg else 0
end GoAbs
namespace GoAbs
open Go Go.Proofs
end GoAbs
namespace GoAbs
open Go Go.Proofs
set_option exponentiation.threshold 20000
theorem Yy1 {q:Rat}(h:NumOk q):(numS q).length≤1000000000:=by have:=Y3k h; omega
end GoAbs
namespace GoAbs
open Go Go.Proofs
set_option exponentiation.threshold 20000
theorem Xbh {F:List Rat}(hok:∀ q,q∈F→NumOk q):(F.map numS).map toQ=F:=by
 rw [List.map_map]
 conv=>rhs; rw [← List.map_id F]
 exact List.map_congr_left fun q hq=>by
  show toQ (numS q)=q
  unfold toQ; rw [Yhe (hok q hq)]; rfl
end GoAbs
namespace GoAbs
open Go Go.Proofs
set_option maxHeartbeats 4000000
theorem rsameI {p:List Int}(hl:p.length≤1000000):SpecV Tryz.prog Yt2 [.sl (ivs p),.sl (ivs p)] (.bool true):=by
 have hmx:Tryz.prog.follows .mixedOrders=true:=by kernel_rfl
 refine Zat Ype (by simp) (Za0 1 rfl ?_)
 unfold Ynz
 simp only [go_sem,Z8h,Z7c,Zbn]
 refine Zav (Zav (T_W ?_))
 simp only [go_sem,Z83]
 refine Zaw (Zae (fun i:Nat=>⟨envL [(0,.sl (ivs p)),(1,.sl (ivs p)),(5,.int .i64 (i:Int))],[]⟩)
  (fun i=>i≤p.length) (fun i=>p.length - i) 0 (by omega) (Zab _ (by simp only [go_sem]; simp)) (fun i hi N hN=>?_))
 unfold Z8w
 by_cases hin:i<p.length
 ·obtain ⟨s,hs⟩:∃ s,p[i]? = some s:=⟨_,List.getElem?_eq_getElem hin⟩
  have hget:=Yin hs
  have q0:(0:Int)≤(i:Int):=by omega
  have q1:(i:Int)<(p.length:Int):=by omega
  have e1:IntKind.i64.wrap ((i:Int)+1)=((i+1:Nat):Int):=by rw [Zac (by omega) (by omega)]; omega
  simp only [go_sem,Ztq,Zu4,Z7x,q0,q1,Zbn,hget,hmx,e1]
  exact hN (i+1) _ (by omega) (by omega) (Zab _ (by simp only [go_sem]))
 ·have hie:i=p.length:=by omega
  subst hie
  have q1:¬ ((p.length:Nat):Int)<(p.length:Int):=by omega
  simp only [go_sem,Ztq,Zbn,q1]
  refine T_W ?_
  simp only [go_sem,Z77]
theorem Yv4 {g:Gm}(hg:GmP g) (hl:GmL g):Rb 4000 (valG g):=by
 obtain ⟨q,h1,h2⟩:=Yet hg
 rw [h2]
 exact Yq0 hg hl h1.ok
theorem Y9g (x:List Rat):ss x=txts (x.map numS):=by unfold ss txts; rw [List.map_map]; rfl
theorem lvalues {X:List Nd}{l:List UInt8}:SpecV Tryz.prog Yap [.sl (X.map ndAV),.str (bs l)] (.bool true):=by
 obtain ⟨L,hL⟩:∃ L,L=fewW X:=⟨_,rfl⟩
 obtain ⟨d,hd⟩:∃ d,d=shW l:=⟨_,rfl⟩
 have hin:GIn L d:=by rw [hL,hd]; exact Xa5
 have hf:=wfew (L:=X)
 have hs:=wshort (l:=l)
 rw [← hL] at hf
 rw [← hd] at hs
 have hchk:SpecV Tryz.prog Yci [.sl (L.map ndAV),.str (bs d),.sl []] (.int .i64 (eC L d)):=by
  have:=rcheck (M := []) (by have:=hin.le; omega) hin.ok hin.d (by simp) (by simp)
  rw [Xd1] at this
  exact this
 have hlt:=wlight (d:=d) (by have:=hin.le; omega) hin.ok
 have bvn:∀ H ids,BVs H ids [AV.sl (L.map ndAV),.str (bs d),.nils] [AV.sl (L.map ndAV),.str (bs d),.sl []]:=fun H ids => .cons (.sl _) (.cons (.str _) (.cons .nilsl .nil))
 have hv:=wvalue hin
 have hb:=wbest hin
 refine Zaf Z6i (by simp) ?_
 unfold Zvy
 simp only [go_sem,Zly,Zlr]
 refine Zaa hf (by simp only [go_sem]) ?_
 simp only [go_sem]
 refine Zaa hs (by simp only [go_sem]) ?_
 simp only [go_sem,Zla]
 by_cases he:eC L d=0
 ·rw [if_pos he] at hv hb
  rw [he] at hchk
  obtain ⟨hnd,hdo⟩:=Xe8 hin he
  obtain ⟨_,hg,hgn,hn1,hn5⟩:=((Zpp hin).resolve_left (fun h=>h.1 he)).2
  have hvl:=Z3b hg
  have hvn:=Ylv hg
  have hbl:(bestL (toGm L d) (valG (toGm L d))).length=L.length:=by unfold bestL; rw [List.length_map,List.length_range,hgn]
  cases hlw:lightW L d with
  | false =>
   rw [hlw] at hlt
   obtain ⟨x,eno,hx⟩:∃ (x:AV) (eno:Int),numsR (valG (toGm L d)) = .tup [x,.int .i64 eno]:=by
    by_cases hN:∀ q,q∈valG (toGm L d)→NumOk q
    ·exact ⟨_,_,if_pos hN⟩
    ·exact ⟨_,_,if_neg hN⟩
   rw [hx] at hv
   refine Zaa hv (by simp only [go_sem]) ?_
   simp only [go_sem,Zcu]
   refine Zaa hb (by simp only [go_sem]) ?_
   simp only [go_sem,Zct]
   refine Zlk (ids := []) hchk (bvn _ _) (.inl rfl) (fun b hb=>by simp at hb) ?_
   simp only [go_sem,Zcs,Zfd]
   refine Zaa hlt (by simp only [go_sem]) ?_
   simp only [go_sem,Zls]
   refine Zaa wlives (by simp only [go_sem]) ?_
   simp only [go_sem]
  | true =>
   rw [hlw] at hlt
   have hgl:=Xec hlw hnd hdo hn5
   have hrb:=Yv4 hg hgl
   have hok:∀ q,q∈valG (toGm L d)→NumOk q:=fun q hq=>Yvl (hrb q hq) (by omega)
   rw [show numsR (valG (toGm L d)) = .tup [.sl (ss (valG (toGm L d))),.int .i64 0] from if_pos hok,Y9g] at hv
   obtain ⟨V,hV⟩:∃ V,V=valG (toGm L d):=⟨_,rfl⟩
   rw [← hV] at hv hb hvl hvn hrb hok hbl
   obtain ⟨M,hM⟩:∃ M,M=V.map numS:=⟨_,rfl⟩
   have hMV:M.map toQ=V:=by rw [hM]; exact Xbh hok
   have hMn:M.length=L.length:=by rw [hM,List.length_map,hvl,hgn]
   have hMl:∀ s,s∈M→s.length≤1000000000:=fun s hs=>by
    rw [hM] at hs
    obtain ⟨q,hq,rfl⟩:=List.mem_map.1 hs
    exact Yy1 (hok q hq)
   have hMp:∀ s,s∈M→okB s=true:=fun s hs=>by
    rw [hM] at hs
    obtain ⟨q,hq,rfl⟩:=List.mem_map.1 hs
    unfold okB
    rw [Yhe (hok q hq)]; rfl
   have hMall:M.all okB=true:=List.all_eq_true.2 hMp
   have hMb:∀ s,s∈M→Qb 4000 (toQ s):=fun s hs=>hrb _ (by rw [← hMV]; exact List.mem_map.2 ⟨s,hs,rfl⟩)
   have hnm:=rnums (L:=M) (by omega) hMl
   rw [show numsE M=0 by unfold numsE; rw [if_pos (show (M.all fun s=>(parseL s).isSome)=true from hMall)],Y63] at hnm
   have hqs:=rqs (L:=M) (fun s hs=>⟨hMl s hs,hMp s hs⟩) (by omega)
   rw [hMV] at hqs
   have hrp:=rproves (d:=d) hnd hg.ok.db hrb (by omega) (by omega) (by rw [hvl,hgn]) (by omega) hg.ok
   have hall:((List.range L.length).all fun i=>decide (rget V i=nextV (toGm L d) V i))=true:=by
    rw [List.all_eq_true]
    intro i hi
    exact decide_eq_true (hvn i (by rw [hgn]; exact List.mem_range.1 hi))
   rw [hall] at hrp
   have hwp:=wproves hin (M:=M) (by omega) hMl hMb (by omega)
   rw [show pC L d M=0 by unfold pC; rw [hMall,he,if_neg (by decide),if_pos rfl,if_pos hMn],if_pos rfl,hMV,hall] at hwp
   have hrb2:=rbest (d:=d) hnd hrb (by omega) (by omega) (by rw [hvl,hgn]) (by omega)
   have hsm:=rsameI (p:=bestL (toGm L d) V) (by omega)
   have hle:((M.length:Nat):Int)=(L.length:Int):=by omega
   rw [← hM] at hv
   refine Zaa hv (by simp only [go_sem]) ?_
   simp only [go_sem,Zcu]
   refine Zaa hb (by simp only [go_sem]) ?_
   simp only [go_sem,Zct]
   refine Zlk (ids := []) hchk (bvn _ _) (.inl rfl) (fun b hb=>by simp at hb) ?_
   simp only [go_sem,Zcs,Zfd]
   refine Zaa hlt (by simp only [go_sem]) ?_
   simp only [go_sem,Zkk,txts_len',List.length_map,hle]
   refine Zaa hnm (by simp only [go_sem]) ?_
   simp only [go_sem]
   refine Zaa (Xid hdo (by have:=hin.d; omega)) (by simp only [go_sem]) ?_
   simp only [go_sem]
   refine Zaa hqs (by simp only [go_sem]) ?_
   simp only [go_sem]
   refine Zaa hrp (by simp only [go_sem,Xft,rowV]) ?_
   simp only [go_sem]
   refine Zaa wlives (by simp only [go_sem]) ?_
   simp only [go_sem,Zke]
   refine Zaa hwp (by simp only [go_sem]) ?_
   simp only [go_sem,Zk3]
   refine Zaa hqs (by simp only [go_sem]) ?_
   simp only [go_sem]
   refine Zaa hrb2 (by simp only [go_sem,rowV]) ?_
   simp only [go_sem]
   refine Zaa hsm (by simp only [go_sem]) ?_
   simp only [go_sem]
 ·rw [if_neg he] at hv hb
  refine Zaa hv (by simp only [go_sem]) ?_
  simp only [go_sem,Zcu]
  refine Zaa hb (by simp only [go_sem]) ?_
  simp only [go_sem,Zct]
  refine Zlk (ids := []) hchk (bvn _ _) (.inl rfl) (fun b hb=>by simp at hb) ?_
  simp only [go_sem,Zcs,Zl0,he]
  refine Zaa wlives (by simp only [go_sem]) ?_
  simp only [go_sem]
end GoAbs
