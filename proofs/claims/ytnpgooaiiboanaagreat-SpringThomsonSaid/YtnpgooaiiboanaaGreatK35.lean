/- Lemmas for the claim (contracts of the functions that it reaches, and what they compute), without conditions. -/
import Derived.Test.YtnpgooaiiboanaaGreatK34
import Derived.Test.YtnpgooaiiboanaaGreatProg
import Derived.KernelRfl
set_option linter.unusedVariables false
set_option linter.unusedSimpArgs false
set_option maxRecDepth 10000
set_option maxHeartbeats 2000000
namespace GoAbs
open Go Go.Proofs
set_option exponentiation.threshold 20000
def pairA (n:Nat) (A:Int):Nat:=(A % (n:Int)).toNat
def pairB (n:Nat) (A B:Int):Nat:=((A % (n:Int)+1+B % ((n:Int) - 1)) % (n:Int)).toNat
theorem Yze {n:Nat}{A B:Int}(hn:2≤n):(pairA n A:Int)=A % n∧(pairB n A B:Int)=(A % n+1+B % ((n:Int) - 1)) % n∧pairA n A<n∧pairB n A B<n∧pairA n A≠pairB n A B:=by
 have h1:=Int.emod_nonneg A (show (n:Int)≠0 by omega)
 have h2:=Int.emod_lt_of_pos A (show (0:Int)<n by omega)
 have h3:=Int.emod_nonneg B (show (n:Int) - 1≠0 by omega)
 have h4:=Int.emod_lt_of_pos B (show (0:Int)<(n:Int) - 1 by omega)
 have h5:=Int.emod_nonneg (A % n+1+B % ((n:Int) - 1)) (show (n:Int)≠0 by omega)
 have h6:=Int.emod_lt_of_pos (A % n+1+B % ((n:Int) - 1)) (show (0:Int)<n by omega)
 have key:(A % n+1+B % ((n:Int) - 1)) % n≠A % n:=by
  generalize A % (n:Int)=x at *
  generalize B % ((n:Int) - 1)=y at *
  rcases Int.lt_or_le (x+1+y) n with h | h
  ·rw [Int.emod_eq_of_lt (by omega) h]; omega
  ·have:(x+1+y) % n=x+1+y - n:=by
    rw [← Int.sub_emod_right,Int.emod_eq_of_lt (by omega) (by omega)]
   rw [this]; omega
 unfold pairA pairB
 refine ⟨Int.toNat_of_nonneg h1,Int.toNat_of_nonneg h5,by omega,by omega,by omega⟩
theorem lpair {n:Nat}{A B:Int}(hn:2≤n) (hnl:n≤1000):SpecV Tryz.prog Yt3 [.int .i64 (n:Int),.agg [.int .i64 A,.int .i64 B]] (.tup [.int .i64 (pairA n A:Int),.int .i64 (pairB n A B:Int)]):=by
 have hm:Tryz.prog.follows .mixedOrders=true:=by kernel_rfl
 obtain ⟨e1,e2,l1,l2,_⟩:=Yze (n:=n) (A:=A) (B:=B) hn
 have f1:=lfold (v:=A) (n:=(n:Int)) (by omega) (by omega)
 have f2:=lfold (v:=B) (n:=(n:Int) - 1) (by omega) (by omega)
 have h3:=Int.emod_nonneg B (show (n:Int) - 1≠0 by omega)
 have h4:=Int.emod_lt_of_pos B (show (0:Int)<(n:Int) - 1 by omega)
 rw [← e1] at f1 e2
 have w1:IntKind.i64.wrap ((n:Int) - 1)=(n:Int) - 1:=Zac (by omega) (by omega)
 have w2:IntKind.i64.wrap ((pairA n A:Int)+1)=(pairA n A:Int)+1:=Zac (by omega) (by omega)
 have w3:IntKind.i64.wrap ((pairA n A:Int)+1+B % ((n:Int) - 1))=(pairA n A:Int)+1+B % ((n:Int) - 1):=Zac (by omega) (by omega)
 have t1:((pairA n A:Int)+1+B % ((n:Int) - 1)).tmod n=(pairB n A B:Int):=by
  rw [Int.tmod_eq_emod_of_nonneg (by omega)]; exact e2.symm
 have n0:(n:Int)≠0:=by omega
 generalize pairA n A=x at *
 generalize pairB n A B=y at *
 refine Zae Ync (by simp) ?_
 unfold Yha
 simp only [go_sem,Z5h,Z7b]
 refine Zaa f1 (by simp only [go_sem]) ?_
 simp only [go_sem,Zsx,hm,w1]
 refine Zaa f2 (by simp only [go_sem]) ?_
 simp only [go_sem,w1,w2,w3,n0,t1]
theorem Yxq {n:Nat}{X:List Spr}{p:List Int}(h2:2≤n):connE n ((madeL n X p).map toE):=fun i hi=>by
 show tieAll ((madeL n X p).map toE) id i=tieAll ((madeL n X p).map toE) id 0
 induction i with
 | zero=>rfl
 | succ i ih =>
  have hmem:toE (pathE p i)∈(madeL n X p).map toE:=List.mem_map.2 ⟨pathE p i,by
   unfold madeL pathL
   exact List.mem_append.2 (.inl (List.mem_map.2 ⟨i,by rw [List.mem_range]; omega,rfl⟩)),rfl⟩
  have h:=Zpp (p:=id) hmem
  have e1:(toE (pathE p i)).1=i:=by simp [toE,pathE]
  have e2:(toE (pathE p i)).2.1=i+1:=by simp [toE,pathE]
  rw [e1,e2] at h
  rw [← h]
  exact ih (by omega)
theorem Zjc {n a b:Nat}{L:List Spr}(h2:2≤n) (h:NetL n L) (ha:a<n) (hb:b<n) (hab:a≠b) :
  oneF n a b (L.map toE)=treesF (n - 1) (oneS (min a b) (max a b) L):=by
 obtain ⟨hp,hI⟩:=h.pos
 have h1:=Y0r (n:=n) (low:=min a b) (high:=max a b) (l:=L.map toE) (a:=a) (b:=b) (w:=1) h2 (by omega) (by omega) (by omega) hp hI (by decide)
 obtain ⟨k,rfl⟩:∃ k,n=k+2:=⟨n - 2,by omega⟩
 have e1:k+2 - 1=k+1:=rfl
 have e2:k+2 - 2=k:=rfl
 rw [e1,e2,Zuj (l:=_++_),Z8r, ← Zuj,Yn2 ⟨ha,hb⟩ hI, ← Yy8] at h1
 unfold oneF treesF
 rw [e1,e2,show k+1 - 1=k from rfl,Zuj]
 have e3:tieP (a,b,(1:Rat)) id=mrg id a b:=rfl
 rw [e3] at h1
 have e4:((a,b,(1:Rat)):MSp).2.2=1:=rfl
 rw [e4] at h1
 grind
theorem Xa2 {n d:Int}{q:Rat}{k:Nat}(hk:1≤k) (hk2:k≤4000) (hd:d≠0) (h:q=Rat.divInt n d) (h1:n.natAbs<10 ^ k) (h2:d.natAbs<10 ^ k):NumOk q:=by
 obtain ⟨g1,g2⟩:=Zcv (n:=n) hd
 rw [← h] at g1 g2
 exact ⟨Nat.le_trans (Zl8 hk (Nat.lt_of_le_of_lt g1 h1)) hk2,.inr (Nat.le_trans (Zl8 hk (Nat.lt_of_le_of_lt g2 h2)) hk2)⟩
theorem q_div {q w:Rat}:Rat.divInt (q.num*w.den) ((q.den:Int)*w.num)=q / w:=by
 rw [Rat.div_def, ← Rat.num_divInt_den q,Rat.num_divInt_den]
 have:w⁻¹=Rat.divInt w.den w.num:=by rw [Rat.inv_def]
 rw [this]
 conv=>rhs; rw [← Rat.num_divInt_den q]
 rw [Rat.divInt_mul_divInt]
theorem Y47 {q w:Rat}(hq:q.num.natAbs<10 ^ 260∧q.den<10 ^ 260) (hw:w.num.natAbs<10 ^ 260∧w.den<10 ^ 260) (h0:0<w):NumOk (q / w)∧Ib 1800 (q.num*w.den)∧Ib 1800 ((q.den:Int)*w.num)∧0<(q.den:Int)*w.num:=by
 have hwn:0<w.num:=num_pos'.2 h0
 have hqd:=q.den_pos
 have hp:0<(q.den:Int)*w.num:=Int.mul_pos (by omega) hwn
 obtain ⟨_,i1,i2⟩:=Yx6 hq
 obtain ⟨_,i3,i4⟩:=Yx6 hw
 have e:10 ^ 260*10 ^ 260=10 ^ 520:=by decide+kernel
 refine ⟨Xa2 (k:=520) (by omega) (by omega) (by omega) q_div.symm ?_ ?_,i1.mul i4,i2.mul i3,hp⟩
 ·rw [Int.natAbs_mul,Int.natAbs_natCast, ← e]; exact Nat.mul_lt_mul'' hq.1 hw.2
 ·rw [Int.natAbs_mul,Int.natAbs_natCast, ← e]; exact Nat.mul_lt_mul'' hq.2 hw.1
theorem NetL.between {n a b:Nat}{L:List Spr}(h:NetL n L) (h2:2≤n) (h6:n≤6) (hc:connE n (L.map toE)) (ha:a<n) (hb:b<n) (hab:a≠b) :
  SpecV Tryz.prog Zb6 [.int .i64 (n:Int),.sl (L.map sprAV),.int .i64 (a:Int),.int .i64 (b:Int)] (.tup [.str (bs (numS (treesF n L / treesF (n - 1) (oneS (min a b) (max a b) L)))),.int .i64 0]) ∧
  0<treesF n L∧0<treesF (n - 1) (oneS (min a b) (max a b) L)∧NumOk (treesF n L / treesF (n - 1) (oneS (min a b) (max a b) L)):=by
 obtain ⟨hr,ho⟩:=h.read h2 h6
 have hlen:∀ s,s∈L→s.2.2.length≤1000000000:=fun s hs=>by
  obtain ⟨_,q,_,_,_,_,hl⟩:=h.ok s hs; omega
 obtain ⟨hp,_,hI⟩:=Ybv ho
 have hone:=Yge h (low:=min a b) (high:=max a b) (by omega) (by omega)
 have hG:=Ylj hp hI hc ha hb hab
 have hF:=Zwf (by omega) hp hI hc
 rw [Zjc h2 h ha hb hab] at hG
 have hok:=(Y47 (q:=treesF n L) (w:=treesF (n - 1) (oneS (min a b) (max a b) L)) h.size hone.size hG).1
 obtain ⟨m,rfl⟩:∃ m,n=m+1:=⟨n - 1,by omega⟩
 have hbt:=Yi9 rfl h.len hlen hr ho (by omega) hc (a:=a) (b:=b) (by omega) (by omega) hab
 rw [Zjc h2 h ha hb hab] at hbt
 have hF':Fsum (m+1) id m (L.map toE)=treesF (m+1) L:=rfl
 rw [hF'] at hbt
 unfold numR at hbt
 rw [if_pos hok] at hbt
 exact ⟨hbt,hF,hG,hok⟩
theorem Xas {H:Heap}{ids:List Nat}{b:Nat}{p:List Int}(hb:H[b]? = some (.cells (ivs p))) (hi:b∈ids):BV H ids (.osl none b 0 p.length) (.sl (ivs p)):=by
 refine .osl none b 0 p.length (ivs p) (ivs p) hb hi (Yf3 p) (fun x hx=>?_) (by rw [Yf3]; simp [es]) (fun i x j y z hx hy hz=>?_)
 ·obtain ⟨c,_,rfl⟩:=List.mem_map.1 hx; rfl
 ·obtain ⟨c,_,rfl⟩:=List.mem_map.1 (List.mem_of_getElem? hx)
  have hj:j=0:=by
   have:=(List.getElem?_eq_some_iff.1 hy).1
   simp [AV.cells] at this; omega
  subst hj
  simp [AV.cells] at hy
  subst hy
  simp [es] at hz
  rw [hx] at hz
  cases hz
  exact .int _ _
end GoAbs
namespace GoAbs
open Go Go.Proofs
set_option exponentiation.threshold 20000
theorem Y1b {R:List Nat}{g:Nat→Nat}{f:Nat→Rat}:sumL (R.map g) f=sumL R (fun i=>f (g i)):=by
 induction R with
 | nil=>rfl
 | cons r R ih=>rw [List.map_cons,Zal,Zal,ih]
end GoAbs
namespace GoAbs
open Go Go.Proofs
set_option exponentiation.threshold 20000
theorem Qb.ib {k:Nat}{q:Rat}(h:Qb k q):Ib k q.num∧Ib k (q.den:Int):=⟨h.n,by show (q.den:Int).natAbs<_; rw [Int.natAbs_natCast]; exact h.d⟩
theorem NetL.betweenF {n a b:Nat}{L:List Spr}(h:NetL n L) (h2:2≤n) (h6:n≤6) (hc:connE n (L.map toE)) (ha:a<n) (hb:b<n) (hab:a≠b) :
  SpecV Tryz.prog Zb6 [.int .i64 (n:Int),.sl (L.map sprAV),.int .i64 (a:Int),.int .i64 (b:Int)] (.tup [.str (bs (numS (treesF n L / oneF n a b (L.map toE)))),.int .i64 0]) ∧
  0<treesF n L∧0<oneF n a b (L.map toE)∧NumOk (treesF n L / oneF n a b (L.map toE))∧Qb 1800 (treesF n L / oneF n a b (L.map toE)):=by
 have hone:=Yge h (low:=min a b) (high:=max a b) (by omega) (by omega)
 have hb:=h.between h2 h6 hc ha hb hab
 rw [← Zjc h2 h ha (by omega) hab] at hb
 obtain ⟨h1,h3,h4,h5⟩:=hb
 refine ⟨h1,h3,h4,h5,?_⟩
 have k1:Qb 900 (treesF n L):=by
  have c:10 ^ 260<2 ^ 900:=by decide+kernel
  exact ⟨Nat.lt_trans h.size.1 c,Nat.lt_trans h.size.2 c⟩
 have k2:Qb 900 (oneF n a b (L.map toE)):=by
  rw [Zjc h2 h ha (by omega) hab]
  have c:10 ^ 260<2 ^ 900:=by decide+kernel
  exact ⟨Nat.lt_trans hone.size.1 c,Nat.lt_trans hone.size.2 c⟩
 exact k1.div2 k2 (by grind)
end GoAbs
namespace GoAbs
open Go Go.Proofs
set_option exponentiation.threshold 20000
theorem Z26 {R S:List Nat}{f:Nat→Nat→Rat}:sumL R (fun i=>sumL S (fun j=>f i j))=sumL S (fun j=>sumL R (fun i=>f i j)):=by
 induction R with
 | nil=>rw [Zg1]; exact (Zdu (fun i _=>Zg1)).symm
 | cons r R ih=>rw [Zal,ih, ← Zba]; exact Zaf (fun j _=>by rw [Zal])
theorem Y0l {n a b:Nat}{E:List Sp}(ho:NetOk n E) (hc:connE n E) (ha:a<n) (hb:b<n) (hab:a≠b) :
  ∃ x:Nat→Rat,(∀ i,i∈List.range' 1 (n - 1)→sumL (List.range' 1 (n - 1)) (fun j=>x j*Lm id E i j)=edge a b i)∧sumL (List.range' 1 (n - 1)) (fun i=>edge a b i*x i)=oneF n a b E / Fsum n id (n - 1) E∧0<oneF n a b E∧0<Fsum n id (n - 1) E:=by
 obtain ⟨hp,hP,hI⟩:=Ybv ho
 obtain ⟨m,rfl⟩:∃ m,n=m+1:=⟨n - 1,by omega⟩
 have hm:1≤m:=by have:=ho.n2; omega
 have hD:=Zwf (n:=m+1) (by omega) hp hI hc
 have hG:=Ylj hp hI hc ha hb hab
 rw [Nat.add_sub_cancel] at hD ⊢
 have hdt:=Z4j hP hI
 have hd0:dt (List.range' 1 m) (Lm id E)≠0:=by rw [hdt]; grind
 have hs:=(Z3h (m:=m) (E:=E) (r:=(unitF (m+1) a b).drop 1) (fun e he=>⟨by have:=(hI e he).1; omega,by have:=(hI e he).2; omega,(ho.e e he).2.2.1,hP e he⟩) (by rw [List.length_drop,Ze8]; omega) hd0).2.2.2
 have hs':∀ i,i∈List.range' 1 m→sumL (List.range' 1 m) (fun j=>solX (triA m E ((unitF (m+1) a b).drop 1)) m j*Lm id E i j)=edge a b i:=fun i hi=>by
  have hi':=List.mem_range'_1.1 hi
  rw [hs i hi,Z83,show i - 1+1=i by omega,Z8c ha hb hab]
 have hg:=Ygb (R:=List.range' 1 m) (A:=Lm id E) (v:=edge a b) (Zxh (R := []) hP).sym hd0 hs'
 rw [Ywl hP hI hm (by omega) (by omega),hdt] at hg
 refine ⟨_,hs',?_,hG,hD⟩
 rw [← hg]
 grind
end GoAbs
namespace GoAbs
set_option exponentiation.threshold 20000
abbrev Rn (n:Nat):List Nat:=List.range' 1 (n - 1)
def Sol (n:Nat) (E:List Sp) (x v:Nat→Rat):Prop:=∀ i,i∈Rn n→sumL (Rn n) (fun j=>x j*Lm id E i j)=v i
def dotN (n:Nat) (v x:Nat→Rat):Rat:=sumL (Rn n) (fun i=>v i*x i)
def Rr (n:Nat) (E:List Sp) (a b:Nat):Rat:=if a=b then 0 else oneF n a b E / Fsum n id (n - 1) E
theorem Sol.sub {n:Nat}{E:List Sp}{x y v u:Nat→Rat}(h:Sol n E x v) (k:Sol n E y u):Sol n E (fun j=>x j - y j) (fun i=>v i - u i):=fun i hi=>by
 have:sumL (Rn n) (fun j=>(x j - y j)*Lm id E i j)=sumL (Rn n) (fun j=>x j*Lm id E i j)+(-1)*sumL (Rn n) (fun j=>y j*Lm id E i j):=by
  rw [← Za0, ← Zba]
  exact Zaf (fun j _=>by grind)
 rw [this,h i hi,k i hi]; grind
theorem Yof {n:Nat}{v x y:Nat→Rat}:dotN n v (fun j=>x j - y j)=dotN n v x - dotN n v y:=by
 unfold dotN
 have:sumL (Rn n) (fun i=>v i*(x i - y i))=sumL (Rn n) (fun i=>v i*x i)+(-1)*sumL (Rn n) (fun i=>v i*y i):=by
  rw [← Za0, ← Zba]
  exact Zaf (fun j _=>by grind)
 rw [this]; grind
theorem Yu6 {n:Nat}{v u x:Nat→Rat}:dotN n (fun j=>v j - u j) x=dotN n v x - dotN n u x:=by
 unfold dotN
 have:sumL (Rn n) (fun i=>(v i - u i)*x i)=sumL (Rn n) (fun i=>v i*x i)+(-1)*sumL (Rn n) (fun i=>u i*x i):=by
  rw [← Za0, ← Zba]
  exact Zaf (fun j _=>by grind)
 rw [this]; grind
theorem Ycw {n:Nat}{v u x y:Nat→Rat}(h:∀ i,i∈Rn n→v i=u i) (k:∀ i,i∈Rn n→x i=y i):dotN n v x=dotN n u y:=Zaf (fun i hi=>by rw [h i hi,k i hi])
theorem recip {n:Nat}{E:List Sp}{x y v u:Nat→Rat}(hP:Pos E) (h:Sol n E x v) (k:Sol n E y u):dotN n u x=dotN n v y:=by
 have hsym:=(Zxh (R := []) (p:=id) hP).sym
 have a1:dotN n u x=sumL (Rn n) (fun i=>sumL (Rn n) (fun j=>x i*(y j*Lm id E i j))):=Zaf (fun i hi=>by rw [Za0,k i hi]; grind)
 have a2:dotN n v y=sumL (Rn n) (fun i=>sumL (Rn n) (fun j=>y i*(x j*Lm id E i j))):=Zaf (fun i hi=>by rw [Za0,h i hi]; grind)
 rw [a1,a2,Z26]
 exact Zaf (fun i _=>Zaf (fun j _=>by rw [hsym j i]; grind))
structure NetC (n:Nat) (E:List Sp):Prop where
 ok:NetOk n E
 con:connE n E
theorem NetC.dt {n:Nat}{E:List Sp}(h:NetC n E):dt (Rn n) (Lm id E)≠0∧0<Fsum n id (n - 1) E:=by
 obtain ⟨hp,hP,hI⟩:=Ybv h.ok
 obtain ⟨m,rfl⟩:∃ m,n=m+1:=⟨n - 1,by have:=h.ok.n2; omega⟩
 have hD:=Zwf (n:=m+1) (by omega) hp hI h.con
 refine ⟨?_,hD⟩
 have:=Z4j hP hI
 rw [Nat.add_sub_cancel] at hD
 show GoAbs.dt (List.range' 1 (m+1 - 1)) _≠0
 rw [Nat.add_sub_cancel,this]; grind
theorem NetC.uniq {n:Nat}{E:List Sp}(h:NetC n E) {x y v:Nat→Rat}(hx:Sol n E x v) (hy:Sol n E y v):∀ i,i∈Rn n→x i=y i :=
 Y0n (Zxh (R := []) (p:=id) (Ybv h.ok).2.1).sym h.dt.1 hx hy
theorem NetC.unit {n:Nat}{E:List Sp}(h:NetC n E) {a b:Nat}(ha:a<n) (hb:b<n):∃ x,Sol n E x (edge a b)∧dotN n (edge a b) x=Rr n E a b:=by
 by_cases hab:a=b
 ·subst hab
  refine ⟨fun _=>0,fun i hi=>?_,?_⟩
  ·rw [Z2m]; exact Zdu (fun j _=>by grind)
  ·unfold Rr dotN; rw [if_pos rfl]; exact Zdu (fun j _=>by grind)
 ·obtain ⟨x,x1,x2,_⟩:=Y0l h.ok h.con ha hb hab
  exact ⟨x,x1,by unfold Rr; rw [if_neg hab]; exact x2⟩
theorem Y5c {a b:Nat}:edge a b=fun i=>edge a 0 i - edge b 0 i:=by funext i; unfold edge; grind
theorem NetC.transfer {n:Nat}{E:List Sp}(h:NetC n E) {a b p q:Nat}(ha:a<n) (hb:b<n) (hp:p<n) (hq:q<n) {x:Nat→Rat}(hx:Sol n E x (edge a b)) :
  dotN n (edge p q) x=(Rr n E p b+Rr n E q a - Rr n E p a - Rr n E q b) / 2:=by
 obtain ⟨z,hz⟩:∃ z:Nat→Nat→Rat,∀ c,c<n→Sol n E (z c) (edge c 0) :=
  ⟨fun c=>if hc:c<n then Classical.choose (h.unit hc (show 0<n by omega)) else fun _=>0,fun c hc=>by
   show Sol n E (if hc:c<n then _ else _) _
   rw [dif_pos hc]
   exact (Classical.choose_spec (h.unit hc (show 0<n by omega))).1⟩
 have hP:=(Ybv h.ok).2.1
 have hsol:∀ c d,c<n→d<n→Sol n E (fun j=>z c j - z d j) (edge c d):=fun c d hc hd=>by
  rw [Y5c]; exact (hz c hc).sub (hz d hd)
 obtain ⟨g,hg⟩:∃ g:Nat→Nat→Rat,∀ c d,g c d=dotN n (edge c 0) (z d):=⟨_,fun _ _=>rfl⟩
 have hgs:∀ c d,c<n→d<n→g c d=g d c:=fun c d hc hd=>by rw [hg,hg]; exact recip hP (hz d hd) (hz c hc)
 have hexp:∀ c d e f,dotN n (edge c d) (fun j=>z e j - z f j)=g c e - g c f - g d e+g d f:=fun c d e f=>by
  rw [Y5c (a:=c) (b:=d),Yu6,Yof,Yof,hg,hg,hg,hg]; grind
 have hR:∀ c d,c<n→d<n→Rr n E c d=g c c+g d d - 2*g c d:=fun c d hc hd=>by
  obtain ⟨y,y1,y2⟩:=h.unit hc hd
  rw [← y2,Ycw (fun _ _=>rfl) (h.uniq y1 (hsol c d hc hd)),hexp,hgs d c hd hc]; grind
 rw [Ycw (fun _ _=>rfl) (h.uniq hx (hsol a b ha hb)),hexp,hR p b hp hb,hR q a hq ha,hR p a hp ha,hR q b hq hb]
 grind
end GoAbs
namespace GoAbs
end GoAbs
namespace GoAbs
open Go Go.Proofs
def Zuk:List IOp := [oI 2 (.mv (.c .nils)) 0,oI 3 (.mv (cI 0)) 0]
def Zwa:List IOp := [oI 4 (.mv (.c .nils)) 0]
def Zvd:List IOp := [mI 9 0 0,oI 10 (.len (.t 9)) 0,oI 11 (.mv (cI 0)) 0]
def Zjo:List IOp := [oI 12 (.bin .lss (.t 11) (.t 10)) 0]
def Zvv:List IOp := [xI 13 4 9 11 0,lJ 14 4 13 0,oI 6 (.alloc [.bool false,.nils,.bool false,.nils]) 0,⟨none,.st 4 (.t 6) (.t 14),1,[],[],none⟩]
def Zti:List IOp := [lJ 16 4 6 0,oI 17 (.call 65 [.t 16]) 0,mI 15 17 0,eI 18 0 15 0,eI 19 1 15 0,mI 7 18 0,mI 8 19 0]
def Zjx:List IOp := [mI 20 8 0,oI 21 (.bin .neq (.t 20) (cI 0)) 0]
def Zvr:List IOp := [mI 22 8 0,oI 2 (.mv (.c .nils)) 0,mI 3 22 0]
def Zwd:List IOp := [mI 23 4 0,mI 24 7 0,oI 25 (.bsl none 1 [.str ⟨#[]⟩] [(0,.t 24)]) 0,oI 26 (.app none 16 (.t 23) (.t 25)) 1,mI 4 26 2]
def Zqm:List IOp := [oI 27 (.bin .add (.t 11) (cI 1)) 0,mI 11 27 0]
def Zky:CC := .seq (.rg false Zjo) (.seq (.cond (.t 12) .skip (.exit 0)) (.seq (.block 1 (.seq (.rg false Zvv) (.seq (.rg false Zti) (.seq (.seq (.rg false Zjx) (.cond (.t 21) (.seq (.rg false Zvr) .ret) .skip)) (.rg false Zwd))))) (.rg false Zqm)))
def Zq0:List IOp := [mI 28 4 0,mI 2 28 0,oI 3 (.mv (cI 0)) 0]
def Z6j:CC := .seq (.rg false Zuk) (.seq (.rg false Zwa) (.seq (.seq (.rg false Zvd) (.block 0 (.loop Zky))) (.seq (.rg false Zq0) .ret)))
abbrev Yfx:Nat:=88
theorem Ych:fnOk Tryz.prog 88=some (29,Z6j,[.tmp 2,.tmp 3]):=by kernel_rfl
def Zux:List IOp := [oI 8 (.mv (.c .nils)) 0,oI 9 (.mv (cI 0)) 0]
def Zs6:List IOp := [mI 17 0 0,mI 18 1 0,mI 19 2 0,mI 20 3 0,oI 21 (.call 76 [.t 17,.t 18,.t 19,.t 20]) 0,mI 16 21 0,eI 22 0 16 0,eI 23 1 16 0,eI 24 2 16 0,oI 10 (.alloc [.int .i64 0,.nils,.nils]) 0,⟨none,.st 3 (.t 10) (.t 22),1,[],[],none⟩,mI 11 23 1,mI 12 24 1]
def Zvn:List IOp := [mI 25 12 0,oI 26 (.bin .neq (.t 25) (cI 0)) 0]
def Z9j:List IOp := [mI 27 12 0,oI 8 (.mv (.c .nils)) 0,mI 9 27 0]
def Ztd:List IOp := [oI 13 (.mv (.c .nils)) 0]
def Zsf:List IOp := [fI 28 1 10 0,lI 29 28 0,oI 30 (.len (.t 29)) 0,oI 31 (.mv (cI 0)) 0]
def Zkt:List IOp := [oI 32 (.bin .lss (.t 31) (.t 30)) 0]
def Zvu:List IOp := [mI 33 31 0,xI 34 2 29 31 0,lJ 35 2 34 0,oI 15 (.alloc [.int .i64 0,.int .i64 0]) 0,mI 14 33 1,⟨none,.st 2 (.t 15) (.t 35),1,[],[],none⟩]
def Zkf:List IOp := [mI 36 13 0,fI 37 2 10 0,lI 38 37 0,mI 39 14 0,xI 40 4 38 39 0,lJ 41 4 40 0,mI 42 11 0,fI 43 0 15 0,lI 44 43 0,xI 45 4 42 44 0,lJ 46 4 45 0,mI 47 11 0,fI 48 1 15 0,lI 49 48 0,xI 50 4 47 49 0,lJ 51 4 50 0,oI 52 (.call 79 [.t 46,.t 51]) 0,oI 53 (.call 87 [.t 41,.t 52]) 0,oI 54 (.bsl (some 4) 1 [.bool false,.nils,.bool false,.nils] [(0,.t 53)]) 0,⟨some 55,.app (some 4) 64 (.t 36) (.t 54),1,[0],[],none⟩,⟨some 13,.mv (.t 55),2,[0,1],[],none⟩]
@[go_sem ↓] theorem Z36 : autoK Zkf = (2, 1) := by kernel_rfl
@[go_sem] theorem Yov : autoK [mI 36 13 0, fI 37 2 10 0, lI 38 37 0, mI 39 14 0, xI 40 4 38 39 0, lJ 41 4 40 0, mI 42 11 0, fI 43 0 15 0, lI 44 43 0, xI 45 4 42 44 0, lJ 46 4 45 0, mI 47 11 0, fI 48 1 15 0, lI 49 48 0, xI 50 4 47 49 0, lJ 51 4 50 0, oI 52 (.call 79 [.t 46, .t 51]) 0, oI 53 (.call 87 [.t 41, .t 52]) 0, oI 54 (.bsl (some 4) 1 [.bool false, .nils, .bool false, .nils] [(0, .t 53)]) 0, ⟨some 55, .app (some 4) 64 (.t 36) (.t 54), 1, [0], [], none⟩, ⟨some 13, .mv (.t 55), 2, [0, 1], [], none⟩] = (2, 1) := Z36
def Zqi:List IOp := [oI 56 (.bin .add (.t 31) (cI 1)) 0,mI 31 56 0]
def Zj7:CC := .seq (.rg false Zkt) (.seq (.cond (.t 32) .skip (.exit 0)) (.seq (.block 1 (.seq (.rg false Zvu) (.rg true Zkf))) (.rg false Zqi)))
def Zqj:List IOp := [mI 57 13 0,oI 58 (.call 88 [.t 57]) 0,eI 59 0 58 0,eI 60 1 58 0,mI 8 59 0,mI 9 60 0]
def Z6l:CC := .seq (.rg false Zux) (.seq (.rg false Zs6) (.seq (.seq (.rg false Zvn) (.cond (.t 26) (.seq (.rg false Z9j) .ret) .skip)) (.seq (.rg false Ztd) (.seq (.seq (.rg false Zsf) (.block 0 (.loop Zj7))) (.seq (.rg false Zqj) .ret)))))
abbrev Z27:Nat:=40
theorem Yb8:fnOk Tryz.prog 40=some (61,Z6l,[.tmp 8,.tmp 9]):=by kernel_rfl
end GoAbs
namespace GoAbs
open Go Go.Proofs
section
variable {w:Nat} {M:RM} {post:Heap}
end
end GoAbs
namespace GoAbs
open Go Go.Proofs
end GoAbs
namespace GoAbs
open Go Go.Proofs
end GoAbs
namespace GoAbs
open Go Go.Proofs
end GoAbs
namespace GoAbs
end GoAbs
namespace GoAbs
open Go Go.Proofs
set_option exponentiation.threshold 20000
def ss (x:List Rat):List AV:=x.map fun q => .str (bs (numS q))
theorem Yc6 (x:List Rat):(ss x).length=x.length:=by simp [ss]
theorem Y5f {H:Heap}{ids:List Nat}{b:Nat}{x:List Rat}(hb:H[b]? = some (.cells (ss x))) (hi:b∈ids):BV H ids (.osl none b 0 x.length) (.sl (ss x)):=by
 refine .osl none b 0 x.length (ss x) (ss x) hb hi (Yc6 x) (fun y hy=>?_) (by rw [Yc6]; simp [es]) (fun i y j z w hy hz hw=>?_)
 ·obtain ⟨c,_,rfl⟩:=List.mem_map.1 hy; rfl
 ·obtain ⟨c,_,rfl⟩:=List.mem_map.1 (List.mem_of_getElem? hy)
  have hj:j=0:=by
   have:=(List.getElem?_eq_some_iff.1 hz).1
   simp [AV.cells] at this; omega
  subst hj
  simp [AV.cells] at hz
  subst hz
  simp [es] at hw
  rw [hy] at hw
  cases hw
  exact .str _
theorem Yza {f:Nat→Option Nat}{x:List Rat}:gcL f (ss x)=ss x:=by
 rw [Zaz]; unfold ss; rw [List.map_map]; rfl
def numsR (x:List Rat):AV:=if ∀ q,q∈x→NumOk q then .tup [.sl (ss x),.int .i64 0] else .tup [.nils,.int .i64 4]
theorem Y68 {x:List Rat}(hx:∀ q,q∈x→Tx q.num.natAbs∧Tx q.den) (hl:x.length≤1000000) {K:Ex→St→Prop}
  (hK:(∀ q,q∈x→NumOk q)→∀ e:Nat→AV,e 4 = .osl none 0 0 x.length→K (.exit 0) ⟨e,[.cells (ss x)]⟩)
  (hK0:(¬ ∀ q,q∈x→NumOk q)→∀ e:Nat→AV,∀ H,e 2 = .nils→e 3 = .int .i64 4→K .ret ⟨e,H⟩) :
  T Tryz.prog 29 0 (.loop Zky) ⟨envL [(4,.osl none 0 0 0),(9,.sl (condsR x)),(10,.int .i64 (x.length:Int)),(11,.int .i64 0)],[.cells []]⟩ K:=by
 have hm:Tryz.prog.follows .mixedOrders=true:=by kernel_rfl
 refine Zag (fun i:Nat=>⟨envL [(4,.osl none 0 0 i),(9,.sl (condsR x)),(10,.int .i64 (x.length:Int)),(11,.int .i64 (i:Int))],[.cells (ss (x.take i))]⟩)
  (fun i=>i≤x.length∧∀ q,q∈x.take i→NumOk q) (fun i=>x.length - i) 0 ⟨by omega,by simp⟩ (Zab _ (by simp only [go_sem]; simp)) (fun i hi N hN=>?_)
 obtain ⟨hi,hall⟩:=hi
 unfold Zky
 by_cases hin:i<x.length
 ·have gx:=Zaj hin
  have gc:=Zda gx
  have hmem:=List.mem_of_getElem? gx
  have hq:=Y22 (hx _ hmem).1 (hx _ hmem).2
  have tk:x.take (i+1)=x.take i ++ [rget x i]:=by rw [List.take_add_one,gx]; rfl
  have q0:(0:Int)≤(i:Int):=by omega
  have q1:(i:Int)<(x.length:Int):=by omega
  have e1:IntKind.i64.wrap ((i:Int)+1)=((i+1:Nat):Int):=by rw [Zac (by omega) (by omega)]; omega
  have l1:(ss (x.take i)).length=i:=by rw [Yc6,List.length_take]; omega
  have l2:(ss (x.take i)).take i=ss (x.take i):=List.take_of_length_le (by omega)
  have s1:(i+1)*16≤1099511627776:=by omega
  have ql:(qcell (rget x i)).length=4:=rfl
  have qt:(qcell (rget x i)).take 4=qcell (rget x i):=rfl
  have qd:(qcell (rget x i)).drop 4 = []:=rfl
  simp only [go_sem,Zjo,Zvv,Zti,q0,q1,gc,ql,qt,qd]
  refine Zaa hq (by simp only [go_sem,Zbb,Zan]) ?_
  by_cases hok:NumOk (rget x i)
  ·rw [if_pos hok]
   simp only [go_sem,Zjx,Zwd,Zqm,e1,l1,l2,s1]
   refine ⟨Nat.le_refl _,hN (i+1) _ ⟨by omega,?_⟩ (by omega) ?_⟩
   ·rw [tk]; intro q hq
    rcases List.mem_append.1 hq with h | h
    ·exact hall q h
    ·rw [List.mem_singleton.1 h]; exact hok
   ·refine Zdp (Zii [3] (by decide) (fun i hi=>by omega) [(4,.osl none 3 0 (i+1)),(9,.sl (condsR x)),(10,.int .i64 (x.length:Int)),(11,.int .i64 ((i+1:Nat):Int))] (by simp only [go_sem])) ?_
    have hss:ss (x.take (i+1))=ss (x.take i) ++ [.str (bs (numS (rget x i)))]:=by rw [tk]; unfold ss; rw [List.map_append]; rfl
    show St.mk _ [Blk.cells (gcL _ (ss (x.take i) ++ [.str (bs (numS (rget x i)))]))]=_
    rw [← hss,Yza]
    rfl
  ·rw [if_neg hok]
   have h4:¬ (4:Int)=0:=by decide
   simp only [go_sem,Zjx,Zvr,h4]
   exact hK0 (fun h=>hok (h _ hmem)) _ _ (by simp only [go_sem]) (by simp only [go_sem])
 ·have hie:i=x.length:=by omega
  subst hie
  have q1:¬ ((x.length:Nat):Int)<(x.length:Int):=by omega
  rw [List.take_length] at hall ⊢
  simp only [go_sem,Zjo,q1]
  exact hK hall _ (by simp only [go_sem])
theorem Yu4 {x:List Rat}(hx:∀ q,q∈x→Tx q.num.natAbs∧Tx q.den) (hl:x.length≤1000000):SpecV Tryz.prog Yfx [.sl (condsR x)] (numsR x):=by
 refine Zbr Ych (by simp) (Zen 1 rfl ?_)
 unfold Z6j
 simp only [go_sem,Zuk,Zwa]
 refine T_le (Z3z 4 none (by simp only [go_sem]) [(0,.sl (condsR x)),(2,.nils),(3,.int .i64 0)] (by simp only [go_sem])) ?_
 refine T_W ?_
 simp only [go_sem,Zvd,Zcf]
 refine Za2 [(4,.osl none 0 0 0),(9,.sl (condsR x)),(10,.int .i64 (x.length:Int)),(11,.int .i64 0)] (by simp only [go_sem]) ?_
 refine Y68 hx hl (fun hall e e4=>?_) (fun hall e H e2 e3=>?_)
 ·simp only [go_sem,Zq0,e4,numsR,if_pos hall]
  exact Y5f rfl (by simp [allOf])
 ·simp only [go_sem,e2,e3,numsR,if_neg hall]
end GoAbs
namespace GoAbs
open Go Go.Proofs
end GoAbs
namespace GoAbs
open Go Go.Proofs
end GoAbs
namespace GoAbs
open Go Go.Proofs
end GoAbs
namespace GoAbs
open Go Go.Proofs
end GoAbs
namespace GoAbs
open Go Go.Proofs
def Zn3:List IOp := [oI 2 (.mv (.c .nils)) 0,oI 3 (.mv (.c (.bool false))) 0]
def Znb:List IOp := [oI 4 (.mv (.c .nils)) 0]
def Zn5:List IOp := [mI 9 0 0,oI 10 (.len (.t 9)) 0,oI 11 (.mv (cI 0)) 0]
def Zgw:List IOp := [oI 12 (.bin .lss (.t 11) (.t 10)) 0]
def Zn6:List IOp := [xI 13 1 9 11 0,lI 14 13 0,mI 6 14 0]
def Zn7:List IOp := [mI 16 6 0,oI 17 (.call 109 [.t 16]) 0,mI 15 17 0,eI 18 0 15 0,eI 19 1 15 0,oI 7 (.alloc [.bool false,.nils,.bool false,.nils]) 0,⟨none,.st 4 (.t 7) (.t 18),1,[],[],none⟩,mI 8 19 1]
def Zgj:List IOp := [mI 20 8 0,oI 21 (.un .not (.t 20)) 0]
def Zn1:List IOp := [oI 2 (.mv (.c .nils)) 0,oI 3 (.mv (.c (.bool false))) 0]
def Znq:List IOp := [mI 22 4 0,lJ 23 4 7 0,oI 24 (.bsl (some 4) 1 [.bool false,.nils,.bool false,.nils] [(0,.t 23)]) 0,oI 25 (.app (some 4) 64 (.t 22) (.t 24)) 1,mI 4 25 2]
def Zlw:List IOp := [oI 26 (.bin .add (.t 11) (cI 1)) 0,mI 11 26 0]
def Zgl:CC := .seq (.rg false Zgw) (.seq (.cond (.t 12) .skip (.exit 0)) (.seq (.block 1 (.seq (.rg false Zn6) (.seq (.rg false Zn7) (.seq (.seq (.rg false Zgj) (.cond (.t 21) (.seq (.rg false Zn1) .ret) .skip)) (.rg false Znq))))) (.rg false Zlw)))
def Zl2:List IOp := [mI 27 4 0,mI 2 27 0,oI 3 (.mv (.c (.bool true))) 0]
def Zww:CC := .seq (.rg false Zn3) (.seq (.rg false Znb) (.seq (.seq (.rg false Zn5) (.block 0 (.loop Zgl))) (.seq (.rg false Zl2) .ret)))
abbrev Z95:Nat:=91
theorem Z7s:fnOk Tryz.prog 91=some (28,Zww,[.tmp 2,.tmp 3]):=by kernel_rfl
end GoAbs
namespace GoAbs
open Go Go.Proofs
set_option exponentiation.threshold 20000
def txts (L:List (List UInt8)):List AV:=L.map fun l => .str (bs l)
theorem Y30 (L:List (List UInt8)):(txts L).length=L.length:=by simp [txts]
theorem Y3b {L:List (List UInt8)}{i:Nat}{l:List UInt8}(h:L[i]? = some l):(txts L)[i]? = some (.str (bs l)):=by simp [txts,h]
theorem Yuu {x:List Rat}:ss x=txts (x.map numS):=by unfold ss txts; rw [List.map_map]; rfl
def toQ (l:List UInt8):Rat:=(parseL l).getD 0
def vecR (L:List (List UInt8)):AV:=if ∀ l,l∈L→(parseL l).isSome=true then .tup [.sl (condsR (L.map toQ)),.bool true] else .tup [.nils,.bool false]
theorem Xag {L:List (List UInt8)}(hl:∀ l,l∈L→l.length≤1000000000) (hL:L.length≤1000000) {K:Ex→St→Prop}
  (hK:(∀ l,l∈L→(parseL l).isSome=true)→∀ e:Nat→AV,e 4 = .osl (some 4) 0 0 L.length→K (.exit 0) ⟨e,[.cells (qc (L.map toQ))]⟩)
  (hK0:(¬ ∀ l,l∈L→(parseL l).isSome=true)→∀ e:Nat→AV,∀ H,e 2 = .nils→e 3 = .bool false→K .ret ⟨e,H⟩) :
  T Tryz.prog 28 0 (.loop Zgl) ⟨envL [(4,.osl (some 4) 0 0 0),(9,.sl (txts L)),(10,.int .i64 (L.length:Int)),(11,.int .i64 0)],[.cells []]⟩ K:=by
 have hm:Tryz.prog.follows .mixedOrders=true:=by kernel_rfl
 refine Zag (fun i:Nat=>⟨envL [(4,.osl (some 4) 0 0 i),(9,.sl (txts L)),(10,.int .i64 (L.length:Int)),(11,.int .i64 (i:Int))],[.cells (qc ((L.take i).map toQ))]⟩)
  (fun i=>i≤L.length∧∀ l,l∈L.take i→(parseL l).isSome=true) (fun i=>L.length - i) 0 ⟨by omega,by simp⟩ (Zab _ (by simp only [go_sem]; simp)) (fun i hi N hN=>?_)
 obtain ⟨hi,hall⟩:=hi
 unfold Zgl
 by_cases hin:i<L.length
 ·obtain ⟨l,hli⟩:∃ l,L[i]? = some l:=⟨_,List.getElem?_eq_getElem hin⟩
  have hmem:=List.mem_of_getElem? hli
  obtain ⟨c,t,hc,hcg,hcb,hsp,hct⟩:=Yjt (hl l hmem)
  have gl:=Y3b hli
  have tk:L.take (i+1)=L.take i ++ [l]:=by rw [List.take_add_one,hli]; rfl
  have q0:(0:Int)≤(i:Int):=by omega
  have q1:(i:Int)<(L.length:Int):=by omega
  have e1:IntKind.i64.wrap ((i:Int)+1)=((i+1:Nat):Int):=by rw [Zac (by omega) (by omega)]; omega
  have l1:(qc ((L.take i).map toQ)).length=i*4:=by rw [Zm1,List.length_map,List.length_take]; congr 1; omega
  have l2:(qc ((L.take i).map toQ)).take (i*4)=qc ((L.take i).map toQ):=List.take_of_length_le (by omega)
  have l3:i*4≤(qc ((L.take i).map toQ)).length:=by omega
  have s1:(i+1)*64≤1099511627776:=by omega
  have ct:c.take 4=c:=List.take_of_length_le (by omega)
  have cd:c.drop 4 = []:=List.drop_of_length_le (by omega)
  simp only [go_sem,Zgw,Zn6,Zn7,q0,q1,gl]
  refine Zaa hsp (by simp only [go_sem]) ?_
  rcases hct with ⟨rfl,q,hq,rfl⟩ | ⟨rfl,hq⟩
  ·simp only [go_sem,Zgj,Znq,Zlw,hc,ct,cd,Bool.not_true,e1,l1,l2,l3,s1]
   refine ⟨Nat.le_refl _,hN (i+1) _ ⟨by omega,?_⟩ (by omega) ?_⟩
   ·rw [tk]; intro y hy
    rcases List.mem_append.1 hy with h | h
    ·exact hall y h
    ·rw [List.mem_singleton.1 h,hq]; rfl
   ·refine Zdp (Zii [3] (by decide) (fun i hi=>by omega) [(4,.osl (some 4) 3 0 (i+1)),(9,.sl (txts L)),(10,.int .i64 (L.length:Int)),(11,.int .i64 ((i+1:Nat):Int))] (by simp only [go_sem])) ?_
    have hqq:toQ l=q:=by unfold toQ; rw [hq]; rfl
    have hss:qc ((L.take (i+1)).map toQ)=qc ((L.take i).map toQ)++qcell q:=by rw [tk,List.map_append,Zvz, ← hqq]; simp [qc]
    show St.mk _ [Blk.cells (gcL _ (qc ((L.take i).map toQ)++qcell q))]=_
    rw [← hss,Ym1]
    rfl
  ·simp only [go_sem,Zgj,Zn1,hc,ct,cd,Bool.not_false]
   exact hK0 (fun h=>by have:=h l hmem; rw [hq] at this; cases this) _ _ (by simp only [go_sem]) (by simp only [go_sem])
 ·have hie:i=L.length:=by omega
  subst hie
  have q1:¬ ((L.length:Nat):Int)<(L.length:Int):=by omega
  rw [List.take_length] at hall ⊢
  simp only [go_sem,Zgw,q1]
  exact hK hall _ (by simp only [go_sem])
theorem Z8u {L:List (List UInt8)}(hl:∀ l,l∈L→l.length≤1000000000) (hL:L.length≤1000000):SpecV Tryz.prog Z95 [.sl (txts L)] (vecR L):=by
 refine Zbr Z7s (by simp) (Zen 1 rfl ?_)
 unfold Zww
 simp only [go_sem,Zn3,Znb]
 refine T_le (Z3z 4 (some 4) (by simp only [go_sem]) [(0,.sl (txts L)),(2,.nils),(3,.bool false)] (by simp only [go_sem])) ?_
 refine T_W ?_
 simp only [go_sem,Zn5,Y30]
 refine Za2 [(4,.osl (some 4) 0 0 0),(9,.sl (txts L)),(10,.int .i64 (L.length:Int)),(11,.int .i64 0)] (by simp only [go_sem]) ?_
 refine Xag hl hL (fun hall e e4=>?_) (fun hall e H e2 e3=>?_)
 ·simp only [go_sem,Zl2,e4,vecR,if_pos hall]
  have:=Zwi (H := [.cells (qc (L.map toQ))]) (ids:=allOf [.cells (qc (L.map toQ))]) (b:=0) (r:=L.map toQ) rfl (by simp [allOf])
  rwa [List.length_map] at this
 ·simp only [go_sem,e2,e3,vecR,if_neg hall]
end GoAbs
namespace GoAbs
open Go Go.Proofs
set_option exponentiation.threshold 20000
def lt1 (a b i:Nat):List UInt8:=if i=b then [45,49] else if i=a then [49] else [48]
end GoAbs
namespace GoAbs
open Go Go.Proofs
set_option exponentiation.threshold 20000
theorem Yow {m:Nat}{E:List Sp}{f:List Rat}(h:NetC (m+1) E) (hf:f.length=m+1):Sol (m+1) E (rget (moveX m E f)) (rget f):=fun i hi=>by
 obtain ⟨hp,hP,hI⟩:=Ybv h.ok
 have hd:=h.dt.1
 have hi':=List.mem_range'_1.1 hi
 have hs:=(Z3h (m:=m) (E:=E) (r:=f.drop 1) (fun e he=>⟨by have:=(hI e he).1; omega,by have:=(hI e he).2; omega,(h.ok.e e he).2.2.1,hP e he⟩) (by rw [List.length_drop]; omega) hd).2.2.2 i (by rw [List.mem_range'_1]; omega)
 rw [Z83,show i - 1+1=i by omega] at hs
 exact hs
theorem Y2y {m p q:Nat}{x:Nat→Rat}(hp:p<m+1) (hq:q<m+1) (h0:x 0=0):dotN (m+1) (edge p q) x=x p - x q:=by
 unfold dotN
 exact Z9r (by omega) (by omega) h0
def Gr (n:Nat) (E:List Sp) (a b:Nat):Rat:=if a=b then 0 else oneF n a b E
theorem Y0k {n a b:Nat}{E:List Sp}:Rr n E a b=Gr n E a b / Fsum n id (n - 1) E:=by
 unfold Rr Gr; split
 ·grind
 ·rfl
theorem NetL.netC {n:Nat}{L:List Spr}(h:NetL n L) (h2:2≤n) (h6:n≤6) (hc:connE n (L.map toE)):NetC n (L.map toE):=⟨(h.read h2 h6).2,hc⟩
theorem NetL.grb {n a b:Nat}{L:List Spr}(h:NetL n L) (h2:2≤n) (ha:a<n) (hb:b<n):Qb 900 (Gr n (L.map toE) a b):=by
 unfold Gr
 split
 ·exact Qb.zero (by omega)
 ·rename_i hab
  rw [Zjc h2 h ha hb hab]
  have hone:=Yge h (low:=min a b) (high:=max a b) (by omega) (by omega)
  have c:10 ^ 260<2 ^ 900:=by decide+kernel
  exact ⟨Nat.lt_trans hone.size.1 c,Nat.lt_trans hone.size.2 c⟩
theorem Yqw {m a b p q:Nat}{L:List Spr}(h:NetL (m+1) L) (hm5:m≤5) (hm:1≤m) (hc:connE (m+1) (L.map toE)) (ha:a<m+1) (hb:b<m+1) (hp:p<m+1) (hq:q<m+1) {x:Nat→Rat}(hx:Sol (m+1) (L.map toE) x (edge a b)) (h0:x 0=0) :
  Qb 4505 (x p - x q):=by
 have hn:=h.netC (by omega) (by omega) hc
 have ht:=hn.transfer ha hb hp hq hx
 rw [Y2y hp hq h0] at ht
 rw [ht,Y0k,Y0k,Y0k,Y0k]
 have hD:=hn.dt.2
 have kD:Qb 900 (Fsum (m+1) id (m+1 - 1) (L.map toE)):=by
  have c:10 ^ 260<2 ^ 900:=by decide+kernel
  exact ⟨Nat.lt_trans h.size.1 c,Nat.lt_trans h.size.2 c⟩
 have g1:=h.grb (a:=p) (b:=b) (by omega) hp hb
 have g2:=h.grb (a:=q) (b:=a) (by omega) hq ha
 have g3:=h.grb (a:=p) (b:=a) (by omega) hp ha
 have g4:=h.grb (a:=q) (b:=b) (by omega) hq hb
 generalize Fsum (m+1) id (m+1 - 1) (L.map toE)=D at *
 generalize Gr (m+1) (L.map toE) p b=A at *
 generalize Gr (m+1) (L.map toE) q a=B at *
 generalize Gr (m+1) (L.map toE) p a=C at *
 generalize Gr (m+1) (L.map toE) q b=F at *
 have hD0:D≠0:=by grind
 have e:(A / D+B / D - C / D - F / D) / 2=(A+B - C - F) / (2*D):=by grind
 rw [e]
 have k2:Qb 2 (2:Rat):=⟨by decide+kernel,by decide+kernel⟩
 exact ((((g1.add2 g2).sub2 g3).sub2 g4).div2 (k2.mul2 kD) (by grind)).mono (by omega)
theorem Zeq {k:Nat}{q:Rat}(h:Qb k q) (hk:k≤12000):NumOk q:=by
 have e:2 ^ k≤10 ^ 4000:=by
  have h1:2 ^ k≤2 ^ 12000:=Nat.pow_le_pow_right (by omega) hk
  have h2:2 ^ 12000=8 ^ 4000:=by rw [show (8:Nat)=2 ^ 3 by decide, ← Nat.pow_mul]
  have h3:8 ^ 4000≤10 ^ 4000:=Nat.pow_le_pow_left (by omega) _
  rw [h2] at h1
  exact Nat.le_trans h1 h3
 exact ⟨Zl8 (by omega) (Nat.lt_of_lt_of_le h.n e),.inr (Zl8 (by omega) (Nat.lt_of_lt_of_le h.d e))⟩
theorem Yeg {n i:Nat}{f:Nat→Rat}(hi:i<n):rget ((List.range n).map f) i=f i:=by
 unfold rget
 rw [List.getD_eq_getElem?_getD,List.getElem?_map,List.getElem?_range hi]; rfl
theorem Yo4 {n a b:Nat}(ha:a<n) (hb:b<n):sumL (List.range n) (edge a b)=0:=by
 have h:∀ c,c<n→sumL (List.range n) (fun i=>(if i=c then (1:Rat) else 0))=1:=fun c hc=>by
  have:=Zkl (R:=List.range n) (a:=c) (x:=fun _=>1) List.nodup_range
  rw [if_pos (List.mem_range.2 hc)] at this
  rw [← this]
  exact Zaf (fun i _=>by grind)
 have e:sumL (List.range n) (edge a b)=sumL (List.range n) (fun i=>(if i=a then (1:Rat) else 0))+(-1)*sumL (List.range n) (fun i=>(if i=b then (1:Rat) else 0)):=by
  rw [← Za0, ← Zba]
  exact Zaf (fun i _=>by unfold edge; grind)
 rw [e,h a ha,h b hb]; grind
theorem Yt4 {a b i:Nat}(hab:a≠b):edge a b i=0∨edge a b i=1∨edge a b i = -1:=by
 unfold edge
 by_cases h1:i=a <;> by_cases h2:i=b <;> simp [h1,h2,hab] <;> grind
theorem Yvl {a b i:Nat}(hab:a≠b):Qb 2 (edge a b i):=by
 rcases Yt4 (i:=i) hab with h | h | h <;> rw [h] <;> exact ⟨by decide+kernel,by decide+kernel⟩
end GoAbs
namespace GoAbs
open Go Go.Proofs
end GoAbs
namespace GoAbs
open Go Go.Proofs
end GoAbs
namespace GoAbs
open Go Go.Proofs
set_option exponentiation.threshold 20000
def flowX (E:List Sp) (x:List Rat):List Rat:=E.map fun e=>e.2.2*(rget x e.1 - rget x e.2.1)
theorem Y8e {k:Nat}{N0:AV}{E:List Sp}{x:List Rat}{ps cs:List AV}(hps:ps=pairsL E) (hcs:cs=condsL E) (hE:∀ e,e∈E→e.1<x.length∧e.2.1<x.length∧Qb 67 e.2.2) (hEl:E.length≤1000000) (hx:Rb k x) (hk1:67≤k) (hk:k≤60000000000) (hN0:∀ f,N0.gc f=N0) {K:Ex→St→Prop}
  (hK:∀ e:Nat→AV,e 13 = .osl (some 4) 1 0 E.length→K (.exit 0) ⟨e,[.cells [N0,.sl ps,.sl cs],.cells (qc (flowX E x))]⟩) :
  T Tryz.prog 61 0 (.loop Zj7) ⟨envL [(10,.ptr 0 0),(11,.sl (condsR x)),(13,.osl (some 4) 1 0 0),(29,.sl ps),(30,.int .i64 (E.length:Int)),(31,.int .i64 0)],[.cells [N0,.sl ps,.sl cs],.cells []]⟩ K:=by
 have hm:Tryz.prog.follows .mixedOrders=true:=by kernel_rfl
 have hpl:ps.length=E.length:=by rw [hps]; simp [pairsL]
 have hcl:cs.length=E.length:=by rw [hcs]; simp [condsL]
 refine Zag (fun i:Nat=>⟨envL [(10,.ptr 0 0),(11,.sl (condsR x)),(13,.osl (some 4) 1 0 i),(29,.sl ps),(30,.int .i64 (E.length:Int)),(31,.int .i64 (i:Int))],[.cells [N0,.sl ps,.sl cs],.cells (qc (flowX (E.take i) x))]⟩)
  (fun i=>i≤E.length) (fun i=>E.length - i) 0 (by omega) (Zab _ (by simp only [go_sem]; simp)) (fun i hi N hN=>?_)
 unfold Zj7
 by_cases hin:i<E.length
 ·obtain ⟨⟨a,b,q⟩,he⟩:∃ e:Sp,E[i]? = some e:=⟨_,List.getElem?_eq_getElem hin⟩
  obtain ⟨ha,hb,hq⟩:=hE _ (List.mem_of_getElem? he)
  simp only at ha hb hq
  have gp:ps[i]? = some (.agg [.int .i64 (a:Int),.int .i64 (b:Int)]):=by rw [hps]; unfold pairsL; rw [List.getElem?_map,he]; rfl
  have gk:cs[i]? = some (.agg (qcell q)):=by rw [hcs]; unfold condsL; rw [List.getElem?_map,he]; rfl
  have ga:=Zda (Zaj ha)
  have gb:=Zda (Zaj hb)
  have tk:flowX (E.take (i+1)) x=flowX (E.take i) x ++ [q*(rget x a - rget x b)]:=by
   rw [List.take_add_one,he]; unfold flowX; rw [List.map_append]; rfl
  have lF:(flowX (E.take i) x).length=i:=by unfold flowX; rw [List.length_map,List.length_take]; omega
  have b1:=(hx.get ha).sub2 (hx.get hb)
  have h1:=Yxm (k:=k) (hx.get ha) (hx.get hb) (by omega)
  have h2:=Ywf (k:=k+k+1) (hq.mono (by omega)) b1 (by omega)
  generalize rget x a=xa at *
  generalize rget x b=xb at *
  generalize flowX (E.take i) x=F at *
  have q0:(0:Int)≤(i:Int):=by omega
  have q1:(i:Int)<(E.length:Int):=by omega
  have a0:(0:Int)≤(a:Int):=by omega
  have b0:(0:Int)≤(b:Int):=by omega
  have e1:IntKind.i64.wrap ((i:Int)+1)=((i+1:Nat):Int):=by rw [Zac (by omega) (by omega)]; omega
  have l1:(qc F).length=i*4:=by rw [Zm1,lF]
  have l2:(qc F).take (i*4)=qc F:=List.take_of_length_le (by omega)
  have l3:i*4≤(qc F).length:=by omega
  have s1:(i+1)*64≤1099511627776:=by omega
  have ql:∀ q:Rat,(qcell q).length=4:=fun q=>rfl
  have qt:∀ q:Rat,(qcell q).take 4=qcell q:=fun q=>rfl
  have qd:∀ q:Rat,(qcell q).drop 4 = []:=fun q=>rfl
  simp only [go_sem,Zkt,Zvu,Zkf,Zqi,hm,q0,q1,hpl,hcl,gp,gk,a0,b0,ga,gb,ql,qt,qd]
  refine Zaa h1 (by simp only [go_sem,Zbb,Zan]) ?_
  simp only [go_sem]
  refine Zaa h2 (by simp only [go_sem,Zbb,Zan]) ?_
  simp only [go_sem,Zbb,ql,qt,qd,l1,l2,l3,s1,e1]
  refine ⟨Nat.le_refl _,hN (i+1) _ (by omega) (by omega) (Zdp (Zii [0,4] (by decide) (fun i hi=>by omega) [(10,.ptr 0 0),(11,.sl (condsR x)),(13,.osl (some 4) 4 0 (i+1)),(29,.sl ps),(30,.int .i64 (E.length:Int)),(31,.int .i64 ((i+1:Nat):Int))] (by simp only [go_sem])) ?_)⟩
  have hqc:qc (flowX (E.take (i+1)) x)=qc F++qcell (q*(xa - xb)):=by rw [tk,Zvz]; simp [qc]
  show St.mk _ [Blk.cells [N0.gc _,AV.sl ps,AV.sl cs],Blk.cells (gcL _ (qc F++qcell (q*(xa - xb))))]=_
  rw [← hqc,Ym1,hN0]
  rfl
 ·have hie:i=E.length:=by omega
  subst hie
  have q1:¬ ((E.length:Nat):Int)<(E.length:Int):=by omega
  simp only [go_sem,Zkt,q1,List.take_length]
  exact hK _ (by simp only [go_sem])
theorem Y6d {n a b k:Nat}{L:List Spr}{E:List Sp}{x:List Rat}(h:SpecV Tryz.prog Zja [.int .i64 (n:Int),.sl (L.map sprAV),.int .i64 (a:Int),.int .i64 (b:Int)] (.tup [.agg (netC n E),.sl (condsR x),.int .i64 0]))
  (hE:∀ e,e∈E→e.1<x.length∧e.2.1<x.length∧Qb 67 e.2.2) (hEl:E.length≤1000000) (hx:Rb k x) (hk1:67≤k) (hk:k≤60000000000) :
  SpecV Tryz.prog Z27 [.int .i64 (n:Int),.sl (L.map sprAV),.int .i64 (a:Int),.int .i64 (b:Int)] (numsR (flowX E x)):=by
 have hfl:(flowX E x).length=E.length:=by simp [flowX]
 have hns:=Yu4 (x:=flowX E x) (fun q hq=>by
  obtain ⟨e,he,rfl⟩:=List.mem_map.1 hq
  obtain ⟨ha,hb,hq⟩:=hE e he
  have b2:=hq.mul2 ((hx.get ha).sub2 (hx.get hb))
  exact ⟨Zmp b2.n (by omega),Zmp b2.d (by omega)⟩) (by omega)
 have hbv:=Zwi (H := [.cells (netC n E),.cells (qc (flowX E x))]) (ids := [1]) (b:=1) (r:=flowX E x) rfl (by simp)
 rw [hfl] at hbv
 obtain ⟨ps,hps⟩:∃ ps,ps=pairsL E:=⟨_,rfl⟩
 obtain ⟨cs,hcs⟩:∃ cs,cs=condsL E:=⟨_,rfl⟩
 have hn:netC n E = [.int .i64 (n:Int),.sl ps,.sl cs]:=by rw [hps,hcs]; rfl
 have hpl:ps.length=E.length:=by rw [hps]; simp [pairsL]
 rw [hn] at h hbv
 refine Zbr Yb8 (by simp) (Zen 3 rfl ?_)
 unfold Z6l
 simp only [go_sem,Zux,Zs6]
 refine Zaa h (by simp only [go_sem]) ?_
 simp only [go_sem,Zvn,Ztd]
 refine T_le (Z3z 13 (some 4) (by simp only [go_sem]) [(10,.ptr 0 0),(11,.sl (condsR x)),(8,.nils),(9,.int .i64 0)] (by simp only [go_sem])) ?_
 refine T_W ?_
 simp only [go_sem,Zsf,hpl]
 refine Za2 [(10,.ptr 0 0),(11,.sl (condsR x)),(13,.osl (some 4) 1 0 0),(29,.sl ps),(30,.int .i64 (E.length:Int)),(31,.int .i64 0)] (by simp only [go_sem]) ?_
 refine Y8e hps hcs hE hEl hx hk1 hk (fun f=>rfl) (fun e e13=>?_)
 simp only [go_sem,Zqj,e13]
 refine Zhl (ids := [1]) hns (by simp only [go_sem]; exact hbv) ?_
 unfold numsR
 by_cases hall:∀ q,q∈flowX E x→NumOk q
 ·simp only [if_pos hall,go_sem]
 ·simp only [if_neg hall,go_sem]
theorem Yw5 {m a b:Nat}{L:List Spr}{E:List Sp}(hE:E=L.map toE) (hL:L.length≤40) (hl:∀ s,s∈L→s.2.2.length≤1000000000) (h:readR ((m+1:Nat):Int) L = .tup [.agg (netC (m+1) E),.int .i64 0]) (ho:NetOk (m+1) E) (hm5:m≤5) (hc:connE (m+1) E)
  (ha:a≤m) (hb:b≤m) (hab:a≠b) :
  SpecV Tryz.prog Z27 [.int .i64 ((m+1:Nat):Int),.sl (L.map sprAV),.int .i64 (a:Int),.int .i64 (b:Int)] (numsR (flowX E (unitX m a b E))):=by
 have hEl:E.length≤40:=by rw [hE,List.length_map]; exact hL
 obtain ⟨hmv,hxb⟩:=Yag ho hm5 hEl hc (f:=unitF (m+1) a b) Ze8 Yb7
 have hxl:(unitX m a b E).length=m+1:=by unfold unitX; rw [List.length_cons,Zg4]
 have hld:=Yj0 hE hL hl h ho hm5 hc ha hb hab
 exact Y6d (k:=7000000000) hld (fun e he=>⟨by rw [hxl]; exact (ho.e e he).1,by rw [hxl]; exact (ho.e e he).2.1,(ho.e e he).2.2.2.2.bits⟩) (by omega) hxb (by omega) (by omega)
end GoAbs
namespace GoAbs
open Go Go.Proofs
end GoAbs
namespace GoAbs
open Go Go.Proofs
end GoAbs
namespace GoAbs
open Go Go.Proofs
set_option exponentiation.threshold 20000
theorem NetL.disp {m:Nat}{L:List Spr}(h:NetL (m+1) L) (hm5:m≤5) (hm:1≤m) (hc:connE (m+1) (L.map toE)) {a b:Nat}(ha:a<m+1) (hb:b<m+1) (hab:a≠b):Rb 4505 (unitX m a b (L.map toE)):=fun x hx=>by
 have hn:=h.netC (by omega) (by omega) hc
 have hs:=Yow (m:=m) (E:=L.map toE) (f:=unitF (m+1) a b) hn Ze8
 have hs':Sol (m+1) (L.map toE) (rget (unitX m a b (L.map toE))) (edge a b):=fun i hi=>by
  rw [← Z8c ha hb hab (i:=i)]; exact hs i hi
 obtain ⟨i,hi⟩:=List.mem_iff_getElem?.1 hx
 have hil:i<(unitX m a b (L.map toE)).length:=(List.getElem?_eq_some_iff.1 hi).1
 have hxl:(unitX m a b (L.map toE)).length=m+1:=by unfold unitX; rw [List.length_cons,Zg4]
 have hd:=Yqw h hm5 hm hc ha hb (p:=i) (q:=0) (by omega) (by omega) hs' rfl
 have hx':x=rget (unitX m a b (L.map toE)) i:=by rw [Zaj hil] at hi; exact (Option.some.inj hi).symm
 have h0:rget (unitX m a b (L.map toE)) 0=0:=rfl
 rw [h0] at hd
 rw [hx',show rget (unitX m a b (L.map toE)) i=rget (unitX m a b (L.map toE)) i - 0 by grind]
 exact hd
theorem Yvg {m k:Nat}{E:List Sp}{x:List Rat}(hE:∀ e,e∈E→e.1<x.length∧e.2.1<x.length∧Qb 20 e.2.2) (hx:Rb k x):Rb (20+(k+k+1)) (flowX E x):=fun y hy=>by
 unfold flowX at hy
 obtain ⟨e,he,rfl⟩:=List.mem_map.1 hy
 obtain ⟨h1,h2,h3⟩:=hE e he
 exact (h3.mul2 ((hx.get h1).sub2 (hx.get h2))).mono (by omega)
end GoAbs
namespace GoAbs
open Go Go.Proofs
set_option exponentiation.threshold 20000
end GoAbs
namespace GoAbs
open Go Go.Proofs
set_option exponentiation.threshold 20000
end GoAbs
namespace GoAbs
open Go Go.Proofs
set_option exponentiation.threshold 20000
theorem Yw7 {R:List Nat}{g:Nat→Rat}{k:Nat}(h:∀ i,i∈R→Qb k (g i)):Qb (1+R.length*(k+1)) (sumL R g):=by
 induction R with
 | nil=>exact Qb.zero (by omega)
 | cons i R ih =>
  rw [Zal]
  exact ((h i (by simp)).add2 (ih (fun j hj=>h j (by simp [hj])))).mono (by rw [List.length_cons,Nat.add_mul]; omega)
end GoAbs
namespace GoAbs
open Go Go.Proofs
set_option exponentiation.threshold 20000
end GoAbs
namespace GoAbs
open Go Go.Proofs
set_option exponentiation.threshold 20000
end GoAbs
namespace GoAbs
open Go Go.Proofs
set_option exponentiation.threshold 20000
end GoAbs
namespace GoAbs
open Go Go.Proofs
set_option exponentiation.threshold 20000
def divg (i:Nat):List Sp→List Rat→Rat
 | e::E,q::F=>q*edge e.1 e.2.1 i+divg i E F
 | _,_=>0
theorem Z8k {i:Nat}{e:Sp}{q:Rat}:∀ {E:List Sp}{F:List Rat},E.length=F.length→divg i (E ++ [e]) (F ++ [q])=divg i E F+q*edge e.1 e.2.1 i
 | [],[],_=>by simp [divg]; grind
 | [],_::_,h=>by simp at h
 | _::_,[],h=>by simp at h
 | a::E,b::F,h=>by
  rw [List.cons_append,List.cons_append]
  show b*edge a.1 a.2.1 i+divg i (E ++ [e]) (F ++ [q])=b*edge a.1 a.2.1 i+divg i E F+q*edge e.1 e.2.1 i
  rw [Z8k (by simpa using h)]; grind
theorem Yoq {a b i:Nat}:Qb 2 (edge a b i):=by
 by_cases hab:a=b
 ·subst hab; rw [Z2m]; exact Qb.zero (by omega)
 ·exact Yvl hab
theorem Yj1 {i k:Nat}:∀ {E:List Sp}{F:List Rat},(∀ q,q∈F→Qb k q)→Qb (1+F.length*(k+3)) (divg i E F)
 | [],F,_=>by unfold divg; exact Qb.zero (by omega)
 | _::_,[],_=>by unfold divg; exact Qb.zero (by omega)
 | e::E,q::F,h=>by
  unfold divg
  exact (((h q (by simp)).mul2 Yoq).add2 (Yj1 (fun x hx=>h x (by simp [hx])))).mono (by rw [List.length_cons,Nat.add_mul]; omega)
def restL (n a b:Nat) (E:List Sp) (F:List Rat):List Rat:=(List.range n).map fun i=>divg i E F - edge a b i
theorem Zbn {n a b:Nat}{E:List Sp}{F:List Rat}:(restL n a b E F).length=n:=by simp [restL]
theorem Zjy {n a b i:Nat}{E:List Sp}{F:List Rat}(hi:i<n):rget (restL n a b E F) i=divg i E F - edge a b i:=Yeg hi
theorem Yso {n a b k:Nat}{E:List Sp}{F:List Rat}(h:∀ q,q∈F→Qb k q):Rb (F.length*(k+3)+4) (restL n a b E F):=fun x hx=>by
 unfold restL at hx
 obtain ⟨i,_,rfl⟩:=List.mem_map.1 hx
 exact ((Yj1 h).sub2 Yoq).mono (by omega)
theorem Yq1 {n a b:Nat}(ha:a<n) (hb:b<n) (hab:a≠b):((List.replicate n (0:Rat)).set a (-1)).set b 1=restL n a b [] []:=by
 apply List.ext_getElem?
 intro i
 by_cases hi:i<n
 ·rw [Zaj (by simp; exact hi),Zaj (by rw [Zbn]; exact hi),Zjy hi,Zha (by simp; exact hb),Zha (by simp; exact ha)]
  have h0:rget (List.replicate n (0:Rat)) i=0:=by
   unfold rget; rw [List.getD_eq_getElem?_getD,List.getElem?_replicate,if_pos hi]; rfl
  rw [h0]
  unfold divg edge
  by_cases h1:i=a
  ·rw [if_neg (by omega),if_pos h1,if_pos h1,if_neg (by omega)]; congr 1; grind
  ·by_cases h2:i=b
   ·rw [if_pos h2,if_neg h1,if_pos h2]; congr 1; grind
   ·rw [if_neg h2,if_neg h1,if_neg h1,if_neg h2]; congr 1; grind
 ·rw [List.getElem?_eq_none (by simp; omega),List.getElem?_eq_none (by rw [Zbn]; omega)]
theorem Ytw {n a b:Nat}{e:Sp}{q:Rat}{E:List Sp}{F:List Rat}(hEF:E.length=F.length) (h1:e.1<n) (h2:e.2.1<n) (h12:e.1≠e.2.1) :
  ((restL n a b E F).set e.1 (rget (restL n a b E F) e.1+q)).set e.2.1 (rget ((restL n a b E F).set e.1 (rget (restL n a b E F) e.1+q)) e.2.1 - q)=restL n a b (E ++ [e]) (F ++ [q]):=by
 apply List.ext_getElem?
 intro i
 by_cases hi:i<n
 ·rw [Zaj (by simp [Zbn]; exact hi),Zaj (by rw [Zbn]; exact hi),Zjy hi,Zha (by simp [Zbn]; exact h2),Zha (by rw [Zbn]; exact h1),Zha (by rw [Zbn]; exact h1),Z8k hEF,Zjy h1,Zjy h2,Zjy hi]
  unfold edge
  by_cases k1:i=e.1
  ·subst k1
   rw [if_neg h12,if_pos rfl,if_pos rfl,if_neg h12]; congr 1; grind
  ·by_cases k2:i=e.2.1
   ·subst k2
    rw [if_pos rfl,if_neg k1,if_neg k1,if_pos rfl]; congr 1; grind
   ·rw [if_neg k2,if_neg k1,if_neg k1,if_neg k2]; congr 1; grind
 ·rw [List.getElem?_eq_none (by simp [Zbn]; omega),List.getElem?_eq_none (by rw [Zbn]; omega)]
def nzI:List Rat→Int
 | [] => -1
 | x::r=>if x≠0 then 0 else if nzI r<0 then -1 else nzI r+1
theorem Yuk:∀ {r:List Rat}{i:Nat},i<r.length→(∀ j,j<i→rget r j=0)→rget r i≠0→nzI r=i
 | [],i,h,_,_=>by simp at h
 | x::r,0,_,_,h=>by
  have h:x≠0:=h
  unfold nzI; rw [if_pos h]; rfl
 | x::r,i+1,hi,h0,h=>by
  have hx:x=0:=h0 0 (by omega)
  have ih:=Yuk (r:=r) (i:=i) (by simpa using hi) (fun j hj=>h0 (j+1) (by omega)) h
  unfold nzI
  rw [if_neg (fun h=>h hx),ih,if_neg (by omega)]; rfl
theorem Yfn:∀ {r:List Rat},(∀ j,j<r.length→rget r j=0)→nzI r = -1
 | [],_=>rfl
 | x::r,h=>by
  have hx:x=0:=h 0 (by simp)
  unfold nzI
  rw [if_neg (fun k=>k hx),Yfn (r:=r) (fun j hj=>h (j+1) (by simpa using hj)),if_pos (by decide)]
theorem Ywg:∀ {r:List Rat},nzI r<0→∀ j,j<r.length→rget r j=0
 | [],_,j,hj=>by simp at hj
 | x::r,h,j,hj=>by
  unfold nzI at h
  by_cases hx:x=0
  ·rw [if_neg (fun k=>k hx)] at h
   by_cases hr:nzI r<0
   ·cases j with
    | zero=>exact hx
    | succ j=>exact Ywg hr j (by simpa using hj)
   ·rw [if_neg hr] at h; omega
  ·rw [if_pos hx] at h; omega
theorem cfn1 {q:Rat}:SpecV Tryz.prog Za4 [.agg (qcell q)] (.bool (decide (q≠0))):=by
 have ql:∀ q:Rat,(qcell q).length=4:=fun q=>rfl
 have qt:∀ q:Rat,(qcell q).take 4=qcell q:=fun q=>rfl
 have hs:=Yjr q
 refine Zae Zvc (by simp) ?_
 unfold Zjv
 by_cases h0:q=0
 ·rw [if_pos h0] at hs
  rw [decide_eq_false (fun h=>h h0)]
  simp only [go_sem,Zcm,Zcj,ql,qt]
  refine Zaa hs (by simp only [go_sem,Zbb,Zan]) ?_
  simp only [go_sem]
 ·rw [if_neg h0] at hs
  rw [decide_eq_true h0]
  have hne:¬ (if q<0 then (-1:Int) else 1)=0:=by split <;> decide
  generalize (if q<0 then (-1:Int) else 1)=sg at *
  simp only [go_sem,Zcm,Zcj,ql,qt]
  refine Zaa hs (by simp only [go_sem,Zbb,Zan]) ?_
  simp only [go_sem,hne]
theorem Xa3 {r:List Rat}(hl:r.length≤1000000) {K:Ex→St→Prop}
  (hK0:∀ e:Nat→AV,e 4 = .int .i64 (nzI r)→K .ret ⟨e,[]⟩)
  (hK:nzI r = -1→∀ e:Nat→AV,K (.exit 0) ⟨e,[]⟩) :
  T Tryz.prog 19 0 (.loop Zdi) ⟨envL [(0,.sl (condsR r)),(1,.fn Za4 [] []),(7,.int .i64 (r.length:Int)),(8,.int .i64 0)],[]⟩ K:=by
 have hm:Tryz.prog.follows .mixedOrders=true:=by kernel_rfl
 refine Zag (fun i:Nat=>⟨envL [(0,.sl (condsR r)),(1,.fn Za4 [] []),(7,.int .i64 (r.length:Int)),(8,.int .i64 (i:Int))],[]⟩)
  (fun i=>i≤r.length∧∀ j,j<i→rget r j=0) (fun i=>r.length - i) 0 ⟨by omega,fun j hj=>by omega⟩ (Zab _ (by simp only [go_sem]; simp)) (fun i hi N hN=>?_)
 obtain ⟨hi,hall⟩:=hi
 unfold Zdi
 have ql:∀ q:Rat,(qcell q).length=4:=fun q=>rfl
 have qt:∀ q:Rat,(qcell q).take 4=qcell q:=fun q=>rfl
 by_cases hin:i<r.length
 ·have gx:=Zda (Zaj hin)
  have q0:(0:Int)≤(i:Int):=by omega
  have q1:(i:Int)<(r.length:Int):=by omega
  have e1:IntKind.i64.wrap ((i:Int)+1)=((i+1:Nat):Int):=by rw [Zac (by omega) (by omega)]; omega
  have hf:=cfn1 (q:=rget r i)
  simp only [go_sem,Zdf,Ziw,Zij,q0,q1,gx,ql,qt,Zcf]
  by_cases h0:rget r i=0
  ·rw [decide_eq_false (fun h=>h h0)] at hf
   refine Zaa hf (by simp only [go_sem,Zan]) ?_
   simp only [go_sem,Zip,e1]
   refine hN (i+1) _ ⟨by omega,fun j hj=>?_⟩ (by omega) (Zab _ (by simp only [go_sem]))
   by_cases hji:j=i
   ·rw [hji]; exact h0
   ·exact hall j (by omega)
  ·rw [decide_eq_true h0] at hf
   have hn:=Yuk hin hall h0
   refine Zaa hf (by simp only [go_sem,Zan]) ?_
   simp only [go_sem,Ziv]
   exact hK0 _ (by simp only [go_sem,hn])
 ·have hie:i=r.length:=by omega
  subst hie
  have q1:¬ ((r.length:Nat):Int)<(r.length:Int):=by omega
  simp only [go_sem,Zdf,q1]
  exact hK (Yfn hall) _
theorem Yrs {r:List Rat}(hl:r.length≤1000000):SpecV Tryz.prog Z12 [.sl (condsR r),.fn Za4 [] []] (.int .i64 (nzI r)):=by
 refine Zae Zzi (by simp) ?_
 unfold Zm8
 simp only [go_sem,Zik,Zix,Zcf]
 refine Za2 [(0,.sl (condsR r)),(1,.fn Za4 [] []),(7,.int .i64 (r.length:Int)),(8,.int .i64 0)] (by simp only [go_sem]) ?_
 refine Xa3 hl (fun e e4=>?_) (fun hn e=>?_)
 ·simp only [go_sem,e4]
 ·simp only [go_sem,Zin,hn]
theorem Yep {r:List Rat}(hl:r.length≤1000000):SpecV Tryz.prog Zt8 [.sl (condsR r),.fn Za4 [] []] (.bool (!decide (∀ j,j<r.length→rget r j=0))):=by
 have h:=Yrs hl
 refine Zae Zrg (by simp) ?_
 unfold Zir
 simp only [go_sem,Zfw,Zez]
 refine Zaa h (by simp only [go_sem]; exact BV.fn _ _ _ _ _ rfl rfl (fun i x y h=>by simp at h) (fun i x y h=>by simp at h)) ?_
 by_cases hall:∀ j,j<r.length→rget r j=0
 ·have hn:¬ nzI r≥0:=by rw [Yfn hall]; decide
  rw [decide_eq_true hall]
  simp only [go_sem,hn,Bool.not_true]
 ·have hn:nzI r≥0:=by
   rcases Int.lt_or_le (nzI r) 0 with h | h
   ·exact absurd (Ywg h) hall
   ·exact h
  rw [decide_eq_false hall]
  simp only [go_sem,hn,Bool.not_false]
end GoAbs
namespace GoAbs
open Go Go.Proofs
set_option exponentiation.threshold 20000
theorem Y8f {n a b k:Nat}{E:List Sp}{F:List Rat}{ps:List AV}(hps:ps=pairsL E) (hEF:E.length=F.length) (hE:∀ e,e∈E→e.1<n∧e.2.1<n∧e.1≠e.2.1) (hF:Rb k F) (hEl:E.length≤1000) (hk:k≤10000000) (hn:n≤1000) {K:Ex→St→Prop}
  (hK:∀ e:Nat→AV,e 16 = .osl (some 4) 0 0 n→K (.exit 1) ⟨e,[.cells (qc (restL n a b E F))]⟩) :
  T Tryz.prog 122 0 (.loop Zfp) ⟨envL [(14,.sl (condsR F)),(16,.osl (some 4) 0 0 n),(83,.sl ps),(84,.int .i64 (E.length:Int)),(85,.int .i64 0)],[.cells (qc (restL n a b [] []))]⟩ K:=by
 have hm:Tryz.prog.follows .mixedOrders=true:=by kernel_rfl
 have hpl:ps.length=E.length:=by rw [hps]; simp [pairsL]
 refine Zag (fun i:Nat=>⟨envL [(14,.sl (condsR F)),(16,.osl (some 4) 0 0 n),(83,.sl ps),(84,.int .i64 (E.length:Int)),(85,.int .i64 (i:Int))],[.cells (qc (restL n a b (E.take i) (F.take i)))]⟩)
  (fun i=>i≤E.length) (fun i=>E.length - i) 0 (by omega) (Zab _ (by simp only [go_sem]; simp)) (fun i hi N hN=>?_)
 unfold Zfp
 by_cases hin:i<E.length
 ·obtain ⟨⟨p,q,kk⟩,he⟩:∃ e:Sp,E[i]? = some e:=⟨_,List.getElem?_eq_getElem hin⟩
  obtain ⟨hp,hq,hpq⟩:=hE _ (List.mem_of_getElem? he)
  simp only at hp hq hpq
  have gp:ps[i]? = some (.agg [.int .i64 (p:Int),.int .i64 (q:Int)]):=by rw [hps]; unfold pairsL; rw [List.getElem?_map,he]; rfl
  have gf:=Zda (Zaj (r:=F) (j:=i) (by omega))
  have tk1:E.take (i+1)=E.take i ++ [(p,q,kk)]:=by rw [List.take_add_one,he]; rfl
  have tk2:F.take (i+1)=F.take i ++ [rget F i]:=by rw [List.take_add_one,Zaj (show i<F.length by omega)]; rfl
  have hst:=Ytw (n:=n) (a:=a) (b:=b) (e:=(p,q,kk)) (q:=rget F i) (E:=E.take i) (F:=F.take i) (by rw [List.length_take,List.length_take]; omega) hp hq hpq
  have hfb:=hF.get (j:=i) (by omega)
  have hRb:Rb (1000*(k+3)+4) (restL n a b (E.take i) (F.take i)):=(Yso (fun x hx=>hF x (List.mem_of_mem_take hx))).mono (by
   have:(F.take i).length≤1000:=by rw [List.length_take]; omega
   have:=Nat.mul_le_mul_right (k+3) this
   omega)
  have hRl:(restL n a b (E.take i) (F.take i)).length=n:=Zbn
  simp only at hst
  rw [← tk1, ← tk2] at hst
  generalize restL n a b (E.take i) (F.take i)=R at *
  generalize rget F i=f at *
  have h1:=Y4h (k:=1000*(k+3)+4) (hRb.get (j:=p) (by omega)) (hfb.mono (by omega)) (by omega)
  have hR1:Rb (1001*(k+3)+5) (R.set p (rget R p+f)):=fun y hy=>by
   rcases List.mem_or_eq_of_mem_set hy with h' | h'
   ·exact (hRb y h').mono (by omega)
   ·rw [h']; exact ((hRb.get (j:=p) (by omega)).add2 hfb).mono (by omega)
  have hl1:(R.set p (rget R p+f)).length=n:=by rw [List.length_set,hRl]
  have sp:=Z6s (r:=R) (j:=p) (x:=rget R p+f) (by omega)
  have t1:=Zcr (Zaj (show p<R.length by omega))
  have u1:=Zfd (Zaj (show p<R.length by omega))
  have f1:p*4+4≤(qc R).length:=by rw [Zm1]; omega
  generalize R.set p (rget R p+f)=R1 at *
  have h2:=Yxm (k:=1001*(k+3)+5) (hR1.get (j:=q) (by omega)) (hfb.mono (by omega)) (by omega)
  have sq:=Z6s (r:=R1) (j:=q) (x:=rget R1 q - f) (by omega)
  have t2:=Zcr (Zaj (show q<R1.length by omega))
  have u2:=Zfd (Zaj (show q<R1.length by omega))
  have f2:q*4+4≤(qc R1).length:=by rw [Zm1]; omega
  have q0:(0:Int)≤(i:Int):=by omega
  have q1:(i:Int)<(E.length:Int):=by omega
  have qF:(i:Int)<(F.length:Int):=by omega
  have p0:(0:Int)≤(p:Int):=by omega
  have p1:(p:Int)<(n:Int):=by omega
  have r0:(0:Int)≤(q:Int):=by omega
  have r1:(q:Int)<(n:Int):=by omega
  have e1:IntKind.i64.wrap ((i:Int)+1)=((i+1:Nat):Int):=by rw [Zac (by omega) (by omega)]; omega
  have ql:∀ q:Rat,(qcell q).length=4:=fun q=>rfl
  have qt:∀ q:Rat,(qcell q).take 4=qcell q:=fun q=>rfl
  have qd:∀ q:Rat,(qcell q).drop 4 = []:=fun q=>rfl
  have bq:∀ (H:Heap) (ids:List Nat) (q:Rat),BVs H ids (qcell q) (qcell q)=True:=fun H ids q=>Zan
  simp only [go_sem,Zeb,Zj2,Zeg,q0,q1,hpl,gp,p0,p1,gf,ql,qt,qd,hm,Zcf,qF,List.getElem?_drop,t1,u1]
  refine Zaa h1 (by simp only [go_sem,Zbb,bq]) ?_
  simp only [go_sem,Zbb,ql,qt,qd,p0,p1,f1,sp,Zd8,hm,r0,r1,gf,q0,qF,Zcf,List.getElem?_drop,t2,u2]
  refine Zaa h2 (by simp only [go_sem,Zbb,bq]) ?_
  simp only [go_sem,Zbb,ql,qt,qd,r0,r1,f2,sq,Zj9,e1]
  refine hN (i+1) _ (by omega) (by omega) (Zdp (Zii [0] (by decide) (fun i hi=>by omega) [(14,.sl (condsR F)),(16,.osl (some 4) 0 0 n),(83,.sl ps),(84,.int .i64 (E.length:Int)),(85,.int .i64 ((i+1:Nat):Int))] (by simp only [go_sem])) ?_)
  rw [← hst]
  show St.mk _ [Blk.cells (gcL _ (qc (R1.set q (rget R1 q - f))))]=_
  rw [Ym1]
  rfl
 ·have hie:i=E.length:=by omega
  subst hie
  have q1:¬ ((E.length:Nat):Int)<(E.length:Int):=by omega
  rw [List.take_length,List.take_of_length_le (show F.length≤E.length by omega)]
  simp only [go_sem,Zeb,q1]
  exact hK _ (by simp only [go_sem])
def carriesB (n a b:Nat) (E:List Sp) (F:List Rat):Prop:=∀ i,i<n→divg i E F=edge a b i
instance (n a b:Nat) (E:List Sp) (F:List Rat):Decidable (carriesB n a b E F):=Nat.decidableBallLT n (fun i _=>divg i E F=edge a b i)
theorem Ymz {n a b k:Nat}{L:List Spr}{E:List Sp}{F:List (List UInt8)}(hL:L.length≤1000) (hl:∀ s,s∈L→s.2.2.length≤1000000000) (h:readR (n:Int) L = .tup [.agg (netC n E),.int .i64 0])
  (hF:∀ l,l∈F→l.length≤1000000000∧(parseL l).isSome=true) (hFl:F.length=L.length) (hEl:E.length=L.length) (ha:a<n) (hb:b<n) (hab:a≠b) (hn:n≤1000) (hE:∀ e,e∈E→e.1<n∧e.2.1<n∧e.1≠e.2.1) (hFb:Rb k (F.map toQ)) (hk:k≤10000000) :
  SpecV Tryz.prog Zh7 [.int .i64 (n:Int),.sl (L.map sprAV),.int .i64 (a:Int),.int .i64 (b:Int),.sl (txts F)] (.tup [.bool (decide (carriesB n a b E (F.map toQ))),.int .i64 0]):=by
 have hr:=Zla (n:=(n:Int)) (L:=L) (by omega) hl
 rw [h] at hr
 have hv:=Z8u (L:=F) (fun l h=>(hF l h).1) (by omega)
 unfold vecR at hv
 rw [if_pos (fun l h=>(hF l h).2)] at hv
 obtain ⟨ls,hls⟩:∃ ls,ls=L.map sprAV:=⟨_,rfl⟩
 have hlsl:ls.length=L.length:=by rw [hls,List.length_map]
 rw [← hls] at hr ⊢
 obtain ⟨ps,hps⟩:∃ ps,ps=pairsL E:=⟨_,rfl⟩
 obtain ⟨cs,hcs⟩:∃ cs,cs=condsL E:=⟨_,rfl⟩
 have hnc:netC n E = [.int .i64 (n:Int),.sl ps,.sl cs]:=by rw [hps,hcs]; rfl
 rw [hnc] at hr
 have hpl:ps.length=E.length:=by rw [hps]; simp [pairsL]
 have hcl:(condsR (F.map toQ)).length=F.length:=by rw [Zcf,List.length_map]
 have g1:¬ (a:Int)<0:=by omega
 have g2:¬ (n:Int)≤(a:Int):=by omega
 have g3:¬ (b:Int)<0:=by omega
 have g4:¬ (n:Int)≤(b:Int):=by omega
 have g5:¬ (a:Int)=(b:Int):=by omega
 have g6:(F.length:Int)=(L.length:Int):=by omega
 have h02:¬ (0:Int)=2:=by decide
 have a0:(0:Int)≤(a:Int):=by omega
 have a1:(a:Int)<(n:Int):=by omega
 have b0:(0:Int)≤(b:Int):=by omega
 have b1:(b:Int)<(n:Int):=by omega
 have hz:=Yq1 ha hb hab
 have hneg:=Ygc (z := -1) (by omega) (by omega)
 have hm1:((-1:Int):Rat) = -1:=rfl
 rw [hm1] at hneg
 have q0:(qc (List.replicate n (0:Rat))).length=n*4:=by rw [Zm1,List.length_replicate]
 have q1:(qc ((List.replicate n (0:Rat)).set a (-1))).length=n*4:=by rw [Zm1,List.length_set,List.length_replicate]
 have fa:a*4+4≤n*4:=by omega
 have fb:b*4+4≤n*4:=by omega
 have sa:=Z6s (r:=List.replicate n (0:Rat)) (j:=a) (x := -1) (by rw [List.length_replicate]; exact ha)
 have sb:=Z6s (r:=(List.replicate n (0:Rat)).set a (-1)) (j:=b) (x:=1) (by rw [List.length_set,List.length_replicate]; exact hb)
 refine Zae Z4p (by simp) ?_
 unfold Zv3
 simp only [go_sem,Zk8,Zk5]
 refine Zaa hr (by simp only [go_sem]) ?_
 simp only [go_sem,Zlu]
 refine Zaa hv (by simp only [go_sem]) ?_
 simp only [go_sem,Zlm,h02,Bool.not_true,Zli,g1,g2,g3,g4,g5,hcl,hlsl,g6,Zk3]
 refine Zaa Yd5 (by simp only [go_sem]) ?_
 simp only [go_sem,Zbb,Zak]
 have hrep:SpecR Tryz.prog Zfr [.cells [.int .i64 (n:Int),.sl ps,.sl cs],.cells (qcell 0)] [.osl (some 4) 1 0 1,.int .i64 (n:Int)] (.osl (some 4) 2 0 n) [.cells [.int .i64 (n:Int),.sl ps,.sl cs],.dead,.cells (qc (List.replicate n 0))]:=by
  have h:=Zvm (P:=Tryz.prog) (H := [.cells [.int .i64 (n:Int),.sl ps,.sl cs],.cells (qcell 0)]) (ids := [1]) (xs := [.osl (some 4) 1 0 1,.int .i64 (n:Int)]) (Z4f (n:=n) (x:=qcell 0) (by omega) (by omega) rfl)
   (by
    simp only [go_sem]
    exact Ynf rfl rfl (by simp) (by rw [Zan]; trivial)) (by simp only [go_sem])
  have e3 : [Blk.cells (rows n (qcell 0))].map (Blk.gc (fun i=>some (i + [Blk.cells [.int .i64 (n:Int),.sl ps,.sl cs],.cells (qcell 0)].length))) = [.cells (qc (List.replicate n 0))]:=by
   simp only [List.map_cons,List.map_nil,Blk.gc,Yma,Ypr]
  rw [e3] at h
  exact h
 refine Zi0 hrep ?_
 simp only [go_sem,Zl4]
 refine Zaa hneg (by simp only [go_sem]) ?_
 simp only [go_sem]
 refine Zaa Y37 (by simp only [go_sem]) ?_
 simp only [go_sem,Zbb,Zak,a0,a1,q0,fa,sa,b0,b1,q1,fb,sb,hz,Zj1,hpl]
 refine T_le (Zii [2] (by decide) (fun i hi=>by omega) [(14,.sl (condsR (F.map toQ))),(16,.osl (some 4) 2 0 n),(83,.sl ps),(84,.int .i64 (E.length:Int)),(85,.int .i64 0)] (by simp only [go_sem])) ?_
 show T Tryz.prog 122 0 _ ⟨envL [(14,.sl (condsR (F.map toQ))),(16,.osl (some 4) 0 0 n),(83,.sl ps),(84,.int .i64 (E.length:Int)),(85,.int .i64 0)],[.cells (gcL (pos [2]) (qc (restL n a b [] [])))]⟩ _
 rw [Ym1]
 refine Y8f (F:=F.map toQ) hps (by rw [List.length_map]; omega) hE hFb (by omega) hk hn (fun e e16=>?_)
 have hct:=Yep (r:=restL n a b E (F.map toQ)) (by rw [Zbn]; omega)
 have hbv:=Zwi (H := [.cells (qc (restL n a b E (F.map toQ)))]) (ids := [0]) (b:=0) (r:=restL n a b E (F.map toQ)) rfl (by simp)
 rw [Zbn] at hbv
 have hdec:decide (∀ j,j<(restL n a b E (F.map toQ)).length→rget (restL n a b E (F.map toQ)) j=0)=decide (carriesB n a b E (F.map toQ)):=by
  refine decide_eq_decide.2 ⟨fun h i hi=>?_,fun h j hj=>?_⟩
  ·have:=h i (by rw [Zbn]; exact hi)
   rw [Zjy hi] at this; grind
  ·rw [Zbn] at hj
   rw [Zjy hj,h j hj]; grind
 rw [hdec] at hct
 simp only [go_sem,Zkk,e16]
 refine Zhl (ids := [0]) hct (by simp only [go_sem]; exact ⟨hbv,BV.fn _ _ _ _ _ rfl rfl (fun i x y h=>by simp at h) (fun i x y h=>by simp at h)⟩) ?_
 simp only [go_sem,Bool.not_not]
end GoAbs
namespace GoAbs
open Go Go.Proofs
set_option exponentiation.threshold 20000
def enerZ (Z:List (Sp×Rat)):Rat:=Z.foldl (fun s p=>s+p.2*p.2 / p.1.2.2) 0
theorem Z37 {Z:List (Sp×Rat)}{p:Sp×Rat}:enerZ (Z ++ [p])=enerZ Z+p.2*p.2 / p.1.2.2:=by unfold enerZ; rw [List.foldl_append]; rfl
theorem Yc3 {k l:Nat}{Z:List (Sp×Rat)}(h:∀ p,p∈Z→Qb k p.2∧Qb l p.1.2.2∧p.1.2.2≠0):∀ i,i≤Z.length→Qb (1+i*(2*k+l+1)) (enerZ (Z.take i)):=fun i=>by
 induction i with
 | zero=>intro _; exact Qb.zero (by omega)
 | succ i ih =>
  intro hi
  obtain ⟨p,hp⟩:∃ p,Z[i]? = some p:=⟨_,List.getElem?_eq_getElem (by omega)⟩
  obtain ⟨h1,h2,h3⟩:=h p (List.mem_of_getElem? hp)
  have tk:Z.take (i+1)=Z.take i ++ [p]:=by rw [List.take_add_one,hp]; rfl
  rw [tk,Z37]
  exact ((ih (by omega)).add2 ((h1.mul2 h1).div2 h2 h3)).mono (by rw [Nat.add_mul i 1]; omega)
theorem Yxc {E:List Sp}{F:List Rat}{i:Nat}{e:Sp}(h:E[i]? = some e) (hF:i<F.length):(E.zip F)[i]? = some (e,rget F i):=by
 rw [List.getElem?_zip_eq_some]; exact ⟨h,Zaj hF⟩
theorem Xcb {k:Nat}{N0:AV}{E:List Sp}{F:List Rat}{ps cs:List AV}(hcs:cs=condsL E) (hEF:E.length=F.length) (hE:∀ e,e∈E→Qb 67 e.2.2∧e.2.2≠0) (hF:Rb k F) (hEl:E.length≤1000) (hk:k≤10000000) (hN0:∀ f,N0.gc f=N0) {K:Ex→St→Prop}
  (hK:∀ e:Nat→AV,e 12 = .ptr 1 0→K (.exit 1) ⟨e,[.cells [N0,.sl ps,.sl cs],.cells (qcell (enerZ (E.zip F)))]⟩) :
  T Tryz.prog 67 0 (.loop Zgu) ⟨envL [(8,.ptr 0 0),(12,.ptr 1 0),(44,.sl (condsR F)),(45,.int .i64 (F.length:Int)),(46,.int .i64 0)],[.cells [N0,.sl ps,.sl cs],.cells (qcell 0)]⟩ K:=by
 have hm:Tryz.prog.follows .mixedOrders=true:=by kernel_rfl
 have hcl:cs.length=E.length:=by rw [hcs]; simp [condsL]
 have hZl:(E.zip F).length=F.length:=by rw [List.length_zip]; omega
 have hZ:∀ p,p∈E.zip F→Qb k p.2∧Qb 67 p.1.2.2∧p.1.2.2≠0:=fun p hp=>by
  obtain ⟨h1,h2⟩:=List.of_mem_zip (a:=p.1) (b:=p.2) hp
  exact ⟨hF _ h2,hE _ h1⟩
 refine Zag (fun i:Nat=>⟨envL [(8,.ptr 0 0),(12,.ptr 1 0),(44,.sl (condsR F)),(45,.int .i64 (F.length:Int)),(46,.int .i64 (i:Int))],[.cells [N0,.sl ps,.sl cs],.cells (qcell (enerZ ((E.zip F).take i)))]⟩)
  (fun i=>i≤F.length) (fun i=>F.length - i) 0 (by omega) (Zab _ (by simp only [go_sem]; simp)) (fun i hi N hN=>?_)
 unfold Zgu
 by_cases hin:i<F.length
 ·obtain ⟨⟨p,q,kk⟩,he⟩:∃ e:Sp,E[i]? = some e:=⟨_,List.getElem?_eq_getElem (by omega)⟩
  have hz:=Yxc he hin
  obtain ⟨hk1,hk2⟩:=hE _ (List.mem_of_getElem? he)
  simp only at hk1 hk2
  have gk:cs[i]? = some (.agg (qcell kk)):=by rw [hcs]; unfold condsL; rw [List.getElem?_map,he]; rfl
  have gf:=Zda (Zaj hin)
  have tk:(E.zip F).take (i+1)=(E.zip F).take i ++ [((p,q,kk),rget F i)]:=by rw [List.take_add_one,hz]; rfl
  have hsn:enerZ ((E.zip F).take (i+1))=enerZ ((E.zip F).take i)+rget F i*rget F i / kk:=by rw [tk,Z37]
  have hb:=Yc3 hZ i (by omega)
  have hm1:i*(2*k+67+1)≤1000*(2*k+67+1):=Nat.mul_le_mul_right _ (by omega)
  have hf:=hF.get (j:=i) hin
  have h1:=Ywf (k:=k) hf hf (by omega)
  have h2:=Y10 (k:=2*k+67) ((hf.mul2 hf).mono (by omega)) (hk1.mono (by omega)) hk2 (by omega)
  have h3:=Y4h (k:=1+1000*(2*k+67+1)) (hb.mono (by omega)) (((hf.mul2 hf).div2 hk1 hk2).mono (by omega)) (by omega)
  generalize enerZ ((E.zip F).take i)=S at *
  generalize rget F i=f at *
  have q0:(0:Int)≤(i:Int):=by omega
  have q1:(i:Int)<(F.length:Int):=by omega
  have qE:(i:Int)<(E.length:Int):=by omega
  have e1:IntKind.i64.wrap ((i:Int)+1)=((i+1:Nat):Int):=by rw [Zac (by omega) (by omega)]; omega
  have ql:∀ q:Rat,(qcell q).length=4:=fun q=>rfl
  have qt:∀ q:Rat,(qcell q).take 4=qcell q:=fun q=>rfl
  have qd:∀ q:Rat,(qcell q).drop 4 = []:=fun q=>rfl
  have bq:∀ (H:Heap) (ids:List Nat) (q:Rat),BVs H ids (qcell q) (qcell q)=True:=fun H ids q=>Zan
  simp only [go_sem,Ze4,Zk7,Zfi,q0,q1,gf,gk,qE,hcl,ql,qt,qd,hm,Zcf]
  refine Zaa h1 (by simp only [go_sem,Zbb,bq]) ?_
  simp only [go_sem,q0,gk,qE,hcl,ql,qt,qd]
  refine Zaa h2 (by simp only [go_sem,Zbb,bq]) ?_
  simp only [go_sem]
  refine Zaa h3 (by simp only [go_sem,Zbb,bq]) ?_
  simp only [go_sem,Zbb,ql,qt,qd,Zlc,e1]
  refine hN (i+1) _ (by omega) (by omega) (Zdp (Zii [0,1] (by decide) (fun i hi=>by omega) [(8,.ptr 0 0),(12,.ptr 1 0),(44,.sl (condsR F)),(45,.int .i64 (F.length:Int)),(46,.int .i64 ((i+1:Nat):Int))] (by simp only [go_sem])) ?_)
  rw [hsn]
  show St.mk _ [Blk.cells [N0.gc _,AV.sl ps,AV.sl cs],Blk.cells (gcL _ (qcell (S+f*f / kk)))]=_
  rw [hN0]
  rfl
 ·have hie:i=F.length:=by omega
  subst hie
  have q1:¬ ((F.length:Nat):Int)<(F.length:Int):=by omega
  rw [List.take_of_length_le (by omega)]
  simp only [go_sem,Ze4,q1]
  exact hK _ (by simp only [go_sem])
theorem Yrk {n k:Nat}{L:List Spr}{E:List Sp}{F:List (List UInt8)}(hL:L.length≤1000) (hl:∀ s,s∈L→s.2.2.length≤1000000000) (h:readR (n:Int) L = .tup [.agg (netC n E),.int .i64 0])
  (hF:∀ l,l∈F→l.length≤1000000000∧(parseL l).isSome=true) (hFl:F.length=L.length) (hEl:E.length=L.length) (hE:∀ e,e∈E→Qb 67 e.2.2∧e.2.2≠0) (hFb:Rb k (F.map toQ)) (hk:k≤10000000) :
  SpecV Tryz.prog Zke [.int .i64 (n:Int),.sl (L.map sprAV),.sl (txts F)] (numR (enerZ (E.zip (F.map toQ)))):=by
 have hr:=Zla (n:=(n:Int)) (L:=L) (by omega) hl
 rw [h] at hr
 have hv:=Z8u (L:=F) (fun l h=>(hF l h).1) (by omega)
 unfold vecR at hv
 rw [if_pos (fun l h=>(hF l h).2)] at hv
 obtain ⟨ls,hls⟩:∃ ls,ls=L.map sprAV:=⟨_,rfl⟩
 have hlsl:ls.length=L.length:=by rw [hls,List.length_map]
 rw [← hls] at hr ⊢
 obtain ⟨ps,hps⟩:∃ ps,ps=pairsL E:=⟨_,rfl⟩
 obtain ⟨cs,hcs⟩:∃ cs,cs=condsL E:=⟨_,rfl⟩
 have hnc:netC n E = [.int .i64 (n:Int),.sl ps,.sl cs]:=by rw [hps,hcs]; rfl
 rw [hnc] at hr
 have hfl:(F.map toQ).length=F.length:=by simp
 have hcl:(condsR (F.map toQ)).length=F.length:=by rw [Zcf,List.length_map]
 have g6:(F.length:Int)=(L.length:Int):=by omega
 have h02:¬ (0:Int)=2:=by decide
 have ql:∀ q:Rat,(qcell q).length=4:=fun q=>rfl
 have qt:∀ q:Rat,(qcell q).take 4=qcell q:=fun q=>rfl
 have qd:∀ q:Rat,(qcell q).drop 4 = []:=fun q=>rfl
 have hZl:(E.zip (F.map toQ)).length=F.length:=by rw [List.length_zip]; omega
 have hb:=Yc3 (k:=k) (l:=67) (Z:=E.zip (F.map toQ)) (fun p hp=>by
  obtain ⟨h1,h2⟩:=List.of_mem_zip (a:=p.1) (b:=p.2) hp
  exact ⟨hFb _ h2,hE _ h1⟩) F.length (by omega)
 rw [List.take_of_length_le (by omega)] at hb
 have hm1:F.length*(2*k+67+1)≤1000*(2*k+67+1):=Nat.mul_le_mul_right _ (by omega)
 have hnum:=Y22 (q:=enerZ (E.zip (F.map toQ))) (Zmp hb.n (by omega)) (Zmp hb.d (by omega))
 refine Zae Z7x (by simp) ?_
 unfold Zx3
 simp only [go_sem,Zn0,Znr]
 refine Zaa hr (by simp only [go_sem]) ?_
 simp only [go_sem,Znv]
 refine Zaa hv (by simp only [go_sem]) ?_
 simp only [go_sem,Znu,h02,Bool.not_true,Zn2,hcl,hlsl,g6,Znl]
 refine Zaa Yd5 (by simp only [go_sem]) ?_
 simp only [go_sem,Zbb,ql,qt,qd,Zm6,hcl]
 refine Za2 [(8,.ptr 0 0),(12,.ptr 1 0),(44,.sl (condsR (F.map toQ))),(45,.int .i64 ((F.map toQ).length:Int)),(46,.int .i64 0)] (by simp only [go_sem,hfl]) ?_
 refine Xcb (F:=F.map toQ) hcs (by rw [hfl]; omega) hE hFb (by omega) hk (fun f=>rfl) (fun e e12=>?_)
 simp only [go_sem,Zl3,e12,ql,qt]
 refine Zaa hnum (by simp only [go_sem,Zbb,Zan]) ?_
 unfold numR
 by_cases hok:NumOk (enerZ (E.zip (F.map toQ)))
 ·simp only [if_pos hok,go_sem]
 ·simp only [if_neg hok,go_sem]
end GoAbs
namespace GoAbs
open Go Go.Proofs
set_option exponentiation.threshold 200000
theorem Yv9 {i t:Nat}{E:List Sp}{F:List Rat}{e:Sp}(hEF:E.length=F.length) (he:E[t]? = some e):divg i (E.take (t+1)) (F.take (t+1))=divg i (E.take t) (F.take t)+rget F t*edge e.1 e.2.1 i:=by
 have ht:=(List.getElem?_eq_some_iff.1 he).1
 rw [List.take_add_one,he,List.take_add_one,Zaj (show t<F.length by omega)]
 exact Z8k (by rw [List.length_take,List.length_take]; omega)
end GoAbs
namespace GoAbs
open Go Go.Proofs
set_option exponentiation.threshold 200000
end GoAbs
namespace GoAbs
open Go Go.Proofs
set_option exponentiation.threshold 20000
end GoAbs
namespace GoAbs
open Go Go.Proofs
set_option exponentiation.threshold 20000
def eAt (E:List Sp) (s:Nat):Sp:=E.getD s (0,0,0)
theorem Zd6 {E:List Sp}{s:Nat}(h:s<E.length):E[s]? = some (eAt E s):=by unfold eAt; rw [List.getD_eq_getElem?_getD,List.getElem?_eq_getElem h]; rfl
theorem Zsp {n:Nat}{g:Nat→Rat}:sumL (List.range (n+1)) g=sumL (List.range n) g+g n:=by
 rw [List.range_succ,Ypd,Zal,Zg1]; grind
theorem Yqm {i:Nat}{E:List Sp}{F:List Rat}(h:E.length=F.length):∀ t,t≤E.length→divg i (E.take t) (F.take t)=sumL (List.range t) (fun s=>rget F s*edge (eAt E s).1 (eAt E s).2.1 i)
 | 0,_=>by simp [divg,Zg1]
 | t+1,ht=>by
  rw [Yv9 h (Zd6 (by omega)),Yqm h t (by omega),Zsp]
theorem Z1i {i:Nat}{E:List Sp}{F:List Rat}(h:E.length=F.length):divg i E F=sumL (List.range E.length) (fun s=>rget F s*edge (eAt E s).1 (eAt E s).2.1 i):=by
 have:=Yqm (i:=i) h E.length (Nat.le_refl _)
 rwa [List.take_length,List.take_of_length_le (by omega)] at this
theorem Ypt {E:List Sp}{F:List Rat}(h:E.length=F.length):∀ t,t≤E.length→enerZ ((E.zip F).take t)=sumL (List.range t) (fun s=>rget F s*rget F s / (eAt E s).2.2)
 | 0,_=>by simp [enerZ,Zg1]
 | t+1,ht=>by
  rw [List.take_add_one,Yxc (Zd6 (by omega)) (by omega)]
  show enerZ (_ ++ [_])=_
  rw [Z37,Ypt h t (by omega),Zsp]
theorem Yf0 {E:List Sp}{F:List Rat}(h:E.length=F.length):enerZ (E.zip F)=sumL (List.range E.length) (fun s=>rget F s*rget F s / (eAt E s).2.2):=by
 have:=Ypt h E.length (Nat.le_refl _)
 rwa [List.take_of_length_le (by rw [List.length_zip]; omega)] at this
theorem flowX_len {E:List Sp}{x:List Rat}:(flowX E x).length=E.length:=by simp [flowX]
theorem Z94 {E:List Sp}{x:List Rat}{s:Nat}(h:s<E.length):rget (flowX E x) s=(eAt E s).2.2*(rget x (eAt E s).1 - rget x (eAt E s).2.1):=by
 have:=Zaj (r:=flowX E x) (j:=s) (by rw [flowX_len]; exact h)
 unfold flowX at this
 rw [List.getElem?_map,Zd6 h] at this
 exact (Option.some.inj this).symm
theorem Xbh {E:List Sp}{i j:Nat}:Lm id E i j=sumL (List.range E.length) (fun s=>(eAt E s).2.2*(edge (eAt E s).1 (eAt E s).2.1 i*edge (eAt E s).1 (eAt E s).2.1 j)):=by
 induction E with
 | nil=>rfl
 | cons e E ih =>
  have hL:Lm id (e::E) i j=Lm id E i j+e.2.2*(edge e.1 e.2.1 i*edge e.1 e.2.1 j):=rfl
  rw [hL,ih,List.length_cons,List.range_succ_eq_map,Zal,Y1b]
  have:∀ s,eAt (e::E) (s+1)=eAt E s:=fun s=>rfl
  have h0:eAt (e::E) 0=e:=rfl
  rw [h0]
  rw [Zaf (R:=List.range E.length) (g:=fun s=>(eAt E s).2.2*(edge (eAt E s).1 (eAt E s).2.1 i*edge (eAt E s).1 (eAt E s).2.1 j)) (fun s _=>rfl)]
  grind
theorem Zod {m p q:Nat}{x:Nat→Rat}(hp:p≤m) (hq:q≤m) (h0:x 0=0):sumL (List.range' 1 m) (fun j=>x j*edge p q j)=x p - x q:=by
 rw [← Z9r hp hq h0]; exact Zaf (fun j _=>by grind)
theorem Z9p {m a b:Nat}{E:List Sp}{x:List Rat}(hI:InN (m+1) E) (h0:rget x 0=0) (hs:Sol (m+1) E (rget x) (edge a b)) {i:Nat}(hi:i∈Rn (m+1)):divg i E (flowX E x)=edge a b i:=by
 rw [Z1i flowX_len.symm, ← hs i hi]
 have e1:∀ j,j∈Rn (m+1)→rget x j*Lm id E i j=sumL (List.range E.length) (fun s=>rget x j*((eAt E s).2.2*(edge (eAt E s).1 (eAt E s).2.1 i*edge (eAt E s).1 (eAt E s).2.1 j))):=fun j _=>by rw [Xbh,Za0]
 rw [Zaf e1,Z26]
 refine Zaf (fun s hs'=>?_)
 have hsl:=List.mem_range.1 hs'
 have hin:=hI (eAt E s) (List.mem_of_getElem? (Zd6 hsl))
 have e2:sumL (Rn (m+1)) (fun j=>rget x j*((eAt E s).2.2*(edge (eAt E s).1 (eAt E s).2.1 i*edge (eAt E s).1 (eAt E s).2.1 j)))=((eAt E s).2.2*edge (eAt E s).1 (eAt E s).2.1 i)*sumL (Rn (m+1)) (fun j=>rget x j*edge (eAt E s).1 (eAt E s).2.1 j):=by
  rw [← Za0]; exact Zaf (fun j _=>by grind)
 rw [e2,Zod (by omega) (by omega) h0,Z94 hsl]; grind
theorem Yl6 {m:Nat}{g:Nat→Rat}:sumL (List.range (m+1)) g=g 0+sumL (List.range' 1 m) g:=by
 rw [List.range_eq_range',List.range'_succ,Zal]
theorem Ysf {n:Nat}{E:List Sp}{F:List Rat}(h:E.length=F.length) (hI:InN n E):sumL (List.range n) (fun i=>divg i E F)=0:=by
 rw [Zaf (fun i _=>Z1i h),Z26]
 refine Zdu (fun s hs=>?_)
 have hin:=hI (eAt E s) (List.mem_of_getElem? (Zd6 (List.mem_range.1 hs)))
 rw [Za0,Yo4 hin.1 hin.2]; grind
theorem Yjq {m a b:Nat}{E:List Sp}{x:List Rat}(hI:InN (m+1) E) (ha:a<m+1) (hb:b<m+1) (h0:rget x 0=0) (hs:Sol (m+1) E (rget x) (edge a b)):carriesB (m+1) a b E (flowX E x):=fun i hi=>by
 by_cases hi0:i=0
 ·subst hi0
  have t1:=Ysf (n:=m+1) (E:=E) (F:=flowX E x) flowX_len.symm hI
  have t2:=Yo4 ha hb
  rw [Yl6] at t1 t2
  rw [Zaf (R:=List.range' 1 m) (fun i hi=>Z9p hI h0 hs (i:=i) (by show i∈List.range' 1 (m+1 - 1); rw [Nat.add_sub_cancel]; exact hi))] at t1
  grind
 ·exact Z9p hI h0 hs (by show i∈List.range' 1 (m+1 - 1); rw [List.mem_range'_1]; omega)
theorem Ym6 {m a b:Nat}{E:List Sp}{x:List Rat}(hI:InN (m+1) E) (hk:∀ e,e∈E→e.2.2≠0) (ha:a<m+1) (hb:b<m+1) (h0:rget x 0=0) (hs:Sol (m+1) E (rget x) (edge a b)):enerZ (E.zip (flowX E x))=rget x a - rget x b:=by
 rw [Yf0 flowX_len.symm]
 have e1:∀ s,s∈List.range E.length→rget (flowX E x) s*rget (flowX E x) s / (eAt E s).2.2=sumL (List.range' 1 m) (fun i=>rget x i*(rget (flowX E x) s*edge (eAt E s).1 (eAt E s).2.1 i)):=fun s hs'=>by
  have hsl:=List.mem_range.1 hs'
  have hmem:=List.mem_of_getElem? (Zd6 hsl)
  have hin:=hI (eAt E s) hmem
  have hk0:=hk (eAt E s) hmem
  have e2:sumL (List.range' 1 m) (fun i=>rget x i*(rget (flowX E x) s*edge (eAt E s).1 (eAt E s).2.1 i))=rget (flowX E x) s*sumL (List.range' 1 m) (fun i=>rget x i*edge (eAt E s).1 (eAt E s).2.1 i):=by
   rw [← Za0]; exact Zaf (fun j _=>by grind)
  rw [e2,Zod (by omega) (by omega) h0,Z94 hsl]
  generalize rget x (eAt E s).1 - rget x (eAt E s).2.1=d at *
  generalize (eAt E s).2.2=k at *
  grind
 rw [Zaf e1,Z26]
 have e3:∀ i,i∈List.range' 1 m→sumL (List.range E.length) (fun s=>rget x i*(rget (flowX E x) s*edge (eAt E s).1 (eAt E s).2.1 i))=rget x i*edge a b i:=fun i hi=>by
  rw [Za0, ← Z1i flowX_len.symm,Z9p hI h0 hs (by show i∈List.range' 1 (m+1 - 1); rw [Nat.add_sub_cancel]; exact hi)]
 rw [Zaf e3,Zod (by omega) (by omega) h0]
def ringL (t:List Rat) (c:Rat) (lo j:Nat):List Rat:=(List.range t.length).map fun i=>if lo≤i∧i<j then rget t i+c else rget t i
theorem Zbp {t:List Rat}{c:Rat}{lo j:Nat}:(ringL t c lo j).length=t.length:=by simp [ringL]
theorem Zkq {t:List Rat}{c:Rat}{lo j i:Nat}(h:i<t.length):rget (ringL t c lo j) i=if lo≤i∧i<j then rget t i+c else rget t i:=Yeg h
theorem Ylg {t:List Rat}{c:Rat}{lo:Nat}:ringL t c lo lo=t:=by
 apply List.ext_getElem?
 intro i
 by_cases hi:i<t.length
 ·rw [Zaj (by rw [Zbp]; exact hi),Zaj hi,Zkq hi,if_neg (by omega)]
 ·rw [List.getElem?_eq_none (by rw [Zbp]; omega),List.getElem?_eq_none (by omega)]
theorem Yt2 {t:List Rat}{c:Rat}{lo j:Nat}(hj:lo≤j) (hl:j<t.length):(ringL t c lo j).set j (rget (ringL t c lo j) j+c)=ringL t c lo (j+1):=by
 apply List.ext_getElem?
 intro i
 by_cases hi:i<t.length
 ·rw [Zaj (by rw [List.length_set,Zbp]; exact hi),Zaj (by rw [Zbp]; exact hi),Zha (by rw [Zbp]; exact hl),Zkq hl,Zkq hi,Zkq hi]
  by_cases h1:i=j
  ·rw [if_pos h1,if_neg (show ¬ (lo≤j∧j<j) by omega),if_pos (by omega),h1]
  ·rw [if_neg h1]
   by_cases h2:lo≤i∧i<j
   ·rw [if_pos h2,if_pos (by omega)]
   ·rw [if_neg h2,if_neg (by omega)]
 ·rw [List.getElem?_eq_none (by rw [List.length_set,Zbp]; omega),List.getElem?_eq_none (by rw [Zbp]; omega)]
def rho (l lo hi:Nat) (sg:Rat) (s:Nat):Rat:=if s=l then 1 else if lo≤s∧s<hi then sg else 0
theorem Yzd {N l lo:Nat}{sg:Rat}{g h:Nat→Rat}(hl:l<N):∀ hi,lo≤hi→hi≤l→(∀ s,s<hi→g s=h s - h (s+1))→sumL (List.range N) (fun s=>rho l lo hi sg s*g s)=g l+sg*(h lo - h hi):=fun hi=>by
 intro h1
 induction hi with
 | zero =>
  intro h2 _
  have:lo=0:=by omega
  subst this
  have e:sumL (List.range N) (fun s=>rho l 0 0 sg s*g s)=sumL (List.range N) (fun s=>(if s=l then 1 else 0)*g s):=Zaf (fun s _=>by
   unfold rho
   by_cases hs:s=l
   ·rw [if_pos hs,if_pos hs]
   ·rw [if_neg hs,if_neg hs,if_neg (by omega)])
  rw [e,Zkl List.nodup_range,if_pos (List.mem_range.2 hl)]; grind
 | succ hi ih =>
  intro h2 hg
  by_cases hlo:lo=hi+1
  ·have e:sumL (List.range N) (fun s=>rho l lo (hi+1) sg s*g s)=sumL (List.range N) (fun s=>(if s=l then 1 else 0)*g s):=Zaf (fun s _=>by
    unfold rho
    by_cases hs:s=l
    ·rw [if_pos hs,if_pos hs]
    ·rw [if_neg hs,if_neg hs,if_neg (by omega)])
   rw [e,Zkl List.nodup_range,if_pos (List.mem_range.2 hl),hlo]; grind
  ·have ih':=ih (by omega) (by omega) (fun s hs=>hg s (by omega))
   have e:sumL (List.range N) (fun s=>rho l lo (hi+1) sg s*g s)=sumL (List.range N) (fun s=>rho l lo hi sg s*g s)+sumL (List.range N) (fun s=>(if s=hi then 1 else 0)*(sg*g s)):=by
    rw [← Zba]
    refine Zaf (fun s _=>?_)
    unfold rho
    by_cases hs:s=l
    ·rw [if_pos hs,if_pos hs,if_neg (by omega)]; grind
    ·rw [if_neg hs,if_neg hs]
     by_cases h3:s=hi
     ·rw [if_pos (by omega),if_neg (by omega),if_pos h3]; grind
     ·rw [if_neg h3]
      by_cases h4:lo≤s∧s<hi
      ·rw [if_pos h4,if_pos (by omega)]; grind
      ·rw [if_neg h4,if_neg (by omega)]; grind
   rw [e,ih',Zkl List.nodup_range,if_pos (List.mem_range.2 (by omega)),hg hi (by omega)]; grind
def ringF (F:List Rat) (l lo hi:Nat) (sg by':Rat):List Rat:=ringL (F.set l (rget F l+by')) (sg*by') lo hi
theorem Yic {F:List Rat}{l lo hi:Nat}{sg c:Rat}:(ringF F l lo hi sg c).length=F.length:=by unfold ringF; rw [Zbp,List.length_set]
theorem Yg7 {F:List Rat}{l lo hi s:Nat}{sg c:Rat}(hl:l<F.length) (hhi:hi≤l) (hs:s<F.length):rget (ringF F l lo hi sg c) s=rget F s+c*rho l lo hi sg s:=by
 unfold ringF rho
 rw [Zkq (by rw [List.length_set]; exact hs),Zha hl]
 by_cases h1:s=l
 ·rw [if_pos h1,if_neg (by omega),if_pos h1,h1]; grind
 ·rw [if_neg h1,if_neg h1]
  by_cases h2:lo≤s∧s<hi
  ·rw [if_pos h2,if_pos h2]; grind
  ·rw [if_neg h2,if_neg h2]; grind
structure Ring (E:List Sp) (l lo hi:Nat) (sg:Rat):Prop where
 ll:l<E.length
 lh:lo≤hi
 hl:hi≤l
 path:∀ s,s<hi→(eAt E s).1=s∧(eAt E s).2.1=s+1
 ends : (sg = -1 ∧ (eAt E l).1 = lo ∧ (eAt E l).2.1 = hi) ∨ (sg = 1 ∧ (eAt E l).1 = hi ∧ (eAt E l).2.1 = lo)
theorem Yhw {n a b l lo hi:Nat}{sg c:Rat}{E:List Sp}{F:List Rat}(hR:Ring E l lo hi sg) (hEF:E.length=F.length) (h:carriesB n a b E F):carriesB n a b E (ringF F l lo hi sg c):=fun i hi'=>by
 have hk:E.length=(ringF F l lo hi sg c).length:=by rw [Yic]; exact hEF
 rw [← h i hi',Z1i hk,Z1i hEF]
 have e:sumL (List.range E.length) (fun s=>rget (ringF F l lo hi sg c) s*edge (eAt E s).1 (eAt E s).2.1 i)=sumL (List.range E.length) (fun s=>rget F s*edge (eAt E s).1 (eAt E s).2.1 i)+c*sumL (List.range E.length) (fun s=>rho l lo hi sg s*edge (eAt E s).1 (eAt E s).2.1 i):=by
  rw [← Za0, ← Zba]
  refine Zaf (fun s hs=>?_)
  have hsl:=List.mem_range.1 hs
  rw [Yg7 (by have:=hR.ll; omega) hR.hl (by omega)]; grind
 rw [e,Yzd (h:=fun s=>if i=s then (1:Rat) else 0) hR.ll hi hR.lh hR.hl (fun s hs=>by
  obtain ⟨p1,p2⟩:=hR.path s hs
  rw [p1,p2]; unfold edge; rfl)]
 have z:edge (eAt E l).1 (eAt E l).2.1 i+sg*((if i=lo then (1:Rat) else 0) - if i=hi then (1:Rat) else 0)=0:=by
  rcases hR.ends with ⟨rfl,p1,p2⟩ | ⟨rfl,p1,p2⟩ <;> (rw [p1,p2]; unfold edge; grind)
 show _+c*(edge (eAt E l).1 (eAt E l).2.1 i+sg*((if i=lo then (1:Rat) else 0) - if i=hi then (1:Rat) else 0))=_
 rw [z]; grind
theorem Ymn {l lo hi:Nat}{sg c:Rat}{E:List Sp}{x:List Rat}(hR:Ring E l lo hi sg) (hp:∀ e,e∈E→0<e.2.2) :
  enerZ (E.zip (ringF (flowX E x) l lo hi sg c))=enerZ (E.zip (flowX E x))+c*c*sumL (List.range E.length) (fun s=>rho l lo hi sg s*rho l lo hi sg s / (eAt E s).2.2):=by
 have hEF:E.length=(flowX E x).length:=flowX_len.symm
 have hk:E.length=(ringF (flowX E x) l lo hi sg c).length:=by rw [Yic]; exact hEF
 rw [Yf0 hk,Yf0 hEF]
 have e:sumL (List.range E.length) (fun s=>rget (ringF (flowX E x) l lo hi sg c) s*rget (ringF (flowX E x) l lo hi sg c) s / (eAt E s).2.2) =
   sumL (List.range E.length) (fun s=>rget (flowX E x) s*rget (flowX E x) s / (eAt E s).2.2)+(2*c*sumL (List.range E.length) (fun s=>rho l lo hi sg s*(rget x (eAt E s).1 - rget x (eAt E s).2.1)) +
   c*c*sumL (List.range E.length) (fun s=>rho l lo hi sg s*rho l lo hi sg s / (eAt E s).2.2)):=by
  rw [← Za0, ← Za0, ← Zba, ← Zba]
  refine Zaf (fun s hs=>?_)
  have hsl:=List.mem_range.1 hs
  have hk0:=hp (eAt E s) (List.mem_of_getElem? (Zd6 hsl))
  rw [Yg7 (by have:=hR.ll; omega) hR.hl (by omega),Z94 hsl]
  generalize rget x (eAt E s).1 - rget x (eAt E s).2.1=d at *
  generalize (eAt E s).2.2=k at *
  generalize rho l lo hi sg s=r at *
  have:k≠0:=by grind
  grind
 rw [e,Yzd (h:=rget x) hR.ll hi hR.lh hR.hl (fun s hs=>by
  obtain ⟨p1,p2⟩:=hR.path s hs
  rw [p1,p2])]
 have z:rget x (eAt E l).1 - rget x (eAt E l).2.1+sg*(rget x lo - rget x hi)=0:=by
  rcases hR.ends with ⟨rfl,p1,p2⟩ | ⟨rfl,p1,p2⟩ <;> (rw [p1,p2]; grind)
 rw [z]; grind
theorem Ypm {l lo hi:Nat}{sg:Rat}{E:List Sp}(hR:Ring E l lo hi sg) (hp:∀ e,e∈E→0<e.2.2):0<sumL (List.range E.length) (fun s=>rho l lo hi sg s*rho l lo hi sg s / (eAt E s).2.2):=by
 have hn:∀ s,s∈List.range E.length→0≤rho l lo hi sg s*rho l lo hi sg s / (eAt E s).2.2:=fun s hs=>by
  have hk0:=hp (eAt E s) (List.mem_of_getElem? (Zd6 (List.mem_range.1 hs)))
  have h1:0≤rho l lo hi sg s*rho l lo hi sg s:=by
   unfold rho
   rcases hR.ends with ⟨rfl,_⟩ | ⟨rfl,_⟩
   ·by_cases h1:s=l
    ·rw [if_pos h1]; decide+kernel
    ·rw [if_neg h1]
     by_cases h2:lo≤s∧s<hi
     ·rw [if_pos h2]; decide+kernel
     ·rw [if_neg h2]; decide+kernel
   ·by_cases h1:s=l
    ·rw [if_pos h1]; decide+kernel
    ·rw [if_neg h1]
     by_cases h2:lo≤s∧s<hi
     ·rw [if_pos h2]; decide+kernel
     ·rw [if_neg h2]; decide+kernel
  rw [Rat.div_def]
  exact Rat.mul_nonneg h1 (Rat.le_of_lt (Rat.inv_pos.2 hk0))
 have hsplit:sumL (List.range E.length) (fun s=>rho l lo hi sg s*rho l lo hi sg s / (eAt E s).2.2)=sumL (List.range E.length) (fun s=>(if s=l then 0 else 1)*(rho l lo hi sg s*rho l lo hi sg s / (eAt E s).2.2))+sumL (List.range E.length) (fun s=>(if s=l then 1 else 0)*(rho l lo hi sg s*rho l lo hi sg s / (eAt E s).2.2)):=by
  rw [← Zba]
  exact Zaf (fun s _=>by by_cases h:s=l <;> simp [h] <;> grind)
 rw [hsplit,Zkl List.nodup_range,if_pos (List.mem_range.2 hR.ll)]
 have h1:0≤sumL (List.range E.length) (fun s=>(if s=l then 0 else 1)*(rho l lo hi sg s*rho l lo hi sg s / (eAt E s).2.2)):=Yav (fun s hs=>by
  have:=hn s hs
  by_cases h:s=l
  ·rw [if_pos h]; grind
  ·rw [if_neg h]; grind)
 have h2:0<rho l lo hi sg l*rho l lo hi sg l / (eAt E l).2.2:=by
  have hk0:=hp (eAt E l) (List.mem_of_getElem? (Zd6 hR.ll))
  have:rho l lo hi sg l=1:=by unfold rho; rw [if_pos rfl]
  rw [this,Rat.div_def]
  exact Rat.mul_pos (by decide+kernel) (Rat.inv_pos.2 hk0)
 grind
end GoAbs
namespace GoAbs
open Go Go.Proofs
def Zbv:List IOp := [lI 7 2 0,mI 8 0 0,xI 9 1 7 8 0,lI 10 9 0,oI 11 (.call 29 [.t 10]) 0,mI 12 1 0,oI 13 (.call 33 [.t 12]) 0,lI 14 3 0,oI 15 (.call 29 [.t 14]) 0,oI 16 (.call 28 [.t 13,.t 15]) 0,oI 17 (.call 27 [.t 11,.t 16]) 0,oI 6 (.alloc [.bool false,.nils,.bool false,.nils]) 0,⟨none,.st 4 (.t 6) (.t 17),1,[0],[],none⟩]
@[go_sem ↓] theorem Zjh : autoK Zbv = (1, 1) := by kernel_rfl
@[go_sem] theorem Z79 : autoK [lI 7 2 0, mI 8 0 0, xI 9 1 7 8 0, lI 10 9 0, oI 11 (.call 29 [.t 10]) 0, mI 12 1 0, oI 13 (.call 33 [.t 12]) 0, lI 14 3 0, oI 15 (.call 29 [.t 14]) 0, oI 16 (.call 28 [.t 13, .t 15]) 0, oI 17 (.call 27 [.t 11, .t 16]) 0, oI 6 (.alloc [.bool false, .nils, .bool false, .nils]) 0, ⟨none, .st 4 (.t 6) (.t 17), 1, [0], [], none⟩] = (1, 1) := Zjh
def Zbw:List IOp := [lI 19 2 0,mI 20 0 0,lJ 21 4 6 0,oI 22 (.call 39 [.t 21]) 0,mI 18 22 0,eI 23 0 18 0,eI 24 1 18 0,xI 25 1 19 20 0,⟨none,.st 1 (.t 25) (.t 23),0,[],[],none⟩]
@[go_sem ↓] theorem Zkd : autoK Zbw = (0, 1) := by kernel_rfl
@[go_sem] theorem Z8f : autoK [lI 19 2 0, mI 20 0 0, lJ 21 4 6 0, oI 22 (.call 39 [.t 21]) 0, mI 18 22 0, eI 23 0 18 0, eI 24 1 18 0, xI 25 1 19 20 0, ⟨none, .st 1 (.t 25) (.t 23), 0, [], [], none⟩] = (0, 1) := Zkd
def Zf4:CC := .seq (.rg true Zbv) (.rg true Zbw)
abbrev Zam:Nat:=57
theorem Zn9:fnOk Tryz.prog 57=some (26,Zf4,[]):=by kernel_rfl
def Zhy:List IOp := [oI 5 (.box (.t 2)) 0,oI 6 (.mv (.c (.bool false))) 1]
def Zhi:List IOp := [mI 28 0 0,mI 29 1 0,fI 30 1 5 0,lI 31 30 0,fI 32 0 5 0,lI 33 32 0,fI 34 1 5 0,lI 35 34 0,oI 36 (.bin .quo (.t 35) (cI 5)) 0,fI 37 0 5 0,lI 38 37 0,oI 39 (.bin .quo (.t 38) (cI 5)) 0,oI 40 (.bsl none 4 [.int .i64 0] [(0,.t 31),(1,.t 33),(2,.t 36),(3,.t 39)]) 0,oI 41 (.call 22 [.t 28,.t 29,.t 40]) 1,oI 7 (.alloc [.int .i64 0,.nils]) 1,⟨none,.st 2 (.t 7) (.t 41),2,[],[],none⟩]
def Zhx:List IOp := [fI 43 0 7 0,lI 44 43 0,lJ 45 2 5 0,oI 46 (.call 30 [.t 44,.t 45]) 0,mI 42 46 0,eI 47 0 42 0,eI 48 1 42 0,mI 8 47 0,mI 9 48 0]
def Zhe:List IOp := [fI 50 0 7 0,lI 51 50 0,fI 52 1 7 0,lI 53 52 0,mI 54 8 0,mI 55 9 0,oI 56 (.call 40 [.t 51,.t 53,.t 54,.t 55]) 0,mI 49 56 0,eI 57 0 49 0,eI 58 1 49 0,mI 10 57 0,mI 11 58 0]
def Zhr:List IOp := [fI 60 0 7 0,lI 61 60 0,fI 62 1 7 0,lI 63 62 0,mI 64 8 0,mI 65 9 0,mI 66 10 0,oI 67 (.call 53 [.t 61,.t 63,.t 64,.t 65,.t 66]) 0,mI 59 67 0,eI 68 0 59 0,eI 69 1 59 0,mI 12 68 0,mI 13 69 0]
def Zhg:List IOp := [fI 71 0 7 0,lI 72 71 0,fI 73 1 7 0,lI 74 73 0,mI 75 10 0,oI 76 (.call 54 [.t 72,.t 74,.t 75]) 0,mI 70 76 0,eI 77 0 70 0,eI 78 1 70 0,mI 14 77 0,mI 15 78 0]
def Zhp:List IOp := [fI 80 0 7 0,lI 81 80 0,fI 82 1 7 0,lI 83 82 0,mI 84 8 0,mI 85 9 0,oI 86 (.call 31 [.t 81,.t 83,.t 84,.t 85]) 0,mI 79 86 0,eI 87 0 79 0,eI 88 1 79 0,mI 16 87 0,mI 17 88 0]
def Zhs:List IOp := [mI 89 11 0,oI 90 (.bin .neq (.t 89) (cI 0)) 0,mI 91 90 0,gI 92 (.mv (.t 10)) 0 91 false,gI 93 (.len (.t 92)) 0 91 false,gI 94 (.fa 1 (.t 7)) 0 91 false,gI 95 (.ld none (.t 94)) 0 91 false,gI 96 (.len (.t 95)) 0 91 false,gI 97 (.bin .neq (.t 93) (.t 96)) 0 91 false,oI 98 (.pick (.t 91) (.c (.bool true)) (.t 97)) 0,mI 99 98 0,gI 100 (.mv (.t 10)) 0 99 false,gI 101 (.call 51 [.t 100]) 0 99 false,gI 102 (.bin .neq (.t 101) (cI 0)) 0 99 false,oI 103 (.pick (.t 99) (.c (.bool true)) (.t 102)) 0,mI 104 103 0,gI 105 (.mv (.t 12)) 0 104 false,gI 106 (.un .not (.t 105)) 0 104 false,oI 107 (.pick (.t 104) (.c (.bool true)) (.t 106)) 0,mI 108 107 0,gI 109 (.mv (.t 13)) 0 108 false,gI 110 (.bin .neq (.t 109) (cI 0)) 0 108 false,oI 111 (.pick (.t 108) (.c (.bool true)) (.t 110)) 0,mI 112 111 0,gI 113 (.mv (.t 15)) 0 112 false,gI 114 (.bin .neq (.t 113) (cI 0)) 0 112 false,oI 115 (.pick (.t 112) (.c (.bool true)) (.t 114)) 0,mI 116 115 0,gI 117 (.mv (.t 17)) 0 116 false,gI 118 (.bin .neq (.t 117) (cI 0)) 0 116 false,oI 119 (.pick (.t 116) (.c (.bool true)) (.t 118)) 0,mI 120 119 0,gI 121 (.mv (.t 16)) 0 120 false,gI 122 (.call 34 [.t 121]) 0 120 false,gI 123 (.un .not (.t 122)) 0 120 false,oI 124 (.pick (.t 120) (.c (.bool true)) (.t 123)) 0,mI 125 124 0,gI 126 (.mv (.t 16)) 0 125 false,gI 127 (.call 29 [.t 126]) 0 125 false,gI 128 (.call 35 [.t 127]) 0 125 false,oI 129 (.pick (.t 125) (.c (.bool true)) (.t 128)) 0,mI 130 129 0,gI 131 (.mv (.t 14)) 0 130 false,gI 132 (.call 33 [cI 1]) 0 130 false,gI 133 (.mv (.t 16)) 0 130 false,gI 134 (.call 29 [.t 133]) 0 130 false,gI 135 (.call 32 [.t 132,.t 134]) 0 130 false,gI 136 (.call 20 [.t 131,.t 135]) 0 130 false,gI 137 (.un .not (.t 136)) 0 130 false,oI 138 (.pick (.t 130) (.c (.bool true)) (.t 137)) 0,mI 139 138 0,gI 140 (.call 18 []) 0 139 false,gI 141 (.un .not (.t 140)) 0 139 false,oI 142 (.pick (.t 139) (.c (.bool true)) (.t 141)) 0]
def Ztx:List IOp := [oI 6 (.mv (.c (.bool false))) 0]
def Zgc:List IOp := [fI 143 1 7 0,lI 144 143 0,oI 145 (.len (.t 144)) 0,oI 146 (.bin .sub (.t 145) (cI 1)) 0,mI 18 146 0]
def Zf7:List IOp := [mI 147 18 0,fI 148 0 7 0,lI 149 148 0,oI 150 (.bin .sub (.t 149) (cI 1)) 0,oI 151 (.bin .lss (.t 147) (.t 150)) 0]
def Zge:List IOp := [oI 6 (.mv (.c (.bool true))) 0]
def Zgb:List IOp := [fI 152 1 7 0,lI 153 152 0,mI 154 18 0,xI 155 3 153 154 0,lJ 156 3 155 0,oI 19 (.alloc [.int .i64 0,.int .i64 0,.str ⟨#[]⟩]) 0,⟨none,.st 3 (.t 19) (.t 156),1,[],[],none⟩]
def Zga:List IOp := [fI 157 0 5 0,lI 158 157 0,oI 159 (.call 38 [.t 158]) 0,oI 20 (.alloc [.str ⟨#[]⟩]) 0,⟨none,.st 1 (.t 20) (.t 159),1,[],[],none⟩]
def Zf3:List IOp := [oI 160 (.bsl none 0 [.str ⟨#[]⟩] []) 0,mI 161 10 1,oI 162 (.app none 16 (.t 160) (.t 161)) 1,oI 21 (.alloc [.nils]) 2,⟨none,.st 1 (.t 21) (.t 162),3,[],[],none⟩]
def Zf8:List IOp := [oI 163 (.mkf 57 [] [.t 21,.t 20]) 0,mI 22 163 0]
def Zgd:List IOp := [mI 164 22 0,mI 165 18 0,oI 166 (.callv (.t 164) [.t 165,cI 1]) 0]
def Zcl:List IOp := [fI 167 0 19 0,lI 168 167 0,fI 169 1 19 0,lI 170 169 0,oI 171 (.mn (.t 168) (.t 170)) 0,mI 23 171 0]
def Za8:List IOp := [mI 172 23 0,fI 173 0 19 0,lI 174 173 0,fI 175 1 19 0,lI 176 175 0,oI 177 (.mx (.t 174) (.t 176)) 0,oI 178 (.bin .lss (.t 172) (.t 177)) 0]
def Zcq:List IOp := [fI 181 0 19 0,lI 182 181 0,fI 183 1 19 0,lI 184 183 0,oI 185 (.bin .lss (.t 182) (.t 184)) 0]
def Zf6:List IOp := [mI 186 22 0,mI 187 23 0,oI 188 (.callv (.t 186) [.t 187,cI (-1)]) 0]
def Zgg:List IOp := [mI 189 22 0,mI 190 23 0,oI 191 (.callv (.t 189) [.t 190,cI 1]) 0]
def Zco:List IOp := [mI 179 23 0,oI 180 (.bin .add (.t 179) (cI 1)) 0,mI 23 180 0]
def Zc0:CC := .seq (.seq (.rg false Za8) (.cond (.t 178) .skip (.exit 0))) (.seq (.block 1 (.seq (.rg false Zcq) (.cond (.t 185) (.rg false Zf6) (.rg false Zgg)))) (.rg false Zco))
def Zcn:List IOp := [fI 193 0 7 0,lI 194 193 0,fI 195 1 7 0,lI 196 195 0,mI 197 8 0,mI 198 9 0,lI 199 21 0,oI 200 (.call 53 [.t 194,.t 196,.t 197,.t 198,.t 199]) 0,mI 192 200 0,eI 201 0 192 0,eI 202 1 192 0,mI 24 201 0,mI 25 202 0]
def Zcp:List IOp := [fI 204 0 7 0,lI 205 204 0,fI 206 1 7 0,lI 207 206 0,lI 208 21 0,oI 209 (.call 54 [.t 205,.t 207,.t 208]) 0,mI 203 209 0,eI 210 0 203 0,eI 211 1 203 0,mI 26 210 0,mI 27 211 0]
def Zck:List IOp := [mI 212 24 0,mI 213 212 0,gI 214 (.mv (.t 25)) 0 213 true,gI 215 (.bin .eql (.t 214) (cI 0)) 0 213 true,oI 216 (.pick (.t 213) (.t 215) (.c (.bool false))) 0,mI 217 216 0,gI 218 (.mv (.t 27)) 0 217 true,gI 219 (.bin .eql (.t 218) (cI 0)) 0 217 true,oI 220 (.pick (.t 217) (.t 219) (.c (.bool false))) 0,mI 221 220 0,gI 222 (.mv (.t 26)) 0 221 true,gI 223 (.call 34 [.t 222]) 0 221 true,oI 224 (.pick (.t 221) (.t 223) (.c (.bool false))) 0,mI 225 224 0,gI 226 (.mv (.t 26)) 0 225 true,gI 227 (.call 29 [.t 226]) 0 225 true,gI 228 (.mv (.t 14)) 0 225 true,gI 229 (.call 29 [.t 228]) 0 225 true,gI 230 (.call 26 [.t 227,.t 229]) 0 225 true,gI 231 (.bin .gtr (.t 230) (cI 0)) 0 225 true,oI 232 (.pick (.t 225) (.t 231) (.c (.bool false))) 0,mI 6 232 0]
def Zlh:CC := .seq (.rg false Zhy) (.seq (.rg false Zhi) (.seq (.rg false Zhx) (.seq (.rg false Zhe) (.seq (.rg false Zhr) (.seq (.rg false Zhg) (.seq (.rg false Zhp) (.seq (.seq (.rg false Zhs) (.cond (.t 142) (.seq (.rg false Ztx) .ret) .skip)) (.seq (.rg false Zgc) (.seq (.seq (.rg false Zf7) (.cond (.t 151) (.seq (.rg false Zge) .ret) .skip)) (.seq (.rg false Zgb) (.seq (.rg false Zga) (.seq (.rg false Zf3) (.seq (.rg false Zf8) (.seq (.rg false Zgd) (.seq (.seq (.rg false Zcl) (.block 0 (.loop Zc0))) (.seq (.rg false Zcn) (.seq (.rg false Zcp) (.seq (.rg false Zck) .ret))))))))))))))))))
abbrev Zzk:Nat:=12
theorem Zwt:fnOk Tryz.prog 12=some (233,Zlh,[.tmp 6]):=by kernel_rfl
end GoAbs
namespace GoAbs
open Go Go.Proofs
set_option exponentiation.threshold 20000
theorem Xb8 {x:List Rat}{i:Nat}(hi:i<x.length):(ss x)[i]? = some (.str (bs (numS (rget x i)))):=by
 unfold ss; rw [List.getElem?_map,Zaj hi]; rfl
end GoAbs
namespace GoAbs
open Go Go.Proofs
set_option exponentiation.threshold 20000
theorem Xa0 {t:List Rat}{i:Nat}{q:Rat}(h:i<t.length):(ss t).take i ++ [AV.str (bs (numS q))]++(ss t).drop (i+1)=ss (t.set i q):=by
 unfold ss
 rw [List.map_set]
 have hl:i<(t.map fun q=>AV.str (bs (numS q))).length:=by rw [List.length_map]; exact h
 generalize (t.map fun q=>AV.str (bs (numS q)))=l at *
 rw [List.set_eq_take_append_cons_drop,if_pos hl]
 simp
theorem Zb9 {q:Rat}(h:NumOk q):(numS q).length≤1000000000:=by have:=Ygx h; omega
def thN (q c:Rat) (sg:Int):Int:=q.num*(1*(c.den:Int))+sg*c.num*(q.den:Int)
def thD (q c:Rat):Int:=(q.den:Int)*(1*(c.den:Int))
theorem Xb1 {q c:Rat}{sg:Int}:Rat.divInt (thN q c sg) (thD q c)=q+sg*c:=by
 have hc:=c.den_pos
 have h:=Xeb (q:=q) (w:=(sg:Rat)*c) (wn:=sg*c.num) (wd:=1*(c.den:Int)) (by omega) (by
  have:Rat.divInt (sg*c.num) (1*(c.den:Int))=Rat.divInt sg 1*Rat.divInt c.num c.den:=by rw [Rat.divInt_mul_divInt]
  rw [this,Rat.num_divInt_den,Rat.divInt_eq_div]; grind)
 exact h
theorem Y4x {x0 x4:Blk}{t:List Rat}{c:Rat}{i k:Nat}{sg:Int}(hi:i<t.length) (hb:Rb k t) (hok:∀ q,q∈t→NumOk q) (hc:NumOk c) (hcb:Qb k c) (hsg:sg.natAbs≤1) (hk1:1≤k) (hk:k≤100000) (hn:NumOk (rget t i+sg*c)) :
  SpecR Tryz.prog Zam [x0,.cells [.str (bs (numS c))],.cells [.osl none 3 0 t.length],.cells (ss t),x4] [.int .i64 (i:Int),.int .i64 sg,.ptr 2 0,.ptr 1 0] (.tup [])
   [x0,.cells [.str (bs (numS c))],.cells [.osl none 3 0 t.length],.cells (ss (t.set i (rget t i+sg*c))),x4,.cells (rc (thN (rget t i) c sg) (thD (rget t i) c))]:=by
 have hm:Tryz.prog.follows .mixedOrders=true:=by kernel_rfl
 have gx:=Xb8 hi
 have hqb:=hb.get (j:=i) hi
 have hqo:=hok _ (List.mem_of_getElem? (Zaj hi))
 have hv:=Xb1 (q:=rget t i) (c:=c) (sg:=sg)
 have hst:=Xa0 (t:=t) (i:=i) (q:=rget t i+sg*c) hi
 have o1:=rof (Zb9 hqo) (Za3 hqo)
 have o2:=rof (Zb9 hc) (Za3 hc)
 have w1:=rwhole (v:=sg) (by omega)
 have isg:Ib k sg:=Nat.lt_of_le_of_lt hsg (Nat.one_lt_pow (by omega) (by omega))
 have i1:Ib k (1:Int):=Nat.one_lt_pow (a:=2) (by omega) (by omega)
 have mu:=rmulq (k:=k) isg i1 hcb.ib.1 hcb.ib.2 (by omega)
 have j1:Ib (2*k) (sg*c.num):=(isg.mul hcb.ib.1).mono (by omega)
 have j2:Ib (2*k) (1*(c.den:Int)):=(i1.mul hcb.ib.2).mono (by omega)
 have ad:=raddq (k:=2*k) (hqb.ib.1.mono (by omega)) (hqb.ib.2.mono (by omega)) j1 j2 (by omega)
 have hq:=(rget t i).den_pos
 have hcd:=c.den_pos
 have nu:=rnum (k:=4*k+1) (n:=thN (rget t i) c sg) (d:=thD (rget t i) c) (Ib.add (k:=4*k) (((hqb.ib.1.mono (show k≤2*k by omega)).mul j2).mono (by omega)) ((j1.mul (hqb.ib.2.mono (show k≤2*k by omega))).mono (by omega))) (((hqb.ib.2.mono (show k≤2*k by omega)).mul j2).mono (by omega)) (Int.mul_pos (by omega) (by omega)) (by omega) hv
 rw [if_pos hn] at nu
 have q0:(0:Int)≤(i:Int):=by omega
 have q1:(i:Int)<(t.length:Int):=by omega
 have rl:∀ a b:Int,(rc a b).length=4:=fun a b=>rfl
 have rt:∀ a b:Int,(rc a b).take 4=rc a b:=fun a b=>rfl
 have rd:∀ a b:Int,(rc a b).drop 4 = []:=fun a b=>rfl
 have hN:(rget t i).num*(1*(c.den:Int))+sg*c.num*((rget t i).den:Int)=thN (rget t i) c sg:=rfl
 have hD:((rget t i).den:Int)*(1*(c.den:Int))=thD (rget t i) c:=rfl
 rw [hN,hD] at ad
 have fits:i+1≤(ss t).length:=by rw [Yc6]; omega
 generalize thN (rget t i) c sg=N at *
 generalize thD (rget t i) c=D at *
 generalize rget t i+sg*c=q' at *
 generalize rget t i=q at *
 refine Zpn Zn9 (by simp) ?_
 unfold Zf4
 simp only [go_sem,Zbv,Zbw,hm,q0,q1,List.getElem?_drop,gx]
 refine Zaa o1 (by simp only [go_sem]) ?_
 simp only [go_sem]
 refine Zaa w1 (by simp only [go_sem]) ?_
 simp only [go_sem]
 refine Zaa o2 (by simp only [go_sem]) ?_
 simp only [go_sem]
 refine Zaa mu (by simp only [go_sem,avR,Yj4]) ?_
 simp only [go_sem]
 refine Zaa ad (by simp only [go_sem,avR,Yj4]) ?_
 simp only [go_sem,avR,rl,rt,rd,hm]
 refine Zaa nu (by simp only [go_sem,avR,Yj4]) ?_
 simp only [go_sem,q0,q1,fits,hst]
theorem Znj {t:List Rat}{c:Rat}{lo j:Nat}{p:Rat→Prop}(h:∀ i,i<t.length→p (rget t i)∧p (rget t i+c)):∀ q,q∈ringL t c lo j→p q:=fun q hq=>by
 obtain ⟨i,hi⟩:=List.mem_iff_getElem?.1 hq
 have hil:i<t.length:=by have:=(List.getElem?_eq_some_iff.1 hi).1; rwa [Zbp] at this
 have:q=rget (ringL t c lo j) i:=by rw [Zaj (by rw [Zbp]; exact hil)] at hi; exact (Option.some.inj hi).symm
 rw [this,Zkq hil]
 split
 ·exact (h i hil).2
 ·exact (h i hil).1
theorem Y4z {A B k n:Nat}{a b:Int}{kk ls:AV}{w:ByteArray}{t:List Rat}{c:Rat}{sg:Int}(hsg:(A<B∧sg = -1)∨(¬ A<B∧sg=1)) (hA:A≤t.length) (hB:B≤t.length) (htl:t.length≤1000) (hc:NumOk c) (hcb:Qb k c) (hk1:1≤k) (hk:k≤100000)
  (hall:∀ i,i<t.length→(NumOk (rget t i)∧Qb k (rget t i))∧(NumOk (rget t i+sg*c)∧Qb k (rget t i+sg*c))) (hkk:∀ f,kk.gc f=kk) (hls:∀ f,ls.gc f=ls) {K:Ex→St→Prop}
  (hK:∀ e:Nat→AV,e 7 = .ptr 4 0→e 8 = .int .i64 a→e 9 = .int .i64 b→e 14 = .str w→e 21 = .ptr 2 0→K (.exit 0) ⟨e,[.cells [.int .i64 (A:Int),.int .i64 (B:Int),kk],.cells [.str (bs (numS c))],.cells [.osl none 3 0 t.length],.cells (ss (ringL t (sg*c) (min A B) (max A B))),.cells [.int .i64 (n:Int),ls]]⟩) :
  T Tryz.prog 233 0 (.loop Zc0) ⟨envL [(7,.ptr 4 0),(8,.int .i64 a),(9,.int .i64 b),(14,.str w),(19,.ptr 0 0),(21,.ptr 2 0),(22,.fn Zam [] [.ptr 2 0,.ptr 1 0]),(23,.int .i64 ((min A B:Nat):Int))],
   [.cells [.int .i64 (A:Int),.int .i64 (B:Int),kk],.cells [.str (bs (numS c))],.cells [.osl none 3 0 t.length],.cells (ss t),.cells [.int .i64 (n:Int),ls]]⟩ K:=by
 have hm:Tryz.prog.follows .mixedOrders=true:=by kernel_rfl
 refine Zag (fun j:Nat=>⟨envL [(7,.ptr 4 0),(8,.int .i64 a),(9,.int .i64 b),(14,.str w),(19,.ptr 0 0),(21,.ptr 2 0),(22,.fn Zam [] [.ptr 2 0,.ptr 1 0]),(23,.int .i64 (j:Int))],
   [.cells [.int .i64 (A:Int),.int .i64 (B:Int),kk],.cells [.str (bs (numS c))],.cells [.osl none 3 0 t.length],.cells (ss (ringL t (sg*c) (min A B) j)),.cells [.int .i64 (n:Int),ls]]⟩)
  (fun j=>min A B≤j∧j≤max A B) (fun j=>max A B - j) (min A B) ⟨by omega,by omega⟩ (Zdp (Zab [(7,.ptr 4 0),(8,.int .i64 a),(9,.int .i64 b),(14,.str w),(19,.ptr 0 0),(21,.ptr 2 0),(22,.fn Zam [] [.ptr 2 0,.ptr 1 0]),(23,.int .i64 ((min A B:Nat):Int))] (by simp only [go_sem])) (by rw [Ylg])) (fun j hj N hN=>?_)
 obtain ⟨j1,j2⟩:=hj
 unfold Zc0
 by_cases hjl:j<max A B
 ·have hjt:j<t.length:=by omega
  have q1:(j:Int)<((max A B:Nat):Int):=by omega
  have e1:IntKind.i64.wrap ((j:Int)+1)=((j+1:Nat):Int):=by rw [Zac (by omega) (by omega)]; omega
  have hrj:rget (ringL t (sg*c) (min A B) j) j=rget t j:=by rw [Zkq hjt,if_neg (by omega)]
  have hfn:=Y4x (x0 := .cells [.int .i64 (A:Int),.int .i64 (B:Int),kk]) (x4 := .cells [.int .i64 (n:Int),ls]) (t:=ringL t (sg*c) (min A B) j) (c:=c) (i:=j) (k:=k) (sg:=sg) (by rw [Zbp]; exact hjt)
   (Znj (p:=Qb k) (fun i hi=>⟨(hall i hi).1.2,(hall i hi).2.2⟩)) (Znj (p:=NumOk) (fun i hi=>⟨(hall i hi).1.1,(hall i hi).2.1⟩)) hc hcb (by omega) hk1 hk (by rw [hrj]; exact (hall j hjt).2.1)
  rw [Yt2 j1 hjt,Zbp] at hfn
  have fin:∀ (e:Nat→AV) (x:List AV),Has e [(7,.ptr 4 0),(8,.int .i64 a),(9,.int .i64 b),(14,.str w),(19,.ptr 0 0),(21,.ptr 2 0),(22,.fn Zam [] [.ptr 2 0,.ptr 1 0]),(23,.int .i64 ((j+1:Nat):Int))] →
    N ⟨e,[.cells [.int .i64 (A:Int),.int .i64 (B:Int),kk],.cells [.str (bs (numS c))],.cells [.osl none 3 0 t.length],.cells (ss (ringL t (sg*c) (min A B) (j+1))),.cells [.int .i64 (n:Int),ls],.cells x]⟩:=fun e x he=>by
   refine hN (j+1) _ ⟨by omega,by omega⟩ (by omega) (Zdp (Zii [0,1,2,3,4] (by decide) (fun i hi=>by omega) _ he) ?_)
   show St.mk _ [Blk.cells [_,_,kk.gc _],_,_,Blk.cells (gcL _ (ss (ringL t (sg*c) (min A B) (j+1)))),Blk.cells [_,ls.gc _]]=_
   rw [Yza,hkk,hls]
   rfl
  generalize thN (rget (ringL t (sg*c) (min A B) j) j) c sg=U at *
  generalize thD (rget (ringL t (sg*c) (min A B) j) j) c=V at *
  rcases hsg with ⟨hAB,rfl⟩ | ⟨hAB,rfl⟩
  ·have k1:(A:Int)<(B:Int):=by omega
   have q2:(j:Int)<(B:Int):=by omega
   simp only [go_sem,Za8,q2,Zcq,k1,Zf6]
   refine Zi0 hfn ?_
   simp only [go_sem,Zco,e1]
   exact fin _ _ (by simp only [go_sem])
  ·have k1:¬ (A:Int)<(B:Int):=by omega
   have q2:(j:Int)<(A:Int):=by omega
   simp only [go_sem,Za8,q2,Zcq,k1,Zgg]
   refine Zi0 hfn ?_
   simp only [go_sem,Zco,e1]
   exact fin _ _ (by simp only [go_sem])
 ·have hje:j=max A B:=by omega
  subst hje
  have q1:¬ ((max A B:Nat):Int)<((max A B:Nat):Int):=by omega
  generalize ringL t (sg*c) (min A B) (max A B)=R at *
  generalize hM:max A B=M at *
  by_cases hAB:A<B
  ·have k1:(A:Int)<(B:Int):=by omega
   have q2:¬ (M:Int)<(B:Int):=by omega
   simp only [go_sem,Za8,k1,q2]
   exact hK _ (by simp only [go_sem]) (by simp only [go_sem]) (by simp only [go_sem]) (by simp only [go_sem]) (by simp only [go_sem])
  ·have k1:¬ (A:Int)<(B:Int):=by omega
   have q2:¬ (M:Int)<(A:Int):=by omega
   simp only [go_sem,Za8,k1,q2]
   exact hK _ (by simp only [go_sem]) (by simp only [go_sem]) (by simp only [go_sem]) (by simp only [go_sem]) (by simp only [go_sem])
end GoAbs
namespace GoAbs
open Go Go.Proofs
set_option exponentiation.threshold 20000
theorem Yus (v:Int):0<numQ v∧Qb 20 (numQ v)∧NumOk (numQ v):=by
 obtain ⟨_,q,h1,h2,h3,h4,_⟩:=Yk2 (n:=2) (a:=0) (b:=1) (v:=v) ⟨by decide,by decide,by decide,by decide,by decide⟩
 have hok:=(Ygi v).1
 have e:parseL (numS (numQ v))=some q:=h1
 rw [Za3 hok] at e
 have e':=Option.some.inj e
 have c20:(1000000:Nat)<2 ^ 20:=by decide
 rw [e']
 exact ⟨h2,⟨Nat.lt_of_le_of_lt h3 c20,Nat.lt_of_le_of_lt h4 c20⟩,by rw [← e']; exact hok⟩
theorem Yu7 {m a b:Nat}{E:List Sp}(h:NetC (m+1) E) (ha:a<m+1) (hb:b<m+1) (hab:a≠b):Sol (m+1) E (rget (unitX m a b E)) (edge a b):=fun i hi=>by
 rw [← Z8c ha hb hab (i:=i)]
 exact Yow (m:=m) (E:=E) (f:=unitF (m+1) a b) h Ze8 i hi
theorem Yvf {m s:Nat}{X:List Spr}{p:List Int}(hs:s<m):(eAt ((madeL (m+1) X p).map toE) s).1=s∧(eAt ((madeL (m+1) X p).map toE) s).2.1=s+1:=by
 have h:(madeL (m+1) X p)[s]? = some (pathE p s):=by
  unfold madeL
  rw [Nat.add_sub_cancel,List.getElem?_append_left (by rw [Znh]; exact hs)]
  unfold pathL
  rw [List.getElem?_map,List.getElem?_range hs]; rfl
 have h2:((madeL (m+1) X p).map toE)[s]? = some (toE (pathE p s)):=by rw [List.getElem?_map,h]; rfl
 have hl:=(List.getElem?_eq_some_iff.1 h2).1
 rw [Zd6 hl] at h2
 rw [Option.some.inj h2]
 unfold toE pathE
 exact ⟨by simp,by simp⟩
theorem Yzh {q r:Rat}{k:Nat}(h:r<q) (hq:Qb k q) (hr:Qb k r) (hk:k≤1000000):∃ c:Int,c > 0∧SpecV Tryz.prog Yek [avR q.num q.den,avR r.num r.den] (.int .i64 c):=by
 have hc:=rcmpq hq.ib.1 hq.ib.2 hr.ib.1 hr.ib.2 hk
 have hlt:=(Rat.lt_iff _ _).1 h
 refine ⟨_,?_,hc⟩
 rw [if_neg (by omega),if_neg (by omega)]
 decide
theorem You {l lo hi:Nat}{sg:Rat}{s:Nat}(h:sg=1∨sg = -1):Qb 2 (rho l lo hi sg s):=by
 have k1:Qb 2 (1:Rat):=⟨by decide+kernel,by decide+kernel⟩
 have k2:Qb 2 (-1:Rat):=⟨by decide+kernel,by decide+kernel⟩
 unfold rho
 split
 ·exact k1
 ·split
  ·rcases h with rfl | rfl
   ·exact k1
   ·exact k2
  ·exact Qb.zero (by omega)
theorem Yvz {F:List Rat}(hok:∀ q,q∈F→NumOk q) (hl:F.length≤1000000):SpecV Tryz.prog Yc8 [.sl (ss F)] (.int .i64 0):=by
 have h:=rnums (L:=F.map numS) (by rw [List.length_map]; omega) (fun s hs=>by obtain ⟨q,hq,rfl⟩:=List.mem_map.1 hs; have:=Ygx (hok q hq); omega)
 have e:(F.map numS).map strAV=ss F:=by rw [List.map_map]; rfl
 have e2:numsE (F.map numS)=0:=by
  unfold numsE
  rw [if_pos]
  exact List.all_eq_true.2 fun s hs=>by obtain ⟨q,hq,rfl⟩:=List.mem_map.1 hs; rw [Za3 (hok q hq)]; rfl
 rwa [e,e2] at h
theorem Yux {F:List Rat}(hok:∀ q,q∈F→NumOk q):(F.map numS).map toQ=F:=by
 rw [List.map_map]
 conv=>rhs; rw [← List.map_id F]
 exact List.map_congr_left fun q hq=>by
  show toQ (numS q)=q
  unfold toQ; rw [Za3 (hok q hq)]; rfl
theorem Yd9 {n a b k:Nat}{L:List Spr}{E:List Sp}{F:List Rat}(hL:L.length≤1000) (hl:∀ s,s∈L→s.2.2.length≤1000000000) (h:readR (n:Int) L = .tup [.agg (netC n E),.int .i64 0]) (hok:∀ q,q∈F→NumOk q) (hFl:F.length=L.length) (hEl:E.length=L.length) (ha:a<n) (hb:b<n) (hab:a≠b) (hn:n≤1000)
  (hE:∀ e,e∈E→e.1<n∧e.2.1<n∧e.1≠e.2.1) (hFb:Rb k F) (hk:k≤10000000) (hc:carriesB n a b E F) :
  SpecV Tryz.prog Zh7 [.int .i64 (n:Int),.sl (L.map sprAV),.int .i64 (a:Int),.int .i64 (b:Int),.sl (ss F)] (.tup [.bool true,.int .i64 0]):=by
 have hm:=Yux hok
 have:=Ymz (k:=k) hL hl h (F:=F.map numS) (fun l hl=>by obtain ⟨q,hq,rfl⟩:=List.mem_map.1 hl; exact ⟨Zb9 (hok q hq),by rw [Za3 (hok q hq)]; rfl⟩) (by rw [List.length_map,hFl]) hEl ha hb hab hn hE (by rw [hm]; exact hFb) hk
 rwa [hm,decide_eq_true hc, ← Yuu] at this
theorem Yir {n k:Nat}{L:List Spr}{E:List Sp}{F:List Rat}(hL:L.length≤1000) (hl:∀ s,s∈L→s.2.2.length≤1000000000) (h:readR (n:Int) L = .tup [.agg (netC n E),.int .i64 0]) (hok:∀ q,q∈F→NumOk q) (hFl:F.length=L.length) (hEl:E.length=L.length)
  (hE:∀ e,e∈E→Qb 67 e.2.2∧e.2.2≠0) (hFb:Rb k F) (hk:k≤10000000) (hn:NumOk (enerZ (E.zip F))) :
  SpecV Tryz.prog Zke [.int .i64 (n:Int),.sl (L.map sprAV),.sl (ss F)] (.tup [.str (bs (numS (enerZ (E.zip F)))),.int .i64 0]):=by
 have hm:=Yux hok
 have:=Yrk (k:=k) hL hl h (F:=F.map numS) (fun l hl=>by obtain ⟨q,hq,rfl⟩:=List.mem_map.1 hl; exact ⟨Zb9 (hok q hq),by rw [Za3 (hok q hq)]; rfl⟩) (by rw [List.length_map,hFl]) hEl hE (by rw [hm]; exact hFb) hk
 rw [hm, ← Yuu] at this
 unfold numR at this
 rwa [if_pos hn] at this
end GoAbs
