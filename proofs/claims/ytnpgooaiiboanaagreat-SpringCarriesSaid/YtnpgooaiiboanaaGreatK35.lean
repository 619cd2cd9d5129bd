/- Lemmas for the claim (contracts of the functions that it reaches, and what they compute), without conditions. -/
import Derived.Test.YtnpgooaiiboanaaGreatK34
set_option linter.unusedVariables false
set_option linter.unusedSimpArgs false
set_option maxRecDepth 10000
set_option maxHeartbeats 2000000
namespace GoAbs
open Go Go.Proofs
set_option exponentiation.threshold 20000
def numsL (L:List (List UInt8)):List (List UInt8):=(L.take 42).map shortS
theorem Yvf {L:List (List UInt8)}:(numsL L).length≤42:=by unfold numsL; rw [List.length_map,List.length_take]; omega
theorem Ylp {L:List (List UInt8)}:∀ l,l∈numsL L→l.length≤23:=fun l hl=>by
 unfold numsL at hl; obtain ⟨t,_,rfl⟩:=List.mem_map.1 hl; exact Ydp
theorem Y0o {L:List (List UInt8)}{K:Ex→St→Prop}
  (hK:∀ e:Nat→AV,e 3 = .osl none 0 0 (numsL L).length→K (.exit 0) ⟨e,[.cells (txts (numsL L))]⟩) :
  T Tryz.prog 25 0 (.loop Zuu) ⟨envL [(0,.sl (txts L)),(3,.osl none 0 0 0),(4,.int .i64 0)],[.cells []]⟩ K:=by
 have hm:Tryz.prog.follows .mixedOrders=true:=by kernel_rfl
 refine Zaf (fun i:Nat=>⟨envL [(0,.sl (txts L)),(3,.osl none 0 0 i),(4,.int .i64 (i:Int))],[.cells (txts ((L.take i).map shortS))]⟩)
  (fun i=>i≤L.length∧i≤42) (fun i=>L.length - i) 0 ⟨by omega,by omega⟩ (Zab _ (by simp only [go_sem]; simp)) (fun i hI N hN=>?_)
 obtain ⟨h1,h2⟩:=hI
 unfold Zuu
 by_cases hi:i<L.length
 ·have q0:(0:Int)≤(i:Int):=by omega
  have q1:(i:Int)<(L.length:Int):=by omega
  by_cases h42:i<42
  ·have q2:(i:Int)<42:=by omega
   obtain ⟨l,hli⟩:∃ l,L[i]? = some l:=⟨_,List.getElem?_eq_getElem hi⟩
   have gl:=Ye1 hli
   have tk:(L.take (i+1)).map shortS=(L.take i).map shortS ++ [shortS l]:=by rw [List.take_add_one,hli,List.map_append]; rfl
   have e1:IntKind.i64.wrap ((i:Int)+1)=((i+1:Nat):Int):=by rw [Zac (by omega) (by omega)]; omega
   have l1:(txts ((L.take i).map shortS)).length=i:=by rw [Zfw,List.length_map,List.length_take]; omega
   have l2:(txts ((L.take i).map shortS)).take i=txts ((L.take i).map shortS):=List.take_of_length_le (by omega)
   have s1:(i+1)*16≤1099511627776:=by omega
   simp only [go_sem,Zlr,Z59,Zfw,q0,q1,q2,gl]
   refine Zaa lshort (by simp only [go_sem]) ?_
   simp only [go_sem,l1,l2,s1,Z65,e1]
   refine ⟨Nat.le_refl _,hN (i+1) _ ⟨by omega,by omega⟩ (by omega) (Zgo (Zjl [2] (by decide) (fun i hi=>by omega) [(0,.sl (txts L)),(3,.osl none 2 0 (i+1)),(4,.int .i64 ((i+1:Nat):Int))] (by simp only [go_sem])) ?_)⟩
   have hs:txts ((L.take (i+1)).map shortS)=txts ((L.take i).map shortS) ++ [.str (bs (shortS l))]:=by rw [tk]; unfold txts; rw [List.map_append]; rfl
   show St.mk _ [Blk.cells (gcL _ (txts ((L.take i).map shortS) ++ [.str (bs (shortS l))]))]=_
   rw [← hs,Y7c]
   rfl
  ·have q2:¬ (i:Int)<42:=by omega
   have hf:(L.take i).map shortS=numsL L:=by unfold numsL; rw [show i=42 by omega]
   have hfl:(numsL L).length=i:=by rw [← hf,List.length_map,List.length_take]; omega
   rw [hfl] at hK
   rw [hf]
   simp only [go_sem,Zlr,Zfw,q1,q2]
   exact hK _ (by simp only [go_sem])
 ·have q1:¬ (i:Int)<(L.length:Int):=by omega
  have hf:(L.take i).map shortS=numsL L:=by unfold numsL; rw [List.take_of_length_le (by omega),List.take_of_length_le (by omega)]
  have hfl:(numsL L).length=i:=by rw [← hf,List.length_map,List.length_take]; omega
  rw [hfl] at hK
  rw [hf]
  simp only [go_sem,Zlr,Zfw,q1]
  exact hK _ (by simp only [go_sem])
theorem lnums {L:List (List UInt8)}:SpecV Tryz.prog Yd8 [.sl (txts L)] (.sl (txts (numsL L))):=by
 refine Zbt Yly (by simp) (Ze7 1 rfl ?_)
 unfold Yis
 simp only [go_sem,Z7o,Z73]
 refine T_le (Z4i 3 none (by simp only [go_sem]) [(0,.sl (txts L))] (by simp only [go_sem])) ?_
 refine T_W ?_
 simp only [go_sem,Z56]
 refine Za0 [(0,.sl (txts L)),(3,.osl none 0 0 0),(4,.int .i64 0)] (by simp only [go_sem]) ?_
 refine Y0o (fun e e3=>?_)
 simp only [go_sem,Z6i,e3]
 exact Y4j rfl (by simp [allOf])
theorem Y9g {L:List (List UInt8)}(hl:∀ l,l∈L→l.length≤1000000000∧(parseL l).isSome=true) (hL:L.length≤1000000) {K:Ex→St→Prop}
  (hK:∀ e:Nat→AV,e 3 = .osl (some 4) 0 0 L.length→K (.exit 0) ⟨e,[.cells (qr (L.map toQ))]⟩) :
  T Tryz.prog 21 0 (.loop Z4v) ⟨envL [(0,.sl (txts L)),(3,.osl (some 4) 0 0 0),(4,.int .i64 0)],[.cells []]⟩ K:=by
 have hm:Tryz.prog.follows .mixedOrders=true:=by kernel_rfl
 refine Zaf (fun i:Nat=>⟨envL [(0,.sl (txts L)),(3,.osl (some 4) 0 0 i),(4,.int .i64 (i:Int))],[.cells (qr ((L.take i).map toQ))]⟩)
  (fun i=>i≤L.length) (fun i=>L.length - i) 0 (by omega) (Zab _ (by simp only [go_sem]; simp)) (fun i h1 N hN=>?_)
 unfold Z4v
 by_cases hi:i<L.length
 ·have q0:(0:Int)≤(i:Int):=by omega
  have q1:(i:Int)<(L.length:Int):=by omega
  obtain ⟨l,hli⟩:∃ l,L[i]? = some l:=⟨_,List.getElem?_eq_getElem hi⟩
  obtain ⟨k1,k2⟩:=hl l (List.mem_of_getElem? hli)
  obtain ⟨q,hq⟩:=Option.isSome_iff_exists.1 k2
  have hqq:toQ l=q:=by unfold toQ; rw [hq]; rfl
  have ho:=rof k1 hq
  have gl:=Ye1 hli
  have e1:IntKind.i64.wrap ((i:Int)+1)=((i+1:Nat):Int):=by rw [Zac (by omega) (by omega)]; omega
  have tk:qr ((L.take (i+1)).map toQ)=qr ((L.take i).map toQ)++rq q:=by rw [List.take_add_one,hli,List.map_append,Ytr, ← hqq]; simp [qr]
  have l1:(qr ((L.take i).map toQ)).length=i*4:=by rw [Y9s,List.length_map,List.length_take]; congr 1; omega
  have l2:(qr ((L.take i).map toQ)).take (i*4)=qr ((L.take i).map toQ):=List.take_of_length_le (by omega)
  have s1:(i+1)*64≤1099511627776:=by omega
  have hr4:rc q.num q.den=rq q:=rfl
  simp only [go_sem,Z43,Yei,Zfw,q0,q1,gl]
  refine Zaa ho (by simp only [go_sem]) ?_
  simp only [go_sem,avR,hr4,Zi4,Ze4,Zuf,l1,l2,s1,Ydj,e1]
  refine ⟨Nat.le_refl _,hN (i+1) _ (by omega) (by omega) (Zgo (Zjl [2] (by decide) (fun i hi=>by omega) [(0,.sl (txts L)),(3,.osl (some 4) 2 0 (i+1)),(4,.int .i64 ((i+1:Nat):Int))] (by simp only [go_sem])) ?_)⟩
  show St.mk _ [Blk.cells (gcL _ (qr ((L.take i).map toQ)++rq q))]=_
  rw [← tk,Xbu]
  rfl
 ·have hie:i=L.length:=by omega
  subst hie
  have q1:¬ ((L.length:Nat):Int)<(L.length:Int):=by omega
  simp only [go_sem,Z43,Zfw,q1,List.take_length]
  exact hK _ (by simp only [go_sem])
theorem rqs {L:List (List UInt8)}(hl:∀ l,l∈L→l.length≤1000000000∧(parseL l).isSome=true) (hL:L.length≤1000000):SpecV Tryz.prog Y2s [.sl (txts L)] (rowV (L.map toQ)):=by
 refine Zbt Yx9 (by simp) (Ze7 1 rfl ?_)
 unfold Yv2
 simp only [go_sem,Yc5,Ydl]
 refine T_le (Z4i 3 (some 4) (by simp only [go_sem]) [(0,.sl (txts L))] (by simp only [go_sem])) ?_
 refine T_W ?_
 simp only [go_sem,Yet]
 refine Za0 [(0,.sl (txts L)),(3,.osl (some 4) 0 0 0),(4,.int .i64 0)] (by simp only [go_sem]) ?_
 refine Y9g hl hL (fun e e3=>?_)
 simp only [go_sem,Yeo,e3]
 have:=Y69 (H := [.cells (qr (L.map toQ))]) (ids:=allOf [.cells (qr (L.map toQ))]) (b:=0) (x:=L.map toQ) rfl (by simp [allOf])
 rwa [List.length_map] at this
end GoAbs
namespace GoAbs
open Go Go.Proofs
set_option exponentiation.threshold 20000
theorem Yop {l:List UInt8}{q:Rat}{k:Nat}(hk:1≤k) (h:parseL l=some q) (hl:l.length≤k):q.num.natAbs<10 ^ k∧q.den<10 ^ k:=by
 obtain ⟨_,h2,h3,h4⟩:=Yem h
 have hs:(signL l).1.length≤k:=by
  unfold signL
  split
  ·show l.tail.length≤k
   rw [List.length_tail]; omega
  ·exact hl
 have hb:(befL (signL l).1).length≤k:=by
  unfold befL
  exact Nat.le_trans (List.takeWhile_sublist _).length_le hs
 refine ⟨Z9g (k:=k) (by rw [h2]; exact hb),?_⟩
 by_cases h47:47∈(signL l).1
 ·refine Z9g (k:=k) ?_
  rw [(h3 h47).2]
  have:=Yh4 h47
  have h5:=congrArg List.length this
  rw [List.length_append,List.length_cons] at h5
  omega
 ·rw [h4 h47]; exact Nat.one_lt_pow (by omega) (by omega)
theorem Ys2 {l:List UInt8}{q:Rat}(h:parseL l=some q) (hl:l.length≤23):Qb 77 q:=by
 obtain ⟨h1,h2⟩:=Yop (by omega) h hl
 have c:10 ^ 23<2 ^ 77:=by decide
 exact ⟨Nat.lt_trans h1 c,Nat.lt_trans h2 c⟩
theorem Ysb {l:List UInt8}{q:Rat}(h:parseL l=some q) (hl:l.length≤6):Qb 20 q:=by
 obtain ⟨h1,h2⟩:=Yop (by omega) h hl
 have c:10 ^ 6<2 ^ 20:=by decide
 exact ⟨Nat.lt_trans h1 c,Nat.lt_trans h2 c⟩
end GoAbs
namespace GoAbs
open Go Go.Proofs
set_option exponentiation.threshold 20000
end GoAbs
namespace GoAbs
open Go Go.Proofs
set_option exponentiation.threshold 20000
end GoAbs
namespace GoAbs
open Go Go.Proofs
set_option exponentiation.threshold 20000
theorem Yx7 (n:Int) (L:List Spr) (F:List (List UInt8)):(∃ (c e:Int) (nc:List AV),c≠0∧checkE n L F=c∧nc.length=3∧readR n L = .tup [.agg nc,.int .i64 e] ∧
   ((c=2∧(e=2∨¬ ∀ l,l∈F→(parseL l).isSome=true))∨(c=1∧e=1∧(∀ l,l∈F→(parseL l).isSome=true)))) ∨
  (checkE n L F=0∧(∀ l,l∈F→(parseL l).isSome=true)∧readR n L = .tup [.agg (netC n.toNat (L.map toE)),.int .i64 0]∧2≤n∧n≤10∧L.length≤40∧∀ s,s∈L→sprOk n s=true∧∃ q,parseL s.2.2=some q):=by
 unfold checkE readR formsE fewN
 cases h1:(L.all fun s=>(parseL s.2.2).isSome) with
 | false=>exact .inl ⟨2,2,_,by decide,by simp,rfl,by simp; rfl,.inl ⟨rfl,.inl rfl⟩⟩
 | true =>
  by_cases hF:∀ l,l∈F→(parseL l).isSome=true
  ·have hn:numsE F=0:=by unfold numsE; rw [if_pos (List.all_eq_true.2 hF)]
   cases h2:(decide (2≤n∧n≤10∧L.length≤40) && L.all (sprOk n)) with
   | false=>exact .inl ⟨1,1,_,by decide,by simp [hn],rfl,by simp; rfl,.inr ⟨rfl,rfl,hF⟩⟩
   | true =>
    obtain ⟨h3,h4⟩:=Bool.and_eq_true_iff.1 h2
    obtain ⟨g1,g2,g3⟩:=of_decide_eq_true h3
    refine .inr ⟨by simp [hn],hF,by simp,g1,g2,g3,fun s hs=>⟨List.all_eq_true.1 h4 s hs,?_⟩⟩
    exact Option.isSome_iff_exists.1 (List.all_eq_true.1 h1 s hs)
  ·have hn:numsE F=2:=by unfold numsE; rw [if_neg (fun h=>hF (List.all_eq_true.1 h))]
   cases h2:(decide (2≤n∧n≤10∧L.length≤40) && L.all (sprOk n)) with
   | false=>exact .inl ⟨2,1,_,by decide,by simp [hn],rfl,by simp; rfl,.inl ⟨rfl,.inr hF⟩⟩
   | true=>exact .inl ⟨2,0,_,by decide,by simp [hn],rfl,by simp; rfl,.inl ⟨rfl,.inr hF⟩⟩
end GoAbs
namespace GoAbs
open Go Go.Proofs
set_option exponentiation.threshold 20000
def divg (i:Nat):List Sp→List Rat→Rat
 | e::E,q::F=>q*edge e.1 e.2.1 i+divg i E F
 | _,_=>0
theorem Ya0 {i:Nat}{e:Sp}{q:Rat}:∀ {E:List Sp}{F:List Rat},E.length=F.length→divg i (E ++ [e]) (F ++ [q])=divg i E F+q*edge e.1 e.2.1 i
 | [],[],_=>by simp [divg]; grind
 | [],_::_,h=>by simp at h
 | _::_,[],h=>by simp at h
 | a::E,b::F,h=>by
  rw [List.cons_append,List.cons_append]
  show b*edge a.1 a.2.1 i+divg i (E ++ [e]) (F ++ [q])=b*edge a.1 a.2.1 i+divg i E F+q*edge e.1 e.2.1 i
  rw [Ya0 (by simpa using h)]; grind
theorem Ypb {a b i:Nat}:Qb 2 (edge a b i):=by
 by_cases hab:a=b
 ·subst hab; rw [Yh0]; exact Qb.zero (by omega)
 ·exact Yw7 hab
theorem Z23 {i k:Nat}:∀ {E:List Sp}{F:List Rat},(∀ q,q∈F→Qb k q)→Qb (1+F.length*(k+3)) (divg i E F)
 | [],F,_=>by unfold divg; exact Qb.zero (by omega)
 | _::_,[],_=>by unfold divg; exact Qb.zero (by omega)
 | e::E,q::F,h=>by
  unfold divg
  exact (((h q (by simp)).mul2 Ypb).add2 (Z23 (fun x hx=>h x (by simp [hx])))).mono (by rw [List.length_cons,Nat.add_mul]; omega)
def restL (n a b:Nat) (E:List Sp) (F:List Rat):List Rat:=(List.range n).map fun i=>divg i E F - edge a b i
theorem Zbp {n a b:Nat}{E:List Sp}{F:List Rat}:(restL n a b E F).length=n:=by simp [restL]
theorem Zjn {n a b i:Nat}{E:List Sp}{F:List Rat}(hi:i<n):rget (restL n a b E F) i=divg i E F - edge a b i:=Ysv hi
theorem Yqf {n a b k:Nat}{E:List Sp}{F:List Rat}(h:∀ q,q∈F→Qb k q):Rb (F.length*(k+3)+4) (restL n a b E F):=fun x hx=>by
 unfold restL at hx
 obtain ⟨i,_,rfl⟩:=List.mem_map.1 hx
 exact ((Z23 h).sub2 Ypb).mono (by omega)
theorem Ysf {n a b:Nat}(ha:a<n) (hb:b<n) (hab:a≠b):((List.replicate n (0:Rat)).set a (-1)).set b 1=restL n a b [] []:=by
 apply List.ext_getElem?
 intro i
 by_cases hi:i<n
 ·rw [Zal (by simp; exact hi),Zal (by rw [Zbp]; exact hi),Zjn hi,Zwa (by simp; exact hb),Zwa (by simp; exact ha)]
  have h0:rget (List.replicate n (0:Rat)) i=0:=by
   unfold rget; rw [List.getD_eq_getElem?_getD,List.getElem?_replicate,if_pos hi]; rfl
  rw [h0]
  unfold divg edge
  by_cases h1:i=a
  ·rw [if_neg (by omega),if_pos h1,if_pos h1,if_neg (by omega)]; congr 1; grind
  ·by_cases h2:i=b
   ·rw [if_pos h2,if_neg h1,if_pos h2]; congr 1; grind
   ·rw [if_neg h2,if_neg h1,if_neg h1,if_neg h2]; congr 1; grind
 ·rw [List.getElem?_eq_none (by simp; omega),List.getElem?_eq_none (by rw [Zbp]; omega)]
theorem Yqt {n a b:Nat}{e:Sp}{q:Rat}{E:List Sp}{F:List Rat}(hEF:E.length=F.length) (h1:e.1<n) (h2:e.2.1<n) (h12:e.1≠e.2.1) :
  ((restL n a b E F).set e.1 (rget (restL n a b E F) e.1+q)).set e.2.1 (rget ((restL n a b E F).set e.1 (rget (restL n a b E F) e.1+q)) e.2.1 - q)=restL n a b (E ++ [e]) (F ++ [q]):=by
 apply List.ext_getElem?
 intro i
 by_cases hi:i<n
 ·rw [Zal (by simp [Zbp]; exact hi),Zal (by rw [Zbp]; exact hi),Zjn hi,Zwa (by simp [Zbp]; exact h2),Zwa (by rw [Zbp]; exact h1),Zwa (by rw [Zbp]; exact h1),Ya0 hEF,Zjn h1,Zjn h2,Zjn hi]
  unfold edge
  by_cases k1:i=e.1
  ·subst k1
   rw [if_neg h12,if_pos rfl,if_pos rfl,if_neg h12]; congr 1; grind
  ·by_cases k2:i=e.2.1
   ·subst k2
    rw [if_pos rfl,if_neg k1,if_neg k1,if_pos rfl]; congr 1; grind
   ·rw [if_neg k2,if_neg k1,if_neg k1,if_neg k2]; congr 1; grind
 ·rw [List.getElem?_eq_none (by simp [Zbp]; omega),List.getElem?_eq_none (by rw [Zbp]; omega)]
def nzI:List Rat→Int
 | [] => -1
 | x::r=>if x≠0 then 0 else if nzI r<0 then -1 else nzI r+1
theorem Yyg:∀ {r:List Rat}{i:Nat},i<r.length→(∀ j,j<i→rget r j=0)→rget r i≠0→nzI r=i
 | [],i,h,_,_=>by simp at h
 | x::r,0,_,_,h=>by
  have h:x≠0:=h
  unfold nzI; rw [if_pos h]; rfl
 | x::r,i+1,hi,h0,h=>by
  have hx:x=0:=h0 0 (by omega)
  have ih:=Yyg (r:=r) (i:=i) (by simpa using hi) (fun j hj=>h0 (j+1) (by omega)) h
  unfold nzI
  rw [if_neg (fun h=>h hx),ih,if_neg (by omega)]; rfl
theorem Yfv:∀ {r:List Rat},(∀ j,j<r.length→rget r j=0)→nzI r = -1
 | [],_=>rfl
 | x::r,h=>by
  have hx:x=0:=h 0 (by simp)
  unfold nzI
  rw [if_neg (fun k=>k hx),Yfv (r:=r) (fun j hj=>h (j+1) (by simpa using hj)),if_pos (by decide)]
theorem Yvo:∀ {r:List Rat},nzI r<0→∀ j,j<r.length→rget r j=0
 | [],_,j,hj=>by simp at hj
 | x::r,h,j,hj=>by
  unfold nzI at h
  by_cases hx:x=0
  ·rw [if_neg (fun k=>k hx)] at h
   by_cases hr:nzI r<0
   ·cases j with
    | zero=>exact hx
    | succ j=>exact Yvo hr j (by simpa using hj)
   ·rw [if_neg hr] at h; omega
  ·rw [if_pos hx] at h; omega
theorem cfn1 {q:Rat}:SpecV Tryz.prog Za2 [.agg (qcell q)] (.bool (decide (q≠0))):=by
 have ql:∀ q:Rat,(qcell q).length=4:=fun q=>rfl
 have qt:∀ q:Rat,(qcell q).take 4=qcell q:=fun q=>rfl
 have hs:=Yjr q
 refine Zad Zs2 (by simp) ?_
 unfold Zkq
 by_cases h0:q=0
 ·rw [if_pos h0] at hs
  rw [decide_eq_false (fun h=>h h0)]
  simp only [go_sem,Zci,Zch,ql,qt]
  refine Zaa hs (by simp only [go_sem,Zbg,Zan]) ?_
  simp only [go_sem]
 ·rw [if_neg h0] at hs
  rw [decide_eq_true h0]
  have hne:¬ (if q<0 then (-1:Int) else 1)=0:=by split <;> decide
  generalize (if q<0 then (-1:Int) else 1)=sg at *
  simp only [go_sem,Zci,Zch,ql,qt]
  refine Zaa hs (by simp only [go_sem,Zbg,Zan]) ?_
  simp only [go_sem,hne]
theorem Xbe {r:List Rat}(hl:r.length≤1000000) {K:Ex→St→Prop}
  (hK0:∀ e:Nat→AV,e 4 = .int .i64 (nzI r)→K .ret ⟨e,[]⟩)
  (hK:nzI r = -1→∀ e:Nat→AV,K (.exit 0) ⟨e,[]⟩) :
  T Tryz.prog 19 0 (.loop Zdk) ⟨envL [(0,.sl (condsR r)),(1,.fn Za2 [] []),(7,.int .i64 (r.length:Int)),(8,.int .i64 0)],[]⟩ K:=by
 have hm:Tryz.prog.follows .mixedOrders=true:=by kernel_rfl
 refine Zaf (fun i:Nat=>⟨envL [(0,.sl (condsR r)),(1,.fn Za2 [] []),(7,.int .i64 (r.length:Int)),(8,.int .i64 (i:Int))],[]⟩)
  (fun i=>i≤r.length∧∀ j,j<i→rget r j=0) (fun i=>r.length - i) 0 ⟨by omega,fun j hj=>by omega⟩ (Zab _ (by simp only [go_sem]; simp)) (fun i hi N hN=>?_)
 obtain ⟨hi,hall⟩:=hi
 unfold Zdk
 have ql:∀ q:Rat,(qcell q).length=4:=fun q=>rfl
 have qt:∀ q:Rat,(qcell q).take 4=qcell q:=fun q=>rfl
 by_cases hin:i<r.length
 ·have gx:=Zjm (Zal hin)
  have q0:(0:Int)≤(i:Int):=by omega
  have q1:(i:Int)<(r.length:Int):=by omega
  have e1:IntKind.i64.wrap ((i:Int)+1)=((i+1:Nat):Int):=by rw [Zac (by omega) (by omega)]; omega
  have hf:=cfn1 (q:=rget r i)
  simp only [go_sem,Zdq,Zir,Zja,q0,q1,gx,ql,qt,Zbx]
  by_cases h0:rget r i=0
  ·rw [decide_eq_false (fun h=>h h0)] at hf
   refine Zaa hf (by simp only [go_sem,Zan]) ?_
   simp only [go_sem,Zis,e1]
   refine hN (i+1) _ ⟨by omega,fun j hj=>?_⟩ (by omega) (Zab _ (by simp only [go_sem]))
   by_cases hji:j=i
   ·rw [hji]; exact h0
   ·exact hall j (by omega)
  ·rw [decide_eq_true h0] at hf
   have hn:=Yyg hin hall h0
   refine Zaa hf (by simp only [go_sem,Zan]) ?_
   simp only [go_sem,Zi6]
   exact hK0 _ (by simp only [go_sem,hn])
 ·have hie:i=r.length:=by omega
  subst hie
  have q1:¬ ((r.length:Nat):Int)<(r.length:Int):=by omega
  simp only [go_sem,Zdq,q1]
  exact hK (Yfv hall) _
theorem Yqg {r:List Rat}(hl:r.length≤1000000):SpecV Tryz.prog Z3d [.sl (condsR r),.fn Za2 [] []] (.int .i64 (nzI r)):=by
 refine Zad Z0i (by simp) ?_
 unfold Znn
 simp only [go_sem,Zi7,Zi2,Zbx]
 refine Za0 [(0,.sl (condsR r)),(1,.fn Za2 [] []),(7,.int .i64 (r.length:Int)),(8,.int .i64 0)] (by simp only [go_sem]) ?_
 refine Xbe hl (fun e e4=>?_) (fun hn e=>?_)
 ·simp only [go_sem,e4]
 ·simp only [go_sem,Zit,hn]
theorem Ygq {r:List Rat}(hl:r.length≤1000000):SpecV Tryz.prog Zuh [.sl (condsR r),.fn Za2 [] []] (.bool (!decide (∀ j,j<r.length→rget r j=0))):=by
 have h:=Yqg hl
 refine Zad Zr3 (by simp) ?_
 unfold Zi3
 simp only [go_sem,Zf0,Zgk]
 refine Zaa h (by simp only [go_sem]; exact BV.fn _ _ _ _ _ rfl rfl (fun i x y h=>by simp at h) (fun i x y h=>by simp at h)) ?_
 by_cases hall:∀ j,j<r.length→rget r j=0
 ·have hn:¬ nzI r≥0:=by rw [Yfv hall]; decide
  rw [decide_eq_true hall]
  simp only [go_sem,hn,Bool.not_true]
 ·have hn:nzI r≥0:=by
   rcases Int.lt_or_le (nzI r) 0 with h | h
   ·exact absurd (Yvo h) hall
   ·exact h
  rw [decide_eq_false hall]
  simp only [go_sem,hn,Bool.not_false]
end GoAbs
namespace GoAbs
open Go Go.Proofs
set_option exponentiation.threshold 20000
theorem Y42 {n a b k:Nat}{E:List Sp}{F:List Rat}{ps:List AV}(hps:ps=pairsL E) (hEF:E.length=F.length) (hE:∀ e,e∈E→e.1<n∧e.2.1<n∧e.1≠e.2.1) (hF:Rb k F) (hEl:E.length≤1000) (hk:k≤10000000) (hn:n≤1000) {K:Ex→St→Prop}
  (hK:∀ e:Nat→AV,e 16 = .osl (some 4) 0 0 n→K (.exit 1) ⟨e,[.cells (qc (restL n a b E F))]⟩) :
  T Tryz.prog 122 0 (.loop Zfq) ⟨envL [(14,.sl (condsR F)),(16,.osl (some 4) 0 0 n),(83,.sl ps),(84,.int .i64 (E.length:Int)),(85,.int .i64 0)],[.cells (qc (restL n a b [] []))]⟩ K:=by
 have hm:Tryz.prog.follows .mixedOrders=true:=by kernel_rfl
 have hpl:ps.length=E.length:=by rw [hps]; simp [pairsL]
 refine Zaf (fun i:Nat=>⟨envL [(14,.sl (condsR F)),(16,.osl (some 4) 0 0 n),(83,.sl ps),(84,.int .i64 (E.length:Int)),(85,.int .i64 (i:Int))],[.cells (qc (restL n a b (E.take i) (F.take i)))]⟩)
  (fun i=>i≤E.length) (fun i=>E.length - i) 0 (by omega) (Zab _ (by simp only [go_sem]; simp)) (fun i hi N hN=>?_)
 unfold Zfq
 by_cases hin:i<E.length
 ·obtain ⟨⟨p,q,kk⟩,he⟩:∃ e:Sp,E[i]? = some e:=⟨_,List.getElem?_eq_getElem hin⟩
  obtain ⟨hp,hq,hpq⟩:=hE _ (List.mem_of_getElem? he)
  simp only at hp hq hpq
  have gp:ps[i]? = some (.agg [.int .i64 (p:Int),.int .i64 (q:Int)]):=by rw [hps]; unfold pairsL; rw [List.getElem?_map,he]; rfl
  have gf:=Zjm (Zal (r:=F) (j:=i) (by omega))
  have tk1:E.take (i+1)=E.take i ++ [(p,q,kk)]:=by rw [List.take_add_one,he]; rfl
  have tk2:F.take (i+1)=F.take i ++ [rget F i]:=by rw [List.take_add_one,Zal (show i<F.length by omega)]; rfl
  have hst:=Yqt (n:=n) (a:=a) (b:=b) (e:=(p,q,kk)) (q:=rget F i) (E:=E.take i) (F:=F.take i) (by rw [List.length_take,List.length_take]; omega) hp hq hpq
  have hfb:=hF.get (j:=i) (by omega)
  have hRb:Rb (1000*(k+3)+4) (restL n a b (E.take i) (F.take i)):=(Yqf (fun x hx=>hF x (List.mem_of_mem_take hx))).mono (by
   have:(F.take i).length≤1000:=by rw [List.length_take]; omega
   have:=Nat.mul_le_mul_right (k+3) this
   omega)
  have hRl:(restL n a b (E.take i) (F.take i)).length=n:=Zbp
  simp only at hst
  rw [← tk1, ← tk2] at hst
  generalize restL n a b (E.take i) (F.take i)=R at *
  generalize rget F i=f at *
  have h1:=Y1t (k:=1000*(k+3)+4) (hRb.get (j:=p) (by omega)) (hfb.mono (by omega)) (by omega)
  have hR1:Rb (1001*(k+3)+5) (R.set p (rget R p+f)):=fun y hy=>by
   rcases List.mem_or_eq_of_mem_set hy with h' | h'
   ·exact (hRb y h').mono (by omega)
   ·rw [h']; exact ((hRb.get (j:=p) (by omega)).add2 hfb).mono (by omega)
  have hl1:(R.set p (rget R p+f)).length=n:=by rw [List.length_set,hRl]
  have sp:=Z6o (r:=R) (j:=p) (x:=rget R p+f) (by omega)
  have t1:=Zcm (Zal (show p<R.length by omega))
  have u1:=Zfv (Zal (show p<R.length by omega))
  have f1:p*4+4≤(qc R).length:=by rw [Zq0]; omega
  generalize R.set p (rget R p+f)=R1 at *
  have h2:=Y17 (k:=1001*(k+3)+5) (hR1.get (j:=q) (by omega)) (hfb.mono (by omega)) (by omega)
  have sq:=Z6o (r:=R1) (j:=q) (x:=rget R1 q - f) (by omega)
  have t2:=Zcm (Zal (show q<R1.length by omega))
  have u2:=Zfv (Zal (show q<R1.length by omega))
  have f2:q*4+4≤(qc R1).length:=by rw [Zq0]; omega
  have q0:(0:Int)≤(i:Int):=by omega
  have q1:(i:Int)<(E.length:Int):=by omega
  have qF:(i:Int)<(F.length:Int):=by omega
  have p0:(0:Int)≤(p:Int):=by omega
  have p1:(p:Int)<(n:Int):=by omega
  have r0:(0:Int)≤(q:Int):=by omega
  have r1:(q:Int)<(n:Int):=by omega
  have e1:IntKind.i64.wrap ((i:Int)+1)=((i+1:Nat):Int):=by rw [Zac (by omega) (by omega)]; omega
  have ql:∀ q:Rat,(qcell q).length=4:=fun q=>rfl
  have qt:∀ q:Rat,(qcell q).take 4=qcell q:=fun q=>rfl
  have qd:∀ q:Rat,(qcell q).drop 4 = []:=fun q=>rfl
  have bq:∀ (H:Heap) (ids:List Nat) (q:Rat),BVs H ids (qcell q) (qcell q)=True:=fun H ids q=>Zan
  simp only [go_sem,Zeq,Zjx,Zey,q0,q1,hpl,gp,p0,p1,gf,ql,qt,qd,hm,Zbx,qF,List.getElem?_drop,t1,u1]
  refine Zaa h1 (by simp only [go_sem,Zbg,bq]) ?_
  simp only [go_sem,Zbg,ql,qt,qd,p0,p1,f1,sp,Ze1,hm,r0,r1,gf,q0,qF,Zbx,List.getElem?_drop,t2,u2]
  refine Zaa h2 (by simp only [go_sem,Zbg,bq]) ?_
  simp only [go_sem,Zbg,ql,qt,qd,r0,r1,f2,sq,Zjo,e1]
  refine hN (i+1) _ (by omega) (by omega) (Zgo (Zjl [0] (by decide) (fun i hi=>by omega) [(14,.sl (condsR F)),(16,.osl (some 4) 0 0 n),(83,.sl ps),(84,.int .i64 (E.length:Int)),(85,.int .i64 ((i+1:Nat):Int))] (by simp only [go_sem])) ?_)
  rw [← hst]
  show St.mk _ [Blk.cells (gcL _ (qc (R1.set q (rget R1 q - f))))]=_
  rw [Yq3]
  rfl
 ·have hie:i=E.length:=by omega
  subst hie
  have q1:¬ ((E.length:Nat):Int)<(E.length:Int):=by omega
  rw [List.take_length,List.take_of_length_le (show F.length≤E.length by omega)]
  simp only [go_sem,Zeq,q1]
  exact hK _ (by simp only [go_sem])
def carriesB (n a b:Nat) (E:List Sp) (F:List Rat):Prop:=∀ i,i<n→divg i E F=edge a b i
instance (n a b:Nat) (E:List Sp) (F:List Rat):Decidable (carriesB n a b E F):=Nat.decidableBallLT n (fun i _=>divg i E F=edge a b i)
theorem Zvy {n a b e c:Int}{L:List Spr}{F:List (List UInt8)}{nc:List AV}(hL:L.length≤1000000000) (hl:∀ s,s∈L→s.2.2.length≤1000000000) (h:readR n L = .tup [.agg nc,.int .i64 e]) (hn3:nc.length=3)
  (hF:∀ l,l∈F→l.length≤1000000000) (hFl:F.length≤1000000)
  (hk:(c=2∧(e=2∨¬ ∀ l,l∈F→(parseL l).isSome=true))∨(c=1∧e≠2∧(∀ l,l∈F→(parseL l).isSome=true)∧(e≠0∨¬ EndsOk n a b∨F.length≠L.length))) :
  SpecV Tryz.prog Zef [.int .i64 n,.sl (L.map sprAV),.int .i64 a,.int .i64 b,.sl (txts F)] (.tup [.bool false,.int .i64 c]):=by
 have hr:=Zfe (n:=n) hL hl
 rw [h] at hr
 have hv:=Zod hF hFl
 unfold vecR at hv
 have t3:nc.drop 3 = []:=List.drop_eq_nil_of_le (by omega)
 obtain ⟨ls,hls⟩:∃ ls,ls=L.map sprAV:=⟨_,rfl⟩
 have hlsl:ls.length=L.length:=by rw [hls,List.length_map]
 rw [← hls] at hr ⊢
 refine Zad Zn8 (by simp) ?_
 unfold Zkr
 simp only [go_sem,Zgn,Zfs]
 refine Zaa hr (by simp only [go_sem]) ?_
 simp only [go_sem,Zf5,hn3,t3]
 by_cases hall:∀ l,l∈F→(parseL l).isSome=true
 ·rw [if_pos hall] at hv
  refine Zaa hv (by simp only [go_sem]) ?_
  rcases hk with ⟨rfl,rfl | hn⟩ | ⟨rfl,h2,_,h0⟩
  ·simp only [go_sem,Zam,Zcn]
  ·exact absurd hall hn
  ·have hcl:(condsR (F.map toQ)).length=F.length:=by rw [Zbx,List.length_map]
   by_cases he:e=0
   ·subst he
    have main:a<0∨(¬ a<0∧n≤a)∨(¬ a<0∧¬ n≤a∧b<0)∨(¬ a<0∧¬ n≤a∧¬ b<0∧n≤b)∨(¬ a<0∧¬ n≤a∧¬ b<0∧¬ n≤b∧a=b)∨(¬ a<0∧¬ n≤a∧¬ b<0∧¬ n≤b∧¬ a=b∧¬ (F.length:Int)=(L.length:Int)):=by
     unfold EndsOk at h0; omega
    rcases main with g1 | ⟨g1,g2⟩ | ⟨g1,g2,g3⟩ | ⟨g1,g2,g3,g4⟩ | ⟨g1,g2,g3,g4,g5⟩ | ⟨g1,g2,g3,g4,g5,g6⟩
    ·simp only [go_sem,Zam,h2,Bool.not_true,Zar,g1,Zau]
    ·simp only [go_sem,Zam,h2,Bool.not_true,Zar,g1,g2,Zau]
    ·simp only [go_sem,Zam,h2,Bool.not_true,Zar,g1,g2,g3,Zau]
    ·simp only [go_sem,Zam,h2,Bool.not_true,Zar,g1,g2,g3,g4,Zau]
    ·subst g5
     simp only [go_sem,Zam,h2,Bool.not_true,Zar,g1,g2,g3,g4,Zau]
    ·simp only [go_sem,Zam,h2,Bool.not_true,Zar,g1,g2,g3,g4,g5,hcl,hlsl,g6,Zau]
   ·simp only [go_sem,Zam,h2,Bool.not_true,Zar,he,Zau]
 ·rw [if_neg hall] at hv
  refine Zaa hv (by simp only [go_sem]) ?_
  rcases hk with ⟨rfl,_⟩ | ⟨_,_,h3,_⟩
  ·by_cases he:e=2
   ·subst he
    simp only [go_sem,Zam,Zcn]
   ·simp only [go_sem,Zam,he,Bool.not_false,Zcn]
  ·exact absurd h3 hall
theorem Ym9 {n a b k:Nat}{L:List Spr}{E:List Sp}{F:List (List UInt8)}(hL:L.length≤1000) (hl:∀ s,s∈L→s.2.2.length≤1000000000) (h:readR (n:Int) L = .tup [.agg (netC n E),.int .i64 0])
  (hF:∀ l,l∈F→l.length≤1000000000∧(parseL l).isSome=true) (hFl:F.length=L.length) (hEl:E.length=L.length) (ha:a<n) (hb:b<n) (hab:a≠b) (hn:n≤1000) (hE:∀ e,e∈E→e.1<n∧e.2.1<n∧e.1≠e.2.1) (hFb:Rb k (F.map toQ)) (hk:k≤10000000) :
  SpecV Tryz.prog Zef [.int .i64 (n:Int),.sl (L.map sprAV),.int .i64 (a:Int),.int .i64 (b:Int),.sl (txts F)] (.tup [.bool (decide (carriesB n a b E (F.map toQ))),.int .i64 0]):=by
 have hr:=Zfe (n:=(n:Int)) (L:=L) (by omega) hl
 rw [h] at hr
 have hv:=Zod (L:=F) (fun l h=>(hF l h).1) (by omega)
 unfold vecR at hv
 rw [if_pos (fun l h=>(hF l h).2)] at hv
 obtain ⟨ls,hls⟩:∃ ls,ls=L.map sprAV:=⟨_,rfl⟩
 have hlsl:ls.length=L.length:=by rw [hls,List.length_map]
 rw [← hls] at hr ⊢
 obtain ⟨ps,hps⟩:∃ ps,ps=pairsL E:=⟨_,rfl⟩
 obtain ⟨cs,hcs⟩:∃ cs,cs=condsL E:=⟨_,rfl⟩
 have hnc:netC n E = [.int .i64 (n:Int),.sl ps,.sl cs]:=by rw [hps,hcs]; rfl
 rw [hnc] at hr
 have hpl:ps.length=E.length:=by rw [hps]; simp [pairsL]
 have hcl:(condsR (F.map toQ)).length=F.length:=by rw [Zbx,List.length_map]
 have g1:¬ (a:Int)<0:=by omega
 have g2:¬ (n:Int)≤(a:Int):=by omega
 have g3:¬ (b:Int)<0:=by omega
 have g4:¬ (n:Int)≤(b:Int):=by omega
 have g5:¬ (a:Int)=(b:Int):=by omega
 have g6:(F.length:Int)=(L.length:Int):=by omega
 have h02:¬ (0:Int)=2:=by decide
 have a0:(0:Int)≤(a:Int):=by omega
 have a1:(a:Int)<(n:Int):=by omega
 have b0:(0:Int)≤(b:Int):=by omega
 have b1:(b:Int)<(n:Int):=by omega
 have hz:=Ysf ha hb hab
 have hneg:=Ygw (z := -1) (by omega) (by omega)
 have hm1:((-1:Int):Rat) = -1:=rfl
 rw [hm1] at hneg
 have q0:(qc (List.replicate n (0:Rat))).length=n*4:=by rw [Zq0,List.length_replicate]
 have q1:(qc ((List.replicate n (0:Rat)).set a (-1))).length=n*4:=by rw [Zq0,List.length_set,List.length_replicate]
 have fa:a*4+4≤n*4:=by omega
 have fb:b*4+4≤n*4:=by omega
 have sa:=Z6o (r:=List.replicate n (0:Rat)) (j:=a) (x := -1) (by rw [List.length_replicate]; exact ha)
 have sb:=Z6o (r:=(List.replicate n (0:Rat)).set a (-1)) (j:=b) (x:=1) (by rw [List.length_set,List.length_replicate]; exact hb)
 refine Zad Zn8 (by simp) ?_
 unfold Zkr
 simp only [go_sem,Zgn,Zfs]
 refine Zaa hr (by simp only [go_sem]) ?_
 simp only [go_sem,Zf5]
 refine Zaa hv (by simp only [go_sem]) ?_
 simp only [go_sem,Zam,h02,Bool.not_true,Zar,g1,g2,g3,g4,g5,hcl,hlsl,g6,Zlp]
 refine Zaa Ydd (by simp only [go_sem]) ?_
 simp only [go_sem,Zbg,Zai]
 have hrep:SpecR Tryz.prog Zf9 [.cells [.int .i64 (n:Int),.sl ps,.sl cs],.cells (qcell 0)] [.osl (some 4) 1 0 1,.int .i64 (n:Int)] (.osl (some 4) 2 0 n) [.cells [.int .i64 (n:Int),.sl ps,.sl cs],.dead,.cells (qc (List.replicate n 0))]:=by
  have h:=Ztq (P:=Tryz.prog) (H := [.cells [.int .i64 (n:Int),.sl ps,.sl cs],.cells (qcell 0)]) (ids := [1]) (xs := [.osl (some 4) 1 0 1,.int .i64 (n:Int)]) (Z5h (n:=n) (x:=qcell 0) (by omega) (by omega) rfl)
   (by
    simp only [go_sem]
    exact Yli rfl rfl (by simp) (by rw [Zan]; trivial)) (by simp only [go_sem])
  have e3 : [Blk.cells (rows n (qcell 0))].map (Blk.gc (fun i=>some (i + [Blk.cells [.int .i64 (n:Int),.sl ps,.sl cs],.cells (qcell 0)].length))) = [.cells (qc (List.replicate n 0))]:=by
   simp only [List.map_cons,List.map_nil,Blk.gc,Yml,Yov]
  rw [e3] at h
  exact h
 refine Znw hrep ?_
 simp only [go_sem,Zlg]
 refine Zaa hneg (by simp only [go_sem]) ?_
 simp only [go_sem]
 refine Zaa Yzi (by simp only [go_sem]) ?_
 simp only [go_sem,Zbg,Zai,a0,a1,q0,fa,sa,b0,b1,q1,fb,sb,hz,Zjy,hpl]
 refine T_le (Zjl [2] (by decide) (fun i hi=>by omega) [(14,.sl (condsR (F.map toQ))),(16,.osl (some 4) 2 0 n),(83,.sl ps),(84,.int .i64 (E.length:Int)),(85,.int .i64 0)] (by simp only [go_sem])) ?_
 show T Tryz.prog 122 0 _ ⟨envL [(14,.sl (condsR (F.map toQ))),(16,.osl (some 4) 0 0 n),(83,.sl ps),(84,.int .i64 (E.length:Int)),(85,.int .i64 0)],[.cells (gcL (pos [2]) (qc (restL n a b [] [])))]⟩ _
 rw [Yq3]
 refine Y42 (F:=F.map toQ) hps (by rw [List.length_map]; omega) hE hFb (by omega) hk hn (fun e e16=>?_)
 have hct:=Ygq (r:=restL n a b E (F.map toQ)) (by rw [Zbp]; omega)
 have hbv:=Z3n (H := [.cells (qc (restL n a b E (F.map toQ)))]) (ids := [0]) (b:=0) (r:=restL n a b E (F.map toQ)) rfl (by simp)
 rw [Zbp] at hbv
 have hdec:decide (∀ j,j<(restL n a b E (F.map toQ)).length→rget (restL n a b E (F.map toQ)) j=0)=decide (carriesB n a b E (F.map toQ)):=by
  refine decide_eq_decide.2 ⟨fun h i hi=>?_,fun h j hj=>?_⟩
  ·have:=h i (by rw [Zbp]; exact hi)
   rw [Zjn hi] at this; grind
  ·rw [Zbp] at hj
   rw [Zjn hj,h j hj]; grind
 rw [hdec] at hct
 simp only [go_sem,Zj6,e16]
 refine Zki (ids := [0]) hct (by simp only [go_sem]; exact ⟨hbv,BV.fn _ _ _ _ _ rfl rfl (fun i x y h=>by simp at h) (fun i x y h=>by simp at h)⟩) ?_
 simp only [go_sem,Bool.not_not]
end GoAbs
namespace GoAbs
open Go Go.Proofs
set_option exponentiation.threshold 20000
def enerZ (Z:List (Sp×Rat)):Rat:=Z.foldl (fun s p=>s+p.2*p.2 / p.1.2.2) 0
theorem Z4q {Z:List (Sp×Rat)}{p:Sp×Rat}:enerZ (Z ++ [p])=enerZ Z+p.2*p.2 / p.1.2.2:=by unfold enerZ; rw [List.foldl_append]; rfl
theorem Zwi {k l:Nat}{Z:List (Sp×Rat)}(h:∀ p,p∈Z→Qb k p.2∧Qb l p.1.2.2∧p.1.2.2≠0):∀ i,i≤Z.length→Qb (1+i*(2*k+l+1)) (enerZ (Z.take i)):=fun i=>by
 induction i with
 | zero=>intro _; exact Qb.zero (by omega)
 | succ i ih =>
  intro hi
  obtain ⟨p,hp⟩:∃ p,Z[i]? = some p:=⟨_,List.getElem?_eq_getElem (by omega)⟩
  obtain ⟨h1,h2,h3⟩:=h p (List.mem_of_getElem? hp)
  have tk:Z.take (i+1)=Z.take i ++ [p]:=by rw [List.take_add_one,hp]; rfl
  rw [tk,Z4q]
  exact ((ih (by omega)).add2 ((h1.mul2 h1).div2 h2 h3)).mono (by rw [Nat.add_mul i 1]; omega)
theorem Yv7 {E:List Sp}{F:List Rat}{i:Nat}{e:Sp}(h:E[i]? = some e) (hF:i<F.length):(E.zip F)[i]? = some (e,rget F i):=by
 rw [List.getElem?_zip_eq_some]; exact ⟨h,Zal hF⟩
theorem Y8z {k:Nat}{N0:AV}{E:List Sp}{F:List Rat}{ps cs:List AV}(hcs:cs=condsL E) (hEF:E.length=F.length) (hE:∀ e,e∈E→Qb 67 e.2.2∧e.2.2≠0) (hF:Rb k F) (hEl:E.length≤1000) (hk:k≤10000000) (hN0:∀ f,N0.gc f=N0) {K:Ex→St→Prop}
  (hK:∀ e:Nat→AV,e 12 = .ptr 1 0→K (.exit 1) ⟨e,[.cells [N0,.sl ps,.sl cs],.cells (qcell (enerZ (E.zip F)))]⟩) :
  T Tryz.prog 67 0 (.loop Zhd) ⟨envL [(8,.ptr 0 0),(12,.ptr 1 0),(44,.sl (condsR F)),(45,.int .i64 (F.length:Int)),(46,.int .i64 0)],[.cells [N0,.sl ps,.sl cs],.cells (qcell 0)]⟩ K:=by
 have hm:Tryz.prog.follows .mixedOrders=true:=by kernel_rfl
 have hcl:cs.length=E.length:=by rw [hcs]; simp [condsL]
 have hZl:(E.zip F).length=F.length:=by rw [List.length_zip]; omega
 have hZ:∀ p,p∈E.zip F→Qb k p.2∧Qb 67 p.1.2.2∧p.1.2.2≠0:=fun p hp=>by
  obtain ⟨h1,h2⟩:=List.of_mem_zip (a:=p.1) (b:=p.2) hp
  exact ⟨hF _ h2,hE _ h1⟩
 refine Zaf (fun i:Nat=>⟨envL [(8,.ptr 0 0),(12,.ptr 1 0),(44,.sl (condsR F)),(45,.int .i64 (F.length:Int)),(46,.int .i64 (i:Int))],[.cells [N0,.sl ps,.sl cs],.cells (qcell (enerZ ((E.zip F).take i)))]⟩)
  (fun i=>i≤F.length) (fun i=>F.length - i) 0 (by omega) (Zab _ (by simp only [go_sem]; simp)) (fun i hi N hN=>?_)
 unfold Zhd
 by_cases hin:i<F.length
 ·obtain ⟨⟨p,q,kk⟩,he⟩:∃ e:Sp,E[i]? = some e:=⟨_,List.getElem?_eq_getElem (by omega)⟩
  have hz:=Yv7 he hin
  obtain ⟨hk1,hk2⟩:=hE _ (List.mem_of_getElem? he)
  simp only at hk1 hk2
  have gk:cs[i]? = some (.agg (qcell kk)):=by rw [hcs]; unfold condsL; rw [List.getElem?_map,he]; rfl
  have gf:=Zjm (Zal hin)
  have tk:(E.zip F).take (i+1)=(E.zip F).take i ++ [((p,q,kk),rget F i)]:=by rw [List.take_add_one,hz]; rfl
  have hsn:enerZ ((E.zip F).take (i+1))=enerZ ((E.zip F).take i)+rget F i*rget F i / kk:=by rw [tk,Z4q]
  have hb:=Zwi hZ i (by omega)
  have hm1:i*(2*k+67+1)≤1000*(2*k+67+1):=Nat.mul_le_mul_right _ (by omega)
  have hf:=hF.get (j:=i) hin
  have h1:=Y1g (k:=k) hf hf (by omega)
  have h2:=Y0u (k:=2*k+67) ((hf.mul2 hf).mono (by omega)) (hk1.mono (by omega)) hk2 (by omega)
  have h3:=Y1t (k:=1+1000*(2*k+67+1)) (hb.mono (by omega)) (((hf.mul2 hf).div2 hk1 hk2).mono (by omega)) (by omega)
  generalize enerZ ((E.zip F).take i)=S at *
  generalize rget F i=f at *
  have q0:(0:Int)≤(i:Int):=by omega
  have q1:(i:Int)<(F.length:Int):=by omega
  have qE:(i:Int)<(E.length:Int):=by omega
  have e1:IntKind.i64.wrap ((i:Int)+1)=((i+1:Nat):Int):=by rw [Zac (by omega) (by omega)]; omega
  have ql:∀ q:Rat,(qcell q).length=4:=fun q=>rfl
  have qt:∀ q:Rat,(qcell q).take 4=qcell q:=fun q=>rfl
  have qd:∀ q:Rat,(qcell q).drop 4 = []:=fun q=>rfl
  have bq:∀ (H:Heap) (ids:List Nat) (q:Rat),BVs H ids (qcell q) (qcell q)=True:=fun H ids q=>Zan
  simp only [go_sem,Zfk,Zlj,Zgj,q0,q1,gf,gk,qE,hcl,ql,qt,qd,hm,Zbx]
  refine Zaa h1 (by simp only [go_sem,Zbg,bq]) ?_
  simp only [go_sem,q0,gk,qE,hcl,ql,qt,qd]
  refine Zaa h2 (by simp only [go_sem,Zbg,bq]) ?_
  simp only [go_sem]
  refine Zaa h3 (by simp only [go_sem,Zbg,bq]) ?_
  simp only [go_sem,Zbg,ql,qt,qd,Zlb,e1]
  refine hN (i+1) _ (by omega) (by omega) (Zgo (Zjl [0,1] (by decide) (fun i hi=>by omega) [(8,.ptr 0 0),(12,.ptr 1 0),(44,.sl (condsR F)),(45,.int .i64 (F.length:Int)),(46,.int .i64 ((i+1:Nat):Int))] (by simp only [go_sem])) ?_)
  rw [hsn]
  show St.mk _ [Blk.cells [N0.gc _,AV.sl ps,AV.sl cs],Blk.cells (gcL _ (qcell (S+f*f / kk)))]=_
  rw [hN0]
  rfl
 ·have hie:i=F.length:=by omega
  subst hie
  have q1:¬ ((F.length:Nat):Int)<(F.length:Int):=by omega
  rw [List.take_of_length_le (by omega)]
  simp only [go_sem,Zfk,q1]
  exact hK _ (by simp only [go_sem])
theorem Z9b {n e c:Int}{L:List Spr}{F:List (List UInt8)}{nc:List AV}(hL:L.length≤1000000000) (hl:∀ s,s∈L→s.2.2.length≤1000000000) (h:readR n L = .tup [.agg nc,.int .i64 e]) (hn3:nc.length=3)
  (hF:∀ l,l∈F→l.length≤1000000000) (hFl:F.length≤1000000)
  (hk:(c=2∧(e=2∨¬ ∀ l,l∈F→(parseL l).isSome=true))∨(c=1∧e≠2∧(∀ l,l∈F→(parseL l).isSome=true)∧(e≠0∨F.length≠L.length))) :
  SpecV Tryz.prog Zkt [.int .i64 n,.sl (L.map sprAV),.sl (txts F)] (.tup [.str (bs []),.int .i64 c]):=by
 have hr:=Zfe (n:=n) hL hl
 rw [h] at hr
 have hv:=Zod hF hFl
 unfold vecR at hv
 have t3:nc.drop 3 = []:=List.drop_eq_nil_of_le (by omega)
 obtain ⟨ls,hls⟩:∃ ls,ls=L.map sprAV:=⟨_,rfl⟩
 have hlsl:ls.length=L.length:=by rw [hls,List.length_map]
 have hbs:(⟨#[]⟩:ByteArray)=bs []:=rfl
 rw [← hls] at hr ⊢
 refine Zad Zq6 (by simp) ?_
 unfold Zl8
 simp only [go_sem,Zhg,Zgy]
 refine Zaa hr (by simp only [go_sem]) ?_
 simp only [go_sem,Zg4,hn3,t3]
 by_cases hall:∀ l,l∈F→(parseL l).isSome=true
 ·rw [if_pos hall] at hv
  refine Zaa hv (by simp only [go_sem]) ?_
  rcases hk with ⟨rfl,rfl | hn⟩ | ⟨rfl,h2,_,h0⟩
  ·simp only [go_sem,Za6,Zdb,hbs]
  ·exact absurd hall hn
  ·have hcl:(condsR (F.map toQ)).length=F.length:=by rw [Zbx,List.length_map]
   by_cases he:e=0
   ·subst he
    have g6:¬ (F.length:Int)=(L.length:Int):=by omega
    simp only [go_sem,Za6,h2,Bool.not_true,Zdd,hcl,hlsl,g6,Zg9,hbs]
   ·simp only [go_sem,Za6,h2,Bool.not_true,Zdd,he,Zg9,hbs]
 ·rw [if_neg hall] at hv
  refine Zaa hv (by simp only [go_sem]) ?_
  rcases hk with ⟨rfl,_⟩ | ⟨_,_,h3,_⟩
  ·by_cases he:e=2
   ·subst he
    simp only [go_sem,Za6,Zdb,hbs]
   ·simp only [go_sem,Za6,he,Bool.not_false,Zdb,hbs]
  ·exact absurd h3 hall
theorem Yq5 {n k:Nat}{L:List Spr}{E:List Sp}{F:List (List UInt8)}(hL:L.length≤1000) (hl:∀ s,s∈L→s.2.2.length≤1000000000) (h:readR (n:Int) L = .tup [.agg (netC n E),.int .i64 0])
  (hF:∀ l,l∈F→l.length≤1000000000∧(parseL l).isSome=true) (hFl:F.length=L.length) (hEl:E.length=L.length) (hE:∀ e,e∈E→Qb 67 e.2.2∧e.2.2≠0) (hFb:Rb k (F.map toQ)) (hk:k≤10000000) :
  SpecV Tryz.prog Zkt [.int .i64 (n:Int),.sl (L.map sprAV),.sl (txts F)] (numR (enerZ (E.zip (F.map toQ)))):=by
 have hr:=Zfe (n:=(n:Int)) (L:=L) (by omega) hl
 rw [h] at hr
 have hv:=Zod (L:=F) (fun l h=>(hF l h).1) (by omega)
 unfold vecR at hv
 rw [if_pos (fun l h=>(hF l h).2)] at hv
 obtain ⟨ls,hls⟩:∃ ls,ls=L.map sprAV:=⟨_,rfl⟩
 have hlsl:ls.length=L.length:=by rw [hls,List.length_map]
 rw [← hls] at hr ⊢
 obtain ⟨ps,hps⟩:∃ ps,ps=pairsL E:=⟨_,rfl⟩
 obtain ⟨cs,hcs⟩:∃ cs,cs=condsL E:=⟨_,rfl⟩
 have hnc:netC n E = [.int .i64 (n:Int),.sl ps,.sl cs]:=by rw [hps,hcs]; rfl
 rw [hnc] at hr
 have hfl:(F.map toQ).length=F.length:=by simp
 have hcl:(condsR (F.map toQ)).length=F.length:=by rw [Zbx,List.length_map]
 have g6:(F.length:Int)=(L.length:Int):=by omega
 have h02:¬ (0:Int)=2:=by decide
 have ql:∀ q:Rat,(qcell q).length=4:=fun q=>rfl
 have qt:∀ q:Rat,(qcell q).take 4=qcell q:=fun q=>rfl
 have qd:∀ q:Rat,(qcell q).drop 4 = []:=fun q=>rfl
 have hZl:(E.zip (F.map toQ)).length=F.length:=by rw [List.length_zip]; omega
 have hb:=Zwi (k:=k) (l:=67) (Z:=E.zip (F.map toQ)) (fun p hp=>by
  obtain ⟨h1,h2⟩:=List.of_mem_zip (a:=p.1) (b:=p.2) hp
  exact ⟨hFb _ h2,hE _ h1⟩) F.length (by omega)
 rw [List.take_of_length_le (by omega)] at hb
 have hm1:F.length*(2*k+67+1)≤1000*(2*k+67+1):=Nat.mul_le_mul_right _ (by omega)
 have hnum:=Y6x (q:=enerZ (E.zip (F.map toQ))) (Zu9 hb.n (by omega)) (Zu9 hb.d (by omega))
 refine Zad Zq6 (by simp) ?_
 unfold Zl8
 simp only [go_sem,Zhg,Zgy]
 refine Zaa hr (by simp only [go_sem]) ?_
 simp only [go_sem,Zg4]
 refine Zaa hv (by simp only [go_sem]) ?_
 simp only [go_sem,Za6,h02,Bool.not_true,Zdd,hcl,hlsl,g6,Znj]
 refine Zaa Ydd (by simp only [go_sem]) ?_
 simp only [go_sem,Zbg,ql,qt,qd,Zn0,hcl]
 refine Za0 [(8,.ptr 0 0),(12,.ptr 1 0),(44,.sl (condsR (F.map toQ))),(45,.int .i64 ((F.map toQ).length:Int)),(46,.int .i64 0)] (by simp only [go_sem,hfl]) ?_
 refine Y8z (F:=F.map toQ) hcs (by rw [hfl]; omega) hE hFb (by omega) hk (fun f=>rfl) (fun e e12=>?_)
 simp only [go_sem,Zlk,e12,ql,qt]
 refine Zaa hnum (by simp only [go_sem,Zbg,Zan]) ?_
 unfold numR
 by_cases hok:NumOk (enerZ (E.zip (F.map toQ)))
 ·simp only [if_pos hok,go_sem]
 ·simp only [if_neg hok,go_sem]
end GoAbs
namespace GoAbs
open Go Go.Proofs
set_option exponentiation.threshold 200000
theorem Yx1 {i t:Nat}{E:List Sp}{F:List Rat}{e:Sp}(hEF:E.length=F.length) (he:E[t]? = some e):divg i (E.take (t+1)) (F.take (t+1))=divg i (E.take t) (F.take t)+rget F t*edge e.1 e.2.1 i:=by
 have ht:=(List.getElem?_eq_some_iff.1 he).1
 rw [List.take_add_one,he,List.take_add_one,Zal (show t<F.length by omega)]
 exact Ya0 (by rw [List.length_take,List.length_take]; omega)
theorem Y41 {n i k:Nat}{a b:Int}{L:List Spr}{ls:List AV}{F:List Rat}(hls:ls=L.map sprAV) (hLF:L.length=F.length) (hL:L.length≤1000) (hF:Rb k F) (hk:k≤100)
  (hok:∀ s,s∈L→EndsOk (n:Int) s.1 s.2.1) {K:Ex→St→Prop}
  (hK:∀ e:Nat→AV,e 0 = .int .i64 (n:Int)→e 1 = .sl ls→e 2 = .int .i64 a→e 3 = .int .i64 b→e 4=rowV F→e 11 = .int .i64 (i:Int)→e 12 = .ptr 0 0→K (.exit 2) ⟨e,[.cells (rq (divg i (L.map toE) F))]⟩) :
  T Tryz.prog 66 0 (.loop Zj5) ⟨envL [(0,.int .i64 (n:Int)),(1,.sl ls),(2,.int .i64 a),(3,.int .i64 b),(4,rowV F),(11,.int .i64 (i:Int)),(12,.ptr 0 0),(13,.int .i64 0)],[.cells (rq 0)]⟩ K:=by
 have hm:Tryz.prog.follows .mixedOrders=true:=by kernel_rfl
 have hlsl:ls.length=L.length:=by rw [hls,List.length_map]
 have hEl:(L.map toE).length=F.length:=by rw [List.length_map]; exact hLF
 refine Zaf (fun t:Nat=>⟨envL [(0,.int .i64 (n:Int)),(1,.sl ls),(2,.int .i64 a),(3,.int .i64 b),(4,rowV F),(11,.int .i64 (i:Int)),(12,.ptr 0 0),(13,.int .i64 (t:Int))],[.cells (rq (divg i ((L.map toE).take t) (F.take t)))]⟩)
  (fun t=>t≤L.length) (fun t=>L.length - t) 0 (by omega) (Zab _ (by simp only [go_sem]; simp)) (fun t ht N hN=>?_)
 unfold Zj5
 have hfl:(F.map fun q=>AV.agg (rq q)).length=F.length:=by simp
 by_cases htL:t<L.length
 ·obtain ⟨s,hs⟩:∃ s:Spr,L[t]? = some s:=⟨_,List.getElem?_eq_getElem htL⟩
  obtain ⟨a0,a1,b0,b1,ab⟩:=hok s (List.mem_of_getElem? hs)
  obtain ⟨p,hp⟩:∃ p:Nat,s.1=p:=⟨s.1.toNat,by omega⟩
  obtain ⟨q,hq⟩:∃ q:Nat,s.2.1=q:=⟨s.2.1.toNat,by omega⟩
  have hlsx:ls[t]? = some (.agg [.int .i64 (p:Int),.int .i64 (q:Int),.str (bs s.2.2)]):=by rw [hls,List.getElem?_map,hs, ← hp, ← hq]; rfl
  have he:(L.map toE)[t]? = some (toE s):=by rw [List.getElem?_map,hs]; rfl
  have hE1:(toE s).1=p:=by show s.1.toNat=p; omega
  have hE2:(toE s).2.1=q:=by show s.2.1.toNat=q; omega
  have hst:=Yx1 (i:=i) hEl he
  rw [hE1,hE2] at hst
  have gf:(F.map fun q=>AV.agg (rq q))[t]? = some (.agg (rq (rget F t))):=by rw [List.getElem?_map,Zal (by omega)]; rfl
  have hfb:=hF.get (j:=t) (by omega)
  have hSb:Qb 110000 (divg i ((L.map toE).take t) (F.take t)):=(Z23 (fun x hx=>hF x (List.mem_of_mem_take hx))).mono (by
   have h1:(F.take t).length≤1000:=by rw [List.length_take]; omega
   have:=Nat.mul_le_mul h1 (show k+3≤103 by omega)
   omega)
  have q0:(0:Int)≤(t:Int):=by omega
  have q1:(t:Int)<(L.length:Int):=by omega
  have qF:(t:Int)<(F.length:Int):=by omega
  have e1:IntKind.i64.wrap ((t:Int)+1)=((t+1:Nat):Int):=by rw [Zac (by omega) (by omega)]; omega
  have bq:∀ (H:Heap) (ids:List Nat) (q:Rat),BVs H ids (rq q) (rq q)=True:=fun H ids q=>Zlf
  have hpq:p≠q:=by omega
  generalize divg i ((L.map toE).take t) (F.take t)=S at *
  generalize rget F t=f at *
  unfold rowV at hN ⊢
  have fin:∀ (e:Nat→AV) (S':Rat),S'=S+f*edge p q i→Has e [(0,.int .i64 (n:Int)),(1,.sl ls),(2,.int .i64 a),(3,.int .i64 b),(4,.sl (F.map fun q=>AV.agg (rq q))),(11,.int .i64 (i:Int)),(12,.ptr 0 0),(13,.int .i64 ((t+1:Nat):Int))]→N ⟨e,[.cells (rq S')]⟩:=fun e S' h he=>by
   refine hN (t+1) _ (by omega) (by omega) (Zgo (Zab _ he) ?_)
   rw [h,hst]
  by_cases h1:p=i
  ·have k1:(p:Int)=(i:Int):=by omega
   have k2:¬ (q:Int)=(i:Int):=by omega
   obtain ⟨X,x1,x2,x3⟩:=Y98 (k:=110000) hSb (hfb.mono (by omega)) (by omega)
   simp only [go_sem,Zcz,Zgb,Zkx,hm,q0,q1,hlsl,hlsx,k1,gf,qF,hfl,Zi4,Ze4,Zuf]
   refine Zaa x1 (by simp only [go_sem,bq]) ?_
   simp only [go_sem]
   refine Zaa x3 (by simp only [go_sem,x2]) ?_
   simp only [go_sem,Zi4,Ze4,Zuf,Zf3,hm,q0,q1,hlsl,hlsx,k2,Zec,e1]
   exact fin _ _ (by unfold edge; rw [if_pos h1.symm,if_neg (by omega)]; grind) (by simp only [go_sem])
  ·have k1:¬ (p:Int)=(i:Int):=by omega
   by_cases h2:q=i
   ·have k2:(q:Int)=(i:Int):=by omega
    obtain ⟨X,x1,x2,x3⟩:=Y9y (k:=110000) hSb (hfb.mono (by omega)) (by omega)
    simp only [go_sem,Zcz,Zgb,Zf3,Zio,hm,q0,q1,hlsl,hlsx,k1,k2,gf,qF,hfl,Zi4,Ze4,Zuf]
    refine Zaa x1 (by simp only [go_sem,bq]) ?_
    simp only [go_sem]
    refine Zaa x3 (by simp only [go_sem,x2]) ?_
    simp only [go_sem,Zi4,Ze4,Zuf,Zec,e1]
    exact fin _ _ (by unfold edge; rw [if_neg (by omega),if_pos h2.symm]; grind) (by simp only [go_sem])
   ·have k2:¬ (q:Int)=(i:Int):=by omega
    simp only [go_sem,Zcz,Zgb,Zf3,hm,q0,q1,hlsl,hlsx,k1,k2,Zec,e1]
    exact fin _ _ (by unfold edge; rw [if_neg (by omega),if_neg (by omega)]; grind) (by simp only [go_sem])
 ·have hte:t=L.length:=by omega
  subst hte
  have q1:¬ ((L.length:Nat):Int)<(L.length:Int):=by omega
  rw [List.take_of_length_le (by rw [List.length_map]; omega),List.take_of_length_le (by omega)]
  simp only [go_sem,Zcz,q1,hlsl]
  exact hK _ (by simp only [go_sem]) (by simp only [go_sem]) (by simp only [go_sem]) (by simp only [go_sem]) (by simp only [go_sem]) (by simp only [go_sem]) (by simp only [go_sem])
theorem Y6k {n a b k:Nat}{L:List Spr}{ls:List AV}{F:List Rat}(hls:ls=L.map sprAV) (hLF:L.length=F.length) (hL:L.length≤1000) (hF:Rb k F) (hk:k≤100) (hn:n≤1000) (hab:a≠b)
  (hok:∀ s,s∈L→EndsOk (n:Int) s.1 s.2.1) {K:Ex→St→Prop}
  (hK0:¬ carriesB n a b (L.map toE) F→∀ (e:Nat→AV) (H:Heap),e 10 = .bool false→K .ret ⟨e,H⟩)
  (hK:carriesB n a b (L.map toE) F→∀ e:Nat→AV,K (.exit 0) ⟨e,[]⟩) :
  T Tryz.prog 66 0 (.loop Zk2) ⟨envL [(0,.int .i64 (n:Int)),(1,.sl ls),(2,.int .i64 (a:Int)),(3,.int .i64 (b:Int)),(4,rowV F),(11,.int .i64 0)],[]⟩ K:=by
 have hm:Tryz.prog.follows .mixedOrders=true:=by kernel_rfl
 refine Zaf (fun i:Nat=>⟨envL [(0,.int .i64 (n:Int)),(1,.sl ls),(2,.int .i64 (a:Int)),(3,.int .i64 (b:Int)),(4,rowV F),(11,.int .i64 (i:Int))],[]⟩)
  (fun i=>i≤n∧∀ j,j<i→divg j (L.map toE) F=edge a b j) (fun i=>n - i) 0 ⟨by omega,fun j hj=>by omega⟩ (Zab _ (by simp only [go_sem]; simp)) (fun i hi N hN=>?_)
 obtain ⟨hi,hall⟩:=hi
 unfold Zk2
 by_cases hin:i<n
 ·have q1:(i:Int)<(n:Int):=by omega
  have e1:IntKind.i64.wrap ((i:Int)+1)=((i+1:Nat):Int):=by rw [Zac (by omega) (by omega)]; omega
  have w0:=rwhole (v:=0) (by decide)
  have cl:∀ v:Int,(rc v 1).length=4:=fun v=>rfl
  have ct:∀ v:Int,(rc v 1).take 4=rc v 1:=fun v=>rfl
  have cd:∀ v:Int,(rc v 1).drop 4 = []:=fun v=>rfl
  simp only [go_sem,Zkp,Zub,q1]
  refine Zaa w0 (by simp only [go_sem]) ?_
  simp only [go_sem,avR,cl,ct,cd,Zt3]
  refine Za0 [(0,.int .i64 (n:Int)),(1,.sl ls),(2,.int .i64 (a:Int)),(3,.int .i64 (b:Int)),(4,rowV F),(11,.int .i64 (i:Int)),(12,.ptr 0 0),(13,.int .i64 0)] (by simp only [go_sem]) ?_
  refine Y41 hls hLF hL hF hk hok (fun e e0 e1' e2 e3 e4 e11 e12=>?_)
  have hSb:Qb 110000 (divg i (L.map toE) F):=(Z23 hF).mono (by
   have h1:F.length≤1000:=by omega
   have:=Nat.mul_le_mul h1 (show k+3≤103 by omega)
   omega)
  have main:∀ v:Int,edge a b i=(v:Rat)→v.natAbs≤1→∃ c:Int,SpecV Tryz.prog Yd7 [.agg (rq (divg i (L.map toE) F)),.agg (rc v 1)] (.int .i64 c)∧(c=0↔divg i (L.map toE) F=edge a b i):=fun v hv hv1=>by
   have hvb:Ib 110000 v:=by
    show v.natAbs<2 ^ 110000
    exact Nat.lt_of_le_of_lt hv1 (Nat.one_lt_pow (by omega) (by omega))
   have h1b:Ib 110000 (1:Int):=by
    show (1:Int).natAbs<2 ^ 110000
    exact Nat.one_lt_pow (by omega) (by omega)
   refine ⟨_,rcmpq hSb.ib.1 hSb.ib.2 hvb h1b (by omega),?_⟩
   rw [hv]
   generalize divg i (L.map toE) F=S
   have hd:=S.den_pos
   have key:S.num*1=v*(S.den:Int)↔S=(v:Rat):=by
    have h:=Rat.divInt_eq_divInt_iff (n₁:=S.num) (d₁:=(S.den:Int)) (n₂:=v) (d₂:=1) (by omega) (by decide)
    rw [Rat.num_divInt_den,show Rat.divInt v 1=(v:Rat) by rw [Rat.divInt_eq_div]; grind] at h
    exact h.symm
   rw [← key]
   by_cases h:S.num*1=v*(S.den:Int)
   ·rw [if_pos h]; exact ⟨fun _=>h,fun _=>rfl⟩
   ·rw [if_neg h]; exact ⟨fun h'=>by split at h' <;> simp at h',fun h'=>absurd h' h⟩
  have bq:∀ (H:Heap) (ids:List Nat) (q:Rat),BVs H ids (rq q) (rq q)=True:=fun H ids q=>Zlf
  have hab':¬ (a:Int)=(b:Int):=by omega
  by_cases h1:i=a
  ·subst h1
   obtain ⟨c,hc,hcc⟩:=main (1) (by unfold edge; rw [if_pos rfl,if_neg (by omega)]; decide+kernel) (by decide)
   have w1:=rwhole (v:=1) (by decide)
   simp only [go_sem,Zei,Zed,Zqo,Zeh,Zb4,e0,e1',e2,e3,e4,e11,e12,hab',hm,Zi4,Ze4]
   refine Zaa w1 (by simp only [go_sem]) ?_
   simp only [go_sem,avR,e12,Zi4,Ze4]
   refine Zaa hc (by simp only [go_sem,bq]; exact of_eq_true Zlf) ?_
   by_cases h0:c=0
   ·have hd:=hcc.1 h0
    simp only [go_sem,h0,Zek,e11,hab',e1]
    refine hN (i+1) _ ⟨by omega,fun j hj=>?_⟩ (by omega) ?_
    ·by_cases hji:j=i
     ·rw [hji]; exact hd
     ·exact hall j (by omega)
    ·exact Zjl [] (by simp) (fun i hi=>by omega) [(0,.int .i64 (n:Int)),(1,.sl ls),(2,.int .i64 (i:Int)),(3,.int .i64 (b:Int)),(4,rowV F),(11,.int .i64 ((i+1:Nat):Int))] (by simp only [go_sem,e0,e1',e2,e3,e4])
   ·simp only [go_sem,h0,Zea]
    exact hK0 (fun h=>h0 (hcc.2 (h i hin))) _ _ (by simp only [go_sem])
  ·have k1:¬ (i:Int)=(a:Int):=by omega
   by_cases h2:i=b
   ·subst h2
    obtain ⟨c,hc,hcc⟩:=main (-1) (by unfold edge; rw [if_neg h1,if_pos rfl]; decide+kernel) (by decide)
    have w1:=rwhole (v := -1) (by decide)
    simp only [go_sem,Zei,Zed,Zqw,Zeh,Zb4,e0,e1',e2,e3,e4,e11,e12,k1,hm,Zi4,Ze4]
    refine Zaa w1 (by simp only [go_sem]) ?_
    simp only [go_sem,avR,e12,Zi4,Ze4]
    refine Zaa hc (by simp only [go_sem,bq]; exact of_eq_true Zlf) ?_
    by_cases h0:c=0
    ·have hd:=hcc.1 h0
     simp only [go_sem,h0,Zek,e11,k1,e1]
     refine hN (i+1) _ ⟨by omega,fun j hj=>?_⟩ (by omega) ?_
     ·by_cases hji:j=i
      ·rw [hji]; exact hd
      ·exact hall j (by omega)
     ·exact Zjl [] (by simp) (fun i hi=>by omega) [(0,.int .i64 (n:Int)),(1,.sl ls),(2,.int .i64 (a:Int)),(3,.int .i64 (i:Int)),(4,rowV F),(11,.int .i64 ((i+1:Nat):Int))] (by simp only [go_sem,e0,e1',e2,e3,e4])
    ·simp only [go_sem,h0,Zea]
     exact hK0 (fun h=>h0 (hcc.2 (h i hin))) _ _ (by simp only [go_sem])
   ·have k2:¬ (i:Int)=(b:Int):=by omega
    obtain ⟨c,hc,hcc⟩:=main (0) (by unfold edge; rw [if_neg h1,if_neg h2]; decide+kernel) (by decide)
    have w1:=rwhole (v:=0) (by decide)
    simp only [go_sem,Zei,Zed,Zeh,Zb4,e0,e1',e2,e3,e4,e11,e12,k1,k2,hm,Zi4,Ze4]
    refine Zaa w1 (by simp only [go_sem]) ?_
    simp only [go_sem,avR,e12,Zi4,Ze4]
    refine Zaa hc (by simp only [go_sem,bq]; exact of_eq_true Zlf) ?_
    by_cases h0:c=0
    ·have hd:=hcc.1 h0
     simp only [go_sem,h0,Zek,e11,k1,k2,e1]
     refine hN (i+1) _ ⟨by omega,fun j hj=>?_⟩ (by omega) ?_
     ·by_cases hji:j=i
      ·rw [hji]; exact hd
      ·exact hall j (by omega)
     ·exact Zjl [] (by simp) (fun i hi=>by omega) [(0,.int .i64 (n:Int)),(1,.sl ls),(2,.int .i64 (a:Int)),(3,.int .i64 (b:Int)),(4,rowV F),(11,.int .i64 ((i+1:Nat):Int))] (by simp only [go_sem,e0,e1',e2,e3,e4])
    ·simp only [go_sem,h0,Zea]
     exact hK0 (fun h=>h0 (hcc.2 (h i hin))) _ _ (by simp only [go_sem])
 ·have hie:i=n:=by omega
  subst hie
  have q1:¬ ((i:Nat):Int)<(i:Int):=by omega
  simp only [go_sem,Zkp,q1]
  exact hK hall _
theorem rcarries {n a b k:Nat}{L:List Spr}{F:List Rat}(hLF:L.length=F.length) (hL:L.length≤1000) (hF:Rb k F) (hk:k≤100) (hn:n≤1000) (hab:a≠b) (hok:∀ s,s∈L→EndsOk (n:Int) s.1 s.2.1) :
  SpecV Tryz.prog Z2h [.int .i64 (n:Int),.sl (L.map sprAV),.int .i64 (a:Int),.int .i64 (b:Int),rowV F] (.bool (decide (carriesB n a b (L.map toE) F))):=by
 refine Zad Yct (by simp) ?_
 unfold Z6s
 unfold rowV
 simp only [go_sem,Zts,Zsp]
 refine Za0 [(0,.int .i64 (n:Int)),(1,.sl (L.map sprAV)),(2,.int .i64 (a:Int)),(3,.int .i64 (b:Int)),(4,.sl (F.map fun q=>AV.agg (rq q))),(11,.int .i64 0)] (by simp only [go_sem]) ?_
 refine Y6k rfl hLF hL hF hk hn hab hok (fun h e H e10=>?_) (fun h e=>?_)
 ·rw [decide_eq_false h]
  simp only [go_sem,e10]
 ·rw [decide_eq_true h]
  simp only [go_sem,Zrc]
end GoAbs
namespace GoAbs
open Go Go.Proofs
set_option exponentiation.threshold 200000
theorem Y6f {S f q:Rat}{k:Nat}(hS:Qb k S) (hf:Qb 77 f) (hq:Qb 20 q) (hq0:0<q) (hk:200≤k) (hkl:k≤400000):∃ X Y Z,SpecV Tryz.prog Yd6 [.agg (rq f),.agg (rq f)] (.agg X)∧(∀ H ids,BVs H ids X X=True) ∧
  SpecV Tryz.prog Ydr [.agg X,.agg (rq q)] (.agg Y)∧(∀ H ids,BVs H ids Y Y=True)∧SpecV Tryz.prog Z5e [.agg (rq S),.agg Y] (.agg Z)∧(∀ H ids,BVs H ids Z Z=True)∧SpecV Tryz.prog Zlm [.agg Z] (.agg (rq (S+f*f / q))):=by
 have df:=f.den_pos
 have dq:=q.den_pos
 have dS:=S.den_pos
 have hqn:0<q.num:=num_pos'.2 hq0
 have h1:=rmulq (k:=77) hf.ib.1 hf.ib.2 hf.ib.1 hf.ib.2 (by omega)
 have i1:Ib 154 (f.num*f.num):=(hf.ib.1.mul hf.ib.1)
 have i2:Ib 154 ((f.den:Int)*f.den):=(hf.ib.2.mul hf.ib.2)
 have h2:=rdivq (k:=154) i1 i2 (hq.ib.1.mono (by omega)) (hq.ib.2.mono (by omega)) (by omega)
 have hdd:(0:Int)<(f.den:Int)*f.den:=Int.mul_pos (by omega) (by omega)
 have hpos:0<((f.den:Int)*f.den)*q.num:=Int.mul_pos hdd hqn
 rw [if_neg (by omega)] at h2
 have i3:Ib 174 (f.num*f.num*q.den):=(i1.mul hq.ib.2)
 have i4:Ib 174 (((f.den:Int)*f.den)*q.num):=(i2.mul hq.ib.1)
 have hval:Rat.divInt (f.num*f.num*q.den) (((f.den:Int)*f.den)*q.num)=f*f / q:=by
  have e1:Rat.divInt (f.num*f.num) ((f.den:Int)*f.den)=f*f:=by rw [← Rat.divInt_mul_divInt,Rat.num_divInt_den]
  have e2:Rat.divInt (q.den:Int) q.num=1 / q:=by
   have h:=Rat.inv_divInt q.num (q.den:Int)
   rw [Rat.num_divInt_den] at h
   rw [← h,Rat.div_def,Rat.one_mul]
  rw [← Rat.divInt_mul_divInt,e1,e2]; grind
 generalize f.num*f.num*(q.den:Int)=A at *
 generalize ((f.den:Int)*f.den)*q.num=B at *
 have h3:=raddq (k:=k) hS.ib.1 hS.ib.2 (i3.mono (by omega)) (i4.mono (by omega)) (by omega)
 have h4:=rlow (k:=2*k+1) (Ib.add (k:=2*k) ((hS.ib.1.mul (i4.mono (show 174≤k by omega))).mono (by omega)) ((i3.mono (show 174≤k by omega)).mul hS.ib.2 |>.mono (by omega))) ((hS.ib.2.mul (i4.mono (show 174≤k by omega))).mono (by omega)) (Int.mul_pos (by omega) hpos) (by omega)
 have hsum:=Y7a (q:=S) (w:=f*f / q) (by omega) hval.symm
 rw [hsum] at h4
 exact ⟨_,_,_,h1,fun H ids=>Zlf,h2,fun H ids=>Zlf,h3,fun H ids=>Zlf,h4⟩
theorem Y8f {L:List Spr}{ls:List AV}{F:List Rat}(hls:ls=L.map sprAV) (hLF:L.length=F.length) (hL:L.length≤1000) (hF:Rb 77 F)
  (hok:∀ s,s∈L→s.2.2.length≤1000000000∧∃ q,parseL s.2.2=some q∧Qb 20 q∧0<q) {K:Ex→St→Prop}
  (hK:∀ e:Nat→AV,e 4 = .ptr 0 0→e 5 = .ptr 1 0→K (.exit 0) ⟨e,[.cells [.bool false,.nils,.bool false,.nils],.cells (rq (enerZ ((L.map toE).zip F)))]⟩) :
  T Tryz.prog 34 0 (.loop Zmc) ⟨envL [(0,.sl ls),(1,rowV F),(4,.ptr 0 0),(5,.ptr 1 0),(6,.int .i64 0)],[.cells [.bool false,.nils,.bool false,.nils],.cells (rq 0)]⟩ K:=by
 have hm:Tryz.prog.follows .mixedOrders=true:=by kernel_rfl
 have hlsl:ls.length=L.length:=by rw [hls,List.length_map]
 have hEl:(L.map toE).length=F.length:=by rw [List.length_map]; exact hLF
 have hZl:((L.map toE).zip F).length=F.length:=by rw [List.length_zip]; omega
 have hZ:∀ p,p∈(L.map toE).zip F→Qb 77 p.2∧Qb 20 p.1.2.2∧p.1.2.2≠0:=fun p hp=>by
  obtain ⟨h1,h2⟩:=List.of_mem_zip (a:=p.1) (b:=p.2) hp
  obtain ⟨s,hs,he⟩:=List.mem_map.1 h1
  obtain ⟨_,q,hq,hb,h0⟩:=hok s hs
  have:p.1.2.2=q:=by rw [← he]; simp [toE,hq]
  rw [this]
  exact ⟨hF _ h2,hb,by grind⟩
 refine Zaf (fun t:Nat=>⟨envL [(0,.sl ls),(1,rowV F),(4,.ptr 0 0),(5,.ptr 1 0),(6,.int .i64 (t:Int))],[.cells [.bool false,.nils,.bool false,.nils],.cells (rq (enerZ (((L.map toE).zip F).take t)))]⟩)
  (fun t=>t≤L.length) (fun t=>L.length - t) 0 (by omega) (Zab _ (by simp only [go_sem]; simp)) (fun t ht N hN=>?_)
 unfold Zmc
 have hfl:(F.map fun q=>AV.agg (rq q)).length=F.length:=by simp
 by_cases htL:t<L.length
 ·obtain ⟨s,hs⟩:∃ s:Spr,L[t]? = some s:=⟨_,List.getElem?_eq_getElem htL⟩
  obtain ⟨hlen,q,hq,hqb,hq0⟩:=hok s (List.mem_of_getElem? hs)
  have hlsx:ls[t]? = some (.agg [.int .i64 s.1,.int .i64 s.2.1,.str (bs s.2.2)]):=by rw [hls,List.getElem?_map,hs]; rfl
  have he:(L.map toE)[t]? = some (toE s):=by rw [List.getElem?_map,hs]; rfl
  have hk:(toE s).2.2=q:=by simp [toE,hq]
  have hz:=Yv7 he (show t<F.length by omega)
  have hsn:enerZ (((L.map toE).zip F).take (t+1))=enerZ (((L.map toE).zip F).take t)+rget F t*rget F t / q:=by
   rw [List.take_add_one,hz]
   show enerZ (_ ++ [_])=_
   rw [Z4q,hk]
  have gf:(F.map fun q=>AV.agg (rq q))[t]? = some (.agg (rq (rget F t))):=by rw [List.getElem?_map,Zal (by omega)]; rfl
  have hfb:=hF.get (j:=t) (by omega)
  have hb:=Zwi hZ t (by omega)
  have hm1:t*(2*77+20+1)≤1000*(2*77+20+1):=Nat.mul_le_mul_right _ (by omega)
  obtain ⟨X,Y,Z,x1,x2,y1,y2,z1,z2,w1⟩:=Y6f (k:=200000) (hb.mono (by omega)) hfb hqb hq0 (by omega) (by omega)
  have ho:=rof hlen hq
  have q0:(0:Int)≤(t:Int):=by omega
  have q1:(t:Int)<(L.length:Int):=by omega
  have qF:(t:Int)<(F.length:Int):=by omega
  have e1:IntKind.i64.wrap ((t:Int)+1)=((t+1:Nat):Int):=by rw [Zac (by omega) (by omega)]; omega
  have bq:∀ (H:Heap) (ids:List Nat) (q:Rat),BVs H ids (rq q) (rq q)=True:=fun H ids q=>Zlf
  have hr4:rc q.num q.den=rq q:=rfl
  generalize enerZ (((L.map toE).zip F).take t)=S at *
  generalize rget F t=f at *
  unfold rowV at hN ⊢
  simp only [go_sem,Zmg,Zmo,hm,q0,q1,hlsl,hlsx,gf,qF,hfl,Zi4,Ze4,Zuf]
  refine Zaa x1 (by simp only [go_sem,bq]) ?_
  simp only [go_sem,q0,q1,hlsl,hlsx]
  refine Zaa ho (by simp only [go_sem]) ?_
  simp only [go_sem,avR,hr4]
  refine Zaa y1 (by simp only [go_sem,x2,bq]) ?_
  simp only [go_sem,Zi4,Ze4]
  refine Zaa z1 (by simp only [go_sem,y2,bq]) ?_
  simp only [go_sem]
  refine Zaa w1 (by simp only [go_sem,z2]) ?_
  simp only [go_sem,Zi4,Ze4,Zuf,Zxy,e1]
  refine hN (t+1) _ (by omega) (by omega) (Zgo (Zab [(0,.sl ls),(1,.sl (F.map fun q=>AV.agg (rq q))),(4,.ptr 0 0),(5,.ptr 1 0),(6,.int .i64 ((t+1:Nat):Int))] (by simp only [go_sem])) ?_)
  rw [hsn]
 ·have hte:t=L.length:=by omega
  subst hte
  have q1:¬ ((L.length:Nat):Int)<(L.length:Int):=by omega
  rw [List.take_of_length_le (by omega)]
  simp only [go_sem,Zmg,q1,hlsl]
  exact hK _ (by simp only [go_sem]) (by simp only [go_sem])
theorem renergy {L:List Spr}{F:List Rat}(hLF:L.length=F.length) (hL:L.length≤1000) (hF:Rb 77 F) (hok:∀ s,s∈L→s.2.2.length≤1000000000∧∃ q,parseL s.2.2=some q∧Qb 20 q∧0<q) :
  SpecV Tryz.prog Yhu [.sl (L.map sprAV),rowV F] (.agg (rq (enerZ ((L.map toE).zip F)))):=by
 have w0:=rwhole (v:=0) (by decide)
 have cl:(rc 0 1).length=4:=rfl
 have ct:(rc 0 1).take 4=rc 0 1:=rfl
 have cd:(rc 0 1).drop 4 = []:=rfl
 have bq:∀ (H:Heap) (ids:List Nat) (q:Rat),BVs H ids (rq q) (rq q)=True:=fun H ids q=>Zlf
 refine Zad Yga (by simp) ?_
 unfold Z86
 unfold rowV
 simp only [go_sem,Zyf,Zy5]
 refine Zaa w0 (by simp only [go_sem]) ?_
 simp only [go_sem,avR,cl,ct,cd,Zwv]
 refine Za0 [(0,.sl (L.map sprAV)),(1,.sl (F.map fun q=>AV.agg (rq q))),(4,.ptr 0 0),(5,.ptr 1 0),(6,.int .i64 0)] (by simp only [go_sem]) ?_
 refine Y8f rfl hLF hL hF hok (fun e e4 e5=>?_)
 simp only [go_sem,Zxn,e4,e5,Zi4,Ze4,Zuf]
 rw [bq]; trivial
end GoAbs
namespace GoAbs
open Go Go.Proofs
set_option exponentiation.threshold 20000
theorem Yn4 {n a b n0 c:Int}{L L0:List Spr}{M F:List (List UInt8)}(hF42:F.length≤42) (hL41:L.length≤41) (hf:SpecV Tryz.prog Yhv [.agg [.int .i64 n0,.sl (L0.map sprAV)]] (.agg [.int .i64 n,.sl (L.map sprAV)])) (hnu:SpecV Tryz.prog Yd8 [.sl (txts M)] (.sl (txts F))) (hc:c≠0)
  (h1:SpecV Tryz.prog Zef [.int .i64 n,.sl (L.map sprAV),.int .i64 a,.int .i64 b,.sl (txts F)] (.tup [.bool false,.int .i64 c])) (h2:SpecV Tryz.prog Zkt [.int .i64 n,.sl (L.map sprAV),.sl (txts F)] (.tup [.str (bs []),.int .i64 c]))
  (hk:SpecV Tryz.prog Zpi [.int .i64 n,.sl (L.map sprAV),.sl (txts F)] (.int .i64 c)∨(SpecV Tryz.prog Zpi [.int .i64 n,.sl (L.map sprAV),.sl (txts F)] (.int .i64 0)∧F.length≠L.length∧c=1)) :
  SpecV Tryz.prog Zka [.agg [.int .i64 n0,.sl (L0.map sprAV)],.agg [.int .i64 a,.int .i64 b],.sl (txts M)] (.bool true):=by
 have hm:Tryz.prog.follows .mixedOrders=true:=by kernel_rfl
 have hbs:(⟨#[]⟩:ByteArray)=bs []:=rfl
 obtain ⟨ls,hls⟩:∃ ls,ls=L.map sprAV:=⟨_,rfl⟩
 have hlsl:ls.length=L.length:=by rw [hls,List.length_map]
 rw [← hls] at hf h1 h2 hk
 refine Zad Ziy (by simp) ?_
 unfold Zfj
 simp only [go_sem,Zda,Zc5]
 refine Zaa hf (by simp only [go_sem]) ?_
 simp only [go_sem]
 refine Zaa hnu (by simp only [go_sem]) ?_
 simp only [go_sem,Zc0]
 refine Zaa h1 (by simp only [go_sem]) ?_
 simp only [go_sem,Zc7]
 refine Zaa h2 (by simp only [go_sem]) ?_
 simp only [go_sem,Zcu]
 rcases hk with hk | ⟨hk,hne,rfl⟩
 ·refine Zaa hk (by simp only [go_sem]) ?_
  simp only [go_sem,Zbm,Zbo,Zc8,hc,hbs,Bool.not_false]
  refine Zaa llives (by simp only [go_sem]) ?_
  simp only [go_sem]
 ·have hne':¬ (F.length:Int)=(L.length:Int):=by omega
  refine Zaa hk (by simp only [go_sem]) ?_
  simp only [go_sem,Zbm,Zfw,hlsl,hne',Zh1,Zbo,Zc8,hbs,Bool.not_false]
  refine Zaa llives (by simp only [go_sem]) ?_
  simp only [go_sem]
theorem Ymz {n a b:Int}{L:List Spr}{M:List (List UInt8)}:SpecV Tryz.prog Zka [.agg [.int .i64 n,.sl (L.map sprAV)],.agg [.int .i64 a,.int .i64 b],.sl (txts M)] (.bool true):=by
 have hm:Tryz.prog.follows .mixedOrders=true:=by kernel_rfl
 have hf:=lfew (n:=n) (L:=L)
 have hnu:=lnums (L:=M)
 have hk6:10<fewK n∨fewK n≤6:=by unfold fewK; split <;> omega
 have hm40:40<(fewL L).length∨(fewL L).length≤9:=by
  rw [Yns]; unfold mostL; split <;> omega
 have h41:(fewL L).length≤41:=by rw [Yns]; unfold mostL; split <;> omega
 have hsh:=Ysr (L:=L)
 have hFl:=Yvf (L:=M)
 have hFs:=Ylp (L:=M)
 generalize fewK n=n' at *
 generalize fewL L=L' at *
 generalize numsL M=F at *
 have hl':∀ s,s∈L'→s.2.2.length≤1000000000:=fun s hs=>by have:=hsh s hs; omega
 have hF9:∀ l,l∈F→l.length≤1000000000:=fun l hl=>by have:=hFs l hl; omega
 have hchk:SpecV Tryz.prog Zpi [.int .i64 n',.sl (L'.map sprAV),.sl (txts F)] (.int .i64 (checkE n' L' F)):=rcheck (n:=n') (L:=L') (M:=F) (by omega) hl' (by omega) hF9
 rcases Yx7 n' L' F with ⟨c,e,nc,hc0,hce,hn3,hre,hk⟩ | ⟨hce,hFp,hre,g1,g2,g3,hall⟩
 ·rw [hce] at hchk
  exact Yn4 hFl h41 hf hnu hc0 (Zvy (by omega) hl' hre hn3 hF9 (by omega) (by
   rcases hk with h | ⟨h1,h2,h3⟩
   ·exact .inl h
   ·exact .inr ⟨h1,by omega,h3,.inl (by omega)⟩)) (Z9b (by omega) hl' hre hn3 hF9 (by omega) (by
   rcases hk with h | ⟨h1,h2,h3⟩
   ·exact .inl h
   ·exact .inr ⟨h1,by omega,h3,.inl (by omega)⟩)) (.inl hchk)
 ·rw [hce] at hchk
  by_cases hln:F.length=L'.length
  ·have hn6:n'≤6:=by omega
   have hL9:L'.length≤9:=by omega
   obtain ⟨m,hmn⟩:∃ m:Nat,n'=((m+1:Nat):Int):=⟨n'.toNat - 1,by omega⟩
   have hnt:n'.toNat=m+1:=by omega
   subst hmn
   have hends:∀ s,s∈L'→EndsOk ((m+1:Nat):Int) s.1 s.2.1:=fun s hs=>by
    obtain ⟨h1,q,hq⟩:=hall s hs
    exact (Z5j h1 hq).1
   have hok:NetOk (m+1) (L'.map toE):=by
    refine ⟨by omega,fun e he=>?_⟩
    obtain ⟨s,hs,rfl⟩:=List.mem_map.1 he
    obtain ⟨h1,q,hq⟩:=hall s hs
    obtain ⟨⟨k1,k2,k3,k4,k5⟩,k6,k7⟩:=Z5j h1 hq
    have h3:(toE s).2.2=q:=by simp [toE,hq]
    rw [h3]
    exact ⟨by show s.1.toNat<_; omega,by show s.2.1.toNat<_; omega,by show s.1.toNat≠s.2.1.toNat; omega,k6,k7⟩
   rw [hnt] at hre
   have hF2:∀ l,l∈F→l.length≤1000000000∧(parseL l).isSome=true:=fun l hl=>⟨hF9 l hl,hFp l hl⟩
   have hFb:Rb 77 (F.map toQ):=fun x hx=>by
    obtain ⟨l,hl,rfl⟩:=List.mem_map.1 hx
    obtain ⟨q,hq⟩:=Option.isSome_iff_exists.1 (hFp l hl)
    have:toQ l=q:=by unfold toQ; rw [hq]; rfl
    rw [this]; exact Ys2 hq (hFs l hl)
   have hE67:∀ e,e∈L'.map toE→Qb 67 e.2.2∧e.2.2≠0:=fun e he=>by
    obtain ⟨_,_,_,h0,hb⟩:=hok.e e he
    exact ⟨hb.bits,by grind⟩
   have hE3:∀ e,e∈L'.map toE→e.1<m+1∧e.2.1<m+1∧e.1≠e.2.1:=fun e he=>⟨(hok.e e he).1,(hok.e e he).2.1,(hok.e e he).2.2.1⟩
   have hen:=Yq5 (k:=77) (by omega) hl' hre hF2 hln (by rw [List.length_map]) hE67 hFb (by omega)
   have hlen':∀ v:Int,¬ (L'.length:Int)=v∨True:=fun v => .inr trivial
   have hle:=lends (n:=((m+1:Nat):Int)) (a:=a) (b:=b)
   obtain ⟨r,c,hca,hr⟩:∃ (r:Bool) (c:Int),SpecV Tryz.prog Zef [.int .i64 ((m+1:Nat):Int),.sl (L'.map sprAV),.int .i64 a,.int .i64 b,.sl (txts F)] (.tup [.bool r,.int .i64 c]) ∧
     ((¬ EndsOk ((m+1:Nat):Int) a b∧r=false∧c=1)∨(c=0∧∃ a' b':Nat,a=a'∧b=b'∧a'≠b'∧EndsOk ((m+1:Nat):Int) a b∧r=decide (carriesB (m+1) a' b' (L'.map toE) (F.map toQ)))):=by
    by_cases he:EndsOk ((m+1:Nat):Int) a b
    ·have he':=he
     obtain ⟨i1,i2,i3,i4,i5⟩:=he
     obtain ⟨a',rfl⟩:∃ a':Nat,a=a':=⟨a.toNat,by omega⟩
     obtain ⟨b',rfl⟩:∃ b':Nat,b=b':=⟨b.toNat,by omega⟩
     exact ⟨_,_,Ym9 (k:=77) (by omega) hl' hre hF2 hln (by rw [List.length_map]) (by omega) (by omega) (by omega) (by omega) hE3 hFb (by omega),.inr ⟨rfl,a',b',rfl,rfl,by omega,he',rfl⟩⟩
    ·exact ⟨_,_,Zvy (c:=1) (by omega) hl' hre rfl hF9 (by omega) (.inr ⟨rfl,by decide,hFp,.inr (.inl he)⟩),.inl ⟨he,rfl,rfl⟩⟩
   have hlt:=llight (n:=((m+1:Nat):Int)) (L:=L') (by omega) hl'
   obtain ⟨t,x,ht⟩:∃ (t:ByteArray) (x:Int),numR (enerZ ((L'.map toE).zip (F.map toQ))) = .tup [.str t,.int .i64 x]:=by
    unfold numR; split
    ·exact ⟨_,_,rfl⟩
    ·exact ⟨_,_,rfl⟩
   have htx:=ht
   rw [ht] at hen
   have hln':(F.length:Int)=(L'.length:Int):=by omega
   obtain ⟨ls,hls⟩:∃ ls,ls=L'.map sprAV:=⟨_,rfl⟩
   have hlsl:ls.length=L'.length:=by rw [hls,List.length_map]
   rw [← hls] at hf hca hen hchk hlt
   refine Zad Ziy (by simp) ?_
   unfold Zfj
   simp only [go_sem,Zda,Zc5]
   refine Zaa hf (by simp only [go_sem]) ?_
   simp only [go_sem]
   refine Zaa hnu (by simp only [go_sem]) ?_
   simp only [go_sem,Zc0]
   refine Zaa hca (by simp only [go_sem]) ?_
   simp only [go_sem,Zc7]
   refine Zaa hen (by simp only [go_sem]) ?_
   simp only [go_sem,Zcu]
   refine Zaa hchk (by simp only [go_sem]) ?_
   simp only [go_sem,Zbm,Zfw,hlsl,hln',Zbo,Zgv]
   refine Zaa hlt (by simp only [go_sem]) ?_
   cases hlb:lightB L' with
   | false =>
    simp only [go_sem,Bool.not_false,Zgt]
    refine Zaa llives (by simp only [go_sem]) ?_
    simp only [go_sem]
   | true =>
    obtain ⟨b1,_⟩:=Bool.and_eq_true_iff.1 hlb
    have h6:∀ s,s∈L'→s.2.2.length≤6:=fun s hs=>of_decide_eq_true (List.all_eq_true.1 b1 s hs)
    have hspr:∀ s,s∈L'→s.2.2.length≤1000000000∧∃ q,parseL s.2.2=some q∧Qb 20 q∧0<q:=fun s hs=>by
     obtain ⟨h1,q,hq⟩:=hall s hs
     exact ⟨hl' s hs,q,hq,Ysb hq (h6 s hs),(Z5j h1 hq).2.1⟩
    have hml:(F.map toQ).length=F.length:=by simp
    have hLF:L'.length=(F.map toQ).length:=by rw [hml,hln]
    have hrq:=rqs hF2 (by omega)
    have hre2:=renergy hLF (by omega) hFb hspr
    have hZl:((L'.map toE).zip (F.map toQ)).length=F.length:=by rw [List.length_zip,List.length_map,List.length_map]; omega
    have hEb:=Zwi (k:=77) (l:=20) (Z:=(L'.map toE).zip (F.map toQ)) (fun p hp=>by
     obtain ⟨h1,h2⟩:=List.of_mem_zip (a:=p.1) (b:=p.2) hp
     obtain ⟨s,hs,he⟩:=List.mem_map.1 h1
     obtain ⟨_,q,hq,hb,h0⟩:=hspr s hs
     have:p.1.2.2=q:=by rw [← he]; simp [toE,hq]
     rw [this]
     exact ⟨hFb _ h2,hb,by grind⟩) F.length (by omega)
    rw [List.take_of_length_le (by omega)] at hEb
    have hE2:=hEb.mono (show 1+F.length*(2*77+20+1)≤2000 by
     have:=Nat.mul_le_mul_right (2*77+20+1) (show F.length≤9 by omega); omega)
    have hNok:=Yqi hE2 (by omega)
    unfold numR at htx
    rw [if_pos hNok] at htx
    injection htx with htx
    injection htx with ht1 htx
    injection htx with htx
    injection ht1 with ht1
    injection htx with _ hx
    subst ht1 hx
    have his:=ris (n:=(enerZ ((L'.map toE).zip (F.map toQ))).num) (d:=(enerZ ((L'.map toE).zip (F.map toQ))).den) (k:=2000) (q:=enerZ ((L'.map toE).zip (F.map toQ))) (s:=bs (numS (enerZ ((L'.map toE).zip (F.map toQ))))) hE2.ib.1 hE2.ib.2 (by have:=(enerZ ((L'.map toE).zip (F.map toQ))).den_pos; omega) (by omega) (Rat.num_divInt_den _)
    rw [decide_eq_true (show NumOk (enerZ ((L'.map toE).zip (F.map toQ)))∧bs (numS (enerZ ((L'.map toE).zip (F.map toQ))))=bs (numS (enerZ ((L'.map toE).zip (F.map toQ)))) from ⟨hNok,rfl⟩)] at his
    unfold avR at his
    have hr4:∀ q:Rat,rc q.num q.den=rq q:=fun q=>rfl
    rw [hr4] at his
    have bq:∀ (H:Heap) (ids:List Nat) (q:Rat),BVs H ids (rq q) (rq q)=True:=fun H ids q=>Zlf
    rw [← hls] at hre2
    have hrca:∀ a' b':Nat,a'≠b'→SpecV Tryz.prog Z2h [.int .i64 ((m+1:Nat):Int),.sl ls,.int .i64 (a':Int),.int .i64 (b':Int),rowV (F.map toQ)] (.bool (decide (carriesB (m+1) a' b' (L'.map toE) (F.map toQ)))):=fun a' b' hab=>by
     rw [hls]; exact rcarries hLF (by omega) hFb (by omega) (by omega) hab hends
    unfold rowV at hrq hre2 hrca
    generalize enerZ ((L'.map toE).zip (F.map toQ))=en at *
    simp only [go_sem,Bool.not_true,Zck,hm]
    refine Zaa hrq (by simp only [go_sem]) ?_
    simp only [go_sem]
    refine Zaa hre2 (by simp only [go_sem]) ?_
    simp only [go_sem]
    refine Zaa his (by simp only [go_sem,bq]) ?_
    simp only [go_sem,Bool.not_true]
    refine Zaa llives (by simp only [go_sem]) ?_
    simp only [go_sem,Bool.not_true,Zgu]
    rcases hr with ⟨he,rfl,rfl⟩ | ⟨rfl,a',b',rfl,rfl,hab,he,rfl⟩
    ·rw [if_neg he] at hle
     refine Zaa hle (by simp only [go_sem]) ?_
     simp only [go_sem,Bool.not_false,Zcj,Zgr]
    ·rw [if_pos he] at hle
     refine Zaa hle (by simp only [go_sem]) ?_
     simp only [go_sem,Zcj,Zcl,hm]
     refine Zaa hrq (by simp only [go_sem]) ?_
     simp only [go_sem]
     refine Zaa (hrca a' b' hab) (by simp only [go_sem]) ?_
     simp only [go_sem,beq_self_eq_true]
  ·exact Yn4 hFl h41 hf hnu (by decide) (Zvy (c:=1) (by omega) hl' hre rfl hF9 (by omega) (.inr ⟨rfl,by decide,hFp,.inr (.inr hln)⟩)) (Z9b (c:=1) (by omega) hl' hre rfl hF9 (by omega) (.inr ⟨rfl,by decide,hFp,.inr hln⟩)) (.inr ⟨hchk,hln,rfl⟩)
end GoAbs
