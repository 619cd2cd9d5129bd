/- Lemmas for the claim (contracts of the functions that it reaches, and what they compute), without conditions. -/
import Derived.Test.YtiapneoakbealaaGreatK24
set_option linter.unusedVariables false
set_option linter.unusedSimpArgs false
set_option maxRecDepth 10000
set_option maxHeartbeats 2000000
namespace GoAbs
open Go Go.Proofs
def qcell (q:Rat):List AV := [.bool (decide (q.num<0)),.sl (u32c (limbs q.num.natAbs)),.bool (decide ((q.den:Int)<0)),.sl (u32c (limbs (q.den:Int).natAbs))]
theorem Zaw {q:Rat}:avQ q = .agg (qcell q):=rfl
theorem Zan {q:Rat}:(qcell q).length=4:=rfl
theorem Zah {H:Heap}{ids:List Nat}{q:Rat}:BVs H ids (qcell q) (qcell q)=True:=by
 unfold qcell; simp only [go_sem]
theorem Z37 {f:Nat→Option Nat}{q:Rat}:gcL f (qcell q)=qcell q:=rfl
def qc (r:List Rat):List AV:=r.flatMap qcell
theorem Ylj (r:List Rat):(qc r).length=r.length*4:=by
 induction r with
 | nil=>rfl
 | cons q r ih=>show (qcell q++qc r).length=_; rw [List.length_append,ih,List.length_cons,Zan]; omega
theorem Yah {r s:List Rat}:qc (r++s)=qc r++qc s:=by simp [qc]
theorem Yr4 {r:List Rat}{j:Nat}{q:Rat}(h:r[j]? = some q):qc r=qc (r.take j)++(qcell q++qc (r.drop (j+1))):=by
 obtain ⟨hj,he⟩:=List.getElem?_eq_some_iff.1 h
 have:r=r.take j++(q::r.drop (j+1)):=by
  rw [← he]; simp
 conv=>lhs; rw [this,Yah]
 rfl
theorem Y64 {r:List Rat}{j:Nat}(h:j≤r.length):(qc (r.take j)).length=j*4:=by rw [Ylj,List.length_take,Nat.min_eq_left h]
theorem Ynd {r:List Rat}{j:Nat}{q:Rat}(h:r[j]? = some q):(qc r).drop (j*4)=qcell q++qc (r.drop (j+1)):=by
 have hj:=(List.getElem?_eq_some_iff.1 h).1
 rw [Yr4 h, ← Y64 (r:=r) (j:=j) (by omega),List.drop_left]
theorem Zep {r:List Rat}{j:Nat}{q:Rat}(h:r[j]? = some q):((qc r).drop (j*4)).take 4=qcell q:=by
 rw [Ynd h]; exact List.take_left' rfl
theorem Zie {r:List Rat}{j:Nat}{q:Rat}(h:r[j]? = some q):4≤((qc r).drop (j*4)).length:=by
 rw [Ynd h,List.length_append,Zan]; omega
theorem Y6z {r:List Rat}{j:Nat}{x:Rat}(h:j<r.length):(qc r).take (j*4)++qcell x++(qc r).drop (j*4+4)=qc (r.set j x):=by
 have hg:=List.getElem?_eq_getElem h
 have h1:(qc r).take (j*4)=qc (r.take j):=by rw [Yr4 hg, ← Y64 (r:=r) (j:=j) (by omega),List.take_left]
 have h2:(qc r).drop (j*4+4)=qc (r.drop (j+1)):=by
  rw [← List.drop_drop,Ynd hg]; exact List.drop_left' rfl
 rw [h1,h2,List.set_eq_take_append_cons_drop,if_pos h,Yah,List.append_assoc]
 rfl
theorem Y66 {n:Nat}{q:Rat}:qc (List.replicate n q)=rows n (qcell q):=by
 induction n with
 | zero=>rfl
 | succ n ih=>rw [List.replicate_succ]; show qcell q++qc _=_; rw [ih]; rfl
def ptrs (o w n:Nat):List AV:=(List.range n).map fun i=>AV.osl (some 4) (o+2+2*i) 0 w
def rowsH (M:List (List Rat)):Heap:=M.flatMap fun r => [.dead,.cells (qc r)]
def matH (o w:Nat) (M:List (List Rat)):Heap := .cells (ptrs o w M.length)::rowsH M
theorem Yil (o w n:Nat):(ptrs o w n).length=n:=by simp [ptrs]
theorem Zly {o w n i:Nat}(h:i<n):(ptrs o w n)[i]? = some (.osl (some 4) (o+2+2*i) 0 w):=by simp [ptrs,h]
theorem Yyu (o w n:Nat):ptrs o w (n+1)=ptrs o w n ++ [.osl (some 4) (o+2+2*n) 0 w]:=by simp [ptrs,List.range_succ]
theorem Zc6 (M:List (List Rat)):(rowsH M).length=2*M.length:=by
 induction M with
 | nil=>rfl
 | cons r M ih=>show ([Blk.dead,.cells (qc r)]++rowsH M).length=_; rw [List.length_append,ih,List.length_cons]; simp; omega
theorem Ybu:∀ {M:List (List Rat)}{i:Nat}{r:List Rat},M[i]? = some r→(rowsH M)[2*i+1]? = some (.cells (qc r))
 | [],i,r,h=>by simp at h
 | s::M,0,r,h=>by simp at h; subst h; rfl
 | s::M,i+1,r,h=>by
  show ([Blk.dead,.cells (qc s)]++rowsH M)[2*(i+1)+1]? = _
  rw [List.getElem?_append_right (by simp; omega)]
  have:=Ybu (M:=M) (i:=i) (r:=r) (by simpa using h)
  rw [← this]; congr 1
theorem Yln:∀ {M:List (List Rat)}{i:Nat}{r:List Rat},i<M.length→(rowsH M).set (2*i+1) (.cells (qc r))=rowsH (M.set i r)
 | [],i,r,h=>by simp at h
 | s::M,0,r,h=>rfl
 | s::M,i+1,r,h=>by
  show ([Blk.dead,.cells (qc s)]++rowsH M).set (2*(i+1)+1) _ = [Blk.dead,.cells (qc s)]++rowsH (M.set i r)
  rw [List.set_append_right _ _ (by simp; omega), ← Yln (by simpa using h)]
  congr 1
theorem Zbx (o w:Nat) (M:List (List Rat)):(matH o w M).length=1+2*M.length:=by
 show (_::rowsH M).length=_; rw [List.length_cons,Zc6]; omega
section
variable {pre post:Heap} {o w:Nat} {M:List (List Rat)}
theorem Z0l (ho:pre.length=o):(pre++(matH o w M++post))[o]? = some (.cells (ptrs o w M.length)):=by
 rw [List.getElem?_append_right (by omega),ho,Nat.sub_self]; rfl
theorem Zmt (ho:pre.length=o) {i:Nat}{r:List Rat}(h:M[i]? = some r):(pre++(matH o w M++post))[o+2+2*i]? = some (.cells (qc r)):=by
 have hi:=(List.getElem?_eq_some_iff.1 h).1
 rw [List.getElem?_append_right (by omega),ho,List.getElem?_append_left (by rw [Zbx]; omega)]
 show (_::rowsH M)[o+2+2*i - o]? = _
 rw [show o+2+2*i - o=(2*i+1)+1 by omega,List.getElem?_cons_succ]
 exact Ybu h
theorem Yzx (ho:pre.length=o) {i:Nat}{r:List Rat}(h:i<M.length):(pre++(matH o w M++post)).set (o+2+2*i) (.cells (qc r))=pre++(matH o w (M.set i r)++post):=by
 rw [List.set_append_right _ _ (by omega),ho,List.set_append_left _ _ (by rw [Zbx]; omega)]
 congr 2
 show (_::rowsH M).set (o+2+2*i - o) _=_::rowsH (M.set i r)
 rw [show o+2+2*i - o=(2*i+1)+1 by omega,List.set_cons_succ,Yln h,List.length_set]
end
theorem Yuh {n:Nat}{m:Nat}:(List.replicate m [AV.nils]).flatten=List.replicate m .nils:=by
 induction m with
 | zero=>rfl
 | succ m ih=>rw [List.replicate_succ,List.flatten_cons,ih]; rfl
theorem Xak {H:Heap}{ids:List Nat}{b:Nat}{c:List AV}(hc:c.length=4) (hb:H[b]? = some (.cells c)) (hi:b∈ids) (hq:BVs H ids c c):BV H ids (.osl (some 4) b 0 1) (.sl [.agg c]):=by
 refine .osl (some 4) b 0 1 c [.agg c] hb hi rfl (fun x hx=>by simp at hx; subst hx; exact hc) (by simp [es,hc]) (fun i x j y z hx hy hz=>?_)
 have hi0:i=0:=by
  have:=(List.getElem?_eq_some_iff.1 hx).1
  simp at this; exact this
 subst hi0
 simp at hx
 subst hx
 simp only [es,Nat.zero_mul,Nat.zero_add] at hz
 have hy':c[j]? = some y:=hy
 rw [hy'] at hz
 cases hz
 exact (Yw5 hq).2 j y y hy' hy'
theorem Y71 {f:Nat→Option Nat}{n:Nat}{q:Rat}:gcL f (rows n (qcell q))=rows n (qcell q):=by
 rw [← Y66]
 induction n with
 | zero=>rfl
 | succ n ih =>
  rw [List.replicate_succ]
  show gcL f (qcell q++qc _)=qcell q++qc _
  rw [Zax] at ih ⊢
  rw [List.map_append,ih]
  rfl
theorem Ynr {K:List AV}{M:List (List Rat)}{n:Nat}{q:Rat}(hn:1≤n) (hnl:n≤1000000) :
  SpecR Tryz.prog Zs8 (.cells K::(rowsH M ++ [.cells (qcell q)])) [.osl (some 4) (2*M.length+1) 0 1,.int .i64 (n:Int)] (.osl (some 4) (2*M.length+2) 0 n) (.cells K::rowsH (M ++ [List.replicate n q])):=by
 have hb:(Blk.cells K::(rowsH M ++ [Blk.cells (qcell q)]))[2*M.length+1]? = some (.cells (qcell q)):=by
  rw [List.getElem?_cons_succ,List.getElem?_append_right (by rw [Zc6]; omega),Zc6,Nat.sub_self]; rfl
 have h:=Yl5 (P:=Tryz.prog) (H := .cells K::(rowsH M ++ [.cells (qcell q)])) (ids := [2*M.length+1]) (xs := [.osl (some 4) (2*M.length+1) 0 1,.int .i64 (n:Int)]) (Ytq hn hnl (x:=qcell q) rfl)
  (by
   simp only [go_sem]
   exact Xak rfl hb (by simp) (by rw [Zah]; trivial)) (by simp only [go_sem])
 have e1:(AV.osl (some 4) 0 0 n).gc (fun i=>some (i+(Blk.cells K::(rowsH M ++ [Blk.cells (qcell q)])).length)) = .osl (some 4) (2*M.length+2) 0 n:=by
  simp only [AV.gc,List.length_cons,List.length_append,Zc6,List.length_nil,Nat.zero_add]
 have e2:kill [2*M.length+1] (Blk.cells K::(rowsH M ++ [Blk.cells (qcell q)])) = .cells K::(rowsH M ++ [.dead]):=by
  show List.set _ _ _=_
  rw [List.set_cons_succ,List.set_append_right _ _ (by rw [Zc6]; omega),Zc6,Nat.sub_self]; rfl
 rw [e1,e2] at h
 have e3:(Blk.cells K::(rowsH M ++ [.dead]))++([Blk.cells (rows n (qcell q))].map (Blk.gc (fun i=>some (i+(Blk.cells K::(rowsH M ++ [Blk.cells (qcell q)])).length)))) = .cells K::rowsH (M ++ [List.replicate n q]):=by
  simp only [List.map_cons,List.map_nil,Blk.gc,Y71]
  unfold rowsH
  rw [List.flatMap_append, ← Y66]
  simp
 rw [e3] at h
 exact h
theorem Y5e {m n:Nat}(hm:m≤1000000) (hn:1≤n) (hnl:n≤1000000) :
  SpecR Tryz.prog Yit [] [.int .i64 (m:Int),.int .i64 (n:Int)] (.osl none 0 0 m) (matH 0 n (List.replicate m (List.replicate n 0))):=by
 refine Z05 Yem (by simp) ?_
 unfold Z8d
 have p0:(0:Int)≤(m:Int):=by omega
 have p1:(24:Int)*(m:Int)≤281474976710656:=by omega
 simp only [go_sem,Zuc,Ztf,Zth,p0,Int.le_refl]
 refine ⟨by omega,?_⟩
 rw [Yuh (n:=n)]
 refine Zaf (fun i:Nat=>⟨envL [(1,.int .i64 (n:Int)),(5,.osl none 0 0 m),(10,.int .i64 (m:Int)),(11,.int .i64 (i:Int))],.cells (ptrs 0 n i++List.replicate (m - i) .nils)::rowsH (List.replicate i (List.replicate n 0))⟩)
  (fun i=>i≤m) (fun i=>m - i) 0 (by omega) (Zbz (Zab [(1,.int .i64 (n:Int)),(5,.osl none 0 0 m),(10,.int .i64 (m:Int)),(11,.int .i64 ((0:Nat):Int))] (by simp only [go_sem]; simp)) (by simp [ptrs,rowsH])) (fun i hi N hN=>?_)
 unfold Zvv
 by_cases him:i<m
 ·have r1:(i:Int)<(m:Int):=by omega
  have r0:(0:Int)≤(i:Int):=by omega
  have e1:IntKind.i64.wrap ((i:Int)+1)=((i+1:Nat):Int):=by rw [Zac (by omega) (by omega)]; omega
  simp only [go_sem,Zlg,Zun,Zvs,r1]
  refine Zaa Yjn (by simp only [go_sem]) ?_
  simp only [go_sem,Zaw,Zan,List.append_nil]
  have hlen:(rowsH (List.replicate i (List.replicate n (0:Rat)))).length=2*i:=by rw [Zc6,List.length_replicate]
  rw [hlen]
  have hrep:=Ynr (K:=ptrs 0 n i++List.replicate (m - i) .nils) (M:=List.replicate i (List.replicate n 0)) (q:=0) hn hnl
  rw [List.length_replicate, ← List.replicate_succ'] at hrep
  refine Zd4 hrep ?_
  have hl2:i+1≤(ptrs 0 n i++List.replicate (m - i) AV.nils).length:=by rw [List.length_append,Yil,List.length_replicate]; omega
  simp only [go_sem,Zvg,r0,r1,hl2,e1]
  rw [Za6 (by omega)]
  have hset:(ptrs 0 n i++List.replicate (m - i) AV.nils).set i (.osl (some 4) (2*i+2) 0 n)=ptrs 0 n (i+1)++List.replicate (m - (i+1)) .nils:=by
   rw [List.set_append_right _ _ (by rw [Yil]; omega),Yil,Nat.sub_self]
   have:m - i=(m - (i+1))+1:=by omega
   rw [this,List.replicate_succ,List.set_cons_zero,Yyu,List.append_assoc]
   congr 3
   omega
  rw [hset]
  exact hN (i+1) _ (by omega) (by omega) (Zab _ (by simp only [go_sem]))
 ·have him':i=m:=by omega
  subst him'
  have r1:¬ (i:Int)<(i:Int):=by omega
  simp only [go_sem,Zlg,Zve,r1,Nat.sub_self,List.replicate_zero,List.append_nil]
  unfold matH
  rw [List.length_replicate]
end GoAbs
namespace GoAbs
open Go Go.Proofs
theorem Yw0 {pre post:Heap}{o w i j k:Nat}{M:List (List Rat)}{r:List Rat}{q x:Rat}(ho:pre.length=o) (hr:M[i]? = some r) (hq:r[j]? = some q) (hw:r.length=w) (hml:M.length≤1000000) (hwl:w≤1000000)
  (bq:Qb k q) (bx:Qb k x) (hk:2*k+1≤1000000000000) :
  SpecR Tryz.prog Zvt (pre++(matH o w M++post)) [.osl none o 0 M.length,.int .i64 (i:Int),.int .i64 (j:Int),.agg (qcell x)] (.tup []) (pre++(matH o w (M.set i (r.set j (q+x)))++(post ++ [.cells (qcell x)]))):=by
 have hm:Tryz.prog.follows .mixedOrders=true:=by kernel_rfl
 have hi:=(List.getElem?_eq_some_iff.1 hr).1
 have hj:=(List.getElem?_eq_some_iff.1 hq).1
 refine Z05 Yhl (by simp) ?_
 unfold Yak
 have p0:(0:Int)≤(i:Int):=by omega
 have p1:(i:Int)<(M.length:Int):=by omega
 have p2:(0:Int)≤(j:Int):=by omega
 have p3:(j:Int)<(w:Int):=by omega
 have eA:(pre++(matH o w M++post)) ++ [Blk.cells (qcell x)]=pre++(matH o w M++(post ++ [.cells (qcell x)])):=by simp
 have gP:=Z0l (post:=post ++ [.cells (qcell x)]) (w:=w) (M:=M) ho
 have gR:=Zmt (post:=post ++ [.cells (qcell x)]) (w:=w) ho hr
 have gX:(pre++(matH o w M++(post ++ [Blk.cells (qcell x)])))[(pre++(matH o w M++post)).length]? = some (.cells (qcell x)):=by
  rw [← eA,List.getElem?_append_right (Nat.le_refl _),Nat.sub_self]; rfl
 have hlen:(pre++(matH o w M++(post ++ [Blk.cells (qcell x)]))).length=(pre++(matH o w M++post)).length+1:=by rw [← eA,List.length_append]; rfl
 have hoL:o<(pre++(matH o w M++post)).length+1:=by simp [Zbx,ho]; omega
 have hrL:o+2+2*i<(pre++(matH o w M++post)).length+1:=by simp [Zbx,ho]; omega
 have hxL:(pre++(matH o w M++post)).length<(pre++(matH o w M++post)).length+1:=by omega
 have hg:=Zly (o:=o) (w:=w) hi
 have ht:=Zep hq
 have hl4:=Zie hq
 have hql:(4:Nat)≤(qcell x).length:=by rw [Zan]; omega
 have hqt:(qcell x).take 4=qcell x:=List.take_of_length_le (by rw [Zan]; omega)
 have hfit:j*4+4≤(qc r).length:=by rw [Ylj]; omega
 simp only [go_sem,Zzp,Zmu,hm,eA]
 generalize hHH:(pre++(matH o w M++post)).length=L at *
 simp only [go_sem,hlen,p0,p1,p2,p3,gP,gR,gX,hoL,hrL,hxL,List.getElem?_drop,hg,ht,hl4,hql,hqt]
 refine Zaa (Yx3 bq bx hk) (by simp only [go_sem,Zaw,Zah]) ?_
 simp only [go_sem,Zaw,hlen,p0,p1,p2,p3,gP,gR,gX,hoL,hrL,hxL,Zan,hfit]
 rw [Y6z hj,Yzx ho hi]
end GoAbs
namespace GoAbs
open Go Go.Proofs
abbrev RM:=List (List Rat)
def rget (r:List Rat) (j:Nat):Rat:=r.getD j 0
def mget (M:RM) (i j:Nat):Rat:=rget (M.getD i []) j
theorem Zak {r:List Rat}{j:Nat}(h:j<r.length):r[j]? = some (rget r j):=by
 unfold rget
 rw [List.getD_eq_getElem?_getD,List.getElem?_eq_getElem h]; rfl
theorem getD_some {M:RM}{i:Nat}(h:i<M.length):M[i]? = some (M.getD i []):=by
 rw [List.getD_eq_getElem?_getD,List.getElem?_eq_getElem h]; rfl
def elimTo (p:List Rat) (c:Nat) (q:Rat) (r:List Rat) (J:Nat):List Rat:=(List.range r.length).map fun j=>if c≤j∧j<J then rget r j - q*rget p j else rget r j
theorem Zgx {p r:List Rat}{c J:Nat}{q:Rat}:(elimTo p c q r J).length=r.length:=by simp [elimTo]
theorem Zno {p r:List Rat}{c J j:Nat}{q:Rat}(h:j<r.length):(elimTo p c q r J)[j]? = some (if c≤j∧j<J then rget r j - q*rget p j else rget r j):=by simp [elimTo,h]
theorem Yol {p r:List Rat}{c J:Nat}{q:Rat}(h:J≤c):elimTo p c q r J=r:=by
 apply List.ext_getElem?
 intro j
 by_cases hj:j<r.length
 ·rw [Zno hj,if_neg (by omega),Zak hj]
 ·rw [List.getElem?_eq_none (by rw [Zgx]; omega),List.getElem?_eq_none (by omega)]
theorem Yna {p r:List Rat}{c J:Nat}{q:Rat}(h:J<r.length) (hc:c≤J):(elimTo p c q r J).set J (rget r J - q*rget p J)=elimTo p c q r (J+1):=by
 apply List.ext_getElem?
 intro j
 by_cases hj:j<r.length
 ·rw [Zno hj]
  by_cases h1:j=J
  ·subst h1
   rw [List.getElem?_set_self (by rw [Zgx]; exact hj),if_pos (by omega)]
  ·rw [List.getElem?_set_ne (by omega),Zno hj]
   by_cases h2:c≤j∧j<J
   ·rw [if_pos h2,if_pos (by omega)]
   ·rw [if_neg h2,if_neg (by omega)]
 ·rw [List.getElem?_eq_none (by rw [List.length_set,Zgx]; omega),List.getElem?_eq_none (by rw [Zgx]; omega)]
theorem Yac {pre post:Heap}{o w:Nat}{M:RM}(ho:pre.length=o) {n t:Nat}(hn:M.length=n):(pre++(matH o w M++post))[o+(1+2*n)+t]? = post[t]?:=by
 rw [List.getElem?_append_right (by omega),ho,List.getElem?_append_right (by rw [Zbx]; omega),Zbx]
 congr 1; omega
theorem Yya {M:RM}{i:Nat}{a b:List Rat}:(M.set i a).set i b=M.set i b:=by simp
def Rb (k:Nat) (r:List Rat):Prop:=∀ x,x∈r→Qb k x
def Mb (k:Nat) (M:RM):Prop:=∀ r,r∈M→Rb k r
theorem Rb.get {k:Nat}{r:List Rat}(h:Rb k r) {j:Nat}(hj:j<r.length):Qb k (rget r j):=h _ (List.mem_of_getElem? (Zak hj))
theorem Rb.mono {k l:Nat}{r:List Rat}(h:Rb k r) (hkl:k≤l):Rb l r:=fun x hx=>(h x hx).mono hkl
theorem Rb.elimTo {k:Nat}{p r:List Rat}{c J:Nat}{q:Rat}(hr:Rb k r) (hp:Rb k p) (hl:p.length=r.length) (hq:Qb (2*k) q):Rb (8*k+1) (GoAbs.elimTo p c q r J):=fun x hx=>by
 unfold GoAbs.elimTo at hx
 obtain ⟨j,hj,rfl⟩:=List.mem_map.1 hx
 have hj':=List.mem_range.1 hj
 split
 ·have h1:=(hr.get hj').mono (show k≤4*k by omega)
  have h2:=Qb.mul hq ((hp.get (j:=j) (by omega)).mono (show k≤2*k by omega))
  have h3:=h1.sub (h2.mono (show 2*(2*k)≤4*k by omega))
  exact h3.mono (by omega)
 ·exact (hr.get hj').mono (by omega)
theorem Xc3 {pre post:Heap}{o w n i c t n0 bz:Nat}{M:RM}{q:Rat}{k:Nat}{p r:List Rat}(ho:pre.length=o) (hn:M.length=n) (hnl:n≤1000000) (hwl:w≤1000000) (hi:i<n) (hc:c<n) (hci:c≠i) (hcw:c≤w)
  (hp:M[c]? = some p) (hr:M[i]? = some r) (hpw:p.length=w) (hrw:r.length=w) (hbz:bz=o+(1+2*n)+t) (hpost:post[t]? = some (.cells (qcell q)))
  (bp:Rb k p) (br:Rb k r) (bq:Qb (2*k) q) (hk1:1≤k) (hk:2*(4*k)+1≤1000000000000) {bA:Nat} {K:Ex→St→Prop}
  (hK:∀ e:Nat→AV,e 0 = .osl none o 0 n→e 2 = .ptr bA 0→e 3 = .ptr (bA+1) 0→e 4 = .int .i64 (c:Int)→e 6 = .int .i64 (i:Int)→e 11 = .int .i64 (n:Int)→e 12 = .int .i64 (c:Int) →
   K (.exit 6) ⟨e,pre++(matH o w (M.set i (elimTo p c q r w))++post)⟩) :
  T Tryz.prog 133 n0 (.loop Ze4) ⟨envL [(0,.osl none o 0 n),(2,.ptr bA 0),(3,.ptr (bA+1) 0),(4,.int .i64 (c:Int)),(6,.int .i64 (i:Int)),(7,.ptr bz 0),(8,.int .i64 (c:Int)),(11,.int .i64 (n:Int)),(12,.int .i64 (c:Int))],pre++(matH o w M++post)⟩ K:=by
 have hm:Tryz.prog.follows .mixedOrders=true:=by kernel_rfl
 have hMset:M.set i r=M:=by
  apply List.ext_getElem?
  intro x
  by_cases hx:i=x
  ·subst hx; rw [List.getElem?_set_self (by omega),hr]
  ·rw [List.getElem?_set_ne hx]
 refine Zaf (fun J:Nat=>⟨envL [(0,.osl none o 0 n),(2,.ptr bA 0),(3,.ptr (bA+1) 0),(4,.int .i64 (c:Int)),(6,.int .i64 (i:Int)),(7,.ptr bz 0),(8,.int .i64 (J:Int)),(11,.int .i64 (n:Int)),(12,.int .i64 (c:Int))],pre++(matH o w (M.set i (elimTo p c q r J))++post)⟩)
  (fun J=>c≤J∧J≤w) (fun J=>w - J) c ⟨Nat.le_refl _,hcw⟩ (Zbz (Zab [(0,.osl none o 0 n),(2,.ptr bA 0),(3,.ptr (bA+1) 0),(4,.int .i64 (c:Int)),(6,.int .i64 (i:Int)),(7,.ptr bz 0),(8,.int .i64 (c:Int)),(11,.int .i64 (n:Int)),(12,.int .i64 (c:Int))] (by simp only [go_sem])) (by rw [Yol (Nat.le_refl _),hMset])) (fun J hJ N hN=>?_)
 obtain ⟨h1,h2⟩:=hJ
 unfold Ze4
 have hnS:(M.set i (elimTo p c q r J)).length=n:=by rw [List.length_set,hn]
 have gP:=Z0l (pre:=pre) (post:=post) (w:=w) (M:=M.set i (elimTo p c q r J)) ho
 rw [hnS] at gP
 have gi:=Zly (o:=o) (w:=w) hi
 have gc:=Zly (o:=o) (w:=w) hc
 have q0:(0:Int)≤(i:Int):=by omega
 have q1:(i:Int)<(n:Int):=by omega
 have q2:(0:Int)≤(c:Int):=by omega
 have q3:(c:Int)<(n:Int):=by omega
 by_cases hJw:J<w
 ·have rJ:(M.set i (elimTo p c q r J))[i]? = some (elimTo p c q r J):=List.getElem?_set_self (by omega)
  have rc:(M.set i (elimTo p c q r J))[c]? = some p:=by rw [List.getElem?_set_ne (by omega)]; exact hp
  have gR:=Zmt (post:=post) (w:=w) ho rJ
  have gC:=Zmt (post:=post) (w:=w) ho rc
  have gQ:=Yac (post:=post) (w:=w) (t:=t) ho hnS
  rw [hpost, ← hbz] at gQ
  have eJ:(elimTo p c q r J)[J]? = some (rget r J):=by rw [Zno (by omega),if_neg (by omega)]
  have pJ:p[J]? = some (rget p J):=Zak (by omega)
  have t1:=Zep eJ
  have t2:=Zie eJ
  have t3:=Zep pJ
  have t4:=Zie pJ
  have hql:(4:Nat)≤(qcell q).length:=by rw [Zan]; omega
  have hqt:(qcell q).take 4=qcell q:=List.take_of_length_le (by rw [Zan]; omega)
  have r0:(0:Int)≤(J:Int):=by omega
  have r1:(J:Int)<(w:Int):=by omega
  have e1:IntKind.i64.wrap ((J:Int)+1)=((J+1:Nat):Int):=by rw [Zac (by omega) (by omega)]; omega
  have hlen:(pre++(matH o w (M.set i (elimTo p c q r J))++post)).length=o+(1+2*n)+post.length:=by rw [List.length_append,List.length_append,Zbx,hnS,ho]; omega
  have ht:t<post.length:=(List.getElem?_eq_some_iff.1 hpost).1
  have l0:o<o+(1+2*n)+post.length:=by omega
  have l1:o+2+2*i<o+(1+2*n)+post.length:=by omega
  have l2:o+2+2*c<o+(1+2*n)+post.length:=by omega
  have l3:bz<o+(1+2*n)+post.length:=by omega
  have hfit:J*4+4≤(qc (elimTo p c q r J)).length:=by rw [Ylj,Zgx]; omega
  simp only [go_sem,Zdt,Zdg,Zi3,hm,q0,q1,q2,q3,gP,gi,gc,gR,gC,gQ,List.getElem?_drop,r0,r1,hlen,l0,l1,l2,l3,hql,hqt,t1,t2,t3,t4]
  refine Zaa (Yts bq ((bp.get (j:=J) (by omega)).mono (by omega)) (by omega)) (by simp only [go_sem,Zaw,Zah]) ?_
  simp only [go_sem,Zaw]
  refine Zaa (Xdf (k:=4*k) ((br.get (j:=J) (by omega)).mono (by omega)) ((Qb.mul bq ((bp.get (j:=J) (by omega)).mono (show k≤2*k by omega))).mono (by omega)) hk) (by simp only [go_sem,Zaw,Zah]) ?_
  simp only [go_sem,Zaw,q0,q1,q2,q3,gP,gi,gR,List.getElem?_drop,r0,r1,hlen,l0,l1,l2,l3,Zan,hfit,e1]
  rw [Y6z (by rw [Zgx]; omega),Yzx ho (by omega),Yya,Yna (by omega) h1]
  exact hN (J+1) _ ⟨by omega,by omega⟩ (by omega) (Zab _ (by simp only [go_sem]))
 ·have hJw':J=w:=by omega
  subst hJw'
  have r1:¬ (J:Int)<(J:Int):=by omega
  have l0:True:=trivial
  simp only [go_sem,Zdt,q0,q1,gP,gi,List.getElem?_drop,r1]
  exact hK _ (by simp only [go_sem]) (by simp only [go_sem]) (by simp only [go_sem]) (by simp only [go_sem]) (by simp only [go_sem]) (by simp only [go_sem]) (by simp only [go_sem])
def elimRow (p:List Rat) (c:Nat) (r:List Rat):List Rat:=if rget r c=0 then r else elimTo p c (rget r c / rget p c) r r.length
theorem Yoy {p r:List Rat}{c:Nat}:(elimRow p c r).length=r.length:=by
 unfold elimRow; split
 ·rfl
 ·exact Zgx
def elimCol (M:RM) (c I:Nat):RM:=(List.range M.length).map fun i=>if c<i∧i<I then elimRow (M.getD c []) c (M.getD i []) else M.getD i []
theorem Zbf {M:RM}{c I:Nat}:(elimCol M c I).length=M.length:=by simp [elimCol]
theorem Ze9 {M:RM}{c I i:Nat}(h:i<M.length):(elimCol M c I)[i]? = some (if c<i∧i<I then elimRow (M.getD c []) c (M.getD i []) else M.getD i []):=by simp [elimCol,h]
theorem Yka {M:RM}{c I:Nat}(h:I≤c+1):elimCol M c I=M:=by
 apply List.ext_getElem?
 intro i
 by_cases hi:i<M.length
 ·rw [Ze9 hi,if_neg (by omega),getD_some hi]
 ·rw [List.getElem?_eq_none (by rw [Zbf]; omega),List.getElem?_eq_none (by omega)]
theorem Z6o {M:RM}{c I:Nat}(hI:I<M.length) (hc:c<I):(elimCol M c I).set I (elimRow (M.getD c []) c (M.getD I []))=elimCol M c (I+1):=by
 apply List.ext_getElem?
 intro i
 by_cases hi:i<M.length
 ·rw [Ze9 hi]
  by_cases h1:i=I
  ·subst h1
   rw [List.getElem?_set_self (by rw [Zbf]; exact hi),if_pos (by omega)]
  ·rw [List.getElem?_set_ne (by omega),Ze9 hi]
   by_cases h2:c<i∧i<I
   ·rw [if_pos h2,if_pos (by omega)]
   ·rw [if_neg h2,if_neg (by omega)]
 ·rw [List.getElem?_eq_none (by rw [List.length_set,Zbf]; omega),List.getElem?_eq_none (by rw [Zbf]; omega)]
def Wid (w:Nat) (M:RM):Prop:=∀ r,r∈M→r.length=w
theorem Wid.get {w:Nat}{M:RM}(h:Wid w M) {i:Nat}(hi:i<M.length):(M.getD i []).length=w:=h _ (List.mem_of_getElem? (getD_some hi))
theorem Wid.elim {w:Nat}{M:RM}(h:Wid w M) {c I:Nat}:Wid w (elimCol M c I):=fun r hr=>by
 unfold elimCol at hr
 obtain ⟨i,hi,rfl⟩:=List.mem_map.1 hr
 have hi':=List.mem_range.1 hi
 split
 ·rw [Yoy]; exact h.get hi'
 ·exact h.get hi'
theorem Mb.get {k:Nat}{M:RM}(h:Mb k M) {i:Nat}(hi:i<M.length):Rb k (M.getD i []):=h _ (List.mem_of_getElem? (getD_some hi))
theorem Mb.mono {k l:Nat}{M:RM}(h:Mb k M) (hkl:k≤l):Mb l M:=fun r hr=>(h r hr).mono hkl
theorem Rb.elimRow {k w:Nat}{p r:List Rat}{c:Nat}(hr:Rb k r) (hp:Rb k p) (hpl:p.length=w) (hrl:r.length=w) (hc:c<w) (h0:rget p c≠0):Rb (8*k+1) (GoAbs.elimRow p c r):=by
 unfold GoAbs.elimRow
 split
 ·exact hr.mono (by omega)
 ·exact Rb.elimTo hr hp (by omega) ((hr.get (by omega)).div (hp.get (by omega)) h0)
theorem Mb.elim {k w:Nat}{M:RM}(h:Mb k M) (hw:Wid w M) {c I:Nat}(hcM:c<M.length) (hc:c<w) (h0:mget M c c≠0):Mb (8*k+1) (elimCol M c I):=fun r hr=>by
 unfold elimCol at hr
 obtain ⟨i,hi,rfl⟩:=List.mem_map.1 hr
 have hi':=List.mem_range.1 hi
 split
 ·exact Rb.elimRow (h.get hi') (h.get hcM) (hw.get hcM) (hw.get hi') hc h0
 ·exact (h.get hi').mono (by omega)
theorem Y98 {f:Nat→Option Nat}(r:List Rat):gcL f (qc r)=qc r:=by
 induction r with
 | nil=>rfl
 | cons q r ih =>
  show gcL f (qcell q++qc r)=qcell q++qc r
  rw [Zax] at ih ⊢
  rw [List.map_append,ih]
  rfl
theorem Yjc {o w m:Nat}{M:RM}(h:o+(1+2*M.length)≤m):Clo m (matH o w M):=by
 unfold Clo matH
 rw [List.map_cons]
 congr 1
 ·simp only [Blk.gc,Zax]
  congr 1
  unfold ptrs
  rw [List.map_map]
  refine List.map_congr_left fun i hi=>?_
  have hi':=List.mem_range.1 hi
  simp only [Function.comp,AV.gc]
  rw [Zcb (by omega)]
 ·unfold rowsH
  rw [List.map_flatMap]
  congr 1
  funext r
  simp only [List.map_cons,List.map_nil,Blk.gc,Y98]
end GoAbs
namespace GoAbs
open Go Go.Proofs
def z4:List AV := [.bool false,.nils,.bool false,.nils]
theorem Zh6 {pre post PP:Heap}{o w:Nat}{M:RM}(ho:pre.length=o) {n t b:Nat}(hn:M.length=n) (hb:b=o+(1+2*n)+PP.length):(pre++(matH o w M++(PP++post)))[b+t]? = post[t]?:=by
 rw [hb,show o+(1+2*n)+PP.length+t=o+(1+2*n)+(PP.length+t) by omega,Yac ho hn,List.getElem?_append_right (by omega)]
 congr 1; omega
theorem Z84 {pre post:Heap}{o w:Nat}{M:RM}(ho:pre.length=o) {n t:Nat}(hn:M.length=n) {bl:Blk}:(pre++(matH o w M++post)).set (o+(1+2*n)+t) bl=pre++(matH o w M++post.set t bl):=by
 rw [List.set_append_right _ _ (by omega),ho,List.set_append_right _ _ (by rw [Zbx]; omega),Zbx]
 congr 3; omega
theorem Zgp {pre post PP:Heap}{o w:Nat}{M:RM}(ho:pre.length=o) {n t b:Nat}(hn:M.length=n) (hb:b=o+(1+2*n)+PP.length) {bl:Blk}:(pre++(matH o w M++(PP++post))).set (b+t) bl=pre++(matH o w M++(PP++post.set t bl)):=by
 rw [hb,show o+(1+2*n)+PP.length+t=o+(1+2*n)+(PP.length+t) by omega,Z84 ho hn,List.set_append_right _ _ (by omega)]
 congr 4; omega
theorem Yho {pre post PP:Heap}{o w:Nat}{M:RM}(ho:pre.length=o) {n b:Nat}(hn:M.length=n) (hb:b=o+(1+2*n)+PP.length):(pre++(matH o w M++(PP++post))).length=b+post.length:=by
 rw [List.length_append,List.length_append,List.length_append,Zbx,hn,ho,hb]; omega
theorem Xdp {pre PP:Heap}{o w n c n0 k b:Nat}{M:RM}{d:Rat}(ho:pre.length=o) (hn:M.length=n) (hnl:n≤1000000) (hwl:w≤1000000) (hc:c<n) (hcw:c<w) (hW:Wid w M) (hB:Mb k M)
  (h0:mget M c c≠0) (hk1:1≤k) (hk:2*(4*k)+1≤1000000000000) (hb:b=o+(1+2*n)+PP.length) (hn0:n0≤b) (hpre:Clo (b+2) pre) (hPP:Clo (b+2) PP) {K:Ex→St→Prop}
  (hK:∀ e:Nat→AV,e 0 = .osl none o 0 n→e 2 = .ptr b 0→e 3 = .ptr (b+1) 0→e 11 = .int .i64 (n:Int)→e 12 = .int .i64 (c:Int) →
   K (.exit 4) ⟨e,pre++(matH o w (elimCol M c n)++(PP ++ [.cells z4,.cells (qcell d)]))⟩) :
  T Tryz.prog 133 n0 (.loop Zex) ⟨envL [(0,.osl none o 0 n),(2,.ptr b 0),(3,.ptr (b+1) 0),(4,.int .i64 (c:Int)),(6,.int .i64 ((c+1:Nat):Int)),(11,.int .i64 (n:Int)),(12,.int .i64 (c:Int))],pre++(matH o w M++(PP ++ [.cells z4,.cells (qcell d)]))⟩ K:=by
 have hm:Tryz.prog.follows .mixedOrders=true:=by kernel_rfl
 refine Zaf (fun i:Nat=>⟨envL [(0,.osl none o 0 n),(2,.ptr b 0),(3,.ptr (b+1) 0),(4,.int .i64 (c:Int)),(6,.int .i64 (i:Int)),(11,.int .i64 (n:Int)),(12,.int .i64 (c:Int))],pre++(matH o w (elimCol M c i)++(PP ++ [.cells z4,.cells (qcell d)]))⟩)
  (fun i=>c+1≤i∧i≤n) (fun i=>n - i) (c+1) ⟨Nat.le_refl _,hc⟩ (Zbz (Zab [(0,.osl none o 0 n),(2,.ptr b 0),(3,.ptr (b+1) 0),(4,.int .i64 (c:Int)),(6,.int .i64 ((c+1:Nat):Int)),(11,.int .i64 (n:Int)),(12,.int .i64 (c:Int))] (by simp only [go_sem])) (by rw [Yka (Nat.le_refl _)])) (fun i hI N hN=>?_)
 obtain ⟨h1,h2⟩:=hI
 unfold Zex
 have hnS:(elimCol M c i).length=n:=by rw [Zbf,hn]
 by_cases hi:i<n
 ·have gP:=Z0l (pre:=pre) (post:=PP ++ [.cells z4,.cells (qcell d)]) (w:=w) (M:=elimCol M c i) ho
  rw [hnS] at gP
  have gi:=Zly (o:=o) (w:=w) hi
  have gc:=Zly (o:=o) (w:=w) hc
  have rI:(elimCol M c i)[i]? = some (M.getD i []):=by rw [Ze9 (by omega),if_neg (by omega)]
  have rC:(elimCol M c i)[c]? = some (M.getD c []):=by rw [Ze9 (by omega),if_neg (by omega)]
  have gR:=Zmt (post:=PP ++ [.cells z4,.cells (qcell d)]) (w:=w) ho rI
  have gC:=Zmt (post:=PP ++ [.cells z4,.cells (qcell d)]) (w:=w) ho rC
  have hlI:=hW.get (show i<M.length by omega)
  have hlC:=hW.get (show c<M.length by omega)
  have eI:(M.getD i [])[c]? = some (mget M i c):=Zak (by omega)
  have eC:(M.getD c [])[c]? = some (mget M c c):=Zak (by omega)
  have t1:=Zep eI
  have t2:=Zie eI
  have t3:=Zep eC
  have t4:=Zie eC
  have q0:(0:Int)≤(i:Int):=by omega
  have q1:(i:Int)<(n:Int):=by omega
  have q2:(0:Int)≤(c:Int):=by omega
  have q3:(c:Int)<(n:Int):=by omega
  have q4:(c:Int)<(w:Int):=by omega
  have e1:IntKind.i64.wrap ((i:Int)+1)=((i+1:Nat):Int):=by rw [Zac (by omega) (by omega)]; omega
  have hlen:(pre++(matH o w (elimCol M c i)++(PP ++ [Blk.cells z4,.cells (qcell d)]))).length=b+2:=Yho ho hnS hb
  have bI:=hB.get (show i<M.length by omega)
  have bC:=hB.get (show c<M.length by omega)
  simp only [go_sem,Zdk,Zja,q0,q1,q2,q3,q4,gP,gi,gc,gR,List.getElem?_drop,t1,t2]
  refine Zaa (Yma (mget M i c)) (by simp only [go_sem,Zaw,Zah]) ?_
  by_cases hz:mget M i c=0
  ·simp only [go_sem,hz,Zdj,e1]
   have hE:elimCol M c (i+1)=elimCol M c i:=by
    rw [← Z6o (by omega) (by omega)]
    unfold elimRow
    rw [if_pos (show rget (M.getD i []) c=0 from hz)]
    apply List.ext_getElem?
    intro x
    by_cases hx:i=x
    ·subst hx; rw [List.getElem?_set_self (by omega),rI]
    ·rw [List.getElem?_set_ne hx]
   refine hN (i+1) _ ⟨by omega,by omega⟩ (by omega) ?_
   rw [hE]
   exact Zab _ (by simp only [go_sem])
  ·have hz':¬ (if mget M i c<0 then (-1:Int) else 1)=0:=by split <;> omega
   have eA:∀ X:Blk,(pre++(matH o w (elimCol M c i)++(PP ++ [Blk.cells z4,.cells (qcell d)]))) ++ [X]=pre++(matH o w (elimCol M c i)++(PP ++ [.cells z4,.cells (qcell d),X])):=fun X=>by simp
   have gP3:∀ X:Blk,(pre++(matH o w (elimCol M c i)++(PP ++ [Blk.cells z4,.cells (qcell d),X])))[o]? = some (.cells (ptrs o w n)):=fun X=>by
    have:=Z0l (pre:=pre) (post:=PP ++ [.cells z4,.cells (qcell d),X]) (w:=w) (M:=elimCol M c i) ho
    rwa [hnS] at this
   have gR3:∀ X:Blk,(pre++(matH o w (elimCol M c i)++(PP ++ [Blk.cells z4,.cells (qcell d),X])))[o+2+2*i]? = some (.cells (qc (M.getD i []))):=fun X=>Zmt ho rI
   have gC3:∀ X:Blk,(pre++(matH o w (elimCol M c i)++(PP ++ [Blk.cells z4,.cells (qcell d),X])))[o+2+2*c]? = some (.cells (qc (M.getD c []))):=fun X=>Zmt ho rC
   have g3:∀ X:Blk,(pre++(matH o w (elimCol M c i)++(PP ++ [Blk.cells z4,.cells (qcell d),X])))[b+2]? = some X:=fun X=>Zh6 (t:=2) ho hnS hb
   have s3:∀ X Y:Blk,(pre++(matH o w (elimCol M c i)++(PP ++ [Blk.cells z4,.cells (qcell d),X]))).set (b+2) Y=pre++(matH o w (elimCol M c i)++(PP ++ [.cells z4,.cells (qcell d),Y])):=fun X Y=>Zgp (t:=2) ho hnS hb
   have l0:o<b+2:=by omega
   have l1:o+2+2*i<b+2:=by omega
   have l2:o+2+2*c<b+2:=by omega
   simp only [go_sem,hz,hz',Zdi,hm,hlen,eA,q0,q1,q2,q3,q4,gP3,gR3,gC3,gi,gc,l0,l1,l2,List.getElem?_drop,t1,t2,t3,t4]
   refine Zaa (Xeo (k:=k) (bI.get (j:=c) (by omega)) (bC.get (j:=c) (by omega)) h0 (by omega)) (by simp only [go_sem,Zaw,Zah,mget]) ?_
   simp only [go_sem,Zaw,Zan,g3,s3,Zix]
   refine Zar [(0,.osl none o 0 n),(2,.ptr b 0),(3,.ptr (b+1) 0),(4,.int .i64 (c:Int)),(6,.int .i64 (i:Int)),(7,.ptr (b+2) 0),(8,.int .i64 (c:Int)),(11,.int .i64 (n:Int)),(12,.int .i64 (c:Int))] (by simp only [go_sem])
    (Xc3 (post:=(PP ++ [.cells z4,.cells (qcell d),.cells (qcell (mget M i c / mget M c c))])) (t:=PP.length+2) (q:=mget M i c / mget M c c) (k:=k) ho hnS hnl hwl hi hc (by omega) (by omega) rC rI hlC hlI (by omega) (by rw [List.getElem?_append_right (by omega),show PP.length+2 - PP.length=2 by omega]; rfl) bC bI ((bI.get (j:=c) (by omega)).div (bC.get (j:=c) (by omega)) h0) hk1 hk (fun e k0 k2 k3 k4 k6 k11 k12=>?_))
   simp only [go_sem,Zdj,k6,e1]
   have hE:(elimCol M c i).set i (elimTo (M.getD c []) c (mget M i c / mget M c c) (M.getD i []) w)=elimCol M c (i+1):=by
    rw [← Z6o (by omega) (by omega)]
    congr 1
    unfold elimRow
    rw [if_neg (show ¬ rget (M.getD i []) c=0 from hz),hlI]
    rfl
   rw [hE]
   refine hN (i+1) _ ⟨by omega,by omega⟩ (by omega) ?_
   have hnS':(elimCol M c (i+1)).length=n:=by rw [Zbf,hn]
   have hK2:(pre++(matH o w (elimCol M c (i+1))++(PP ++ [Blk.cells z4,.cells (qcell d)]))).length=b+2:=Yho ho hnS' hb
   have hclo:Clo (b+2) (pre++(matH o w (elimCol M c (i+1))++(PP ++ [Blk.cells z4,.cells (qcell d)]))):=hpre.append ((Yjc (by rw [hnS']; omega)).append (hPP.append rfl))
   have hsplit:pre++(matH o w (elimCol M c (i+1))++(PP ++ [Blk.cells z4,.cells (qcell d),.cells (qcell (mget M i c / mget M c c))]))=(pre++(matH o w (elimCol M c (i+1))++(PP ++ [Blk.cells z4,.cells (qcell d)]))) ++ [.cells (qcell (mget M i c / mget M c c))]:=by simp
   rw [hsplit]
   refine Zk7 hK2 hclo (by omega) _ (by simp only [go_sem,k0,k2,k3,k4,k11,k12]) (fun p hp=>?_)
   have g0:pos (List.range (b+2)) o=some o:=Zcb (by omega)
   have g1:pos (List.range (b+2)) b=some b:=Zcb (by omega)
   have g2:pos (List.range (b+2)) (b+1)=some (b+1):=Zcb (by omega)
   simp only [List.mem_cons,List.not_mem_nil,or_false] at hp
   rcases hp with rfl | rfl | rfl | rfl | rfl | rfl | rfl <;> simp only [AV.gc,g0,g1,g2]
 ·have hin:i=n:=by omega
  subst hin
  have q1:¬ (i:Int)<(i:Int):=by omega
  simp only [go_sem,Zdk,q1]
  exact hK _ (by simp only [go_sem]) (by simp only [go_sem]) (by simp only [go_sem]) (by simp only [go_sem]) (by simp only [go_sem])
end GoAbs
namespace GoAbs
open Go Go.Proofs
def tri:Nat→Nat→RM→Rat→Rat×RM
 | 0,_,M,d=>(d,M)
 | k+1,c,M,d=>if mget M c c=0 then (0,M) else tri k (c+1) (elimCol M c M.length) (d*mget M c c)
def NoSw:Nat→Nat→RM→Prop
 | 0,_,_=>True
 | k+1,c,M=>(mget M c c=0→∀ i,c≤i→i<M.length→mget M i c=0)∧(mget M c c≠0→NoSw k (c+1) (elimCol M c M.length))
theorem Xcr {pre post:Heap}{o w n c n0:Nat}{M:RM}{bA:Nat}(ho:pre.length=o) (hn:M.length=n) (hnl:n≤1000000) (hc:c<n) (hcw:c<w) (hW:Wid w M)
  (hz:∀ i,c≤i→i<n→mget M i c=0) {K:Ex→St→Prop}
  (hK:∀ e:Nat→AV,e 0 = .osl none o 0 n→e 2 = .ptr bA 0→e 5 = .int .i64 (n:Int)→K (.exit 2) ⟨e,pre++(matH o w M++post)⟩) :
  T Tryz.prog 133 n0 (.loop Zbs) ⟨envL [(0,.osl none o 0 n),(2,.ptr bA 0),(4,.int .i64 (c:Int)),(5,.int .i64 (c:Int))],pre++(matH o w M++post)⟩ K:=by
 refine Zaf (fun i:Nat=>⟨envL [(0,.osl none o 0 n),(2,.ptr bA 0),(4,.int .i64 (c:Int)),(5,.int .i64 (i:Int))],pre++(matH o w M++post)⟩)
  (fun i=>c≤i∧i≤n) (fun i=>n - i) c ⟨Nat.le_refl _,by omega⟩ (Zab _ (by simp only [go_sem])) (fun i hI N hN=>?_)
 obtain ⟨h1,h2⟩:=hI
 unfold Zbs
 by_cases hi:i<n
 ·have gP:=Z0l (pre:=pre) (post:=post) (w:=w) (M:=M) ho
  rw [hn] at gP
  have gi:=Zly (o:=o) (w:=w) hi
  have gR:=Zmt (post:=post) (w:=w) ho (getD_some (M:=M) (i:=i) (by omega))
  have hlI:=hW.get (show i<M.length by omega)
  have eI:(M.getD i [])[c]? = some (mget M i c):=Zak (by omega)
  have t1:=Zep eI
  have t2:=Zie eI
  have q0:(0:Int)≤(i:Int):=by omega
  have q1:(i:Int)<(n:Int):=by omega
  have q2:(0:Int)≤(c:Int):=by omega
  have q4:(c:Int)<(w:Int):=by omega
  have e1:IntKind.i64.wrap ((i:Int)+1)=((i+1:Nat):Int):=by rw [Zac (by omega) (by omega)]; omega
  simp only [go_sem,Zcf,q0,q1,q2,q4,gP,gi,gR,List.getElem?_drop,t1,t2]
  refine Zaa (Yma (mget M i c)) (by simp only [go_sem,Zaw,Zah]) ?_
  simp only [go_sem,hz i h1 hi,Zlm,e1]
  exact hN (i+1) _ ⟨by omega,by omega⟩ (by omega) (Zab _ (by simp only [go_sem]))
 ·have hin:i=n:=by omega
  subst hin
  have q1:¬ (i:Int)<(i:Int):=by omega
  simp only [go_sem,Zcf,q1]
  exact hK _ (by simp only [go_sem]) (by simp only [go_sem]) (by simp only [go_sem])
theorem Y93 {pre post:Heap}{o w n c n0:Nat}{M:RM}{bA:Nat}(ho:pre.length=o) (hn:M.length=n) (hc:c<n) (hcw:c<w) (hW:Wid w M)
  (hz:mget M c c≠0) {K:Ex→St→Prop}
  (hK:∀ e:Nat→AV,e 0 = .osl none o 0 n→e 2 = .ptr bA 0→e 3 = .ptr (bA+1) 0→e 4 = .int .i64 (c:Int)→e 5 = .int .i64 (c:Int)→e 11 = .int .i64 (n:Int)→e 12 = .int .i64 (c:Int)→K (.exit 2) ⟨e,pre++(matH o w M++post)⟩) :
  T Tryz.prog 133 n0 (.loop Zbs) ⟨envL [(0,.osl none o 0 n),(2,.ptr bA 0),(3,.ptr (bA+1) 0),(4,.int .i64 (c:Int)),(5,.int .i64 (c:Int)),(11,.int .i64 (n:Int)),(12,.int .i64 (c:Int))],pre++(matH o w M++post)⟩ K:=by
 refine Zaf (fun _:Unit=>⟨envL [(0,.osl none o 0 n),(2,.ptr bA 0),(3,.ptr (bA+1) 0),(4,.int .i64 (c:Int)),(5,.int .i64 (c:Int)),(11,.int .i64 (n:Int)),(12,.int .i64 (c:Int))],pre++(matH o w M++post)⟩)
  (fun _=>True) (fun _=>0) () trivial (Zab _ (by simp only [go_sem])) (fun i hI N hN=>?_)
 unfold Zbs
 have gP:=Z0l (pre:=pre) (post:=post) (w:=w) (M:=M) ho
 rw [hn] at gP
 have gi:=Zly (o:=o) (w:=w) hc
 have gR:=Zmt (post:=post) (w:=w) ho (getD_some (M:=M) (i:=c) (by omega))
 have hlI:=hW.get (show c<M.length by omega)
 have eI:(M.getD c [])[c]? = some (mget M c c):=Zak (by omega)
 have t1:=Zep eI
 have t2:=Zie eI
 have q1:(c:Int)<(n:Int):=by omega
 have q2:(0:Int)≤(c:Int):=by omega
 have q4:(c:Int)<(w:Int):=by omega
 simp only [go_sem,Zcf,q1,q2,q4,gP,gi,gR,List.getElem?_drop,t1,t2]
 refine Zaa (Yma (mget M c c)) (by simp only [go_sem,Zaw,Zah]) ?_
 have hz':¬ (if mget M c c<0 then (-1:Int) else 1)=0:=by split <;> omega
 simp only [go_sem,hz,hz']
 exact hK _ (by simp only [go_sem]) (by simp only [go_sem]) (by simp only [go_sem]) (by simp only [go_sem]) (by simp only [go_sem]) (by simp only [go_sem]) (by simp only [go_sem])
theorem Xcj {pre PP:Heap}{o w n n0 k b:Nat}{M:RM}(ho:pre.length=o) (hn:M.length=n) (hnl:n≤1000000) (hwl:w≤1000000) (hnw:n≤w) (hW:Wid w M) (hB:Mb k M) (hk1:1≤k) (hk:9 ^ n*k≤100000000000)
  (hns:NoSw n 0 M) (hb:b=o+(1+2*n)+PP.length) (hn0:n0≤b) (hpre:Clo (b+2) pre) (hPP:Clo (b+2) PP) {K:Ex→St→Prop}
  (hK:∀ e d M',tri n 0 M 1=(d,M')→M'.length=n→e 2 = .ptr b 0→e 3 = .ptr (b+1) 0→K (.exit 0) ⟨e,pre++(matH o w M'++(PP ++ [.cells z4,.cells (qcell d)]))⟩)
  (hK0:∀ e d M',tri n 0 M 1=(0,M')→M'.length=n→e 2 = .ptr b 0→K .ret ⟨e,pre++(matH o w M'++(PP ++ [.cells (qcell 0),.cells (qcell d)]))⟩) :
  T Tryz.prog 133 n0 (.loop Ze8) ⟨envL [(0,.osl none o 0 n),(2,.ptr b 0),(3,.ptr (b+1) 0),(11,.int .i64 (n:Int)),(12,.int .i64 0)],pre++(matH o w M++(PP ++ [.cells z4,.cells (qcell 1)]))⟩ K:=by
 have hm:Tryz.prog.follows .mixedOrders=true:=by kernel_rfl
 refine Zaf (fun z:Nat×RM×Rat=>⟨envL [(0,.osl none o 0 n),(2,.ptr b 0),(3,.ptr (b+1) 0),(11,.int .i64 (n:Int)),(12,.int .i64 (z.1:Int))],pre++(matH o w z.2.1++(PP ++ [.cells z4,.cells (qcell z.2.2)]))⟩)
  (fun z=>z.1≤n∧z.2.1.length=n∧Wid w z.2.1∧Mb (9 ^ z.1*k) z.2.1∧Qb (9 ^ z.1*k) z.2.2∧NoSw (n - z.1) z.1 z.2.1∧tri (n - z.1) z.1 z.2.1 z.2.2=tri n 0 M 1) (fun z=>n - z.1) (0,M,1)
  ⟨by simp,hn,hW,by simpa using hB,by simpa using Qb.one hk1,hns,rfl⟩ (Zab _ (by simp only [go_sem]; simp)) (fun z hI N hN=>?_)
 obtain ⟨c,S,d⟩:=z
 obtain ⟨h1,h2,h3,h4,h5,h6,h7⟩:=hI
 simp only at h1 h2 h3 h4 h5 h6 h7 ⊢
 unfold Ze8
 by_cases hc:c<n
 ·obtain ⟨m,hm1⟩:∃ m,n - c=m+1:=⟨n - c - 1,by omega⟩
  have hm2:n - (c+1)=m:=by omega
  rw [hm1] at h6 h7
  have q1:(c:Int)<(n:Int):=by omega
  have q0:(0:Int)≤(c:Int):=by omega
  have q4:(c:Int)<(w:Int):=by omega
  have e1:IntKind.i64.wrap ((c:Int)+1)=((c+1:Nat):Int):=by rw [Zac (by omega) (by omega)]; omega
  have gP:=Z0l (pre:=pre) (post:=PP ++ [.cells z4,.cells (qcell d)]) (w:=w) (M:=S) ho
  rw [h2] at gP
  have gc:=Zly (o:=o) (w:=w) hc
  have gC:=Zmt (post:=PP ++ [.cells z4,.cells (qcell d)]) (w:=w) ho (getD_some (M:=S) (i:=c) (by omega))
  have hlC:=h3.get (show c<S.length by omega)
  have eC:(S.getD c [])[c]? = some (mget S c c):=Zak (by omega)
  have t1:=Zep eC
  have t2:=Zie eC
  have hlen:(pre++(matH o w S++(PP ++ [Blk.cells z4,.cells (qcell d)]))).length=b+2:=Yho ho h2 hb
  have gA:(pre++(matH o w S++(PP ++ [Blk.cells z4,.cells (qcell d)])))[b]? = some (.cells z4):=Zh6 (t:=0) ho h2 hb
  have gD:(pre++(matH o w S++(PP ++ [Blk.cells z4,.cells (qcell d)])))[b+1]? = some (.cells (qcell d)):=Zh6 (t:=1) ho h2 hb
  have sA:∀ Y:Blk,(pre++(matH o w S++(PP ++ [Blk.cells z4,.cells (qcell d)]))).set b Y=pre++(matH o w S++(PP ++ [Y,.cells (qcell d)])):=fun Y=>Zgp (t:=0) ho h2 hb
  have sD:∀ Y:Blk,(pre++(matH o w S++(PP ++ [Blk.cells z4,.cells (qcell d)]))).set (b+1) Y=pre++(matH o w S++(PP ++ [.cells z4,Y])):=fun Y=>Zgp (t:=1) ho h2 hb
  simp only [go_sem,Ze2,Zj2,Zld,q1]
  by_cases hp:mget S c c=0
  ·refine Zar [(0,.osl none o 0 n),(2,.ptr b 0),(4,.int .i64 (c:Int)),(5,.int .i64 (c:Int))] (by simp only [go_sem])
    (Xcr ho h2 hnl hc (by omega) h3 (fun i g1 g2=>h6.1 hp i g1 (by omega)) (fun e k0 k2 k5=>?_))
   have hz4:z4.length=4:=rfl
   have hzd:z4.drop 4 = []:=rfl
   simp only [go_sem,Zeu,Zi9,k0,k2,k5]
   refine Zaa Yjn (by simp only [go_sem]) ?_
   simp only [go_sem,Zaw,Zan,gA,hz4,hzd,sA,k2]
   refine hK0 _ d S ?_ h2 (by simp only [go_sem,k2])
   rw [← h7]
   unfold tri
   rw [if_pos hp]
  ·refine Zar [(0,.osl none o 0 n),(2,.ptr b 0),(3,.ptr (b+1) 0),(4,.int .i64 (c:Int)),(5,.int .i64 (c:Int)),(11,.int .i64 (n:Int)),(12,.int .i64 (c:Int))] (by simp only [go_sem])
    (Y93 ho h2 hc (by omega) h3 hp (fun e k0 k2 k3 k4 k5 k11 k12=>?_))
   have q5:¬ (c:Int)=(n:Int):=by omega
   have q6:¬ ((c:Int)≠(c:Int)):=by omega
   have hql:(4:Nat)≤(qcell d).length:=by rw [Zan]; omega
   have hqt:(qcell d).take 4=qcell d:=List.take_of_length_le (by rw [Zan]; omega)
   have hqd:(qcell d).drop 4 = []:=rfl
   have l0:o<b+2:=by omega
   have l1:o+2+2*c<b+2:=by omega
   have l2:b+1<b+2:=by omega
   have hKb:9 ^ c*k≤9 ^ n*k:=Nat.mul_le_mul_right _ (Nat.pow_le_pow_right (by omega) h1)
   have hKs:9 ^ (c+1)*k=9*(9 ^ c*k):=by rw [Nat.pow_succ,Nat.mul_comm (9 ^ c) 9,Nat.mul_assoc]
   have hKn:9 ^ (c+1)*k≤9 ^ n*k:=Nat.mul_le_mul_right _ (Nat.pow_le_pow_right (by omega) hc)
   have hKp:1≤9 ^ c*k:=Nat.mul_pos (Nat.pow_pos (by omega)) hk1
   simp only [go_sem,Zeu,Zje,Zdm,k0,k2,k3,k4,k5,q0,q1,q4,q5,q6,hm,hlen,gP,gc,gC,gD,List.getElem?_drop,t1,t2,hql,hqt,l0,l1,l2]
   refine Zaa (Yts (k:=9 ^ c*k) h5 ((h4.get (i:=c) (by omega)).get (j:=c) (by omega)) (by omega)) (by simp only [go_sem,Zaw,Zah,mget]) ?_
   simp only [go_sem,Zaw,Zan,hqd,gD,sD,hlen,l2,k3,k4,Zi0,e1]
   refine Zar [(0,.osl none o 0 n),(2,.ptr b 0),(3,.ptr (b+1) 0),(4,.int .i64 (c:Int)),(6,.int .i64 ((c+1:Nat):Int)),(11,.int .i64 (n:Int)),(12,.int .i64 (c:Int))] (by simp only [go_sem,k0,k2,k3,k4,k11,k12])
    (Xdp (k:=9 ^ c*k) ho h2 hnl hwl hc (by omega) h3 h4 hp hKp (by omega) hb hn0 hpre hPP (fun e z0 z2 z3 z11 z12=>?_))
   simp only [go_sem,Zi2,z12,e1]
   refine hN (c+1,elimCol S c n,d*mget S c c) _ ⟨hc,by rw [Zbf,h2],h3.elim,?_,?_,?_,?_⟩ (by show n - (c+1)<n - c; omega) (Zab _ (by simp only [go_sem,z0,z2,z3,z11]))
   ·simp only
    rw [hKs]
    exact (h4.elim h3 (by omega) (by omega) hp).mono (by omega)
   ·simp only
    rw [hKs]
    exact (h5.mul ((h4.get (i:=c) (by omega)).get (j:=c) (by omega))).mono (by omega)
   ·simp only
    rw [hm2]
    have:=h6.2 hp
    rwa [h2] at this
   ·simp only
    rw [hm2, ← h7]
    conv=>rhs; unfold tri
    rw [if_neg hp,h2]
 ·have hcn:c=n:=by omega
  subst hcn
  have q1:¬ (c:Int)<(c:Int):=by omega
  simp only [go_sem,Ze2,q1]
  rw [Nat.sub_self] at h7
  exact hK _ d S h7.symm h2 (by simp only [go_sem]) (by simp only [go_sem])
theorem Y4l {pre PP:Heap}{o w n k:Nat}{M:RM}(ho:pre.length=o) (hn:M.length=n) (hnl:n≤1000000) (hwl:w≤1000000) (hnw:n≤w) (hW:Wid w M) (hB:Mb k M) (hk1:1≤k) (hk:9 ^ n*k≤100000000000)
  (hns:NoSw n 0 M) (hpre:∀ m,o+(1+2*n)≤m→Clo m pre) (hPP:∀ m,o+(1+2*n)≤m→Clo m PP) :
  SpecR Tryz.prog Zn2 (pre++(matH o w M++PP)) [.osl none o 0 n] (.agg (qcell (tri n 0 M 1).1)) (pre++(matH o w (tri n 0 M 1).2++PP)):=by
 obtain ⟨b,hb⟩:∃ b,b=o+(1+2*n)+PP.length:=⟨_,rfl⟩
 have hL:(pre++(matH o w M++PP)).length=b:=by rw [List.length_append,List.length_append,Zbx,hn,ho]; omega
 refine Z18 Z2v (by simp) (T_W ?_)
 unfold Zrc
 have eA:(pre++(matH o w M++PP)) ++ [Blk.cells [AV.bool false,.nils,.bool false,.nils]] ++ [Blk.cells [AV.bool false,.nils,.bool false,.nils]]=pre++(matH o w M++(PP ++ [.cells z4,.cells z4])):=by simp [z4]
 have eL:((pre++(matH o w M++PP)) ++ [Blk.cells [AV.bool false,.nils,.bool false,.nils]]).length=b+1:=by rw [List.length_append,hL]; rfl
 have g1:(pre++(matH o w M++(PP ++ [Blk.cells z4,.cells z4])))[b+1]? = some (.cells z4):=Zh6 (t:=1) ho hn hb
 have s1:∀ Y:Blk,(pre++(matH o w M++(PP ++ [Blk.cells z4,.cells z4]))).set (b+1) Y=pre++(matH o w M++(PP ++ [.cells z4,Y])):=fun Y=>Zgp (t:=1) ho hn hb
 have hz4:z4.length=4:=rfl
 have hzd:z4.drop 4 = []:=rfl
 simp only [go_sem,Zln,Zkn,hL]
 refine Zaa Y3u (by simp only [go_sem]) ?_
 simp only [go_sem,Zaw,Zan,eA,eL,hL,g1,s1,hz4,hzd,Zkm,Nat.le_refl]
 have dropK:∀ (e:Nat→AV) (M':RM) (a d:List AV),M'.length=n→∃ st',Le 133 b ⟨e,pre++(matH o w M'++(PP ++ [.cells a,.cells d]))⟩ st'∧st'.H=pre++(matH o w M'++PP):=fun e M' a d hM'=>by
  have hK2:(pre++(matH o w M'++PP)).length=b:=by rw [List.length_append,List.length_append,Zbx,hM',ho]; omega
  have hclo:Clo b (pre++(matH o w M'++PP)):=(hpre _ (by omega)).append ((Yjc (by rw [hM']; omega)).append (hPP _ (by omega)))
  have hsplit:pre++(matH o w M'++(PP ++ [Blk.cells a,.cells d]))=(pre++(matH o w M'++PP)) ++ [.cells a,.cells d]:=by simp
  rw [hsplit]
  exact ⟨_,Zk7 hK2 hclo (Nat.le_refl _) [] trivial (fun p hp=>by simp at hp),rfl⟩
 have gq:∀ q:Rat,(AV.agg (qcell q)).gc (fun _=>none) = .agg (qcell q):=fun q=>rfl
 have hql:∀ q:Rat,(4:Nat)≤(qcell q).length:=fun q=>by rw [Zan]; omega
 have hqt:∀ q:Rat,(qcell q).take 4=qcell q:=fun q=>List.take_of_length_le (by rw [Zan]; omega)
 refine Zar [(0,.osl none o 0 n),(2,.ptr b 0),(3,.ptr (b+1) 0),(11,.int .i64 (n:Int)),(12,.int .i64 0)] (by simp only [go_sem])
  (Xcj ho hn hnl hwl hnw hW hB hk1 hk hns hb (Nat.le_refl _) (hpre _ (by omega)) (hPP _ (by omega)) (fun e d M' h1 h2 k2 k3=>?_) (fun e d M' h1 h2 k2=>?_))
 ·have gA:(pre++(matH o w M'++(PP ++ [Blk.cells z4,.cells (qcell d)])))[b]? = some (.cells z4):=Zh6 (t:=0) ho h2 hb
  have gD:(pre++(matH o w M'++(PP ++ [Blk.cells z4,.cells (qcell d)])))[b+1]? = some (.cells (qcell d)):=Zh6 (t:=1) ho h2 hb
  have sA:∀ Y:Blk,(pre++(matH o w M'++(PP ++ [Blk.cells z4,.cells (qcell d)]))).set b Y=pre++(matH o w M'++(PP ++ [Y,.cells (qcell d)])):=fun Y=>Zgp (t:=0) ho h2 hb
  have gA':∀ Y:Blk,(pre++(matH o w M'++(PP ++ [Y,.cells (qcell d)])))[b]? = some Y:=fun Y=>Zh6 (t:=0) ho h2 hb
  simp only [go_sem,Ziy,k2,k3,gA,gD,sA,gA',hql,hqt,hz4,hzd,Zan,Nat.le_refl,hL]
  rw [h1]
  exact ⟨rfl,gq _,dropK _ _ _ _ h2⟩
 ·have gA:(pre++(matH o w M'++(PP ++ [Blk.cells (qcell 0),.cells (qcell d)])))[b]? = some (.cells (qcell 0)):=Zh6 (t:=0) ho h2 hb
  simp only [go_sem,k2,gA,hql,hqt,hL]
  rw [h1]
  exact ⟨rfl,gq _,dropK _ _ _ _ h2⟩
end GoAbs
namespace GoAbs
open Go Go.Proofs
def addAt (M:RM) (i j:Nat) (x:Rat):RM:=M.set i ((M.getD i []).set j (mget M i j+x))
theorem Zec {M:RM}{i j:Nat}{x:Rat}:(addAt M i j x).length=M.length:=by simp [addAt]
theorem Wid.addAt {w:Nat}{M:RM}(h:Wid w M) {i j:Nat}{x:Rat}:Wid w (GoAbs.addAt M i j x):=fun r hr=>by
 by_cases hi:i<M.length
 ·rcases List.mem_or_eq_of_mem_set hr with h1 | rfl
  ·exact h r h1
  ·rw [List.length_set]; exact h.get hi
 ·unfold GoAbs.addAt at hr
  rw [List.set_eq_of_length_le (by omega)] at hr
  exact h r hr
theorem Qb.add2 {k l:Nat}{a b:Rat}(ha:Qb k a) (hb:Qb l b):Qb (k+l+1) (a+b):=by
 rw [← Yn7]
 have h0:(a.den:Int)*b.den≠0:=by have:=den_pos' a; have:=den_pos' b; exact Int.mul_ne_zero (by omega) (by omega)
 obtain ⟨h1,h2⟩:=Zed (n:=a.num*b.den+b.num*a.den) h0
 have m:∀ {x y:Nat},x<2 ^ k→y<2 ^ l→x*y<2 ^ (k+l):=fun hx hy=>by rw [Nat.pow_add]; exact Nat.mul_lt_mul'' hx hy
 refine ⟨Nat.lt_of_le_of_lt h1 ?_,?_⟩
 ·have h3:=Int.natAbs_add_le (a.num*b.den) (b.num*a.den)
  rw [Int.natAbs_mul,Int.natAbs_mul,Nat.mul_comm b.num.natAbs] at h3
  have h4:=m ha.n hb.dz
  have h5:=m ha.dz hb.n
  rw [Nat.pow_succ]
  omega
 ·rw [Int.natAbs_mul] at h2
  have:=m ha.dz hb.dz
  rw [Nat.pow_succ]
  omega
theorem Mb.addAt {k l:Nat}{M:RM}(h:Mb k M) {i j:Nat}{x:Rat}(hx:Qb l x) (hk:1≤k):Mb (k+l+1) (GoAbs.addAt M i j x):=fun r hr=>by
 by_cases hi:i<M.length
 ·rcases List.mem_or_eq_of_mem_set hr with h1 | rfl
  ·exact (h r h1).mono (by omega)
  ·intro y hy
   by_cases hj:j<(M.getD i []).length
   ·rcases List.mem_or_eq_of_mem_set hy with h2 | rfl
    ·exact ((h.get hi) y h2).mono (by omega)
    ·exact ((h.get hi).get hj).add2 hx
   ·rw [List.set_eq_of_length_le (by omega)] at hy
    exact ((h.get hi) y hy).mono (by omega)
 ·unfold GoAbs.addAt at hr
  rw [List.set_eq_of_length_le (by omega)] at hr
  exact (h r hr).mono (by omega)
theorem Yo6 {pre post:Heap}{o w i j k:Nat}{M:RM}{x:Rat}(ho:pre.length=o) (hW:Wid w M) (hi:i<M.length) (hj:j<w) (hml:M.length≤1000000) (hwl:w≤1000000)
  (hB:Mb k M) (bx:Qb k x) (hk:2*k+1≤1000000000000) :
  SpecR Tryz.prog Zvt (pre++(matH o w M++post)) [.osl none o 0 M.length,.int .i64 (i:Int),.int .i64 (j:Int),.agg (qcell x)] (.tup []) (pre++(matH o w (addAt M i j x)++(post ++ [.cells (qcell x)]))):=by
 have hl:=hW.get hi
 exact Yw0 ho (getD_some hi) (Zak (by rw [hl]; exact hj)) hl hml hwl ((hB.get hi).get (by rw [hl]; exact hj)) bx hk
end GoAbs
namespace GoAbs
open Go Go.Proofs
theorem Y95 {o w n s:Nat}:gcL (fun i=>some (i+s)) (ptrs o w n)=ptrs (o+s) w n:=by
 rw [Zax]
 unfold ptrs
 rw [List.map_map]
 refine List.map_congr_left fun i _=>?_
 show AV.gc _ (AV.osl _ _ _ _)=_
 simp only [AV.gc]
 congr 1; omega
theorem Yr8 {f:Nat→Option Nat}{M:RM}:(rowsH M).map (Blk.gc f)=rowsH M:=by
 induction M with
 | nil=>rfl
 | cons r M ih =>
  show ([Blk.dead,.cells (qc r)]++rowsH M).map _ = [Blk.dead,.cells (qc r)]++rowsH M
  rw [List.map_append,ih]
  simp only [List.map_cons,List.map_nil,Blk.gc,Y98]
theorem Xbo {o w s:Nat}{M:RM}:(matH o w M).map (Blk.gc (fun i=>some (i+s)))=matH (o+s) w M:=by
 unfold matH
 rw [List.map_cons,Yr8]
 simp only [Blk.gc,Y95]
end GoAbs
namespace GoAbs
open Go Go.Proofs
set_option exponentiation.threshold 20000
theorem Y8s {k:Nat}:∀ {n:Nat},(digs n).length≤k→n<10 ^ k:=by
 induction k with
 | zero =>
  intro n h
  by_cases h0:n=0
  ·subst h0; simp
  ·rw [Zfu h0] at h; simp at h
 | succ k ih =>
  intro n h
  by_cases h0:n=0
  ·subst h0; exact Nat.pow_pos (by omega)
  ·rw [Zfu h0,List.length_cons] at h
   have:=ih (n:=n / 10) (by omega)
   rw [Nat.pow_succ]; omega
theorem Ycu {n k:Nat}(h:(decL n).length≤k):n<10 ^ k:=by
 unfold decL at h
 split at h
 ·rename_i h0; subst h0; exact Nat.pow_pos (by omega)
 ·rw [List.length_reverse] at h; exact Y8s h
theorem Z58 {n k:Nat}(hk:1≤k) (h:n<10 ^ k):(decL n).length≤k:=by
 unfold decL
 split
 ·simpa using hk
 ·rw [List.length_reverse]; exact Yi9 h
def Fitd (d:Nat) (q:Rat):Prop:=(decL q.num.natAbs).length≤d∧(decL q.den).length≤d
instance (d:Nat) (q:Rat):Decidable (Fitd d q):=by unfold Fitd; infer_instance
end GoAbs
