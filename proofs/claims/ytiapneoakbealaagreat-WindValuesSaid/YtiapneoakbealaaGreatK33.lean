/- Lemmas for the claim (contracts of the functions that it reaches, and what they compute), without conditions. -/
import Derived.Test.YtiapneoakbealaaGreatK32
import Derived.Test.YtiapneoakbealaaGreatProg
import Derived.KernelRfl
set_option linter.unusedVariables false
set_option linter.unusedSimpArgs false
set_option maxRecDepth 10000
set_option maxHeartbeats 2000000
namespace GoAbs
open Go Go.Proofs
set_option maxHeartbeats 8000000
theorem Xic {nd:Nd}:∀ y,y∈gN nd→∀ f,y.gc f=y:=fun y hy f=>by
 unfold gN at hy
 split at hy
 ·simp at hy; subst hy; rfl
 ·split at hy
  ·simp at hy; subst hy; rfl
  ·split at hy
   ·simp at hy; subst hy; rfl
   ·simp at hy
theorem Xa6 {ls A R ms:List AV}{d:ByteArray}{i n k:Nat}{nd:Nd}{va fi:Bool}{e:Nat→AV}{Q:Ex→St→Prop}(hal:A.length≤1000000) (hl:∀ m,m∈nd.mv→m.2.length≤23) (hml:nd.mv.length≤7)
  (he:Has e (rdE ls d i 7 nd.mv.length 8 (oddsT nd.mv).length ms k)) (hA:∀ f,gcL f A=A) (hR:∀ f,gcL f R=R)
  (hQ:∀ st',Le 212 0 st' ⟨envL (rdF ls d i),[.cells (.osl none 3 0 (A++gN nd).length :: .osl (some 4) 4 0 n::z4'),.cells [.bool va],.cells [.bool (fi && decide (1≤nd.mv.length∧nd.mv.length≤6) && kindF nd)],.cells (A++gN nd),.cells R]⟩→Q .normal st') :
  T Tryz.prog 212 0 rdTail ⟨e,[.cells (.osl none 3 0 A.length :: .osl (some 4) 4 0 n::z4'),.cells [.bool va],.cells [.bool fi],.cells A,.cells R,.cells [.int .i64 nd.kind,.str (bs nd.rew),.sl ms],
     .cells (qcell (sumM nd.mv)),.cells (ivs (tosI nd.mv)),.cells (oddsT nd.mv).flatten]⟩ Q:=by
 have hm:Tryz.prog.follows .mixedOrders=true:=by kernel_rfl
 refine Zav (rd25 (fi:=fi) (bT:=7) (m:=nd.mv.length) he.2.2.2.2.1 he.2.2.2.2.2.2.2.1 rfl (fun e2 h2=>?_))
 have he2:=Z6p h2 he rfl
 clear h2 he
 obtain ⟨k0,k1,k6,k7,k8,k9,k11,k12,k13,k14,k31,k32,k33,k52,k53,k54,_⟩:=he2
 have hfl:(fi && decide (1≤nd.mv.length∧nd.mv.length≤6) && kindF nd)=((fi && decide (1≤nd.mv.length∧nd.mv.length≤6)) && kindF nd):=rfl
 rw [hfl] at hQ
 generalize (fi && decide (1≤nd.mv.length∧nd.mv.length≤6))=fi' at *
 refine Za0 0 rfl ?_
 simp only [go_sem,Zmc,k11]
 refine Zaw ?_
 have s1:(A.length+1)*16≤1099511627776:=by omega
 have l1:A.length*1≤A.length:=by omega
 have l2:A.take (A.length*1)=A:=List.take_of_length_le (by omega)
 have l3:A.take A.length=A:=List.take_length
 have hl4:∀ c,c∈oddsT nd.mv→c.length=4:=fun c hc=>(Yb8 hl hc).1
 have hbq:∀ H ids,∀ c,c∈oddsT nd.mv→BVs H ids c c:=fun H ids c hc=>by rw [(Yb8 hl hc).2.2 H ids]; trivial
 refine Za0 0 rfl ?_
 by_cases h1:nd.kind=1
 ·have hgN:gN nd = [.ifc 129 (.agg [.sl (ivs (tosI nd.mv))])]:=by unfold gN; rw [if_pos h1]
  have hkF:kindF nd=true:=by simp [kindF,h1]
  have hk1:(1:Int)=1:=rfl
  rw [hkF,Bool.and_true,hgN] at hQ
  simp only [go_sem,Zcd,h1]
  refine T_W ?_
  simp only [go_sem,Zl8,k6,k12,s1,l1,l2,l3,Nat.le_refl,Nat.mul_one]
  exact hQ _ (Y0v (ids := [7]) (by simp only [go_sem,k0,k1,k6,k7,k8,k9,k11,k12,k13,k14,k31,k32,k33,k52,k53,k54]) (.inl rfl) hA hR (fun f=>rfl) (by simp only [go_sem]; exact Y1k rfl (by simp)))
 ·by_cases h2:nd.kind=2
  ·have hgN:gN nd = [.ifc 131 (.agg [.sl (ivs (tosI nd.mv))])]:=by unfold gN; rw [if_neg h1,if_pos h2]
   have hkF:kindF nd=true:=by simp [kindF,h2]
   have n21:¬ (2:Int)=1:=by decide
   rw [hkF,Bool.and_true,hgN] at hQ
   simp only [go_sem,Zcd,Zdr,h2,n21]
   refine T_W ?_
   simp only [go_sem,Zmx,k6,k12,s1,l1,l2,l3,Nat.le_refl,Nat.mul_one]
   exact hQ _ (Y0v (ids := [7]) (by simp only [go_sem,k0,k1,k6,k7,k8,k9,k11,k12,k13,k14,k31,k32,k33,k52,k53,k54]) (.inl rfl) hA hR (fun f=>rfl) (by simp only [go_sem]; exact Y1k rfl (by simp)))
  ·by_cases h3:nd.kind=3
   ·have hgN:gN nd = [.ifc 140 (.agg [.sl (ivs (tosI nd.mv)),.sl ((oddsT nd.mv).map .agg)])]:=by unfold gN; rw [if_neg h1,if_neg h2,if_pos h3]
    have hkF:kindF nd=decide (sumM nd.mv=1):=by simp [kindF,h3]
    have n31:¬ (3:Int)=1:=by decide
    have n32:¬ (3:Int)=2:=by decide
    rw [hkF,hgN] at hQ
    have sb:=Z5d hl
    have hc:=Y0k (k:=1+78*8) (sb.mono (by omega)) (Qb.one (k:=1+78*8) (by omega)) (by omega)
    have ql:∀ q,(qcell q).length=4:=fun q=>rfl
    have qt:∀ q,(qcell q).take 4=qcell q:=fun q=>rfl
    have qd:∀ q,(qcell q).drop 4 = []:=fun q=>rfl
    have hc0:(cmpR (sumM nd.mv) 1=0)=(sumM nd.mv=1):=propext (by unfold cmpR; constructor <;> intro h <;> grind)
    simp only [go_sem,Zcd,Zdr,Zdu,h3,n31,n32]
    refine T_W ?_
    have fin:∀ (b:Bool) (e3:Nat→AV),b=(fi' && decide (sumM nd.mv=1))→Has e3 (rdF ls d i)→Q .normal ⟨e3,[.cells (.osl none 10 0 (A.length+1) :: .osl (some 4) 4 0 n::z4'),.cells [.bool va],.cells [.bool b],.dead,.cells R,.cells [.int .i64 3,.str (bs nd.rew),.sl ms],.cells (qcell (sumM nd.mv)),
      .cells (ivs (tosI nd.mv)),.cells (oddsT nd.mv).flatten,.cells [.ifc 140 (.agg [.osl none 7 0 nd.mv.length,.osl (some 4) 8 0 (oddsT nd.mv).length])],.cells (A ++ [.ifc 140 (.agg [.osl none 7 0 nd.mv.length,.osl (some 4) 8 0 (oddsT nd.mv).length])])]⟩:=fun b e3 hb he3=>by
     subst hb
     refine hQ _ (Y0v (ids := [7,8]) he3 (.inr rfl) hA hR (fun f=>rfl) ?_)
     simp only [go_sem]
     exact ⟨Y1k rfl (by simp),Z6j rfl (by simp) rfl hl4 (hbq _ _)⟩
    cases fi' with
    | false =>
     simp only [go_sem,Zd3,Zeb,k6,k8,k12,k13,k14,s1,l1,l2,l3,Nat.le_refl,Nat.mul_one,hm]
     exact fin _ _ rfl (by simp only [go_sem,k0,k1,k6,k7,k8,k9,k11,k12,k13,k14,k31,k32,k33,k52,k53,k54])
    | true =>
     simp only [go_sem,Zd3,k8,k14,ql,qt,qd,hm]
     refine Zaa Y4u (by simp only [go_sem]) ?_
     simp only [go_sem,Zau,ql,qt,qd,k8,k14]
     refine Zaa hc (by simp only [go_sem,Zau,Zah]) ?_
     by_cases hs1:sumM nd.mv=1
     ·have hc1:cmpR (sumM nd.mv) 1=0:=by rw [hc0]; exact hs1
      simp only [go_sem,hc1,Zeb,k6,k8,k12,k13,k14,s1,l1,l2,l3,Nat.le_refl,Nat.mul_one,hm]
      exact fin _ _ (by simp [hs1]) (by simp only [go_sem,k0,k1,k6,k7,k8,k9,k11,k12,k13,k14,k31,k32,k33,k52,k53,k54])
     ·have hc1:¬ cmpR (sumM nd.mv) 1=0:=by rw [hc0]; exact hs1
      simp only [go_sem,hc1,Zeb,k6,k8,k12,k13,k14,s1,l1,l2,l3,Nat.le_refl,Nat.mul_one,hm]
      exact fin _ _ (by simp [hs1]) (by simp only [go_sem,k0,k1,k6,k7,k8,k9,k11,k12,k13,k14,k31,k32,k33,k52,k53,k54])
   ·have hgN:gN nd = []:=by unfold gN; rw [if_neg h1,if_neg h2,if_neg h3]
    have hkF:kindF nd=false:=by simp [kindF,h1,h2,h3]
    rw [hkF,Bool.and_false,hgN,List.append_nil] at hQ
    simp only [go_sem,Zcd,Zdr,Zdu,h1,h2,h3]
    refine T_W ?_
    simp only [go_sem,Zdu,Zmf,h2,h3,k8]
    refine hQ _ (Zq0 (Zab (rdF ls d i) ?_) (Zb0 (Zh0 [0,1,2,3,4] (by decide) (fun i hi=>by omega) (rdF ls d i) (by simp only [go_sem])) ?_))
    ·simp only [go_sem,k0,k1,k6,k7,k8,k9,k11,k12,k13,k14,k31,k32,k33,k52,k53,k54]
    show St.mk _ [.cells (.osl none 3 0 A.length :: .osl (some 4) 4 0 n::z4'),.cells [.bool va],.cells [.bool _],.cells (gcL _ A),.cells (gcL _ R)]=_
    rw [hA,hR]
    rfl
end GoAbs
namespace GoAbs
open Go Go.Proofs
set_option maxHeartbeats 8000000
noncomputable def rowT (L:List Nd):List (List AV):=L.map fun n=>tc n.rew
noncomputable def nodesT (L:List Nd):List AV:=L.flatMap gN
theorem Ywu (L:List Nd):(nodesT L).length≤L.length:=by
 induction L with
 | nil=>simp [nodesT]
 | cons n L ih =>
  have:(gN n).length≤1:=by unfold gN; split; simp; split; simp; split <;> simp
  unfold nodesT at *
  rw [List.flatMap_cons,List.length_append,List.length_cons]; omega
theorem Ye8 {L:List Nd}(f:Nat→Option Nat):gcL f (nodesT L)=nodesT L:=by
 induction L with
 | nil=>rfl
 | cons n L ih =>
  unfold nodesT at *
  rw [List.flatMap_cons,Z4t,ih]
  congr 1
  rw [Za1]
  conv=>rhs; rw [← List.map_id (gN n)]
  exact List.map_congr_left fun y hy=>Xic y hy f
theorem Xg5 {L:List Nd}{d:ByteArray}{f0:Bool}(hL:L.length≤1000) (hok:∀ n,n∈L→n.rew.length≤23∧n.mv.length≤7∧∀ m,m∈n.mv→m.2.length≤23) {K:Ex→St→Prop}
  (hK:∀ e,Has e (rdF (L.map ndAV) d L.length)→K (.exit 0) ⟨e,[.cells (.osl none 3 0 (nodesT L).length :: .osl (some 4) 4 0 L.length::z4'),.cells [.bool (L.all ndVa)],.cells [.bool (f0 && L.all (ndFi L.length))],.cells (nodesT L),.cells (rowT L).flatten]⟩) :
  T Tryz.prog 212 0 (.loop Zi3) ⟨envL (rdF (L.map ndAV) d 0),[.cells (.osl none 3 0 0 :: .osl (some 4) 4 0 0::z4'),.cells [.bool true],.cells [.bool f0],.cells [],.cells []]⟩ K:=by
 refine Zfq (fun i:Nat=>⟨envL (rdF (L.map ndAV) d i),[.cells (.osl none 3 0 (nodesT (L.take i)).length :: .osl (some 4) 4 0 i::z4'),.cells [.bool ((L.take i).all ndVa)],.cells [.bool (f0 && (L.take i).all (ndFi L.length))],.cells (nodesT (L.take i)),.cells (rowT (L.take i)).flatten]⟩)
  (fun i=>i≤L.length) (fun i=>L.length - i) 0 (by omega) (Zb0 (Zab (rdF (L.map ndAV) d 0) (by simp only [go_sem])) (by simp [nodesT,rowT])) (fun i hi N hN=>?_)
 unfold Zi3
 by_cases hin:i<L.length
 ·obtain ⟨nd,hnd⟩:∃ n,L[i]? = some n:=⟨_,List.getElem?_eq_getElem hin⟩
  obtain ⟨o1,o2,o3⟩:=hok nd (List.mem_of_getElem? hnd)
  have tk:L.take (i+1)=L.take i ++ [nd]:=by rw [List.take_add_one,hnd]; rfl
  have tl:(L.take i).length=i:=by rw [List.length_take]; omega
  have q1:(i:Int)<(L.length:Int):=by omega
  have e1:IntKind.i64.wrap ((i:Int)+1)=((i+1:Nat):Int):=by rw [Zac (by omega) (by omega)]; omega
  have hrow:∀ c,c∈rowT (L.take i)→c.length=4∧∀ f,gcL f c=c:=fun c hc=>by
   obtain ⟨n,hn,rfl⟩:=List.mem_map.1 hc
   have:=(Zj6 (hok n (List.mem_of_mem_take hn)).1).1
   exact ⟨this.len,this.gc⟩
  have hrt:=(Zj6 o1).1
  have hRl:(rowT (L.take i)).flatten.length=i*4:=by rw [Z5h (fun c hc=>(hrow c hc).1)]; simp [rowT]; omega
  have hRg:∀ f,gcL f (rowT (L.take i)).flatten=(rowT (L.take i)).flatten:=fun f=>Yjq (fun c hc=>(hrow c hc).2 f)
  have hnl:=Ywu (L.take i)
  have eA:nodesT (L.take (i+1))=nodesT (L.take i)++gN nd:=by rw [tk]; simp [nodesT]
  have eR:(rowT (L.take (i+1))).flatten=(rowT (L.take i)).flatten++tc nd.rew:=by rw [tk]; simp [rowT]
  have eV:(L.take (i+1)).all ndVa=((L.take i).all ndVa && okB nd.rew && vaM nd.mv):=by rw [tk]; simp [ndVa,Bool.and_assoc]
  have eF:(f0 && (L.take (i+1)).all (ndFi L.length))=(f0 && (L.take i).all (ndFi L.length) && smallB nd.rew && fiM L.length nd.kind nd.mv && decide (1≤nd.mv.length∧nd.mv.length≤6) && kindF nd):=by rw [tk]; simp [ndFi,Bool.and_assoc]
  refine Za0 1 rfl ?_
  simp only [go_sem,Zp6,List.length_map,q1]
  refine Zav (Zaw (Zas (rdF (L.map ndAV) d i) (by simp only [go_sem,List.length_map]) (Y9l (nd:=nd) (by omega) (by rw [List.length_map]; omega) (by omega) (by rw [List.getElem?_map,hnd]; rfl) o1 o2 o3 hRl (fun f=>Ye8 f) hRg (fun e he=>?_))))
  refine Xa6 (by omega) o3 o2 he (fun f=>Ye8 f) (fun f=>by rw [Z4t,hRg,hrt.gc]) (fun st' hle=>?_)
  show T Tryz.prog 212 0 (.rg false Zm4) st' (thenQ N K)
  refine T_le hle (T_W ?_)
  simp only [go_sem,Zm4,e1]
  refine hN (i+1) _ (by omega) (by omega) (Zb0 (Zab (rdF (L.map ndAV) d (i+1)) (by simp only [go_sem])) ?_)
  rw [eA,eR,eV,eF]
 ·have hie:i=L.length:=by omega
  subst hie
  have q1:¬ ((L.length:Nat):Int)<(L.length:Int):=by omega
  refine T_W ?_
  rw [List.take_length]
  simp only [go_sem,Zp6,List.length_map,q1]
  exact hK _ (by simp only [go_sem,List.length_map])
end GoAbs
namespace GoAbs
open Go Go.Proofs
set_option maxHeartbeats 8000000
def disF (d:List UInt8):Bool:=smallB d && (match parseL d with | some q=>decide (0≤q) && decide (q<1) | none=>true)
def gFit (L:List Nd) (d:List UInt8):Bool:=decide (1≤L.length∧L.length≤10) && L.all (ndFi L.length) && disF d
noncomputable def gmR (L:List Nd) (d:List UInt8):AV :=
 if (L.all ndVa && okB d)=false then .tup [.nilp,.int .i64 2] else if gFit L d=false then .tup [.nilp,.int .i64 1] else .tup [.rp (.sl (nodesT L) :: .sl ((rowT L).map .agg)::tc d),.int .i64 0]
theorem Xht {n:Nd}(hl:∀ m,m∈n.mv→m.2.length≤23):∀ y,y∈gN n→y.cells = [y]∧∀ H ids,BV H ids y y:=fun y hy=>by
 unfold gN at hy
 have hA:∀ (cs:List AV) (H:Heap) (ids:List Nat),(∀ x,x∈cs→∃ l,x = .sl l)→BV H ids (.agg cs) (.agg cs):=fun cs H ids h => .agg _ _ rfl (fun i x y hx hy=>by
  rw [hx] at hy; cases hy
  obtain ⟨l,rfl⟩:=h x (List.mem_of_getElem? hx)
  exact .sl l)
 split at hy
 ·simp at hy; subst hy; exact ⟨rfl,fun H ids => .ifc _ _ _ (hA _ _ _ (by simp))⟩
 ·split at hy
  ·simp at hy; subst hy; exact ⟨rfl,fun H ids => .ifc _ _ _ (hA _ _ _ (by simp))⟩
  ·split at hy
   ·simp at hy; subst hy; exact ⟨rfl,fun H ids => .ifc _ _ _ (hA _ _ _ (by simp))⟩
   ·simp at hy
theorem Y69 {L:List Nd}{H:Heap}{ids:List Nat}{b:Nat}(hl:∀ n,n∈L→∀ m,m∈n.mv→m.2.length≤23) (hb:H[b]? = some (.cells (nodesT L))) (hi:b∈ids):BV H ids (.osl none b 0 (nodesT L).length) (.sl (nodesT L)):=by
 have hc:∀ x,x∈nodesT L→x.cells = [x]∧∀ H ids,BV H ids x x:=fun x hx=>by
  obtain ⟨n,hn,hx⟩:=List.mem_flatMap.1 hx
  exact Xht (hl n hn) x hx
 refine .osl none b 0 _ _ _ hb hi rfl (fun x hx=>by rw [(hc x hx).1]; rfl) (by show 0+(nodesT L).length*1≤_; omega) (fun i x j y z hx hy hz=>?_)
 rw [(hc x (List.mem_of_getElem? hx)).1] at hy
 cases j with
 | zero =>
  simp at hy; subst hy
  rw [show 0+(i*es none+0)=i by show 0+(i*1+0)=i; omega,hx] at hz
  cases hz
  exact (hc x (List.mem_of_getElem? hx)).2 _ _
 | succ j=>simp at hy
abbrev rdEnd:CC := .seq (.block 5 (.seq (.rg false Zgq) (.cond (.t 188) (.seq (.rg false Zgu) .ret) (.seq (.rg true Zd2) (.cond (.t 191) (.seq (.rg false Zdn) .ret) .skip))))) (.seq (.rg false Zmv) .ret)
theorem Xdx {L:List Nd}{d:List UInt8}{e:Nat→AV}{va fi:Bool}{n:Nat}(hd:d.length≤23) (hn:n=L.length) (hv:va=(L.all ndVa && okB d)) (hf:fi=(decide (1≤L.length∧L.length≤10) && L.all (ndFi L.length) && smallB d))
  (hok:∀ n,n∈L→n.rew.length≤23∧n.mv.length≤7∧∀ m,m∈n.mv→m.2.length≤23)
  (e6:e 6 = .ptr 0 0) (e7:e 7 = .ptr 1 0) (e8:e 8 = .ptr 2 0) :
  T Tryz.prog 212 0 rdEnd ⟨e,[.cells (.osl none 3 0 (nodesT L).length :: .osl (some 4) 4 0 n::tc d),.cells [.bool va],.cells [.bool fi],.cells (nodesT L),.cells (rowT L).flatten]⟩ (retQ [.tmp 4,.tmp 5] (gmR L d)):=by
 have hm:Tryz.prog.follows .mixedOrders=true:=by kernel_rfl
 obtain ⟨hrt,hsm⟩:=Zj6 hd
 have c4:=hrt.len
 have ct:(tc d).take 4=tc d:=List.take_of_length_le (by omega)
 cases va with
 | false =>
  have hg:gmR L d = .tup [.nilp,.int .i64 2]:=by unfold gmR; rw [if_pos hv.symm]
  rw [hg]
  refine T_W ?_
  simp only [go_sem,Zgq,Zgu,e7]
  exact .nilp
 | true =>
  have hvd:okB d=true:=by have:=hv.symm; rw [Bool.and_eq_true] at this; exact this.2
  obtain ⟨q,hq⟩:∃ q,parseL d=some q:=by
   unfold okB at hvd
   cases hp:parseL d with
   | none=>rw [hp] at hvd; simp at hvd
   | some q=>exact ⟨q,rfl⟩
  have htq:=hrt.q q hq
  have hb:=Zjn hq hd
  have hdis:gFit L d=(fi && (decide (0≤q) && decide (q<1))):=by
   unfold gFit disF
   rw [hq,hf]
   simp only [Bool.and_assoc]
  have hg:gmR L d=if (fi && (decide (0≤q) && decide (q<1)))=false then .tup [.nilp,.int .i64 1] else .tup [.rp (.sl (nodesT L) :: .sl ((rowT L).map .agg)::tc d),.int .i64 0]:=by
   unfold gmR
   rw [if_neg (by rw [← hv]; decide),hdis]
  rw [hg]
  have hcmp:=Y0k (k:=77) hb (Qb.one (k:=77) (by omega)) (by omega)
  have ql:∀ q,(qcell q).length=4:=fun q=>rfl
  have qt:∀ q,(qcell q).take 4=qcell q:=fun q=>rfl
  have qd:∀ q,(qcell q).drop 4 = []:=fun q=>rfl
  rw [htq]
  refine Za0 0 rfl ?_
  simp only [go_sem,Zgq,Zgu,e7]
  cases fi with
  | false =>
   simp only [go_sem,Zd2,Zdn,e6,e8,Bool.false_and]
   exact .nilp
  | true =>
   simp only [go_sem,Zd2,e6,e8,ql,qt,qd]
   refine Zaa (Ym5 q) (by simp only [go_sem,Zau,Zah]) ?_
   by_cases s0:q<0
   ·have c1:(if q=0 then (0:Int) else if q<0 then -1 else 1) = -1:=by rw [if_neg (by grind),if_pos s0]
    have c2:(-1:Int)<0:=by decide
    have c3:¬ 0≤q:=by grind
    simp only [go_sem,c1,c2,c3,Zdn,e6,e8,decide_false,Bool.false_and,Bool.and_false]
    exact .nilp
   ·have c1:¬ (if q=0 then (0:Int) else if q<0 then -1 else 1)<0:=by rw [if_neg s0]; split <;> decide
    have c3:0≤q:=by grind
    simp only [go_sem,c1,c3,e6,e8,ql,qt,qd]
    refine Zaa Y4u (by simp only [go_sem]) ?_
    simp only [go_sem,Zau,ql,qt,qd,e6,e8]
    refine Zaa hcmp (by simp only [go_sem,Zau,Zah]) ?_
    by_cases s1:q<1
    ·have c4:¬ 0≤cmpR q 1:=by unfold cmpR; rw [if_pos s1]; decide
     simp only [go_sem,c4,s1,decide_true,Bool.and_true,Zmv,e6,e8]
     refine T_W ?_
     simp only [go_sem,e6]
     refine .ptr 0 0 _ _ rfl (by simp [allOf]) (by simp) (fun j y z hy hz=>?_)
     rw [Nat.zero_add] at hz
     match j with
     | 0=>simp at hy hz; subst hy hz; exact Y69 (fun n hn=>(hok n hn).2.2) rfl (by simp [allOf])
     | 1 =>
      have hrow:∀ c,c∈rowT L→c.length=4∧∀ H ids,BVs H ids c c:=fun c hc=>by
       obtain ⟨n,hn,rfl⟩:=List.mem_map.1 hc
       have:=(Zj6 (hok n hn).1).1
       exact ⟨this.len,fun H ids=>by rw [this.bv]; trivial⟩
      simp at hy hz; subst hy hz
      rw [hn,show L.length=(rowT L).length by simp [rowT]]
      exact Z6j (w:=4) rfl (by simp [allOf]) rfl (fun c hc=>(hrow c hc).1) (fun c hc=>(hrow c hc).2 _ _)
     | j+2 =>
      simp only [List.getElem?_cons_succ] at hy hz
      rw [hy] at hz; cases hz
      have hx:=List.mem_of_getElem? hy
      unfold qcell at hx
      simp only [List.mem_cons,List.not_mem_nil,or_false] at hx
      rcases hx with rfl | rfl | rfl | rfl
      ·exact .bool _
      ·exact .sl _
      ·exact .bool _
      ·exact .sl _
    ·have c4:0≤cmpR q 1:=by unfold cmpR; rw [if_neg s1]; split <;> decide
     simp only [go_sem,c4,s1,decide_false,Bool.and_false,Zdn,e6,e8]
     exact .nilp
theorem Yut {L:List Nd}{d:List UInt8}(hL:L.length≤1000) (hd:d.length≤23) (hok:∀ n,n∈L→n.rew.length≤23∧n.mv.length≤7∧∀ m,m∈n.mv→m.2.length≤23) :
  SpecV Tryz.prog Zqp [.sl (L.map ndAV),.str (bs d)] (gmR L d):=by
 obtain ⟨hrt,hsm⟩:=Zj6 hd
 have c4:=hrt.len
 have ct:(tc d).take 4=tc d:=List.take_of_length_le (by omega)
 have cd:(tc d).drop 4 = []:=List.drop_eq_nil_of_le (by omega)
 refine Zat Ynl (by simp) ?_
 unfold Yf4
 have fin:∀ (b:Bool) (e:Nat→AV),b=decide (1≤L.length∧L.length≤10)→Has e [(0,.sl (L.map ndAV)),(1,.str (bs d)),(6,.ptr 0 0),(7,.ptr 1 0),(8,.ptr 2 0),(9,.fn Zaz [] [.ptr 1 0,.ptr 2 0])] →
   T Tryz.prog 212 0 (.seq (.seq (.rg false Zop) (.block 0 (.loop Zi3))) (.seq (.rg false Zgp) rdEnd)) ⟨e,[.cells (.nils :: .nils::z4'),.cells [.bool true],.cells [.bool b]]⟩ (retQ [.tmp 4,.tmp 5] (gmR L d)):=fun b e hb he=>by
  subst hb
  refine Zas _ he (Zav (Za0 0 rfl ?_))
  simp only [go_sem,Zop,List.length_map]
  refine Zaw (T_le (Zq0 (Zab (rdF (L.map ndAV) (bs d) 0) (by simp only [go_sem,List.length_map]; rfl)) (Zq0 Ynj (Zq0 Ynj (Zb0 (Ya9 (b:=0) (l := .nils :: .nils::z4') (l' := .osl none 3 0 0 :: .osl (some 4) 4 0 0::z4') rfl rfl (fun j x y hx hy=>?_)) rfl)))) (Xg5 hL hok (fun e he=>?_)))
  ·match j with
   | 0=>simp at hx hy; subst hx hy; exact .inr ⟨rfl,_,_,_,rfl⟩
   | 1=>simp at hx hy; subst hx hy; exact .inr ⟨rfl,_,_,_,rfl⟩
   | j+2=>simp only [List.getElem?_cons_succ] at hx hy; rw [hx] at hy; cases hy; exact .inl rfl
  ·show T Tryz.prog 212 0 (.seq (.rg false Zgp) rdEnd) _ _
   obtain ⟨k0,k1,k6,k7,k8,k9,_⟩:=he
   refine Za0 0 rfl ?_
   simp only [go_sem,Zgp,k1,k6,k9]
   refine Ze1 (Yea (n:=5) (bi:=1) (bj:=2) (va:=L.all ndVa) (fi:=decide (1≤L.length∧L.length≤10) && L.all (ndFi L.length)) rfl ?_ (by omega) rfl rfl hrt hsm) ?_
   ·have hrow:∀ c,c∈rowT L→c.length=4∧∀ f,gcL f c=c:=fun c hc=>by
     obtain ⟨n,hn,rfl⟩:=List.mem_map.1 hc
     have:=(Zj6 (hok n hn).1).1
     exact ⟨this.len,this.gc⟩
    unfold Clo
    show [Blk.cells (_::_::z4'),_,_,.cells (gcL _ (nodesT L)),.cells (gcL _ (rowT L).flatten)]=_
    rw [Ye8,Yjq (fun c hc=>(hrow c hc).2 _)]; rfl
   ·simp only [go_sem,k6,c4,ct,cd]
    exact Xdx hd rfl rfl rfl hok (by simp only [go_sem,k6]) (by simp only [go_sem,k7]) (by simp only [go_sem,k8])
 refine Za0 3 rfl ?_
 by_cases a1:(1:Int)≤(L.length:Int)
 ·by_cases a2:(L.length:Int)≤10
  ·simp only [go_sem,Zji,Zi0,Zi9,Zjd,List.length_map,a1,a2]
   exact fin _ _ (by simp; omega) (by simp only [go_sem])
  ·simp only [go_sem,Zji,Zi0,Zi9,Zjd,List.length_map,a1,a2]
   exact fin _ _ (by simp; omega) (by simp only [go_sem])
 ·simp only [go_sem,Zji,Zi0,Zi9,Zjd,List.length_map,a1]
  exact fin _ _ (by simp; omega) (by simp only [go_sem])
end GoAbs
namespace GoAbs
open Go Go.Proofs
theorem Y8i (f:Nat→Rat):∀ n,0<n→∃ i,i<n∧∀ j,j<n→f j≤f i
 | 0,h=>absurd h (by omega)
 | 1,_=>⟨0,by omega,fun j hj=>by
   have h:j=0:=by omega
   rw [h]; grind⟩
 | n+2,_=>by
  obtain ⟨i,hi,h⟩:=Y8i f (n+1) (by omega)
  by_cases hc:f i≤f (n+1)
  ·refine ⟨n+1,by omega,fun j hj=>?_⟩
   by_cases hj':j=n+1
   ·rw [hj']; grind
   ·have:=h j (by omega); grind
  ·refine ⟨i,by omega,fun j hj=>?_⟩
   by_cases hj':j=n+1
   ·rw [hj']; grind
   ·exact h j (by omega)
def Sh (n:Nat) (d:Rat) (F:List Rat→Nat→Rat):Prop:=∀ (u v:List Rat) (c:Rat),(∀ j,j<n→rget u j≤rget v j+c)→∀ i,i<n→F u i≤F v i+d*c
theorem Xhq {c d:Rat}(d1:d<1) (h:c≤d*c):c≤0:=by
 rcases (Rat.le_total:c≤0∨0≤c) with h0 | h0
 ·exact h0
 ·by_cases hc:c=0
  ·rw [hc]; grind
  ·have hp:0<c:=by grind
   have:=Rat.mul_pos (show 0<1 - d by grind) hp
   grind
theorem Sh.le {n:Nat}{d:Rat}{F:List Rat→Nat→Rat}(h:Sh n d F) (d1:d<1) {u v:List Rat}(hu:∀ i,i<n→rget u i≤F u i) (hv:∀ i,i<n→F v i≤rget v i):∀ i,i<n→rget u i≤rget v i:=fun i hi=>by
 obtain ⟨k,hk,hm⟩:=Y8i (fun i=>rget u i - rget v i) n (by omega)
 have h1:=h u v (rget u k - rget v k) (fun j hj=>by have:=hm j hj; grind) k hk
 have h2:=hu k hk
 have h3:=hv k hk
 have h5:=Xhq d1 (show rget u k - rget v k≤d*(rget u k - rget v k) by grind)
 have:=hm i hi
 grind
theorem Sh.mono {n:Nat}{d:Rat}{F:List Rat→Nat→Rat}(h:Sh n d F) {u v:List Rat}(hu:∀ j,j<n→rget u j≤rget v j):∀ i,i<n→F u i≤F v i:=fun i hi=>by
 have:=h u v 0 (fun j hj=>by have:=hu j hj; grind) i hi
 grind
theorem Sh.uniq {n:Nat}{d:Rat}{F:List Rat→Nat→Rat}(h:Sh n d F) (d1:d<1) {u v:List Rat}(hu:∀ i,i<n→rget u i=F u i) (hv:∀ i,i<n→rget v i=F v i):∀ i,i<n→rget u i=rget v i:=fun i hi=>by
 have h1:=h.le d1 (fun i hi=>by rw [← hu i hi]; grind) (fun i hi=>by rw [← hv i hi]; grind) i hi
 have h2:=h.le d1 (fun i hi=>by rw [← hv i hi]; grind) (fun i hi=>by rw [← hu i hi]; grind) i hi
 grind
theorem Z9n {u v:List Rat}(hl:u.length=v.length) (h:∀ i,i<v.length→rget u i=rget v i):u=v:=by
 refine List.ext_getElem hl fun i h1 h2=>?_
 have:=h i h2
 unfold rget at this
 rwa [List.getD_eq_getElem?_getD,List.getD_eq_getElem?_getD,List.getElem?_eq_getElem h1,List.getElem?_eq_getElem h2] at this
theorem Y7v {a b:Rat}:(cmpR a b=1)=(b<a):=propext (by unfold cmpR; constructor <;> intro h <;> grind)
theorem Ymn {a b:Rat}:(cmpR a b = -1)=(a<b):=propext (by unfold cmpR; constructor <;> intro h <;> grind)
theorem Ybj {v:List Rat}{to:List Nat}:∀ {k:Nat},(∀ t,t<k→rget v (to.getD t 0)≤rget v (to.getD (bestG v to 1 k) 0))∧(∀ t,t<bestG v to 1 k→rget v (to.getD t 0)<rget v (to.getD (bestG v to 1 k) 0))∧bestG v to 1 k≤k
 | 0=>⟨fun t h=>by omega,fun t h=>by unfold bestG at h; omega,by unfold bestG; omega⟩
 | k+1=>by
  obtain ⟨h1,h2,h3⟩:=Ybj (v:=v) (to:=to) (k:=k)
  rw [show bestG v to 1 (k+1)=if cmpR (rget v (to.getD k 0)) (rget v (to.getD (bestG v to 1 k) 0))=1 then k else bestG v to 1 k from rfl]
  split
  ·rename_i hc
   rw [Y7v] at hc
   refine ⟨fun t ht=>?_,fun t ht=>?_,by omega⟩
   ·by_cases htk:t=k
    ·rw [htk]; grind
    ·have:=h1 t (by omega); grind
   ·have:=h1 t ht; grind
  ·rename_i hc
   rw [Y7v] at hc
   refine ⟨fun t ht=>?_,h2,by omega⟩
   by_cases htk:t=k
   ·rw [htk]; grind
   ·exact h1 t (by omega)
theorem Z45 {v:List Rat}{to:List Nat}:∀ {k:Nat},(∀ t,t<k→rget v (to.getD (bestG v to (-1) k) 0)≤rget v (to.getD t 0))∧(∀ t,t<bestG v to (-1) k→rget v (to.getD (bestG v to (-1) k) 0)<rget v (to.getD t 0))∧bestG v to (-1) k≤k
 | 0=>⟨fun t h=>by omega,fun t h=>by unfold bestG at h; omega,by unfold bestG; omega⟩
 | k+1=>by
  obtain ⟨h1,h2,h3⟩:=Z45 (v:=v) (to:=to) (k:=k)
  rw [show bestG v to (-1) (k+1)=if cmpR (rget v (to.getD k 0)) (rget v (to.getD (bestG v to (-1) k) 0))=(-1) then k else bestG v to (-1) k from rfl]
  split
  ·rename_i hc
   rw [Ymn] at hc
   refine ⟨fun t ht=>?_,fun t ht=>?_,by omega⟩
   ·by_cases htk:t=k
    ·rw [htk]; grind
    ·have:=h1 t (by omega); grind
   ·have:=h1 t ht; grind
  ·rename_i hc
   rw [Ymn] at hc
   refine ⟨fun t ht=>?_,h2,by omega⟩
   by_cases htk:t=k
   ·rw [htk]; grind
   ·exact h1 t (by omega)
def sumO (odds:List Rat):Nat→Rat
 | 0=>0
 | i+1=>sumO odds i+rget odds i
theorem Yz7 {odds u v:List Rat}{to:List Nat}{c:Rat}:∀ {i:Nat},(∀ t,t<i→0≤rget odds t)→(∀ t,t<i→rget u (to.getD t 0)≤rget v (to.getD t 0)+c)→dotW odds u to i≤dotW odds v to i+c*sumO odds i
 | 0,_,_=>by simp only [dotW,sumO]; grind
 | i+1,h0,h=>by
  have ih:=Yz7 (odds:=odds) (u:=u) (v:=v) (to:=to) (c:=c) (i:=i) (fun t ht=>h0 t (by omega)) (fun t ht=>h t (by omega))
  have h1:=h i (by omega)
  have h2:=Rat.mul_nonneg (h0 i (by omega)) (show 0≤rget v (to.getD i 0)+c - rget u (to.getD i 0) by grind)
  simp only [dotW,sumO]
  generalize rget odds i=o at *
  generalize rget u (to.getD i 0)=x at *
  generalize rget v (to.getD i 0)=y at *
  generalize sumO odds i=s at *
  generalize dotW odds u to i=p at *
  generalize dotW odds v to i=q at *
  grind
structure GmP (g:Gm):Prop where
 ok:GmOk g
 d0:0≤g.d
 d1:g.d<1
 odds:∀ x,x∈g.nodes→x.kind=3→(∀ q,q∈x.odds→0≤q)∧sumO x.odds x.to.length=1
def nodeAt (g:Gm) (i:Nat):GN:=g.nodes.getD i default
theorem Zb4 {g:Gm}{i:Nat}(h:i<g.nodes.length):nodeAt g i∈g.nodes:=List.mem_of_getElem? (show g.nodes[i]? = some _ by unfold nodeAt; rw [List.getD_eq_getElem?_getD,List.getElem?_eq_getElem h]; rfl)
def worthP (x:GN) (k:Nat) (v:List Rat):Rat:=if x.kind=3 then dotW x.odds v x.to x.to.length else rget v (x.to.getD k 0)
def pget (p:List Int) (i:Nat):Nat:=(p.getD i 0).toNat
def planV (g:Gm) (p:List Int) (v:List Rat) (i:Nat):Rat:=rget g.rew i+g.d*worthP (nodeAt g i) (pget p i) v
theorem Zbl {to:List Nat}{k:Nat}(h:k<to.length):to.getD k 0∈to:=List.mem_of_getElem? (Zcc h)
theorem Yob {g:Gm}(hg:GmP g) {x:GN}(hx:x∈g.nodes) (h3:x.kind=3) {u v:List Rat}{c:Rat}(h:∀ j,j<g.nodes.length→rget u j≤rget v j+c):dotW x.odds u x.to x.to.length≤dotW x.odds v x.to x.to.length+c:=by
 obtain ⟨o1,o2⟩:=hg.odds x hx h3
 have ho:=((hg.ok.node x hx).odds h3).1
 have:=Yz7 (odds:=x.odds) (u:=u) (v:=v) (to:=x.to) (c:=c) (i:=x.to.length) (fun t ht=>o1 _ (List.mem_of_getElem? (Zai (by omega)))) (fun t ht=>h _ ((hg.ok.node x hx).lt _ (Zbl ht)))
 rw [o2] at this
 grind
theorem dmul {d a b c:Rat}(d0:0≤d) (h:a≤b+c) (r:Rat):r+d*a≤r+d*b+d*c:=by
 have:=Rat.mul_nonneg d0 (show 0≤b+c - a by grind)
 grind
def POk (g:Gm) (p:List Int):Prop:=p.length=g.nodes.length∧∀ i,i<g.nodes.length→(nodeAt g i).kind≠3→0≤p.getD i 0∧p.getD i 0<((nodeAt g i).to.length:Int)
theorem POk.lt {g:Gm}{p:List Int}(h:POk g p) {i:Nat}(hi:i<g.nodes.length) (h3:(nodeAt g i).kind≠3):pget p i<(nodeAt g i).to.length:=by
 have:=h.2 i hi h3
 unfold pget
 omega
theorem Yq3 {g:Gm}(hg:GmP g) {p:List Int}(hp:POk g p):Sh g.nodes.length g.d (planV g p):=fun u v c h i hi=>by
 unfold planV
 refine dmul hg.d0 ?_ _
 have hx:=Zb4 hi
 have hlt:=hp.lt hi
 generalize nodeAt g i=x at *
 unfold worthP
 split
 ·rename_i h3
  exact Yob hg hx h3 h
 ·rename_i h3
  exact h _ ((hg.ok.node x hx).lt _ (Zbl (hlt h3)))
theorem Y95 {g:Gm}(hg:GmP g):Sh g.nodes.length g.d (nextV g):=fun u v c h i hi=>by
 unfold nextV
 refine dmul hg.d0 ?_ _
 have hx:=Zb4 hi
 have hok:=hg.ok.node _ hx
 show worthR (nodeAt g i) u≤worthR (nodeAt g i) v+c
 generalize nodeAt g i=x at *
 have hm:∀ t,t<x.to.length→rget u (x.to.getD t 0)≤rget v (x.to.getD t 0)+c:=fun t ht=>h _ (hok.lt _ (Zbl ht))
 unfold worthR
 split
 ·have b1:=Ze9 (v:=u) (sg:=1) hok.pos (Nat.le_refl _)
  have b2:=(Ybj (v:=v) (to:=x.to) (k:=x.to.length)).1 _ b1
  have b3:=hm _ b1
  unfold bestA at *
  grind
 ·split
  ·have b1:=Ze9 (v:=v) (sg := -1) hok.pos (Nat.le_refl _)
   have b2:=(Z45 (v:=u) (to:=x.to) (k:=x.to.length)).1 _ b1
   have b3:=hm _ b1
   unfold bestA at *
   grind
  ·rename_i h1 h2
   exact Yob hg hx (by have:=hok.kind; omega) h
def Ltv (n:Nat) (u v:List Rat):Prop:=(∀ i,i<n→rget u i≤rget v i)∧∃ i,i<n∧rget u i<rget v i
theorem Ltv.trans {n:Nat}{u v w:List Rat}(h:Ltv n u v) (k:Ltv n v w):Ltv n u w:=by
 obtain ⟨h1,i,hi,h2⟩:=h
 refine ⟨fun j hj=>Rat.le_trans (h1 j hj) (k.1 j hj),i,hi,?_⟩
 have:=k.1 i hi
 grind
theorem Ltv.irrefl {n:Nat}{u:List Rat}(h:Ltv n u u):False:=by
 obtain ⟨_,i,hi,h2⟩:=h
 grind
def PVal (g:Gm) (p:List Int) (v:List Rat):Prop:=v.length=g.nodes.length∧∀ i,i<g.nodes.length→rget v i=planV g p v i
theorem Y5y {g:Gm}(hg:GmP g) {p:List Int}(hp:POk g p) {u v:List Rat}(hu:PVal g p u) (h1:∀ i,i<g.nodes.length→planV g p v i≤rget v i) (h2:∃ i,i<g.nodes.length∧planV g p v i<rget v i):Ltv g.nodes.length u v:=by
 have hs:=Yq3 hg hp
 have hle:=hs.le hg.d1 (u:=u) (v:=v) (fun i hi=>by rw [← hu.2 i hi]; grind) h1
 obtain ⟨i,hi,hl⟩:=h2
 refine ⟨hle,i,hi,?_⟩
 have:=hs.mono hle i hi
 rw [hu.2 i hi]
 grind
theorem Y3n {g:Gm}(hg:GmP g) {p:List Int}(hp:POk g p) {u v:List Rat}(hu:PVal g p u) (h1:∀ i,i<g.nodes.length→rget v i≤planV g p v i) (h2:∃ i,i<g.nodes.length∧rget v i<planV g p v i):Ltv g.nodes.length v u:=by
 have hs:=Yq3 hg hp
 have hle:=hs.le hg.d1 (u:=v) (v:=u) h1 (fun i hi=>by rw [← hu.2 i hi]; grind)
 obtain ⟨i,hi,hl⟩:=h2
 refine ⟨hle,i,hi,?_⟩
 have:=hs.mono hle i hi
 rw [hu.2 i hi]
 grind
def sgn (who:Nat):Int:=if who=1 then 1 else -1
def bet1 (g:Gm) (v:List Rat) (who:Nat) (p:List Int) (i:Nat):Bool :=
 decide ((nodeAt g i).kind=who) && decide (cmpR (rget v ((nodeAt g i).to.getD (bestA v (nodeAt g i).to (sgn who)) 0)) (rget v ((nodeAt g i).to.getD (pget p i) 0))=sgn who)
def betI (g:Gm) (v:List Rat) (who:Nat) (p:List Int) (i:Nat):Int:=if bet1 g v who p i=true then (bestA v (nodeAt g i).to (sgn who):Int) else p.getD i 0
def betP (g:Gm) (v:List Rat) (who:Nat) (p:List Int):List Int:=(List.range g.nodes.length).map (betI g v who p)
def betC (g:Gm) (v:List Rat) (who:Nat) (p:List Int):Bool:=(List.range g.nodes.length).any (bet1 g v who p)
theorem Zqn {g:Gm}{v:List Rat}{who:Nat}{p:List Int}{i:Nat}(hi:i<g.nodes.length):(betP g v who p).getD i 0=betI g v who p i:=by
 unfold betP
 rw [List.getD_eq_getElem?_getD,List.getElem?_map,List.getElem?_range hi]; rfl
def POk0 (g:Gm) (p:List Int):Prop:=p.length=g.nodes.length∧∀ i,i<g.nodes.length→0≤p.getD i 0∧p.getD i 0<((nodeAt g i).to.length:Int)
theorem POk0.ok {g:Gm}{p:List Int}(h:POk0 g p):POk g p:=⟨h.1,fun i hi _=>h.2 i hi⟩
theorem Ydq {g:Gm}(hg:GmP g) {v:List Rat}{who:Nat}{p:List Int}(hp:POk0 g p):POk0 g (betP g v who p):=by
 refine ⟨by unfold betP; rw [List.length_map,List.length_range],fun i hi=>?_⟩
 rw [Zqn hi]
 unfold betI
 split
 ·have:=Ze9 (v:=v) (sg:=sgn who) (hg.ok.node _ (Zb4 hi)).pos (Nat.le_refl _)
  unfold bestA
  omega
 ·exact hp.2 i hi
def Same1 (g:Gm) (p q:List Int):Prop:=∀ i,i<g.nodes.length→(nodeAt g i).kind=1→p.getD i 0=q.getD i 0
theorem Znt {x:GN}{k:Nat}{v:List Rat}(h:x.kind≠3):worthP x k v=rget v (x.to.getD k 0):=by unfold worthP; rw [if_neg h]
theorem dlt {d a b r:Rat}(hd:0<d) (h:a<b):r+d*a<r+d*b:=by
 have:=Rat.mul_pos hd (show 0<b - a by grind)
 grind
theorem better2 {g:Gm}(hg:GmP g) {p:List Int}{v u:List Rat}(hp:POk0 g p) (hv:PVal g p v) (hd:0<g.d) (hc:betC g v 2 p=true) (hu:PVal g (betP g v 2 p) u):Ltv g.nodes.length u v:=by
 have key:∀ i,i<g.nodes.length→bet1 g v 2 p i=true→planV g (betP g v 2 p) v i<rget v i:=fun i hi hb=>by
  rw [hv.2 i hi]
  unfold planV
  have hpg:pget (betP g v 2 p) i=bestA v (nodeAt g i).to (-1):=by
   unfold pget; rw [Zqn hi]; unfold betI; rw [if_pos hb]; simp [sgn]
  unfold bet1 at hb
  simp only [Bool.and_eq_true,decide_eq_true_eq] at hb
  have h3:(nodeAt g i).kind≠3:=by omega
  rw [Znt h3,Znt h3,hpg]
  have h2:=hb.2
  rw [show sgn 2 = -1 from rfl,Ymn] at h2
  exact dlt hd h2
 refine Y5y hg (Ydq hg hp).ok hu (fun i hi=>?_) ?_
 ·by_cases hb:bet1 g v 2 p i=true
  ·have:=key i hi hb; grind
  ·rw [hv.2 i hi]
   unfold planV
   have:pget (betP g v 2 p) i=pget p i:=by unfold pget; rw [Zqn hi]; unfold betI; rw [if_neg hb]
   rw [this]; grind
 ·unfold betC at hc
  rw [List.any_eq_true] at hc
  obtain ⟨i,hi,hb⟩:=hc
  have hi:i<g.nodes.length:=by simpa using hi
  exact ⟨i,hi,key i hi hb⟩
theorem Z7s {g:Gm}{p:List Int}{v:List Rat}:Same1 g (betP g v 2 p) p:=fun i hi h1=>by
 rw [Zqn hi]
 have e:decide ((nodeAt g i).kind=2)=false:=by rw [h1]; rfl
 unfold betI bet1
 rw [e,Bool.false_and,if_neg (by decide)]
theorem nobetter {g:Gm}{p:List Int}{v:List Rat}{who:Nat}(hc:betC g v who p=false) {i:Nat}(hi:i<g.nodes.length):bet1 g v who p i=false:=by
 unfold betC at hc
 rw [List.any_eq_false] at hc
 have:=hc i (by simpa using hi)
 simpa using this
theorem better1 {g:Gm}(hg:GmP g) {p q:List Int}{v u:List Rat}(hp:POk0 g p) (hv:PVal g p v) (hd:0<g.d) (h2:betC g v 2 p=false) (hc:betC g v 1 p=true) (hq:POk0 g q) (hs:Same1 g q (betP g v 1 p)) (hu:PVal g q u):Ltv g.nodes.length v u:=by
 have key1:∀ i,i<g.nodes.length→bet1 g v 1 p i=true→rget v i<planV g q v i:=fun i hi hb=>by
  rw [hv.2 i hi]
  unfold planV
  have hk:(nodeAt g i).kind=1:=by unfold bet1 at hb; simp only [Bool.and_eq_true,decide_eq_true_eq] at hb; exact hb.1
  have hpg:pget q i=bestA v (nodeAt g i).to 1:=by
   unfold pget; rw [hs i hi hk,Zqn hi]; unfold betI; rw [if_pos hb]; simp [sgn]
  unfold bet1 at hb
  simp only [Bool.and_eq_true,decide_eq_true_eq] at hb
  have h3:(nodeAt g i).kind≠3:=by omega
  rw [Znt h3,Znt h3,hpg]
  have h2:=hb.2
  rw [show sgn 1=1 from rfl,Y7v] at h2
  exact dlt hd h2
 refine Y3n hg hq.ok hu (fun i hi=>?_) ?_
 ·by_cases hb:bet1 g v 1 p i=true
  ·have:=key1 i hi hb; grind
  ·have hx:=Zb4 hi
   have hok:=hg.ok.node _ hx
   by_cases h1:(nodeAt g i).kind=1
   ·have:pget q i=pget p i:=by unfold pget; rw [hs i hi h1,Zqn hi]; unfold betI; rw [if_neg hb]
    rw [hv.2 i hi]
    unfold planV
    rw [this]; grind
   ·by_cases h3:(nodeAt g i).kind=3
    ·rw [hv.2 i hi]
     unfold planV worthP
     rw [if_pos h3,if_pos h3]; grind
    ·have hk2:(nodeAt g i).kind=2:=by have:=hok.kind; omega
     have hb2:=nobetter h2 hi
     have hlt:=hq.ok.lt hi h3
     unfold bet1 at hb2
     simp only [hk2,decide_true,Bool.true_and,decide_eq_false_iff_not] at hb2
     rw [show sgn 2 = -1 from rfl,Ymn] at hb2
     have b2:=(Z45 (v:=v) (to:=(nodeAt g i).to) (k:=(nodeAt g i).to.length)).1 _ hlt
     rw [hv.2 i hi]
     unfold planV
     rw [Znt h3,Znt h3]
     unfold bestA at hb2
     have:=dmul (d:=g.d) (c:=0) hg.d0 (show rget v ((nodeAt g i).to.getD (pget p i) 0)≤rget v ((nodeAt g i).to.getD (pget q i) 0)+0 by grind) (rget g.rew i)
     grind
 ·unfold betC at hc
  rw [List.any_eq_true] at hc
  obtain ⟨i,hi,hb⟩:=hc
  have hi:i<g.nodes.length:=by simpa using hi
  exact ⟨i,hi,key1 i hi hb⟩
theorem Ytr {g:Gm}(hg:GmP g) {p:List Int}{v:List Rat}(hp:POk0 g p) (hv:PVal g p v) (h1:betC g v 1 p=false) (h2:betC g v 2 p=false):∀ i,i<g.nodes.length→rget v i=nextV g v i:=fun i hi=>by
 have hx:=Zb4 hi
 have hok:=hg.ok.node _ hx
 rw [hv.2 i hi]
 unfold planV nextV
 congr 1
 show _=g.d*worthR (nodeAt g i) v
 congr 1
 have hlt:=hp.ok.lt hi
 have b1:=nobetter h1 hi
 have b2:=nobetter h2 hi
 unfold bet1 at b1 b2
 generalize nodeAt g i=x at *
 generalize pget p i=k at *
 unfold worthP worthR
 by_cases k1:x.kind=1
 ·have m:=(Ybj (v:=v) (to:=x.to) (k:=x.to.length)).1 _ (hlt (by omega))
  simp only [k1,decide_true,Bool.true_and,decide_eq_false_iff_not] at b1
  rw [show sgn 1=1 from rfl,Y7v] at b1
  rw [if_neg (by omega),if_pos k1]
  unfold bestA at *
  grind
 ·by_cases k2:x.kind=2
  ·have m:=(Z45 (v:=v) (to:=x.to) (k:=x.to.length)).1 _ (hlt (by omega))
   simp only [k2,decide_true,Bool.true_and,decide_eq_false_iff_not] at b2
   rw [show sgn 2 = -1 from rfl,Ymn] at b2
   rw [if_neg (by omega),if_neg k1,if_pos k2]
   unfold bestA at *
   grind
  ·rw [if_pos (by have:=hok.kind; omega),if_neg k1,if_neg k2]
end GoAbs
namespace GoAbs
open Go Go.Proofs
def oddsQ (l:List Mv):List Rat:=(l.filter hasO).map fun m=>(parseL m.2).getD 0
def toGN (n:Nd):GN:=⟨n.kind.toNat,n.mv.map (·.1.toNat),oddsQ n.mv⟩
def toGm (L:List Nd) (d:List UInt8):Gm:=⟨L.map toGN,L.map (fun n=>(parseL n.rew).getD 0),(parseL d).getD 0⟩
theorem okBq {l:List UInt8}(h:okB l=true):parseL l=some ((parseL l).getD 0):=by
 unfold okB at h
 cases hp:parseL l with
 | none=>rw [hp] at h; simp at h
 | some q=>rfl
theorem tc_q {l:List UInt8}(hl:l.length≤23) (h:okB l=true):tc l=qcell ((parseL l).getD 0):=(Zj6 hl).1.q _ (okBq h)
theorem Yju {q:Rat}(h:Fitd 12 q):Qb 40 q:=by
 have c:10 ^ 12<2 ^ 40:=by decide
 exact ⟨Nat.lt_trans (Z50 h.1) c,Nat.lt_trans (Z50 h.2) c⟩
theorem Z6y {l:List UInt8}(h:smallB l=true):Fitd 12 ((parseL l).getD 0):=by
 unfold smallB at h
 cases hp:parseL l with
 | none=>rw [hp] at h; simp at h
 | some q=>rw [hp] at h; simpa using h
theorem Yc0 {p:List Rat}{x:Rat}:∀ {k:Nat},k≤p.length→sumO (p ++ [x]) k=sumO p k
 | 0,_=>rfl
 | k+1,h=>by
  simp only [sumO]
  rw [Yc0 (by omega)]
  congr 1
  unfold rget
  rw [List.getD_eq_getElem?_getD,List.getD_eq_getElem?_getD,List.getElem?_append_left (by omega)]
theorem Yzc {p:List Rat}{x:Rat}:sumO (p ++ [x]) (p ++ [x]).length=sumO p p.length+x:=by
 rw [List.length_append,List.length_cons,List.length_nil]
 show sumO (p ++ [x]) p.length+rget (p ++ [x]) p.length=_
 rw [Yc0 (Nat.le_refl _)]
 congr 1
 unfold rget
 rw [List.getD_eq_getElem?_getD,List.getElem?_append_right (Nat.le_refl _),Nat.sub_self]; rfl
theorem Ylk:∀ (n:Nat) {l:List Mv},l.length=n→vaM l=true→sumM l=sumO (oddsQ l) (oddsQ l).length
 | 0,l,hl,_=>by rw [List.eq_nil_of_length_eq_zero hl]; rfl
 | n+1,l,hl,hv=>by
  obtain ⟨l',m,rfl⟩:∃ l' m,l=l' ++ [m]:=by
   rcases List.eq_nil_or_concat l with h | ⟨l',m,h⟩
   ·rw [h] at hl; simp at hl
   ·exact ⟨l',m,by simpa using h⟩
  unfold vaM at hv
  rw [List.all_append,Bool.and_eq_true] at hv
  have ih:=Ylk n (l:=l') (by simpa using hl) hv.1
  have h2:=hv.2
  simp only [List.all_cons,List.all_nil,Bool.and_true] at h2
  rw [Yeo,ih]
  unfold stepM oddsQ
  rw [List.filter_append,List.map_append]
  by_cases he:m.2.isEmpty=true
  ·rw [if_pos he]
   have : [m].filter hasO = []:=by simp [hasO,he]
   rw [this]; simp
  ·rw [if_neg he]
   have : [m].filter hasO = [m]:=by simp [hasO,he]
   have hb:okB m.2=true:=by simpa [he] using h2
   rw [this,List.map_cons,List.map_nil,Yzc]
   have:=okBq hb
   rw [this]; rfl
theorem Xdl {N:Nat}{n:Nd}(hv:ndVa n=true) (hf:ndFi N n=true) (hl:n.rew.length≤23∧n.mv.length≤7∧∀ m,m∈n.mv→m.2.length≤23) :
  gN n = [gnAV (toGN n)]∧GnOk N (toGN n)∧((toGN n).kind=3→(∀ q,q∈(toGN n).odds→0≤q)∧sumO (toGN n).odds (toGN n).to.length=1):=by
 unfold ndVa at hv
 rw [Bool.and_eq_true] at hv
 unfold ndFi at hf
 simp only [Bool.and_eq_true,decide_eq_true_eq] at hf
 obtain ⟨⟨⟨f1,f2⟩,f3⟩,f4⟩:=hf
 have hm:∀ m,m∈n.mv→(0≤m.1∧m.1<(N:Int))∧((!m.2.isEmpty)=decide (n.kind=3))∧(m.2.isEmpty=false→okB m.2=true∧0<(parseL m.2).getD 0∧Fitd 12 ((parseL m.2).getD 0)):=fun m hmm=>by
  have a:=List.all_eq_true.1 f2 m hmm
  have b:=List.all_eq_true.1 hv.2 m hmm
  unfold mvFit mvFit1 at a
  simp only [Bool.and_eq_true,decide_eq_true_eq,beq_iff_eq,Bool.or_eq_true] at a b
  refine ⟨a.1.1,a.1.2,fun he=>?_⟩
  have hb:okB m.2=true:=by rcases b with b | b; rw [b] at he; exact absurd he (by decide); exact b
  have ha:(match parseL m.2 with | some q=>mvFit2 q | none=>true)=true:=by rcases a.2 with b | b; rw [b] at he; exact absurd he (by decide); exact b
  rw [okBq hb] at ha
  unfold mvFit2 at ha
  simp only [Bool.and_eq_true,decide_eq_true_eq] at ha
  exact ⟨hb,ha⟩
 have hk:n.kind=1∨n.kind=2∨n.kind=3:=by
  unfold kindF at f4
  simp only [Bool.or_eq_true,Bool.and_eq_true,decide_eq_true_eq] at f4
  omega
 have hto:nv (n.mv.map (·.1.toNat))=tosI n.mv:=by
  unfold nv tosI
  rw [List.map_map]
  exact List.map_congr_left fun m hmm=>by have:=(hm m hmm).1; simp; omega
 have h3:n.kind=3→n.mv.filter hasO=n.mv:=fun h=>List.filter_eq_self.2 fun m hmm=>by
  have:=(hm m hmm).2.1
  rw [h] at this
  unfold hasO
  rw [this]; rfl
 have hodds:(oddsT n.mv).map AV.agg=condsR (oddsQ n.mv):=by
  unfold oddsT oddsQ condsR
  rw [List.map_map,List.map_map]
  refine List.map_congr_left fun m hmm=>?_
  have hmm':=List.mem_filter.1 hmm
  have he:m.2.isEmpty=false:=by have:=hmm'.2; unfold hasO at this; simpa using this
  show AV.agg (tc m.2)=avQ _
  rw [tc_q (hl.2.2 m hmm'.1) ((hm m hmm'.1).2.2 he).1,Zau]
 have hoq:∀ q,q∈oddsQ n.mv→0<q∧Qb 40 q:=fun q hq=>by
  obtain ⟨m,hmm,rfl⟩:=List.mem_map.1 hq
  have hmm':=List.mem_filter.1 hmm
  have he:m.2.isEmpty=false:=by have:=hmm'.2; unfold hasO at this; simpa using this
  obtain ⟨_,a,b⟩:=(hm m hmm'.1).2.2 he
  exact ⟨a,Yju b⟩
 have hlen3:n.kind=3→(oddsQ n.mv).length=n.mv.length:=fun h=>by unfold oddsQ; rw [List.length_map,h3 h]
 refine ⟨?_,⟨?_,?_,?_,?_,?_⟩,fun h=>⟨fun q hq=>Rat.le_of_lt (hoq q hq).1,?_⟩⟩
 ·unfold gN gnAV toGN
  simp only [hto,hodds]
  rcases hk with h | h | h <;> simp [h]
 ·show n.kind.toNat=1∨n.kind.toNat=2∨n.kind.toNat=3; omega
 ·show 0<(n.mv.map _).length; rw [List.length_map]; omega
 ·show (n.mv.map _).length≤6; rw [List.length_map]; omega
 ·intro x hx
  obtain ⟨m,hmm,rfl⟩:=List.mem_map.1 hx
  have:=(hm m hmm).1
  omega
 ·intro h
  have h':n.kind=3:=by have:n.kind.toNat=3:=h; omega
  refine ⟨?_,fun q hq=>(hoq q hq).2⟩
  show (oddsQ n.mv).length=(n.mv.map _).length
  rw [List.length_map,hlen3 h']
 ·have h':n.kind=3:=by have:n.kind.toNat=3:=h; omega
  show sumO (oddsQ n.mv) (n.mv.map _).length=1
  rw [List.length_map, ← hlen3 h', ← Ylk _ rfl hv.2]
  unfold kindF at f4
  simpa [h'] using f4
theorem Xil {L:List Nd}{d:List UInt8}(hv:(L.all ndVa && okB d)=true) (hf:gFit L d=true) (hd:d.length≤23) (hok:∀ n,n∈L→n.rew.length≤23∧n.mv.length≤7∧∀ m,m∈n.mv→m.2.length≤23) :
  (.sl (nodesT L) :: .sl ((rowT L).map .agg)::tc d)=gmC (toGm L d)∧GmP (toGm L d):=by
 rw [Bool.and_eq_true] at hv
 unfold gFit disF at hf
 simp only [Bool.and_eq_true,decide_eq_true_eq] at hf
 obtain ⟨⟨h1,h2⟩,h3,h4⟩:=hf
 rw [okBq hv.2] at h4
 simp only [Bool.and_eq_true,decide_eq_true_eq] at h4
 have hn:∀ n,n∈L→_:=fun n hn=>Xdl (N:=L.length) (List.all_eq_true.1 hv.1 n hn) (List.all_eq_true.1 h2 n hn) (hok n hn)
 have hvn:∀ n,n∈L→okB n.rew=true∧smallB n.rew=true:=fun n hn=>by
  have a:=List.all_eq_true.1 hv.1 n hn
  have b:=List.all_eq_true.1 h2 n hn
  unfold ndVa at a
  unfold ndFi at b
  simp only [Bool.and_eq_true,decide_eq_true_eq] at a b
  exact ⟨a.1,b.1.1.1⟩
 refine ⟨?_,⟨⟨?_,?_,?_,?_,?_⟩,h4.1,h4.2,?_⟩⟩
 ·unfold gmC toGm
  congr 1
  ·congr 1
   unfold nodesT
   rw [List.map_map,List.flatMap_def]
   rw [show L.map gN=(L.map (gnAV ∘ toGN)).map (fun x => [x]) by rw [List.map_map]; exact List.map_congr_left fun n h=>(hn n h).1]
   rw [← List.flatMap_def]; simp
  ·congr 1
   ·congr 1
    unfold rowT condsR
    rw [List.map_map,List.map_map]
    refine List.map_congr_left fun n h=>?_
    show AV.agg (tc n.rew)=avQ _
    rw [tc_q (hok n h).1 (hvn n h).1,Zau]
   ·exact tc_q hd hv.2
 ·show (L.map toGN).length≤10; rw [List.length_map]; omega
 ·show (L.map _).length=(L.map toGN).length; rw [List.length_map,List.length_map]
 ·intro x hx
  obtain ⟨n,h,rfl⟩:=List.mem_map.1 hx
  show GnOk (L.map toGN).length _
  rw [List.length_map]
  exact (hn n h).2.1
 ·intro q hq
  obtain ⟨n,h,rfl⟩:=List.mem_map.1 hq
  exact Yju (Z6y (hvn n h).2)
 ·exact Yju (Z6y h3)
 ·intro x hx h3
  obtain ⟨n,h,rfl⟩:=List.mem_map.1 hx
  exact (hn n h).2.2 h3
end GoAbs
namespace GoAbs
open Go Go.Proofs
def Z94:List IOp := [oI 3 (.box (.t 1)) 0,oI 4 (.mv (.c (.bool false))) 1]
def Z96:List IOp := [fI 8 0 3 0,lI 9 8 0,oI 10 (.call 52 [.t 9,cI 1,cI 3]) 0,oI 11 (.un .not (.t 10)) 0,mI 12 11 0,gI 13 (.fa 1 (.t 3)) 0 12 false,gI 14 (.ld none (.t 13)) 0 12 false,gI 15 (.call 53 [.t 14,cI 12]) 0 12 false,gI 16 (.un .not (.t 15)) 0 12 false,oI 17 (.pick (.t 12) (.c (.bool true)) (.t 16)) 0,mI 18 17 0,gI 19 (.fa 2 (.t 3)) 0 18 false,gI 20 (.ld none (.t 19)) 0 18 false,gI 21 (.len (.t 20)) 0 18 false,gI 22 (.call 52 [.t 21,cI 1,cI 6]) 0 18 false,gI 23 (.un .not (.t 22)) 0 18 false,oI 24 (.pick (.t 18) (.c (.bool true)) (.t 23)) 0]
def Zlc:List IOp := [oI 4 (.mv (.c (.bool false))) 0]
def Yab:List IOp := [oI 25 (.call 31 [cI 0]) 0,oI 5 (.alloc [.bool false,.nils,.bool false,.nils]) 0,⟨none,.st 4 (.t 5) (.t 25),1,[],[],none⟩]
def Z8a:List IOp := [oI 6 (.mv (cI 0)) 0]
def Ztl:List IOp := [mI 26 6 0,fI 27 2 3 0,lI 28 27 0,oI 29 (.len (.t 28)) 0,oI 30 (.bin .lss (.t 26) (.t 29)) 0]
def Z9q:List IOp := [fI 33 2 3 0,lI 34 33 0,mI 35 6 0,xI 36 2 34 35 0,lJ 37 2 36 0,oI 7 (.alloc [.int .i64 0,.str ⟨#[]⟩]) 0,⟨none,.st 2 (.t 7) (.t 37),1,[],[],none⟩]
def Z81:List IOp := [fI 38 0 7 0,lI 39 38 0,mI 40 0 0,oI 41 (.len (.t 40)) 0,oI 42 (.bin .sub (.t 41) (cI 1)) 0,oI 43 (.call 52 [.t 39,cI 0,.t 42]) 0,oI 44 (.un .not (.t 43)) 0,mI 45 44 0,gI 46 (.fa 1 (.t 7)) 0 45 false,gI 47 (.ld none (.t 46)) 0 45 false,⟨some 48,.bin .eql (.t 47) (.c (.str ⟨#[]⟩)),0,[],[],some (45,false)⟩,gI 49 (.fa 0 (.t 3)) 0 45 false,gI 50 (.ld none (.t 49)) 0 45 false,gI 51 (.bin .neq (.t 50) (cI 3)) 0 45 false,gI 52 (.beq true (.t 48) (.t 51)) 0 45 false,oI 53 (.pick (.t 45) (.c (.bool true)) (.t 52)) 0,mI 54 53 0,gI 55 (.fa 1 (.t 7)) 0 54 false,gI 56 (.ld none (.t 55)) 0 54 false,gI 57 (.call 53 [.t 56,cI 12]) 0 54 false,gI 58 (.un .not (.t 57)) 0 54 false,oI 59 (.pick (.t 54) (.c (.bool true)) (.t 58)) 0]
def Zhp:List IOp := [oI 4 (.mv (.c (.bool false))) 0]
def Zqi:List IOp := [fI 60 1 7 0,lI 61 60 0,oI 62 (.bin .eql (.t 61) (.c (.str ⟨#[]⟩))) 0]
def Z5l:List IOp := [fI 63 1 7 0,lI 64 63 0,oI 65 (.call 21 [.t 64]) 0,oI 66 (.fld (some 2) 0 (.t 65)) 0,oI 67 (.call 54 [.t 66]) 0,oI 68 (.bin .leq (.t 67) (cI 0)) 0]
def Z3x:List IOp := [oI 4 (.mv (.c (.bool false))) 0]
def Zpj:List IOp := [lJ 69 4 5 0,fI 70 1 7 0,lI 71 70 0,oI 72 (.call 21 [.t 71]) 0,oI 73 (.callw 32 [.t 69,.t 72]) 0,oI 74 (.callw 73 [.t 73]) 0,⟨none,.st 4 (.t 5) (.t 74),0,[],[],none⟩]
@[go_sem ↓] theorem Ycu : autoK Zpj = (0, 1) := by kernel_rfl
@[go_sem] theorem Yxi : autoK [lJ 69 4 5 0, fI 70 1 7 0, lI 71 70 0, oI 72 (.call 21 [.t 71]) 0, oI 73 (.callw 32 [.t 69, .t 72]) 0, oI 74 (.callw 73 [.t 73]) 0, ⟨none, .st 4 (.t 5) (.t 74), 0, [], [], none⟩] = (0, 1) := Ycu
def Zqz:List IOp := [mI 31 6 0,oI 32 (.bin .add (.t 31) (cI 1)) 0,mI 6 32 0]
def Zts:CC := .seq (.seq (.rg false Ztl) (.cond (.t 30) .skip (.exit 0))) (.seq (.block 1 (.seq (.rg false Z9q) (.seq (.seq (.rg false Z81) (.cond (.t 59) (.seq (.rg false Zhp) .ret) .skip)) (.seq (.seq (.rg false Zqi) (.cond (.t 62) (.exit 1) .skip)) (.seq (.seq (.rg false Z5l) (.cond (.t 68) (.seq (.rg false Z3x) .ret) .skip)) (.rg true Zpj)))))) (.rg false Zqz))
def Zfe:List IOp := [fI 75 0 3 0,lI 76 75 0,oI 77 (.bin .neq (.t 76) (cI 3)) 0,mI 78 77 0,gI 79 (.ld (some 4) (.t 5)) 0 78 false,gI 80 (.call 31 [cI 1]) 0 78 false,gI 81 (.callw 25 [.t 79,.t 80]) 0 78 false,gI 82 (.bin .eql (.t 81) (cI 0)) 0 78 false,oI 83 (.pick (.t 78) (.c (.bool true)) (.t 82)) 0,mI 4 83 0]
@[go_sem ↓] theorem Ybu : autoK Zfe = (0, 0) := by kernel_rfl
@[go_sem] theorem Yxn : autoK [fI 75 0 3 0, lI 76 75 0, oI 77 (.bin .neq (.t 76) (cI 3)) 0, mI 78 77 0, gI 79 (.ld (some 4) (.t 5)) 0 78 false, gI 80 (.call 31 [cI 1]) 0 78 false, gI 81 (.callw 25 [.t 79, .t 80]) 0 78 false, gI 82 (.bin .eql (.t 81) (cI 0)) 0 78 false, oI 83 (.pick (.t 78) (.c (.bool true)) (.t 82)) 0, mI 4 83 0] = (0, 0) := Ybu
def Yn5:CC := .seq (.rg false Z94) (.seq (.seq (.rg false Z96) (.cond (.t 24) (.seq (.rg false Zlc) .ret) .skip)) (.seq (.rg false Yab) (.seq (.seq (.rg false Z8a) (.block 0 (.loop Zts))) (.seq (.rg true Zfe) .ret))))
abbrev Yv7:Nat:=55
theorem Yqn:fnOk Tryz.prog 55=some (84,Yn5,[.tmp 4]):=by kernel_rfl
def Z80:List IOp := [oI 2 (.box (.t 0)) 0,oI 4 (.alloc [.bool false,.nils,.bool false,.nils]) 1]
def Z7w:List IOp := [mI 8 1 0,fI 9 2 2 0,lI 10 9 0,oI 11 (.idx 2 (.t 10) (cI 0)) 0,fI 12 0 11 0,lI 13 12 0,xI 14 4 8 13 0,lJ 15 4 14 0,oI 5 (.alloc [.bool false,.nils,.bool false,.nils]) 0,⟨none,.st 4 (.t 5) (.t 15),1,[],[],none⟩]
def Z9g:List IOp := [fI 16 0 2 0,lI 17 16 0,oI 18 (.bin .eql (.t 17) (cI 3)) 0]
def Z8t:List IOp := [oI 19 (.call 31 [cI 0]) 0,⟨none,.st 4 (.t 5) (.t 19),0,[],[],none⟩]
def Zwr:List IOp := [oI 6 (.mv (cI 0)) 0]
def Zwd:List IOp := [mI 20 6 0,fI 21 2 2 0,lI 22 21 0,oI 23 (.len (.t 22)) 0,oI 24 (.bin .lss (.t 20) (.t 23)) 0]
def Z7i:List IOp := [mI 27 1 0,fI 28 2 2 0,lI 29 28 0,mI 30 6 0,xI 31 2 29 30 0,fI 32 0 31 0,lI 33 32 0,xI 34 4 27 33 0,lJ 35 4 34 0,oI 7 (.alloc [.bool false,.nils,.bool false,.nils]) 0,⟨none,.st 4 (.t 7) (.t 35),1,[],[],none⟩]
def Z8p:List IOp := [fI 36 0 2 0,lI 37 36 0]
def Z7r:List IOp := [oI 51 (.bin .eql (.t 37) (cI 1)) 0,mI 50 51 0]
def Z5x:List IOp := [lJ 52 4 7 0,lJ 53 4 5 0,oI 54 (.call 25 [.t 52,.t 53]) 0,oI 55 (.bin .gtr (.t 54) (cI 0)) 0]
def Z23:List IOp := [lJ 56 4 7 0,⟨none,.st 4 (.t 5) (.t 56),0,[],[],none⟩]
def Zpl:List IOp := [oI 58 (.bin .eql (.t 37) (cI 2)) 0,mI 57 58 0]
def Z5o:List IOp := [lJ 59 4 7 0,lJ 60 4 5 0,oI 61 (.call 25 [.t 59,.t 60]) 0,oI 62 (.bin .lss (.t 61) (cI 0)) 0]
def Z2m:List IOp := [lJ 63 4 7 0,⟨none,.st 4 (.t 5) (.t 63),0,[],[],none⟩]
def Zoz:List IOp := [lJ 38 4 5 0,fI 39 2 2 0,lI 40 39 0,mI 41 6 0,xI 42 2 40 41 0,fI 43 1 42 0,lI 44 43 0,oI 45 (.call 21 [.t 44]) 0,lJ 46 4 7 0,oI 47 (.call 28 [.t 45,.t 46]) 0,oI 48 (.callw 32 [.t 38,.t 47]) 0,oI 49 (.callw 73 [.t 48]) 0,⟨none,.st 4 (.t 5) (.t 49),0,[],[],none⟩]
@[go_sem ↓] theorem Yfa : autoK Zoz = (0, 1) := by kernel_rfl
@[go_sem] theorem Yxl : autoK [lJ 38 4 5 0, fI 39 2 2 0, lI 40 39 0, mI 41 6 0, xI 42 2 40 41 0, fI 43 1 42 0, lI 44 43 0, oI 45 (.call 21 [.t 44]) 0, lJ 46 4 7 0, oI 47 (.call 28 [.t 45, .t 46]) 0, oI 48 (.callw 32 [.t 38, .t 47]) 0, oI 49 (.callw 73 [.t 48]) 0, ⟨none, .st 4 (.t 5) (.t 49), 0, [], [], none⟩] = (0, 1) := Yfa
def Zdb:List IOp := [mI 25 6 0,oI 26 (.bin .add (.t 25) (cI 1)) 0,mI 6 26 0]
def Zk9:CC := .seq (.seq (.rg false Zwd) (.cond (.t 24) .skip (.exit 0))) (.seq (.block 1 (.seq (.rg false Z7i) (.seq (.rg false Z8p) (.block 2 (.seq (.rg false Z7r) (.cond (.t 50) (.seq (.rg false Z5x) (.cond (.t 55) (.rg false Z23) .skip)) (.seq (.rg false Zpl) (.cond (.t 57) (.seq (.rg false Z5o) (.cond (.t 62) (.rg false Z2m) .skip)) (.rg true Zoz))))))))) (.rg false Zdb))
def Zjf:List IOp := [lJ 64 4 5 0,⟨none,.st 4 (.t 4) (.t 64),0,[],[],none⟩]
def Ylz:CC := .seq (.rg false Z80) (.seq (.rg false Z7w) (.seq (.seq (.rg false Z9g) (.cond (.t 18) (.rg false Z8t) .skip)) (.seq (.seq (.rg false Zwr) (.block 0 (.loop Zk9))) (.seq (.rg false Zjf) .ret))))
abbrev Yuw:Nat:=77
theorem Ypn:fnOk Tryz.prog 77=some (65,Ylz,[.cell 4 (some 4)]):=by kernel_rfl
def Z69:List IOp := [oI 4 (.box (.t 1)) 0,oI 6 (.mv (.c .nils)) 1]
def Z7u:List IOp := [oI 9 (.bsl (some 4) 0 [.bool false,.nils,.bool false,.nils] []) 0,mI 7 9 1]
def Z8s:List IOp := [oI 8 (.mv (cI 0)) 0]
def Zwu:List IOp := [mI 10 8 0,mI 11 0 0,oI 12 (.len (.t 11)) 0,oI 13 (.bin .lss (.t 10) (.t 12)) 0]
def Zv2:List IOp := [mI 16 7 0,mI 17 0 0,mI 18 8 0,xI 19 3 17 18 0,fI 20 1 19 0,lI 21 20 0,oI 22 (.call 21 [.t 21]) 0,lJ 23 4 4 0,mI 24 0 0,mI 25 8 0,xI 26 3 24 25 0,lJ 27 3 26 0,mI 28 2 0,oI 29 (.call 77 [.t 27,.t 28]) 0,oI 30 (.call 28 [.t 23,.t 29]) 0,oI 31 (.call 32 [.t 22,.t 30]) 0,oI 32 (.call 73 [.t 31]) 0,oI 33 (.bsl (some 4) 1 [.bool false,.nils,.bool false,.nils] [(0,.t 32)]) 0,⟨some 34,.app (some 4) 64 (.t 16) (.t 33),1,[0],[],none⟩,⟨some 7,.mv (.t 34),2,[0,1],[],none⟩]
@[go_sem ↓] theorem Yft : autoK Zv2 = (2, 1) := by kernel_rfl
@[go_sem] theorem Yx3 : autoK [mI 16 7 0, mI 17 0 0, mI 18 8 0, xI 19 3 17 18 0, fI 20 1 19 0, lI 21 20 0, oI 22 (.call 21 [.t 21]) 0, lJ 23 4 4 0, mI 24 0 0, mI 25 8 0, xI 26 3 24 25 0, lJ 27 3 26 0, mI 28 2 0, oI 29 (.call 77 [.t 27, .t 28]) 0, oI 30 (.call 28 [.t 23, .t 29]) 0, oI 31 (.call 32 [.t 22, .t 30]) 0, oI 32 (.call 73 [.t 31]) 0, oI 33 (.bsl (some 4) 1 [.bool false, .nils, .bool false, .nils] [(0, .t 32)]) 0, ⟨some 34, .app (some 4) 64 (.t 16) (.t 33), 1, [0], [], none⟩, ⟨some 7, .mv (.t 34), 2, [0, 1], [], none⟩] = (2, 1) := Yft
def Z7n:List IOp := [mI 14 8 0,oI 15 (.bin .add (.t 14) (cI 1)) 0,mI 8 15 0]
def Z89:CC := .seq (.seq (.rg false Zwu) (.cond (.t 13) .skip (.exit 0))) (.seq (.block 1 (.rg true Zv2)) (.rg false Z7n))
def Z8c:List IOp := [mI 35 7 0,mI 6 35 0]
def Ymp:CC := .seq (.rg false Z69) (.seq (.rg false Z7u) (.seq (.seq (.rg false Z8s) (.block 0 (.loop Z89))) (.seq (.rg false Z8c) .ret)))
abbrev Yuv:Nat:=58
theorem Ypy:fnOk Tryz.prog 58=some (36,Ymp,[.tmp 6]):=by kernel_rfl
def Zzq:List IOp := [oI 4 (.box (.t 1)) 0,oI 6 (.mv (.c (.bool false))) 1]
def Zx1:List IOp := [mI 9 0 0,lJ 10 4 4 0,mI 11 2 0,oI 12 (.call 58 [.t 9,.t 10,.t 11]) 0,mI 7 12 0]
def Zzf:List IOp := [oI 8 (.mv (cI 0)) 0]
def Zm5:List IOp := [mI 13 8 0,mI 14 0 0,oI 15 (.len (.t 14)) 0,oI 16 (.bin .lss (.t 13) (.t 15)) 0]
def Zl4:List IOp := [mI 19 2 0,mI 20 8 0,xI 21 4 19 20 0,lJ 22 4 21 0,mI 23 7 0,mI 24 8 0,xI 25 4 23 24 0,lJ 26 4 25 0,oI 27 (.callw 25 [.t 22,.t 26]) 0,oI 28 (.bin .neq (.t 27) (cI 0)) 0]
@[go_sem ↓] theorem Yay : autoK Zl4 = (0, 0) := by kernel_rfl
@[go_sem] theorem Ywg : autoK [mI 19 2 0, mI 20 8 0, xI 21 4 19 20 0, lJ 22 4 21 0, mI 23 7 0, mI 24 8 0, xI 25 4 23 24 0, lJ 26 4 25 0, oI 27 (.callw 25 [.t 22, .t 26]) 0, oI 28 (.bin .neq (.t 27) (cI 0)) 0] = (0, 0) := Yay
def Zzg:List IOp := [oI 6 (.mv (.c (.bool false))) 0]
def Zy1:List IOp := [mI 17 8 0,oI 18 (.bin .add (.t 17) (cI 1)) 0,mI 8 18 0]
def Zyx:CC := .seq (.seq (.rg false Zm5) (.cond (.t 16) .skip (.exit 0))) (.seq (.block 1 (.seq (.rg true Zl4) (.cond (.t 28) (.seq (.rg false Zzg) .ret) .skip))) (.rg false Zy1))
def Zxv:List IOp := [oI 6 (.mv (.c (.bool true))) 0]
def Yca:CC := .seq (.rg false Zzq) (.seq (.rg false Zx1) (.seq (.seq (.rg false Zzf) (.block 0 (.loop Zyx))) (.seq (.rg false Zxv) .ret)))
abbrev Ym8:Nat:=37
theorem Ykg:fnOk Tryz.prog 37=some (29,Yca,[.tmp 6]):=by kernel_rfl
def Z85:List IOp := [oI 4 (.mv (.c .nils)) 0]
def Z8f:List IOp := [oI 9 (.bsl none 0 [.int .i64 0] []) 0,mI 5 9 1]
def Z71:List IOp := [oI 6 (.mv (cI 0)) 0]
def Zlg:List IOp := [mI 10 6 0,mI 11 0 0,oI 12 (.len (.t 11)) 0,oI 13 (.bin .lss (.t 10) (.t 12)) 0]
def Zuo:List IOp := [oI 7 (.mv (cI (-1))) 0]
def Zwi:List IOp := [mI 16 0 0,mI 17 6 0,xI 18 3 16 17 0,fI 19 0 18 0,lI 20 19 0,oI 21 (.bin .neq (.t 20) (cI 3)) 0]
def Z7q:List IOp := [mI 22 0 0,mI 23 6 0,xI 24 3 22 23 0,lJ 25 3 24 0,mI 26 1 0,oI 27 (.call 77 [.t 25,.t 26]) 0,oI 8 (.alloc [.bool false,.nils,.bool false,.nils]) 0,⟨none,.st 4 (.t 8) (.t 27),1,[],[],none⟩]
def Z73:List IOp := [oI 7 (.mv (cI 0)) 0]
def Zt5:List IOp := [mI 28 1 0,mI 29 0 0,mI 30 6 0,xI 31 3 29 30 0,fI 32 2 31 0,lI 33 32 0,mI 34 7 0,xI 35 2 33 34 0,fI 36 0 35 0,lI 37 36 0,xI 38 4 28 37 0,lJ 39 4 38 0,lJ 40 4 8 0,oI 41 (.callw 25 [.t 39,.t 40]) 0,oI 42 (.bin .neq (.t 41) (cI 0)) 0]
@[go_sem ↓] theorem Yf0 : autoK Zt5 = (0, 0) := by kernel_rfl
@[go_sem] theorem Y0h : autoK [mI 28 1 0, mI 29 0 0, mI 30 6 0, xI 31 3 29 30 0, fI 32 2 31 0, lI 33 32 0, mI 34 7 0, xI 35 2 33 34 0, fI 36 0 35 0, lI 37 36 0, xI 38 4 28 37 0, lJ 39 4 38 0, lJ 40 4 8 0, oI 41 (.callw 25 [.t 39, .t 40]) 0, oI 42 (.bin .neq (.t 41) (cI 0)) 0] = (0, 0) := Yf0
def Z2f:List IOp := [mI 43 7 0,oI 44 (.bin .add (.t 43) (cI 1)) 0,mI 7 44 0]
def Zs5:CC := .seq (.seq (.rg true Zt5) (.cond (.t 42) .skip (.exit 2))) (.seq (.block 3 .skip) (.rg false Z2f))
def Zol:List IOp := [mI 45 5 0,mI 46 7 0,oI 47 (.bsl none 1 [.int .i64 0] [(0,.t 46)]) 0,oI 48 (.app none 8 (.t 45) (.t 47)) 1,mI 5 48 2]
def Zpc:List IOp := [mI 14 6 0,oI 15 (.bin .add (.t 14) (cI 1)) 0,mI 6 15 0]
def Z7k:CC := .seq (.seq (.rg false Zlg) (.cond (.t 13) .skip (.exit 0))) (.seq (.block 1 (.seq (.rg false Zuo) (.seq (.seq (.rg false Zwi) (.cond (.t 21) (.seq (.rg false Z7q) (.seq (.rg false Z73) (.block 2 (.loop Zs5)))) .skip)) (.rg false Zol)))) (.rg false Zpc))
def Z39:List IOp := [mI 49 5 0,mI 4 49 0]
def Ylh:CC := .seq (.rg false Z85) (.seq (.rg false Z8f) (.seq (.seq (.rg false Z71) (.block 0 (.loop Z7k))) (.seq (.rg false Z39) .ret)))
abbrev Yv6:Nat:=46
theorem Yp0:fnOk Tryz.prog 46=some (50,Ylh,[.tmp 4]):=by kernel_rfl
def Z8h:List IOp := [oI 4 (.mv (.c (.bool false))) 0]
def Z7c:List IOp := [mI 6 0 0,oI 7 (.len (.t 6)) 0,mI 8 1 0,oI 9 (.len (.t 8)) 0,oI 10 (.bin .neq (.t 7) (.t 9)) 0]
def Ymc:List IOp := [oI 4 (.mv (.c (.bool false))) 0]
def Z83:List IOp := [oI 5 (.mv (cI 0)) 0]
def Ztq:List IOp := [mI 11 5 0,mI 12 0 0,oI 13 (.len (.t 12)) 0,oI 14 (.bin .lss (.t 11) (.t 13)) 0]
def Zu4:List IOp := [mI 17 0 0,mI 18 5 0,xI 19 1 17 18 0,lI 20 19 0,mI 21 1 0,mI 22 5 0,xI 23 1 21 22 0,lI 24 23 0,oI 25 (.bin .neq (.t 20) (.t 24)) 0]
@[go_sem ↓] theorem Yfi : autoK Zu4 = (0, 0) := by kernel_rfl
@[go_sem] theorem Yx9 : autoK [mI 17 0 0, mI 18 5 0, xI 19 1 17 18 0, lI 20 19 0, mI 21 1 0, mI 22 5 0, xI 23 1 21 22 0, lI 24 23 0, oI 25 (.bin .neq (.t 20) (.t 24)) 0] = (0, 0) := Yfi
def Ylw:List IOp := [oI 4 (.mv (.c (.bool false))) 0]
def Z7x:List IOp := [mI 15 5 0,oI 16 (.bin .add (.t 15) (cI 1)) 0,mI 5 16 0]
def Z8w:CC := .seq (.seq (.rg false Ztq) (.cond (.t 14) .skip (.exit 0))) (.seq (.block 1 (.seq (.rg true Zu4) (.cond (.t 25) (.seq (.rg false Ylw) .ret) .skip))) (.rg false Z7x))
def Z77:List IOp := [oI 4 (.mv (.c (.bool true))) 0]
def Ynz:CC := .seq (.rg false Z8h) (.seq (.seq (.rg false Z7c) (.cond (.t 10) (.seq (.rg false Ymc) .ret) .skip)) (.seq (.seq (.rg false Z83) (.block 0 (.loop Z8w))) (.seq (.rg false Z77) .ret)))
abbrev Yt2:Nat:=45
theorem Ype:fnOk Tryz.prog 45=some (26,Ynz,[.tmp 4]):=by kernel_rfl
end GoAbs
namespace GoAbs
open Go Go.Proofs
set_option maxHeartbeats 4000000
theorem Yfg {l:List UInt8}{q:Rat}(h:parseL l=some q):shortL 12 0 l=decide (Fitd 12 q):=by
 obtain ⟨h1,h2,h3,h4⟩:=Z6k h
 have hs:shortL 12 0 l=shortL 12 0 (signL l).1:=by
  unfold signL
  split
  ·rename_i hh
   cases l with
   | nil=>simp at hh
   | cons c r =>
    simp at hh
    subst hh
    rw [Zoe]
    rfl
  ·rfl
 have hF:decide (Fitd 12 q)=(decide ((befL (signL l).1).length≤12) && decide ((decL q.den).length≤12)):=by
  rw [Bool.eq_iff_iff]; simp [Fitd,h2]
 rw [hs,hF]
 by_cases h47:47∈(signL l).1
 ·obtain ⟨g1,g2⟩:=h3 h47
  rw [g2]
  have e:=Yeq h47
  rw [congrArg (shortL 12 0) e,Zp2 h1.1 (by omega),Zoe]
  have hst:∀ k,stepS k 47=0:=fun k=>rfl
  rw [hst,if_neg (by omega)]
  have:=Zp2 (n:=12) (r := []) (k:=0) g1.1 (by omega)
  rw [List.append_nil] at this
  rw [this]
  simp [shortL]
 ·rw [h4 h47]
  have e:=Yos h47
  have:=Zp2 (n:=12) (r := []) (k:=0) h1.1 (by omega)
  rw [List.append_nil,e] at this
  rw [this,e]
  have:(decL 1).length=1:=by rw [Y7g.2 rfl]; rfl
  simp [shortL,this]
theorem num_pos' {q:Rat}:(0<q)↔(0<q.num):=by
 rw [Rat.lt_iff]; simp
theorem Ydl {a b:Rat}{k:Nat}(ha:Qb k a) (hb:Qb k b) (hk:k≤1000000):SpecV Tryz.prog Ygk [.agg (rq a),.agg (rq b)] (.int .i64 (cmpR a b)):=by
 have h:=rcmpq ha.ib.1 ha.ib.2 hb.ib.1 hb.ib.2 hk
 have e:(if a.num*(b.den:Int)=b.num*(a.den:Int) then (0:Int) else if a.num*(b.den:Int)<b.num*(a.den:Int) then -1 else 1)=cmpR a b:=by
  unfold cmpR
  simp only [Rat.lt_iff]
  generalize a.num*(b.den:Int)=x
  generalize b.num*(a.den:Int)=y
  by_cases h1:x=y
  ·rw [if_pos h1,if_neg (by omega),if_neg (by omega)]
  ·rw [if_neg h1]
   by_cases h2:x<y
   ·rw [if_pos h2,if_pos h2]
   ·rw [if_neg h2,if_neg h2,if_pos (by omega)]
 rw [e] at h
 exact h
theorem Yo1 {a b:Rat}:(cmpR a b=0)=(a=b):=propext (by unfold cmpR; constructor <;> intro h <;> grind)
theorem Z9h {l:List UInt8}(h:okB l=true):smallB l=shortL 12 0 l:=by
 rw [Yfg (okBq h)]
 unfold smallB
 rw [okBq h]; rfl
theorem Y6b {v a b:Int}(h:a≤v∧v≤b):SpecV Tryz.prog Yik [.int .i64 v,.int .i64 a,.int .i64 b] (.bool true):=by
 have:=rin (v:=v) (a:=a) (b:=b)
 rwa [decide_eq_true h] at this
theorem Y6o {v a b:Int}(h:¬ (a≤v∧v≤b)):SpecV Tryz.prog Yik [.int .i64 v,.int .i64 a,.int .i64 b] (.bool false):=by
 have:=rin (v:=v) (a:=a) (b:=b)
 rwa [decide_eq_false h] at this
theorem Y37 {ls:List AV}{n:Nd}{ms:List AV}(hms:ms=n.mv.map mvAV) (hls:ls.length≤1000000) (hml:n.mv.length≤7) (hm:∀ m,m∈n.mv→m.2.length≤23) (hv:vaM n.mv=true) {K:Ex→St→Prop}
  (hK:fiM ls.length n.kind n.mv=true→∀ e:Nat→AV,e 3 = .ptr 0 0→e 5 = .ptr 1 0→K (.exit 0) ⟨e,[.cells [.int .i64 n.kind,.str (bs n.rew),.sl ms],.cells (rq (sumM n.mv))]⟩)
  (hK0:fiM ls.length n.kind n.mv=false→∀ e:Nat→AV,∀ H,e 4 = .bool false→K .ret ⟨e,H⟩) :
  T Tryz.prog 84 0 (.loop Zts) ⟨envL [(0,.sl ls),(3,.ptr 0 0),(5,.ptr 1 0),(6,.int .i64 0)],[.cells [.int .i64 n.kind,.str (bs n.rew),.sl ms],.cells (rq 0)]⟩ K:=by
 have hmx:Tryz.prog.follows .mixedOrders=true:=by kernel_rfl
 have hmsl:ms.length=n.mv.length:=by rw [hms,List.length_map]
 refine Zae (fun i:Nat=>⟨envL [(0,.sl ls),(3,.ptr 0 0),(5,.ptr 1 0),(6,.int .i64 (i:Int))],[.cells [.int .i64 n.kind,.str (bs n.rew),.sl ms],.cells (rq (sumM (n.mv.take i)))]⟩)
  (fun i=>i≤n.mv.length∧fiM ls.length n.kind (n.mv.take i)=true) (fun i=>n.mv.length - i) 0 ⟨by omega,rfl⟩ (Zb0 (Zab [(0,.sl ls),(3,.ptr 0 0),(5,.ptr 1 0),(6,.int .i64 0)] (by simp only [go_sem])) rfl) (fun i hI N hN=>?_)
 obtain ⟨hi,hfi⟩:=hI
 unfold Zts
 by_cases hin:i<n.mv.length
 ·obtain ⟨m,hmi⟩:∃ m,n.mv[i]? = some m:=⟨_,List.getElem?_eq_getElem hin⟩
  have hmm:=List.mem_of_getElem? hmi
  have hml2:=hm m hmm
  have tk:n.mv.take (i+1)=n.mv.take i ++ [m]:=by rw [List.take_add_one,hmi]; rfl
  have hmsi:ms[i]? = some (.agg [.int .i64 m.1,.str (bs m.2)]):=by rw [hms,List.getElem?_map,hmi]; rfl
  have hsb:=Z5d (l:=n.mv.take i) (fun m h=>hm m (List.mem_of_mem_take h))
  have hst:sumM (n.mv.take (i+1))=stepM (sumM (n.mv.take i)) m:=by rw [tk,Yeo]
  have hsf:fiM ls.length n.kind (n.mv.take (i+1))=mvFit ls.length n.kind m:=by
   rw [tk]; unfold fiM at *; rw [List.all_append,hfi]; simp
  have hbad:mvFit ls.length n.kind m=false→fiM ls.length n.kind n.mv=false:=fun h=>by
   unfold fiM
   rw [← Bool.not_eq_true,List.all_eq_true]
   intro h2
   rw [h2 m hmm] at h; cases h
  have hvm:m.2.isEmpty=true∨okB m.2=true:=by
   have:=List.all_eq_true.1 hv m hmm
   simpa using this
  have hlt:(n.mv.take i).length≤7:=by rw [List.length_take]; omega
  generalize sumM (n.mv.take i)=s at *
  have q0:(0:Int)≤(i:Int):=by omega
  have q1:(i:Int)<(n.mv.length:Int):=by omega
  have e1:IntKind.i64.wrap ((i:Int)+1)=((i+1:Nat):Int):=by rw [Zac (by omega) (by omega)]; omega
  have e2:IntKind.i64.wrap ((ls.length:Int) - 1)=(ls.length:Int) - 1:=Zac (by omega) (by omega)
  have rl:∀ q:Rat,(rq q).length=4:=fun q=>rfl
  have bvsr:∀ {H ids} {q:Rat},BVs H ids (rq q) (rq q)=True:=fun {H ids q}=>by unfold rq rc; simp only [go_sem]
  have hdrop:∀ (kd:Int) (e:Nat→AV) (post:Heap) (z:Rat),kd=n.kind→e 0 = .sl ls→e 3 = .ptr 0 0→e 5 = .ptr 1 0→e 6 = .int .i64 ((i+1:Nat):Int)→z=sumM (n.mv.take (i+1))→mvFit ls.length n.kind m=true →
    N ⟨e,[.cells [.int .i64 kd,.str (bs n.rew),.sl ms],.cells (rq z)]++post⟩:=fun kd e post z hkd f0 f3 f5 f6 hz hf=>by
   subst hkd
   refine hN (i+1) _ ⟨by omega,by rw [hsf,hf]⟩ (by omega) (Zb0 (Zgl (K := [.cells [.int .i64 n.kind,.str (bs n.rew),.sl ms],.cells (rq z)]) (m:=2) rfl (show Clo 2 [.cells [.int .i64 n.kind,.str (bs n.rew),.sl ms],.cells (rq z)] from rfl) (by omega) [(0,.sl ls),(3,.ptr 0 0),(5,.ptr 1 0),(6,.int .i64 ((i+1:Nat):Int))] (by simp only [go_sem,f0,f3,f5,f6]) ?_) (by rw [hz]))
   simp [AV.gc,Zbk]
  simp only [go_sem,Ztl,Z9q,Z81,q0,q1,hmsl,hmsi,e2]
  have hsh:=rshort (l:=m.2) (n:=12) (by omega) (by omega)
  by_cases a1:0≤m.1∧m.1≤(ls.length:Int) - 1
  ·refine Zaa (Y6b a1) (by simp only [go_sem]) ?_
   have d1:decide (0≤m.1)=true:=decide_eq_true a1.1
   have d2:decide (m.1<(ls.length:Int))=true:=decide_eq_true (by omega)
   by_cases a2:m.2 = []
   ·have hemp:m.2.isEmpty=true:=by rw [a2]; rfl
    have hs0:shortL 12 0 m.2=true:=by rw [a2]; rfl
    rw [hs0] at hsh
    by_cases a3:n.kind=3
    ·have hf:mvFit ls.length n.kind m=false:=by unfold mvFit mvFit1; rw [hemp,a3]; simp
     simp only [go_sem,Zw2,a2,a3,Zhp]
     exact hK0 (hbad hf) _ _ (by simp only [go_sem])
    ·have hf:mvFit ls.length n.kind m=true:=by unfold mvFit mvFit1; rw [hemp,d1,d2]; simp [a3]
     have hsum:s=sumM (n.mv.take (i+1)):=by rw [hst]; unfold stepM; rw [if_pos hemp]
     simp only [go_sem,Zw2,a2,a3]
     rw [a2] at hsh
     refine Zaa hsh (by simp only [go_sem]) ?_
     simp only [go_sem,Zw2,a2,a3,Zqi,Zqz,e1]
     exact hdrop _ _ [_] s rfl (by simp only [go_sem]) (by simp only [go_sem]) (by simp only [go_sem]) (by simp only [go_sem]) hsum hf
   ·have hemp:m.2.isEmpty=false:=by simpa using a2
    by_cases a3:n.kind=3
    ·have hok:okB m.2=true:=by rcases hvm with h | h; rw [h] at hemp; cases hemp; exact h
     obtain ⟨q,hq⟩:∃ q,parseL m.2=some q:=⟨_,okBq hok⟩
     have hfit:mvFit ls.length n.kind m=(shortL 12 0 m.2 && decide (0<q)):=by
      unfold mvFit mvFit1 mvFit2
      rw [hemp,hq,d1,d2,a3,Yfg hq]
      simp [Bool.and_comm]
     have hof:=rof (by omega) hq
     rw [Zbi] at hof
     have hqb:=Zjn hq hml2
     simp only [go_sem,Zw2,a2,a3]
     cases hsv:shortL 12 0 m.2 with
     | false =>
      rw [hsv] at hsh hfit
      refine Zaa hsh (by simp only [go_sem]) ?_
      simp only [go_sem,Zhp]
      exact hK0 (hbad hfit) _ _ (by simp only [go_sem])
     | true =>
      rw [hsv] at hsh hfit
      refine Zaa hsh (by simp only [go_sem]) ?_
      simp only [go_sem,Zw2,a2,Zqi,Z5l]
      refine Zaa hof (by simp only [go_sem]) ?_
      simp only [go_sem]
      refine Zaa (Yo9 (z:=q.num)) (by simp only [go_sem,Zaj]) ?_
      have hnz:decide (0<q)=decide (0<q.num):=decide_eq_decide.2 num_pos'
      by_cases a4:0<q.num
      ·have c1:¬ (if q.num=0 then (0:Int) else if q.num<0 then -1 else 1)≤0:=by rw [if_neg (by omega),if_neg (by omega)]; decide
       have hf:mvFit ls.length n.kind m=true:=by rw [hfit,hnz]; simp [a4]
       have hsum:s+q=sumM (n.mv.take (i+1)):=by rw [hst]; unfold stepM; rw [if_neg (by rw [hemp]; decide),hq]
       obtain ⟨X,x1,x2,x3⟩:=Xfq (a:=s) (b:=q) (k:=1+78*7) (hsb.mono (by omega)) (hqb.mono (by omega)) (by omega)
       have hoq:SpecV Tryz.prog Zxg [.str (bs m.2)] (.agg (rq q)):=hof
       simp only [go_sem,c1,Zpj,rl,Za9,Zba,hmx]
       refine Zaa hoq (by simp only [go_sem]) ?_
       simp only [go_sem,rl,Za9,Zba]
       refine Zaa x1 (by simp only [go_sem,bvsr]) ?_
       simp only [go_sem]
       refine Zaa x3 (by simp only [go_sem,x2]) ?_
       simp only [go_sem,rl,Za9,Zba,Zqz,e1]
       exact hdrop _ _ [_] (s+q) a3.symm (by simp only [go_sem]) (by simp only [go_sem]) (by simp only [go_sem]) (by simp only [go_sem]) hsum hf
      ·have c1:(if q.num=0 then (0:Int) else if q.num<0 then -1 else 1)≤0:=by split; decide; rw [if_pos (by omega)]; decide
       have hf:mvFit ls.length n.kind m=false:=by rw [hfit,hnz]; simp [a4]
       simp only [go_sem,c1,Z3x]
       exact hK0 (hbad hf) _ _ (by simp only [go_sem])
    ·have hf:mvFit ls.length n.kind m=false:=by unfold mvFit mvFit1; rw [hemp]; simp [a3]
     simp only [go_sem,Zw2,a2,a3,Zhp]
     exact hK0 (hbad hf) _ _ (by simp only [go_sem])
  ·have hf:mvFit ls.length n.kind m=false:=by
    unfold mvFit mvFit1
    by_cases h0:0≤m.1
    ·have:¬ m.1<(ls.length:Int):=by omega
     simp [this]
    ·simp [h0]
   refine Zaa (Y6o a1) (by simp only [go_sem]) ?_
   simp only [go_sem,Zhp]
   exact hK0 (hbad hf) _ _ (by simp only [go_sem])
 ·have hie:i=n.mv.length:=by omega
  subst hie
  have q1:¬ ((n.mv.length:Nat):Int)<(n.mv.length:Int):=by omega
  rw [List.take_length] at hfi ⊢
  simp only [go_sem,Ztl,hmsl,q1]
  exact hK hfi _ (by simp only [go_sem]) (by simp only [go_sem])
theorem rnode {ls:List AV}{n:Nd}(hls:ls.length≤1000000) (hr:n.rew.length≤23) (hml:n.mv.length≤7) (hm:∀ m,m∈n.mv→m.2.length≤23) (hv:ndVa n=true) :
  SpecV Tryz.prog Yv7 [.sl ls,ndAV n] (.bool (ndFi ls.length n)):=by
 have hmx:Tryz.prog.follows .mixedOrders=true:=by kernel_rfl
 unfold ndVa at hv
 rw [Bool.and_eq_true] at hv
 have hsm:=Z9h hv.1
 have hsh:=rshort (l:=n.rew) (n:=12) (by omega) (by omega)
 rw [← hsm] at hsh
 obtain ⟨ms,hms⟩:∃ ms,ms=n.mv.map mvAV:=⟨_,rfl⟩
 have hmsl:ms.length=n.mv.length:=by rw [hms,List.length_map]
 have rl:∀ q:Rat,(rq q).length=4:=fun q=>rfl
 have bvsr:∀ {H ids} {q:Rat},BVs H ids (rq q) (rq q)=True:=fun {H ids q}=>by unfold rq rc; simp only [go_sem]
 have hA:ndAV n = .agg [.int .i64 n.kind,.str (bs n.rew),.sl ms]:=by unfold ndAV; rw [hms]
 rw [hA]
 refine Zat Yqn (by simp) (Za0 1 rfl ?_)
 unfold Yn5
 simp only [go_sem,Z94,Z96]
 have nf:∀ b,b=false→(smallB n.rew && fiM ls.length n.kind n.mv && decide (1≤n.mv.length∧n.mv.length≤6) && kindF n)=b→ndFi ls.length n=false:=fun b hb h=>by unfold ndFi; rw [h,hb]
 by_cases a1:1≤n.kind∧n.kind≤3
 ·refine Zaa (Y6b a1) (by simp only [go_sem]) ?_
  simp only [go_sem]
  cases hsv:smallB n.rew with
  | false =>
   rw [hsv] at hsh nf
   rw [nf false rfl (by simp)]
   refine Zaa hsh (by simp only [go_sem]) ?_
   simp only [go_sem,Zlc]
  | true =>
   rw [hsv] at hsh
   refine Zaa hsh (by simp only [go_sem]) ?_
   simp only [go_sem,hmsl]
   by_cases a2:(1:Int)≤(n.mv.length:Int)∧(n.mv.length:Int)≤6
   ·refine Zaa (Y6b a2) (by simp only [go_sem]) ?_
    simp only [go_sem]
    refine Za0 0 rfl ?_
    simp only [go_sem,Yab]
    have w0:SpecV Tryz.prog Zj3 [.int .i64 0] (.agg (rq 0)):=rwhole (v:=0) (by decide)
    have w1:SpecV Tryz.prog Zj3 [.int .i64 1] (.agg (rq 1)):=rwhole (v:=1) (by decide)
    refine Zaa w0 (by simp only [go_sem]) ?_
    simp only [go_sem,rl,Za9,Zba]
    refine Zav (Zav (T_W ?_))
    simp only [go_sem,Z8a]
    refine Zaw (Zas [(0,.sl ls),(3,.ptr 0 0),(5,.ptr 1 0),(6,.int .i64 0)] (by simp only [go_sem]) (Y37 hms hls hml hm hv.2 (fun hf e k3 k5=>?_) (fun hf e H k4=>?_)))
    ·show T Tryz.prog 84 0 (.seq (.rg true Zfe) .ret) _ _
     refine T_W ?_
     have hF:ndFi ls.length n=kindF n:=by
      unfold ndFi
      rw [hsv,hf,decide_eq_true (show 1≤n.mv.length∧n.mv.length≤6 by omega)]; simp
     rw [hF]
     unfold kindF
     have sb:=Z5d hm
     have hc:=Ydl (k:=1000) (sb.mono (by omega)) (Qb.one (k:=1000) (by omega)) (by omega)
     by_cases a3:n.kind=3
     ·have b1:decide (n.kind=1)=false:=decide_eq_false (by omega)
      have b2:decide (n.kind=2)=false:=decide_eq_false (by omega)
      have b3:decide (n.kind=3)=true:=decide_eq_true a3
      rw [b1,b2,b3,Bool.false_or,Bool.false_or,Bool.true_and]
      clear b1 b2 b3
      simp only [go_sem,Zfe,k3,k5,a3,rl,Za9,Zba,hmx]
      refine Zaa w1 (by simp only [go_sem]) ?_
      simp only [go_sem]
      refine Zaa hc (by simp only [go_sem,bvsr]) ?_
      simp only [go_sem,Yo1]
      exact ⟨fun h=>decide_eq_true h,fun h=>decide_eq_false h⟩
     ·have b:decide (n.kind=3)=false:=decide_eq_false a3
      have b0:(decide (n.kind=1) || decide (n.kind=2))=true:=by
       have:n.kind=1∨n.kind=2:=by omega
       simpa using this
      rw [b,Bool.false_and,Bool.or_false,b0]
      simp only [go_sem,Zfe,k3,k5,a3,rl,Za9,Zba,hmx]
    ·have hF:ndFi ls.length n=false:=nf false rfl (by rw [hf]; simp)
     rw [hF]
     simp only [go_sem,k4]
   ·rw [nf false rfl (by rw [decide_eq_false (show ¬ (1≤n.mv.length∧n.mv.length≤6) by omega)]; simp)]
    refine Zaa (Y6o a2) (by simp only [go_sem]) ?_
    simp only [go_sem,Zlc]
 ·have hk:kindF n=false:=by
   unfold kindF
   have h1:n.kind≠1:=by omega
   have h2:n.kind≠2:=by omega
   have h3:n.kind≠3:=by omega
   simp [h1,h2,h3]
  rw [nf false rfl (by rw [hk]; simp)]
  refine Zaa (Y6o a1) (by simp only [go_sem]) ?_
  simp only [go_sem,Zlc]
end GoAbs
namespace GoAbs
open Go Go.Proofs
set_option maxHeartbeats 4000000
theorem rvalid' {l:List UInt8}(hlen:l.length≤1000000000):SpecV Tryz.prog Ydg [.str (bs l)] (.bool (okB l)):=rvalid hlen
theorem Xcr {ls:List AV}{d:ByteArray}{L:List Nd}{n:Nd}{b:Bool}{i:Nat}(hls:ls=L.map ndAV) (hll:L.length≤1000000) (hi:L[i]? = some n) (hml:n.mv.length≤7) (hm:∀ m,m∈n.mv→m.2.length≤23) {K:Ex→St→Prop}
  (hK:∀ e:Nat→AV,e 0 = .sl ls→e 1 = .str d→e 7 = .bool (b && vaM n.mv)→e 8 = .int .i64 (i:Int)→K (.exit 2) ⟨e,[]⟩) :
  T Tryz.prog 109 0 (.loop Ziw) ⟨envL [(0,.sl ls),(1,.str d),(7,.bool b),(8,.int .i64 (i:Int)),(9,.int .i64 0)],[]⟩ K:=by
 obtain ⟨ms,hms⟩:∃ ms,ms=n.mv.map mvAV:=⟨_,rfl⟩
 have hmsl:ms.length=n.mv.length:=by rw [hms,List.length_map]
 have hil:=(List.getElem?_eq_some_iff.1 hi).1
 have hlsl:ls.length=L.length:=by rw [hls,List.length_map]
 have hget:ls[i]? = some (.agg [.int .i64 n.kind,.str (bs n.rew),.sl ms]):=by rw [hls,List.getElem?_map,hi,hms]; rfl
 refine Zae (fun k:Nat=>⟨envL [(0,.sl ls),(1,.str d),(7,.bool (b && vaM (n.mv.take k))),(8,.int .i64 (i:Int)),(9,.int .i64 (k:Int))],[]⟩)
  (fun k=>k≤n.mv.length) (fun k=>n.mv.length - k) 0 (by omega) (Zab _ (by simp only [go_sem]; simp [vaM])) (fun k hk N hN=>?_)
 unfold Ziw
 have p0:(0:Int)≤(i:Int):=by omega
 have p1:(i:Int)<(L.length:Int):=by omega
 by_cases hkn:k<n.mv.length
 ·obtain ⟨m,hmi⟩:∃ m,n.mv[k]? = some m:=⟨_,List.getElem?_eq_getElem hkn⟩
  have hml2:=hm m (List.mem_of_getElem? hmi)
  have tk:vaM (n.mv.take (k+1))=(vaM (n.mv.take k) && (m.2.isEmpty || okB m.2)):=by rw [List.take_add_one,hmi]; unfold vaM; simp
  have hmsi:ms[k]? = some (.agg [.int .i64 m.1,.str (bs m.2)]):=by rw [hms,List.getElem?_map,hmi]; rfl
  have q0:(0:Int)≤(k:Int):=by omega
  have q1:(k:Int)<(n.mv.length:Int):=by omega
  have e1:IntKind.i64.wrap ((k:Int)+1)=((k+1:Nat):Int):=by rw [Zac (by omega) (by omega)]; omega
  generalize vaM (n.mv.take k)=v at *
  have fin:∀ (x:Bool) (e:Nat→AV),x=(b && vaM (n.mv.take (k+1)))→Has e [(0,.sl ls),(1,.str d),(7,.bool x),(8,.int .i64 (i:Int)),(9,.int .i64 ((k+1:Nat):Int))]→N ⟨e,[]⟩:=fun x e hx he=>by
   refine hN (k+1) _ (by omega) (by omega) (Zab _ ?_)
   rw [← hx]; exact he
  cases hbv:(b && v) with
  | false =>
   simp only [go_sem,Zfw,Zje,Zi4,p0,p1,q0,q1,hlsl,hget,hmsl,e1]
   exact fin false _ (by rw [tk, ← Bool.and_assoc,hbv]; rfl) (by simp only [go_sem])
  | true =>
   by_cases a2:m.2 = []
   ·have hemp:m.2.isEmpty=true:=by rw [a2]; rfl
    simp only [go_sem,Zfw,Zje,Zi4,p0,p1,q0,q1,hlsl,hget,hmsl,hmsi,Zw2,a2,e1]
    exact fin true _ (by rw [tk, ← Bool.and_assoc,hbv,hemp]; rfl) (by simp only [go_sem])
   ·have hemp:m.2.isEmpty=false:=by simpa using a2
    simp only [go_sem,Zfw,Zje,p0,p1,q0,q1,hlsl,hget,hmsl,hmsi,Zw2,a2]
    refine Zaa (rvalid' (by omega)) (by simp only [go_sem]) ?_
    simp only [go_sem,Zi4,e1]
    exact fin (okB m.2) _ (by rw [tk, ← Bool.and_assoc,hbv,hemp]; simp) (by simp only [go_sem])
 ·have hke:k=n.mv.length:=by omega
  subst hke
  have q1:¬ ((n.mv.length:Nat):Int)<(n.mv.length:Int):=by omega
  rw [List.take_length]
  simp only [go_sem,Zfw,p0,p1,hlsl,hget,hmsl,q1]
  exact hK _ (by simp only [go_sem]) (by simp only [go_sem]) (by simp only [go_sem]) (by simp only [go_sem])
theorem Y9a {ls:List AV}{d:ByteArray}{L:List Nd}{b:Bool}(hls:ls=L.map ndAV) (hll:L.length≤1000000) (hok:∀ n,n∈L→n.rew.length≤23∧n.mv.length≤7∧∀ m,m∈n.mv→m.2.length≤23) {K:Ex→St→Prop}
  (hK:∀ e:Nat→AV,e 0 = .sl ls→e 1 = .str d→e 7 = .bool (b && L.all ndVa)→K (.exit 0) ⟨e,[]⟩) :
  T Tryz.prog 109 0 (.loop Zja) ⟨envL [(0,.sl ls),(1,.str d),(7,.bool b),(8,.int .i64 0)],[]⟩ K:=by
 have hlsl:ls.length=L.length:=by rw [hls,List.length_map]
 refine Zfq (fun i:Nat=>⟨envL [(0,.sl ls),(1,.str d),(7,.bool (b && (L.take i).all ndVa)),(8,.int .i64 (i:Int))],[]⟩)
  (fun i=>i≤L.length) (fun i=>L.length - i) 0 (by omega) (Zab _ (by simp only [go_sem]; simp)) (fun i hi N hN=>?_)
 unfold Zja
 by_cases hin:i<L.length
 ·obtain ⟨n,hn⟩:∃ n,L[i]? = some n:=⟨_,List.getElem?_eq_getElem hin⟩
  obtain ⟨o1,o2,o3⟩:=hok n (List.mem_of_getElem? hn)
  have tk:(L.take (i+1)).all ndVa=((L.take i).all ndVa && (okB n.rew && vaM n.mv)):=by rw [List.take_add_one,hn]; simp [ndVa]
  have hget:ls[i]? = some (.agg [.int .i64 n.kind,.str (bs n.rew),.sl (n.mv.map mvAV)]):=by rw [hls,List.getElem?_map,hn]; rfl
  have q0:(0:Int)≤(i:Int):=by omega
  have q1:(i:Int)<(L.length:Int):=by omega
  have e1:IntKind.i64.wrap ((i:Int)+1)=((i+1:Nat):Int):=by rw [Zac (by omega) (by omega)]; omega
  generalize (L.take i).all ndVa=v at *
  have rest:∀ (x:Bool) (e:Nat→AV),x=(b && v && okB n.rew)→Has e [(0,.sl ls),(1,.str d),(7,.bool x),(8,.int .i64 (i:Int)),(9,.int .i64 0)] →
    T Tryz.prog 109 0 (.loop Ziw) ⟨e,[]⟩ (blockQ 2 (blockQ 1 (thenQ (goT Tryz.prog 109 0 (.rg false Zgz) (thenQ N K)) (thenQ N K)))):=fun x e hx he=>by
   refine T_le (Zab _ he) (Xcr hls hll hn o2 o3 (fun e k0 k1 k7 k8=>?_))
   show T Tryz.prog 109 0 (.rg false Zgz) _ _
   refine T_W ?_
   simp only [go_sem,Zgz,k8,e1]
   refine hN (i+1) _ (by omega) (by omega) (Zab _ ?_)
   simp only [go_sem,k0,k1,k7]
   rw [tk,hx]; simp [Bool.and_assoc]
  refine Za0 1 rfl ?_
  cases hbv:(b && v) with
  | false =>
   rw [hbv] at rest
   simp only [go_sem,Zjl,Zqu,Zql,q0,q1,hlsl]
   exact rest false _ rfl (by simp only [go_sem])
  | true =>
   rw [hbv] at rest
   simp only [go_sem,Zjl,Zqu,q0,q1,hlsl,hget]
   refine Zaa (rvalid' (by omega)) (by simp only [go_sem]) ?_
   simp only [go_sem,Zql]
   exact rest (okB n.rew) _ rfl (by simp only [go_sem])
 ·have hie:i=L.length:=by omega
  subst hie
  have q1:¬ ((L.length:Nat):Int)<(L.length:Int):=by omega
  refine T_W ?_
  rw [List.take_length]
  simp only [go_sem,Zjl,hlsl,q1]
  exact hK _ (by simp only [go_sem]) (by simp only [go_sem]) (by simp only [go_sem])
theorem Xck {ls:List AV}{L:List Nd}{b:Bool}(hls:ls=L.map ndAV) (hll:L.length≤1000000) (hok:∀ n,n∈L→n.rew.length≤23∧n.mv.length≤7∧∀ m,m∈n.mv→m.2.length≤23) (hv:L.all ndVa=true) {K:Ex→St→Prop}
  (hK:∀ e:Nat→AV,e 10 = .bool (b && L.all (ndFi L.length))→K (.exit 4) ⟨e,[]⟩) :
  T Tryz.prog 109 0 (.loop Zda) ⟨envL [(0,.sl ls),(10,.bool b),(11,.int .i64 0)],[]⟩ K:=by
 have hlsl:ls.length=L.length:=by rw [hls,List.length_map]
 refine Zae (fun i:Nat=>⟨envL [(0,.sl ls),(10,.bool (b && (L.take i).all (ndFi L.length))),(11,.int .i64 (i:Int))],[]⟩)
  (fun i=>i≤L.length) (fun i=>L.length - i) 0 (by omega) (Zab _ (by simp only [go_sem]; simp)) (fun i hi N hN=>?_)
 unfold Zda
 by_cases hin:i<L.length
 ·obtain ⟨n,hn⟩:∃ n,L[i]? = some n:=⟨_,List.getElem?_eq_getElem hin⟩
  have hnm:=List.mem_of_getElem? hn
  obtain ⟨o1,o2,o3⟩:=hok n hnm
  have tk:(L.take (i+1)).all (ndFi L.length)=((L.take i).all (ndFi L.length) && ndFi L.length n):=by rw [List.take_add_one,hn]; simp
  have hget:ls[i]? = some (ndAV n):=by rw [hls,List.getElem?_map,hn]; rfl
  have hnd:=rnode (ls:=ls) (by omega) o1 o2 o3 (List.all_eq_true.1 hv n hnm)
  rw [hlsl] at hnd
  have hA:ndAV n = .agg [.int .i64 n.kind,.str (bs n.rew),.sl (n.mv.map mvAV)]:=rfl
  have q0:(0:Int)≤(i:Int):=by omega
  have q1:(i:Int)<(L.length:Int):=by omega
  have e1:IntKind.i64.wrap ((i:Int)+1)=((i+1:Nat):Int):=by rw [Zac (by omega) (by omega)]; omega
  generalize (L.take i).all (ndFi L.length)=v at *
  have fin:∀ (x:Bool) (e:Nat→AV),x=(b && (L.take (i+1)).all (ndFi L.length))→Has e [(0,.sl ls),(10,.bool x),(11,.int .i64 ((i+1:Nat):Int))]→N ⟨e,[]⟩:=fun x e hx he=>by
   refine hN (i+1) _ (by omega) (by omega) (Zab _ ?_)
   rw [← hx]; exact he
  cases hbv:(b && v) with
  | false =>
   simp only [go_sem,Zg7,Znc,Zl2,q0,q1,hlsl,e1]
   exact fin false _ (by rw [tk, ← Bool.and_assoc,hbv]; rfl) (by simp only [go_sem])
  | true =>
   rw [hA] at hget hnd
   simp only [go_sem,Zg7,Znc,q0,q1,hlsl,hget]
   refine Zaa hnd (by simp only [go_sem]) ?_
   simp only [go_sem,Zl2,e1]
   exact fin (ndFi L.length n) _ (by rw [tk, ← Bool.and_assoc,hbv]; rfl) (by simp only [go_sem])
 ·have hie:i=L.length:=by omega
  subst hie
  have q1:¬ ((L.length:Nat):Int)<(L.length:Int):=by omega
  rw [List.take_length]
  simp only [go_sem,Zg7,hlsl,q1]
  exact hK _ (by simp only [go_sem])
def chkC (L:List Nd) (d:List UInt8) (M:List (List UInt8)):Int :=
 if (okB d && (M.all okB) && L.all ndVa)=false then 2 else if gFit L d=false then 1 else 0
theorem rcheck {L:List Nd}{d:List UInt8}{M:List (List UInt8)}(hll:L.length≤1000000) (hok:∀ n,n∈L→n.rew.length≤23∧n.mv.length≤7∧∀ m,m∈n.mv→m.2.length≤23) (hd:d.length≤23) (hM:M.length≤1000) (hMl:∀ s,s∈M→s.length≤1000000000) :
  SpecV Tryz.prog Yci [.sl (L.map ndAV),.str (bs d),.sl (M.map strAV)] (.int .i64 (chkC L d M)):=by
 obtain ⟨ls,hls⟩:∃ ls,ls=L.map ndAV:=⟨_,rfl⟩
 obtain ⟨nm,hnm⟩:∃ nm,nm=M.map strAV:=⟨_,rfl⟩
 have hlsl:ls.length=L.length:=by rw [hls,List.length_map]
 have hn:=rnums (L:=M) (by omega) hMl
 have hnE:numsE M=if M.all okB=true then 0 else 2:=rfl
 rw [← hls, ← hnm]
 rw [← hnm] at hn
 have tail:∀ (e:Nat→AV),e 0 = .sl ls→e 1 = .str (bs d)→okB d=true→M.all okB=true→L.all ndVa=true →
   T Tryz.prog 109 0 (.seq (.rg false Zgm) (.seq (.seq (.rg false Zd9) (.block 4 (.loop Zda))) (.seq (.seq (.rg false Zbv) (.cond (.t 108) (.seq (.rg false Zcn) .ret) .skip)) (.seq (.rg false Zcf) .ret)))) ⟨e,[]⟩ (retQ [.tmp 6] (.int .i64 (chkC L d M))):=fun e k0 k1 h1 h2 h3=>by
  have hc:chkC L d M=if gFit L d=false then 1 else 0:=by unfold chkC; rw [h1,h2,h3]; rfl
  rw [hc]
  obtain ⟨q,hq⟩:∃ q,parseL d=some q:=⟨_,okBq h1⟩
  have hg:gFit L d=(decide (1≤L.length∧L.length≤10) && smallB d && decide (0≤q) && decide (q<1) && L.all (ndFi L.length)):=by
   unfold gFit disF
   rw [hq]
   cases decide (1≤L.length∧L.length≤10) <;> cases L.all (ndFi L.length) <;> simp [Bool.and_assoc]
  have hsh:=rshort (l:=d) (n:=12) (by omega) (by omega)
  rw [← Z9h h1] at hsh
  have hof:=rof (by omega) hq
  rw [Zbi] at hof
  have hoq:SpecV Tryz.prog Zxg [.str (bs d)] (.agg (rq q)):=hof
  have hqb:=Zjn hq hd
  have bvsr:∀ {H ids} {q:Rat},BVs H ids (rq q) (rq q)=True:=fun {H ids q}=>by unfold rq rc; simp only [go_sem]
  have w1:SpecV Tryz.prog Zj3 [.int .i64 1] (.agg (rq 1)):=rwhole (v:=1) (by decide)
  have hcm:=Ydl (k:=100) (hqb.mono (by omega)) (Qb.one (k:=100) (by omega)) (by omega)
  have rest:∀ (x:Bool) (e:Nat→AV),x=(decide (1≤L.length∧L.length≤10) && smallB d && decide (0≤q) && decide (q<1))→e 0 = .sl ls→e 10 = .bool x →
    T Tryz.prog 109 0 (.seq (.seq (.rg false Zd9) (.block 4 (.loop Zda))) (.seq (.seq (.rg false Zbv) (.cond (.t 108) (.seq (.rg false Zcn) .ret) .skip)) (.seq (.rg false Zcf) .ret))) ⟨e,[]⟩ (retQ [.tmp 6] (.int .i64 (if gFit L d=false then 1 else 0))):=fun x e hx k0 k10=>by
   refine Zav (Zav (T_W ?_))
   simp only [go_sem,Zd9]
   refine Zaw (Zas [(0,.sl ls),(10,.bool x),(11,.int .i64 0)] (by simp only [go_sem,k0,k10]) (Xck hls hll hok h3 (fun e k10=>?_)))
   show T Tryz.prog 109 0 (.seq (.seq (.rg false Zbv) (.cond (.t 108) (.seq (.rg false Zcn) .ret) .skip)) (.seq (.rg false Zcf) .ret)) _ _
   rw [hx, ← hg] at k10
   refine T_W ?_
   cases hgf:gFit L d with
   | false=>simp only [go_sem,Zbv,Zcn,k10,hgf]
   | true=>simp only [go_sem,Zbv,Zcf,k10,hgf]
  refine Za0 0 rfl ?_
  simp only [go_sem,Zgm,k0,k1,hlsl]
  by_cases a1:(1:Int)≤(L.length:Int)∧(L.length:Int)≤10
  ·have b1:decide (1≤L.length∧L.length≤10)=true:=decide_eq_true (by omega)
   refine Zaa (Y6b a1) (by simp only [go_sem]) ?_
   simp only [go_sem,k0,k1]
   refine Zaa hsh (by simp only [go_sem]) ?_
   cases hsv:smallB d with
   | false =>
    simp only [go_sem]
    exact rest false _ (by rw [hsv,b1]; rfl) (by simp only [go_sem,k0]) (by simp only [go_sem])
   | true =>
    simp only [go_sem,k0,k1]
    refine Zaa hof (by simp only [go_sem]) ?_
    simp only [go_sem,k0,k1]
    refine Zaa (Yo9 (z:=q.num)) (by simp only [go_sem,Zaj]) ?_
    have hz:(q.num<0)=(q<0):=propext (by rw [Rat.lt_iff]; simp)
    by_cases s0:q<0
    ·have c1:¬ (0:Int)≤(if q.num=0 then (0:Int) else if q.num<0 then -1 else 1):=by
      rw [← hz] at s0
      rw [if_neg (by omega),if_pos s0]; decide
     have b2:decide (0≤q)=false:=decide_eq_false (by grind)
     simp only [go_sem,c1]
     exact rest false _ (by rw [hsv,b1,b2]; rfl) (by simp only [go_sem,k0]) (by simp only [go_sem])
    ·have c1:(0:Int)≤(if q.num=0 then (0:Int) else if q.num<0 then -1 else 1):=by
      rw [← hz] at s0
      split <;> first | decide | (rw [if_neg s0]; decide)
     have b2:decide (0≤q)=true:=decide_eq_true (by grind)
     simp only [go_sem,c1,k0,k1]
     refine Zaa hoq (by simp only [go_sem]) ?_
     simp only [go_sem]
     refine Zaa w1 (by simp only [go_sem]) ?_
     simp only [go_sem]
     refine Zaa hcm (by simp only [go_sem,bvsr]) ?_
     have hlt:(cmpR q 1<0)=(q<1):=propext (by unfold cmpR; constructor <;> intro h <;> grind)
     by_cases s1:q<1
     ·have c2:cmpR q 1<0:=by rw [hlt]; exact s1
      simp only [go_sem,c2]
      exact rest true _ (by rw [hsv,b1,b2,decide_eq_true s1]; rfl) (by simp only [go_sem,k0]) (by simp only [go_sem])
     ·have c2:¬ cmpR q 1<0:=by rw [hlt]; exact s1
      simp only [go_sem,c2]
      exact rest false _ (by rw [hsv,b1,b2,decide_eq_false s1]; rfl) (by simp only [go_sem,k0]) (by simp only [go_sem])
  ·have b1:decide (1≤L.length∧L.length≤10)=false:=decide_eq_false (by omega)
   refine Zaa (Y6o a1) (by simp only [go_sem]) ?_
   simp only [go_sem]
   exact rest false _ (by rw [b1]; rfl) (by simp only [go_sem,k0]) (by simp only [go_sem])
 have mid:∀ (x:Bool) (e:Nat→AV),x=(okB d && M.all okB)→e 0 = .sl ls→e 1 = .str (bs d)→e 7 = .bool x →
   T Tryz.prog 109 0 (.seq (.seq (.rg false Zo1) (.block 0 (.loop Zja))) (.seq (.seq (.rg false Zd0) (.cond (.t 70) (.seq (.rg false Zgn) .ret) .skip)) (.seq (.rg false Zgm) (.seq (.seq (.rg false Zd9) (.block 4 (.loop Zda))) (.seq (.seq (.rg false Zbv) (.cond (.t 108) (.seq (.rg false Zcn) .ret) .skip)) (.seq (.rg false Zcf) .ret)))))) ⟨e,[]⟩ (retQ [.tmp 6] (.int .i64 (chkC L d M))):=fun x e hx k0 k1 k7=>by
  refine Zav (Zav (T_W ?_))
  simp only [go_sem,Zo1]
  refine Zaw (Zas [(0,.sl ls),(1,.str (bs d)),(7,.bool x),(8,.int .i64 0)] (by simp only [go_sem,k0,k1,k7]) (Y9a hls hll hok (fun e k0 k1 k7=>?_)))
  show T Tryz.prog 109 0 (.seq (.seq (.rg false Zd0) (.cond (.t 70) (.seq (.rg false Zgn) .ret) .skip)) _) _ _
  rw [hx] at k7
  cases hv:(okB d && M.all okB && L.all ndVa) with
  | false =>
   have hc:chkC L d M=2:=by unfold chkC; rw [hv]; rfl
   rw [hc]
   rw [hv] at k7
   refine Za0 0 rfl ?_
   simp only [go_sem,Zd0,Zgn,k7]
  | true =>
   rw [hv] at k7
   simp only [Bool.and_eq_true] at hv
   refine Za0 0 rfl ?_
   simp only [go_sem,Zd0,k7]
   exact tail _ (by simp only [go_sem,k0]) (by simp only [go_sem,k1]) hv.1.1 hv.1.2 hv.2
 refine Zat Yn0 (by simp) (Za0 1 rfl ?_)
 unfold Yh2
 simp only [go_sem,Z3w,Z4e]
 refine Zaa (rvalid' (by omega)) (by simp only [go_sem]) ?_
 cases hb:okB d with
 | false =>
  simp only [go_sem]
  exact mid false _ (by rw [hb]; rfl) (by simp only [go_sem]) (by simp only [go_sem]) (by simp only [go_sem])
 | true =>
  simp only [go_sem]
  refine Zaa hn (by simp only [go_sem]) ?_
  rw [hnE]
  cases hm:M.all okB with
  | false =>
   simp only [go_sem]
   exact mid false _ (by rw [hm]; simp) (by simp only [go_sem]) (by simp only [go_sem]) (by simp only [go_sem])
  | true =>
   simp only [go_sem]
   exact mid true _ (by rw [hb,hm]; rfl) (by simp only [go_sem]) (by simp only [go_sem]) (by simp only [go_sem])
end GoAbs
namespace GoAbs
open Go Go.Proofs
open Classical in
noncomputable def cntP {α:Type} (L:List α) (P:α→Prop):Nat:=L.countP (fun x=>decide (P x))
theorem Y2d {α:Type}{P Q:α→Prop}:∀ {L:List α},(∀ x,x∈L→P x→Q x)→cntP L P≤cntP L Q
 | [],_=>Nat.le_refl _
 | x::L,h=>by
  have ih:=Y2d (P:=P) (Q:=Q) (L:=L) (fun y hy=>h y (List.mem_cons_of_mem _ hy))
  have hx:=h x List.mem_cons_self
  unfold cntP at *
  rw [List.countP_cons,List.countP_cons]
  by_cases hp:P x
  ·simp only [hp,hx hp,decide_true,if_true]; omega
  ·by_cases hq:Q x <;> simp [hp,hq] <;> omega
theorem Y2m {α:Type}{P Q:α→Prop}:∀ {L:List α},(∀ x,x∈L→P x→Q x)→(∃ x,x∈L∧Q x∧¬ P x)→cntP L P<cntP L Q
 | [],_,h=>by obtain ⟨x,hx,_⟩:=h; simp at hx
 | x::L,h,⟨y,hy,hq,hp⟩=>by
  have hL:=fun y hy=>h y (List.mem_cons_of_mem x hy)
  have hx:=h x List.mem_cons_self
  rcases List.mem_cons.1 hy with rfl | hy
  ·have ih:=Y2d (P:=P) (Q:=Q) hL
   unfold cntP at *
   rw [List.countP_cons,List.countP_cons]
   simp [hp,hq]; omega
  ·have ih:=Y2m (P:=P) (Q:=Q) hL ⟨y,hy,hq,hp⟩
   unfold cntP at *
   rw [List.countP_cons,List.countP_cons]
   by_cases hp:P x
   ·simp only [hp,hx hp,decide_true,if_true]; omega
   ·by_cases hq:Q x <;> simp [hp,hq] <;> omega
def allP:List GN→List (List Int)
 | [] => [[]]
 | x::r=>(List.range x.to.length).flatMap fun (k:Nat)=>(allP r).map fun q=>(k:Int)::q
theorem Yrg:∀ {ns:List GN}{p:List Int},p.length=ns.length→(∀ i,i<ns.length→0≤p.getD i 0∧p.getD i 0<((ns.getD i default).to.length:Int))→p∈allP ns
 | [],p,hl,_=>by
  cases p with
  | nil=>simp [allP]
  | cons a p=>simp at hl
 | x::r,p,hl,h=>by
  cases p with
  | nil=>simp at hl
  | cons a p =>
   have h0:=h 0 (by simp)
   have ht:=Yrg (ns:=r) (p:=p) (by simpa using hl) (fun i hi=>by
    have:=h (i+1) (by simp; omega)
    simpa using this)
   simp at h0
   unfold allP
   rw [List.mem_flatMap]
   refine ⟨a.toNat,by rw [List.mem_range]; omega,?_⟩
   rw [List.mem_map]
   exact ⟨p,ht,by rw [Int.toNat_of_nonneg h0.1]⟩
theorem POk0.mem {g:Gm}{p:List Int}(h:POk0 g p):p∈allP g.nodes:=Yrg h.1 h.2
theorem Xa4 {a:Rat}{who:Nat}:cmpR a a≠sgn who:=by
 unfold cmpR sgn
 rw [if_neg (by grind),if_neg (by grind)]
 split <;> decide
theorem Ysn {g:Gm}{v:List Rat}{who:Nat}{p:List Int}:betC g v who (betP g v who p)=false:=by
 unfold betC
 rw [List.any_eq_false]
 intro i hi
 have hi:i<g.nodes.length:=by simpa using hi
 have e:pget (betP g v who p) i=if bet1 g v who p i=true then bestA v (nodeAt g i).to (sgn who) else pget p i:=by
  unfold pget
  rw [Zqn hi]
  unfold betI
  split <;> simp
 by_cases hb:bet1 g v who p i=true
 ·rw [if_pos hb] at e
  unfold bet1
  rw [e]
  simp [Xa4]
 ·rw [if_neg hb] at e
  have:bet1 g v who (betP g v who p) i=bet1 g v who p i:=by unfold bet1; rw [e]
  rw [this]
  exact hb
theorem Yza {g:Gm}(hd:g.d=0) {p:List Int}{v:List Rat}(h:PVal g p v) (hr:g.rew.length=g.nodes.length):v=g.rew:=by
 refine Z9n (by rw [h.1,hr]) (fun i hi=>?_)
 rw [h.2 i (by omega)]
 unfold planV
 rw [hd]; grind
open Classical in
noncomputable def mIn (g:Gm) (V:List Int→List Rat) (p:List Int):Nat :=
 2*cntP (allP g.nodes) (fun q=>Ltv g.nodes.length (V q) (V p))+(if betC g (V p) 2 p=true then 1 else 0)
theorem Xfo {g:Gm}(hg:GmP g) (h:g.d≠0):0<g.d:=by have:=hg.d0; grind
theorem Xgk {g:Gm}(hg:GmP g) {V:List Int→List Rat}(hV:∀ q,POk0 g q→PVal g q (V q)) {p:List Int}(hp:POk0 g p) (hc:betC g (V p) 2 p=true):mIn g V (betP g (V p) 2 p)<mIn g V p:=by
 have hq:=Ydq hg (v:=V p) (who:=2) hp
 unfold mIn
 rw [if_pos hc]
 by_cases hd:g.d=0
 ·have e1:=Yza hd (hV p hp) hg.ok.rew
  have e2:=Yza hd (hV _ hq) hg.ok.rew
  have hi:=Ysn (g:=g) (v:=V p) (who:=2) (p:=p)
  rw [e2,e1] at *
  rw [if_neg (by rw [hi]; decide)]
  omega
 ·have hl:=better2 hg hp (hV p hp) (Xfo hg hd) hc (hV _ hq)
  have:=Y2m (L:=allP g.nodes) (P:=fun q=>Ltv g.nodes.length (V q) (V (betP g (V p) 2 p))) (Q:=fun q=>Ltv g.nodes.length (V q) (V p)) (fun q _ h=>h.trans hl) ⟨_,hq.mem,hl,fun h=>h.irrefl⟩
  split <;> omega
def Abv (g:Gm) (u:Option (List Rat)) (w:List Rat):Prop:=g.d=0∨match u with | none=>True | some u=>Ltv g.nodes.length u w
noncomputable def mOut (g:Gm) (V:List Int→List Rat) (s:Option (List Rat)×List Int):Nat :=
 2*cntP (allP g.nodes) (fun q=>Abv g s.1 (V q))+(if betC g g.rew 1 s.2=true then 1 else 0)
def OutI (g:Gm) (V:List Int→List Rat) (s:Option (List Rat)×List Int):Prop:=POk0 g s.2∧∀ q,POk0 g q→Same1 g q s.2→Abv g s.1 (V q)
theorem Yvd {g:Gm}{v:List Rat}{p q:List Int}(h:Same1 g p q):betC g v 1 p=betC g v 1 q:=by
 unfold betC
 rw [Bool.eq_iff_iff,List.any_eq_true,List.any_eq_true]
 have e:∀ i,i<g.nodes.length→bet1 g v 1 p i=bet1 g v 1 q i:=fun i hi=>by
  unfold bet1
  by_cases h1:(nodeAt g i).kind=1
  ·unfold pget; rw [h i hi h1]
  ·simp [h1]
 constructor
 ·rintro ⟨i,hi,hb⟩
  exact ⟨i,hi,by rw [← e i (by simpa using hi)]; exact hb⟩
 ·rintro ⟨i,hi,hb⟩
  exact ⟨i,hi,by rw [e i (by simpa using hi)]; exact hb⟩
theorem Y8h {g:Gm}(hg:GmP g) {V:List Int→List Rat}(hV:∀ q,POk0 g q→PVal g q (V q)) {s:Option (List Rat)×List Int}(hs:OutI g V s) {p:List Int}(hp:POk0 g p) (hsm:Same1 g p s.2) (h2:betC g (V p) 2 p=false) (h1:betC g (V p) 1 p=true) :
  OutI g V (some (V p),betP g (V p) 1 p)∧mOut g V (some (V p),betP g (V p) 1 p)<mOut g V s:=by
 have hq:=Ydq hg (v:=V p) (who:=1) hp
 by_cases hd:g.d=0
 ·have e1:=Yza hd (hV p hp) hg.ok.rew
  refine ⟨⟨hq,fun q _ _ => .inl hd⟩,?_⟩
  have hi:=Ysn (g:=g) (v:=V p) (who:=1) (p:=p)
  have hb:betC g g.rew 1 s.2=true:=by rw [← Yvd hsm, ← e1]; exact h1
  unfold mOut
  rw [if_pos hb]
  have hi':betC g g.rew 1 (betP g (V p) 1 p)=false:=by rw [← e1]; exact hi
  rw [show (some (V p),betP g (V p) 1 p).2=betP g (V p) 1 p from rfl,if_neg (by rw [hi']; decide)]
  have:=Y2d (L:=allP g.nodes) (P:=fun q=>Abv g (some (V p),betP g (V p) 1 p).1 (V q)) (Q:=fun q=>Abv g s.1 (V q)) (fun q _ _ => .inl hd)
  omega
 ·have hdp:=Xfo hg hd
  refine ⟨⟨hq,fun q hq hs => .inr (better1 hg hp (hV p hp) hdp h2 h1 hq hs (hV q hq))⟩,?_⟩
  have ha:=hs.2 p hp hsm
  have:=Y2m (L:=allP g.nodes) (P:=fun q=>Abv g (some (V p),betP g (V p) 1 p).1 (V q)) (Q:=fun q=>Abv g s.1 (V q)) (fun q _ h=>by
    refine h.elim (fun h=>absurd h hd) (fun h=>?_)
    refine ha.elim (fun h=>absurd h hd) (fun ha => .inr ?_)
    cases hu:s.1 with
    | none=>trivial
    | some u=>rw [hu] at ha; exact Ltv.trans ha h) ⟨p,hp.mem,ha,fun h=>h.elim (fun h=>hd h) (fun h=>Ltv.irrefl h)⟩
  unfold mOut
  split <;> omega
end GoAbs
namespace GoAbs
open Go Go.Proofs
def Dom (m c k:Nat) (M:RM):Prop:=∀ i,c≤i→i<m→(∀ j,c≤j→j<m→j≠i→mget M i j≤0)∧0<sumL (List.range' (c+1) k) (fun j=>mget M i (j - 1))
theorem Ycp {R:List Nat}{f:Nat→Rat}(h:∀ i,i∈R→f i≤0):sumL R f≤0:=by
 have h1:=Ypo (R:=R) (f:=fun i => -1*f i) (fun i hi=>by have:=h i hi; grind)
 rw [Zf2] at h1
 grind
theorem Yub {R:List Nat}{f:Nat→Rat}{a:Nat}(hn:R.Nodup) (ha:a∈R) (h:∀ i,i∈R→i≠a→f i≤0):sumL R f≤f a:=by
 induction R with
 | nil=>simp at ha
 | cons b R ih =>
  rw [List.nodup_cons] at hn
  rw [Zar]
  rcases List.mem_cons.1 ha with rfl | ha'
  ·have:=Ycp (R:=R) (f:=f) (fun i hi=>h i (List.mem_cons_of_mem _ hi) (fun e=>hn.1 (e ▸ hi)))
   grind
  ·have h1:=ih hn.2 ha' (fun i hi=>h i (List.mem_cons_of_mem _ hi))
   have h2:=h b List.mem_cons_self (fun e=>hn.1 (e ▸ ha'))
   grind
theorem Dom.pos {m c k:Nat}{M:RM}(h:Dom m c k M) (hk:c+k=m) {i:Nat}(h1:c≤i) (h2:i<m):0<mget M i i:=by
 obtain ⟨a,b⟩:=h i h1 h2
 have:=Yub (R:=List.range' (c+1) k) (f:=fun j=>mget M i (j - 1)) (a:=i+1) List.nodup_range' (by rw [List.mem_range'_1]; omega) (fun j hj hne=>by
  have hj':=List.mem_range'_1.1 hj
  exact a (j - 1) (by omega) (by omega) (by omega))
 rw [Nat.add_sub_cancel] at this
 grind
theorem Xe2 {a b:Rat}(ha:a≤0) (hb:0<b):a / b≤0:=by
 have h1:=Rat.inv_pos.2 hb
 have:=Rat.mul_nonneg (show 0 ≤ -a by grind) (Rat.le_of_lt h1)
 rw [Rat.div_def]
 grind
theorem Dom.elim {m c k:Nat}{M:RM}(h:Dom m c (k+1) M) (hk:c+(k+1)=m) (hM:M.length=m) (hW:Wid (m+1) M):Dom m (c+1) k (elimCol M c M.length):=fun i h1 h2=>by
 have hp:=h.pos hk (Nat.le_refl c) (by omega)
 have h0:mget M c c≠0:=fun e=>by rw [e] at hp; exact absurd hp (by decide)
 obtain ⟨a,b⟩:=h i (by omega) h2
 obtain ⟨a',b'⟩:=h c (Nat.le_refl _) (by omega)
 have hq:=Xe2 (a c (Nat.le_refl _) (by omega) (by omega)) hp
 refine ⟨fun j hj hjm hji=>?_,?_⟩
 ·rw [Z2t hW (by omega) (by omega) (by omega) (by omega) h0]
  have x1:=a j (by omega) hjm hji
  have x2:=a' j (by omega) hjm (by omega)
  have x3:=Rat.mul_nonneg (show 0 ≤ -(mget M i c / mget M c c) by grind) (show 0 ≤ -mget M c j by grind)
  have x4:mget M i c*mget M c j / mget M c c=mget M i c / mget M c c*mget M c j:=by grind
  grind
 ·have e1:sumL (List.range' (c+1+1) k) (fun j=>mget (elimCol M c M.length) i (j - 1))=sumL (List.range' (c+1+1) k) (fun j=>mget M i (j - 1))+(-(mget M i c / mget M c c))*sumL (List.range' (c+1+1) k) (fun j=>mget M c (j - 1)):=by
   rw [← Zf2, ← Z31]
   refine Za5 (fun j hj=>?_)
   have hj':=List.mem_range'_1.1 hj
   rw [Z2t hW (by omega) (by omega) (by omega) (by omega) h0]
   grind
  rw [e1]
  rw [List.range'_succ,Zar,Nat.add_sub_cancel] at b b'
  have x1:=Rat.mul_nonneg (show 0 ≤ -(mget M i c / mget M c c) by grind) (Rat.le_of_lt b')
  have x2:mget M i c / mget M c c*mget M c c=mget M i c:=by grind
  generalize sumL (List.range' (c+1+1) k) (fun j=>mget M i (j - 1))=s at *
  generalize sumL (List.range' (c+1+1) k) (fun j=>mget M c (j - 1))=t at *
  generalize mget M i c / mget M c c=q at *
  grind
theorem Yze {m:Nat}:∀ {k c:Nat}{M:RM}{d:Rat},c+k=m→M.length=m→Wid (m+1) M→Dom m c k M →
  NoSw k c M∧(∀ i,c≤i→i<m→mget (tri k c M d).2 i i≠0)∧Wid (m+1) (tri k c M d).2 ∧
  ∀ x:Nat→Rat,(∀ i,c≤i→i<m→sumL (List.range' (i+1) (m - i)) (fun j=>x j*mget (tri k c M d).2 i (j - 1))=mget (tri k c M d).2 i m) →
   ∀ i,c≤i→i<m→sumL (List.range' (c+1) k) (fun j=>x j*mget M i (j - 1))=mget M i m
 | 0,c,M,d,hk,_,hW,_=>⟨trivial,fun i h1 h2=>by omega,hW,fun _ _ i h1 h2=>by omega⟩
 | k+1,c,M,d,hk,hM,hW,hD=>by
  have hp:=hD.pos hk (Nat.le_refl c) (by omega)
  have h0:mget M c c≠0:=fun e=>by rw [e] at hp; exact absurd hp (by decide)
  obtain ⟨i1,i2,i3,i4⟩:=Yze (m:=m) (k:=k) (c:=c+1) (M:=elimCol M c M.length) (d:=d*mget M c c) (by omega) (by rw [Zbb,hM]) hW.elim (hD.elim hk hM hW)
  unfold tri NoSw
  rw [if_neg h0]
  refine ⟨⟨fun h=>absurd h h0,fun _=>i1⟩,fun i h1 h2=>?_,i3,fun x hx=>?_⟩
  ·by_cases hi:i=c
   ·rw [hi,Ynq (by omega),Zhw (by omega)]; exact h0
   ·exact i2 i (by omega) h2
  ·have ih:=i4 x (fun i h1 h2=>hx i (by omega) h2)
   have hc:=hx c (by omega) (by omega)
   rw [show m - c=k+1 by omega,List.range'_succ,Zar,Ynq (by omega),Ynq (by omega),Zhw (by omega),Zhw (by omega)] at hc
   have hcs:sumL (List.range' (c+1+1) k) (fun j=>x j*mget (tri k (c+1) (elimCol M c M.length) (d*mget M c c)).2 c (j - 1))=sumL (List.range' (c+1+1) k) (fun j=>x j*mget M c (j - 1)) :=
    Za5 (fun j _=>by rw [Ynq (by omega),Zhw (by omega)])
   rw [hcs] at hc
   intro i h1 h2
   rw [List.range'_succ,Zar]
   rw [Nat.add_sub_cancel] at hc ⊢
   by_cases hi:i=c
   ·rw [hi]; exact hc
   ·have hm:=ih i (by omega) h2
    have e1:sumL (List.range' (c+1+1) k) (fun j=>x j*mget (elimCol M c M.length) i (j - 1))=sumL (List.range' (c+1+1) k) (fun j=>x j*mget M i (j - 1))+(-(mget M i c / mget M c c))*sumL (List.range' (c+1+1) k) (fun j=>x j*mget M c (j - 1)):=by
     rw [← Zf2, ← Z31]
     refine Za5 (fun j hj=>?_)
     have hj':=List.mem_range'_1.1 hj
     rw [Z2t hW (by omega) (by omega) (by omega) (by omega) h0]
     grind
    rw [e1,Z2t hW (by omega) (by omega) (by omega) (by omega) h0] at hm
    generalize sumL (List.range' (c+1+1) k) (fun j=>x j*mget M i (j - 1))=s at *
    generalize sumL (List.range' (c+1+1) k) (fun j=>x j*mget M c (j - 1))=t at *
    have ht:t=mget M c m - x (c+1)*mget M c c:=by grind
    rw [ht] at hm
    grind
def solvR (n:Nat) (M:RM) (r:List Rat):List Rat:=bsub (tri n 0 (aug M r) 1).2 n n
theorem Ydc {n:Nat}{M:RM}{r:List Rat}(hM:M.length=n) (hW:Wid n M) (hr:r.length=n) (hD:Dom n 0 n M) :
  NoSw n 0 (aug M r)∧(∀ i,i<n→rget ((tri n 0 (aug M r) 1).2.getD i []) i≠0)∧Wid (n+1) (tri n 0 (aug M r) 1).2 ∧
  (solvR n M r).length=n∧∀ i,i<n→sumL (List.range n) (fun j=>rget (solvR n M r) j*mget M i j)=rget r i:=by
 have hm:=fun i (hi:i<n)=>Y6j hM hW hr hi
 have hD':Dom n 0 n (aug M r):=fun i h1 h2=>by
  obtain ⟨a,b⟩:=hD i h1 h2
  refine ⟨fun j hj hjn hji=>by rw [(hm i h2).1 j hjn]; exact a j hj hjn hji,?_⟩
  rw [Za5 (g:=fun j=>mget M i (j - 1)) (fun j hj=>by
   have hj':=List.mem_range'_1.1 hj
   exact (hm i h2).1 (j - 1) (by omega))]
  exact b
 obtain ⟨a1,a2,a3,a4⟩:=Yze (m:=n) (k:=n) (c:=0) (M:=aug M r) (d:=1) (by omega) (by rw [Ydn (by omega),hM]) (Yqb hW) hD'
 refine ⟨a1,fun i hi=>a2 i (by omega) hi,a3,Zw9 n,fun i hi=>?_⟩
 have h:=a4 (solX (tri n 0 (aug M r) 1).2 n) (fun i _ hi=>Y7a (n:=n) (fun i hi=>a2 i (by omega) hi) i hi) i (by omega) hi
 rw [(hm i hi).2] at h
 rw [← h,List.range'_eq_map_range,Ybl]
 refine Za5 (fun j hj=>?_)
 have hj':=List.mem_range.1 hj
 rw [show 0+1+j=j+1 by omega,Yc5,Nat.add_sub_cancel,(hm i hi).1 j hj']
 rfl
end GoAbs
namespace GoAbs
open Go Go.Proofs
def addOdds (d:Rat) (i:Nat) (odds:List Rat) (to:List Nat):Nat→RM→RM
 | 0,M=>M
 | k+1,M=>addAt (addOdds d i odds to k M) i (to.getD k 0) (-(d*rget odds k))
def nodeM (g:Gm) (p:List Int) (M:RM) (i:Nat):RM :=
 if (nodeAt g i).kind=3 then addOdds g.d i (nodeAt g i).odds (nodeAt g i).to (nodeAt g i).to.length (addAt M i i 1) else addAt (addAt M i i 1) i ((nodeAt g i).to.getD (pget p i) 0) (-g.d)
def planM (g:Gm) (p:List Int):Nat→RM
 | 0=>List.replicate g.nodes.length (List.replicate g.nodes.length 0)
 | i+1=>nodeM g p (planM g p i) i
structure Pm (n:Nat) (M:RM):Prop where
 len:M.length=n
 wid:Wid n M
 np:∀ i j,i≠j→mget M i j≤0
def rdot (n:Nat) (M:RM) (i:Nat) (v:List Rat):Rat:=sumL (List.range n) (fun j=>rget v j*mget M i j)
theorem Pm.add {n:Nat}{M:RM}(h:Pm n M) {i j:Nat}{x:Rat}(hi:i<n) (hj:j<n) (hx:i=j∨x≤0):Pm n (addAt M i j x):=by
 refine ⟨by rw [Zdl,h.len],h.wid.addAt,fun a b hab=>?_⟩
 rw [Z56 h.wid (by rw [h.len]; exact hi) hj]
 have:=h.np a b hab
 split
 ·rename_i he
  rcases hx with e | hx
  ·exact absurd (he.1.trans (e.trans he.2.symm)) hab
  ·grind
 ·grind
theorem Yjj {n:Nat}{M:RM}(h:Pm n M) {i j a:Nat}{x:Rat}{v:List Rat}(hi:i<n) (hj:j<n):rdot n (addAt M i j x) a v=rdot n M a v+if a=i then rget v j*x else 0:=by
 unfold rdot
 have e:∀ b,rget v b*mget (addAt M i j x) a b=rget v b*mget M a b+(if a=i then x else 0)*((if b=j then 1 else 0)*rget v b):=fun b=>by
  rw [Z56 h.wid (by rw [h.len]; exact hi) hj]
  by_cases h1:a=i <;> by_cases h2:b=j <;> simp [h1,h2] <;> grind
 rw [Za5 (fun b _=>e b),Z31,Zf2,Y0w List.nodup_range,if_pos (List.mem_range.2 hj)]
 split <;> grind
theorem Ygl {n i:Nat}{d:Rat}{odds:List Rat}{to:List Nat}(d0:0≤d) (hi:i<n) (ho:∀ t,t<to.length→0≤rget odds t) (hto:∀ x,x∈to→x<n):∀ {k:Nat}{M:RM},k≤to.length→Pm n M →
  Pm n (addOdds d i odds to k M)∧∀ a v,rdot n (addOdds d i odds to k M) a v=rdot n M a v - if a=i then d*dotW odds v to k else 0
 | 0,M,_,h=>⟨h,fun a v=>by unfold addOdds dotW; split <;> grind⟩
 | k+1,M,hk,h=>by
  obtain ⟨h1,h2⟩:=Ygl (n:=n) (i:=i) (d:=d) (odds:=odds) (to:=to) d0 hi ho hto (k:=k) (M:=M) (by omega) h
  have ht:=hto _ (Zbl (to:=to) (k:=k) (by omega))
  have hx:=Rat.mul_nonneg d0 (ho k (by omega))
  unfold addOdds
  refine ⟨h1.add hi ht (.inr (by grind)),fun a v=>?_⟩
  rw [Yjj h1 hi ht,h2]
  simp only [dotW]
  split <;> grind
theorem Y4a {g:Gm}(hg:GmP g) {p:List Int}(hp:POk g p) {M:RM}{i:Nat}(hi:i<g.nodes.length) (h:Pm g.nodes.length M) :
  Pm g.nodes.length (nodeM g p M i)∧∀ a v,rdot g.nodes.length (nodeM g p M i) a v=rdot g.nodes.length M a v+if a=i then rget v i - g.d*worthP (nodeAt g i) (pget p i) v else 0:=by
 have hx:=Zb4 hi
 have hok:=hg.ok.node _ hx
 have hlt:=hp.lt hi
 have hod:=hg.odds _ hx
 have d0:=hg.d0
 unfold nodeM
 generalize nodeAt g i=x at *
 have h1:=h.add (x:=1) hi hi (.inl rfl)
 have r1:=fun a v=>Yjj (x:=1) (a:=a) (v:=v) h hi hi
 split
 ·rename_i h3
  have ho:=(hok.odds h3).1
  obtain ⟨a1,a2⟩:=Ygl (n:=g.nodes.length) (i:=i) (d:=g.d) (odds:=x.odds) (to:=x.to) d0 hi (fun t ht=>(hod h3).1 _ (List.mem_of_getElem? (Zai (by omega)))) hok.lt (k:=x.to.length) (Nat.le_refl _) h1
  refine ⟨a1,fun a v=>?_⟩
  rw [a2,r1]
  unfold worthP
  rw [if_pos h3]
  split <;> grind
 ·rename_i h3
  have ht:=hok.lt _ (Zbl (hlt h3))
  refine ⟨h1.add hi ht (.inr (by grind)),fun a v=>?_⟩
  rw [Yjj h1 hi ht,r1]
  unfold worthP
  rw [if_neg h3]
  split <;> grind
theorem Ybh {g:Gm}(hg:GmP g) {p:List Int}(hp:POk g p):∀ {k:Nat},k≤g.nodes.length →
  Pm g.nodes.length (planM g p k)∧∀ a v,rdot g.nodes.length (planM g p k) a v=if a<k then rget v a - g.d*worthP (nodeAt g a) (pget p a) v else 0
 | 0,_=>by
  have h0:∀ i j,mget (List.replicate g.nodes.length (List.replicate g.nodes.length (0:Rat))) i j=0:=fun i j=>by
   unfold mget rget
   rw [List.getD_eq_getElem?_getD,List.getD_eq_getElem?_getD,List.getElem?_replicate]
   split
   ·rw [Option.getD_some,List.getElem?_replicate]; split <;> rfl
   ·simp
  unfold planM
  refine ⟨⟨List.length_replicate,fun r hr=>by rw [(List.mem_replicate.1 hr).2,List.length_replicate],fun i j _=>by rw [h0]; grind⟩,fun a v=>?_⟩
  unfold rdot
  rw [if_neg (by omega)]
  exact Y02 (fun j _=>by rw [h0]; grind)
 | k+1,hk=>by
  obtain ⟨h1,h2⟩:=Ybh hg hp (k:=k) (by omega)
  obtain ⟨h3,h4⟩:=Y4a hg hp (M:=planM g p k) (i:=k) (by omega) h1
  unfold planM
  refine ⟨h3,fun a v=>?_⟩
  rw [h4,h2]
  by_cases ha:a=k
  ·rw [ha,if_neg (by omega),if_pos rfl,if_pos (by omega)]; grind
  ·rw [if_neg ha]
   by_cases hl:a<k
   ·rw [if_pos hl,if_pos (by omega)]; grind
   ·rw [if_neg hl,if_neg (by omega)]; grind
theorem Zgr {n j:Nat}{x:Rat}(h:j<n):rget (List.replicate n x) j=x:=by
 unfold rget
 rw [List.getD_eq_getElem?_getD,List.getElem?_replicate,if_pos h]; rfl
theorem Ys0 {odds:List Rat}{to:List Nat}{n:Nat}:∀ {k:Nat},k≤to.length→(∀ x,x∈to→x<n)→dotW odds (List.replicate n 1) to k=sumO odds k
 | 0,_,_=>rfl
 | k+1,hk,h=>by
  simp only [dotW,sumO]
  rw [Ys0 (by omega) h,Zgr (h _ (Zbl (by omega)))]
  grind
theorem Yva {g:Gm}(hg:GmP g) {p:List Int}(hp:POk g p) {i:Nat}(hi:i<g.nodes.length):worthP (nodeAt g i) (pget p i) (List.replicate g.nodes.length 1)=1:=by
 have hx:=Zb4 hi
 have hok:=hg.ok.node _ hx
 have hlt:=hp.lt hi
 have hod:=hg.odds _ hx
 unfold worthP
 split
 ·rename_i h3
  rw [Ys0 (Nat.le_refl _) hok.lt,(hod h3).2]
 ·rename_i h3
  exact Zgr (hok.lt _ (Zbl (hlt h3)))
def valP (g:Gm) (p:List Int):List Rat:=solvR g.nodes.length (planM g p g.nodes.length) g.rew
theorem Ybm {g:Gm}(hg:GmP g) {p:List Int}(hp:POk g p):Dom g.nodes.length 0 g.nodes.length (planM g p g.nodes.length):=fun i _ hi=>by
 obtain ⟨h1,h2⟩:=Ybh hg hp (Nat.le_refl g.nodes.length)
 refine ⟨fun j _ _ hji=>h1.np i j (fun e=>hji e.symm),?_⟩
 have h3:=h2 i (List.replicate g.nodes.length 1)
 rw [if_pos hi,Yva hg hp hi,Zgr hi] at h3
 have e:sumL (List.range' (0+1) g.nodes.length) (fun j=>mget (planM g p g.nodes.length) i (j - 1))=rdot g.nodes.length (planM g p g.nodes.length) i (List.replicate g.nodes.length 1):=by
  unfold rdot
  rw [List.range'_eq_map_range,Ybl]
  refine Za5 (fun j hj=>?_)
  rw [Zgr (List.mem_range.1 hj),show 0+1+j - 1=j by omega]
  grind
 rw [e,h3]
 have:=hg.d1
 grind
theorem Yje {g:Gm}(hg:GmP g) {p:List Int}(hp:POk g p):PVal g p (valP g p):=by
 obtain ⟨h1,h2⟩:=Ybh hg hp (Nat.le_refl g.nodes.length)
 obtain ⟨_,_,_,h3,h4⟩:=Ydc h1.len h1.wid hg.ok.rew (Ybm hg hp)
 refine ⟨h3,fun i hi=>?_⟩
 have h5:=h4 i hi
 have h6:=h2 i (valP g p)
 rw [if_pos hi] at h6
 unfold planV
 unfold rdot at h6
 have e:rget g.rew i=rget (valP g p) i - g.d*worthP (nodeAt g i) (pget p i) (valP g p):=by rw [← h6, ← h5]; rfl
 rw [e]; grind
end GoAbs
namespace GoAbs
open Go Go.Proofs
def Zz9:List IOp := [oI 4 (.mv (.c .nils)) 0]
def Zna:List IOp := [mI 13 0 0,oI 14 (.nilck (.t 13)) 0,fI 15 0 14 0,lI 16 15 0,oI 17 (.len (.t 16)) 0,mI 18 0 0,oI 19 (.nilck (.t 18)) 0,fI 20 0 19 0,lI 21 20 0,oI 22 (.len (.t 21)) 0,oI 23 (.callw 104 [.t 17,.t 22]) 0,mI 5 23 0]
@[go_sem ↓] theorem Ya3 : autoK Zna = (0, 0) := by kernel_rfl
@[go_sem] theorem Yvr : autoK [mI 13 0 0, oI 14 (.nilck (.t 13)) 0, fI 15 0 14 0, lI 16 15 0, oI 17 (.len (.t 16)) 0, mI 18 0 0, oI 19 (.nilck (.t 18)) 0, fI 20 0 19 0, lI 21 20 0, oI 22 (.len (.t 21)) 0, oI 23 (.callw 104 [.t 17, .t 22]) 0, mI 5 23 0] = (0, 0) := Ya3
def Zx5:List IOp := [mI 24 0 0,oI 25 (.nilck (.t 24)) 0,fI 26 0 25 0,lI 27 26 0,oI 28 (.len (.t 27)) 0,oI 29 (.mv (cI 0)) 0]
def Zl3:List IOp := [oI 30 (.bin .lss (.t 29) (.t 28)) 0]
def Zz6:List IOp := [mI 31 29 0,xI 32 1 27 29 0,lI 33 32 0,mI 6 31 0,mI 7 33 0]
def Zzd:List IOp := [mI 34 5 0,mI 35 6 0,mI 36 6 0,oI 37 (.call 49 [cI 1]) 0,oI 38 (.call 105 [.t 34,.t 35,.t 36,.t 37]) 0]
def Zzv:List IOp := [mI 39 7 0]
def Zyt:List IOp := [oI 40 (.ta 129 true (.agg [.nils]) (.t 39)) 0,eI 41 1 40 0,eI 42 0 40 0]
def Zl7:List IOp := [oI 8 (.alloc [.nils]) 0,⟨none,.st 1 (.t 8) (.t 42),1,[],[],none⟩]
def Zkw:List IOp := [mI 43 5 0,mI 44 6 0,fI 45 0 8 0,lI 46 45 0,mI 47 1 0,mI 48 6 0,xI 49 1 47 48 0,lI 50 49 0,xI 51 1 46 50 0,lI 52 51 0,mI 53 0 0,oI 54 (.nilck (.t 53)) 0,fI 55 2 54 0,lJ 56 4 55 0,oI 57 (.call 106 [.t 56]) 0,oI 58 (.callw 105 [.t 43,.t 44,.t 52,.t 57]) 0]
@[go_sem ↓] theorem Z6c : autoK Zkw = (0, 0) := by kernel_rfl
@[go_sem] theorem Ys3 : autoK [mI 43 5 0, mI 44 6 0, fI 45 0 8 0, lI 46 45 0, mI 47 1 0, mI 48 6 0, xI 49 1 47 48 0, lI 50 49 0, xI 51 1 46 50 0, lI 52 51 0, mI 53 0 0, oI 54 (.nilck (.t 53)) 0, fI 55 2 54 0, lJ 56 4 55 0, oI 57 (.call 106 [.t 56]) 0, oI 58 (.callw 105 [.t 43, .t 44, .t 52, .t 57]) 0] = (0, 0) := Z6c
def Zkm:List IOp := [oI 59 (.ta 131 true (.agg [.nils]) (.t 39)) 0,eI 60 1 59 0,eI 61 0 59 0]
def Zu9:List IOp := [oI 9 (.alloc [.nils]) 0,⟨none,.st 1 (.t 9) (.t 61),1,[],[],none⟩]
def Zj1:List IOp := [mI 62 5 0,mI 63 6 0,fI 64 0 9 0,lI 65 64 0,mI 66 1 0,mI 67 6 0,xI 68 1 66 67 0,lI 69 68 0,xI 70 1 65 69 0,lI 71 70 0,mI 72 0 0,oI 73 (.nilck (.t 72)) 0,fI 74 2 73 0,lJ 75 4 74 0,oI 76 (.call 106 [.t 75]) 0,oI 77 (.callw 105 [.t 62,.t 63,.t 71,.t 76]) 0]
@[go_sem ↓] theorem Z52 : autoK Zj1 = (0, 0) := by kernel_rfl
@[go_sem] theorem Yst : autoK [mI 62 5 0, mI 63 6 0, fI 64 0 9 0, lI 65 64 0, mI 66 1 0, mI 67 6 0, xI 68 1 66 67 0, lI 69 68 0, xI 70 1 65 69 0, lI 71 70 0, mI 72 0 0, oI 73 (.nilck (.t 72)) 0, fI 74 2 73 0, lJ 75 4 74 0, oI 76 (.call 106 [.t 75]) 0, oI 77 (.callw 105 [.t 62, .t 63, .t 71, .t 76]) 0] = (0, 0) := Z52
def Zwq:List IOp := [oI 78 (.ta 140 true (.agg [.nils,.nils]) (.t 39)) 0,eI 79 1 78 0,eI 80 0 78 0]
def Ztp:List IOp := [oI 10 (.alloc [.nils,.nils]) 0,⟨none,.st 2 (.t 10) (.t 80),1,[],[],none⟩]
def Zvi:List IOp := [fI 81 0 10 0,lI 82 81 0,oI 83 (.len (.t 82)) 0,oI 84 (.mv (cI 0)) 0]
def Zjs:List IOp := [oI 85 (.bin .lss (.t 84) (.t 83)) 0]
def Zug:List IOp := [mI 86 84 0,xI 87 1 82 84 0,lI 88 87 0,mI 11 86 0,mI 12 88 0]
def Zk4:List IOp := [mI 89 5 0,mI 90 6 0,mI 91 12 0,mI 92 0 0,oI 93 (.nilck (.t 92)) 0,fI 94 2 93 0,lJ 95 4 94 0,fI 96 1 10 0,lI 97 96 0,mI 98 11 0,xI 99 4 97 98 0,lJ 100 4 99 0,oI 101 (.call 84 [.t 95,.t 100]) 0,oI 102 (.call 106 [.t 101]) 0,oI 103 (.callw 105 [.t 89,.t 90,.t 91,.t 102]) 0]
@[go_sem ↓] theorem Z54 : autoK Zk4 = (0, 0) := by kernel_rfl
@[go_sem] theorem Yrr : autoK [mI 89 5 0, mI 90 6 0, mI 91 12 0, mI 92 0 0, oI 93 (.nilck (.t 92)) 0, fI 94 2 93 0, lJ 95 4 94 0, fI 96 1 10 0, lI 97 96 0, mI 98 11 0, xI 99 4 97 98 0, lJ 100 4 99 0, oI 101 (.call 84 [.t 95, .t 100]) 0, oI 102 (.call 106 [.t 101]) 0, oI 103 (.callw 105 [.t 89, .t 90, .t 91, .t 102]) 0] = (0, 0) := Z54
def Zuc:List IOp := [oI 104 (.bin .add (.t 84) (cI 1)) 0,mI 84 104 0]
def Zne:CC := .seq (.rg false Zjs) (.seq (.cond (.t 85) .skip (.exit 3)) (.seq (.block 4 (.seq (.rg false Zug) (.rg true Zk4))) (.rg false Zuc)))
def Zb3:List IOp := [oI 105 (.bin .add (.t 29) (cI 1)) 0,mI 29 105 0]
def Zm8:CC := .seq (.rg false Zl3) (.seq (.cond (.t 30) .skip (.exit 0)) (.seq (.block 1 (.seq (.rg false Zz6) (.seq (.rg false Zzd) (.seq (.rg false Zzv) (.block 2 (.seq (.rg false Zyt) (.cond (.t 41) (.seq (.rg false Zl7) (.rg true Zkw)) (.seq (.rg false Zkm) (.cond (.t 60) (.seq (.rg false Zu9) (.rg true Zj1)) (.seq (.rg false Zwq) (.cond (.t 79) (.seq (.rg false Ztp) (.seq (.rg false Zvi) (.block 3 (.loop Zne)))) .skip))))))))))) (.rg false Zb3)))
def Zku:List IOp := [mI 106 5 0,mI 107 0 0,oI 108 (.nilck (.t 107)) 0,fI 109 1 108 0,lI 110 109 0,oI 111 (.call 107 [.t 106,.t 110]) 0,mI 4 111 0]
def Yb3:CC := .seq (.rg false Zz9) (.seq (.rg true Zna) (.seq (.seq (.rg false Zx5) (.block 0 (.loop Zm8))) (.seq (.rg false Zku) .ret)))
abbrev Ymg:Nat:=71
theorem Yjc:fnOk Tryz.prog 71=some (112,Yb3,[.tmp 4]):=by kernel_rfl
def Zjw:List IOp := [mI 10 1 0,lI 11 3 0,mI 12 2 0,oI 13 (.call 76 [.t 10,.t 11,.t 12]) 0,mI 9 13 0]
def Zek:List IOp := [lI 14 3 0,mI 15 1 0,mI 16 9 0,xI 17 1 15 16 0,lI 18 17 0,xI 19 4 14 18 0,lJ 20 4 19 0,lI 21 3 0,mI 22 1 0,lI 23 4 0,mI 24 0 0,xI 25 1 23 24 0,lI 26 25 0,xI 27 1 22 26 0,lI 28 27 0,xI 29 4 21 28 0,lJ 30 4 29 0,oI 31 (.call 69 [.t 20,.t 30]) 0,mI 32 2 0,oI 33 (.bin .eql (.t 31) (.t 32)) 0]
@[go_sem ↓] theorem Zuw : autoK Zek = (0, 0) := by kernel_rfl
@[go_sem] theorem Ykr : autoK [lI 14 3 0, mI 15 1 0, mI 16 9 0, xI 17 1 15 16 0, lI 18 17 0, xI 19 4 14 18 0, lJ 20 4 19 0, lI 21 3 0, mI 22 1 0, lI 23 4 0, mI 24 0 0, xI 25 1 23 24 0, lI 26 25 0, xI 27 1 22 26 0, lI 28 27 0, xI 29 4 21 28 0, lJ 30 4 29 0, oI 31 (.call 69 [.t 20, .t 30]) 0, mI 32 2 0, oI 33 (.bin .eql (.t 31) (.t 32)) 0] = (0, 0) := Zuw
def Zjz:List IOp := [lI 34 4 0,mI 35 0 0,mI 36 9 0,xI 37 1 34 35 0,⟨none,.st 1 (.t 37) (.t 36),0,[],[],none⟩,⟨none,.st 1 (.t 5) (.c (.bool true)),0,[],[],none⟩]
def Zrt:CC := .seq (.rg false Zjw) (.seq (.rg true Zek) (.cond (.t 33) (.rg false Zjz) .skip))
abbrev Z6u:Nat:=130
theorem Z1z:fnOk Tryz.prog 130=some (38,Zrt,[]):=by kernel_rfl
def Zw1:List IOp := [oI 5 (.box (.t 1)) 0,oI 6 (.box (.t 2)) 1,oI 8 (.mv (.c (.bool false))) 2]
def Zve:List IOp := [oI 9 (.alloc [.bool false]) 0,⟨none,.st 1 (.t 9) (.c (.bool false)),1,[],[],none⟩]
def Zwa:List IOp := [oI 15 (.mkf 130 [] [.t 6,.t 5,.t 9]) 0,mI 10 15 0]
def Zwb:List IOp := [mI 16 0 0,oI 17 (.nilck (.t 16)) 0,fI 18 0 17 0,lI 19 18 0,oI 20 (.len (.t 19)) 0,oI 21 (.mv (cI 0)) 0]
def Zkv:List IOp := [oI 22 (.bin .lss (.t 21) (.t 20)) 0]
def Zvb:List IOp := [mI 23 21 0,xI 24 1 19 21 0,lI 25 24 0,mI 11 23 0,mI 12 25 0]
def Zwk:List IOp := [mI 26 12 0]
def Ztw:List IOp := [oI 27 (.ta 129 true (.agg [.nils]) (.t 26)) 0,eI 28 1 27 0,eI 29 0 27 0]
def Zjr:List IOp := [oI 13 (.alloc [.nils]) 0,⟨none,.st 1 (.t 13) (.t 29),1,[],[],none⟩]
def Zif:List IOp := [mI 30 3 0,oI 31 (.bin .eql (.t 30) (cI 1)) 0]
def Zrw:List IOp := [mI 32 10 0,mI 33 11 0,fI 34 0 13 0,lI 35 34 0,oI 36 (.callv (.t 32) [.t 33,.t 35,cI 1]) 0]
def Zef:List IOp := [oI 37 (.ta 131 true (.agg [.nils]) (.t 26)) 0,eI 38 1 37 0,eI 39 0 37 0]
def Zh4:List IOp := [oI 14 (.alloc [.nils]) 0,⟨none,.st 1 (.t 14) (.t 39),1,[],[],none⟩]
def Zh6:List IOp := [mI 40 3 0,oI 41 (.bin .eql (.t 40) (cI 2)) 0]
def Zq9:List IOp := [mI 42 10 0,mI 43 11 0,fI 44 0 14 0,lI 45 44 0,oI 46 (.callv (.t 42) [.t 43,.t 45,cI (-1)]) 0]
def Zbp:List IOp := [oI 47 (.bin .add (.t 21) (cI 1)) 0,mI 21 47 0]
def Zj4:CC := .seq (.rg false Zkv) (.seq (.cond (.t 22) .skip (.exit 0)) (.seq (.block 1 (.seq (.rg false Zvb) (.seq (.rg false Zwk) (.block 2 (.seq (.rg false Ztw) (.cond (.t 28) (.seq (.rg false Zjr) (.seq (.rg false Zif) (.cond (.t 31) (.rg false Zrw) .skip))) (.seq (.rg false Zef) (.cond (.t 38) (.seq (.rg false Zh4) (.seq (.rg false Zh6) (.cond (.t 41) (.rg false Zq9) .skip))) .skip)))))))) (.rg false Zbp)))
def Zh8:List IOp := [lI 48 9 0,mI 8 48 0]
def Z8n:CC := .seq (.rg false Zw1) (.seq (.rg false Zve) (.seq (.rg false Zwa) (.seq (.seq (.rg false Zwb) (.block 0 (.loop Zj4))) (.seq (.rg false Zh8) .ret))))
abbrev Yig:Nat:=110
theorem Yfx:fnOk Tryz.prog 110=some (49,Z8n,[.tmp 8]):=by kernel_rfl
def Zy7:List IOp := [oI 2 (.mv (.c .nils)) 0]
def Zyk:List IOp := [mI 5 0 0,oI 6 (.nilck (.t 5)) 0,fI 7 0 6 0,lI 8 7 0,oI 9 (.len (.t 8)) 0,oI 10 (.mks none 8 [.int .i64 0] (.t 9) (.t 9)) 0,mI 3 10 1]
def Zym:List IOp := [mI 11 0 0,mI 12 3 0,oI 13 (.call 71 [.t 11,.t 12]) 0,mI 4 13 0]
def Zy2:List IOp := [mI 14 0 0,mI 15 3 0,mI 16 4 0,oI 17 (.call 110 [.t 14,.t 15,.t 16,cI 2]) 0]
def Z0c:List IOp := [mI 18 0 0,mI 19 3 0,oI 20 (.call 71 [.t 18,.t 19]) 0,mI 4 20 0]
def Zmu:CC := .seq (.seq (.rg false Zy2) (.cond (.t 17) .skip (.exit 2))) (.block 3 (.rg false Z0c))
def Zmm:List IOp := [mI 21 0 0,mI 22 3 0,mI 23 4 0,oI 24 (.call 110 [.t 21,.t 22,.t 23,cI 1]) 0,oI 25 (.un .not (.t 24)) 0]
def Zme:List IOp := [mI 26 4 0,mI 2 26 0]
def Zzl:CC := .block 1 (.seq (.rg false Zym) (.seq (.block 2 (.loop Zmu)) (.seq (.rg false Zmm) (.cond (.t 25) (.seq (.rg false Zme) .ret) .skip))))
def Yd7:CC := .seq (.rg false Zy7) (.seq (.rg false Zyk) (.block 0 (.loop Zzl)))
abbrev Ynd:Nat:=75
theorem Ykm:fnOk Tryz.prog 75=some (27,Yd7,[.tmp 2]):=by kernel_rfl
def Zl1:List IOp := [oI 4 (.mv (.c .nils)) 0,oI 5 (.mv (cI 0)) 0]
def Zmq:List IOp := [mI 9 0 0,mI 10 1 0,oI 11 (.call 48 [.t 9,.t 10]) 0,mI 8 11 0,eI 12 0 8 0,eI 13 1 8 0,mI 6 12 0,mI 7 13 0]
def Zmn:List IOp := [mI 14 7 0,oI 15 (.bin .neq (.t 14) (cI 0)) 0]
def Zyi:List IOp := [mI 16 7 0,oI 4 (.mv (.c .nils)) 0,mI 5 16 0]
def Zx6:List IOp := [mI 17 6 0,oI 18 (.call 75 [.t 17]) 0,oI 19 (.call 51 [.t 18]) 0,eI 20 0 19 0,eI 21 1 19 0,mI 4 20 0,mI 5 21 0]
def Z01:CC := .seq (.rg false Zl1) (.seq (.rg false Zmq) (.seq (.seq (.rg false Zmn) (.cond (.t 15) (.seq (.rg false Zyi) .ret) .skip)) (.seq (.rg false Zx6) .ret)))
abbrev Ym1:Nat:=43
theorem Z5b:fnOk Tryz.prog 43=some (22,Z01,[.tmp 4,.tmp 5]):=by kernel_rfl
def Zox:List IOp := [oI 4 (.mv (.c .nils)) 0,oI 5 (.mv (cI 0)) 0]
def Zqm:List IOp := [mI 16 0 0,mI 17 1 0,oI 18 (.call 48 [.t 16,.t 17]) 0,mI 15 18 0,eI 19 0 15 0,eI 20 1 15 0,mI 6 19 0,mI 7 20 0]
def Zo4:List IOp := [mI 21 7 0,oI 22 (.bin .neq (.t 21) (cI 0)) 0]
def Z2n:List IOp := [mI 23 7 0,oI 4 (.mv (.c .nils)) 0,mI 5 23 0]
def Z5p:List IOp := [mI 24 6 0,oI 25 (.call 75 [.t 24]) 0,mI 8 25 0]
def Z2g:List IOp := [oI 9 (.mv (.c .nils)) 0]
def Z5w:List IOp := [mI 26 6 0,oI 27 (.nilck (.t 26)) 0,fI 28 0 27 0,lI 29 28 0,oI 30 (.len (.t 29)) 0,oI 31 (.mv (cI 0)) 0]
def Ze3:List IOp := [oI 32 (.bin .lss (.t 31) (.t 30)) 0]
def Zi7:List IOp := [xI 33 1 29 31 0,lI 34 33 0,mI 11 34 0]
def Zg1:List IOp := [oI 12 (.mv (cI (-1))) 0]
def Zhb:List IOp := [mI 35 11 0]
def Zg5:List IOp := [oI 36 (.ta 129 true (.agg [.nils]) (.t 35)) 0,eI 37 1 36 0,eI 38 0 36 0]
def Zzy:List IOp := [oI 13 (.alloc [.nils]) 0,⟨none,.st 1 (.t 13) (.t 38),1,[],[],none⟩]
def Zzx:List IOp := [fI 39 0 13 0,lI 40 39 0,mI 41 8 0,oI 42 (.call 76 [.t 40,.t 41,cI 1]) 0,mI 12 42 0]
def Zmz:List IOp := [oI 43 (.ta 131 true (.agg [.nils]) (.t 35)) 0,eI 44 1 43 0,eI 45 0 43 0]
def Zyz:List IOp := [oI 14 (.alloc [.nils]) 0,⟨none,.st 1 (.t 14) (.t 45),1,[],[],none⟩]
def Zxs:List IOp := [fI 46 0 14 0,lI 47 46 0,mI 48 8 0,oI 49 (.call 76 [.t 47,.t 48,cI (-1)]) 0,mI 12 49 0]
def Zgs:List IOp := [mI 50 9 0,mI 51 12 0,oI 52 (.bsl none 1 [.int .i64 0] [(0,.t 51)]) 0,oI 53 (.app none 8 (.t 50) (.t 52)) 1,mI 9 53 2]
def Zg3:List IOp := [oI 54 (.bin .add (.t 31) (cI 1)) 0,mI 31 54 0]
def Zph:CC := .seq (.rg false Ze3) (.seq (.cond (.t 32) .skip (.exit 0)) (.seq (.block 1 (.seq (.rg false Zi7) (.seq (.rg false Zg1) (.seq (.seq (.rg false Zhb) (.block 2 (.seq (.rg false Zg5) (.cond (.t 37) (.seq (.rg false Zzy) (.rg false Zzx)) (.seq (.rg false Zmz) (.cond (.t 44) (.seq (.rg false Zyz) (.rg false Zxs)) .skip)))))) (.rg false Zgs))))) (.rg false Zg3)))
def Zmw:List IOp := [mI 55 9 0,mI 4 55 0,oI 5 (.mv (cI 0)) 0]
def Z64:CC := .seq (.rg false Zox) (.seq (.rg false Zqm) (.seq (.seq (.rg false Zo4) (.cond (.t 22) (.seq (.rg false Z2n) .ret) .skip)) (.seq (.rg false Z5p) (.seq (.rg false Z2g) (.seq (.seq (.rg false Z5w) (.block 0 (.loop Zph))) (.seq (.rg false Zmw) .ret))))))
abbrev Yp4:Nat:=44
theorem Z7h:fnOk Tryz.prog 44=some (56,Z64,[.tmp 4,.tmp 5]):=by kernel_rfl
end GoAbs
