/- Lemmas for the claim (contracts of the functions that it reaches, and what they compute), without conditions. -/
import Derived.Test.YtiapneoakbealaaGreatK32
import Derived.Test.YtiapneoakbealaaGreatProg
import Derived.KernelRfl
set_option linter.unusedVariables false
set_option linter.unusedSimpArgs false
set_option maxRecDepth 10000
set_option maxHeartbeats 2000000
namespace GoAbs
open Go Go.Proofs
set_option maxHeartbeats 8000000
theorem Xfi {nd:Nd}:∀ y,y∈gN nd→∀ f,y.gc f=y:=fun y hy f=>by
 unfold gN at hy
 split at hy
 ·simp at hy; subst hy; rfl
 ·split at hy
  ·simp at hy; subst hy; rfl
  ·split at hy
   ·simp at hy; subst hy; rfl
   ·simp at hy
theorem Y6x {ls A R ms:List AV}{d:ByteArray}{i n k:Nat}{nd:Nd}{va fi:Bool}{e:Nat→AV}{Q:Ex→St→Prop}(hal:A.length≤1000000) (hl:∀ m,m∈nd.mv→m.2.length≤23) (hml:nd.mv.length≤7)
  (he:Has e (rdE ls d i 7 nd.mv.length 8 (oddsT nd.mv).length ms k)) (hA:∀ f,gcL f A=A) (hR:∀ f,gcL f R=R)
  (hQ:∀ st',Le 212 0 st' ⟨envL (rdF ls d i),[.cells (.osl none 3 0 (A++gN nd).length :: .osl (some 4) 4 0 n::z4'),.cells [.bool va],.cells [.bool (fi && decide (1≤nd.mv.length∧nd.mv.length≤6) && kindF nd)],.cells (A++gN nd),.cells R]⟩→Q .normal st') :
  T Tryz.prog 212 0 rdTail ⟨e,[.cells (.osl none 3 0 A.length :: .osl (some 4) 4 0 n::z4'),.cells [.bool va],.cells [.bool fi],.cells A,.cells R,.cells [.int .i64 nd.kind,.str (bs nd.rew),.sl ms],
     .cells (qcell (sumM nd.mv)),.cells (ivs (tosI nd.mv)),.cells (oddsT nd.mv).flatten]⟩ Q:=by
 have hm:Tryz.prog.follows .mixedOrders=true:=by kernel_rfl
 refine Zax (rd25 (fi:=fi) (bT:=7) (m:=nd.mv.length) he.2.2.2.2.1 he.2.2.2.2.2.2.2.1 rfl (fun e2 h2=>?_))
 have he2:=Z4z h2 he rfl
 clear h2 he
 obtain ⟨k0,k1,k6,k7,k8,k9,k11,k12,k13,k14,k31,k32,k33,k52,k53,k54,_⟩:=he2
 have hfl:(fi && decide (1≤nd.mv.length∧nd.mv.length≤6) && kindF nd)=((fi && decide (1≤nd.mv.length∧nd.mv.length≤6)) && kindF nd):=rfl
 rw [hfl] at hQ
 generalize (fi && decide (1≤nd.mv.length∧nd.mv.length≤6))=fi' at *
 refine Za3 0 rfl ?_
 simp only [go_sem,Zlq,k11]
 refine Zaz ?_
 have s1:(A.length+1)*16≤1099511627776:=by omega
 have l1:A.length*1≤A.length:=by omega
 have l2:A.take (A.length*1)=A:=List.take_of_length_le (by omega)
 have l3:A.take A.length=A:=List.take_length
 have hl4:∀ c,c∈oddsT nd.mv→c.length=4:=fun c hc=>(Ycm hl hc).1
 have hbq:∀ H ids,∀ c,c∈oddsT nd.mv→BVs H ids c c:=fun H ids c hc=>by rw [(Ycm hl hc).2.2 H ids]; trivial
 refine Za3 0 rfl ?_
 by_cases h1:nd.kind=1
 ·have hgN:gN nd = [.ifc 129 (.agg [.sl (ivs (tosI nd.mv))])]:=by unfold gN; rw [if_pos h1]
  have hkF:kindF nd=true:=by simp [kindF,h1]
  have hk1:(1:Int)=1:=rfl
  rw [hkF,Bool.and_true,hgN] at hQ
  simp only [go_sem,Zca,h1]
  refine T_W ?_
  simp only [go_sem,Zl9,k6,k12,s1,l1,l2,l3,Nat.le_refl,Nat.mul_one]
  exact hQ _ (Ywl (ids := [7]) (by simp only [go_sem,k0,k1,k6,k7,k8,k9,k11,k12,k13,k14,k31,k32,k33,k52,k53,k54]) (.inl rfl) hA hR (fun f=>rfl) (by simp only [go_sem]; exact Yxm rfl (by simp)))
 ·by_cases h2:nd.kind=2
  ·have hgN:gN nd = [.ifc 131 (.agg [.sl (ivs (tosI nd.mv))])]:=by unfold gN; rw [if_neg h1,if_pos h2]
   have hkF:kindF nd=true:=by simp [kindF,h2]
   have n21:¬ (2:Int)=1:=by decide
   rw [hkF,Bool.and_true,hgN] at hQ
   simp only [go_sem,Zca,Zd5,h2,n21]
   refine T_W ?_
   simp only [go_sem,Zl1,k6,k12,s1,l1,l2,l3,Nat.le_refl,Nat.mul_one]
   exact hQ _ (Ywl (ids := [7]) (by simp only [go_sem,k0,k1,k6,k7,k8,k9,k11,k12,k13,k14,k31,k32,k33,k52,k53,k54]) (.inl rfl) hA hR (fun f=>rfl) (by simp only [go_sem]; exact Yxm rfl (by simp)))
  ·by_cases h3:nd.kind=3
   ·have hgN:gN nd = [.ifc 140 (.agg [.sl (ivs (tosI nd.mv)),.sl ((oddsT nd.mv).map .agg)])]:=by unfold gN; rw [if_neg h1,if_neg h2,if_pos h3]
    have hkF:kindF nd=decide (sumM nd.mv=1):=by simp [kindF,h3]
    have n31:¬ (3:Int)=1:=by decide
    have n32:¬ (3:Int)=2:=by decide
    rw [hkF,hgN] at hQ
    have sb:=Z2m hl
    have hc:=Yw2 (k:=1+78*8) (sb.mono (by omega)) (Qb.one (k:=1+78*8) (by omega)) (by omega)
    have ql:∀ q,(qcell q).length=4:=fun q=>rfl
    have qt:∀ q,(qcell q).take 4=qcell q:=fun q=>rfl
    have qd:∀ q,(qcell q).drop 4 = []:=fun q=>rfl
    have hc0:(cmpR (sumM nd.mv) 1=0)=(sumM nd.mv=1):=propext (by unfold cmpR; constructor <;> intro h <;> grind)
    simp only [go_sem,Zca,Zd5,Zdm,h3,n31,n32]
    refine T_W ?_
    have fin:∀ (b:Bool) (e3:Nat→AV),b=(fi' && decide (sumM nd.mv=1))→Has e3 (rdF ls d i)→Q .normal ⟨e3,[.cells (.osl none 10 0 (A.length+1) :: .osl (some 4) 4 0 n::z4'),.cells [.bool va],.cells [.bool b],.dead,.cells R,.cells [.int .i64 3,.str (bs nd.rew),.sl ms],.cells (qcell (sumM nd.mv)),
      .cells (ivs (tosI nd.mv)),.cells (oddsT nd.mv).flatten,.cells [.ifc 140 (.agg [.osl none 7 0 nd.mv.length,.osl (some 4) 8 0 (oddsT nd.mv).length])],.cells (A ++ [.ifc 140 (.agg [.osl none 7 0 nd.mv.length,.osl (some 4) 8 0 (oddsT nd.mv).length])])]⟩:=fun b e3 hb he3=>by
     subst hb
     refine hQ _ (Ywl (ids := [7,8]) he3 (.inr rfl) hA hR (fun f=>rfl) ?_)
     simp only [go_sem]
     exact ⟨Yxm rfl (by simp),Z5e rfl (by simp) rfl hl4 (hbq _ _)⟩
    cases fi' with
    | false =>
     simp only [go_sem,Zdn,Zdw,k6,k8,k12,k13,k14,s1,l1,l2,l3,Nat.le_refl,Nat.mul_one,hm]
     exact fin _ _ rfl (by simp only [go_sem,k0,k1,k6,k7,k8,k9,k11,k12,k13,k14,k31,k32,k33,k52,k53,k54])
    | true =>
     simp only [go_sem,Zdn,k8,k14,ql,qt,qd,hm]
     refine Zaa Y39 (by simp only [go_sem]) ?_
     simp only [go_sem,Zas,ql,qt,qd,k8,k14]
     refine Zaa hc (by simp only [go_sem,Zas,Zah]) ?_
     by_cases hs1:sumM nd.mv=1
     ·have hc1:cmpR (sumM nd.mv) 1=0:=by rw [hc0]; exact hs1
      simp only [go_sem,hc1,Zdw,k6,k8,k12,k13,k14,s1,l1,l2,l3,Nat.le_refl,Nat.mul_one,hm]
      exact fin _ _ (by simp [hs1]) (by simp only [go_sem,k0,k1,k6,k7,k8,k9,k11,k12,k13,k14,k31,k32,k33,k52,k53,k54])
     ·have hc1:¬ cmpR (sumM nd.mv) 1=0:=by rw [hc0]; exact hs1
      simp only [go_sem,hc1,Zdw,k6,k8,k12,k13,k14,s1,l1,l2,l3,Nat.le_refl,Nat.mul_one,hm]
      exact fin _ _ (by simp [hs1]) (by simp only [go_sem,k0,k1,k6,k7,k8,k9,k11,k12,k13,k14,k31,k32,k33,k52,k53,k54])
   ·have hgN:gN nd = []:=by unfold gN; rw [if_neg h1,if_neg h2,if_neg h3]
    have hkF:kindF nd=false:=by simp [kindF,h1,h2,h3]
    rw [hkF,Bool.and_false,hgN,List.append_nil] at hQ
    simp only [go_sem,Zca,Zd5,Zdm,h1,h2,h3]
    refine T_W ?_
    simp only [go_sem,Zdm,Zl3,h2,h3,k8]
    refine hQ _ (Zpb (Zab (rdF ls d i) ?_) (Zbx (Zh3 [0,1,2,3,4] (by decide) (fun i hi=>by omega) (rdF ls d i) (by simp only [go_sem])) ?_))
    ·simp only [go_sem,k0,k1,k6,k7,k8,k9,k11,k12,k13,k14,k31,k32,k33,k52,k53,k54]
    show St.mk _ [.cells (.osl none 3 0 A.length :: .osl (some 4) 4 0 n::z4'),.cells [.bool va],.cells [.bool _],.cells (gcL _ A),.cells (gcL _ R)]=_
    rw [hA,hR]
    rfl
end GoAbs
namespace GoAbs
open Go Go.Proofs
set_option maxHeartbeats 8000000
noncomputable def rowT (L:List Nd):List (List AV):=L.map fun n=>tc n.rew
noncomputable def nodesT (L:List Nd):List AV:=L.flatMap gN
theorem Yss (L:List Nd):(nodesT L).length≤L.length:=by
 induction L with
 | nil=>simp [nodesT]
 | cons n L ih =>
  have:(gN n).length≤1:=by unfold gN; split; simp; split; simp; split <;> simp
  unfold nodesT at *
  rw [List.flatMap_cons,List.length_append,List.length_cons]; omega
theorem Ya0 {L:List Nd}(f:Nat→Option Nat):gcL f (nodesT L)=nodesT L:=by
 induction L with
 | nil=>rfl
 | cons n L ih =>
  unfold nodesT at *
  rw [List.flatMap_cons,Zws,ih]
  congr 1
  rw [Zaw]
  conv=>rhs; rw [← List.map_id (gN n)]
  exact List.map_congr_left fun y hy=>Xfi y hy f
theorem Xe3 {L:List Nd}{d:ByteArray}{f0:Bool}(hL:L.length≤1000) (hok:∀ n,n∈L→n.rew.length≤23∧n.mv.length≤7∧∀ m,m∈n.mv→m.2.length≤23) {K:Ex→St→Prop}
  (hK:∀ e,Has e (rdF (L.map ndAV) d L.length)→K (.exit 0) ⟨e,[.cells (.osl none 3 0 (nodesT L).length :: .osl (some 4) 4 0 L.length::z4'),.cells [.bool (L.all ndVa)],.cells [.bool (f0 && L.all (ndFi L.length))],.cells (nodesT L),.cells (rowT L).flatten]⟩) :
  T Tryz.prog 212 0 (.loop Zii) ⟨envL (rdF (L.map ndAV) d 0),[.cells (.osl none 3 0 0 :: .osl (some 4) 4 0 0::z4'),.cells [.bool true],.cells [.bool f0],.cells [],.cells []]⟩ K:=by
 refine Zhg (fun i:Nat=>⟨envL (rdF (L.map ndAV) d i),[.cells (.osl none 3 0 (nodesT (L.take i)).length :: .osl (some 4) 4 0 i::z4'),.cells [.bool ((L.take i).all ndVa)],.cells [.bool (f0 && (L.take i).all (ndFi L.length))],.cells (nodesT (L.take i)),.cells (rowT (L.take i)).flatten]⟩)
  (fun i=>i≤L.length) (fun i=>L.length - i) 0 (by omega) (Zbx (Zab (rdF (L.map ndAV) d 0) (by simp only [go_sem])) (by simp [nodesT,rowT])) (fun i hi N hN=>?_)
 unfold Zii
 by_cases hin:i<L.length
 ·obtain ⟨nd,hnd⟩:∃ n,L[i]? = some n:=⟨_,List.getElem?_eq_getElem hin⟩
  obtain ⟨o1,o2,o3⟩:=hok nd (List.mem_of_getElem? hnd)
  have tk:L.take (i+1)=L.take i ++ [nd]:=by rw [List.take_add_one,hnd]; rfl
  have tl:(L.take i).length=i:=by rw [List.length_take]; omega
  have q1:(i:Int)<(L.length:Int):=by omega
  have e1:IntKind.i64.wrap ((i:Int)+1)=((i+1:Nat):Int):=by rw [Zac (by omega) (by omega)]; omega
  have hrow:∀ c,c∈rowT (L.take i)→c.length=4∧∀ f,gcL f c=c:=fun c hc=>by
   obtain ⟨n,hn,rfl⟩:=List.mem_map.1 hc
   have:=(Zjh (hok n (List.mem_of_mem_take hn)).1).1
   exact ⟨this.len,this.gc⟩
  have hrt:=(Zjh o1).1
  have hRl:(rowT (L.take i)).flatten.length=i*4:=by rw [Z0w (fun c hc=>(hrow c hc).1)]; simp [rowT]; omega
  have hRg:∀ f,gcL f (rowT (L.take i)).flatten=(rowT (L.take i)).flatten:=fun f=>Yij (fun c hc=>(hrow c hc).2 f)
  have hnl:=Yss (L.take i)
  have eA:nodesT (L.take (i+1))=nodesT (L.take i)++gN nd:=by rw [tk]; simp [nodesT]
  have eR:(rowT (L.take (i+1))).flatten=(rowT (L.take i)).flatten++tc nd.rew:=by rw [tk]; simp [rowT]
  have eV:(L.take (i+1)).all ndVa=((L.take i).all ndVa && okB nd.rew && vaM nd.mv):=by rw [tk]; simp [ndVa,Bool.and_assoc]
  have eF:(f0 && (L.take (i+1)).all (ndFi L.length))=(f0 && (L.take i).all (ndFi L.length) && smallB nd.rew && fiM L.length nd.kind nd.mv && decide (1≤nd.mv.length∧nd.mv.length≤6) && kindF nd):=by rw [tk]; simp [ndFi,Bool.and_assoc]
  refine Za3 1 rfl ?_
  simp only [go_sem,Zn6,List.length_map,q1]
  refine Zax (Zaz (Zar (rdF (L.map ndAV) d i) (by simp only [go_sem,List.length_map]) (Y93 (nd:=nd) (by omega) (by rw [List.length_map]; omega) (by omega) (by rw [List.getElem?_map,hnd]; rfl) o1 o2 o3 hRl (fun f=>Ya0 f) hRg (fun e he=>?_))))
  refine Y6x (by omega) o3 o2 he (fun f=>Ya0 f) (fun f=>by rw [Zws,hRg,hrt.gc]) (fun st' hle=>?_)
  show T Tryz.prog 212 0 (.rg false Zmh) st' (thenQ N K)
  refine T_le hle (T_W ?_)
  simp only [go_sem,Zmh,e1]
  refine hN (i+1) _ (by omega) (by omega) (Zbx (Zab (rdF (L.map ndAV) d (i+1)) (by simp only [go_sem])) ?_)
  rw [eA,eR,eV,eF]
 ·have hie:i=L.length:=by omega
  subst hie
  have q1:¬ ((L.length:Nat):Int)<(L.length:Int):=by omega
  refine T_W ?_
  rw [List.take_length]
  simp only [go_sem,Zn6,List.length_map,q1]
  exact hK _ (by simp only [go_sem,List.length_map])
end GoAbs
namespace GoAbs
open Go Go.Proofs
set_option maxHeartbeats 8000000
def disF (d:List UInt8):Bool:=smallB d && (match parseL d with | some q=>decide (0≤q) && decide (q<1) | none=>true)
def gFit (L:List Nd) (d:List UInt8):Bool:=decide (1≤L.length∧L.length≤10) && L.all (ndFi L.length) && disF d
noncomputable def gmR (L:List Nd) (d:List UInt8):AV :=
 if (L.all ndVa && okB d)=false then .tup [.nilp,.int .i64 2] else if gFit L d=false then .tup [.nilp,.int .i64 1] else .tup [.rp (.sl (nodesT L) :: .sl ((rowT L).map .agg)::tc d),.int .i64 0]
theorem Xfh {n:Nd}(hl:∀ m,m∈n.mv→m.2.length≤23):∀ y,y∈gN n→y.cells = [y]∧∀ H ids,BV H ids y y:=fun y hy=>by
 unfold gN at hy
 have hA:∀ (cs:List AV) (H:Heap) (ids:List Nat),(∀ x,x∈cs→∃ l,x = .sl l)→BV H ids (.agg cs) (.agg cs):=fun cs H ids h => .agg _ _ rfl (fun i x y hx hy=>by
  rw [hx] at hy; cases hy
  obtain ⟨l,rfl⟩:=h x (List.mem_of_getElem? hx)
  exact .sl l)
 split at hy
 ·simp at hy; subst hy; exact ⟨rfl,fun H ids => .ifc _ _ _ (hA _ _ _ (by simp))⟩
 ·split at hy
  ·simp at hy; subst hy; exact ⟨rfl,fun H ids => .ifc _ _ _ (hA _ _ _ (by simp))⟩
  ·split at hy
   ·simp at hy; subst hy; exact ⟨rfl,fun H ids => .ifc _ _ _ (hA _ _ _ (by simp))⟩
   ·simp at hy
theorem Y2k {L:List Nd}{H:Heap}{ids:List Nat}{b:Nat}(hl:∀ n,n∈L→∀ m,m∈n.mv→m.2.length≤23) (hb:H[b]? = some (.cells (nodesT L))) (hi:b∈ids):BV H ids (.osl none b 0 (nodesT L).length) (.sl (nodesT L)):=by
 have hc:∀ x,x∈nodesT L→x.cells = [x]∧∀ H ids,BV H ids x x:=fun x hx=>by
  obtain ⟨n,hn,hx⟩:=List.mem_flatMap.1 hx
  exact Xfh (hl n hn) x hx
 refine .osl none b 0 _ _ _ hb hi rfl (fun x hx=>by rw [(hc x hx).1]; rfl) (by show 0+(nodesT L).length*1≤_; omega) (fun i x j y z hx hy hz=>?_)
 rw [(hc x (List.mem_of_getElem? hx)).1] at hy
 cases j with
 | zero =>
  simp at hy; subst hy
  rw [show 0+(i*es none+0)=i by show 0+(i*1+0)=i; omega,hx] at hz
  cases hz
  exact (hc x (List.mem_of_getElem? hx)).2 _ _
 | succ j=>simp at hy
abbrev rdEnd:CC := .seq (.block 5 (.seq (.rg false Zgk) (.cond (.t 188) (.seq (.rg false Zgl) .ret) (.seq (.rg true Zdt) (.cond (.t 191) (.seq (.rg false Zdy) .ret) .skip))))) (.seq (.rg false Zmn) .ret)
theorem Xd5 {L:List Nd}{d:List UInt8}{e:Nat→AV}{va fi:Bool}{n:Nat}(hd:d.length≤23) (hn:n=L.length) (hv:va=(L.all ndVa && okB d)) (hf:fi=(decide (1≤L.length∧L.length≤10) && L.all (ndFi L.length) && smallB d))
  (hok:∀ n,n∈L→n.rew.length≤23∧n.mv.length≤7∧∀ m,m∈n.mv→m.2.length≤23)
  (e6:e 6 = .ptr 0 0) (e7:e 7 = .ptr 1 0) (e8:e 8 = .ptr 2 0) :
  T Tryz.prog 212 0 rdEnd ⟨e,[.cells (.osl none 3 0 (nodesT L).length :: .osl (some 4) 4 0 n::tc d),.cells [.bool va],.cells [.bool fi],.cells (nodesT L),.cells (rowT L).flatten]⟩ (retQ [.tmp 4,.tmp 5] (gmR L d)):=by
 have hm:Tryz.prog.follows .mixedOrders=true:=by kernel_rfl
 obtain ⟨hrt,hsm⟩:=Zjh hd
 have c4:=hrt.len
 have ct:(tc d).take 4=tc d:=List.take_of_length_le (by omega)
 cases va with
 | false =>
  have hg:gmR L d = .tup [.nilp,.int .i64 2]:=by unfold gmR; rw [if_pos hv.symm]
  rw [hg]
  refine T_W ?_
  simp only [go_sem,Zgk,Zgl,e7]
  exact .nilp
 | true =>
  have hvd:okB d=true:=by have:=hv.symm; rw [Bool.and_eq_true] at this; exact this.2
  obtain ⟨q,hq⟩:∃ q,parseL d=some q:=by
   unfold okB at hvd
   cases hp:parseL d with
   | none=>rw [hp] at hvd; simp at hvd
   | some q=>exact ⟨q,rfl⟩
  have htq:=hrt.q q hq
  have hb:=Zi1 hq hd
  have hdis:gFit L d=(fi && (decide (0≤q) && decide (q<1))):=by
   unfold gFit disF
   rw [hq,hf]
   simp only [Bool.and_assoc]
  have hg:gmR L d=if (fi && (decide (0≤q) && decide (q<1)))=false then .tup [.nilp,.int .i64 1] else .tup [.rp (.sl (nodesT L) :: .sl ((rowT L).map .agg)::tc d),.int .i64 0]:=by
   unfold gmR
   rw [if_neg (by rw [← hv]; decide),hdis]
  rw [hg]
  have hcmp:=Yw2 (k:=77) hb (Qb.one (k:=77) (by omega)) (by omega)
  have ql:∀ q,(qcell q).length=4:=fun q=>rfl
  have qt:∀ q,(qcell q).take 4=qcell q:=fun q=>rfl
  have qd:∀ q,(qcell q).drop 4 = []:=fun q=>rfl
  rw [htq]
  refine Za3 0 rfl ?_
  simp only [go_sem,Zgk,Zgl,e7]
  cases fi with
  | false =>
   simp only [go_sem,Zdt,Zdy,e6,e8,Bool.false_and]
   exact .nilp
  | true =>
   simp only [go_sem,Zdt,e6,e8,ql,qt,qd]
   refine Zaa (Yjf q) (by simp only [go_sem,Zas,Zah]) ?_
   by_cases s0:q<0
   ·have c1:(if q=0 then (0:Int) else if q<0 then -1 else 1) = -1:=by rw [if_neg (by grind),if_pos s0]
    have c2:(-1:Int)<0:=by decide
    have c3:¬ 0≤q:=by grind
    simp only [go_sem,c1,c2,c3,Zdy,e6,e8,decide_false,Bool.false_and,Bool.and_false]
    exact .nilp
   ·have c1:¬ (if q=0 then (0:Int) else if q<0 then -1 else 1)<0:=by rw [if_neg s0]; split <;> decide
    have c3:0≤q:=by grind
    simp only [go_sem,c1,c3,e6,e8,ql,qt,qd]
    refine Zaa Y39 (by simp only [go_sem]) ?_
    simp only [go_sem,Zas,ql,qt,qd,e6,e8]
    refine Zaa hcmp (by simp only [go_sem,Zas,Zah]) ?_
    by_cases s1:q<1
    ·have c4:¬ 0≤cmpR q 1:=by unfold cmpR; rw [if_pos s1]; decide
     simp only [go_sem,c4,s1,decide_true,Bool.and_true,Zmn,e6,e8]
     refine T_W ?_
     simp only [go_sem,e6]
     refine .ptr 0 0 _ _ rfl (by simp [allOf]) (by simp) (fun j y z hy hz=>?_)
     rw [Nat.zero_add] at hz
     match j with
     | 0=>simp at hy hz; subst hy hz; exact Y2k (fun n hn=>(hok n hn).2.2) rfl (by simp [allOf])
     | 1 =>
      have hrow:∀ c,c∈rowT L→c.length=4∧∀ H ids,BVs H ids c c:=fun c hc=>by
       obtain ⟨n,hn,rfl⟩:=List.mem_map.1 hc
       have:=(Zjh (hok n hn).1).1
       exact ⟨this.len,fun H ids=>by rw [this.bv]; trivial⟩
      simp at hy hz; subst hy hz
      rw [hn,show L.length=(rowT L).length by simp [rowT]]
      exact Z5e (w:=4) rfl (by simp [allOf]) rfl (fun c hc=>(hrow c hc).1) (fun c hc=>(hrow c hc).2 _ _)
     | j+2 =>
      simp only [List.getElem?_cons_succ] at hy hz
      rw [hy] at hz; cases hz
      have hx:=List.mem_of_getElem? hy
      unfold qcell at hx
      simp only [List.mem_cons,List.not_mem_nil,or_false] at hx
      rcases hx with rfl | rfl | rfl | rfl
      ·exact .bool _
      ·exact .sl _
      ·exact .bool _
      ·exact .sl _
    ·have c4:0≤cmpR q 1:=by unfold cmpR; rw [if_neg s1]; split <;> decide
     simp only [go_sem,c4,s1,decide_false,Bool.and_false,Zdy,e6,e8]
     exact .nilp
theorem Yuv {L:List Nd}{d:List UInt8}(hL:L.length≤1000) (hd:d.length≤23) (hok:∀ n,n∈L→n.rew.length≤23∧n.mv.length≤7∧∀ m,m∈n.mv→m.2.length≤23) :
  SpecV Tryz.prog Zo9 [.sl (L.map ndAV),.str (bs d)] (gmR L d):=by
 obtain ⟨hrt,hsm⟩:=Zjh hd
 have c4:=hrt.len
 have ct:(tc d).take 4=tc d:=List.take_of_length_le (by omega)
 have cd:(tc d).drop 4 = []:=List.drop_eq_nil_of_le (by omega)
 refine Za0 Ylx (by simp) ?_
 unfold Yfa
 have fin:∀ (b:Bool) (e:Nat→AV),b=decide (1≤L.length∧L.length≤10)→Has e [(0,.sl (L.map ndAV)),(1,.str (bs d)),(6,.ptr 0 0),(7,.ptr 1 0),(8,.ptr 2 0),(9,.fn Zav [] [.ptr 1 0,.ptr 2 0])] →
   T Tryz.prog 212 0 (.seq (.seq (.rg false Zo1) (.block 0 (.loop Zii))) (.seq (.rg false Zgf) rdEnd)) ⟨e,[.cells (.nils :: .nils::z4'),.cells [.bool true],.cells [.bool b]]⟩ (retQ [.tmp 4,.tmp 5] (gmR L d)):=fun b e hb he=>by
  subst hb
  refine Zar _ he (Zax (Za3 0 rfl ?_))
  simp only [go_sem,Zo1,List.length_map]
  refine Zaz (T_le (Zpb (Zab (rdF (L.map ndAV) (bs d) 0) (by simp only [go_sem,List.length_map]; rfl)) (Zpb Yjn (Zpb Yjn (Zbx (Z9g (b:=0) (l := .nils :: .nils::z4') (l' := .osl none 3 0 0 :: .osl (some 4) 4 0 0::z4') rfl rfl (fun j x y hx hy=>?_)) rfl)))) (Xe3 hL hok (fun e he=>?_)))
  ·match j with
   | 0=>simp at hx hy; subst hx hy; exact .inr ⟨rfl,_,_,_,rfl⟩
   | 1=>simp at hx hy; subst hx hy; exact .inr ⟨rfl,_,_,_,rfl⟩
   | j+2=>simp only [List.getElem?_cons_succ] at hx hy; rw [hx] at hy; cases hy; exact .inl rfl
  ·show T Tryz.prog 212 0 (.seq (.rg false Zgf) rdEnd) _ _
   obtain ⟨k0,k1,k6,k7,k8,k9,_⟩:=he
   refine Za3 0 rfl ?_
   simp only [go_sem,Zgf,k1,k6,k9]
   refine Zew (Yc0 (n:=5) (bi:=1) (bj:=2) (va:=L.all ndVa) (fi:=decide (1≤L.length∧L.length≤10) && L.all (ndFi L.length)) rfl ?_ (by omega) rfl rfl hrt hsm) ?_
   ·have hrow:∀ c,c∈rowT L→c.length=4∧∀ f,gcL f c=c:=fun c hc=>by
     obtain ⟨n,hn,rfl⟩:=List.mem_map.1 hc
     have:=(Zjh (hok n hn).1).1
     exact ⟨this.len,this.gc⟩
    unfold Clo
    show [Blk.cells (_::_::z4'),_,_,.cells (gcL _ (nodesT L)),.cells (gcL _ (rowT L).flatten)]=_
    rw [Ya0,Yij (fun c hc=>(hrow c hc).2 _)]; rfl
   ·simp only [go_sem,k6,c4,ct,cd]
    exact Xd5 hd rfl rfl rfl hok (by simp only [go_sem,k6]) (by simp only [go_sem,k7]) (by simp only [go_sem,k8])
 refine Za3 3 rfl ?_
 by_cases a1:(1:Int)≤(L.length:Int)
 ·by_cases a2:(L.length:Int)≤10
  ·simp only [go_sem,Ziy,Ziq,Ziz,Zil,List.length_map,a1,a2]
   exact fin _ _ (by simp; omega) (by simp only [go_sem])
  ·simp only [go_sem,Ziy,Ziq,Ziz,Zil,List.length_map,a1,a2]
   exact fin _ _ (by simp; omega) (by simp only [go_sem])
 ·simp only [go_sem,Ziy,Ziq,Ziz,Zil,List.length_map,a1]
  exact fin _ _ (by simp; omega) (by simp only [go_sem])
end GoAbs
namespace GoAbs
open Go Go.Proofs
theorem Y59 (f:Nat→Rat):∀ n,0<n→∃ i,i<n∧∀ j,j<n→f j≤f i
 | 0,h=>absurd h (by omega)
 | 1,_=>⟨0,by omega,fun j hj=>by
   have h:j=0:=by omega
   rw [h]; grind⟩
 | n+2,_=>by
  obtain ⟨i,hi,h⟩:=Y59 f (n+1) (by omega)
  by_cases hc:f i≤f (n+1)
  ·refine ⟨n+1,by omega,fun j hj=>?_⟩
   by_cases hj':j=n+1
   ·rw [hj']; grind
   ·have:=h j (by omega); grind
  ·refine ⟨i,by omega,fun j hj=>?_⟩
   by_cases hj':j=n+1
   ·rw [hj']; grind
   ·exact h j (by omega)
def Sh (n:Nat) (d:Rat) (F:List Rat→Nat→Rat):Prop:=∀ (u v:List Rat) (c:Rat),(∀ j,j<n→rget u j≤rget v j+c)→∀ i,i<n→F u i≤F v i+d*c
theorem Xe9 {c d:Rat}(d1:d<1) (h:c≤d*c):c≤0:=by
 rcases (Rat.le_total:c≤0∨0≤c) with h0 | h0
 ·exact h0
 ·by_cases hc:c=0
  ·rw [hc]; grind
  ·have hp:0<c:=by grind
   have:=Rat.mul_pos (show 0<1 - d by grind) hp
   grind
theorem Sh.le {n:Nat}{d:Rat}{F:List Rat→Nat→Rat}(h:Sh n d F) (d1:d<1) {u v:List Rat}(hu:∀ i,i<n→rget u i≤F u i) (hv:∀ i,i<n→F v i≤rget v i):∀ i,i<n→rget u i≤rget v i:=fun i hi=>by
 obtain ⟨k,hk,hm⟩:=Y59 (fun i=>rget u i - rget v i) n (by omega)
 have h1:=h u v (rget u k - rget v k) (fun j hj=>by have:=hm j hj; grind) k hk
 have h2:=hu k hk
 have h3:=hv k hk
 have h5:=Xe9 d1 (show rget u k - rget v k≤d*(rget u k - rget v k) by grind)
 have:=hm i hi
 grind
theorem Sh.mono {n:Nat}{d:Rat}{F:List Rat→Nat→Rat}(h:Sh n d F) {u v:List Rat}(hu:∀ j,j<n→rget u j≤rget v j):∀ i,i<n→F u i≤F v i:=fun i hi=>by
 have:=h u v 0 (fun j hj=>by have:=hu j hj; grind) i hi
 grind
theorem Sh.uniq {n:Nat}{d:Rat}{F:List Rat→Nat→Rat}(h:Sh n d F) (d1:d<1) {u v:List Rat}(hu:∀ i,i<n→rget u i=F u i) (hv:∀ i,i<n→rget v i=F v i):∀ i,i<n→rget u i=rget v i:=fun i hi=>by
 have h1:=h.le d1 (fun i hi=>by rw [← hu i hi]; grind) (fun i hi=>by rw [← hv i hi]; grind) i hi
 have h2:=h.le d1 (fun i hi=>by rw [← hv i hi]; grind) (fun i hi=>by rw [← hu i hi]; grind) i hi
 grind
theorem Z7s {u v:List Rat}(hl:u.length=v.length) (h:∀ i,i<v.length→rget u i=rget v i):u=v:=by
 refine List.ext_getElem hl fun i h1 h2=>?_
 have:=h i h2
 unfold rget at this
 rwa [List.getD_eq_getElem?_getD,List.getD_eq_getElem?_getD,List.getElem?_eq_getElem h1,List.getElem?_eq_getElem h2] at this
theorem Y2g {a b:Rat}:(cmpR a b=1)=(b<a):=propext (by unfold cmpR; constructor <;> intro h <;> grind)
theorem Yi5 {a b:Rat}:(cmpR a b = -1)=(a<b):=propext (by unfold cmpR; constructor <;> intro h <;> grind)
theorem Yhq {v:List Rat}{to:List Nat}:∀ {k:Nat},(∀ t,t<k→rget v (to.getD t 0)≤rget v (to.getD (bestG v to 1 k) 0))∧(∀ t,t<bestG v to 1 k→rget v (to.getD t 0)<rget v (to.getD (bestG v to 1 k) 0))∧bestG v to 1 k≤k
 | 0=>⟨fun t h=>by omega,fun t h=>by unfold bestG at h; omega,by unfold bestG; omega⟩
 | k+1=>by
  obtain ⟨h1,h2,h3⟩:=Yhq (v:=v) (to:=to) (k:=k)
  rw [show bestG v to 1 (k+1)=if cmpR (rget v (to.getD k 0)) (rget v (to.getD (bestG v to 1 k) 0))=1 then k else bestG v to 1 k from rfl]
  split
  ·rename_i hc
   rw [Y2g] at hc
   refine ⟨fun t ht=>?_,fun t ht=>?_,by omega⟩
   ·by_cases htk:t=k
    ·rw [htk]; grind
    ·have:=h1 t (by omega); grind
   ·have:=h1 t ht; grind
  ·rename_i hc
   rw [Y2g] at hc
   refine ⟨fun t ht=>?_,h2,by omega⟩
   by_cases htk:t=k
   ·rw [htk]; grind
   ·exact h1 t (by omega)
theorem Z9a {v:List Rat}{to:List Nat}:∀ {k:Nat},(∀ t,t<k→rget v (to.getD (bestG v to (-1) k) 0)≤rget v (to.getD t 0))∧(∀ t,t<bestG v to (-1) k→rget v (to.getD (bestG v to (-1) k) 0)<rget v (to.getD t 0))∧bestG v to (-1) k≤k
 | 0=>⟨fun t h=>by omega,fun t h=>by unfold bestG at h; omega,by unfold bestG; omega⟩
 | k+1=>by
  obtain ⟨h1,h2,h3⟩:=Z9a (v:=v) (to:=to) (k:=k)
  rw [show bestG v to (-1) (k+1)=if cmpR (rget v (to.getD k 0)) (rget v (to.getD (bestG v to (-1) k) 0))=(-1) then k else bestG v to (-1) k from rfl]
  split
  ·rename_i hc
   rw [Yi5] at hc
   refine ⟨fun t ht=>?_,fun t ht=>?_,by omega⟩
   ·by_cases htk:t=k
    ·rw [htk]; grind
    ·have:=h1 t (by omega); grind
   ·have:=h1 t ht; grind
  ·rename_i hc
   rw [Yi5] at hc
   refine ⟨fun t ht=>?_,h2,by omega⟩
   by_cases htk:t=k
   ·rw [htk]; grind
   ·exact h1 t (by omega)
def sumO (odds:List Rat):Nat→Rat
 | 0=>0
 | i+1=>sumO odds i+rget odds i
theorem Ywv {odds u v:List Rat}{to:List Nat}{c:Rat}:∀ {i:Nat},(∀ t,t<i→0≤rget odds t)→(∀ t,t<i→rget u (to.getD t 0)≤rget v (to.getD t 0)+c)→dotW odds u to i≤dotW odds v to i+c*sumO odds i
 | 0,_,_=>by simp only [dotW,sumO]; grind
 | i+1,h0,h=>by
  have ih:=Ywv (odds:=odds) (u:=u) (v:=v) (to:=to) (c:=c) (i:=i) (fun t ht=>h0 t (by omega)) (fun t ht=>h t (by omega))
  have h1:=h i (by omega)
  have h2:=Rat.mul_nonneg (h0 i (by omega)) (show 0≤rget v (to.getD i 0)+c - rget u (to.getD i 0) by grind)
  simp only [dotW,sumO]
  generalize rget odds i=o at *
  generalize rget u (to.getD i 0)=x at *
  generalize rget v (to.getD i 0)=y at *
  generalize sumO odds i=s at *
  generalize dotW odds u to i=p at *
  generalize dotW odds v to i=q at *
  grind
structure GmP (g:Gm):Prop where
 ok:GmOk g
 d0:0≤g.d
 d1:g.d<1
 odds:∀ x,x∈g.nodes→x.kind=3→(∀ q,q∈x.odds→0≤q)∧sumO x.odds x.to.length=1
def nodeAt (g:Gm) (i:Nat):GN:=g.nodes.getD i default
theorem Zc5 {g:Gm}{i:Nat}(h:i<g.nodes.length):nodeAt g i∈g.nodes:=List.mem_of_getElem? (show g.nodes[i]? = some _ by unfold nodeAt; rw [List.getD_eq_getElem?_getD,List.getElem?_eq_getElem h]; rfl)
def worthP (x:GN) (k:Nat) (v:List Rat):Rat:=if x.kind=3 then dotW x.odds v x.to x.to.length else rget v (x.to.getD k 0)
def pget (p:List Int) (i:Nat):Nat:=(p.getD i 0).toNat
def planV (g:Gm) (p:List Int) (v:List Rat) (i:Nat):Rat:=rget g.rew i+g.d*worthP (nodeAt g i) (pget p i) v
theorem Zc8 {to:List Nat}{k:Nat}(h:k<to.length):to.getD k 0∈to:=List.mem_of_getElem? (Zb6 h)
theorem Ylo {g:Gm}(hg:GmP g) {x:GN}(hx:x∈g.nodes) (h3:x.kind=3) {u v:List Rat}{c:Rat}(h:∀ j,j<g.nodes.length→rget u j≤rget v j+c):dotW x.odds u x.to x.to.length≤dotW x.odds v x.to x.to.length+c:=by
 obtain ⟨o1,o2⟩:=hg.odds x hx h3
 have ho:=((hg.ok.node x hx).odds h3).1
 have:=Ywv (odds:=x.odds) (u:=u) (v:=v) (to:=x.to) (c:=c) (i:=x.to.length) (fun t ht=>o1 _ (List.mem_of_getElem? (Zak (by omega)))) (fun t ht=>h _ ((hg.ok.node x hx).lt _ (Zc8 ht)))
 rw [o2] at this
 grind
theorem dmul {d a b c:Rat}(d0:0≤d) (h:a≤b+c) (r:Rat):r+d*a≤r+d*b+d*c:=by
 have:=Rat.mul_nonneg d0 (show 0≤b+c - a by grind)
 grind
def POk (g:Gm) (p:List Int):Prop:=p.length=g.nodes.length∧∀ i,i<g.nodes.length→(nodeAt g i).kind≠3→0≤p.getD i 0∧p.getD i 0<((nodeAt g i).to.length:Int)
theorem POk.lt {g:Gm}{p:List Int}(h:POk g p) {i:Nat}(hi:i<g.nodes.length) (h3:(nodeAt g i).kind≠3):pget p i<(nodeAt g i).to.length:=by
 have:=h.2 i hi h3
 unfold pget
 omega
theorem Yz5 {g:Gm}(hg:GmP g) {p:List Int}(hp:POk g p):Sh g.nodes.length g.d (planV g p):=fun u v c h i hi=>by
 unfold planV
 refine dmul hg.d0 ?_ _
 have hx:=Zc5 hi
 have hlt:=hp.lt hi
 generalize nodeAt g i=x at *
 unfold worthP
 split
 ·rename_i h3
  exact Ylo hg hx h3 h
 ·rename_i h3
  exact h _ ((hg.ok.node x hx).lt _ (Zc8 (hlt h3)))
theorem Y63 {g:Gm}(hg:GmP g):Sh g.nodes.length g.d (nextV g):=fun u v c h i hi=>by
 unfold nextV
 refine dmul hg.d0 ?_ _
 have hx:=Zc5 hi
 have hok:=hg.ok.node _ hx
 show worthR (nodeAt g i) u≤worthR (nodeAt g i) v+c
 generalize nodeAt g i=x at *
 have hm:∀ t,t<x.to.length→rget u (x.to.getD t 0)≤rget v (x.to.getD t 0)+c:=fun t ht=>h _ (hok.lt _ (Zc8 ht))
 unfold worthR
 split
 ·have b1:=Ziw (v:=u) (sg:=1) hok.pos (Nat.le_refl _)
  have b2:=(Yhq (v:=v) (to:=x.to) (k:=x.to.length)).1 _ b1
  have b3:=hm _ b1
  unfold bestA at *
  grind
 ·split
  ·have b1:=Ziw (v:=v) (sg := -1) hok.pos (Nat.le_refl _)
   have b2:=(Z9a (v:=u) (to:=x.to) (k:=x.to.length)).1 _ b1
   have b3:=hm _ b1
   unfold bestA at *
   grind
  ·rename_i h1 h2
   exact Ylo hg hx (by have:=hok.kind; omega) h
def Ltv (n:Nat) (u v:List Rat):Prop:=(∀ i,i<n→rget u i≤rget v i)∧∃ i,i<n∧rget u i<rget v i
theorem Ltv.trans {n:Nat}{u v w:List Rat}(h:Ltv n u v) (k:Ltv n v w):Ltv n u w:=by
 obtain ⟨h1,i,hi,h2⟩:=h
 refine ⟨fun j hj=>Rat.le_trans (h1 j hj) (k.1 j hj),i,hi,?_⟩
 have:=k.1 i hi
 grind
theorem Ltv.irrefl {n:Nat}{u:List Rat}(h:Ltv n u u):False:=by
 obtain ⟨_,i,hi,h2⟩:=h
 grind
def PVal (g:Gm) (p:List Int) (v:List Rat):Prop:=v.length=g.nodes.length∧∀ i,i<g.nodes.length→rget v i=planV g p v i
theorem Y2z {g:Gm}(hg:GmP g) {p:List Int}(hp:POk g p) {u v:List Rat}(hu:PVal g p u) (h1:∀ i,i<g.nodes.length→planV g p v i≤rget v i) (h2:∃ i,i<g.nodes.length∧planV g p v i<rget v i):Ltv g.nodes.length u v:=by
 have hs:=Yz5 hg hp
 have hle:=hs.le hg.d1 (u:=u) (v:=v) (fun i hi=>by rw [← hu.2 i hi]; grind) h1
 obtain ⟨i,hi,hl⟩:=h2
 refine ⟨hle,i,hi,?_⟩
 have:=hs.mono hle i hi
 rw [hu.2 i hi]
 grind
theorem Y15 {g:Gm}(hg:GmP g) {p:List Int}(hp:POk g p) {u v:List Rat}(hu:PVal g p u) (h1:∀ i,i<g.nodes.length→rget v i≤planV g p v i) (h2:∃ i,i<g.nodes.length∧rget v i<planV g p v i):Ltv g.nodes.length v u:=by
 have hs:=Yz5 hg hp
 have hle:=hs.le hg.d1 (u:=v) (v:=u) h1 (fun i hi=>by rw [← hu.2 i hi]; grind)
 obtain ⟨i,hi,hl⟩:=h2
 refine ⟨hle,i,hi,?_⟩
 have:=hs.mono hle i hi
 rw [hu.2 i hi]
 grind
def sgn (who:Nat):Int:=if who=1 then 1 else -1
def bet1 (g:Gm) (v:List Rat) (who:Nat) (p:List Int) (i:Nat):Bool :=
 decide ((nodeAt g i).kind=who) && decide (cmpR (rget v ((nodeAt g i).to.getD (bestA v (nodeAt g i).to (sgn who)) 0)) (rget v ((nodeAt g i).to.getD (pget p i) 0))=sgn who)
def betI (g:Gm) (v:List Rat) (who:Nat) (p:List Int) (i:Nat):Int:=if bet1 g v who p i=true then (bestA v (nodeAt g i).to (sgn who):Int) else p.getD i 0
def betP (g:Gm) (v:List Rat) (who:Nat) (p:List Int):List Int:=(List.range g.nodes.length).map (betI g v who p)
def betC (g:Gm) (v:List Rat) (who:Nat) (p:List Int):Bool:=(List.range g.nodes.length).any (bet1 g v who p)
theorem Zn4 {g:Gm}{v:List Rat}{who:Nat}{p:List Int}{i:Nat}(hi:i<g.nodes.length):(betP g v who p).getD i 0=betI g v who p i:=by
 unfold betP
 rw [List.getD_eq_getElem?_getD,List.getElem?_map,List.getElem?_range hi]; rfl
def POk0 (g:Gm) (p:List Int):Prop:=p.length=g.nodes.length∧∀ i,i<g.nodes.length→0≤p.getD i 0∧p.getD i 0<((nodeAt g i).to.length:Int)
theorem POk0.ok {g:Gm}{p:List Int}(h:POk0 g p):POk g p:=⟨h.1,fun i hi _=>h.2 i hi⟩
theorem Yb2 {g:Gm}(hg:GmP g) {v:List Rat}{who:Nat}{p:List Int}(hp:POk0 g p):POk0 g (betP g v who p):=by
 refine ⟨by unfold betP; rw [List.length_map,List.length_range],fun i hi=>?_⟩
 rw [Zn4 hi]
 unfold betI
 split
 ·have:=Ziw (v:=v) (sg:=sgn who) (hg.ok.node _ (Zc5 hi)).pos (Nat.le_refl _)
  unfold bestA
  omega
 ·exact hp.2 i hi
def Same1 (g:Gm) (p q:List Int):Prop:=∀ i,i<g.nodes.length→(nodeAt g i).kind=1→p.getD i 0=q.getD i 0
theorem Znd {x:GN}{k:Nat}{v:List Rat}(h:x.kind≠3):worthP x k v=rget v (x.to.getD k 0):=by unfold worthP; rw [if_neg h]
theorem dlt {d a b r:Rat}(hd:0<d) (h:a<b):r+d*a<r+d*b:=by
 have:=Rat.mul_pos hd (show 0<b - a by grind)
 grind
theorem better2 {g:Gm}(hg:GmP g) {p:List Int}{v u:List Rat}(hp:POk0 g p) (hv:PVal g p v) (hd:0<g.d) (hc:betC g v 2 p=true) (hu:PVal g (betP g v 2 p) u):Ltv g.nodes.length u v:=by
 have key:∀ i,i<g.nodes.length→bet1 g v 2 p i=true→planV g (betP g v 2 p) v i<rget v i:=fun i hi hb=>by
  rw [hv.2 i hi]
  unfold planV
  have hpg:pget (betP g v 2 p) i=bestA v (nodeAt g i).to (-1):=by
   unfold pget; rw [Zn4 hi]; unfold betI; rw [if_pos hb]; simp [sgn]
  unfold bet1 at hb
  simp only [Bool.and_eq_true,decide_eq_true_eq] at hb
  have h3:(nodeAt g i).kind≠3:=by omega
  rw [Znd h3,Znd h3,hpg]
  have h2:=hb.2
  rw [show sgn 2 = -1 from rfl,Yi5] at h2
  exact dlt hd h2
 refine Y2z hg (Yb2 hg hp).ok hu (fun i hi=>?_) ?_
 ·by_cases hb:bet1 g v 2 p i=true
  ·have:=key i hi hb; grind
  ·rw [hv.2 i hi]
   unfold planV
   have:pget (betP g v 2 p) i=pget p i:=by unfold pget; rw [Zn4 hi]; unfold betI; rw [if_neg hb]
   rw [this]; grind
 ·unfold betC at hc
  rw [List.any_eq_true] at hc
  obtain ⟨i,hi,hb⟩:=hc
  have hi:i<g.nodes.length:=by simpa using hi
  exact ⟨i,hi,key i hi hb⟩
theorem Z5t {g:Gm}{p:List Int}{v:List Rat}:Same1 g (betP g v 2 p) p:=fun i hi h1=>by
 rw [Zn4 hi]
 have e:decide ((nodeAt g i).kind=2)=false:=by rw [h1]; rfl
 unfold betI bet1
 rw [e,Bool.false_and,if_neg (by decide)]
theorem nobetter {g:Gm}{p:List Int}{v:List Rat}{who:Nat}(hc:betC g v who p=false) {i:Nat}(hi:i<g.nodes.length):bet1 g v who p i=false:=by
 unfold betC at hc
 rw [List.any_eq_false] at hc
 have:=hc i (by simpa using hi)
 simpa using this
theorem better1 {g:Gm}(hg:GmP g) {p q:List Int}{v u:List Rat}(hp:POk0 g p) (hv:PVal g p v) (hd:0<g.d) (h2:betC g v 2 p=false) (hc:betC g v 1 p=true) (hq:POk0 g q) (hs:Same1 g q (betP g v 1 p)) (hu:PVal g q u):Ltv g.nodes.length v u:=by
 have key1:∀ i,i<g.nodes.length→bet1 g v 1 p i=true→rget v i<planV g q v i:=fun i hi hb=>by
  rw [hv.2 i hi]
  unfold planV
  have hk:(nodeAt g i).kind=1:=by unfold bet1 at hb; simp only [Bool.and_eq_true,decide_eq_true_eq] at hb; exact hb.1
  have hpg:pget q i=bestA v (nodeAt g i).to 1:=by
   unfold pget; rw [hs i hi hk,Zn4 hi]; unfold betI; rw [if_pos hb]; simp [sgn]
  unfold bet1 at hb
  simp only [Bool.and_eq_true,decide_eq_true_eq] at hb
  have h3:(nodeAt g i).kind≠3:=by omega
  rw [Znd h3,Znd h3,hpg]
  have h2:=hb.2
  rw [show sgn 1=1 from rfl,Y2g] at h2
  exact dlt hd h2
 refine Y15 hg hq.ok hu (fun i hi=>?_) ?_
 ·by_cases hb:bet1 g v 1 p i=true
  ·have:=key1 i hi hb; grind
  ·have hx:=Zc5 hi
   have hok:=hg.ok.node _ hx
   by_cases h1:(nodeAt g i).kind=1
   ·have:pget q i=pget p i:=by unfold pget; rw [hs i hi h1,Zn4 hi]; unfold betI; rw [if_neg hb]
    rw [hv.2 i hi]
    unfold planV
    rw [this]; grind
   ·by_cases h3:(nodeAt g i).kind=3
    ·rw [hv.2 i hi]
     unfold planV worthP
     rw [if_pos h3,if_pos h3]; grind
    ·have hk2:(nodeAt g i).kind=2:=by have:=hok.kind; omega
     have hb2:=nobetter h2 hi
     have hlt:=hq.ok.lt hi h3
     unfold bet1 at hb2
     simp only [hk2,decide_true,Bool.true_and,decide_eq_false_iff_not] at hb2
     rw [show sgn 2 = -1 from rfl,Yi5] at hb2
     have b2:=(Z9a (v:=v) (to:=(nodeAt g i).to) (k:=(nodeAt g i).to.length)).1 _ hlt
     rw [hv.2 i hi]
     unfold planV
     rw [Znd h3,Znd h3]
     unfold bestA at hb2
     have:=dmul (d:=g.d) (c:=0) hg.d0 (show rget v ((nodeAt g i).to.getD (pget p i) 0)≤rget v ((nodeAt g i).to.getD (pget q i) 0)+0 by grind) (rget g.rew i)
     grind
 ·unfold betC at hc
  rw [List.any_eq_true] at hc
  obtain ⟨i,hi,hb⟩:=hc
  have hi:i<g.nodes.length:=by simpa using hi
  exact ⟨i,hi,key1 i hi hb⟩
theorem Yo9 {g:Gm}(hg:GmP g) {p:List Int}{v:List Rat}(hp:POk0 g p) (hv:PVal g p v) (h1:betC g v 1 p=false) (h2:betC g v 2 p=false):∀ i,i<g.nodes.length→rget v i=nextV g v i:=fun i hi=>by
 have hx:=Zc5 hi
 have hok:=hg.ok.node _ hx
 rw [hv.2 i hi]
 unfold planV nextV
 congr 1
 show _=g.d*worthR (nodeAt g i) v
 congr 1
 have hlt:=hp.ok.lt hi
 have b1:=nobetter h1 hi
 have b2:=nobetter h2 hi
 unfold bet1 at b1 b2
 generalize nodeAt g i=x at *
 generalize pget p i=k at *
 unfold worthP worthR
 by_cases k1:x.kind=1
 ·have m:=(Yhq (v:=v) (to:=x.to) (k:=x.to.length)).1 _ (hlt (by omega))
  simp only [k1,decide_true,Bool.true_and,decide_eq_false_iff_not] at b1
  rw [show sgn 1=1 from rfl,Y2g] at b1
  rw [if_neg (by omega),if_pos k1]
  unfold bestA at *
  grind
 ·by_cases k2:x.kind=2
  ·have m:=(Z9a (v:=v) (to:=x.to) (k:=x.to.length)).1 _ (hlt (by omega))
   simp only [k2,decide_true,Bool.true_and,decide_eq_false_iff_not] at b2
   rw [show sgn 2 = -1 from rfl,Yi5] at b2
   rw [if_neg (by omega),if_neg k1,if_pos k2]
   unfold bestA at *
   grind
  ·rw [if_pos (by have:=hok.kind; omega),if_neg k1,if_neg k2]
end GoAbs
namespace GoAbs
open Go Go.Proofs
def oddsQ (l:List Mv):List Rat:=(l.filter hasO).map fun m=>(parseL m.2).getD 0
def toGN (n:Nd):GN:=⟨n.kind.toNat,n.mv.map (·.1.toNat),oddsQ n.mv⟩
def toGm (L:List Nd) (d:List UInt8):Gm:=⟨L.map toGN,L.map (fun n=>(parseL n.rew).getD 0),(parseL d).getD 0⟩
theorem okBq {l:List UInt8}(h:okB l=true):parseL l=some ((parseL l).getD 0):=by
 unfold okB at h
 cases hp:parseL l with
 | none=>rw [hp] at h; simp at h
 | some q=>rfl
theorem tc_q {l:List UInt8}(hl:l.length≤23) (h:okB l=true):tc l=qcell ((parseL l).getD 0):=(Zjh hl).1.q _ (okBq h)
theorem Ygz {q:Rat}(h:Fitd 12 q):Qb 40 q:=by
 have c:10 ^ 12<2 ^ 40:=by decide
 exact ⟨Nat.lt_trans (Yac h.1) c,Nat.lt_trans (Yac h.2) c⟩
theorem Z4p {l:List UInt8}(h:smallB l=true):Fitd 12 ((parseL l).getD 0):=by
 unfold smallB at h
 cases hp:parseL l with
 | none=>rw [hp] at h; simp at h
 | some q=>rw [hp] at h; simpa using h
theorem Ybx {p:List Rat}{x:Rat}:∀ {k:Nat},k≤p.length→sumO (p ++ [x]) k=sumO p k
 | 0,_=>rfl
 | k+1,h=>by
  simp only [sumO]
  rw [Ybx (by omega)]
  congr 1
  unfold rget
  rw [List.getD_eq_getElem?_getD,List.getD_eq_getElem?_getD,List.getElem?_append_left (by omega)]
theorem Yzx {p:List Rat}{x:Rat}:sumO (p ++ [x]) (p ++ [x]).length=sumO p p.length+x:=by
 rw [List.length_append,List.length_cons,List.length_nil]
 show sumO (p ++ [x]) p.length+rget (p ++ [x]) p.length=_
 rw [Ybx (Nat.le_refl _)]
 congr 1
 unfold rget
 rw [List.getD_eq_getElem?_getD,List.getElem?_append_right (Nat.le_refl _),Nat.sub_self]; rfl
theorem Yjw:∀ (n:Nat) {l:List Mv},l.length=n→vaM l=true→sumM l=sumO (oddsQ l) (oddsQ l).length
 | 0,l,hl,_=>by rw [List.eq_nil_of_length_eq_zero hl]; rfl
 | n+1,l,hl,hv=>by
  obtain ⟨l',m,rfl⟩:∃ l' m,l=l' ++ [m]:=by
   rcases List.eq_nil_or_concat l with h | ⟨l',m,h⟩
   ·rw [h] at hl; simp at hl
   ·exact ⟨l',m,by simpa using h⟩
  unfold vaM at hv
  rw [List.all_append,Bool.and_eq_true] at hv
  have ih:=Yjw n (l:=l') (by simpa using hl) hv.1
  have h2:=hv.2
  simp only [List.all_cons,List.all_nil,Bool.and_true] at h2
  rw [Ya3,ih]
  unfold stepM oddsQ
  rw [List.filter_append,List.map_append]
  by_cases he:m.2.isEmpty=true
  ·rw [if_pos he]
   have : [m].filter hasO = []:=by simp [hasO,he]
   rw [this]; simp
  ·rw [if_neg he]
   have : [m].filter hasO = [m]:=by simp [hasO,he]
   have hb:okB m.2=true:=by simpa [he] using h2
   rw [this,List.map_cons,List.map_nil,Yzx]
   have:=okBq hb
   rw [this]; rfl
theorem Xbj {N:Nat}{n:Nd}(hv:ndVa n=true) (hf:ndFi N n=true) (hl:n.rew.length≤23∧n.mv.length≤7∧∀ m,m∈n.mv→m.2.length≤23) :
  gN n = [gnAV (toGN n)]∧GnOk N (toGN n)∧((toGN n).kind=3→(∀ q,q∈(toGN n).odds→0≤q)∧sumO (toGN n).odds (toGN n).to.length=1):=by
 unfold ndVa at hv
 rw [Bool.and_eq_true] at hv
 unfold ndFi at hf
 simp only [Bool.and_eq_true,decide_eq_true_eq] at hf
 obtain ⟨⟨⟨f1,f2⟩,f3⟩,f4⟩:=hf
 have hm:∀ m,m∈n.mv→(0≤m.1∧m.1<(N:Int))∧((!m.2.isEmpty)=decide (n.kind=3))∧(m.2.isEmpty=false→okB m.2=true∧0<(parseL m.2).getD 0∧Fitd 12 ((parseL m.2).getD 0)):=fun m hmm=>by
  have a:=List.all_eq_true.1 f2 m hmm
  have b:=List.all_eq_true.1 hv.2 m hmm
  unfold mvFit mvFit1 at a
  simp only [Bool.and_eq_true,decide_eq_true_eq,beq_iff_eq,Bool.or_eq_true] at a b
  refine ⟨a.1.1,a.1.2,fun he=>?_⟩
  have hb:okB m.2=true:=by rcases b with b | b; rw [b] at he; exact absurd he (by decide); exact b
  have ha:(match parseL m.2 with | some q=>mvFit2 q | none=>true)=true:=by rcases a.2 with b | b; rw [b] at he; exact absurd he (by decide); exact b
  rw [okBq hb] at ha
  unfold mvFit2 at ha
  simp only [Bool.and_eq_true,decide_eq_true_eq] at ha
  exact ⟨hb,ha⟩
 have hk:n.kind=1∨n.kind=2∨n.kind=3:=by
  unfold kindF at f4
  simp only [Bool.or_eq_true,Bool.and_eq_true,decide_eq_true_eq] at f4
  omega
 have hto:nv (n.mv.map (·.1.toNat))=tosI n.mv:=by
  unfold nv tosI
  rw [List.map_map]
  exact List.map_congr_left fun m hmm=>by have:=(hm m hmm).1; simp; omega
 have h3:n.kind=3→n.mv.filter hasO=n.mv:=fun h=>List.filter_eq_self.2 fun m hmm=>by
  have:=(hm m hmm).2.1
  rw [h] at this
  unfold hasO
  rw [this]; rfl
 have hodds:(oddsT n.mv).map AV.agg=condsR (oddsQ n.mv):=by
  unfold oddsT oddsQ condsR
  rw [List.map_map,List.map_map]
  refine List.map_congr_left fun m hmm=>?_
  have hmm':=List.mem_filter.1 hmm
  have he:m.2.isEmpty=false:=by have:=hmm'.2; unfold hasO at this; simpa using this
  show AV.agg (tc m.2)=avQ _
  rw [tc_q (hl.2.2 m hmm'.1) ((hm m hmm'.1).2.2 he).1,Zas]
 have hoq:∀ q,q∈oddsQ n.mv→0<q∧Qb 40 q:=fun q hq=>by
  obtain ⟨m,hmm,rfl⟩:=List.mem_map.1 hq
  have hmm':=List.mem_filter.1 hmm
  have he:m.2.isEmpty=false:=by have:=hmm'.2; unfold hasO at this; simpa using this
  obtain ⟨_,a,b⟩:=(hm m hmm'.1).2.2 he
  exact ⟨a,Ygz b⟩
 have hlen3:n.kind=3→(oddsQ n.mv).length=n.mv.length:=fun h=>by unfold oddsQ; rw [List.length_map,h3 h]
 refine ⟨?_,⟨?_,?_,?_,?_,?_⟩,fun h=>⟨fun q hq=>Rat.le_of_lt (hoq q hq).1,?_⟩⟩
 ·unfold gN gnAV toGN
  simp only [hto,hodds]
  rcases hk with h | h | h <;> simp [h]
 ·show n.kind.toNat=1∨n.kind.toNat=2∨n.kind.toNat=3; omega
 ·show 0<(n.mv.map _).length; rw [List.length_map]; omega
 ·show (n.mv.map _).length≤6; rw [List.length_map]; omega
 ·intro x hx
  obtain ⟨m,hmm,rfl⟩:=List.mem_map.1 hx
  have:=(hm m hmm).1
  omega
 ·intro h
  have h':n.kind=3:=by have:n.kind.toNat=3:=h; omega
  refine ⟨?_,fun q hq=>(hoq q hq).2⟩
  show (oddsQ n.mv).length=(n.mv.map _).length
  rw [List.length_map,hlen3 h']
 ·have h':n.kind=3:=by have:n.kind.toNat=3:=h; omega
  show sumO (oddsQ n.mv) (n.mv.map _).length=1
  rw [List.length_map, ← hlen3 h', ← Yjw _ rfl hv.2]
  unfold kindF at f4
  simpa [h'] using f4
theorem Xfy {L:List Nd}{d:List UInt8}(hv:(L.all ndVa && okB d)=true) (hf:gFit L d=true) (hd:d.length≤23) (hok:∀ n,n∈L→n.rew.length≤23∧n.mv.length≤7∧∀ m,m∈n.mv→m.2.length≤23) :
  (.sl (nodesT L) :: .sl ((rowT L).map .agg)::tc d)=gmC (toGm L d)∧GmP (toGm L d):=by
 rw [Bool.and_eq_true] at hv
 unfold gFit disF at hf
 simp only [Bool.and_eq_true,decide_eq_true_eq] at hf
 obtain ⟨⟨h1,h2⟩,h3,h4⟩:=hf
 rw [okBq hv.2] at h4
 simp only [Bool.and_eq_true,decide_eq_true_eq] at h4
 have hn:∀ n,n∈L→_:=fun n hn=>Xbj (N:=L.length) (List.all_eq_true.1 hv.1 n hn) (List.all_eq_true.1 h2 n hn) (hok n hn)
 have hvn:∀ n,n∈L→okB n.rew=true∧smallB n.rew=true:=fun n hn=>by
  have a:=List.all_eq_true.1 hv.1 n hn
  have b:=List.all_eq_true.1 h2 n hn
  unfold ndVa at a
  unfold ndFi at b
  simp only [Bool.and_eq_true,decide_eq_true_eq] at a b
  exact ⟨a.1,b.1.1.1⟩
 refine ⟨?_,⟨⟨?_,?_,?_,?_,?_⟩,h4.1,h4.2,?_⟩⟩
 ·unfold gmC toGm
  congr 1
  ·congr 1
   unfold nodesT
   rw [List.map_map,List.flatMap_def]
   rw [show L.map gN=(L.map (gnAV ∘ toGN)).map (fun x => [x]) by rw [List.map_map]; exact List.map_congr_left fun n h=>(hn n h).1]
   rw [← List.flatMap_def]; simp
  ·congr 1
   ·congr 1
    unfold rowT condsR
    rw [List.map_map,List.map_map]
    refine List.map_congr_left fun n h=>?_
    show AV.agg (tc n.rew)=avQ _
    rw [tc_q (hok n h).1 (hvn n h).1,Zas]
   ·exact tc_q hd hv.2
 ·show (L.map toGN).length≤10; rw [List.length_map]; omega
 ·show (L.map _).length=(L.map toGN).length; rw [List.length_map,List.length_map]
 ·intro x hx
  obtain ⟨n,h,rfl⟩:=List.mem_map.1 hx
  show GnOk (L.map toGN).length _
  rw [List.length_map]
  exact (hn n h).2.1
 ·intro q hq
  obtain ⟨n,h,rfl⟩:=List.mem_map.1 hq
  exact Ygz (Z4p (hvn n h).2)
 ·exact Ygz (Z4p h3)
 ·intro x hx h3
  obtain ⟨n,h,rfl⟩:=List.mem_map.1 hx
  exact (hn n h).2.2 h3
end GoAbs
namespace GoAbs
open Go Go.Proofs
def Z6b:List IOp := [oI 3 (.box (.t 1)) 0,oI 4 (.mv (.c (.bool false))) 1]
def Z51:List IOp := [fI 8 0 3 0,lI 9 8 0,oI 10 (.call 52 [.t 9,cI 1,cI 3]) 0,oI 11 (.un .not (.t 10)) 0,mI 12 11 0,gI 13 (.fa 1 (.t 3)) 0 12 false,gI 14 (.ld none (.t 13)) 0 12 false,gI 15 (.call 53 [.t 14,cI 12]) 0 12 false,gI 16 (.un .not (.t 15)) 0 12 false,oI 17 (.pick (.t 12) (.c (.bool true)) (.t 16)) 0,mI 18 17 0,gI 19 (.fa 2 (.t 3)) 0 18 false,gI 20 (.ld none (.t 19)) 0 18 false,gI 21 (.len (.t 20)) 0 18 false,gI 22 (.call 52 [.t 21,cI 1,cI 6]) 0 18 false,gI 23 (.un .not (.t 22)) 0 18 false,oI 24 (.pick (.t 18) (.c (.bool true)) (.t 23)) 0]
def Zkv:List IOp := [oI 4 (.mv (.c (.bool false))) 0]
def Z6z:List IOp := [oI 25 (.call 31 [cI 0]) 0,oI 5 (.alloc [.bool false,.nils,.bool false,.nils]) 0,⟨none,.st 4 (.t 5) (.t 25),1,[],[],none⟩]
def Z6r:List IOp := [oI 6 (.mv (cI 0)) 0]
def Zuq:List IOp := [mI 26 6 0,fI 27 2 3 0,lI 28 27 0,oI 29 (.len (.t 28)) 0,oI 30 (.bin .lss (.t 26) (.t 29)) 0]
def Z5m:List IOp := [fI 33 2 3 0,lI 34 33 0,mI 35 6 0,xI 36 2 34 35 0,lJ 37 2 36 0,oI 7 (.alloc [.int .i64 0,.str ⟨#[]⟩]) 0,⟨none,.st 2 (.t 7) (.t 37),1,[],[],none⟩]
def Z7i:List IOp := [fI 38 0 7 0,lI 39 38 0,mI 40 0 0,oI 41 (.len (.t 40)) 0,oI 42 (.bin .sub (.t 41) (cI 1)) 0,oI 43 (.call 52 [.t 39,cI 0,.t 42]) 0,oI 44 (.un .not (.t 43)) 0,mI 45 44 0,gI 46 (.fa 1 (.t 7)) 0 45 false,gI 47 (.ld none (.t 46)) 0 45 false,⟨some 48,.bin .eql (.t 47) (.c (.str ⟨#[]⟩)),0,[],[],some (45,false)⟩,gI 49 (.fa 0 (.t 3)) 0 45 false,gI 50 (.ld none (.t 49)) 0 45 false,gI 51 (.bin .neq (.t 50) (cI 3)) 0 45 false,gI 52 (.beq true (.t 48) (.t 51)) 0 45 false,oI 53 (.pick (.t 45) (.c (.bool true)) (.t 52)) 0,mI 54 53 0,gI 55 (.fa 1 (.t 7)) 0 54 false,gI 56 (.ld none (.t 55)) 0 54 false,gI 57 (.call 53 [.t 56,cI 12]) 0 54 false,gI 58 (.un .not (.t 57)) 0 54 false,oI 59 (.pick (.t 54) (.c (.bool true)) (.t 58)) 0]
def Zg3:List IOp := [oI 4 (.mv (.c (.bool false))) 0]
def Zoc:List IOp := [fI 60 1 7 0,lI 61 60 0,oI 62 (.bin .eql (.t 61) (.c (.str ⟨#[]⟩))) 0]
def Z3q:List IOp := [fI 63 1 7 0,lI 64 63 0,oI 65 (.call 21 [.t 64]) 0,oI 66 (.fld (some 2) 0 (.t 65)) 0,oI 67 (.call 54 [.t 66]) 0,oI 68 (.bin .leq (.t 67) (cI 0)) 0]
def Z13:List IOp := [oI 4 (.mv (.c (.bool false))) 0]
def Znu:List IOp := [lJ 69 4 5 0,fI 70 1 7 0,lI 71 70 0,oI 72 (.call 21 [.t 71]) 0,oI 73 (.callw 32 [.t 69,.t 72]) 0,oI 74 (.callw 73 [.t 73]) 0,⟨none,.st 4 (.t 5) (.t 74),0,[],[],none⟩]
@[go_sem ↓] theorem Ycx : autoK Znu = (0, 1) := by kernel_rfl
@[go_sem] theorem Yve : autoK [lJ 69 4 5 0, fI 70 1 7 0, lI 71 70 0, oI 72 (.call 21 [.t 71]) 0, oI 73 (.callw 32 [.t 69, .t 72]) 0, oI 74 (.callw 73 [.t 73]) 0, ⟨none, .st 4 (.t 5) (.t 74), 0, [], [], none⟩] = (0, 1) := Ycx
def Zn0:List IOp := [mI 31 6 0,oI 32 (.bin .add (.t 31) (cI 1)) 0,mI 6 32 0]
def Zvu:CC := .seq (.seq (.rg false Zuq) (.cond (.t 30) .skip (.exit 0))) (.seq (.block 1 (.seq (.rg false Z5m) (.seq (.seq (.rg false Z7i) (.cond (.t 59) (.seq (.rg false Zg3) .ret) .skip)) (.seq (.seq (.rg false Zoc) (.cond (.t 62) (.exit 1) .skip)) (.seq (.seq (.rg false Z3q) (.cond (.t 68) (.seq (.rg false Z13) .ret) .skip)) (.rg true Znu)))))) (.rg false Zn0))
def Zfy:List IOp := [fI 75 0 3 0,lI 76 75 0,oI 77 (.bin .neq (.t 76) (cI 3)) 0,mI 78 77 0,gI 79 (.ld (some 4) (.t 5)) 0 78 false,gI 80 (.call 31 [cI 1]) 0 78 false,gI 81 (.callw 25 [.t 79,.t 80]) 0 78 false,gI 82 (.bin .eql (.t 81) (cI 0)) 0 78 false,oI 83 (.pick (.t 78) (.c (.bool true)) (.t 82)) 0,mI 4 83 0]
@[go_sem ↓] theorem Ybf : autoK Zfy = (0, 0) := by kernel_rfl
@[go_sem] theorem Yvf : autoK [fI 75 0 3 0, lI 76 75 0, oI 77 (.bin .neq (.t 76) (cI 3)) 0, mI 78 77 0, gI 79 (.ld (some 4) (.t 5)) 0 78 false, gI 80 (.call 31 [cI 1]) 0 78 false, gI 81 (.callw 25 [.t 79, .t 80]) 0 78 false, gI 82 (.bin .eql (.t 81) (cI 0)) 0 78 false, oI 83 (.pick (.t 78) (.c (.bool true)) (.t 82)) 0, mI 4 83 0] = (0, 0) := Ybf
def Yl1:CC := .seq (.rg false Z6b) (.seq (.seq (.rg false Z51) (.cond (.t 24) (.seq (.rg false Zkv) .ret) .skip)) (.seq (.rg false Z6z) (.seq (.seq (.rg false Z6r) (.block 0 (.loop Zvu))) (.seq (.rg true Zfy) .ret))))
abbrev Yts:Nat:=55
theorem Yoj:fnOk Tryz.prog 55=some (84,Yl1,[.tmp 4]):=by kernel_rfl
def Z7u:List IOp := [oI 2 (.box (.t 0)) 0,oI 4 (.alloc [.bool false,.nils,.bool false,.nils]) 1]
def Z63:List IOp := [mI 8 1 0,fI 9 2 2 0,lI 10 9 0,oI 11 (.idx 2 (.t 10) (cI 0)) 0,fI 12 0 11 0,lI 13 12 0,xI 14 4 8 13 0,lJ 15 4 14 0,oI 5 (.alloc [.bool false,.nils,.bool false,.nils]) 0,⟨none,.st 4 (.t 5) (.t 15),1,[],[],none⟩]
def Z5z:List IOp := [fI 16 0 2 0,lI 17 16 0,oI 18 (.bin .eql (.t 17) (cI 3)) 0]
def Z7p:List IOp := [oI 19 (.call 31 [cI 0]) 0,⟨none,.st 4 (.t 5) (.t 19),0,[],[],none⟩]
def Zsv:List IOp := [oI 6 (.mv (cI 0)) 0]
def Ztj:List IOp := [mI 20 6 0,fI 21 2 2 0,lI 22 21 0,oI 23 (.len (.t 22)) 0,oI 24 (.bin .lss (.t 20) (.t 23)) 0]
def Z6t:List IOp := [mI 27 1 0,fI 28 2 2 0,lI 29 28 0,mI 30 6 0,xI 31 2 29 30 0,fI 32 0 31 0,lI 33 32 0,xI 34 4 27 33 0,lJ 35 4 34 0,oI 7 (.alloc [.bool false,.nils,.bool false,.nils]) 0,⟨none,.st 4 (.t 7) (.t 35),1,[],[],none⟩]
def Z73:List IOp := [fI 36 0 2 0,lI 37 36 0]
def Z8g:List IOp := [oI 51 (.bin .eql (.t 37) (cI 1)) 0,mI 50 51 0]
def Z25:List IOp := [lJ 52 4 7 0,lJ 53 4 5 0,oI 54 (.call 25 [.t 52,.t 53]) 0,oI 55 (.bin .gtr (.t 54) (cI 0)) 0]
def Z27:List IOp := [lJ 56 4 7 0,⟨none,.st 4 (.t 5) (.t 56),0,[],[],none⟩]
def Zph:List IOp := [oI 58 (.bin .eql (.t 37) (cI 2)) 0,mI 57 58 0]
def Z0p:List IOp := [lJ 59 4 7 0,lJ 60 4 5 0,oI 61 (.call 25 [.t 59,.t 60]) 0,oI 62 (.bin .lss (.t 61) (cI 0)) 0]
def Z4a:List IOp := [lJ 63 4 7 0,⟨none,.st 4 (.t 5) (.t 63),0,[],[],none⟩]
def Zol:List IOp := [lJ 38 4 5 0,fI 39 2 2 0,lI 40 39 0,mI 41 6 0,xI 42 2 40 41 0,fI 43 1 42 0,lI 44 43 0,oI 45 (.call 21 [.t 44]) 0,lJ 46 4 7 0,oI 47 (.call 28 [.t 45,.t 46]) 0,oI 48 (.callw 32 [.t 38,.t 47]) 0,oI 49 (.callw 73 [.t 48]) 0,⟨none,.st 4 (.t 5) (.t 49),0,[],[],none⟩]
@[go_sem ↓] theorem Ya8 : autoK Zol = (0, 1) := by kernel_rfl
@[go_sem] theorem Yu6 : autoK [lJ 38 4 5 0, fI 39 2 2 0, lI 40 39 0, mI 41 6 0, xI 42 2 40 41 0, fI 43 1 42 0, lI 44 43 0, oI 45 (.call 21 [.t 44]) 0, lJ 46 4 7 0, oI 47 (.call 28 [.t 45, .t 46]) 0, oI 48 (.callw 32 [.t 38, .t 47]) 0, oI 49 (.callw 73 [.t 48]) 0, ⟨none, .st 4 (.t 5) (.t 49), 0, [], [], none⟩] = (0, 1) := Ya8
def Zdc:List IOp := [mI 25 6 0,oI 26 (.bin .add (.t 25) (cI 1)) 0,mI 6 26 0]
def Zkr:CC := .seq (.seq (.rg false Ztj) (.cond (.t 24) .skip (.exit 0))) (.seq (.block 1 (.seq (.rg false Z6t) (.seq (.rg false Z73) (.block 2 (.seq (.rg false Z8g) (.cond (.t 50) (.seq (.rg false Z25) (.cond (.t 55) (.rg false Z27) .skip)) (.seq (.rg false Zph) (.cond (.t 57) (.seq (.rg false Z0p) (.cond (.t 62) (.rg false Z4a) .skip)) (.rg true Zol))))))))) (.rg false Zdc))
def Zih:List IOp := [lJ 64 4 5 0,⟨none,.st 4 (.t 4) (.t 64),0,[],[],none⟩]
def Yk9:CC := .seq (.rg false Z7u) (.seq (.rg false Z63) (.seq (.seq (.rg false Z5z) (.cond (.t 18) (.rg false Z7p) .skip)) (.seq (.seq (.rg false Zsv) (.block 0 (.loop Zkr))) (.seq (.rg false Zih) .ret))))
abbrev Ytr:Nat:=77
theorem Yna:fnOk Tryz.prog 77=some (65,Yk9,[.cell 4 (some 4)]):=by kernel_rfl
def Z7t:List IOp := [oI 4 (.box (.t 1)) 0,oI 6 (.mv (.c .nils)) 1]
def Z7j:List IOp := [oI 9 (.bsl (some 4) 0 [.bool false,.nils,.bool false,.nils] []) 0,mI 7 9 1]
def Z7q:List IOp := [oI 8 (.mv (cI 0)) 0]
def Zty:List IOp := [mI 10 8 0,mI 11 0 0,oI 12 (.len (.t 11)) 0,oI 13 (.bin .lss (.t 10) (.t 12)) 0]
def Zsn:List IOp := [mI 16 7 0,mI 17 0 0,mI 18 8 0,xI 19 3 17 18 0,fI 20 1 19 0,lI 21 20 0,oI 22 (.call 21 [.t 21]) 0,lJ 23 4 4 0,mI 24 0 0,mI 25 8 0,xI 26 3 24 25 0,lJ 27 3 26 0,mI 28 2 0,oI 29 (.call 77 [.t 27,.t 28]) 0,oI 30 (.call 28 [.t 23,.t 29]) 0,oI 31 (.call 32 [.t 22,.t 30]) 0,oI 32 (.call 73 [.t 31]) 0,oI 33 (.bsl (some 4) 1 [.bool false,.nils,.bool false,.nils] [(0,.t 32)]) 0,⟨some 34,.app (some 4) 64 (.t 16) (.t 33),1,[0],[],none⟩,⟨some 7,.mv (.t 34),2,[0,1],[],none⟩]
@[go_sem ↓] theorem Ydn : autoK Zsn = (2, 1) := by kernel_rfl
@[go_sem] theorem Yxo : autoK [mI 16 7 0, mI 17 0 0, mI 18 8 0, xI 19 3 17 18 0, fI 20 1 19 0, lI 21 20 0, oI 22 (.call 21 [.t 21]) 0, lJ 23 4 4 0, mI 24 0 0, mI 25 8 0, xI 26 3 24 25 0, lJ 27 3 26 0, mI 28 2 0, oI 29 (.call 77 [.t 27, .t 28]) 0, oI 30 (.call 28 [.t 23, .t 29]) 0, oI 31 (.call 32 [.t 22, .t 30]) 0, oI 32 (.call 73 [.t 31]) 0, oI 33 (.bsl (some 4) 1 [.bool false, .nils, .bool false, .nils] [(0, .t 32)]) 0, ⟨some 34, .app (some 4) 64 (.t 16) (.t 33), 1, [0], [], none⟩, ⟨some 7, .mv (.t 34), 2, [0, 1], [], none⟩] = (2, 1) := Ydn
def Z6c:List IOp := [mI 14 8 0,oI 15 (.bin .add (.t 14) (cI 1)) 0,mI 8 15 0]
def Z7g:CC := .seq (.seq (.rg false Zty) (.cond (.t 13) .skip (.exit 0))) (.seq (.block 1 (.rg true Zsn)) (.rg false Z6c))
def Z69:List IOp := [mI 35 7 0,mI 6 35 0]
def Yiz:CC := .seq (.rg false Z7t) (.seq (.rg false Z7j) (.seq (.seq (.rg false Z7q) (.block 0 (.loop Z7g))) (.seq (.rg false Z69) .ret)))
abbrev Ysg:Nat:=58
theorem Ymg:fnOk Tryz.prog 58=some (36,Yiz,[.tmp 6]):=by kernel_rfl
def Zxb:List IOp := [oI 4 (.box (.t 1)) 0,oI 6 (.mv (.c (.bool false))) 1]
def Zxh:List IOp := [mI 9 0 0,lJ 10 4 4 0,mI 11 2 0,oI 12 (.call 58 [.t 9,.t 10,.t 11]) 0,mI 7 12 0]
def Zw6:List IOp := [oI 8 (.mv (cI 0)) 0]
def Zlh:List IOp := [mI 13 8 0,mI 14 0 0,oI 15 (.len (.t 14)) 0,oI 16 (.bin .lss (.t 13) (.t 15)) 0]
def Zlc:List IOp := [mI 19 2 0,mI 20 8 0,xI 21 4 19 20 0,lJ 22 4 21 0,mI 23 7 0,mI 24 8 0,xI 25 4 23 24 0,lJ 26 4 25 0,oI 27 (.callw 25 [.t 22,.t 26]) 0,oI 28 (.bin .neq (.t 27) (cI 0)) 0]
@[go_sem ↓] theorem Z87 : autoK Zlc = (0, 0) := by kernel_rfl
@[go_sem] theorem Ysf : autoK [mI 19 2 0, mI 20 8 0, xI 21 4 19 20 0, lJ 22 4 21 0, mI 23 7 0, mI 24 8 0, xI 25 4 23 24 0, lJ 26 4 25 0, oI 27 (.callw 25 [.t 22, .t 26]) 0, oI 28 (.bin .neq (.t 27) (cI 0)) 0] = (0, 0) := Z87
def Zwq:List IOp := [oI 6 (.mv (.c (.bool false))) 0]
def Zwm:List IOp := [mI 17 8 0,oI 18 (.bin .add (.t 17) (cI 1)) 0,mI 8 18 0]
def Zxm:CC := .seq (.seq (.rg false Zlh) (.cond (.t 16) .skip (.exit 0))) (.seq (.block 1 (.seq (.rg true Zlc) (.cond (.t 28) (.seq (.rg false Zwq) .ret) .skip))) (.rg false Zwm))
def Zyo:List IOp := [oI 6 (.mv (.c (.bool true))) 0]
def Z9y:CC := .seq (.rg false Zxb) (.seq (.rg false Zxh) (.seq (.seq (.rg false Zw6) (.block 0 (.loop Zxm))) (.seq (.rg false Zyo) .ret)))
abbrev Yla:Nat:=37
theorem Yg6:fnOk Tryz.prog 37=some (29,Z9y,[.tmp 6]):=by kernel_rfl
def Ykf:List IOp := [mI 17 0 0,mI 18 5 0,xI 19 1 17 18 0,lI 20 19 0,mI 21 1 0,mI 22 5 0,xI 23 1 21 22 0,lI 24 23 0,oI 25 (.bin .neq (.t 20) (.t 24)) 0]
@[go_sem ↓] theorem Ydl : autoK Ykf = (0, 0) := by kernel_rfl
@[go_sem] theorem Yyl : autoK [mI 17 0 0, mI 18 5 0, xI 19 1 17 18 0, lI 20 19 0, mI 21 1 0, mI 22 5 0, xI 23 1 21 22 0, lI 24 23 0, oI 25 (.bin .neq (.t 20) (.t 24)) 0] = (0, 0) := Ydl
end GoAbs
namespace GoAbs
open Go Go.Proofs
set_option maxHeartbeats 4000000
theorem Z9x {l:List UInt8}{q:Rat}(h:parseL l=some q):shortL 12 0 l=decide (Fitd 12 q):=by
 obtain ⟨h1,h2,h3,h4⟩:=Ye7 h
 have hs:shortL 12 0 l=shortL 12 0 (signL l).1:=by
  unfold signL
  split
  ·rename_i hh
   cases l with
   | nil=>simp at hh
   | cons c r =>
    simp at hh
    subst hh
    rw [Zn3]
    rfl
  ·rfl
 have hF:decide (Fitd 12 q)=(decide ((befL (signL l).1).length≤12) && decide ((decL q.den).length≤12)):=by
  rw [Bool.eq_iff_iff]; simp [Fitd,h2]
 rw [hs,hF]
 by_cases h47:47∈(signL l).1
 ·obtain ⟨g1,g2⟩:=h3 h47
  rw [g2]
  have e:=Yl2 h47
  rw [congrArg (shortL 12 0) e,Zpx h1.1 (by omega),Zn3]
  have hst:∀ k,stepS k 47=0:=fun k=>rfl
  rw [hst,if_neg (by omega)]
  have:=Zpx (n:=12) (r := []) (k:=0) g1.1 (by omega)
  rw [List.append_nil] at this
  rw [this]
  simp [shortL]
 ·rw [h4 h47]
  have e:=Ymy h47
  have:=Zpx (n:=12) (r := []) (k:=0) h1.1 (by omega)
  rw [List.append_nil,e] at this
  rw [this,e]
  have:(decL 1).length=1:=by rw [Y4l.2 rfl]; rfl
  simp [shortL,this]
theorem num_pos' {q:Rat}:(0<q)↔(0<q.num):=by
 rw [Rat.lt_iff]; simp
theorem Yg7 {a b:Rat}{k:Nat}(ha:Qb k a) (hb:Qb k b) (hk:k≤1000000):SpecV Tryz.prog Yf2 [.agg (rq a),.agg (rq b)] (.int .i64 (cmpR a b)):=by
 have h:=rcmpq ha.ib.1 ha.ib.2 hb.ib.1 hb.ib.2 hk
 have e:(if a.num*(b.den:Int)=b.num*(a.den:Int) then (0:Int) else if a.num*(b.den:Int)<b.num*(a.den:Int) then -1 else 1)=cmpR a b:=by
  unfold cmpR
  simp only [Rat.lt_iff]
  generalize a.num*(b.den:Int)=x
  generalize b.num*(a.den:Int)=y
  by_cases h1:x=y
  ·rw [if_pos h1,if_neg (by omega),if_neg (by omega)]
  ·rw [if_neg h1]
   by_cases h2:x<y
   ·rw [if_pos h2,if_pos h2]
   ·rw [if_neg h2,if_neg h2,if_pos (by omega)]
 rw [e] at h
 exact h
theorem Yz6 {a b:Rat}:(cmpR a b=0)=(a=b):=propext (by unfold cmpR; constructor <;> intro h <;> grind)
theorem Z5v {l:List UInt8}(h:okB l=true):smallB l=shortL 12 0 l:=by
 rw [Z9x (okBq h)]
 unfold smallB
 rw [okBq h]; rfl
theorem Y4n {v a b:Int}(h:a≤v∧v≤b):SpecV Tryz.prog Ygd [.int .i64 v,.int .i64 a,.int .i64 b] (.bool true):=by
 have:=rin (v:=v) (a:=a) (b:=b)
 rwa [decide_eq_true h] at this
theorem Y1a {v a b:Int}(h:¬ (a≤v∧v≤b)):SpecV Tryz.prog Ygd [.int .i64 v,.int .i64 a,.int .i64 b] (.bool false):=by
 have:=rin (v:=v) (a:=a) (b:=b)
 rwa [decide_eq_false h] at this
theorem Y2r {ls:List AV}{n:Nd}{ms:List AV}(hms:ms=n.mv.map mvAV) (hls:ls.length≤1000000) (hml:n.mv.length≤7) (hm:∀ m,m∈n.mv→m.2.length≤23) (hv:vaM n.mv=true) {K:Ex→St→Prop}
  (hK:fiM ls.length n.kind n.mv=true→∀ e:Nat→AV,e 3 = .ptr 0 0→e 5 = .ptr 1 0→K (.exit 0) ⟨e,[.cells [.int .i64 n.kind,.str (bs n.rew),.sl ms],.cells (rq (sumM n.mv))]⟩)
  (hK0:fiM ls.length n.kind n.mv=false→∀ e:Nat→AV,∀ H,e 4 = .bool false→K .ret ⟨e,H⟩) :
  T Tryz.prog 84 0 (.loop Zvu) ⟨envL [(0,.sl ls),(3,.ptr 0 0),(5,.ptr 1 0),(6,.int .i64 0)],[.cells [.int .i64 n.kind,.str (bs n.rew),.sl ms],.cells (rq 0)]⟩ K:=by
 have hmx:Tryz.prog.follows .mixedOrders=true:=by kernel_rfl
 have hmsl:ms.length=n.mv.length:=by rw [hms,List.length_map]
 refine Zaf (fun i:Nat=>⟨envL [(0,.sl ls),(3,.ptr 0 0),(5,.ptr 1 0),(6,.int .i64 (i:Int))],[.cells [.int .i64 n.kind,.str (bs n.rew),.sl ms],.cells (rq (sumM (n.mv.take i)))]⟩)
  (fun i=>i≤n.mv.length∧fiM ls.length n.kind (n.mv.take i)=true) (fun i=>n.mv.length - i) 0 ⟨by omega,rfl⟩ (Zbx (Zab [(0,.sl ls),(3,.ptr 0 0),(5,.ptr 1 0),(6,.int .i64 0)] (by simp only [go_sem])) rfl) (fun i hI N hN=>?_)
 obtain ⟨hi,hfi⟩:=hI
 unfold Zvu
 by_cases hin:i<n.mv.length
 ·obtain ⟨m,hmi⟩:∃ m,n.mv[i]? = some m:=⟨_,List.getElem?_eq_getElem hin⟩
  have hmm:=List.mem_of_getElem? hmi
  have hml2:=hm m hmm
  have tk:n.mv.take (i+1)=n.mv.take i ++ [m]:=by rw [List.take_add_one,hmi]; rfl
  have hmsi:ms[i]? = some (.agg [.int .i64 m.1,.str (bs m.2)]):=by rw [hms,List.getElem?_map,hmi]; rfl
  have hsb:=Z2m (l:=n.mv.take i) (fun m h=>hm m (List.mem_of_mem_take h))
  have hst:sumM (n.mv.take (i+1))=stepM (sumM (n.mv.take i)) m:=by rw [tk,Ya3]
  have hsf:fiM ls.length n.kind (n.mv.take (i+1))=mvFit ls.length n.kind m:=by
   rw [tk]; unfold fiM at *; rw [List.all_append,hfi]; simp
  have hbad:mvFit ls.length n.kind m=false→fiM ls.length n.kind n.mv=false:=fun h=>by
   unfold fiM
   rw [← Bool.not_eq_true,List.all_eq_true]
   intro h2
   rw [h2 m hmm] at h; cases h
  have hvm:m.2.isEmpty=true∨okB m.2=true:=by
   have:=List.all_eq_true.1 hv m hmm
   simpa using this
  have hlt:(n.mv.take i).length≤7:=by rw [List.length_take]; omega
  generalize sumM (n.mv.take i)=s at *
  have q0:(0:Int)≤(i:Int):=by omega
  have q1:(i:Int)<(n.mv.length:Int):=by omega
  have e1:IntKind.i64.wrap ((i:Int)+1)=((i+1:Nat):Int):=by rw [Zac (by omega) (by omega)]; omega
  have e2:IntKind.i64.wrap ((ls.length:Int) - 1)=(ls.length:Int) - 1:=Zac (by omega) (by omega)
  have rl:∀ q:Rat,(rq q).length=4:=fun q=>rfl
  have bvsr:∀ {H ids} {q:Rat},BVs H ids (rq q) (rq q)=True:=fun {H ids q}=>by unfold rq rc; simp only [go_sem]
  have hdrop:∀ (kd:Int) (e:Nat→AV) (post:Heap) (z:Rat),kd=n.kind→e 0 = .sl ls→e 3 = .ptr 0 0→e 5 = .ptr 1 0→e 6 = .int .i64 ((i+1:Nat):Int)→z=sumM (n.mv.take (i+1))→mvFit ls.length n.kind m=true →
    N ⟨e,[.cells [.int .i64 kd,.str (bs n.rew),.sl ms],.cells (rq z)]++post⟩:=fun kd e post z hkd f0 f3 f5 f6 hz hf=>by
   subst hkd
   refine hN (i+1) _ ⟨by omega,by rw [hsf,hf]⟩ (by omega) (Zbx (Zf6 (K := [.cells [.int .i64 n.kind,.str (bs n.rew),.sl ms],.cells (rq z)]) (m:=2) rfl (show Clo 2 [.cells [.int .i64 n.kind,.str (bs n.rew),.sl ms],.cells (rq z)] from rfl) (by omega) [(0,.sl ls),(3,.ptr 0 0),(5,.ptr 1 0),(6,.int .i64 ((i+1:Nat):Int))] (by simp only [go_sem,f0,f3,f5,f6]) ?_) (by rw [hz]))
   simp [AV.gc,Zbj]
  simp only [go_sem,Zuq,Z5m,Z7i,q0,q1,hmsl,hmsi,e2]
  have hsh:=rshort (l:=m.2) (n:=12) (by omega) (by omega)
  by_cases a1:0≤m.1∧m.1≤(ls.length:Int) - 1
  ·refine Zaa (Y4n a1) (by simp only [go_sem]) ?_
   have d1:decide (0≤m.1)=true:=decide_eq_true a1.1
   have d2:decide (m.1<(ls.length:Int))=true:=decide_eq_true (by omega)
   by_cases a2:m.2 = []
   ·have hemp:m.2.isEmpty=true:=by rw [a2]; rfl
    have hs0:shortL 12 0 m.2=true:=by rw [a2]; rfl
    rw [hs0] at hsh
    by_cases a3:n.kind=3
    ·have hf:mvFit ls.length n.kind m=false:=by unfold mvFit mvFit1; rw [hemp,a3]; simp
     simp only [go_sem,Zvw,a2,a3,Zg3]
     exact hK0 (hbad hf) _ _ (by simp only [go_sem])
    ·have hf:mvFit ls.length n.kind m=true:=by unfold mvFit mvFit1; rw [hemp,d1,d2]; simp [a3]
     have hsum:s=sumM (n.mv.take (i+1)):=by rw [hst]; unfold stepM; rw [if_pos hemp]
     simp only [go_sem,Zvw,a2,a3]
     rw [a2] at hsh
     refine Zaa hsh (by simp only [go_sem]) ?_
     simp only [go_sem,Zvw,a2,a3,Zoc,Zn0,e1]
     exact hdrop _ _ [_] s rfl (by simp only [go_sem]) (by simp only [go_sem]) (by simp only [go_sem]) (by simp only [go_sem]) hsum hf
   ·have hemp:m.2.isEmpty=false:=by simpa using a2
    by_cases a3:n.kind=3
    ·have hok:okB m.2=true:=by rcases hvm with h | h; rw [h] at hemp; cases hemp; exact h
     obtain ⟨q,hq⟩:∃ q,parseL m.2=some q:=⟨_,okBq hok⟩
     have hfit:mvFit ls.length n.kind m=(shortL 12 0 m.2 && decide (0<q)):=by
      unfold mvFit mvFit1 mvFit2
      rw [hemp,hq,d1,d2,a3,Z9x hq]
      simp [Bool.and_comm]
     have hof:=rof (by omega) hq
     rw [Zbg] at hof
     have hqb:=Zi1 hq hml2
     simp only [go_sem,Zvw,a2,a3]
     cases hsv:shortL 12 0 m.2 with
     | false =>
      rw [hsv] at hsh hfit
      refine Zaa hsh (by simp only [go_sem]) ?_
      simp only [go_sem,Zg3]
      exact hK0 (hbad hfit) _ _ (by simp only [go_sem])
     | true =>
      rw [hsv] at hsh hfit
      refine Zaa hsh (by simp only [go_sem]) ?_
      simp only [go_sem,Zvw,a2,Zoc,Z3q]
      refine Zaa hof (by simp only [go_sem]) ?_
      simp only [go_sem]
      refine Zaa (Yod (z:=q.num)) (by simp only [go_sem,Zai]) ?_
      have hnz:decide (0<q)=decide (0<q.num):=decide_eq_decide.2 num_pos'
      by_cases a4:0<q.num
      ·have c1:¬ (if q.num=0 then (0:Int) else if q.num<0 then -1 else 1)≤0:=by rw [if_neg (by omega),if_neg (by omega)]; decide
       have hf:mvFit ls.length n.kind m=true:=by rw [hfit,hnz]; simp [a4]
       have hsum:s+q=sumM (n.mv.take (i+1)):=by rw [hst]; unfold stepM; rw [if_neg (by rw [hemp]; decide),hq]
       obtain ⟨X,x1,x2,x3⟩:=Xd1 (a:=s) (b:=q) (k:=1+78*7) (hsb.mono (by omega)) (hqb.mono (by omega)) (by omega)
       have hoq:SpecV Tryz.prog Zv6 [.str (bs m.2)] (.agg (rq q)):=hof
       simp only [go_sem,c1,Znu,rl,Zbi,Zbh,hmx]
       refine Zaa hoq (by simp only [go_sem]) ?_
       simp only [go_sem,rl,Zbi,Zbh]
       refine Zaa x1 (by simp only [go_sem,bvsr]) ?_
       simp only [go_sem]
       refine Zaa x3 (by simp only [go_sem,x2]) ?_
       simp only [go_sem,rl,Zbi,Zbh,Zn0,e1]
       exact hdrop _ _ [_] (s+q) a3.symm (by simp only [go_sem]) (by simp only [go_sem]) (by simp only [go_sem]) (by simp only [go_sem]) hsum hf
      ·have c1:(if q.num=0 then (0:Int) else if q.num<0 then -1 else 1)≤0:=by split; decide; rw [if_pos (by omega)]; decide
       have hf:mvFit ls.length n.kind m=false:=by rw [hfit,hnz]; simp [a4]
       simp only [go_sem,c1,Z13]
       exact hK0 (hbad hf) _ _ (by simp only [go_sem])
    ·have hf:mvFit ls.length n.kind m=false:=by unfold mvFit mvFit1; rw [hemp]; simp [a3]
     simp only [go_sem,Zvw,a2,a3,Zg3]
     exact hK0 (hbad hf) _ _ (by simp only [go_sem])
  ·have hf:mvFit ls.length n.kind m=false:=by
    unfold mvFit mvFit1
    by_cases h0:0≤m.1
    ·have:¬ m.1<(ls.length:Int):=by omega
     simp [this]
    ·simp [h0]
   refine Zaa (Y1a a1) (by simp only [go_sem]) ?_
   simp only [go_sem,Zg3]
   exact hK0 (hbad hf) _ _ (by simp only [go_sem])
 ·have hie:i=n.mv.length:=by omega
  subst hie
  have q1:¬ ((n.mv.length:Nat):Int)<(n.mv.length:Int):=by omega
  rw [List.take_length] at hfi ⊢
  simp only [go_sem,Zuq,hmsl,q1]
  exact hK hfi _ (by simp only [go_sem]) (by simp only [go_sem])
theorem rnode {ls:List AV}{n:Nd}(hls:ls.length≤1000000) (hr:n.rew.length≤23) (hml:n.mv.length≤7) (hm:∀ m,m∈n.mv→m.2.length≤23) (hv:ndVa n=true) :
  SpecV Tryz.prog Yts [.sl ls,ndAV n] (.bool (ndFi ls.length n)):=by
 have hmx:Tryz.prog.follows .mixedOrders=true:=by kernel_rfl
 unfold ndVa at hv
 rw [Bool.and_eq_true] at hv
 have hsm:=Z5v hv.1
 have hsh:=rshort (l:=n.rew) (n:=12) (by omega) (by omega)
 rw [← hsm] at hsh
 obtain ⟨ms,hms⟩:∃ ms,ms=n.mv.map mvAV:=⟨_,rfl⟩
 have hmsl:ms.length=n.mv.length:=by rw [hms,List.length_map]
 have rl:∀ q:Rat,(rq q).length=4:=fun q=>rfl
 have bvsr:∀ {H ids} {q:Rat},BVs H ids (rq q) (rq q)=True:=fun {H ids q}=>by unfold rq rc; simp only [go_sem]
 have hA:ndAV n = .agg [.int .i64 n.kind,.str (bs n.rew),.sl ms]:=by unfold ndAV; rw [hms]
 rw [hA]
 refine Za0 Yoj (by simp) (Za3 1 rfl ?_)
 unfold Yl1
 simp only [go_sem,Z6b,Z51]
 have nf:∀ b,b=false→(smallB n.rew && fiM ls.length n.kind n.mv && decide (1≤n.mv.length∧n.mv.length≤6) && kindF n)=b→ndFi ls.length n=false:=fun b hb h=>by unfold ndFi; rw [h,hb]
 by_cases a1:1≤n.kind∧n.kind≤3
 ·refine Zaa (Y4n a1) (by simp only [go_sem]) ?_
  simp only [go_sem]
  cases hsv:smallB n.rew with
  | false =>
   rw [hsv] at hsh nf
   rw [nf false rfl (by simp)]
   refine Zaa hsh (by simp only [go_sem]) ?_
   simp only [go_sem,Zkv]
  | true =>
   rw [hsv] at hsh
   refine Zaa hsh (by simp only [go_sem]) ?_
   simp only [go_sem,hmsl]
   by_cases a2:(1:Int)≤(n.mv.length:Int)∧(n.mv.length:Int)≤6
   ·refine Zaa (Y4n a2) (by simp only [go_sem]) ?_
    simp only [go_sem]
    refine Za3 0 rfl ?_
    simp only [go_sem,Z6z]
    have w0:SpecV Tryz.prog Zjs [.int .i64 0] (.agg (rq 0)):=rwhole (v:=0) (by decide)
    have w1:SpecV Tryz.prog Zjs [.int .i64 1] (.agg (rq 1)):=rwhole (v:=1) (by decide)
    refine Zaa w0 (by simp only [go_sem]) ?_
    simp only [go_sem,rl,Zbi,Zbh]
    refine Zax (Zax (T_W ?_))
    simp only [go_sem,Z6r]
    refine Zaz (Zar [(0,.sl ls),(3,.ptr 0 0),(5,.ptr 1 0),(6,.int .i64 0)] (by simp only [go_sem]) (Y2r hms hls hml hm hv.2 (fun hf e k3 k5=>?_) (fun hf e H k4=>?_)))
    ·show T Tryz.prog 84 0 (.seq (.rg true Zfy) .ret) _ _
     refine T_W ?_
     have hF:ndFi ls.length n=kindF n:=by
      unfold ndFi
      rw [hsv,hf,decide_eq_true (show 1≤n.mv.length∧n.mv.length≤6 by omega)]; simp
     rw [hF]
     unfold kindF
     have sb:=Z2m hm
     have hc:=Yg7 (k:=1000) (sb.mono (by omega)) (Qb.one (k:=1000) (by omega)) (by omega)
     by_cases a3:n.kind=3
     ·have b1:decide (n.kind=1)=false:=decide_eq_false (by omega)
      have b2:decide (n.kind=2)=false:=decide_eq_false (by omega)
      have b3:decide (n.kind=3)=true:=decide_eq_true a3
      rw [b1,b2,b3,Bool.false_or,Bool.false_or,Bool.true_and]
      clear b1 b2 b3
      simp only [go_sem,Zfy,k3,k5,a3,rl,Zbi,Zbh,hmx]
      refine Zaa w1 (by simp only [go_sem]) ?_
      simp only [go_sem]
      refine Zaa hc (by simp only [go_sem,bvsr]) ?_
      simp only [go_sem,Yz6]
      exact ⟨fun h=>decide_eq_true h,fun h=>decide_eq_false h⟩
     ·have b:decide (n.kind=3)=false:=decide_eq_false a3
      have b0:(decide (n.kind=1) || decide (n.kind=2))=true:=by
       have:n.kind=1∨n.kind=2:=by omega
       simpa using this
      rw [b,Bool.false_and,Bool.or_false,b0]
      simp only [go_sem,Zfy,k3,k5,a3,rl,Zbi,Zbh,hmx]
    ·have hF:ndFi ls.length n=false:=nf false rfl (by rw [hf]; simp)
     rw [hF]
     simp only [go_sem,k4]
   ·rw [nf false rfl (by rw [decide_eq_false (show ¬ (1≤n.mv.length∧n.mv.length≤6) by omega)]; simp)]
    refine Zaa (Y1a a2) (by simp only [go_sem]) ?_
    simp only [go_sem,Zkv]
 ·have hk:kindF n=false:=by
   unfold kindF
   have h1:n.kind≠1:=by omega
   have h2:n.kind≠2:=by omega
   have h3:n.kind≠3:=by omega
   simp [h1,h2,h3]
  rw [nf false rfl (by rw [hk]; simp)]
  refine Zaa (Y1a a1) (by simp only [go_sem]) ?_
  simp only [go_sem,Zkv]
end GoAbs
namespace GoAbs
open Go Go.Proofs
set_option maxHeartbeats 4000000
theorem rvalid' {l:List UInt8}(hlen:l.length≤1000000000):SpecV Tryz.prog Ybg [.str (bs l)] (.bool (okB l)):=rvalid hlen
theorem Y9w {ls:List AV}{d:ByteArray}{L:List Nd}{n:Nd}{b:Bool}{i:Nat}(hls:ls=L.map ndAV) (hll:L.length≤1000000) (hi:L[i]? = some n) (hml:n.mv.length≤7) (hm:∀ m,m∈n.mv→m.2.length≤23) {K:Ex→St→Prop}
  (hK:∀ e:Nat→AV,e 0 = .sl ls→e 1 = .str d→e 7 = .bool (b && vaM n.mv)→e 8 = .int .i64 (i:Int)→K (.exit 2) ⟨e,[]⟩) :
  T Tryz.prog 109 0 (.loop Zim) ⟨envL [(0,.sl ls),(1,.str d),(7,.bool b),(8,.int .i64 (i:Int)),(9,.int .i64 0)],[]⟩ K:=by
 obtain ⟨ms,hms⟩:∃ ms,ms=n.mv.map mvAV:=⟨_,rfl⟩
 have hmsl:ms.length=n.mv.length:=by rw [hms,List.length_map]
 have hil:=(List.getElem?_eq_some_iff.1 hi).1
 have hlsl:ls.length=L.length:=by rw [hls,List.length_map]
 have hget:ls[i]? = some (.agg [.int .i64 n.kind,.str (bs n.rew),.sl ms]):=by rw [hls,List.getElem?_map,hi,hms]; rfl
 refine Zaf (fun k:Nat=>⟨envL [(0,.sl ls),(1,.str d),(7,.bool (b && vaM (n.mv.take k))),(8,.int .i64 (i:Int)),(9,.int .i64 (k:Int))],[]⟩)
  (fun k=>k≤n.mv.length) (fun k=>n.mv.length - k) 0 (by omega) (Zab _ (by simp only [go_sem]; simp [vaM])) (fun k hk N hN=>?_)
 unfold Zim
 have p0:(0:Int)≤(i:Int):=by omega
 have p1:(i:Int)<(L.length:Int):=by omega
 by_cases hkn:k<n.mv.length
 ·obtain ⟨m,hmi⟩:∃ m,n.mv[k]? = some m:=⟨_,List.getElem?_eq_getElem hkn⟩
  have hml2:=hm m (List.mem_of_getElem? hmi)
  have tk:vaM (n.mv.take (k+1))=(vaM (n.mv.take k) && (m.2.isEmpty || okB m.2)):=by rw [List.take_add_one,hmi]; unfold vaM; simp
  have hmsi:ms[k]? = some (.agg [.int .i64 m.1,.str (bs m.2)]):=by rw [hms,List.getElem?_map,hmi]; rfl
  have q0:(0:Int)≤(k:Int):=by omega
  have q1:(k:Int)<(n.mv.length:Int):=by omega
  have e1:IntKind.i64.wrap ((k:Int)+1)=((k+1:Nat):Int):=by rw [Zac (by omega) (by omega)]; omega
  generalize vaM (n.mv.take k)=v at *
  have fin:∀ (x:Bool) (e:Nat→AV),x=(b && vaM (n.mv.take (k+1)))→Has e [(0,.sl ls),(1,.str d),(7,.bool x),(8,.int .i64 (i:Int)),(9,.int .i64 ((k+1:Nat):Int))]→N ⟨e,[]⟩:=fun x e hx he=>by
   refine hN (k+1) _ (by omega) (by omega) (Zab _ ?_)
   rw [← hx]; exact he
  cases hbv:(b && v) with
  | false =>
   simp only [go_sem,Zfu,Zix,Zir,p0,p1,q0,q1,hlsl,hget,hmsl,e1]
   exact fin false _ (by rw [tk, ← Bool.and_assoc,hbv]; rfl) (by simp only [go_sem])
  | true =>
   by_cases a2:m.2 = []
   ·have hemp:m.2.isEmpty=true:=by rw [a2]; rfl
    simp only [go_sem,Zfu,Zix,Zir,p0,p1,q0,q1,hlsl,hget,hmsl,hmsi,Zvw,a2,e1]
    exact fin true _ (by rw [tk, ← Bool.and_assoc,hbv,hemp]; rfl) (by simp only [go_sem])
   ·have hemp:m.2.isEmpty=false:=by simpa using a2
    simp only [go_sem,Zfu,Zix,p0,p1,q0,q1,hlsl,hget,hmsl,hmsi,Zvw,a2]
    refine Zaa (rvalid' (by omega)) (by simp only [go_sem]) ?_
    simp only [go_sem,Zir,e1]
    exact fin (okB m.2) _ (by rw [tk, ← Bool.and_assoc,hbv,hemp]; simp) (by simp only [go_sem])
 ·have hke:k=n.mv.length:=by omega
  subst hke
  have q1:¬ ((n.mv.length:Nat):Int)<(n.mv.length:Int):=by omega
  rw [List.take_length]
  simp only [go_sem,Zfu,p0,p1,hlsl,hget,hmsl,q1]
  exact hK _ (by simp only [go_sem]) (by simp only [go_sem]) (by simp only [go_sem]) (by simp only [go_sem])
theorem Y7c {ls:List AV}{d:ByteArray}{L:List Nd}{b:Bool}(hls:ls=L.map ndAV) (hll:L.length≤1000000) (hok:∀ n,n∈L→n.rew.length≤23∧n.mv.length≤7∧∀ m,m∈n.mv→m.2.length≤23) {K:Ex→St→Prop}
  (hK:∀ e:Nat→AV,e 0 = .sl ls→e 1 = .str d→e 7 = .bool (b && L.all ndVa)→K (.exit 0) ⟨e,[]⟩) :
  T Tryz.prog 109 0 (.loop Zit) ⟨envL [(0,.sl ls),(1,.str d),(7,.bool b),(8,.int .i64 0)],[]⟩ K:=by
 have hlsl:ls.length=L.length:=by rw [hls,List.length_map]
 refine Zhg (fun i:Nat=>⟨envL [(0,.sl ls),(1,.str d),(7,.bool (b && (L.take i).all ndVa)),(8,.int .i64 (i:Int))],[]⟩)
  (fun i=>i≤L.length) (fun i=>L.length - i) 0 (by omega) (Zab _ (by simp only [go_sem]; simp)) (fun i hi N hN=>?_)
 unfold Zit
 by_cases hin:i<L.length
 ·obtain ⟨n,hn⟩:∃ n,L[i]? = some n:=⟨_,List.getElem?_eq_getElem hin⟩
  obtain ⟨o1,o2,o3⟩:=hok n (List.mem_of_getElem? hn)
  have tk:(L.take (i+1)).all ndVa=((L.take i).all ndVa && (okB n.rew && vaM n.mv)):=by rw [List.take_add_one,hn]; simp [ndVa]
  have hget:ls[i]? = some (.agg [.int .i64 n.kind,.str (bs n.rew),.sl (n.mv.map mvAV)]):=by rw [hls,List.getElem?_map,hn]; rfl
  have q0:(0:Int)≤(i:Int):=by omega
  have q1:(i:Int)<(L.length:Int):=by omega
  have e1:IntKind.i64.wrap ((i:Int)+1)=((i+1:Nat):Int):=by rw [Zac (by omega) (by omega)]; omega
  generalize (L.take i).all ndVa=v at *
  have rest:∀ (x:Bool) (e:Nat→AV),x=(b && v && okB n.rew)→Has e [(0,.sl ls),(1,.str d),(7,.bool x),(8,.int .i64 (i:Int)),(9,.int .i64 0)] →
    T Tryz.prog 109 0 (.loop Zim) ⟨e,[]⟩ (blockQ 2 (blockQ 1 (thenQ (goT Tryz.prog 109 0 (.rg false Zgs) (thenQ N K)) (thenQ N K)))):=fun x e hx he=>by
   refine T_le (Zab _ he) (Y9w hls hll hn o2 o3 (fun e k0 k1 k7 k8=>?_))
   show T Tryz.prog 109 0 (.rg false Zgs) _ _
   refine T_W ?_
   simp only [go_sem,Zgs,k8,e1]
   refine hN (i+1) _ (by omega) (by omega) (Zab _ ?_)
   simp only [go_sem,k0,k1,k7]
   rw [tk,hx]; simp [Bool.and_assoc]
  refine Za3 1 rfl ?_
  cases hbv:(b && v) with
  | false =>
   rw [hbv] at rest
   simp only [go_sem,Zio,Zpk,Znv,q0,q1,hlsl]
   exact rest false _ rfl (by simp only [go_sem])
  | true =>
   rw [hbv] at rest
   simp only [go_sem,Zio,Zpk,q0,q1,hlsl,hget]
   refine Zaa (rvalid' (by omega)) (by simp only [go_sem]) ?_
   simp only [go_sem,Znv]
   exact rest (okB n.rew) _ rfl (by simp only [go_sem])
 ·have hie:i=L.length:=by omega
  subst hie
  have q1:¬ ((L.length:Nat):Int)<(L.length:Int):=by omega
  refine T_W ?_
  rw [List.take_length]
  simp only [go_sem,Zio,hlsl,q1]
  exact hK _ (by simp only [go_sem]) (by simp only [go_sem]) (by simp only [go_sem])
theorem Y8e {ls:List AV}{L:List Nd}{b:Bool}(hls:ls=L.map ndAV) (hll:L.length≤1000000) (hok:∀ n,n∈L→n.rew.length≤23∧n.mv.length≤7∧∀ m,m∈n.mv→m.2.length≤23) (hv:L.all ndVa=true) {K:Ex→St→Prop}
  (hK:∀ e:Nat→AV,e 10 = .bool (b && L.all (ndFi L.length))→K (.exit 4) ⟨e,[]⟩) :
  T Tryz.prog 109 0 (.loop Zda) ⟨envL [(0,.sl ls),(10,.bool b),(11,.int .i64 0)],[]⟩ K:=by
 have hlsl:ls.length=L.length:=by rw [hls,List.length_map]
 refine Zaf (fun i:Nat=>⟨envL [(0,.sl ls),(10,.bool (b && (L.take i).all (ndFi L.length))),(11,.int .i64 (i:Int))],[]⟩)
  (fun i=>i≤L.length) (fun i=>L.length - i) 0 (by omega) (Zab _ (by simp only [go_sem]; simp)) (fun i hi N hN=>?_)
 unfold Zda
 by_cases hin:i<L.length
 ·obtain ⟨n,hn⟩:∃ n,L[i]? = some n:=⟨_,List.getElem?_eq_getElem hin⟩
  have hnm:=List.mem_of_getElem? hn
  obtain ⟨o1,o2,o3⟩:=hok n hnm
  have tk:(L.take (i+1)).all (ndFi L.length)=((L.take i).all (ndFi L.length) && ndFi L.length n):=by rw [List.take_add_one,hn]; simp
  have hget:ls[i]? = some (ndAV n):=by rw [hls,List.getElem?_map,hn]; rfl
  have hnd:=rnode (ls:=ls) (by omega) o1 o2 o3 (List.all_eq_true.1 hv n hnm)
  rw [hlsl] at hnd
  have hA:ndAV n = .agg [.int .i64 n.kind,.str (bs n.rew),.sl (n.mv.map mvAV)]:=rfl
  have q0:(0:Int)≤(i:Int):=by omega
  have q1:(i:Int)<(L.length:Int):=by omega
  have e1:IntKind.i64.wrap ((i:Int)+1)=((i+1:Nat):Int):=by rw [Zac (by omega) (by omega)]; omega
  generalize (L.take i).all (ndFi L.length)=v at *
  have fin:∀ (x:Bool) (e:Nat→AV),x=(b && (L.take (i+1)).all (ndFi L.length))→Has e [(0,.sl ls),(10,.bool x),(11,.int .i64 ((i+1:Nat):Int))]→N ⟨e,[]⟩:=fun x e hx he=>by
   refine hN (i+1) _ (by omega) (by omega) (Zab _ ?_)
   rw [← hx]; exact he
  cases hbv:(b && v) with
  | false =>
   simp only [go_sem,Zgh,Zl8,Zlr,q0,q1,hlsl,e1]
   exact fin false _ (by rw [tk, ← Bool.and_assoc,hbv]; rfl) (by simp only [go_sem])
  | true =>
   rw [hA] at hget hnd
   simp only [go_sem,Zgh,Zl8,q0,q1,hlsl,hget]
   refine Zaa hnd (by simp only [go_sem]) ?_
   simp only [go_sem,Zlr,e1]
   exact fin (ndFi L.length n) _ (by rw [tk, ← Bool.and_assoc,hbv]; rfl) (by simp only [go_sem])
 ·have hie:i=L.length:=by omega
  subst hie
  have q1:¬ ((L.length:Nat):Int)<(L.length:Int):=by omega
  rw [List.take_length]
  simp only [go_sem,Zgh,hlsl,q1]
  exact hK _ (by simp only [go_sem])
def chkC (L:List Nd) (d:List UInt8) (M:List (List UInt8)):Int :=
 if (okB d && (M.all okB) && L.all ndVa)=false then 2 else if gFit L d=false then 1 else 0
theorem rcheck {L:List Nd}{d:List UInt8}{M:List (List UInt8)}(hll:L.length≤1000000) (hok:∀ n,n∈L→n.rew.length≤23∧n.mv.length≤7∧∀ m,m∈n.mv→m.2.length≤23) (hd:d.length≤23) (hM:M.length≤1000) (hMl:∀ s,s∈M→s.length≤1000000000) :
  SpecV Tryz.prog Ymp [.sl (L.map ndAV),.str (bs d),.sl (M.map strAV)] (.int .i64 (chkC L d M)):=by
 obtain ⟨ls,hls⟩:∃ ls,ls=L.map ndAV:=⟨_,rfl⟩
 obtain ⟨nm,hnm⟩:∃ nm,nm=M.map strAV:=⟨_,rfl⟩
 have hlsl:ls.length=L.length:=by rw [hls,List.length_map]
 have hn:=rnums (L:=M) (by omega) hMl
 have hnE:numsE M=if M.all okB=true then 0 else 2:=rfl
 rw [← hls, ← hnm]
 rw [← hnm] at hn
 have tail:∀ (e:Nat→AV),e 0 = .sl ls→e 1 = .str (bs d)→okB d=true→M.all okB=true→L.all ndVa=true →
   T Tryz.prog 109 0 (.seq (.rg false Zgm) (.seq (.seq (.rg false Zdp) (.block 4 (.loop Zda))) (.seq (.seq (.rg false Zbq) (.cond (.t 108) (.seq (.rg false Zcg) .ret) .skip)) (.seq (.rg false Zcl) .ret)))) ⟨e,[]⟩ (retQ [.tmp 6] (.int .i64 (chkC L d M))):=fun e k0 k1 h1 h2 h3=>by
  have hc:chkC L d M=if gFit L d=false then 1 else 0:=by unfold chkC; rw [h1,h2,h3]; rfl
  rw [hc]
  obtain ⟨q,hq⟩:∃ q,parseL d=some q:=⟨_,okBq h1⟩
  have hg:gFit L d=(decide (1≤L.length∧L.length≤10) && smallB d && decide (0≤q) && decide (q<1) && L.all (ndFi L.length)):=by
   unfold gFit disF
   rw [hq]
   cases decide (1≤L.length∧L.length≤10) <;> cases L.all (ndFi L.length) <;> simp [Bool.and_assoc]
  have hsh:=rshort (l:=d) (n:=12) (by omega) (by omega)
  rw [← Z5v h1] at hsh
  have hof:=rof (by omega) hq
  rw [Zbg] at hof
  have hoq:SpecV Tryz.prog Zv6 [.str (bs d)] (.agg (rq q)):=hof
  have hqb:=Zi1 hq hd
  have bvsr:∀ {H ids} {q:Rat},BVs H ids (rq q) (rq q)=True:=fun {H ids q}=>by unfold rq rc; simp only [go_sem]
  have w1:SpecV Tryz.prog Zjs [.int .i64 1] (.agg (rq 1)):=rwhole (v:=1) (by decide)
  have hcm:=Yg7 (k:=100) (hqb.mono (by omega)) (Qb.one (k:=100) (by omega)) (by omega)
  have rest:∀ (x:Bool) (e:Nat→AV),x=(decide (1≤L.length∧L.length≤10) && smallB d && decide (0≤q) && decide (q<1))→e 0 = .sl ls→e 10 = .bool x →
    T Tryz.prog 109 0 (.seq (.seq (.rg false Zdp) (.block 4 (.loop Zda))) (.seq (.seq (.rg false Zbq) (.cond (.t 108) (.seq (.rg false Zcg) .ret) .skip)) (.seq (.rg false Zcl) .ret))) ⟨e,[]⟩ (retQ [.tmp 6] (.int .i64 (if gFit L d=false then 1 else 0))):=fun x e hx k0 k10=>by
   refine Zax (Zax (T_W ?_))
   simp only [go_sem,Zdp]
   refine Zaz (Zar [(0,.sl ls),(10,.bool x),(11,.int .i64 0)] (by simp only [go_sem,k0,k10]) (Y8e hls hll hok h3 (fun e k10=>?_)))
   show T Tryz.prog 109 0 (.seq (.seq (.rg false Zbq) (.cond (.t 108) (.seq (.rg false Zcg) .ret) .skip)) (.seq (.rg false Zcl) .ret)) _ _
   rw [hx, ← hg] at k10
   refine T_W ?_
   cases hgf:gFit L d with
   | false=>simp only [go_sem,Zbq,Zcg,k10,hgf]
   | true=>simp only [go_sem,Zbq,Zcl,k10,hgf]
  refine Za3 0 rfl ?_
  simp only [go_sem,Zgm,k0,k1,hlsl]
  by_cases a1:(1:Int)≤(L.length:Int)∧(L.length:Int)≤10
  ·have b1:decide (1≤L.length∧L.length≤10)=true:=decide_eq_true (by omega)
   refine Zaa (Y4n a1) (by simp only [go_sem]) ?_
   simp only [go_sem,k0,k1]
   refine Zaa hsh (by simp only [go_sem]) ?_
   cases hsv:smallB d with
   | false =>
    simp only [go_sem]
    exact rest false _ (by rw [hsv,b1]; rfl) (by simp only [go_sem,k0]) (by simp only [go_sem])
   | true =>
    simp only [go_sem,k0,k1]
    refine Zaa hof (by simp only [go_sem]) ?_
    simp only [go_sem,k0,k1]
    refine Zaa (Yod (z:=q.num)) (by simp only [go_sem,Zai]) ?_
    have hz:(q.num<0)=(q<0):=propext (by rw [Rat.lt_iff]; simp)
    by_cases s0:q<0
    ·have c1:¬ (0:Int)≤(if q.num=0 then (0:Int) else if q.num<0 then -1 else 1):=by
      rw [← hz] at s0
      rw [if_neg (by omega),if_pos s0]; decide
     have b2:decide (0≤q)=false:=decide_eq_false (by grind)
     simp only [go_sem,c1]
     exact rest false _ (by rw [hsv,b1,b2]; rfl) (by simp only [go_sem,k0]) (by simp only [go_sem])
    ·have c1:(0:Int)≤(if q.num=0 then (0:Int) else if q.num<0 then -1 else 1):=by
      rw [← hz] at s0
      split <;> first | decide | (rw [if_neg s0]; decide)
     have b2:decide (0≤q)=true:=decide_eq_true (by grind)
     simp only [go_sem,c1,k0,k1]
     refine Zaa hoq (by simp only [go_sem]) ?_
     simp only [go_sem]
     refine Zaa w1 (by simp only [go_sem]) ?_
     simp only [go_sem]
     refine Zaa hcm (by simp only [go_sem,bvsr]) ?_
     have hlt:(cmpR q 1<0)=(q<1):=propext (by unfold cmpR; constructor <;> intro h <;> grind)
     by_cases s1:q<1
     ·have c2:cmpR q 1<0:=by rw [hlt]; exact s1
      simp only [go_sem,c2]
      exact rest true _ (by rw [hsv,b1,b2,decide_eq_true s1]; rfl) (by simp only [go_sem,k0]) (by simp only [go_sem])
     ·have c2:¬ cmpR q 1<0:=by rw [hlt]; exact s1
      simp only [go_sem,c2]
      exact rest false _ (by rw [hsv,b1,b2,decide_eq_false s1]; rfl) (by simp only [go_sem,k0]) (by simp only [go_sem])
  ·have b1:decide (1≤L.length∧L.length≤10)=false:=decide_eq_false (by omega)
   refine Zaa (Y1a a1) (by simp only [go_sem]) ?_
   simp only [go_sem]
   exact rest false _ (by rw [b1]; rfl) (by simp only [go_sem,k0]) (by simp only [go_sem])
 have mid:∀ (x:Bool) (e:Nat→AV),x=(okB d && M.all okB)→e 0 = .sl ls→e 1 = .str (bs d)→e 7 = .bool x →
   T Tryz.prog 109 0 (.seq (.seq (.rg false Zo2) (.block 0 (.loop Zit))) (.seq (.seq (.rg false Zd6) (.cond (.t 70) (.seq (.rg false Zgi) .ret) .skip)) (.seq (.rg false Zgm) (.seq (.seq (.rg false Zdp) (.block 4 (.loop Zda))) (.seq (.seq (.rg false Zbq) (.cond (.t 108) (.seq (.rg false Zcg) .ret) .skip)) (.seq (.rg false Zcl) .ret)))))) ⟨e,[]⟩ (retQ [.tmp 6] (.int .i64 (chkC L d M))):=fun x e hx k0 k1 k7=>by
  refine Zax (Zax (T_W ?_))
  simp only [go_sem,Zo2]
  refine Zaz (Zar [(0,.sl ls),(1,.str (bs d)),(7,.bool x),(8,.int .i64 0)] (by simp only [go_sem,k0,k1,k7]) (Y7c hls hll hok (fun e k0 k1 k7=>?_)))
  show T Tryz.prog 109 0 (.seq (.seq (.rg false Zd6) (.cond (.t 70) (.seq (.rg false Zgi) .ret) .skip)) _) _ _
  rw [hx] at k7
  cases hv:(okB d && M.all okB && L.all ndVa) with
  | false =>
   have hc:chkC L d M=2:=by unfold chkC; rw [hv]; rfl
   rw [hc]
   rw [hv] at k7
   refine Za3 0 rfl ?_
   simp only [go_sem,Zd6,Zgi,k7]
  | true =>
   rw [hv] at k7
   simp only [Bool.and_eq_true] at hv
   refine Za3 0 rfl ?_
   simp only [go_sem,Zd6,k7]
   exact tail _ (by simp only [go_sem,k0]) (by simp only [go_sem,k1]) hv.1.1 hv.1.2 hv.2
 refine Za0 Yll (by simp) (Za3 1 rfl ?_)
 unfold Yea
 simp only [go_sem,Z3p,Z20]
 refine Zaa (rvalid' (by omega)) (by simp only [go_sem]) ?_
 cases hb:okB d with
 | false =>
  simp only [go_sem]
  exact mid false _ (by rw [hb]; rfl) (by simp only [go_sem]) (by simp only [go_sem]) (by simp only [go_sem])
 | true =>
  simp only [go_sem]
  refine Zaa hn (by simp only [go_sem]) ?_
  rw [hnE]
  cases hm:M.all okB with
  | false =>
   simp only [go_sem]
   exact mid false _ (by rw [hm]; simp) (by simp only [go_sem]) (by simp only [go_sem]) (by simp only [go_sem])
  | true =>
   simp only [go_sem]
   exact mid true _ (by rw [hb,hm]; rfl) (by simp only [go_sem]) (by simp only [go_sem]) (by simp only [go_sem])
end GoAbs
namespace GoAbs
open Go Go.Proofs
open Classical in
noncomputable def cntP {α:Type} (L:List α) (P:α→Prop):Nat:=L.countP (fun x=>decide (P x))
theorem Y0f {α:Type}{P Q:α→Prop}:∀ {L:List α},(∀ x,x∈L→P x→Q x)→cntP L P≤cntP L Q
 | [],_=>Nat.le_refl _
 | x::L,h=>by
  have ih:=Y0f (P:=P) (Q:=Q) (L:=L) (fun y hy=>h y (List.mem_cons_of_mem _ hy))
  have hx:=h x List.mem_cons_self
  unfold cntP at *
  rw [List.countP_cons,List.countP_cons]
  by_cases hp:P x
  ·simp only [hp,hx hp,decide_true,if_true]; omega
  ·by_cases hq:Q x <;> simp [hp,hq] <;> omega
theorem Y0g {α:Type}{P Q:α→Prop}:∀ {L:List α},(∀ x,x∈L→P x→Q x)→(∃ x,x∈L∧Q x∧¬ P x)→cntP L P<cntP L Q
 | [],_,h=>by obtain ⟨x,hx,_⟩:=h; simp at hx
 | x::L,h,⟨y,hy,hq,hp⟩=>by
  have hL:=fun y hy=>h y (List.mem_cons_of_mem x hy)
  have hx:=h x List.mem_cons_self
  rcases List.mem_cons.1 hy with rfl | hy
  ·have ih:=Y0f (P:=P) (Q:=Q) hL
   unfold cntP at *
   rw [List.countP_cons,List.countP_cons]
   simp [hp,hq]; omega
  ·have ih:=Y0g (P:=P) (Q:=Q) hL ⟨y,hy,hq,hp⟩
   unfold cntP at *
   rw [List.countP_cons,List.countP_cons]
   by_cases hp:P x
   ·simp only [hp,hx hp,decide_true,if_true]; omega
   ·by_cases hq:Q x <;> simp [hp,hq] <;> omega
def allP:List GN→List (List Int)
 | [] => [[]]
 | x::r=>(List.range x.to.length).flatMap fun (k:Nat)=>(allP r).map fun q=>(k:Int)::q
theorem Yri:∀ {ns:List GN}{p:List Int},p.length=ns.length→(∀ i,i<ns.length→0≤p.getD i 0∧p.getD i 0<((ns.getD i default).to.length:Int))→p∈allP ns
 | [],p,hl,_=>by
  cases p with
  | nil=>simp [allP]
  | cons a p=>simp at hl
 | x::r,p,hl,h=>by
  cases p with
  | nil=>simp at hl
  | cons a p =>
   have h0:=h 0 (by simp)
   have ht:=Yri (ns:=r) (p:=p) (by simpa using hl) (fun i hi=>by
    have:=h (i+1) (by simp; omega)
    simpa using this)
   simp at h0
   unfold allP
   rw [List.mem_flatMap]
   refine ⟨a.toNat,by rw [List.mem_range]; omega,?_⟩
   rw [List.mem_map]
   exact ⟨p,ht,by rw [Int.toNat_of_nonneg h0.1]⟩
theorem POk0.mem {g:Gm}{p:List Int}(h:POk0 g p):p∈allP g.nodes:=Yri h.1 h.2
theorem Y8m {a:Rat}{who:Nat}:cmpR a a≠sgn who:=by
 unfold cmpR sgn
 rw [if_neg (by grind),if_neg (by grind)]
 split <;> decide
theorem Yra {g:Gm}{v:List Rat}{who:Nat}{p:List Int}:betC g v who (betP g v who p)=false:=by
 unfold betC
 rw [List.any_eq_false]
 intro i hi
 have hi:i<g.nodes.length:=by simpa using hi
 have e:pget (betP g v who p) i=if bet1 g v who p i=true then bestA v (nodeAt g i).to (sgn who) else pget p i:=by
  unfold pget
  rw [Zn4 hi]
  unfold betI
  split <;> simp
 by_cases hb:bet1 g v who p i=true
 ·rw [if_pos hb] at e
  unfold bet1
  rw [e]
  simp [Y8m]
 ·rw [if_neg hb] at e
  have:bet1 g v who (betP g v who p) i=bet1 g v who p i:=by unfold bet1; rw [e]
  rw [this]
  exact hb
theorem Yya {g:Gm}(hd:g.d=0) {p:List Int}{v:List Rat}(h:PVal g p v) (hr:g.rew.length=g.nodes.length):v=g.rew:=by
 refine Z7s (by rw [h.1,hr]) (fun i hi=>?_)
 rw [h.2 i (by omega)]
 unfold planV
 rw [hd]; grind
open Classical in
noncomputable def mIn (g:Gm) (V:List Int→List Rat) (p:List Int):Nat :=
 2*cntP (allP g.nodes) (fun q=>Ltv g.nodes.length (V q) (V p))+(if betC g (V p) 2 p=true then 1 else 0)
theorem Xca {g:Gm}(hg:GmP g) (h:g.d≠0):0<g.d:=by have:=hg.d0; grind
theorem Xa2 {g:Gm}(hg:GmP g) {V:List Int→List Rat}(hV:∀ q,POk0 g q→PVal g q (V q)) {p:List Int}(hp:POk0 g p) (hc:betC g (V p) 2 p=true):mIn g V (betP g (V p) 2 p)<mIn g V p:=by
 have hq:=Yb2 hg (v:=V p) (who:=2) hp
 unfold mIn
 rw [if_pos hc]
 by_cases hd:g.d=0
 ·have e1:=Yya hd (hV p hp) hg.ok.rew
  have e2:=Yya hd (hV _ hq) hg.ok.rew
  have hi:=Yra (g:=g) (v:=V p) (who:=2) (p:=p)
  rw [e2,e1] at *
  rw [if_neg (by rw [hi]; decide)]
  omega
 ·have hl:=better2 hg hp (hV p hp) (Xca hg hd) hc (hV _ hq)
  have:=Y0g (L:=allP g.nodes) (P:=fun q=>Ltv g.nodes.length (V q) (V (betP g (V p) 2 p))) (Q:=fun q=>Ltv g.nodes.length (V q) (V p)) (fun q _ h=>h.trans hl) ⟨_,hq.mem,hl,fun h=>h.irrefl⟩
  split <;> omega
def Abv (g:Gm) (u:Option (List Rat)) (w:List Rat):Prop:=g.d=0∨match u with | none=>True | some u=>Ltv g.nodes.length u w
noncomputable def mOut (g:Gm) (V:List Int→List Rat) (s:Option (List Rat)×List Int):Nat :=
 2*cntP (allP g.nodes) (fun q=>Abv g s.1 (V q))+(if betC g g.rew 1 s.2=true then 1 else 0)
def OutI (g:Gm) (V:List Int→List Rat) (s:Option (List Rat)×List Int):Prop:=POk0 g s.2∧∀ q,POk0 g q→Same1 g q s.2→Abv g s.1 (V q)
theorem Ytv {g:Gm}{v:List Rat}{p q:List Int}(h:Same1 g p q):betC g v 1 p=betC g v 1 q:=by
 unfold betC
 rw [Bool.eq_iff_iff,List.any_eq_true,List.any_eq_true]
 have e:∀ i,i<g.nodes.length→bet1 g v 1 p i=bet1 g v 1 q i:=fun i hi=>by
  unfold bet1
  by_cases h1:(nodeAt g i).kind=1
  ·unfold pget; rw [h i hi h1]
  ·simp [h1]
 constructor
 ·rintro ⟨i,hi,hb⟩
  exact ⟨i,hi,by rw [← e i (by simpa using hi)]; exact hb⟩
 ·rintro ⟨i,hi,hb⟩
  exact ⟨i,hi,by rw [e i (by simpa using hi)]; exact hb⟩
theorem Y5o {g:Gm}(hg:GmP g) {V:List Int→List Rat}(hV:∀ q,POk0 g q→PVal g q (V q)) {s:Option (List Rat)×List Int}(hs:OutI g V s) {p:List Int}(hp:POk0 g p) (hsm:Same1 g p s.2) (h2:betC g (V p) 2 p=false) (h1:betC g (V p) 1 p=true) :
  OutI g V (some (V p),betP g (V p) 1 p)∧mOut g V (some (V p),betP g (V p) 1 p)<mOut g V s:=by
 have hq:=Yb2 hg (v:=V p) (who:=1) hp
 by_cases hd:g.d=0
 ·have e1:=Yya hd (hV p hp) hg.ok.rew
  refine ⟨⟨hq,fun q _ _ => .inl hd⟩,?_⟩
  have hi:=Yra (g:=g) (v:=V p) (who:=1) (p:=p)
  have hb:betC g g.rew 1 s.2=true:=by rw [← Ytv hsm, ← e1]; exact h1
  unfold mOut
  rw [if_pos hb]
  have hi':betC g g.rew 1 (betP g (V p) 1 p)=false:=by rw [← e1]; exact hi
  rw [show (some (V p),betP g (V p) 1 p).2=betP g (V p) 1 p from rfl,if_neg (by rw [hi']; decide)]
  have:=Y0f (L:=allP g.nodes) (P:=fun q=>Abv g (some (V p),betP g (V p) 1 p).1 (V q)) (Q:=fun q=>Abv g s.1 (V q)) (fun q _ _ => .inl hd)
  omega
 ·have hdp:=Xca hg hd
  refine ⟨⟨hq,fun q hq hs => .inr (better1 hg hp (hV p hp) hdp h2 h1 hq hs (hV q hq))⟩,?_⟩
  have ha:=hs.2 p hp hsm
  have:=Y0g (L:=allP g.nodes) (P:=fun q=>Abv g (some (V p),betP g (V p) 1 p).1 (V q)) (Q:=fun q=>Abv g s.1 (V q)) (fun q _ h=>by
    refine h.elim (fun h=>absurd h hd) (fun h=>?_)
    refine ha.elim (fun h=>absurd h hd) (fun ha => .inr ?_)
    cases hu:s.1 with
    | none=>trivial
    | some u=>rw [hu] at ha; exact Ltv.trans ha h) ⟨p,hp.mem,ha,fun h=>h.elim (fun h=>hd h) (fun h=>Ltv.irrefl h)⟩
  unfold mOut
  split <;> omega
end GoAbs
namespace GoAbs
open Go Go.Proofs
def Dom (m c k:Nat) (M:RM):Prop:=∀ i,c≤i→i<m→(∀ j,c≤j→j<m→j≠i→mget M i j≤0)∧0<sumL (List.range' (c+1) k) (fun j=>mget M i (j - 1))
theorem Yoa {R:List Nat}{f:Nat→Rat}(h:∀ i,i∈R→f i≤0):sumL R f≤0:=by
 have h1:=Ynx (R:=R) (f:=fun i => -1*f i) (fun i hi=>by have:=h i hi; grind)
 rw [Z9h] at h1
 grind
theorem Ys7 {R:List Nat}{f:Nat→Rat}{a:Nat}(hn:R.Nodup) (ha:a∈R) (h:∀ i,i∈R→i≠a→f i≤0):sumL R f≤f a:=by
 induction R with
 | nil=>simp at ha
 | cons b R ih =>
  rw [List.nodup_cons] at hn
  rw [Zay]
  rcases List.mem_cons.1 ha with rfl | ha'
  ·have:=Yoa (R:=R) (f:=f) (fun i hi=>h i (List.mem_cons_of_mem _ hi) (fun e=>hn.1 (e ▸ hi)))
   grind
  ·have h1:=ih hn.2 ha' (fun i hi=>h i (List.mem_cons_of_mem _ hi))
   have h2:=h b List.mem_cons_self (fun e=>hn.1 (e ▸ ha'))
   grind
theorem Dom.pos {m c k:Nat}{M:RM}(h:Dom m c k M) (hk:c+k=m) {i:Nat}(h1:c≤i) (h2:i<m):0<mget M i i:=by
 obtain ⟨a,b⟩:=h i h1 h2
 have:=Ys7 (R:=List.range' (c+1) k) (f:=fun j=>mget M i (j - 1)) (a:=i+1) List.nodup_range' (by rw [List.mem_range'_1]; omega) (fun j hj hne=>by
  have hj':=List.mem_range'_1.1 hj
  exact a (j - 1) (by omega) (by omega) (by omega))
 rw [Nat.add_sub_cancel] at this
 grind
theorem Xdc {a b:Rat}(ha:a≤0) (hb:0<b):a / b≤0:=by
 have h1:=Rat.inv_pos.2 hb
 have:=Rat.mul_nonneg (show 0 ≤ -a by grind) (Rat.le_of_lt h1)
 rw [Rat.div_def]
 grind
theorem Dom.elim {m c k:Nat}{M:RM}(h:Dom m c (k+1) M) (hk:c+(k+1)=m) (hM:M.length=m) (hW:Wid (m+1) M):Dom m (c+1) k (elimCol M c M.length):=fun i h1 h2=>by
 have hp:=h.pos hk (Nat.le_refl c) (by omega)
 have h0:mget M c c≠0:=fun e=>by rw [e] at hp; exact absurd hp (by decide)
 obtain ⟨a,b⟩:=h i (by omega) h2
 obtain ⟨a',b'⟩:=h c (Nat.le_refl _) (by omega)
 have hq:=Xdc (a c (Nat.le_refl _) (by omega) (by omega)) hp
 refine ⟨fun j hj hjm hji=>?_,?_⟩
 ·rw [Z01 hW (by omega) (by omega) (by omega) (by omega) h0]
  have x1:=a j (by omega) hjm hji
  have x2:=a' j (by omega) hjm (by omega)
  have x3:=Rat.mul_nonneg (show 0 ≤ -(mget M i c / mget M c c) by grind) (show 0 ≤ -mget M c j by grind)
  have x4:mget M i c*mget M c j / mget M c c=mget M i c / mget M c c*mget M c j:=by grind
  grind
 ·have e1:sumL (List.range' (c+1+1) k) (fun j=>mget (elimCol M c M.length) i (j - 1))=sumL (List.range' (c+1+1) k) (fun j=>mget M i (j - 1))+(-(mget M i c / mget M c c))*sumL (List.range' (c+1+1) k) (fun j=>mget M c (j - 1)):=by
   rw [← Z9h, ← Yge]
   refine Zev (fun j hj=>?_)
   have hj':=List.mem_range'_1.1 hj
   rw [Z01 hW (by omega) (by omega) (by omega) (by omega) h0]
   grind
  rw [e1]
  rw [List.range'_succ,Zay,Nat.add_sub_cancel] at b b'
  have x1:=Rat.mul_nonneg (show 0 ≤ -(mget M i c / mget M c c) by grind) (Rat.le_of_lt b')
  have x2:mget M i c / mget M c c*mget M c c=mget M i c:=by grind
  generalize sumL (List.range' (c+1+1) k) (fun j=>mget M i (j - 1))=s at *
  generalize sumL (List.range' (c+1+1) k) (fun j=>mget M c (j - 1))=t at *
  generalize mget M i c / mget M c c=q at *
  grind
theorem Yxh {m:Nat}:∀ {k c:Nat}{M:RM}{d:Rat},c+k=m→M.length=m→Wid (m+1) M→Dom m c k M →
  NoSw k c M∧(∀ i,c≤i→i<m→mget (tri k c M d).2 i i≠0)∧Wid (m+1) (tri k c M d).2 ∧
  ∀ x:Nat→Rat,(∀ i,c≤i→i<m→sumL (List.range' (i+1) (m - i)) (fun j=>x j*mget (tri k c M d).2 i (j - 1))=mget (tri k c M d).2 i m) →
   ∀ i,c≤i→i<m→sumL (List.range' (c+1) k) (fun j=>x j*mget M i (j - 1))=mget M i m
 | 0,c,M,d,hk,_,hW,_=>⟨trivial,fun i h1 h2=>by omega,hW,fun _ _ i h1 h2=>by omega⟩
 | k+1,c,M,d,hk,hM,hW,hD=>by
  have hp:=hD.pos hk (Nat.le_refl c) (by omega)
  have h0:mget M c c≠0:=fun e=>by rw [e] at hp; exact absurd hp (by decide)
  obtain ⟨i1,i2,i3,i4⟩:=Yxh (m:=m) (k:=k) (c:=c+1) (M:=elimCol M c M.length) (d:=d*mget M c c) (by omega) (by rw [Za8,hM]) hW.elim (hD.elim hk hM hW)
  unfold tri NoSw
  rw [if_neg h0]
  refine ⟨⟨fun h=>absurd h h0,fun _=>i1⟩,fun i h1 h2=>?_,i3,fun x hx=>?_⟩
  ·by_cases hi:i=c
   ·rw [hi,Ykj (by omega),Zhc (by omega)]; exact h0
   ·exact i2 i (by omega) h2
  ·have ih:=i4 x (fun i h1 h2=>hx i (by omega) h2)
   have hc:=hx c (by omega) (by omega)
   rw [show m - c=k+1 by omega,List.range'_succ,Zay,Ykj (by omega),Ykj (by omega),Zhc (by omega),Zhc (by omega)] at hc
   have hcs:sumL (List.range' (c+1+1) k) (fun j=>x j*mget (tri k (c+1) (elimCol M c M.length) (d*mget M c c)).2 c (j - 1))=sumL (List.range' (c+1+1) k) (fun j=>x j*mget M c (j - 1)) :=
    Zev (fun j _=>by rw [Ykj (by omega),Zhc (by omega)])
   rw [hcs] at hc
   intro i h1 h2
   rw [List.range'_succ,Zay]
   rw [Nat.add_sub_cancel] at hc ⊢
   by_cases hi:i=c
   ·rw [hi]; exact hc
   ·have hm:=ih i (by omega) h2
    have e1:sumL (List.range' (c+1+1) k) (fun j=>x j*mget (elimCol M c M.length) i (j - 1))=sumL (List.range' (c+1+1) k) (fun j=>x j*mget M i (j - 1))+(-(mget M i c / mget M c c))*sumL (List.range' (c+1+1) k) (fun j=>x j*mget M c (j - 1)):=by
     rw [← Z9h, ← Yge]
     refine Zev (fun j hj=>?_)
     have hj':=List.mem_range'_1.1 hj
     rw [Z01 hW (by omega) (by omega) (by omega) (by omega) h0]
     grind
    rw [e1,Z01 hW (by omega) (by omega) (by omega) (by omega) h0] at hm
    generalize sumL (List.range' (c+1+1) k) (fun j=>x j*mget M i (j - 1))=s at *
    generalize sumL (List.range' (c+1+1) k) (fun j=>x j*mget M c (j - 1))=t at *
    have ht:t=mget M c m - x (c+1)*mget M c c:=by grind
    rw [ht] at hm
    grind
def solvR (n:Nat) (M:RM) (r:List Rat):List Rat:=bsub (tri n 0 (aug M r) 1).2 n n
theorem Yjm {n:Nat}{M:RM}{r:List Rat}(hM:M.length=n) (hW:Wid n M) (hr:r.length=n) (hD:Dom n 0 n M) :
  NoSw n 0 (aug M r)∧(∀ i,i<n→rget ((tri n 0 (aug M r) 1).2.getD i []) i≠0)∧Wid (n+1) (tri n 0 (aug M r) 1).2 ∧
  (solvR n M r).length=n∧∀ i,i<n→sumL (List.range n) (fun j=>rget (solvR n M r) j*mget M i j)=rget r i:=by
 have hm:=fun i (hi:i<n)=>Y4k hM hW hr hi
 have hD':Dom n 0 n (aug M r):=fun i h1 h2=>by
  obtain ⟨a,b⟩:=hD i h1 h2
  refine ⟨fun j hj hjn hji=>by rw [(hm i h2).1 j hjn]; exact a j hj hjn hji,?_⟩
  rw [Zev (g:=fun j=>mget M i (j - 1)) (fun j hj=>by
   have hj':=List.mem_range'_1.1 hj
   exact (hm i h2).1 (j - 1) (by omega))]
  exact b
 obtain ⟨a1,a2,a3,a4⟩:=Yxh (m:=n) (k:=n) (c:=0) (M:=aug M r) (d:=1) (by omega) (by rw [Ybn (by omega),hM]) (Ym9 hW) hD'
 refine ⟨a1,fun i hi=>a2 i (by omega) hi,a3,Zv8 n,fun i hi=>?_⟩
 have h:=a4 (solX (tri n 0 (aug M r) 1).2 n) (fun i _ hi=>Y2q (n:=n) (fun i hi=>a2 i (by omega) hi) i hi) i (by omega) hi
 rw [(hm i hi).2] at h
 rw [← h,List.range'_eq_map_range,Yqk]
 refine Zev (fun j hj=>?_)
 have hj':=List.mem_range.1 hj
 rw [show 0+1+j=j+1 by omega,Yda,Nat.add_sub_cancel,(hm i hi).1 j hj']
 rfl
end GoAbs
namespace GoAbs
open Go Go.Proofs
def addOdds (d:Rat) (i:Nat) (odds:List Rat) (to:List Nat):Nat→RM→RM
 | 0,M=>M
 | k+1,M=>addAt (addOdds d i odds to k M) i (to.getD k 0) (-(d*rget odds k))
def nodeM (g:Gm) (p:List Int) (M:RM) (i:Nat):RM :=
 if (nodeAt g i).kind=3 then addOdds g.d i (nodeAt g i).odds (nodeAt g i).to (nodeAt g i).to.length (addAt M i i 1) else addAt (addAt M i i 1) i ((nodeAt g i).to.getD (pget p i) 0) (-g.d)
def planM (g:Gm) (p:List Int):Nat→RM
 | 0=>List.replicate g.nodes.length (List.replicate g.nodes.length 0)
 | i+1=>nodeM g p (planM g p i) i
structure Pm (n:Nat) (M:RM):Prop where
 len:M.length=n
 wid:Wid n M
 np:∀ i j,i≠j→mget M i j≤0
def rdot (n:Nat) (M:RM) (i:Nat) (v:List Rat):Rat:=sumL (List.range n) (fun j=>rget v j*mget M i j)
theorem Pm.add {n:Nat}{M:RM}(h:Pm n M) {i j:Nat}{x:Rat}(hi:i<n) (hj:j<n) (hx:i=j∨x≤0):Pm n (addAt M i j x):=by
 refine ⟨by rw [Zjd,h.len],h.wid.addAt,fun a b hab=>?_⟩
 rw [Yex h.wid (by rw [h.len]; exact hi) hj]
 have:=h.np a b hab
 split
 ·rename_i he
  rcases hx with e | hx
  ·exact absurd (he.1.trans (e.trans he.2.symm)) hab
  ·grind
 ·grind
theorem Yif {n:Nat}{M:RM}(h:Pm n M) {i j a:Nat}{x:Rat}{v:List Rat}(hi:i<n) (hj:j<n):rdot n (addAt M i j x) a v=rdot n M a v+if a=i then rget v j*x else 0:=by
 unfold rdot
 have e:∀ b,rget v b*mget (addAt M i j x) a b=rget v b*mget M a b+(if a=i then x else 0)*((if b=j then 1 else 0)*rget v b):=fun b=>by
  rw [Yex h.wid (by rw [h.len]; exact hi) hj]
  by_cases h1:a=i <;> by_cases h2:b=j <;> simp [h1,h2] <;> grind
 rw [Zev (fun b _=>e b),Yge,Z9h,Yxr List.nodup_range,if_pos (List.mem_range.2 hj)]
 split <;> grind
theorem Ye2 {n i:Nat}{d:Rat}{odds:List Rat}{to:List Nat}(d0:0≤d) (hi:i<n) (ho:∀ t,t<to.length→0≤rget odds t) (hto:∀ x,x∈to→x<n):∀ {k:Nat}{M:RM},k≤to.length→Pm n M →
  Pm n (addOdds d i odds to k M)∧∀ a v,rdot n (addOdds d i odds to k M) a v=rdot n M a v - if a=i then d*dotW odds v to k else 0
 | 0,M,_,h=>⟨h,fun a v=>by unfold addOdds dotW; split <;> grind⟩
 | k+1,M,hk,h=>by
  obtain ⟨h1,h2⟩:=Ye2 (n:=n) (i:=i) (d:=d) (odds:=odds) (to:=to) d0 hi ho hto (k:=k) (M:=M) (by omega) h
  have ht:=hto _ (Zc8 (to:=to) (k:=k) (by omega))
  have hx:=Rat.mul_nonneg d0 (ho k (by omega))
  unfold addOdds
  refine ⟨h1.add hi ht (.inr (by grind)),fun a v=>?_⟩
  rw [Yif h1 hi ht,h2]
  simp only [dotW]
  split <;> grind
theorem Y33 {g:Gm}(hg:GmP g) {p:List Int}(hp:POk g p) {M:RM}{i:Nat}(hi:i<g.nodes.length) (h:Pm g.nodes.length M) :
  Pm g.nodes.length (nodeM g p M i)∧∀ a v,rdot g.nodes.length (nodeM g p M i) a v=rdot g.nodes.length M a v+if a=i then rget v i - g.d*worthP (nodeAt g i) (pget p i) v else 0:=by
 have hx:=Zc5 hi
 have hok:=hg.ok.node _ hx
 have hlt:=hp.lt hi
 have hod:=hg.odds _ hx
 have d0:=hg.d0
 unfold nodeM
 generalize nodeAt g i=x at *
 have h1:=h.add (x:=1) hi hi (.inl rfl)
 have r1:=fun a v=>Yif (x:=1) (a:=a) (v:=v) h hi hi
 split
 ·rename_i h3
  have ho:=(hok.odds h3).1
  obtain ⟨a1,a2⟩:=Ye2 (n:=g.nodes.length) (i:=i) (d:=g.d) (odds:=x.odds) (to:=x.to) d0 hi (fun t ht=>(hod h3).1 _ (List.mem_of_getElem? (Zak (by omega)))) hok.lt (k:=x.to.length) (Nat.le_refl _) h1
  refine ⟨a1,fun a v=>?_⟩
  rw [a2,r1]
  unfold worthP
  rw [if_pos h3]
  split <;> grind
 ·rename_i h3
  have ht:=hok.lt _ (Zc8 (hlt h3))
  refine ⟨h1.add hi ht (.inr (by grind)),fun a v=>?_⟩
  rw [Yif h1 hi ht,r1]
  unfold worthP
  rw [if_neg h3]
  split <;> grind
theorem Ygh {g:Gm}(hg:GmP g) {p:List Int}(hp:POk g p):∀ {k:Nat},k≤g.nodes.length →
  Pm g.nodes.length (planM g p k)∧∀ a v,rdot g.nodes.length (planM g p k) a v=if a<k then rget v a - g.d*worthP (nodeAt g a) (pget p a) v else 0
 | 0,_=>by
  have h0:∀ i j,mget (List.replicate g.nodes.length (List.replicate g.nodes.length (0:Rat))) i j=0:=fun i j=>by
   unfold mget rget
   rw [List.getD_eq_getElem?_getD,List.getD_eq_getElem?_getD,List.getElem?_replicate]
   split
   ·rw [Option.getD_some,List.getElem?_replicate]; split <;> rfl
   ·simp
  unfold planM
  refine ⟨⟨List.length_replicate,fun r hr=>by rw [(List.mem_replicate.1 hr).2,List.length_replicate],fun i j _=>by rw [h0]; grind⟩,fun a v=>?_⟩
  unfold rdot
  rw [if_neg (by omega)]
  exact Yv1 (fun j _=>by rw [h0]; grind)
 | k+1,hk=>by
  obtain ⟨h1,h2⟩:=Ygh hg hp (k:=k) (by omega)
  obtain ⟨h3,h4⟩:=Y33 hg hp (M:=planM g p k) (i:=k) (by omega) h1
  unfold planM
  refine ⟨h3,fun a v=>?_⟩
  rw [h4,h2]
  by_cases ha:a=k
  ·rw [ha,if_neg (by omega),if_pos rfl,if_pos (by omega)]; grind
  ·rw [if_neg ha]
   by_cases hl:a<k
   ·rw [if_pos hl,if_pos (by omega)]; grind
   ·rw [if_neg hl,if_neg (by omega)]; grind
theorem Z9b {n j:Nat}{x:Rat}(h:j<n):rget (List.replicate n x) j=x:=by
 unfold rget
 rw [List.getD_eq_getElem?_getD,List.getElem?_replicate,if_pos h]; rfl
theorem Ypj {odds:List Rat}{to:List Nat}{n:Nat}:∀ {k:Nat},k≤to.length→(∀ x,x∈to→x<n)→dotW odds (List.replicate n 1) to k=sumO odds k
 | 0,_,_=>rfl
 | k+1,hk,h=>by
  simp only [dotW,sumO]
  rw [Ypj (by omega) h,Z9b (h _ (Zc8 (by omega)))]
  grind
theorem Yum {g:Gm}(hg:GmP g) {p:List Int}(hp:POk g p) {i:Nat}(hi:i<g.nodes.length):worthP (nodeAt g i) (pget p i) (List.replicate g.nodes.length 1)=1:=by
 have hx:=Zc5 hi
 have hok:=hg.ok.node _ hx
 have hlt:=hp.lt hi
 have hod:=hg.odds _ hx
 unfold worthP
 split
 ·rename_i h3
  rw [Ypj (Nat.le_refl _) hok.lt,(hod h3).2]
 ·rename_i h3
  exact Z9b (hok.lt _ (Zc8 (hlt h3)))
def valP (g:Gm) (p:List Int):List Rat:=solvR g.nodes.length (planM g p g.nodes.length) g.rew
theorem Yrf {g:Gm}(hg:GmP g) {p:List Int}(hp:POk g p):Dom g.nodes.length 0 g.nodes.length (planM g p g.nodes.length):=fun i _ hi=>by
 obtain ⟨h1,h2⟩:=Ygh hg hp (Nat.le_refl g.nodes.length)
 refine ⟨fun j _ _ hji=>h1.np i j (fun e=>hji e.symm),?_⟩
 have h3:=h2 i (List.replicate g.nodes.length 1)
 rw [if_pos hi,Yum hg hp hi,Z9b hi] at h3
 have e:sumL (List.range' (0+1) g.nodes.length) (fun j=>mget (planM g p g.nodes.length) i (j - 1))=rdot g.nodes.length (planM g p g.nodes.length) i (List.replicate g.nodes.length 1):=by
  unfold rdot
  rw [List.range'_eq_map_range,Yqk]
  refine Zev (fun j hj=>?_)
  rw [Z9b (List.mem_range.1 hj),show 0+1+j - 1=j by omega]
  grind
 rw [e,h3]
 have:=hg.d1
 grind
theorem Y31 {g:Gm}(hg:GmP g) {p:List Int}(hp:POk g p):PVal g p (valP g p):=by
 obtain ⟨h1,h2⟩:=Ygh hg hp (Nat.le_refl g.nodes.length)
 obtain ⟨_,_,_,h3,h4⟩:=Yjm h1.len h1.wid hg.ok.rew (Yrf hg hp)
 refine ⟨h3,fun i hi=>?_⟩
 have h5:=h4 i hi
 have h6:=h2 i (valP g p)
 rw [if_pos hi] at h6
 unfold planV
 unfold rdot at h6
 have e:rget g.rew i=rget (valP g p) i - g.d*worthP (nodeAt g i) (pget p i) (valP g p):=by rw [← h6, ← h5]; rfl
 rw [e]; grind
end GoAbs
namespace GoAbs
open Go Go.Proofs
def Zx8:List IOp := [oI 4 (.mv (.c .nils)) 0]
def Zlx:List IOp := [mI 13 0 0,oI 14 (.nilck (.t 13)) 0,fI 15 0 14 0,lI 16 15 0,oI 17 (.len (.t 16)) 0,mI 18 0 0,oI 19 (.nilck (.t 18)) 0,fI 20 0 19 0,lI 21 20 0,oI 22 (.len (.t 21)) 0,oI 23 (.callw 104 [.t 17,.t 22]) 0,mI 5 23 0]
@[go_sem ↓] theorem Z80 : autoK Zlx = (0, 0) := by kernel_rfl
@[go_sem] theorem Yun : autoK [mI 13 0 0, oI 14 (.nilck (.t 13)) 0, fI 15 0 14 0, lI 16 15 0, oI 17 (.len (.t 16)) 0, mI 18 0 0, oI 19 (.nilck (.t 18)) 0, fI 20 0 19 0, lI 21 20 0, oI 22 (.len (.t 21)) 0, oI 23 (.callw 104 [.t 17, .t 22]) 0, mI 5 23 0] = (0, 0) := Z80
def Zwz:List IOp := [mI 24 0 0,oI 25 (.nilck (.t 24)) 0,fI 26 0 25 0,lI 27 26 0,oI 28 (.len (.t 27)) 0,oI 29 (.mv (cI 0)) 0]
def Zlu:List IOp := [oI 30 (.bin .lss (.t 29) (.t 28)) 0]
def Zwv:List IOp := [mI 31 29 0,xI 32 1 27 29 0,lI 33 32 0,mI 6 31 0,mI 7 33 0]
def Zy5:List IOp := [mI 34 5 0,mI 35 6 0,mI 36 6 0,oI 37 (.call 49 [cI 1]) 0,oI 38 (.call 105 [.t 34,.t 35,.t 36,.t 37]) 0]
def Zya:List IOp := [mI 39 7 0]
def Zyj:List IOp := [oI 40 (.ta 129 true (.agg [.nils]) (.t 39)) 0,eI 41 1 40 0,eI 42 0 40 0]
def Zme:List IOp := [oI 8 (.alloc [.nils]) 0,⟨none,.st 1 (.t 8) (.t 42),1,[],[],none⟩]
def Zjz:List IOp := [mI 43 5 0,mI 44 6 0,fI 45 0 8 0,lI 46 45 0,mI 47 1 0,mI 48 6 0,xI 49 1 47 48 0,lI 50 49 0,xI 51 1 46 50 0,lI 52 51 0,mI 53 0 0,oI 54 (.nilck (.t 53)) 0,fI 55 2 54 0,lJ 56 4 55 0,oI 57 (.call 106 [.t 56]) 0,oI 58 (.callw 105 [.t 43,.t 44,.t 52,.t 57]) 0]
@[go_sem ↓] theorem Z5h : autoK Zjz = (0, 0) := by kernel_rfl
@[go_sem] theorem Ypp : autoK [mI 43 5 0, mI 44 6 0, fI 45 0 8 0, lI 46 45 0, mI 47 1 0, mI 48 6 0, xI 49 1 47 48 0, lI 50 49 0, xI 51 1 46 50 0, lI 52 51 0, mI 53 0 0, oI 54 (.nilck (.t 53)) 0, fI 55 2 54 0, lJ 56 4 55 0, oI 57 (.call 106 [.t 56]) 0, oI 58 (.callw 105 [.t 43, .t 44, .t 52, .t 57]) 0] = (0, 0) := Z5h
def Zj0:List IOp := [oI 59 (.ta 131 true (.agg [.nils]) (.t 39)) 0,eI 60 1 59 0,eI 61 0 59 0]
def Zsz:List IOp := [oI 9 (.alloc [.nils]) 0,⟨none,.st 1 (.t 9) (.t 61),1,[],[],none⟩]
def Zjv:List IOp := [mI 62 5 0,mI 63 6 0,fI 64 0 9 0,lI 65 64 0,mI 66 1 0,mI 67 6 0,xI 68 1 66 67 0,lI 69 68 0,xI 70 1 65 69 0,lI 71 70 0,mI 72 0 0,oI 73 (.nilck (.t 72)) 0,fI 74 2 73 0,lJ 75 4 74 0,oI 76 (.call 106 [.t 75]) 0,oI 77 (.callw 105 [.t 62,.t 63,.t 71,.t 76]) 0]
@[go_sem ↓] theorem Z4n : autoK Zjv = (0, 0) := by kernel_rfl
@[go_sem] theorem Yqe : autoK [mI 62 5 0, mI 63 6 0, fI 64 0 9 0, lI 65 64 0, mI 66 1 0, mI 67 6 0, xI 68 1 66 67 0, lI 69 68 0, xI 70 1 65 69 0, lI 71 70 0, mI 72 0 0, oI 73 (.nilck (.t 72)) 0, fI 74 2 73 0, lJ 75 4 74 0, oI 76 (.call 106 [.t 75]) 0, oI 77 (.callw 105 [.t 62, .t 63, .t 71, .t 76]) 0] = (0, 0) := Z4n
def Zus:List IOp := [oI 78 (.ta 140 true (.agg [.nils,.nils]) (.t 39)) 0,eI 79 1 78 0,eI 80 0 78 0]
def Zt3:List IOp := [oI 10 (.alloc [.nils,.nils]) 0,⟨none,.st 2 (.t 10) (.t 80),1,[],[],none⟩]
def Zs0:List IOp := [fI 81 0 10 0,lI 82 81 0,oI 83 (.len (.t 82)) 0,oI 84 (.mv (cI 0)) 0]
def Zj5:List IOp := [oI 85 (.bin .lss (.t 84) (.t 83)) 0]
def Zul:List IOp := [mI 86 84 0,xI 87 1 82 84 0,lI 88 87 0,mI 11 86 0,mI 12 88 0]
def Zji:List IOp := [mI 89 5 0,mI 90 6 0,mI 91 12 0,mI 92 0 0,oI 93 (.nilck (.t 92)) 0,fI 94 2 93 0,lJ 95 4 94 0,fI 96 1 10 0,lI 97 96 0,mI 98 11 0,xI 99 4 97 98 0,lJ 100 4 99 0,oI 101 (.call 84 [.t 95,.t 100]) 0,oI 102 (.call 106 [.t 101]) 0,oI 103 (.callw 105 [.t 89,.t 90,.t 91,.t 102]) 0]
@[go_sem ↓] theorem Z41 : autoK Zji = (0, 0) := by kernel_rfl
@[go_sem] theorem Yqj : autoK [mI 89 5 0, mI 90 6 0, mI 91 12 0, mI 92 0 0, oI 93 (.nilck (.t 92)) 0, fI 94 2 93 0, lJ 95 4 94 0, fI 96 1 10 0, lI 97 96 0, mI 98 11 0, xI 99 4 97 98 0, lJ 100 4 99 0, oI 101 (.call 84 [.t 95, .t 100]) 0, oI 102 (.call 106 [.t 101]) 0, oI 103 (.callw 105 [.t 89, .t 90, .t 91, .t 102]) 0] = (0, 0) := Z41
def Zs7:List IOp := [oI 104 (.bin .add (.t 84) (cI 1)) 0,mI 84 104 0]
def Zln:CC := .seq (.rg false Zj5) (.seq (.cond (.t 85) .skip (.exit 3)) (.seq (.block 4 (.seq (.rg false Zul) (.rg true Zji))) (.rg false Zs7)))
def Zb0:List IOp := [oI 105 (.bin .add (.t 29) (cI 1)) 0,mI 29 105 0]
def Zl2:CC := .seq (.rg false Zlu) (.seq (.cond (.t 30) .skip (.exit 0)) (.seq (.block 1 (.seq (.rg false Zwv) (.seq (.rg false Zy5) (.seq (.rg false Zya) (.block 2 (.seq (.rg false Zyj) (.cond (.t 41) (.seq (.rg false Zme) (.rg true Zjz)) (.seq (.rg false Zj0) (.cond (.t 60) (.seq (.rg false Zsz) (.rg true Zjv)) (.seq (.rg false Zus) (.cond (.t 79) (.seq (.rg false Zt3) (.seq (.rg false Zs0) (.block 3 (.loop Zln)))) .skip))))))))))) (.rg false Zb0)))
def Zj8:List IOp := [mI 106 5 0,mI 107 0 0,oI 108 (.nilck (.t 107)) 0,fI 109 1 108 0,lI 110 109 0,oI 111 (.call 107 [.t 106,.t 110]) 0,mI 4 111 0]
def Yar:CC := .seq (.rg false Zx8) (.seq (.rg true Zlx) (.seq (.seq (.rg false Zwz) (.block 0 (.loop Zl2))) (.seq (.rg false Zj8) .ret)))
abbrev Yk5:Nat:=71
theorem Yih:fnOk Tryz.prog 71=some (112,Yar,[.tmp 4]):=by kernel_rfl
def Zjp:List IOp := [mI 10 1 0,lI 11 3 0,mI 12 2 0,oI 13 (.call 76 [.t 10,.t 11,.t 12]) 0,mI 9 13 0]
def Zeo:List IOp := [lI 14 3 0,mI 15 1 0,mI 16 9 0,xI 17 1 15 16 0,lI 18 17 0,xI 19 4 14 18 0,lJ 20 4 19 0,lI 21 3 0,mI 22 1 0,lI 23 4 0,mI 24 0 0,xI 25 1 23 24 0,lI 26 25 0,xI 27 1 22 26 0,lI 28 27 0,xI 29 4 21 28 0,lJ 30 4 29 0,oI 31 (.call 69 [.t 20,.t 30]) 0,mI 32 2 0,oI 33 (.bin .eql (.t 31) (.t 32)) 0]
@[go_sem ↓] theorem Zug : autoK Zeo = (0, 0) := by kernel_rfl
@[go_sem] theorem Yiq : autoK [lI 14 3 0, mI 15 1 0, mI 16 9 0, xI 17 1 15 16 0, lI 18 17 0, xI 19 4 14 18 0, lJ 20 4 19 0, lI 21 3 0, mI 22 1 0, lI 23 4 0, mI 24 0 0, xI 25 1 23 24 0, lI 26 25 0, xI 27 1 22 26 0, lI 28 27 0, xI 29 4 21 28 0, lJ 30 4 29 0, oI 31 (.call 69 [.t 20, .t 30]) 0, mI 32 2 0, oI 33 (.bin .eql (.t 31) (.t 32)) 0] = (0, 0) := Zug
def Zke:List IOp := [lI 34 4 0,mI 35 0 0,mI 36 9 0,xI 37 1 34 35 0,⟨none,.st 1 (.t 37) (.t 36),0,[],[],none⟩,⟨none,.st 1 (.t 5) (.c (.bool true)),0,[],[],none⟩]
def Zql:CC := .seq (.rg false Zjp) (.seq (.rg true Zeo) (.cond (.t 33) (.rg false Zke) .skip))
abbrev Z4f:Nat:=130
theorem Z3a:fnOk Tryz.prog 130=some (38,Zql,[]):=by kernel_rfl
def Ztb:List IOp := [oI 5 (.box (.t 1)) 0,oI 6 (.box (.t 2)) 1,oI 8 (.mv (.c (.bool false))) 2]
def Zvr:List IOp := [oI 9 (.alloc [.bool false]) 0,⟨none,.st 1 (.t 9) (.c (.bool false)),1,[],[],none⟩]
def Zu4:List IOp := [oI 15 (.mkf 130 [] [.t 6,.t 5,.t 9]) 0,mI 10 15 0]
def Ztd:List IOp := [mI 16 0 0,oI 17 (.nilck (.t 16)) 0,fI 18 0 17 0,lI 19 18 0,oI 20 (.len (.t 19)) 0,oI 21 (.mv (cI 0)) 0]
def Zka:List IOp := [oI 22 (.bin .lss (.t 21) (.t 20)) 0]
def Zvp:List IOp := [mI 23 21 0,xI 24 1 19 21 0,lI 25 24 0,mI 11 23 0,mI 12 25 0]
def Zv1:List IOp := [mI 26 12 0]
def Zv0:List IOp := [oI 27 (.ta 129 true (.agg [.nils]) (.t 26)) 0,eI 28 1 27 0,eI 29 0 27 0]
def Zjn:List IOp := [oI 13 (.alloc [.nils]) 0,⟨none,.st 1 (.t 13) (.t 29),1,[],[],none⟩]
def Zhj:List IOp := [mI 30 3 0,oI 31 (.bin .eql (.t 30) (cI 1)) 0]
def Zqm:List IOp := [mI 32 10 0,mI 33 11 0,fI 34 0 13 0,lI 35 34 0,oI 36 (.callv (.t 32) [.t 33,.t 35,cI 1]) 0]
def Zef:List IOp := [oI 37 (.ta 131 true (.agg [.nils]) (.t 26)) 0,eI 38 1 37 0,eI 39 0 37 0]
def Zh4:List IOp := [oI 14 (.alloc [.nils]) 0,⟨none,.st 1 (.t 14) (.t 39),1,[],[],none⟩]
def Zhw:List IOp := [mI 40 3 0,oI 41 (.bin .eql (.t 40) (cI 2)) 0]
def Zqe:List IOp := [mI 42 10 0,mI 43 11 0,fI 44 0 14 0,lI 45 44 0,oI 46 (.callv (.t 42) [.t 43,.t 45,cI (-1)]) 0]
def Zbl:List IOp := [oI 47 (.bin .add (.t 21) (cI 1)) 0,mI 21 47 0]
def Zkc:CC := .seq (.rg false Zka) (.seq (.cond (.t 22) .skip (.exit 0)) (.seq (.block 1 (.seq (.rg false Zvp) (.seq (.rg false Zv1) (.block 2 (.seq (.rg false Zv0) (.cond (.t 28) (.seq (.rg false Zjn) (.seq (.rg false Zhj) (.cond (.t 31) (.rg false Zqm) .skip))) (.seq (.rg false Zef) (.cond (.t 38) (.seq (.rg false Zh4) (.seq (.rg false Zhw) (.cond (.t 41) (.rg false Zqe) .skip))) .skip)))))))) (.rg false Zbl)))
def Zhu:List IOp := [lI 48 9 0,mI 8 48 0]
def Z6h:CC := .seq (.rg false Ztb) (.seq (.rg false Zvr) (.seq (.rg false Zu4) (.seq (.seq (.rg false Ztd) (.block 0 (.loop Zkc))) (.seq (.rg false Zhu) .ret))))
abbrev Yim:Nat:=110
theorem Ydi:fnOk Tryz.prog 110=some (49,Z6h,[.tmp 8]):=by kernel_rfl
def Zxn:List IOp := [oI 2 (.mv (.c .nils)) 0]
def Zwu:List IOp := [mI 5 0 0,oI 6 (.nilck (.t 5)) 0,fI 7 0 6 0,lI 8 7 0,oI 9 (.len (.t 8)) 0,oI 10 (.mks none 8 [.int .i64 0] (.t 9) (.t 9)) 0,mI 3 10 1]
def Zx1:List IOp := [mI 11 0 0,mI 12 3 0,oI 13 (.call 71 [.t 11,.t 12]) 0,mI 4 13 0]
def Zyw:List IOp := [mI 14 0 0,mI 15 3 0,mI 16 4 0,oI 17 (.call 110 [.t 14,.t 15,.t 16,cI 2]) 0]
def Zx4:List IOp := [mI 18 0 0,mI 19 3 0,oI 20 (.call 71 [.t 18,.t 19]) 0,mI 4 20 0]
def Zlj:CC := .seq (.seq (.rg false Zyw) (.cond (.t 17) .skip (.exit 2))) (.block 3 (.rg false Zx4))
def Zmk:List IOp := [mI 21 0 0,mI 22 3 0,mI 23 4 0,oI 24 (.call 110 [.t 21,.t 22,.t 23,cI 1]) 0,oI 25 (.un .not (.t 24)) 0]
def Zma:List IOp := [mI 26 4 0,mI 2 26 0]
def Zxg:CC := .block 1 (.seq (.rg false Zx1) (.seq (.block 2 (.loop Zlj)) (.seq (.rg false Zmk) (.cond (.t 25) (.seq (.rg false Zma) .ret) .skip))))
def Yb5:CC := .seq (.rg false Zxn) (.seq (.rg false Zwu) (.block 0 (.loop Zxg)))
abbrev Yjq:Nat:=75
theorem Ygm:fnOk Tryz.prog 75=some (27,Yb5,[.tmp 2]):=by kernel_rfl
def Zle:List IOp := [oI 4 (.mv (.c .nils)) 0,oI 5 (.mv (cI 0)) 0]
def Zmc:List IOp := [mI 9 0 0,mI 10 1 0,oI 11 (.call 48 [.t 9,.t 10]) 0,mI 8 11 0,eI 12 0 8 0,eI 13 1 8 0,mI 6 12 0,mI 7 13 0]
def Zls:List IOp := [mI 14 7 0,oI 15 (.bin .neq (.t 14) (cI 0)) 0]
def Zyz:List IOp := [mI 16 7 0,oI 4 (.mv (.c .nils)) 0,mI 5 16 0]
def Zw0:List IOp := [mI 17 6 0,oI 18 (.call 75 [.t 17]) 0,oI 19 (.call 51 [.t 18]) 0,eI 20 0 19 0,eI 21 1 19 0,mI 4 20 0,mI 5 21 0]
def Zz4:CC := .seq (.rg false Zle) (.seq (.rg false Zmc) (.seq (.seq (.rg false Zls) (.cond (.t 15) (.seq (.rg false Zyz) .ret) .skip)) (.seq (.rg false Zw0) .ret)))
abbrev Yjz:Nat:=43
theorem Z3k:fnOk Tryz.prog 43=some (22,Zz4,[.tmp 4,.tmp 5]):=by kernel_rfl
end GoAbs
namespace GoAbs
open Go Go.Proofs
set_option maxHeartbeats 8000000
theorem Ybj {n i k:Nat}{d:Rat}{odds:List Rat}{to:List Nat}(hd:Qb 40 d) (ho:∀ t,t<to.length→Qb 40 (rget odds t)) (hk:1≤k):∀ {t:Nat}{M:RM},t≤to.length→M.length=n→Wid n M→Mb k M →
  (addOdds d i odds to t M).length=n∧Wid n (addOdds d i odds to t M)∧Mb (k+81*t) (addOdds d i odds to t M)
 | 0,M,_,hl,hw,h=>⟨hl,hw,h⟩
 | t+1,M,ht,hl,hw,h=>by
  obtain ⟨h1,h2,h3⟩:=Ybj (i:=i) (odds:=odds) (to:=to) hd ho hk (t:=t) (M:=M) (by omega) hl hw h
  unfold addOdds
  refine ⟨by rw [Zjd,h1],h2.addAt,fun r hr=>(h3.addAt (l:=80) ((hd.mul2 (ho t (by omega))).neg) (by omega) r hr).mono (by omega)⟩
theorem Z4t {g:Gm}(hg:GmOk g) {p:List Int}:∀ {k:Nat},k≤g.nodes.length→(planM g p k).length=g.nodes.length∧Wid g.nodes.length (planM g p k)∧Mb (1+600*k) (planM g p k)
 | 0,_=>by
  unfold planM
  refine ⟨List.length_replicate,fun r hr=>by rw [(List.mem_replicate.1 hr).2,List.length_replicate],fun r hr x hx=>?_⟩
  rw [(List.mem_replicate.1 hr).2] at hx
  rw [(List.mem_replicate.1 hx).2]
  exact Qb.zero (by omega)
 | k+1,hk=>by
  obtain ⟨h1,h2,h3⟩:=Z4t hg (p:=p) (k:=k) (by omega)
  have hx:=Zc5 (g:=g) (i:=k) (by omega)
  have hok:=hg.node _ hx
  unfold planM nodeM
  generalize nodeAt g k=x at *
  have a1:Mb (1+600*k+1+1) (addAt (planM g p k) k k 1):=h3.addAt (Qb.one (by omega)) (by omega)
  have a2:(addAt (planM g p k) k k 1).length=g.nodes.length:=by rw [Zjd,h1]
  have a3:Wid g.nodes.length (addAt (planM g p k) k k 1):=h2.addAt
  split
  ·rename_i h3
   obtain ⟨ho,hb⟩:=hok.odds h3
   obtain ⟨b1,b2,b3⟩:=Ybj (i:=k) (odds:=x.odds) (to:=x.to) hg.db (fun t ht=>hb.get (by omega)) (by omega) (Nat.le_refl _) a2 a3 a1
   have:=hok.len
   exact ⟨b1,b2,fun r hr=>(b3 r hr).mono (by omega)⟩
  ·exact ⟨by rw [Zjd,a2],a3.addAt,fun r hr=>(a1.addAt (l:=40) hg.db.neg (by omega) r hr).mono (by omega)⟩
theorem Xeh {pre:Heap}{o n0 n i k:Nat}{gc:List AV}{pl:AV}{s27:AV}{d:Rat}{odds:List Rat}{to:List Nat}{M:RM}{b1:Blk}(hpre:pre.length=o) (hclo:∀ m,Clo m pre) (hn0:n0≤o) (hol:o≤1) (hpl:∀ m,o+1≤m→pl.gc (pos (List.range m))=pl) (hs27:∀ f,s27.gc f=s27)
  (hgd:gc.drop 2=qcell d) (hgg:∀ f,gcL f gc=gc) (hb1:∀ f,b1.gc f=b1) (hd:Qb 40 d) (ho:odds.length=to.length) (hob:Rb 40 odds) (hto:∀ x,x∈to→x<n) (htl:to.length≤6) (hn:n≤100) (hi:i<n)
  (hM:M.length=n) (hW:Wid n M) (hB:Mb k M) (hk1:1≤k) (hk:k≤1000000) {K:Ex→St→Prop}
  (hK:∀ e:Nat→AV,e 0 = .rp gc→e 1=pl→e 5 = .osl none o 0 n→e 27=s27→e 28 = .int .i64 (n:Int)→e 29 = .int .i64 (i:Int)→K (.exit 3) ⟨e,pre++(matH o n (addOdds d i odds to to.length M) ++ [b1,.cells [.sl (ivs (nv to)),.sl (condsR odds)]])⟩) :
  T Tryz.prog 112 n0 (.loop Zln) ⟨envL [(0,.rp gc),(1,pl),(5,.osl none o 0 n),(6,.int .i64 (i:Int)),(10,.ptr (o+(1+2*n)+1) 0),(27,s27),(28,.int .i64 (n:Int)),(29,.int .i64 (i:Int)),(82,.sl (ivs (nv to))),(83,.int .i64 (to.length:Int)),(84,.int .i64 0)],
   pre++(matH o n M ++ [b1,.cells [.sl (ivs (nv to)),.sl (condsR odds)]])⟩ K:=by
 have hmx:Tryz.prog.follows .mixedOrders=true:=by kernel_rfl
 refine Zaf (fun t:Nat=>⟨envL [(0,.rp gc),(1,pl),(5,.osl none o 0 n),(6,.int .i64 (i:Int)),(10,.ptr (o+(1+2*n)+1) 0),(27,s27),(28,.int .i64 (n:Int)),(29,.int .i64 (i:Int)),(82,.sl (ivs (nv to))),(83,.int .i64 (to.length:Int)),(84,.int .i64 (t:Int))],
   pre++(matH o n (addOdds d i odds to t M) ++ [b1,.cells [.sl (ivs (nv to)),.sl (condsR odds)]])⟩)
  (fun t=>t≤to.length) (fun t=>to.length - t) 0 (by omega) (Zab _ (by simp only [go_sem]; simp)) (fun t ht N hN=>?_)
 unfold Zln
 by_cases htn:t<to.length
 ·obtain ⟨w1,w2,w3⟩:=Ybj (i:=i) (odds:=odds) (to:=to) hd (fun t ht=>hob.get (by omega)) hk1 (t:=t) ht hM hW hB
  have hnx:addOdds d i odds to (t+1) M=addAt (addOdds d i odds to t M) i (to.getD t 0) (-(d*rget odds t)):=rfl
  generalize addOdds d i odds to t M=S at *
  have gi:=Zb6 htn
  have mi:=hto _ (List.mem_of_getElem? gi)
  have go:odds[t]? = some (rget odds t):=Zak (by omega)
  have bo:=hob.get (j:=t) (by omega)
  generalize to.getD t 0=x at *
  generalize rget odds t=w at *
  have mu:=Ys6 (k:=40) hd bo (by omega)
  have bx:Qb 80 (-(d*w)):=(hd.mul2 bo).neg
  have q0:(0:Int)≤(t:Int):=by omega
  have q1:(t:Int)<(to.length:Int):=by omega
  have e1:IntKind.i64.wrap ((t:Int)+1)=((t+1:Nat):Int):=by rw [Zac (by omega) (by omega)]; omega
  have ql:∀ q:Rat,(qcell q).length=4:=fun q=>rfl
  have qt:∀ q:Rat,(qcell q).take 4=qcell q:=fun q=>rfl
  have qd:∀ q:Rat,(qcell q).drop 4 = []:=fun q=>rfl
  have gP:∀ (S':RM) (post':Heap) (t':Nat),S'.length=n→(pre++(matH o n S'++post'))[o+(1+2*n)+t']? = post'[t']?:=fun S' post' t' h=>Z9k hpre h
  have gL:∀ (S':RM) (post':Heap),S'.length=n→(pre++(matH o n S'++post')).length=o+(1+2*n)+post'.length:=fun S' post' h=>by rw [List.length_append,List.length_append,Zbo,h,hpre]; omega
  have l0:o+(1+2*n)+1<o+(1+2*n)+2:=by omega
  have ma:=Ynn (post := [b1,.cells [.sl (ivs (nv to)),.sl (condsR odds)]]) (i:=i) (j:=x) (x := -(d*w)) (k:=k+1000) hpre w2 (by omega) mi (by omega) (by omega) (fun r hr=>(w3 r hr).mono (by omega)) (bx.mono (by omega)) (by omega)
  rw [w1] at ma
  simp only [go_sem,Zj5,Zul,Zji,q0,q1,Zcx,Zmu,Zcj,ho,Zqc gi,Za7 go,hgd,gP _ _ _ w1,gL _ _ w1,l0,ql,qt,qd,hmx,List.length_cons,List.length_nil]
  refine Zaa mu (by simp only [go_sem,Zas,Zah]) ?_
  simp only [go_sem,Zas]
  refine Zaa (Ytp _) (by simp only [go_sem,Zas,Zah]) ?_
  simp only [go_sem,Zas]
  refine Zew ma ?_
  simp only [go_sem,Zs7,e1,List.cons_append,List.nil_append]
  rw [← hnx]
  have w4:(addOdds d i odds to (t+1) M).length=n:=by rw [hnx,Zjd,w1]
  have hsplit:∀ Y:Blk,pre++(matH o n (addOdds d i odds to (t+1) M) ++ [b1,.cells [.sl (ivs (nv to)),.sl (condsR odds)],Y])=(pre++(matH o n (addOdds d i odds to (t+1) M) ++ [b1,.cells [.sl (ivs (nv to)),.sl (condsR odds)]])) ++ [Y]:=fun Y=>by simp
  rw [hsplit]
  have cv:∀ f,AV.gc f (.sl (ivs (nv to))) = .sl (ivs (nv to)):=fun f=>rfl
  refine hN (t+1) _ (by omega) (by omega) (Zf6 (m:=o+(1+2*n)+2) (gL _ _ w4) ((hclo _).append ((Ygp (by rw [w4]; omega)).append ?_)) (by omega)
   [(0,.rp gc),(1,pl),(5,.osl none o 0 n),(6,.int .i64 (i:Int)),(10,.ptr (o+(1+2*n)+1) 0),(27,s27),(28,.int .i64 (n:Int)),(29,.int .i64 (i:Int)),(82,.sl (ivs (nv to))),(83,.int .i64 (to.length:Int)),(84,.int .i64 ((t+1:Nat):Int))] (by simp only [go_sem]) ?_)
  ·unfold Clo
   show [b1.gc _,.cells [_,_]]=_
   rw [hb1]; rfl
  ·have p1:pos (List.range (o+(1+2*n)+2)) o=some o:=Zbj (by omega)
   have p2:pos (List.range (o+(1+2*n)+2)) (o+(1+2*n)+1)=some (o+(1+2*n)+1):=Zbj (by omega)
   have p3:=hpl (o+(1+2*n)+2) (by omega)
   simp [AV.gc,p1,p2,p3,hs27]
 ·have hte:t=to.length:=by omega
  subst hte
  have q1:¬ ((to.length:Nat):Int)<(to.length:Int):=by omega
  simp only [go_sem,Zj5,q1]
  exact hK _ (by simp only [go_sem]) (by simp only [go_sem]) (by simp only [go_sem]) (by simp only [go_sem]) (by simp only [go_sem]) (by simp only [go_sem])
end GoAbs
