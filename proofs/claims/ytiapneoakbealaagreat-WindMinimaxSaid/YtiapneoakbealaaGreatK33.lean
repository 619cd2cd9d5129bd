/- Lemmas for the claim (contracts of the functions that it reaches, and what they compute), without conditions. -/
import Derived.Test.YtiapneoakbealaaGreatK32
import Derived.Test.YtiapneoakbealaaGreatProg
import Derived.KernelRfl
set_option linter.unusedVariables false
set_option linter.unusedSimpArgs false
set_option maxRecDepth 10000
set_option maxHeartbeats 2000000
namespace GoAbs
open Go Go.Proofs
set_option maxHeartbeats 8000000
theorem Xf8 {nd:Nd}:∀ y,y∈gN nd→∀ f,y.gc f=y:=fun y hy f=>by
 unfold gN at hy
 split at hy
 ·simp at hy; subst hy; rfl
 ·split at hy
  ·simp at hy; subst hy; rfl
  ·split at hy
   ·simp at hy; subst hy; rfl
   ·simp at hy
theorem Y88 {ls A R ms:List AV}{d:ByteArray}{i n k:Nat}{nd:Nd}{va fi:Bool}{e:Nat→AV}{Q:Ex→St→Prop}(hal:A.length≤1000000) (hl:∀ m,m∈nd.mv→m.2.length≤23) (hml:nd.mv.length≤7)
  (he:Has e (rdE ls d i 7 nd.mv.length 8 (oddsT nd.mv).length ms k)) (hA:∀ f,gcL f A=A) (hR:∀ f,gcL f R=R)
  (hQ:∀ st',Le 212 0 st' ⟨envL (rdF ls d i),[.cells (.osl none 3 0 (A++gN nd).length :: .osl (some 4) 4 0 n::z4'),.cells [.bool va],.cells [.bool (fi && decide (1≤nd.mv.length∧nd.mv.length≤6) && kindF nd)],.cells (A++gN nd),.cells R]⟩→Q .normal st') :
  T Tryz.prog 212 0 rdTail ⟨e,[.cells (.osl none 3 0 A.length :: .osl (some 4) 4 0 n::z4'),.cells [.bool va],.cells [.bool fi],.cells A,.cells R,.cells [.int .i64 nd.kind,.str (bs nd.rew),.sl ms],
     .cells (qcell (sumM nd.mv)),.cells (ivs (tosI nd.mv)),.cells (oddsT nd.mv).flatten]⟩ Q:=by
 have hm:Tryz.prog.follows .mixedOrders=true:=by kernel_rfl
 refine Zbc (rd25 (fi:=fi) (bT:=7) (m:=nd.mv.length) he.2.2.2.2.1 he.2.2.2.2.2.2.2.1 rfl (fun e2 h2=>?_))
 have he2:=Z5t h2 he rfl
 clear h2 he
 obtain ⟨k0,k1,k6,k7,k8,k9,k11,k12,k13,k14,k31,k32,k33,k52,k53,k54,_⟩:=he2
 have hfl:(fi && decide (1≤nd.mv.length∧nd.mv.length≤6) && kindF nd)=((fi && decide (1≤nd.mv.length∧nd.mv.length≤6)) && kindF nd):=rfl
 rw [hfl] at hQ
 generalize (fi && decide (1≤nd.mv.length∧nd.mv.length≤6))=fi' at *
 refine Zbg 0 rfl ?_
 simp only [go_sem,Zmo,k11]
 refine Za8 ?_
 have s1:(A.length+1)*16≤1099511627776:=by omega
 have l1:A.length*1≤A.length:=by omega
 have l2:A.take (A.length*1)=A:=List.take_of_length_le (by omega)
 have l3:A.take A.length=A:=List.take_length
 have hl4:∀ c,c∈oddsT nd.mv→c.length=4:=fun c hc=>(Ya3 hl hc).1
 have hbq:∀ H ids,∀ c,c∈oddsT nd.mv→BVs H ids c c:=fun H ids c hc=>by rw [(Ya3 hl hc).2.2 H ids]; trivial
 refine Zbg 0 rfl ?_
 by_cases h1:nd.kind=1
 ·have hgN:gN nd = [.ifc 129 (.agg [.sl (ivs (tosI nd.mv))])]:=by unfold gN; rw [if_pos h1]
  have hkF:kindF nd=true:=by simp [kindF,h1]
  have hk1:(1:Int)=1:=rfl
  rw [hkF,Bool.and_true,hgN] at hQ
  simp only [go_sem,Zcr,h1]
  refine T_W ?_
  simp only [go_sem,Zmy,k6,k12,s1,l1,l2,l3,Nat.le_refl,Nat.mul_one]
  exact hQ _ (Y1m (ids := [7]) (by simp only [go_sem,k0,k1,k6,k7,k8,k9,k11,k12,k13,k14,k31,k32,k33,k52,k53,k54]) (.inl rfl) hA hR (fun f=>rfl) (by simp only [go_sem]; exact Yy3 rfl (by simp)))
 ·by_cases h2:nd.kind=2
  ·have hgN:gN nd = [.ifc 131 (.agg [.sl (ivs (tosI nd.mv))])]:=by unfold gN; rw [if_neg h1,if_pos h2]
   have hkF:kindF nd=true:=by simp [kindF,h2]
   have n21:¬ (2:Int)=1:=by decide
   rw [hkF,Bool.and_true,hgN] at hQ
   simp only [go_sem,Zcr,Zd3,h2,n21]
   refine T_W ?_
   simp only [go_sem,Zmx,k6,k12,s1,l1,l2,l3,Nat.le_refl,Nat.mul_one]
   exact hQ _ (Y1m (ids := [7]) (by simp only [go_sem,k0,k1,k6,k7,k8,k9,k11,k12,k13,k14,k31,k32,k33,k52,k53,k54]) (.inl rfl) hA hR (fun f=>rfl) (by simp only [go_sem]; exact Yy3 rfl (by simp)))
  ·by_cases h3:nd.kind=3
   ·have hgN:gN nd = [.ifc 140 (.agg [.sl (ivs (tosI nd.mv)),.sl ((oddsT nd.mv).map .agg)])]:=by unfold gN; rw [if_neg h1,if_neg h2,if_pos h3]
    have hkF:kindF nd=decide (sumM nd.mv=1):=by simp [kindF,h3]
    have n31:¬ (3:Int)=1:=by decide
    have n32:¬ (3:Int)=2:=by decide
    rw [hkF,hgN] at hQ
    have sb:=Yj1 hl
    have hc:=Y3q (k:=1+78*8) (sb.mono (by omega)) (Qb.one (k:=1+78*8) (by omega)) (by omega)
    have ql:∀ q,(qcell q).length=4:=fun q=>rfl
    have qt:∀ q,(qcell q).take 4=qcell q:=fun q=>rfl
    have qd:∀ q,(qcell q).drop 4 = []:=fun q=>rfl
    have hc0:(cmpR (sumM nd.mv) 1=0)=(sumM nd.mv=1):=propext (by unfold cmpR; constructor <;> intro h <;> grind)
    simp only [go_sem,Zcr,Zd3,Zdw,h3,n31,n32]
    refine T_W ?_
    have fin:∀ (b:Bool) (e3:Nat→AV),b=(fi' && decide (sumM nd.mv=1))→Has e3 (rdF ls d i)→Q .normal ⟨e3,[.cells (.osl none 10 0 (A.length+1) :: .osl (some 4) 4 0 n::z4'),.cells [.bool va],.cells [.bool b],.dead,.cells R,.cells [.int .i64 3,.str (bs nd.rew),.sl ms],.cells (qcell (sumM nd.mv)),
      .cells (ivs (tosI nd.mv)),.cells (oddsT nd.mv).flatten,.cells [.ifc 140 (.agg [.osl none 7 0 nd.mv.length,.osl (some 4) 8 0 (oddsT nd.mv).length])],.cells (A ++ [.ifc 140 (.agg [.osl none 7 0 nd.mv.length,.osl (some 4) 8 0 (oddsT nd.mv).length])])]⟩:=fun b e3 hb he3=>by
     subst hb
     refine hQ _ (Y1m (ids := [7,8]) he3 (.inr rfl) hA hR (fun f=>rfl) ?_)
     simp only [go_sem]
     exact ⟨Yy3 rfl (by simp),Z6f rfl (by simp) rfl hl4 (hbq _ _)⟩
    cases fi' with
    | false =>
     simp only [go_sem,Zee,Zef,k6,k8,k12,k13,k14,s1,l1,l2,l3,Nat.le_refl,Nat.mul_one,hm]
     exact fin _ _ rfl (by simp only [go_sem,k0,k1,k6,k7,k8,k9,k11,k12,k13,k14,k31,k32,k33,k52,k53,k54])
    | true =>
     simp only [go_sem,Zee,k8,k14,ql,qt,qd,hm]
     refine Zaa Y3u (by simp only [go_sem]) ?_
     simp only [go_sem,Zaw,ql,qt,qd,k8,k14]
     refine Zaa hc (by simp only [go_sem,Zaw,Zah]) ?_
     by_cases hs1:sumM nd.mv=1
     ·have hc1:cmpR (sumM nd.mv) 1=0:=by rw [hc0]; exact hs1
      simp only [go_sem,hc1,Zef,k6,k8,k12,k13,k14,s1,l1,l2,l3,Nat.le_refl,Nat.mul_one,hm]
      exact fin _ _ (by simp [hs1]) (by simp only [go_sem,k0,k1,k6,k7,k8,k9,k11,k12,k13,k14,k31,k32,k33,k52,k53,k54])
     ·have hc1:¬ cmpR (sumM nd.mv) 1=0:=by rw [hc0]; exact hs1
      simp only [go_sem,hc1,Zef,k6,k8,k12,k13,k14,s1,l1,l2,l3,Nat.le_refl,Nat.mul_one,hm]
      exact fin _ _ (by simp [hs1]) (by simp only [go_sem,k0,k1,k6,k7,k8,k9,k11,k12,k13,k14,k31,k32,k33,k52,k53,k54])
   ·have hgN:gN nd = []:=by unfold gN; rw [if_neg h1,if_neg h2,if_neg h3]
    have hkF:kindF nd=false:=by simp [kindF,h1,h2,h3]
    rw [hkF,Bool.and_false,hgN,List.append_nil] at hQ
    simp only [go_sem,Zcr,Zd3,Zdw,h1,h2,h3]
    refine T_W ?_
    simp only [go_sem,Zdw,Zm0,h2,h3,k8]
    refine hQ _ (Zhp (Zab (rdF ls d i) ?_) (Zbz (Zgb [0,1,2,3,4] (by decide) (fun i hi=>by omega) (rdF ls d i) (by simp only [go_sem])) ?_))
    ·simp only [go_sem,k0,k1,k6,k7,k8,k9,k11,k12,k13,k14,k31,k32,k33,k52,k53,k54]
    show St.mk _ [.cells (.osl none 3 0 A.length :: .osl (some 4) 4 0 n::z4'),.cells [.bool va],.cells [.bool _],.cells (gcL _ A),.cells (gcL _ R)]=_
    rw [hA,hR]
    rfl
end GoAbs
namespace GoAbs
open Go Go.Proofs
set_option maxHeartbeats 8000000
noncomputable def rowT (L:List Nd):List (List AV):=L.map fun n=>tc n.rew
noncomputable def nodesT (L:List Nd):List AV:=L.flatMap gN
theorem Yuu (L:List Nd):(nodesT L).length≤L.length:=by
 induction L with
 | nil=>simp [nodesT]
 | cons n L ih =>
  have:(gN n).length≤1:=by unfold gN; split; simp; split; simp; split <;> simp
  unfold nodesT at *
  rw [List.flatMap_cons,List.length_append,List.length_cons]; omega
theorem Yb1 {L:List Nd}(f:Nat→Option Nat):gcL f (nodesT L)=nodesT L:=by
 induction L with
 | nil=>rfl
 | cons n L ih =>
  unfold nodesT at *
  rw [List.flatMap_cons,Z45,ih]
  congr 1
  rw [Zax]
  conv=>rhs; rw [← List.map_id (gN n)]
  exact List.map_congr_left fun y hy=>Xf8 y hy f
theorem Xgn {L:List Nd}{d:ByteArray}{f0:Bool}(hL:L.length≤1000) (hok:∀ n,n∈L→n.rew.length≤23∧n.mv.length≤7∧∀ m,m∈n.mv→m.2.length≤23) {K:Ex→St→Prop}
  (hK:∀ e,Has e (rdF (L.map ndAV) d L.length)→K (.exit 0) ⟨e,[.cells (.osl none 3 0 (nodesT L).length :: .osl (some 4) 4 0 L.length::z4'),.cells [.bool (L.all ndVa)],.cells [.bool (f0 && L.all (ndFi L.length))],.cells (nodesT L),.cells (rowT L).flatten]⟩) :
  T Tryz.prog 212 0 (.loop Zjt) ⟨envL (rdF (L.map ndAV) d 0),[.cells (.osl none 3 0 0 :: .osl (some 4) 4 0 0::z4'),.cells [.bool true],.cells [.bool f0],.cells [],.cells []]⟩ K:=by
 refine Zny (fun i:Nat=>⟨envL (rdF (L.map ndAV) d i),[.cells (.osl none 3 0 (nodesT (L.take i)).length :: .osl (some 4) 4 0 i::z4'),.cells [.bool ((L.take i).all ndVa)],.cells [.bool (f0 && (L.take i).all (ndFi L.length))],.cells (nodesT (L.take i)),.cells (rowT (L.take i)).flatten]⟩)
  (fun i=>i≤L.length) (fun i=>L.length - i) 0 (by omega) (Zbz (Zab (rdF (L.map ndAV) d 0) (by simp only [go_sem])) (by simp [nodesT,rowT])) (fun i hi N hN=>?_)
 unfold Zjt
 by_cases hin:i<L.length
 ·obtain ⟨nd,hnd⟩:∃ n,L[i]? = some n:=⟨_,List.getElem?_eq_getElem hin⟩
  obtain ⟨o1,o2,o3⟩:=hok nd (List.mem_of_getElem? hnd)
  have tk:L.take (i+1)=L.take i ++ [nd]:=by rw [List.take_add_one,hnd]; rfl
  have tl:(L.take i).length=i:=by rw [List.length_take]; omega
  have q1:(i:Int)<(L.length:Int):=by omega
  have e1:IntKind.i64.wrap ((i:Int)+1)=((i+1:Nat):Int):=by rw [Zac (by omega) (by omega)]; omega
  have hrow:∀ c,c∈rowT (L.take i)→c.length=4∧∀ f,gcL f c=c:=fun c hc=>by
   obtain ⟨n,hn,rfl⟩:=List.mem_map.1 hc
   have:=(Zj9 (hok n (List.mem_of_mem_take hn)).1).1
   exact ⟨this.len,this.gc⟩
  have hrt:=(Zj9 o1).1
  have hRl:(rowT (L.take i)).flatten.length=i*4:=by rw [Z2n (fun c hc=>(hrow c hc).1)]; simp [rowT]; omega
  have hRg:∀ f,gcL f (rowT (L.take i)).flatten=(rowT (L.take i)).flatten:=fun f=>Yi6 (fun c hc=>(hrow c hc).2 f)
  have hnl:=Yuu (L.take i)
  have eA:nodesT (L.take (i+1))=nodesT (L.take i)++gN nd:=by rw [tk]; simp [nodesT]
  have eR:(rowT (L.take (i+1))).flatten=(rowT (L.take i)).flatten++tc nd.rew:=by rw [tk]; simp [rowT]
  have eV:(L.take (i+1)).all ndVa=((L.take i).all ndVa && okB nd.rew && vaM nd.mv):=by rw [tk]; simp [ndVa,Bool.and_assoc]
  have eF:(f0 && (L.take (i+1)).all (ndFi L.length))=(f0 && (L.take i).all (ndFi L.length) && smallB nd.rew && fiM L.length nd.kind nd.mv && decide (1≤nd.mv.length∧nd.mv.length≤6) && kindF nd):=by rw [tk]; simp [ndFi,Bool.and_assoc]
  refine Zbg 1 rfl ?_
  simp only [go_sem,Zqp,List.length_map,q1]
  refine Zbc (Za8 (Zar (rdF (L.map ndAV) d i) (by simp only [go_sem,List.length_map]) (Xad (nd:=nd) (by omega) (by rw [List.length_map]; omega) (by omega) (by rw [List.getElem?_map,hnd]; rfl) o1 o2 o3 hRl (fun f=>Yb1 f) hRg (fun e he=>?_))))
  refine Y88 (by omega) o3 o2 he (fun f=>Yb1 f) (fun f=>by rw [Z45,hRg,hrt.gc]) (fun st' hle=>?_)
  show T Tryz.prog 212 0 (.rg false Zm2) st' (thenQ N K)
  refine T_le hle (T_W ?_)
  simp only [go_sem,Zm2,e1]
  refine hN (i+1) _ (by omega) (by omega) (Zbz (Zab (rdF (L.map ndAV) d (i+1)) (by simp only [go_sem])) ?_)
  rw [eA,eR,eV,eF]
 ·have hie:i=L.length:=by omega
  subst hie
  have q1:¬ ((L.length:Nat):Int)<(L.length:Int):=by omega
  refine T_W ?_
  rw [List.take_length]
  simp only [go_sem,Zqp,List.length_map,q1]
  exact hK _ (by simp only [go_sem,List.length_map])
end GoAbs
namespace GoAbs
open Go Go.Proofs
set_option maxHeartbeats 8000000
def disF (d:List UInt8):Bool:=smallB d && (match parseL d with | some q=>decide (0≤q) && decide (q<1) | none=>true)
def gFit (L:List Nd) (d:List UInt8):Bool:=decide (1≤L.length∧L.length≤10) && L.all (ndFi L.length) && disF d
noncomputable def gmR (L:List Nd) (d:List UInt8):AV :=
 if (L.all ndVa && okB d)=false then .tup [.nilp,.int .i64 2] else if gFit L d=false then .tup [.nilp,.int .i64 1] else .tup [.rp (.sl (nodesT L) :: .sl ((rowT L).map .agg)::tc d),.int .i64 0]
theorem Xhb {n:Nd}(hl:∀ m,m∈n.mv→m.2.length≤23):∀ y,y∈gN n→y.cells = [y]∧∀ H ids,BV H ids y y:=fun y hy=>by
 unfold gN at hy
 have hA:∀ (cs:List AV) (H:Heap) (ids:List Nat),(∀ x,x∈cs→∃ l,x = .sl l)→BV H ids (.agg cs) (.agg cs):=fun cs H ids h => .agg _ _ rfl (fun i x y hx hy=>by
  rw [hx] at hy; cases hy
  obtain ⟨l,rfl⟩:=h x (List.mem_of_getElem? hx)
  exact .sl l)
 split at hy
 ·simp at hy; subst hy; exact ⟨rfl,fun H ids => .ifc _ _ _ (hA _ _ _ (by simp))⟩
 ·split at hy
  ·simp at hy; subst hy; exact ⟨rfl,fun H ids => .ifc _ _ _ (hA _ _ _ (by simp))⟩
  ·split at hy
   ·simp at hy; subst hy; exact ⟨rfl,fun H ids => .ifc _ _ _ (hA _ _ _ (by simp))⟩
   ·simp at hy
theorem Y25 {L:List Nd}{H:Heap}{ids:List Nat}{b:Nat}(hl:∀ n,n∈L→∀ m,m∈n.mv→m.2.length≤23) (hb:H[b]? = some (.cells (nodesT L))) (hi:b∈ids):BV H ids (.osl none b 0 (nodesT L).length) (.sl (nodesT L)):=by
 have hc:∀ x,x∈nodesT L→x.cells = [x]∧∀ H ids,BV H ids x x:=fun x hx=>by
  obtain ⟨n,hn,hx⟩:=List.mem_flatMap.1 hx
  exact Xhb (hl n hn) x hx
 refine .osl none b 0 _ _ _ hb hi rfl (fun x hx=>by rw [(hc x hx).1]; rfl) (by show 0+(nodesT L).length*1≤_; omega) (fun i x j y z hx hy hz=>?_)
 rw [(hc x (List.mem_of_getElem? hx)).1] at hy
 cases j with
 | zero =>
  simp at hy; subst hy
  rw [show 0+(i*es none+0)=i by show 0+(i*1+0)=i; omega,hx] at hz
  cases hz
  exact (hc x (List.mem_of_getElem? hx)).2 _ _
 | succ j=>simp at hy
abbrev rdEnd:CC := .seq (.block 5 (.seq (.rg false Zhq) (.cond (.t 188) (.seq (.rg false Zhd) .ret) (.seq (.rg true Zd8) (.cond (.t 191) (.seq (.rg false Zd2) .ret) .skip))))) (.seq (.rg false Zni) .ret)
theorem Xe0 {L:List Nd}{d:List UInt8}{e:Nat→AV}{va fi:Bool}{n:Nat}(hd:d.length≤23) (hn:n=L.length) (hv:va=(L.all ndVa && okB d)) (hf:fi=(decide (1≤L.length∧L.length≤10) && L.all (ndFi L.length) && smallB d))
  (hok:∀ n,n∈L→n.rew.length≤23∧n.mv.length≤7∧∀ m,m∈n.mv→m.2.length≤23)
  (e6:e 6 = .ptr 0 0) (e7:e 7 = .ptr 1 0) (e8:e 8 = .ptr 2 0) :
  T Tryz.prog 212 0 rdEnd ⟨e,[.cells (.osl none 3 0 (nodesT L).length :: .osl (some 4) 4 0 n::tc d),.cells [.bool va],.cells [.bool fi],.cells (nodesT L),.cells (rowT L).flatten]⟩ (retQ [.tmp 4,.tmp 5] (gmR L d)):=by
 have hm:Tryz.prog.follows .mixedOrders=true:=by kernel_rfl
 obtain ⟨hrt,hsm⟩:=Zj9 hd
 have c4:=hrt.len
 have ct:(tc d).take 4=tc d:=List.take_of_length_le (by omega)
 cases va with
 | false =>
  have hg:gmR L d = .tup [.nilp,.int .i64 2]:=by unfold gmR; rw [if_pos hv.symm]
  rw [hg]
  refine T_W ?_
  simp only [go_sem,Zhq,Zhd,e7]
  exact .nilp
 | true =>
  have hvd:okB d=true:=by have:=hv.symm; rw [Bool.and_eq_true] at this; exact this.2
  obtain ⟨q,hq⟩:∃ q,parseL d=some q:=by
   unfold okB at hvd
   cases hp:parseL d with
   | none=>rw [hp] at hvd; simp at hvd
   | some q=>exact ⟨q,rfl⟩
  have htq:=hrt.q q hq
  have hb:=Zwv hq hd
  have hdis:gFit L d=(fi && (decide (0≤q) && decide (q<1))):=by
   unfold gFit disF
   rw [hq,hf]
   simp only [Bool.and_assoc]
  have hg:gmR L d=if (fi && (decide (0≤q) && decide (q<1)))=false then .tup [.nilp,.int .i64 1] else .tup [.rp (.sl (nodesT L) :: .sl ((rowT L).map .agg)::tc d),.int .i64 0]:=by
   unfold gmR
   rw [if_neg (by rw [← hv]; decide),hdis]
  rw [hg]
  have hcmp:=Y3q (k:=77) hb (Qb.one (k:=77) (by omega)) (by omega)
  have ql:∀ q,(qcell q).length=4:=fun q=>rfl
  have qt:∀ q,(qcell q).take 4=qcell q:=fun q=>rfl
  have qd:∀ q,(qcell q).drop 4 = []:=fun q=>rfl
  rw [htq]
  refine Zbg 0 rfl ?_
  simp only [go_sem,Zhq,Zhd,e7]
  cases fi with
  | false =>
   simp only [go_sem,Zd8,Zd2,e6,e8,Bool.false_and]
   exact .nilp
  | true =>
   simp only [go_sem,Zd8,e6,e8,ql,qt,qd]
   refine Zaa (Yma q) (by simp only [go_sem,Zaw,Zah]) ?_
   by_cases s0:q<0
   ·have c1:(if q=0 then (0:Int) else if q<0 then -1 else 1) = -1:=by rw [if_neg (by grind),if_pos s0]
    have c2:(-1:Int)<0:=by decide
    have c3:¬ 0≤q:=by grind
    simp only [go_sem,c1,c2,c3,Zd2,e6,e8,decide_false,Bool.false_and,Bool.and_false]
    exact .nilp
   ·have c1:¬ (if q=0 then (0:Int) else if q<0 then -1 else 1)<0:=by rw [if_neg s0]; split <;> decide
    have c3:0≤q:=by grind
    simp only [go_sem,c1,c3,e6,e8,ql,qt,qd]
    refine Zaa Y3u (by simp only [go_sem]) ?_
    simp only [go_sem,Zaw,ql,qt,qd,e6,e8]
    refine Zaa hcmp (by simp only [go_sem,Zaw,Zah]) ?_
    by_cases s1:q<1
    ·have c4:¬ 0≤cmpR q 1:=by unfold cmpR; rw [if_pos s1]; decide
     simp only [go_sem,c4,s1,decide_true,Bool.and_true,Zni,e6,e8]
     refine T_W ?_
     simp only [go_sem,e6]
     refine .ptr 0 0 _ _ rfl (by simp [allOf]) (by simp) (fun j y z hy hz=>?_)
     rw [Nat.zero_add] at hz
     match j with
     | 0=>simp at hy hz; subst hy hz; exact Y25 (fun n hn=>(hok n hn).2.2) rfl (by simp [allOf])
     | 1 =>
      have hrow:∀ c,c∈rowT L→c.length=4∧∀ H ids,BVs H ids c c:=fun c hc=>by
       obtain ⟨n,hn,rfl⟩:=List.mem_map.1 hc
       have:=(Zj9 (hok n hn).1).1
       exact ⟨this.len,fun H ids=>by rw [this.bv]; trivial⟩
      simp at hy hz; subst hy hz
      rw [hn,show L.length=(rowT L).length by simp [rowT]]
      exact Z6f (w:=4) rfl (by simp [allOf]) rfl (fun c hc=>(hrow c hc).1) (fun c hc=>(hrow c hc).2 _ _)
     | j+2 =>
      simp only [List.getElem?_cons_succ] at hy hz
      rw [hy] at hz; cases hz
      have hx:=List.mem_of_getElem? hy
      unfold qcell at hx
      simp only [List.mem_cons,List.not_mem_nil,or_false] at hx
      rcases hx with rfl | rfl | rfl | rfl
      ·exact .bool _
      ·exact .sl _
      ·exact .bool _
      ·exact .sl _
    ·have c4:0≤cmpR q 1:=by unfold cmpR; rw [if_neg s1]; split <;> decide
     simp only [go_sem,c4,s1,decide_false,Bool.and_false,Zd2,e6,e8]
     exact .nilp
theorem Yvz {L:List Nd}{d:List UInt8}(hL:L.length≤1000) (hd:d.length≤23) (hok:∀ n,n∈L→n.rew.length≤23∧n.mv.length≤7∧∀ m,m∈n.mv→m.2.length≤23) :
  SpecV Tryz.prog Z01 [.sl (L.map ndAV),.str (bs d)] (gmR L d):=by
 obtain ⟨hrt,hsm⟩:=Zj9 hd
 have c4:=hrt.len
 have ct:(tc d).take 4=tc d:=List.take_of_length_le (by omega)
 have cd:(tc d).drop 4 = []:=List.drop_eq_nil_of_le (by omega)
 refine Zba Yjy (by simp) ?_
 unfold Ygx
 have fin:∀ (b:Bool) (e:Nat→AV),b=decide (1≤L.length∧L.length≤10)→Has e [(0,.sl (L.map ndAV)),(1,.str (bs d)),(6,.ptr 0 0),(7,.ptr 1 0),(8,.ptr 2 0),(9,.fn Zaz [] [.ptr 1 0,.ptr 2 0])] →
   T Tryz.prog 212 0 (.seq (.seq (.rg false Zoq) (.block 0 (.loop Zjt))) (.seq (.rg false Zhg) rdEnd)) ⟨e,[.cells (.nils :: .nils::z4'),.cells [.bool true],.cells [.bool b]]⟩ (retQ [.tmp 4,.tmp 5] (gmR L d)):=fun b e hb he=>by
  subst hb
  refine Zar _ he (Zbc (Zbg 0 rfl ?_))
  simp only [go_sem,Zoq,List.length_map]
  refine Za8 (T_le (Zhp (Zab (rdF (L.map ndAV) (bs d) 0) (by simp only [go_sem,List.length_map]; rfl)) (Zhp Yl6 (Zhp Yl6 (Zbz (Yab (b:=0) (l := .nils :: .nils::z4') (l' := .osl none 3 0 0 :: .osl (some 4) 4 0 0::z4') rfl rfl (fun j x y hx hy=>?_)) rfl)))) (Xgn hL hok (fun e he=>?_)))
  ·match j with
   | 0=>simp at hx hy; subst hx hy; exact .inr ⟨rfl,_,_,_,rfl⟩
   | 1=>simp at hx hy; subst hx hy; exact .inr ⟨rfl,_,_,_,rfl⟩
   | j+2=>simp only [List.getElem?_cons_succ] at hx hy; rw [hx] at hy; cases hy; exact .inl rfl
  ·show T Tryz.prog 212 0 (.seq (.rg false Zhg) rdEnd) _ _
   obtain ⟨k0,k1,k6,k7,k8,k9,_⟩:=he
   refine Zbg 0 rfl ?_
   simp only [go_sem,Zhg,k1,k6,k9]
   refine Zd4 (Ybz (n:=5) (bi:=1) (bj:=2) (va:=L.all ndVa) (fi:=decide (1≤L.length∧L.length≤10) && L.all (ndFi L.length)) rfl ?_ (by omega) rfl rfl hrt hsm) ?_
   ·have hrow:∀ c,c∈rowT L→c.length=4∧∀ f,gcL f c=c:=fun c hc=>by
     obtain ⟨n,hn,rfl⟩:=List.mem_map.1 hc
     have:=(Zj9 (hok n hn).1).1
     exact ⟨this.len,this.gc⟩
    unfold Clo
    show [Blk.cells (_::_::z4'),_,_,.cells (gcL _ (nodesT L)),.cells (gcL _ (rowT L).flatten)]=_
    rw [Yb1,Yi6 (fun c hc=>(hrow c hc).2 _)]; rfl
   ·simp only [go_sem,k6,c4,ct,cd]
    exact Xe0 hd rfl rfl rfl hok (by simp only [go_sem,k6]) (by simp only [go_sem,k7]) (by simp only [go_sem,k8])
 refine Zbg 3 rfl ?_
 by_cases a1:(1:Int)≤(L.length:Int)
 ·by_cases a2:(L.length:Int)≤10
  ·simp only [go_sem,Zjx,Zju,Zjo,Zjy,List.length_map,a1,a2]
   exact fin _ _ (by simp; omega) (by simp only [go_sem])
  ·simp only [go_sem,Zjx,Zju,Zjo,Zjy,List.length_map,a1,a2]
   exact fin _ _ (by simp; omega) (by simp only [go_sem])
 ·simp only [go_sem,Zjx,Zju,Zjo,Zjy,List.length_map,a1]
  exact fin _ _ (by simp; omega) (by simp only [go_sem])
end GoAbs
namespace GoAbs
open Go Go.Proofs
theorem Y6r (f:Nat→Rat):∀ n,0<n→∃ i,i<n∧∀ j,j<n→f j≤f i
 | 0,h=>absurd h (by omega)
 | 1,_=>⟨0,by omega,fun j hj=>by
   have h:j=0:=by omega
   rw [h]; grind⟩
 | n+2,_=>by
  obtain ⟨i,hi,h⟩:=Y6r f (n+1) (by omega)
  by_cases hc:f i≤f (n+1)
  ·refine ⟨n+1,by omega,fun j hj=>?_⟩
   by_cases hj':j=n+1
   ·rw [hj']; grind
   ·have:=h j (by omega); grind
  ·refine ⟨i,by omega,fun j hj=>?_⟩
   by_cases hj':j=n+1
   ·rw [hj']; grind
   ·exact h j (by omega)
def Sh (n:Nat) (d:Rat) (F:List Rat→Nat→Rat):Prop:=∀ (u v:List Rat) (c:Rat),(∀ j,j<n→rget u j≤rget v j+c)→∀ i,i<n→F u i≤F v i+d*c
theorem Xgu {c d:Rat}(d1:d<1) (h:c≤d*c):c≤0:=by
 rcases (Rat.le_total:c≤0∨0≤c) with h0 | h0
 ·exact h0
 ·by_cases hc:c=0
  ·rw [hc]; grind
  ·have hp:0<c:=by grind
   have:=Rat.mul_pos (show 0<1 - d by grind) hp
   grind
theorem Sh.le {n:Nat}{d:Rat}{F:List Rat→Nat→Rat}(h:Sh n d F) (d1:d<1) {u v:List Rat}(hu:∀ i,i<n→rget u i≤F u i) (hv:∀ i,i<n→F v i≤rget v i):∀ i,i<n→rget u i≤rget v i:=fun i hi=>by
 obtain ⟨k,hk,hm⟩:=Y6r (fun i=>rget u i - rget v i) n (by omega)
 have h1:=h u v (rget u k - rget v k) (fun j hj=>by have:=hm j hj; grind) k hk
 have h2:=hu k hk
 have h3:=hv k hk
 have h5:=Xgu d1 (show rget u k - rget v k≤d*(rget u k - rget v k) by grind)
 have:=hm i hi
 grind
theorem Sh.mono {n:Nat}{d:Rat}{F:List Rat→Nat→Rat}(h:Sh n d F) {u v:List Rat}(hu:∀ j,j<n→rget u j≤rget v j):∀ i,i<n→F u i≤F v i:=fun i hi=>by
 have:=h u v 0 (fun j hj=>by have:=hu j hj; grind) i hi
 grind
theorem Sh.uniq {n:Nat}{d:Rat}{F:List Rat→Nat→Rat}(h:Sh n d F) (d1:d<1) {u v:List Rat}(hu:∀ i,i<n→rget u i=F u i) (hv:∀ i,i<n→rget v i=F v i):∀ i,i<n→rget u i=rget v i:=fun i hi=>by
 have h1:=h.le d1 (fun i hi=>by rw [← hu i hi]; grind) (fun i hi=>by rw [← hv i hi]; grind) i hi
 have h2:=h.le d1 (fun i hi=>by rw [← hv i hi]; grind) (fun i hi=>by rw [← hu i hi]; grind) i hi
 grind
theorem Z81 {u v:List Rat}(hl:u.length=v.length) (h:∀ i,i<v.length→rget u i=rget v i):u=v:=by
 refine List.ext_getElem hl fun i h1 h2=>?_
 have:=h i h2
 unfold rget at this
 rwa [List.getD_eq_getElem?_getD,List.getD_eq_getElem?_getD,List.getElem?_eq_getElem h1,List.getElem?_eq_getElem h2] at this
theorem Y4j {a b:Rat}:(cmpR a b=1)=(b<a):=propext (by unfold cmpR; constructor <;> intro h <;> grind)
theorem Ymn {a b:Rat}:(cmpR a b = -1)=(a<b):=propext (by unfold cmpR; constructor <;> intro h <;> grind)
theorem Z91 {v:List Rat}{to:List Nat}:∀ {k:Nat},(∀ t,t<k→rget v (to.getD t 0)≤rget v (to.getD (bestG v to 1 k) 0))∧(∀ t,t<bestG v to 1 k→rget v (to.getD t 0)<rget v (to.getD (bestG v to 1 k) 0))∧bestG v to 1 k≤k
 | 0=>⟨fun t h=>by omega,fun t h=>by unfold bestG at h; omega,by unfold bestG; omega⟩
 | k+1=>by
  obtain ⟨h1,h2,h3⟩:=Z91 (v:=v) (to:=to) (k:=k)
  rw [show bestG v to 1 (k+1)=if cmpR (rget v (to.getD k 0)) (rget v (to.getD (bestG v to 1 k) 0))=1 then k else bestG v to 1 k from rfl]
  split
  ·rename_i hc
   rw [Y4j] at hc
   refine ⟨fun t ht=>?_,fun t ht=>?_,by omega⟩
   ·by_cases htk:t=k
    ·rw [htk]; grind
    ·have:=h1 t (by omega); grind
   ·have:=h1 t ht; grind
  ·rename_i hc
   rw [Y4j] at hc
   refine ⟨fun t ht=>?_,h2,by omega⟩
   by_cases htk:t=k
   ·rw [htk]; grind
   ·exact h1 t (by omega)
theorem Z17 {v:List Rat}{to:List Nat}:∀ {k:Nat},(∀ t,t<k→rget v (to.getD (bestG v to (-1) k) 0)≤rget v (to.getD t 0))∧(∀ t,t<bestG v to (-1) k→rget v (to.getD (bestG v to (-1) k) 0)<rget v (to.getD t 0))∧bestG v to (-1) k≤k
 | 0=>⟨fun t h=>by omega,fun t h=>by unfold bestG at h; omega,by unfold bestG; omega⟩
 | k+1=>by
  obtain ⟨h1,h2,h3⟩:=Z17 (v:=v) (to:=to) (k:=k)
  rw [show bestG v to (-1) (k+1)=if cmpR (rget v (to.getD k 0)) (rget v (to.getD (bestG v to (-1) k) 0))=(-1) then k else bestG v to (-1) k from rfl]
  split
  ·rename_i hc
   rw [Ymn] at hc
   refine ⟨fun t ht=>?_,fun t ht=>?_,by omega⟩
   ·by_cases htk:t=k
    ·rw [htk]; grind
    ·have:=h1 t (by omega); grind
   ·have:=h1 t ht; grind
  ·rename_i hc
   rw [Ymn] at hc
   refine ⟨fun t ht=>?_,h2,by omega⟩
   by_cases htk:t=k
   ·rw [htk]; grind
   ·exact h1 t (by omega)
def sumO (odds:List Rat):Nat→Rat
 | 0=>0
 | i+1=>sumO odds i+rget odds i
theorem Ywh {odds u v:List Rat}{to:List Nat}{c:Rat}:∀ {i:Nat},(∀ t,t<i→0≤rget odds t)→(∀ t,t<i→rget u (to.getD t 0)≤rget v (to.getD t 0)+c)→dotW odds u to i≤dotW odds v to i+c*sumO odds i
 | 0,_,_=>by simp only [dotW,sumO]; grind
 | i+1,h0,h=>by
  have ih:=Ywh (odds:=odds) (u:=u) (v:=v) (to:=to) (c:=c) (i:=i) (fun t ht=>h0 t (by omega)) (fun t ht=>h t (by omega))
  have h1:=h i (by omega)
  have h2:=Rat.mul_nonneg (h0 i (by omega)) (show 0≤rget v (to.getD i 0)+c - rget u (to.getD i 0) by grind)
  simp only [dotW,sumO]
  generalize rget odds i=o at *
  generalize rget u (to.getD i 0)=x at *
  generalize rget v (to.getD i 0)=y at *
  generalize sumO odds i=s at *
  generalize dotW odds u to i=p at *
  generalize dotW odds v to i=q at *
  grind
structure GmP (g:Gm):Prop where
 ok:GmOk g
 d0:0≤g.d
 d1:g.d<1
 odds:∀ x,x∈g.nodes→x.kind=3→(∀ q,q∈x.odds→0≤q)∧sumO x.odds x.to.length=1
def nodeAt (g:Gm) (i:Nat):GN:=g.nodes.getD i default
theorem Zbe {g:Gm}{i:Nat}(h:i<g.nodes.length):nodeAt g i∈g.nodes:=List.mem_of_getElem? (show g.nodes[i]? = some _ by unfold nodeAt; rw [List.getD_eq_getElem?_getD,List.getElem?_eq_getElem h]; rfl)
def worthP (x:GN) (k:Nat) (v:List Rat):Rat:=if x.kind=3 then dotW x.odds v x.to x.to.length else rget v (x.to.getD k 0)
def pget (p:List Int) (i:Nat):Nat:=(p.getD i 0).toNat
def planV (g:Gm) (p:List Int) (v:List Rat) (i:Nat):Rat:=rget g.rew i+g.d*worthP (nodeAt g i) (pget p i) v
theorem Zcy {to:List Nat}{k:Nat}(h:k<to.length):to.getD k 0∈to:=List.mem_of_getElem? (Zcl h)
theorem Yj3 {g:Gm}(hg:GmP g) {x:GN}(hx:x∈g.nodes) (h3:x.kind=3) {u v:List Rat}{c:Rat}(h:∀ j,j<g.nodes.length→rget u j≤rget v j+c):dotW x.odds u x.to x.to.length≤dotW x.odds v x.to x.to.length+c:=by
 obtain ⟨o1,o2⟩:=hg.odds x hx h3
 have ho:=((hg.ok.node x hx).odds h3).1
 have:=Ywh (odds:=x.odds) (u:=u) (v:=v) (to:=x.to) (c:=c) (i:=x.to.length) (fun t ht=>o1 _ (List.mem_of_getElem? (Zak (by omega)))) (fun t ht=>h _ ((hg.ok.node x hx).lt _ (Zcy ht)))
 rw [o2] at this
 grind
theorem dmul {d a b c:Rat}(d0:0≤d) (h:a≤b+c) (r:Rat):r+d*a≤r+d*b+d*c:=by
 have:=Rat.mul_nonneg d0 (show 0≤b+c - a by grind)
 grind
def POk (g:Gm) (p:List Int):Prop:=p.length=g.nodes.length∧∀ i,i<g.nodes.length→(nodeAt g i).kind≠3→0≤p.getD i 0∧p.getD i 0<((nodeAt g i).to.length:Int)
theorem POk.lt {g:Gm}{p:List Int}(h:POk g p) {i:Nat}(hi:i<g.nodes.length) (h3:(nodeAt g i).kind≠3):pget p i<(nodeAt g i).to.length:=by
 have:=h.2 i hi h3
 unfold pget
 omega
theorem Yc6 {g:Gm}(hg:GmP g) {p:List Int}(hp:POk g p):Sh g.nodes.length g.d (planV g p):=fun u v c h i hi=>by
 unfold planV
 refine dmul hg.d0 ?_ _
 have hx:=Zbe hi
 have hlt:=hp.lt hi
 generalize nodeAt g i=x at *
 unfold worthP
 split
 ·rename_i h3
  exact Yj3 hg hx h3 h
 ·rename_i h3
  exact h _ ((hg.ok.node x hx).lt _ (Zcy (hlt h3)))
theorem Y9d {g:Gm}(hg:GmP g):Sh g.nodes.length g.d (nextV g):=fun u v c h i hi=>by
 unfold nextV
 refine dmul hg.d0 ?_ _
 have hx:=Zbe hi
 have hok:=hg.ok.node _ hx
 show worthR (nodeAt g i) u≤worthR (nodeAt g i) v+c
 generalize nodeAt g i=x at *
 have hm:∀ t,t<x.to.length→rget u (x.to.getD t 0)≤rget v (x.to.getD t 0)+c:=fun t ht=>h _ (hok.lt _ (Zcy ht))
 unfold worthR
 split
 ·have b1:=Zgg (v:=u) (sg:=1) hok.pos (Nat.le_refl _)
  have b2:=(Z91 (v:=v) (to:=x.to) (k:=x.to.length)).1 _ b1
  have b3:=hm _ b1
  unfold bestA at *
  grind
 ·split
  ·have b1:=Zgg (v:=v) (sg := -1) hok.pos (Nat.le_refl _)
   have b2:=(Z17 (v:=u) (to:=x.to) (k:=x.to.length)).1 _ b1
   have b3:=hm _ b1
   unfold bestA at *
   grind
  ·rename_i h1 h2
   exact Yj3 hg hx (by have:=hok.kind; omega) h
def Ltv (n:Nat) (u v:List Rat):Prop:=(∀ i,i<n→rget u i≤rget v i)∧∃ i,i<n∧rget u i<rget v i
theorem Ltv.trans {n:Nat}{u v w:List Rat}(h:Ltv n u v) (k:Ltv n v w):Ltv n u w:=by
 obtain ⟨h1,i,hi,h2⟩:=h
 refine ⟨fun j hj=>Rat.le_trans (h1 j hj) (k.1 j hj),i,hi,?_⟩
 have:=k.1 i hi
 grind
theorem Ltv.irrefl {n:Nat}{u:List Rat}(h:Ltv n u u):False:=by
 obtain ⟨_,i,hi,h2⟩:=h
 grind
def PVal (g:Gm) (p:List Int) (v:List Rat):Prop:=v.length=g.nodes.length∧∀ i,i<g.nodes.length→rget v i=planV g p v i
theorem Y2w {g:Gm}(hg:GmP g) {p:List Int}(hp:POk g p) {u v:List Rat}(hu:PVal g p u) (h1:∀ i,i<g.nodes.length→planV g p v i≤rget v i) (h2:∃ i,i<g.nodes.length∧planV g p v i<rget v i):Ltv g.nodes.length u v:=by
 have hs:=Yc6 hg hp
 have hle:=hs.le hg.d1 (u:=u) (v:=v) (fun i hi=>by rw [← hu.2 i hi]; grind) h1
 obtain ⟨i,hi,hl⟩:=h2
 refine ⟨hle,i,hi,?_⟩
 have:=hs.mono hle i hi
 rw [hu.2 i hi]
 grind
theorem Y53 {g:Gm}(hg:GmP g) {p:List Int}(hp:POk g p) {u v:List Rat}(hu:PVal g p u) (h1:∀ i,i<g.nodes.length→rget v i≤planV g p v i) (h2:∃ i,i<g.nodes.length∧rget v i<planV g p v i):Ltv g.nodes.length v u:=by
 have hs:=Yc6 hg hp
 have hle:=hs.le hg.d1 (u:=v) (v:=u) h1 (fun i hi=>by rw [← hu.2 i hi]; grind)
 obtain ⟨i,hi,hl⟩:=h2
 refine ⟨hle,i,hi,?_⟩
 have:=hs.mono hle i hi
 rw [hu.2 i hi]
 grind
def sgn (who:Nat):Int:=if who=1 then 1 else -1
def bet1 (g:Gm) (v:List Rat) (who:Nat) (p:List Int) (i:Nat):Bool :=
 decide ((nodeAt g i).kind=who) && decide (cmpR (rget v ((nodeAt g i).to.getD (bestA v (nodeAt g i).to (sgn who)) 0)) (rget v ((nodeAt g i).to.getD (pget p i) 0))=sgn who)
def betI (g:Gm) (v:List Rat) (who:Nat) (p:List Int) (i:Nat):Int:=if bet1 g v who p i=true then (bestA v (nodeAt g i).to (sgn who):Int) else p.getD i 0
def betP (g:Gm) (v:List Rat) (who:Nat) (p:List Int):List Int:=(List.range g.nodes.length).map (betI g v who p)
def betC (g:Gm) (v:List Rat) (who:Nat) (p:List Int):Bool:=(List.range g.nodes.length).any (bet1 g v who p)
theorem Zoy {g:Gm}{v:List Rat}{who:Nat}{p:List Int}{i:Nat}(hi:i<g.nodes.length):(betP g v who p).getD i 0=betI g v who p i:=by
 unfold betP
 rw [List.getD_eq_getElem?_getD,List.getElem?_map,List.getElem?_range hi]; rfl
def POk0 (g:Gm) (p:List Int):Prop:=p.length=g.nodes.length∧∀ i,i<g.nodes.length→0≤p.getD i 0∧p.getD i 0<((nodeAt g i).to.length:Int)
theorem POk0.ok {g:Gm}{p:List Int}(h:POk0 g p):POk g p:=⟨h.1,fun i hi _=>h.2 i hi⟩
theorem Yag {g:Gm}(hg:GmP g) {v:List Rat}{who:Nat}{p:List Int}(hp:POk0 g p):POk0 g (betP g v who p):=by
 refine ⟨by unfold betP; rw [List.length_map,List.length_range],fun i hi=>?_⟩
 rw [Zoy hi]
 unfold betI
 split
 ·have:=Zgg (v:=v) (sg:=sgn who) (hg.ok.node _ (Zbe hi)).pos (Nat.le_refl _)
  unfold bestA
  omega
 ·exact hp.2 i hi
def Same1 (g:Gm) (p q:List Int):Prop:=∀ i,i<g.nodes.length→(nodeAt g i).kind=1→p.getD i 0=q.getD i 0
theorem Zd7 {x:GN}{k:Nat}{v:List Rat}(h:x.kind≠3):worthP x k v=rget v (x.to.getD k 0):=by unfold worthP; rw [if_neg h]
theorem dlt {d a b r:Rat}(hd:0<d) (h:a<b):r+d*a<r+d*b:=by
 have:=Rat.mul_pos hd (show 0<b - a by grind)
 grind
theorem better2 {g:Gm}(hg:GmP g) {p:List Int}{v u:List Rat}(hp:POk0 g p) (hv:PVal g p v) (hd:0<g.d) (hc:betC g v 2 p=true) (hu:PVal g (betP g v 2 p) u):Ltv g.nodes.length u v:=by
 have key:∀ i,i<g.nodes.length→bet1 g v 2 p i=true→planV g (betP g v 2 p) v i<rget v i:=fun i hi hb=>by
  rw [hv.2 i hi]
  unfold planV
  have hpg:pget (betP g v 2 p) i=bestA v (nodeAt g i).to (-1):=by
   unfold pget; rw [Zoy hi]; unfold betI; rw [if_pos hb]; simp [sgn]
  unfold bet1 at hb
  simp only [Bool.and_eq_true,decide_eq_true_eq] at hb
  have h3:(nodeAt g i).kind≠3:=by omega
  rw [Zd7 h3,Zd7 h3,hpg]
  have h2:=hb.2
  rw [show sgn 2 = -1 from rfl,Ymn] at h2
  exact dlt hd h2
 refine Y2w hg (Yag hg hp).ok hu (fun i hi=>?_) ?_
 ·by_cases hb:bet1 g v 2 p i=true
  ·have:=key i hi hb; grind
  ·rw [hv.2 i hi]
   unfold planV
   have:pget (betP g v 2 p) i=pget p i:=by unfold pget; rw [Zoy hi]; unfold betI; rw [if_neg hb]
   rw [this]; grind
 ·unfold betC at hc
  rw [List.any_eq_true] at hc
  obtain ⟨i,hi,hb⟩:=hc
  have hi:i<g.nodes.length:=by simpa using hi
  exact ⟨i,hi,key i hi hb⟩
theorem Z76 {g:Gm}{p:List Int}{v:List Rat}:Same1 g (betP g v 2 p) p:=fun i hi h1=>by
 rw [Zoy hi]
 have e:decide ((nodeAt g i).kind=2)=false:=by rw [h1]; rfl
 unfold betI bet1
 rw [e,Bool.false_and,if_neg (by decide)]
theorem nobetter {g:Gm}{p:List Int}{v:List Rat}{who:Nat}(hc:betC g v who p=false) {i:Nat}(hi:i<g.nodes.length):bet1 g v who p i=false:=by
 unfold betC at hc
 rw [List.any_eq_false] at hc
 have:=hc i (by simpa using hi)
 simpa using this
theorem better1 {g:Gm}(hg:GmP g) {p q:List Int}{v u:List Rat}(hp:POk0 g p) (hv:PVal g p v) (hd:0<g.d) (h2:betC g v 2 p=false) (hc:betC g v 1 p=true) (hq:POk0 g q) (hs:Same1 g q (betP g v 1 p)) (hu:PVal g q u):Ltv g.nodes.length v u:=by
 have key1:∀ i,i<g.nodes.length→bet1 g v 1 p i=true→rget v i<planV g q v i:=fun i hi hb=>by
  rw [hv.2 i hi]
  unfold planV
  have hk:(nodeAt g i).kind=1:=by unfold bet1 at hb; simp only [Bool.and_eq_true,decide_eq_true_eq] at hb; exact hb.1
  have hpg:pget q i=bestA v (nodeAt g i).to 1:=by
   unfold pget; rw [hs i hi hk,Zoy hi]; unfold betI; rw [if_pos hb]; simp [sgn]
  unfold bet1 at hb
  simp only [Bool.and_eq_true,decide_eq_true_eq] at hb
  have h3:(nodeAt g i).kind≠3:=by omega
  rw [Zd7 h3,Zd7 h3,hpg]
  have h2:=hb.2
  rw [show sgn 1=1 from rfl,Y4j] at h2
  exact dlt hd h2
 refine Y53 hg hq.ok hu (fun i hi=>?_) ?_
 ·by_cases hb:bet1 g v 1 p i=true
  ·have:=key1 i hi hb; grind
  ·have hx:=Zbe hi
   have hok:=hg.ok.node _ hx
   by_cases h1:(nodeAt g i).kind=1
   ·have:pget q i=pget p i:=by unfold pget; rw [hs i hi h1,Zoy hi]; unfold betI; rw [if_neg hb]
    rw [hv.2 i hi]
    unfold planV
    rw [this]; grind
   ·by_cases h3:(nodeAt g i).kind=3
    ·rw [hv.2 i hi]
     unfold planV worthP
     rw [if_pos h3,if_pos h3]; grind
    ·have hk2:(nodeAt g i).kind=2:=by have:=hok.kind; omega
     have hb2:=nobetter h2 hi
     have hlt:=hq.ok.lt hi h3
     unfold bet1 at hb2
     simp only [hk2,decide_true,Bool.true_and,decide_eq_false_iff_not] at hb2
     rw [show sgn 2 = -1 from rfl,Ymn] at hb2
     have b2:=(Z17 (v:=v) (to:=(nodeAt g i).to) (k:=(nodeAt g i).to.length)).1 _ hlt
     rw [hv.2 i hi]
     unfold planV
     rw [Zd7 h3,Zd7 h3]
     unfold bestA at hb2
     have:=dmul (d:=g.d) (c:=0) hg.d0 (show rget v ((nodeAt g i).to.getD (pget p i) 0)≤rget v ((nodeAt g i).to.getD (pget q i) 0)+0 by grind) (rget g.rew i)
     grind
 ·unfold betC at hc
  rw [List.any_eq_true] at hc
  obtain ⟨i,hi,hb⟩:=hc
  have hi:i<g.nodes.length:=by simpa using hi
  exact ⟨i,hi,key1 i hi hb⟩
theorem Ysb {g:Gm}(hg:GmP g) {p:List Int}{v:List Rat}(hp:POk0 g p) (hv:PVal g p v) (h1:betC g v 1 p=false) (h2:betC g v 2 p=false):∀ i,i<g.nodes.length→rget v i=nextV g v i:=fun i hi=>by
 have hx:=Zbe hi
 have hok:=hg.ok.node _ hx
 rw [hv.2 i hi]
 unfold planV nextV
 congr 1
 show _=g.d*worthR (nodeAt g i) v
 congr 1
 have hlt:=hp.ok.lt hi
 have b1:=nobetter h1 hi
 have b2:=nobetter h2 hi
 unfold bet1 at b1 b2
 generalize nodeAt g i=x at *
 generalize pget p i=k at *
 unfold worthP worthR
 by_cases k1:x.kind=1
 ·have m:=(Z91 (v:=v) (to:=x.to) (k:=x.to.length)).1 _ (hlt (by omega))
  simp only [k1,decide_true,Bool.true_and,decide_eq_false_iff_not] at b1
  rw [show sgn 1=1 from rfl,Y4j] at b1
  rw [if_neg (by omega),if_pos k1]
  unfold bestA at *
  grind
 ·by_cases k2:x.kind=2
  ·have m:=(Z17 (v:=v) (to:=x.to) (k:=x.to.length)).1 _ (hlt (by omega))
   simp only [k2,decide_true,Bool.true_and,decide_eq_false_iff_not] at b2
   rw [show sgn 2 = -1 from rfl,Ymn] at b2
   rw [if_neg (by omega),if_neg k1,if_pos k2]
   unfold bestA at *
   grind
  ·rw [if_pos (by have:=hok.kind; omega),if_neg k1,if_neg k2]
end GoAbs
namespace GoAbs
open Go Go.Proofs
def oddsQ (l:List Mv):List Rat:=(l.filter hasO).map fun m=>(parseL m.2).getD 0
def toGN (n:Nd):GN:=⟨n.kind.toNat,n.mv.map (·.1.toNat),oddsQ n.mv⟩
def toGm (L:List Nd) (d:List UInt8):Gm:=⟨L.map toGN,L.map (fun n=>(parseL n.rew).getD 0),(parseL d).getD 0⟩
theorem okBq {l:List UInt8}(h:okB l=true):parseL l=some ((parseL l).getD 0):=by
 unfold okB at h
 cases hp:parseL l with
 | none=>rw [hp] at h; simp at h
 | some q=>rfl
theorem tc_q {l:List UInt8}(hl:l.length≤23) (h:okB l=true):tc l=qcell ((parseL l).getD 0):=(Zj9 hl).1.q _ (okBq h)
theorem Ym7 {q:Rat}(h:Fitd 12 q):Qb 40 q:=by
 have c:10 ^ 12<2 ^ 40:=by decide
 exact ⟨Nat.lt_trans (Ycu h.1) c,Nat.lt_trans (Ycu h.2) c⟩
theorem Ygq {l:List UInt8}(h:smallB l=true):Fitd 12 ((parseL l).getD 0):=by
 unfold smallB at h
 cases hp:parseL l with
 | none=>rw [hp] at h; simp at h
 | some q=>rw [hp] at h; simpa using h
theorem Ycz {p:List Rat}{x:Rat}:∀ {k:Nat},k≤p.length→sumO (p ++ [x]) k=sumO p k
 | 0,_=>rfl
 | k+1,h=>by
  simp only [sumO]
  rw [Ycz (by omega)]
  congr 1
  unfold rget
  rw [List.getD_eq_getElem?_getD,List.getD_eq_getElem?_getD,List.getElem?_append_left (by omega)]
theorem Y1j {p:List Rat}{x:Rat}:sumO (p ++ [x]) (p ++ [x]).length=sumO p p.length+x:=by
 rw [List.length_append,List.length_cons,List.length_nil]
 show sumO (p ++ [x]) p.length+rget (p ++ [x]) p.length=_
 rw [Ycz (Nat.le_refl _)]
 congr 1
 unfold rget
 rw [List.getD_eq_getElem?_getD,List.getElem?_append_right (Nat.le_refl _),Nat.sub_self]; rfl
theorem Yk0:∀ (n:Nat) {l:List Mv},l.length=n→vaM l=true→sumM l=sumO (oddsQ l) (oddsQ l).length
 | 0,l,hl,_=>by rw [List.eq_nil_of_length_eq_zero hl]; rfl
 | n+1,l,hl,hv=>by
  obtain ⟨l',m,rfl⟩:∃ l' m,l=l' ++ [m]:=by
   rcases List.eq_nil_or_concat l with h | ⟨l',m,h⟩
   ·rw [h] at hl; simp at hl
   ·exact ⟨l',m,by simpa using h⟩
  unfold vaM at hv
  rw [List.all_append,Bool.and_eq_true] at hv
  have ih:=Yk0 n (l:=l') (by simpa using hl) hv.1
  have h2:=hv.2
  simp only [List.all_cons,List.all_nil,Bool.and_true] at h2
  rw [Yca,ih]
  unfold stepM oddsQ
  rw [List.filter_append,List.map_append]
  by_cases he:m.2.isEmpty=true
  ·rw [if_pos he]
   have : [m].filter hasO = []:=by simp [hasO,he]
   rw [this]; simp
  ·rw [if_neg he]
   have : [m].filter hasO = [m]:=by simp [hasO,he]
   have hb:okB m.2=true:=by simpa [he] using h2
   rw [this,List.map_cons,List.map_nil,Y1j]
   have:=okBq hb
   rw [this]; rfl
theorem Xfx {N:Nat}{n:Nd}(hv:ndVa n=true) (hf:ndFi N n=true) (hl:n.rew.length≤23∧n.mv.length≤7∧∀ m,m∈n.mv→m.2.length≤23) :
  gN n = [gnAV (toGN n)]∧GnOk N (toGN n)∧((toGN n).kind=3→(∀ q,q∈(toGN n).odds→0≤q)∧sumO (toGN n).odds (toGN n).to.length=1):=by
 unfold ndVa at hv
 rw [Bool.and_eq_true] at hv
 unfold ndFi at hf
 simp only [Bool.and_eq_true,decide_eq_true_eq] at hf
 obtain ⟨⟨⟨f1,f2⟩,f3⟩,f4⟩:=hf
 have hm:∀ m,m∈n.mv→(0≤m.1∧m.1<(N:Int))∧((!m.2.isEmpty)=decide (n.kind=3))∧(m.2.isEmpty=false→okB m.2=true∧0<(parseL m.2).getD 0∧Fitd 12 ((parseL m.2).getD 0)):=fun m hmm=>by
  have a:=List.all_eq_true.1 f2 m hmm
  have b:=List.all_eq_true.1 hv.2 m hmm
  unfold mvFit mvFit1 at a
  simp only [Bool.and_eq_true,decide_eq_true_eq,beq_iff_eq,Bool.or_eq_true] at a b
  refine ⟨a.1.1,a.1.2,fun he=>?_⟩
  have hb:okB m.2=true:=by rcases b with b | b; rw [b] at he; exact absurd he (by decide); exact b
  have ha:(match parseL m.2 with | some q=>mvFit2 q | none=>true)=true:=by rcases a.2 with b | b; rw [b] at he; exact absurd he (by decide); exact b
  rw [okBq hb] at ha
  unfold mvFit2 at ha
  simp only [Bool.and_eq_true,decide_eq_true_eq] at ha
  exact ⟨hb,ha⟩
 have hk:n.kind=1∨n.kind=2∨n.kind=3:=by
  unfold kindF at f4
  simp only [Bool.or_eq_true,Bool.and_eq_true,decide_eq_true_eq] at f4
  omega
 have hto:nv (n.mv.map (·.1.toNat))=tosI n.mv:=by
  unfold nv tosI
  rw [List.map_map]
  exact List.map_congr_left fun m hmm=>by have:=(hm m hmm).1; simp; omega
 have h3:n.kind=3→n.mv.filter hasO=n.mv:=fun h=>List.filter_eq_self.2 fun m hmm=>by
  have:=(hm m hmm).2.1
  rw [h] at this
  unfold hasO
  rw [this]; rfl
 have hodds:(oddsT n.mv).map AV.agg=condsR (oddsQ n.mv):=by
  unfold oddsT oddsQ condsR
  rw [List.map_map,List.map_map]
  refine List.map_congr_left fun m hmm=>?_
  have hmm':=List.mem_filter.1 hmm
  have he:m.2.isEmpty=false:=by have:=hmm'.2; unfold hasO at this; simpa using this
  show AV.agg (tc m.2)=avQ _
  rw [tc_q (hl.2.2 m hmm'.1) ((hm m hmm'.1).2.2 he).1,Zaw]
 have hoq:∀ q,q∈oddsQ n.mv→0<q∧Qb 40 q:=fun q hq=>by
  obtain ⟨m,hmm,rfl⟩:=List.mem_map.1 hq
  have hmm':=List.mem_filter.1 hmm
  have he:m.2.isEmpty=false:=by have:=hmm'.2; unfold hasO at this; simpa using this
  obtain ⟨_,a,b⟩:=(hm m hmm'.1).2.2 he
  exact ⟨a,Ym7 b⟩
 have hlen3:n.kind=3→(oddsQ n.mv).length=n.mv.length:=fun h=>by unfold oddsQ; rw [List.length_map,h3 h]
 refine ⟨?_,⟨?_,?_,?_,?_,?_⟩,fun h=>⟨fun q hq=>Rat.le_of_lt (hoq q hq).1,?_⟩⟩
 ·unfold gN gnAV toGN
  simp only [hto,hodds]
  rcases hk with h | h | h <;> simp [h]
 ·show n.kind.toNat=1∨n.kind.toNat=2∨n.kind.toNat=3; omega
 ·show 0<(n.mv.map _).length; rw [List.length_map]; omega
 ·show (n.mv.map _).length≤6; rw [List.length_map]; omega
 ·intro x hx
  obtain ⟨m,hmm,rfl⟩:=List.mem_map.1 hx
  have:=(hm m hmm).1
  omega
 ·intro h
  have h':n.kind=3:=by have:n.kind.toNat=3:=h; omega
  refine ⟨?_,fun q hq=>(hoq q hq).2⟩
  show (oddsQ n.mv).length=(n.mv.map _).length
  rw [List.length_map,hlen3 h']
 ·have h':n.kind=3:=by have:n.kind.toNat=3:=h; omega
  show sumO (oddsQ n.mv) (n.mv.map _).length=1
  rw [List.length_map, ← hlen3 h', ← Yk0 _ rfl hv.2]
  unfold kindF at f4
  simpa [h'] using f4
theorem Xg1 {L:List Nd}{d:List UInt8}(hv:(L.all ndVa && okB d)=true) (hf:gFit L d=true) (hd:d.length≤23) (hok:∀ n,n∈L→n.rew.length≤23∧n.mv.length≤7∧∀ m,m∈n.mv→m.2.length≤23) :
  (.sl (nodesT L) :: .sl ((rowT L).map .agg)::tc d)=gmC (toGm L d)∧GmP (toGm L d):=by
 rw [Bool.and_eq_true] at hv
 unfold gFit disF at hf
 simp only [Bool.and_eq_true,decide_eq_true_eq] at hf
 obtain ⟨⟨h1,h2⟩,h3,h4⟩:=hf
 rw [okBq hv.2] at h4
 simp only [Bool.and_eq_true,decide_eq_true_eq] at h4
 have hn:∀ n,n∈L→_:=fun n hn=>Xfx (N:=L.length) (List.all_eq_true.1 hv.1 n hn) (List.all_eq_true.1 h2 n hn) (hok n hn)
 have hvn:∀ n,n∈L→okB n.rew=true∧smallB n.rew=true:=fun n hn=>by
  have a:=List.all_eq_true.1 hv.1 n hn
  have b:=List.all_eq_true.1 h2 n hn
  unfold ndVa at a
  unfold ndFi at b
  simp only [Bool.and_eq_true,decide_eq_true_eq] at a b
  exact ⟨a.1,b.1.1.1⟩
 refine ⟨?_,⟨⟨?_,?_,?_,?_,?_⟩,h4.1,h4.2,?_⟩⟩
 ·unfold gmC toGm
  congr 1
  ·congr 1
   unfold nodesT
   rw [List.map_map,List.flatMap_def]
   rw [show L.map gN=(L.map (gnAV ∘ toGN)).map (fun x => [x]) by rw [List.map_map]; exact List.map_congr_left fun n h=>(hn n h).1]
   rw [← List.flatMap_def]; simp
  ·congr 1
   ·congr 1
    unfold rowT condsR
    rw [List.map_map,List.map_map]
    refine List.map_congr_left fun n h=>?_
    show AV.agg (tc n.rew)=avQ _
    rw [tc_q (hok n h).1 (hvn n h).1,Zaw]
   ·exact tc_q hd hv.2
 ·show (L.map toGN).length≤10; rw [List.length_map]; omega
 ·show (L.map _).length=(L.map toGN).length; rw [List.length_map,List.length_map]
 ·intro x hx
  obtain ⟨n,h,rfl⟩:=List.mem_map.1 hx
  show GnOk (L.map toGN).length _
  rw [List.length_map]
  exact (hn n h).2.1
 ·intro q hq
  obtain ⟨n,h,rfl⟩:=List.mem_map.1 hq
  exact Ym7 (Ygq (hvn n h).2)
 ·exact Ym7 (Ygq h3)
 ·intro x hx h3
  obtain ⟨n,h,rfl⟩:=List.mem_map.1 hx
  exact (hn n h).2.2 h3
end GoAbs
namespace GoAbs
open Go Go.Proofs
def Z4f:List IOp := [oI 4 (.mv (.c .nils)) 0,oI 5 (.mv (.c (.bool false))) 0]
def Z2u:List IOp := [oI 11 (.bsl none 0 [.int .i64 0] []) 0,oI 12 (.bsl none 1 [.nils] [(0,.t 11)]) 1,mI 6 12 2]
def Z1w:List IOp := [oI 7 (.mv (cI 0)) 0]
def Zog:List IOp := [mI 13 7 0,mI 14 0 0,oI 15 (.len (.t 14)) 0,oI 16 (.bin .lss (.t 13) (.t 15)) 0]
def Z3g:List IOp := [oI 19 (.bsl none 0 [.nils] []) 0,mI 8 19 1]
def Z13:List IOp := [oI 9 (.mv (cI 0)) 0]
def Zjl:List IOp := [mI 20 9 0,mI 21 6 0,oI 22 (.len (.t 21)) 0,oI 23 (.bin .lss (.t 20) (.t 22)) 0]
def Zpm:List IOp := [mI 26 0 0,mI 27 7 0,xI 28 3 26 27 0,fI 29 0 28 0,lI 30 29 0,oI 31 (.bin .eql (.t 30) (cI 3)) 0]
def Z4d:List IOp := [mI 32 8 0,oI 33 (.bsl none 0 [.int .i64 0] []) 0,mI 34 6 1,mI 35 9 1,xI 36 1 34 35 1,lI 37 36 1,oI 38 (.app none 8 (.t 33) (.t 37)) 1,oI 39 (.bsl none 1 [.int .i64 0] [(0,cI (-1))]) 2,oI 40 (.app none 8 (.t 38) (.t 39)) 3,oI 41 (.bsl none 1 [.nils] [(0,.t 40)]) 4,oI 42 (.app none 24 (.t 32) (.t 41)) 5,mI 8 42 6]
def Zze:List IOp := [oI 10 (.mv (cI 0)) 0]
def Zm4:List IOp := [mI 43 10 0,mI 44 0 0,mI 45 7 0,xI 46 3 44 45 0,fI 47 2 46 0,lI 48 47 0,oI 49 (.len (.t 48)) 0,oI 50 (.bin .lss (.t 43) (.t 49)) 0]
def Zyj:List IOp := [mI 53 8 0,oI 54 (.bsl none 0 [.int .i64 0] []) 0,mI 55 6 1,mI 56 9 1,xI 57 1 55 56 1,lI 58 57 1,oI 59 (.app none 8 (.t 54) (.t 58)) 1,mI 60 10 2,oI 61 (.bsl none 1 [.int .i64 0] [(0,.t 60)]) 2,oI 62 (.app none 8 (.t 59) (.t 61)) 3,oI 63 (.bsl none 1 [.nils] [(0,.t 62)]) 4,oI 64 (.app none 24 (.t 53) (.t 63)) 5,mI 8 64 6]
def Zxs:List IOp := [mI 51 10 0,oI 52 (.bin .add (.t 51) (cI 1)) 0,mI 10 52 0]
def Zp4:CC := .seq (.seq (.rg false Zm4) (.cond (.t 50) .skip (.exit 4))) (.seq (.block 5 (.rg false Zyj)) (.rg false Zxs))
def Znf:List IOp := [mI 24 9 0,oI 25 (.bin .add (.t 24) (cI 1)) 0,mI 9 25 0]
def Zqx:CC := .seq (.seq (.rg false Zjl) (.cond (.t 23) .skip (.exit 2))) (.seq (.block 3 (.seq (.seq (.rg false Zpm) (.cond (.t 31) (.seq (.rg false Z4d) (.exit 3)) .skip)) (.seq (.rg false Zze) (.block 4 (.loop Zp4))))) (.rg false Znf))
def Znc:List IOp := [mI 65 8 0,oI 66 (.len (.t 65)) 0,mI 67 1 0,oI 68 (.bin .gtr (.t 66) (.t 67)) 0]
def Zy9:List IOp := [oI 4 (.mv (.c .nils)) 0,oI 5 (.mv (.c (.bool false))) 0]
def Zzb:List IOp := [mI 69 8 0,mI 6 69 0]
def Zxo:List IOp := [mI 17 7 0,oI 18 (.bin .add (.t 17) (cI 1)) 0,mI 7 18 0]
def Z3d:CC := .seq (.seq (.rg false Zog) (.cond (.t 16) .skip (.exit 0))) (.seq (.block 1 (.seq (.rg false Z3g) (.seq (.seq (.rg false Z13) (.block 2 (.loop Zqx))) (.seq (.seq (.rg false Znc) (.cond (.t 68) (.seq (.rg false Zy9) .ret) .skip)) (.rg false Zzb))))) (.rg false Zxo))
def Zzg:List IOp := [mI 70 6 0,mI 4 70 0,oI 5 (.mv (.c (.bool true))) 0]
def Yfw:CC := .seq (.rg false Z4f) (.seq (.rg false Z2u) (.seq (.seq (.rg false Z1w) (.block 0 (.loop Z3d))) (.seq (.rg false Zzg) .ret)))
abbrev Ynf:Nat:=41
theorem Yki:fnOk Tryz.prog 41=some (71,Yfw,[.tmp 4,.tmp 5]):=by kernel_rfl
def Ym2:List IOp := [mI 17 0 0,mI 18 5 0,xI 19 1 17 18 0,lI 20 19 0,mI 21 1 0,mI 22 5 0,xI 23 1 21 22 0,lI 24 23 0,oI 25 (.bin .neq (.t 20) (.t 24)) 0]
@[go_sem ↓] theorem Yef : autoK Ym2 = (0, 0) := by kernel_rfl
@[go_sem] theorem Yz4 : autoK [mI 17 0 0, mI 18 5 0, xI 19 1 17 18 0, lI 20 19 0, mI 21 1 0, mI 22 5 0, xI 23 1 21 22 0, lI 24 23 0, oI 25 (.bin .neq (.t 20) (.t 24)) 0] = (0, 0) := Yef
end GoAbs
namespace GoAbs
open Go Go.Proofs
set_option maxHeartbeats 4000000
end GoAbs
namespace GoAbs
open Go Go.Proofs
set_option maxHeartbeats 4000000
theorem rvalid' {l:List UInt8}(hlen:l.length≤1000000000):SpecV Tryz.prog Ya2 [.str (bs l)] (.bool (okB l)):=rvalid hlen
end GoAbs
namespace GoAbs
open Go Go.Proofs
open Classical in
noncomputable def cntP {α:Type} (L:List α) (P:α→Prop):Nat:=L.countP (fun x=>decide (P x))
theorem Yxt {α:Type}{P Q:α→Prop}:∀ {L:List α},(∀ x,x∈L→P x→Q x)→cntP L P≤cntP L Q
 | [],_=>Nat.le_refl _
 | x::L,h=>by
  have ih:=Yxt (P:=P) (Q:=Q) (L:=L) (fun y hy=>h y (List.mem_cons_of_mem _ hy))
  have hx:=h x List.mem_cons_self
  unfold cntP at *
  rw [List.countP_cons,List.countP_cons]
  by_cases hp:P x
  ·simp only [hp,hx hp,decide_true,if_true]; omega
  ·by_cases hq:Q x <;> simp [hp,hq] <;> omega
theorem Yw7 {α:Type}{P Q:α→Prop}:∀ {L:List α},(∀ x,x∈L→P x→Q x)→(∃ x,x∈L∧Q x∧¬ P x)→cntP L P<cntP L Q
 | [],_,h=>by obtain ⟨x,hx,_⟩:=h; simp at hx
 | x::L,h,⟨y,hy,hq,hp⟩=>by
  have hL:=fun y hy=>h y (List.mem_cons_of_mem x hy)
  have hx:=h x List.mem_cons_self
  rcases List.mem_cons.1 hy with rfl | hy
  ·have ih:=Yxt (P:=P) (Q:=Q) hL
   unfold cntP at *
   rw [List.countP_cons,List.countP_cons]
   simp [hp,hq]; omega
  ·have ih:=Yw7 (P:=P) (Q:=Q) hL ⟨y,hy,hq,hp⟩
   unfold cntP at *
   rw [List.countP_cons,List.countP_cons]
   by_cases hp:P x
   ·simp only [hp,hx hp,decide_true,if_true]; omega
   ·by_cases hq:Q x <;> simp [hp,hq] <;> omega
def allP:List GN→List (List Int)
 | [] => [[]]
 | x::r=>(List.range x.to.length).flatMap fun (k:Nat)=>(allP r).map fun q=>(k:Int)::q
theorem Yqd:∀ {ns:List GN}{p:List Int},p.length=ns.length→(∀ i,i<ns.length→0≤p.getD i 0∧p.getD i 0<((ns.getD i default).to.length:Int))→p∈allP ns
 | [],p,hl,_=>by
  cases p with
  | nil=>simp [allP]
  | cons a p=>simp at hl
 | x::r,p,hl,h=>by
  cases p with
  | nil=>simp at hl
  | cons a p =>
   have h0:=h 0 (by simp)
   have ht:=Yqd (ns:=r) (p:=p) (by simpa using hl) (fun i hi=>by
    have:=h (i+1) (by simp; omega)
    simpa using this)
   simp at h0
   unfold allP
   rw [List.mem_flatMap]
   refine ⟨a.toNat,by rw [List.mem_range]; omega,?_⟩
   rw [List.mem_map]
   exact ⟨p,ht,by rw [Int.toNat_of_nonneg h0.1]⟩
theorem POk0.mem {g:Gm}{p:List Int}(h:POk0 g p):p∈allP g.nodes:=Yqd h.1 h.2
theorem Xab {a:Rat}{who:Nat}:cmpR a a≠sgn who:=by
 unfold cmpR sgn
 rw [if_neg (by grind),if_neg (by grind)]
 split <;> decide
theorem Ysl {g:Gm}{v:List Rat}{who:Nat}{p:List Int}:betC g v who (betP g v who p)=false:=by
 unfold betC
 rw [List.any_eq_false]
 intro i hi
 have hi:i<g.nodes.length:=by simpa using hi
 have e:pget (betP g v who p) i=if bet1 g v who p i=true then bestA v (nodeAt g i).to (sgn who) else pget p i:=by
  unfold pget
  rw [Zoy hi]
  unfold betI
  split <;> simp
 by_cases hb:bet1 g v who p i=true
 ·rw [if_pos hb] at e
  unfold bet1
  rw [e]
  simp [Xab]
 ·rw [if_neg hb] at e
  have:bet1 g v who (betP g v who p) i=bet1 g v who p i:=by unfold bet1; rw [e]
  rw [this]
  exact hb
theorem Yyb {g:Gm}(hd:g.d=0) {p:List Int}{v:List Rat}(h:PVal g p v) (hr:g.rew.length=g.nodes.length):v=g.rew:=by
 refine Z81 (by rw [h.1,hr]) (fun i hi=>?_)
 rw [h.2 i (by omega)]
 unfold planV
 rw [hd]; grind
open Classical in
noncomputable def mIn (g:Gm) (V:List Int→List Rat) (p:List Int):Nat :=
 2*cntP (allP g.nodes) (fun q=>Ltv g.nodes.length (V q) (V p))+(if betC g (V p) 2 p=true then 1 else 0)
theorem Xdd {g:Gm}(hg:GmP g) (h:g.d≠0):0<g.d:=by have:=hg.d0; grind
theorem Xd8 {g:Gm}(hg:GmP g) {V:List Int→List Rat}(hV:∀ q,POk0 g q→PVal g q (V q)) {p:List Int}(hp:POk0 g p) (hc:betC g (V p) 2 p=true):mIn g V (betP g (V p) 2 p)<mIn g V p:=by
 have hq:=Yag hg (v:=V p) (who:=2) hp
 unfold mIn
 rw [if_pos hc]
 by_cases hd:g.d=0
 ·have e1:=Yyb hd (hV p hp) hg.ok.rew
  have e2:=Yyb hd (hV _ hq) hg.ok.rew
  have hi:=Ysl (g:=g) (v:=V p) (who:=2) (p:=p)
  rw [e2,e1] at *
  rw [if_neg (by rw [hi]; decide)]
  omega
 ·have hl:=better2 hg hp (hV p hp) (Xdd hg hd) hc (hV _ hq)
  have:=Yw7 (L:=allP g.nodes) (P:=fun q=>Ltv g.nodes.length (V q) (V (betP g (V p) 2 p))) (Q:=fun q=>Ltv g.nodes.length (V q) (V p)) (fun q _ h=>h.trans hl) ⟨_,hq.mem,hl,fun h=>h.irrefl⟩
  split <;> omega
def Abv (g:Gm) (u:Option (List Rat)) (w:List Rat):Prop:=g.d=0∨match u with | none=>True | some u=>Ltv g.nodes.length u w
noncomputable def mOut (g:Gm) (V:List Int→List Rat) (s:Option (List Rat)×List Int):Nat :=
 2*cntP (allP g.nodes) (fun q=>Abv g s.1 (V q))+(if betC g g.rew 1 s.2=true then 1 else 0)
def OutI (g:Gm) (V:List Int→List Rat) (s:Option (List Rat)×List Int):Prop:=POk0 g s.2∧∀ q,POk0 g q→Same1 g q s.2→Abv g s.1 (V q)
theorem Yu8 {g:Gm}{v:List Rat}{p q:List Int}(h:Same1 g p q):betC g v 1 p=betC g v 1 q:=by
 unfold betC
 rw [Bool.eq_iff_iff,List.any_eq_true,List.any_eq_true]
 have e:∀ i,i<g.nodes.length→bet1 g v 1 p i=bet1 g v 1 q i:=fun i hi=>by
  unfold bet1
  by_cases h1:(nodeAt g i).kind=1
  ·unfold pget; rw [h i hi h1]
  ·simp [h1]
 constructor
 ·rintro ⟨i,hi,hb⟩
  exact ⟨i,hi,by rw [← e i (by simpa using hi)]; exact hb⟩
 ·rintro ⟨i,hi,hb⟩
  exact ⟨i,hi,by rw [e i (by simpa using hi)]; exact hb⟩
theorem Y6q {g:Gm}(hg:GmP g) {V:List Int→List Rat}(hV:∀ q,POk0 g q→PVal g q (V q)) {s:Option (List Rat)×List Int}(hs:OutI g V s) {p:List Int}(hp:POk0 g p) (hsm:Same1 g p s.2) (h2:betC g (V p) 2 p=false) (h1:betC g (V p) 1 p=true) :
  OutI g V (some (V p),betP g (V p) 1 p)∧mOut g V (some (V p),betP g (V p) 1 p)<mOut g V s:=by
 have hq:=Yag hg (v:=V p) (who:=1) hp
 by_cases hd:g.d=0
 ·have e1:=Yyb hd (hV p hp) hg.ok.rew
  refine ⟨⟨hq,fun q _ _ => .inl hd⟩,?_⟩
  have hi:=Ysl (g:=g) (v:=V p) (who:=1) (p:=p)
  have hb:betC g g.rew 1 s.2=true:=by rw [← Yu8 hsm, ← e1]; exact h1
  unfold mOut
  rw [if_pos hb]
  have hi':betC g g.rew 1 (betP g (V p) 1 p)=false:=by rw [← e1]; exact hi
  rw [show (some (V p),betP g (V p) 1 p).2=betP g (V p) 1 p from rfl,if_neg (by rw [hi']; decide)]
  have:=Yxt (L:=allP g.nodes) (P:=fun q=>Abv g (some (V p),betP g (V p) 1 p).1 (V q)) (Q:=fun q=>Abv g s.1 (V q)) (fun q _ _ => .inl hd)
  omega
 ·have hdp:=Xdd hg hd
  refine ⟨⟨hq,fun q hq hs => .inr (better1 hg hp (hV p hp) hdp h2 h1 hq hs (hV q hq))⟩,?_⟩
  have ha:=hs.2 p hp hsm
  have:=Yw7 (L:=allP g.nodes) (P:=fun q=>Abv g (some (V p),betP g (V p) 1 p).1 (V q)) (Q:=fun q=>Abv g s.1 (V q)) (fun q _ h=>by
    refine h.elim (fun h=>absurd h hd) (fun h=>?_)
    refine ha.elim (fun h=>absurd h hd) (fun ha => .inr ?_)
    cases hu:s.1 with
    | none=>trivial
    | some u=>rw [hu] at ha; exact Ltv.trans ha h) ⟨p,hp.mem,ha,fun h=>h.elim (fun h=>hd h) (fun h=>Ltv.irrefl h)⟩
  unfold mOut
  split <;> omega
end GoAbs
namespace GoAbs
open Go Go.Proofs
def Dom (m c k:Nat) (M:RM):Prop:=∀ i,c≤i→i<m→(∀ j,c≤j→j<m→j≠i→mget M i j≤0)∧0<sumL (List.range' (c+1) k) (fun j=>mget M i (j - 1))
theorem Yd7 {R:List Nat}{f:Nat→Rat}(h:∀ i,i∈R→f i≤0):sumL R f≤0:=by
 have h1:=Ypn (R:=R) (f:=fun i => -1*f i) (fun i hi=>by have:=h i hi; grind)
 rw [Zgd] at h1
 grind
theorem Yv1 {R:List Nat}{f:Nat→Rat}{a:Nat}(hn:R.Nodup) (ha:a∈R) (h:∀ i,i∈R→i≠a→f i≤0):sumL R f≤f a:=by
 induction R with
 | nil=>simp at ha
 | cons b R ih =>
  rw [List.nodup_cons] at hn
  rw [Zas]
  rcases List.mem_cons.1 ha with rfl | ha'
  ·have:=Yd7 (R:=R) (f:=f) (fun i hi=>h i (List.mem_cons_of_mem _ hi) (fun e=>hn.1 (e ▸ hi)))
   grind
  ·have h1:=ih hn.2 ha' (fun i hi=>h i (List.mem_cons_of_mem _ hi))
   have h2:=h b List.mem_cons_self (fun e=>hn.1 (e ▸ ha'))
   grind
theorem Dom.pos {m c k:Nat}{M:RM}(h:Dom m c k M) (hk:c+k=m) {i:Nat}(h1:c≤i) (h2:i<m):0<mget M i i:=by
 obtain ⟨a,b⟩:=h i h1 h2
 have:=Yv1 (R:=List.range' (c+1) k) (f:=fun j=>mget M i (j - 1)) (a:=i+1) List.nodup_range' (by rw [List.mem_range'_1]; omega) (fun j hj hne=>by
  have hj':=List.mem_range'_1.1 hj
  exact a (j - 1) (by omega) (by omega) (by omega))
 rw [Nat.add_sub_cancel] at this
 grind
theorem Xfr {a b:Rat}(ha:a≤0) (hb:0<b):a / b≤0:=by
 have h1:=Rat.inv_pos.2 hb
 have:=Rat.mul_nonneg (show 0 ≤ -a by grind) (Rat.le_of_lt h1)
 rw [Rat.div_def]
 grind
theorem Dom.elim {m c k:Nat}{M:RM}(h:Dom m c (k+1) M) (hk:c+(k+1)=m) (hM:M.length=m) (hW:Wid (m+1) M):Dom m (c+1) k (elimCol M c M.length):=fun i h1 h2=>by
 have hp:=h.pos hk (Nat.le_refl c) (by omega)
 have h0:mget M c c≠0:=fun e=>by rw [e] at hp; exact absurd hp (by decide)
 obtain ⟨a,b⟩:=h i (by omega) h2
 obtain ⟨a',b'⟩:=h c (Nat.le_refl _) (by omega)
 have hq:=Xfr (a c (Nat.le_refl _) (by omega) (by omega)) hp
 refine ⟨fun j hj hjm hji=>?_,?_⟩
 ·rw [Z2i hW (by omega) (by omega) (by omega) (by omega) h0]
  have x1:=a j (by omega) hjm hji
  have x2:=a' j (by omega) hjm (by omega)
  have x3:=Rat.mul_nonneg (show 0 ≤ -(mget M i c / mget M c c) by grind) (show 0 ≤ -mget M c j by grind)
  have x4:mget M i c*mget M c j / mget M c c=mget M i c / mget M c c*mget M c j:=by grind
  grind
 ·have e1:sumL (List.range' (c+1+1) k) (fun j=>mget (elimCol M c M.length) i (j - 1))=sumL (List.range' (c+1+1) k) (fun j=>mget M i (j - 1))+(-(mget M i c / mget M c c))*sumL (List.range' (c+1+1) k) (fun j=>mget M c (j - 1)):=by
   rw [← Zgd, ← Z2q]
   refine Zbb (fun j hj=>?_)
   have hj':=List.mem_range'_1.1 hj
   rw [Z2i hW (by omega) (by omega) (by omega) (by omega) h0]
   grind
  rw [e1]
  rw [List.range'_succ,Zas,Nat.add_sub_cancel] at b b'
  have x1:=Rat.mul_nonneg (show 0 ≤ -(mget M i c / mget M c c) by grind) (Rat.le_of_lt b')
  have x2:mget M i c / mget M c c*mget M c c=mget M i c:=by grind
  generalize sumL (List.range' (c+1+1) k) (fun j=>mget M i (j - 1))=s at *
  generalize sumL (List.range' (c+1+1) k) (fun j=>mget M c (j - 1))=t at *
  generalize mget M i c / mget M c c=q at *
  grind
theorem Yxb {m:Nat}:∀ {k c:Nat}{M:RM}{d:Rat},c+k=m→M.length=m→Wid (m+1) M→Dom m c k M →
  NoSw k c M∧(∀ i,c≤i→i<m→mget (tri k c M d).2 i i≠0)∧Wid (m+1) (tri k c M d).2 ∧
  ∀ x:Nat→Rat,(∀ i,c≤i→i<m→sumL (List.range' (i+1) (m - i)) (fun j=>x j*mget (tri k c M d).2 i (j - 1))=mget (tri k c M d).2 i m) →
   ∀ i,c≤i→i<m→sumL (List.range' (c+1) k) (fun j=>x j*mget M i (j - 1))=mget M i m
 | 0,c,M,d,hk,_,hW,_=>⟨trivial,fun i h1 h2=>by omega,hW,fun _ _ i h1 h2=>by omega⟩
 | k+1,c,M,d,hk,hM,hW,hD=>by
  have hp:=hD.pos hk (Nat.le_refl c) (by omega)
  have h0:mget M c c≠0:=fun e=>by rw [e] at hp; exact absurd hp (by decide)
  obtain ⟨i1,i2,i3,i4⟩:=Yxb (m:=m) (k:=k) (c:=c+1) (M:=elimCol M c M.length) (d:=d*mget M c c) (by omega) (by rw [Zbf,hM]) hW.elim (hD.elim hk hM hW)
  unfold tri NoSw
  rw [if_neg h0]
  refine ⟨⟨fun h=>absurd h h0,fun _=>i1⟩,fun i h1 h2=>?_,i3,fun x hx=>?_⟩
  ·by_cases hi:i=c
   ·rw [hi,Yj8 (by omega),Zh8 (by omega)]; exact h0
   ·exact i2 i (by omega) h2
  ·have ih:=i4 x (fun i h1 h2=>hx i (by omega) h2)
   have hc:=hx c (by omega) (by omega)
   rw [show m - c=k+1 by omega,List.range'_succ,Zas,Yj8 (by omega),Yj8 (by omega),Zh8 (by omega),Zh8 (by omega)] at hc
   have hcs:sumL (List.range' (c+1+1) k) (fun j=>x j*mget (tri k (c+1) (elimCol M c M.length) (d*mget M c c)).2 c (j - 1))=sumL (List.range' (c+1+1) k) (fun j=>x j*mget M c (j - 1)) :=
    Zbb (fun j _=>by rw [Yj8 (by omega),Zh8 (by omega)])
   rw [hcs] at hc
   intro i h1 h2
   rw [List.range'_succ,Zas]
   rw [Nat.add_sub_cancel] at hc ⊢
   by_cases hi:i=c
   ·rw [hi]; exact hc
   ·have hm:=ih i (by omega) h2
    have e1:sumL (List.range' (c+1+1) k) (fun j=>x j*mget (elimCol M c M.length) i (j - 1))=sumL (List.range' (c+1+1) k) (fun j=>x j*mget M i (j - 1))+(-(mget M i c / mget M c c))*sumL (List.range' (c+1+1) k) (fun j=>x j*mget M c (j - 1)):=by
     rw [← Zgd, ← Z2q]
     refine Zbb (fun j hj=>?_)
     have hj':=List.mem_range'_1.1 hj
     rw [Z2i hW (by omega) (by omega) (by omega) (by omega) h0]
     grind
    rw [e1,Z2i hW (by omega) (by omega) (by omega) (by omega) h0] at hm
    generalize sumL (List.range' (c+1+1) k) (fun j=>x j*mget M i (j - 1))=s at *
    generalize sumL (List.range' (c+1+1) k) (fun j=>x j*mget M c (j - 1))=t at *
    have ht:t=mget M c m - x (c+1)*mget M c c:=by grind
    rw [ht] at hm
    grind
def solvR (n:Nat) (M:RM) (r:List Rat):List Rat:=bsub (tri n 0 (aug M r) 1).2 n n
theorem Yam {n:Nat}{M:RM}{r:List Rat}(hM:M.length=n) (hW:Wid n M) (hr:r.length=n) (hD:Dom n 0 n M) :
  NoSw n 0 (aug M r)∧(∀ i,i<n→rget ((tri n 0 (aug M r) 1).2.getD i []) i≠0)∧Wid (n+1) (tri n 0 (aug M r) 1).2 ∧
  (solvR n M r).length=n∧∀ i,i<n→sumL (List.range n) (fun j=>rget (solvR n M r) j*mget M i j)=rget r i:=by
 have hm:=fun i (hi:i<n)=>Y5g hM hW hr hi
 have hD':Dom n 0 n (aug M r):=fun i h1 h2=>by
  obtain ⟨a,b⟩:=hD i h1 h2
  refine ⟨fun j hj hjn hji=>by rw [(hm i h2).1 j hjn]; exact a j hj hjn hji,?_⟩
  rw [Zbb (g:=fun j=>mget M i (j - 1)) (fun j hj=>by
   have hj':=List.mem_range'_1.1 hj
   exact (hm i h2).1 (j - 1) (by omega))]
  exact b
 obtain ⟨a1,a2,a3,a4⟩:=Yxb (m:=n) (k:=n) (c:=0) (M:=aug M r) (d:=1) (by omega) (by rw [Yaz (by omega),hM]) (Ypc hW) hD'
 refine ⟨a1,fun i hi=>a2 i (by omega) hi,a3,Zwx n,fun i hi=>?_⟩
 have h:=a4 (solX (tri n 0 (aug M r) 1).2 n) (fun i _ hi=>Y22 (n:=n) (fun i hi=>a2 i (by omega) hi) i hi) i (by omega) hi
 rw [(hm i hi).2] at h
 rw [← h,List.range'_eq_map_range,Z97]
 refine Zbb (fun j hj=>?_)
 have hj':=List.mem_range.1 hj
 rw [show 0+1+j=j+1 by omega,Ybf,Nat.add_sub_cancel,(hm i hi).1 j hj']
 rfl
end GoAbs
namespace GoAbs
open Go Go.Proofs
def addOdds (d:Rat) (i:Nat) (odds:List Rat) (to:List Nat):Nat→RM→RM
 | 0,M=>M
 | k+1,M=>addAt (addOdds d i odds to k M) i (to.getD k 0) (-(d*rget odds k))
def nodeM (g:Gm) (p:List Int) (M:RM) (i:Nat):RM :=
 if (nodeAt g i).kind=3 then addOdds g.d i (nodeAt g i).odds (nodeAt g i).to (nodeAt g i).to.length (addAt M i i 1) else addAt (addAt M i i 1) i ((nodeAt g i).to.getD (pget p i) 0) (-g.d)
def planM (g:Gm) (p:List Int):Nat→RM
 | 0=>List.replicate g.nodes.length (List.replicate g.nodes.length 0)
 | i+1=>nodeM g p (planM g p i) i
structure Pm (n:Nat) (M:RM):Prop where
 len:M.length=n
 wid:Wid n M
 np:∀ i j,i≠j→mget M i j≤0
def rdot (n:Nat) (M:RM) (i:Nat) (v:List Rat):Rat:=sumL (List.range n) (fun j=>rget v j*mget M i j)
theorem Pm.add {n:Nat}{M:RM}(h:Pm n M) {i j:Nat}{x:Rat}(hi:i<n) (hj:j<n) (hx:i=j∨x≤0):Pm n (addAt M i j x):=by
 refine ⟨by rw [Zec,h.len],h.wid.addAt,fun a b hab=>?_⟩
 rw [Z5r h.wid (by rw [h.len]; exact hi) hj]
 have:=h.np a b hab
 split
 ·rename_i he
  rcases hx with e | hx
  ·exact absurd (he.1.trans (e.trans he.2.symm)) hab
  ·grind
 ·grind
theorem Yi2 {n:Nat}{M:RM}(h:Pm n M) {i j a:Nat}{x:Rat}{v:List Rat}(hi:i<n) (hj:j<n):rdot n (addAt M i j x) a v=rdot n M a v+if a=i then rget v j*x else 0:=by
 unfold rdot
 have e:∀ b,rget v b*mget (addAt M i j x) a b=rget v b*mget M a b+(if a=i then x else 0)*((if b=j then 1 else 0)*rget v b):=fun b=>by
  rw [Z5r h.wid (by rw [h.len]; exact hi) hj]
  by_cases h1:a=i <;> by_cases h2:b=j <;> simp [h1,h2] <;> grind
 rw [Zbb (fun b _=>e b),Z2q,Zgd,Yzh List.nodup_range,if_pos (List.mem_range.2 hj)]
 split <;> grind
theorem Yfo {n i:Nat}{d:Rat}{odds:List Rat}{to:List Nat}(d0:0≤d) (hi:i<n) (ho:∀ t,t<to.length→0≤rget odds t) (hto:∀ x,x∈to→x<n):∀ {k:Nat}{M:RM},k≤to.length→Pm n M →
  Pm n (addOdds d i odds to k M)∧∀ a v,rdot n (addOdds d i odds to k M) a v=rdot n M a v - if a=i then d*dotW odds v to k else 0
 | 0,M,_,h=>⟨h,fun a v=>by unfold addOdds dotW; split <;> grind⟩
 | k+1,M,hk,h=>by
  obtain ⟨h1,h2⟩:=Yfo (n:=n) (i:=i) (d:=d) (odds:=odds) (to:=to) d0 hi ho hto (k:=k) (M:=M) (by omega) h
  have ht:=hto _ (Zcy (to:=to) (k:=k) (by omega))
  have hx:=Rat.mul_nonneg d0 (ho k (by omega))
  unfold addOdds
  refine ⟨h1.add hi ht (.inr (by grind)),fun a v=>?_⟩
  rw [Yi2 h1 hi ht,h2]
  simp only [dotW]
  split <;> grind
theorem Y4w {g:Gm}(hg:GmP g) {p:List Int}(hp:POk g p) {M:RM}{i:Nat}(hi:i<g.nodes.length) (h:Pm g.nodes.length M) :
  Pm g.nodes.length (nodeM g p M i)∧∀ a v,rdot g.nodes.length (nodeM g p M i) a v=rdot g.nodes.length M a v+if a=i then rget v i - g.d*worthP (nodeAt g i) (pget p i) v else 0:=by
 have hx:=Zbe hi
 have hok:=hg.ok.node _ hx
 have hlt:=hp.lt hi
 have hod:=hg.odds _ hx
 have d0:=hg.d0
 unfold nodeM
 generalize nodeAt g i=x at *
 have h1:=h.add (x:=1) hi hi (.inl rfl)
 have r1:=fun a v=>Yi2 (x:=1) (a:=a) (v:=v) h hi hi
 split
 ·rename_i h3
  have ho:=(hok.odds h3).1
  obtain ⟨a1,a2⟩:=Yfo (n:=g.nodes.length) (i:=i) (d:=g.d) (odds:=x.odds) (to:=x.to) d0 hi (fun t ht=>(hod h3).1 _ (List.mem_of_getElem? (Zak (by omega)))) hok.lt (k:=x.to.length) (Nat.le_refl _) h1
  refine ⟨a1,fun a v=>?_⟩
  rw [a2,r1]
  unfold worthP
  rw [if_pos h3]
  split <;> grind
 ·rename_i h3
  have ht:=hok.lt _ (Zcy (hlt h3))
  refine ⟨h1.add hi ht (.inr (by grind)),fun a v=>?_⟩
  rw [Yi2 h1 hi ht,r1]
  unfold worthP
  rw [if_neg h3]
  split <;> grind
theorem Yad {g:Gm}(hg:GmP g) {p:List Int}(hp:POk g p):∀ {k:Nat},k≤g.nodes.length →
  Pm g.nodes.length (planM g p k)∧∀ a v,rdot g.nodes.length (planM g p k) a v=if a<k then rget v a - g.d*worthP (nodeAt g a) (pget p a) v else 0
 | 0,_=>by
  have h0:∀ i j,mget (List.replicate g.nodes.length (List.replicate g.nodes.length (0:Rat))) i j=0:=fun i j=>by
   unfold mget rget
   rw [List.getD_eq_getElem?_getD,List.getD_eq_getElem?_getD,List.getElem?_replicate]
   split
   ·rw [Option.getD_some,List.getElem?_replicate]; split <;> rfl
   ·simp
  unfold planM
  refine ⟨⟨List.length_replicate,fun r hr=>by rw [(List.mem_replicate.1 hr).2,List.length_replicate],fun i j _=>by rw [h0]; grind⟩,fun a v=>?_⟩
  unfold rdot
  rw [if_neg (by omega)]
  exact Y0q (fun j _=>by rw [h0]; grind)
 | k+1,hk=>by
  obtain ⟨h1,h2⟩:=Yad hg hp (k:=k) (by omega)
  obtain ⟨h3,h4⟩:=Y4w hg hp (M:=planM g p k) (i:=k) (by omega) h1
  unfold planM
  refine ⟨h3,fun a v=>?_⟩
  rw [h4,h2]
  by_cases ha:a=k
  ·rw [ha,if_neg (by omega),if_pos rfl,if_pos (by omega)]; grind
  ·rw [if_neg ha]
   by_cases hl:a<k
   ·rw [if_pos hl,if_pos (by omega)]; grind
   ·rw [if_neg hl,if_neg (by omega)]; grind
theorem Zg7 {n j:Nat}{x:Rat}(h:j<n):rget (List.replicate n x) j=x:=by
 unfold rget
 rw [List.getD_eq_getElem?_getD,List.getElem?_replicate,if_pos h]; rfl
theorem Yr7 {odds:List Rat}{to:List Nat}{n:Nat}:∀ {k:Nat},k≤to.length→(∀ x,x∈to→x<n)→dotW odds (List.replicate n 1) to k=sumO odds k
 | 0,_,_=>rfl
 | k+1,hk,h=>by
  simp only [dotW,sumO]
  rw [Yr7 (by omega) h,Zg7 (h _ (Zcy (by omega)))]
  grind
theorem Yv2 {g:Gm}(hg:GmP g) {p:List Int}(hp:POk g p) {i:Nat}(hi:i<g.nodes.length):worthP (nodeAt g i) (pget p i) (List.replicate g.nodes.length 1)=1:=by
 have hx:=Zbe hi
 have hok:=hg.ok.node _ hx
 have hlt:=hp.lt hi
 have hod:=hg.odds _ hx
 unfold worthP
 split
 ·rename_i h3
  rw [Yr7 (Nat.le_refl _) hok.lt,(hod h3).2]
 ·rename_i h3
  exact Zg7 (hok.lt _ (Zcy (hlt h3)))
def valP (g:Gm) (p:List Int):List Rat:=solvR g.nodes.length (planM g p g.nodes.length) g.rew
theorem Z9w {g:Gm}(hg:GmP g) {p:List Int}(hp:POk g p):Dom g.nodes.length 0 g.nodes.length (planM g p g.nodes.length):=fun i _ hi=>by
 obtain ⟨h1,h2⟩:=Yad hg hp (Nat.le_refl g.nodes.length)
 refine ⟨fun j _ _ hji=>h1.np i j (fun e=>hji e.symm),?_⟩
 have h3:=h2 i (List.replicate g.nodes.length 1)
 rw [if_pos hi,Yv2 hg hp hi,Zg7 hi] at h3
 have e:sumL (List.range' (0+1) g.nodes.length) (fun j=>mget (planM g p g.nodes.length) i (j - 1))=rdot g.nodes.length (planM g p g.nodes.length) i (List.replicate g.nodes.length 1):=by
  unfold rdot
  rw [List.range'_eq_map_range,Z97]
  refine Zbb (fun j hj=>?_)
  rw [Zg7 (List.mem_range.1 hj),show 0+1+j - 1=j by omega]
  grind
 rw [e,h3]
 have:=hg.d1
 grind
theorem Zjz {g:Gm}(hg:GmP g) {p:List Int}(hp:POk g p):PVal g p (valP g p):=by
 obtain ⟨h1,h2⟩:=Yad hg hp (Nat.le_refl g.nodes.length)
 obtain ⟨_,_,_,h3,h4⟩:=Yam h1.len h1.wid hg.ok.rew (Z9w hg hp)
 refine ⟨h3,fun i hi=>?_⟩
 have h5:=h4 i hi
 have h6:=h2 i (valP g p)
 rw [if_pos hi] at h6
 unfold planV
 unfold rdot at h6
 have e:rget g.rew i=rget (valP g p) i - g.d*worthP (nodeAt g i) (pget p i) (valP g p):=by rw [← h6, ← h5]; rfl
 rw [e]; grind
end GoAbs
namespace GoAbs
open Go Go.Proofs
def Zy0:List IOp := [oI 4 (.mv (.c .nils)) 0]
def Zmn:List IOp := [mI 13 0 0,oI 14 (.nilck (.t 13)) 0,fI 15 0 14 0,lI 16 15 0,oI 17 (.len (.t 16)) 0,mI 18 0 0,oI 19 (.nilck (.t 18)) 0,fI 20 0 19 0,lI 21 20 0,oI 22 (.len (.t 21)) 0,oI 23 (.callw 104 [.t 17,.t 22]) 0,mI 5 23 0]
@[go_sem ↓] theorem Z9h : autoK Zmn = (0, 0) := by kernel_rfl
@[go_sem] theorem Yst : autoK [mI 13 0 0, oI 14 (.nilck (.t 13)) 0, fI 15 0 14 0, lI 16 15 0, oI 17 (.len (.t 16)) 0, mI 18 0 0, oI 19 (.nilck (.t 18)) 0, fI 20 0 19 0, lI 21 20 0, oI 22 (.len (.t 21)) 0, oI 23 (.callw 104 [.t 17, .t 22]) 0, mI 5 23 0] = (0, 0) := Z9h
def Zx2:List IOp := [mI 24 0 0,oI 25 (.nilck (.t 24)) 0,fI 26 0 25 0,lI 27 26 0,oI 28 (.len (.t 27)) 0,oI 29 (.mv (cI 0)) 0]
def Znb:List IOp := [oI 30 (.bin .lss (.t 29) (.t 28)) 0]
def Zzd:List IOp := [mI 31 29 0,xI 32 1 27 29 0,lI 33 32 0,mI 6 31 0,mI 7 33 0]
def Zyk:List IOp := [mI 34 5 0,mI 35 6 0,mI 36 6 0,oI 37 (.call 49 [cI 1]) 0,oI 38 (.call 105 [.t 34,.t 35,.t 36,.t 37]) 0]
def Zxl:List IOp := [mI 39 7 0]
def Zw8:List IOp := [oI 40 (.ta 129 true (.agg [.nils]) (.t 39)) 0,eI 41 1 40 0,eI 42 0 40 0]
def Zmv:List IOp := [oI 8 (.alloc [.nils]) 0,⟨none,.st 1 (.t 8) (.t 42),1,[],[],none⟩]
def Zk0:List IOp := [mI 43 5 0,mI 44 6 0,fI 45 0 8 0,lI 46 45 0,mI 47 1 0,mI 48 6 0,xI 49 1 47 48 0,lI 50 49 0,xI 51 1 46 50 0,lI 52 51 0,mI 53 0 0,oI 54 (.nilck (.t 53)) 0,fI 55 2 54 0,lJ 56 4 55 0,oI 57 (.call 106 [.t 56]) 0,oI 58 (.callw 105 [.t 43,.t 44,.t 52,.t 57]) 0]
@[go_sem ↓] theorem Z5s : autoK Zk0 = (0, 0) := by kernel_rfl
@[go_sem] theorem Ysd : autoK [mI 43 5 0, mI 44 6 0, fI 45 0 8 0, lI 46 45 0, mI 47 1 0, mI 48 6 0, xI 49 1 47 48 0, lI 50 49 0, xI 51 1 46 50 0, lI 52 51 0, mI 53 0 0, oI 54 (.nilck (.t 53)) 0, fI 55 2 54 0, lJ 56 4 55 0, oI 57 (.call 106 [.t 56]) 0, oI 58 (.callw 105 [.t 43, .t 44, .t 52, .t 57]) 0] = (0, 0) := Z5s
def Zkf:List IOp := [oI 59 (.ta 131 true (.agg [.nils]) (.t 39)) 0,eI 60 1 59 0,eI 61 0 59 0]
def Ztz:List IOp := [oI 9 (.alloc [.nils]) 0,⟨none,.st 1 (.t 9) (.t 61),1,[],[],none⟩]
def Zlj:List IOp := [mI 62 5 0,mI 63 6 0,fI 64 0 9 0,lI 65 64 0,mI 66 1 0,mI 67 6 0,xI 68 1 66 67 0,lI 69 68 0,xI 70 1 65 69 0,lI 71 70 0,mI 72 0 0,oI 73 (.nilck (.t 72)) 0,fI 74 2 73 0,lJ 75 4 74 0,oI 76 (.call 106 [.t 75]) 0,oI 77 (.callw 105 [.t 62,.t 63,.t 71,.t 76]) 0]
@[go_sem ↓] theorem Z5n : autoK Zlj = (0, 0) := by kernel_rfl
@[go_sem] theorem Yp0 : autoK [mI 62 5 0, mI 63 6 0, fI 64 0 9 0, lI 65 64 0, mI 66 1 0, mI 67 6 0, xI 68 1 66 67 0, lI 69 68 0, xI 70 1 65 69 0, lI 71 70 0, mI 72 0 0, oI 73 (.nilck (.t 72)) 0, fI 74 2 73 0, lJ 75 4 74 0, oI 76 (.call 106 [.t 75]) 0, oI 77 (.callw 105 [.t 62, .t 63, .t 71, .t 76]) 0] = (0, 0) := Z5n
def Zts:List IOp := [oI 78 (.ta 140 true (.agg [.nils,.nils]) (.t 39)) 0,eI 79 1 78 0,eI 80 0 78 0]
def Zvn:List IOp := [oI 10 (.alloc [.nils,.nils]) 0,⟨none,.st 2 (.t 10) (.t 80),1,[],[],none⟩]
def Zwk:List IOp := [fI 81 0 10 0,lI 82 81 0,oI 83 (.len (.t 82)) 0,oI 84 (.mv (cI 0)) 0]
def Zkz:List IOp := [oI 85 (.bin .lss (.t 84) (.t 83)) 0]
def Zvf:List IOp := [mI 86 84 0,xI 87 1 82 84 0,lI 88 87 0,mI 11 86 0,mI 12 88 0]
def Zks:List IOp := [mI 89 5 0,mI 90 6 0,mI 91 12 0,mI 92 0 0,oI 93 (.nilck (.t 92)) 0,fI 94 2 93 0,lJ 95 4 94 0,fI 96 1 10 0,lI 97 96 0,mI 98 11 0,xI 99 4 97 98 0,lJ 100 4 99 0,oI 101 (.call 84 [.t 95,.t 100]) 0,oI 102 (.call 106 [.t 101]) 0,oI 103 (.callw 105 [.t 89,.t 90,.t 91,.t 102]) 0]
@[go_sem ↓] theorem Z6e : autoK Zks = (0, 0) := by kernel_rfl
@[go_sem] theorem Yqv : autoK [mI 89 5 0, mI 90 6 0, mI 91 12 0, mI 92 0 0, oI 93 (.nilck (.t 92)) 0, fI 94 2 93 0, lJ 95 4 94 0, fI 96 1 10 0, lI 97 96 0, mI 98 11 0, xI 99 4 97 98 0, lJ 100 4 99 0, oI 101 (.call 84 [.t 95, .t 100]) 0, oI 102 (.call 106 [.t 101]) 0, oI 103 (.callw 105 [.t 89, .t 90, .t 91, .t 102]) 0] = (0, 0) := Z6e
def Zt1:List IOp := [oI 104 (.bin .add (.t 84) (cI 1)) 0,mI 84 104 0]
def Zms:CC := .seq (.rg false Zkz) (.seq (.cond (.t 85) .skip (.exit 3)) (.seq (.block 4 (.seq (.rg false Zvf) (.rg true Zks))) (.rg false Zt1)))
def Zca:List IOp := [oI 105 (.bin .add (.t 29) (cI 1)) 0,mI 29 105 0]
def Zmc:CC := .seq (.rg false Znb) (.seq (.cond (.t 30) .skip (.exit 0)) (.seq (.block 1 (.seq (.rg false Zzd) (.seq (.rg false Zyk) (.seq (.rg false Zxl) (.block 2 (.seq (.rg false Zw8) (.cond (.t 41) (.seq (.rg false Zmv) (.rg true Zk0)) (.seq (.rg false Zkf) (.cond (.t 60) (.seq (.rg false Ztz) (.rg true Zlj)) (.seq (.rg false Zts) (.cond (.t 79) (.seq (.rg false Zvn) (.seq (.rg false Zwk) (.block 3 (.loop Zms)))) .skip))))))))))) (.rg false Zca)))
def Zkp:List IOp := [mI 106 5 0,mI 107 0 0,oI 108 (.nilck (.t 107)) 0,fI 109 1 108 0,lI 110 109 0,oI 111 (.call 107 [.t 106,.t 110]) 0,mI 4 111 0]
def Yec:CC := .seq (.rg false Zy0) (.seq (.rg true Zmn) (.seq (.seq (.rg false Zx2) (.block 0 (.loop Zmc))) (.seq (.rg false Zkp) .ret)))
abbrev Ylf:Nat:=71
theorem Yi4:fnOk Tryz.prog 71=some (112,Yec,[.tmp 4]):=by kernel_rfl
def Zim:List IOp := [oI 4 (.mv (.c (.bool false))) 0]
def Zil:List IOp := [mI 11 1 0,oI 12 (.len (.t 11)) 0,mI 13 0 0,oI 14 (.nilck (.t 13)) 0,fI 15 0 14 0,lI 16 15 0,oI 17 (.len (.t 16)) 0,oI 18 (.bin .neq (.t 12) (.t 17)) 0]
def Zrs:List IOp := [oI 4 (.mv (.c (.bool false))) 0]
def Zrr:List IOp := [mI 19 0 0,oI 20 (.nilck (.t 19)) 0,fI 21 0 20 0,lI 22 21 0,oI 23 (.len (.t 22)) 0,oI 24 (.mv (cI 0)) 0]
def Zau:List IOp := [oI 25 (.bin .lss (.t 24) (.t 23)) 0]
def Za0:List IOp := [mI 26 24 0,xI 27 1 22 24 0,lI 28 27 0,mI 5 26 0,mI 6 28 0]
def Za3:List IOp := [oI 7 (.mv (cI 0)) 0]
def Za1:List IOp := [mI 29 6 0]
def Za2:List IOp := [oI 30 (.ta 129 true (.agg [.nils]) (.t 29)) 0,eI 31 1 30 0,eI 32 0 30 0]
def Zdf:List IOp := [oI 8 (.alloc [.nils]) 0,⟨none,.st 1 (.t 8) (.t 32),1,[],[],none⟩]
def Zc9:List IOp := [fI 33 0 8 0,lI 34 33 0,oI 35 (.len (.t 34)) 0,mI 7 35 0]
def Zbr:List IOp := [oI 36 (.ta 131 true (.agg [.nils]) (.t 29)) 0,eI 37 1 36 0,eI 38 0 36 0]
def Zda:List IOp := [oI 9 (.alloc [.nils]) 0,⟨none,.st 1 (.t 9) (.t 38),1,[],[],none⟩]
def Zde:List IOp := [fI 39 0 9 0,lI 40 39 0,oI 41 (.len (.t 40)) 0,mI 7 41 0]
def Zg2:List IOp := [oI 42 (.ta 140 true (.agg [.nils,.nils]) (.t 29)) 0,eI 43 1 42 0,eI 44 0 42 0]
def Zgy:List IOp := [oI 10 (.alloc [.nils,.nils]) 0,⟨none,.st 2 (.t 10) (.t 44),1,[],[],none⟩]
def Zg4:List IOp := [mI 45 1 0,mI 46 5 0,xI 47 1 45 46 0,lI 48 47 0,oI 49 (.bin .neq (.t 48) (cI (-1))) 0]
def Znk:List IOp := [oI 4 (.mv (.c (.bool false))) 0]
def Za9:List IOp := [mI 50 1 0,mI 51 5 0,xI 52 1 50 51 0,lI 53 52 0,oI 54 (.bin .lss (.t 53) (cI 0)) 0,mI 55 54 0,gI 56 (.mv (.t 1)) 0 55 false,gI 57 (.mv (.t 5)) 0 55 false,gI 58 (.idx 1 (.t 56) (.t 57)) 0 55 false,gI 59 (.ld none (.t 58)) 0 55 false,gI 60 (.mv (.t 7)) 0 55 false,gI 61 (.bin .geq (.t 59) (.t 60)) 0 55 false,oI 62 (.pick (.t 55) (.c (.bool true)) (.t 61)) 0]
def Zb9:List IOp := [oI 4 (.mv (.c (.bool false))) 0]
def Zdb:List IOp := [oI 63 (.bin .add (.t 24) (cI 1)) 0,mI 24 63 0]
def Zii:CC := .seq (.rg false Zau) (.seq (.cond (.t 25) .skip (.exit 0)) (.seq (.block 1 (.seq (.rg false Za0) (.seq (.rg false Za3) (.seq (.seq (.rg false Za1) (.block 2 (.seq (.rg false Za2) (.cond (.t 31) (.seq (.rg false Zdf) (.rg false Zc9)) (.seq (.rg false Zbr) (.cond (.t 37) (.seq (.rg false Zda) (.rg false Zde)) (.seq (.rg false Zg2) (.cond (.t 43) (.seq (.rg false Zgy) (.seq (.seq (.rg false Zg4) (.cond (.t 49) (.seq (.rg false Znk) .ret) .skip)) (.exit 1))) .skip)))))))) (.seq (.rg false Za9) (.cond (.t 62) (.seq (.rg false Zb9) .ret) .skip)))))) (.rg false Zdb)))
def Zg0:List IOp := [oI 4 (.mv (.c (.bool true))) 0]
def Z4i:CC := .seq (.rg false Zim) (.seq (.seq (.rg false Zil) (.cond (.t 18) (.seq (.rg false Zrs) .ret) .skip)) (.seq (.seq (.rg false Zrr) (.block 0 (.loop Zii))) (.seq (.rg false Zg0) .ret)))
abbrev Yej:Nat:=70
theorem Ybm:fnOk Tryz.prog 70=some (64,Z4i,[.tmp 4]):=by kernel_rfl
def Zhi:List IOp := [oI 6 (.mv (.c .nils)) 0,oI 7 (.mv (cI 0)) 0]
def Zho:List IOp := [mI 11 0 0,mI 12 1 0,oI 13 (.call 48 [.t 11,.t 12]) 0,mI 10 13 0,eI 14 0 10 0,eI 15 1 10 0,mI 8 14 0,mI 9 15 0]
def Zhh:List IOp := [mI 17 9 0,oI 18 (.bin .neq (.t 17) (cI 0)) 0,mI 16 18 0]
def Zyr:List IOp := [mI 19 9 0,oI 6 (.mv (.c .nils)) 0,mI 7 19 0]
def Zml:List IOp := [mI 21 8 0,mI 22 2 0,oI 23 (.call 70 [.t 21,.t 22]) 0,oI 24 (.un .not (.t 23)) 0,mI 20 24 0]
def Zxn:List IOp := [oI 6 (.mv (.c .nils)) 0,oI 7 (.mv (cI 1)) 0]
def Zz0:List IOp := [mI 25 8 0,mI 26 2 0,oI 27 (.call 71 [.t 25,.t 26]) 0,oI 28 (.call 51 [.t 27]) 0,eI 29 0 28 0,eI 30 1 28 0,mI 6 29 0,mI 7 30 0]
def Zpq:CC := .seq (.rg false Zhi) (.seq (.rg false Zho) (.seq (.block 0 (.seq (.rg false Zhh) (.cond (.t 16) (.seq (.rg false Zyr) .ret) (.seq (.rg false Zml) (.cond (.t 20) (.seq (.rg false Zxn) .ret) .skip))))) (.seq (.rg false Zz0) .ret)))
abbrev Z8i:Nat:=38
theorem Zpc:fnOk Tryz.prog 38=some (31,Zpq,[.tmp 6,.tmp 7]):=by kernel_rfl
def Zk9:List IOp := [mI 10 1 0,lI 11 3 0,mI 12 2 0,oI 13 (.call 76 [.t 10,.t 11,.t 12]) 0,mI 9 13 0]
def Zfd:List IOp := [lI 14 3 0,mI 15 1 0,mI 16 9 0,xI 17 1 15 16 0,lI 18 17 0,xI 19 4 14 18 0,lJ 20 4 19 0,lI 21 3 0,mI 22 1 0,lI 23 4 0,mI 24 0 0,xI 25 1 23 24 0,lI 26 25 0,xI 27 1 22 26 0,lI 28 27 0,xI 29 4 21 28 0,lJ 30 4 29 0,oI 31 (.call 69 [.t 20,.t 30]) 0,mI 32 2 0,oI 33 (.bin .eql (.t 31) (.t 32)) 0]
@[go_sem ↓] theorem Zwh : autoK Zfd = (0, 0) := by kernel_rfl
@[go_sem] theorem Yjm : autoK [lI 14 3 0, mI 15 1 0, mI 16 9 0, xI 17 1 15 16 0, lI 18 17 0, xI 19 4 14 18 0, lJ 20 4 19 0, lI 21 3 0, mI 22 1 0, lI 23 4 0, mI 24 0 0, xI 25 1 23 24 0, lI 26 25 0, xI 27 1 22 26 0, lI 28 27 0, xI 29 4 21 28 0, lJ 30 4 29 0, oI 31 (.call 69 [.t 20, .t 30]) 0, mI 32 2 0, oI 33 (.bin .eql (.t 31) (.t 32)) 0] = (0, 0) := Zwh
def Zj6:List IOp := [lI 34 4 0,mI 35 0 0,mI 36 9 0,xI 37 1 34 35 0,⟨none,.st 1 (.t 37) (.t 36),0,[],[],none⟩,⟨none,.st 1 (.t 5) (.c (.bool true)),0,[],[],none⟩]
def Zrf:CC := .seq (.rg false Zk9) (.seq (.rg true Zfd) (.cond (.t 33) (.rg false Zj6) .skip))
abbrev Z5z:Nat:=130
theorem Z4t:fnOk Tryz.prog 130=some (38,Zrf,[]):=by kernel_rfl
def Zs5:List IOp := [oI 5 (.box (.t 1)) 0,oI 6 (.box (.t 2)) 1,oI 8 (.mv (.c (.bool false))) 2]
def Zv8:List IOp := [oI 9 (.alloc [.bool false]) 0,⟨none,.st 1 (.t 9) (.c (.bool false)),1,[],[],none⟩]
def Zwn:List IOp := [oI 15 (.mkf 130 [] [.t 6,.t 5,.t 9]) 0,mI 10 15 0]
def Zt9:List IOp := [mI 16 0 0,oI 17 (.nilck (.t 16)) 0,fI 18 0 17 0,lI 19 18 0,oI 20 (.len (.t 19)) 0,oI 21 (.mv (cI 0)) 0]
def Zkt:List IOp := [oI 22 (.bin .lss (.t 21) (.t 20)) 0]
def Zug:List IOp := [mI 23 21 0,xI 24 1 19 21 0,lI 25 24 0,mI 11 23 0,mI 12 25 0]
def Zs6:List IOp := [mI 26 12 0]
def Zwo:List IOp := [oI 27 (.ta 129 true (.agg [.nils]) (.t 26)) 0,eI 28 1 27 0,eI 29 0 27 0]
def Zkh:List IOp := [oI 13 (.alloc [.nils]) 0,⟨none,.st 1 (.t 13) (.t 29),1,[],[],none⟩]
def Ziw:List IOp := [mI 30 3 0,oI 31 (.bin .eql (.t 30) (cI 1)) 0]
def Zr1:List IOp := [mI 32 10 0,mI 33 11 0,fI 34 0 13 0,lI 35 34 0,oI 36 (.callv (.t 32) [.t 33,.t 35,cI 1]) 0]
def Zen:List IOp := [oI 37 (.ta 131 true (.agg [.nils]) (.t 26)) 0,eI 38 1 37 0,eI 39 0 37 0]
def Ziv:List IOp := [oI 14 (.alloc [.nils]) 0,⟨none,.st 1 (.t 14) (.t 39),1,[],[],none⟩]
def Zit:List IOp := [mI 40 3 0,oI 41 (.bin .eql (.t 40) (cI 2)) 0]
def Zq2:List IOp := [mI 42 10 0,mI 43 11 0,fI 44 0 14 0,lI 45 44 0,oI 46 (.callv (.t 42) [.t 43,.t 45,cI (-1)]) 0]
def Zbv:List IOp := [oI 47 (.bin .add (.t 21) (cI 1)) 0,mI 21 47 0]
def Zku:CC := .seq (.rg false Zkt) (.seq (.cond (.t 22) .skip (.exit 0)) (.seq (.block 1 (.seq (.rg false Zug) (.seq (.rg false Zs6) (.block 2 (.seq (.rg false Zwo) (.cond (.t 28) (.seq (.rg false Zkh) (.seq (.rg false Ziw) (.cond (.t 31) (.rg false Zr1) .skip))) (.seq (.rg false Zen) (.cond (.t 38) (.seq (.rg false Ziv) (.seq (.rg false Zit) (.cond (.t 41) (.rg false Zq2) .skip))) .skip)))))))) (.rg false Zbv)))
def Zid:List IOp := [lI 48 9 0,mI 8 48 0]
def Z89:CC := .seq (.rg false Zs5) (.seq (.rg false Zv8) (.seq (.rg false Zwn) (.seq (.seq (.rg false Zt9) (.block 0 (.loop Zku))) (.seq (.rg false Zid) .ret))))
abbrev Yiy:Nat:=110
theorem Yeo:fnOk Tryz.prog 110=some (49,Z89,[.tmp 8]):=by kernel_rfl
def Zxx:List IOp := [oI 2 (.mv (.c .nils)) 0]
def Zxu:List IOp := [mI 5 0 0,oI 6 (.nilck (.t 5)) 0,fI 7 0 6 0,lI 8 7 0,oI 9 (.len (.t 8)) 0,oI 10 (.mks none 8 [.int .i64 0] (.t 9) (.t 9)) 0,mI 3 10 1]
def Zyw:List IOp := [mI 11 0 0,mI 12 3 0,oI 13 (.call 71 [.t 11,.t 12]) 0,mI 4 13 0]
def Zzf:List IOp := [mI 14 0 0,mI 15 3 0,mI 16 4 0,oI 17 (.call 110 [.t 14,.t 15,.t 16,cI 2]) 0]
def Zzt:List IOp := [mI 18 0 0,mI 19 3 0,oI 20 (.call 71 [.t 18,.t 19]) 0,mI 4 20 0]
def Zmi:CC := .seq (.seq (.rg false Zzf) (.cond (.t 17) .skip (.exit 2))) (.block 3 (.rg false Zzt))
def Zmm:List IOp := [mI 21 0 0,mI 22 3 0,mI 23 4 0,oI 24 (.call 110 [.t 21,.t 22,.t 23,cI 1]) 0,oI 25 (.un .not (.t 24)) 0]
def Zm8:List IOp := [mI 26 4 0,mI 2 26 0]
def Zyh:CC := .block 1 (.seq (.rg false Zyw) (.seq (.block 2 (.loop Zmi)) (.seq (.rg false Zmm) (.cond (.t 25) (.seq (.rg false Zm8) .ret) .skip))))
def Ydf:CC := .seq (.rg false Zxx) (.seq (.rg false Zxu) (.block 0 (.loop Zyh)))
abbrev Ykw:Nat:=75
theorem Yip:fnOk Tryz.prog 75=some (27,Ydf,[.tmp 2]):=by kernel_rfl
def Zng:List IOp := [oI 4 (.mv (.c .nils)) 0,oI 5 (.mv (cI 0)) 0]
def Znd:List IOp := [mI 9 0 0,mI 10 1 0,oI 11 (.call 48 [.t 9,.t 10]) 0,mI 8 11 0,eI 12 0 8 0,eI 13 1 8 0,mI 6 12 0,mI 7 13 0]
def Zl9:List IOp := [mI 14 7 0,oI 15 (.bin .neq (.t 14) (cI 0)) 0]
def Zyy:List IOp := [mI 16 7 0,oI 4 (.mv (.c .nils)) 0,mI 5 16 0]
def Zyp:List IOp := [mI 17 6 0,oI 18 (.call 75 [.t 17]) 0,oI 19 (.call 51 [.t 18]) 0,eI 20 0 19 0,eI 21 1 19 0,mI 4 20 0,mI 5 21 0]
def Z00:CC := .seq (.rg false Zng) (.seq (.rg false Znd) (.seq (.seq (.rg false Zl9) (.cond (.t 15) (.seq (.rg false Zyy) .ret) .skip)) (.seq (.rg false Zyp) .ret)))
abbrev Ylo:Nat:=43
theorem Z4j:fnOk Tryz.prog 43=some (22,Z00,[.tmp 4,.tmp 5]):=by kernel_rfl
end GoAbs
namespace GoAbs
open Go Go.Proofs
set_option maxHeartbeats 8000000
theorem Yaj {n i k:Nat}{d:Rat}{odds:List Rat}{to:List Nat}(hd:Qb 40 d) (ho:∀ t,t<to.length→Qb 40 (rget odds t)) (hk:1≤k):∀ {t:Nat}{M:RM},t≤to.length→M.length=n→Wid n M→Mb k M →
  (addOdds d i odds to t M).length=n∧Wid n (addOdds d i odds to t M)∧Mb (k+81*t) (addOdds d i odds to t M)
 | 0,M,_,hl,hw,h=>⟨hl,hw,h⟩
 | t+1,M,ht,hl,hw,h=>by
  obtain ⟨h1,h2,h3⟩:=Yaj (i:=i) (odds:=odds) (to:=to) hd ho hk (t:=t) (M:=M) (by omega) hl hw h
  unfold addOdds
  refine ⟨by rw [Zec,h1],h2.addAt,fun r hr=>(h3.addAt (l:=80) ((hd.mul2 (ho t (by omega))).neg) (by omega) r hr).mono (by omega)⟩
theorem Z6g {g:Gm}(hg:GmOk g) {p:List Int}:∀ {k:Nat},k≤g.nodes.length→(planM g p k).length=g.nodes.length∧Wid g.nodes.length (planM g p k)∧Mb (1+600*k) (planM g p k)
 | 0,_=>by
  unfold planM
  refine ⟨List.length_replicate,fun r hr=>by rw [(List.mem_replicate.1 hr).2,List.length_replicate],fun r hr x hx=>?_⟩
  rw [(List.mem_replicate.1 hr).2] at hx
  rw [(List.mem_replicate.1 hx).2]
  exact Qb.zero (by omega)
 | k+1,hk=>by
  obtain ⟨h1,h2,h3⟩:=Z6g hg (p:=p) (k:=k) (by omega)
  have hx:=Zbe (g:=g) (i:=k) (by omega)
  have hok:=hg.node _ hx
  unfold planM nodeM
  generalize nodeAt g k=x at *
  have a1:Mb (1+600*k+1+1) (addAt (planM g p k) k k 1):=h3.addAt (Qb.one (by omega)) (by omega)
  have a2:(addAt (planM g p k) k k 1).length=g.nodes.length:=by rw [Zec,h1]
  have a3:Wid g.nodes.length (addAt (planM g p k) k k 1):=h2.addAt
  split
  ·rename_i h3
   obtain ⟨ho,hb⟩:=hok.odds h3
   obtain ⟨b1,b2,b3⟩:=Yaj (i:=k) (odds:=x.odds) (to:=x.to) hg.db (fun t ht=>hb.get (by omega)) (by omega) (Nat.le_refl _) a2 a3 a1
   have:=hok.len
   exact ⟨b1,b2,fun r hr=>(b3 r hr).mono (by omega)⟩
  ·exact ⟨by rw [Zec,a2],a3.addAt,fun r hr=>(a1.addAt (l:=40) hg.db.neg (by omega) r hr).mono (by omega)⟩
theorem Xgq {pre:Heap}{o n0 n i k:Nat}{gc:List AV}{pl:AV}{s27:AV}{d:Rat}{odds:List Rat}{to:List Nat}{M:RM}{b1:Blk}(hpre:pre.length=o) (hclo:∀ m,Clo m pre) (hn0:n0≤o) (hol:o≤1) (hpl:∀ m,o+1≤m→pl.gc (pos (List.range m))=pl) (hs27:∀ f,s27.gc f=s27)
  (hgd:gc.drop 2=qcell d) (hgg:∀ f,gcL f gc=gc) (hb1:∀ f,b1.gc f=b1) (hd:Qb 40 d) (ho:odds.length=to.length) (hob:Rb 40 odds) (hto:∀ x,x∈to→x<n) (htl:to.length≤6) (hn:n≤100) (hi:i<n)
  (hM:M.length=n) (hW:Wid n M) (hB:Mb k M) (hk1:1≤k) (hk:k≤1000000) {K:Ex→St→Prop}
  (hK:∀ e:Nat→AV,e 0 = .rp gc→e 1=pl→e 5 = .osl none o 0 n→e 27=s27→e 28 = .int .i64 (n:Int)→e 29 = .int .i64 (i:Int)→K (.exit 3) ⟨e,pre++(matH o n (addOdds d i odds to to.length M) ++ [b1,.cells [.sl (ivs (nv to)),.sl (condsR odds)]])⟩) :
  T Tryz.prog 112 n0 (.loop Zms) ⟨envL [(0,.rp gc),(1,pl),(5,.osl none o 0 n),(6,.int .i64 (i:Int)),(10,.ptr (o+(1+2*n)+1) 0),(27,s27),(28,.int .i64 (n:Int)),(29,.int .i64 (i:Int)),(82,.sl (ivs (nv to))),(83,.int .i64 (to.length:Int)),(84,.int .i64 0)],
   pre++(matH o n M ++ [b1,.cells [.sl (ivs (nv to)),.sl (condsR odds)]])⟩ K:=by
 have hmx:Tryz.prog.follows .mixedOrders=true:=by kernel_rfl
 refine Zaf (fun t:Nat=>⟨envL [(0,.rp gc),(1,pl),(5,.osl none o 0 n),(6,.int .i64 (i:Int)),(10,.ptr (o+(1+2*n)+1) 0),(27,s27),(28,.int .i64 (n:Int)),(29,.int .i64 (i:Int)),(82,.sl (ivs (nv to))),(83,.int .i64 (to.length:Int)),(84,.int .i64 (t:Int))],
   pre++(matH o n (addOdds d i odds to t M) ++ [b1,.cells [.sl (ivs (nv to)),.sl (condsR odds)]])⟩)
  (fun t=>t≤to.length) (fun t=>to.length - t) 0 (by omega) (Zab _ (by simp only [go_sem]; simp)) (fun t ht N hN=>?_)
 unfold Zms
 by_cases htn:t<to.length
 ·obtain ⟨w1,w2,w3⟩:=Yaj (i:=i) (odds:=odds) (to:=to) hd (fun t ht=>hob.get (by omega)) hk1 (t:=t) ht hM hW hB
  have hnx:addOdds d i odds to (t+1) M=addAt (addOdds d i odds to t M) i (to.getD t 0) (-(d*rget odds t)):=rfl
  generalize addOdds d i odds to t M=S at *
  have gi:=Zcl htn
  have mi:=hto _ (List.mem_of_getElem? gi)
  have go:odds[t]? = some (rget odds t):=Zak (by omega)
  have bo:=hob.get (j:=t) (by omega)
  generalize to.getD t 0=x at *
  generalize rget odds t=w at *
  have mu:=Yts (k:=40) hd bo (by omega)
  have bx:Qb 80 (-(d*w)):=(hd.mul2 bo).neg
  have q0:(0:Int)≤(t:Int):=by omega
  have q1:(t:Int)<(to.length:Int):=by omega
  have e1:IntKind.i64.wrap ((t:Int)+1)=((t+1:Nat):Int):=by rw [Zac (by omega) (by omega)]; omega
  have ql:∀ q:Rat,(qcell q).length=4:=fun q=>rfl
  have qt:∀ q:Rat,(qcell q).take 4=qcell q:=fun q=>rfl
  have qd:∀ q:Rat,(qcell q).drop 4 = []:=fun q=>rfl
  have gP:∀ (S':RM) (post':Heap) (t':Nat),S'.length=n→(pre++(matH o n S'++post'))[o+(1+2*n)+t']? = post'[t']?:=fun S' post' t' h=>Yac hpre h
  have gL:∀ (S':RM) (post':Heap),S'.length=n→(pre++(matH o n S'++post')).length=o+(1+2*n)+post'.length:=fun S' post' h=>by rw [List.length_append,List.length_append,Zbx,h,hpre]; omega
  have l0:o+(1+2*n)+1<o+(1+2*n)+2:=by omega
  have ma:=Yo6 (post := [b1,.cells [.sl (ivs (nv to)),.sl (condsR odds)]]) (i:=i) (j:=x) (x := -(d*w)) (k:=k+1000) hpre w2 (by omega) mi (by omega) (by omega) (fun r hr=>(w3 r hr).mono (by omega)) (bx.mono (by omega)) (by omega)
  rw [w1] at ma
  simp only [go_sem,Zkz,Zvf,Zks,q0,q1,Zat,Zfy,Zfh,ho,Zrn gi,Zbu go,hgd,gP _ _ _ w1,gL _ _ w1,l0,ql,qt,qd,hmx,List.length_cons,List.length_nil]
  refine Zaa mu (by simp only [go_sem,Zaw,Zah]) ?_
  simp only [go_sem,Zaw]
  refine Zaa (Yvp _) (by simp only [go_sem,Zaw,Zah]) ?_
  simp only [go_sem,Zaw]
  refine Zd4 ma ?_
  simp only [go_sem,Zt1,e1,List.cons_append,List.nil_append]
  rw [← hnx]
  have w4:(addOdds d i odds to (t+1) M).length=n:=by rw [hnx,Zec,w1]
  have hsplit:∀ Y:Blk,pre++(matH o n (addOdds d i odds to (t+1) M) ++ [b1,.cells [.sl (ivs (nv to)),.sl (condsR odds)],Y])=(pre++(matH o n (addOdds d i odds to (t+1) M) ++ [b1,.cells [.sl (ivs (nv to)),.sl (condsR odds)]])) ++ [Y]:=fun Y=>by simp
  rw [hsplit]
  have cv:∀ f,AV.gc f (.sl (ivs (nv to))) = .sl (ivs (nv to)):=fun f=>rfl
  refine hN (t+1) _ (by omega) (by omega) (Zk7 (m:=o+(1+2*n)+2) (gL _ _ w4) ((hclo _).append ((Yjc (by rw [w4]; omega)).append ?_)) (by omega)
   [(0,.rp gc),(1,pl),(5,.osl none o 0 n),(6,.int .i64 (i:Int)),(10,.ptr (o+(1+2*n)+1) 0),(27,s27),(28,.int .i64 (n:Int)),(29,.int .i64 (i:Int)),(82,.sl (ivs (nv to))),(83,.int .i64 (to.length:Int)),(84,.int .i64 ((t+1:Nat):Int))] (by simp only [go_sem]) ?_)
  ·unfold Clo
   show [b1.gc _,.cells [_,_]]=_
   rw [hb1]; rfl
  ·have p1:pos (List.range (o+(1+2*n)+2)) o=some o:=Zcb (by omega)
   have p2:pos (List.range (o+(1+2*n)+2)) (o+(1+2*n)+1)=some (o+(1+2*n)+1):=Zcb (by omega)
   have p3:=hpl (o+(1+2*n)+2) (by omega)
   simp [AV.gc,p1,p2,p3,hs27]
 ·have hte:t=to.length:=by omega
  subst hte
  have q1:¬ ((to.length:Nat):Int)<(to.length:Int):=by omega
  simp only [go_sem,Zkz,q1]
  exact hK _ (by simp only [go_sem]) (by simp only [go_sem]) (by simp only [go_sem]) (by simp only [go_sem]) (by simp only [go_sem]) (by simp only [go_sem])
end GoAbs
namespace GoAbs
open Go Go.Proofs
set_option maxHeartbeats 8000000
theorem Xgj {pre:Heap}{o n0 n:Nat}{g:Gm}{p:List Int}{pl:AV}(hpre:pre.length=o) (hclo:∀ m,Clo m pre) (hn0:n0≤o) (hol:o≤1) (hpgc:∀ m,o+1≤m→pl.gc (pos (List.range m))=pl)
  (hpl:pl = .sl (ivs p)∨(pl = .osl none 0 0 n∧∀ X,(pre++X)[0]? = some (.cells (ivs p)))) (hg:GmOk g) (hp:POk g p) (hn:n=g.nodes.length) {K:Ex→St→Prop}
  (hK:∀ e:Nat→AV,e 0 = .rp (gmC g)→e 5 = .osl none o 0 n→K (.exit 0) ⟨e,pre++matH o n (planM g p n)⟩) :
  T Tryz.prog 112 n0 (.loop Zmc) ⟨envL [(0,.rp (gmC g)),(1,pl),(5,.osl none o 0 n),(27,.sl (g.nodes.map gnAV)),(28,.int .i64 (n:Int)),(29,.int .i64 0)],pre++matH o n (planM g p 0)⟩ K:=by
 have hmx:Tryz.prog.follows .mixedOrders=true:=by kernel_rfl
 have hnl:=hg.n
 refine Zaf (fun i:Nat=>⟨envL [(0,.rp (gmC g)),(1,pl),(5,.osl none o 0 n),(27,.sl (g.nodes.map gnAV)),(28,.int .i64 (n:Int)),(29,.int .i64 (i:Int))],pre++matH o n (planM g p i)⟩)
  (fun i=>i≤n) (fun i=>n - i) 0 (by omega) (Zab _ (by simp only [go_sem]; simp)) (fun i hi N hN=>?_)
 unfold Zmc
 by_cases hin:i<n
 ·have hig:i<g.nodes.length:=by omega
  obtain ⟨w1,w2,w3⟩:=Z6g hg (p:=p) (k:=i) (by omega)
  have hnx:planM g p (i+1)=nodeM g p (planM g p i) i:=rfl
  obtain ⟨x,hx⟩:∃ x,g.nodes[i]? = some x:=⟨_,List.getElem?_eq_getElem hig⟩
  have hxa:nodeAt g i=x:=by unfold nodeAt; rw [List.getD_eq_getElem?_getD,hx]; rfl
  have hxg:(g.nodes.map gnAV)[i]? = some (gnAV x):=by rw [List.getElem?_map,hx]; rfl
  have hok:=hg.node x (List.mem_of_getElem? hx)
  have hlt:=hp.lt hig
  have hp2:=hp.2 i hig
  have hpl1:=hp.1
  rw [hxa] at hlt hp2
  rw [← hn] at w1 w2 hok
  have q0:(0:Int)≤(i:Int):=by omega
  have q1:(i:Int)<(n:Int):=by omega
  have e1:IntKind.i64.wrap ((i:Int)+1)=((i+1:Nat):Int):=by rw [Zac (by omega) (by omega)]; omega
  have ql:∀ q:Rat,(qcell q).length=4:=fun q=>rfl
  have qt:∀ q:Rat,(qcell q).take 4=qcell q:=fun q=>rfl
  have qd:∀ q:Rat,(qcell q).drop 4 = []:=fun q=>rfl
  have gd2:(gmC g).drop 2=qcell g.d:=rfl
  have gd0:(gmC g)[0]? = some (.sl (g.nodes.map gnAV)):=rfl
  have gcg:∀ f,gcL f (gmC g)=gmC g:=fun f=>by unfold gmC; rfl
  have gP:∀ (S':RM) (post':Heap) (t':Nat),S'.length=n→(pre++(matH o n S'++post'))[o+(1+2*n)+t']? = post'[t']?:=fun S' post' t' h=>Yac hpre h
  have gL:∀ (S':RM) (post':Heap),S'.length=n→(pre++(matH o n S'++post')).length=o+(1+2*n)+post'.length:=fun S' post' h=>by rw [List.length_append,List.length_append,Zbx,h,hpre]; omega
  have sP:∀ (S':RM) (post':Heap) (t':Nat) (bl:Blk),S'.length=n→(pre++(matH o n S'++post')).set (o+(1+2*n)+t') bl=pre++(matH o n S'++post'.set t' bl):=fun S' post' t' bl h=>Z84 hpre h
  have eA:∀ (S':RM) (post':Heap) (Y:Blk),(pre++(matH o n S'++post')) ++ [Y]=pre++(matH o n S'++(post' ++ [Y])):=fun S' post' Y=>by simp
  have fin:∀ (e:Nat→AV) (post:Heap) (S':RM),S'=planM g p (i+1)→Has e [(0,.rp (gmC g)),(1,pl),(5,.osl none o 0 n),(27,.sl (g.nodes.map gnAV)),(28,.int .i64 (n:Int)),(29,.int .i64 ((i+1:Nat):Int))]→N ⟨e,pre++(matH o n S'++post)⟩:=fun e post S' hS he=>by
   subst hS
   have w4:=(Z6g hg (p:=p) (k:=i+1) (by omega)).1
   rw [← hn] at w4
   rw [← List.append_assoc]
   refine hN (i+1) _ (by omega) (by omega) (Zk7 (m:=o+(1+2*n)) (by rw [List.length_append,Zbx,w4,hpre]) ((hclo _).append (Yjc (by rw [w4]; omega))) (by omega) _ he ?_)
   have p1:pos (List.range (o+(1+2*n))) o=some o:=Zcb (by omega)
   have p3:=hpgc (o+(1+2*n)) (by omega)
   simp [AV.gc,p1,p3]
  have ma:=Yo6 (post := []) (i:=i) (j:=i) (x:=1) (k:=1+600*i) hpre w2 (by omega) hin (by omega) (by omega) w3 (Qb.one (by omega)) (by omega)
  rw [w1,List.append_nil,List.nil_append] at ma
  have a1:Mb (1+600*i+1+1) (addAt (planM g p i) i i 1):=w3.addAt (Qb.one (by omega)) (by omega)
  have a2:(addAt (planM g p i) i i 1).length=n:=by rw [Zec,w1]
  have a3:Wid n (addAt (planM g p i) i i 1):=w2.addAt
  unfold nodeM at hnx
  rw [hxa] at hnx
  generalize planM g p i=S at *
  generalize addAt S i i 1=S1 at *
  have hgp:((ivs p).drop i)[0]? = some (.int .i64 (p.getD i 0)):=by
   rw [List.getElem?_drop,Nat.add_zero]
   refine Zu6 ?_
   rw [List.getD_eq_getElem?_getD,List.getElem?_eq_getElem (by omega)]; rfl
  have hgp2:(ivs p)[i]? = some (.int .i64 (p.getD i 0)):=by
   have:=hgp
   rwa [List.getElem?_drop,Nat.add_zero] at this
  have hpll:(ivs p).length=n:=by rw [Zat]; omega
  have mv:∀ (S2:RM) (j:Nat) (post:Heap),j<n→S2=addAt S1 i j (-g.d)→SpecR Tryz.prog Zvt (pre++(matH o n S1++post)) [.osl none o 0 n,.int .i64 (i:Int),.int .i64 (j:Int),.agg (qcell (-g.d))] (.tup []) (pre++(matH o n S2++(post ++ [.cells (qcell (-g.d))]))):=fun S2 j post hj h=>by
   have:=Yo6 (post:=post) (i:=i) (j:=j) (x := -g.d) (k:=10000) hpre a3 (by omega) hj (by omega) (by omega) (fun r hr=>(a1 r hr).mono (by omega)) (hg.db.neg.mono (by omega)) (by omega)
   rw [a2, ← h] at this
   exact this
  have xc:(gnAV x).cells = [gnAV x]:=by unfold gnAV; split; rfl; split <;> rfl
  simp only [go_sem,Znb,Zzd,Zyk,q0,q1,hxg,xc,List.length_map]
  refine Zaa Y3u (by simp only [go_sem]) ?_
  simp only [go_sem,Zaw]
  refine Zd4 ma ?_
  simp only [go_sem,Zxl,Zw8]
  have l0:o+(1+2*n)+1<o+(1+2*n)+2:=by omega
  have l1:0<o+(1+2*n)+2:=by omega
  have r0:(0:Int)≤(pget p i:Int):=by omega
  by_cases k3:x.kind=3
  ·have hgx:gnAV x = .ifc 140 (.agg [.sl (ivs (nv x.to)),.sl (condsR x.odds)]):=by unfold gnAV; rw [if_neg (by omega),if_neg (by omega)]
   rw [if_pos k3] at hnx
   obtain ⟨ho1,ho2⟩:=hok.odds k3
   have hlen:=hok.len
   rw [hgx]
   simp only [go_sem,Zmv,Zkf,Zts,Zvn,Zwk,eA,List.cons_append,List.nil_append,sP _ _ _ _ a2,gP _ _ _ a2,gL _ _ a2,Zat,Zfy]
   refine Zar [(0,.rp (gmC g)),(1,pl),(5,.osl none o 0 n),(6,.int .i64 (i:Int)),(10,.ptr (o+(1+2*n)+1) 0),(27,.sl (g.nodes.map gnAV)),(28,.int .i64 (n:Int)),(29,.int .i64 (i:Int)),(82,.sl (ivs (nv x.to))),(83,.int .i64 (x.to.length:Int)),(84,.int .i64 0)] (by simp only [go_sem]) ?_
   refine Xgq (d:=g.d) (k:=1+600*i+1+1) hpre hclo hn0 hol hpgc (fun f=>rfl) gd2 gcg (fun f=>by simp only [Blk.gc,Z37]) hg.db ho1 ho2 hok.lt hlen (by omega) hin a2 a3 a1 (by omega) (by omega) (fun e k0 k1 k5 k27 k28 k29=>?_)
   rw [← hnx]
   simp only [go_sem,Zca,k29,e1]
   exact fin _ _ _ rfl (by simp only [go_sem,k0,k1,k5,k27,k28])
  ·have hlt':=hlt k3
   have hp2':=hp2 k3
   rw [if_neg k3] at hnx
   have gi:=Zcl hlt'
   have mi:=hok.lt _ (Zcy hlt')
   have hpe:p.getD i 0=(pget p i:Int):=by unfold pget; omega
   have r1:(pget p i:Int)<(x.to.length:Int):=by omega
   have gl':(planM g p (i+1)).length=n:=by rw [hnx,Zec,a2]
   rw [hpe] at hgp hgp2
   generalize x.to.getD (pget p i) 0=y at *
   generalize pget p i=pi at *
   have mvv:=mv _ y [.cells (qcell 1),.cells [.sl (ivs (nv x.to))]] mi hnx
   by_cases k1:x.kind=1
   ·have hgx:gnAV x = .ifc 129 (.agg [.sl (ivs (nv x.to))]):=by unfold gnAV; rw [if_pos k1]
    rw [hgx]
    simp only [go_sem,Zmv,Zk0,eA,List.cons_append,List.nil_append,sP _ _ _ _ a2,gP _ _ _ a2,gL _ _ a2,l0]
    rcases hpl with rfl | ⟨rfl,hX⟩
    ·simp only [go_sem,q0,q1,r0,r1,hpll,hgp2,Zat,Zfy,Zrn gi,gd2,ql,qt,qd,hmx]
     refine Zaa (Yvp _) (by simp only [go_sem,Zaw,Zah]) ?_
     simp only [go_sem,Zaw]
     refine Zd4 mvv ?_
     simp only [go_sem,Zca,e1]
     exact fin _ _ _ rfl (by simp only [go_sem])
    ·simp only [go_sem,q0,q1,r0,r1,l0,l1,hX,hpll,hgp,hgp2,Zat,Zfy,Zrn gi,gd2,ql,qt,qd,hmx,List.getElem?_drop]
     refine Zaa (Yvp _) (by simp only [go_sem,Zaw,Zah]) ?_
     simp only [go_sem,Zaw]
     refine Zd4 mvv ?_
     simp only [go_sem,Zca,e1]
     exact fin _ _ _ rfl (by simp only [go_sem])
   ·have hgx:gnAV x = .ifc 131 (.agg [.sl (ivs (nv x.to))]):=by unfold gnAV; rw [if_neg k1,if_pos (by have:=hok.kind; omega)]
    rw [hgx]
    simp only [go_sem,Zkf,Ztz,Zlj,eA,List.cons_append,List.nil_append,sP _ _ _ _ a2,gP _ _ _ a2,gL _ _ a2,l0]
    rcases hpl with rfl | ⟨rfl,hX⟩
    ·simp only [go_sem,q0,q1,r0,r1,hpll,hgp2,Zat,Zfy,Zrn gi,gd2,ql,qt,qd,hmx]
     refine Zaa (Yvp _) (by simp only [go_sem,Zaw,Zah]) ?_
     simp only [go_sem,Zaw]
     refine Zd4 mvv ?_
     simp only [go_sem,Zca,e1]
     exact fin _ _ _ rfl (by simp only [go_sem])
    ·simp only [go_sem,q0,q1,r0,r1,l0,l1,hX,hpll,hgp,hgp2,Zat,Zfy,Zrn gi,gd2,ql,qt,qd,hmx,List.getElem?_drop]
     refine Zaa (Yvp _) (by simp only [go_sem,Zaw,Zah]) ?_
     simp only [go_sem,Zaw]
     refine Zd4 mvv ?_
     simp only [go_sem,Zca,e1]
     exact fin _ _ _ rfl (by simp only [go_sem])
 ·have hie:i=n:=by omega
  subst hie
  have q1:¬ ((i:Nat):Int)<(i:Int):=by omega
  simp only [go_sem,Znb,q1]
  exact hK _ (by simp only [go_sem]) (by simp only [go_sem])
end GoAbs
namespace GoAbs
open Go Go.Proofs
set_option maxHeartbeats 8000000
theorem bbit5:∀ k,k≤5→bbit 9687500 k≤2000000000:=by
 intro k hk
 have:k=0∨k=1∨k=2∨k=3∨k=4∨k=5:=by omega
 rcases this with rfl | rfl | rfl | rfl | rfl | rfl <;> decide
theorem Yf6 {g:Gm}(hg:GmOk g) (hn:g.nodes.length≤5) {p:List Int}:Mb 3100 (aug (planM g p g.nodes.length) g.rew):=fun r hr x hx=>by
 obtain ⟨w1,w2,w3⟩:=Z6g hg (p:=p) (Nat.le_refl _)
 obtain ⟨i,hi⟩:=List.getElem?_of_mem hr
 unfold aug at hi
 rw [List.getElem?_zipWith] at hi
 split at hi
 ·rename_i a b ha hb
  cases hi
  rcases List.mem_append.1 hx with h | h
  ·exact (w3 a (List.mem_of_getElem? ha) x h).mono (by omega)
  ·rw [List.mem_singleton.1 h]
   exact (hg.rb b (List.mem_of_getElem? hb)).mono (by omega)
 ·cases hi
theorem Zn8 {g:Gm}(hg:GmP g) {p:List Int}(hp:POk g p) (hn5:g.nodes.length≤5) :
  NoSw g.nodes.length 0 (aug (planM g p g.nodes.length) g.rew)∧(∀ i,i<g.nodes.length→rget ((tri g.nodes.length 0 (aug (planM g p g.nodes.length) g.rew) 1).2.getD i []) i≠0)∧Wid (g.nodes.length+1) (tri g.nodes.length 0 (aug (planM g p g.nodes.length) g.rew) 1).2 ∧
  Mb 9687500 (tri g.nodes.length 0 (aug (planM g p g.nodes.length) g.rew) 1).2∧Rb 2000000000 (valP g p):=by
 obtain ⟨w1,w2,w3⟩:=Z6g hg.ok (p:=p) (Nat.le_refl _)
 obtain ⟨a1,a2,a3,_,_⟩:=Yam w1 w2 hg.ok.rew (Z9w hg hp)
 have hl:(aug (planM g p g.nodes.length) g.rew).length=g.nodes.length:=by rw [Yaz (by rw [w1]; exact hg.ok.rew),w1]
 have hb:=Yxp (w:=g.nodes.length+1) (k:=g.nodes.length) (c:=0) (d:=1) (by omega) (by omega) (Ypc w2) (Yf6 hg.ok hn5 (p:=p)) (by omega)
 have h5:5 ^ g.nodes.length*3100≤9687500:=by
  have:5 ^ g.nodes.length≤5 ^ 5:=Nat.pow_le_pow_right (by omega) hn5
  omega
 have hb':Mb 9687500 (tri g.nodes.length 0 (aug (planM g p g.nodes.length) g.rew) 1).2:=fun r hr=>(hb r hr).mono h5
 refine ⟨a1,a2,a3,hb',?_⟩
 exact (Yed hb' a3 (by rw [Yg3,hl]) a2 g.nodes.length (Nat.le_refl _)).mono (bbit5 _ hn5)
theorem Z5p {pre:Heap}{o:Nat}{g:Gm}{p:List Int}{pl:AV}(hpre:pre.length=o) (hpure:PureH pre) (hol:o≤1) (hpgc:∀ m,o+1≤m→pl.gc (pos (List.range m))=pl)
  (hpl:pl = .sl (ivs p)∨(pl = .osl none 0 0 g.nodes.length∧∀ X,(pre++X)[0]? = some (.cells (ivs p)))) (hg:GmP g) (hp:POk g p) (hn1:1≤g.nodes.length) (hn5:g.nodes.length≤5) :
  SpecR Tryz.prog Ylf pre [.rp (gmC g),pl] (.sl (condsR (valP g p))) pre:=by
 obtain ⟨a1,a2,a3,a4,_⟩:=Zn8 hg hp hn5
 obtain ⟨w1,w2,w3⟩:=Z6g hg.ok (p:=p) (Nat.le_refl _)
 obtain ⟨n,hn⟩:∃ n,n=g.nodes.length:=⟨_,rfl⟩
 have hmx:Tryz.prog.follows .mixedOrders=true:=by kernel_rfl
 have hclo:∀ m,Clo m pre:=fun m=>hpure _
 have hsv:=Ytr (pre:=pre) (o:=o) (n:=n) (k:=3100) (M:=planM g p n) (r:=g.rew) hpre hpure (by rw [hn,w1]) (by rw [hn,hg.ok.rew]) (by omega) (by rw [hn]; exact w2) (by rw [hn]; exact Yf6 hg.ok hn5) (by omega) (by
   have:9 ^ n≤9 ^ 5:=Nat.pow_le_pow_right (by omega) (by omega)
   omega) (by rw [hn]; exact a1) (a:=9687500) (by rw [hn]; exact a4) (by rw [hn]; exact a3) (by rw [hn]; exact a2) (fun k hk=>by
   have:k=0∨k=1∨k=2∨k=3∨k=4:=by omega
   rcases this with rfl | rfl | rfl | rfl | rfl <;> decide)
 have hz:=Z0h (H:=pre) (Y5e (m:=n) (n:=n) (by omega) (by omega) (by omega)) (by simp only [go_sem])
 rw [Xbo,Nat.zero_add] at hz
 have ez:(AV.osl none 0 0 n).gc (fun i=>some (i+pre.length)) = .osl none o 0 n:=by simp only [AV.gc,hpre,Nat.zero_add]
 rw [ez,hpre] at hz
 have gd0:(gmC g)[0]? = some (.sl (g.nodes.map gnAV)):=rfl
 have gd1:(gmC g).drop 1 = .sl (condsR g.rew)::qcell g.d:=rfl
 refine Z18 Yi4 (by simp) (Zbg 1 rfl ?_)
 unfold Yec
 obtain ⟨gc,hgc⟩:∃ gc,gc=gmC g:=⟨_,rfl⟩
 rw [← hgc] at gd0 gd1 ⊢
 simp only [go_sem,Zy0,Zmn,gd0,List.length_map,hmx]
 rw [← hn]
 refine Zd4 hz ?_
 simp only [go_sem]
 refine Zbc (Zbc (T_W ?_))
 simp only [go_sem,Zx2,gd0,List.length_map]
 rw [← hn,hgc]
 refine Za8 (Zar [(0,.rp (gmC g)),(1,pl),(5,.osl none o 0 n),(27,.sl (g.nodes.map gnAV)),(28,.int .i64 (n:Int)),(29,.int .i64 0)] (by simp only [go_sem]) (T_le (Zbz (Xas) ?_) (Xgj hpre hclo (by omega) hol hpgc (by rw [hn]; exact hpl) hg.ok hp hn (fun e k0 k5=>?_))))
 ·rw [show planM g p 0=List.replicate n (List.replicate n 0) by rw [hn]; rfl]
 ·show T Tryz.prog 112 _ (.seq (.rg false Zkp) .ret) _ _
  refine T_W ?_
  rw [← hgc] at k0
  simp only [go_sem,Zkp,k0,k5,gd1]
  refine Zd4 hsv ?_
  simp only [go_sem]
  exact ⟨by rw [hn]; rfl,rfl,_,Zk7 rfl (hclo _) (Nat.le_refl _) [] trivial (fun p hp=>by simp at hp),rfl⟩
end GoAbs
namespace GoAbs
open Go Go.Proofs
set_option maxHeartbeats 8000000
theorem Y28 {p:List Int}{i:Nat}{x:Int}(hi:i<p.length):(ivs p).take i ++ [AV.int .i64 x]++(ivs p).drop (i+1)=ivs (p.set i x):=by
 unfold ivs
 rw [List.map_set]
 rw [List.set_eq_take_append_cons_drop,if_pos (by simpa using hi)]
 simp
theorem Y3t {n i pi k:Nat}{p:List Int}{v:List Rat}{to:List Nat}{sg:Int}{ch:Bool}{b4:Blk}(hv:Rb k v) (hk:2*k+1≤1000000000000) (hvl:v.length=n) (hn:n≤100) (hpl:p.length=n) (hi:i<n) (hto:∀ x,x∈to→x<n) (h0:0<to.length) (hl:to.length≤6)
  (hp:p.getD i 0=(pi:Int)) (hpi:pi<to.length) (c:Bool) (hc:c=decide (cmpR (rget v (to.getD (bestA v to sg) 0)) (rget v (to.getD pi 0))=sg)) :
  SpecR Tryz.prog Z5z [.cells (ivs p),.cells [.osl none 0 0 n],.cells [.sl (condsR v)],.cells [.bool ch],b4] [.int .i64 (i:Int),.sl (ivs (nv to)),.int .i64 sg,.ptr 2 0,.ptr 1 0,.ptr 3 0] (.tup [])
   [.cells (ivs (if c=true then p.set i (bestA v to sg:Int) else p)),.cells [.osl none 0 0 n],.cells [.sl (condsR v)],.cells [.bool (c || ch)],b4]:=by
 have hmx:Tryz.prog.follows .mixedOrders=true:=by kernel_rfl
 have hb:=Ybh (sg:=sg) (to:=to) hv hk (fun x hx=>by rw [hvl]; exact hto x hx) h0 (by omega) (by omega)
 have hbl:bestA v to sg<to.length:=Zgg h0 (Nat.le_refl _)
 generalize bestA v to sg=b at *
 have g1:=Zcl hbl
 have g2:=Zcl hpi
 have m1:=hto _ (Zcy hbl)
 have m2:=hto _ (Zcy hpi)
 generalize to.getD b 0=x at *
 generalize to.getD pi 0=y at *
 have hcm:=Y3q (hv.get (j:=x) (by omega)) (hv.get (j:=y) (by omega)) hk
 have q0:(0:Int)≤(i:Int):=by omega
 have q1:(i:Int)<(n:Int):=by omega
 have q2:(0:Int)≤(b:Int):=by omega
 have q3:(b:Int)<(to.length:Int):=by omega
 have q4:(0:Int)≤(x:Int):=by omega
 have q5:(x:Int)<(n:Int):=by omega
 have q6:(0:Int)≤(y:Int):=by omega
 have q7:(y:Int)<(n:Int):=by omega
 have q8:(0:Int)≤(pi:Int):=by omega
 have q9:(pi:Int)<(to.length:Int):=by omega
 have ql:∀ q,(qcell q).length=4:=fun q=>rfl
 have qt:∀ q,(qcell q).take 4=qcell q:=fun q=>rfl
 have qd:∀ q,(qcell q).drop 4 = []:=fun q=>rfl
 have hgp:(ivs p)[i]? = some (.int .i64 (pi:Int)):=by
  refine Zu6 ?_
  rw [← hp,List.getD_eq_getElem?_getD,List.getElem?_eq_getElem (by omega)]; rfl
 have hpll:(ivs p).length=n:=by rw [Zat]; omega
 have f1:i+1≤n:=by omega
 have hf:=Y28 (p:=p) (i:=i) (x:=(b:Int)) (by omega)
 refine Z05 Z4t (by simp) ?_
 unfold Zrf
 simp only [go_sem,Zk9,Zfd]
 refine Zaa hb (by simp only [go_sem]) ?_
 simp only [go_sem,q0,q1,q2,q3,q4,q5,q6,q7,q8,q9,Zat,Zfy,Zfh,hvl,Zrn g1,Zrn g2,hgp,List.getElem?_drop,Zbu (Zak (r:=v) (j:=x) (by omega)),Zbu (Zak (r:=v) (j:=y) (by omega)),ql,qt,qd,hmx]
 refine Zaa hcm (by simp only [go_sem,Zaw,Zah]) ?_
 by_cases hcc:cmpR (rget v x) (rget v y)=sg
 ·have hct:c=true:=by rw [hc]; exact decide_eq_true hcc
  subst hct
  simp only [go_sem,hcc,Zj6,q0,q1,hpll,f1,hf]
  rw [Bool.true_or]
 ·have hct:c=false:=by rw [hc]; exact decide_eq_false hcc
  subst hct
  simp only [go_sem,hcc]
  rw [Bool.false_or]
def betU (g:Gm) (v:List Rat) (who:Nat) (p:List Int) (i:Nat):List Int:=(List.range g.nodes.length).map fun j=>if j<i then betI g v who p j else p.getD j 0
theorem Zwz {g:Gm}{v:List Rat}{who:Nat}{p:List Int}{i:Nat}:(betU g v who p i).length=g.nodes.length:=by unfold betU; rw [List.length_map,List.length_range]
theorem Xd9 {g:Gm}{v:List Rat}{who:Nat}{p:List Int}(h:p.length=g.nodes.length):betU g v who p 0=p:=by
 refine List.ext_getElem (by rw [Zwz,h]) (fun i h1 h2=>?_)
 simp [betU,h2]
theorem Xd4 {g:Gm}{v:List Rat}{who:Nat}{p:List Int}:betU g v who p g.nodes.length=betP g v who p:=by
 unfold betU betP
 exact List.map_congr_left fun j hj=>by rw [if_pos (List.mem_range.1 hj)]
theorem Yrh {g:Gm}{v:List Rat}{who:Nat}{p:List Int}{i:Nat}(h:i<g.nodes.length):(betU g v who p i).getD i 0=p.getD i 0:=by
 unfold betU
 rw [List.getD_eq_getElem?_getD,List.getElem?_map,List.getElem?_range h]
 simp
theorem Yzb {g:Gm}{v:List Rat}{who:Nat}{p:List Int}{i j:Nat}(h:j<g.nodes.length):(betU g v who p i)[j]? = some (if j<i then betI g v who p j else p.getD j 0):=by
 unfold betU
 rw [List.getElem?_map,List.getElem?_range h]; rfl
theorem Y0s {g:Gm}{v:List Rat}{who:Nat}{p:List Int}{i:Nat}(h:i<g.nodes.length) :
  betU g v who p (i+1)=if bet1 g v who p i=true then (betU g v who p i).set i (bestA v (nodeAt g i).to (sgn who):Int) else betU g v who p i:=by
 have e:∀ z:Int,z=betI g v who p i→betU g v who p (i+1)=(betU g v who p i).set i z:=fun z hz=>by
  refine List.ext_getElem? (fun j=>?_)
  rw [List.getElem?_set,Zwz]
  by_cases hjn:j<g.nodes.length
  ·rw [Yzb hjn,Yzb hjn]
   by_cases hj:i=j
   ·rw [if_pos hj,if_pos (by omega),hz, ← hj,if_pos (by omega)]
   ·rw [if_neg hj]
    by_cases hl:j<i
    ·rw [if_pos hl,if_pos (by omega)]
    ·rw [if_neg hl,if_neg (by omega)]
  ·rw [if_neg (by omega),List.getElem?_eq_none (by rw [Zwz]; omega),List.getElem?_eq_none (by rw [Zwz]; omega)]
 by_cases hb:bet1 g v who p i=true
 ·rw [if_pos hb]
  exact e _ (by unfold betI; rw [if_pos hb])
 ·rw [if_neg hb,e (p.getD i 0) (by unfold betI; rw [if_neg hb])]
  have h2:=Yrh (g:=g) (v:=v) (who:=who) (p:=p) h
  have hl:i<(betU g v who p i).length:=by rw [Zwz]; exact h
  rw [← h2,List.getD_eq_getElem?_getD,List.getElem?_eq_getElem hl,Option.getD_some,List.set_getElem_self]
theorem Yzf {g:Gm}{v:List Rat}{who n k:Nat}{p:List Int}(hv:Rb k v) (hk:2*k+1≤1000000000000) (hvl:v.length=n) (hg:GmOk g) (hp:POk0 g p) (hn:n=g.nodes.length) (hw:who=1∨who=2) {K:Ex→St→Prop}
  (hK:∀ e:Nat→AV,e 9 = .ptr 3 0→K (.exit 0) ⟨e,[.cells (ivs (betP g v who p)),.cells [.osl none 0 0 n],.cells [.sl (condsR v)],.cells [.bool (betC g v who p)]]⟩) :
  T Tryz.prog 49 1 (.loop Zku) ⟨envL [(3,.int .i64 (who:Int)),(9,.ptr 3 0),(10,.fn 130 [] [.ptr 2 0,.ptr 1 0,.ptr 3 0]),(19,.sl (g.nodes.map gnAV)),(20,.int .i64 (n:Int)),(21,.int .i64 0)],
   [.cells (ivs p),.cells [.osl none 0 0 n],.cells [.sl (condsR v)],.cells [.bool false]]⟩ K:=by
 have hmx:Tryz.prog.follows .mixedOrders=true:=by kernel_rfl
 have hnl:=hg.n
 refine Zaf (fun i:Nat=>⟨envL [(3,.int .i64 (who:Int)),(9,.ptr 3 0),(10,.fn 130 [] [.ptr 2 0,.ptr 1 0,.ptr 3 0]),(19,.sl (g.nodes.map gnAV)),(20,.int .i64 (n:Int)),(21,.int .i64 (i:Int))],
   [.cells (ivs (betU g v who p i)),.cells [.osl none 0 0 n],.cells [.sl (condsR v)],.cells [.bool ((List.range i).any (bet1 g v who p))]]⟩)
  (fun i=>i≤n) (fun i=>n - i) 0 (by omega) (Zbz (Zab [(3,.int .i64 (who:Int)),(9,.ptr 3 0),(10,.fn 130 [] [.ptr 2 0,.ptr 1 0,.ptr 3 0]),(19,.sl (g.nodes.map gnAV)),(20,.int .i64 (n:Int)),(21,.int .i64 0)] (by simp only [go_sem])) (by rw [Xd9 hp.1]; rfl)) (fun i hi N hN=>?_)
 unfold Zku
 by_cases hin:i<n
 ·have hig:i<g.nodes.length:=by omega
  obtain ⟨x,hx⟩:∃ x,g.nodes[i]? = some x:=⟨_,List.getElem?_eq_getElem hig⟩
  have hxa:nodeAt g i=x:=by unfold nodeAt; rw [List.getD_eq_getElem?_getD,hx]; rfl
  have hxg:(g.nodes.map gnAV)[i]? = some (gnAV x):=by rw [List.getElem?_map,hx]; rfl
  have hok:=hg.node x (List.mem_of_getElem? hx)
  have hp2:=hp.2 i hig
  have hs:=Y0s (v:=v) (who:=who) (p:=p) hig
  have hu:=Yrh (v:=v) (who:=who) (p:=p) hig
  have hul:=Zwz (g:=g) (v:=v) (who:=who) (p:=p) (i:=i)
  have hpe:p.getD i 0=(pget p i:Int):=by unfold pget; omega
  rw [hxa] at hp2 hs
  have hb1:bet1 g v who p i=(decide (x.kind=who) && decide (cmpR (rget v (x.to.getD (bestA v x.to (sgn who)) 0)) (rget v (x.to.getD (pget p i) 0))=sgn who)):=by unfold bet1; rw [hxa]
  have hany:(List.range (i+1)).any (bet1 g v who p)=((List.range i).any (bet1 g v who p) || bet1 g v who p i):=by rw [List.range_succ,List.any_append]; simp
  have q0:(0:Int)≤(i:Int):=by omega
  have q1:(i:Int)<(n:Int):=by omega
  have e1:IntKind.i64.wrap ((i:Int)+1)=((i+1:Nat):Int):=by rw [Zac (by omega) (by omega)]; omega
  have xc:(gnAV x).cells = [gnAV x]:=by unfold gnAV; split; rfl; split <;> rfl
  have fin:∀ (e:Nat→AV) (post:Heap) (pp:List Int) (ch:Bool),pp=betU g v who p (i+1)→ch=(List.range (i+1)).any (bet1 g v who p)→Has e [(3,.int .i64 (who:Int)),(9,.ptr 3 0),(10,.fn 130 [] [.ptr 2 0,.ptr 1 0,.ptr 3 0]),(19,.sl (g.nodes.map gnAV)),(20,.int .i64 (n:Int)),(21,.int .i64 ((i+1:Nat):Int))] →
    N ⟨e,[.cells (ivs pp),.cells [.osl none 0 0 n],.cells [.sl (condsR v)],.cells [.bool ch]]++post⟩:=fun e post pp ch h1 h2 he=>by
   subst h1 h2
   refine hN (i+1) _ (by omega) (by omega) (Zk7 (K := [.cells (ivs (betU g v who p (i+1))),.cells [.osl none 0 0 n],.cells [.sl (condsR v)],.cells [.bool ((List.range (i+1)).any (bet1 g v who p))]]) (m:=4) rfl ?_ (by omega) _ he ?_)
   ·unfold Clo
    show [Blk.cells (gcL _ (ivs _)),.cells [.osl none 0 0 n],_,_]=_
    rw [Yzp]; rfl
   ·simp [AV.gc,gcL,Zcb]
  rw [hpe] at hu
  generalize betU g v who p i=pp at *
  generalize (List.range i).any (bet1 g v who p)=ch at *
  have ht:∀ (sg:Int) (b4:Blk) (c:Bool),c=decide (cmpR (rget v (x.to.getD (bestA v x.to sg) 0)) (rget v (x.to.getD (pget p i) 0))=sg)→_:=fun sg b4 c hc=>Y3t (p:=pp) (pi:=pget p i) (ch:=ch) (b4:=b4) hv hk hvl (by omega) (by omega) hin (fun y hy=>by rw [hn]; exact hok.lt y hy) hok.pos hok.len hu (by unfold pget; omega) c hc
  simp only [go_sem,Zkt,Zug,Zs6,Zwo,q0,q1,hxg,xc,List.length_map]
  have skip:x.kind≠who→bet1 g v who p i=false:=fun h=>by rw [hb1,decide_eq_false h]; rfl
  have hsk:∀ (e:Nat→AV) (post:Heap),x.kind≠who→Has e [(3,.int .i64 (who:Int)),(9,.ptr 3 0),(10,.fn 130 [] [.ptr 2 0,.ptr 1 0,.ptr 3 0]),(19,.sl (g.nodes.map gnAV)),(20,.int .i64 (n:Int)),(21,.int .i64 ((i+1:Nat):Int))] →
    N ⟨e,[.cells (ivs pp),.cells [.osl none 0 0 n],.cells [.sl (condsR v)],.cells [.bool ch]]++post⟩:=fun e post h he=>by
   have hb:=skip h
   exact fin e post pp ch (by rw [hs,if_neg (by rw [hb]; decide)]) (by rw [hany,hb,Bool.or_false]) he
  by_cases k1:x.kind=1
  ·have hgx:gnAV x = .ifc 129 (.agg [.sl (ivs (nv x.to))]):=by unfold gnAV; rw [if_pos k1]
   rw [hgx]
   by_cases hw1:who=1
   ·subst hw1
    have hw:((1:Nat):Int)=1:=rfl
    simp only [go_sem,Zkh,Ziw,Zr1,hw,List.cons_append,List.nil_append]
    have hb:bet1 g v 1 p i=decide (cmpR (rget v (x.to.getD (bestA v x.to 1) 0)) (rget v (x.to.getD (pget p i) 0))=1):=by rw [hb1,decide_eq_true k1]; rfl
    refine Zd4 (ht 1 _ (bet1 g v 1 p i) hb) ?_
    simp only [go_sem,Zbv,e1]
    exact fin _ [_] _ _ (by rw [hs]; rfl) (by rw [hany,Bool.or_comm]) (by simp only [go_sem]; rfl)
   ·have hw1':¬ ((who:Nat):Int)=1:=by omega
    simp only [go_sem,Zkh,Ziw,hw1',Zbv,e1,List.cons_append,List.nil_append]
    exact hsk _ [_] (by omega) (by simp only [go_sem])
  ·by_cases k2:x.kind=2
   ·have hgx:gnAV x = .ifc 131 (.agg [.sl (ivs (nv x.to))]):=by unfold gnAV; rw [if_neg k1,if_pos k2]
    rw [hgx]
    by_cases hw1:who=2
    ·subst hw1
     have hw:((2:Nat):Int)=2:=rfl
     simp only [go_sem,Zen,Ziv,Zit,Zq2,hw,List.cons_append,List.nil_append]
     have hb:bet1 g v 2 p i=decide (cmpR (rget v (x.to.getD (bestA v x.to (-1)) 0)) (rget v (x.to.getD (pget p i) 0)) = -1):=by rw [hb1,decide_eq_true k2]; rfl
     refine Zd4 (ht (-1) _ (bet1 g v 2 p i) hb) ?_
     simp only [go_sem,Zbv,e1]
     exact fin _ [_] _ _ (by rw [hs]; rfl) (by rw [hany,Bool.or_comm]) (by simp only [go_sem]; rfl)
    ·have hw1':¬ ((who:Nat):Int)=2:=by omega
     simp only [go_sem,Zen,Ziv,Zit,hw1',Zbv,e1,List.cons_append,List.nil_append]
     exact hsk _ [_] (by omega) (by simp only [go_sem])
   ·have hgx:gnAV x = .ifc 140 (.agg [.sl (ivs (nv x.to)),.sl (condsR x.odds)]):=by unfold gnAV; rw [if_neg k1,if_neg k2]
    rw [hgx]
    simp only [go_sem,Zen,Zbv,e1]
    exact hsk _ [] (by omega) (by simp only [go_sem])
 ·have hie:i=n:=by omega
  subst hie
  have q1:¬ ((i:Nat):Int)<(i:Int):=by omega
  simp only [go_sem,Zkt,q1]
  have h1:betU g v who p i=betP g v who p:=by rw [hn,Xd4]
  have h2:(List.range i).any (bet1 g v who p)=betC g v who p:=by unfold betC; rw [hn]
  rw [h1,h2]
  exact hK _ (by simp only [go_sem])
end GoAbs
namespace GoAbs
open Go Go.Proofs
set_option maxHeartbeats 8000000
theorem Yg6 {p:List Int}:PureH [Blk.cells (ivs p)]:=fun f=>by
 show [Blk.cells (gcL f (ivs p))]=_
 rw [Yzp]
theorem Ycv {g:Gm}{v:List Rat}{who n k:Nat}{p:List Int}(hv:Rb k v) (hk:2*k+1≤1000000000000) (hvl:v.length=n) (hg:GmOk g) (hp:POk0 g p) (hn:n=g.nodes.length) (hw:who=1∨who=2) :
  SpecR Tryz.prog Yiy [.cells (ivs p)] [.rp (gmC g),.osl none 0 0 n,.sl (condsR v),.int .i64 (who:Int)] (.bool (betC g v who p)) [.cells (ivs (betP g v who p))]:=by
 have gd0:(gmC g)[0]? = some (.sl (g.nodes.map gnAV)):=rfl
 refine Z18 Yeo (by simp) (Zbg 2 rfl ?_)
 unfold Z89
 obtain ⟨gc,hgc⟩:∃ gc,gc=gmC g:=⟨_,rfl⟩
 rw [← hgc] at gd0 ⊢
 simp only [go_sem,Zs5,Zv8,Zwn]
 refine Zbc (Zbc (T_W ?_))
 simp only [go_sem,Zt9,gd0,List.length_map]
 rw [← hn]
 refine Za8 (Zar [(3,.int .i64 (who:Int)),(9,.ptr 3 0),(10,.fn 130 [] [.ptr 2 0,.ptr 1 0,.ptr 3 0]),(19,.sl (g.nodes.map gnAV)),(20,.int .i64 (n:Int)),(21,.int .i64 0)] (by simp only [go_sem])
  (Yzf hv hk hvl hg hp hn hw (fun e k9=>?_)))
 show T Tryz.prog 49 1 (.seq (.rg false Zid) .ret) _ _
 refine T_W ?_
 simp only [go_sem,Zid,k9]
 exact ⟨rfl,_,Zk7 (K := [.cells (ivs (betP g v who p))]) (post := [_,_,_]) (m:=1) rfl (Yg6 _) (Nat.le_refl _) [] trivial (fun p hp=>by simp at hp),rfl⟩
theorem Yyd {g:Gm}{v:List Rat}{who:Nat}{p:List Int}(hp:p.length=g.nodes.length) (h:betC g v who p=false):betP g v who p=p:=by
 refine List.ext_getElem? (fun j=>?_)
 by_cases hj:j<g.nodes.length
 ·unfold betP
  rw [List.getElem?_map,List.getElem?_range hj]
  show some (betI g v who p j)=_
  unfold betI
  rw [if_neg (by rw [nobetter h hj]; decide),List.getD_eq_getElem?_getD,List.getElem?_eq_getElem (by omega)]; rfl
 ·rw [List.getElem?_eq_none (by unfold betP; rw [List.length_map,List.length_range]; omega),List.getElem?_eq_none (by omega)]
theorem pval {g:Gm}(hg:GmP g):∀ q,POk0 g q→PVal g q (valP g q):=fun q hq=>Zjz hg hq.ok
theorem Yeb {g:Gm}{p q r:List Int}(h:Same1 g p q) (k:Same1 g q r):Same1 g p r:=fun i hi h1=>(h i hi h1).trans (k i hi h1)
theorem Y3w {g:Gm}(hg:GmP g):POk0 g (List.replicate g.nodes.length 0):=by
 refine ⟨List.length_replicate,fun i hi=>?_⟩
 have:=(hg.ok.node _ (Zbe hi)).pos
 have e:(List.replicate g.nodes.length (0:Int)).getD i 0=0:=by rw [List.getD_eq_getElem?_getD,List.getElem?_replicate]; split <;> rfl
 rw [e]
 omega
theorem out0 {g:Gm}(hg:GmP g):OutI g (valP g) (none,List.replicate g.nodes.length 0):=⟨Y3w hg,fun q _ _ => .inr trivial⟩
theorem Y0w {g:Gm}(hg:GmP g):∀ (m:Nat) {p:List Int},POk0 g p→mIn g (valP g) p<m→∃ q,POk0 g q∧Same1 g q p∧betC g (valP g q) 2 q=false
 | 0,_,_,h=>absurd h (by omega)
 | m+1,p,hp,h=>by
  cases hc:betC g (valP g p) 2 p with
  | false=>exact ⟨p,hp,fun _ _ _=>rfl,hc⟩
  | true =>
   have h1:=Xd8 hg (pval hg) hp hc
   obtain ⟨q,h2,h3,h4⟩:=Y0w hg m (Yag hg (v:=valP g p) (who:=2) hp) (by omega)
   exact ⟨q,h2,Yeb h3 Z76,h4⟩
theorem Yrr {g:Gm}(hg:GmP g):∀ (m:Nat) {s:Option (List Rat)×List Int},OutI g (valP g) s→mOut g (valP g) s<m→∃ q,POk0 g q∧betC g (valP g q) 1 q=false∧betC g (valP g q) 2 q=false
 | 0,_,_,h=>absurd h (by omega)
 | m+1,s,hs,h=>by
  obtain ⟨q,h1,h2,h3⟩:=Y0w hg _ hs.1 (Nat.lt_succ_self _)
  cases hc:betC g (valP g q) 1 q with
  | false=>exact ⟨q,h1,hc,h3⟩
  | true =>
   obtain ⟨h4,h5⟩:=Y6q hg (pval hg) hs h1 h2 h3 hc
   exact Yrr hg m h4 (by omega)
theorem Yd2 {g:Gm}(hg:GmP g):∃ q,POk0 g q∧betC g (valP g q) 1 q=false∧betC g (valP g q) 2 q=false:=Yrr hg _ (out0 hg) (Nat.lt_succ_self _)
open Classical in
noncomputable def valG (g:Gm):List Rat:=if h:GmP g then valP g (Yd2 h).choose else []
theorem Yav {g:Gm}(hg:GmP g):∃ q,POk0 g q∧valG g=valP g q:=by
 unfold valG
 rw [dif_pos hg]
 exact ⟨_,(Yd2 hg).choose_spec.1,rfl⟩
theorem Z36 {g:Gm}(hg:GmP g):(valG g).length=g.nodes.length:=by
 obtain ⟨q,h1,h2⟩:=Yav hg
 rw [h2,(pval hg q h1).1]
theorem Ybd {g:Gm}(hg:GmP g):∀ i,i<g.nodes.length→rget (valG g) i=nextV g (valG g) i:=by
 unfold valG
 rw [dif_pos hg]
 obtain ⟨h1,h2,h3⟩:=(Yd2 hg).choose_spec
 exact Ysb hg h1 (pval hg _ h1) h2 h3
theorem Ymg {g:Gm}(hg:GmP g) {v:List Rat}(hl:v.length=g.nodes.length) (h:∀ i,i<g.nodes.length→rget v i=nextV g v i):v=valG g :=
 Z81 (by rw [hl,Z36 hg]) (fun i hi=>(Y9d hg).uniq hg.d1 h (Ybd hg) i (by rw [Z36 hg] at hi; exact hi))
theorem Y5x {g:Gm}(hg:GmP g) {p:List Int}(hp:POk0 g p) (h1:betC g (valP g p) 1 p=false) (h2:betC g (valP g p) 2 p=false):valP g p=valG g :=
 Ymg hg (pval hg p hp).1 (Ysb hg hp (pval hg p hp) h1 h2)
theorem Y5p {g:Gm}{n:Nat}{p0:List Int}(hg:GmP g) (hn:n=g.nodes.length) (hn1:1≤n) (hn5:n≤5) (hp0:POk0 g p0) {K:Ex→St→Prop}
  (hK:∀ (q:List Int) (e:Nat→AV),POk0 g q→Same1 g q p0→betC g (valP g q) 2 q=false→e 0 = .rp (gmC g)→e 3 = .osl none 0 0 n→e 4 = .sl (condsR (valP g q))→K (.exit 2) ⟨e,[.cells (ivs q)]⟩) :
  T Tryz.prog 27 0 (.loop Zmi) ⟨envL [(0,.rp (gmC g)),(3,.osl none 0 0 n),(4,.sl (condsR (valP g p0)))],[.cells (ivs p0)]⟩ K:=by
 refine Zaf (fun p:List Int=>⟨envL [(0,.rp (gmC g)),(3,.osl none 0 0 n),(4,.sl (condsR (valP g p)))],[.cells (ivs p)]⟩)
  (fun p=>POk0 g p∧Same1 g p p0) (fun p=>mIn g (valP g) p) p0 ⟨hp0,fun _ _ _=>rfl⟩ (Zab _ (by simp only [go_sem])) (fun p hI N hN=>?_)
 obtain ⟨hp,hsm⟩:=hI
 unfold Zmi
 have hvl:=(pval hg p hp).1
 have hrb:=(Zn8 hg hp.ok (by omega)).2.2.2.2
 have hbt:=Ycv (who:=2) hrb (by omega) (by rw [hvl,hn]) hg.ok hp hn (.inr rfl)
 have hq:=Yag hg (v:=valP g p) (who:=2) hp
 simp only [go_sem,Zzf]
 refine Zd4 hbt ?_
 cases hc:betC g (valP g p) 2 p with
 | true =>
  have hpl:=Z5p (pre := [.cells (ivs (betP g (valP g p) 2 p))]) (o:=1) (p:=betP g (valP g p) 2 p) (pl := .osl none 0 0 n) rfl Yg6 (by omega) (fun m hm=>by simp only [AV.gc,Zcb (show 0<m by omega)]) (.inr ⟨by rw [hn],fun X=>rfl⟩) hg hq.ok (by omega) (by omega)
  simp only [go_sem,Zzt]
  refine Zd4 hpl ?_
  simp only [go_sem]
  exact hN (betP g (valP g p) 2 p) _ ⟨hq,Yeb Z76 hsm⟩ (Xd8 hg (pval hg) hp hc) (Zab _ (by simp only [go_sem]))
 | false =>
  rw [Yyd hp.1 hc]
  simp only [go_sem]
  exact hK p _ hp hsm hc (by simp only [go_sem]) (by simp only [go_sem]) (by simp only [go_sem])
theorem Yuq {g:Gm}(hg:GmP g) (hn1:1≤g.nodes.length) (hn5:g.nodes.length≤5):SpecV Tryz.prog Ykw [.rp (gmC g)] (.sl (condsR (valG g))):=by
 obtain ⟨n,hn⟩:∃ n,n=g.nodes.length:=⟨_,rfl⟩
 have gd0:(gmC g)[0]? = some (.sl (g.nodes.map gnAV)):=rfl
 refine Zba Yip (by simp) (Zbg 1 rfl ?_)
 unfold Ydf
 obtain ⟨gc,hgc⟩:∃ gc,gc=gmC g:=⟨_,rfl⟩
 have hsz:(8:Int)*(n:Int)≤281474976710656:=by omega
 have z0:(0:Int)≤(n:Int):=by omega
 rw [← hgc] at gd0 ⊢
 simp only [go_sem,Zxx,Zxu,gd0,List.length_map]
 rw [← hn]
 simp only [go_sem,hsz,z0,Int.le_refl]
 refine ⟨by omega,?_⟩
 have hzr:(List.replicate n [AV.int .i64 0]).flatten=ivs (List.replicate n 0):=by
  unfold ivs
  rw [List.map_replicate]
  clear hn hsz z0 gd0 hgc
  induction n with
  | zero=>rfl
  | succ n ih=>rw [List.replicate_succ,List.flatten_cons,ih,List.replicate_succ]; rfl
 rw [hzr,hgc]
 have h0:=out0 hg
 rw [← hn] at h0
 refine Za8 (Zny (fun s:Option (List Rat)×List Int=>⟨envL [(0,.rp (gmC g)),(3,.osl none 0 0 n)],[.cells (ivs s.2)]⟩)
  (fun s=>OutI g (valP g) s) (fun s=>mOut g (valP g) s) (none,List.replicate n 0) h0 (Zab _ (by simp only [go_sem])) (fun s hs N hN=>?_))
 obtain ⟨u,p⟩:=s
 have hp:POk0 g p:=hs.1
 have hpl:=Z5p (pre := [.cells (ivs p)]) (o:=1) (p:=p) (pl := .osl none 0 0 n) rfl Yg6 (by omega) (fun m hm=>by simp only [AV.gc,Zcb (show 0<m by omega)]) (.inr ⟨by rw [hn],fun X=>rfl⟩) hg hp.ok (by omega) (by omega)
 unfold Zyh
 refine Za8 (Zbg 0 rfl ?_)
 simp only [go_sem,Zyw]
 refine Zd4 hpl ?_
 simp only [go_sem]
 refine Zbc (Za8 (Zar [(0,.rp (gmC g)),(3,.osl none 0 0 n),(4,.sl (condsR (valP g p)))] (by simp only [go_sem]) (Y5p hg hn (by omega) (by omega) hp (fun q e hq hsm h2 k0 k3 k4=>?_))))
 show T Tryz.prog 27 0 (.seq (.rg false Zmm) (.cond (.t 25) (.seq (.rg false Zm8) .ret) .skip)) _ _
 have hvl:=(pval hg q hq).1
 have hrb:=(Zn8 hg hq.ok (by omega)).2.2.2.2
 have hbt:=Ycv (who:=1) hrb (by omega) (by rw [hvl,hn]) hg.ok hq hn (.inl rfl)
 refine T_W ?_
 simp only [go_sem,Zmm,k0,k3,k4]
 refine Zd4 hbt ?_
 cases hc:betC g (valP g q) 1 q with
 | true =>
  obtain ⟨h4,h5⟩:=Y6q hg (pval hg) hs hq hsm h2 hc
  simp only [go_sem]
  exact hN (some (valP g q),betP g (valP g q) 1 q) _ h4 h5 (Zab _ (by simp only [go_sem,k0,k3]))
 | false =>
  rw [← Y5x hg hq hc h2]
  simp only [go_sem,Zm8,k4]
end GoAbs
