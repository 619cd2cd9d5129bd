/- Lemmas for the claim (contracts of the functions that it reaches, and what they compute), without conditions. -/
import Derived.Test.YtiapneoakbealaaGreatK32
import Derived.Test.YtiapneoakbealaaGreatProg
import Derived.KernelRfl
set_option linter.unusedVariables false
set_option linter.unusedSimpArgs false
set_option maxRecDepth 10000
set_option maxHeartbeats 2000000
namespace GoAbs
open Go Go.Proofs
set_option maxHeartbeats 8000000
theorem Y3q (l:List Mv):(tosI l).length=l.length:=by simp [tosI]
theorem Yw4 {H:Heap}{ids:List Nat}{b:Nat}{l:List Mv}(hb:H[b]? = some (.cells (ivs (tosI l)))) (hi:b∈ids):BV H ids (.osl none b 0 l.length) (.sl (ivs (tosI l))):=by
 have:=Yw8 (H:=H) (ids:=ids) (b:=b) (p:=tosI l) hb hi
 rw [Y3q] at this
 exact this
theorem Yp5 {e:Nat→AV}{H:Heap}{ids:List Nat}:∀ {l:List (Nat×AV)},Has e l→HasF e H ids l
 | [],_=>trivial
 | (u,v)::r,h=>⟨.inr h.1,Yp5 h.2⟩
theorem Yzo {ls A R:List AV}{d:ByteArray}{i n:Nat}{va fi:Bool}{e:Nat→AV}{x y:AV}{ids:List Nat}{b5 b6 b7 b8 b9:Blk}(he:Has e (rdF ls d i)) (hids:ids = [7]∨ids = [7,8]) (hA:∀ f,gcL f A=A) (hR:∀ f,gcL f R=R) (hy:∀ f,y.gc f=y)
  (hbv:BV [.cells (.osl none 10 0 (A.length+1) :: .osl (some 4) 4 0 n::z4'),.cells [.bool va],.cells [.bool fi],.dead,.cells R,b5,b6,b7,b8,b9,.cells (A ++ [x])] ids x y) :
  Le 212 0 ⟨e,[.cells (.osl none 10 0 (A.length+1) :: .osl (some 4) 4 0 n::z4'),.cells [.bool va],.cells [.bool fi],.dead,.cells R,b5,b6,b7,b8,b9,.cells (A ++ [x])]⟩
   ⟨envL (rdF ls d i),[.cells (.osl none 3 0 (A ++ [y]).length :: .osl (some 4) 4 0 n::z4'),.cells [.bool va],.cells [.bool fi],.cells (A ++ [y]),.cells R]⟩:=by
 have gS:∀ f,gcL f (A ++ [y])=A ++ [y]:=fun f=>by rw [Z3g,hA]; show A ++ [y.gc f]=_; rw [hy]
 refine Zp6 (Yyg (b:=10) (ids:=ids) (l:=A ++ [x]) (l':=A ++ [y]) rfl (by rcases hids with rfl | rfl <;> simp) (by simp) (fun j u v hu hv=>?_) (rdF ls d i) (Yp5 he)) ?_
 ·by_cases hj:j<A.length
  ·rw [List.getElem?_append_left hj] at hu hv
   rw [hu] at hv
   exact .inr (Option.some.inj hv)
  ·have h1:=(List.getElem?_eq_some_iff.1 hu).1
   have:j=A.length:=by simp at h1; omega
   subst this
   simp at hu hv
   subst hu; subst hv
   exact .inl hbv
 ·rcases hids with rfl | rfl
  ·show Le 212 0 ⟨_,[.cells (.osl none 10 0 (A.length+1) :: .osl (some 4) 4 0 n::z4'),.cells [.bool va],.cells [.bool fi],.dead,.cells R,b5,b6,.dead,b8,b9,.cells (A ++ [y])]⟩ _
   refine Zcg (Zht [0,1,2,10,4] (by decide) (fun i hi=>by omega) (rdF ls d i) (by simp only [go_sem])) ?_
   show St.mk _ [.cells (.osl none 3 0 (A.length+1) :: .osl (some 4) 4 0 n::z4'),.cells [.bool va],.cells [.bool fi],.cells (gcL _ (A ++ [y])),.cells (gcL _ R)]=_
   rw [gS,hR,List.length_append]
   rfl
  ·show Le 212 0 ⟨_,[.cells (.osl none 10 0 (A.length+1) :: .osl (some 4) 4 0 n::z4'),.cells [.bool va],.cells [.bool fi],.dead,.cells R,b5,b6,.dead,.dead,b9,.cells (A ++ [y])]⟩ _
   refine Zcg (Zht [0,1,2,10,4] (by decide) (fun i hi=>by omega) (rdF ls d i) (by simp only [go_sem])) ?_
   show St.mk _ [.cells (.osl none 3 0 (A.length+1) :: .osl (some 4) 4 0 n::z4'),.cells [.bool va],.cells [.bool fi],.cells (gcL _ (A ++ [y])),.cells (gcL _ R)]=_
   rw [gS,hR,List.length_append]
   rfl
end GoAbs
namespace GoAbs
open Go Go.Proofs
set_option maxHeartbeats 8000000
theorem Xgk {nd:Nd}:∀ y,y∈gN nd→∀ f,y.gc f=y:=fun y hy f=>by
 unfold gN at hy
 split at hy
 ·simp at hy; subst hy; rfl
 ·split at hy
  ·simp at hy; subst hy; rfl
  ·split at hy
   ·simp at hy; subst hy; rfl
   ·simp at hy
theorem Xa4 {ls A R ms:List AV}{d:ByteArray}{i n k:Nat}{nd:Nd}{va fi:Bool}{e:Nat→AV}{Q:Ex→St→Prop}(hal:A.length≤1000000) (hl:∀ m,m∈nd.mv→m.2.length≤23) (hml:nd.mv.length≤7)
  (he:Has e (rdE ls d i 7 nd.mv.length 8 (oddsT nd.mv).length ms k)) (hA:∀ f,gcL f A=A) (hR:∀ f,gcL f R=R)
  (hQ:∀ st',Le 212 0 st' ⟨envL (rdF ls d i),[.cells (.osl none 3 0 (A++gN nd).length :: .osl (some 4) 4 0 n::z4'),.cells [.bool va],.cells [.bool (fi && decide (1≤nd.mv.length∧nd.mv.length≤6) && kindF nd)],.cells (A++gN nd),.cells R]⟩→Q .normal st') :
  T Tryz.prog 212 0 rdTail ⟨e,[.cells (.osl none 3 0 A.length :: .osl (some 4) 4 0 n::z4'),.cells [.bool va],.cells [.bool fi],.cells A,.cells R,.cells [.int .i64 nd.kind,.str (bs nd.rew),.sl ms],
     .cells (qcell (sumM nd.mv)),.cells (ivs (tosI nd.mv)),.cells (oddsT nd.mv).flatten]⟩ Q:=by
 have hm:Tryz.prog.follows .mixedOrders=true:=by kernel_rfl
 refine Za8 (rd25 (fi:=fi) (bT:=7) (m:=nd.mv.length) he.2.2.2.2.1 he.2.2.2.2.2.2.2.1 rfl (fun e2 h2=>?_))
 have he2:=Z5y h2 he rfl
 clear h2 he
 obtain ⟨k0,k1,k6,k7,k8,k9,k11,k12,k13,k14,k31,k32,k33,k52,k53,k54,_⟩:=he2
 have hfl:(fi && decide (1≤nd.mv.length∧nd.mv.length≤6) && kindF nd)=((fi && decide (1≤nd.mv.length∧nd.mv.length≤6)) && kindF nd):=rfl
 rw [hfl] at hQ
 generalize (fi && decide (1≤nd.mv.length∧nd.mv.length≤6))=fi' at *
 refine Zbd 0 rfl ?_
 simp only [go_sem,Zms,k11]
 refine Za3 ?_
 have s1:(A.length+1)*16≤1099511627776:=by omega
 have l1:A.length*1≤A.length:=by omega
 have l2:A.take (A.length*1)=A:=List.take_of_length_le (by omega)
 have l3:A.take A.length=A:=List.take_length
 have hl4:∀ c,c∈oddsT nd.mv→c.length=4:=fun c hc=>(Ydf hl hc).1
 have hbq:∀ H ids,∀ c,c∈oddsT nd.mv→BVs H ids c c:=fun H ids c hc=>by rw [(Ydf hl hc).2.2 H ids]; trivial
 refine Zbd 0 rfl ?_
 by_cases h1:nd.kind=1
 ·have hgN:gN nd = [.ifc 129 (.agg [.sl (ivs (tosI nd.mv))])]:=by unfold gN; rw [if_pos h1]
  have hkF:kindF nd=true:=by simp [kindF,h1]
  have hk1:(1:Int)=1:=rfl
  rw [hkF,Bool.and_true,hgN] at hQ
  simp only [go_sem,Zct,h1]
  refine T_W ?_
  simp only [go_sem,Zmq,k6,k12,s1,l1,l2,l3,Nat.le_refl,Nat.mul_one]
  exact hQ _ (Yzo (ids := [7]) (by simp only [go_sem,k0,k1,k6,k7,k8,k9,k11,k12,k13,k14,k31,k32,k33,k52,k53,k54]) (.inl rfl) hA hR (fun f=>rfl) (by simp only [go_sem]; exact Yw4 rfl (by simp)))
 ·by_cases h2:nd.kind=2
  ·have hgN:gN nd = [.ifc 131 (.agg [.sl (ivs (tosI nd.mv))])]:=by unfold gN; rw [if_neg h1,if_pos h2]
   have hkF:kindF nd=true:=by simp [kindF,h2]
   have n21:¬ (2:Int)=1:=by decide
   rw [hkF,Bool.and_true,hgN] at hQ
   simp only [go_sem,Zct,Zdp,h2,n21]
   refine T_W ?_
   simp only [go_sem,Zmi,k6,k12,s1,l1,l2,l3,Nat.le_refl,Nat.mul_one]
   exact hQ _ (Yzo (ids := [7]) (by simp only [go_sem,k0,k1,k6,k7,k8,k9,k11,k12,k13,k14,k31,k32,k33,k52,k53,k54]) (.inl rfl) hA hR (fun f=>rfl) (by simp only [go_sem]; exact Yw4 rfl (by simp)))
  ·by_cases h3:nd.kind=3
   ·have hgN:gN nd = [.ifc 140 (.agg [.sl (ivs (tosI nd.mv)),.sl ((oddsT nd.mv).map .agg)])]:=by unfold gN; rw [if_neg h1,if_neg h2,if_pos h3]
    have hkF:kindF nd=decide (sumM nd.mv=1):=by simp [kindF,h3]
    have n31:¬ (3:Int)=1:=by decide
    have n32:¬ (3:Int)=2:=by decide
    rw [hkF,hgN] at hQ
    have sb:=Ymn hl
    have hc:=Y4m (k:=1+78*8) (sb.mono (by omega)) (Qb.one (k:=1+78*8) (by omega)) (by omega)
    have ql:∀ q,(qcell q).length=4:=fun q=>rfl
    have qt:∀ q,(qcell q).take 4=qcell q:=fun q=>rfl
    have qd:∀ q,(qcell q).drop 4 = []:=fun q=>rfl
    have hc0:(cmpR (sumM nd.mv) 1=0)=(sumM nd.mv=1):=propext (by unfold cmpR; constructor <;> intro h <;> grind)
    simp only [go_sem,Zct,Zdp,Zdw,h3,n31,n32]
    refine T_W ?_
    have fin:∀ (b:Bool) (e3:Nat→AV),b=(fi' && decide (sumM nd.mv=1))→Has e3 (rdF ls d i)→Q .normal ⟨e3,[.cells (.osl none 10 0 (A.length+1) :: .osl (some 4) 4 0 n::z4'),.cells [.bool va],.cells [.bool b],.dead,.cells R,.cells [.int .i64 3,.str (bs nd.rew),.sl ms],.cells (qcell (sumM nd.mv)),
      .cells (ivs (tosI nd.mv)),.cells (oddsT nd.mv).flatten,.cells [.ifc 140 (.agg [.osl none 7 0 nd.mv.length,.osl (some 4) 8 0 (oddsT nd.mv).length])],.cells (A ++ [.ifc 140 (.agg [.osl none 7 0 nd.mv.length,.osl (some 4) 8 0 (oddsT nd.mv).length])])]⟩:=fun b e3 hb he3=>by
     subst hb
     refine hQ _ (Yzo (ids := [7,8]) he3 (.inr rfl) hA hR (fun f=>rfl) ?_)
     simp only [go_sem]
     exact ⟨Yw4 rfl (by simp),Z56 rfl (by simp) rfl hl4 (hbq _ _)⟩
    cases fi' with
    | false =>
     simp only [go_sem,Zdr,Zdv,k6,k8,k12,k13,k14,s1,l1,l2,l3,Nat.le_refl,Nat.mul_one,hm]
     exact fin _ _ rfl (by simp only [go_sem,k0,k1,k6,k7,k8,k9,k11,k12,k13,k14,k31,k32,k33,k52,k53,k54])
    | true =>
     simp only [go_sem,Zdr,k8,k14,ql,qt,qd,hm]
     refine Zaa Y22 (by simp only [go_sem]) ?_
     simp only [go_sem,Zaw,ql,qt,qd,k8,k14]
     refine Zaa hc (by simp only [go_sem,Zaw,Zah]) ?_
     by_cases hs1:sumM nd.mv=1
     ·have hc1:cmpR (sumM nd.mv) 1=0:=by rw [hc0]; exact hs1
      simp only [go_sem,hc1,Zdv,k6,k8,k12,k13,k14,s1,l1,l2,l3,Nat.le_refl,Nat.mul_one,hm]
      exact fin _ _ (by simp [hs1]) (by simp only [go_sem,k0,k1,k6,k7,k8,k9,k11,k12,k13,k14,k31,k32,k33,k52,k53,k54])
     ·have hc1:¬ cmpR (sumM nd.mv) 1=0:=by rw [hc0]; exact hs1
      simp only [go_sem,hc1,Zdv,k6,k8,k12,k13,k14,s1,l1,l2,l3,Nat.le_refl,Nat.mul_one,hm]
      exact fin _ _ (by simp [hs1]) (by simp only [go_sem,k0,k1,k6,k7,k8,k9,k11,k12,k13,k14,k31,k32,k33,k52,k53,k54])
   ·have hgN:gN nd = []:=by unfold gN; rw [if_neg h1,if_neg h2,if_neg h3]
    have hkF:kindF nd=false:=by simp [kindF,h1,h2,h3]
    rw [hkF,Bool.and_false,hgN,List.append_nil] at hQ
    simp only [go_sem,Zct,Zdp,Zdw,h1,h2,h3]
    refine T_W ?_
    simp only [go_sem,Zdw,Zl7,h2,h3,k8]
    refine hQ _ (Zp6 (Zab (rdF ls d i) ?_) (Zcg (Zht [0,1,2,3,4] (by decide) (fun i hi=>by omega) (rdF ls d i) (by simp only [go_sem])) ?_))
    ·simp only [go_sem,k0,k1,k6,k7,k8,k9,k11,k12,k13,k14,k31,k32,k33,k52,k53,k54]
    show St.mk _ [.cells (.osl none 3 0 A.length :: .osl (some 4) 4 0 n::z4'),.cells [.bool va],.cells [.bool _],.cells (gcL _ A),.cells (gcL _ R)]=_
    rw [hA,hR]
    rfl
end GoAbs
namespace GoAbs
open Go Go.Proofs
set_option maxHeartbeats 8000000
noncomputable def rowT (L:List Nd):List (List AV):=L.map fun n=>tc n.rew
noncomputable def nodesT (L:List Nd):List AV:=L.flatMap gN
theorem Yue (L:List Nd):(nodesT L).length≤L.length:=by
 induction L with
 | nil=>simp [nodesT]
 | cons n L ih =>
  have:(gN n).length≤1:=by unfold gN; split; simp; split; simp; split <;> simp
  unfold nodesT at *
  rw [List.flatMap_cons,List.length_append,List.length_cons]; omega
theorem Ybk {L:List Nd}(f:Nat→Option Nat):gcL f (nodesT L)=nodesT L:=by
 induction L with
 | nil=>rfl
 | cons n L ih =>
  unfold nodesT at *
  rw [List.flatMap_cons,Z3g,ih]
  congr 1
  rw [Za5]
  conv=>rhs; rw [← List.map_id (gN n)]
  exact List.map_congr_left fun y hy=>Xgk y hy f
theorem Xgi {L:List Nd}{d:ByteArray}{f0:Bool}(hL:L.length≤1000) (hok:∀ n,n∈L→n.rew.length≤23∧n.mv.length≤7∧∀ m,m∈n.mv→m.2.length≤23) {K:Ex→St→Prop}
  (hK:∀ e,Has e (rdF (L.map ndAV) d L.length)→K (.exit 0) ⟨e,[.cells (.osl none 3 0 (nodesT L).length :: .osl (some 4) 4 0 L.length::z4'),.cells [.bool (L.all ndVa)],.cells [.bool (f0 && L.all (ndFi L.length))],.cells (nodesT L),.cells (rowT L).flatten]⟩) :
  T Tryz.prog 212 0 (.loop Zjc) ⟨envL (rdF (L.map ndAV) d 0),[.cells (.osl none 3 0 0 :: .osl (some 4) 4 0 0::z4'),.cells [.bool true],.cells [.bool f0],.cells [],.cells []]⟩ K:=by
 refine Znx (fun i:Nat=>⟨envL (rdF (L.map ndAV) d i),[.cells (.osl none 3 0 (nodesT (L.take i)).length :: .osl (some 4) 4 0 i::z4'),.cells [.bool ((L.take i).all ndVa)],.cells [.bool (f0 && (L.take i).all (ndFi L.length))],.cells (nodesT (L.take i)),.cells (rowT (L.take i)).flatten]⟩)
  (fun i=>i≤L.length) (fun i=>L.length - i) 0 (by omega) (Zcg (Zab (rdF (L.map ndAV) d 0) (by simp only [go_sem])) (by simp [nodesT,rowT])) (fun i hi N hN=>?_)
 unfold Zjc
 by_cases hin:i<L.length
 ·obtain ⟨nd,hnd⟩:∃ n,L[i]? = some n:=⟨_,List.getElem?_eq_getElem hin⟩
  obtain ⟨o1,o2,o3⟩:=hok nd (List.mem_of_getElem? hnd)
  have tk:L.take (i+1)=L.take i ++ [nd]:=by rw [List.take_add_one,hnd]; rfl
  have tl:(L.take i).length=i:=by rw [List.length_take]; omega
  have q1:(i:Int)<(L.length:Int):=by omega
  have e1:IntKind.i64.wrap ((i:Int)+1)=((i+1:Nat):Int):=by rw [Zac (by omega) (by omega)]; omega
  have hrow:∀ c,c∈rowT (L.take i)→c.length=4∧∀ f,gcL f c=c:=fun c hc=>by
   obtain ⟨n,hn,rfl⟩:=List.mem_map.1 hc
   have:=(Zkq (hok n (List.mem_of_mem_take hn)).1).1
   exact ⟨this.len,this.gc⟩
  have hrt:=(Zkq o1).1
  have hRl:(rowT (L.take i)).flatten.length=i*4:=by rw [Z35 (fun c hc=>(hrow c hc).1)]; simp [rowT]; omega
  have hRg:∀ f,gcL f (rowT (L.take i)).flatten=(rowT (L.take i)).flatten:=fun f=>Yhf (fun c hc=>(hrow c hc).2 f)
  have hnl:=Yue (L.take i)
  have eA:nodesT (L.take (i+1))=nodesT (L.take i)++gN nd:=by rw [tk]; simp [nodesT]
  have eR:(rowT (L.take (i+1))).flatten=(rowT (L.take i)).flatten++tc nd.rew:=by rw [tk]; simp [rowT]
  have eV:(L.take (i+1)).all ndVa=((L.take i).all ndVa && okB nd.rew && vaM nd.mv):=by rw [tk]; simp [ndVa,Bool.and_assoc]
  have eF:(f0 && (L.take (i+1)).all (ndFi L.length))=(f0 && (L.take i).all (ndFi L.length) && smallB nd.rew && fiM L.length nd.kind nd.mv && decide (1≤nd.mv.length∧nd.mv.length≤6) && kindF nd):=by rw [tk]; simp [ndFi,Bool.and_assoc]
  refine Zbd 1 rfl ?_
  simp only [go_sem,Zqm,List.length_map,q1]
  refine Za8 (Za3 (Zar (rdF (L.map ndAV) d i) (by simp only [go_sem,List.length_map]) (Xas (nd:=nd) (by omega) (by rw [List.length_map]; omega) (by omega) (by rw [List.getElem?_map,hnd]; rfl) o1 o2 o3 hRl (fun f=>Ybk f) hRg (fun e he=>?_))))
  refine Xa4 (by omega) o3 o2 he (fun f=>Ybk f) (fun f=>by rw [Z3g,hRg,hrt.gc]) (fun st' hle=>?_)
  show T Tryz.prog 212 0 (.rg false Zmb) st' (thenQ N K)
  refine T_le hle (T_W ?_)
  simp only [go_sem,Zmb,e1]
  refine hN (i+1) _ (by omega) (by omega) (Zcg (Zab (rdF (L.map ndAV) d (i+1)) (by simp only [go_sem])) ?_)
  rw [eA,eR,eV,eF]
 ·have hie:i=L.length:=by omega
  subst hie
  have q1:¬ ((L.length:Nat):Int)<(L.length:Int):=by omega
  refine T_W ?_
  rw [List.take_length]
  simp only [go_sem,Zqm,List.length_map,q1]
  exact hK _ (by simp only [go_sem,List.length_map])
end GoAbs
namespace GoAbs
open Go Go.Proofs
set_option maxHeartbeats 8000000
def disF (d:List UInt8):Bool:=smallB d && (match parseL d with | some q=>decide (0≤q) && decide (q<1) | none=>true)
def gFit (L:List Nd) (d:List UInt8):Bool:=decide (1≤L.length∧L.length≤10) && L.all (ndFi L.length) && disF d
noncomputable def gmR (L:List Nd) (d:List UInt8):AV :=
 if (L.all ndVa && okB d)=false then .tup [.nilp,.int .i64 2] else if gFit L d=false then .tup [.nilp,.int .i64 1] else .tup [.rp (.sl (nodesT L) :: .sl ((rowT L).map .agg)::tc d),.int .i64 0]
theorem Xhe {n:Nd}(hl:∀ m,m∈n.mv→m.2.length≤23):∀ y,y∈gN n→y.cells = [y]∧∀ H ids,BV H ids y y:=fun y hy=>by
 unfold gN at hy
 have hA:∀ (cs:List AV) (H:Heap) (ids:List Nat),(∀ x,x∈cs→∃ l,x = .sl l)→BV H ids (.agg cs) (.agg cs):=fun cs H ids h => .agg _ _ rfl (fun i x y hx hy=>by
  rw [hx] at hy; cases hy
  obtain ⟨l,rfl⟩:=h x (List.mem_of_getElem? hx)
  exact .sl l)
 split at hy
 ·simp at hy; subst hy; exact ⟨rfl,fun H ids => .ifc _ _ _ (hA _ _ _ (by simp))⟩
 ·split at hy
  ·simp at hy; subst hy; exact ⟨rfl,fun H ids => .ifc _ _ _ (hA _ _ _ (by simp))⟩
  ·split at hy
   ·simp at hy; subst hy; exact ⟨rfl,fun H ids => .ifc _ _ _ (hA _ _ _ (by simp))⟩
   ·simp at hy
theorem Y6k {L:List Nd}{H:Heap}{ids:List Nat}{b:Nat}(hl:∀ n,n∈L→∀ m,m∈n.mv→m.2.length≤23) (hb:H[b]? = some (.cells (nodesT L))) (hi:b∈ids):BV H ids (.osl none b 0 (nodesT L).length) (.sl (nodesT L)):=by
 have hc:∀ x,x∈nodesT L→x.cells = [x]∧∀ H ids,BV H ids x x:=fun x hx=>by
  obtain ⟨n,hn,hx⟩:=List.mem_flatMap.1 hx
  exact Xhe (hl n hn) x hx
 refine .osl none b 0 _ _ _ hb hi rfl (fun x hx=>by rw [(hc x hx).1]; rfl) (by show 0+(nodesT L).length*1≤_; omega) (fun i x j y z hx hy hz=>?_)
 rw [(hc x (List.mem_of_getElem? hx)).1] at hy
 cases j with
 | zero =>
  simp at hy; subst hy
  rw [show 0+(i*es none+0)=i by show 0+(i*1+0)=i; omega,hx] at hz
  cases hz
  exact (hc x (List.mem_of_getElem? hx)).2 _ _
 | succ j=>simp at hy
abbrev rdEnd:CC := .seq (.block 5 (.seq (.rg false Zho) (.cond (.t 188) (.seq (.rg false Zhe) .ret) (.seq (.rg true Zdt) (.cond (.t 191) (.seq (.rg false Zdo) .ret) .skip))))) (.seq (.rg false Zm8) .ret)
theorem Xda {L:List Nd}{d:List UInt8}{e:Nat→AV}{va fi:Bool}{n:Nat}(hd:d.length≤23) (hn:n=L.length) (hv:va=(L.all ndVa && okB d)) (hf:fi=(decide (1≤L.length∧L.length≤10) && L.all (ndFi L.length) && smallB d))
  (hok:∀ n,n∈L→n.rew.length≤23∧n.mv.length≤7∧∀ m,m∈n.mv→m.2.length≤23)
  (e6:e 6 = .ptr 0 0) (e7:e 7 = .ptr 1 0) (e8:e 8 = .ptr 2 0) :
  T Tryz.prog 212 0 rdEnd ⟨e,[.cells (.osl none 3 0 (nodesT L).length :: .osl (some 4) 4 0 n::tc d),.cells [.bool va],.cells [.bool fi],.cells (nodesT L),.cells (rowT L).flatten]⟩ (retQ [.tmp 4,.tmp 5] (gmR L d)):=by
 have hm:Tryz.prog.follows .mixedOrders=true:=by kernel_rfl
 obtain ⟨hrt,hsm⟩:=Zkq hd
 have c4:=hrt.len
 have ct:(tc d).take 4=tc d:=List.take_of_length_le (by omega)
 cases va with
 | false =>
  have hg:gmR L d = .tup [.nilp,.int .i64 2]:=by unfold gmR; rw [if_pos hv.symm]
  rw [hg]
  refine T_W ?_
  simp only [go_sem,Zho,Zhe,e7]
  exact .nilp
 | true =>
  have hvd:okB d=true:=by have:=hv.symm; rw [Bool.and_eq_true] at this; exact this.2
  obtain ⟨q,hq⟩:∃ q,parseL d=some q:=by
   unfold okB at hvd
   cases hp:parseL d with
   | none=>rw [hp] at hvd; simp at hvd
   | some q=>exact ⟨q,rfl⟩
  have htq:=hrt.q q hq
  have hb:=Zw1 hq hd
  have hdis:gFit L d=(fi && (decide (0≤q) && decide (q<1))):=by
   unfold gFit disF
   rw [hq,hf]
   simp only [Bool.and_assoc]
  have hg:gmR L d=if (fi && (decide (0≤q) && decide (q<1)))=false then .tup [.nilp,.int .i64 1] else .tup [.rp (.sl (nodesT L) :: .sl ((rowT L).map .agg)::tc d),.int .i64 0]:=by
   unfold gmR
   rw [if_neg (by rw [← hv]; decide),hdis]
  rw [hg]
  have hcmp:=Y4m (k:=77) hb (Qb.one (k:=77) (by omega)) (by omega)
  have ql:∀ q,(qcell q).length=4:=fun q=>rfl
  have qt:∀ q,(qcell q).take 4=qcell q:=fun q=>rfl
  have qd:∀ q,(qcell q).drop 4 = []:=fun q=>rfl
  rw [htq]
  refine Zbd 0 rfl ?_
  simp only [go_sem,Zho,Zhe,e7]
  cases fi with
  | false =>
   simp only [go_sem,Zdt,Zdo,e6,e8,Bool.false_and]
   exact .nilp
  | true =>
   simp only [go_sem,Zdt,e6,e8,ql,qt,qd]
   refine Zaa (Ylh q) (by simp only [go_sem,Zaw,Zah]) ?_
   by_cases s0:q<0
   ·have c1:(if q=0 then (0:Int) else if q<0 then -1 else 1) = -1:=by rw [if_neg (by grind),if_pos s0]
    have c2:(-1:Int)<0:=by decide
    have c3:¬ 0≤q:=by grind
    simp only [go_sem,c1,c2,c3,Zdo,e6,e8,decide_false,Bool.false_and,Bool.and_false]
    exact .nilp
   ·have c1:¬ (if q=0 then (0:Int) else if q<0 then -1 else 1)<0:=by rw [if_neg s0]; split <;> decide
    have c3:0≤q:=by grind
    simp only [go_sem,c1,c3,e6,e8,ql,qt,qd]
    refine Zaa Y22 (by simp only [go_sem]) ?_
    simp only [go_sem,Zaw,ql,qt,qd,e6,e8]
    refine Zaa hcmp (by simp only [go_sem,Zaw,Zah]) ?_
    by_cases s1:q<1
    ·have c4:¬ 0≤cmpR q 1:=by unfold cmpR; rw [if_pos s1]; decide
     simp only [go_sem,c4,s1,decide_true,Bool.and_true,Zm8,e6,e8]
     refine T_W ?_
     simp only [go_sem,e6]
     refine .ptr 0 0 _ _ rfl (by simp [allOf]) (by simp) (fun j y z hy hz=>?_)
     rw [Nat.zero_add] at hz
     match j with
     | 0=>simp at hy hz; subst hy hz; exact Y6k (fun n hn=>(hok n hn).2.2) rfl (by simp [allOf])
     | 1 =>
      have hrow:∀ c,c∈rowT L→c.length=4∧∀ H ids,BVs H ids c c:=fun c hc=>by
       obtain ⟨n,hn,rfl⟩:=List.mem_map.1 hc
       have:=(Zkq (hok n hn).1).1
       exact ⟨this.len,fun H ids=>by rw [this.bv]; trivial⟩
      simp at hy hz; subst hy hz
      rw [hn,show L.length=(rowT L).length by simp [rowT]]
      exact Z56 (w:=4) rfl (by simp [allOf]) rfl (fun c hc=>(hrow c hc).1) (fun c hc=>(hrow c hc).2 _ _)
     | j+2 =>
      simp only [List.getElem?_cons_succ] at hy hz
      rw [hy] at hz; cases hz
      have hx:=List.mem_of_getElem? hy
      unfold qcell at hx
      simp only [List.mem_cons,List.not_mem_nil,or_false] at hx
      rcases hx with rfl | rfl | rfl | rfl
      ·exact .bool _
      ·exact .sl _
      ·exact .bool _
      ·exact .sl _
    ·have c4:0≤cmpR q 1:=by unfold cmpR; rw [if_neg s1]; split <;> decide
     simp only [go_sem,c4,s1,decide_false,Bool.and_false,Zdo,e6,e8]
     exact .nilp
theorem Ytg {L:List Nd}{d:List UInt8}(hL:L.length≤1000) (hd:d.length≤23) (hok:∀ n,n∈L→n.rew.length≤23∧n.mv.length≤7∧∀ m,m∈n.mv→m.2.length≤23) :
  SpecV Tryz.prog Z06 [.sl (L.map ndAV),.str (bs d)] (gmR L d):=by
 obtain ⟨hrt,hsm⟩:=Zkq hd
 have c4:=hrt.len
 have ct:(tc d).take 4=tc d:=List.take_of_length_le (by omega)
 have cd:(tc d).drop 4 = []:=List.drop_eq_nil_of_le (by omega)
 refine Za4 Ykl (by simp) ?_
 unfold Yge
 have fin:∀ (b:Bool) (e:Nat→AV),b=decide (1≤L.length∧L.length≤10)→Has e [(0,.sl (L.map ndAV)),(1,.str (bs d)),(6,.ptr 0 0),(7,.ptr 1 0),(8,.ptr 2 0),(9,.fn Zax [] [.ptr 1 0,.ptr 2 0])] →
   T Tryz.prog 212 0 (.seq (.seq (.rg false Zot) (.block 0 (.loop Zjc))) (.seq (.rg false Zhd) rdEnd)) ⟨e,[.cells (.nils :: .nils::z4'),.cells [.bool true],.cells [.bool b]]⟩ (retQ [.tmp 4,.tmp 5] (gmR L d)):=fun b e hb he=>by
  subst hb
  refine Zar _ he (Za8 (Zbd 0 rfl ?_))
  simp only [go_sem,Zot,List.length_map]
  refine Za3 (T_le (Zp6 (Zab (rdF (L.map ndAV) (bs d) 0) (by simp only [go_sem,List.length_map]; rfl)) (Zp6 Ym8 (Zp6 Ym8 (Zcg (Z97 (b:=0) (l := .nils :: .nils::z4') (l' := .osl none 3 0 0 :: .osl (some 4) 4 0 0::z4') rfl rfl (fun j x y hx hy=>?_)) rfl)))) (Xgi hL hok (fun e he=>?_)))
  ·match j with
   | 0=>simp at hx hy; subst hx hy; exact .inr ⟨rfl,_,_,_,rfl⟩
   | 1=>simp at hx hy; subst hx hy; exact .inr ⟨rfl,_,_,_,rfl⟩
   | j+2=>simp only [List.getElem?_cons_succ] at hx hy; rw [hx] at hy; cases hy; exact .inl rfl
  ·show T Tryz.prog 212 0 (.seq (.rg false Zhd) rdEnd) _ _
   obtain ⟨k0,k1,k6,k7,k8,k9,_⟩:=he
   refine Zbd 0 rfl ?_
   simp only [go_sem,Zhd,k1,k6,k9]
   refine Zdq (Yd2 (n:=5) (bi:=1) (bj:=2) (va:=L.all ndVa) (fi:=decide (1≤L.length∧L.length≤10) && L.all (ndFi L.length)) rfl ?_ (by omega) rfl rfl hrt hsm) ?_
   ·have hrow:∀ c,c∈rowT L→c.length=4∧∀ f,gcL f c=c:=fun c hc=>by
     obtain ⟨n,hn,rfl⟩:=List.mem_map.1 hc
     have:=(Zkq (hok n hn).1).1
     exact ⟨this.len,this.gc⟩
    unfold Clo
    show [Blk.cells (_::_::z4'),_,_,.cells (gcL _ (nodesT L)),.cells (gcL _ (rowT L).flatten)]=_
    rw [Ybk,Yhf (fun c hc=>(hrow c hc).2 _)]; rfl
   ·simp only [go_sem,k6,c4,ct,cd]
    exact Xda hd rfl rfl rfl hok (by simp only [go_sem,k6]) (by simp only [go_sem,k7]) (by simp only [go_sem,k8])
 refine Zbd 3 rfl ?_
 by_cases a1:(1:Int)≤(L.length:Int)
 ·by_cases a2:(L.length:Int)≤10
  ·simp only [go_sem,Zi5,Zjb,Zjf,Zje,List.length_map,a1,a2]
   exact fin _ _ (by simp; omega) (by simp only [go_sem])
  ·simp only [go_sem,Zi5,Zjb,Zjf,Zje,List.length_map,a1,a2]
   exact fin _ _ (by simp; omega) (by simp only [go_sem])
 ·simp only [go_sem,Zi5,Zjb,Zjf,Zje,List.length_map,a1]
  exact fin _ _ (by simp; omega) (by simp only [go_sem])
end GoAbs
namespace GoAbs
open Go Go.Proofs
theorem Y7a (f:Nat→Rat):∀ n,0<n→∃ i,i<n∧∀ j,j<n→f j≤f i
 | 0,h=>absurd h (by omega)
 | 1,_=>⟨0,by omega,fun j hj=>by
   have h:j=0:=by omega
   rw [h]; grind⟩
 | n+2,_=>by
  obtain ⟨i,hi,h⟩:=Y7a f (n+1) (by omega)
  by_cases hc:f i≤f (n+1)
  ·refine ⟨n+1,by omega,fun j hj=>?_⟩
   by_cases hj':j=n+1
   ·rw [hj']; grind
   ·have:=h j (by omega); grind
  ·refine ⟨i,by omega,fun j hj=>?_⟩
   by_cases hj':j=n+1
   ·rw [hj']; grind
   ·exact h j (by omega)
def Sh (n:Nat) (d:Rat) (F:List Rat→Nat→Rat):Prop:=∀ (u v:List Rat) (c:Rat),(∀ j,j<n→rget u j≤rget v j+c)→∀ i,i<n→F u i≤F v i+d*c
theorem Xhy {c d:Rat}(d1:d<1) (h:c≤d*c):c≤0:=by
 rcases (Rat.le_total:c≤0∨0≤c) with h0 | h0
 ·exact h0
 ·by_cases hc:c=0
  ·rw [hc]; grind
  ·have hp:0<c:=by grind
   have:=Rat.mul_pos (show 0<1 - d by grind) hp
   grind
theorem Sh.le {n:Nat}{d:Rat}{F:List Rat→Nat→Rat}(h:Sh n d F) (d1:d<1) {u v:List Rat}(hu:∀ i,i<n→rget u i≤F u i) (hv:∀ i,i<n→F v i≤rget v i):∀ i,i<n→rget u i≤rget v i:=fun i hi=>by
 obtain ⟨k,hk,hm⟩:=Y7a (fun i=>rget u i - rget v i) n (by omega)
 have h1:=h u v (rget u k - rget v k) (fun j hj=>by have:=hm j hj; grind) k hk
 have h2:=hu k hk
 have h3:=hv k hk
 have h5:=Xhy d1 (show rget u k - rget v k≤d*(rget u k - rget v k) by grind)
 have:=hm i hi
 grind
theorem Sh.mono {n:Nat}{d:Rat}{F:List Rat→Nat→Rat}(h:Sh n d F) {u v:List Rat}(hu:∀ j,j<n→rget u j≤rget v j):∀ i,i<n→F u i≤F v i:=fun i hi=>by
 have:=h u v 0 (fun j hj=>by have:=hu j hj; grind) i hi
 grind
theorem Sh.uniq {n:Nat}{d:Rat}{F:List Rat→Nat→Rat}(h:Sh n d F) (d1:d<1) {u v:List Rat}(hu:∀ i,i<n→rget u i=F u i) (hv:∀ i,i<n→rget v i=F v i):∀ i,i<n→rget u i=rget v i:=fun i hi=>by
 have h1:=h.le d1 (fun i hi=>by rw [← hu i hi]; grind) (fun i hi=>by rw [← hv i hi]; grind) i hi
 have h2:=h.le d1 (fun i hi=>by rw [← hv i hi]; grind) (fun i hi=>by rw [← hu i hi]; grind) i hi
 grind
theorem Zwm {u v:List Rat}(hl:u.length=v.length) (h:∀ i,i<v.length→rget u i=rget v i):u=v:=by
 refine List.ext_getElem hl fun i h1 h2=>?_
 have:=h i h2
 unfold rget at this
 rwa [List.getD_eq_getElem?_getD,List.getD_eq_getElem?_getD,List.getElem?_eq_getElem h1,List.getElem?_eq_getElem h2] at this
theorem Y4z {a b:Rat}:(cmpR a b=1)=(b<a):=propext (by unfold cmpR; constructor <;> intro h <;> grind)
theorem Yls {a b:Rat}:(cmpR a b = -1)=(a<b):=propext (by unfold cmpR; constructor <;> intro h <;> grind)
theorem Yad {v:List Rat}{to:List Nat}:∀ {k:Nat},(∀ t,t<k→rget v (to.getD t 0)≤rget v (to.getD (bestG v to 1 k) 0))∧(∀ t,t<bestG v to 1 k→rget v (to.getD t 0)<rget v (to.getD (bestG v to 1 k) 0))∧bestG v to 1 k≤k
 | 0=>⟨fun t h=>by omega,fun t h=>by unfold bestG at h; omega,by unfold bestG; omega⟩
 | k+1=>by
  obtain ⟨h1,h2,h3⟩:=Yad (v:=v) (to:=to) (k:=k)
  rw [show bestG v to 1 (k+1)=if cmpR (rget v (to.getD k 0)) (rget v (to.getD (bestG v to 1 k) 0))=1 then k else bestG v to 1 k from rfl]
  split
  ·rename_i hc
   rw [Y4z] at hc
   refine ⟨fun t ht=>?_,fun t ht=>?_,by omega⟩
   ·by_cases htk:t=k
    ·rw [htk]; grind
    ·have:=h1 t (by omega); grind
   ·have:=h1 t ht; grind
  ·rename_i hc
   rw [Y4z] at hc
   refine ⟨fun t ht=>?_,h2,by omega⟩
   by_cases htk:t=k
   ·rw [htk]; grind
   ·exact h1 t (by omega)
theorem Z34 {v:List Rat}{to:List Nat}:∀ {k:Nat},(∀ t,t<k→rget v (to.getD (bestG v to (-1) k) 0)≤rget v (to.getD t 0))∧(∀ t,t<bestG v to (-1) k→rget v (to.getD (bestG v to (-1) k) 0)<rget v (to.getD t 0))∧bestG v to (-1) k≤k
 | 0=>⟨fun t h=>by omega,fun t h=>by unfold bestG at h; omega,by unfold bestG; omega⟩
 | k+1=>by
  obtain ⟨h1,h2,h3⟩:=Z34 (v:=v) (to:=to) (k:=k)
  rw [show bestG v to (-1) (k+1)=if cmpR (rget v (to.getD k 0)) (rget v (to.getD (bestG v to (-1) k) 0))=(-1) then k else bestG v to (-1) k from rfl]
  split
  ·rename_i hc
   rw [Yls] at hc
   refine ⟨fun t ht=>?_,fun t ht=>?_,by omega⟩
   ·by_cases htk:t=k
    ·rw [htk]; grind
    ·have:=h1 t (by omega); grind
   ·have:=h1 t ht; grind
  ·rename_i hc
   rw [Yls] at hc
   refine ⟨fun t ht=>?_,h2,by omega⟩
   by_cases htk:t=k
   ·rw [htk]; grind
   ·exact h1 t (by omega)
def sumO (odds:List Rat):Nat→Rat
 | 0=>0
 | i+1=>sumO odds i+rget odds i
theorem Yyp {odds u v:List Rat}{to:List Nat}{c:Rat}:∀ {i:Nat},(∀ t,t<i→0≤rget odds t)→(∀ t,t<i→rget u (to.getD t 0)≤rget v (to.getD t 0)+c)→dotW odds u to i≤dotW odds v to i+c*sumO odds i
 | 0,_,_=>by simp only [dotW,sumO]; grind
 | i+1,h0,h=>by
  have ih:=Yyp (odds:=odds) (u:=u) (v:=v) (to:=to) (c:=c) (i:=i) (fun t ht=>h0 t (by omega)) (fun t ht=>h t (by omega))
  have h1:=h i (by omega)
  have h2:=Rat.mul_nonneg (h0 i (by omega)) (show 0≤rget v (to.getD i 0)+c - rget u (to.getD i 0) by grind)
  simp only [dotW,sumO]
  generalize rget odds i=o at *
  generalize rget u (to.getD i 0)=x at *
  generalize rget v (to.getD i 0)=y at *
  generalize sumO odds i=s at *
  generalize dotW odds u to i=p at *
  generalize dotW odds v to i=q at *
  grind
structure GmP (g:Gm):Prop where
 ok:GmOk g
 d0:0≤g.d
 d1:g.d<1
 odds:∀ x,x∈g.nodes→x.kind=3→(∀ q,q∈x.odds→0≤q)∧sumO x.odds x.to.length=1
def nodeAt (g:Gm) (i:Nat):GN:=g.nodes.getD i default
theorem Zbf {g:Gm}{i:Nat}(h:i<g.nodes.length):nodeAt g i∈g.nodes:=List.mem_of_getElem? (show g.nodes[i]? = some _ by unfold nodeAt; rw [List.getD_eq_getElem?_getD,List.getElem?_eq_getElem h]; rfl)
def worthP (x:GN) (k:Nat) (v:List Rat):Rat:=if x.kind=3 then dotW x.odds v x.to x.to.length else rget v (x.to.getD k 0)
def pget (p:List Int) (i:Nat):Nat:=(p.getD i 0).toNat
def planV (g:Gm) (p:List Int) (v:List Rat) (i:Nat):Rat:=rget g.rew i+g.d*worthP (nodeAt g i) (pget p i) v
theorem Zcw {to:List Nat}{k:Nat}(h:k<to.length):to.getD k 0∈to:=List.mem_of_getElem? (Zcj h)
theorem Ykb {g:Gm}(hg:GmP g) {x:GN}(hx:x∈g.nodes) (h3:x.kind=3) {u v:List Rat}{c:Rat}(h:∀ j,j<g.nodes.length→rget u j≤rget v j+c):dotW x.odds u x.to x.to.length≤dotW x.odds v x.to x.to.length+c:=by
 obtain ⟨o1,o2⟩:=hg.odds x hx h3
 have ho:=((hg.ok.node x hx).odds h3).1
 have:=Yyp (odds:=x.odds) (u:=u) (v:=v) (to:=x.to) (c:=c) (i:=x.to.length) (fun t ht=>o1 _ (List.mem_of_getElem? (Zai (by omega)))) (fun t ht=>h _ ((hg.ok.node x hx).lt _ (Zcw ht)))
 rw [o2] at this
 grind
theorem dmul {d a b c:Rat}(d0:0≤d) (h:a≤b+c) (r:Rat):r+d*a≤r+d*b+d*c:=by
 have:=Rat.mul_nonneg d0 (show 0≤b+c - a by grind)
 grind
def POk (g:Gm) (p:List Int):Prop:=p.length=g.nodes.length∧∀ i,i<g.nodes.length→(nodeAt g i).kind≠3→0≤p.getD i 0∧p.getD i 0<((nodeAt g i).to.length:Int)
theorem POk.lt {g:Gm}{p:List Int}(h:POk g p) {i:Nat}(hi:i<g.nodes.length) (h3:(nodeAt g i).kind≠3):pget p i<(nodeAt g i).to.length:=by
 have:=h.2 i hi h3
 unfold pget
 omega
theorem Yal {g:Gm}(hg:GmP g) {p:List Int}(hp:POk g p):Sh g.nodes.length g.d (planV g p):=fun u v c h i hi=>by
 unfold planV
 refine dmul hg.d0 ?_ _
 have hx:=Zbf hi
 have hlt:=hp.lt hi
 generalize nodeAt g i=x at *
 unfold worthP
 split
 ·rename_i h3
  exact Ykb hg hx h3 h
 ·rename_i h3
  exact h _ ((hg.ok.node x hx).lt _ (Zcw (hlt h3)))
theorem Y9v {g:Gm}(hg:GmP g):Sh g.nodes.length g.d (nextV g):=fun u v c h i hi=>by
 unfold nextV
 refine dmul hg.d0 ?_ _
 have hx:=Zbf hi
 have hok:=hg.ok.node _ hx
 show worthR (nodeAt g i) u≤worthR (nodeAt g i) v+c
 generalize nodeAt g i=x at *
 have hm:∀ t,t<x.to.length→rget u (x.to.getD t 0)≤rget v (x.to.getD t 0)+c:=fun t ht=>h _ (hok.lt _ (Zcw ht))
 unfold worthR
 split
 ·have b1:=Zfe (v:=u) (sg:=1) hok.pos (Nat.le_refl _)
  have b2:=(Yad (v:=v) (to:=x.to) (k:=x.to.length)).1 _ b1
  have b3:=hm _ b1
  unfold bestA at *
  grind
 ·split
  ·have b1:=Zfe (v:=v) (sg := -1) hok.pos (Nat.le_refl _)
   have b2:=(Z34 (v:=u) (to:=x.to) (k:=x.to.length)).1 _ b1
   have b3:=hm _ b1
   unfold bestA at *
   grind
  ·rename_i h1 h2
   exact Ykb hg hx (by have:=hok.kind; omega) h
def Ltv (n:Nat) (u v:List Rat):Prop:=(∀ i,i<n→rget u i≤rget v i)∧∃ i,i<n∧rget u i<rget v i
theorem Ltv.trans {n:Nat}{u v w:List Rat}(h:Ltv n u v) (k:Ltv n v w):Ltv n u w:=by
 obtain ⟨h1,i,hi,h2⟩:=h
 refine ⟨fun j hj=>Rat.le_trans (h1 j hj) (k.1 j hj),i,hi,?_⟩
 have:=k.1 i hi
 grind
theorem Ltv.irrefl {n:Nat}{u:List Rat}(h:Ltv n u u):False:=by
 obtain ⟨_,i,hi,h2⟩:=h
 grind
def PVal (g:Gm) (p:List Int) (v:List Rat):Prop:=v.length=g.nodes.length∧∀ i,i<g.nodes.length→rget v i=planV g p v i
theorem Y21 {g:Gm}(hg:GmP g) {p:List Int}(hp:POk g p) {u v:List Rat}(hu:PVal g p u) (h1:∀ i,i<g.nodes.length→planV g p v i≤rget v i) (h2:∃ i,i<g.nodes.length∧planV g p v i<rget v i):Ltv g.nodes.length u v:=by
 have hs:=Yal hg hp
 have hle:=hs.le hg.d1 (u:=u) (v:=v) (fun i hi=>by rw [← hu.2 i hi]; grind) h1
 obtain ⟨i,hi,hl⟩:=h2
 refine ⟨hle,i,hi,?_⟩
 have:=hs.mono hle i hi
 rw [hu.2 i hi]
 grind
theorem Y5l {g:Gm}(hg:GmP g) {p:List Int}(hp:POk g p) {u v:List Rat}(hu:PVal g p u) (h1:∀ i,i<g.nodes.length→rget v i≤planV g p v i) (h2:∃ i,i<g.nodes.length∧rget v i<planV g p v i):Ltv g.nodes.length v u:=by
 have hs:=Yal hg hp
 have hle:=hs.le hg.d1 (u:=v) (v:=u) h1 (fun i hi=>by rw [← hu.2 i hi]; grind)
 obtain ⟨i,hi,hl⟩:=h2
 refine ⟨hle,i,hi,?_⟩
 have:=hs.mono hle i hi
 rw [hu.2 i hi]
 grind
def sgn (who:Nat):Int:=if who=1 then 1 else -1
def bet1 (g:Gm) (v:List Rat) (who:Nat) (p:List Int) (i:Nat):Bool :=
 decide ((nodeAt g i).kind=who) && decide (cmpR (rget v ((nodeAt g i).to.getD (bestA v (nodeAt g i).to (sgn who)) 0)) (rget v ((nodeAt g i).to.getD (pget p i) 0))=sgn who)
def betI (g:Gm) (v:List Rat) (who:Nat) (p:List Int) (i:Nat):Int:=if bet1 g v who p i=true then (bestA v (nodeAt g i).to (sgn who):Int) else p.getD i 0
def betP (g:Gm) (v:List Rat) (who:Nat) (p:List Int):List Int:=(List.range g.nodes.length).map (betI g v who p)
def betC (g:Gm) (v:List Rat) (who:Nat) (p:List Int):Bool:=(List.range g.nodes.length).any (bet1 g v who p)
theorem Zpt {g:Gm}{v:List Rat}{who:Nat}{p:List Int}{i:Nat}(hi:i<g.nodes.length):(betP g v who p).getD i 0=betI g v who p i:=by
 unfold betP
 rw [List.getD_eq_getElem?_getD,List.getElem?_map,List.getElem?_range hi]; rfl
def POk0 (g:Gm) (p:List Int):Prop:=p.length=g.nodes.length∧∀ i,i<g.nodes.length→0≤p.getD i 0∧p.getD i 0<((nodeAt g i).to.length:Int)
theorem POk0.ok {g:Gm}{p:List Int}(h:POk0 g p):POk g p:=⟨h.1,fun i hi _=>h.2 i hi⟩
theorem Ybs {g:Gm}(hg:GmP g) {v:List Rat}{who:Nat}{p:List Int}(hp:POk0 g p):POk0 g (betP g v who p):=by
 refine ⟨by unfold betP; rw [List.length_map,List.length_range],fun i hi=>?_⟩
 rw [Zpt hi]
 unfold betI
 split
 ·have:=Zfe (v:=v) (sg:=sgn who) (hg.ok.node _ (Zbf hi)).pos (Nat.le_refl _)
  unfold bestA
  omega
 ·exact hp.2 i hi
def Same1 (g:Gm) (p q:List Int):Prop:=∀ i,i<g.nodes.length→(nodeAt g i).kind=1→p.getD i 0=q.getD i 0
theorem Zec {x:GN}{k:Nat}{v:List Rat}(h:x.kind≠3):worthP x k v=rget v (x.to.getD k 0):=by unfold worthP; rw [if_neg h]
theorem dlt {d a b r:Rat}(hd:0<d) (h:a<b):r+d*a<r+d*b:=by
 have:=Rat.mul_pos hd (show 0<b - a by grind)
 grind
theorem better2 {g:Gm}(hg:GmP g) {p:List Int}{v u:List Rat}(hp:POk0 g p) (hv:PVal g p v) (hd:0<g.d) (hc:betC g v 2 p=true) (hu:PVal g (betP g v 2 p) u):Ltv g.nodes.length u v:=by
 have key:∀ i,i<g.nodes.length→bet1 g v 2 p i=true→planV g (betP g v 2 p) v i<rget v i:=fun i hi hb=>by
  rw [hv.2 i hi]
  unfold planV
  have hpg:pget (betP g v 2 p) i=bestA v (nodeAt g i).to (-1):=by
   unfold pget; rw [Zpt hi]; unfold betI; rw [if_pos hb]; simp [sgn]
  unfold bet1 at hb
  simp only [Bool.and_eq_true,decide_eq_true_eq] at hb
  have h3:(nodeAt g i).kind≠3:=by omega
  rw [Zec h3,Zec h3,hpg]
  have h2:=hb.2
  rw [show sgn 2 = -1 from rfl,Yls] at h2
  exact dlt hd h2
 refine Y21 hg (Ybs hg hp).ok hu (fun i hi=>?_) ?_
 ·by_cases hb:bet1 g v 2 p i=true
  ·have:=key i hi hb; grind
  ·rw [hv.2 i hi]
   unfold planV
   have:pget (betP g v 2 p) i=pget p i:=by unfold pget; rw [Zpt hi]; unfold betI; rw [if_neg hb]
   rw [this]; grind
 ·unfold betC at hc
  rw [List.any_eq_true] at hc
  obtain ⟨i,hi,hb⟩:=hc
  have hi:i<g.nodes.length:=by simpa using hi
  exact ⟨i,hi,key i hi hb⟩
theorem Z8o {g:Gm}{p:List Int}{v:List Rat}:Same1 g (betP g v 2 p) p:=fun i hi h1=>by
 rw [Zpt hi]
 have e:decide ((nodeAt g i).kind=2)=false:=by rw [h1]; rfl
 unfold betI bet1
 rw [e,Bool.false_and,if_neg (by decide)]
theorem nobetter {g:Gm}{p:List Int}{v:List Rat}{who:Nat}(hc:betC g v who p=false) {i:Nat}(hi:i<g.nodes.length):bet1 g v who p i=false:=by
 unfold betC at hc
 rw [List.any_eq_false] at hc
 have:=hc i (by simpa using hi)
 simpa using this
theorem better1 {g:Gm}(hg:GmP g) {p q:List Int}{v u:List Rat}(hp:POk0 g p) (hv:PVal g p v) (hd:0<g.d) (h2:betC g v 2 p=false) (hc:betC g v 1 p=true) (hq:POk0 g q) (hs:Same1 g q (betP g v 1 p)) (hu:PVal g q u):Ltv g.nodes.length v u:=by
 have key1:∀ i,i<g.nodes.length→bet1 g v 1 p i=true→rget v i<planV g q v i:=fun i hi hb=>by
  rw [hv.2 i hi]
  unfold planV
  have hk:(nodeAt g i).kind=1:=by unfold bet1 at hb; simp only [Bool.and_eq_true,decide_eq_true_eq] at hb; exact hb.1
  have hpg:pget q i=bestA v (nodeAt g i).to 1:=by
   unfold pget; rw [hs i hi hk,Zpt hi]; unfold betI; rw [if_pos hb]; simp [sgn]
  unfold bet1 at hb
  simp only [Bool.and_eq_true,decide_eq_true_eq] at hb
  have h3:(nodeAt g i).kind≠3:=by omega
  rw [Zec h3,Zec h3,hpg]
  have h2:=hb.2
  rw [show sgn 1=1 from rfl,Y4z] at h2
  exact dlt hd h2
 refine Y5l hg hq.ok hu (fun i hi=>?_) ?_
 ·by_cases hb:bet1 g v 1 p i=true
  ·have:=key1 i hi hb; grind
  ·have hx:=Zbf hi
   have hok:=hg.ok.node _ hx
   by_cases h1:(nodeAt g i).kind=1
   ·have:pget q i=pget p i:=by unfold pget; rw [hs i hi h1,Zpt hi]; unfold betI; rw [if_neg hb]
    rw [hv.2 i hi]
    unfold planV
    rw [this]; grind
   ·by_cases h3:(nodeAt g i).kind=3
    ·rw [hv.2 i hi]
     unfold planV worthP
     rw [if_pos h3,if_pos h3]; grind
    ·have hk2:(nodeAt g i).kind=2:=by have:=hok.kind; omega
     have hb2:=nobetter h2 hi
     have hlt:=hq.ok.lt hi h3
     unfold bet1 at hb2
     simp only [hk2,decide_true,Bool.true_and,decide_eq_false_iff_not] at hb2
     rw [show sgn 2 = -1 from rfl,Yls] at hb2
     have b2:=(Z34 (v:=v) (to:=(nodeAt g i).to) (k:=(nodeAt g i).to.length)).1 _ hlt
     rw [hv.2 i hi]
     unfold planV
     rw [Zec h3,Zec h3]
     unfold bestA at hb2
     have:=dmul (d:=g.d) (c:=0) hg.d0 (show rget v ((nodeAt g i).to.getD (pget p i) 0)≤rget v ((nodeAt g i).to.getD (pget q i) 0)+0 by grind) (rget g.rew i)
     grind
 ·unfold betC at hc
  rw [List.any_eq_true] at hc
  obtain ⟨i,hi,hb⟩:=hc
  have hi:i<g.nodes.length:=by simpa using hi
  exact ⟨i,hi,key1 i hi hb⟩
theorem Yrs {g:Gm}(hg:GmP g) {p:List Int}{v:List Rat}(hp:POk0 g p) (hv:PVal g p v) (h1:betC g v 1 p=false) (h2:betC g v 2 p=false):∀ i,i<g.nodes.length→rget v i=nextV g v i:=fun i hi=>by
 have hx:=Zbf hi
 have hok:=hg.ok.node _ hx
 rw [hv.2 i hi]
 unfold planV nextV
 congr 1
 show _=g.d*worthR (nodeAt g i) v
 congr 1
 have hlt:=hp.ok.lt hi
 have b1:=nobetter h1 hi
 have b2:=nobetter h2 hi
 unfold bet1 at b1 b2
 generalize nodeAt g i=x at *
 generalize pget p i=k at *
 unfold worthP worthR
 by_cases k1:x.kind=1
 ·have m:=(Yad (v:=v) (to:=x.to) (k:=x.to.length)).1 _ (hlt (by omega))
  simp only [k1,decide_true,Bool.true_and,decide_eq_false_iff_not] at b1
  rw [show sgn 1=1 from rfl,Y4z] at b1
  rw [if_neg (by omega),if_pos k1]
  unfold bestA at *
  grind
 ·by_cases k2:x.kind=2
  ·have m:=(Z34 (v:=v) (to:=x.to) (k:=x.to.length)).1 _ (hlt (by omega))
   simp only [k2,decide_true,Bool.true_and,decide_eq_false_iff_not] at b2
   rw [show sgn 2 = -1 from rfl,Yls] at b2
   rw [if_neg (by omega),if_neg k1,if_pos k2]
   unfold bestA at *
   grind
  ·rw [if_pos (by have:=hok.kind; omega),if_neg k1,if_neg k2]
end GoAbs
namespace GoAbs
open Go Go.Proofs
def oddsQ (l:List Mv):List Rat:=(l.filter hasO).map fun m=>(parseL m.2).getD 0
def toGN (n:Nd):GN:=⟨n.kind.toNat,n.mv.map (·.1.toNat),oddsQ n.mv⟩
def toGm (L:List Nd) (d:List UInt8):Gm:=⟨L.map toGN,L.map (fun n=>(parseL n.rew).getD 0),(parseL d).getD 0⟩
theorem okBq {l:List UInt8}(h:okB l=true):parseL l=some ((parseL l).getD 0):=by
 unfold okB at h
 cases hp:parseL l with
 | none=>rw [hp] at h; simp at h
 | some q=>rfl
theorem tc_q {l:List UInt8}(hl:l.length≤23) (h:okB l=true):tc l=qcell ((parseL l).getD 0):=(Zkq hl).1.q _ (okBq h)
theorem Yo3 {q:Rat}(h:Fitd 12 q):Qb 40 q:=by
 have c:10 ^ 12<2 ^ 40:=by decide
 exact ⟨Nat.lt_trans (Ydy h.1) c,Nat.lt_trans (Ydy h.2) c⟩
theorem Z5u {l:List UInt8}(h:smallB l=true):Fitd 12 ((parseL l).getD 0):=by
 unfold smallB at h
 cases hp:parseL l with
 | none=>rw [hp] at h; simp at h
 | some q=>rw [hp] at h; simpa using h
theorem Yb5 {p:List Rat}{x:Rat}:∀ {k:Nat},k≤p.length→sumO (p ++ [x]) k=sumO p k
 | 0,_=>rfl
 | k+1,h=>by
  simp only [sumO]
  rw [Yb5 (by omega)]
  congr 1
  unfold rget
  rw [List.getD_eq_getElem?_getD,List.getD_eq_getElem?_getD,List.getElem?_append_left (by omega)]
theorem Yy7 {p:List Rat}{x:Rat}:sumO (p ++ [x]) (p ++ [x]).length=sumO p p.length+x:=by
 rw [List.length_append,List.length_cons,List.length_nil]
 show sumO (p ++ [x]) p.length+rget (p ++ [x]) p.length=_
 rw [Yb5 (Nat.le_refl _)]
 congr 1
 unfold rget
 rw [List.getD_eq_getElem?_getD,List.getElem?_append_right (Nat.le_refl _),Nat.sub_self]; rfl
theorem Ykt:∀ (n:Nat) {l:List Mv},l.length=n→vaM l=true→sumM l=sumO (oddsQ l) (oddsQ l).length
 | 0,l,hl,_=>by rw [List.eq_nil_of_length_eq_zero hl]; rfl
 | n+1,l,hl,hv=>by
  obtain ⟨l',m,rfl⟩:∃ l' m,l=l' ++ [m]:=by
   rcases List.eq_nil_or_concat l with h | ⟨l',m,h⟩
   ·rw [h] at hl; simp at hl
   ·exact ⟨l',m,by simpa using h⟩
  unfold vaM at hv
  rw [List.all_append,Bool.and_eq_true] at hv
  have ih:=Ykt n (l:=l') (by simpa using hl) hv.1
  have h2:=hv.2
  simp only [List.all_cons,List.all_nil,Bool.and_true] at h2
  rw [Yd0,ih]
  unfold stepM oddsQ
  rw [List.filter_append,List.map_append]
  by_cases he:m.2.isEmpty=true
  ·rw [if_pos he]
   have : [m].filter hasO = []:=by simp [hasO,he]
   rw [this]; simp
  ·rw [if_neg he]
   have : [m].filter hasO = [m]:=by simp [hasO,he]
   have hb:okB m.2=true:=by simpa [he] using h2
   rw [this,List.map_cons,List.map_nil,Yy7]
   have:=okBq hb
   rw [this]; rfl
theorem Xe7 {N:Nat}{n:Nd}(hv:ndVa n=true) (hf:ndFi N n=true) (hl:n.rew.length≤23∧n.mv.length≤7∧∀ m,m∈n.mv→m.2.length≤23) :
  gN n = [gnAV (toGN n)]∧GnOk N (toGN n)∧((toGN n).kind=3→(∀ q,q∈(toGN n).odds→0≤q)∧sumO (toGN n).odds (toGN n).to.length=1):=by
 unfold ndVa at hv
 rw [Bool.and_eq_true] at hv
 unfold ndFi at hf
 simp only [Bool.and_eq_true,decide_eq_true_eq] at hf
 obtain ⟨⟨⟨f1,f2⟩,f3⟩,f4⟩:=hf
 have hm:∀ m,m∈n.mv→(0≤m.1∧m.1<(N:Int))∧((!m.2.isEmpty)=decide (n.kind=3))∧(m.2.isEmpty=false→okB m.2=true∧0<(parseL m.2).getD 0∧Fitd 12 ((parseL m.2).getD 0)):=fun m hmm=>by
  have a:=List.all_eq_true.1 f2 m hmm
  have b:=List.all_eq_true.1 hv.2 m hmm
  unfold mvFit mvFit1 at a
  simp only [Bool.and_eq_true,decide_eq_true_eq,beq_iff_eq,Bool.or_eq_true] at a b
  refine ⟨a.1.1,a.1.2,fun he=>?_⟩
  have hb:okB m.2=true:=by rcases b with b | b; rw [b] at he; exact absurd he (by decide); exact b
  have ha:(match parseL m.2 with | some q=>mvFit2 q | none=>true)=true:=by rcases a.2 with b | b; rw [b] at he; exact absurd he (by decide); exact b
  rw [okBq hb] at ha
  unfold mvFit2 at ha
  simp only [Bool.and_eq_true,decide_eq_true_eq] at ha
  exact ⟨hb,ha⟩
 have hk:n.kind=1∨n.kind=2∨n.kind=3:=by
  unfold kindF at f4
  simp only [Bool.or_eq_true,Bool.and_eq_true,decide_eq_true_eq] at f4
  omega
 have hto:nv (n.mv.map (·.1.toNat))=tosI n.mv:=by
  unfold nv tosI
  rw [List.map_map]
  exact List.map_congr_left fun m hmm=>by have:=(hm m hmm).1; simp; omega
 have h3:n.kind=3→n.mv.filter hasO=n.mv:=fun h=>List.filter_eq_self.2 fun m hmm=>by
  have:=(hm m hmm).2.1
  rw [h] at this
  unfold hasO
  rw [this]; rfl
 have hodds:(oddsT n.mv).map AV.agg=condsR (oddsQ n.mv):=by
  unfold oddsT oddsQ condsR
  rw [List.map_map,List.map_map]
  refine List.map_congr_left fun m hmm=>?_
  have hmm':=List.mem_filter.1 hmm
  have he:m.2.isEmpty=false:=by have:=hmm'.2; unfold hasO at this; simpa using this
  show AV.agg (tc m.2)=avQ _
  rw [tc_q (hl.2.2 m hmm'.1) ((hm m hmm'.1).2.2 he).1,Zaw]
 have hoq:∀ q,q∈oddsQ n.mv→0<q∧Qb 40 q:=fun q hq=>by
  obtain ⟨m,hmm,rfl⟩:=List.mem_map.1 hq
  have hmm':=List.mem_filter.1 hmm
  have he:m.2.isEmpty=false:=by have:=hmm'.2; unfold hasO at this; simpa using this
  obtain ⟨_,a,b⟩:=(hm m hmm'.1).2.2 he
  exact ⟨a,Yo3 b⟩
 have hlen3:n.kind=3→(oddsQ n.mv).length=n.mv.length:=fun h=>by unfold oddsQ; rw [List.length_map,h3 h]
 refine ⟨?_,⟨?_,?_,?_,?_,?_⟩,fun h=>⟨fun q hq=>Rat.le_of_lt (hoq q hq).1,?_⟩⟩
 ·unfold gN gnAV toGN
  simp only [hto,hodds]
  rcases hk with h | h | h <;> simp [h]
 ·show n.kind.toNat=1∨n.kind.toNat=2∨n.kind.toNat=3; omega
 ·show 0<(n.mv.map _).length; rw [List.length_map]; omega
 ·show (n.mv.map _).length≤6; rw [List.length_map]; omega
 ·intro x hx
  obtain ⟨m,hmm,rfl⟩:=List.mem_map.1 hx
  have:=(hm m hmm).1
  omega
 ·intro h
  have h':n.kind=3:=by have:n.kind.toNat=3:=h; omega
  refine ⟨?_,fun q hq=>(hoq q hq).2⟩
  show (oddsQ n.mv).length=(n.mv.map _).length
  rw [List.length_map,hlen3 h']
 ·have h':n.kind=3:=by have:n.kind.toNat=3:=h; omega
  show sumO (oddsQ n.mv) (n.mv.map _).length=1
  rw [List.length_map, ← hlen3 h', ← Ykt _ rfl hv.2]
  unfold kindF at f4
  simpa [h'] using f4
theorem Xhh {L:List Nd}{d:List UInt8}(hv:(L.all ndVa && okB d)=true) (hf:gFit L d=true) (hd:d.length≤23) (hok:∀ n,n∈L→n.rew.length≤23∧n.mv.length≤7∧∀ m,m∈n.mv→m.2.length≤23) :
  (.sl (nodesT L) :: .sl ((rowT L).map .agg)::tc d)=gmC (toGm L d)∧GmP (toGm L d):=by
 rw [Bool.and_eq_true] at hv
 unfold gFit disF at hf
 simp only [Bool.and_eq_true,decide_eq_true_eq] at hf
 obtain ⟨⟨h1,h2⟩,h3,h4⟩:=hf
 rw [okBq hv.2] at h4
 simp only [Bool.and_eq_true,decide_eq_true_eq] at h4
 have hn:∀ n,n∈L→_:=fun n hn=>Xe7 (N:=L.length) (List.all_eq_true.1 hv.1 n hn) (List.all_eq_true.1 h2 n hn) (hok n hn)
 have hvn:∀ n,n∈L→okB n.rew=true∧smallB n.rew=true:=fun n hn=>by
  have a:=List.all_eq_true.1 hv.1 n hn
  have b:=List.all_eq_true.1 h2 n hn
  unfold ndVa at a
  unfold ndFi at b
  simp only [Bool.and_eq_true,decide_eq_true_eq] at a b
  exact ⟨a.1,b.1.1.1⟩
 refine ⟨?_,⟨⟨?_,?_,?_,?_,?_⟩,h4.1,h4.2,?_⟩⟩
 ·unfold gmC toGm
  congr 1
  ·congr 1
   unfold nodesT
   rw [List.map_map,List.flatMap_def]
   rw [show L.map gN=(L.map (gnAV ∘ toGN)).map (fun x => [x]) by rw [List.map_map]; exact List.map_congr_left fun n h=>(hn n h).1]
   rw [← List.flatMap_def]; simp
  ·congr 1
   ·congr 1
    unfold rowT condsR
    rw [List.map_map,List.map_map]
    refine List.map_congr_left fun n h=>?_
    show AV.agg (tc n.rew)=avQ _
    rw [tc_q (hok n h).1 (hvn n h).1,Zaw]
   ·exact tc_q hd hv.2
 ·show (L.map toGN).length≤10; rw [List.length_map]; omega
 ·show (L.map _).length=(L.map toGN).length; rw [List.length_map,List.length_map]
 ·intro x hx
  obtain ⟨n,h,rfl⟩:=List.mem_map.1 hx
  show GnOk (L.map toGN).length _
  rw [List.length_map]
  exact (hn n h).2.1
 ·intro q hq
  obtain ⟨n,h,rfl⟩:=List.mem_map.1 hq
  exact Yo3 (Z5u (hvn n h).2)
 ·exact Yo3 (Z5u h3)
 ·intro x hx h3
  obtain ⟨n,h,rfl⟩:=List.mem_map.1 hx
  exact (hn n h).2.2 h3
end GoAbs
namespace GoAbs
open Go Go.Proofs
def Ztm:List IOp := [oI 4 (.mv (.c (.bool false))) 0]
def Zt4:List IOp := [mI 6 1 0,oI 7 (.len (.t 6)) 0,mI 8 0 0,oI 9 (.len (.t 8)) 0,oI 10 (.bin .neq (.t 7) (.t 9)) 0]
def Z6l:List IOp := [oI 4 (.mv (.c (.bool false))) 0]
def Z7x:List IOp := [oI 5 (.mv (cI 0)) 0]
def Ze5:List IOp := [mI 11 5 0,mI 12 0 0,oI 13 (.len (.t 12)) 0,oI 14 (.bin .lss (.t 11) (.t 13)) 0]
def Zfa:List IOp := [mI 17 0 0,mI 18 5 0,xI 19 3 17 18 0,fI 20 0 19 0,lI 21 20 0,oI 22 (.bin .eql (.t 21) (cI 3)) 0,mI 23 22 0,gI 24 (.mv (.t 1)) 0 23 true,gI 25 (.mv (.t 5)) 0 23 true,gI 26 (.idx 1 (.t 24) (.t 25)) 0 23 true,gI 27 (.ld none (.t 26)) 0 23 true,gI 28 (.bin .neq (.t 27) (cI (-1))) 0 23 true,oI 29 (.pick (.t 23) (.t 28) (.c (.bool false))) 0,mI 30 29 0,gI 31 (.mv (.t 0)) 0 30 false,gI 32 (.mv (.t 5)) 0 30 false,gI 33 (.idx 3 (.t 31) (.t 32)) 0 30 false,gI 34 (.fa 0 (.t 33)) 0 30 false,gI 35 (.ld none (.t 34)) 0 30 false,gI 36 (.bin .neq (.t 35) (cI 3)) 0 30 false,gI 37 (.mv (.t 36)) 0 30 false,gI 38 (.mv (.t 1)) 0 37 true,gI 39 (.mv (.t 5)) 0 37 true,gI 40 (.idx 1 (.t 38) (.t 39)) 0 37 true,gI 41 (.ld none (.t 40)) 0 37 true,gI 42 (.mv (.t 0)) 0 37 true,gI 43 (.mv (.t 5)) 0 37 true,gI 44 (.idx 3 (.t 42) (.t 43)) 0 37 true,gI 45 (.fa 2 (.t 44)) 0 37 true,gI 46 (.ld none (.t 45)) 0 37 true,gI 47 (.len (.t 46)) 0 37 true,gI 48 (.bin .sub (.t 47) (cI 1)) 0 37 true,gI 49 (.callw 52 [.t 41,cI 0,.t 48]) 0 37 true,gI 50 (.un .not (.t 49)) 0 37 true,gI 51 (.pick (.t 37) (.t 50) (.c (.bool false))) 0 30 false,oI 52 (.pick (.t 30) (.c (.bool true)) (.t 51)) 0]
@[go_sem ↓] theorem Yeo : autoK Zfa = (0, 0) := by kernel_rfl
@[go_sem] theorem Yyk : autoK [mI 17 0 0, mI 18 5 0, xI 19 3 17 18 0, fI 20 0 19 0, lI 21 20 0, oI 22 (.bin .eql (.t 21) (cI 3)) 0, mI 23 22 0, gI 24 (.mv (.t 1)) 0 23 true, gI 25 (.mv (.t 5)) 0 23 true, gI 26 (.idx 1 (.t 24) (.t 25)) 0 23 true, gI 27 (.ld none (.t 26)) 0 23 true, gI 28 (.bin .neq (.t 27) (cI (-1))) 0 23 true, oI 29 (.pick (.t 23) (.t 28) (.c (.bool false))) 0, mI 30 29 0, gI 31 (.mv (.t 0)) 0 30 false, gI 32 (.mv (.t 5)) 0 30 false, gI 33 (.idx 3 (.t 31) (.t 32)) 0 30 false, gI 34 (.fa 0 (.t 33)) 0 30 false, gI 35 (.ld none (.t 34)) 0 30 false, gI 36 (.bin .neq (.t 35) (cI 3)) 0 30 false, gI 37 (.mv (.t 36)) 0 30 false, gI 38 (.mv (.t 1)) 0 37 true, gI 39 (.mv (.t 5)) 0 37 true, gI 40 (.idx 1 (.t 38) (.t 39)) 0 37 true, gI 41 (.ld none (.t 40)) 0 37 true, gI 42 (.mv (.t 0)) 0 37 true, gI 43 (.mv (.t 5)) 0 37 true, gI 44 (.idx 3 (.t 42) (.t 43)) 0 37 true, gI 45 (.fa 2 (.t 44)) 0 37 true, gI 46 (.ld none (.t 45)) 0 37 true, gI 47 (.len (.t 46)) 0 37 true, gI 48 (.bin .sub (.t 47) (cI 1)) 0 37 true, gI 49 (.callw 52 [.t 41, cI 0, .t 48]) 0 37 true, gI 50 (.un .not (.t 49)) 0 37 true, gI 51 (.pick (.t 37) (.t 50) (.c (.bool false))) 0 30 false, oI 52 (.pick (.t 30) (.c (.bool true)) (.t 51)) 0] = (0, 0) := Yeo
def Zuh:List IOp := [oI 4 (.mv (.c (.bool false))) 0]
def Zvy:List IOp := [mI 15 5 0,oI 16 (.bin .add (.t 15) (cI 1)) 0,mI 5 16 0]
def Z7q:CC := .seq (.seq (.rg false Ze5) (.cond (.t 14) .skip (.exit 0))) (.seq (.block 1 (.seq (.rg true Zfa) (.cond (.t 52) (.seq (.rg false Zuh) .ret) .skip))) (.rg false Zvy))
def Z8n:List IOp := [oI 4 (.mv (.c (.bool true))) 0]
def Yli:CC := .seq (.rg false Ztm) (.seq (.seq (.rg false Zt4) (.cond (.t 10) (.seq (.rg false Z6l) .ret) .skip)) (.seq (.seq (.rg false Z7x) (.block 0 (.loop Z7q))) (.seq (.rg false Z8n) .ret)))
abbrev Yvq:Nat:=39
theorem Yoo:fnOk Tryz.prog 39=some (53,Yli,[.tmp 4]):=by kernel_rfl
def Yna:List IOp := [mI 17 0 0,mI 18 5 0,xI 19 1 17 18 0,lI 20 19 0,mI 21 1 0,mI 22 5 0,xI 23 1 21 22 0,lI 24 23 0,oI 25 (.bin .neq (.t 20) (.t 24)) 0]
@[go_sem ↓] theorem Yer : autoK Yna = (0, 0) := by kernel_rfl
@[go_sem] theorem Yz3 : autoK [mI 17 0 0, mI 18 5 0, xI 19 1 17 18 0, lI 20 19 0, mI 21 1 0, mI 22 5 0, xI 23 1 21 22 0, lI 24 23 0, oI 25 (.bin .neq (.t 20) (.t 24)) 0] = (0, 0) := Yer
end GoAbs
namespace GoAbs
open Go Go.Proofs
set_option maxHeartbeats 4000000
theorem Xhg {v a b:Int}(h:a≤v∧v≤b):SpecV Tryz.prog Yhd [.int .i64 v,.int .i64 a,.int .i64 b] (.bool true):=by
 have:=rin (v:=v) (a:=a) (b:=b)
 rwa [decide_eq_true h] at this
theorem Xgm {v a b:Int}(h:¬ (a≤v∧v≤b)):SpecV Tryz.prog Yhd [.int .i64 v,.int .i64 a,.int .i64 b] (.bool false):=by
 have:=rin (v:=v) (a:=a) (b:=b)
 rwa [decide_eq_false h] at this
end GoAbs
namespace GoAbs
open Go Go.Proofs
set_option maxHeartbeats 4000000
end GoAbs
namespace GoAbs
open Go Go.Proofs
open Classical in
noncomputable def cntP {α:Type} (L:List α) (P:α→Prop):Nat:=L.countP (fun x=>decide (P x))
theorem Yz8 {α:Type}{P Q:α→Prop}:∀ {L:List α},(∀ x,x∈L→P x→Q x)→cntP L P≤cntP L Q
 | [],_=>Nat.le_refl _
 | x::L,h=>by
  have ih:=Yz8 (P:=P) (Q:=Q) (L:=L) (fun y hy=>h y (List.mem_cons_of_mem _ hy))
  have hx:=h x List.mem_cons_self
  unfold cntP at *
  rw [List.countP_cons,List.countP_cons]
  by_cases hp:P x
  ·simp only [hp,hx hp,decide_true,if_true]; omega
  ·by_cases hq:Q x <;> simp [hp,hq] <;> omega
theorem Yzt {α:Type}{P Q:α→Prop}:∀ {L:List α},(∀ x,x∈L→P x→Q x)→(∃ x,x∈L∧Q x∧¬ P x)→cntP L P<cntP L Q
 | [],_,h=>by obtain ⟨x,hx,_⟩:=h; simp at hx
 | x::L,h,⟨y,hy,hq,hp⟩=>by
  have hL:=fun y hy=>h y (List.mem_cons_of_mem x hy)
  have hx:=h x List.mem_cons_self
  rcases List.mem_cons.1 hy with rfl | hy
  ·have ih:=Yz8 (P:=P) (Q:=Q) hL
   unfold cntP at *
   rw [List.countP_cons,List.countP_cons]
   simp [hp,hq]; omega
  ·have ih:=Yzt (P:=P) (Q:=Q) hL ⟨y,hy,hq,hp⟩
   unfold cntP at *
   rw [List.countP_cons,List.countP_cons]
   by_cases hp:P x
   ·simp only [hp,hx hp,decide_true,if_true]; omega
   ·by_cases hq:Q x <;> simp [hp,hq] <;> omega
def allP:List GN→List (List Int)
 | [] => [[]]
 | x::r=>(List.range x.to.length).flatMap fun (k:Nat)=>(allP r).map fun q=>(k:Int)::q
theorem Yrh:∀ {ns:List GN}{p:List Int},p.length=ns.length→(∀ i,i<ns.length→0≤p.getD i 0∧p.getD i 0<((ns.getD i default).to.length:Int))→p∈allP ns
 | [],p,hl,_=>by
  cases p with
  | nil=>simp [allP]
  | cons a p=>simp at hl
 | x::r,p,hl,h=>by
  cases p with
  | nil=>simp at hl
  | cons a p =>
   have h0:=h 0 (by simp)
   have ht:=Yrh (ns:=r) (p:=p) (by simpa using hl) (fun i hi=>by
    have:=h (i+1) (by simp; omega)
    simpa using this)
   simp at h0
   unfold allP
   rw [List.mem_flatMap]
   refine ⟨a.toNat,by rw [List.mem_range]; omega,?_⟩
   rw [List.mem_map]
   exact ⟨p,ht,by rw [Int.toNat_of_nonneg h0.1]⟩
theorem POk0.mem {g:Gm}{p:List Int}(h:POk0 g p):p∈allP g.nodes:=Yrh h.1 h.2
theorem Xam {a:Rat}{who:Nat}:cmpR a a≠sgn who:=by
 unfold cmpR sgn
 rw [if_neg (by grind),if_neg (by grind)]
 split <;> decide
theorem Ysg {g:Gm}{v:List Rat}{who:Nat}{p:List Int}:betC g v who (betP g v who p)=false:=by
 unfold betC
 rw [List.any_eq_false]
 intro i hi
 have hi:i<g.nodes.length:=by simpa using hi
 have e:pget (betP g v who p) i=if bet1 g v who p i=true then bestA v (nodeAt g i).to (sgn who) else pget p i:=by
  unfold pget
  rw [Zpt hi]
  unfold betI
  split <;> simp
 by_cases hb:bet1 g v who p i=true
 ·rw [if_pos hb] at e
  unfold bet1
  rw [e]
  simp [Xam]
 ·rw [if_neg hb] at e
  have:bet1 g v who (betP g v who p) i=bet1 g v who p i:=by unfold bet1; rw [e]
  rw [this]
  exact hb
theorem Y0l {g:Gm}(hd:g.d=0) {p:List Int}{v:List Rat}(h:PVal g p v) (hr:g.rew.length=g.nodes.length):v=g.rew:=by
 refine Zwm (by rw [h.1,hr]) (fun i hi=>?_)
 rw [h.2 i (by omega)]
 unfold planV
 rw [hd]; grind
open Classical in
noncomputable def mIn (g:Gm) (V:List Int→List Rat) (p:List Int):Nat :=
 2*cntP (allP g.nodes) (fun q=>Ltv g.nodes.length (V q) (V p))+(if betC g (V p) 2 p=true then 1 else 0)
theorem Xf5 {g:Gm}(hg:GmP g) (h:g.d≠0):0<g.d:=by have:=hg.d0; grind
theorem Xff {g:Gm}(hg:GmP g) {V:List Int→List Rat}(hV:∀ q,POk0 g q→PVal g q (V q)) {p:List Int}(hp:POk0 g p) (hc:betC g (V p) 2 p=true):mIn g V (betP g (V p) 2 p)<mIn g V p:=by
 have hq:=Ybs hg (v:=V p) (who:=2) hp
 unfold mIn
 rw [if_pos hc]
 by_cases hd:g.d=0
 ·have e1:=Y0l hd (hV p hp) hg.ok.rew
  have e2:=Y0l hd (hV _ hq) hg.ok.rew
  have hi:=Ysg (g:=g) (v:=V p) (who:=2) (p:=p)
  rw [e2,e1] at *
  rw [if_neg (by rw [hi]; decide)]
  omega
 ·have hl:=better2 hg hp (hV p hp) (Xf5 hg hd) hc (hV _ hq)
  have:=Yzt (L:=allP g.nodes) (P:=fun q=>Ltv g.nodes.length (V q) (V (betP g (V p) 2 p))) (Q:=fun q=>Ltv g.nodes.length (V q) (V p)) (fun q _ h=>h.trans hl) ⟨_,hq.mem,hl,fun h=>h.irrefl⟩
  split <;> omega
def Abv (g:Gm) (u:Option (List Rat)) (w:List Rat):Prop:=g.d=0∨match u with | none=>True | some u=>Ltv g.nodes.length u w
noncomputable def mOut (g:Gm) (V:List Int→List Rat) (s:Option (List Rat)×List Int):Nat :=
 2*cntP (allP g.nodes) (fun q=>Abv g s.1 (V q))+(if betC g g.rew 1 s.2=true then 1 else 0)
def OutI (g:Gm) (V:List Int→List Rat) (s:Option (List Rat)×List Int):Prop:=POk0 g s.2∧∀ q,POk0 g q→Same1 g q s.2→Abv g s.1 (V q)
theorem Ys1 {g:Gm}{v:List Rat}{p q:List Int}(h:Same1 g p q):betC g v 1 p=betC g v 1 q:=by
 unfold betC
 rw [Bool.eq_iff_iff,List.any_eq_true,List.any_eq_true]
 have e:∀ i,i<g.nodes.length→bet1 g v 1 p i=bet1 g v 1 q i:=fun i hi=>by
  unfold bet1
  by_cases h1:(nodeAt g i).kind=1
  ·unfold pget; rw [h i hi h1]
  ·simp [h1]
 constructor
 ·rintro ⟨i,hi,hb⟩
  exact ⟨i,hi,by rw [← e i (by simpa using hi)]; exact hb⟩
 ·rintro ⟨i,hi,hb⟩
  exact ⟨i,hi,by rw [e i (by simpa using hi)]; exact hb⟩
theorem Y7p {g:Gm}(hg:GmP g) {V:List Int→List Rat}(hV:∀ q,POk0 g q→PVal g q (V q)) {s:Option (List Rat)×List Int}(hs:OutI g V s) {p:List Int}(hp:POk0 g p) (hsm:Same1 g p s.2) (h2:betC g (V p) 2 p=false) (h1:betC g (V p) 1 p=true) :
  OutI g V (some (V p),betP g (V p) 1 p)∧mOut g V (some (V p),betP g (V p) 1 p)<mOut g V s:=by
 have hq:=Ybs hg (v:=V p) (who:=1) hp
 by_cases hd:g.d=0
 ·have e1:=Y0l hd (hV p hp) hg.ok.rew
  refine ⟨⟨hq,fun q _ _ => .inl hd⟩,?_⟩
  have hi:=Ysg (g:=g) (v:=V p) (who:=1) (p:=p)
  have hb:betC g g.rew 1 s.2=true:=by rw [← Ys1 hsm, ← e1]; exact h1
  unfold mOut
  rw [if_pos hb]
  have hi':betC g g.rew 1 (betP g (V p) 1 p)=false:=by rw [← e1]; exact hi
  rw [show (some (V p),betP g (V p) 1 p).2=betP g (V p) 1 p from rfl,if_neg (by rw [hi']; decide)]
  have:=Yz8 (L:=allP g.nodes) (P:=fun q=>Abv g (some (V p),betP g (V p) 1 p).1 (V q)) (Q:=fun q=>Abv g s.1 (V q)) (fun q _ _ => .inl hd)
  omega
 ·have hdp:=Xf5 hg hd
  refine ⟨⟨hq,fun q hq hs => .inr (better1 hg hp (hV p hp) hdp h2 h1 hq hs (hV q hq))⟩,?_⟩
  have ha:=hs.2 p hp hsm
  have:=Yzt (L:=allP g.nodes) (P:=fun q=>Abv g (some (V p),betP g (V p) 1 p).1 (V q)) (Q:=fun q=>Abv g s.1 (V q)) (fun q _ h=>by
    refine h.elim (fun h=>absurd h hd) (fun h=>?_)
    refine ha.elim (fun h=>absurd h hd) (fun ha => .inr ?_)
    cases hu:s.1 with
    | none=>trivial
    | some u=>rw [hu] at ha; exact Ltv.trans ha h) ⟨p,hp.mem,ha,fun h=>h.elim (fun h=>hd h) (fun h=>Ltv.irrefl h)⟩
  unfold mOut
  split <;> omega
end GoAbs
namespace GoAbs
open Go Go.Proofs
def Dom (m c k:Nat) (M:RM):Prop:=∀ i,c≤i→i<m→(∀ j,c≤j→j<m→j≠i→mget M i j≤0)∧0<sumL (List.range' (c+1) k) (fun j=>mget M i (j - 1))
theorem Ycr {R:List Nat}{f:Nat→Rat}(h:∀ i,i∈R→f i≤0):sumL R f≤0:=by
 have h1:=Yn1 (R:=R) (f:=fun i => -1*f i) (fun i hi=>by have:=h i hi; grind)
 rw [Zge] at h1
 grind
theorem Yuf {R:List Nat}{f:Nat→Rat}{a:Nat}(hn:R.Nodup) (ha:a∈R) (h:∀ i,i∈R→i≠a→f i≤0):sumL R f≤f a:=by
 induction R with
 | nil=>simp at ha
 | cons b R ih =>
  rw [List.nodup_cons] at hn
  rw [Zat]
  rcases List.mem_cons.1 ha with rfl | ha'
  ·have:=Ycr (R:=R) (f:=f) (fun i hi=>h i (List.mem_cons_of_mem _ hi) (fun e=>hn.1 (e ▸ hi)))
   grind
  ·have h1:=ih hn.2 ha' (fun i hi=>h i (List.mem_cons_of_mem _ hi))
   have h2:=h b List.mem_cons_self (fun e=>hn.1 (e ▸ ha'))
   grind
theorem Dom.pos {m c k:Nat}{M:RM}(h:Dom m c k M) (hk:c+k=m) {i:Nat}(h1:c≤i) (h2:i<m):0<mget M i i:=by
 obtain ⟨a,b⟩:=h i h1 h2
 have:=Yuf (R:=List.range' (c+1) k) (f:=fun j=>mget M i (j - 1)) (a:=i+1) List.nodup_range' (by rw [List.mem_range'_1]; omega) (fun j hj hne=>by
  have hj':=List.mem_range'_1.1 hj
  exact a (j - 1) (by omega) (by omega) (by omega))
 rw [Nat.add_sub_cancel] at this
 grind
theorem Xft {a b:Rat}(ha:a≤0) (hb:0<b):a / b≤0:=by
 have h1:=Rat.inv_pos.2 hb
 have:=Rat.mul_nonneg (show 0 ≤ -a by grind) (Rat.le_of_lt h1)
 rw [Rat.div_def]
 grind
theorem Dom.elim {m c k:Nat}{M:RM}(h:Dom m c (k+1) M) (hk:c+(k+1)=m) (hM:M.length=m) (hW:Wid (m+1) M):Dom m (c+1) k (elimCol M c M.length):=fun i h1 h2=>by
 have hp:=h.pos hk (Nat.le_refl c) (by omega)
 have h0:mget M c c≠0:=fun e=>by rw [e] at hp; exact absurd hp (by decide)
 obtain ⟨a,b⟩:=h i (by omega) h2
 obtain ⟨a',b'⟩:=h c (Nat.le_refl _) (by omega)
 have hq:=Xft (a c (Nat.le_refl _) (by omega) (by omega)) hp
 refine ⟨fun j hj hjm hji=>?_,?_⟩
 ·rw [Z2w hW (by omega) (by omega) (by omega) (by omega) h0]
  have x1:=a j (by omega) hjm hji
  have x2:=a' j (by omega) hjm (by omega)
  have x3:=Rat.mul_nonneg (show 0 ≤ -(mget M i c / mget M c c) by grind) (show 0 ≤ -mget M c j by grind)
  have x4:mget M i c*mget M c j / mget M c c=mget M i c / mget M c c*mget M c j:=by grind
  grind
 ·have e1:sumL (List.range' (c+1+1) k) (fun j=>mget (elimCol M c M.length) i (j - 1))=sumL (List.range' (c+1+1) k) (fun j=>mget M i (j - 1))+(-(mget M i c / mget M c c))*sumL (List.range' (c+1+1) k) (fun j=>mget M c (j - 1)):=by
   rw [← Zge, ← Z5a]
   refine Zbc (fun j hj=>?_)
   have hj':=List.mem_range'_1.1 hj
   rw [Z2w hW (by omega) (by omega) (by omega) (by omega) h0]
   grind
  rw [e1]
  rw [List.range'_succ,Zat,Nat.add_sub_cancel] at b b'
  have x1:=Rat.mul_nonneg (show 0 ≤ -(mget M i c / mget M c c) by grind) (Rat.le_of_lt b')
  have x2:mget M i c / mget M c c*mget M c c=mget M i c:=by grind
  generalize sumL (List.range' (c+1+1) k) (fun j=>mget M i (j - 1))=s at *
  generalize sumL (List.range' (c+1+1) k) (fun j=>mget M c (j - 1))=t at *
  generalize mget M i c / mget M c c=q at *
  grind
theorem Yxe {m:Nat}:∀ {k c:Nat}{M:RM}{d:Rat},c+k=m→M.length=m→Wid (m+1) M→Dom m c k M →
  NoSw k c M∧(∀ i,c≤i→i<m→mget (tri k c M d).2 i i≠0)∧Wid (m+1) (tri k c M d).2 ∧
  ∀ x:Nat→Rat,(∀ i,c≤i→i<m→sumL (List.range' (i+1) (m - i)) (fun j=>x j*mget (tri k c M d).2 i (j - 1))=mget (tri k c M d).2 i m) →
   ∀ i,c≤i→i<m→sumL (List.range' (c+1) k) (fun j=>x j*mget M i (j - 1))=mget M i m
 | 0,c,M,d,hk,_,hW,_=>⟨trivial,fun i h1 h2=>by omega,hW,fun _ _ i h1 h2=>by omega⟩
 | k+1,c,M,d,hk,hM,hW,hD=>by
  have hp:=hD.pos hk (Nat.le_refl c) (by omega)
  have h0:mget M c c≠0:=fun e=>by rw [e] at hp; exact absurd hp (by decide)
  obtain ⟨i1,i2,i3,i4⟩:=Yxe (m:=m) (k:=k) (c:=c+1) (M:=elimCol M c M.length) (d:=d*mget M c c) (by omega) (by rw [Zbg,hM]) hW.elim (hD.elim hk hM hW)
  unfold tri NoSw
  rw [if_neg h0]
  refine ⟨⟨fun h=>absurd h h0,fun _=>i1⟩,fun i h1 h2=>?_,i3,fun x hx=>?_⟩
  ·by_cases hi:i=c
   ·rw [hi,Ykj (by omega),Zh8 (by omega)]; exact h0
   ·exact i2 i (by omega) h2
  ·have ih:=i4 x (fun i h1 h2=>hx i (by omega) h2)
   have hc:=hx c (by omega) (by omega)
   rw [show m - c=k+1 by omega,List.range'_succ,Zat,Ykj (by omega),Ykj (by omega),Zh8 (by omega),Zh8 (by omega)] at hc
   have hcs:sumL (List.range' (c+1+1) k) (fun j=>x j*mget (tri k (c+1) (elimCol M c M.length) (d*mget M c c)).2 c (j - 1))=sumL (List.range' (c+1+1) k) (fun j=>x j*mget M c (j - 1)) :=
    Zbc (fun j _=>by rw [Ykj (by omega),Zh8 (by omega)])
   rw [hcs] at hc
   intro i h1 h2
   rw [List.range'_succ,Zat]
   rw [Nat.add_sub_cancel] at hc ⊢
   by_cases hi:i=c
   ·rw [hi]; exact hc
   ·have hm:=ih i (by omega) h2
    have e1:sumL (List.range' (c+1+1) k) (fun j=>x j*mget (elimCol M c M.length) i (j - 1))=sumL (List.range' (c+1+1) k) (fun j=>x j*mget M i (j - 1))+(-(mget M i c / mget M c c))*sumL (List.range' (c+1+1) k) (fun j=>x j*mget M c (j - 1)):=by
     rw [← Zge, ← Z5a]
     refine Zbc (fun j hj=>?_)
     have hj':=List.mem_range'_1.1 hj
     rw [Z2w hW (by omega) (by omega) (by omega) (by omega) h0]
     grind
    rw [e1,Z2w hW (by omega) (by omega) (by omega) (by omega) h0] at hm
    generalize sumL (List.range' (c+1+1) k) (fun j=>x j*mget M i (j - 1))=s at *
    generalize sumL (List.range' (c+1+1) k) (fun j=>x j*mget M c (j - 1))=t at *
    have ht:t=mget M c m - x (c+1)*mget M c c:=by grind
    rw [ht] at hm
    grind
def solvR (n:Nat) (M:RM) (r:List Rat):List Rat:=bsub (tri n 0 (aug M r) 1).2 n n
theorem Yce {n:Nat}{M:RM}{r:List Rat}(hM:M.length=n) (hW:Wid n M) (hr:r.length=n) (hD:Dom n 0 n M) :
  NoSw n 0 (aug M r)∧(∀ i,i<n→rget ((tri n 0 (aug M r) 1).2.getD i []) i≠0)∧Wid (n+1) (tri n 0 (aug M r) 1).2 ∧
  (solvR n M r).length=n∧∀ i,i<n→sumL (List.range n) (fun j=>rget (solvR n M r) j*mget M i j)=rget r i:=by
 have hm:=fun i (hi:i<n)=>Y3r hM hW hr hi
 have hD':Dom n 0 n (aug M r):=fun i h1 h2=>by
  obtain ⟨a,b⟩:=hD i h1 h2
  refine ⟨fun j hj hjn hji=>by rw [(hm i h2).1 j hjn]; exact a j hj hjn hji,?_⟩
  rw [Zbc (g:=fun j=>mget M i (j - 1)) (fun j hj=>by
   have hj':=List.mem_range'_1.1 hj
   exact (hm i h2).1 (j - 1) (by omega))]
  exact b
 obtain ⟨a1,a2,a3,a4⟩:=Yxe (m:=n) (k:=n) (c:=0) (M:=aug M r) (d:=1) (by omega) (by rw [Ybv (by omega),hM]) (Yo0 hW) hD'
 refine ⟨a1,fun i hi=>a2 i (by omega) hi,a3,Zwz n,fun i hi=>?_⟩
 have h:=a4 (solX (tri n 0 (aug M r) 1).2 n) (fun i _ hi=>Y5e (n:=n) (fun i hi=>a2 i (by omega) hi) i hi) i (by omega) hi
 rw [(hm i hi).2] at h
 rw [← h,List.range'_eq_map_range,Z91]
 refine Zbc (fun j hj=>?_)
 have hj':=List.mem_range.1 hj
 rw [show 0+1+j=j+1 by omega,Yea,Nat.add_sub_cancel,(hm i hi).1 j hj']
 rfl
end GoAbs
namespace GoAbs
open Go Go.Proofs
def addOdds (d:Rat) (i:Nat) (odds:List Rat) (to:List Nat):Nat→RM→RM
 | 0,M=>M
 | k+1,M=>addAt (addOdds d i odds to k M) i (to.getD k 0) (-(d*rget odds k))
def nodeM (g:Gm) (p:List Int) (M:RM) (i:Nat):RM :=
 if (nodeAt g i).kind=3 then addOdds g.d i (nodeAt g i).odds (nodeAt g i).to (nodeAt g i).to.length (addAt M i i 1) else addAt (addAt M i i 1) i ((nodeAt g i).to.getD (pget p i) 0) (-g.d)
def planM (g:Gm) (p:List Int):Nat→RM
 | 0=>List.replicate g.nodes.length (List.replicate g.nodes.length 0)
 | i+1=>nodeM g p (planM g p i) i
structure Pm (n:Nat) (M:RM):Prop where
 len:M.length=n
 wid:Wid n M
 np:∀ i j,i≠j→mget M i j≤0
def rdot (n:Nat) (M:RM) (i:Nat) (v:List Rat):Rat:=sumL (List.range n) (fun j=>rget v j*mget M i j)
theorem Pm.add {n:Nat}{M:RM}(h:Pm n M) {i j:Nat}{x:Rat}(hi:i<n) (hj:j<n) (hx:i=j∨x≤0):Pm n (addAt M i j x):=by
 refine ⟨by rw [Zd2,h.len],h.wid.addAt,fun a b hab=>?_⟩
 rw [Z52 h.wid (by rw [h.len]; exact hi) hj]
 have:=h.np a b hab
 split
 ·rename_i he
  rcases hx with e | hx
  ·exact absurd (he.1.trans (e.trans he.2.symm)) hab
  ·grind
 ·grind
theorem Yi5 {n:Nat}{M:RM}(h:Pm n M) {i j a:Nat}{x:Rat}{v:List Rat}(hi:i<n) (hj:j<n):rdot n (addAt M i j x) a v=rdot n M a v+if a=i then rget v j*x else 0:=by
 unfold rdot
 have e:∀ b,rget v b*mget (addAt M i j x) a b=rget v b*mget M a b+(if a=i then x else 0)*((if b=j then 1 else 0)*rget v b):=fun b=>by
  rw [Z52 h.wid (by rw [h.len]; exact hi) hj]
  by_cases h1:a=i <;> by_cases h2:b=j <;> simp [h1,h2] <;> grind
 rw [Zbc (fun b _=>e b),Z5a,Zge,Yw9 List.nodup_range,if_pos (List.mem_range.2 hj)]
 split <;> grind
theorem Yg4 {n i:Nat}{d:Rat}{odds:List Rat}{to:List Nat}(d0:0≤d) (hi:i<n) (ho:∀ t,t<to.length→0≤rget odds t) (hto:∀ x,x∈to→x<n):∀ {k:Nat}{M:RM},k≤to.length→Pm n M →
  Pm n (addOdds d i odds to k M)∧∀ a v,rdot n (addOdds d i odds to k M) a v=rdot n M a v - if a=i then d*dotW odds v to k else 0
 | 0,M,_,h=>⟨h,fun a v=>by unfold addOdds dotW; split <;> grind⟩
 | k+1,M,hk,h=>by
  obtain ⟨h1,h2⟩:=Yg4 (n:=n) (i:=i) (d:=d) (odds:=odds) (to:=to) d0 hi ho hto (k:=k) (M:=M) (by omega) h
  have ht:=hto _ (Zcw (to:=to) (k:=k) (by omega))
  have hx:=Rat.mul_nonneg d0 (ho k (by omega))
  unfold addOdds
  refine ⟨h1.add hi ht (.inr (by grind)),fun a v=>?_⟩
  rw [Yi5 h1 hi ht,h2]
  simp only [dotW]
  split <;> grind
theorem Y5a {g:Gm}(hg:GmP g) {p:List Int}(hp:POk g p) {M:RM}{i:Nat}(hi:i<g.nodes.length) (h:Pm g.nodes.length M) :
  Pm g.nodes.length (nodeM g p M i)∧∀ a v,rdot g.nodes.length (nodeM g p M i) a v=rdot g.nodes.length M a v+if a=i then rget v i - g.d*worthP (nodeAt g i) (pget p i) v else 0:=by
 have hx:=Zbf hi
 have hok:=hg.ok.node _ hx
 have hlt:=hp.lt hi
 have hod:=hg.odds _ hx
 have d0:=hg.d0
 unfold nodeM
 generalize nodeAt g i=x at *
 have h1:=h.add (x:=1) hi hi (.inl rfl)
 have r1:=fun a v=>Yi5 (x:=1) (a:=a) (v:=v) h hi hi
 split
 ·rename_i h3
  have ho:=(hok.odds h3).1
  obtain ⟨a1,a2⟩:=Yg4 (n:=g.nodes.length) (i:=i) (d:=g.d) (odds:=x.odds) (to:=x.to) d0 hi (fun t ht=>(hod h3).1 _ (List.mem_of_getElem? (Zai (by omega)))) hok.lt (k:=x.to.length) (Nat.le_refl _) h1
  refine ⟨a1,fun a v=>?_⟩
  rw [a2,r1]
  unfold worthP
  rw [if_pos h3]
  split <;> grind
 ·rename_i h3
  have ht:=hok.lt _ (Zcw (hlt h3))
  refine ⟨h1.add hi ht (.inr (by grind)),fun a v=>?_⟩
  rw [Yi5 h1 hi ht,r1]
  unfold worthP
  rw [if_neg h3]
  split <;> grind
theorem Z98 {g:Gm}(hg:GmP g) {p:List Int}(hp:POk g p):∀ {k:Nat},k≤g.nodes.length →
  Pm g.nodes.length (planM g p k)∧∀ a v,rdot g.nodes.length (planM g p k) a v=if a<k then rget v a - g.d*worthP (nodeAt g a) (pget p a) v else 0
 | 0,_=>by
  have h0:∀ i j,mget (List.replicate g.nodes.length (List.replicate g.nodes.length (0:Rat))) i j=0:=fun i j=>by
   unfold mget rget
   rw [List.getD_eq_getElem?_getD,List.getD_eq_getElem?_getD,List.getElem?_replicate]
   split
   ·rw [Option.getD_some,List.getElem?_replicate]; split <;> rfl
   ·simp
  unfold planM
  refine ⟨⟨List.length_replicate,fun r hr=>by rw [(List.mem_replicate.1 hr).2,List.length_replicate],fun i j _=>by rw [h0]; grind⟩,fun a v=>?_⟩
  unfold rdot
  rw [if_neg (by omega)]
  exact Y0m (fun j _=>by rw [h0]; grind)
 | k+1,hk=>by
  obtain ⟨h1,h2⟩:=Z98 hg hp (k:=k) (by omega)
  obtain ⟨h3,h4⟩:=Y5a hg hp (M:=planM g p k) (i:=k) (by omega) h1
  unfold planM
  refine ⟨h3,fun a v=>?_⟩
  rw [h4,h2]
  by_cases ha:a=k
  ·rw [ha,if_neg (by omega),if_pos rfl,if_pos (by omega)]; grind
  ·rw [if_neg ha]
   by_cases hl:a<k
   ·rw [if_pos hl,if_pos (by omega)]; grind
   ·rw [if_neg hl,if_neg (by omega)]; grind
theorem Zhi {n j:Nat}{x:Rat}(h:j<n):rget (List.replicate n x) j=x:=by
 unfold rget
 rw [List.getD_eq_getElem?_getD,List.getElem?_replicate,if_pos h]; rfl
theorem Yrd {odds:List Rat}{to:List Nat}{n:Nat}:∀ {k:Nat},k≤to.length→(∀ x,x∈to→x<n)→dotW odds (List.replicate n 1) to k=sumO odds k
 | 0,_,_=>rfl
 | k+1,hk,h=>by
  simp only [dotW,sumO]
  rw [Yrd (by omega) h,Zhi (h _ (Zcw (by omega)))]
  grind
theorem Yt4 {g:Gm}(hg:GmP g) {p:List Int}(hp:POk g p) {i:Nat}(hi:i<g.nodes.length):worthP (nodeAt g i) (pget p i) (List.replicate g.nodes.length 1)=1:=by
 have hx:=Zbf hi
 have hok:=hg.ok.node _ hx
 have hlt:=hp.lt hi
 have hod:=hg.odds _ hx
 unfold worthP
 split
 ·rename_i h3
  rw [Yrd (Nat.le_refl _) hok.lt,(hod h3).2]
 ·rename_i h3
  exact Zhi (hok.lt _ (Zcw (hlt h3)))
def valP (g:Gm) (p:List Int):List Rat:=solvR g.nodes.length (planM g p g.nodes.length) g.rew
theorem Z95 {g:Gm}(hg:GmP g) {p:List Int}(hp:POk g p):Dom g.nodes.length 0 g.nodes.length (planM g p g.nodes.length):=fun i _ hi=>by
 obtain ⟨h1,h2⟩:=Z98 hg hp (Nat.le_refl g.nodes.length)
 refine ⟨fun j _ _ hji=>h1.np i j (fun e=>hji e.symm),?_⟩
 have h3:=h2 i (List.replicate g.nodes.length 1)
 rw [if_pos hi,Yt4 hg hp hi,Zhi hi] at h3
 have e:sumL (List.range' (0+1) g.nodes.length) (fun j=>mget (planM g p g.nodes.length) i (j - 1))=rdot g.nodes.length (planM g p g.nodes.length) i (List.replicate g.nodes.length 1):=by
  unfold rdot
  rw [List.range'_eq_map_range,Z91]
  refine Zbc (fun j hj=>?_)
  rw [Zhi (List.mem_range.1 hj),show 0+1+j - 1=j by omega]
  grind
 rw [e,h3]
 have:=hg.d1
 grind
theorem Zln {g:Gm}(hg:GmP g) {p:List Int}(hp:POk g p):PVal g p (valP g p):=by
 obtain ⟨h1,h2⟩:=Z98 hg hp (Nat.le_refl g.nodes.length)
 obtain ⟨_,_,_,h3,h4⟩:=Yce h1.len h1.wid hg.ok.rew (Z95 hg hp)
 refine ⟨h3,fun i hi=>?_⟩
 have h5:=h4 i hi
 have h6:=h2 i (valP g p)
 rw [if_pos hi] at h6
 unfold planV
 unfold rdot at h6
 have e:rget g.rew i=rget (valP g p) i - g.d*worthP (nodeAt g i) (pget p i) (valP g p):=by rw [← h6, ← h5]; rfl
 rw [e]; grind
end GoAbs
namespace GoAbs
open Go Go.Proofs
def Zx6:List IOp := [oI 4 (.mv (.c .nils)) 0]
def Zmu:List IOp := [mI 13 0 0,oI 14 (.nilck (.t 13)) 0,fI 15 0 14 0,lI 16 15 0,oI 17 (.len (.t 16)) 0,mI 18 0 0,oI 19 (.nilck (.t 18)) 0,fI 20 0 19 0,lI 21 20 0,oI 22 (.len (.t 21)) 0,oI 23 (.callw 104 [.t 17,.t 22]) 0,mI 5 23 0]
@[go_sem ↓] theorem Z9k : autoK Zmu = (0, 0) := by kernel_rfl
@[go_sem] theorem Yuu : autoK [mI 13 0 0, oI 14 (.nilck (.t 13)) 0, fI 15 0 14 0, lI 16 15 0, oI 17 (.len (.t 16)) 0, mI 18 0 0, oI 19 (.nilck (.t 18)) 0, fI 20 0 19 0, lI 21 20 0, oI 22 (.len (.t 21)) 0, oI 23 (.callw 104 [.t 17, .t 22]) 0, mI 5 23 0] = (0, 0) := Z9k
def Zxp:List IOp := [mI 24 0 0,oI 25 (.nilck (.t 24)) 0,fI 26 0 25 0,lI 27 26 0,oI 28 (.len (.t 27)) 0,oI 29 (.mv (cI 0)) 0]
def Zmv:List IOp := [oI 30 (.bin .lss (.t 29) (.t 28)) 0]
def Zzh:List IOp := [mI 31 29 0,xI 32 1 27 29 0,lI 33 32 0,mI 6 31 0,mI 7 33 0]
def Zzx:List IOp := [mI 34 5 0,mI 35 6 0,mI 36 6 0,oI 37 (.call 49 [cI 1]) 0,oI 38 (.call 105 [.t 34,.t 35,.t 36,.t 37]) 0]
def Zw8:List IOp := [mI 39 7 0]
def Zzq:List IOp := [oI 40 (.ta 129 true (.agg [.nils]) (.t 39)) 0,eI 41 1 40 0,eI 42 0 40 0]
def Zm6:List IOp := [oI 8 (.alloc [.nils]) 0,⟨none,.st 1 (.t 8) (.t 42),1,[],[],none⟩]
def Zkb:List IOp := [mI 43 5 0,mI 44 6 0,fI 45 0 8 0,lI 46 45 0,mI 47 1 0,mI 48 6 0,xI 49 1 47 48 0,lI 50 49 0,xI 51 1 46 50 0,lI 52 51 0,mI 53 0 0,oI 54 (.nilck (.t 53)) 0,fI 55 2 54 0,lJ 56 4 55 0,oI 57 (.call 106 [.t 56]) 0,oI 58 (.callw 105 [.t 43,.t 44,.t 52,.t 57]) 0]
@[go_sem ↓] theorem Z5h : autoK Zkb = (0, 0) := by kernel_rfl
@[go_sem] theorem Yr8 : autoK [mI 43 5 0, mI 44 6 0, fI 45 0 8 0, lI 46 45 0, mI 47 1 0, mI 48 6 0, xI 49 1 47 48 0, lI 50 49 0, xI 51 1 46 50 0, lI 52 51 0, mI 53 0 0, oI 54 (.nilck (.t 53)) 0, fI 55 2 54 0, lJ 56 4 55 0, oI 57 (.call 106 [.t 56]) 0, oI 58 (.callw 105 [.t 43, .t 44, .t 52, .t 57]) 0] = (0, 0) := Z5h
def Zjk:List IOp := [oI 59 (.ta 131 true (.agg [.nils]) (.t 39)) 0,eI 60 1 59 0,eI 61 0 59 0]
def Ztg:List IOp := [oI 9 (.alloc [.nils]) 0,⟨none,.st 1 (.t 9) (.t 61),1,[],[],none⟩]
def Zjx:List IOp := [mI 62 5 0,mI 63 6 0,fI 64 0 9 0,lI 65 64 0,mI 66 1 0,mI 67 6 0,xI 68 1 66 67 0,lI 69 68 0,xI 70 1 65 69 0,lI 71 70 0,mI 72 0 0,oI 73 (.nilck (.t 72)) 0,fI 74 2 73 0,lJ 75 4 74 0,oI 76 (.call 106 [.t 75]) 0,oI 77 (.callw 105 [.t 62,.t 63,.t 71,.t 76]) 0]
@[go_sem ↓] theorem Z5z : autoK Zjx = (0, 0) := by kernel_rfl
@[go_sem] theorem Ysq : autoK [mI 62 5 0, mI 63 6 0, fI 64 0 9 0, lI 65 64 0, mI 66 1 0, mI 67 6 0, xI 68 1 66 67 0, lI 69 68 0, xI 70 1 65 69 0, lI 71 70 0, mI 72 0 0, oI 73 (.nilck (.t 72)) 0, fI 74 2 73 0, lJ 75 4 74 0, oI 76 (.call 106 [.t 75]) 0, oI 77 (.callw 105 [.t 62, .t 63, .t 71, .t 76]) 0] = (0, 0) := Z5z
def Zu2:List IOp := [oI 78 (.ta 140 true (.agg [.nils,.nils]) (.t 39)) 0,eI 79 1 78 0,eI 80 0 78 0]
def Zt6:List IOp := [oI 10 (.alloc [.nils,.nils]) 0,⟨none,.st 2 (.t 10) (.t 80),1,[],[],none⟩]
def Zst:List IOp := [fI 81 0 10 0,lI 82 81 0,oI 83 (.len (.t 82)) 0,oI 84 (.mv (cI 0)) 0]
def Zkm:List IOp := [oI 85 (.bin .lss (.t 84) (.t 83)) 0]
def Zwc:List IOp := [mI 86 84 0,xI 87 1 82 84 0,lI 88 87 0,mI 11 86 0,mI 12 88 0]
def Zj9:List IOp := [mI 89 5 0,mI 90 6 0,mI 91 12 0,mI 92 0 0,oI 93 (.nilck (.t 92)) 0,fI 94 2 93 0,lJ 95 4 94 0,fI 96 1 10 0,lI 97 96 0,mI 98 11 0,xI 99 4 97 98 0,lJ 100 4 99 0,oI 101 (.call 84 [.t 95,.t 100]) 0,oI 102 (.call 106 [.t 101]) 0,oI 103 (.callw 105 [.t 89,.t 90,.t 91,.t 102]) 0]
@[go_sem ↓] theorem Z5c : autoK Zj9 = (0, 0) := by kernel_rfl
@[go_sem] theorem Ysw : autoK [mI 89 5 0, mI 90 6 0, mI 91 12 0, mI 92 0 0, oI 93 (.nilck (.t 92)) 0, fI 94 2 93 0, lJ 95 4 94 0, fI 96 1 10 0, lI 97 96 0, mI 98 11 0, xI 99 4 97 98 0, lJ 100 4 99 0, oI 101 (.call 84 [.t 95, .t 100]) 0, oI 102 (.call 106 [.t 101]) 0, oI 103 (.callw 105 [.t 89, .t 90, .t 91, .t 102]) 0] = (0, 0) := Z5c
def Zu8:List IOp := [oI 104 (.bin .add (.t 84) (cI 1)) 0,mI 84 104 0]
def Zm3:CC := .seq (.rg false Zkm) (.seq (.cond (.t 85) .skip (.exit 3)) (.seq (.block 4 (.seq (.rg false Zwc) (.rg true Zj9))) (.rg false Zu8)))
def Zb8:List IOp := [oI 105 (.bin .add (.t 29) (cI 1)) 0,mI 29 105 0]
def Zml:CC := .seq (.rg false Zmv) (.seq (.cond (.t 30) .skip (.exit 0)) (.seq (.block 1 (.seq (.rg false Zzh) (.seq (.rg false Zzx) (.seq (.rg false Zw8) (.block 2 (.seq (.rg false Zzq) (.cond (.t 41) (.seq (.rg false Zm6) (.rg true Zkb)) (.seq (.rg false Zjk) (.cond (.t 60) (.seq (.rg false Ztg) (.rg true Zjx)) (.seq (.rg false Zu2) (.cond (.t 79) (.seq (.rg false Zt6) (.seq (.rg false Zst) (.block 3 (.loop Zm3)))) .skip))))))))))) (.rg false Zb8)))
def Zjt:List IOp := [mI 106 5 0,mI 107 0 0,oI 108 (.nilck (.t 107)) 0,fI 109 1 108 0,lI 110 109 0,oI 111 (.call 107 [.t 106,.t 110]) 0,mI 4 111 0]
def Yax:CC := .seq (.rg false Zx6) (.seq (.rg true Zmu) (.seq (.seq (.rg false Zxp) (.block 0 (.loop Zml))) (.seq (.rg false Zjt) .ret)))
abbrev Ymj:Nat:=71
theorem Yi7:fnOk Tryz.prog 71=some (112,Yax,[.tmp 4]):=by kernel_rfl
def Ziq:List IOp := [oI 4 (.mv (.c (.bool false))) 0]
def Zij:List IOp := [mI 11 1 0,oI 12 (.len (.t 11)) 0,mI 13 0 0,oI 14 (.nilck (.t 13)) 0,fI 15 0 14 0,lI 16 15 0,oI 17 (.len (.t 16)) 0,oI 18 (.bin .neq (.t 12) (.t 17)) 0]
def Zrk:List IOp := [oI 4 (.mv (.c (.bool false))) 0]
def Zq8:List IOp := [mI 19 0 0,oI 20 (.nilck (.t 19)) 0,fI 21 0 20 0,lI 22 21 0,oI 23 (.len (.t 22)) 0,oI 24 (.mv (cI 0)) 0]
def Zau:List IOp := [oI 25 (.bin .lss (.t 24) (.t 23)) 0]
def Za2:List IOp := [mI 26 24 0,xI 27 1 22 24 0,lI 28 27 0,mI 5 26 0,mI 6 28 0]
def Zaz:List IOp := [oI 7 (.mv (cI 0)) 0]
def Za1:List IOp := [mI 29 6 0]
def Za0:List IOp := [oI 30 (.ta 129 true (.agg [.nils]) (.t 29)) 0,eI 31 1 30 0,eI 32 0 30 0]
def Zdb:List IOp := [oI 8 (.alloc [.nils]) 0,⟨none,.st 1 (.t 8) (.t 32),1,[],[],none⟩]
def Zc9:List IOp := [fI 33 0 8 0,lI 34 33 0,oI 35 (.len (.t 34)) 0,mI 7 35 0]
def Zbn:List IOp := [oI 36 (.ta 131 true (.agg [.nils]) (.t 29)) 0,eI 37 1 36 0,eI 38 0 36 0]
def Zc7:List IOp := [oI 9 (.alloc [.nils]) 0,⟨none,.st 1 (.t 9) (.t 38),1,[],[],none⟩]
def Zda:List IOp := [fI 39 0 9 0,lI 40 39 0,oI 41 (.len (.t 40)) 0,mI 7 41 0]
def Zgy:List IOp := [oI 42 (.ta 140 true (.agg [.nils,.nils]) (.t 29)) 0,eI 43 1 42 0,eI 44 0 42 0]
def Zgu:List IOp := [oI 10 (.alloc [.nils,.nils]) 0,⟨none,.st 2 (.t 10) (.t 44),1,[],[],none⟩]
def Zgv:List IOp := [mI 45 1 0,mI 46 5 0,xI 47 1 45 46 0,lI 48 47 0,oI 49 (.bin .neq (.t 48) (cI (-1))) 0]
def Znp:List IOp := [oI 4 (.mv (.c (.bool false))) 0]
def Zbb:List IOp := [mI 50 1 0,mI 51 5 0,xI 52 1 50 51 0,lI 53 52 0,oI 54 (.bin .lss (.t 53) (cI 0)) 0,mI 55 54 0,gI 56 (.mv (.t 1)) 0 55 false,gI 57 (.mv (.t 5)) 0 55 false,gI 58 (.idx 1 (.t 56) (.t 57)) 0 55 false,gI 59 (.ld none (.t 58)) 0 55 false,gI 60 (.mv (.t 7)) 0 55 false,gI 61 (.bin .geq (.t 59) (.t 60)) 0 55 false,oI 62 (.pick (.t 55) (.c (.bool true)) (.t 61)) 0]
def Zb7:List IOp := [oI 4 (.mv (.c (.bool false))) 0]
def Zdc:List IOp := [oI 63 (.bin .add (.t 24) (cI 1)) 0,mI 24 63 0]
def Zio:CC := .seq (.rg false Zau) (.seq (.cond (.t 25) .skip (.exit 0)) (.seq (.block 1 (.seq (.rg false Za2) (.seq (.rg false Zaz) (.seq (.seq (.rg false Za1) (.block 2 (.seq (.rg false Za0) (.cond (.t 31) (.seq (.rg false Zdb) (.rg false Zc9)) (.seq (.rg false Zbn) (.cond (.t 37) (.seq (.rg false Zc7) (.rg false Zda)) (.seq (.rg false Zgy) (.cond (.t 43) (.seq (.rg false Zgu) (.seq (.seq (.rg false Zgv) (.cond (.t 49) (.seq (.rg false Znp) .ret) .skip)) (.exit 1))) .skip)))))))) (.seq (.rg false Zbb) (.cond (.t 62) (.seq (.rg false Zb7) .ret) .skip)))))) (.rg false Zdc)))
def Zgm:List IOp := [oI 4 (.mv (.c (.bool true))) 0]
def Z2y:CC := .seq (.rg false Ziq) (.seq (.seq (.rg false Zij) (.cond (.t 18) (.seq (.rg false Zrk) .ret) .skip)) (.seq (.seq (.rg false Zq8) (.block 0 (.loop Zio))) (.seq (.rg false Zgm) .ret)))
abbrev Yep:Nat:=70
theorem Ydt:fnOk Tryz.prog 70=some (64,Z2y,[.tmp 4]):=by kernel_rfl
def Zg5:List IOp := [oI 6 (.mv (.c .nils)) 0,oI 7 (.mv (cI 0)) 0]
def Zg1:List IOp := [mI 11 0 0,mI 12 1 0,oI 13 (.call 48 [.t 11,.t 12]) 0,mI 10 13 0,eI 14 0 10 0,eI 15 1 10 0,mI 8 14 0,mI 9 15 0]
def Zg3:List IOp := [mI 17 9 0,oI 18 (.bin .neq (.t 17) (cI 0)) 0,mI 16 18 0]
def Zy5:List IOp := [mI 19 9 0,oI 6 (.mv (.c .nils)) 0,mI 7 19 0]
def Zm2:List IOp := [mI 21 8 0,mI 22 2 0,oI 23 (.call 70 [.t 21,.t 22]) 0,oI 24 (.un .not (.t 23)) 0,mI 20 24 0]
def Zze:List IOp := [oI 6 (.mv (.c .nils)) 0,oI 7 (.mv (cI 1)) 0]
def Zxy:List IOp := [mI 25 8 0,mI 26 2 0,oI 27 (.call 71 [.t 25,.t 26]) 0,oI 28 (.call 51 [.t 27]) 0,eI 29 0 28 0,eI 30 1 28 0,mI 6 29 0,mI 7 30 0]
def Zn4:CC := .seq (.rg false Zg5) (.seq (.rg false Zg1) (.seq (.block 0 (.seq (.rg false Zg3) (.cond (.t 16) (.seq (.rg false Zy5) .ret) (.seq (.rg false Zm2) (.cond (.t 20) (.seq (.rg false Zze) .ret) .skip))))) (.seq (.rg false Zxy) .ret)))
abbrev Z9j:Nat:=38
theorem Zow:fnOk Tryz.prog 38=some (31,Zn4,[.tmp 6,.tmp 7]):=by kernel_rfl
def Zka:List IOp := [mI 10 1 0,lI 11 3 0,mI 12 2 0,oI 13 (.call 76 [.t 10,.t 11,.t 12]) 0,mI 9 13 0]
def Zeo:List IOp := [lI 14 3 0,mI 15 1 0,mI 16 9 0,xI 17 1 15 16 0,lI 18 17 0,xI 19 4 14 18 0,lJ 20 4 19 0,lI 21 3 0,mI 22 1 0,lI 23 4 0,mI 24 0 0,xI 25 1 23 24 0,lI 26 25 0,xI 27 1 22 26 0,lI 28 27 0,xI 29 4 21 28 0,lJ 30 4 29 0,oI 31 (.call 69 [.t 20,.t 30]) 0,mI 32 2 0,oI 33 (.bin .eql (.t 31) (.t 32)) 0]
@[go_sem ↓] theorem Zty : autoK Zeo = (0, 0) := by kernel_rfl
@[go_sem] theorem Yju : autoK [lI 14 3 0, mI 15 1 0, mI 16 9 0, xI 17 1 15 16 0, lI 18 17 0, xI 19 4 14 18 0, lJ 20 4 19 0, lI 21 3 0, mI 22 1 0, lI 23 4 0, mI 24 0 0, xI 25 1 23 24 0, lI 26 25 0, xI 27 1 22 26 0, lI 28 27 0, xI 29 4 21 28 0, lJ 30 4 29 0, oI 31 (.call 69 [.t 20, .t 30]) 0, mI 32 2 0, oI 33 (.bin .eql (.t 31) (.t 32)) 0] = (0, 0) := Zty
def Zjo:List IOp := [lI 34 4 0,mI 35 0 0,mI 36 9 0,xI 37 1 34 35 0,⟨none,.st 1 (.t 37) (.t 36),0,[],[],none⟩,⟨none,.st 1 (.t 5) (.c (.bool true)),0,[],[],none⟩]
def Zrq:CC := .seq (.rg false Zka) (.seq (.rg true Zeo) (.cond (.t 33) (.rg false Zjo) .skip))
abbrev Z5w:Nat:=130
theorem Z4z:fnOk Tryz.prog 130=some (38,Zrq,[]):=by kernel_rfl
def Zuc:List IOp := [oI 5 (.box (.t 1)) 0,oI 6 (.box (.t 2)) 1,oI 8 (.mv (.c (.bool false))) 2]
def Zui:List IOp := [oI 9 (.alloc [.bool false]) 0,⟨none,.st 1 (.t 9) (.c (.bool false)),1,[],[],none⟩]
def Zvt:List IOp := [oI 15 (.mkf 130 [] [.t 6,.t 5,.t 9]) 0,mI 10 15 0]
def Zum:List IOp := [mI 16 0 0,oI 17 (.nilck (.t 16)) 0,fI 18 0 17 0,lI 19 18 0,oI 20 (.len (.t 19)) 0,oI 21 (.mv (cI 0)) 0]
def Zkn:List IOp := [oI 22 (.bin .lss (.t 21) (.t 20)) 0]
def Ztn:List IOp := [mI 23 21 0,xI 24 1 19 21 0,lI 25 24 0,mI 11 23 0,mI 12 25 0]
def Zt5:List IOp := [mI 26 12 0]
def Zsy:List IOp := [oI 27 (.ta 129 true (.agg [.nils]) (.t 26)) 0,eI 28 1 27 0,eI 29 0 27 0]
def Zkj:List IOp := [oI 13 (.alloc [.nils]) 0,⟨none,.st 1 (.t 13) (.t 29),1,[],[],none⟩]
def Zic:List IOp := [mI 30 3 0,oI 31 (.bin .eql (.t 30) (cI 1)) 0]
def Zrn:List IOp := [mI 32 10 0,mI 33 11 0,fI 34 0 13 0,lI 35 34 0,oI 36 (.callv (.t 32) [.t 33,.t 35,cI 1]) 0]
def Zed:List IOp := [oI 37 (.ta 131 true (.agg [.nils]) (.t 26)) 0,eI 38 1 37 0,eI 39 0 37 0]
def Zin:List IOp := [oI 14 (.alloc [.nils]) 0,⟨none,.st 1 (.t 14) (.t 39),1,[],[],none⟩]
def Zif:List IOp := [mI 40 3 0,oI 41 (.bin .eql (.t 40) (cI 2)) 0]
def Zq1:List IOp := [mI 42 10 0,mI 43 11 0,fI 44 0 14 0,lI 45 44 0,oI 46 (.callv (.t 42) [.t 43,.t 45,cI (-1)]) 0]
def Zbt:List IOp := [oI 47 (.bin .add (.t 21) (cI 1)) 0,mI 21 47 0]
def Zke:CC := .seq (.rg false Zkn) (.seq (.cond (.t 22) .skip (.exit 0)) (.seq (.block 1 (.seq (.rg false Ztn) (.seq (.rg false Zt5) (.block 2 (.seq (.rg false Zsy) (.cond (.t 28) (.seq (.rg false Zkj) (.seq (.rg false Zic) (.cond (.t 31) (.rg false Zrn) .skip))) (.seq (.rg false Zed) (.cond (.t 38) (.seq (.rg false Zin) (.seq (.rg false Zif) (.cond (.t 41) (.rg false Zq1) .skip))) .skip)))))))) (.rg false Zbt)))
def Zis:List IOp := [lI 48 9 0,mI 8 48 0]
def Z7a:CC := .seq (.rg false Zuc) (.seq (.rg false Zui) (.seq (.rg false Zvt) (.seq (.seq (.rg false Zum) (.block 0 (.loop Zke))) (.seq (.rg false Zis) .ret))))
abbrev Yi9:Nat:=110
theorem Ye7:fnOk Tryz.prog 110=some (49,Z7a,[.tmp 8]):=by kernel_rfl
def Zy6:List IOp := [oI 2 (.mv (.c .nils)) 0]
def Zye:List IOp := [mI 5 0 0,oI 6 (.nilck (.t 5)) 0,fI 7 0 6 0,lI 8 7 0,oI 9 (.len (.t 8)) 0,oI 10 (.mks none 8 [.int .i64 0] (.t 9) (.t 9)) 0,mI 3 10 1]
def Zy3:List IOp := [mI 11 0 0,mI 12 3 0,oI 13 (.call 71 [.t 11,.t 12]) 0,mI 4 13 0]
def Zxs:List IOp := [mI 14 0 0,mI 15 3 0,mI 16 4 0,oI 17 (.call 110 [.t 14,.t 15,.t 16,cI 2]) 0]
def Zxi:List IOp := [mI 18 0 0,mI 19 3 0,oI 20 (.call 71 [.t 18,.t 19]) 0,mI 4 20 0]
def Zmn:CC := .seq (.seq (.rg false Zxs) (.cond (.t 17) .skip (.exit 2))) (.block 3 (.rg false Zxi))
def Zmp:List IOp := [mI 21 0 0,mI 22 3 0,mI 23 4 0,oI 24 (.call 110 [.t 21,.t 22,.t 23,cI 1]) 0,oI 25 (.un .not (.t 24)) 0]
def Zmr:List IOp := [mI 26 4 0,mI 2 26 0]
def Zxt:CC := .block 1 (.seq (.rg false Zy3) (.seq (.block 2 (.loop Zmn)) (.seq (.rg false Zmp) (.cond (.t 25) (.seq (.rg false Zmr) .ret) .skip))))
def Ydh:CC := .seq (.rg false Zy6) (.seq (.rg false Zye) (.block 0 (.loop Zxt)))
abbrev Yj1:Nat:=75
theorem Yjr:fnOk Tryz.prog 75=some (27,Ydh,[.tmp 2]):=by kernel_rfl
def Zmm:List IOp := [oI 4 (.mv (.c .nils)) 0,oI 5 (.mv (cI 0)) 0]
def Zm1:List IOp := [mI 9 0 0,mI 10 1 0,oI 11 (.call 48 [.t 9,.t 10]) 0,mI 8 11 0,eI 12 0 8 0,eI 13 1 8 0,mI 6 12 0,mI 7 13 0]
def Zma:List IOp := [mI 14 7 0,oI 15 (.bin .neq (.t 14) (cI 0)) 0]
def Zzz:List IOp := [mI 16 7 0,oI 4 (.mv (.c .nils)) 0,mI 5 16 0]
def Zza:List IOp := [mI 17 6 0,oI 18 (.call 75 [.t 17]) 0,oI 19 (.call 51 [.t 18]) 0,eI 20 0 19 0,eI 21 1 19 0,mI 4 20 0,mI 5 21 0]
def Z00:CC := .seq (.rg false Zmm) (.seq (.rg false Zm1) (.seq (.seq (.rg false Zma) (.cond (.t 15) (.seq (.rg false Zzz) .ret) .skip)) (.seq (.rg false Zza) .ret)))
abbrev Yl7:Nat:=43
theorem Z4i:fnOk Tryz.prog 43=some (22,Z00,[.tmp 4,.tmp 5]):=by kernel_rfl
def Zp4:List IOp := [oI 4 (.mv (.c .nils)) 0,oI 5 (.mv (cI 0)) 0]
def Zo8:List IOp := [mI 16 0 0,mI 17 1 0,oI 18 (.call 48 [.t 16,.t 17]) 0,mI 15 18 0,eI 19 0 15 0,eI 20 1 15 0,mI 6 19 0,mI 7 20 0]
def Zog:List IOp := [mI 21 7 0,oI 22 (.bin .neq (.t 21) (cI 0)) 0]
def Z3m:List IOp := [mI 23 7 0,oI 4 (.mv (.c .nils)) 0,mI 5 23 0]
def Z4v:List IOp := [mI 24 6 0,oI 25 (.call 75 [.t 24]) 0,mI 8 25 0]
def Z41:List IOp := [oI 9 (.mv (.c .nils)) 0]
def Z2p:List IOp := [mI 26 6 0,oI 27 (.nilck (.t 26)) 0,fI 28 0 27 0,lI 29 28 0,oI 30 (.len (.t 29)) 0,oI 31 (.mv (cI 0)) 0]
def Zfi:List IOp := [oI 32 (.bin .lss (.t 31) (.t 30)) 0]
def Zi7:List IOp := [xI 33 1 29 31 0,lI 34 33 0,mI 11 34 0]
def Zg2:List IOp := [oI 12 (.mv (cI (-1))) 0]
def Zhc:List IOp := [mI 35 11 0]
def Zhn:List IOp := [oI 36 (.ta 129 true (.agg [.nils]) (.t 35)) 0,eI 37 1 36 0,eI 38 0 36 0]
def Zy4:List IOp := [oI 13 (.alloc [.nils]) 0,⟨none,.st 1 (.t 13) (.t 38),1,[],[],none⟩]
def Zxj:List IOp := [fI 39 0 13 0,lI 40 39 0,mI 41 8 0,oI 42 (.call 76 [.t 40,.t 41,cI 1]) 0,mI 12 42 0]
def Zm0:List IOp := [oI 43 (.ta 131 true (.agg [.nils]) (.t 35)) 0,eI 44 1 43 0,eI 45 0 43 0]
def Zzw:List IOp := [oI 14 (.alloc [.nils]) 0,⟨none,.st 1 (.t 14) (.t 45),1,[],[],none⟩]
def Zw9:List IOp := [fI 46 0 14 0,lI 47 46 0,mI 48 8 0,oI 49 (.call 76 [.t 47,.t 48,cI (-1)]) 0,mI 12 49 0]
def Zha:List IOp := [mI 50 9 0,mI 51 12 0,oI 52 (.bsl none 1 [.int .i64 0] [(0,.t 51)]) 0,oI 53 (.app none 8 (.t 50) (.t 52)) 1,mI 9 53 2]
def Zg4:List IOp := [oI 54 (.bin .add (.t 31) (cI 1)) 0,mI 31 54 0]
def Zqr:CC := .seq (.rg false Zfi) (.seq (.cond (.t 32) .skip (.exit 0)) (.seq (.block 1 (.seq (.rg false Zi7) (.seq (.rg false Zg2) (.seq (.seq (.rg false Zhc) (.block 2 (.seq (.rg false Zhn) (.cond (.t 37) (.seq (.rg false Zy4) (.rg false Zxj)) (.seq (.rg false Zm0) (.cond (.t 44) (.seq (.rg false Zzw) (.rg false Zw9)) .skip)))))) (.rg false Zha))))) (.rg false Zg4)))
def Zmd:List IOp := [mI 55 9 0,mI 4 55 0,oI 5 (.mv (cI 0)) 0]
def Z6j:CC := .seq (.rg false Zp4) (.seq (.rg false Zo8) (.seq (.seq (.rg false Zog) (.cond (.t 22) (.seq (.rg false Z3m) .ret) .skip)) (.seq (.rg false Z4v) (.seq (.rg false Z41) (.seq (.seq (.rg false Z2p) (.block 0 (.loop Zqr))) (.seq (.rg false Zmd) .ret))))))
abbrev Ynv:Nat:=44
theorem Z71:fnOk Tryz.prog 44=some (56,Z6j,[.tmp 4,.tmp 5]):=by kernel_rfl
end GoAbs
namespace GoAbs
open Go Go.Proofs
set_option maxHeartbeats 8000000
theorem Ycv {n i k:Nat}{d:Rat}{odds:List Rat}{to:List Nat}(hd:Qb 40 d) (ho:∀ t,t<to.length→Qb 40 (rget odds t)) (hk:1≤k):∀ {t:Nat}{M:RM},t≤to.length→M.length=n→Wid n M→Mb k M →
  (addOdds d i odds to t M).length=n∧Wid n (addOdds d i odds to t M)∧Mb (k+81*t) (addOdds d i odds to t M)
 | 0,M,_,hl,hw,h=>⟨hl,hw,h⟩
 | t+1,M,ht,hl,hw,h=>by
  obtain ⟨h1,h2,h3⟩:=Ycv (i:=i) (odds:=odds) (to:=to) hd ho hk (t:=t) (M:=M) (by omega) hl hw h
  unfold addOdds
  refine ⟨by rw [Zd2,h1],h2.addAt,fun r hr=>(h3.addAt (l:=80) ((hd.mul2 (ho t (by omega))).neg) (by omega) r hr).mono (by omega)⟩
theorem Z5s {g:Gm}(hg:GmOk g) {p:List Int}:∀ {k:Nat},k≤g.nodes.length→(planM g p k).length=g.nodes.length∧Wid g.nodes.length (planM g p k)∧Mb (1+600*k) (planM g p k)
 | 0,_=>by
  unfold planM
  refine ⟨List.length_replicate,fun r hr=>by rw [(List.mem_replicate.1 hr).2,List.length_replicate],fun r hr x hx=>?_⟩
  rw [(List.mem_replicate.1 hr).2] at hx
  rw [(List.mem_replicate.1 hx).2]
  exact Qb.zero (by omega)
 | k+1,hk=>by
  obtain ⟨h1,h2,h3⟩:=Z5s hg (p:=p) (k:=k) (by omega)
  have hx:=Zbf (g:=g) (i:=k) (by omega)
  have hok:=hg.node _ hx
  unfold planM nodeM
  generalize nodeAt g k=x at *
  have a1:Mb (1+600*k+1+1) (addAt (planM g p k) k k 1):=h3.addAt (Qb.one (by omega)) (by omega)
  have a2:(addAt (planM g p k) k k 1).length=g.nodes.length:=by rw [Zd2,h1]
  have a3:Wid g.nodes.length (addAt (planM g p k) k k 1):=h2.addAt
  split
  ·rename_i h3
   obtain ⟨ho,hb⟩:=hok.odds h3
   obtain ⟨b1,b2,b3⟩:=Ycv (i:=k) (odds:=x.odds) (to:=x.to) hg.db (fun t ht=>hb.get (by omega)) (by omega) (Nat.le_refl _) a2 a3 a1
   have:=hok.len
   exact ⟨b1,b2,fun r hr=>(b3 r hr).mono (by omega)⟩
  ·exact ⟨by rw [Zd2,a2],a3.addAt,fun r hr=>(a1.addAt (l:=40) hg.db.neg (by omega) r hr).mono (by omega)⟩
theorem Xgc {pre:Heap}{o n0 n i k:Nat}{gc:List AV}{pl:AV}{s27:AV}{d:Rat}{odds:List Rat}{to:List Nat}{M:RM}{b1:Blk}(hpre:pre.length=o) (hclo:∀ m,Clo m pre) (hn0:n0≤o) (hol:o≤1) (hpl:∀ m,o+1≤m→pl.gc (pos (List.range m))=pl) (hs27:∀ f,s27.gc f=s27)
  (hgd:gc.drop 2=qcell d) (hgg:∀ f,gcL f gc=gc) (hb1:∀ f,b1.gc f=b1) (hd:Qb 40 d) (ho:odds.length=to.length) (hob:Rb 40 odds) (hto:∀ x,x∈to→x<n) (htl:to.length≤6) (hn:n≤100) (hi:i<n)
  (hM:M.length=n) (hW:Wid n M) (hB:Mb k M) (hk1:1≤k) (hk:k≤1000000) {K:Ex→St→Prop}
  (hK:∀ e:Nat→AV,e 0 = .rp gc→e 1=pl→e 5 = .osl none o 0 n→e 27=s27→e 28 = .int .i64 (n:Int)→e 29 = .int .i64 (i:Int)→K (.exit 3) ⟨e,pre++(matH o n (addOdds d i odds to to.length M) ++ [b1,.cells [.sl (ivs (nv to)),.sl (condsR odds)]])⟩) :
  T Tryz.prog 112 n0 (.loop Zm3) ⟨envL [(0,.rp gc),(1,pl),(5,.osl none o 0 n),(6,.int .i64 (i:Int)),(10,.ptr (o+(1+2*n)+1) 0),(27,s27),(28,.int .i64 (n:Int)),(29,.int .i64 (i:Int)),(82,.sl (ivs (nv to))),(83,.int .i64 (to.length:Int)),(84,.int .i64 0)],
   pre++(matH o n M ++ [b1,.cells [.sl (ivs (nv to)),.sl (condsR odds)]])⟩ K:=by
 have hmx:Tryz.prog.follows .mixedOrders=true:=by kernel_rfl
 refine Zaf (fun t:Nat=>⟨envL [(0,.rp gc),(1,pl),(5,.osl none o 0 n),(6,.int .i64 (i:Int)),(10,.ptr (o+(1+2*n)+1) 0),(27,s27),(28,.int .i64 (n:Int)),(29,.int .i64 (i:Int)),(82,.sl (ivs (nv to))),(83,.int .i64 (to.length:Int)),(84,.int .i64 (t:Int))],
   pre++(matH o n (addOdds d i odds to t M) ++ [b1,.cells [.sl (ivs (nv to)),.sl (condsR odds)]])⟩)
  (fun t=>t≤to.length) (fun t=>to.length - t) 0 (by omega) (Zab _ (by simp only [go_sem]; simp)) (fun t ht N hN=>?_)
 unfold Zm3
 by_cases htn:t<to.length
 ·obtain ⟨w1,w2,w3⟩:=Ycv (i:=i) (odds:=odds) (to:=to) hd (fun t ht=>hob.get (by omega)) hk1 (t:=t) ht hM hW hB
  have hnx:addOdds d i odds to (t+1) M=addAt (addOdds d i odds to t M) i (to.getD t 0) (-(d*rget odds t)):=rfl
  generalize addOdds d i odds to t M=S at *
  have gi:=Zcj htn
  have mi:=hto _ (List.mem_of_getElem? gi)
  have go:odds[t]? = some (rget odds t):=Zai (by omega)
  have bo:=hob.get (j:=t) (by omega)
  generalize to.getD t 0=x at *
  generalize rget odds t=w at *
  have mu:=Yvm (k:=40) hd bo (by omega)
  have bx:Qb 80 (-(d*w)):=(hd.mul2 bo).neg
  have q0:(0:Int)≤(t:Int):=by omega
  have q1:(t:Int)<(to.length:Int):=by omega
  have e1:IntKind.i64.wrap ((t:Int)+1)=((t+1:Nat):Int):=by rw [Zac (by omega) (by omega)]; omega
  have ql:∀ q:Rat,(qcell q).length=4:=fun q=>rfl
  have qt:∀ q:Rat,(qcell q).take 4=qcell q:=fun q=>rfl
  have qd:∀ q:Rat,(qcell q).drop 4 = []:=fun q=>rfl
  have gP:∀ (S':RM) (post':Heap) (t':Nat),S'.length=n→(pre++(matH o n S'++post'))[o+(1+2*n)+t']? = post'[t']?:=fun S' post' t' h=>Z9z hpre h
  have gL:∀ (S':RM) (post':Heap),S'.length=n→(pre++(matH o n S'++post')).length=o+(1+2*n)+post'.length:=fun S' post' h=>by rw [List.length_append,List.length_append,Zbu,h,hpre]; omega
  have l0:o+(1+2*n)+1<o+(1+2*n)+2:=by omega
  have ma:=Yn9 (post := [b1,.cells [.sl (ivs (nv to)),.sl (condsR odds)]]) (i:=i) (j:=x) (x := -(d*w)) (k:=k+1000) hpre w2 (by omega) mi (by omega) (by omega) (fun r hr=>(w3 r hr).mono (by omega)) (bx.mono (by omega)) (by omega)
  rw [w1] at ma
  simp only [go_sem,Zkm,Zwc,Zj9,q0,q1,Zaq,Zf4,Ze9,ho,Zq9 gi,Zbr go,hgd,gP _ _ _ w1,gL _ _ w1,l0,ql,qt,qd,hmx,List.length_cons,List.length_nil]
  refine Zaa mu (by simp only [go_sem,Zaw,Zah]) ?_
  simp only [go_sem,Zaw]
  refine Zaa (Yt1 _) (by simp only [go_sem,Zaw,Zah]) ?_
  simp only [go_sem,Zaw]
  refine Zdq ma ?_
  simp only [go_sem,Zu8,e1,List.cons_append,List.nil_append]
  rw [← hnx]
  have w4:(addOdds d i odds to (t+1) M).length=n:=by rw [hnx,Zd2,w1]
  have hsplit:∀ Y:Blk,pre++(matH o n (addOdds d i odds to (t+1) M) ++ [b1,.cells [.sl (ivs (nv to)),.sl (condsR odds)],Y])=(pre++(matH o n (addOdds d i odds to (t+1) M) ++ [b1,.cells [.sl (ivs (nv to)),.sl (condsR odds)]])) ++ [Y]:=fun Y=>by simp
  rw [hsplit]
  have cv:∀ f,AV.gc f (.sl (ivs (nv to))) = .sl (ivs (nv to)):=fun f=>rfl
  refine hN (t+1) _ (by omega) (by omega) (Zj4 (m:=o+(1+2*n)+2) (gL _ _ w4) ((hclo _).append ((Yhi (by rw [w4]; omega)).append ?_)) (by omega)
   [(0,.rp gc),(1,pl),(5,.osl none o 0 n),(6,.int .i64 (i:Int)),(10,.ptr (o+(1+2*n)+1) 0),(27,s27),(28,.int .i64 (n:Int)),(29,.int .i64 (i:Int)),(82,.sl (ivs (nv to))),(83,.int .i64 (to.length:Int)),(84,.int .i64 ((t+1:Nat):Int))] (by simp only [go_sem]) ?_)
  ·unfold Clo
   show [b1.gc _,.cells [_,_]]=_
   rw [hb1]; rfl
  ·have p1:pos (List.range (o+(1+2*n)+2)) o=some o:=Zb6 (by omega)
   have p2:pos (List.range (o+(1+2*n)+2)) (o+(1+2*n)+1)=some (o+(1+2*n)+1):=Zb6 (by omega)
   have p3:=hpl (o+(1+2*n)+2) (by omega)
   simp [AV.gc,p1,p2,p3,hs27]
 ·have hte:t=to.length:=by omega
  subst hte
  have q1:¬ ((to.length:Nat):Int)<(to.length:Int):=by omega
  simp only [go_sem,Zkm,q1]
  exact hK _ (by simp only [go_sem]) (by simp only [go_sem]) (by simp only [go_sem]) (by simp only [go_sem]) (by simp only [go_sem]) (by simp only [go_sem])
end GoAbs
namespace GoAbs
open Go Go.Proofs
set_option maxHeartbeats 8000000
theorem Xgq {pre:Heap}{o n0 n:Nat}{g:Gm}{p:List Int}{pl:AV}(hpre:pre.length=o) (hclo:∀ m,Clo m pre) (hn0:n0≤o) (hol:o≤1) (hpgc:∀ m,o+1≤m→pl.gc (pos (List.range m))=pl)
  (hpl:pl = .sl (ivs p)∨(pl = .osl none 0 0 n∧∀ X,(pre++X)[0]? = some (.cells (ivs p)))) (hg:GmOk g) (hp:POk g p) (hn:n=g.nodes.length) {K:Ex→St→Prop}
  (hK:∀ e:Nat→AV,e 0 = .rp (gmC g)→e 5 = .osl none o 0 n→K (.exit 0) ⟨e,pre++matH o n (planM g p n)⟩) :
  T Tryz.prog 112 n0 (.loop Zml) ⟨envL [(0,.rp (gmC g)),(1,pl),(5,.osl none o 0 n),(27,.sl (g.nodes.map gnAV)),(28,.int .i64 (n:Int)),(29,.int .i64 0)],pre++matH o n (planM g p 0)⟩ K:=by
 have hmx:Tryz.prog.follows .mixedOrders=true:=by kernel_rfl
 have hnl:=hg.n
 refine Zaf (fun i:Nat=>⟨envL [(0,.rp (gmC g)),(1,pl),(5,.osl none o 0 n),(27,.sl (g.nodes.map gnAV)),(28,.int .i64 (n:Int)),(29,.int .i64 (i:Int))],pre++matH o n (planM g p i)⟩)
  (fun i=>i≤n) (fun i=>n - i) 0 (by omega) (Zab _ (by simp only [go_sem]; simp)) (fun i hi N hN=>?_)
 unfold Zml
 by_cases hin:i<n
 ·have hig:i<g.nodes.length:=by omega
  obtain ⟨w1,w2,w3⟩:=Z5s hg (p:=p) (k:=i) (by omega)
  have hnx:planM g p (i+1)=nodeM g p (planM g p i) i:=rfl
  obtain ⟨x,hx⟩:∃ x,g.nodes[i]? = some x:=⟨_,List.getElem?_eq_getElem hig⟩
  have hxa:nodeAt g i=x:=by unfold nodeAt; rw [List.getD_eq_getElem?_getD,hx]; rfl
  have hxg:(g.nodes.map gnAV)[i]? = some (gnAV x):=by rw [List.getElem?_map,hx]; rfl
  have hok:=hg.node x (List.mem_of_getElem? hx)
  have hlt:=hp.lt hig
  have hp2:=hp.2 i hig
  have hpl1:=hp.1
  rw [hxa] at hlt hp2
  rw [← hn] at w1 w2 hok
  have q0:(0:Int)≤(i:Int):=by omega
  have q1:(i:Int)<(n:Int):=by omega
  have e1:IntKind.i64.wrap ((i:Int)+1)=((i+1:Nat):Int):=by rw [Zac (by omega) (by omega)]; omega
  have ql:∀ q:Rat,(qcell q).length=4:=fun q=>rfl
  have qt:∀ q:Rat,(qcell q).take 4=qcell q:=fun q=>rfl
  have qd:∀ q:Rat,(qcell q).drop 4 = []:=fun q=>rfl
  have gd2:(gmC g).drop 2=qcell g.d:=rfl
  have gd0:(gmC g)[0]? = some (.sl (g.nodes.map gnAV)):=rfl
  have gcg:∀ f,gcL f (gmC g)=gmC g:=fun f=>by unfold gmC; rfl
  have gP:∀ (S':RM) (post':Heap) (t':Nat),S'.length=n→(pre++(matH o n S'++post'))[o+(1+2*n)+t']? = post'[t']?:=fun S' post' t' h=>Z9z hpre h
  have gL:∀ (S':RM) (post':Heap),S'.length=n→(pre++(matH o n S'++post')).length=o+(1+2*n)+post'.length:=fun S' post' h=>by rw [List.length_append,List.length_append,Zbu,h,hpre]; omega
  have sP:∀ (S':RM) (post':Heap) (t':Nat) (bl:Blk),S'.length=n→(pre++(matH o n S'++post')).set (o+(1+2*n)+t') bl=pre++(matH o n S'++post'.set t' bl):=fun S' post' t' bl h=>Z8f hpre h
  have eA:∀ (S':RM) (post':Heap) (Y:Blk),(pre++(matH o n S'++post')) ++ [Y]=pre++(matH o n S'++(post' ++ [Y])):=fun S' post' Y=>by simp
  have fin:∀ (e:Nat→AV) (post:Heap) (S':RM),S'=planM g p (i+1)→Has e [(0,.rp (gmC g)),(1,pl),(5,.osl none o 0 n),(27,.sl (g.nodes.map gnAV)),(28,.int .i64 (n:Int)),(29,.int .i64 ((i+1:Nat):Int))]→N ⟨e,pre++(matH o n S'++post)⟩:=fun e post S' hS he=>by
   subst hS
   have w4:=(Z5s hg (p:=p) (k:=i+1) (by omega)).1
   rw [← hn] at w4
   rw [← List.append_assoc]
   refine hN (i+1) _ (by omega) (by omega) (Zj4 (m:=o+(1+2*n)) (by rw [List.length_append,Zbu,w4,hpre]) ((hclo _).append (Yhi (by rw [w4]; omega))) (by omega) _ he ?_)
   have p1:pos (List.range (o+(1+2*n))) o=some o:=Zb6 (by omega)
   have p3:=hpgc (o+(1+2*n)) (by omega)
   simp [AV.gc,p1,p3]
  have ma:=Yn9 (post := []) (i:=i) (j:=i) (x:=1) (k:=1+600*i) hpre w2 (by omega) hin (by omega) (by omega) w3 (Qb.one (by omega)) (by omega)
  rw [w1,List.append_nil,List.nil_append] at ma
  have a1:Mb (1+600*i+1+1) (addAt (planM g p i) i i 1):=w3.addAt (Qb.one (by omega)) (by omega)
  have a2:(addAt (planM g p i) i i 1).length=n:=by rw [Zd2,w1]
  have a3:Wid n (addAt (planM g p i) i i 1):=w2.addAt
  unfold nodeM at hnx
  rw [hxa] at hnx
  generalize planM g p i=S at *
  generalize addAt S i i 1=S1 at *
  have hgp:((ivs p).drop i)[0]? = some (.int .i64 (p.getD i 0)):=by
   rw [List.getElem?_drop,Nat.add_zero]
   refine Z02 ?_
   rw [List.getD_eq_getElem?_getD,List.getElem?_eq_getElem (by omega)]; rfl
  have hgp2:(ivs p)[i]? = some (.int .i64 (p.getD i 0)):=by
   have:=hgp
   rwa [List.getElem?_drop,Nat.add_zero] at this
  have hpll:(ivs p).length=n:=by rw [Zaq]; omega
  have mv:∀ (S2:RM) (j:Nat) (post:Heap),j<n→S2=addAt S1 i j (-g.d)→SpecR Tryz.prog Zvd (pre++(matH o n S1++post)) [.osl none o 0 n,.int .i64 (i:Int),.int .i64 (j:Int),.agg (qcell (-g.d))] (.tup []) (pre++(matH o n S2++(post ++ [.cells (qcell (-g.d))]))):=fun S2 j post hj h=>by
   have:=Yn9 (post:=post) (i:=i) (j:=j) (x := -g.d) (k:=10000) hpre a3 (by omega) hj (by omega) (by omega) (fun r hr=>(a1 r hr).mono (by omega)) (hg.db.neg.mono (by omega)) (by omega)
   rw [a2, ← h] at this
   exact this
  have xc:(gnAV x).cells = [gnAV x]:=by unfold gnAV; split; rfl; split <;> rfl
  simp only [go_sem,Zmv,Zzh,Zzx,q0,q1,hxg,xc,List.length_map]
  refine Zaa Y22 (by simp only [go_sem]) ?_
  simp only [go_sem,Zaw]
  refine Zdq ma ?_
  simp only [go_sem,Zw8,Zzq]
  have l0:o+(1+2*n)+1<o+(1+2*n)+2:=by omega
  have l1:0<o+(1+2*n)+2:=by omega
  have r0:(0:Int)≤(pget p i:Int):=by omega
  by_cases k3:x.kind=3
  ·have hgx:gnAV x = .ifc 140 (.agg [.sl (ivs (nv x.to)),.sl (condsR x.odds)]):=by unfold gnAV; rw [if_neg (by omega),if_neg (by omega)]
   rw [if_pos k3] at hnx
   obtain ⟨ho1,ho2⟩:=hok.odds k3
   have hlen:=hok.len
   rw [hgx]
   simp only [go_sem,Zm6,Zjk,Zu2,Zt6,Zst,eA,List.cons_append,List.nil_append,sP _ _ _ _ a2,gP _ _ _ a2,gL _ _ a2,Zaq,Zf4]
   refine Zar [(0,.rp (gmC g)),(1,pl),(5,.osl none o 0 n),(6,.int .i64 (i:Int)),(10,.ptr (o+(1+2*n)+1) 0),(27,.sl (g.nodes.map gnAV)),(28,.int .i64 (n:Int)),(29,.int .i64 (i:Int)),(82,.sl (ivs (nv x.to))),(83,.int .i64 (x.to.length:Int)),(84,.int .i64 0)] (by simp only [go_sem]) ?_
   refine Xgc (d:=g.d) (k:=1+600*i+1+1) hpre hclo hn0 hol hpgc (fun f=>rfl) gd2 gcg (fun f=>by simp only [Blk.gc,Z3j]) hg.db ho1 ho2 hok.lt hlen (by omega) hin a2 a3 a1 (by omega) (by omega) (fun e k0 k1 k5 k27 k28 k29=>?_)
   rw [← hnx]
   simp only [go_sem,Zb8,k29,e1]
   exact fin _ _ _ rfl (by simp only [go_sem,k0,k1,k5,k27,k28])
  ·have hlt':=hlt k3
   have hp2':=hp2 k3
   rw [if_neg k3] at hnx
   have gi:=Zcj hlt'
   have mi:=hok.lt _ (Zcw hlt')
   have hpe:p.getD i 0=(pget p i:Int):=by unfold pget; omega
   have r1:(pget p i:Int)<(x.to.length:Int):=by omega
   have gl':(planM g p (i+1)).length=n:=by rw [hnx,Zd2,a2]
   rw [hpe] at hgp hgp2
   generalize x.to.getD (pget p i) 0=y at *
   generalize pget p i=pi at *
   have mvv:=mv _ y [.cells (qcell 1),.cells [.sl (ivs (nv x.to))]] mi hnx
   by_cases k1:x.kind=1
   ·have hgx:gnAV x = .ifc 129 (.agg [.sl (ivs (nv x.to))]):=by unfold gnAV; rw [if_pos k1]
    rw [hgx]
    simp only [go_sem,Zm6,Zkb,eA,List.cons_append,List.nil_append,sP _ _ _ _ a2,gP _ _ _ a2,gL _ _ a2,l0]
    rcases hpl with rfl | ⟨rfl,hX⟩
    ·simp only [go_sem,q0,q1,r0,r1,hpll,hgp2,Zaq,Zf4,Zq9 gi,gd2,ql,qt,qd,hmx]
     refine Zaa (Yt1 _) (by simp only [go_sem,Zaw,Zah]) ?_
     simp only [go_sem,Zaw]
     refine Zdq mvv ?_
     simp only [go_sem,Zb8,e1]
     exact fin _ _ _ rfl (by simp only [go_sem])
    ·simp only [go_sem,q0,q1,r0,r1,l0,l1,hX,hpll,hgp,hgp2,Zaq,Zf4,Zq9 gi,gd2,ql,qt,qd,hmx,List.getElem?_drop]
     refine Zaa (Yt1 _) (by simp only [go_sem,Zaw,Zah]) ?_
     simp only [go_sem,Zaw]
     refine Zdq mvv ?_
     simp only [go_sem,Zb8,e1]
     exact fin _ _ _ rfl (by simp only [go_sem])
   ·have hgx:gnAV x = .ifc 131 (.agg [.sl (ivs (nv x.to))]):=by unfold gnAV; rw [if_neg k1,if_pos (by have:=hok.kind; omega)]
    rw [hgx]
    simp only [go_sem,Zjk,Ztg,Zjx,eA,List.cons_append,List.nil_append,sP _ _ _ _ a2,gP _ _ _ a2,gL _ _ a2,l0]
    rcases hpl with rfl | ⟨rfl,hX⟩
    ·simp only [go_sem,q0,q1,r0,r1,hpll,hgp2,Zaq,Zf4,Zq9 gi,gd2,ql,qt,qd,hmx]
     refine Zaa (Yt1 _) (by simp only [go_sem,Zaw,Zah]) ?_
     simp only [go_sem,Zaw]
     refine Zdq mvv ?_
     simp only [go_sem,Zb8,e1]
     exact fin _ _ _ rfl (by simp only [go_sem])
    ·simp only [go_sem,q0,q1,r0,r1,l0,l1,hX,hpll,hgp,hgp2,Zaq,Zf4,Zq9 gi,gd2,ql,qt,qd,hmx,List.getElem?_drop]
     refine Zaa (Yt1 _) (by simp only [go_sem,Zaw,Zah]) ?_
     simp only [go_sem,Zaw]
     refine Zdq mvv ?_
     simp only [go_sem,Zb8,e1]
     exact fin _ _ _ rfl (by simp only [go_sem])
 ·have hie:i=n:=by omega
  subst hie
  have q1:¬ ((i:Nat):Int)<(i:Int):=by omega
  simp only [go_sem,Zmv,q1]
  exact hK _ (by simp only [go_sem]) (by simp only [go_sem])
end GoAbs
namespace GoAbs
open Go Go.Proofs
set_option maxHeartbeats 8000000
theorem bbit5:∀ k,k≤5→bbit 9687500 k≤2000000000:=by
 intro k hk
 have:k=0∨k=1∨k=2∨k=3∨k=4∨k=5:=by omega
 rcases this with rfl | rfl | rfl | rfl | rfl | rfl <;> decide
theorem Ygc {g:Gm}(hg:GmOk g) (hn:g.nodes.length≤5) {p:List Int}:Mb 3100 (aug (planM g p g.nodes.length) g.rew):=fun r hr x hx=>by
 obtain ⟨w1,w2,w3⟩:=Z5s hg (p:=p) (Nat.le_refl _)
 obtain ⟨i,hi⟩:=List.getElem?_of_mem hr
 unfold aug at hi
 rw [List.getElem?_zipWith] at hi
 split at hi
 ·rename_i a b ha hb
  cases hi
  rcases List.mem_append.1 hx with h | h
  ·exact (w3 a (List.mem_of_getElem? ha) x h).mono (by omega)
  ·rw [List.mem_singleton.1 h]
   exact (hg.rb b (List.mem_of_getElem? hb)).mono (by omega)
 ·cases hi
theorem Zn2 {g:Gm}(hg:GmP g) {p:List Int}(hp:POk g p) (hn5:g.nodes.length≤5) :
  NoSw g.nodes.length 0 (aug (planM g p g.nodes.length) g.rew)∧(∀ i,i<g.nodes.length→rget ((tri g.nodes.length 0 (aug (planM g p g.nodes.length) g.rew) 1).2.getD i []) i≠0)∧Wid (g.nodes.length+1) (tri g.nodes.length 0 (aug (planM g p g.nodes.length) g.rew) 1).2 ∧
  Mb 9687500 (tri g.nodes.length 0 (aug (planM g p g.nodes.length) g.rew) 1).2∧Rb 2000000000 (valP g p):=by
 obtain ⟨w1,w2,w3⟩:=Z5s hg.ok (p:=p) (Nat.le_refl _)
 obtain ⟨a1,a2,a3,_,_⟩:=Yce w1 w2 hg.ok.rew (Z95 hg hp)
 have hl:(aug (planM g p g.nodes.length) g.rew).length=g.nodes.length:=by rw [Ybv (by rw [w1]; exact hg.ok.rew),w1]
 have hb:=Yzd (w:=g.nodes.length+1) (k:=g.nodes.length) (c:=0) (d:=1) (by omega) (by omega) (Yo0 w2) (Ygc hg.ok hn5 (p:=p)) (by omega)
 have h5:5 ^ g.nodes.length*3100≤9687500:=by
  have:5 ^ g.nodes.length≤5 ^ 5:=Nat.pow_le_pow_right (by omega) hn5
  omega
 have hb':Mb 9687500 (tri g.nodes.length 0 (aug (planM g p g.nodes.length) g.rew) 1).2:=fun r hr=>(hb r hr).mono h5
 refine ⟨a1,a2,a3,hb',?_⟩
 exact (Yc9 hb' a3 (by rw [Yhk,hl]) a2 g.nodes.length (Nat.le_refl _)).mono (bbit5 _ hn5)
theorem Z6c {pre:Heap}{o:Nat}{g:Gm}{p:List Int}{pl:AV}(hpre:pre.length=o) (hpure:PureH pre) (hol:o≤1) (hpgc:∀ m,o+1≤m→pl.gc (pos (List.range m))=pl)
  (hpl:pl = .sl (ivs p)∨(pl = .osl none 0 0 g.nodes.length∧∀ X,(pre++X)[0]? = some (.cells (ivs p)))) (hg:GmP g) (hp:POk g p) (hn1:1≤g.nodes.length) (hn5:g.nodes.length≤5) :
  SpecR Tryz.prog Ymj pre [.rp (gmC g),pl] (.sl (condsR (valP g p))) pre:=by
 obtain ⟨a1,a2,a3,a4,_⟩:=Zn2 hg hp hn5
 obtain ⟨w1,w2,w3⟩:=Z5s hg.ok (p:=p) (Nat.le_refl _)
 obtain ⟨n,hn⟩:∃ n,n=g.nodes.length:=⟨_,rfl⟩
 have hmx:Tryz.prog.follows .mixedOrders=true:=by kernel_rfl
 have hclo:∀ m,Clo m pre:=fun m=>hpure _
 have hsv:=Ytu (pre:=pre) (o:=o) (n:=n) (k:=3100) (M:=planM g p n) (r:=g.rew) hpre hpure (by rw [hn,w1]) (by rw [hn,hg.ok.rew]) (by omega) (by rw [hn]; exact w2) (by rw [hn]; exact Ygc hg.ok hn5) (by omega) (by
   have:9 ^ n≤9 ^ 5:=Nat.pow_le_pow_right (by omega) (by omega)
   omega) (by rw [hn]; exact a1) (a:=9687500) (by rw [hn]; exact a4) (by rw [hn]; exact a3) (by rw [hn]; exact a2) (fun k hk=>by
   have:k=0∨k=1∨k=2∨k=3∨k=4:=by omega
   rcases this with rfl | rfl | rfl | rfl | rfl <;> decide)
 have hz:=Zz0 (H:=pre) (Y6y (m:=n) (n:=n) (by omega) (by omega) (by omega)) (by simp only [go_sem])
 rw [Y9w,Nat.zero_add] at hz
 have ez:(AV.osl none 0 0 n).gc (fun i=>some (i+pre.length)) = .osl none o 0 n:=by simp only [AV.gc,hpre,Nat.zero_add]
 rw [ez,hpre] at hz
 have gd0:(gmC g)[0]? = some (.sl (g.nodes.map gnAV)):=rfl
 have gd1:(gmC g).drop 1 = .sl (condsR g.rew)::qcell g.d:=rfl
 refine Z3p Yi7 (by simp) (Zbd 1 rfl ?_)
 unfold Yax
 obtain ⟨gc,hgc⟩:∃ gc,gc=gmC g:=⟨_,rfl⟩
 rw [← hgc] at gd0 gd1 ⊢
 simp only [go_sem,Zx6,Zmu,gd0,List.length_map,hmx]
 rw [← hn]
 refine Zdq hz ?_
 simp only [go_sem]
 refine Za8 (Za8 (T_W ?_))
 simp only [go_sem,Zxp,gd0,List.length_map]
 rw [← hn,hgc]
 refine Za3 (Zar [(0,.rp (gmC g)),(1,pl),(5,.osl none o 0 n),(27,.sl (g.nodes.map gnAV)),(28,.int .i64 (n:Int)),(29,.int .i64 0)] (by simp only [go_sem]) (T_le (Zcg (Xbe) ?_) (Xgq hpre hclo (by omega) hol hpgc (by rw [hn]; exact hpl) hg.ok hp hn (fun e k0 k5=>?_))))
 ·rw [show planM g p 0=List.replicate n (List.replicate n 0) by rw [hn]; rfl]
 ·show T Tryz.prog 112 _ (.seq (.rg false Zjt) .ret) _ _
  refine T_W ?_
  rw [← hgc] at k0
  simp only [go_sem,Zjt,k0,k5,gd1]
  refine Zdq hsv ?_
  simp only [go_sem]
  exact ⟨by rw [hn]; rfl,rfl,_,Zj4 rfl (hclo _) (Nat.le_refl _) [] trivial (fun p hp=>by simp at hp),rfl⟩
end GoAbs
namespace GoAbs
open Go Go.Proofs
set_option maxHeartbeats 8000000
theorem Y2y {p:List Int}{i:Nat}{x:Int}(hi:i<p.length):(ivs p).take i ++ [AV.int .i64 x]++(ivs p).drop (i+1)=ivs (p.set i x):=by
 unfold ivs
 rw [List.map_set]
 rw [List.set_eq_take_append_cons_drop,if_pos (by simpa using hi)]
 simp
theorem Y2t {n i pi k:Nat}{p:List Int}{v:List Rat}{to:List Nat}{sg:Int}{ch:Bool}{b4:Blk}(hv:Rb k v) (hk:2*k+1≤1000000000000) (hvl:v.length=n) (hn:n≤100) (hpl:p.length=n) (hi:i<n) (hto:∀ x,x∈to→x<n) (h0:0<to.length) (hl:to.length≤6)
  (hp:p.getD i 0=(pi:Int)) (hpi:pi<to.length) (c:Bool) (hc:c=decide (cmpR (rget v (to.getD (bestA v to sg) 0)) (rget v (to.getD pi 0))=sg)) :
  SpecR Tryz.prog Z5w [.cells (ivs p),.cells [.osl none 0 0 n],.cells [.sl (condsR v)],.cells [.bool ch],b4] [.int .i64 (i:Int),.sl (ivs (nv to)),.int .i64 sg,.ptr 2 0,.ptr 1 0,.ptr 3 0] (.tup [])
   [.cells (ivs (if c=true then p.set i (bestA v to sg:Int) else p)),.cells [.osl none 0 0 n],.cells [.sl (condsR v)],.cells [.bool (c || ch)],b4]:=by
 have hmx:Tryz.prog.follows .mixedOrders=true:=by kernel_rfl
 have hb:=Z4c (sg:=sg) (to:=to) hv hk (fun x hx=>by rw [hvl]; exact hto x hx) h0 (by omega) (by omega)
 have hbl:bestA v to sg<to.length:=Zfe h0 (Nat.le_refl _)
 generalize bestA v to sg=b at *
 have g1:=Zcj hbl
 have g2:=Zcj hpi
 have m1:=hto _ (Zcw hbl)
 have m2:=hto _ (Zcw hpi)
 generalize to.getD b 0=x at *
 generalize to.getD pi 0=y at *
 have hcm:=Y4m (hv.get (j:=x) (by omega)) (hv.get (j:=y) (by omega)) hk
 have q0:(0:Int)≤(i:Int):=by omega
 have q1:(i:Int)<(n:Int):=by omega
 have q2:(0:Int)≤(b:Int):=by omega
 have q3:(b:Int)<(to.length:Int):=by omega
 have q4:(0:Int)≤(x:Int):=by omega
 have q5:(x:Int)<(n:Int):=by omega
 have q6:(0:Int)≤(y:Int):=by omega
 have q7:(y:Int)<(n:Int):=by omega
 have q8:(0:Int)≤(pi:Int):=by omega
 have q9:(pi:Int)<(to.length:Int):=by omega
 have ql:∀ q,(qcell q).length=4:=fun q=>rfl
 have qt:∀ q,(qcell q).take 4=qcell q:=fun q=>rfl
 have qd:∀ q,(qcell q).drop 4 = []:=fun q=>rfl
 have hgp:(ivs p)[i]? = some (.int .i64 (pi:Int)):=by
  refine Z02 ?_
  rw [← hp,List.getD_eq_getElem?_getD,List.getElem?_eq_getElem (by omega)]; rfl
 have hpll:(ivs p).length=n:=by rw [Zaq]; omega
 have f1:i+1≤n:=by omega
 have hf:=Y2y (p:=p) (i:=i) (x:=(b:Int)) (by omega)
 refine Z0z Z4z (by simp) ?_
 unfold Zrq
 simp only [go_sem,Zka,Zeo]
 refine Zaa hb (by simp only [go_sem]) ?_
 simp only [go_sem,q0,q1,q2,q3,q4,q5,q6,q7,q8,q9,Zaq,Zf4,Ze9,hvl,Zq9 g1,Zq9 g2,hgp,List.getElem?_drop,Zbr (Zai (r:=v) (j:=x) (by omega)),Zbr (Zai (r:=v) (j:=y) (by omega)),ql,qt,qd,hmx]
 refine Zaa hcm (by simp only [go_sem,Zaw,Zah]) ?_
 by_cases hcc:cmpR (rget v x) (rget v y)=sg
 ·have hct:c=true:=by rw [hc]; exact decide_eq_true hcc
  subst hct
  simp only [go_sem,hcc,Zjo,q0,q1,hpll,f1,hf]
  rw [Bool.true_or]
 ·have hct:c=false:=by rw [hc]; exact decide_eq_false hcc
  subst hct
  simp only [go_sem,hcc]
  rw [Bool.false_or]
def betU (g:Gm) (v:List Rat) (who:Nat) (p:List Int) (i:Nat):List Int:=(List.range g.nodes.length).map fun j=>if j<i then betI g v who p j else p.getD j 0
theorem Zwu {g:Gm}{v:List Rat}{who:Nat}{p:List Int}{i:Nat}:(betU g v who p i).length=g.nodes.length:=by unfold betU; rw [List.length_map,List.length_range]
theorem Xe4 {g:Gm}{v:List Rat}{who:Nat}{p:List Int}(h:p.length=g.nodes.length):betU g v who p 0=p:=by
 refine List.ext_getElem (by rw [Zwu,h]) (fun i h1 h2=>?_)
 simp [betU,h2]
theorem Xdu {g:Gm}{v:List Rat}{who:Nat}{p:List Int}:betU g v who p g.nodes.length=betP g v who p:=by
 unfold betU betP
 exact List.map_congr_left fun j hj=>by rw [if_pos (List.mem_range.1 hj)]
theorem Yqp {g:Gm}{v:List Rat}{who:Nat}{p:List Int}{i:Nat}(h:i<g.nodes.length):(betU g v who p i).getD i 0=p.getD i 0:=by
 unfold betU
 rw [List.getD_eq_getElem?_getD,List.getElem?_map,List.getElem?_range h]
 simp
theorem Yxz {g:Gm}{v:List Rat}{who:Nat}{p:List Int}{i j:Nat}(h:j<g.nodes.length):(betU g v who p i)[j]? = some (if j<i then betI g v who p j else p.getD j 0):=by
 unfold betU
 rw [List.getElem?_map,List.getElem?_range h]; rfl
theorem Yzx {g:Gm}{v:List Rat}{who:Nat}{p:List Int}{i:Nat}(h:i<g.nodes.length) :
  betU g v who p (i+1)=if bet1 g v who p i=true then (betU g v who p i).set i (bestA v (nodeAt g i).to (sgn who):Int) else betU g v who p i:=by
 have e:∀ z:Int,z=betI g v who p i→betU g v who p (i+1)=(betU g v who p i).set i z:=fun z hz=>by
  refine List.ext_getElem? (fun j=>?_)
  rw [List.getElem?_set,Zwu]
  by_cases hjn:j<g.nodes.length
  ·rw [Yxz hjn,Yxz hjn]
   by_cases hj:i=j
   ·rw [if_pos hj,if_pos (by omega),hz, ← hj,if_pos (by omega)]
   ·rw [if_neg hj]
    by_cases hl:j<i
    ·rw [if_pos hl,if_pos (by omega)]
    ·rw [if_neg hl,if_neg (by omega)]
  ·rw [if_neg (by omega),List.getElem?_eq_none (by rw [Zwu]; omega),List.getElem?_eq_none (by rw [Zwu]; omega)]
 by_cases hb:bet1 g v who p i=true
 ·rw [if_pos hb]
  exact e _ (by unfold betI; rw [if_pos hb])
 ·rw [if_neg hb,e (p.getD i 0) (by unfold betI; rw [if_neg hb])]
  have h2:=Yqp (g:=g) (v:=v) (who:=who) (p:=p) h
  have hl:i<(betU g v who p i).length:=by rw [Zwu]; exact h
  rw [← h2,List.getD_eq_getElem?_getD,List.getElem?_eq_getElem hl,Option.getD_some,List.set_getElem_self]
theorem Ywt {g:Gm}{v:List Rat}{who n k:Nat}{p:List Int}(hv:Rb k v) (hk:2*k+1≤1000000000000) (hvl:v.length=n) (hg:GmOk g) (hp:POk0 g p) (hn:n=g.nodes.length) (hw:who=1∨who=2) {K:Ex→St→Prop}
  (hK:∀ e:Nat→AV,e 9 = .ptr 3 0→K (.exit 0) ⟨e,[.cells (ivs (betP g v who p)),.cells [.osl none 0 0 n],.cells [.sl (condsR v)],.cells [.bool (betC g v who p)]]⟩) :
  T Tryz.prog 49 1 (.loop Zke) ⟨envL [(3,.int .i64 (who:Int)),(9,.ptr 3 0),(10,.fn 130 [] [.ptr 2 0,.ptr 1 0,.ptr 3 0]),(19,.sl (g.nodes.map gnAV)),(20,.int .i64 (n:Int)),(21,.int .i64 0)],
   [.cells (ivs p),.cells [.osl none 0 0 n],.cells [.sl (condsR v)],.cells [.bool false]]⟩ K:=by
 have hmx:Tryz.prog.follows .mixedOrders=true:=by kernel_rfl
 have hnl:=hg.n
 refine Zaf (fun i:Nat=>⟨envL [(3,.int .i64 (who:Int)),(9,.ptr 3 0),(10,.fn 130 [] [.ptr 2 0,.ptr 1 0,.ptr 3 0]),(19,.sl (g.nodes.map gnAV)),(20,.int .i64 (n:Int)),(21,.int .i64 (i:Int))],
   [.cells (ivs (betU g v who p i)),.cells [.osl none 0 0 n],.cells [.sl (condsR v)],.cells [.bool ((List.range i).any (bet1 g v who p))]]⟩)
  (fun i=>i≤n) (fun i=>n - i) 0 (by omega) (Zcg (Zab [(3,.int .i64 (who:Int)),(9,.ptr 3 0),(10,.fn 130 [] [.ptr 2 0,.ptr 1 0,.ptr 3 0]),(19,.sl (g.nodes.map gnAV)),(20,.int .i64 (n:Int)),(21,.int .i64 0)] (by simp only [go_sem])) (by rw [Xe4 hp.1]; rfl)) (fun i hi N hN=>?_)
 unfold Zke
 by_cases hin:i<n
 ·have hig:i<g.nodes.length:=by omega
  obtain ⟨x,hx⟩:∃ x,g.nodes[i]? = some x:=⟨_,List.getElem?_eq_getElem hig⟩
  have hxa:nodeAt g i=x:=by unfold nodeAt; rw [List.getD_eq_getElem?_getD,hx]; rfl
  have hxg:(g.nodes.map gnAV)[i]? = some (gnAV x):=by rw [List.getElem?_map,hx]; rfl
  have hok:=hg.node x (List.mem_of_getElem? hx)
  have hp2:=hp.2 i hig
  have hs:=Yzx (v:=v) (who:=who) (p:=p) hig
  have hu:=Yqp (v:=v) (who:=who) (p:=p) hig
  have hul:=Zwu (g:=g) (v:=v) (who:=who) (p:=p) (i:=i)
  have hpe:p.getD i 0=(pget p i:Int):=by unfold pget; omega
  rw [hxa] at hp2 hs
  have hb1:bet1 g v who p i=(decide (x.kind=who) && decide (cmpR (rget v (x.to.getD (bestA v x.to (sgn who)) 0)) (rget v (x.to.getD (pget p i) 0))=sgn who)):=by unfold bet1; rw [hxa]
  have hany:(List.range (i+1)).any (bet1 g v who p)=((List.range i).any (bet1 g v who p) || bet1 g v who p i):=by rw [List.range_succ,List.any_append]; simp
  have q0:(0:Int)≤(i:Int):=by omega
  have q1:(i:Int)<(n:Int):=by omega
  have e1:IntKind.i64.wrap ((i:Int)+1)=((i+1:Nat):Int):=by rw [Zac (by omega) (by omega)]; omega
  have xc:(gnAV x).cells = [gnAV x]:=by unfold gnAV; split; rfl; split <;> rfl
  have fin:∀ (e:Nat→AV) (post:Heap) (pp:List Int) (ch:Bool),pp=betU g v who p (i+1)→ch=(List.range (i+1)).any (bet1 g v who p)→Has e [(3,.int .i64 (who:Int)),(9,.ptr 3 0),(10,.fn 130 [] [.ptr 2 0,.ptr 1 0,.ptr 3 0]),(19,.sl (g.nodes.map gnAV)),(20,.int .i64 (n:Int)),(21,.int .i64 ((i+1:Nat):Int))] →
    N ⟨e,[.cells (ivs pp),.cells [.osl none 0 0 n],.cells [.sl (condsR v)],.cells [.bool ch]]++post⟩:=fun e post pp ch h1 h2 he=>by
   subst h1 h2
   refine hN (i+1) _ (by omega) (by omega) (Zj4 (K := [.cells (ivs (betU g v who p (i+1))),.cells [.osl none 0 0 n],.cells [.sl (condsR v)],.cells [.bool ((List.range (i+1)).any (bet1 g v who p))]]) (m:=4) rfl ?_ (by omega) _ he ?_)
   ·unfold Clo
    show [Blk.cells (gcL _ (ivs _)),.cells [.osl none 0 0 n],_,_]=_
    rw [Yui]; rfl
   ·simp [AV.gc,gcL,Zb6]
  rw [hpe] at hu
  generalize betU g v who p i=pp at *
  generalize (List.range i).any (bet1 g v who p)=ch at *
  have ht:∀ (sg:Int) (b4:Blk) (c:Bool),c=decide (cmpR (rget v (x.to.getD (bestA v x.to sg) 0)) (rget v (x.to.getD (pget p i) 0))=sg)→_:=fun sg b4 c hc=>Y2t (p:=pp) (pi:=pget p i) (ch:=ch) (b4:=b4) hv hk hvl (by omega) (by omega) hin (fun y hy=>by rw [hn]; exact hok.lt y hy) hok.pos hok.len hu (by unfold pget; omega) c hc
  simp only [go_sem,Zkn,Ztn,Zt5,Zsy,q0,q1,hxg,xc,List.length_map]
  have skip:x.kind≠who→bet1 g v who p i=false:=fun h=>by rw [hb1,decide_eq_false h]; rfl
  have hsk:∀ (e:Nat→AV) (post:Heap),x.kind≠who→Has e [(3,.int .i64 (who:Int)),(9,.ptr 3 0),(10,.fn 130 [] [.ptr 2 0,.ptr 1 0,.ptr 3 0]),(19,.sl (g.nodes.map gnAV)),(20,.int .i64 (n:Int)),(21,.int .i64 ((i+1:Nat):Int))] →
    N ⟨e,[.cells (ivs pp),.cells [.osl none 0 0 n],.cells [.sl (condsR v)],.cells [.bool ch]]++post⟩:=fun e post h he=>by
   have hb:=skip h
   exact fin e post pp ch (by rw [hs,if_neg (by rw [hb]; decide)]) (by rw [hany,hb,Bool.or_false]) he
  by_cases k1:x.kind=1
  ·have hgx:gnAV x = .ifc 129 (.agg [.sl (ivs (nv x.to))]):=by unfold gnAV; rw [if_pos k1]
   rw [hgx]
   by_cases hw1:who=1
   ·subst hw1
    have hw:((1:Nat):Int)=1:=rfl
    simp only [go_sem,Zkj,Zic,Zrn,hw,List.cons_append,List.nil_append]
    have hb:bet1 g v 1 p i=decide (cmpR (rget v (x.to.getD (bestA v x.to 1) 0)) (rget v (x.to.getD (pget p i) 0))=1):=by rw [hb1,decide_eq_true k1]; rfl
    refine Zdq (ht 1 _ (bet1 g v 1 p i) hb) ?_
    simp only [go_sem,Zbt,e1]
    exact fin _ [_] _ _ (by rw [hs]; rfl) (by rw [hany,Bool.or_comm]) (by simp only [go_sem]; rfl)
   ·have hw1':¬ ((who:Nat):Int)=1:=by omega
    simp only [go_sem,Zkj,Zic,hw1',Zbt,e1,List.cons_append,List.nil_append]
    exact hsk _ [_] (by omega) (by simp only [go_sem])
  ·by_cases k2:x.kind=2
   ·have hgx:gnAV x = .ifc 131 (.agg [.sl (ivs (nv x.to))]):=by unfold gnAV; rw [if_neg k1,if_pos k2]
    rw [hgx]
    by_cases hw1:who=2
    ·subst hw1
     have hw:((2:Nat):Int)=2:=rfl
     simp only [go_sem,Zed,Zin,Zif,Zq1,hw,List.cons_append,List.nil_append]
     have hb:bet1 g v 2 p i=decide (cmpR (rget v (x.to.getD (bestA v x.to (-1)) 0)) (rget v (x.to.getD (pget p i) 0)) = -1):=by rw [hb1,decide_eq_true k2]; rfl
     refine Zdq (ht (-1) _ (bet1 g v 2 p i) hb) ?_
     simp only [go_sem,Zbt,e1]
     exact fin _ [_] _ _ (by rw [hs]; rfl) (by rw [hany,Bool.or_comm]) (by simp only [go_sem]; rfl)
    ·have hw1':¬ ((who:Nat):Int)=2:=by omega
     simp only [go_sem,Zed,Zin,Zif,hw1',Zbt,e1,List.cons_append,List.nil_append]
     exact hsk _ [_] (by omega) (by simp only [go_sem])
   ·have hgx:gnAV x = .ifc 140 (.agg [.sl (ivs (nv x.to)),.sl (condsR x.odds)]):=by unfold gnAV; rw [if_neg k1,if_neg k2]
    rw [hgx]
    simp only [go_sem,Zed,Zbt,e1]
    exact hsk _ [] (by omega) (by simp only [go_sem])
 ·have hie:i=n:=by omega
  subst hie
  have q1:¬ ((i:Nat):Int)<(i:Int):=by omega
  simp only [go_sem,Zkn,q1]
  have h1:betU g v who p i=betP g v who p:=by rw [hn,Xdu]
  have h2:(List.range i).any (bet1 g v who p)=betC g v who p:=by unfold betC; rw [hn]
  rw [h1,h2]
  exact hK _ (by simp only [go_sem])
end GoAbs
