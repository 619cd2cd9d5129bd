/- Lemmas for the claim (contracts of the functions that it reaches, and what they compute), without conditions. -/
import Derived.Test.YtnpgooaiiboanaaGreatK34
import Derived.Test.YtnpgooaiiboanaaGreatProg
import Derived.KernelRfl
set_option linter.unusedVariables false
set_option linter.unusedSimpArgs false
set_option maxRecDepth 10000
set_option maxHeartbeats 2000000
namespace GoAbs
open Go Go.Proofs
set_option exponentiation.threshold 20000
def ss (x:List Rat):List AV:=x.map fun q => .str (bs (numS q))
theorem Yn1 (x:List Rat):(ss x).length=x.length:=by simp [ss]
theorem Xio {H:Heap}{ids:List Nat}{b:Nat}{x:List Rat}(hb:H[b]? = some (.cells (ss x))) (hi:b∈ids):BV H ids (.osl none b 0 x.length) (.sl (ss x)):=by
 refine .osl none b 0 x.length (ss x) (ss x) hb hi (Yn1 x) (fun y hy=>?_) (by rw [Yn1]; simp [es]) (fun i y j z w hy hz hw=>?_)
 ·obtain ⟨c,_,rfl⟩:=List.mem_map.1 hy; rfl
 ·obtain ⟨c,_,rfl⟩:=List.mem_map.1 (List.mem_of_getElem? hy)
  have hj:j=0:=by
   have:=(List.getElem?_eq_some_iff.1 hz).1
   simp [AV.cells] at this; omega
  subst hj
  simp [AV.cells] at hz
  subst hz
  simp [es] at hw
  rw [hy] at hw
  cases hw
  exact .str _
theorem Xhs {f:Nat→Option Nat}{x:List Rat}:gcL f (ss x)=ss x:=by
 rw [Zat]; unfold ss; rw [List.map_map]; rfl
def numsR (x:List Rat):AV:=if ∀ q,q∈x→NumOk q then .tup [.sl (ss x),.int .i64 0] else .tup [.nils,.int .i64 4]
theorem Xbj {x:List Rat}(hx:∀ q,q∈x→Tx q.num.natAbs∧Tx q.den) (hl:x.length≤1000000) {K:Ex→St→Prop}
  (hK:(∀ q,q∈x→NumOk q)→∀ e:Nat→AV,e 4 = .osl none 0 0 x.length→K (.exit 0) ⟨e,[.cells (ss x)]⟩)
  (hK0:(¬ ∀ q,q∈x→NumOk q)→∀ e:Nat→AV,∀ H,e 2 = .nils→e 3 = .int .i64 4→K .ret ⟨e,H⟩) :
  T Tryz.prog 29 0 (.loop Zka) ⟨envL [(4,.osl none 0 0 0),(9,.sl (condsR x)),(10,.int .i64 (x.length:Int)),(11,.int .i64 0)],[.cells []]⟩ K:=by
 have hm:Tryz.prog.follows .mixedOrders=true:=by kernel_rfl
 refine Zae (fun i:Nat=>⟨envL [(4,.osl none 0 0 i),(9,.sl (condsR x)),(10,.int .i64 (x.length:Int)),(11,.int .i64 (i:Int))],[.cells (ss (x.take i))]⟩)
  (fun i=>i≤x.length∧∀ q,q∈x.take i→NumOk q) (fun i=>x.length - i) 0 ⟨by omega,by simp⟩ (Zab _ (by simp only [go_sem]; simp)) (fun i hi N hN=>?_)
 obtain ⟨hi,hall⟩:=hi
 unfold Zka
 by_cases hin:i<x.length
 ·have gx:=Zag hin
  have gc:=Zob gx
  have hmem:=List.mem_of_getElem? gx
  have hq:=Xcc (hx _ hmem).1 (hx _ hmem).2
  have tk:x.take (i+1)=x.take i ++ [rget x i]:=by rw [List.take_add_one,gx]; rfl
  have q0:(0:Int)≤(i:Int):=by omega
  have q1:(i:Int)<(x.length:Int):=by omega
  have e1:IntKind.i64.wrap ((i:Int)+1)=((i+1:Nat):Int):=by rw [Zac (by omega) (by omega)]; omega
  have l1:(ss (x.take i)).length=i:=by rw [Yn1,List.length_take]; omega
  have l2:(ss (x.take i)).take i=ss (x.take i):=List.take_of_length_le (by omega)
  have s1:(i+1)*16≤1099511627776:=by omega
  have ql:(qcell (rget x i)).length=4:=rfl
  have qt:(qcell (rget x i)).take 4=qcell (rget x i):=rfl
  have qd:(qcell (rget x i)).drop 4 = []:=rfl
  simp only [go_sem,Zkf,Ztn,Ztj,q0,q1,gc,ql,qt,qd]
  refine Zaa hq (by simp only [go_sem,Zbz,Zaq]) ?_
  by_cases hok:NumOk (rget x i)
  ·rw [if_pos hok]
   simp only [go_sem,Zj1,Zv1,Zro,e1,l1,l2,s1]
   refine ⟨Nat.le_refl _,hN (i+1) _ ⟨by omega,?_⟩ (by omega) ?_⟩
   ·rw [tk]; intro q hq
    rcases List.mem_append.1 hq with h | h
    ·exact hall q h
    ·rw [List.mem_singleton.1 h]; exact hok
   ·refine Zb8 (Zje [3] (by decide) (fun i hi=>by omega) [(4,.osl none 3 0 (i+1)),(9,.sl (condsR x)),(10,.int .i64 (x.length:Int)),(11,.int .i64 ((i+1:Nat):Int))] (by simp only [go_sem])) ?_
    have hss:ss (x.take (i+1))=ss (x.take i) ++ [.str (bs (numS (rget x i)))]:=by rw [tk]; unfold ss; rw [List.map_append]; rfl
    show St.mk _ [Blk.cells (gcL _ (ss (x.take i) ++ [.str (bs (numS (rget x i)))]))]=_
    rw [← hss,Xhs]
    rfl
  ·rw [if_neg hok]
   have h4:¬ (4:Int)=0:=by decide
   simp only [go_sem,Zj1,Zvn,h4]
   exact hK0 (fun h=>hok (h _ hmem)) _ _ (by simp only [go_sem]) (by simp only [go_sem])
 ·have hie:i=x.length:=by omega
  subst hie
  have q1:¬ ((x.length:Nat):Int)<(x.length:Int):=by omega
  rw [List.take_length] at hall ⊢
  simp only [go_sem,Zkf,q1]
  exact hK hall _ (by simp only [go_sem])
theorem Yy1 {x:List Rat}(hx:∀ q,q∈x→Tx q.num.natAbs∧Tx q.den) (hl:x.length≤1000000):SpecV Tryz.prog Yi6 [.sl (condsR x)] (numsR x):=by
 refine Zba Yfn (by simp) (Zct 1 rfl ?_)
 unfold Z79
 simp only [go_sem,Zv5,Zty]
 refine T_le (Zij 4 none (by simp only [go_sem]) [(0,.sl (condsR x)),(2,.nils),(3,.int .i64 0)] (by simp only [go_sem])) ?_
 refine T_W ?_
 simp only [go_sem,Ztz,Zg2]
 refine Zar [(4,.osl none 0 0 0),(9,.sl (condsR x)),(10,.int .i64 (x.length:Int)),(11,.int .i64 0)] (by simp only [go_sem]) ?_
 refine Xbj hx hl (fun hall e e4=>?_) (fun hall e H e2 e3=>?_)
 ·simp only [go_sem,Zrn,e4,numsR,if_pos hall]
  exact Xio rfl (by simp [allOf])
 ·simp only [go_sem,e2,e3,numsR,if_neg hall]
end GoAbs
namespace GoAbs
open Go Go.Proofs
def Znj:List IOp := [oI 2 (.mv (.c .nils)) 0,oI 3 (.mv (.c (.bool false))) 0]
def Zn5:List IOp := [oI 4 (.mv (.c .nils)) 0]
def Zoc:List IOp := [mI 9 0 0,oI 10 (.len (.t 9)) 0,oI 11 (.mv (cI 0)) 0]
def Zg3:List IOp := [oI 12 (.bin .lss (.t 11) (.t 10)) 0]
def Zn4:List IOp := [xI 13 1 9 11 0,lI 14 13 0,mI 6 14 0]
def Znn:List IOp := [mI 16 6 0,oI 17 (.call 109 [.t 16]) 0,mI 15 17 0,eI 18 0 15 0,eI 19 1 15 0,oI 7 (.alloc [.bool false,.nils,.bool false,.nils]) 0,⟨none,.st 4 (.t 7) (.t 18),1,[],[],none⟩,mI 8 19 1]
def Zgx:List IOp := [mI 20 8 0,oI 21 (.un .not (.t 20)) 0]
def Zoa:List IOp := [oI 2 (.mv (.c .nils)) 0,oI 3 (.mv (.c (.bool false))) 0]
def Zny:List IOp := [mI 22 4 0,lJ 23 4 7 0,oI 24 (.bsl (some 4) 1 [.bool false,.nils,.bool false,.nils] [(0,.t 23)]) 0,oI 25 (.app (some 4) 64 (.t 22) (.t 24)) 1,mI 4 25 2]
def Zlp:List IOp := [oI 26 (.bin .add (.t 11) (cI 1)) 0,mI 11 26 0]
def Zgs:CC := .seq (.rg false Zg3) (.seq (.cond (.t 12) .skip (.exit 0)) (.seq (.block 1 (.seq (.rg false Zn4) (.seq (.rg false Znn) (.seq (.seq (.rg false Zgx) (.cond (.t 21) (.seq (.rg false Zoa) .ret) .skip)) (.rg false Zny))))) (.rg false Zlp)))
def Zll:List IOp := [mI 27 4 0,mI 2 27 0,oI 3 (.mv (.c (.bool true))) 0]
def Zys:CC := .seq (.rg false Znj) (.seq (.rg false Zn5) (.seq (.seq (.rg false Zoc) (.block 0 (.loop Zgs))) (.seq (.rg false Zll) .ret)))
abbrev Ydd:Nat:=91
theorem Yam:fnOk Tryz.prog 91=some (28,Zys,[.tmp 2,.tmp 3]):=by kernel_rfl
def Zvd:List IOp := [oI 4 (.box (.t 1)) 0,oI 6 (.alloc [.bool false,.nils,.bool false,.nils]) 1]
def Zte:List IOp := [mI 9 0 0,oI 10 (.len (.t 9)) 0,oI 11 (.mv (cI 0)) 0]
def Zk3:List IOp := [oI 12 (.bin .lss (.t 11) (.t 10)) 0]
def Zu7:List IOp := [xI 13 4 9 11 0,lJ 14 4 13 0,oI 8 (.alloc [.bool false,.nils,.bool false,.nils]) 0,⟨none,.st 4 (.t 8) (.t 14),1,[],[],none⟩]
def Zuf:List IOp := [mI 15 2 0,lJ 16 4 4 0,lJ 17 4 8 0,oI 18 (.callv (.t 15) [.t 16,.t 17]) 0,⟨none,.st 4 (.t 4) (.t 18),0,[],[],none⟩]
def Zwx:List IOp := [oI 19 (.bin .add (.t 11) (cI 1)) 0,mI 11 19 0]
def Zkg:CC := .seq (.rg false Zk3) (.seq (.cond (.t 12) .skip (.exit 0)) (.seq (.block 1 (.seq (.rg false Zu7) (.rg false Zuf))) (.rg false Zwx)))
def Ztt:List IOp := [lJ 20 4 4 0,⟨none,.st 4 (.t 6) (.t 20),0,[],[],none⟩]
def Z8k:CC := .seq (.rg false Zvd) (.seq (.seq (.rg false Zte) (.block 0 (.loop Zkg))) (.seq (.rg false Ztt) .ret))
abbrev Yib:Nat:=93
theorem Yfh:fnOk Tryz.prog 93=some (21,Z8k,[.cell 6 (some 4)]):=by kernel_rfl
def Zgb:List IOp := [oI 6 (.mv (.c .nils)) 0,oI 7 (.mv (cI 0)) 0]
def Zge:List IOp := [mI 13 0 0,mI 14 1 0,oI 15 (.call 62 [.t 13,.t 14]) 0,mI 12 15 0,eI 16 0 12 0,eI 17 1 12 0,oI 8 (.alloc [.int .i64 0,.nils,.nils]) 0,⟨none,.st 3 (.t 8) (.t 16),1,[],[],none⟩,mI 9 17 1]
def Zfh:List IOp := [mI 19 2 0,oI 20 (.call 91 [.t 19]) 0,mI 18 20 0,eI 21 0 18 0,eI 22 1 18 0,mI 10 21 0,mI 11 22 0]
def Za7:List IOp := [mI 24 9 0,oI 25 (.bin .eql (.t 24) (cI 2)) 0,mI 26 25 0,gI 27 (.mv (.t 11)) 0 26 false,gI 28 (.un .not (.t 27)) 0 26 false,oI 29 (.pick (.t 26) (.c (.bool true)) (.t 28)) 0,mI 23 29 0]
def Zf6:List IOp := [oI 6 (.mv (.c .nils)) 0,oI 7 (.mv (cI 2)) 0]
def Zcx:List IOp := [mI 31 9 0,oI 32 (.bin .neq (.t 31) (cI 0)) 0,mI 33 32 0,gI 34 (.mv (.t 10)) 0 33 false,gI 35 (.len (.t 34)) 0 33 false,gI 36 (.mv (.t 0)) 0 33 false,gI 37 (.bin .neq (.t 35) (.t 36)) 0 33 false,oI 38 (.pick (.t 33) (.c (.bool true)) (.t 37)) 0,mI 30 38 0]
def Zj5:List IOp := [oI 6 (.mv (.c .nils)) 0,oI 7 (.mv (cI 1)) 0]
def Zki:List IOp := [lJ 40 3 8 0,oI 41 (.call 92 [.t 40]) 0,oI 42 (.un .not (.t 41)) 0,mI 43 42 0,gI 44 (.mv (.t 10)) 0 43 false,gI 45 (.call 77 [cI 0]) 0 43 false,gI 46 (.call 93 [.t 44,.t 45,.c (.fn 94 [] [])]) 0 43 false,gI 47 (.call 95 [.t 46]) 0 43 false,gI 48 (.bin .neq (.t 47) (cI 0)) 0 43 false,oI 49 (.pick (.t 43) (.c (.bool true)) (.t 48)) 0,mI 39 49 0]
def Zkr:List IOp := [oI 6 (.mv (.c .nils)) 0,oI 7 (.mv (cI 5)) 0]
def Zrt:List IOp := [lJ 50 3 8 0,mI 51 10 0,oI 52 (.call 96 [.t 50,.t 51]) 0,oI 53 (.call 88 [.t 52]) 0,eI 54 0 53 0,eI 55 1 53 0,mI 6 54 0,mI 7 55 0]
def Zld:CC := .seq (.rg false Zgb) (.seq (.rg false Zge) (.seq (.rg false Zfh) (.seq (.block 0 (.seq (.rg false Za7) (.cond (.t 23) (.seq (.rg false Zf6) .ret) (.seq (.rg false Zcx) (.cond (.t 30) (.seq (.rg false Zj5) .ret) (.seq (.rg false Zki) (.cond (.t 39) (.seq (.rg false Zkr) .ret) .skip))))))) (.seq (.rg false Zrt) .ret))))
abbrev Zi9:Nat:=47
theorem Zmy:fnOk Tryz.prog 47=some (56,Zld,[.tmp 6,.tmp 7]):=by kernel_rfl
end GoAbs
namespace GoAbs
open Go Go.Proofs
set_option exponentiation.threshold 20000
def txts (L:List (List UInt8)):List AV:=L.map fun l => .str (bs l)
theorem Zbv (L:List (List UInt8)):(txts L).length=L.length:=by simp [txts]
theorem Z4x {L:List (List UInt8)}{i:Nat}{l:List UInt8}(h:L[i]? = some l):(txts L)[i]? = some (.str (bs l)):=by simp [txts,h]
def toQ (l:List UInt8):Rat:=(parseL l).getD 0
def vecR (L:List (List UInt8)):AV:=if ∀ l,l∈L→(parseL l).isSome=true then .tup [.sl (condsR (L.map toQ)),.bool true] else .tup [.nils,.bool false]
theorem Xep {L:List (List UInt8)}(hl:∀ l,l∈L→l.length≤1000000000) (hL:L.length≤1000000) {K:Ex→St→Prop}
  (hK:(∀ l,l∈L→(parseL l).isSome=true)→∀ e:Nat→AV,e 4 = .osl (some 4) 0 0 L.length→K (.exit 0) ⟨e,[.cells (qc (L.map toQ))]⟩)
  (hK0:(¬ ∀ l,l∈L→(parseL l).isSome=true)→∀ e:Nat→AV,∀ H,e 2 = .nils→e 3 = .bool false→K .ret ⟨e,H⟩) :
  T Tryz.prog 28 0 (.loop Zgs) ⟨envL [(4,.osl (some 4) 0 0 0),(9,.sl (txts L)),(10,.int .i64 (L.length:Int)),(11,.int .i64 0)],[.cells []]⟩ K:=by
 have hm:Tryz.prog.follows .mixedOrders=true:=by kernel_rfl
 refine Zae (fun i:Nat=>⟨envL [(4,.osl (some 4) 0 0 i),(9,.sl (txts L)),(10,.int .i64 (L.length:Int)),(11,.int .i64 (i:Int))],[.cells (qc ((L.take i).map toQ))]⟩)
  (fun i=>i≤L.length∧∀ l,l∈L.take i→(parseL l).isSome=true) (fun i=>L.length - i) 0 ⟨by omega,by simp⟩ (Zab _ (by simp only [go_sem]; simp)) (fun i hi N hN=>?_)
 obtain ⟨hi,hall⟩:=hi
 unfold Zgs
 by_cases hin:i<L.length
 ·obtain ⟨l,hli⟩:∃ l,L[i]? = some l:=⟨_,List.getElem?_eq_getElem hin⟩
  have hmem:=List.mem_of_getElem? hli
  obtain ⟨c,t,hc,hcg,hcb,hsp,hct⟩:=Yml (hl l hmem)
  have gl:=Z4x hli
  have tk:L.take (i+1)=L.take i ++ [l]:=by rw [List.take_add_one,hli]; rfl
  have q0:(0:Int)≤(i:Int):=by omega
  have q1:(i:Int)<(L.length:Int):=by omega
  have e1:IntKind.i64.wrap ((i:Int)+1)=((i+1:Nat):Int):=by rw [Zac (by omega) (by omega)]; omega
  have l1:(qc ((L.take i).map toQ)).length=i*4:=by rw [Z7p,List.length_map,List.length_take]; congr 1; omega
  have l2:(qc ((L.take i).map toQ)).take (i*4)=qc ((L.take i).map toQ):=List.take_of_length_le (by omega)
  have l3:i*4≤(qc ((L.take i).map toQ)).length:=by omega
  have s1:(i+1)*64≤1099511627776:=by omega
  have ct:c.take 4=c:=List.take_of_length_le (by omega)
  have cd:c.drop 4 = []:=List.drop_of_length_le (by omega)
  simp only [go_sem,Zg3,Zn4,Znn,q0,q1,gl]
  refine Zaa hsp (by simp only [go_sem]) ?_
  rcases hct with ⟨rfl,q,hq,rfl⟩ | ⟨rfl,hq⟩
  ·simp only [go_sem,Zgx,Zny,Zlp,hc,ct,cd,Bool.not_true,e1,l1,l2,l3,s1]
   refine ⟨Nat.le_refl _,hN (i+1) _ ⟨by omega,?_⟩ (by omega) ?_⟩
   ·rw [tk]; intro y hy
    rcases List.mem_append.1 hy with h | h
    ·exact hall y h
    ·rw [List.mem_singleton.1 h,hq]; rfl
   ·refine Zb8 (Zje [3] (by decide) (fun i hi=>by omega) [(4,.osl (some 4) 3 0 (i+1)),(9,.sl (txts L)),(10,.int .i64 (L.length:Int)),(11,.int .i64 ((i+1:Nat):Int))] (by simp only [go_sem])) ?_
    have hqq:toQ l=q:=by unfold toQ; rw [hq]; rfl
    have hss:qc ((L.take (i+1)).map toQ)=qc ((L.take i).map toQ)++qcell q:=by rw [tk,List.map_append,Z4s, ← hqq]; simp [qc]
    show St.mk _ [Blk.cells (gcL _ (qc ((L.take i).map toQ)++qcell q))]=_
    rw [← hss,Y5j]
    rfl
  ·simp only [go_sem,Zgx,Zoa,hc,ct,cd,Bool.not_false]
   exact hK0 (fun h=>by have:=h l hmem; rw [hq] at this; cases this) _ _ (by simp only [go_sem]) (by simp only [go_sem])
 ·have hie:i=L.length:=by omega
  subst hie
  have q1:¬ ((L.length:Nat):Int)<(L.length:Int):=by omega
  rw [List.take_length] at hall ⊢
  simp only [go_sem,Zg3,q1]
  exact hK hall _ (by simp only [go_sem])
theorem Z16 {L:List (List UInt8)}(hl:∀ l,l∈L→l.length≤1000000000) (hL:L.length≤1000000):SpecV Tryz.prog Ydd [.sl (txts L)] (vecR L):=by
 refine Zba Yam (by simp) (Zct 1 rfl ?_)
 unfold Zys
 simp only [go_sem,Znj,Zn5]
 refine T_le (Zij 4 (some 4) (by simp only [go_sem]) [(0,.sl (txts L)),(2,.nils),(3,.bool false)] (by simp only [go_sem])) ?_
 refine T_W ?_
 simp only [go_sem,Zoc,Zbv]
 refine Zar [(4,.osl (some 4) 0 0 0),(9,.sl (txts L)),(10,.int .i64 (L.length:Int)),(11,.int .i64 0)] (by simp only [go_sem]) ?_
 refine Xep hl hL (fun hall e e4=>?_) (fun hall e H e2 e3=>?_)
 ·simp only [go_sem,Zll,e4,vecR,if_pos hall]
  have:=Ya2 (H := [.cells (qc (L.map toQ))]) (ids:=allOf [.cells (qc (L.map toQ))]) (b:=0) (r:=L.map toQ) rfl (by simp [allOf])
  rwa [List.length_map] at this
 ·simp only [go_sem,e2,e3,vecR,if_neg hall]
def sumQ (r:List Rat):Rat:=r.foldl (· + ·) 0
theorem Xbe {k:Nat}{r:List Rat}{z:List AV}(hr:Rb k r) (hk:1≤k) (hrl:r.length≤1000) (hkl:k≤1000000) (hz:∀ f,gcL f z=z) {K:Ex→St→Prop}
  (hK:∀ e:Nat→AV,e 4 = .ptr 0 0→e 6 = .ptr 1 0→K (.exit 0) ⟨e,[.cells (qcell (sumQ r)),.cells z]⟩) :
  T Tryz.prog 21 0 (.loop Zkg) ⟨envL [(2,.fn Zjy [] []),(4,.ptr 0 0),(6,.ptr 1 0),(9,.sl (condsR r)),(10,.int .i64 (r.length:Int)),(11,.int .i64 0)],[.cells (qcell 0),.cells z]⟩ K:=by
 have ql:∀ q:Rat,(qcell q).length=4:=fun q=>rfl
 have qt:∀ q:Rat,(qcell q).take 4=qcell q:=fun q=>rfl
 have qd:∀ q:Rat,(qcell q).drop 4 = []:=fun q=>rfl
 have hbits:∀ i,i≤r.length→Qb (k+i*(k+1)) ((r.take i).foldl (· + ·) 0):=fun i=>by
  induction i with
  | zero=>intro _; exact Qb.zero (by omega)
  | succ i ih =>
   intro h
   rw [List.take_add_one,Zag (show i<r.length by omega),List.foldl_append]
   have:=(ih (by omega)).add2 (hr.get (j:=i) (by omega))
   exact this.mono (by rw [Nat.succ_mul]; omega)
 refine Zae (fun i:Nat=>⟨envL [(2,.fn Zjy [] []),(4,.ptr 0 0),(6,.ptr 1 0),(9,.sl (condsR r)),(10,.int .i64 (r.length:Int)),(11,.int .i64 (i:Int))],[.cells (qcell ((r.take i).foldl (· + ·) 0)),.cells z]⟩)
  (fun i=>i≤r.length) (fun i=>r.length - i) 0 (by omega) (Zab _ (by simp only [go_sem]; simp)) (fun i hi N hN=>?_)
 unfold Zkg
 by_cases hin:i<r.length
 ·have gx:=Zag hin
  have gc:=Zob gx
  have hb:=hbits i hi
  have hm1:i*(k+1)≤1000*(k+1):=Nat.mul_le_mul_right _ (by omega)
  have hadd:=Xdc (k:=k+i*(k+1)) hb ((hr.get hin).mono (by omega)) (by omega)
  have tk:(r.take (i+1)).foldl (· + ·) 0=(r.take i).foldl (· + ·) 0+rget r i:=by rw [List.take_add_one,gx,List.foldl_append]; rfl
  generalize (r.take i).foldl (· + ·) 0=S at *
  have q0:(0:Int)≤(i:Int):=by omega
  have q1:(i:Int)<(r.length:Int):=by omega
  have e1:IntKind.i64.wrap ((i:Int)+1)=((i+1:Nat):Int):=by rw [Zac (by omega) (by omega)]; omega
  simp only [go_sem,Zk3,Zu7,Zuf,q0,q1,gc,ql,qt,qd]
  refine Zaa hadd (by simp only [go_sem,Zbz,Zaq]) ?_
  simp only [go_sem,Zbz,ql,qt,qd,Zwx,e1]
  refine hN (i+1) _ (by omega) (by omega) (Zb8 (Zje [0,1] (by decide) (fun i hi=>by omega) [(2,.fn Zjy [] []),(4,.ptr 0 0),(6,.ptr 1 0),(9,.sl (condsR r)),(10,.int .i64 (r.length:Int)),(11,.int .i64 ((i+1:Nat):Int))] (by simp only [go_sem])) ?_)
  show St.mk _ [Blk.cells (gcL _ (qcell (S+rget r i))),Blk.cells (gcL _ z)]=_
  rw [hz,tk]
  rfl
 ·have hie:i=r.length:=by omega
  subst hie
  have q1:¬ ((r.length:Nat):Int)<(r.length:Int):=by omega
  rw [List.take_length]
  simp only [go_sem,Zk3,q1]
  exact hK _ (by simp only [go_sem]) (by simp only [go_sem])
theorem Ylp {k:Nat}{r:List Rat}(hr:Rb k r) (hk:1≤k) (hrl:r.length≤1000) (hkl:k≤1000000):SpecV Tryz.prog Yib [.sl (condsR r),avQ 0,.fn Zjy [] []] (avQ (sumQ r)):=by
 have ql:∀ q:Rat,(qcell q).length=4:=fun q=>rfl
 have qt:∀ q:Rat,(qcell q).take 4=qcell q:=fun q=>rfl
 have qd:∀ q:Rat,(qcell q).drop 4 = []:=fun q=>rfl
 refine Zad Yfh (by simp) ?_
 unfold Z8k
 rw [Zbz,Zbz]
 simp only [go_sem,Zvd,Zte,Zg2]
 refine Zar [(2,.fn Zjy [] []),(4,.ptr 0 0),(6,.ptr 1 0),(9,.sl (condsR r)),(10,.int .i64 (r.length:Int)),(11,.int .i64 0)] (by simp only [go_sem]) ?_
 refine Xbe hr hk hrl hkl (fun f=>rfl) (fun e e4 e6=>?_)
 simp only [go_sem,Ztt,e4,e6,ql,qt,qd]
 rw [Zaq]; trivial
theorem Y82 {m k:Nat}{L:List Spr}{E:List Sp}{F:List (List UInt8)}{x:List Rat}(hL:L.length≤1000000000) (hl:∀ s,s∈L→s.2.2.length≤1000000000) (h:readR ((m+1:Nat):Int) L = .tup [.agg (netC (m+1) E),.int .i64 0])
  (hF:∀ l,l∈F→l.length≤1000000000∧(parseL l).isSome=true) (hFl:F.length=m+1) (hm:m≤900) (hf:Rb k (F.map toQ)) (hk:1≤k) (hkl:k≤1000000) (hs:sumQ (F.map toQ)=0)
  (hE:InN (m+1) E) (hEl:E.length≤1000000000) (hc:connB (m+1) E=true) (hmv:SpecV Tryz.prog Zm5 [.agg (netC (m+1) E),.sl (condsR (F.map toQ))] (.sl (condsR x))) (hx:∀ q,q∈x→Tx q.num.natAbs∧Tx q.den) (hxl:x.length≤1000000) :
  SpecV Tryz.prog Zi9 [.int .i64 ((m+1:Nat):Int),.sl (L.map sprAV),.sl (txts F)] (numsR x):=by
 have hr:=Zh2 (n:=((m+1:Nat):Int)) hL hl
 rw [h] at hr
 have hv:=Z16 (L:=F) (fun l h=>(hF l h).1) (by omega)
 unfold vecR at hv
 rw [if_pos (fun l h=>(hF l h).2)] at hv
 have hcon:=Zme (n:=m+1) (E:=E) (by omega) (by omega) hE hEl
 rw [hc] at hcon
 have hfo:=Ylp hf hk (by rw [List.length_map]; omega) hkl
 rw [hs] at hfo
 have hsg:=Ygc 0
 rw [if_pos rfl] at hsg
 have hns:=Yy1 hx hxl
 obtain ⟨nc,hnc⟩:∃ nc,nc=netC (m+1) E:=⟨_,rfl⟩
 have hn3:nc.length=3:=by rw [hnc]; rfl
 have t3:nc.drop 3 = []:=by rw [hnc]; rfl
 have k3:nc.take 3=nc:=by rw [hnc]; rfl
 have hbv:∀ (H:Heap) (ids:List Nat),BVs H ids nc nc=True:=fun H ids=>by rw [hnc]; unfold netC; simp only [go_sem]
 rw [← hnc] at hr hcon hmv
 have h02:¬ (0:Int)=2:=by decide
 have hcl:(condsR (F.map toQ)).length=m+1:=by rw [Zg2,List.length_map,hFl]
 have bq:∀ (H:Heap) (ids:List Nat) (q:Rat),BVs H ids (qcell q) (qcell q)=True:=fun H ids q=>Zaq
 refine Zad Zmy (by simp) ?_
 unfold Zld
 simp only [go_sem,Zgb,Zge]
 refine Zaa hr (by simp only [go_sem]) ?_
 simp only [go_sem,Zfh,hn3,t3]
 refine Zaa hv (by simp only [go_sem]) ?_
 simp only [go_sem,Za7,Zcx,h02,Bool.not_true,hcl]
 simp only [go_sem,Zki,hn3,t3,k3]
 refine Zaa hcon (by simp only [go_sem,hbv]) ?_
 simp only [go_sem,Bool.not_true]
 refine Zaa Yg7 (by simp only [go_sem]) ?_
 simp only [go_sem]
 refine Zaa hfo (by simp only [go_sem,Zbz,bq]; exact BV.fn _ _ _ _ _ rfl rfl (fun i x y h=>by simp at h) (fun i x y h=>by simp at h)) ?_
 simp only [go_sem]
 refine Zaa hsg (by simp only [go_sem,Zbz,bq]) ?_
 simp only [go_sem,Zrt,hn3,t3,k3]
 refine Zaa hmv (by simp only [go_sem,hbv]) ?_
 simp only [go_sem]
 refine Zaa hns (by simp only [go_sem]) ?_
 unfold numsR
 by_cases hall:∀ q,q∈x→NumOk q
 ·simp only [if_pos hall,go_sem]
 ·simp only [if_neg hall,go_sem]
theorem Yor {m:Nat}{L:List Spr}{E:List Sp}{F:List (List UInt8)}(hE:E=L.map toE) (hL:L.length≤40) (hl:∀ s,s∈L→s.2.2.length≤1000000000) (h:readR ((m+1:Nat):Int) L = .tup [.agg (netC (m+1) E),.int .i64 0]) (ho:NetOk (m+1) E) (hm5:m≤5) (hc:connE (m+1) E)
  (hF:∀ l,l∈F→l.length≤1000000000∧(parseL l).isSome=true) (hFl:F.length=m+1) (hf:Rb 10947 (F.map toQ)) (hs:sumQ (F.map toQ)=0) :
  SpecV Tryz.prog Zi9 [.int .i64 ((m+1:Nat):Int),.sl (L.map sprAV),.sl (txts F)] (numsR (moveX m E (F.map toQ))):=by
 have hEl:E.length≤40:=by rw [hE,List.length_map]; exact hL
 obtain ⟨_,_,hI⟩:=Yd6 ho
 have hcB:connB (m+1) E=true:=by rw [Yrd (by omega) hI,decide_eq_true hc]
 obtain ⟨hmv,hxb⟩:=Yx2 ho hm5 hEl hc (f:=F.map toQ) (by rw [List.length_map,hFl]) hf
 exact Y82 (by omega) hl h hF hFl (by omega) hf (by omega) (by omega) hs hI (by omega) hcB hmv (fun q hq=>⟨Zth (hxb q hq).n (by omega),Zth (hxb q hq).d (by omega)⟩) (by unfold moveX; rw [List.length_cons,Zlv]; omega)
end GoAbs
namespace GoAbs
open Go Go.Proofs
theorem opensNums:Opens Tryz.prog 65 (fun av=>∃ L:List (List UInt8),av = [.sl (txts L)]):=by
 refine Opens.mono (Y3f (e:=26) (fun x ⟨n,hx,_⟩=>by cases hx; rfl) Tryz.underlying65 (by kernel_rfl) (Yle Tryz.underlying26)) ?_
 rintro av ⟨l,rfl,h⟩
 have:∀ l:List AV,(∀ c,c∈l→∃ s:ByteArray,[c] = [AV.str s]∧s.size≤maxLen)→∃ L:List (List UInt8),l=txts L:=by
  intro l
  induction l with
  | nil=>intro _; exact ⟨[],rfl⟩
  | cons c l ih =>
   intro h
   obtain ⟨p,hp⟩:=ih (fun d hd=>h d (by simp [hd]))
   obtain ⟨s,hs,_⟩:=h c (by simp)
   cases hs
   obtain ⟨b,rfl⟩:=Xeo s
   exact ⟨b::p,by rw [hp]; rfl⟩
 obtain ⟨p,hp⟩:=this l h
 exact ⟨p,by rw [hp]⟩
end GoAbs
namespace GoAbs
open Go Go.Proofs
def Z8b:List IOp := [oI 2 (.mv (.c .nils)) 0]
def Z9l:List IOp := [oI 5 (.bsl none 0 [.str ⟨#[]⟩] []) 0,mI 3 5 1]
def Z95:List IOp := [oI 4 (.mv (cI 0)) 0]
def Zlt:List IOp := [mI 6 4 0,mI 7 0 0,oI 8 (.len (.t 7)) 0,oI 9 (.bin .lss (.t 6) (.t 8)) 0,mI 10 9 0,gI 11 (.mv (.t 4)) 0 10 true,gI 12 (.bin .lss (.t 11) (cI 42)) 0 10 true,oI 13 (.pick (.t 10) (.t 12) (.c (.bool false))) 0]
def Z9t:List IOp := [mI 16 3 0,mI 17 0 0,mI 18 4 0,xI 19 1 17 18 0,lI 20 19 0,oI 21 (.call 61 [.t 20]) 0,oI 22 (.bsl none 1 [.str ⟨#[]⟩] [(0,.t 21)]) 0,oI 23 (.app none 16 (.t 16) (.t 22)) 1,mI 3 23 2]
def Z70:List IOp := [mI 14 4 0,oI 15 (.bin .add (.t 14) (cI 1)) 0,mI 4 15 0]
def Zv8:CC := .seq (.seq (.rg false Zlt) (.cond (.t 13) .skip (.exit 0))) (.seq (.block 1 (.rg false Z9t)) (.rg false Z70))
def Z9e:List IOp := [mI 24 3 0,mI 2 24 0]
def Ynu:CC := .seq (.rg false Z8b) (.seq (.rg false Z9l) (.seq (.seq (.rg false Z95) (.block 0 (.loop Zv8))) (.seq (.rg false Z9e) .ret)))
abbrev Yvo:Nat:=46
theorem Yqw:fnOk Tryz.prog 46=some (25,Ynu,[.tmp 2]):=by kernel_rfl
def Yf7:List IOp := [oI 2 (.mv (.c .nils)) 0]
def Yg6:List IOp := [oI 5 (.bsl (some 4) 0 [.bool false,.nils,.bool false,.nils] []) 0,mI 3 5 1]
def Ygk:List IOp := [oI 4 (.mv (cI 0)) 0]
def Z6v:List IOp := [mI 6 4 0,mI 7 0 0,oI 8 (.len (.t 7)) 0,oI 9 (.bin .lss (.t 6) (.t 8)) 0]
def Yg8:List IOp := [mI 12 3 0,mI 13 0 0,mI 14 4 0,xI 15 1 13 14 0,lI 16 15 0,oI 17 (.call 29 [.t 16]) 0,oI 18 (.bsl (some 4) 1 [.bool false,.nils,.bool false,.nils] [(0,.t 17)]) 0,oI 19 (.app (some 4) 64 (.t 12) (.t 18)) 1,mI 3 19 2]
def Yha:List IOp := [mI 10 4 0,oI 11 (.bin .add (.t 10) (cI 1)) 0,mI 4 11 0]
def Z7g:CC := .seq (.seq (.rg false Z6v) (.cond (.t 9) .skip (.exit 0))) (.seq (.block 1 (.rg false Yg8)) (.rg false Yha))
def Yhd:List IOp := [mI 20 3 0,mI 2 20 0]
def Y03:CC := .seq (.rg false Yf7) (.seq (.rg false Yg6) (.seq (.seq (.rg false Ygk) (.block 0 (.loop Z7g))) (.seq (.rg false Yhd) .ret)))
abbrev Y4l:Nat:=49
theorem Yyh:fnOk Tryz.prog 49=some (21,Y03,[.tmp 2]):=by kernel_rfl
def Zbi:List IOp := [oI 2 (.box (.t 0)) 0,oI 4 (.mv (.c (.bool false))) 1]
def Zbo:List IOp := [lJ 13 2 2 0,oI 14 (.call 15 [.t 13]) 0,mI 15 1 0,oI 16 (.call 46 [.t 15]) 0,oI 5 (.alloc [.int .i64 0,.nils]) 0,⟨none,.st 2 (.t 5) (.t 14),1,[],[],none⟩,mI 6 16 1]
def Zbh:List IOp := [fI 18 0 5 0,lI 19 18 0,fI 20 1 5 0,lI 21 20 0,mI 22 6 0,oI 23 (.call 47 [.t 19,.t 21,.t 22]) 0,mI 17 23 0,eI 24 0 17 0,eI 25 1 17 0,mI 7 24 0,mI 8 25 0]
def Zbk:List IOp := [fI 26 0 5 0,lI 27 26 0,fI 28 1 5 0,lI 29 28 0,mI 30 6 0,oI 31 (.call 17 [.t 27,.t 29,.t 30]) 0,mI 9 31 0]
def Zbj:List IOp := [mI 32 9 0,oI 33 (.bin .eql (.t 32) (cI 0)) 0,mI 34 33 0,gI 35 (.mv (.t 6)) 0 34 true,gI 36 (.len (.t 35)) 0 34 true,gI 37 (.fa 0 (.t 5)) 0 34 true,gI 38 (.ld none (.t 37)) 0 34 true,gI 39 (.bin .neq (.t 36) (.t 38)) 0 34 true,oI 40 (.pick (.t 34) (.t 39) (.c (.bool false))) 0]
def Zj2:List IOp := [oI 9 (.mv (cI 1)) 0]
def Zbm:List IOp := [mI 41 9 0,oI 42 (.bin .eql (.t 41) (cI 0)) 0]
def Ze4:List IOp := [oI 43 (.call 33 [cI 0]) 0,oI 10 (.alloc [.bool false,.nils,.bool false,.nils]) 0,⟨none,.st 4 (.t 10) (.t 43),1,[],[],none⟩]
def Ze3:List IOp := [oI 11 (.mv (cI 0)) 0]
def Zdq:List IOp := [mI 44 11 0,mI 45 6 0,oI 46 (.len (.t 45)) 0,oI 47 (.bin .lss (.t 44) (.t 46)) 0]
def Zdk:List IOp := [lJ 50 4 10 0,mI 51 6 0,mI 52 11 0,xI 53 1 51 52 0,lI 54 53 0,oI 55 (.call 29 [.t 54]) 0,oI 56 (.callw 27 [.t 50,.t 55]) 0,oI 57 (.callw 36 [.t 56]) 0,⟨none,.st 4 (.t 10) (.t 57),0,[],[],none⟩]
@[go_sem ↓] theorem Zsd : autoK Zdk = (0, 1) := by kernel_rfl
@[go_sem] theorem Yis : autoK [lJ 50 4 10 0, mI 51 6 0, mI 52 11 0, xI 53 1 51 52 0, lI 54 53 0, oI 55 (.call 29 [.t 54]) 0, oI 56 (.callw 27 [.t 50, .t 55]) 0, oI 57 (.callw 36 [.t 56]) 0, ⟨none, .st 4 (.t 10) (.t 57), 0, [], [], none⟩] = (0, 1) := Zsd
def Ziy:List IOp := [mI 48 11 0,oI 49 (.bin .add (.t 48) (cI 1)) 0,mI 11 49 0]
def Zep:CC := .seq (.seq (.rg false Zdq) (.cond (.t 47) .skip (.exit 0))) (.seq (.block 1 (.rg true Zdk)) (.rg false Ziy))
def Zb1:List IOp := [fI 58 0 5 0,lI 59 58 0,fI 60 1 5 0,lI 61 60 0,oI 62 (.call 42 [.t 59,.t 61]) 0,oI 63 (.un .not (.t 62)) 0,mI 64 63 0,gI 65 (.ld (some 4) (.t 10)) 0 64 false,gI 66 (.call 35 [.t 65]) 0 64 false,gI 67 (.un .not (.t 66)) 0 64 false,oI 68 (.pick (.t 64) (.c (.bool true)) (.t 67)) 0]
def Zdv:List IOp := [oI 9 (.mv (cI 5)) 0]
def Za3:List IOp := [mI 69 9 0,oI 70 (.bin .neq (.t 69) (cI 0)) 0]
def Za9:List IOp := [mI 71 7 0,oI 72 (.len (.t 71)) 0,oI 73 (.bin .eql (.t 72) (cI 0)) 0,mI 74 73 0,gI 75 (.mv (.t 8)) 0 74 true,gI 76 (.mv (.t 9)) 0 74 true,gI 77 (.bin .eql (.t 75) (.t 76)) 0 74 true,oI 78 (.pick (.t 74) (.t 77) (.c (.bool false))) 0,mI 79 78 0,gI 80 (.call 18 []) 0 79 true,oI 81 (.pick (.t 79) (.t 80) (.c (.bool false))) 0,mI 4 81 0]
def Ziz:List IOp := [lJ 82 2 5 0,oI 83 (.call 19 [.t 82]) 0,oI 84 (.un .not (.t 83)) 0]
def Zix:List IOp := [oI 85 (.call 18 []) 0,mI 4 85 0]
def Zir:List IOp := [oI 12 (.mv (cI 0)) 0]
def Zb0:List IOp := [mI 86 12 0,mI 87 6 0,oI 88 (.len (.t 87)) 0,oI 89 (.bin .lss (.t 86) (.t 88)) 0]
def Zdo:List IOp := [mI 92 6 0,mI 93 12 0,xI 94 1 92 93 0,lI 95 94 0,oI 96 (.slen (.t 95)) 0,oI 97 (.bin .gtr (.t 96) (cI 6)) 0]
def Zi2:List IOp := [oI 98 (.call 18 []) 0,mI 4 98 0]
def Zis:List IOp := [mI 90 12 0,oI 91 (.bin .add (.t 90) (cI 1)) 0,mI 12 91 0]
def Zes:CC := .seq (.seq (.rg false Zb0) (.cond (.t 89) .skip (.exit 2))) (.seq (.block 3 (.seq (.rg false Zdo) (.cond (.t 97) (.seq (.rg false Zi2) .ret) .skip))) (.rg false Zis))
def Zdt:List IOp := [mI 99 7 0,fI 100 0 5 0,lI 101 100 0,fI 102 1 5 0,lI 103 102 0,mI 104 6 0,oI 105 (.call 49 [.t 104]) 0,oI 106 (.call 48 [.t 101,.t 103,.t 105]) 0,oI 107 (.callw 44 [.t 99,.t 106]) 0,mI 108 107 0,gI 109 (.mv (.t 8)) 0 108 true,gI 110 (.bin .eql (.t 109) (cI 0)) 0 108 true,oI 111 (.pick (.t 108) (.t 110) (.c (.bool false))) 0,mI 112 111 0,gI 113 (.callw 18 []) 0 112 true,oI 114 (.pick (.t 112) (.t 113) (.c (.bool false))) 0,mI 4 114 0]
@[go_sem ↓] theorem Zsa : autoK Zdt = (0, 0) := by kernel_rfl
@[go_sem] theorem Yiy : autoK [mI 99 7 0, fI 100 0 5 0, lI 101 100 0, fI 102 1 5 0, lI 103 102 0, mI 104 6 0, oI 105 (.call 49 [.t 104]) 0, oI 106 (.call 48 [.t 101, .t 103, .t 105]) 0, oI 107 (.callw 44 [.t 99, .t 106]) 0, mI 108 107 0, gI 109 (.mv (.t 8)) 0 108 true, gI 110 (.bin .eql (.t 109) (cI 0)) 0 108 true, oI 111 (.pick (.t 108) (.t 110) (.c (.bool false))) 0, mI 112 111 0, gI 113 (.callw 18 []) 0 112 true, oI 114 (.pick (.t 112) (.t 113) (.c (.bool false))) 0, mI 4 114 0] = (0, 0) := Zsa
def Zce:CC := .seq (.rg false Zbi) (.seq (.rg false Zbo) (.seq (.rg false Zbh) (.seq (.rg false Zbk) (.seq (.seq (.rg false Zbj) (.cond (.t 40) (.rg false Zj2) .skip)) (.seq (.seq (.rg false Zbm) (.cond (.t 42) (.seq (.rg false Ze4) (.seq (.seq (.rg false Ze3) (.block 0 (.loop Zep))) (.seq (.rg false Zb1) (.cond (.t 68) (.rg false Zdv) .skip)))) .skip)) (.seq (.seq (.rg false Za3) (.cond (.t 70) (.seq (.rg false Za9) .ret) .skip)) (.seq (.seq (.rg false Ziz) (.cond (.t 84) (.seq (.rg false Zix) .ret) .skip)) (.seq (.seq (.rg false Zir) (.block 2 (.loop Zes))) (.seq (.rg true Zdt) .ret)))))))))
abbrev Z7c:Nat:=9
theorem Zcs:fnOk Tryz.prog 9=some (115,Zce,[.tmp 4]):=by kernel_rfl
end GoAbs
namespace GoAbs
open Go Go.Proofs
set_option exponentiation.threshold 20000
end GoAbs
namespace GoAbs
open Go Go.Proofs
set_option exponentiation.threshold 20000
theorem Qb.ib {k:Nat}{q:Rat}(h:Qb k q):Ib k q.num∧Ib k (q.den:Int):=⟨h.n,by show (q.den:Int).natAbs<_; rw [Int.natAbs_natCast]; exact h.d⟩
end GoAbs
namespace GoAbs
open Go Go.Proofs
set_option exponentiation.threshold 20000
theorem Ylf {R S:List Nat}{f:Nat→Nat→Rat}:sumL R (fun i=>sumL S (fun j=>f i j))=sumL S (fun j=>sumL R (fun i=>f i j)):=by
 induction R with
 | nil=>rw [Zqu]; exact (Zgg (fun i _=>Zqu)).symm
 | cons r R ih=>rw [Zam,ih, ← Zcc]; exact Zai (fun j _=>by rw [Zam])
theorem Y63 {n a b:Nat}{E:List Sp}(ho:NetOk n E) (hc:connE n E) (ha:a<n) (hb:b<n) (hab:a≠b) :
  ∃ x:Nat→Rat,(∀ i,i∈List.range' 1 (n - 1)→sumL (List.range' 1 (n - 1)) (fun j=>x j*Lm id E i j)=edge a b i)∧sumL (List.range' 1 (n - 1)) (fun i=>edge a b i*x i)=oneF n a b E / Fsum n id (n - 1) E∧0<oneF n a b E∧0<Fsum n id (n - 1) E:=by
 obtain ⟨hp,hP,hI⟩:=Yd6 ho
 obtain ⟨m,rfl⟩:∃ m,n=m+1:=⟨n - 1,by omega⟩
 have hm:1≤m:=by have:=ho.n2; omega
 have hD:=Ya3 (n:=m+1) (by omega) hp hI hc
 have hG:=Xaw hp hI hc ha hb hab
 rw [Nat.add_sub_cancel] at hD ⊢
 have hdt:=Z6o hP hI
 have hd0:dt (List.range' 1 m) (Lm id E)≠0:=by rw [hdt]; grind
 have hs:=(Z4a (m:=m) (E:=E) (r:=(unitF (m+1) a b).drop 1) (fun e he=>⟨by have:=(hI e he).1; omega,by have:=(hI e he).2; omega,(ho.e e he).2.2.1,hP e he⟩) (by rw [List.length_drop,Z5w]; omega) hd0).2.2.2
 have hs':∀ i,i∈List.range' 1 m→sumL (List.range' 1 m) (fun j=>solX (triA m E ((unitF (m+1) a b).drop 1)) m j*Lm id E i j)=edge a b i:=fun i hi=>by
  have hi':=List.mem_range'_1.1 hi
  rw [hs i hi,Zt3,show i - 1+1=i by omega,Yt5 ha hb hab]
 have hg:=Yjn (R:=List.range' 1 m) (A:=Lm id E) (v:=edge a b) (Zwp (R := []) hP).sym hd0 hs'
 rw [Yzp hP hI hm (by omega) (by omega),hdt] at hg
 refine ⟨_,hs',?_,hG,hD⟩
 rw [← hg]
 grind
end GoAbs
namespace GoAbs
set_option exponentiation.threshold 20000
abbrev Rn (n:Nat):List Nat:=List.range' 1 (n - 1)
def Sol (n:Nat) (E:List Sp) (x v:Nat→Rat):Prop:=∀ i,i∈Rn n→sumL (Rn n) (fun j=>x j*Lm id E i j)=v i
def dotN (n:Nat) (v x:Nat→Rat):Rat:=sumL (Rn n) (fun i=>v i*x i)
def Rr (n:Nat) (E:List Sp) (a b:Nat):Rat:=if a=b then 0 else oneF n a b E / Fsum n id (n - 1) E
theorem Sol.sub {n:Nat}{E:List Sp}{x y v u:Nat→Rat}(h:Sol n E x v) (k:Sol n E y u):Sol n E (fun j=>x j - y j) (fun i=>v i - u i):=fun i hi=>by
 have:sumL (Rn n) (fun j=>(x j - y j)*Lm id E i j)=sumL (Rn n) (fun j=>x j*Lm id E i j)+(-1)*sumL (Rn n) (fun j=>y j*Lm id E i j):=by
  rw [← Zbb, ← Zcc]
  exact Zai (fun j _=>by grind)
 rw [this,h i hi,k i hi]; grind
theorem Yrk {n:Nat}{v x y:Nat→Rat}:dotN n v (fun j=>x j - y j)=dotN n v x - dotN n v y:=by
 unfold dotN
 have:sumL (Rn n) (fun i=>v i*(x i - y i))=sumL (Rn n) (fun i=>v i*x i)+(-1)*sumL (Rn n) (fun i=>v i*y i):=by
  rw [← Zbb, ← Zcc]
  exact Zai (fun j _=>by grind)
 rw [this]; grind
theorem Y2x {n:Nat}{v u x:Nat→Rat}:dotN n (fun j=>v j - u j) x=dotN n v x - dotN n u x:=by
 unfold dotN
 have:sumL (Rn n) (fun i=>(v i - u i)*x i)=sumL (Rn n) (fun i=>v i*x i)+(-1)*sumL (Rn n) (fun i=>u i*x i):=by
  rw [← Zbb, ← Zcc]
  exact Zai (fun j _=>by grind)
 rw [this]; grind
theorem Yhg {n:Nat}{v u x y:Nat→Rat}(h:∀ i,i∈Rn n→v i=u i) (k:∀ i,i∈Rn n→x i=y i):dotN n v x=dotN n u y:=Zai (fun i hi=>by rw [h i hi,k i hi])
theorem recip {n:Nat}{E:List Sp}{x y v u:Nat→Rat}(hP:Pos E) (h:Sol n E x v) (k:Sol n E y u):dotN n u x=dotN n v y:=by
 have hsym:=(Zwp (R := []) (p:=id) hP).sym
 have a1:dotN n u x=sumL (Rn n) (fun i=>sumL (Rn n) (fun j=>x i*(y j*Lm id E i j))):=Zai (fun i hi=>by rw [Zbb,k i hi]; grind)
 have a2:dotN n v y=sumL (Rn n) (fun i=>sumL (Rn n) (fun j=>y i*(x j*Lm id E i j))):=Zai (fun i hi=>by rw [Zbb,h i hi]; grind)
 rw [a1,a2,Ylf]
 exact Zai (fun i _=>Zai (fun j _=>by rw [hsym j i]; grind))
structure NetC (n:Nat) (E:List Sp):Prop where
 ok:NetOk n E
 con:connE n E
theorem NetC.dt {n:Nat}{E:List Sp}(h:NetC n E):dt (Rn n) (Lm id E)≠0∧0<Fsum n id (n - 1) E:=by
 obtain ⟨hp,hP,hI⟩:=Yd6 h.ok
 obtain ⟨m,rfl⟩:∃ m,n=m+1:=⟨n - 1,by have:=h.ok.n2; omega⟩
 have hD:=Ya3 (n:=m+1) (by omega) hp hI h.con
 refine ⟨?_,hD⟩
 have:=Z6o hP hI
 rw [Nat.add_sub_cancel] at hD
 show GoAbs.dt (List.range' 1 (m+1 - 1)) _≠0
 rw [Nat.add_sub_cancel,this]; grind
theorem NetC.uniq {n:Nat}{E:List Sp}(h:NetC n E) {x y v:Nat→Rat}(hx:Sol n E x v) (hy:Sol n E y v):∀ i,i∈Rn n→x i=y i :=
 Y5e (Zwp (R := []) (p:=id) (Yd6 h.ok).2.1).sym h.dt.1 hx hy
theorem NetC.unit {n:Nat}{E:List Sp}(h:NetC n E) {a b:Nat}(ha:a<n) (hb:b<n):∃ x,Sol n E x (edge a b)∧dotN n (edge a b) x=Rr n E a b:=by
 by_cases hab:a=b
 ·subst hab
  refine ⟨fun _=>0,fun i hi=>?_,?_⟩
  ·rw [Yep]; exact Zgg (fun j _=>by grind)
  ·unfold Rr dotN; rw [if_pos rfl]; exact Zgg (fun j _=>by grind)
 ·obtain ⟨x,x1,x2,_⟩:=Y63 h.ok h.con ha hb hab
  exact ⟨x,x1,by unfold Rr; rw [if_neg hab]; exact x2⟩
theorem Y8y {a b:Nat}:edge a b=fun i=>edge a 0 i - edge b 0 i:=by funext i; unfold edge; grind
theorem NetC.transfer {n:Nat}{E:List Sp}(h:NetC n E) {a b p q:Nat}(ha:a<n) (hb:b<n) (hp:p<n) (hq:q<n) {x:Nat→Rat}(hx:Sol n E x (edge a b)) :
  dotN n (edge p q) x=(Rr n E p b+Rr n E q a - Rr n E p a - Rr n E q b) / 2:=by
 obtain ⟨z,hz⟩:∃ z:Nat→Nat→Rat,∀ c,c<n→Sol n E (z c) (edge c 0) :=
  ⟨fun c=>if hc:c<n then Classical.choose (h.unit hc (show 0<n by omega)) else fun _=>0,fun c hc=>by
   show Sol n E (if hc:c<n then _ else _) _
   rw [dif_pos hc]
   exact (Classical.choose_spec (h.unit hc (show 0<n by omega))).1⟩
 have hP:=(Yd6 h.ok).2.1
 have hsol:∀ c d,c<n→d<n→Sol n E (fun j=>z c j - z d j) (edge c d):=fun c d hc hd=>by
  rw [Y8y]; exact (hz c hc).sub (hz d hd)
 obtain ⟨g,hg⟩:∃ g:Nat→Nat→Rat,∀ c d,g c d=dotN n (edge c 0) (z d):=⟨_,fun _ _=>rfl⟩
 have hgs:∀ c d,c<n→d<n→g c d=g d c:=fun c d hc hd=>by rw [hg,hg]; exact recip hP (hz d hd) (hz c hc)
 have hexp:∀ c d e f,dotN n (edge c d) (fun j=>z e j - z f j)=g c e - g c f - g d e+g d f:=fun c d e f=>by
  rw [Y8y (a:=c) (b:=d),Y2x,Yrk,Yrk,hg,hg,hg,hg]; grind
 have hR:∀ c d,c<n→d<n→Rr n E c d=g c c+g d d - 2*g c d:=fun c d hc hd=>by
  obtain ⟨y,y1,y2⟩:=h.unit hc hd
  rw [← y2,Yhg (fun _ _=>rfl) (h.uniq y1 (hsol c d hc hd)),hexp,hgs d c hd hc]; grind
 rw [Yhg (fun _ _=>rfl) (h.uniq hx (hsol a b ha hb)),hexp,hR p b hp hb,hR q a hq ha,hR p a hp ha,hR q b hq hb]
 grind
end GoAbs
namespace GoAbs
def jorCol (M:RM) (c I:Nat):RM:=(List.range M.length).map fun i=>if i≠c∧i<I then elimRow (M.getD c []) c (M.getD i []) else M.getD i []
theorem Zdb {M:RM}{c I:Nat}:(jorCol M c I).length=M.length:=by simp [jorCol]
theorem Zjm {M:RM}{c I i:Nat}(h:i<M.length):(jorCol M c I)[i]? = some (if i≠c∧i<I then elimRow (M.getD c []) c (M.getD i []) else M.getD i []):=by simp [jorCol,h]
theorem Ybl {M:RM}{c I i:Nat}(h:i<M.length):(jorCol M c I).getD i []=if i≠c∧i<I then elimRow (M.getD c []) c (M.getD i []) else M.getD i []:=by
 rw [List.getD_eq_getElem?_getD,Zjm h]; rfl
theorem Yp5 {M:RM}{c:Nat}:jorCol M c 0=M:=by
 apply List.ext_getElem?
 intro i
 by_cases hi:i<M.length
 ·rw [Zjm hi,if_neg (by omega),getD_some hi]
 ·rw [List.getElem?_eq_none (by rw [Zdb]; omega),List.getElem?_eq_none (by omega)]
theorem Ypt {M:RM}{c I:Nat}(hI:I<M.length) (hc:I≠c):(jorCol M c I).set I (elimRow (M.getD c []) c (M.getD I []))=jorCol M c (I+1):=by
 apply List.ext_getElem?
 intro i
 by_cases hi:i<M.length
 ·rw [Zjm hi]
  by_cases h1:i=I
  ·subst h1
   rw [List.getElem?_set_self (by rw [Zdb]; exact hi),if_pos ⟨hc,by omega⟩]
  ·rw [List.getElem?_set_ne (by omega),Zjm hi]
   by_cases h2:i≠c∧i<I
   ·rw [if_pos h2,if_pos ⟨h2.1,by omega⟩]
   ·rw [if_neg h2,if_neg (by omega)]
 ·rw [List.getElem?_eq_none (by rw [List.length_set,Zdb]; omega),List.getElem?_eq_none (by rw [Zdb]; omega)]
theorem Yqc {M:RM}{c:Nat}:jorCol M c (c+1)=jorCol M c c:=by
 unfold jorCol
 refine List.map_congr_left fun i _=>?_
 by_cases h:i≠c∧i<c
 ·rw [if_pos h,if_pos ⟨h.1,by omega⟩]
 ·rw [if_neg h,if_neg (by omega)]
theorem Wid.jor {w:Nat}{M:RM}(h:Wid w M) {c I:Nat}:Wid w (jorCol M c I):=fun r hr=>by
 unfold jorCol at hr
 obtain ⟨i,hi,rfl⟩:=List.mem_map.1 hr
 have hi':=List.mem_range.1 hi
 split
 ·rw [Yef]; exact h.get hi'
 ·exact h.get hi'
def jorN:Nat→Nat→RM→RM
 | 0,_,M=>M
 | k+1,c,M=>jorN k (c+1) (jorCol M c M.length)
theorem Z2u {M:RM}{w c i j:Nat}(hW:Wid w M) (hi:i<M.length) (hj:j<w) (hci:i≠c) (hp:mget M c c≠0) :
  mget (jorCol M c M.length) i j=if c≤j then mget M i j - mget M i c*mget M c j / mget M c c else mget M i j:=by
 unfold mget
 rw [Ybl hi,if_pos ⟨hci,hi⟩]
 unfold elimRow
 have hl:=hW.get hi
 split
 ·rename_i h0
  rw [h0]
  split
  ·grind
  ·rfl
 ·show (elimTo _ _ _ _ _).getD j 0=_
  rw [List.getD_eq_getElem?_getD,Zg0 (by rw [hl]; exact hj)]
  simp only [Option.getD_some]
  by_cases h:c≤j
  ·rw [if_pos ⟨h,by rw [hl]; exact hj⟩,if_pos h]
   unfold mget at hp
   grind
  ·rw [if_neg (fun k=>h k.1),if_neg h]
theorem Zxe {M:RM}{c j:Nat}(hc:c<M.length):mget (jorCol M c M.length) c j=mget M c j:=by
 unfold mget
 rw [Ybl hc,if_neg (by omega)]
def Piv:Nat→Nat→RM→Prop
 | 0,_,_=>True
 | k+1,c,M=>mget M c c≠0∧Piv k (c+1) (jorCol M c M.length)
theorem Ysz {m:Nat}{x:Nat→Rat}:∀ {k c:Nat}{M:RM}{A:Mat},c+k=m→M.length=m→Wid (m+1) M→Psd (List.range' (c+1) k) A→dt (List.range' (c+1) k) A≠0 →
  (∀ i j,c≤i→i<m→c≤j→j<m→mget M i j=A (i+1) (j+1))→(∀ i j,i<m→j<c→i≠j→mget M i j=0)→(∀ j,j<c→mget M j j≠0) →
  (∀ i,i<m→sumL (List.range' 1 m) (fun j=>x j*mget M i (j - 1))=mget M i m) →
  Piv k c M∧Wid (m+1) (jorN k c M)∧∀ i,i<m→mget (jorN k c M) i i≠0∧mget (jorN k c M) i m / mget (jorN k c M) i i=x (i+1)
 | 0,c,M,A,hk,hM,hW,_,_,_,hz,hd,hx=>⟨trivial,hW,fun i hi=>by
  have hc:c=m:=by omega
  subst hc
  have h:=hx i hi
  have hs:sumL (List.range' 1 c) (fun j=>x j*mget M i (j - 1))=sumL (List.range' 1 c) (fun j=>(if j=i+1 then 1 else 0)*(x j*mget M i (j - 1))):=Zai (fun j hj=>by
   have hj':=List.mem_range'_1.1 hj
   by_cases h:j=i+1
   ·rw [if_pos h]; grind
   ·rw [if_neg h,hz i (j - 1) hi (by omega) (by omega)]; grind)
  rw [hs,Z6i List.nodup_range',if_pos (by rw [List.mem_range'_1]; omega),Nat.add_sub_cancel] at h
  have h0:=hd i hi
  refine ⟨h0,?_⟩
  show mget M i c / mget M i i=_
  rw [← h]
  grind⟩
 | k+1,c,M,A,hk,hM,hW,hA,hd,hg,hz,hp,hx=>by
  have hr:c+1 ∉ List.range' (c+1+1) k:=by rw [List.mem_range'_1]; omega
  rw [List.range'_succ] at hA hd
  obtain ⟨d1,d2⟩:=Yjk hd
  have hpv:=hg c c (by omega) (by omega) (by omega) (by omega)
  have h0:mget M c c≠0:=by rw [hpv]; exact d1
  have hcM:c<M.length:=by omega
  have hdec:∀ i,i=c∨i≠c:=fun i=>by omega
  have ih:=Ysz (x:=x) (k:=k) (c:=c+1) (M:=jorCol M c M.length) (A:=schur (c+1) A) (by omega) (by rw [Zdb,hM]) hW.jor (hA.schur hr) d2
   (fun i j hi hil hj hjl=>by
    rw [Z2u hW (by omega) (by omega) (by omega) h0,if_pos (by omega),hg i j (by omega) hil (by omega) hjl,hg i c (by omega) hil (by omega) (by omega),hg c j (by omega) (by omega) (by omega) hjl,hpv]
    rfl)
   (fun i j hi hj hij=>by
    rcases hdec i with rfl | hic
    ·rw [Zxe hcM]; exact hz i j hi (by omega) hij
    ·rw [Z2u hW (by omega) (by omega) hic h0]
     by_cases hjc:j=c
     ·subst hjc
      rw [if_pos (Nat.le_refl _)]; grind
     ·rw [if_neg (by omega)]; exact hz i j hi (by omega) hij)
   (fun j hj=>by
    rcases hdec j with rfl | hjc
    ·rw [Zxe hcM]; exact h0
    ·rw [Z2u hW (by omega) (by omega) hjc h0,if_neg (by omega)]; exact hp j (by omega))
   (fun i hi=>by
    rcases hdec i with rfl | hic
    ·rw [Zxe hcM, ← hx i hi]
     exact Zai (fun j hj=>by rw [Zxe hcM])
    ·rw [Z2u hW (by omega) (by omega) hic h0,if_pos (by omega), ← hx i hi, ← hx c (by omega)]
     have e:sumL (List.range' 1 m) (fun j=>x j*mget (jorCol M c M.length) i (j - 1))=sumL (List.range' 1 m) (fun j=>x j*mget M i (j - 1))+(-(mget M i c / mget M c c))*sumL (List.range' 1 m) (fun j=>x j*mget M c (j - 1)):=by
      rw [← Zbb, ← Zcc]
      refine Zai (fun j hj=>?_)
      have hj':=List.mem_range'_1.1 hj
      rw [Z2u hW (by omega) (by omega) hic h0]
      by_cases h:c≤j - 1
      ·rw [if_pos h]; grind
      ·rw [if_neg h,hz c (j - 1) (by omega) (by omega) (by omega)]; grind
     rw [e]
     grind)
  exact ⟨⟨h0,ih.1⟩,ih.2⟩
end GoAbs
namespace GoAbs
open Go Go.Proofs
def rq (q:Rat):List AV:=rc q.num q.den
theorem Zdi {q:Rat}:(rq q).length=4:=rfl
theorem Zb2 {q:Rat}:(rq q).take 4=rq q:=rfl
theorem Zdu {q:Rat}:(rq q).drop 4 = []:=rfl
def qr (r:List Rat):List AV:=r.flatMap rq
theorem Zr3 (r:List Rat):(qr r).length=r.length*4:=by
 induction r with
 | nil=>rfl
 | cons q r ih=>show (rq q++qr r).length=_; rw [List.length_append,ih,List.length_cons,Zdi]; omega
theorem Znb {r s:List Rat}:qr (r++s)=qr r++qr s:=by simp [qr]
theorem Ytd {r:List Rat}{j:Nat}{q:Rat}(h:r[j]? = some q):qr r=qr (r.take j)++(rq q++qr (r.drop (j+1))):=by
 obtain ⟨hj,he⟩:=List.getElem?_eq_some_iff.1 h
 have:r=r.take j++(q::r.drop (j+1)):=by
  rw [← he]; simp
 conv=>lhs; rw [this,Znb]
 rfl
theorem Y78 {r:List Rat}{j:Nat}(h:j≤r.length):(qr (r.take j)).length=j*4:=by rw [Zr3,List.length_take,Nat.min_eq_left h]
theorem Yqo {r:List Rat}{j:Nat}{q:Rat}(h:r[j]? = some q):(qr r).drop (j*4)=rq q++qr (r.drop (j+1)):=by
 have hj:=(List.getElem?_eq_some_iff.1 h).1
 rw [Ytd h, ← Y78 (r:=r) (j:=j) (by omega),List.drop_left]
theorem Zfi {r:List Rat}{j:Nat}{q:Rat}(h:r[j]? = some q):((qr r).drop (j*4)).take 4=rq q:=by
 rw [Yqo h]; exact List.take_left' rfl
theorem Zjs {r:List Rat}{j:Nat}{q:Rat}(h:r[j]? = some q):4≤((qr r).drop (j*4)).length:=by
 rw [Yqo h,List.length_append,Zdi]; omega
theorem Ylw {r:List Rat}{j:Nat}{x:Rat}(h:j<r.length):(qr r).take (j*4)++rq x++(qr r).drop (j*4+4)=qr (r.set j x):=by
 have hg:=List.getElem?_eq_getElem h
 have h1:(qr r).take (j*4)=qr (r.take j):=by rw [Ytd hg, ← Y78 (r:=r) (j:=j) (by omega),List.take_left]
 have h2:(qr r).drop (j*4+4)=qr (r.drop (j+1)):=by
  rw [← List.drop_drop,Yqo hg]; exact List.drop_left' rfl
 rw [h1,h2,List.set_eq_take_append_cons_drop,if_pos h,Znb,List.append_assoc]
 rfl
theorem Yir {f:Nat→Option Nat}(r:List Rat):gcL f (qr r)=qr r:=by
 induction r with
 | nil=>rfl
 | cons q r ih =>
  show gcL f (rq q++qr r)=rq q++qr r
  rw [Zat] at ih ⊢
  rw [List.map_append,ih]
  rfl
def ptrR (w n:Nat):List AV:=(List.range n).map fun i=>AV.osl (some 4) (1+i) 0 w
def rowsR (M:RM):Heap:=M.map fun r => .cells (qr r)
def matR (w:Nat) (M:RM):Heap := .cells (ptrR w M.length)::rowsR M
theorem Zlq (w n:Nat):(ptrR w n).length=n:=by simp [ptrR]
theorem Zq1 {w n i:Nat}(h:i<n):(ptrR w n)[i]? = some (.osl (some 4) (1+i) 0 w):=by simp [ptrR,h]
theorem Zax {w:Nat}{M:RM}:(matR w M).length=1+M.length:=by simp [matR,rowsR]; omega
section
variable {w:Nat} {M:RM} {post:Heap}
theorem Zi6 {i:Nat}{r:List Rat}(h:M[i]? = some r):(matR w M++post)[1+i]? = some (.cells (qr r)):=by
 have hi:=(List.getElem?_eq_some_iff.1 h).1
 rw [List.getElem?_append_left (by rw [Zax]; omega)]
 show (_::rowsR M)[1+i]? = _
 rw [Nat.add_comm,List.getElem?_cons_succ]
 unfold rowsR
 rw [List.getElem?_map,h]; rfl
theorem Zxa:(matR w M++post)[0]? = some (.cells (ptrR w M.length)):=rfl
theorem Zfm {n t:Nat}(hn:M.length=n):(matR w M++post)[1+n+t]? = post[t]?:=by
 rw [List.getElem?_append_right (by rw [Zax]; omega),Zax]
 congr 1; omega
theorem Y38 {i:Nat}{r:List Rat}(h:i<M.length):(matR w M++post).set (1+i) (.cells (qr r))=matR w (M.set i r)++post:=by
 rw [List.set_append_left _ _ (by rw [Zax]; omega)]
 congr 1
 show (_::rowsR M).set (1+i) _=_::rowsR (M.set i r)
 rw [Nat.add_comm,List.set_cons_succ,List.length_set]
 unfold rowsR
 rw [List.map_set]
theorem Zhw:(matR w M++post).length=1+M.length+post.length:=by rw [List.length_append,Zax]
end
theorem Xgv {a f b:Rat}{k:Nat}(ha:Qb k a) (hf:Qb (2*k) f) (hb:Qb k b) (hk1:1≤k) (hk:k≤200000) :
  SpecV Tryz.prog Ygy [.agg (rq f),.agg (rq b)] (avR (f.num*b.num) ((f.den:Int)*b.den)) ∧
  SpecV Tryz.prog Z7h [.agg (rq a),avR (f.num*b.num) ((f.den:Int)*b.den)] (avR (a.num*((f.den:Int)*b.den) - f.num*b.num*a.den) ((a.den:Int)*((f.den:Int)*b.den))) ∧
  SpecV Tryz.prog Zhr [avR (a.num*((f.den:Int)*b.den) - f.num*b.num*a.den) ((a.den:Int)*((f.den:Int)*b.den))] (.agg (rq (a - f*b))):=by
 have da:=a.den_pos
 have df:=f.den_pos
 have db:=b.den_pos
 have i1:Ib (3*k) (f.num*b.num):=(hf.ib.1.mul hb.ib.1).mono (by omega)
 have i2:Ib (3*k) ((f.den:Int)*b.den):=(hf.ib.2.mul hb.ib.2).mono (by omega)
 have h1:=rmulq (k:=2*k) hf.ib.1 hf.ib.2 (hb.ib.1.mono (by omega)) (hb.ib.2.mono (by omega)) (by omega)
 have h2:=rsubq (k:=3*k) (ha.ib.1.mono (by omega)) (ha.ib.2.mono (by omega)) i1 i2 (by omega)
 have hd:(0:Int)<(f.den:Int)*b.den:=Int.mul_pos (by omega) (by omega)
 have e:Rat.divInt (a.num*((f.den:Int)*b.den) - f.num*b.num*a.den) ((a.den:Int)*((f.den:Int)*b.den))=a - f*b:=by
  have h:=Y97 (q:=a) (w := -(f*b)) (wn := -(f.num*b.num)) (wd:=(f.den:Int)*b.den) (by omega) (by rw [← Rat.neg_divInt, ← Rat.divInt_mul_divInt,Rat.num_divInt_den,Rat.num_divInt_den])
  rw [Int.neg_mul, ← Int.sub_eq_add_neg] at h
  rw [h]; grind
 have i3:Ib (4*k) (-(f.num*b.num*a.den)):=by have:=i1.mul ha.ib.2; show Int.natAbs _<_; rw [Int.natAbs_neg]; exact (this.mono (by omega):Ib (4*k) _)
 have h3:=rlow (k:=4*k+1) (n:=a.num*((f.den:Int)*b.den) - f.num*b.num*a.den) (d:=(a.den:Int)*((f.den:Int)*b.den)) (by
  rw [Int.sub_eq_add_neg]
  exact (Ib.add (k:=4*k) ((ha.ib.1.mul i2).mono (by omega)) i3).mono (by omega)) ((ha.ib.2.mul i2).mono (by omega)) (Int.mul_pos (by omega) hd) (by omega)
 rw [e] at h3
 exact ⟨h1,h2,h3⟩
theorem Xfb {w n i c:Nat}{M:RM}{post:Heap}{f:Rat}{k:Nat}{p r:List Rat}{bz:Nat}(hn:M.length=n) (hnl:n≤1000) (hw:w=n+1) (hi:i<n) (hc:c<n) (hci:c≠i)
  (hp:M[c]? = some p) (hr:M[i]? = some r) (hpw:p.length=w) (hrw:r.length=w) (hbz:bz=1+n) (hpost:post[0]? = some (.cells (rq f))) (bp:Rb k p) (br:Rb k r) (bf:Qb (2*k) f) (hk1:1≤k) (hk:k≤200000) {K:Ex→St→Prop}
  (hK:∀ e:Nat→AV,e 1 = .int .i64 (n:Int)→e 6 = .osl none 0 0 n→e 8 = .int .i64 (c:Int)→e 11 = .int .i64 (i:Int)→K (.exit 8) ⟨e,matR w (M.set i (elimTo p c f r w))++post⟩) :
  T Tryz.prog 163 0 (.loop Zor) ⟨envL [(1,.int .i64 (n:Int)),(6,.osl none 0 0 n),(8,.int .i64 (c:Int)),(11,.int .i64 (i:Int)),(12,.ptr bz 0),(13,.int .i64 (c:Int))],matR w M++post⟩ K:=by
 have hm:Tryz.prog.follows .mixedOrders=true:=by kernel_rfl
 have hMset:M.set i r=M:=by
  apply List.ext_getElem?
  intro x
  by_cases hx:i=x
  ·subst hx; rw [List.getElem?_set_self (by omega),hr]
  ·rw [List.getElem?_set_ne hx]
 refine Zae (fun J:Nat=>⟨envL [(1,.int .i64 (n:Int)),(6,.osl none 0 0 n),(8,.int .i64 (c:Int)),(11,.int .i64 (i:Int)),(12,.ptr bz 0),(13,.int .i64 (J:Int))],matR w (M.set i (elimTo p c f r J))++post⟩)
  (fun J=>c≤J∧J≤w) (fun J=>w - J) c ⟨Nat.le_refl _,by omega⟩ (Zb8 (Zab [(1,.int .i64 (n:Int)),(6,.osl none 0 0 n),(8,.int .i64 (c:Int)),(11,.int .i64 (i:Int)),(12,.ptr bz 0),(13,.int .i64 (c:Int))] (by simp only [go_sem])) (by rw [Yew (Nat.le_refl _),hMset])) (fun J hJ N hN=>?_)
 obtain ⟨h1,h2⟩:=hJ
 unfold Zor
 have hnS:(M.set i (elimTo p c f r J)).length=n:=by rw [List.length_set,hn]
 have gP:=Zxa (w:=w) (M:=M.set i (elimTo p c f r J)) (post:=post)
 rw [hnS] at gP
 have gi:=Zq1 (w:=w) hi
 have gc:=Zq1 (w:=w) hc
 have q0:(0:Int)≤(i:Int):=by omega
 have q1:(i:Int)<(n:Int):=by omega
 have q2:(0:Int)≤(c:Int):=by omega
 have q3:(c:Int)<(n:Int):=by omega
 by_cases hJw:J<w
 ·have rJ:(M.set i (elimTo p c f r J))[i]? = some (elimTo p c f r J):=List.getElem?_set_self (by omega)
  have rcc:(M.set i (elimTo p c f r J))[c]? = some p:=by rw [List.getElem?_set_ne (by omega)]; exact hp
  have gR:=Zi6 (w:=w) (post:=post) rJ
  have gC:=Zi6 (w:=w) (post:=post) rcc
  have gQ:=Zfm (w:=w) (post:=post) (t:=0) hnS
  rw [hpost,Nat.add_zero, ← hbz] at gQ
  have eJ:(elimTo p c f r J)[J]? = some (rget r J):=by rw [Zg0 (by omega),if_neg (by omega)]
  have pJ:p[J]? = some (rget p J):=Zag (by omega)
  have t1:=Zfi eJ
  have t2:=Zjs eJ
  have t3:=Zfi pJ
  have t4:=Zjs pJ
  have r0:(0:Int)≤(J:Int):=by omega
  have r1:(J:Int)<(w:Int):=by omega
  have r2:(J:Int)≤(n:Int):=by omega
  have e1:IntKind.i64.wrap ((J:Int)+1)=((J+1:Nat):Int):=by rw [Zac (by omega) (by omega)]; omega
  have hlen:(matR w (M.set i (elimTo p c f r J))++post).length=1+n+post.length:=by rw [Zhw,hnS]
  have ht:0<post.length:=(List.getElem?_eq_some_iff.1 hpost).1
  have l0:0<1+n+post.length:=by omega
  have l1:1+i<1+n+post.length:=by omega
  have l2:1+c<1+n+post.length:=by omega
  have l3:bz<1+n+post.length:=by omega
  have hfit:J*4+4≤(qr (elimTo p c f r J)).length:=by rw [Zr3,Zda]; omega
  obtain ⟨m1,m2,m3⟩:=Xgv (br.get (j:=J) (by omega)) bf (bp.get (j:=J) (by omega)) hk1 hk
  have pl:=Zlq w n
  simp only [go_sem,Zmu,Zmp,Zxt,hm,q0,q1,q2,q3,gP,gi,gc,gR,gC,gQ,List.getElem?_drop,r0,r1,r2,hlen,l0,l1,l2,l3,Zdi,Zb2,t1,t2,t3,t4,pl]
  have bq:∀ (H:Heap) (ids:List Nat) (q:Rat),BVs H ids (rq q) (rq q)=True:=fun H ids q=>Zfa
  refine Zaa m1 (by simp only [go_sem,bq]) ?_
  simp only [go_sem]
  refine Zaa m2 (by simp only [go_sem,bq,avR,Zfa]) ?_
  simp only [go_sem]
  refine Zaa m3 (by simp only [go_sem,avR,Zfa]) ?_
  simp only [go_sem,gR,hlen,l1,Zdi,Zb2,Zdu,hfit,e1,r0,r1]
  rw [Ylw (by rw [Zda]; omega),Y38 (by omega),Ym6,Ycg (by omega) h1]
  exact hN (J+1) _ ⟨by omega,by omega⟩ (by omega) (Zab _ (by simp only [go_sem]))
 ·have hJw':J=w:=by omega
  have r1:¬ (J:Int)≤(n:Int):=by omega
  simp only [go_sem,Zmu,r1]
  rw [hJw']
  exact hK _ (by simp only [go_sem]) (by simp only [go_sem]) (by simp only [go_sem]) (by simp only [go_sem])
theorem Y8c {a b:Rat}{k:Nat}(ha:Qb k a) (hb:Qb k b) (h0:b≠0) (hk:k≤1000000):∃ X,SpecV Tryz.prog Ygw [.agg (rq a),.agg (rq b)] (.agg X)∧(∀ H ids,BVs H ids X X=True)∧SpecV Tryz.prog Zhr [.agg X] (.agg (rq (a / b))):=by
 have da:=a.den_pos
 have db:=b.den_pos
 have hbn:b.num≠0:=fun h=>h0 (Rat.num_eq_zero.1 h)
 have hd:=rdivq ha.ib.1 ha.ib.2 hb.ib.1 hb.ib.2 (by omega)
 have e:=Xh6 (q:=a) (w:=b)
 have i1:=ha.ib.1.mul hb.ib.2
 have i2:=ha.ib.2.mul hb.ib.1
 by_cases h:(a.den:Int)*b.num<0
 ·rw [if_pos h] at hd
  have j1:Ib (k+k) (-(a.num*b.den)):=by show Int.natAbs _<_; rw [Int.natAbs_neg]; exact i1
  have j2:Ib (k+k) (-((a.den:Int)*b.num)):=by show Int.natAbs _<_; rw [Int.natAbs_neg]; exact i2
  have hl:=rlow j1 j2 (by omega) (by omega)
  have e':Rat.divInt (-(a.num*b.den)) (-((a.den:Int)*b.num))=a / b:=by
   rw [← e]
   exact (Rat.divInt_eq_divInt_iff (by omega) (by omega)).2 (by rw [Int.neg_mul,Int.mul_neg])
  rw [e'] at hl
  exact ⟨_,hd,fun H ids=>Zfa,hl⟩
 ·rw [if_neg h] at hd
  have hne:(a.den:Int)*b.num≠0:=Int.mul_ne_zero (by omega) hbn
  have hl:=rlow i1 i2 (by omega) (by omega)
  rw [e] at hl
  exact ⟨_,hd,fun H ids=>Zfa,hl⟩
theorem Ytn {w m:Nat}{M:RM}(h:1+M.length≤m):Clo m (matR w M):=by
 unfold Clo matR
 rw [List.map_cons]
 congr 1
 ·simp only [Blk.gc,Zat]
  congr 1
  unfold ptrR
  rw [List.map_map]
  refine List.map_congr_left fun i hi=>?_
  have hi':=List.mem_range.1 hi
  simp only [Function.comp,AV.gc]
  rw [Zbl (by omega)]
 ·unfold rowsR
  rw [List.map_map]
  exact List.map_congr_left fun r _=>by simp only [Function.comp,Blk.gc,Yir]
theorem Xe2 {w n c:Nat}{M:RM}{k:Nat}(hn:M.length=n) (hnl:n≤1000) (hw:w=n+1) (hc:c<n) (hW:Wid w M) (hB:Mb k M) (h0:mget M c c≠0) (hk1:1≤k) (hk:k≤200000) {K:Ex→St→Prop}
  (hK:∀ e:Nat→AV,e 1 = .int .i64 (n:Int)→e 6 = .osl none 0 0 n→e 8 = .int .i64 (c:Int)→K (.exit 6) ⟨e,matR w (jorCol M c n)⟩) :
  T Tryz.prog 163 0 (.loop Zo2) ⟨envL [(1,.int .i64 (n:Int)),(6,.osl none 0 0 n),(8,.int .i64 (c:Int)),(11,.int .i64 0)],matR w M⟩ K:=by
 have hm:Tryz.prog.follows .mixedOrders=true:=by kernel_rfl
 refine Zae (fun I:Nat=>⟨envL [(1,.int .i64 (n:Int)),(6,.osl none 0 0 n),(8,.int .i64 (c:Int)),(11,.int .i64 (I:Int))],matR w (jorCol M c I)⟩)
  (fun I=>I≤n) (fun I=>n - I) 0 (by omega) (Zb8 (Zab [(1,.int .i64 (n:Int)),(6,.osl none 0 0 n),(8,.int .i64 (c:Int)),(11,.int .i64 0)] (by simp only [go_sem])) (by rw [Yp5]; rfl)) (fun I hI N hN=>?_)
 unfold Zo2
 by_cases hIn:I<n
 ·have q0:(0:Int)≤(I:Int):=by omega
  have q1:(I:Int)<(n:Int):=by omega
  have q2:(0:Int)≤(c:Int):=by omega
  have q3:(c:Int)<(n:Int):=by omega
  have q4:(c:Int)<(w:Int):=by omega
  have e1:IntKind.i64.wrap ((I:Int)+1)=((I+1:Nat):Int):=by rw [Zac (by omega) (by omega)]; omega
  have hnJ:(jorCol M c I).length=n:=by rw [Zdb,hn]
  by_cases hIc:I=c
  ·have hIc':(I:Int)=(c:Int):=by omega
   have e1c:IntKind.i64.wrap ((c:Int)+1)=((I+1:Nat):Int):=by rw [← hIc']; exact e1
   simp only [go_sem,Zd4,Zhi,Zg9,q3,hIc',e1c]
   refine hN (I+1) _ (by omega) (by omega) (Zb8 (Zab [(1,.int .i64 (n:Int)),(6,.osl none 0 0 n),(8,.int .i64 (c:Int)),(11,.int .i64 ((I+1:Nat):Int))] (by simp only [go_sem])) ?_)
   rw [hIc,Yqc]
  ·have hIc':¬ (I:Int)=(c:Int):=by omega
   have hrI:(jorCol M c I)[I]? = some (M.getD I []):=by rw [Zjm (by omega),if_neg (by omega)]
   have hrc:(jorCol M c I)[c]? = some (M.getD c []):=by rw [Zjm (by omega),if_neg (by omega)]
   have wI:=hW.get (i:=I) (by omega)
   have wc:=hW.get (i:=c) (by omega)
   have bI:=hB.get (i:=I) (by omega)
   have bc:=hB.get (i:=c) (by omega)
   have gP:=Zxa (w:=w) (M:=jorCol M c I) (post := [])
   rw [hnJ,List.append_nil] at gP
   have gI:=Zi6 (w:=w) (post := []) hrI
   have gC:=Zi6 (w:=w) (post := []) hrc
   rw [List.append_nil] at gI gC
   have gi:=Zq1 (w:=w) hIn
   have gc:=Zq1 (w:=w) hc
   have pl:=Zlq w n
   have hlen:(matR w (jorCol M c I)).length=1+n:=by rw [Zax,hnJ]
   have l0:0<1+n:=by omega
   have l1:1+I<1+n:=by omega
   have l2:1+c<1+n:=by omega
   have tI:=Zfi (Zag (show c<(M.getD I []).length by omega))
   have uI:=Zjs (Zag (show c<(M.getD I []).length by omega))
   have tC:=Zfi (Zag (show c<(M.getD c []).length by omega))
   have uC:=Zjs (Zag (show c<(M.getD c []).length by omega))
   have hz:=rzero (n:=(rget (M.getD I []) c).num) (d:=(rget (M.getD I []) c).den)
   have hstep:=Ypt (M:=M) (c:=c) (I:=I) (by omega) hIc
   have hsame:rget (M.getD I []) c=0→jorCol M c (I+1)=jorCol M c I:=fun hz0=>by
    have:elimRow (M.getD c []) c (M.getD I [])=M.getD I []:=by unfold elimRow; rw [if_pos hz0]
    rw [← hstep,this]
    apply List.ext_getElem?
    intro x
    by_cases hx:I=x
    ·subst hx; rw [List.getElem?_set_self (by omega),hrI]
    ·rw [List.getElem?_set_ne hx]
   by_cases hz0:rget (M.getD I []) c=0
   ·rw [decide_eq_true (by rw [hz0]; rfl)] at hz
    simp only [go_sem,Zd4,Zhi,q0,q1,q2,q3,q4,hIc',gP,gi,gI,hlen,l0,l1,List.getElem?_drop,tI,uI,pl]
    refine Zaa hz (by simp only [go_sem,avR]; show BVs _ _ (rc _ _) (rc _ _); rw [Zfa]; trivial) ?_
    simp only [go_sem,Zg9,e1]
    refine hN (I+1) _ (by omega) (by omega) (Zb8 (Zab [(1,.int .i64 (n:Int)),(6,.osl none 0 0 n),(8,.int .i64 (c:Int)),(11,.int .i64 ((I+1:Nat):Int))] (by simp only [go_sem])) ?_)
    rw [hsame hz0]
   ·rw [decide_eq_false (fun h=>hz0 (Rat.num_eq_zero.1 h))] at hz
    simp only [go_sem,Zd4,Zhi,q0,q1,q2,q3,q4,hIc',gP,gi,gI,hlen,l0,l1,List.getElem?_drop,tI,uI,pl]
    refine Zaa hz (by simp only [go_sem,avR]; show BVs _ _ (rc _ _) (rc _ _); rw [Zfa]; trivial) ?_
    have gP1:=Zxa (w:=w) (M:=jorCol M c I) (post := [.unborn])
    rw [hnJ] at gP1
    have gI1:=Zi6 (w:=w) (post := [.unborn]) hrI
    have gC1:=Zi6 (w:=w) (post := [.unborn]) hrc
    have hlen1:(matR w (jorCol M c I) ++ [Blk.unborn]).length=1+n+1:=by rw [List.length_append,hlen]; rfl
    have l3:0<1+n+1:=by omega
    have l4:1+I<1+n+1:=by omega
    have l5:1+c<1+n+1:=by omega
    obtain ⟨Y,d1,d2,d3⟩:=Y8c (bI.get (j:=c) (by omega)) (bc.get (j:=c) (by omega)) h0 (by omega)
    simp only [go_sem,Zmd,hm,q0,q1,q2,q3,q4,gP1,gi,gI1,gC1,gc,hlen1,l0,l1,l2,l3,l4,l5,List.getElem?_drop,tI,uI,tC,uC,pl,hlen,true_or,true_and]
    have bq:∀ (H:Heap) (ids:List Nat) (q:Rat),BVs H ids (rq q) (rq q)=True:=fun H ids q=>Zfa
    refine Zaa d1 (by simp only [go_sem,bq]) ?_
    simp only [go_sem]
    refine Zaa d3 (by simp only [go_sem,d2]) ?_
    have hget:∀ bl:Blk,(matR w (jorCol M c I) ++ [bl])[1+n]? = some bl:=fun bl=>by
     have:=Zfm (w:=w) (M:=jorCol M c I) (post := [bl]) (t:=0) hnJ
     rw [Nat.add_zero] at this
     rw [this]; rfl
    have hset:∀ x y:Blk,(matR w (jorCol M c I) ++ [x]).set (1+n) y=matR w (jorCol M c I) ++ [y]:=fun x y=>by
     rw [List.set_append_right _ _ (by omega),hlen,Nat.sub_self]; rfl
    simp only [go_sem,hlen1,hlen,Zdi,Zb2,Zdu,hget,hset,Zyt,true_and]
    refine Zar [(1,.int .i64 (n:Int)),(6,.osl none 0 0 n),(8,.int .i64 (c:Int)),(11,.int .i64 (I:Int)),(12,.ptr (1+n) 0),(13,.int .i64 (c:Int))] (by simp only [go_sem]) ?_
    have bf:Qb (2*k) (rget (M.getD I []) c / rget (M.getD c []) c):=((bI.get (j:=c) (by omega)).div2 (bc.get (j:=c) (by omega)) h0).mono (by omega)
    refine Xfb (f:=rget (M.getD I []) c / rget (M.getD c []) c) (k:=k) hnJ hnl hw hIn hc (fun e=>hIc e.symm) hrc hrI wc wI rfl rfl bc bI bf hk1 hk (fun e e1' e6 e8 e11=>?_)
    have hrow:elimRow (M.getD c []) c (M.getD I [])=elimTo (M.getD c []) c (rget (M.getD I []) c / rget (M.getD c []) c) (M.getD I []) w:=by unfold elimRow; rw [if_neg hz0,wI]
    rw [← hrow,hstep]
    simp only [go_sem,Zg9,e11,e1]
    refine hN (I+1) _ (by omega) (by omega) (Zup (m:=1+n) (by rw [Zax,Zdb,hn]) (Ytn (by rw [Zdb,hn]; exact Nat.le_refl _)) (by omega) [(1,.int .i64 (n:Int)),(6,.osl none 0 0 n),(8,.int .i64 (c:Int)),(11,.int .i64 ((I+1:Nat):Int))] (by simp only [go_sem,e1',e6,e8]) (fun p hp=>?_))
    simp only [List.mem_cons,List.not_mem_nil,or_false] at hp
    rcases hp with rfl | rfl | rfl | rfl
    ·rfl
    ·simp only [AV.gc]; rw [Zbl (by omega)]
    ·rfl
    ·rfl
 ·have hIe:I=n:=by omega
  have q1:¬ (I:Int)<(n:Int):=by omega
  simp only [go_sem,Zd4,q1]
  rw [hIe]
  exact hK _ (by simp only [go_sem]) (by simp only [go_sem]) (by simp only [go_sem])
end GoAbs
namespace GoAbs
open Go Go.Proofs
theorem Rb.elim4 {k:Nat}{p r:List Rat}{c:Nat}(hr:Rb k r) (hp:Rb k p) (hl:p.length=r.length) (hc:c<r.length) (h0:rget p c≠0):Rb (4*k+1) (GoAbs.elimRow p c r):=fun x hx=>by
 unfold GoAbs.elimRow at hx
 split at hx
 ·exact (hr x hx).mono (by omega)
 ·unfold GoAbs.elimTo at hx
  obtain ⟨j,hj,rfl⟩:=List.mem_map.1 hx
  have hj':=List.mem_range.1 hj
  split
  ·exact ((hr.get hj').sub2 (((hr.get hc).div2 (hp.get (by omega)) h0).mul2 (hp.get (by omega)))).mono (by omega)
  ·exact (hr.get hj').mono (by omega)
theorem Mb.jor4 {k w:Nat}{M:RM}(h:Mb k M) (hw:Wid w M) {c I:Nat}(hcM:c<M.length) (hc:c<w) (h0:mget M c c≠0):Mb (4*k+1) (jorCol M c I):=fun r hr=>by
 unfold jorCol at hr
 obtain ⟨i,hi,rfl⟩:=List.mem_map.1 hr
 have hi':=List.mem_range.1 hi
 split
 ·exact Rb.elim4 (h.get hi') (h.get hcM) (by rw [hw.get hcM,hw.get hi']) (by rw [hw.get hi']; exact hc) h0
 ·exact (h.get hi').mono (by omega)
theorem Xfa {w n c:Nat}{M:RM}(hn:M.length=n) (hnl:n≤1000) (hc:c<n) (hcw:c<w) (hW:Wid w M) (h0:mget M c c≠0) {K:Ex→St→Prop}
  (hK:∀ e:Nat→AV,e 1 = .int .i64 (n:Int)→e 6 = .osl none 0 0 n→e 8 = .int .i64 (c:Int)→e 9 = .int .i64 (c:Int)→K (.exit 4) ⟨e,matR w M⟩) :
  T Tryz.prog 163 0 (.loop Zow) ⟨envL [(1,.int .i64 (n:Int)),(6,.osl none 0 0 n),(8,.int .i64 (c:Int)),(9,.int .i64 (-1)),(10,.int .i64 (c:Int))],matR w M⟩ K:=by
 have hm:Tryz.prog.follows .mixedOrders=true:=by kernel_rfl
 refine Zae (fun y:Nat=>⟨envL [(1,.int .i64 (n:Int)),(6,.osl none 0 0 n),(8,.int .i64 (c:Int)),(9,.int .i64 (if y=0 then -1 else (c:Int))),(10,.int .i64 ((c+y:Nat):Int))],matR w M⟩)
  (fun y=>y≤1) (fun y=>1 - y) 0 (by omega) (Zab _ (by simp only [go_sem])) (fun y hy N hN=>?_)
 unfold Zow
 have q2:(0:Int)≤(c:Int):=by omega
 have q3:(c:Int)<(n:Int):=by omega
 have q4:(c:Int)<(w:Int):=by omega
 have hrc:M[c]? = some (M.getD c []):=getD_some (by omega)
 have wc:=hW.get (i:=c) (by omega)
 have gP:=Zxa (w:=w) (M:=M) (post := [])
 rw [hn,List.append_nil] at gP
 have gC:=Zi6 (w:=w) (post := []) hrc
 rw [List.append_nil] at gC
 have gc:=Zq1 (w:=w) hc
 have pl:=Zlq w n
 have hlen:(matR w M).length=1+n:=by rw [Zax,hn]
 have l0:0<1+n:=by omega
 have l2:1+c<1+n:=by omega
 have tC:=Zfi (Zag (show c<(M.getD c []).length by omega))
 have uC:=Zjs (Zag (show c<(M.getD c []).length by omega))
 have hz:=rzero (n:=(rget (M.getD c []) c).num) (d:=(rget (M.getD c []) c).den)
 have h0':¬ (rget (M.getD c []) c).num=0:=fun h=>h0 (Rat.num_eq_zero.1 h)
 rw [decide_eq_false h0'] at hz
 have e1:IntKind.i64.wrap ((c:Int)+1)=((c+1:Nat):Int):=by rw [Zac (by omega) (by omega)]; omega
 have m1:(-1:Int)<0:=by decide
 by_cases h:y=0
 ·subst h
  simp only [go_sem,Nat.add_zero,if_true,Zhm,Zya,Zmg,Zl3,q2,q3,q4,m1,gP,gc,gC,hlen,l0,l2,List.getElem?_drop,tC,uC,pl]
  refine Zaa hz (by simp only [go_sem,avR]; show BVs _ _ (rc _ _) (rc _ _); rw [Zfa]; trivial) ?_
  simp only [go_sem,Bool.not_false,Zmg,Zl3,e1]
  exact hN 1 _ (by omega) (by omega) (Zab _ (by simp only [go_sem]))
 ·have:y=1:=by omega
  subst this
  have m2:¬ (c:Int)<0:=by omega
  by_cases hcn:((c+1:Nat):Int)<(n:Int)
  ·simp only [go_sem,Zhm,hcn,h,if_false,m2]
   exact hK _ (by simp only [go_sem]) (by simp only [go_sem]) (by simp only [go_sem]) (by simp only [go_sem])
  ·simp only [go_sem,Zhm,hcn,h,if_false,m2]
   exact hK _ (by simp only [go_sem]) (by simp only [go_sem]) (by simp only [go_sem]) (by simp only [go_sem])
def jorI (M:RM):Nat→RM
 | 0=>M
 | c+1=>jorCol (jorI M c) c M.length
theorem Yik {w n k0:Nat}{M:RM}(hn:M.length=n) (hnw:n≤w) (hW:Wid w M) (hB:Mb k0 M) (hP:Piv n 0 M):∀ c,c≤n→(jorI M c).length=n∧Wid w (jorI M c)∧Piv (n - c) c (jorI M c)∧jorN (n - c) c (jorI M c)=jorN n 0 M∧∃ k,3*k+1=4 ^ c*(3*k0+1)∧Mb k (jorI M c)
 | 0,_=>⟨hn,hW,hP,rfl,k0,by rw [Nat.pow_zero]; omega,hB⟩
 | c+1,h=>by
  obtain ⟨a1,a2,a3,a4,k,a5,a6⟩:=Yik hn hnw hW hB hP c (by omega)
  obtain ⟨d,hd⟩:∃ d,n - c=d+1:=⟨n - c - 1,by omega⟩
  have hd':n - (c+1)=d:=by omega
  rw [hd] at a3 a4
  have e:jorCol (jorI M c) c (jorI M c).length=jorI M (c+1):=by rw [a1, ← hn]; rfl
  obtain ⟨b1,b2⟩:=a3
  rw [e] at b2
  refine ⟨by rw [← e,Zdb,a1],by rw [← e]; exact a2.jor,by rw [hd']; exact b2,?_,4*k+1,by rw [Nat.pow_succ,Nat.mul_comm (4 ^ c) 4,Nat.mul_assoc, ← a5]; omega,by rw [← e]; exact a6.jor4 a2 (by omega) (by omega) b1⟩
  rw [hd', ← a4, ← e]
  rfl
theorem Xff {w n k0:Nat}{M:RM}(hn:M.length=n) (hnl:n≤1000) (hw:w=n+1) (hW:Wid w M) (hB:Mb k0 M) (hk0:1≤k0) (hk:4 ^ (n - 1)*(3*k0+1)≤600001) (hP:Piv n 0 M) {K:Ex→St→Prop}
  (hK:∀ e:Nat→AV,e 1 = .int .i64 (n:Int)→e 6 = .osl none 0 0 n→K (.exit 2) ⟨e,matR w (jorI M n)⟩) :
  T Tryz.prog 163 0 (.loop Zqf) ⟨envL [(1,.int .i64 (n:Int)),(6,.osl none 0 0 n),(8,.int .i64 0)],matR w M⟩ K:=by
 have hm:Tryz.prog.follows .mixedOrders=true:=by kernel_rfl
 refine Zae (fun c:Nat=>⟨envL [(1,.int .i64 (n:Int)),(6,.osl none 0 0 n),(8,.int .i64 (c:Int))],matR w (jorI M c)⟩)
  (fun c=>c≤n) (fun c=>n - c) 0 (by omega) (Zab _ (by simp only [go_sem]; simp)) (fun c hc N hN=>?_)
 unfold Zqf
 by_cases hcn:c<n
 ·obtain ⟨a1,a2,a3,_,k,a5,a6⟩:=Yik hn (by omega) hW hB hP c hc
  obtain ⟨d,hd⟩:∃ d,n - c=d+1:=⟨n - c - 1,by omega⟩
  rw [hd] at a3
  have h0:=a3.1
  have hk4:4 ^ c*(3*k0+1)≤600001:=Nat.le_trans (Nat.mul_le_mul_right _ (Nat.pow_le_pow_right (by omega) (by omega))) hk
  have hk1:1≤k:=by
   have:1≤4 ^ c:=Nat.pow_pos (by omega)
   have:=Nat.le_mul_of_pos_left (3*k0+1) this
   omega
  have hnext:jorI M (c+1)=jorCol (jorI M c) c n:=by show jorCol (jorI M c) c M.length=_; rw [hn]
  generalize jorI M c=J at *
  have q2:(0:Int)≤(c:Int):=by omega
  have q3:(c:Int)<(n:Int):=by omega
  have m2:¬ (c:Int)<0:=by omega
  have e1:IntKind.i64.wrap ((c:Int)+1)=((c+1:Nat):Int):=by rw [Zac (by omega) (by omega)]; omega
  simp only [go_sem,Zqd,Z58,Zym,q3]
  refine Zar [(1,.int .i64 (n:Int)),(6,.osl none 0 0 n),(8,.int .i64 (c:Int)),(9,.int .i64 (-1)),(10,.int .i64 (c:Int))] (by simp only [go_sem]) ?_
  refine Xfa a1 hnl hcn (by omega) a2 h0 (fun e x1 x6 x8 x9=>?_)
  have gP:=Zxa (w:=w) (M:=J) (post := [])
  rw [a1,List.append_nil] at gP
  have gc:=Zq1 (w:=w) hcn
  have pl:=Zlq w n
  have hlen:(matR w J).length=1+n:=by rw [Zax,a1]
  have l0:0<1+n:=by omega
  have l2:1+c<1+n:=by omega
  have hset:(ptrR w n).take c ++ [.osl (some 4) (1+c) 0 w]++(ptrR w n).drop (c+1)=ptrR w n:=by
   have:=List.set_eq_take_append_cons_drop (l:=ptrR w n) (i:=c) (a:=AV.osl (some 4) (1+c) 0 w)
   rw [if_pos (by omega)] at this
   rw [List.append_assoc,List.singleton_append, ← this]
   apply List.ext_getElem?
   intro x
   by_cases hx:c=x
   ·subst hx; rw [List.getElem?_set_self (by omega),gc]
   ·rw [List.getElem?_set_ne hx]
  have hset0:(matR w J).set 0 (.cells (ptrR w n))=matR w J:=by unfold matR; rw [a1]; rfl
  simp only [go_sem,Zy2,Zmf,x1,x6,x8,x9,m2,hm,q2,q3,gP,gc,pl,hlen,l0,l2,List.getElem?_drop,hset,hset0]
  refine ⟨by omega,by omega,?_⟩
  simp only [go_sem,Zyk]
  refine Zar [(1,.int .i64 (n:Int)),(6,.osl none 0 0 n),(8,.int .i64 (c:Int)),(11,.int .i64 0)] (by simp only [go_sem,x1,x6,x8]) ?_
  refine Xe2 a1 hnl hw hcn a2 a6 h0 hk1 (by omega) (fun e' y1 y6 y8=>?_)
  rw [← hnext]
  simp only [go_sem,Zx0,y8,e1]
  exact hN (c+1) _ (by omega) (by omega) (Zab _ (by simp only [go_sem,y1,y6]))
 ·have hce:c=n:=by omega
  have q1:¬ (c:Int)<(n:Int):=by omega
  simp only [go_sem,Zqd,q1]
  rw [hce]
  exact hK _ (by simp only [go_sem]) (by simp only [go_sem])
end GoAbs
namespace GoAbs
open Go Go.Proofs
theorem Ypu:∀ {A B:List Nat}{b:Nat},pos (A++B) b=match pos A b with | some j=>some j | none=>(pos B b).map (· + A.length)
 | [],B,b=>by show pos B b=(pos B b).map (· + 0); cases pos B b <;> rfl
 | x::A,B,b=>by
  show (if x=b then some 0 else (pos (A++B) b).map (· + 1))=match (if x=b then some 0 else (pos A b).map (· + 1)) with | some j=>some j | none=>(pos B b).map (· + (A.length+1))
  by_cases h:x=b
  ·rw [if_pos h,if_pos h]
  ·rw [if_neg h,if_neg h,Ypu]
   cases pos A b with
   | some j=>rfl
   | none=>cases pos B b with
    | none=>rfl
    | some j=>show some _=some _; congr 1
theorem Z2r {m:Nat}:(∀ i,i<m→pos (List.range m ++ [m+2]) i=some i)∧pos (List.range m ++ [m+2]) (m+2)=some m:=by
 refine ⟨fun i hi=>by rw [Ypu,Zbl hi],?_⟩
 have:pos (List.range m) (m+2)=none:=by
  cases h:pos (List.range m) (m+2) with
  | none=>rfl
  | some j =>
   have:=Yqx h
   have hj:=(List.getElem?_eq_some_iff.1 this).1
   rw [List.length_range] at hj
   rw [List.getElem?_range hj] at this
   cases this
   omega
 rw [Ypu,this]
 simp [pos]
theorem Y2a {nt n0 m:Nat}{e:Nat→AV}{K:Heap}{b1 b2:Blk}{cs:List AV}(hm:K.length=m) (hn:n0≤m) (hK:∀ f:Nat→Option Nat,(∀ i,i<m→f i=some i)→K.map (Blk.gc f)=K) (hc:∀ f,gcL f cs=cs) (l:List (Nat×AV)) (hl:Has e l) :
  Le nt n0 ⟨e,K ++ [b1,b2,.cells cs]⟩ ⟨envL (l.map fun p=>(p.1,p.2.gc (pos (List.range m ++ [m+2])))),K ++ [.cells cs]⟩:=by
 refine Zb8 (Zje (List.range m ++ [m+2]) ?_ (fun i hi=>by rw [List.getElem?_append_left (by rw [List.length_range]; omega),List.getElem?_range (by omega)]) l hl) ?_
 ·rw [List.nodup_append]
  refine ⟨List.nodup_range,by simp,fun a ha b hb=>?_⟩
  have:=List.mem_range.1 ha
  rw [List.mem_singleton] at hb
  omega
 ·refine congrArg (St.mk _) ?_
  show List.map (fun i=>((K ++ [b1,b2,Blk.cells cs]).getD i Blk.dead).gc (pos (List.range m ++ [m+2]))) (List.range m ++ [m+2])=K ++ [.cells cs]
  rw [List.map_append,List.map_singleton]
  congr 1
  ·conv=>rhs; rw [← hK (pos (List.range m ++ [m+2])) Z2r.1]
   apply List.ext_getElem?
   intro i
   rw [List.getElem?_map,List.getElem?_map]
   by_cases hi:i<m
   ·rw [List.getElem?_range hi,List.getElem?_eq_getElem (show i<K.length by omega)]
    show some (((K ++ [b1,b2,Blk.cells cs]).getD i Blk.dead).gc _)=some _
    rw [List.getD_eq_getElem?_getD,List.getElem?_append_left (by omega),List.getElem?_eq_getElem (by omega)]
    rfl
   ·rw [List.getElem?_eq_none (by rw [List.length_range]; omega),List.getElem?_eq_none (by omega)]; rfl
  ·rw [List.getD_eq_getElem?_getD,List.getElem?_append_right (by omega),hm,show m+2 - m=2 by omega]
   show [Blk.cells (gcL _ cs)]=_
   rw [hc]
theorem Y22 {w:Nat}{M:RM}{f:Nat→Option Nat}(hf:∀ i,i<1+M.length→f i=some i):(matR w M).map (Blk.gc f)=matR w M:=by
 unfold matR
 rw [List.map_cons]
 congr 1
 ·simp only [Blk.gc,Zat]
  congr 1
  unfold ptrR
  rw [List.map_map]
  refine List.map_congr_left fun i hi=>?_
  have hi':=List.mem_range.1 hi
  simp only [Function.comp,AV.gc]
  rw [hf _ (by omega)]
 ·unfold rowsR
  rw [List.map_map]
  exact List.map_congr_left fun r _=>by simp only [Function.comp,Blk.gc,Yir]
def solR (T:RM) (n i:Nat):List Rat:=(List.range i).map fun c=>mget T c n / mget T c c
theorem Yy5 {T:RM}{n i:Nat}:solR T n (i+1)=solR T n i ++ [mget T i n / mget T i i]:=by unfold solR; rw [List.range_succ,List.map_append]; rfl
theorem Xed {w n k:Nat}{T:RM}(hn:T.length=n) (hnl:n≤1000) (hw:w=n+1) (hW:Wid w T) (hB:Mb k T) (hk:k≤1000000) (h0:∀ i,i<n→mget T i i≠0) {K:Ex→St→Prop}
  (hK:∀ e:Nat→AV,e 14 = .osl (some 4) (1+n) 0 n→K (.exit 10) ⟨e,matR w T ++ [.cells (qr (solR T n n))]⟩) :
  GoAbs.T Tryz.prog 163 0 (.loop Zq0) ⟨envL [(1,.int .i64 (n:Int)),(6,.osl none 0 0 n),(14,.osl (some 4) (1+n) 0 0),(15,.int .i64 0)],matR w T ++ [.cells []]⟩ K:=by
 have hm:Tryz.prog.follows .mixedOrders=true:=by kernel_rfl
 refine Zae (fun i:Nat=>⟨envL [(1,.int .i64 (n:Int)),(6,.osl none 0 0 n),(14,.osl (some 4) (1+n) 0 i),(15,.int .i64 (i:Int))],matR w T ++ [.cells (qr (solR T n i))]⟩)
  (fun i=>i≤n) (fun i=>n - i) 0 (by omega) (Zab _ (by simp only [go_sem]; simp)) (fun i hi N hN=>?_)
 unfold Zq0
 by_cases hin:i<n
 ·have q0:(0:Int)≤(i:Int):=by omega
  have q1:(i:Int)<(n:Int):=by omega
  have q2:(0:Int)≤(n:Int):=by omega
  have q3:(n:Int)<(w:Int):=by omega
  have q4:(i:Int)<(w:Int):=by omega
  have e1:IntKind.i64.wrap ((i:Int)+1)=((i+1:Nat):Int):=by rw [Zac (by omega) (by omega)]; omega
  have hri:T[i]? = some (T.getD i []):=getD_some (by omega)
  have wi:=hW.get (i:=i) (by omega)
  have bi:=hB.get (i:=i) (by omega)
  have gi:=Zq1 (w:=w) hin
  have pl:=Zlq w n
  have tN:=Zfi (Zag (show n<(T.getD i []).length by omega))
  have uN:=Zjs (Zag (show n<(T.getD i []).length by omega))
  have tI:=Zfi (Zag (show i<(T.getD i []).length by omega))
  have uI:=Zjs (Zag (show i<(T.getD i []).length by omega))
  obtain ⟨Y,d1,d2,d3⟩:=Y8c (bi.get (j:=n) (by omega)) (bi.get (j:=i) (by omega)) (h0 i hin) hk
  have lo:(solR T n i).length=i:=by simp [solR]
  have l1:(qr (solR T n i)).length=i*4:=by rw [Zr3,lo]
  have l2:(qr (solR T n i)).take (i*4)=qr (solR T n i):=List.take_of_length_le (by omega)
  have s1:(i+1)*64≤1099511627776:=by omega
  have gP:∀ post:Heap,(matR w T++post)[0]? = some (.cells (ptrR w n)):=fun post=>by have:=Zxa (w:=w) (M:=T) (post:=post); rwa [hn] at this
  have gI:∀ post:Heap,(matR w T++post)[1+i]? = some (.cells (qr (T.getD i []))):=fun post=>Zi6 hri
  have gO:∀ (post:Heap) (t:Nat),(matR w T++post)[1+n+t]? = post[t]?:=fun post t=>Zfm hn
  have hlen:∀ post:Heap,(matR w T++post).length=1+n+post.length:=fun post=>by rw [Zhw,hn]
  have bq:∀ (H:Heap) (ids:List Nat) (q:Rat),BVs H ids (rq q) (rq q)=True:=fun H ids q=>Zfa
  have l3:0<1+n+1:=by omega
  have l4:1+i<1+n+1:=by omega
  have hset:∀ (post:Heap) (t:Nat) (y:Blk),(matR w T++post).set (1+n+t) y=matR w T++post.set t y:=fun post t y=>by
   rw [List.set_append_right _ _ (by rw [Zax]; omega),Zax]
   congr 2; omega
  have fin:∀ (e:Nat→AV) (b1 b2:Blk),Has e [(1,.int .i64 (n:Int)),(6,.osl none 0 0 n),(14,.osl (some 4) (1+n+2) 0 (i+1)),(15,.int .i64 ((i+1:Nat):Int))]→N ⟨e,matR w T ++ [b1,b2,.cells (qr (solR T n i)++rq (rget (T.getD i []) n / rget (T.getD i []) i))]⟩:=fun e b1 b2 he=>by
   have hs:qr (solR T n (i+1))=qr (solR T n i)++rq (rget (T.getD i []) n / rget (T.getD i []) i):=by rw [Yy5,Znb]; simp [qr,mget]
   rw [← hs]
   refine hN (i+1) _ (by omega) (by omega) (Zb8 (Y2a (m:=1+n) (K:=matR w T) (by rw [Zax,hn]) (by omega) (fun f hf=>Y22 (by rw [hn]; exact hf)) (fun f=>Yir _) _ he) ?_)
   simp only [List.map_cons,List.map_nil,AV.gc]
   rw [Z2r.2,Z2r.1 0 (by omega)]
  simp only [go_sem,Zl4,Zms,hm,q0,q1,q2,q3,q4,gP,gi,gI,gO,hlen,List.getElem?_drop,tN,uN,tI,uI,pl,List.append_assoc,l3,l4,true_or,true_and]
  refine Zaa d1 (by simp only [go_sem,bq]) ?_
  simp only [go_sem]
  refine Zaa d3 (by simp only [go_sem,d2]) ?_
  have gO0:∀ (post:Heap),(matR w T++post)[1+n]? = post[0]?:=fun post=>gO post 0
  have hset0:∀ (post:Heap) (y:Blk),(matR w T++post).set (1+n) y=matR w T++post.set 0 y:=fun post y=>hset post 0 y
  have l5:1+n<1+n+1:=by omega
  simp only [go_sem,hlen,gO,gO0,hset,hset0,Zdi,Zb2,Zdu,l1,l2,l5,s1,true_or,true_and,Zzt,e1]
  have e2:1+n+1+1=1+n+2:=by omega
  rw [e2,hset]
  exact ⟨Nat.le_refl _,by rw [gO]; rfl,fin _ _ _ (by simp only [go_sem])⟩
 ·have hie:i=n:=by omega
  have q1:¬ (i:Int)<(n:Int):=by omega
  simp only [go_sem,Zl4,q1]
  rw [hie]
  exact hK _ (by simp only [go_sem])
end GoAbs
namespace GoAbs
open Go Go.Proofs
def rowV (r:List Rat):AV := .sl (r.map fun q => .agg (rq q))
def rowsV (M:RM):List AV:=M.map rowV
theorem Yls {r:List Rat}:(r.map fun q=>AV.agg (rq q)).flatMap AV.cells=qr r:=by rw [List.flatMap_map]; rfl
theorem Ykw {r:List Rat}:∀ y,y∈(r.map fun q=>AV.agg (rq q))→y.cells.length=4:=fun y hy=>by obtain ⟨q,_,rfl⟩:=List.mem_map.1 hy; rfl
theorem Ymb {w n:Nat}:ptrR w (n+1)=ptrR w n ++ [.osl (some 4) (1+n) 0 w]:=by unfold ptrR; rw [List.range_succ,List.map_append]; rfl
theorem Yl7 {i:Nat}:(∀ j,j≤i→pos ((i+3)::List.range' 1 (i+1)) (1+j)=some (1+j))∧pos ((i+3)::List.range' 1 (i+1)) (i+3)=some 0:=by
 refine ⟨fun j hj=>?_,by unfold pos; rw [if_pos rfl]⟩
 unfold pos
 rw [if_neg (by omega)]
 have main:∀ (k s b:Nat),s≤b→b<s+k→pos (List.range' s k) b=some (b - s):=by
  intro k
  induction k with
  | zero=>intro s b h1 h2; omega
  | succ k ih =>
   intro s b h1 h2
   rw [List.range'_succ]
   unfold pos
   by_cases h:s=b
   ·rw [if_pos h,h,Nat.sub_self]
   ·rw [if_neg h,ih (s+1) b (by omega) (by omega)]
    simp only [Option.map_some,Option.some.injEq]
    omega
 rw [main (i+1) 1 (1+j) (by omega) (by omega)]
 simp only [Option.map_some,Option.some.injEq]
 omega
theorem Xb8 {nt w i:Nat}{e:Nat→AV}{M:RM}{r:List Rat}{b1:Blk}(hM:M.length=i) (l:List (Nat×AV)) (hl:Has e l) :
  Le nt 0 ⟨e,.dead::(rowsR M ++ [.cells (qr r),b1,.cells (ptrR w i ++ [.osl (some 4) (1+i) 0 w])])⟩ ⟨envL (l.map fun p=>(p.1,p.2.gc (pos ((i+3)::List.range' 1 (i+1))))),matR w (M ++ [r])⟩:=by
 have hrl:(rowsR M).length=i:=by simp [rowsR,hM]
 refine Zb8 (Zje ((i+3)::List.range' 1 (i+1)) ?_ (fun i hi=>by omega) l hl) (congrArg (St.mk _) ?_)
 ·rw [List.nodup_cons]
  exact ⟨by rw [List.mem_range'_1]; omega,List.nodup_range'⟩
 ·show List.map (fun j=>((Blk.dead::(rowsR M ++ [.cells (qr r),b1,.cells (ptrR w i ++ [.osl (some 4) (1+i) 0 w])])).getD j Blk.dead).gc (pos ((i+3)::List.range' 1 (i+1)))) ((i+3)::List.range' 1 (i+1))=_
  rw [List.map_cons]
  have hp:(Blk.dead::(rowsR M ++ [.cells (qr r),b1,.cells (ptrR w i ++ [.osl (some 4) (1+i) 0 w])])).getD (i+3) Blk.dead = .cells (ptrR w (i+1)):=by
   rw [List.getD_eq_getElem?_getD,show i+3=(i+2)+1 by omega,List.getElem?_cons_succ,List.getElem?_append_right (by omega),hrl,show i+2 - i=2 by omega,Ymb]
   rfl
  rw [hp]
  unfold matR
  rw [List.length_append,hM]
  congr 1
  ·show Blk.gc _ (Blk.cells (ptrR w (i+1)))=Blk.cells (ptrR w (i+1))
   simp only [Blk.gc,Zat]
   congr 1
   unfold ptrR
   rw [List.map_map]
   refine List.map_congr_left fun j hj=>?_
   have hj':=List.mem_range.1 hj
   simp only [Function.comp,AV.gc]
   rw [Yl7.1 j (by omega)]
  ·apply List.ext_getElem?
   intro j
   rw [List.getElem?_map]
   by_cases hj:j<i+1
   ·rw [List.getElem?_range' hj]
    show some (Blk.gc _ ((Blk.dead::(rowsR M ++ [.cells (qr r),b1,.cells (ptrR w i ++ [.osl (some 4) (1+i) 0 w])])).getD (1+1*j) Blk.dead))=_
    have hg:(Blk.dead::(rowsR M ++ [.cells (qr r),b1,.cells (ptrR w i ++ [.osl (some 4) (1+i) 0 w])])).getD (1+1*j) Blk.dead = .cells (qr ((M ++ [r]).getD j [])):=by
     rw [List.getD_eq_getElem?_getD,show 1+1*j=j+1 by omega,List.getElem?_cons_succ,List.getD_eq_getElem?_getD]
     by_cases hji:j<i
     ·rw [List.getElem?_append_left (by omega),List.getElem?_append_left (by omega)]
      unfold rowsR
      rw [List.getElem?_map,List.getElem?_eq_getElem (by omega)]; rfl
     ·have:j=i:=by omega
      subst this
      rw [List.getElem?_append_right (by omega),hrl,List.getElem?_append_right (by omega),hM,Nat.sub_self]; rfl
    rw [hg]
    unfold rowsR
    rw [List.getElem?_map,getD_some (M:=M ++ [r]) (by rw [List.length_append,hM]; simpa using hj)]
    simp only [Blk.gc,Yir,Option.map_some]
   ·rw [List.getElem?_eq_none (by rw [List.length_range']; omega),List.getElem?_eq_none (by simp [rowsR,hM]; omega)]; rfl
theorem Xfc {w n:Nat}{M:RM}(hn:M.length=n) (hnl:n≤1000) (hwl:w≤1000) (hW:Wid w M) {K:Ex→St→Prop}
  (hK:∀ e:Nat→AV,e 1 = .int .i64 (n:Int)→e 6 = .osl none 0 0 n→K (.exit 0) ⟨e,matR w M⟩) :
  T Tryz.prog 163 0 (.loop Zqj) ⟨envL [(0,.sl (rowsV M)),(1,.int .i64 (n:Int)),(6,.osl none 0 0 0),(7,.int .i64 0)],matR w []⟩ K:=by
 have hm:Tryz.prog.follows .mixedOrders=true:=by kernel_rfl
 refine Zae (fun i:Nat=>⟨envL [(0,.sl (rowsV M)),(1,.int .i64 (n:Int)),(6,.osl none 0 0 i),(7,.int .i64 (i:Int))],matR w (M.take i)⟩)
  (fun i=>i≤n) (fun i=>n - i) 0 (by omega) (Zab _ (by simp only [go_sem]; simp)) (fun i hi N hN=>?_)
 unfold Zqj
 have hvl:(rowsV M).length=n:=by simp [rowsV,hn]
 by_cases hin:i<n
 ·have q0:(0:Int)≤(i:Int):=by omega
  have q1:(i:Int)<(n:Int):=by omega
  have e1:IntKind.i64.wrap ((i:Int)+1)=((i+1:Nat):Int):=by rw [Zac (by omega) (by omega)]; omega
  have hri:M[i]? = some (M.getD i []):=getD_some (by omega)
  have gv:(rowsV M)[i]? = some (rowV (M.getD i [])):=by unfold rowsV; rw [List.getElem?_map,hri]; rfl
  have wi:=hW.get (i:=i) (by omega)
  have tk:M.take (i+1)=M.take i ++ [M.getD i []]:=by rw [List.take_add_one,hri]; rfl
  have hMl:(M.take i).length=i:=by rw [List.length_take]; omega
  generalize M.getD i []=r at *
  generalize M.take i=J at *
  have hrv:(r.map fun q=>AV.agg (rq q)).length=w:=by rw [List.length_map,wi]
  have hlen:(matR w J).length=1+i:=by rw [Zax,hMl]
  have hform:matR w J = .cells (ptrR w i)::rowsR J:=by unfold matR; rw [hMl]
  have pl:=Zlq w i
  have s1:w*64≤1099511627776:=by omega
  have s2:(i+1)*24≤1099511627776:=by omega
  have ql:(qr r).length=w*4:=by rw [Zr3,wi]
  have qt:(qr r).take (w*4)=qr r:=List.take_of_length_le (by omega)
  have pt:(ptrR w i).take i=ptrR w i:=List.take_of_length_le (by omega)
  unfold rowV at gv
  simp only [go_sem,Zpa,Z3j,q0,q1,hvl,gv,hrv,Yls,s1,s2,hlen,pl,pt,ql,qt]
  refine ⟨Ykw,?_⟩
  have gL:∀ post:Heap,(matR w J++post).length=1+i+post.length:=fun post=>by rw [Zhw,hMl]
  have gO:∀ (post:Heap) (t:Nat),(matR w J++post)[1+i+t]? = post[t]?:=fun post t=>Zfm hMl
  have gP:∀ post:Heap,(matR w J++post)[0]? = some (.cells (ptrR w i)):=fun post=>by rw [hform]; rfl
  have hset0:∀ (post:Heap) (bl:Blk),(matR w J++post).set 0 bl=bl::(rowsR J++post):=fun post bl=>by rw [hform]; rfl
  simp only [go_sem,List.append_assoc,gL,gO,gP,hset0,pl,pt,s2,e1,Z2i]
  have hln:∀ a b:Blk,(rowsR J ++ [a,b]).length+1=i+3:=fun a b=>by simp [rowsR,hMl]
  refine ⟨Nat.le_refl _,hN (i+1) _ (by omega) (by omega) ?_⟩
  rw [tk]
  refine Zb8 (Xb8 (i:=i) hMl [(0,.sl (rowsV M)),(1,.int .i64 (n:Int)),(6,.osl none (i+3) 0 (i+1)),(7,.int .i64 ((i+1:Nat):Int))] (by simp only [go_sem,hln])) ?_
  simp only [List.map_cons,List.map_nil,AV.gc]
  rw [Yl7.2]
 ·have hie:i=n:=by omega
  have q1:¬ (i:Int)<(n:Int):=by omega
  have hall:M.take n=M:=List.take_of_length_le (by omega)
  simp only [go_sem,Zpa,q1,hvl]
  rw [hie,hall]
  exact hK _ (by simp only [go_sem]) (by simp only [go_sem])
theorem rsolve {n k0:Nat}{M:RM}(hn:M.length=n) (hn1:1≤n) (hnl:n≤900) (hW:Wid (n+1) M) (hB:Mb k0 M) (hk0:1≤k0) (hk:4 ^ (n - 1)*(3*k0+1)≤600001) (hP:Piv n 0 M) (h0:∀ i,i<n→mget (jorN n 0 M) i i≠0) :
  SpecV Tryz.prog Yqn [.sl (rowsV M),.int .i64 (n:Int)] (.tup [rowV (solR (jorN n 0 M) n n),.bool true]):=by
 obtain ⟨a1,a2,_,a4,k,a5,a6⟩:=Yik hn (by omega) hW hB hP n (Nat.le_refl _)
 rw [Nat.sub_self] at a4
 have hJ:jorI M n=jorN n 0 M:=a4
 rw [hJ] at a1 a2 a6
 have hk4:k≤1000000:=by
  have e:4 ^ n=4*4 ^ (n - 1):=by
   obtain ⟨m,rfl⟩:∃ m,n=m+1:=⟨n - 1,by omega⟩
   rw [Nat.pow_succ,Nat.mul_comm]; rfl
  rw [e,Nat.mul_assoc] at a5
  omega
 refine Zba Yni (by simp) (Zct 1 rfl ?_)
 unfold Yhs
 simp only [go_sem,Z30,Z5t]
 refine T_le (Zij 6 none (by simp only [go_sem]) [(0,.sl (rowsV M)),(1,.int .i64 (n:Int)),(4,.nils),(5,.bool false)] (by simp only [go_sem])) ?_
 refine Zgm (Zgm (T_W ?_))
 simp only [go_sem,Z43]
 refine Zgt (Zar [(0,.sl (rowsV M)),(1,.int .i64 (n:Int)),(6,.osl none 0 0 0),(7,.int .i64 0)] (by simp only [go_sem]) ?_)
 refine Xfc hn (by omega) (by omega) hW (fun e e1 e6=>?_)
 show T Tryz.prog 163 0 _ _ _
 refine Zgm (Zgm (T_W ?_))
 simp only [go_sem,Z3t]
 refine Zgt (Zar [(1,.int .i64 (n:Int)),(6,.osl none 0 0 n),(8,.int .i64 0)] (by simp only [go_sem,e1,e6]) ?_)
 refine Xff hn (by omega) rfl hW hB hk0 hk hP (fun e e1 e6=>?_)
 show T Tryz.prog 163 0 _ _ _
 rw [hJ]
 refine Zct 0 rfl ?_
 simp only [go_sem,Zx3]
 refine T_le (Zij 14 (some 4) (by simp only [go_sem]) [(1,.int .i64 (n:Int)),(6,.osl none 0 0 n)] (by simp only [go_sem,e1,e6])) ?_
 refine Zgm (Zgm (T_W ?_))
 simp only [go_sem,Zzp]
 refine Zgt (Zar [(1,.int .i64 (n:Int)),(6,.osl none 0 0 n),(14,.osl (some 4) (1+n) 0 0),(15,.int .i64 0)] (by simp only [go_sem,Zax,a1]) ?_)
 refine Xed a1 (by omega) rfl a2 a6 hk4 h0 (fun e e14=>?_)
 show T Tryz.prog 163 0 _ _ _
 refine T_W ?_
 simp only [go_sem,Zx6,e14]
 have hsl:(solR (jorN n 0 M) n n).length=n:=by simp [solR]
 have hg:(matR (n+1) (jorN n 0 M) ++ [Blk.cells (qr (solR (jorN n 0 M) n n))])[1+n]? = some (.cells (qr (solR (jorN n 0 M) n n))):=by
  have:=Zfm (w:=n+1) (M:=jorN n 0 M) (post := [Blk.cells (qr (solR (jorN n 0 M) n n))]) (t:=0) a1
  exact this
 have hbv:=Z63 (H:=matR (n+1) (jorN n 0 M) ++ [Blk.cells (qr (solR (jorN n 0 M) n n))]) (ids:=allOf (matR (n+1) (jorN n 0 M) ++ [Blk.cells (qr (solR (jorN n 0 M) n n))])) (w:=4) (b:=1+n) (R:=(solR (jorN n 0 M) n n).map rq) hg (by
  unfold allOf
  rw [List.mem_range,List.length_append,Zax,a1]
  simp) (by unfold qr; rw [List.flatMap_def]) (fun c hc=>by obtain ⟨q,_,rfl⟩:=List.mem_map.1 hc; rfl) (fun c hc=>by obtain ⟨q,_,rfl⟩:=List.mem_map.1 hc; exact of_eq_true Zfa)
 rw [List.length_map,hsl,List.map_map] at hbv
 exact hbv
end GoAbs
namespace GoAbs
def rowStep (i a b:Nat) (x:Rat) (r:List Rat):List Rat :=
 if a=i then (if b=0 then r.set (i - 1) (rget r (i - 1)+x) else (r.set (i - 1) (rget r (i - 1)+x)).set (b - 1) (rget (r.set (i - 1) (rget r (i - 1)+x)) (b - 1) - x))
 else if b=i then (if a=0 then r.set (i - 1) (rget r (i - 1)+x) else (r.set (i - 1) (rget r (i - 1)+x)).set (a - 1) (rget (r.set (i - 1) (rget r (i - 1)+x)) (a - 1) - x))
 else r
theorem Yev {i a b:Nat}{x:Rat}{r:List Rat}:(rowStep i a b x r).length=r.length:=by
 unfold rowStep
 (repeat' split) <;> simp
theorem Ylq {i a b j m:Nat}{x:Rat}{r:List Rat}(hr:r.length=m) (hi:1≤i) (him:i≤m) (ha:a≤m) (hb:b≤m) (hab:a≠b) :
  rget (rowStep i a b x r) j=rget r j+x*(edge a b i*edge a b (j+1)):=by
 unfold rowStep edge
 by_cases h1:a=i
 ·subst h1
  rw [if_pos rfl,if_pos rfl,if_neg hab]
  by_cases h2:b=0
  ·subst h2
   rw [if_pos rfl,Zgi (by omega)]
   by_cases h3:j=a - 1
   ·rw [if_pos h3,if_pos (by omega),if_neg (by omega),h3]; grind
   ·rw [if_neg h3,if_neg (by omega),if_neg (by omega)]; grind
  ·rw [if_neg h2,Zgi (by rw [List.length_set]; omega),Zgi (by omega),Zgi (by omega)]
   by_cases h3:j=a - 1
   ·rw [if_neg (by omega),if_pos h3,if_pos (by omega),if_neg (by omega),h3]; grind
   ·by_cases h4:j=b - 1
    ·rw [if_pos h4,if_neg (by omega),if_neg (by omega),if_pos (by omega),h4]; grind
    ·rw [if_neg h4,if_neg h3,if_neg (by omega),if_neg (by omega)]; grind
 ·rw [if_neg h1]
  by_cases h2:b=i
  ·subst h2
   rw [if_pos rfl]
   have hba:¬ b=a:=fun e=>h1 e.symm
   by_cases h5:a=0
   ·subst h5
    rw [if_pos rfl,if_neg hba,if_pos rfl,Zgi (by omega)]
    by_cases h3:j=b - 1
    ·rw [if_pos h3,if_neg (by omega),if_pos (by omega),h3]; grind
    ·rw [if_neg h3,if_neg (by omega),if_neg (by omega)]; grind
   ·rw [if_neg h5,if_neg hba,if_pos rfl,Zgi (by rw [List.length_set]; omega),Zgi (by omega),Zgi (by omega)]
    by_cases h3:j=b - 1
    ·rw [if_neg (by omega),if_pos h3,if_neg (by omega),if_pos (by omega),h3]; grind
    ·by_cases h4:j=a - 1
     ·rw [if_pos h4,if_neg (by omega),if_pos (by omega),if_neg (by omega),h4]; grind
     ·rw [if_neg h4,if_neg h3,if_neg (by omega),if_neg (by omega)]; grind
  ·have k1:¬ i=a:=fun e=>h1 e.symm
   have k2:¬ i=b:=fun e=>h2 e.symm
   rw [if_neg h2,if_neg k1,if_neg k2]; grind
def rowE (i m:Nat) (E:List Sp):List Rat:=E.foldl (fun r e=>rowStep i e.1 e.2.1 e.2.2 r) (List.replicate m 0)
theorem Ybg {i m:Nat}:∀ {E:List Sp},(rowE i m E).length=m:=fun {E}=>by
 unfold rowE
 have:∀ (E:List Sp) (r:List Rat),(E.foldl (fun r e=>rowStep i e.1 e.2.1 e.2.2 r) r).length=r.length:=fun E=>by
  induction E with
  | nil=>intro r; rfl
  | cons e E ih=>intro r; rw [List.foldl_cons,ih,Yev]
 rw [this]; simp
theorem Y0f {i m:Nat}{E:List Sp}{e:Sp}:rowE i m (E ++ [e])=rowStep i e.1 e.2.1 e.2.2 (rowE i m E):=by unfold rowE; rw [List.foldl_append]; rfl
theorem Y1w {i m:Nat}{E:List Sp}(hi:1≤i) (him:i≤m) (hE:∀ e,e∈E→e.1≤m∧e.2.1≤m∧e.1≠e.2.1) (j:Nat):rget (rowE i m E) j=Lm id E i (j+1):=by
 have main:∀ (E:List Sp) (r:List Rat),r.length=m→(∀ e,e∈E→e.1≤m∧e.2.1≤m∧e.1≠e.2.1)→rget (E.foldl (fun r e=>rowStep i e.1 e.2.1 e.2.2 r) r) j=rget r j+Lm id E i (j+1):=fun E=>by
  induction E with
  | nil=>intro r _ _; show rget r j=rget r j+0; grind
  | cons e E ih =>
   intro r hr h
   obtain ⟨h1,h2,h3⟩:=h e (by simp)
   rw [List.foldl_cons,ih _ (by rw [Yev,hr]) (fun x hx=>h x (by simp [hx])),Ylq hr hi him h1 h2 h3]
   have hL:Lm id (e::E) i (j+1)=Lm id E i (j+1)+e.2.2*(edge e.1 e.2.1 i*edge e.1 e.2.1 (j+1)):=rfl
   rw [hL]; grind
 unfold rowE
 rw [main E _ (by simp) hE]
 have:rget (List.replicate m (0:Rat)) j=0:=by
  unfold rget
  rw [List.getD_eq_getElem?_getD,List.getElem?_replicate]
  split <;> rfl
 rw [this]; grind
theorem Yz6 {i m:Nat}{E:List Sp}(hi:i<m) (hE:∀ e,e∈E→e.1≤m∧e.2.1≤m∧e.1≠e.2.1):(lapl m E)[i]? = some (rowE (i+1) m E):=by
 obtain ⟨lW,lL⟩:=Zdc (m:=m) (E:=E)
 rw [getD_some (M:=lapl m E) (i:=i) (by omega)]
 congr 1
 apply List.ext_getElem?
 intro j
 by_cases hj:j<m
 ·rw [Zag (by rw [lW.get (by omega)]; exact hj),Zag (by rw [Ybg]; exact hj)]
  congr 1
  rw [Y1w (by omega) (by omega) hE]
  exact Z2v hE i j
 ·rw [List.getElem?_eq_none (by rw [lW.get (by omega)]; omega),List.getElem?_eq_none (by rw [Ybg]; omega)]
end GoAbs
namespace GoAbs
open Go Go.Proofs
theorem q_sub' {q w:Rat}:Rat.divInt (q.num*w.den - w.num*q.den) ((q.den:Int)*w.den)=q - w:=by
 have h:=Y97 (q:=q) (w := -w) (wn := -w.num) (wd:=w.den) (by have:=w.den_pos; omega) (by rw [← Rat.neg_divInt,Rat.num_divInt_den])
 rw [Int.neg_mul, ← Int.sub_eq_add_neg] at h
 rw [h]; grind
theorem Xg1 {x:List Rat}{k:Nat}(hb:Rb k x) (hk:k≤10000000) (hl:x.length≤1000000) (hok:∀ q,q∈x→NumOk q) {K:Ex→St→Prop}
  (hK:∀ e:Nat→AV,K (.exit 0) ⟨e,[]⟩) :
  T Tryz.prog 27 0 (.loop Z1q) ⟨envL [(0,.sl (ss x)),(1,rowV x),(5,.int .i64 0)],[]⟩ K:=by
 have hm:Tryz.prog.follows .mixedOrders=true:=by kernel_rfl
 refine Zae (fun i:Nat=>⟨envL [(0,.sl (ss x)),(1,rowV x),(5,.int .i64 (i:Int))],[]⟩)
  (fun i=>i≤x.length) (fun i=>x.length - i) 0 (by omega) (Zab _ (by simp only [go_sem]; simp)) (fun i hi N hN=>?_)
 unfold Z1q
 have hsl:=Yn1 x
 have hrl:(x.map fun q=>AV.agg (rq q)).length=x.length:=by simp
 unfold rowV at hN ⊢
 by_cases hin:i<x.length
 ·have gx:=Zag hin
  have hmem:=List.mem_of_getElem? gx
  have okq:=hok _ hmem
  have bq:=hb.get hin
  have g1:(ss x)[i]? = some (.str (bs (numS (rget x i)))):=by unfold ss; rw [List.getElem?_map,gx]; rfl
  have g2:(x.map fun q=>AV.agg (rq q))[i]? = some (.agg (rq (rget x i))):=by rw [List.getElem?_map,gx]; rfl
  have hd:=(rget x i).den_pos
  have his:=ris (s:=bs (numS (rget x i))) bq.ib.1 bq.ib.2 (by omega) hk (Rat.num_divInt_den _)
  rw [decide_eq_true ⟨okq,rfl⟩] at his
  have q0:(0:Int)≤(i:Int):=by omega
  have q1:(i:Int)<(x.length:Int):=by omega
  have e1:IntKind.i64.wrap ((i:Int)+1)=((i+1:Nat):Int):=by rw [Zac (by omega) (by omega)]; omega
  generalize rget x i=q at *
  simp only [go_sem,Z1y,Z1m,Z0l,hm,q0,q1,hsl,hrl,g1,g2,Zdi,Zb2]
  refine Zaa his (by simp only [go_sem,avR]; show BVs _ _ (rc _ _) (rc _ _); rw [Zfa]; trivial) ?_
  simp only [go_sem,Bool.not_true,Z0l,e1]
  exact hN (i+1) _ (by omega) (by omega) (Zab _ (by simp only [go_sem]))
 ·have hie:i=x.length:=by omega
  subst hie
  have q1:¬ ((x.length:Nat):Int)<(x.length:Int):=by omega
  simp only [go_sem,Z1y,q1,hsl]
  exact hK _
theorem rare {x:List Rat}{k:Nat}(hb:Rb k x) (hk:k≤10000000) (hl:x.length≤1000000) (hok:∀ q,q∈x→NumOk q):SpecV Tryz.prog Y1o [.sl (ss x),rowV x] (.bool true):=by
 have hsl:=Yn1 x
 have hrl:(x.map fun q=>AV.agg (rq q)).length=x.length:=by simp
 refine Zba Yxe (by simp) (Zct 1 rfl ?_)
 unfold Yr9
 unfold rowV
 simp only [go_sem,Ydb,Ycu,hsl,hrl]
 refine Zgm (Zgm (T_W ?_))
 simp only [go_sem,Yee]
 refine Zgt (Zar [(0,.sl (ss x)),(1,.sl (x.map fun q=>AV.agg (rq q))),(5,.int .i64 0)] (by simp only [go_sem]) ?_)
 refine Xg1 hb hk hl hok (fun e=>?_)
 show T Tryz.prog 27 0 _ _ _
 refine T_W ?_
 simp only [go_sem,Ybo]
theorem Yp1 {H:Heap}{ids:List Nat}{b:Nat}{x:List Rat}(hb:H[b]? = some (.cells (qr x))) (hi:b∈ids):BV H ids (.osl (some 4) b 0 x.length) (rowV x):=by
 have h:=Z63 (H:=H) (ids:=ids) (w:=4) (b:=b) (R:=x.map rq) hb hi (by unfold qr; rw [List.flatMap_def]) (fun c hc=>by obtain ⟨q,_,rfl⟩:=List.mem_map.1 hc; rfl) (fun c hc=>by obtain ⟨q,_,rfl⟩:=List.mem_map.1 hc; exact of_eq_true Zfa)
 rw [List.length_map,List.map_map] at h
 exact h
end GoAbs
namespace GoAbs
open Go Go.Proofs
theorem Xgk {k:Nat}:qr (List.replicate (k+1) 0)=qr (List.replicate k 0)++rc 0 1:=by
 rw [List.replicate_succ',Znb]
 simp [qr,rq]
theorem Xf0 {m i c w:Nat}{ls fs:AV}{J:RM}(hJ:J.length=c) (hm:m≤1000) (hls:∀ f,ls.gc f=ls) (hfs:∀ f,fs.gc f=fs) {K:Ex→St→Prop}
  (hK:∀ e:Nat→AV,e 0 = .int .i64 ((m+1:Nat):Int)→e 1=ls→e 2=fs→e 7 = .osl none 0 0 c→e 8 = .int .i64 (i:Int)→e 9 = .osl (some 4) (1+c) 0 m→K (.exit 2) ⟨e,matR w J ++ [.cells (qr (List.replicate m 0))]⟩) :
  T Tryz.prog 110 0 (.loop Zwr) ⟨envL [(0,.int .i64 ((m+1:Nat):Int)),(1,ls),(2,fs),(7,.osl none 0 0 c),(8,.int .i64 (i:Int)),(9,.osl (some 4) (1+c) 0 0),(10,.int .i64 1)],matR w J ++ [.cells []]⟩ K:=by
 have hmx:Tryz.prog.follows .mixedOrders=true:=by kernel_rfl
 refine Zae (fun k:Nat=>⟨envL [(0,.int .i64 ((m+1:Nat):Int)),(1,ls),(2,fs),(7,.osl none 0 0 c),(8,.int .i64 (i:Int)),(9,.osl (some 4) (1+c) 0 k),(10,.int .i64 ((k+1:Nat):Int))],matR w J ++ [.cells (qr (List.replicate k 0))]⟩)
  (fun k=>k≤m) (fun k=>m - k) 0 (by omega) (Zab _ (by simp only [go_sem]; simp)) (fun k hk N hN=>?_)
 unfold Zwr
 by_cases hkm:k<m
 ·have q1:((k+1:Nat):Int)<((m+1:Nat):Int):=by omega
  have e1:IntKind.i64.wrap (((k+1:Nat):Int)+1)=((k+1+1:Nat):Int):=by rw [Zac (by omega) (by omega)]; omega
  have l1:(qr (List.replicate k (0:Rat))).length=k*4:=by rw [Zr3,List.length_replicate]
  have l2:(qr (List.replicate k (0:Rat))).take (k*4)=qr (List.replicate k 0):=List.take_of_length_le (by omega)
  have s1:(k+1)*64≤1099511627776:=by omega
  have w0:=rwhole (v:=0) (by decide)
  have cl:(rc 0 1).length=4:=rfl
  have ct:(rc 0 1).take 4=rc 0 1:=rfl
  have cd:(rc 0 1).drop 4 = []:=rfl
  have gO:∀ (post:Heap) (t:Nat),(matR w J++post)[1+c+t]? = post[t]?:=fun post t=>Zfm hJ
  have gO0:∀ (post:Heap),(matR w J++post)[1+c]? = post[0]?:=fun post=>gO post 0
  have hlen:∀ post:Heap,(matR w J++post).length=1+c+post.length:=fun post=>by rw [Zhw,hJ]
  have hset:∀ (post:Heap) (t:Nat) (y:Blk),(matR w J++post).set (1+c+t) y=matR w J++post.set t y:=fun post t y=>by
   rw [List.set_append_right _ _ (by rw [Zax]; omega),Zax,hJ]
   congr 2; omega
  have hset0:∀ (post:Heap) (y:Blk),(matR w J++post).set (1+c) y=matR w J++post.set 0 y:=fun post y=>hset post 0 y
  have fin:∀ (e:Nat→AV) (b1 b2:Blk),Has e [(0,.int .i64 ((m+1:Nat):Int)),(1,ls),(2,fs),(7,.osl none 0 0 c),(8,.int .i64 (i:Int)),(9,.osl (some 4) (1+c+2) 0 (k+1)),(10,.int .i64 ((k+1+1:Nat):Int))]→N ⟨e,matR w J ++ [b1,b2,.cells (qr (List.replicate k 0)++rc 0 1)]⟩:=fun e b1 b2 he=>by
   rw [← Xgk]
   refine hN (k+1) _ (by omega) (by omega) (Zb8 (Y2a (m:=1+c) (K:=matR w J) (by rw [Zax,hJ]) (by omega) (fun f hf=>Y22 (by rw [hJ]; exact hf)) (fun f=>Yir _) _ he) ?_)
   simp only [List.map_cons,List.map_nil,AV.gc,hls,hfs]
   rw [Z2r.2,Z2r.1 0 (by omega)]
  simp only [go_sem,Ztc,Z8q,q1]
  refine Zaa w0 (by simp only [go_sem]) ?_
  simp only [go_sem,avR,List.append_assoc,hlen,gO,gO0,hset,hset0,cl,ct,cd,l1,l2,s1,Yad,e1]
  exact ⟨Nat.le_refl _,fin _ _ _ (by simp only [go_sem])⟩
 ·have hke:k=m:=by omega
  subst hke
  have q1:¬ ((k+1:Nat):Int)<((k+1:Nat):Int):=by omega
  simp only [go_sem,Ztc,q1]
  exact hK _ (by simp only [go_sem]) (by simp only [go_sem]) (by simp only [go_sem]) (by simp only [go_sem]) (by simp only [go_sem]) (by simp only [go_sem])
end GoAbs
namespace GoAbs
open Go Go.Proofs
theorem Y2n {a b:Rat}{k:Nat}(ha:Qb k a) (hb:Qb k b) (hk:k≤400000):∃ X,SpecV Tryz.prog Yg0 [.agg (rq a),.agg (rq b)] (.agg X)∧(∀ H ids,BVs H ids X X=True)∧SpecV Tryz.prog Zhr [.agg X] (.agg (rq (a+b))):=by
 have da:=a.den_pos
 have db:=b.den_pos
 have h1:=raddq ha.ib.1 ha.ib.2 hb.ib.1 hb.ib.2 (by omega)
 have h2:=rlow (k:=2*k+1) (Ib.add (k:=2*k) ((ha.ib.1.mul hb.ib.2).mono (by omega)) ((hb.ib.1.mul ha.ib.2).mono (by omega))) ((ha.ib.2.mul hb.ib.2).mono (by omega)) (Int.mul_pos (by omega) (by omega)) (by omega)
 rw [Y97 (q:=a) (w:=b) (by omega) (Rat.num_divInt_den _).symm] at h2
 exact ⟨_,h1,fun H ids=>Zfa,h2⟩
theorem Y8u {a b:Rat}{k:Nat}(ha:Qb k a) (hb:Qb k b) (hk:k≤400000):∃ X,SpecV Tryz.prog Z7h [.agg (rq a),.agg (rq b)] (.agg X)∧(∀ H ids,BVs H ids X X=True)∧SpecV Tryz.prog Zhr [.agg X] (.agg (rq (a - b))):=by
 have da:=a.den_pos
 have db:=b.den_pos
 have h1:=rsubq ha.ib.1 ha.ib.2 hb.ib.1 hb.ib.2 (by omega)
 have i2:Ib (2*k) (-(b.num*a.den)):=by have:=hb.ib.1.mul ha.ib.2; show Int.natAbs _<_; rw [Int.natAbs_neg]; exact (this.mono (by omega):Ib (2*k) _)
 have h2:=rlow (k:=2*k+1) (n:=a.num*b.den - b.num*a.den) (d:=(a.den:Int)*b.den) (by
  rw [Int.sub_eq_add_neg]
  exact Ib.add (k:=2*k) ((ha.ib.1.mul hb.ib.2).mono (by omega)) i2) ((ha.ib.2.mul hb.ib.2).mono (by omega)) (Int.mul_pos (by omega) (by omega)) (by omega)
 rw [q_sub'] at h2
 exact ⟨_,h1,fun H ids=>Zfa,h2⟩
theorem Yny {i a b k l:Nat}{x:Rat}{r:List Rat}(hr:Rb k r) (hx:Qb l x):Rb (k+2*(l+1)) (rowStep i a b x r):=by
 have one:∀ (r:List Rat) (k j:Nat),Rb k r→Rb (k+l+1) (r.set j (rget r j+x)):=fun r k j h y hy=>by
  rcases List.mem_or_eq_of_mem_set hy with h' | h'
  ·exact (h y h').mono (by omega)
  ·rw [h']
   by_cases hj:j<r.length
   ·exact (h.get hj).add2 hx
   ·have:r.set j (rget r j+x)=r:=List.set_eq_of_length_le (by omega)
    rw [this,h'] at hy
    exact (h _ hy).mono (by omega)
 have two:∀ (r:List Rat) (k j:Nat),Rb k r→Rb (k+l+1) (r.set j (rget r j - x)):=fun r k j h y hy=>by
  rcases List.mem_or_eq_of_mem_set hy with h' | h'
  ·exact (h y h').mono (by omega)
  ·rw [h']
   by_cases hj:j<r.length
   ·exact (h.get hj).sub2 hx
   ·have:r.set j (rget r j - x)=r:=List.set_eq_of_length_le (by omega)
    rw [this,h'] at hy
    exact (h _ hy).mono (by omega)
 unfold rowStep
 split
 ·split
  ·exact (one r k _ hr).mono (by omega)
  ·exact (two _ _ _ (one r k _ hr)).mono (by omega)
 ·split
  ·split
   ·exact (one r k _ hr).mono (by omega)
   ·exact (two _ _ _ (one r k _ hr)).mono (by omega)
  ·exact hr.mono (by omega)
theorem Yys {i m l:Nat}(hl:1≤l):∀ {E:List Sp},(∀ e,e∈E→Qb l e.2.2)→Rb (1+E.length*(2*(l+1))) (rowE i m E):=fun {E} hE=>by
 have main:∀ (E:List Sp) (r:List Rat) (k:Nat),(∀ e,e∈E→Qb l e.2.2)→Rb k r→Rb (k+E.length*(2*(l+1))) (E.foldl (fun r e=>rowStep i e.1 e.2.1 e.2.2 r) r):=fun E=>by
  induction E with
  | nil=>intro r k _ h; simpa using h
  | cons e E ih =>
   intro r k h hr
   rw [List.foldl_cons]
   refine (ih _ _ (fun x hx=>h x (by simp [hx])) (Yny hr (h e (by simp)))).mono ?_
   rw [List.length_cons,Nat.add_mul]; omega
 exact main E _ 1 hE (fun q hq=>by rw [(List.mem_replicate.1 hq).2]; exact Qb.zero (by omega))
end GoAbs
namespace GoAbs
open Go Go.Proofs
theorem Xgp {m i c w l:Nat}{L:List Spr}{ls:List AV}{fs:AV}{J:RM}(hls:ls=L.map sprAV) (hL:L.length≤1000) (hJ:J.length=c) (hm:m≤1000) (hi:1≤i) (him:i≤m) (hl1:1≤l) (hl:l≤1000) (hfs:∀ f,fs.gc f=fs)
  (hok:∀ s,s∈L→EndsOk ((m+1:Nat):Int) s.1 s.2.1∧s.2.2.length≤1000000000∧∃ q,parseL s.2.2=some q∧Qb l q) (hb:1+L.length*(2*(l+1))≤390000) {K:Ex→St→Prop}
  (hK:∀ e:Nat→AV,e 0 = .int .i64 ((m+1:Nat):Int)→e 1 = .sl ls→e 2=fs→e 7 = .osl none 0 0 c→e 8 = .int .i64 (i:Int)→e 9 = .osl (some 4) (1+c) 0 m→K (.exit 4) ⟨e,matR w J ++ [.cells (qr (rowE i m (L.map toE)))]⟩) :
  T Tryz.prog 110 0 (.loop Zun) ⟨envL [(0,.int .i64 ((m+1:Nat):Int)),(1,.sl ls),(2,fs),(7,.osl none 0 0 c),(8,.int .i64 (i:Int)),(9,.osl (some 4) (1+c) 0 m),(11,.int .i64 0)],matR w J ++ [.cells (qr (List.replicate m 0))]⟩ K:=by
 have hmx:Tryz.prog.follows .mixedOrders=true:=by kernel_rfl
 have hlsl:ls.length=L.length:=by rw [hls,List.length_map]
 refine Zae (fun t:Nat=>⟨envL [(0,.int .i64 ((m+1:Nat):Int)),(1,.sl ls),(2,fs),(7,.osl none 0 0 c),(8,.int .i64 (i:Int)),(9,.osl (some 4) (1+c) 0 m),(11,.int .i64 (t:Int))],matR w J ++ [.cells (qr (rowE i m ((L.take t).map toE)))]⟩)
  (fun t=>t≤L.length) (fun t=>L.length - t) 0 (by omega) (Zab _ (by simp only [go_sem]; simp)) (fun t ht N hN=>?_)
 unfold Zun
 by_cases htL:t<L.length
 ·obtain ⟨s,hs⟩:∃ s:Spr,L[t]? = some s:=⟨_,List.getElem?_eq_getElem htL⟩
  obtain ⟨⟨a0,a1,b0,b1,ab⟩,hlen,q,hq,hqb⟩:=hok s (List.mem_of_getElem? hs)
  obtain ⟨a,ha⟩:∃ a:Nat,s.1=a:=⟨s.1.toNat,by omega⟩
  obtain ⟨b,hb'⟩:∃ b:Nat,s.2.1=b:=⟨s.2.1.toNat,by omega⟩
  have hlsx:ls[t]? = some (.agg [.int .i64 (a:Int),.int .i64 (b:Int),.str (bs s.2.2)]):=by rw [hls,List.getElem?_map,hs, ← ha, ← hb']; rfl
  have hE:toE s=(a,b,q):=by unfold toE; rw [ha,hb',hq]; rfl
  have tk:rowE i m ((L.take (t+1)).map toE)=rowStep i a b q (rowE i m ((L.take t).map toE)):=by
   rw [List.take_add_one,hs,List.map_append]
   show rowE i m ((L.take t).map toE ++ [toE s])=_
   rw [Y0f,hE]
  have hrl:(rowE i m ((L.take t).map toE)).length=m:=Ybg
  have ho:=rof hlen hq
  have q0:(0:Int)≤(t:Int):=by omega
  have q1:(t:Int)<(L.length:Int):=by omega
  have e1:IntKind.i64.wrap ((t:Int)+1)=((t+1:Nat):Int):=by rw [Zac (by omega) (by omega)]; omega
  have hrb:Rb (1+L.length*(2*(l+1))) (rowE i m ((L.take t).map toE)):=(Yys (i:=i) (m:=m) hl1 (E:=(L.take t).map toE) (fun e he=>by
   obtain ⟨u,hu,rfl⟩:=List.mem_map.1 he
   obtain ⟨_,_,q',hq',hb'⟩:=hok u (List.mem_of_mem_take hu)
   have:(toE u).2.2=q':=by simp [toE,hq']
   rw [this]; exact hb')).mono (by
    rw [List.length_map,List.length_take]
    exact Nat.add_le_add_left (Nat.mul_le_mul_right _ (by omega)) _)
  generalize rowE i m ((L.take t).map toE)=r at *
  have fin:∀ (e:Nat→AV) (r':List Rat),rowStep i a b q r=r'→Has e [(0,.int .i64 ((m+1:Nat):Int)),(1,.sl ls),(2,fs),(7,.osl none 0 0 c),(8,.int .i64 (i:Int)),(9,.osl (some 4) (1+c) 0 m),(11,.int .i64 ((t+1:Nat):Int))]→N ⟨e,matR w J ++ [.cells (qr r'),.cells (rq q)]⟩:=fun e r' hr' he=>by
   refine hN (t+1) _ (by omega) (by omega) ?_
   rw [tk,hr',show matR w J ++ [Blk.cells (qr r'),Blk.cells (rq q)]=(matR w J ++ [.cells (qr r')]) ++ [.cells (rq q)] by simp]
   refine Zup (m:=1+c+1) (by rw [Zhw,hJ]; rfl) (Clo.append (Ytn (by omega)) (by unfold Clo; simp only [List.map_cons,List.map_nil,Blk.gc,Yir])) (by omega) _ he (fun p hp=>?_)
   simp only [List.mem_cons,List.not_mem_nil,or_false] at hp
   rcases hp with rfl | rfl | rfl | rfl | rfl | rfl | rfl
   ·rfl
   ·rfl
   ·exact hfs _
   ·simp only [AV.gc]; rw [Zbl (by omega)]
   ·rfl
   ·simp only [AV.gc]; rw [Zbl (by omega)]
   ·rfl
  by_cases h1:b=i
  ·have k1:(b:Int)=(i:Int):=by omega
   have h2:¬ a=i:=by omega
   have w1:IntKind.i64.wrap ((i:Int) - 1)=((i - 1:Nat):Int):=by rw [Zac (by omega) (by omega)]; omega
   have p0:(0:Int)≤((i - 1:Nat):Int):=by omega
   have p1:((i - 1:Nat):Int)<(m:Int):=by omega
   have t1:=Zfi (Zag (show i - 1<r.length by omega))
   have u1:=Zjs (Zag (show i - 1<r.length by omega))
   obtain ⟨X,x1,x2,x3⟩:=Y2n (k:=390000) ((hrb.get (j:=i - 1) (by omega)).mono hb) (hqb.mono (by omega)) (by omega)
   have gO:∀ (post:Heap) (t:Nat),(matR w J++post)[1+c+t]? = post[t]?:=fun post t=>Zfm hJ
   have gO0:∀ (post:Heap),(matR w J++post)[1+c]? = post[0]?:=fun post=>gO post 0
   have hlen':∀ post:Heap,(matR w J++post).length=1+c+post.length:=fun post=>by rw [Zhw,hJ]
   have hset:∀ (post:Heap) (t:Nat) (y:Blk),(matR w J++post).set (1+c+t) y=matR w J++post.set t y:=fun post t y=>by
    rw [List.set_append_right _ _ (by rw [Zax]; omega),Zax,hJ]
    congr 2; omega
   have hset0:∀ (post:Heap) (y:Blk),(matR w J++post).set (1+c) y=matR w J++post.set 0 y:=fun post y=>hset post 0 y
   have hfit:(i - 1)*4+4≤(qr r).length:=by rw [Zr3]; omega
   have hq4:rc q.num q.den=rq q:=rfl
   have bq:∀ (H:Heap) (ids:List Nat) (q:Rat),BVs H ids (rq q) (rq q)=True:=fun H ids q=>Zfa
   have c0:1+c<1+c+1+1:=by omega
   have c1:1+c+1<1+c+1+1:=by omega
   simp only [go_sem,Zgc,Zgd,Zi8,Z3w,Zjc,Zo5,hmx,q0,q1,hlsl,hlsx,k1]
   refine Zaa ho (by simp only [go_sem]) ?_
   simp only [go_sem,avR,hq4,Zdi,Zb2,Zdu,List.append_assoc,hlen',gO,gO0,hset,hset0,Zjd,hmx,w1,p0,p1,List.getElem?_drop,t1,u1,c0,c1]
   refine Zaa x1 (by simp only [go_sem,bq]) ?_
   simp only [go_sem]
   refine Zaa x3 (by simp only [go_sem,x2]) ?_
   simp only [go_sem,hlen',gO,gO0,hset,hset0,Zdi,Zb2,Zdu,p0,p1,c0,c1,hfit]
   rw [Ylw (by omega)]
   by_cases hb0:a=0
   ·have k3:¬ (a:Int) > 0:=by omega
    have hst:rowStep i a b q r=r.set (i - 1) (rget r (i - 1)+q):=by unfold rowStep; rw [if_neg h2,if_pos h1,if_pos hb0]
    simp only [go_sem,Zfe,k3,Zdd,e1]
    exact fin _ _ hst (by simp only [go_sem])
   ·have k3:(a:Int) > 0:=by omega
    have hst:rowStep i a b q r=(r.set (i - 1) (rget r (i - 1)+q)).set (a - 1) (rget (r.set (i - 1) (rget r (i - 1)+q)) (a - 1) - q):=by unfold rowStep; rw [if_neg h2,if_pos h1,if_neg hb0]
    have hrb1:Rb 392000 (r.set (i - 1) (rget r (i - 1)+q)):=fun y hy=>by
     rcases List.mem_or_eq_of_mem_set hy with h' | h'
     ·exact (hrb y h').mono (by omega)
     ·rw [h']; exact ((hrb.get (j:=i - 1) (by omega)).add2 hqb).mono (by omega)
    have hr1:(r.set (i - 1) (rget r (i - 1)+q)).length=m:=by rw [List.length_set,hrl]
    generalize r.set (i - 1) (rget r (i - 1)+q)=r1 at *
    have w2:IntKind.i64.wrap ((a:Int) - 1)=((a - 1:Nat):Int):=by rw [Zac (by omega) (by omega)]; omega
    have p2:(0:Int)≤((a - 1:Nat):Int):=by omega
    have p3:((a - 1:Nat):Int)<(m:Int):=by omega
    have t2:=Zfi (Zag (show a - 1<r1.length by omega))
    have u2:=Zjs (Zag (show a - 1<r1.length by omega))
    obtain ⟨Y,y1,y2,y3⟩:=Y8u (k:=392000) (hrb1.get (j:=a - 1) (by omega)) (hqb.mono (by omega)) (by omega)
    have hfit1:(a - 1)*4+4≤(qr r1).length:=by rw [Zr3]; omega
    simp only [go_sem,Zfe,k3,Zjf,hmx,hlen',gO,gO0,hset,hset0,Zdi,Zb2,Zdu,w2,p2,p3,List.getElem?_drop,t2,u2,c0,c1]
    refine Zaa y1 (by simp only [go_sem,bq]) ?_
    simp only [go_sem]
    refine Zaa y3 (by simp only [go_sem,y2]) ?_
    simp only [go_sem,hlen',gO,gO0,hset,hset0,Zdi,Zb2,Zdu,p2,p3,c0,c1,hfit1,Zdd,e1]
    rw [Ylw (by omega)]
    exact fin _ _ hst (by simp only [go_sem])
  ·by_cases h2:a=i
   ·have k1:¬ (b:Int)=(i:Int):=by omega
    have k2:(a:Int)=(i:Int):=by omega
    have w1:IntKind.i64.wrap ((i:Int) - 1)=((i - 1:Nat):Int):=by rw [Zac (by omega) (by omega)]; omega
    have p0:(0:Int)≤((i - 1:Nat):Int):=by omega
    have p1:((i - 1:Nat):Int)<(m:Int):=by omega
    have t1:=Zfi (Zag (show i - 1<r.length by omega))
    have u1:=Zjs (Zag (show i - 1<r.length by omega))
    obtain ⟨X,x1,x2,x3⟩:=Y2n (k:=390000) ((hrb.get (j:=i - 1) (by omega)).mono hb) (hqb.mono (by omega)) (by omega)
    have gO:∀ (post:Heap) (t:Nat),(matR w J++post)[1+c+t]? = post[t]?:=fun post t=>Zfm hJ
    have gO0:∀ (post:Heap),(matR w J++post)[1+c]? = post[0]?:=fun post=>gO post 0
    have hlen':∀ post:Heap,(matR w J++post).length=1+c+post.length:=fun post=>by rw [Zhw,hJ]
    have hset:∀ (post:Heap) (t:Nat) (y:Blk),(matR w J++post).set (1+c+t) y=matR w J++post.set t y:=fun post t y=>by
     rw [List.set_append_right _ _ (by rw [Zax]; omega),Zax,hJ]
     congr 2; omega
    have hset0:∀ (post:Heap) (y:Blk),(matR w J++post).set (1+c) y=matR w J++post.set 0 y:=fun post y=>hset post 0 y
    have hfit:(i - 1)*4+4≤(qr r).length:=by rw [Zr3]; omega
    have hq4:rc q.num q.den=rq q:=rfl
    have bq:∀ (H:Heap) (ids:List Nat) (q:Rat),BVs H ids (rq q) (rq q)=True:=fun H ids q=>Zfa
    have c0:1+c<1+c+1+1:=by omega
    have c1:1+c+1<1+c+1+1:=by omega
    simp only [go_sem,Zgc,Zgd,Zi8,Zjc,Zo5,hmx,q0,q1,hlsl,hlsx,k1,k2]
    refine Zaa ho (by simp only [go_sem]) ?_
    simp only [go_sem,avR,hq4,Zdi,Zb2,Zdu,List.append_assoc,hlen',gO,gO0,hset,hset0,Zjd,hmx,w1,p0,p1,List.getElem?_drop,t1,u1,c0,c1]
    refine Zaa x1 (by simp only [go_sem,bq]) ?_
    simp only [go_sem]
    refine Zaa x3 (by simp only [go_sem,x2]) ?_
    simp only [go_sem,hlen',gO,gO0,hset,hset0,Zdi,Zb2,Zdu,p0,p1,c0,c1,hfit]
    rw [Ylw (by omega)]
    by_cases hb0:b=0
    ·have k3:¬ (b:Int) > 0:=by omega
     have hst:rowStep i a b q r=r.set (i - 1) (rget r (i - 1)+q):=by unfold rowStep; rw [if_pos h2,if_pos hb0]
     simp only [go_sem,Zfe,k3,Zdd,e1]
     exact fin _ _ hst (by simp only [go_sem])
    ·have k3:(b:Int) > 0:=by omega
     have hst:rowStep i a b q r=(r.set (i - 1) (rget r (i - 1)+q)).set (b - 1) (rget (r.set (i - 1) (rget r (i - 1)+q)) (b - 1) - q):=by unfold rowStep; rw [if_pos h2,if_neg hb0]
     have hrb1:Rb 392000 (r.set (i - 1) (rget r (i - 1)+q)):=fun y hy=>by
      rcases List.mem_or_eq_of_mem_set hy with h' | h'
      ·exact (hrb y h').mono (by omega)
      ·rw [h']; exact ((hrb.get (j:=i - 1) (by omega)).add2 hqb).mono (by omega)
     have hr1:(r.set (i - 1) (rget r (i - 1)+q)).length=m:=by rw [List.length_set,hrl]
     generalize r.set (i - 1) (rget r (i - 1)+q)=r1 at *
     have w2:IntKind.i64.wrap ((b:Int) - 1)=((b - 1:Nat):Int):=by rw [Zac (by omega) (by omega)]; omega
     have p2:(0:Int)≤((b - 1:Nat):Int):=by omega
     have p3:((b - 1:Nat):Int)<(m:Int):=by omega
     have t2:=Zfi (Zag (show b - 1<r1.length by omega))
     have u2:=Zjs (Zag (show b - 1<r1.length by omega))
     obtain ⟨Y,y1,y2,y3⟩:=Y8u (k:=392000) (hrb1.get (j:=b - 1) (by omega)) (hqb.mono (by omega)) (by omega)
     have hfit1:(b - 1)*4+4≤(qr r1).length:=by rw [Zr3]; omega
     simp only [go_sem,Zfe,k3,Zjf,hmx,hlen',gO,gO0,hset,hset0,Zdi,Zb2,Zdu,w2,p2,p3,List.getElem?_drop,t2,u2,c0,c1]
     refine Zaa y1 (by simp only [go_sem,bq]) ?_
     simp only [go_sem]
     refine Zaa y3 (by simp only [go_sem,y2]) ?_
     simp only [go_sem,hlen',gO,gO0,hset,hset0,Zdi,Zb2,Zdu,p2,p3,c0,c1,hfit1,Zdd,e1]
     rw [Ylw (by omega)]
     exact fin _ _ hst (by simp only [go_sem])
   ·have hst:rowStep i a b q r=r:=by unfold rowStep; rw [if_neg h2,if_neg h1]
    have k1:¬ (b:Int)=(i:Int):=by omega
    have k2:¬ (a:Int)=(i:Int):=by omega
    simp only [go_sem,Zgc,Zgd,Zi8,Zjc,Zdd,hmx,q0,q1,hlsl,hlsx,k1,k2,e1]
    refine hN (t+1) _ (by omega) (by omega) (Zb8 (Zab [(0,.int .i64 ((m+1:Nat):Int)),(1,.sl ls),(2,fs),(7,.osl none 0 0 c),(8,.int .i64 (i:Int)),(9,.osl (some 4) (1+c) 0 m),(11,.int .i64 ((t+1:Nat):Int))] (by simp only [go_sem])) (by rw [tk,hst]))
 ·have hte:t=L.length:=by omega
  subst hte
  have q1:¬ ((L.length:Nat):Int)<(L.length:Int):=by omega
  simp only [go_sem,Zgc,q1,hlsl,List.take_length]
  exact hK _ (by simp only [go_sem]) (by simp only [go_sem]) (by simp only [go_sem]) (by simp only [go_sem]) (by simp only [go_sem]) (by simp only [go_sem])
end GoAbs
namespace GoAbs
open Go Go.Proofs
set_option exponentiation.threshold 20000
def lt1 (a b i:Nat):List UInt8:=if i=b then [45,49] else if i=a then [49] else [48]
theorem Xab {H:Heap}{ids:List Nat}{b:Nat}{L:List (List UInt8)}(hb:H[b]? = some (.cells (txts L))) (hi:b∈ids):BV H ids (.osl none b 0 L.length) (.sl (txts L)):=by
 refine .osl none b 0 L.length (txts L) (txts L) hb hi (Zbv L) (fun y hy=>?_) (by rw [Zbv]; simp [es]) (fun i y j z w hy hz hw=>?_)
 ·obtain ⟨c,_,rfl⟩:=List.mem_map.1 hy; rfl
 ·obtain ⟨c,_,rfl⟩:=List.mem_map.1 (List.mem_of_getElem? hy)
  have hj:j=0:=by
   have:=(List.getElem?_eq_some_iff.1 hz).1
   simp [AV.cells] at this; omega
  subst hj
  simp [AV.cells] at hz
  subst hz
  simp [es] at hw
  rw [hy] at hw
  cases hw
  exact .str _
theorem Xb3 {f:Nat→Option Nat}{L:List (List UInt8)}:gcL f (txts L)=txts L:=by
 rw [Zat]; unfold txts; rw [List.map_map]; rfl
end GoAbs
namespace GoAbs
open Go Go.Proofs
set_option exponentiation.threshold 20000
theorem Yrv {m:Nat}{E:List Sp}{f:List Rat}(h:NetC (m+1) E) (hf:f.length=m+1):Sol (m+1) E (rget (moveX m E f)) (rget f):=fun i hi=>by
 obtain ⟨hp,hP,hI⟩:=Yd6 h.ok
 have hd:=h.dt.1
 have hi':=List.mem_range'_1.1 hi
 have hs:=(Z4a (m:=m) (E:=E) (r:=f.drop 1) (fun e he=>⟨by have:=(hI e he).1; omega,by have:=(hI e he).2; omega,(h.ok.e e he).2.2.1,hP e he⟩) (by rw [List.length_drop]; omega) hd).2.2.2 i (by rw [List.mem_range'_1]; omega)
 rw [Zt3,show i - 1+1=i by omega] at hs
 exact hs
theorem Y1v {m:Nat}{E:List Sp}{f:List Rat}:rget (moveX m E f) 0=0:=rfl
theorem Z44 {m:Nat}{E:List Sp}{f:List Rat}:(moveX m E f).length=m+1:=by unfold moveX; rw [List.length_cons,Zlv]
theorem Y50 {m p q:Nat}{x:Nat→Rat}(hp:p<m+1) (hq:q<m+1) (h0:x 0=0):dotN (m+1) (edge p q) x=x p - x q:=by
 unfold dotN
 exact Ylm (by omega) (by omega) h0
def Gr (n:Nat) (E:List Sp) (a b:Nat):Rat:=if a=b then 0 else oneF n a b E
theorem Y60 {n a b:Nat}{E:List Sp}:Rr n E a b=Gr n E a b / Fsum n id (n - 1) E:=by
 unfold Rr Gr; split
 ·grind
 ·rfl
theorem NetL.netC {n:Nat}{L:List Spr}(h:NetL n L) (h2:2≤n) (h6:n≤6) (hc:connE n (L.map toE)):NetC n (L.map toE):=⟨(h.read h2 h6).2,hc⟩
theorem Yu7 {k:Nat}{q:Rat}(h:Qb k q) (hk:k≤12000):NumOk q:=by
 have e:2 ^ k≤10 ^ 4000:=by
  have h1:2 ^ k≤2 ^ 12000:=Nat.pow_le_pow_right (by omega) hk
  have h2:2 ^ 12000=8 ^ 4000:=by rw [show (8:Nat)=2 ^ 3 by decide, ← Nat.pow_mul]
  have h3:8 ^ 4000≤10 ^ 4000:=Nat.pow_le_pow_left (by omega) _
  rw [h2] at h1
  exact Nat.le_trans h1 h3
 exact ⟨Yi0 (by omega) (Nat.lt_of_lt_of_le h.n e),.inr (Yi0 (by omega) (Nat.lt_of_lt_of_le h.d e))⟩
theorem Yuh {n i:Nat}{f:Nat→Rat}(hi:i<n):rget ((List.range n).map f) i=f i:=by
 unfold rget
 rw [List.getD_eq_getElem?_getD,List.getElem?_map,List.getElem?_range hi]; rfl
end GoAbs
namespace GoAbs
open Go Go.Proofs
theorem Y7p {T:RM}{n i c:Nat}(h:c<i):rget (solR T n i) c=mget T c n / mget T c c:=by
 unfold solR; exact Yuh h
theorem Yql {m:Nat}{E:List Sp}{f:List Rat}(h:NetC (m+1) E) (hf:f.length=m+1) :
  Piv m 0 (aug (lapl m E) (f.drop 1))∧Wid (m+1) (aug (lapl m E) (f.drop 1))∧(aug (lapl m E) (f.drop 1)).length=m∧(∀ i,i<m→mget (jorN m 0 (aug (lapl m E) (f.drop 1))) i i≠0) ∧
  (0:Rat)::solR (jorN m 0 (aug (lapl m E) (f.drop 1))) m m=moveX m E f:=by
 obtain ⟨hp,hP,hI⟩:=Yd6 h.ok
 have hE:∀ e,e∈E→e.1≤m∧e.2.1≤m∧e.1≠e.2.1:=fun e he=>⟨by have:=(hI e he).1; omega,by have:=(hI e he).2; omega,(h.ok.e e he).2.2.1⟩
 obtain ⟨lW,lL⟩:=Zdc (m:=m) (E:=E)
 have hr:(f.drop 1).length=m:=by rw [List.length_drop]; omega
 have aW:=Yio (r:=f.drop 1) lW
 have aL:(aug (lapl m E) (f.drop 1)).length=m:=by rw [Z1p (by rw [hr,lL]),lL]
 have ag:=fun i hi=>Ya4 (M:=lapl m E) (r:=f.drop 1) (m:=m) (i:=i) lL lW hr hi
 have hs:=Yrv (m:=m) (E:=E) (f:=f) h hf
 have hj:=Ysz (m:=m) (x:=rget (moveX m E f)) (k:=m) (c:=0) (M:=aug (lapl m E) (f.drop 1)) (A:=Lm id E) (by omega) aL aW (Zwp (p:=id) hP) h.dt.1
  (fun i j _ hi _ hj=>by rw [(ag i hi).1 j hj,Z2v hE]) (fun i j _ hj _=>by omega) (fun j hj=>by omega)
  (fun i hi=>by
   rw [(ag i hi).2,Zt3, ← hs (i+1) (by show i+1∈List.range' 1 (m+1 - 1); rw [List.mem_range'_1]; omega)]
   show _=sumL (List.range' 1 (m+1 - 1)) _
   rw [Nat.add_sub_cancel]
   refine Zai (fun j hj=>?_)
   have hj':=List.mem_range'_1.1 hj
   rw [(ag i hi).1 (j - 1) (by omega),Z2v hE,show j - 1+1=j by omega])
 refine ⟨hj.1,aW,aL,fun i hi=>(hj.2.2 i hi).1,?_⟩
 have hl:((0:Rat)::solR (jorN m 0 (aug (lapl m E) (f.drop 1))) m m).length=m+1:=by simp [solR]
 apply List.ext_getElem?
 intro i
 by_cases hi:i<m+1
 ·rw [Zag (by omega),Zag (by rw [Z44]; exact hi)]
  congr 1
  cases i with
  | zero=>rfl
  | succ i =>
   show rget (solR _ m m) i=_
   rw [Y7p (by omega),(hj.2.2 i (by omega)).2]
 ·rw [List.getElem?_eq_none (by omega),List.getElem?_eq_none (by rw [Z44]; omega)]
theorem Y7z {k:Nat}{M:RM}{r:List Rat}(hM:Mb k M) (hr:Rb k r):Mb k (aug M r):=fun row h=>by
 unfold aug at h
 obtain ⟨i,hi,rfl⟩:=List.mem_iff_getElem.1 h
 rw [List.length_zipWith] at hi
 rw [List.getElem_zipWith]
 intro x hx
 rcases List.mem_append.1 hx with h' | h'
 ·exact hM _ (List.getElem_mem _) x h'
 ·rw [List.mem_singleton.1 h']; exact hr _ (List.getElem_mem _)
def rowsM (m:Nat) (E:List Sp) (f:List Rat) (c:Nat):RM:=(List.range c).map fun i=>rowE (i+1) m E ++ [rget f (i+1)]
theorem Zuz {m c:Nat}{E:List Sp}{f:List Rat}:(rowsM m E f c).length=c:=by simp [rowsM]
theorem Yuk {m c:Nat}{E:List Sp}{f:List Rat}:rowsM m E f (c+1)=rowsM m E f c ++ [rowE (c+1) m E ++ [rget f (c+1)]]:=by unfold rowsM; rw [List.range_succ,List.map_append]; rfl
theorem Y0m {m:Nat}{E:List Sp}{f:List Rat}(hE:∀ e,e∈E→e.1≤m∧e.2.1≤m∧e.1≠e.2.1) (hf:f.length=m+1):rowsM m E f m=aug (lapl m E) (f.drop 1):=by
 obtain ⟨lW,lL⟩:=Zdc (m:=m) (E:=E)
 have hr:(f.drop 1).length=m:=by rw [List.length_drop]; omega
 have aL:(aug (lapl m E) (f.drop 1)).length=m:=by rw [Z1p (by rw [hr,lL]),lL]
 apply List.ext_getElem?
 intro i
 by_cases hi:i<m
 ·rw [Yo5 (Yz6 hi hE) (Zag (r:=f.drop 1) (by omega)),Zt3]
  unfold rowsM
  rw [List.getElem?_map,List.getElem?_range hi]; rfl
 ·rw [List.getElem?_eq_none (by rw [Zuz]; omega),List.getElem?_eq_none (by omega)]
end GoAbs
