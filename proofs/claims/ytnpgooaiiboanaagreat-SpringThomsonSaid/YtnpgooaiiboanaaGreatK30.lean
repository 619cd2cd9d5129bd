/- Lemmas for the claim (contracts of the functions that it reaches, and what they compute), without conditions. -/
import Derived.Test.YtnpgooaiiboanaaGreatK29
set_option linter.unusedVariables false
set_option linter.unusedSimpArgs false
set_option maxRecDepth 10000
set_option maxHeartbeats 2000000
namespace GoAbs
open Go Go.Proofs
end GoAbs
namespace GoAbs
open Go Go.Proofs
end GoAbs
namespace GoAbs
open Go Go.Proofs
theorem Xca {nt n0 i:Nat}{e:Nat→AV}{Q:Ex→St→Prop}{a b n:Int}{s:ByteArray}{z PC SC c:List AV}(hi:i≤1000000000) (e6:e 6 = .ptr 1 0) (e10:e 10 = .ptr 4 0) (e11:e 11 = .ptr 5 0)
  (hP:PC.length=i*2) (hS:SC.length=i*4) (hc:c.length=4)
  (hQ:∀ e',e' 0=e 0→e' 4=e 4→e' 6=e 6→e' 7=e 7→e' 8=e 8→e' 26=e 26→e' 27=e 27→e' 28=e 28 →
   Q .normal ⟨e',[.cells z,.cells [.int .i64 n,.osl (some 2) 7 0 (i+1),.osl (some 4) 9 0 (i+1)],.dead,.dead,.cells [.int .i64 a,.int .i64 b,.str s],.cells c,.cells [.int .i64 a,.int .i64 b],.cells (PC ++ [.int .i64 a,.int .i64 b]),.cells c,.cells (SC++c)]⟩) :
  T Tryz.prog nt n0 (.rg true Zbc) ⟨e,[.cells z,.cells [.int .i64 n,.osl (some 2) 2 0 i,.osl (some 4) 3 0 i],.cells PC,.cells SC,.cells [.int .i64 a,.int .i64 b,.str s],.cells c]⟩ Q:=by
 have hm:Tryz.prog.follows .mixedOrders=true:=by kernel_rfl
 refine Z93 hm (fun t b=>(t=1∧b=2)∨(t=3∧b=3)∨(t=4∧b=1)) 4 ?_
 have b1:((i:Int)+1)*16≤1099511627776:=by omega
 have b2:(i+1)*16≤1099511627776:=by omega
 have b3:(i+1)*64≤1099511627776:=by omega
 have t1:PC.take (i*2)=PC:=List.take_of_length_le (by omega)
 have t2:SC.take (i*4)=SC:=List.take_of_length_le (by omega)
 have t3:c.take 4=c:=List.take_of_length_le (by omega)
 have l1:i*2≤PC.length:=by omega
 have l2:i*4≤SC.length:=by omega
 have l3:4≤c.length:=by omega
 have d4:c.drop 4 = []:=List.drop_eq_nil_of_le (by omega)
 simp only [go_sem,Zbc,e6,e10,e11,b2,b3,t1,t2,t3,l1,l2,l3,hc,d4,List.cons_append,List.nil_append]
 exact hQ _ (by simp only [go_sem]) (by simp only [go_sem]) (by simp only [go_sem]) (by simp only [go_sem]) (by simp only [go_sem]) (by simp only [go_sem]) (by simp only [go_sem]) (by simp only [go_sem])
theorem Yjt {l:List UInt8}(hl:l.length≤1000000000):∃ c t,c.length=4∧(∀ f,gcL f c=c)∧(BVs [] [] c c=True)∧SpecV Tryz.prog Zj6 [.str (bs l)] (.tup [.agg c,.bool t]) ∧
  ((t=true∧∃ q,parseL l=some q∧c=qcell q)∨(t=false∧parseL l=none)):=by
 cases hp:parseL l with
 | some q=>exact ⟨qcell q,true,rfl,fun f=>Y36,Zan,Ytg hl hp,.inl ⟨rfl,q,rfl,rfl⟩⟩
 | none =>
  obtain ⟨x,hx,hs⟩:=Yra hl hp
  rcases hx with rfl | ⟨n,d,rfl⟩
  ·exact ⟨_,false,rfl,fun f=>rfl,by simp only [go_sem],hs,.inr ⟨rfl,rfl⟩⟩
  ·exact ⟨_,false,rfl,fun f=>rfl,by simp only [go_sem],hs,.inr ⟨rfl,rfl⟩⟩
def sprOk (n:Int) (s:Spr):Bool:=decide (EndsOk n s.1 s.2.1) && (match parseL s.2.2 with | some q=>decide (StiffOk q) | none=>true)
def pairC (s:Spr):List AV := [.int .i64 s.1,.int .i64 s.2.1]
theorem Xdx {z ls:List AV}{n:Int}{L:List Spr}{f0:Bool}(hls:ls=L.map sprAV) (hL:L.length≤1000000000) (hl:∀ s,s∈L→s.2.2.length≤1000000000) (hz:∀ f,gcL f z=z) {K:Ex→St→Prop}
  (hK:∀ (e:Nat→AV) (X:List (List AV)),X.length=L.length→(∀ c,c∈X→c.length=4)→(∀ (j:Nat) (s:Spr) (q:Rat),L[j]? = some s→parseL s.2.2=some q→X[j]? = some (qcell q)) →
   e 4 = .ptr 0 0→e 6 = .ptr 1 0→e 7 = .bool (L.all fun s=>(parseL s.2.2).isSome)→e 8 = .bool (f0 && L.all (sprOk n)) →
   K (.exit 0) ⟨e,[.cells z,.cells [.int .i64 n,.osl (some 2) 2 0 L.length,.osl (some 4) 3 0 L.length],.cells (L.flatMap pairC),.cells X.flatten]⟩) :
  T Tryz.prog 109 0 (.loop Ze5) ⟨envL [(0,.int .i64 n),(4,.ptr 0 0),(6,.ptr 1 0),(7,.bool true),(8,.bool f0),(26,.sl ls),(27,.int .i64 (L.length:Int)),(28,.int .i64 0)],
   [.cells z,.cells [.int .i64 n,.osl (some 2) 2 0 0,.osl (some 4) 3 0 0],.cells [],.cells []]⟩ K:=by
 refine Ybd (fun y:Nat×List (List AV)=>⟨envL [(0,.int .i64 n),(4,.ptr 0 0),(6,.ptr 1 0),(7,.bool ((L.take y.1).all fun s=>(parseL s.2.2).isSome)),(8,.bool (f0 && (L.take y.1).all (sprOk n))),(26,.sl ls),(27,.int .i64 (L.length:Int)),(28,.int .i64 (y.1:Int))],
   [.cells z,.cells [.int .i64 n,.osl (some 2) 2 0 y.1,.osl (some 4) 3 0 y.1],.cells ((L.take y.1).flatMap pairC),.cells y.2.flatten]⟩)
  (fun y=>y.1≤L.length∧y.2.length=y.1∧(∀ c,c∈y.2→c.length=4∧∀ f,gcL f c=c)∧(∀ (j:Nat) (s:Spr) (q:Rat),j<y.1→L[j]? = some s→parseL s.2.2=some q→y.2[j]? = some (qcell q))) (fun y=>L.length - y.1) (0,[])
  ⟨by simp,rfl,by simp,by simp⟩ (Zab _ (by simp only [go_sem]; simp)) (fun y hI N hN=>?_)
 obtain ⟨i,X⟩:=y
 obtain ⟨h1,h2,h3,h4⟩:=hI
 simp only at h1 h2 h3 h4 ⊢
 unfold Ze5
 by_cases hi:i<L.length
 ·obtain ⟨⟨a,b,l⟩,he⟩:∃ s:Spr,L[i]? = some s:=⟨_,List.getElem?_eq_getElem hi⟩
  have hll:=hl _ (List.mem_of_getElem? he)
  simp only at hll
  obtain ⟨c,t,hc,hcg,hcb,hsp,hct⟩:=Yjt hll
  have hlsi:ls[i]? = some (.agg [.int .i64 a,.int .i64 b,.str (bs l)]):=by
   rw [hls,List.getElem?_map,he]; rfl
  have tk:∀ p:Spr→Bool,(L.take (i+1)).all p=((L.take i).all p && p (a,b,l)):=fun p=>by
   rw [List.take_add_one,he]
   simp [List.all_append]
  have tkP:(L.take (i+1)).flatMap pairC=(L.take i).flatMap pairC ++ [.int .i64 a,.int .i64 b]:=by
   rw [List.take_add_one,he]
   simp [pairC]
  have hPl:((L.take i).flatMap pairC).length=i*2:=by
   have main:∀ M:List Spr,(M.flatMap pairC).length=M.length*2:=by
    intro M
    induction M with
    | nil=>rfl
    | cons x M ih=>rw [List.flatMap_cons,List.length_append,ih,List.length_cons]; show 2+_=_; omega
   rw [main,List.length_take]; omega
  have hSl:X.flatten.length=i*4:=by
   have main:∀ M:List (List AV),(∀ c,c∈M→c.length=4)→M.flatten.length=M.length*4:=by
    intro M hM
    induction M with
    | nil=>rfl
    | cons x M ih=>rw [List.flatten_cons,List.length_append,ih (fun c hc=>hM c (List.mem_cons_of_mem _ hc)),List.length_cons,hM x (by simp)]; omega
   rw [main X (fun c hc=>(h3 c hc).1),h2]
  have hSg:∀ f,gcL f X.flatten=X.flatten:=fun f=>by
   rw [Zaz,List.map_flatten]
   congr 1
   conv=>rhs; rw [← List.map_id X]
   exact List.map_congr_left fun c hc=>by rw [← Zaz,(h3 c hc).2]; rfl
  have hPg:∀ f,gcL f ((L.take i).flatMap pairC)=(L.take i).flatMap pairC:=fun f=>by
   rw [Zaz,List.map_flatMap]
   rfl
  have q0:(0:Int)≤(i:Int):=by omega
  have q1:(i:Int)<(L.length:Int):=by omega
  have e1:IntKind.i64.wrap ((i:Int)+1)=((i+1:Nat):Int):=by rw [Zac (by omega) (by omega)]; omega
  generalize hv:((L.take i).all fun s=>(parseL s.2.2).isSome)=v
  generalize hf:(f0 && (L.take i).all (sprOk n))=f
  have hv1:((L.take (i+1)).all fun s=>(parseL s.2.2).isSome)=(v && t):=by
   rw [tk,hv]
   rcases hct with ⟨rfl,q,hq,_⟩ | ⟨rfl,hq⟩ <;> simp [hq]
  have hf1:(f0 && (L.take (i+1)).all (sprOk n))=((f && decide (EndsOk n a b)) && (match parseL l with | some q=>decide (StiffOk q) | none=>true)):=by
   rw [tk, ← Bool.and_assoc,hf]
   simp only [sprOk,Bool.and_assoc]
  have t13:∀ e':Nat→AV,e' 0 = .int .i64 n→e' 4 = .ptr 0 0→e' 6 = .ptr 1 0→e' 7 = .bool (v && t)→e' 8 = .bool (f0 && (L.take (i+1)).all (sprOk n))→e' 26 = .sl ls→e' 27 = .int .i64 (L.length:Int)→e' 28 = .int .i64 (i:Int) →
    T Tryz.prog 109 0 (.rg false Zbm) ⟨e',[.cells z,.cells [.int .i64 n,.osl (some 2) 7 0 (i+1),.osl (some 4) 9 0 (i+1)],.dead,.dead,.cells [.int .i64 a,.int .i64 b,.str (bs l)],.cells c,.cells [.int .i64 a,.int .i64 b],.cells ((L.take i).flatMap pairC ++ [.int .i64 a,.int .i64 b]),.cells c,.cells (X.flatten++c)]⟩ (thenQ N K):=fun e' k0 k4 k6 k7 k8 k26 k27 k28=>by
   refine T_W ?_
   simp only [go_sem,Zbm,k28,e1]
   refine hN (i+1,X ++ [c]) _ ⟨hi,by simp [h2],fun d hd=>?_,fun j s q hj hs hp=>?_⟩ (by show L.length - (i+1)<L.length - i; omega) ?_
   ·rcases List.mem_append.1 hd with hd | hd
    ·exact h3 d hd
    ·simp at hd; subst hd; exact ⟨hc,hcg⟩
   ·by_cases hji:j<i
    ·show (X ++ [c])[j]? = _
     rw [List.getElem?_append_left (by omega)]
     exact h4 j s q hji hs hp
    ·have:j=i:=by simp only at hj; omega
     subst this
     rw [he] at hs
     cases hs
     show (X ++ [c])[j]? = _
     rw [List.getElem?_append_right (by omega),h2,Nat.sub_self]
     rcases hct with ⟨_,q',hq',rfl⟩ | ⟨_,hq'⟩
     ·simp only at hp
      rw [hq'] at hp; cases hp; rfl
     ·simp only at hp
      rw [hq'] at hp; cases hp
   ·refine Zdp (Zii [0,1,7,9] (by decide) (fun i hi=>by omega) [(0,.int .i64 n),(4,.ptr 0 0),(6,.ptr 1 0),(7,.bool (v && t)),(8,.bool (f0 && (L.take (i+1)).all (sprOk n))),(26,.sl ls),(27,.int .i64 (L.length:Int)),(28,.int .i64 ((i+1:Nat):Int))] (by simp only [go_sem,k0,k4,k6,k7,k8,k26,k27])) ?_
    have gA:∀ (f:Nat→Option Nat) (x y:List AV),gcL f (x++y)=gcL f x++gcL f y:=fun f x y=>by rw [Zaz,Zaz,Zaz,List.map_append]
    have g2:∀ f,gcL f [AV.int .i64 a,.int .i64 b] = [.int .i64 a,.int .i64 b]:=fun f=>rfl
    have hgz:=hz
    simp only [tkP,hv1,List.flatten_append,List.flatten_cons,List.flatten_nil,List.append_nil]
    congr 1
    simp only [List.map_cons,List.map_nil]
    show [Blk.cells (gcL _ z),Blk.cells [.int .i64 n,.osl (some 2) 2 0 (i+1),.osl (some 4) 3 0 (i+1)],Blk.cells (gcL _ ((L.take i).flatMap pairC ++ [.int .i64 a,.int .i64 b])),Blk.cells (gcL _ (X.flatten++c))]=_
    rw [hz,gA,gA,hPg,hSg,hcg,g2]
  have t12:∀ e':Nat→AV,e' 0 = .int .i64 n→e' 4 = .ptr 0 0→e' 6 = .ptr 1 0→e' 7 = .bool (v && t)→e' 8 = .bool (f0 && (L.take (i+1)).all (sprOk n))→e' 10 = .ptr 4 0→e' 11 = .ptr 5 0→e' 26 = .sl ls→e' 27 = .int .i64 (L.length:Int)→e' 28 = .int .i64 (i:Int) →
    T Tryz.prog 109 0 (.rg true Zbc) ⟨e',[.cells z,.cells [.int .i64 n,.osl (some 2) 2 0 i,.osl (some 4) 3 0 i],.cells ((L.take i).flatMap pairC),.cells X.flatten,.cells [.int .i64 a,.int .i64 b,.str (bs l)],.cells c]⟩ (blockQ 1 (thenQ (fun st'=>T Tryz.prog 109 0 (.rg false Zbm) st' (thenQ N K)) (thenQ N K))):=fun e' k0 k4 k6 k7 k8 k10 k11 k26 k27 k28 =>
   Xca (by omega) k6 k10 k11 hPl hSl hc (fun e2 j0 j4 j6 j7 j8 j26 j27 j28=>t13 e2 (j0.trans k0) (j4.trans k4) (j6.trans k6) (j7.trans k7) (j8.trans k8) (j26.trans k26) (j27.trans k27) (j28.trans k28))
  have t10:∀ e':Nat→AV,e' 0 = .int .i64 n→e' 4 = .ptr 0 0→e' 6 = .ptr 1 0→e' 7 = .bool (v && t)→e' 8 = .bool (f && decide (EndsOk n a b))→e' 10 = .ptr 4 0→e' 11 = .ptr 5 0→e' 12 = .bool t→e' 26 = .sl ls→e' 27 = .int .i64 (L.length:Int)→e' 28 = .int .i64 (i:Int) →
    T Tryz.prog 109 0 (.seq (.seq (.rg false Zd3) (.cond (.t 72) (.rg false Zbk) .skip)) (.rg true Zbc)) ⟨e',[.cells z,.cells [.int .i64 n,.osl (some 2) 2 0 i,.osl (some 4) 3 0 i],.cells ((L.take i).flatMap pairC),.cells X.flatten,.cells [.int .i64 a,.int .i64 b,.str (bs l)],.cells c]⟩ (blockQ 1 (thenQ (fun st'=>T Tryz.prog 109 0 (.rg false Zbm) st' (thenQ N K)) (thenQ N K))):=fun e' k0 k4 k6 k7 k8 k10 k11 k12 k26 k27 k28=>by
   refine Znw (Znw (T_W ?_))
   simp only [go_sem,Zd3,k12]
   rcases hct with ⟨rfl,q,hq,rfl⟩ | ⟨rfl,hq⟩
   ·refine Yxv ⟨fun _=>Xao (q:=q) (f:=f && decide (EndsOk n a b)) (Ysg hq) (by simp only [go_sem,k8]) (by simp only [go_sem,k11]) rfl (fun e2 j0 j4 j6 j7 j10 j11 j12 j26 j27 j28 j8=>?_),fun h=>by cases h⟩
    simp only [go_sem] at j0 j4 j6 j7 j10 j11 j12 j26 j27 j28
    exact t12 e2 (j0.trans k0) (j4.trans k4) (j6.trans k6) (j7.trans k7) (by rw [j8,hf1,hq]) (j10.trans k10) (j11.trans k11) (j26.trans k26) (j27.trans k27) (j28.trans k28)
   ·refine Yxv ⟨(fun h=>by cases h),fun _=>Y48 ?_⟩
    exact t12 _ (by simp only [go_sem,k0]) (by simp only [go_sem,k4]) (by simp only [go_sem,k6]) (by simp only [go_sem,k7]) (by simp only [go_sem,k8,hf1,hq]; simp) (by simp only [go_sem,k10]) (by simp only [go_sem,k11]) (by simp only [go_sem,k26]) (by simp only [go_sem,k27]) (by simp only [go_sem,k28])
  have t9:∀ e':Nat→AV,e' 0 = .int .i64 n→e' 4 = .ptr 0 0→e' 6 = .ptr 1 0→e' 7 = .bool (v && t)→e' 8 = .bool f→e' 10 = .ptr 4 0→e' 11 = .ptr 5 0→e' 12 = .bool t→e' 26 = .sl ls→e' 27 = .int .i64 (L.length:Int)→e' 28 = .int .i64 (i:Int) →
    T Tryz.prog 109 0 (.seq (.rg false Zax) (.seq (.seq (.rg false Zd3) (.cond (.t 72) (.rg false Zbk) .skip)) (.rg true Zbc))) ⟨e',[.cells z,.cells [.int .i64 n,.osl (some 2) 2 0 i,.osl (some 4) 3 0 i],.cells ((L.take i).flatMap pairC),.cells X.flatten,.cells [.int .i64 a,.int .i64 b,.str (bs l)],.cells c]⟩ (blockQ 1 (thenQ (fun st'=>T Tryz.prog 109 0 (.rg false Zbm) st' (thenQ N K)) (thenQ N K))):=fun e' k0 k4 k6 k7 k8 k10 k11 k12 k26 k27 k28 =>
   Znw (Xdy (a:=a) (b:=b) (n:=n) (s:=bs l) k0 k8 k10 rfl (fun e2 j0 j4 j6 j7 j10 j11 j12 j26 j27 j28 j8=>t10 e2 (j0.trans k0) (j4.trans k4) (j6.trans k6) (j7.trans k7) j8 (j10.trans k10) (j11.trans k11) (j12.trans k12) (j26.trans k26) (j27.trans k27) (j28.trans k28)))
  refine Zen 1 rfl ?_
  simp only [go_sem,Zj8,q1]
  refine Znw (Zsn (Zen 2 rfl ?_))
  have hd3:([AV.int .i64 a,.int .i64 b,.str (bs l)]:List AV).length=3:=rfl
  have t3:c.take 4=c:=List.take_of_length_le (by omega)
  have d4:c.drop 4 = []:=List.drop_eq_nil_of_le (by omega)
  simp only [go_sem,Zsc,Zsr,Zuw,q0,q1,hlsi]
  refine Zaa hsp (by simp only [go_sem]) ?_
  simp only [go_sem,hc]
  cases hvv:v with
  | true =>
   simp only [hvv,go_sem] at t9 ⊢
   exact t9 _ (by simp only [go_sem]) (by simp only [go_sem]) (by simp only [go_sem]) (by simp only [go_sem]; simp) (by simp only [go_sem]) (by simp only [go_sem]) (by simp only [go_sem]) (by simp only [go_sem]) (by simp only [go_sem]) (by simp only [go_sem]) (by simp only [go_sem])
  | false =>
   simp only [hvv,go_sem] at t9 ⊢
   exact t9 _ (by simp only [go_sem]) (by simp only [go_sem]) (by simp only [go_sem]) (by simp only [go_sem]; simp) (by simp only [go_sem]) (by simp only [go_sem]) (by simp only [go_sem]) (by simp only [go_sem]) (by simp only [go_sem]) (by simp only [go_sem]) (by simp only [go_sem])
 ·have hie:i=L.length:=by omega
  subst hie
  have q1:¬ ((L.length:Nat):Int)<(L.length:Int):=by omega
  refine T_W ?_
  simp only [go_sem,Zj8,q1,List.take_length]
  exact hK _ X h2 (fun c hc=>(h3 c hc).1) (fun j s q hj hp=>h4 j s q (List.getElem?_eq_some_iff.1 hj).1 hj hp) (by simp only [go_sem]) (by simp only [go_sem]) (by simp only [go_sem]) (by simp only [go_sem])
end GoAbs
namespace GoAbs
open Go Go.Proofs
def toE (s:Spr):Sp:=(s.1.toNat,s.2.1.toNat,(parseL s.2.2).getD 0)
def readR (n:Int) (L:List Spr):AV :=
 if (L.all fun s=>(parseL s.2.2).isSome)=false then .tup [.agg [.int .i64 0,.nils,.nils],.int .i64 2]
 else if (decide (2≤n∧n≤10∧L.length≤40) && L.all (sprOk n))=false then .tup [.agg [.int .i64 0,.nils,.nils],.int .i64 1]
 else .tup [.agg (netC n.toNat (L.map toE)),.int .i64 0]
theorem Zla {n:Int}{L:List Spr}(hL:L.length≤1000000000) (hl:∀ s,s∈L→s.2.2.length≤1000000000) :
  SpecV Tryz.prog Yfw [.int .i64 n,.sl (L.map sprAV)] (readR n L):=by
 obtain ⟨ls,hls⟩:∃ ls,ls=L.map sprAV:=⟨_,rfl⟩
 have hlsl:ls.length=L.length:=by rw [hls,List.length_map]
 rw [← hls]
 refine Zbr Ycf (by simp) (Zen 2 rfl ?_)
 unfold Z62
 have main:∀ (e:Nat→AV),e 0 = .int .i64 n→e 1 = .sl ls→e 4 = .ptr 0 0→e 6 = .ptr 1 0→e 7 = .bool true→e 8 = .bool (decide (2≤n∧n≤10∧L.length≤40)) →
   T Tryz.prog 109 0 (.seq (.seq (.rg false Zka) (.block 0 (.loop Ze5))) (.seq (.block 2 (.seq (.rg false Zb8) (.cond (.t 100) (.seq (.rg false Zif) .ret) (.seq (.rg false Zd2) (.cond (.t 104) (.seq (.rg false Zid) .ret) .skip))))) (.seq (.rg false Zig) .ret)))
    ⟨e,[.cells [.int .i64 0,.nils,.nils],.cells [.int .i64 n,.nils,.nils]]⟩ (retQ [.cell 4 (some 3),.tmp 5] (readR n L)):=fun e e0 e1 e4 e6 e7 e8=>by
  generalize hf0:decide (2≤n∧n≤10∧L.length≤40)=f0 at e8
  refine T_le (Yfa (Z76 (b:=1) (l' := [.int .i64 n,.osl (some 2) 2 0 0,.osl (some 4) 3 0 0]) rfl rfl (fun j x y hx hy=>?_)) (Yfa Yil Yil)) ?_
  ·match j,hx,hy with
   | 0,hx,hy=>simp at hx hy; subst hx; subst hy; exact .inl rfl
   | 1,hx,hy=>simp at hx hy; subst hx; subst hy; exact .inr ⟨rfl,_,_,_,rfl⟩
   | 2,hx,hy=>simp at hx hy; subst hx; subst hy; exact .inr ⟨rfl,_,_,_,rfl⟩
   | j+3,hx,hy=>simp at hx
  refine Znw (Znw (T_W ?_))
  simp only [go_sem,Zka,e1,hlsl]
  refine Zsn ?_
  refine Za2 [(0,.int .i64 n),(4,.ptr 0 0),(6,.ptr 1 0),(7,.bool true),(8,.bool f0),(26,.sl ls),(27,.int .i64 (L.length:Int)),(28,.int .i64 0)] (by simp only [go_sem,e0,e4,e6,e7,e8]) ?_
  refine Xdx hls hL hl (fun f=>rfl) (fun e X hX hc hq k4 k6 k7 k8=>?_)
  refine T_W ?_
  unfold readR
  rw [hf0]
  cases hv:(L.all fun s=>(parseL s.2.2).isSome) with
  | false =>
   rw [hv] at k7
   simp only [go_sem,Zb8,Zif,k7,k4]
  | true =>
   rw [hv] at k7
   cases hok:(f0 && L.all (sprOk n)) with
   | false =>
    rw [hok] at k8
    simp only [go_sem,Zb8,Zd2,Zid,k7,k8,k4]
   | true =>
    rw [hok] at k8
    simp only [go_sem,Zb8,Zd2,Zig,k7,k8,k4,k6]
    have hall:∀ s,s∈L→EndsOk n s.1 s.2.1:=fun s hs=>by
     have:=(Bool.and_eq_true_iff.1 hok).2
     have:=List.all_eq_true.1 this s hs
     unfold sprOk at this
     exact of_decide_eq_true (Bool.and_eq_true_iff.1 this).1
    have hn2:2≤n:=by
     have:=(Bool.and_eq_true_iff.1 hok).1
     rw [← hf0] at this
     exact (of_decide_eq_true this).1
    have hPs:(L.map pairC).map AV.agg=pairsL (L.map toE):=by
     unfold pairsL
     rw [List.map_map,List.map_map]
     refine List.map_congr_left fun s hs=>?_
     obtain ⟨g1,_,g3,_,_⟩:=hall s hs
     show AV.agg [.int .i64 s.1,.int .i64 s.2.1] = .agg [.int .i64 (s.1.toNat:Int),.int .i64 (s.2.1.toNat:Int)]
     rw [Int.toNat_of_nonneg g1,Int.toNat_of_nonneg g3]
    have hX2:X=(L.map toE).map fun e=>qcell e.2.2:=by
     apply List.ext_getElem?
     intro j
     by_cases hj:j<L.length
     ·have hs:L[j]? = some L[j]:=List.getElem?_eq_getElem hj
      have hsome:=List.all_eq_true.1 hv _ (List.mem_of_getElem? hs)
      obtain ⟨q,hq'⟩:=Option.isSome_iff_exists.1 hsome
      rw [hq j _ q hs hq',List.getElem?_map,List.getElem?_map,hs]
      show _=some (qcell ((parseL L[j].2.2).getD 0))
      rw [hq']; rfl
     ·rw [List.getElem?_eq_none (by omega),List.getElem?_eq_none (by simp; omega)]
    have hXs:X.map AV.agg=condsL (L.map toE):=by
     rw [hX2]; unfold condsL
     rw [List.map_map]; rfl
    have b1:=Yet (H := [Blk.cells [AV.int .i64 n,.osl (some 2) 2 0 L.length,.osl (some 4) 3 0 L.length],.cells [AV.int .i64 n,.osl (some 2) 2 0 L.length,.osl (some 4) 3 0 L.length],.cells (L.flatMap pairC),.cells X.flatten]) (ids:=allOf [Blk.cells [AV.int .i64 n,.osl (some 2) 2 0 L.length,.osl (some 4) 3 0 L.length],.cells [AV.int .i64 n,.osl (some 2) 2 0 L.length,.osl (some 4) 3 0 L.length],.cells (L.flatMap pairC),.cells X.flatten])
     (w:=2) (b:=2) (R:=L.map pairC) rfl (List.mem_range.2 (by simp)) (by rw [List.flatMap_def]) (fun c hc=>by obtain ⟨s,_,rfl⟩:=List.mem_map.1 hc; rfl) (fun c hc=>by obtain ⟨s,_,rfl⟩:=List.mem_map.1 hc; simp only [pairC,go_sem])
    have b2:=Yet (H := [Blk.cells [AV.int .i64 n,.osl (some 2) 2 0 L.length,.osl (some 4) 3 0 L.length],.cells [AV.int .i64 n,.osl (some 2) 2 0 L.length,.osl (some 4) 3 0 L.length],.cells (L.flatMap pairC),.cells X.flatten]) (ids:=allOf [Blk.cells [AV.int .i64 n,.osl (some 2) 2 0 L.length,.osl (some 4) 3 0 L.length],.cells [AV.int .i64 n,.osl (some 2) 2 0 L.length,.osl (some 4) 3 0 L.length],.cells (L.flatMap pairC),.cells X.flatten])
     (w:=4) (b:=3) (R:=X) rfl (List.mem_range.2 (by simp)) rfl hc (fun c hc'=>by
      rw [hX2] at hc'
      obtain ⟨e',_,rfl⟩:=List.mem_map.1 hc'
      rw [Zan]; trivial)
    rw [hPs,List.length_map] at b1
    rw [hXs,hX] at b2
    unfold netC
    rw [Int.toNat_of_nonneg (by omega)]
    exact .cons (.int _ _) (.cons b1 (.cons b2 .nil))
 have l2:(1:Nat)<2:=by omega
 by_cases c1:2≤n
 ·by_cases c2:n≤10
  ·have hc:decide (L.length≤40)=decide (2≤n∧n≤10∧L.length≤40):=by simp [c1,c2]
   by_cases c3:(L.length:Int)≤40
   ·simp only [go_sem,Zc2,Zc7,Zcy,c1,c2,c3,hlsl]
    exact main _ (by simp only [go_sem]) (by simp only [go_sem]) (by simp only [go_sem]) (by simp only [go_sem]) (by simp only [go_sem]) (by simp only [go_sem]; rw [← hc]; simp; omega)
   ·simp only [go_sem,Zc2,Zc7,Zcy,c1,c2,c3,hlsl]
    exact main _ (by simp only [go_sem]) (by simp only [go_sem]) (by simp only [go_sem]) (by simp only [go_sem]) (by simp only [go_sem]) (by simp only [go_sem]; rw [← hc]; simp; omega)
  ·simp only [go_sem,Zc2,Zc7,Zcy,c1,c2]
   exact main _ (by simp only [go_sem]) (by simp only [go_sem]) (by simp only [go_sem]) (by simp only [go_sem]) (by simp only [go_sem]) (by simp only [go_sem]; simp [c2])
 ·simp only [go_sem,Zc2,Zc7,Zcy,c1]
  exact main _ (by simp only [go_sem]) (by simp only [go_sem]) (by simp only [go_sem]) (by simp only [go_sem]) (by simp only [go_sem]) (by simp only [go_sem]; simp [c1])
end GoAbs
namespace GoAbs
set_option linter.unusedVariables false
def sumL (R:List Nat) (f:Nat→Rat):Rat:=match R with
 | []=>0
 | i::R=>f i+sumL R f
theorem Zg1 {f:Nat→Rat}:sumL [] f=0:=rfl
theorem Zal {i:Nat}{R:List Nat}{f:Nat→Rat}:sumL (i::R) f=f i+sumL R f:=rfl
theorem Zaf {R:List Nat}{f g:Nat→Rat}(h:∀ i,i∈R→f i=g i):sumL R f=sumL R g:=by
 induction R with
 | nil=>rfl
 | cons i R ih=>rw [Zal,Zal,h i (by simp),ih (fun j hj=>h j (by simp [hj]))]
theorem Zba {R:List Nat}{f g:Nat→Rat}:sumL R (fun i=>f i+g i)=sumL R f+sumL R g:=by
 induction R with
 | nil=>simp only [sumL]; grind
 | cons i R ih=>rw [Zal,Zal,Zal,ih]; grind
theorem Za0 {R:List Nat}{c:Rat}{f:Nat→Rat}:sumL R (fun i=>c*f i)=c*sumL R f:=by
 induction R with
 | nil=>simp only [sumL]; grind
 | cons i R ih=>rw [Zal,Zal,ih]; grind
theorem Zdu {R:List Nat}{f:Nat→Rat}(h:∀ i,i∈R→f i=0):sumL R f=0:=by
 induction R with
 | nil=>rfl
 | cons i R ih=>rw [Zal,h i (by simp),ih (fun j hj=>h j (by simp [hj]))]; grind
theorem Yav {R:List Nat}{f:Nat→Rat}(h:∀ i,i∈R→0≤f i):0≤sumL R f:=by
 induction R with
 | nil=>exact Rat.le_refl
 | cons i R ih =>
  rw [Zal]
  have h1:=h i (by simp)
  have h2:=ih (fun j hj=>h j (by simp [hj]))
  grind
theorem Yo1 (x:Rat):0≤x*x:=by
 rcases Rat.le_total (a:=0) (b:=x) with h | h
 ·exact Rat.mul_nonneg h h
 ·have:x*x=(-x)*(-x):=by grind
  rw [this]
  exact Rat.mul_nonneg (by grind) (by grind)
theorem Y58 {R:List Nat}{f:Nat→Rat}(h:sumL R (fun i=>f i*f i)=0):∀ i,i∈R→f i=0:=by
 induction R with
 | nil=>simp
 | cons i R ih =>
  rw [Zal] at h
  have h1:=Yo1 (f i)
  have h2:0≤sumL R (fun i=>f i*f i):=Yav (fun j _=>Yo1 (f j))
  intro j hj
  rcases List.mem_cons.1 hj with rfl | hj
  ·have h3:f j*f j=0:=by grind
   rcases Rat.mul_eq_zero.1 h3 with h | h <;> exact h
  ·exact ih (by grind) j hj
theorem Zjk {i r:Nat}{R:List Nat}(hi:i∈R) (hr:r ∉ R):¬ i=r:=fun e=>hr (by rw [← e]; exact hi)
abbrev Mat:=Nat→Nat→Rat
def Qf (R:List Nat) (A:Mat) (x:Nat→Rat):Rat:=sumL R fun i=>x i*sumL R fun j=>x j*A i j
structure Psd (R:List Nat) (A:Mat):Prop where
 sym:∀ i j,A i j=A j i
 pos:∀ x,0≤Qf R A x
def schur (r:Nat) (A:Mat):Mat:=fun i j=>A i j - A i r*A r j / A r r
def dt:List Nat→Mat→Rat
 | [],_=>1
 | r::R,A=>A r r*dt R (schur r A)
def gt:List Nat→Mat→(Nat→Rat)→Rat
 | [],_,_=>0
 | r::R,A,v=>v r*v r*dt R (schur r A)+A r r*gt R (schur r A) (fun i=>v i - v r*A i r / A r r)
def up1 (A:Mat) (K:Rat) (v:Nat→Rat):Mat:=fun i j=>A i j+K*(v i*v j)
theorem Zlb:∀ {R:List Nat}{A B:Mat},(∀ i j,i∈R→j∈R→A i j=B i j)→dt R A=dt R B
 | [],_,_,_=>rfl
 | r::R,A,B,h=>by
  have h0:=h r r (by simp) (by simp)
  unfold dt
  rw [h0]
  congr 1
  refine Zlb (fun i j hi hj=>?_)
  unfold schur
  rw [h0,h i j (by simp [hi]) (by simp [hj]),h i r (by simp [hi]) (by simp),h r j (by simp) (by simp [hj])]
theorem Zz5 {r:Nat}{R:List Nat}{A:Mat}{x:Nat→Rat}(hs:∀ i j,A i j=A j i) :
  Qf (r::R) A x=x r*x r*A r r+2*(x r*sumL R fun j=>x j*A r j)+Qf R A x:=by
 unfold Qf
 rw [Zal,Zal]
 have h1:(sumL R fun i=>x i*sumL (r::R) fun j=>x j*A i j)=(sumL R fun i=>x r*(x i*A r i))+sumL R fun i=>x i*sumL R fun j=>x j*A i j:=by
  rw [← Zba]
  refine Zaf (fun i _=>?_)
  rw [Zal,hs i r]
  grind
 rw [h1,Za0]
 grind
theorem Yn6 {R:List Nat}{A B:Mat}{x y:Nat→Rat}(h:∀ i j,i∈R→j∈R→A i j=B i j) (hx:∀ i,i∈R→x i=y i):Qf R A x=Qf R B y:=by
 unfold Qf
 refine Zaf (fun i hi=>?_)
 rw [hx i hi]
 congr 1
 exact Zaf (fun j hj=>by rw [hx j hj,h i j hi hj])
theorem Psd.head {r:Nat}{R:List Nat}{A:Mat}(h:Psd (r::R) A) (hr:r ∉ R):0≤A r r:=by
 have h1:=h.pos (fun i=>if i=r then 1 else 0)
 rw [Zz5 h.sym] at h1
 have h2:(sumL R fun j=>(if j=r then (1:Rat) else 0)*A r j)=0:=Zdu (fun i hi=>by
  simp only [if_neg (Zjk hi hr)]; grind)
 have h3:Qf R A (fun i=>if i=r then 1 else 0)=0:=Zdu (fun i hi=>by
  simp only [if_neg (Zjk hi hr)]; grind)
 rw [h2,h3] at h1
 simp only [if_true] at h1
 grind
theorem Psd.tail {r:Nat}{R:List Nat}{A:Mat}(h:Psd (r::R) A) (hr:r ∉ R):Psd R A:=by
 refine ⟨h.sym,fun x=>?_⟩
 have h1:=h.pos (fun i=>if i=r then 0 else x i)
 rw [Zz5 h.sym] at h1
 simp only [if_true] at h1
 have h2:Qf R A (fun i=>if i=r then 0 else x i)=Qf R A x:=Yn6 (fun _ _ _ _=>rfl) (fun i hi=>by simp only [if_neg (Zjk hi hr)])
 rw [h2] at h1
 grind
theorem Psd.bil {r:Nat}{R:List Nat}{A:Mat}(h:Psd (r::R) A) (hr:r ∉ R) (x:Nat→Rat) (t:Rat):0≤t*t*A r r+2*(t*sumL R fun j=>x j*A r j)+Qf R A x:=by
 have h1:=h.pos (fun i=>if i=r then t else x i)
 rw [Zz5 h.sym] at h1
 simp only [if_true] at h1
 have h2:Qf R A (fun i=>if i=r then t else x i)=Qf R A x:=Yn6 (fun _ _ _ _=>rfl) (fun i hi=>by simp only [if_neg (Zjk hi hr)])
 have h3:(sumL R fun j=>(if j=r then t else x j)*A r j)=sumL R fun j=>x j*A r j:=Zaf (fun i hi=>by simp only [if_neg (Zjk hi hr)])
 rw [h2,h3] at h1
 exact h1
theorem Psd.zero {r:Nat}{R:List Nat}{A:Mat}(h:Psd (r::R) A) (hr:r ∉ R) (h0:A r r=0):∀ j,j∈R→A r j=0:=by
 have key:∀ x:Nat→Rat,(sumL R fun j=>x j*A r j)=0:=fun x=>by
  have h1:=fun t=>h.bil hr x t
  rw [h0] at h1
  generalize (sumL R fun j=>x j*A r j)=b at h1
  generalize Qf R A x=q at h1
  by_cases hb:b=0
  ·exact hb
  ·have h2:=h1 (-(q+1) / (2*b))
   have h3 : -(q+1) / (2*b)*b = -(q+1) / 2:=by grind
   have h4:(2:Rat)*(-(q+1) / (2*b)*b) = -(q+1):=by rw [h3]; grind
   rw [h4] at h2
   exfalso
   grind
 exact Y58 (f:=fun j=>A r j) (key (fun j=>A r j))
theorem Z9l {r:Nat}{A:Mat}(h:∀ i j,A i j=A j i):∀ i j,schur r A i j=schur r A j i:=fun i j=>by
 unfold schur
 rw [h i j,h i r,h r j]; grind
theorem Psd.schur {r:Nat}{R:List Nat}{A:Mat}(h:Psd (r::R) A) (hr:r ∉ R):Psd R (schur r A):=by
 refine ⟨Z9l h.sym,fun x=>?_⟩
 have e1:Qf R (GoAbs.schur r A) x=Qf R A x - (sumL R fun j=>x j*A r j)*(sumL R fun j=>x j*A r j) / A r r:=by
  have inner:∀ i,(sumL R fun j=>x j*GoAbs.schur r A i j)=(sumL R fun j=>x j*A i j)+(-(A r i / A r r))*sumL R fun j=>x j*A r j:=fun i=>by
   rw [← Za0, ← Zba]
   refine Zaf (fun j _=>?_)
   unfold GoAbs.schur
   rw [h.sym i r]
   grind
  unfold Qf
  have outer:(sumL R fun i=>x i*sumL R fun j=>x j*GoAbs.schur r A i j)=(sumL R fun i=>x i*sumL R fun j=>x j*A i j)+(-((sumL R fun j=>x j*A r j) / A r r))*sumL R fun i=>x i*A r i:=by
   rw [← Za0, ← Zba]
   refine Zaf (fun i _=>?_)
   rw [inner i]
   grind
  rw [outer]; grind
 rw [e1]
 generalize hb:(sumL R fun j=>x j*A r j)=b
 by_cases h0:A r r=0
 ·have hz:=h.zero hr h0
  have:b=0:=by rw [← hb]; exact Zdu (fun j hj=>by rw [hz j hj]; grind)
  rw [this,h0]
  have:=(h.tail hr).pos x
  grind
 ·have h1:=h.bil hr x (-(b / A r r))
  rw [hb] at h1
  have h2 : -(b / A r r) * -(b / A r r)*A r r+2*(-(b / A r r)*b)+Qf R A x=Qf R A x - b*b / A r r:=by grind
  rw [h2] at h1
  exact h1
theorem Xbj {R:List Nat}{A:Mat}{K:Rat}{v x:Nat→Rat}:Qf R (up1 A K v) x=Qf R A x+K*((sumL R fun i=>x i*v i)*(sumL R fun i=>x i*v i)):=by
 unfold Qf
 have inner:∀ i,(sumL R fun j=>x j*up1 A K v i j)=(sumL R fun j=>x j*A i j)+(K*v i)*sumL R fun j=>x j*v j:=fun i=>by
  rw [← Za0, ← Zba]
  refine Zaf (fun j _=>?_)
  unfold up1
  grind
 have outer:(sumL R fun i=>x i*sumL R fun j=>x j*up1 A K v i j)=(sumL R fun i=>x i*sumL R fun j=>x j*A i j)+(K*sumL R fun j=>x j*v j)*sumL R fun i=>x i*v i:=by
  rw [← Za0, ← Zba]
  refine Zaf (fun i _=>?_)
  rw [inner i]
  grind
 rw [outer]; grind
theorem Psd.up1 {R:List Nat}{A:Mat}{K:Rat}{v:Nat→Rat}(h:Psd R A) (hK:0≤K):Psd R (up1 A K v):=by
 refine ⟨fun i j=>by unfold GoAbs.up1; rw [h.sym i j]; grind,fun x=>?_⟩
 rw [Xbj]
 have h1:=h.pos x
 have h2:=Rat.mul_nonneg hK (Yo1 (sumL R fun i=>x i*v i))
 grind
theorem Psd.zeroMat (R:List Nat):Psd R (fun _ _=>0):=⟨fun _ _=>rfl,fun x=>by
 have:Qf R (fun _ _=>0) x=0:=Zdu (fun i _=>by rw [Zdu (fun j _=>by grind)]; grind)
 rw [this]; exact Rat.le_refl⟩
theorem Yww (d t K m a b x y:Rat) (hd:d≠0) (hd':d+K*(t*t)≠0):m+K*(x*y) - (a+K*(x*t))*(b+K*(t*y)) / (d+K*(t*t))=(m - a*b / d)+K*d / (d+K*(t*t))*((x - t*a / d)*(y - t*b / d)):=by grind
theorem Yn3:∀ {R:List Nat}{A:Mat}{K:Rat}{v:Nat→Rat},R.Nodup→Psd R A→0≤K→dt R (up1 A K v)=dt R A+K*gt R A v
 | [],A,K,v,_,_,_=>by unfold dt gt; grind
 | r::R,A,K,v,hn,hp,hK=>by
  have hr:r ∉ R:=(List.nodup_cons.1 hn).1
  have hR:=(List.nodup_cons.1 hn).2
  have hd:=hp.head hr
  unfold dt gt
  by_cases h0:A r r=0
  ·have hz:=hp.zero hr h0
   have e0:up1 A K v r r=K*(v r*v r):=by unfold up1; rw [h0]; grind
   rw [e0,h0]
   by_cases hkv:K*(v r*v r)=0
   ·rw [hkv]; grind
   ·have:dt R (schur r (up1 A K v))=dt R (schur r A):=Zlb (fun i j hi hj=>by
     unfold schur
     rw [e0,h0]
     unfold up1
     rw [hp.sym i r,hz i hi,hz j hj]
     have h1:K≠0:=fun h=>hkv (by rw [h]; grind)
     have h2:v r≠0:=fun h=>hkv (by rw [h]; grind)
     grind)
    rw [this]; grind
  ·have hpos:0≤K*(v r*v r):=Rat.mul_nonneg hK (Yo1 _)
   have e0:up1 A K v r r=A r r+K*(v r*v r):=rfl
   have hd':A r r+K*(v r*v r)≠0:=by grind
   have hk:0≤K*A r r / (A r r+K*(v r*v r)):=by
    rw [Rat.div_def]
    exact Rat.mul_nonneg (Rat.mul_nonneg hK hd) (Rat.le_of_lt (Rat.inv_pos.2 (by grind)))
   have hs:dt R (schur r (up1 A K v))=dt R (up1 (schur r A) (K*A r r / (A r r+K*(v r*v r))) (fun i=>v i - v r*A i r / A r r)):=Zlb (fun i j hi hj=>by
    unfold schur
    rw [e0]
    unfold up1
    dsimp only
    rw [hp.sym r j]
    exact Yww _ _ _ _ _ _ _ _ h0 hd')
   rw [e0,hs,Yn3 hR (hp.schur hr) hk]
   generalize dt R (schur r A)=D
   generalize gt R (schur r A) _=G
   generalize A r r=d at *
   generalize v r=t at *
   grind
def con (a b:Nat) (A:Mat):Mat:=fun i j=>A i j+(if i=b then A a j else 0)+(if j=b then A i a else 0)+(if i=b then (if j=b then A a a else 0) else 0)
def edge (a b:Nat):Nat→Rat:=fun i=>(if i=a then 1 else 0) - (if i=b then 1 else 0)
theorem Xab (m d a b x y:Rat) (hd:d≠0):(m - a*b / d)+d*((0 - x - a / d)*(0 - y - b / d))=m+x*b+y*a+d*(x*y):=by grind
theorem Y87 {a b:Nat}{R:List Nat}{A:Mat}(hn:(a::R).Nodup) (hp:Psd (a::R) A) (hab:b≠a):gt (a::R) A (edge a b)=dt R (con a b A):=by
 have hr:a ∉ R:=(List.nodup_cons.1 hn).1
 have hR:=(List.nodup_cons.1 hn).2
 have hd:=hp.head hr
 have ea:edge a b a=1:=by unfold edge; rw [if_pos rfl,if_neg (fun h=>hab h.symm)]; grind
 unfold gt
 rw [ea]
 by_cases h0:A a a=0
 ·have hz:=hp.zero hr h0
  rw [h0]
  have:dt R (con a b A)=dt R (schur a A):=Zlb (fun i j hi hj=>by
   unfold con schur
   rw [h0,hp.sym i a,hz i hi,hz j hj]
   grind)
  rw [this]; grind
 ·have h1:=Yn3 (K:=A a a) (v:=fun i=>edge a b i - 1*A i a / A a a) hR (hp.schur hr) hd
  have h2:dt R (con a b A)=dt R (up1 (schur a A) (A a a) (fun i=>edge a b i - 1*A i a / A a a)):=Zlb (fun i j hi hj=>by
   have hi':=Zjk hi hr
   have hj':=Zjk hj hr
   unfold con up1 schur edge
   dsimp only
   rw [if_neg hi',if_neg hj',hp.sym a j]
   have:=Xab (A i j) (A a a) (A i a) (A j a) (if i=b then 1 else 0) (if j=b then 1 else 0) h0
   have e1:∀ u:Rat,u - 1*A i a / A a a=u - A i a / A a a:=fun u=>by grind
   have e2:∀ u:Rat,u - 1*A j a / A a a=u - A j a / A a a:=fun u=>by grind
   rw [e1,e2,this]
   split <;> split <;> grind)
  rw [h2,h1]; grind
theorem Yl1 {r:Nat}{R:List Nat}{A:Mat}(h:A r r=0):dt (r::R) A=0:=by
 unfold dt; rw [h]; grind
theorem Y5x (p q c m a b x y:Rat) (hp:p≠0) (hq:q≠0) (h1:q - c*c / p≠0) (h2:p - c*c / q≠0) :
  (m - a*x / p) - (b - a*c / p)*(y - c*x / p) / (q - c*c / p)=(m - b*y / q) - (a - b*c / q)*(x - c*y / q) / (p - c*c / q):=by
 have h3:p*q - c*c≠0:=fun h=>h1 (by grind)
 have e1:q - c*c / p=(p*q - c*c) / p:=by grind
 have e2:p - c*c / q=(p*q - c*c) / q:=by grind
 rw [e1,e2]
 grind
theorem Y9h {r s:Nat}{R:List Nat}{A:Mat}(hn:(r::s::R).Nodup) (hp:Psd (r::s::R) A):dt (r::s::R) A=dt (s::r::R) A:=by
 have hr:r ∉ s::R:=(List.nodup_cons.1 hn).1
 have hs:s ∉ R:=(List.nodup_cons.1 (List.nodup_cons.1 hn).2).1
 have hrs:r≠s:=fun h=>hr (by rw [h]; simp)
 have hrR:r ∉ R:=fun h=>hr (by simp [h])
 have hp':Psd (s::r::R) A:=by
  refine ⟨hp.sym,fun x=>?_⟩
  have h1:=hp.pos x
  have:Qf (s::r::R) A x=Qf (r::s::R) A x:=by
   rw [Zz5 hp.sym,Zz5 hp.sym,Zz5 hp.sym,Zz5 hp.sym,Zal,Zal,hp.sym s r]; grind
  rw [this]; exact h1
 have hsr:s ∉ r::R:=fun h=>by
  rcases List.mem_cons.1 h with h | h
  ·exact hrs h.symm
  ·exact hs h
 by_cases h0:A r r=0
 ·rw [Yl1 h0]
  have hz:=hp.zero hr h0 s (by simp)
  unfold dt dt schur
  rw [h0,hp.sym s r,hz]; grind
 ·by_cases h1:A s s=0
  ·rw [Yl1 (r:=s) h1]
   have hz:=hp'.zero hsr h1 r (by simp)
   unfold dt dt schur
   rw [h1,hp.sym r s,hz]; grind
  ·unfold dt dt
   by_cases h2:A s s - A s r*A r s / A r r=0
   ·have h3:A r r - A r s*A s r / A s s=0:=by grind
    have e1:schur r A s s=0:=h2
    have e2:schur s A r r=0:=h3
    rw [e1,e2]; grind
   ·have h3:A r r - A r s*A s r / A s s≠0:=fun h=>h2 (by grind)
    have e1:schur r A s s=A s s - A s r*A r s / A r r:=rfl
    have e2:schur s A r r=A r r - A r s*A s r / A s s:=rfl
    have e3:dt R (schur s (schur r A))=dt R (schur r (schur s A)):=Zlb (fun i j hi hj=>by
     unfold schur
     rw [hp.sym s r] at h2 h3 ⊢
     exact Y5x (A r r) (A s s) (A r s) (A i j) (A i r) (A i s) (A r j) (A s j) h0 h1 h2 h3)
    rw [e1,e2,e3]
    grind
theorem Y7x {R S:List Nat}{A:Mat}{x:Nat→Rat}(h:R.Perm S):Qf R A x=Qf S A x:=by
 have hsum:∀ {R S:List Nat} {f:Nat→Rat},R.Perm S→sumL R f=sumL S f:=fun {R S f} h=>by
  induction h with
  | nil=>rfl
  | cons a _ ih=>rw [Zal,Zal,ih]
  | swap a b l=>rw [Zal,Zal,Zal,Zal]; grind
  | trans _ _ ih1 ih2=>rw [ih1,ih2]
 unfold Qf
 rw [hsum h]
 exact Zaf (fun i _=>by rw [hsum h])
theorem Psd.perm {R S:List Nat}{A:Mat}(hp:Psd R A) (h:R.Perm S):Psd S A:=⟨hp.sym,fun x=>by rw [← Y7x h]; exact hp.pos x⟩
theorem Ywa {R S:List Nat}(h:R.Perm S):∀ {A:Mat},R.Nodup→Psd R A→dt R A=dt S A:=by
 induction h with
 | nil=>intro A _ _; rfl
 | cons a h ih =>
  intro A hn hp
  have hr:=(List.nodup_cons.1 hn).1
  unfold dt
  rw [ih (List.nodup_cons.1 hn).2 (hp.schur hr)]
 | swap a b l=>intro A hn hp; exact Y9h hn hp
 | trans h1 h2 ih1 ih2=>intro A hn hp; rw [ih1 hn hp,ih2 (h1.nodup_iff.1 hn) (hp.perm h1)]
abbrev MSp:=Nat×Nat×Rat
def Lm (p:Nat→Nat):List MSp→Mat
 | []=>fun _ _=>0
 | s::l=>up1 (Lm p l) s.2.2 (edge (p s.1) (p s.2.1))
def Pos (l:List MSp):Prop:=∀ s,s∈l→0≤s.2.2
theorem Zxh {p:Nat→Nat}{R:List Nat}:∀ {l:List MSp},Pos l→Psd R (Lm p l)
 | [],_=>Psd.zeroMat R
 | s::l,h=>(Zxh (fun t ht=>h t (by simp [ht]))).up1 (h s (by simp))
def mrg (p:Nat→Nat) (x y:Nat):Nat→Nat:=fun i=>if p i=x then y else p i
def Fsum (n:Nat) (p:Nat→Nat):Nat→List MSp→Rat
 | 0,_=>if ∀ i,i<n→p i=p 0 then 1 else 0
 | _+1,[]=>0
 | k+1,s::l=>Fsum n p (k+1) l+s.2.2*Fsum n (mrg p (p s.1) (p s.2.1)) k l
theorem Yoz {p:Nat→Nat}{x y a b i:Nat}(hxy:y≠x) (hi:i≠x):edge (mrg p x y a) (mrg p x y b) i=edge (p a) (p b) i+(if i=y then edge (p a) (p b) x else 0):=by
 unfold edge mrg
 by_cases h1:p a=x <;> by_cases h2:p b=x <;> by_cases h3:i=y <;> simp [h1,h2,h3,hi,hxy] <;> grind
theorem Yy9 {p:Nat→Nat}{x y i j:Nat}(hxy:y≠x) (hi:i≠x) (hj:j≠x):∀ {l:List MSp},Lm (mrg p x y) l i j=con x y (Lm p l) i j
 | []=>by unfold Lm con; split <;> split <;> grind
 | s::l=>by
  unfold Lm
  have ih:=Yy9 (p:=p) hxy hi hj (l:=l)
  unfold con up1 at *
  rw [ih,Yoz hxy hi,Yoz hxy hj]
  split <;> split <;> grind
structure Lab (n:Nat) (p:Nat→Nat) (g:Nat) (R:List Nat):Prop where
 nd:(g::R).Nodup
 mem:∀ i,i<n→p i=g∨p i∈R
 onto:∀ x,x∈g::R→∃ i,i<n∧p i=x
theorem Lab.mrg {n:Nat}{p:Nat→Nat}{g:Nat}{R:List Nat}(h:Lab n p g R) {x y:Nat}(hx:x∈R) (hy:y∈g::R) (hxy:y≠x):Lab n (mrg p x y) g (R.erase x):=by
 have hnd:=(List.nodup_cons.1 h.nd)
 refine ⟨List.nodup_cons.2 ⟨fun h1=>hnd.1 (List.mem_of_mem_erase h1),hnd.2.erase x⟩,fun i hi=>?_,fun z hz=>?_⟩
 ·unfold GoAbs.mrg
  split
  ·rcases List.mem_cons.1 hy with rfl | hy
   ·exact .inl rfl
   ·exact .inr ((List.mem_erase_of_ne hxy).2 hy)
  ·rename_i hpx
   rcases h.mem i hi with h1 | h1
   ·exact .inl h1
   ·exact .inr ((List.mem_erase_of_ne hpx).2 h1)
 ·have hz':z∈g::R∧z≠x:=by
   rcases List.mem_cons.1 hz with rfl | hz
   ·exact ⟨by simp,fun e=>hnd.1 (by rw [e]; exact hx)⟩
   ·exact ⟨List.mem_cons_of_mem _ (List.mem_of_mem_erase hz),fun e=>by subst e; exact (hnd.2.not_mem_erase) hz⟩
  obtain ⟨i,hi,hp⟩:=h.onto z hz'.1
  exact ⟨i,hi,by unfold GoAbs.mrg; rw [if_neg (by rw [hp]; exact hz'.2),hp]⟩
theorem Lab.mrg0 {n:Nat}{p:Nat→Nat}{g:Nat}{R:List Nat}(h:Lab n p g R) {y:Nat}(hy:y∈R):Lab n (GoAbs.mrg p g y) y (R.erase y):=by
 have hnd:=(List.nodup_cons.1 h.nd)
 have hyg:y≠g:=fun e=>hnd.1 (by rw [← e]; exact hy)
 refine ⟨List.nodup_cons.2 ⟨hnd.2.not_mem_erase,hnd.2.erase y⟩,fun i hi=>?_,fun z hz=>?_⟩
 ·unfold GoAbs.mrg
  split
  ·exact .inl rfl
  ·rename_i hpx
   rcases h.mem i hi with h1 | h1
   ·exact absurd h1 hpx
   ·by_cases e:p i=y
    ·exact .inl e
    ·exact .inr ((List.mem_erase_of_ne e).2 h1)
 ·have hz':z∈R:=by
   rcases List.mem_cons.1 hz with rfl | hz
   ·exact hy
   ·exact List.mem_of_mem_erase hz
  obtain ⟨i,hi,hp⟩:=h.onto z (by simp [hz'])
  exact ⟨i,hi,by unfold GoAbs.mrg; rw [if_neg (by rw [hp]; exact fun e=>hnd.1 (by rw [← e]; exact hz')),hp]⟩
theorem Z2m {a:Nat}:edge a a=fun _=>0:=by funext i; unfold edge; grind
theorem Ye3 {p:Nat→Nat}{x:Nat}:mrg p x x=p:=by funext i; unfold mrg; split <;> simp_all
theorem Ype {A:Mat}{K:Rat}:up1 A K (fun _=>0)=A:=by funext i j; unfold up1; grind
theorem Z2v {n:Nat}:∀ {l:List MSp}{k:Nat}{p:Nat→Nat}{g:Nat}{R:List Nat},(∀ s,s∈l→s.1<n∧s.2.1<n)→Lab n p g R→k<R.length→Fsum n p k l=0
 | l,0,p,g,R,hl,h,hk=>by
  have:¬ ∀ i,i<n→p i=p 0:=fun hall=>by
   obtain ⟨i,hi,hpi⟩:=h.onto g (by simp)
   obtain ⟨x,hx⟩:∃ x,x∈R:=by
    cases R with
    | nil=>simp at hk
    | cons x R=>exact ⟨x,by simp⟩
   obtain ⟨j,hj,hpj⟩:=h.onto x (by simp [hx])
   have:g=x:=by rw [← hpi, ← hpj,hall i hi,hall j hj]
   exact (List.nodup_cons.1 h.nd).1 (by rw [this]; exact hx)
  cases l <;> (unfold Fsum; rw [if_neg this])
 | [],k+1,p,g,R,hl,h,hk=>rfl
 | s::l,k+1,p,g,R,hl,h,hk=>by
  have hl':∀ t,t∈l→t.1<n∧t.2.1<n:=fun t ht=>hl t (by simp [ht])
  have hs:=hl s (by simp)
  unfold Fsum
  rw [Z2v hl' h hk]
  have:Fsum n (mrg p (p s.1) (p s.2.1)) k l=0:=by
   by_cases hxy:p s.2.1=p s.1
   ·rw [hxy,Ye3]
    exact Z2v hl' h (by omega)
   ·rcases h.mem _ hs.1 with h1 | h1
    ·rcases h.mem _ hs.2 with h2 | h2
     ·exact absurd (h2.trans h1.symm) hxy
     ·rw [h1]
      exact Z2v hl' (h.mrg0 h2) (by rw [List.length_erase_of_mem h2]; omega)
    ·have h2:p s.2.1∈g::R:=by
      rcases h.mem _ hs.2 with h2 | h2 <;> simp [h2]
     exact Z2v hl' (h.mrg h1 h2 hxy) (by rw [List.length_erase_of_mem h1]; omega)
  rw [this]; grind
theorem Yr0 {x:Nat}{R:List Nat}(h:x∈R):R.Perm (x::R.erase x):=List.perm_cons_erase h
theorem Yhg {R:List Nat}{A:Mat}{K:Rat}{x y:Nat}(hn:R.Nodup) (hp:Psd R A) (hK:0≤K) (hx:x∈R) (hxy:y≠x) :
  dt R (up1 A K (edge x y))=dt R A+K*dt (R.erase x) (con x y A):=by
 have hq:=Yr0 hx
 have hn':(x::R.erase x).Nodup:=hq.nodup_iff.1 hn
 rw [Ywa hq hn (hp.up1 hK),Ywa hq hn hp,Yn3 hn' (hp.perm hq) hK,Y87 hn' (hp.perm hq) hxy]
theorem Y04 {x y:Nat}{A:Mat}{K:Rat}:up1 A K (edge x y)=up1 A K (edge y x):=by funext i j; unfold up1 edge; grind
theorem Zpf {n:Nat}:∀ {l:List MSp}{p:Nat→Nat}{g:Nat}{R:List Nat},Pos l→(∀ s,s∈l→s.1<n∧s.2.1<n)→Lab n p g R→Fsum n p R.length l=dt R (Lm p l)
 | l,p,g,[],hpos,hl,h=>by
  have:∀ i,i<n→p i=p 0:=fun i hi=>by
   have h1:∀ i,i<n→p i=g:=fun i hi=>(h.mem i hi).elim id (fun h=>by simp at h)
   rw [h1 i hi,h1 0 (by omega)]
  cases l <;> (unfold Fsum; simp only [List.length_nil]; rw [if_pos this]; rfl)
 | [],p,g,r::R,hpos,hl,h=>by
  rw [Yl1 rfl]; rfl
 | s::l,p,g,r::R,hpos,hl,h=>by
  have hl':∀ t,t∈l→t.1<n∧t.2.1<n:=fun t ht=>hl t (by simp [ht])
  have hpos':Pos l:=fun t ht=>hpos t (by simp [ht])
  have hs:=hl s (by simp)
  have hK:=hpos s (by simp)
  have hnd:=List.nodup_cons.1 h.nd
  have ih:=Zpf hpos' hl' h
  have hlen:(r::R).length=R.length+1:=rfl
  rw [hlen] at ih ⊢
  unfold Fsum Lm
  rw [ih]
  by_cases hxy:p s.2.1=p s.1
  ·rw [hxy,Ye3,Z2m,Ype,Z2v hl' h (by simp)]; grind
  ·rcases h.mem _ hs.1 with h1 | h1
   ·rcases h.mem _ hs.2 with h2 | h2
    ·exact absurd (h2.trans h1.symm) hxy
    ·have hyg:p s.2.1≠g:=fun e=>hxy (e.trans h1.symm)
     have ih2:=Zpf hpos' hl' (h.mrg0 h2)
     have hlen2:((r::R).erase (p s.2.1)).length=R.length:=by rw [List.length_erase_of_mem h2]; rfl
     rw [hlen2] at ih2
     rw [Y04,h1,Yhg hnd.2 (Zxh hpos') hK h2 (fun e=>hyg e.symm),ih2]
     congr 2
     refine Zlb (fun i j hi hj=>?_)
     have hig:i≠g:=fun e=>hnd.1 (by rw [← e]; exact List.mem_of_mem_erase hi)
     have hjg:j≠g:=fun e=>hnd.1 (by rw [← e]; exact List.mem_of_mem_erase hj)
     have hiy:i≠p s.2.1:=fun e=>by rw [e] at hi; exact hnd.2.not_mem_erase hi
     have hjy:j≠p s.2.1:=fun e=>by rw [e] at hj; exact hnd.2.not_mem_erase hj
     rw [Yy9 hyg hig hjg]
     unfold con
     simp [hig,hjg,hiy,hjy]
   ·have h2:p s.2.1∈g::r::R:=by
     rcases h.mem _ hs.2 with h2 | h2
     ·simp [h2]
     ·exact List.mem_cons_of_mem _ h2
    have ih2:=Zpf hpos' hl' (h.mrg h1 h2 hxy)
    have hlen2:((r::R).erase (p s.1)).length=R.length:=by rw [List.length_erase_of_mem h1]; rfl
    rw [hlen2] at ih2
    rw [Yhg hnd.2 (Zxh hpos') hK h1 hxy,ih2]
    congr 2
    refine Zlb (fun i j hi hj=>?_)
    have hix:i≠p s.1:=fun e=>by rw [e] at hi; exact hnd.2.not_mem_erase hi
    have hjx:j≠p s.1:=fun e=>by rw [e] at hj; exact hnd.2.not_mem_erase hj
    exact Yy9 hxy hix hjx
end GoAbs
namespace GoAbs
def FG (f:(Nat→Nat)→Rat):(Nat→Nat)→Nat→List MSp→Rat
 | p,0,_=>f p
 | _,_+1,[]=>0
 | p,k+1,s::l=>FG f p (k+1) l+s.2.2*FG f (mrg p (p s.1) (p s.2.1)) k l
def allOne (n:Nat) (p:Nat→Nat):Rat:=if ∀ i,i<n→p i=p 0 then 1 else 0
theorem Zuj {n:Nat}:∀ {k:Nat}{l:List MSp}{p:Nat→Nat},Fsum n p k l=FG (allOne n) p k l
 | 0,l,p=>by unfold Fsum FG allOne; rfl
 | k+1,[],p=>by unfold Fsum FG; rfl
 | k+1,s::l,p=>by unfold Fsum FG; rw [Zuj (k:=k+1) (l:=l),Zuj (k:=k) (l:=l)]
def tieP (s:MSp) (p:Nat→Nat):Nat→Nat:=mrg p (p s.1) (p s.2.1)
theorem Zic {f:(Nat→Nat)→Rat}{p:Nat→Nat}{l:List MSp}:FG f p 0 l=f p:=by unfold FG; rfl
theorem Zy7 {f:(Nat→Nat)→Rat}{p:Nat→Nat}{k:Nat}:FG f p (k+1) []=0:=by unfold FG; rfl
theorem Zgn {f:(Nat→Nat)→Rat}{p:Nat→Nat}{k:Nat}{s:MSp}{l:List MSp}:FG f p (k+1) (s::l)=FG f p (k+1) l+s.2.2*FG f (tieP s p) k l:=by rw [FG]; rfl
theorem Z8r {f:(Nat→Nat)→Rat}{s:MSp}:∀ {l:List MSp}{k:Nat}{p:Nat→Nat},FG f p (k+1) (l ++ [s])=FG f p (k+1) l+s.2.2*FG (fun q=>f (tieP s q)) p k l
 | [],0,p=>by rw [List.nil_append,Zgn,Zy7,Zic,Zic]
 | [],k+1,p=>by rw [List.nil_append,Zgn,Zy7,Zy7,Zy7]
 | t::l,0,p=>by
  rw [List.cons_append,Zgn,Zgn,Z8r (l:=l) (k:=0),Zic,Zic,Zic,Zic]
  grind
 | t::l,k+1,p=>by
  rw [List.cons_append,Zgn,Zgn,Zgn,Z8r (l:=l) (k:=k+1),Z8r (l:=l) (k:=k)]
  grind
end GoAbs
namespace GoAbs
open Go Go.Proofs
def connE (n:Nat) (E:List Sp):Prop:=∀ i,i<n→(E.foldl (fun p e=>tieP e p) id) i=(E.foldl (fun p e=>tieP e p) id) 0
instance (n:Nat) (E:List Sp):Decidable (connE n E):=by unfold connE; infer_instance
end GoAbs
namespace GoAbs
open Go Go.Proofs
end GoAbs
namespace GoAbs
open Go Go.Proofs
theorem num_pos' {q:Rat}:0<q.num↔0<q:=by rw [Rat.lt_iff]; simp
end GoAbs
namespace GoAbs
open Go Go.Proofs
theorem Yj4 {H:Heap}{ids:List Nat}{n d:Int}:BVs H ids (rc n d) (rc n d)=True:=by
 unfold rc; simp only [go_sem]
def sC (s:Spr):List AV := [.int .i64 s.1,.int .i64 s.2.1,.str (bs s.2.2)]
def kD (L:List Spr) (j:Nat):Int:=(toE (L.getD j (0,0,[]))).2.2.den
theorem Xeb {q w:Rat}{wn wd:Int}(hd:wd≠0) (hw:w=Rat.divInt wn wd):Rat.divInt (q.num*wd+wn*q.den) (q.den*wd)=q+w:=by
 have hq:(q.den:Int)≠0:=by have:=q.den_pos; omega
 have:=Rat.divInt_add_divInt q.num wn hq hd
 rw [Rat.num_divInt_den, ← hw] at this
 exact this.symm
end GoAbs
namespace GoAbs
open Go Go.Proofs
end GoAbs
namespace GoAbs
open Go Go.Proofs
theorem Yxx {H:Heap}{ids:List Nat}{b:Nat}{L:List Spr}(hb:H[b]? = some (.cells (L.flatMap sC))) (hi:b∈ids):BV H ids (.osl (some 3) b 0 L.length) (.sl (L.map sprAV)):=by
 have:=Yet (H:=H) (ids:=ids) (w:=3) (b:=b) (R:=L.map sC) hb hi (by rw [List.flatMap_def]) (fun d hd=>by obtain ⟨j,_,rfl⟩:=List.mem_map.1 hd; rfl) (fun d hd=>by
  obtain ⟨j,_,rfl⟩:=List.mem_map.1 hd; exact .cons (.int _ _) (.cons (.int _ _) (.cons (.str _) .nil)))
 rw [List.length_map,List.map_map] at this
 exact this
end GoAbs
namespace GoAbs
open Go Go.Proofs
theorem Ywt {v n:Int}(hn:0<n) : -n<v.tmod n∧v.tmod n<n∧(v.tmod n+n).tmod n=v % n:=by
 have h1:=Int.emod_nonneg v (show n≠0 by omega)
 have h2:=Int.emod_lt_of_pos v hn
 have h3:v.tmod n=v % n∨v.tmod n=v % n - n:=by
  rw [Int.tmod_eq_emod]
  split
  ·left; omega
  ·right; rw [Int.natAbs_of_nonneg (by omega)]
 have h5:0≤v.tmod n+n:=by omega
 refine ⟨?_,by omega,?_⟩
 ·rcases h3 with h3 | h3
  ·omega
  ·rcases Int.lt_or_eq_of_le h1 with h | h
   ·omega
   ·
    have:v.tmod n=0:=Int.tmod_eq_zero_of_dvd (Int.dvd_of_emod_eq_zero h.symm)
    omega
 ·rw [Int.tmod_eq_emod_of_nonneg h5]
  rcases h3 with h3 | h3 <;> rw [h3]
  ·rw [Int.add_emod_right,Int.emod_emod_of_dvd _ (Int.dvd_refl n)]
  ·rw [Int.sub_add_cancel,Int.emod_emod_of_dvd _ (Int.dvd_refl n)]
theorem lfold {v n:Int}(hn:0<n) (hnl:n≤1000000):SpecV Tryz.prog Yto [.int .i64 v,.int .i64 n] (.int .i64 (v % n)):=by
 obtain ⟨h1,h2,h3⟩:=Ywt (v:=v) hn
 have hn0:n≠0:=by omega
 have e1:IntKind.i64.wrap (v.tmod n+n)=v.tmod n+n:=Zac (by omega) (by omega)
 refine Zae Yni (by simp) ?_
 unfold Yja
 simp only [go_sem,Z4v,Z45,hn0,e1,h3]
def numQ (v:Int):Rat:=Rat.divInt (v % 12+1) (IntKind.i64.wrap (v.tdiv 12) % 4+1)
theorem Ys7 (v:Int):∃ a b:Nat,a<12∧b<4∧numQ v=Rat.divInt ((a:Int)+1) ((b:Int)+1):=by
 have h1:=Int.emod_nonneg v (show (12:Int)≠0 by decide)
 have h2:=Int.emod_lt_of_pos v (show (0:Int)<12 by decide)
 have h3:=Int.emod_nonneg (IntKind.i64.wrap (v.tdiv 12)) (show (4:Int)≠0 by decide)
 have h4:=Int.emod_lt_of_pos (IntKind.i64.wrap (v.tdiv 12)) (show (0:Int)<4 by decide)
 refine ⟨(v % 12).toNat,(IntKind.i64.wrap (v.tdiv 12) % 4).toNat,by omega,by omega,?_⟩
 unfold numQ
 rw [Int.toNat_of_nonneg h1,Int.toNat_of_nonneg h3]
theorem Ylb (v:Int):0<numQ v∧(numQ v).num.natAbs≤12∧(numQ v).den≤4:=by
 obtain ⟨a,b,ha,hb,e⟩:=Ys7 v
 rw [e]
 obtain ⟨g1,g2⟩:=Zcv (n:=(a:Int)+1) (d:=(b:Int)+1) (by omega)
 refine ⟨?_,by omega,by omega⟩
 rw [Rat.divInt_eq_div]
 have h1:(0:Rat)<(((a:Int)+1:Int):Rat):=by exact_mod_cast (show (0:Int)<(a:Int)+1 by omega)
 have h2:(0:Rat)<(((b:Int)+1:Int):Rat):=by exact_mod_cast (show (0:Int)<(b:Int)+1 by omega)
 rw [Rat.div_def]
 exact Rat.mul_pos h1 (Rat.inv_pos.2 h2)
theorem Ygi (v:Int):NumOk (numQ v)∧Fitd 20 (numQ v):=by
 obtain ⟨_,h2,h3⟩:=Ylb v
 have h4:=Zl8 (k:=2) (n:=(numQ v).num.natAbs) (by omega) (by omega)
 have h5:=Zl8 (k:=1) (n:=(numQ v).den) (by omega) (by omega)
 exact ⟨⟨by omega,.inr (by omega)⟩,by omega,by omega⟩
theorem lnum {v:Int}:SpecV Tryz.prog Yxb [.int .i64 v] (.str (bs (numS (numQ v)))):=by
 have hmx:Tryz.prog.follows .mixedOrders=true:=by kernel_rfl
 obtain ⟨hok,_⟩:=Ygi v
 have h1:=Int.emod_nonneg v (show (12:Int)≠0 by decide)
 have h2:=Int.emod_lt_of_pos v (show (0:Int)<12 by decide)
 have h3:=Int.emod_nonneg (IntKind.i64.wrap (v.tdiv 12)) (show (4:Int)≠0 by decide)
 have h4:=Int.emod_lt_of_pos (IntKind.i64.wrap (v.tdiv 12)) (show (0:Int)<4 by decide)
 have f1:=lfold (v:=v) (n:=12) (by omega) (by omega)
 have f2:=lfold (v:=IntKind.i64.wrap (v.tdiv 12)) (n:=4) (by omega) (by omega)
 have e1:IntKind.i64.wrap (v % 12+1)=v % 12+1:=Zac (by omega) (by omega)
 have e2:IntKind.i64.wrap (IntKind.i64.wrap (v.tdiv 12) % 4+1)=IntKind.i64.wrap (v.tdiv 12) % 4+1:=Zac (by omega) (by omega)
 have mk:=rmake (n:=v % 12+1) (d:=IntKind.i64.wrap (v.tdiv 12) % 4+1) (by omega) (by omega) (by omega)
 have hq:Rat.divInt (v % 12+1) (IntKind.i64.wrap (v.tdiv 12) % 4+1)=numQ v:=rfl
 rw [hq] at mk
 obtain ⟨_,q2,q3⟩:=Ylb v
 have hn:=rnum (n:=(numQ v).num) (d:=(numQ v).den) (k:=20) (q:=numQ v) (by unfold Ib; omega) (by unfold Ib; omega) (by have:=(numQ v).den_pos; omega) (by omega) (Rat.num_divInt_den _)
 rw [if_pos hok] at hn
 generalize numQ v=q at *
 have t12:(12:Int)≠0:=by decide
 refine Zae Yq5 (by simp) ?_
 unfold Yn8
 simp only [go_sem,Yaw,Ya8]
 refine Zaa f1 (by simp only [go_sem]) ?_
 simp only [go_sem,t12,e1]
 refine Zaa f2 (by simp only [go_sem]) ?_
 simp only [go_sem,e2]
 refine Zaa mk (by simp only [go_sem]) ?_
 simp only [go_sem]
 refine Zaa hn (by simp only [go_sem,avR,Yj4]) ?_
 simp only [go_sem,Yau]
end GoAbs
namespace GoAbs
open Go Go.Proofs
def ivs (p:List Int):List AV:=p.map fun v => .int .i64 v
theorem Yf3 (p:List Int):(ivs p).length=p.length:=by simp [ivs]
theorem Y60 {p:List Int}{i:Nat}{v:Int}(h:p[i]? = some v):(ivs p)[i]? = some (.int .i64 v):=by simp [ivs,h]
def pathE (p:List Int) (i:Nat):Spr:=((i:Int),((i+1:Nat):Int),numS (numQ (p.getD i 0)))
def pathL (p:List Int) (k:Nat):List Spr:=(List.range k).map (pathE p)
theorem Ytm {p:List Int}{k:Nat}:pathL p (k+1)=pathL p k ++ [pathE p k]:=by unfold pathL; rw [List.range_succ,List.map_append]; rfl
theorem Znh {p:List Int}{k:Nat}:(pathL p k).length=k:=by simp [pathL]
def extra1 (n:Int) (s:Spr):List Spr:=if s.1 % n=s.2.1 % n then [] else [(s.1 % n,s.2.1 % n,numS (numQ (IntKind.i64.wrap (IntKind.i64.wrap (s.1.tdiv 7)+s.2.1))))]
def extraL (n:Int) (X:List Spr):List Spr:=X.flatMap (extra1 n)
def madeN (b:Int):Nat:=(b % 5+2).toNat
def madeL (n:Nat) (X:List Spr) (p:List Int):List Spr:=pathL p (n - 1)++extraL n (X.take 6)
theorem Z9f (M:List Spr):(M.flatMap sC).length=M.length*3:=by
 induction M with
 | nil=>rfl
 | cons x M ih=>rw [List.flatMap_cons,List.length_append,ih,List.length_cons]; show 3+_=_; omega
theorem Xdu {f:Nat→Option Nat}{M:List Spr}:gcL f (M.flatMap sC)=M.flatMap sC:=by
 rw [Zaz,List.map_flatMap]; rfl
theorem Yvm {nt:Nat}{e:Nat→AV}{z:List AV}{n:Int}{M:List Spr}{s:Spr}{bl:Blk}(hz:∀ f,gcL f z=z) (l:List (Nat×AV)) (hl:Has e l) (hg:(l.map fun p=>(p.1,p.2.gc (pos [0,1,4])))=l) :
  Le nt 0 ⟨e,[.cells z,.cells [.int .i64 n,.osl (some 3) 4 0 (M.length+1)],.dead,bl,.cells (M.flatMap sC++sC s)]⟩ ⟨envL l,[.cells z,.cells [.int .i64 n,.osl (some 3) 2 0 (M ++ [s]).length],.cells ((M ++ [s]).flatMap sC)]⟩:=by
 refine Zdp (Zii [0,1,4] (by decide) (fun i hi=>by omega) l hl) ?_
 have h1:(M ++ [s]).flatMap sC=M.flatMap sC++sC s:=by rw [List.flatMap_append]; simp
 have h2:(M ++ [s]).length=M.length+1:=by simp
 rw [hg,h1,h2]
 show St.mk _ [Blk.cells (gcL _ z),_,Blk.cells (gcL _ (M.flatMap sC++sC s))]=_
 have h3:∀ f,gcL f (M.flatMap sC++sC s)=M.flatMap sC++sC s:=fun f=>by
  rw [Zaz,List.map_append, ← Zaz,Xdu]; rfl
 rw [hz,h3]
 rfl
theorem Y74 {n:Nat}{p:List Int}{xs z:List AV}(hn:n≤100) (hz:∀ f,gcL f z=z) {K:Ex→St→Prop}
  (hK:∀ e:Nat→AV,e 1 = .sl xs→e 6 = .ptr 0 0→e 7 = .ptr 1 0→K (.exit 0) ⟨e,[.cells z,.cells [.int .i64 (n:Int),.osl (some 3) 2 0 (pathL p (n - 1)).length],.cells ((pathL p (n - 1)).flatMap sC)]⟩) :
  T Tryz.prog 95 0 (.loop Zu1) ⟨envL [(1,.sl xs),(2,.sl (ivs p)),(6,.ptr 0 0),(7,.ptr 1 0),(8,.int .i64 0)],[.cells z,.cells [.int .i64 (n:Int),.osl (some 3) 2 0 0],.cells []]⟩ K:=by
 have hm:Tryz.prog.follows .mixedOrders=true:=by kernel_rfl
 refine Zag (fun i:Nat=>⟨envL [(1,.sl xs),(2,.sl (ivs p)),(6,.ptr 0 0),(7,.ptr 1 0),(8,.int .i64 (i:Int))],[.cells z,.cells [.int .i64 (n:Int),.osl (some 3) 2 0 (pathL p i).length],.cells ((pathL p i).flatMap sC)]⟩)
  (fun i=>i≤n - 1) (fun i=>n - i) 0 (by omega) (Zab _ (by simp only [go_sem]; simp)) (fun i hi N hN=>?_)
 unfold Zu1
 have e1:IntKind.i64.wrap ((i:Int)+1)=((i+1:Nat):Int):=by rw [Zac (by omega) (by omega)]; omega
 by_cases hin:i<n - 1
 ·have q1:((i+1:Nat):Int)<(n:Int):=by omega
  have q0:(0:Int)≤(i:Int):=by omega
  have hl:(pathL p i).length=i:=Znh
  have hPl:=Z9f (pathL p i)
  have s1:((pathL p i).length+1)*32≤1099511627776:=by omega
  have s2:(pathL p i).length*3≤((pathL p i).flatMap sC).length:=by omega
  have tP:((pathL p i).flatMap sC).take ((pathL p i).length*3)=(pathL p i).flatMap sC:=List.take_of_length_le (by omega)
  have hstep:=Ytm (p:=p) (k:=i)
  have fin:=fun (e:Nat→AV) (bl:Blk) (h1:e 1 = .sl xs) (h2:e 2 = .sl (ivs p)) (h6:e 6 = .ptr 0 0) (h7:e 7 = .ptr 1 0) (h8:e 8 = .int .i64 ((i+1:Nat):Int)) =>
   hN (i+1) ⟨e,[.cells z,.cells [.int .i64 (n:Int),.osl (some 3) 4 0 ((pathL p i).length+1)],.dead,bl,.cells ((pathL p i).flatMap sC++sC (pathE p i))]⟩ (by omega) (by omega)
    (Zdp (Yvm (M:=pathL p i) (s:=pathE p i) hz [(1,.sl xs),(2,.sl (ivs p)),(6,.ptr 0 0),(7,.ptr 1 0),(8,.int .i64 ((i+1:Nat):Int))] ⟨h1,h2,h6,h7,h8,trivial⟩ rfl) (by rw [hstep]))
  have hsc:sC (pathE p i) = [.int .i64 (i:Int),.int .i64 ((i+1:Nat):Int),.str (bs (numS (numQ (p.getD i 0))))]:=rfl
  rw [hsc] at fin
  by_cases hip:i<p.length
  ·have q2:(i:Int)<(p.length:Int):=by omega
   have gp:p[i]? = some (p.getD i 0):=by rw [List.getD_eq_getElem?_getD,List.getElem?_eq_getElem hip]; rfl
   have gi:=Y60 gp
   simp only [go_sem,Zlq,Zut,Zuv,Z6e,Zk0,Zun,e1,q0,q1,q2,Yf3,gi,hm]
   refine Zaa lnum (by simp only [go_sem]) ?_
   simp only [go_sem,s1,s2,tP,e1]
   exact fin _ _ (by simp only [go_sem]) (by simp only [go_sem]) (by simp only [go_sem]) (by simp only [go_sem]) (by simp only [go_sem])
  ·have q2:¬ (i:Int)<(p.length:Int):=by omega
   have g0:p.getD i 0=0:=by rw [List.getD_eq_getElem?_getD,List.getElem?_eq_none (by omega)]; rfl
   rw [g0] at fin
   simp only [go_sem,Zlq,Zut,Zuv,Zk0,Zun,e1,q0,q1,q2,Yf3,hm]
   refine Zaa lnum (by simp only [go_sem]) ?_
   simp only [go_sem,s1,s2,tP,e1]
   exact fin _ _ (by simp only [go_sem]) (by simp only [go_sem]) (by simp only [go_sem]) (by simp only [go_sem]) (by simp only [go_sem])
 ·have hie:i=n - 1:=by omega
  have q1:¬ ((i+1:Nat):Int)<(n:Int):=by omega
  simp only [go_sem,Zlq,e1,q1]
  rw [hie]
  exact hK _ (by simp only [go_sem]) (by simp only [go_sem]) (by simp only [go_sem])
theorem Y53 {n:Nat}{M0 X:List Spr}{xs z:List AV}(hxs:xs=X.map sprAV) (hn0:1≤n) (hn:n≤100) (hM:M0.length≤1000) (hz:∀ f,gcL f z=z) {K:Ex→St→Prop}
  (hK:∀ e:Nat→AV,e 6 = .ptr 0 0→e 7 = .ptr 1 0→K (.exit 2) ⟨e,[.cells z,.cells [.int .i64 (n:Int),.osl (some 3) 2 0 (M0++extraL n (X.take 6)).length],.cells ((M0++extraL n (X.take 6)).flatMap sC)]⟩) :
  T Tryz.prog 95 0 (.loop Zth) ⟨envL [(1,.sl xs),(6,.ptr 0 0),(7,.ptr 1 0),(10,.int .i64 0)],[.cells z,.cells [.int .i64 (n:Int),.osl (some 3) 2 0 M0.length],.cells (M0.flatMap sC)]⟩ K:=by
 have hm:Tryz.prog.follows .mixedOrders=true:=by kernel_rfl
 have hxl:xs.length=X.length:=by rw [hxs,List.length_map]
 refine Zag (fun i:Nat=>⟨envL [(1,.sl xs),(6,.ptr 0 0),(7,.ptr 1 0),(10,.int .i64 (i:Int))],[.cells z,.cells [.int .i64 (n:Int),.osl (some 3) 2 0 (M0++extraL n (X.take i)).length],.cells ((M0++extraL n (X.take i)).flatMap sC)]⟩)
  (fun i=>i≤6∧i≤X.length∧(M0++extraL n (X.take i)).length≤1000+i) (fun i=>6 - i) 0 ⟨by omega,by omega,by simp [extraL]; omega⟩ (Zdp (Zab [(1,.sl xs),(6,.ptr 0 0),(7,.ptr 1 0),(10,.int .i64 0)] (by simp only [go_sem])) (by simp [extraL])) (fun i hI N hN=>?_)
 obtain ⟨h1,h2,h3⟩:=hI
 unfold Zth
 have e1:IntKind.i64.wrap ((i:Int)+1)=((i+1:Nat):Int):=by rw [Zac (by omega) (by omega)]; omega
 by_cases hi:i<X.length
 ·have q1:(i:Int)<(X.length:Int):=by omega
  by_cases h6:i<6
  ·obtain ⟨⟨a,b,l⟩,he⟩:∃ s:Spr,X[i]? = some s:=⟨_,List.getElem?_eq_getElem hi⟩
   have hxi:xs[i]? = some (.agg [.int .i64 a,.int .i64 b,.str (bs l)]):=by rw [hxs,List.getElem?_map,he]; rfl
   have q0:(0:Int)≤(i:Int):=by omega
   have q2:(i:Int)<6:=by omega
   have f1:=lfold (v:=a) (n:=(n:Int)) (by omega) (by omega)
   have f2:=lfold (v:=b) (n:=(n:Int)) (by omega) (by omega)
   have htk:M0++extraL n (X.take (i+1))=(M0++extraL n (X.take i))++extra1 n (a,b,l):=by
    rw [List.take_add_one,he]; unfold extraL; rw [List.flatMap_append]; simp
   have hPl:=Z9f (M0++extraL n (X.take i))
   have hex:(extra1 n (a,b,l)).length≤1:=by unfold extra1; split <;> simp
   have t7:(7:Int)≠0:=by decide
   by_cases hab:a % (n:Int)=b % (n:Int)
   ·have hx1:extra1 n (a,b,l) = []:=by unfold extra1; rw [if_pos hab]
    rw [hx1,List.append_nil] at htk
    simp only [go_sem,Ze9,Zjb,Zou,Zo7,hxl,q0,q1,q2,hxi,hm]
    refine Zaa f1 (by simp only [go_sem]) ?_
    simp only [go_sem,q0,hxi]
    refine Zaa f2 (by simp only [go_sem]) ?_
    simp only [go_sem,hab,e1]
    exact hN (i+1) _ ⟨by omega,by omega,by rw [htk]; omega⟩ (by omega) (Zdp (Zab [(1,.sl xs),(6,.ptr 0 0),(7,.ptr 1 0),(10,.int .i64 ((i+1:Nat):Int))] (by simp only [go_sem])) (by rw [htk]))
   ·have hx1:extra1 n (a,b,l) = [(a % n,b % n,numS (numQ (IntKind.i64.wrap (IntKind.i64.wrap (a.tdiv 7)+b))))]:=by unfold extra1; rw [if_neg hab]
    rw [hx1] at htk
    generalize hV:M0++extraL n (X.take i)=V at *
    have s1:(V.length+1)*32≤1099511627776:=by omega
    have s2:V.length*3≤(V.flatMap sC).length:=by omega
    have tP:(V.flatMap sC).take (V.length*3)=V.flatMap sC:=List.take_of_length_le (by omega)
    simp only [go_sem,Ze9,Zjb,Zou,hxl,q0,q1,q2,hxi,hm]
    refine Zaa f1 (by simp only [go_sem]) ?_
    simp only [go_sem,q0,hxi]
    refine Zaa f2 (by simp only [go_sem]) ?_
    simp only [go_sem,hab,Zpk,q0,hxi,hm,t7]
    refine Zaa lnum (by simp only [go_sem]) ?_
    simp only [go_sem,s1,s2,tP,Zo7,e1]
    refine hN (i+1) _ ⟨by omega,by omega,by rw [htk,List.length_append,List.length_singleton]; omega⟩ (by omega) (Zdp (Yvm (M:=V) (s:=(a % n,b % n,numS (numQ (IntKind.i64.wrap (IntKind.i64.wrap (a.tdiv 7)+b))))) hz [(1,.sl xs),(6,.ptr 0 0),(7,.ptr 1 0),(10,.int .i64 ((i+1:Nat):Int))] (by simp only [go_sem]) rfl) (by rw [htk]))
  ·have q2:¬ (i:Int)<6:=by omega
   have hi6:i=6:=by omega
   subst hi6
   simp only [go_sem,Ze9,hxl,q1,q2]
   exact hK _ (by simp only [go_sem]) (by simp only [go_sem])
 ·have q1:¬ (i:Int)<(X.length:Int):=by omega
  have htk:X.take i=X.take 6:=by rw [List.take_of_length_le (by omega),List.take_of_length_le (by omega)]
  rw [htk]
  simp only [go_sem,Ze9,hxl,q1]
  exact hK _ (by simp only [go_sem]) (by simp only [go_sem])
end GoAbs
