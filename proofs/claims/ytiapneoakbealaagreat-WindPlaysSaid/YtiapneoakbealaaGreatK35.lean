/- Lemmas for the claim (contracts of the functions that it reaches, and what they compute), without conditions. -/
import Derived.Test.YtiapneoakbealaaGreatK34
set_option linter.unusedVariables false
set_option linter.unusedSimpArgs false
set_option maxRecDepth 10000
set_option maxHeartbeats 2000000
namespace GoAbs
open Go Go.Proofs
set_option maxHeartbeats 4000000
def shW (l:List UInt8):List UInt8:=if 12<l.length then l.take 14 else l.take 3
theorem Yse {l:List UInt8}:(shW l).length≤14:=by
 unfold shW; split
 ·rw [List.length_take]; omega
 ·rw [List.length_take]; omega
theorem wshort {l:List UInt8}:SpecV Tryz.prog Yt1 [.str (bs l)] (.str (bs (shW l))):=by
 refine Zae Yoy (by simp) ?_
 unfold Yjz
 have n23:(if (14:Int)<(l.length:Int) then 14 else (l.length:Int))=((min l.length 14:Nat):Int):=by split <;> omega
 have n6:(if (3:Int)<(l.length:Int) then 3 else (l.length:Int))=((min l.length 3:Nat):Int):=by split <;> omega
 have p23:(0:Int)≤((min l.length 14:Nat):Int):=by omega
 have p6:(0:Int)≤((min l.length 3:Nat):Int):=by omega
 have l23:min l.length 14≤l.length:=by omega
 have l6:min l.length 3≤l.length:=by omega
 by_cases h:12<l.length
 ·have q1:(12:Int)<(l.length:Int):=by omega
  have hs:shW l=l.take (min l.length 14):=by unfold shW; rw [if_pos h]; exact List.take_eq_take_iff.2 (by omega)
  rw [hs]
  simp only [go_sem,Zrx,Zq8,Z4f,Zak,q1,n23,p23,Zc2,l23,List.drop_zero,Int.toNat_natCast,Nat.zero_le]
 ·have q1:¬ (12:Int)<(l.length:Int):=by omega
  have hs:shW l=l.take (min l.length 3):=by unfold shW; rw [if_neg h]; exact List.take_eq_take_iff.2 (by omega)
  rw [hs]
  simp only [go_sem,Zrx,Zq8,Z7m,Zak,q1,n6,p6,Zc2,l6,List.drop_zero,Int.toNat_natCast,Nat.zero_le]
def cutM (m:Mv):Mv:=(m.1,shW m.2)
def cutN (n:Nd):Nd:=⟨n.kind,shW n.rew,(n.mv.take 7).map cutM⟩
def mostW (L:List Nd):Nat:=if 10<L.length then 11 else 5
def fewW (L:List Nd):List Nd:=(L.take (mostW L)).map cutN
def mvC (m:Mv):List AV := [.int .i64 m.1,.str (bs m.2)]
def ndC (n:Nd):List AV := [.int .i64 n.kind,.str (bs n.rew),.sl (n.mv.map mvAV)]
theorem Xes {L:List Nd}{l:List UInt8}:GIn (fewW L) (shW l):=by
 refine ⟨?_,by have:=Yse (l:=l); omega,fun n hn=>?_⟩
 ·unfold fewW mostW
  rw [List.length_map,List.length_take]
  split <;> omega
 ·obtain ⟨n',_,rfl⟩:=List.mem_map.1 hn
  refine ⟨by show (shW _).length≤23; have:=Yse (l:=n'.rew); omega,by show (List.map _ _).length≤7; rw [List.length_map,List.length_take]; omega,fun m hm=>?_⟩
  obtain ⟨m',_,rfl⟩:=List.mem_map.1 hm
  show (shW _).length≤23
  have:=Yse (l:=m'.2)
  omega
theorem Xf4 (M:List Mv):(M.flatMap mvC).length=M.length*2:=by
 induction M with
 | nil=>rfl
 | cons x M ih=>rw [List.flatMap_cons,List.length_append,ih,List.length_cons]; show 2+_=_; omega
theorem Y14 (M:List Nd):(M.flatMap ndC).length=M.length*3:=by
 induction M with
 | nil=>rfl
 | cons x M ih=>rw [List.flatMap_cons,List.length_append,ih,List.length_cons]; show 3+_=_; omega
theorem Xje {M:List Mv}(f:Nat→Option Nat):gcL f (M.flatMap mvC)=M.flatMap mvC:=by rw [Zay,List.map_flatMap]; rfl
theorem Xbf {M:List Nd}(f:Nat→Option Nat):gcL f (M.flatMap ndC)=M.flatMap ndC:=by rw [Zay,List.map_flatMap]; rfl
theorem Xbs {H:Heap}{ids:List Nat}{b:Nat}{M:List Mv}(hb:H[b]? = some (.cells (M.flatMap mvC))) (hi:b∈ids):BV H ids (.osl (some 2) b 0 M.length) (.sl (M.map mvAV)):=by
 have:=Z32 (H:=H) (ids:=ids) (w:=2) (b:=b) (R:=M.map mvC) hb hi (by rw [List.flatMap_def]) (fun d hd=>by obtain ⟨j,_,rfl⟩:=List.mem_map.1 hd; rfl) (fun d hd=>by
  obtain ⟨j,_,rfl⟩:=List.mem_map.1 hd; exact .cons (.int _ _) (.cons (.str _) .nil))
 rw [List.length_map,List.map_map] at this
 exact this
theorem Xba {H:Heap}{ids:List Nat}{b:Nat}{M:List Nd}(hb:H[b]? = some (.cells (M.flatMap ndC))) (hi:b∈ids):BV H ids (.osl (some 3) b 0 M.length) (.sl (M.map ndAV)):=by
 have:=Z32 (H:=H) (ids:=ids) (w:=3) (b:=b) (R:=M.map ndC) hb hi (by rw [List.flatMap_def]) (fun d hd=>by obtain ⟨j,_,rfl⟩:=List.mem_map.1 hd; rfl) (fun d hd=>by
  obtain ⟨j,_,rfl⟩:=List.mem_map.1 hd; exact .cons (.int _ _) (.cons (.str _) (.cons (.sl _) .nil)))
 rw [List.length_map,List.map_map] at this
 exact this
theorem Xha {ls ms O:List AV}{n:Nd}{i:Nat}{most:Int}{kd:Int}{s:ByteArray}(hms:ms=n.mv.map mvAV) (hls:ls[i]? = some (.agg [.int .i64 n.kind,.str (bs n.rew),.sl ms])) (hO:∀ f,gcL f O=O) {K:Ex→St→Prop}
  (hK:∀ e:Nat→AV,e 0 = .sl ls→e 3 = .int .i64 most→e 4 = .osl (some 3) 0 0 i→e 5 = .int .i64 (i:Int)→e 6 = .ptr 1 0 →
   K (.exit 2) ⟨e,[.cells O,.cells [.int .i64 kd,.str s,.osl (some 2) 2 0 ((n.mv.take 7).map cutM).length],.cells (((n.mv.take 7).map cutM).flatMap mvC)]⟩) :
  T Tryz.prog 79 0 (.loop Z3r) ⟨envL [(0,.sl ls),(3,.int .i64 most),(4,.osl (some 3) 0 0 i),(5,.int .i64 (i:Int)),(6,.ptr 1 0),(7,.int .i64 0)],[.cells O,.cells [.int .i64 kd,.str s,.osl (some 2) 2 0 0],.cells []]⟩ K:=by
 have hmx:Tryz.prog.follows .mixedOrders=true:=by kernel_rfl
 have hmsl:ms.length=n.mv.length:=by rw [hms,List.length_map]
 have hil:=(List.getElem?_eq_some_iff.1 hls).1
 refine Zad (fun k:Nat=>⟨envL [(0,.sl ls),(3,.int .i64 most),(4,.osl (some 3) 0 0 i),(5,.int .i64 (i:Int)),(6,.ptr 1 0),(7,.int .i64 (k:Int))],[.cells O,.cells [.int .i64 kd,.str s,.osl (some 2) 2 0 k],.cells (((n.mv.take k).map cutM).flatMap mvC)]⟩)
  (fun k=>k≤n.mv.length∧k≤7) (fun k=>n.mv.length - k) 0 ⟨by omega,by omega⟩ (Zab _ (by simp only [go_sem]; simp)) (fun k hI N hN=>?_)
 obtain ⟨h1,h2⟩:=hI
 unfold Z3r
 have p0:(0:Int)≤(i:Int):=by omega
 have p1:(i:Int)<(ls.length:Int):=by omega
 by_cases hk:k<n.mv.length
 ·have q1:(k:Int)<(n.mv.length:Int):=by omega
  by_cases hk6:k≤6
  ·obtain ⟨m,hm⟩:∃ m,n.mv[k]? = some m:=⟨_,List.getElem?_eq_getElem hk⟩
   have hmsk:ms[k]? = some (.agg [.int .i64 m.1,.str (bs m.2)]):=by rw [hms,List.getElem?_map,hm]; rfl
   have q0:(0:Int)≤(k:Int):=by omega
   have q2:(k:Int)≤6:=by omega
   have e1:IntKind.i64.wrap ((k:Int)+1)=((k+1:Nat):Int):=by rw [Zac (by omega) (by omega)]; omega
   have htk:((n.mv.take (k+1)).map cutM).flatMap mvC=((n.mv.take k).map cutM).flatMap mvC ++ [.int .i64 m.1,.str (bs (shW m.2))]:=by
    rw [List.take_add_one,hm,Option.toList_some,List.map_append,List.flatMap_append]; rfl
   have hPl:(((n.mv.take k).map cutM).flatMap mvC).length=k*2:=by rw [Xf4,List.length_map,List.length_take]; omega
   have hPg:=fun f=>Xje (M:=(n.mv.take k).map cutM) f
   generalize ((n.mv.take k).map cutM).flatMap mvC=P at *
   have s1:(k+1)*24≤1099511627776:=by omega
   have s2:k*2≤P.length:=by omega
   have tP:P.take (k*2)=P:=List.take_of_length_le (by omega)
   simp only [go_sem,Zl9,Zw1,p0,p1,q0,q1,q2,hls,hmsl,hmsk,hmx]
   refine Zaa wshort (by simp only [go_sem]) ?_
   simp only [go_sem,s1,s2,tP,Yap,e1]
   refine hN (k+1) _ ⟨by omega,by omega⟩ (by omega) (Zbj (Zgv [0,1,4] (by decide) (fun i hi=>by omega) [(0,.sl ls),(3,.int .i64 most),(4,.osl (some 3) 0 0 i),(5,.int .i64 (i:Int)),(6,.ptr 1 0),(7,.int .i64 ((k+1:Nat):Int))] (by simp only [go_sem])) ?_)
   show St.mk _ [Blk.cells (gcL _ O),_,Blk.cells (gcL _ (P ++ [AV.int .i64 m.1,.str (bs (shW m.2))]))]=_
   rw [Ztf,hPg,hO,htk]
   rfl
  ·have q2:¬ (k:Int)≤6:=by omega
   have hk7:k=7:=by omega
   have hl:((n.mv.take 7).map cutM).length=k:=by rw [List.length_map,List.length_take]; omega
   rw [hl] at hK
   subst hk7
   simp only [go_sem,Zl9,p0,p1,q1,q2,hls,hmsl]
   exact hK _ (by simp only [go_sem]) (by simp only [go_sem]) (by simp only [go_sem]) (by simp only [go_sem]) (by simp only [go_sem])
 ·have q1:¬ (k:Int)<(n.mv.length:Int):=by omega
  have hf:n.mv.take k=n.mv.take 7:=by rw [List.take_of_length_le (by omega),List.take_of_length_le (by omega)]
  have hl:((n.mv.take 7).map cutM).length=k:=by rw [List.length_map,List.length_take]; omega
  rw [hl] at hK
  rw [hf]
  simp only [go_sem,Zl9,p0,p1,q1,hls,hmsl]
  exact hK _ (by simp only [go_sem]) (by simp only [go_sem]) (by simp only [go_sem]) (by simp only [go_sem]) (by simp only [go_sem])
theorem Xka {ls:List AV}{L:List Nd}(hls:ls=L.map ndAV) {K:Ex→St→Prop}
  (hK:∀ e:Nat→AV,e 4 = .osl (some 3) 0 0 (fewW L).length→K (.exit 0) ⟨e,[.cells ((fewW L).flatMap ndC)]⟩) :
  T Tryz.prog 79 0 (.loop Zre) ⟨envL [(0,.sl ls),(3,.int .i64 (mostW L:Int)),(4,.osl (some 3) 0 0 0),(5,.int .i64 0)],[.cells []]⟩ K:=by
 have hmx:Tryz.prog.follows .mixedOrders=true:=by kernel_rfl
 have hlsl:ls.length=L.length:=by rw [hls,List.length_map]
 have hmost:mostW L≤11:=by unfold mostW; split <;> omega
 refine Zfy (fun i:Nat=>⟨envL [(0,.sl ls),(3,.int .i64 (mostW L:Int)),(4,.osl (some 3) 0 0 i),(5,.int .i64 (i:Int))],[.cells (((L.take i).map cutN).flatMap ndC)]⟩)
  (fun i=>i≤L.length∧i≤mostW L) (fun i=>L.length - i) 0 ⟨by omega,by omega⟩ (Zab _ (by simp only [go_sem]; simp)) (fun i hI N hN=>?_)
 obtain ⟨h1,h2⟩:=hI
 unfold Zre
 by_cases hi:i<L.length
 ·have q1:(i:Int)<(L.length:Int):=by omega
  by_cases hmi:i<mostW L
  ·obtain ⟨n,hn⟩:∃ n,L[i]? = some n:=⟨_,List.getElem?_eq_getElem hi⟩
   obtain ⟨ms,hms⟩:∃ ms,ms=n.mv.map mvAV:=⟨_,rfl⟩
   have hlsi:ls[i]? = some (.agg [.int .i64 n.kind,.str (bs n.rew),.sl ms]):=by rw [hls,List.getElem?_map,hn,hms]; rfl
   have q0:(0:Int)≤(i:Int):=by omega
   have q2:(i:Int)<(mostW L:Int):=by omega
   have e1:IntKind.i64.wrap ((i:Int)+1)=((i+1:Nat):Int):=by rw [Zac (by omega) (by omega)]; omega
   have htk:((L.take (i+1)).map cutN).flatMap ndC=((L.take i).map cutN).flatMap ndC++ndC (cutN n):=by
    rw [List.take_add_one,hn,Option.toList_some,List.map_append,List.flatMap_append]; simp
   have hPl:(((L.take i).map cutN).flatMap ndC).length=i*3:=by rw [Y14,List.length_map,List.length_take]; omega
   have hPg:=fun f=>Xbf (M:=(L.take i).map cutN) f
   generalize ((L.take i).map cutN).flatMap ndC=P at *
   have s1:(i+1)*48≤1099511627776:=by omega
   have s2:i*3≤P.length:=by omega
   have tP:P.take (i*3)=P:=List.take_of_length_le (by omega)
   refine Za9 0 rfl ?_
   simp only [go_sem,Zqu,hlsl,q1,q2]
   refine Zau (Zat (Za9 0 rfl ?_))
   simp only [go_sem,Z3i,hlsl,q0,q1,q2,hlsi,hmx]
   refine Zaa wshort (by simp only [go_sem]) ?_
   simp only [go_sem]
   refine T_le (Zmq (Zab [(0,.sl ls),(3,.int .i64 (mostW L:Int)),(4,.osl (some 3) 0 0 i),(5,.int .i64 (i:Int)),(6,.ptr 1 0)] (by simp only [go_sem])) (Zmq Yop (Zbj (Ydd (b:=1) (l := [.int .i64 n.kind,.str (bs (shW n.rew)),.nils]) (l' := [.int .i64 n.kind,.str (bs (shW n.rew)),.osl (some 2) 2 0 0]) rfl rfl (fun j x y hx hy=>?_)) rfl))) ?_
   ·match j with
    | 0=>simp at hx hy; subst hx hy; exact .inl rfl
    | 1=>simp at hx hy; subst hx hy; exact .inl rfl
    | 2=>simp at hx hy; subst hx hy; exact .inr ⟨rfl,_,_,_,rfl⟩
    | j+3=>simp at hx
   refine Zau (Zau (T_W ?_))
   simp only [go_sem,Ye4]
   refine Zat (Zap [(0,.sl ls),(3,.int .i64 (mostW L:Int)),(4,.osl (some 3) 0 0 i),(5,.int .i64 (i:Int)),(6,.ptr 1 0),(7,.int .i64 0)] (by simp only [go_sem]) (Xha hms hlsi hPg (fun e k0 k3 k4 k5 k6=>?_)))
   show T Tryz.prog 79 0 (.rg false Zmm) _ _
   refine T_le (Yl2 (b:=1) (ids := [2]) (l := [.int .i64 n.kind,.str (bs (shW n.rew)),.osl (some 2) 2 0 ((n.mv.take 7).map cutM).length]) (l':=ndC (cutN n)) rfl (by decide) rfl (fun j x y hx hy=>?_) [(0,.sl ls),(3,.int .i64 (mostW L:Int)),(4,.osl (some 3) 0 0 i),(5,.int .i64 (i:Int)),(6,.ptr 1 0)] (Yga ⟨k0,k3,k4,k5,k6,trivial⟩)) ?_
   ·match j with
    | 0=>simp [ndC,cutN] at hx hy; subst hx hy; exact .inr rfl
    | 1=>simp [ndC,cutN] at hx hy; subst hx hy; exact .inr rfl
    | 2 =>
     simp only [ndC,cutN,List.getElem?_cons_succ,List.getElem?_cons_zero,Option.some.injEq] at hx hy
     subst hx hy
     exact .inl (Xbs rfl (by simp))
    | j+3=>simp at hx
   show T Tryz.prog 79 0 (.rg false Zmm) ⟨_,[.cells P,.cells (ndC (cutN n)),.dead]⟩ _
   have n3:(ndC (cutN n)).length=3:=rfl
   have n3':(ndC (cutN n)).take 3=ndC (cutN n):=rfl
   have n3d:(ndC (cutN n)).drop 3 = []:=rfl
   refine T_W ?_
   simp only [go_sem,Zmm,n3,n3',n3d,s1,s2,tP,Nat.le_refl]
   show T Tryz.prog 79 0 (.rg false Zyf) _ _
   refine T_W ?_
   simp only [go_sem,Zyf,e1]
   refine hN (i+1) _ ⟨by omega,by omega⟩ (by omega) (Zbj (Zgv [4] (by decide) (fun i hi=>by omega) [(0,.sl ls),(3,.int .i64 (mostW L:Int)),(4,.osl (some 3) 4 0 (i+1)),(5,.int .i64 ((i+1:Nat):Int))] (by simp only [go_sem])) ?_)
   show St.mk _ [Blk.cells (gcL _ (P++ndC (cutN n)))]=_
   rw [Ztf,hPg,show gcL _ (ndC (cutN n))=ndC (cutN n) from rfl, ← htk]
   rfl
  ·have q2:¬ (i:Int)<(mostW L:Int):=by omega
   have hf:(L.take i).map cutN=fewW L:=by unfold fewW; rw [show i=mostW L by omega]
   have hfl:(fewW L).length=i:=by rw [← hf,List.length_map,List.length_take]; omega
   rw [hfl] at hK
   rw [hf]
   refine T_W ?_
   simp only [go_sem,Zqu,hlsl,q1,q2]
   exact hK _ (by simp only [go_sem])
 ·have q1:¬ (i:Int)<(L.length:Int):=by omega
  have hf:(L.take i).map cutN=fewW L:=by unfold fewW; rw [List.take_of_length_le (by omega),List.take_of_length_le (by omega)]
  have hfl:(fewW L).length=i:=by rw [← hf,List.length_map,List.length_take]; omega
  rw [hfl] at hK
  rw [hf]
  refine T_W ?_
  simp only [go_sem,Zqu,hlsl,q1]
  exact hK _ (by simp only [go_sem])
theorem wfew {L:List Nd}:SpecV Tryz.prog Y00 [.sl (L.map ndAV)] (.sl ((fewW L).map ndAV)):=by
 obtain ⟨ls,hls⟩:∃ ls,ls=L.map ndAV:=⟨_,rfl⟩
 have hlsl:ls.length=L.length:=by rw [hls,List.length_map]
 rw [← hls]
 have main:∀ (e:Nat→AV) (mo:Int),mo=mostW L→e 0 = .sl ls→e 3 = .int .i64 mo →
   T Tryz.prog 79 0 (.seq (.rg false Z2v) (.seq (.seq (.rg false Z3q) (.block 0 (.loop Zre))) (.seq (.rg false Zme) .ret))) ⟨e,[]⟩ (retQ [.tmp 2] (.sl ((fewW L).map ndAV))):=fun e mo hmo h0 h3=>by
  subst hmo
  refine Zau (T_W ?_)
  simp only [go_sem,Z2v]
  refine T_le (Zgz 4 (some 3) (by simp only [go_sem]) [(0,.sl ls),(3,.int .i64 (mostW L:Int))] (by simp only [go_sem,h0,h3])) ?_
  refine Zau (Zau (T_W ?_))
  simp only [go_sem,Z3q]
  refine Zat (Zap [(0,.sl ls),(3,.int .i64 (mostW L:Int)),(4,.osl (some 3) 0 0 0),(5,.int .i64 0)] (by simp only [go_sem]) (Xka hls (fun e k4=>?_)))
  show T Tryz.prog 79 0 (.seq (.rg false Zme) .ret) _ _
  refine T_W ?_
  simp only [go_sem,Zme,k4]
  exact Xba rfl (by simp [allOf])
 refine Za0 Yxl (by simp) (Za9 2 rfl ?_)
 unfold Yt9
 by_cases h10:10<L.length
 ·have q1:(10:Int)<(L.length:Int):=by omega
  simp only [go_sem,Z28,Z2z,Z4a,Yg7,hlsl,q1]
  exact main _ 11 (by unfold mostW; rw [if_pos h10]; rfl) (by simp only [go_sem]) (by simp only [go_sem])
 ·have q1:¬ (10:Int)<(L.length:Int):=by omega
  simp only [go_sem,Z28,Z2z,Z4a,hlsl,q1]
  exact main _ 5 (by unfold mostW; rw [if_neg h10]; rfl) (by simp only [go_sem]) (by simp only [go_sem])
end GoAbs
