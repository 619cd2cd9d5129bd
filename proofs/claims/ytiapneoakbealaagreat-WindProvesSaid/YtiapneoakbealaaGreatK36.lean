/- Lemmas for the claim (contracts of the functions that it reaches, and what they compute), without conditions. -/
import Derived.Test.YtiapneoakbealaaGreatK35
import Derived.Test.YtiapneoakbealaaGreatProg
import Derived.KernelRfl
set_option linter.unusedVariables false
set_option linter.unusedSimpArgs false
set_option maxRecDepth 10000
set_option maxHeartbeats 2000000
namespace GoAbs
open Go Go.Proofs
theorem Xft (s:ByteArray):∃ l,s=bs l:=⟨s.data.toList,by simp [bs]⟩
theorem Opens.mono {P:Program}{t:TypeId}{S S':List AV→Prop}(h:Opens P t S) (hs:∀ av,S av→S' av):Opens P t S':=fun enc w base spare held fuel cs x hx=>by
 obtain ⟨av,h1,h2⟩:=h enc w base spare held fuel cs x hx
 exact ⟨av,h1,hs av h2⟩
theorem Yrr {P:Program}{f:Nat}{xs:List AV}{vs:Array Value}{w:World}(h:SpecV P f xs (.bool true)) (hr:Reps w noX noPl xs vs):Calls P f vs w fun e w'=>e = .returned (.bool true)∧Go.RowKit.Below w.heap.size w w' :=
 (h.2 noX w vs (fun _ hb=>hb.elim) hr).mono fun e w' he=>by
  obtain ⟨v,rfl,hv,hb⟩:=he
  cases hv
  exact ⟨rfl,hb⟩
theorem Yat {w:World}{x:AV}{xs:List AV}{v:Value}{l:List Value}(h:Rep w noX noPl x v) (k:Reps w noX noPl xs l.toArray):Reps w noX noPl (x::xs) (v::l).toArray:=by
 refine ⟨by have:=k.1; simp at this ⊢; exact this,fun i y u hy hu=>?_⟩
 cases i with
 | zero=>simp at hy hu; subst hy hu; exact h
 | succ i=>exact k.2 i y u (by simpa using hy) (by simpa using hu)
theorem reps3 {w:World}{x y z:AV}{v u t:Value}(h:Rep w noX noPl x v) (k:Rep w noX noPl y u) (m:Rep w noX noPl z t):Reps w noX noPl [x,y,z] #[v,u,t]:=Yat h (Yat k (Yat (l := []) m ⟨rfl,fun i z t hz=>by simp at hz⟩))
theorem Ywd {P:Program}{W:World}{r:Reach}{base:Nat}{t:TypeId}{v:Value}{e:TypeId}(ht:P.underlying t=some (.slice e)) (h:Value.okWide P W r base t v):v.cells = #[v]:=by
 obtain ⟨a,l,c,rfl⟩:=Go.WideShapes.okWide_slice ht h; rfl
theorem Y7k {P:Program}{W:World}{r:Reach}{base:Nat}{t:TypeId}{v:Value}(ht:P.underlying t=some .string) (h:Value.okWide P W r base t v):v.cells = #[v]:=by
 obtain ⟨s,rfl⟩:=Go.WideShapes.okWide_string ht h; rfl
theorem opensNum:Opens Tryz.prog 23 (fun av=>∃ l:List UInt8,av = [.str (bs l)]):=by
 refine Opens.mono (Yvz Tryz.underlying23) ?_
 rintro av ⟨s,rfl,_⟩
 obtain ⟨l,rfl⟩:=Xft s
 exact ⟨l,rfl⟩
theorem opensMove:Opens Tryz.prog 63 (fun av=>∃ m:Mv,av=mvC m):=by
 refine Opens.mono (Yq7 (n:=2) Tryz.underlying63 (by kernel_rfl) (Zi7 (off:=0) (k:=1) rfl (by kernel_rfl) (by omega) (Ykg Tryz.underlying3) (Zi7 (off:=1) (k:=1) rfl (by kernel_rfl) (by omega) opensNum Yep))) ?_
 rintro av ⟨a,b,rfl,_,⟨n,rfl,_⟩,c,d,rfl,_,⟨l,rfl⟩,rfl⟩
 exact ⟨(n,l),rfl⟩
theorem rowsOf {α:Type}{f:α→List AV}{n:Nat}:∀ l:List (List AV),(∀ c,c∈l→c.length=n∧∃ s:α,c=f s)→∃ L:List α,l.map AV.agg=L.map fun s=>AV.agg (f s):=by
 intro l
 induction l with
 | nil=>intro _; exact ⟨[],rfl⟩
 | cons c l ih =>
  intro h
  obtain ⟨L,hL⟩:=ih (fun d hd=>h d (by simp [hd]))
  obtain ⟨_,s,hs⟩:=h c (by simp)
  exact ⟨s::L,by rw [List.map_cons,List.map_cons,hL,hs]⟩
theorem opensMoves:Opens Tryz.prog 56 (fun av=>∃ L:List Mv,av = [.sl (L.map mvAV)]):=by
 refine Opens.mono (Yju (n:=2) Tryz.underlying56 (by kernel_rfl) (by omega) opensMove) ?_
 rintro av ⟨l,rfl,h⟩
 obtain ⟨L,hL⟩:=rowsOf l h
 exact ⟨L,by rw [hL]; rfl⟩
theorem opensNode:Opens Tryz.prog 58 (fun av=>∃ n:Nd,av=ndC n):=by
 refine Opens.mono (Yq7 (n:=3) Tryz.underlying58 (by kernel_rfl) (Zi7 (off:=0) (k:=1) rfl (by kernel_rfl) (by omega) (Ykg Tryz.underlying3) (Zi7 (off:=1) (k:=1) rfl (by kernel_rfl) (by omega) opensNum
  (Zi7 (off:=2) (k:=1) rfl (by kernel_rfl) (by omega) opensMoves Yep)))) ?_
 rintro av ⟨a,b,rfl,_,⟨n,rfl,_⟩,c,d,rfl,_,⟨l,rfl⟩,e,f,rfl,_,⟨M,rfl⟩,rfl⟩
 exact ⟨⟨n,l,M⟩,rfl⟩
theorem opensNodes:Opens Tryz.prog 22 (fun av=>∃ L:List Nd,av = [.sl (L.map ndAV)]):=by
 refine Opens.mono (Yju (n:=3) Tryz.underlying22 (by kernel_rfl) (by omega) opensNode) ?_
 rintro av ⟨l,rfl,h⟩
 obtain ⟨L,hL⟩:=rowsOf l h
 exact ⟨L,by rw [hL]; rfl⟩
theorem opensNums:Opens Tryz.prog 26 (fun av=>∃ L:List (List UInt8),av = [.sl (txts L)]):=by
 refine Opens.mono (Yye (e:=23) (fun x ⟨n,hx⟩=>by cases hx; rfl) Tryz.underlying26 (by kernel_rfl) opensNum) ?_
 rintro av ⟨l,rfl,h⟩
 have:∀ l:List AV,(∀ c,c∈l→∃ s:List UInt8,[c] = [AV.str (bs s)])→∃ L:List (List UInt8),l=txts L:=by
  intro l
  induction l with
  | nil=>intro _; exact ⟨[],rfl⟩
  | cons c l ih =>
   intro h
   obtain ⟨p,hp⟩:=ih (fun d hd=>h d (by simp [hd]))
   obtain ⟨s,hs⟩:=h c (by simp)
   cases hs
   exact ⟨s::p,by rw [hp]; rfl⟩
 obtain ⟨p,hp⟩:=this l h
 exact ⟨p,by rw [hp]⟩
end GoAbs
namespace GoAbs
open Go Go.Proofs
def Ztu:List IOp := [oI 4 (.mv (.c (.bool false))) 0]
def Zvj:List IOp := [mI 6 0 0,oI 7 (.len (.t 6)) 0,mI 8 1 0,oI 9 (.len (.t 8)) 0,oI 10 (.bin .neq (.t 7) (.t 9)) 0]
def Ych:List IOp := [oI 4 (.mv (.c (.bool false))) 0]
def Zso:List IOp := [oI 5 (.mv (cI 0)) 0]
def Zj3:List IOp := [mI 11 5 0,mI 12 0 0,oI 13 (.len (.t 12)) 0,oI 14 (.bin .lss (.t 11) (.t 13)) 0]
def Zjq:List IOp := [mI 17 0 0,mI 18 5 0,xI 19 1 17 18 0,lI 20 19 0,mI 21 1 0,mI 22 5 0,xI 23 1 21 22 0,lI 24 23 0,oI 25 (.bin .neq (.t 20) (.t 24)) 0]
@[go_sem ↓] theorem Z45 : autoK Zjq = (0, 0) := by kernel_rfl
@[go_sem] theorem Ypf : autoK [mI 17 0 0, mI 18 5 0, xI 19 1 17 18 0, lI 20 19 0, mI 21 1 0, mI 22 5 0, xI 23 1 21 22 0, lI 24 23 0, oI 25 (.bin .neq (.t 20) (.t 24)) 0] = (0, 0) := Z45
def Yae:List IOp := [oI 4 (.mv (.c (.bool false))) 0]
def Zsp:List IOp := [mI 15 5 0,oI 16 (.bin .add (.t 15) (cI 1)) 0,mI 5 16 0]
def Zup:CC := .seq (.seq (.rg false Zj3) (.cond (.t 14) .skip (.exit 0))) (.seq (.block 1 (.seq (.rg true Zjq) (.cond (.t 25) (.seq (.rg false Yae) .ret) .skip))) (.rg false Zsp))
def Zsf:List IOp := [oI 4 (.mv (.c (.bool true))) 0]
def Z55:CC := .seq (.rg false Ztu) (.seq (.seq (.rg false Zvj) (.cond (.t 10) (.seq (.rg false Ych) .ret) .skip)) (.seq (.seq (.rg false Zso) (.block 0 (.loop Zup))) (.seq (.rg false Zsf) .ret)))
abbrev Yhf:Nat:=56
theorem Ydr:fnOk Tryz.prog 56=some (26,Z55,[.tmp 4]):=by kernel_rfl
end GoAbs
namespace GoAbs
open Go Go.Proofs
end GoAbs
namespace GoAbs
open Go Go.Proofs
end GoAbs
namespace GoAbs
open Go Go.Proofs
set_option maxHeartbeats 4000000
end GoAbs
namespace GoAbs
open Go Go.Proofs
def Zks:List IOp := [oI 6 (.mv (.c (.bool false))) 0]
def Zkn:List IOp := [mI 13 0 0,oI 14 (.call 13 [.t 13]) 0,mI 15 1 0,oI 16 (.call 14 [.t 15]) 0,mI 17 2 0,oI 18 (.call 35 [.t 17]) 0,mI 7 14 0,mI 8 16 0,mI 9 18 0]
def Zk6:List IOp := [mI 20 7 0,mI 21 8 0,mI 22 9 0,oI 23 (.call 36 [.t 20,.t 21,.t 22]) 0,mI 19 23 0,eI 24 0 19 0,eI 25 1 19 0,mI 10 24 0,mI 11 25 0]
def Zcr:List IOp := [mI 26 7 0,mI 27 8 0,mI 28 9 0,oI 29 (.call 16 [.t 26,.t 27,.t 28]) 0,mI 12 29 0]
def Zcp:List IOp := [mI 30 12 0,oI 31 (.bin .eql (.t 30) (cI 0)) 0,mI 32 31 0,gI 33 (.mv (.t 9)) 0 32 true,gI 34 (.len (.t 33)) 0 32 true,gI 35 (.mv (.t 7)) 0 32 true,gI 36 (.len (.t 35)) 0 32 true,gI 37 (.bin .neq (.t 34) (.t 36)) 0 32 true,oI 38 (.pick (.t 32) (.t 37) (.c (.bool false))) 0]
def Zkw:List IOp := [oI 12 (.mv (cI 1)) 0]
def Zcs:List IOp := [mI 39 12 0,oI 40 (.bin .neq (.t 39) (cI 0)) 0]
def Zfb:List IOp := [mI 41 10 0,oI 42 (.un .not (.t 41)) 0,mI 43 42 0,gI 44 (.mv (.t 11)) 0 43 true,gI 45 (.mv (.t 12)) 0 43 true,gI 46 (.bin .eql (.t 44) (.t 45)) 0 43 true,oI 47 (.pick (.t 43) (.t 46) (.c (.bool false))) 0,mI 48 47 0,gI 49 (.call 17 []) 0 48 true,oI 50 (.pick (.t 48) (.t 49) (.c (.bool false))) 0,mI 6 50 0]
def Zkx:List IOp := [mI 51 10 0,mI 52 7 0,mI 53 8 0,oI 54 (.call 21 [.t 53]) 0,mI 55 9 0,oI 56 (.call 27 [.t 55]) 0,oI 57 (.call 37 [.t 52,.t 54,.t 56]) 0,oI 58 (.beq false (.t 51) (.t 57)) 0,mI 59 58 0,gI 60 (.mv (.t 11)) 0 59 true,gI 61 (.bin .eql (.t 60) (cI 0)) 0 59 true,oI 62 (.pick (.t 59) (.t 61) (.c (.bool false))) 0,mI 63 62 0,gI 64 (.call 17 []) 0 63 true,oI 65 (.pick (.t 63) (.t 64) (.c (.bool false))) 0,mI 6 65 0]
def Zta:CC := .seq (.rg false Zks) (.seq (.rg false Zkn) (.seq (.rg false Zk6) (.seq (.rg false Zcr) (.seq (.seq (.rg false Zcp) (.cond (.t 38) (.rg false Zkw) .skip)) (.seq (.seq (.rg false Zcs) (.cond (.t 40) (.seq (.rg false Zfb) .ret) .skip)) (.seq (.rg false Zkx) .ret))))))
abbrev Z8v:Nat:=8
theorem Z49:fnOk Tryz.prog 8=some (66,Zta,[.tmp 6]):=by kernel_rfl
end GoAbs
namespace GoAbs
open Go Go.Proofs
set_option maxHeartbeats 4000000
def strsL (l:List (List UInt8)):List AV:=l.map fun s => .str (bs s)
theorem rsame {l:List (List UInt8)}(hl:l.length≤1000000):SpecV Tryz.prog Yhf [.sl (strsL l),.sl (strsL l)] (.bool true):=by
 have hmx:Tryz.prog.follows .mixedOrders=true:=by kernel_rfl
 have hsl:(strsL l).length=l.length:=by simp [strsL]
 refine Za0 Ydr (by simp) (Za3 1 rfl ?_)
 unfold Z55
 simp only [go_sem,Ztu,Zvj,hsl]
 refine Zax (Zax (T_W ?_))
 simp only [go_sem,Zso]
 refine Zaz (Zaf (fun i:Nat=>⟨envL [(0,.sl (strsL l)),(1,.sl (strsL l)),(5,.int .i64 (i:Int))],[]⟩)
  (fun i=>i≤l.length) (fun i=>l.length - i) 0 (by omega) (Zab _ (by simp only [go_sem]; simp)) (fun i hi N hN=>?_))
 unfold Zup
 by_cases hin:i<l.length
 ·obtain ⟨s,hs⟩:∃ s,l[i]? = some s:=⟨_,List.getElem?_eq_getElem hin⟩
  have hget:(strsL l)[i]? = some (.str (bs s)):=by simp [strsL,hs]
  have q0:(0:Int)≤(i:Int):=by omega
  have q1:(i:Int)<(l.length:Int):=by omega
  have e1:IntKind.i64.wrap ((i:Int)+1)=((i+1:Nat):Int):=by rw [Zac (by omega) (by omega)]; omega
  simp only [go_sem,Zj3,Zjq,Zsp,q0,q1,hsl,hget,hmx,e1]
  exact hN (i+1) _ (by omega) (by omega) (Zab _ (by simp only [go_sem]))
 ·have hie:i=l.length:=by omega
  subst hie
  have q1:¬ ((l.length:Nat):Int)<(l.length:Int):=by omega
  simp only [go_sem,Zj3,hsl,q1]
  refine T_W ?_
  simp only [go_sem,Zsf]
def L1:List Nd := [⟨1,[49],[(0,[])]⟩]
def d12:List UInt8 := [49,47,50]
theorem Ygi:GIn L1 d12:=by
 refine ⟨.inl (by decide),by decide,fun n hn=>?_⟩
 simp [L1] at hn
 subst hn
 refine ⟨by decide,by decide,fun m hm=>?_⟩
 simp at hm
 subst hm
 decide
theorem Ymm:eC L1 d12=0:=by decide+kernel
theorem Ynk:toGm L1 d12=⟨[⟨1,[0],[]⟩],[1],1/2⟩:=by
 unfold toGm L1 d12 toGN oddsQ
 have h1:parseL [49]=some 1:=by decide+kernel
 have h2:parseL [49,47,50]=some (1/2):=by decide+kernel
 simp [h1,h2,hasO]
theorem Y9r:valG (toGm L1 d12) = [2]:=by
 rcases Zv7 Ygi with ⟨h,_⟩ | ⟨_,_,hg,_⟩
 ·exact absurd Ymm h
 ·symm
  refine Yit hg (by rw [Ynk]; rfl) (fun i hi=>?_)
  rw [Ynk] at hi ⊢
  have:i=0:=by simpa using hi
  subst this
  decide+kernel
theorem Y7f:rndR (toGm L1 d12) 3 = [7/4]:=by rw [Ynk]; decide+kernel
theorem Y56 {H:Heap}{ids:List Nat}{b:Nat}{k:Int}{s:ByteArray}{X:AV}{M:List AV}(hb:H[b]? = some (.cells [.int .i64 k,.str s,X])) (hi:b∈ids) (hX:BV H ids X (.sl M)):BV H ids (.osl (some 3) b 0 1) (.sl [.agg [.int .i64 k,.str s,.sl M]]):=by
 refine .osl (some 3) b 0 1 _ _ hb hi rfl (fun x hx=>by simp at hx; subst hx; rfl) (by simp [es]) (fun i x j y z hx hy hz=>?_)
 have hi0:i=0:=by
  have:=(List.getElem?_eq_some_iff.1 hx).1
  simp at this; exact this
 subst hi0
 simp at hx
 subst hx
 rw [show 0+(0*es (some 3)+j)=j by simp] at hz
 match j with
 | 0=>simp [AV.cells] at hy hz; subst hy hz; exact .int _ _
 | 1=>simp [AV.cells] at hy hz; subst hy hz; exact .str _
 | 2=>simp [AV.cells] at hy hz; subst hy hz; exact hX
 | j+3=>simp [AV.cells] at hy
theorem Y53 {H:Heap}{ids:List Nat}{b:Nat}{k:Int}{s:ByteArray}(hb:H[b]? = some (.cells [.int .i64 k,.str s])) (hi:b∈ids):BV H ids (.osl (some 2) b 0 1) (.sl [.agg [.int .i64 k,.str s]]):=by
 refine .osl (some 2) b 0 1 _ _ hb hi rfl (fun x hx=>by simp at hx; subst hx; rfl) (by simp [es]) (fun i x j y z hx hy hz=>?_)
 have hi0:i=0:=by
  have:=(List.getElem?_eq_some_iff.1 hx).1
  simp at this; exact this
 subst hi0
 simp at hx
 subst hx
 rw [show 0+(0*es (some 2)+j)=j by simp] at hz
 match j with
 | 0=>simp [AV.cells] at hy hz; subst hy hz; exact .int _ _
 | 1=>simp [AV.cells] at hy hz; subst hy hz; exact .str _
 | j+2=>simp [AV.cells] at hy
theorem Yvy {H:Heap}{ids:List Nat}{b:Nat}{s:ByteArray}(hb:H[b]? = some (.cells [.str s])) (hi:b∈ids):BV H ids (.osl none b 0 1) (.sl [.str s]):=by
 refine .osl none b 0 1 _ _ hb hi rfl (fun x hx=>by simp at hx; subst hx; rfl) (by simp [es]) (fun i x j y z hx hy hz=>?_)
 have hi0:i=0:=by
  have:=(List.getElem?_eq_some_iff.1 hx).1
  simp at this; exact this
 subst hi0
 simp at hx
 subst hx
 match j with
 | 0=>simp [AV.cells,es] at hy hz; subst hy hz; exact .str _
 | j+1=>simp [AV.cells] at hy
theorem wlives:SpecV Tryz.prog Yob [] (.bool true):=by
 have hv:=wvalue Ygi
 rw [if_pos Ymm,Y9r,show numsR [2] = .tup [.sl (strsL [[50]]),.int .i64 0] by
  unfold numsR
  rw [if_pos (by decide+kernel)]
  have:numS 2 = [50]:=by decide+kernel
  simp [ss,strsL,this]] at hv
 have hr:=wrounds (r:=3) Ygi (by omega)
 rw [show rC L1 d12 3=0 by unfold rC; rw [Ymm]; rfl,if_pos rfl,show (3:Int).toNat=3 from rfl,Y7f,show numsR [7/4] = .tup [.sl (strsL [[55,47,52]]),.int .i64 0] by
  unfold numsR
  rw [if_pos (by decide+kernel)]
  have:numS (7/4) = [55,47,52]:=by decide+kernel
  simp [ss,strsL,this]] at hr
 refine Zae Yj5 (by simp) ?_
 unfold Yft
 simp only [go_sem,Z3e,Z2d]
 refine Zh8 (ids := [0,1]) hv (.cons (Y56 rfl (by simp) (Y53 rfl (by simp))) (.cons (.str _) .nil)) ?_
 simp only [go_sem,Z1u,kill,List.foldl_cons,List.foldl_nil]
 refine Zh8 (ids := [2,3]) hr (.cons (Y56 rfl (by simp) (Y53 rfl (by simp))) (.cons (.str _) (.cons (.int _ _) .nil))) ?_
 simp only [go_sem,Z15,kill,List.foldl_cons,List.foldl_nil]
 have s1:=rsame (l := [[50]]) (by decide)
 have s2:=rsame (l := [[55,47,52]]) (by decide)
 refine Zsi (ids := [4]) s1 (.cons (.sl _) (.cons (Yvy rfl (by simp)) .nil)) (.inr (.bool _)) (fun b _=>trivial) ?_
 simp only [go_sem]
 refine Zsi (ids := [5]) s2 (.cons (.sl _) (.cons (Yvy rfl (by simp)) .nil)) (.inr (.bool _)) (fun b _=>trivial) ?_
 simp only [go_sem]
end GoAbs
namespace GoAbs
open Go Go.Proofs
set_option maxHeartbeats 4000000
end GoAbs
namespace GoAbs
open Go Go.Proofs
set_option maxHeartbeats 4000000
theorem Xdv {L:List Nd}{d:List UInt8}(h:GIn L d) (he:eC L d=0):(∀ n,n∈L→NdG L.length n)∧okB d=true:=by
 unfold eC at he
 split at he
 ·cases he
 ·rename_i h1
  split at he
  ·cases he
  ·rename_i h2
   have h1':(L.all ndVa && okB d)=true:=by simpa using h1
   have h2':gFit L d=true:=by simpa using h2
   rw [Bool.and_eq_true] at h1'
   unfold gFit at h2'
   simp only [Bool.and_eq_true] at h2'
   exact ⟨fun n hn=>Xdh (List.all_eq_true.1 h1'.1 n hn) (List.all_eq_true.1 h2'.1.2 n hn) (h.ok n hn),h1'.2⟩
theorem Xc3 {H:Heap}{ids:List Nat}{q:Rat}:BVs H ids (rq q) (rq q)=True:=Yjl
theorem Xes {d:List UInt8}(hd:okB d=true) (hl:d.length≤1000):SpecV Tryz.prog Zv6 [.str (bs d)] (.agg (rq ((parseL d).getD 0))):=rof (by omega) (okBq hd)
end GoAbs
namespace GoAbs
open Go Go.Proofs
set_option maxHeartbeats 8000000
theorem txts_len' (M:List (List UInt8)):(txts M).length=M.length:=by simp [txts]
theorem Xby {ls:List AV}{G:AV}{ec:Int}{M:List (List UInt8)}(hM:M.length≤1000000) (hMl:∀ s,s∈M→s.length≤1000000000) {K:Ex→St→Prop}
  (hK:M.all okB=true→∀ e:Nat→AV,e 0 = .sl ls→e 2 = .sl (txts M)→e 8=G→e 9 = .int .i64 ec→e 10 = .osl (some 4) 0 0 M.length→K (.exit 0) ⟨e,[.cells (qc (M.map toQ))]⟩)
  (hK0:M.all okB=false→∀ e:Nat→AV,∀ H,e 6 = .bool false→e 7 = .int .i64 2→K .ret ⟨e,H⟩) (hG:∀ f,G.gc f=G) :
  T Tryz.prog 68 0 (.loop Zj4) ⟨envL [(0,.sl ls),(2,.sl (txts M)),(8,G),(9,.int .i64 ec),(10,.osl (some 4) 0 0 0),(23,.sl (txts M)),(24,.int .i64 (M.length:Int)),(25,.int .i64 0)],[.cells []]⟩ K:=by
 have hmx:Tryz.prog.follows .mixedOrders=true:=by kernel_rfl
 refine Zaf (fun i:Nat=>⟨envL [(0,.sl ls),(2,.sl (txts M)),(8,G),(9,.int .i64 ec),(10,.osl (some 4) 0 0 i),(23,.sl (txts M)),(24,.int .i64 (M.length:Int)),(25,.int .i64 (i:Int))],[.cells (qc ((M.take i).map toQ))]⟩)
  (fun i=>i≤M.length∧(M.take i).all okB=true) (fun i=>M.length - i) 0 ⟨by omega,rfl⟩ (Zab _ (by simp only [go_sem]; simp)) (fun i hI N hN=>?_)
 obtain ⟨hi,hal⟩:=hI
 unfold Zj4
 by_cases hin:i<M.length
 ·obtain ⟨s,hs⟩:∃ s,M[i]? = some s:=⟨_,List.getElem?_eq_getElem hin⟩
  have hsl:=hMl s (List.mem_of_getElem? hs)
  have hget:(txts M)[i]? = some (.str (bs s)):=Yic hs
  obtain ⟨c,t,c4,cg,cb,hp,hor⟩:=Yvv hsl
  have tk:(M.take (i+1)).map toQ=(M.take i).map toQ ++ [toQ s]:=by rw [List.take_add_one,hs]; simp
  have tb:(M.take (i+1)).all okB=((M.take i).all okB && okB s):=by rw [List.take_add_one,hs]; simp
  have l1:(qc ((M.take i).map toQ)).length=i*4:=by rw [qc_len',List.length_map,List.length_take]; congr 1; omega
  have l2:(qc ((M.take i).map toQ)).take (i*4)=qc ((M.take i).map toQ):=List.take_of_length_le (by omega)
  have q0:(0:Int)≤(i:Int):=by omega
  have q1:(i:Int)<(M.length:Int):=by omega
  have s1:(i+1)*64≤1099511627776:=by omega
  have e1:IntKind.i64.wrap ((i:Int)+1)=((i+1:Nat):Int):=by rw [Zac (by omega) (by omega)]; omega
  have ct:c.take 4=c:=List.take_of_length_le (by omega)
  have cd:c.drop 4 = []:=List.drop_eq_nil_of_le (by omega)
  simp only [go_sem,Zjc,Zt4,Zs6,q0,q1,txts_len',hget]
  refine Zaa hp (by simp only [go_sem]) ?_
  rcases hor with ⟨rfl,q,hq,rfl⟩ | ⟨rfl,hq⟩
  ·have hok:okB s=true:=by unfold okB; rw [hq]; rfl
   have htq:toQ s=q:=by unfold toQ; rw [hq]; rfl
   rw [htq] at tk
   have tk2:qc ((M.take (i+1)).map toQ)=qc ((M.take i).map toQ)++qcell q:=by rw [tk]; exact Yyc
   have ql:∀ q:Rat,(qcell q).length=4:=fun q=>rfl
   have qt:∀ q:Rat,(qcell q).take 4=qcell q:=fun q=>rfl
   have qd:∀ q:Rat,(qcell q).drop 4 = []:=fun q=>rfl
   simp only [go_sem,Zj7,Zqp,Zqq,ql,qt,qd,l1,l2,s1,e1,Nat.le_refl,List.cons_append,List.nil_append]
   refine hN (i+1) _ ⟨by omega,by rw [tb,hal,hok]; rfl⟩ (by omega) (Zbx (Zh3 [3] (by decide) (fun i hi=>by omega) [(0,.sl ls),(2,.sl (txts M)),(8,G),(9,.int .i64 ec),(10,.osl (some 4) 3 0 (i+1)),(23,.sl (txts M)),(24,.int .i64 (M.length:Int)),(25,.int .i64 ((i+1:Nat):Int))] (by simp only [go_sem])) ?_)
   show St.mk _ [Blk.cells (gcL _ (qc ((M.take i).map toQ)++qcell q))]=_
   rw [← tk2,gc_qc']
   simp [AV.gc,hG,pos]
  ·have hok:okB s=false:=by unfold okB; rw [hq]; rfl
   have hf:M.all okB=false:=by
    rw [List.all_eq_false]
    exact ⟨s,List.mem_of_getElem? hs,by rw [hok]; decide⟩
   simp only [go_sem,Zj7,Zv2,c4,ct,cd]
   exact hK0 hf _ _ (by simp only [go_sem]) (by simp only [go_sem])
 ·have hie:i=M.length:=by omega
  subst hie
  have q1:¬ ((M.length:Nat):Int)<(M.length:Int):=by omega
  rw [List.take_length] at hal ⊢
  simp only [go_sem,Zjc,q1]
  exact hK hal _ (by simp only [go_sem]) (by simp only [go_sem]) (by simp only [go_sem]) (by simp only [go_sem]) (by simp only [go_sem])
theorem Xc9 {v w:List Rat}{k:Nat}{H:Heap}{n:Nat}(hv:Rb k v) (hw:Rb k w) (hk:2*k+1≤1000000000000) (hvl:v.length=n) (hwl:w.length=n) (hn:n≤1000000) (hH:H = [.dead]) {K:Ex→St→Prop}
  (hK:((List.range n).all fun i=>decide (rget v i=rget w i))=true→∀ e:Nat→AV,∀ H,K (.exit 3) ⟨e,H⟩)
  (hK0:((List.range n).all fun i=>decide (rget v i=rget w i))=false→∀ e:Nat→AV,∀ H,e 6 = .bool false→e 7 = .int .i64 0→K .ret ⟨e,H⟩) :
  T Tryz.prog 68 0 (.loop Zfa) ⟨envL [(10,.sl (condsR v)),(53,.sl (condsR w)),(54,.int .i64 (n:Int)),(55,.int .i64 0)],H⟩ K:=by
 have hmx:Tryz.prog.follows .mixedOrders=true:=by kernel_rfl
 subst hH
 refine Zaf (fun i:Nat=>⟨envL [(10,.sl (condsR v)),(53,.sl (condsR w)),(54,.int .i64 (n:Int)),(55,.int .i64 (i:Int))],[.dead]⟩)
  (fun i=>i≤n∧((List.range i).all fun i=>decide (rget v i=rget w i))=true) (fun i=>n - i) 0 ⟨by omega,rfl⟩ (Zab _ (by simp only [go_sem]; simp)) (fun i hI N hN=>?_)
 obtain ⟨hi,hal⟩:=hI
 unfold Zfa
 by_cases hin:i<n
 ·have hcm:=Yw2 (hw.get (j:=i) (by omega)) (hv.get (j:=i) (by omega)) hk
  have q0:(0:Int)≤(i:Int):=by omega
  have q1:(i:Int)<(n:Int):=by omega
  have e1:IntKind.i64.wrap ((i:Int)+1)=((i+1:Nat):Int):=by rw [Zac (by omega) (by omega)]; omega
  have ql:∀ q:Rat,(qcell q).length=4:=fun q=>rfl
  have qt:∀ q:Rat,(qcell q).take 4=qcell q:=fun q=>rfl
  have qd:∀ q:Rat,(qcell q).drop 4 = []:=fun q=>rfl
  simp only [go_sem,Zhk,Zqi,Zh1,q0,q1,Zcj,hvl,hwl,Za7 (Zak (r:=v) (j:=i) (by omega)),Za7 (Zak (r:=w) (j:=i) (by omega)),ql,qt,qd,hmx,List.cons_append,List.nil_append]
  refine Zaa hcm (by simp only [go_sem,Zas,Zah]) ?_
  by_cases hc:rget v i=rget w i
  ·have hc0:cmpR (rget w i) (rget v i)=0:=by rw [Yz6]; exact hc.symm
   simp only [go_sem,hc0,Zqr,e1]
   exact hN (i+1) _ ⟨by omega,by rw [List.range_succ,List.all_append,hal]; simp [hc]⟩ (by omega) (Zf6 (K := [.dead]) (post := [_]) (m:=1) rfl rfl (by omega) _ (by simp only [go_sem]) (by simp [AV.gc]))
  ·have hc0:¬ cmpR (rget w i) (rget v i)=0:=by rw [Yz6]; exact fun h=>hc h.symm
   have hf:((List.range n).all fun i=>decide (rget v i=rget w i))=false:=by
    rw [List.all_eq_false]
    exact ⟨i,List.mem_range.2 hin,by simp [hc]⟩
   simp only [go_sem,hc0,Zqb]
   exact hK0 hf _ _ (by simp only [go_sem]) (by simp only [go_sem])
 ·have hie:i=n:=by omega
  subst hie
  have q1:¬ ((i:Nat):Int)<(i:Int):=by omega
  simp only [go_sem,Zhk,q1]
  exact hK hal _ _
def pC (L:List Nd) (d:List UInt8) (M:List (List UInt8)):Int:=if M.all okB=false then 2 else if eC L d=0 then (if M.length=L.length then 0 else 1) else eC L d
theorem wproves {L:List Nd}{d:List UInt8}{M:List (List UInt8)}{k:Nat}(h:GIn L d) (hM:M.length≤1000000) (hMl:∀ s,s∈M→s.length≤1000000000) (hb:∀ s,s∈M→Qb k (toQ s)) (hk:k≤1000000000) :
  SpecV Tryz.prog Z0q [.sl (L.map ndAV),.str (bs d),.sl (txts M)]
   (if pC L d M=0 then .tup [.bool ((List.range L.length).all fun i=>decide (rget (M.map toQ) i=nextV (toGm L d) (M.map toQ) i)),.int .i64 0] else .tup [.bool false,.int .i64 (pC L d M)]):=by
 obtain ⟨ls,hls⟩:∃ ls,ls=L.map ndAV:=⟨_,rfl⟩
 have hlsl:ls.length=L.length:=by rw [hls,List.length_map]
 have hle:=h.le
 have gen:∀ (G:AV) (R:AV),SpecV Tryz.prog Zo9 [.sl ls,.str (bs d)] (.tup [G,.int .i64 (eC L d)])→(∀ f,G.gc f=G) →
   (M.all okB=false→R = .tup [.bool false,.int .i64 2]) →
   (M.all okB=true→∀ e:Nat→AV,e 0 = .sl ls→e 2 = .sl (txts M)→e 8=G→e 9 = .int .i64 (eC L d)→e 10 = .osl (some 4) 0 0 M.length →
    T Tryz.prog 68 0 (.seq (.block 2 (.seq (.rg false Zb8) (.cond (.t 41) (.seq (.rg false Zhm) .ret) (.seq (.rg false Zec) (.cond (.t 45) (.seq (.rg false Zhz) .ret) .skip))))) (.seq (.seq (.rg false Zhy) (.block 3 (.loop Zfa))) (.seq (.rg false Zeb) .ret))) ⟨e,[.cells (qc (M.map toQ))]⟩ (retQ [.tmp 6,.tmp 7] R)) →
   SpecV Tryz.prog Z0q [.sl ls,.str (bs d),.sl (txts M)] R:=fun G R hs hG h0 h1=>by
  refine Za0 Ydj (by simp) (Za3 2 rfl ?_)
  unfold Z6l
  simp only [go_sem,Zvd,Zsh]
  refine Zaa hs (by simp only [go_sem]) ?_
  simp only [go_sem,Zsy]
  refine T_le (Zh2 10 (some 4) (by simp only [go_sem]) [(0,.sl ls),(2,.sl (txts M)),(8,G),(9,.int .i64 (eC L d))] (by simp only [go_sem])) ?_
  refine Zax (Zax (T_W ?_))
  simp only [go_sem,Zuk,txts_len']
  refine Zaz (Zar [(0,.sl ls),(2,.sl (txts M)),(8,G),(9,.int .i64 (eC L d)),(10,.osl (some 4) 0 0 0),(23,.sl (txts M)),(24,.int .i64 (M.length:Int)),(25,.int .i64 0)] (by simp only [go_sem]) (Xby hM hMl (fun ha e k0 k2 k8 k9 k10=>?_) (fun hf e H k6 k7=>?_) hG))
  ·exact h1 ha e k0 k2 k8 k9 k10
  ·rw [h0 hf]
   simp only [go_sem,k6,k7]
 rw [← hls]
 by_cases hall:M.all okB=false
 ·have hp:pC L d M=2:=by unfold pC; rw [if_pos hall]
  rw [hp,if_neg (by decide)]
  rcases Zv7 h with ⟨h1,hs⟩ | ⟨h1,hs,hg,hn,hn1,hn5⟩
  ·rw [← hls] at hs
   exact gen _ _ hs (fun m=>rfl) (fun _=>rfl) (fun ha=>by rw [ha] at hall; cases hall)
  ·rw [← hls] at hs
   exact gen _ _ (by rw [h1]; exact hs) (fun m=>rfl) (fun _=>rfl) (fun ha=>by rw [ha] at hall; cases hall)
 ·have hp:pC L d M=if eC L d=0 then (if M.length=L.length then 0 else 1) else eC L d:=by unfold pC; rw [if_neg hall]
  rw [hp]
  rcases Zv7 h with ⟨h1,hs⟩ | ⟨h1,hs,hg,hn,hn1,hn5⟩
  ·rw [← hls] at hs
   rw [if_neg h1,if_neg h1]
   refine gen _ _ hs (fun m=>rfl) (fun hf=>absurd hf hall) (fun _ e k0 k2 k8 k9 k10=>?_)
   refine Za3 0 rfl ?_
   simp only [go_sem,Zb8,Zhm,k9,h1]
  ·rw [← hls] at hs
   rw [if_pos h1]
   by_cases hl:M.length=L.length
   ·rw [if_pos hl,if_pos rfl]
    refine gen _ _ (by rw [h1]; exact hs) (fun m=>rfl) (fun hf=>absurd hf hall) (fun _ e k0 k2 k8 k9 k10=>?_)
    obtain ⟨v,hv⟩:∃ v,v=M.map toQ:=⟨_,rfl⟩
    have hvl:v.length=L.length:=by rw [hv,List.length_map,hl]
    have hvb:Rb k v:=fun q hq=>by
     rw [hv] at hq
     obtain ⟨s,hs,rfl⟩:=List.mem_map.1 hq
     exact hb s hs
    rw [← hv]
    generalize toGm L d=g at *
    have hnx:=Yjv hg.ok hvb (by rw [hvl,hn]) (by omega)
    have hnb:=Ya7 hg.ok hvb (by rw [hvl,hn])
    have hnl:(nextR g v).length=L.length:=by rw [Zj6,hn]
    have he:((List.range L.length).all fun i=>decide (rget v i=nextV g v i))=((List.range L.length).all fun i=>decide (rget v i=rget (nextR g v) i)):=by
     rw [Bool.eq_iff_iff,List.all_eq_true,List.all_eq_true]
     have e:∀ i,i∈List.range L.length→rget (nextR g v) i=nextV g v i:=fun i hi=>by
      unfold nextR; rw [Yd9 (by rw [hn]; exact List.mem_range.1 hi)]
     exact ⟨fun H i hi=>by rw [e i hi]; exact H i hi,fun H i hi=>by have:=H i hi; rw [e i hi] at this; exact this⟩
    rw [he]
    rw [h1] at k9
    rw [hl, ← hvl] at k10
    refine Zwd [0] [(0,.sl ls),(2,.sl (txts M)),(8,.rp (gmC g)),(9,.int .i64 0),(10,.sl (condsR v))] ?_ ?_
    ·refine ⟨.inr k0,.inr k2,.inr k8,.inr k9,.inl ?_,trivial⟩
     show BV [Blk.cells (qc v)] [0] (e 10) _
     rw [k10]
     exact Z9f rfl (by simp)
    show T Tryz.prog 68 0 _ ⟨_,[Blk.dead]⟩ _
    have hll:((L.length:Nat):Int)=((L.length:Nat):Int):=rfl
    refine Za3 0 rfl ?_
    simp only [go_sem,Zb8,Zec,txts_len',hl,hlsl]
    refine Zax (Zax (T_W ?_))
    simp only [go_sem,Zhy]
    refine Zaa hnx (by simp only [go_sem]) ?_
    simp only [go_sem,Zcj,hnl]
    refine Zaz (Zar [(10,.sl (condsR v)),(53,.sl (condsR (nextR g v))),(54,.int .i64 (L.length:Int)),(55,.int .i64 0)] (by simp only [go_sem]) (Xc9 (k:=6*k+331) (hvb.mono (by omega)) hnb (by omega) hvl hnl (by omega) rfl (fun ha e H=>?_) (fun hf e H k6 k7=>?_)))
    ·show T Tryz.prog 68 0 (.seq (.rg false Zeb) .ret) _ _
     refine T_W ?_
     rw [ha]
     simp only [go_sem,Zeb]
    ·rw [hf]
     simp only [go_sem,k6,k7]
   ·rw [if_neg hl,if_neg (by decide)]
    refine gen _ _ (by rw [h1]; exact hs) (fun m=>rfl) (fun hf=>absurd hf hall) (fun _ e k0 k2 k8 k9 k10=>?_)
    have hl':¬ ((M.length:Nat):Int)=(L.length:Int):=by omega
    refine Za3 0 rfl ?_
    simp only [go_sem,Zb8,Zec,Zhz,k0,k2,k9,h1,txts_len',hlsl,hl']
end GoAbs
namespace GoAbs
open Go Go.Proofs
set_option maxHeartbeats 4000000
def numsW (M:List (List UInt8)):List (List UInt8):=(M.take 12).map fun s=>s.take 30
theorem Y1m (M:List (List UInt8)):M.map strAV=txts M:=rfl
theorem Y7x {M:List (List UInt8)}(f:Nat→Option Nat):gcL f (txts M)=txts M:=by rw [Zaw]; unfold txts; rw [List.map_map]; rfl
theorem Y7z {H:Heap}{ids:List Nat}{b:Nat}{M:List (List UInt8)}(hb:H[b]? = some (.cells (txts M))) (hi:b∈ids):BV H ids (.osl none b 0 M.length) (.sl (txts M)):=by
 refine .osl none b 0 M.length (txts M) (txts M) hb hi (txts_len' M) (fun x hx=>?_) (by rw [txts_len']; simp [es]) (fun i x j y z hx hy hz=>?_)
 ·obtain ⟨c,_,rfl⟩:=List.mem_map.1 hx; rfl
 ·obtain ⟨c,_,rfl⟩:=List.mem_map.1 (List.mem_of_getElem? hx)
  cases j with
  | zero =>
   have hy':AV.str (bs c)=y:=by simpa [AV.cells] using hy
   subst hy'
   rw [show 0+(i*es none+0)=i by show 0+(i*1+0)=i; omega,hx] at hz
   cases hz
   exact .str _
  | succ j=>simp [AV.cells] at hy
theorem wnums {M:List (List UInt8)}:SpecV Tryz.prog Yrq [.sl (txts M)] (.sl (txts (numsW M))):=by
 have hmx:Tryz.prog.follows .mixedOrders=true:=by kernel_rfl
 refine Za0 Yn0 (by simp) (Za3 1 rfl ?_)
 unfold Ylh
 simp only [go_sem,Z65,Z8a]
 refine T_le (Zh2 3 none (by simp only [go_sem]) [(0,.sl (txts M))] (by simp only [go_sem])) ?_
 refine Zax (Zax (T_W ?_))
 simp only [go_sem,Z60]
 refine Zaz (Zhg (fun i:Nat=>⟨envL [(0,.sl (txts M)),(3,.osl none 0 0 i),(4,.int .i64 (i:Int))],[.cells (txts ((M.take i).map fun s=>s.take 30))]⟩)
  (fun i=>i≤M.length∧i≤12) (fun i=>M.length - i) 0 ⟨by omega,by omega⟩ (Zab _ (by simp only [go_sem]; simp)) (fun i hI N hN=>?_))
 obtain ⟨h1,h2⟩:=hI
 unfold Z66
 have fin:(M.take i).map (fun s=>s.take 30)=numsW M→T Tryz.prog 31 0 (.seq (.rg false Zt2) .ret) ⟨envL [(3,.osl none 0 0 i)],[.cells (txts ((M.take i).map fun s=>s.take 30))]⟩ (retQ [.tmp 2] (.sl (txts (numsW M)))):=fun hf=>by
  have hl:(numsW M).length=i:=by rw [← hf,List.length_map,List.length_take]; omega
  rw [hf]
  refine T_W ?_
  simp only [go_sem,Zt2]
  rw [← hl]
  exact Y7z rfl (by simp [allOf])
 by_cases hi:i<M.length
 ·have q1:(i:Int)<(M.length:Int):=by omega
  by_cases h12:i<12
  ·obtain ⟨s,hs⟩:∃ s,M[i]? = some s:=⟨_,List.getElem?_eq_getElem hi⟩
   have hget:(txts M)[i]? = some (.str (bs s)):=Yic hs
   have q0:(0:Int)≤(i:Int):=by omega
   have q2:(i:Int)<12:=by omega
   have e1:IntKind.i64.wrap ((i:Int)+1)=((i+1:Nat):Int):=by rw [Zac (by omega) (by omega)]; omega
   have tk:txts ((M.take (i+1)).map fun s=>s.take 30)=txts ((M.take i).map fun s=>s.take 30) ++ [.str (bs (s.take 30))]:=by rw [List.take_add_one,hs]; simp [txts]
   have l1:(txts ((M.take i).map fun s=>s.take 30)).length=i:=by rw [txts_len',List.length_map,List.length_take]; omega
   have l2:(txts ((M.take i).map fun s=>s.take 30)).take i=txts ((M.take i).map fun s=>s.take 30):=List.take_of_length_le (by omega)
   have hg:=fun f=>Y7x (M:=(M.take i).map fun s=>s.take 30) f
   generalize txts ((M.take i).map fun s=>s.take 30)=P at *
   have s1:(i+1)*16≤1099511627776:=by omega
   have n30:(if (30:Int)<(s.length:Int) then 30 else (s.length:Int))=((min s.length 30:Nat):Int):=by split <;> omega
   have p30:(0:Int)≤((min s.length 30:Nat):Int):=by omega
   have l30:min s.length 30≤s.length:=by omega
   have ht:s.take (min s.length 30)=s.take 30:=List.take_eq_take_iff.2 (by omega)
   refine T_W ?_
   simp only [go_sem,Zkp,Zsg,txts_len',q0,q1,q2,hget,Zam,n30,p30,Zce,l30,ht,List.drop_zero,Int.toNat_natCast,Nat.zero_le,hmx,s1,l1,l2,Nat.mul_one,Nat.le_refl,Z75,e1]
   refine hN (i+1) _ ⟨by omega,by omega⟩ (by omega) (Zbx (Zh3 [2] (by decide) (fun i hi=>by omega) [(0,.sl (txts M)),(3,.osl none 2 0 (i+1)),(4,.int .i64 ((i+1:Nat):Int))] (by simp only [go_sem])) ?_)
   show St.mk _ [Blk.cells (gcL _ (P ++ [AV.str (bs (s.take 30))]))]=_
   rw [Zws,hg,tk]
   rfl
  ·have q2:¬ (i:Int)<12:=by omega
   have hf:(M.take i).map (fun s=>s.take 30)=numsW M:=by unfold numsW; rw [show i=12 by omega]
   refine T_W ?_
   simp only [go_sem,Zkp,txts_len',q1,q2]
   exact Zar [(3,.osl none 0 0 i)] (by simp only [go_sem]) (fin hf)
 ·have q1:¬ (i:Int)<(M.length:Int):=by omega
  have hf:(M.take i).map (fun s=>s.take 30)=numsW M:=by unfold numsW; rw [List.take_of_length_le (by omega),List.take_of_length_le (by omega)]
  refine T_W ?_
  simp only [go_sem,Zkp,txts_len',q1]
  exact Zar [(3,.osl none 0 0 i)] (by simp only [go_sem]) (fin hf)
theorem Xet {L:List Nd}{d:List UInt8}{M:List (List UInt8)}:pC L d M=if chkC L d M=0 then (if M.length=L.length then 0 else 1) else chkC L d M:=by
 unfold pC chkC eC
 cases hM:M.all okB <;> cases hd:okB d <;> cases hL:L.all ndVa <;> cases hg:gFit L d <;> simp
theorem lproves {X:List Nd}{l:List UInt8}{Z:List (List UInt8)}:SpecV Tryz.prog Z8v [.sl (X.map ndAV),.str (bs l),.sl (txts Z)] (.bool true):=by
 obtain ⟨L,hL⟩:∃ L,L=fewW X:=⟨_,rfl⟩
 obtain ⟨d,hd⟩:∃ d,d=shW l:=⟨_,rfl⟩
 obtain ⟨M,hM⟩:∃ M,M=numsW Z:=⟨_,rfl⟩
 have hin:GIn L d:=by rw [hL,hd]; exact Y9e
 have hf:=wfew (L:=X)
 have hs:=wshort (l:=l)
 have hn:=wnums (M:=Z)
 rw [← hL] at hf
 rw [← hd] at hs
 rw [← hM] at hn
 have hMn:M.length≤12:=by rw [hM]; unfold numsW; rw [List.length_map,List.length_take]; omega
 have hMl:∀ s,s∈M→s.length≤30:=fun s hs=>by
  rw [hM] at hs
  obtain ⟨t,_,rfl⟩:=List.mem_map.1 hs
  rw [List.length_take]; omega
 have hMb:∀ s,s∈M→Qb 100 (toQ s):=fun s hs=>by
  unfold toQ
  cases hp:parseL s with
  | none=>exact Qb.zero (by omega)
  | some q =>
   obtain ⟨b1,b2⟩:=Yqp (k:=30) (by omega) hp (hMl s hs)
   have c:10 ^ 30<2 ^ 100:=by decide
   exact ⟨Nat.lt_trans b1 c,Nat.lt_trans b2 c⟩
 have hchk:=rcheck (L:=L) (d:=d) (M:=M) (by have:=hin.le; omega) hin.ok hin.d (by omega) (fun s hs=>by have:=hMl s hs; omega)
 rw [Y1m] at hchk
 have hp:=wproves hin (by omega) (fun s hs=>by have:=hMl s hs; omega) hMb (by omega)
 have hcp:=Xet (L:=L) (d:=d) (M:=M)
 refine Zae Z49 (by simp) ?_
 unfold Zta
 simp only [go_sem,Zks,Zkn]
 refine Zaa hf (by simp only [go_sem]) ?_
 simp only [go_sem]
 refine Zaa hs (by simp only [go_sem]) ?_
 simp only [go_sem]
 refine Zaa hn (by simp only [go_sem]) ?_
 simp only [go_sem,Zk6]
 refine Zaa hp (by by_cases h0:pC L d M=0 <;> simp only [go_sem,h0]) ?_
 by_cases hc0:chkC L d M=0
 ·rw [if_pos hc0] at hcp
  by_cases hl:M.length=L.length
  ·rw [if_pos hl] at hcp
   rw [hcp,if_pos rfl]
   have he:eC L d=0:=by
    unfold pC at hcp
    split at hcp
    ·cases hcp
    ·split at hcp
     ·assumption
     ·exact hcp
   have hMok:M.all okB=true:=by
    unfold pC at hcp
    split at hcp
    ·cases hcp
    ·rename_i h; simpa using h
   obtain ⟨hnd,hdo⟩:=Xdv hin he
   obtain ⟨_,hg,hgn,hn1,hn5⟩:=((Zv7 hin).resolve_left (fun h=>h.1 he)).2
   have hvb:Rb 100 (M.map toQ):=fun q hq=>by
    obtain ⟨s,hs,rfl⟩:=List.mem_map.1 hq
    exact hMb s hs
   have hrp:=rproves (d:=d) hnd hg.ok.db hvb (by omega) (by omega) (by rw [List.length_map,hl]) (by omega) hg.ok
   have hqs:=rqs (L:=M) (fun s hs=>⟨by have:=hMl s hs; omega,List.all_eq_true.1 hMok s hs⟩) (by omega)
   have hle:((M.length:Nat):Int)=(L.length:Int):=by omega
   generalize ((List.range L.length).all fun i=>decide (rget (M.map toQ) i=nextV (toGm L d) (M.map toQ) i))=b at *
   simp only [go_sem,Zcr]
   refine Zaa hchk (by simp only [go_sem]) ?_
   simp only [go_sem,hc0,hle,Zcp,Zcs,Zkx,txts_len',List.length_map]
   refine Zaa (Xes hdo (by have:=hin.d; omega)) (by simp only [go_sem]) ?_
   simp only [go_sem]
   refine Zaa hqs (by simp only [go_sem]) ?_
   simp only [go_sem]
   refine Zaa hrp (by simp only [go_sem,Xc3,rowV]) ?_
   cases b with
   | false =>
    simp only [go_sem]
    refine Zaa wlives (by simp only [go_sem]) ?_
    simp only [go_sem]
   | true =>
    simp only [go_sem]
    refine Zaa wlives (by simp only [go_sem]) ?_
    simp only [go_sem]
  ·rw [if_neg hl] at hcp
   rw [hcp,if_neg (by decide)]
   have hle:¬ ((M.length:Nat):Int)=(L.length:Int):=by omega
   simp only [go_sem,Zcr]
   refine Zaa hchk (by simp only [go_sem]) ?_
   simp only [go_sem,hc0,hle,Zcp,Zkw,Zcs,Zfb,txts_len',List.length_map]
   refine Zaa wlives (by simp only [go_sem]) ?_
   simp only [go_sem]
 ·rw [if_neg hc0] at hcp
  rw [hcp,if_neg hc0]
  simp only [go_sem,Zcr]
  refine Zaa hchk (by simp only [go_sem]) ?_
  simp only [go_sem,hc0,Zcp,Zcs,Zfb]
  refine Zaa wlives (by simp only [go_sem]) ?_
  simp only [go_sem]
end GoAbs
