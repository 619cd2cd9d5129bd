/- Lemmas for the claim (contracts of the functions that it reaches, and what they compute), without conditions. -/
import Derived.Test.YtnpgooaiiboanaaGreatK31
import Derived.Test.YtnpgooaiiboanaaGreatProg
import Derived.KernelRfl
set_option linter.unusedVariables false
set_option linter.unusedSimpArgs false
set_option maxRecDepth 10000
set_option maxHeartbeats 2000000
namespace GoAbs
open Go Go.Proofs
theorem Opens.mono {P:Program}{t:TypeId}{S S':List AV→Prop}(h:Opens P t S) (hs:∀ av,S av→S' av):Opens P t S':=fun enc w base spare held fuel cs x hx=>by
 obtain ⟨av,h1,h2⟩:=h enc w base spare held fuel cs x hx
 exact ⟨av,h1,hs av h2⟩
theorem opensSpr:Opens Tryz.prog 42 (fun av=>∃ s:Spr,av=sC s):=by
 refine Opens.mono (Yfu (n:=3) Tryz.underlying42 (by kernel_rfl) (Zec (off:=0) (k:=1) rfl (by kernel_rfl) (by omega) (Znn Tryz.underlying3) (Zec (off:=1) (k:=1) rfl (by kernel_rfl) (by omega) (Znn Tryz.underlying3) (Zec (off:=2) (k:=1) rfl (by kernel_rfl) (by omega) (Yws Tryz.underlying26) Z4u)))) ?_
 rintro av ⟨a,b,rfl,_,⟨n,rfl,_⟩,c,d,rfl,_,⟨m,rfl,_⟩,e,f,rfl,_,⟨s,rfl,_⟩,rfl⟩
 obtain ⟨l,rfl⟩:=Xdw s
 exact ⟨(n,m,l),rfl⟩
theorem opensSprs:Opens Tryz.prog 22 (fun av=>∃ L:List Spr,av = [.sl (L.map sprAV)]):=by
 refine Opens.mono (Yvi (n:=3) Tryz.underlying22 (by kernel_rfl) (by omega) opensSpr) ?_
 rintro av ⟨l,rfl,h⟩
 have:∀ l:List (List AV),(∀ c,c∈l→c.length=3∧∃ s:Spr,c=sC s)→∃ L:List Spr,l.map AV.agg=L.map sprAV:=by
  intro l
  induction l with
  | nil=>intro _; exact ⟨[],rfl⟩
  | cons c l ih =>
   intro h
   obtain ⟨L,hL⟩:=ih (fun d hd=>h d (by simp [hd]))
   obtain ⟨_,s,hs⟩:=h c (by simp)
   exact ⟨s::L,by rw [List.map_cons,List.map_cons,hL,hs]; rfl⟩
 obtain ⟨L,hL⟩:=this l h
 exact ⟨L,by rw [hL]⟩
theorem opensNet:Opens Tryz.prog 24 (fun av=>∃ (n:Int) (L:List Spr),av = [.int .i64 n,.sl (L.map sprAV)]):=by
 refine Opens.mono (Yfu (n:=2) Tryz.underlying24 (by kernel_rfl) (Zec (off:=0) (k:=1) rfl (by kernel_rfl) (by omega) (Znn Tryz.underlying3) (Zec (off:=1) (k:=1) rfl (by kernel_rfl) (by omega) opensSprs Z4u))) ?_
 rintro av ⟨a,b,rfl,_,⟨n,rfl,_⟩,c,d,rfl,_,⟨L,rfl⟩,rfl⟩
 exact ⟨n,L,rfl⟩
theorem Ysz {P:Program}{f:Nat}{xs:List AV}{vs:Array Value}{w:World}(h:SpecV P f xs (.bool true)) (hr:Reps w noX noPl xs vs):Calls P f vs w fun e w'=>e = .returned (.bool true)∧Go.RowKit.Below w.heap.size w w' :=
 (h.2 noX w vs (fun _ hb=>hb.elim) hr).mono fun e w' he=>by
  obtain ⟨v,rfl,hv,hb⟩:=he
  cases hv
  exact ⟨rfl,hb⟩
theorem opensEnds:Opens Tryz.prog 52 (fun av=>∃ (a b:Int),av = [.int .i64 a,.int .i64 b]∧(Lit.int .i64 a).wf=true∧(Lit.int .i64 b).wf=true):=by
 refine Opens.mono (Yfu (n:=2) Tryz.underlying52 (by kernel_rfl) (Zec (off:=0) (k:=1) rfl (by kernel_rfl) (by omega) (Znn Tryz.underlying3) (Zec (off:=1) (k:=1) rfl (by kernel_rfl) (by omega) (Znn Tryz.underlying3) Z4u))) ?_
 rintro av ⟨a,b,rfl,_,⟨n,rfl,w1⟩,c,d,rfl,_,⟨m,rfl,w2⟩,rfl⟩
 exact ⟨n,m,rfl,w1,w2⟩
theorem Z8l {w:World}{x:AV}{xs:List AV}{v:Value}{l:List Value}(h:Rep w noX noPl x v) (k:Reps w noX noPl xs l.toArray):Reps w noX noPl (x::xs) (v::l).toArray:=by
 refine ⟨by have:=k.1; simp at this ⊢; exact this,fun i y u hy hu=>?_⟩
 cases i with
 | zero=>simp at hy hu; subst hy hu; exact h
 | succ i=>exact k.2 i y u (by simpa using hy) (by simpa using hu)
theorem reps3 {w:World}{x y z:AV}{v u t:Value}(h:Rep w noX noPl x v) (k:Rep w noX noPl y u) (m:Rep w noX noPl z t):Reps w noX noPl [x,y,z] #[v,u,t]:=Z8l h (Z8l k (Z8l (l := []) m ⟨rfl,fun i z t hz=>by simp at hz⟩))
theorem Y7g {P:Program}{W:World}{r:Reach}{base:Nat}{t:TypeId}{v:Value}{k:IntKind}(ht:P.underlying t=some (.int k)) (h:Value.okWide P W r base t v):v.cells = #[v]:=by
 obtain ⟨n,rfl⟩:=Go.WideShapes.okWide_int ht h; rfl
theorem Y5r {P:Program}{W:World}{r:Reach}{base:Nat}{t:TypeId}{v:Value}{e:TypeId}(ht:P.underlying t=some (.slice e)) (h:Value.okWide P W r base t v):v.cells = #[v]:=by
 obtain ⟨a,l,c,rfl⟩:=Go.WideShapes.okWide_slice ht h; rfl
theorem Xak {n:Int}(h:(Lit.int .u8 n).wf=true):0≤n∧n≤255:=bounds_u8 h
end GoAbs
namespace GoAbs
open Go Go.Proofs
def Zcm:List IOp := [oI 1 (.box (.t 0)) 0,oI 2 (.mv (.c (.bool false))) 1]
def Zcj:List IOp := [lJ 3 4 1 0,oI 4 (.call 95 [.t 3]) 0,oI 5 (.bin .neq (.t 4) (cI 0)) 0,mI 2 5 0]
def Zjv:CC := .seq (.rg false Zcm) (.seq (.rg false Zcj) .ret)
abbrev Za4:Nat:=101
theorem Zvc:fnOk Tryz.prog 101=some (6,Zjv,[.tmp 2]):=by kernel_rfl
def Zik:List IOp := [oI 4 (.mv (cI 0)) 0]
def Zix:List IOp := [mI 6 0 0,oI 7 (.len (.t 6)) 0,oI 8 (.mv (cI 0)) 0]
def Zdf:List IOp := [oI 9 (.bin .lss (.t 8) (.t 7)) 0]
def Ziw:List IOp := [mI 10 8 0,mI 5 10 0]
def Zij:List IOp := [mI 11 1 0,mI 12 0 0,mI 13 5 0,xI 14 4 12 13 0,lJ 15 4 14 0,oI 16 (.callv (.t 11) [.t 15]) 0]
def Ziv:List IOp := [mI 17 5 0,mI 4 17 0]
def Zip:List IOp := [oI 18 (.bin .add (.t 8) (cI 1)) 0,mI 8 18 0]
def Zdi:CC := .seq (.rg false Zdf) (.seq (.cond (.t 9) .skip (.exit 0)) (.seq (.block 1 (.seq (.rg false Ziw) (.seq (.rg false Zij) (.cond (.t 16) (.seq (.rg false Ziv) .ret) .skip)))) (.rg false Zip)))
def Zin:List IOp := [oI 4 (.mv (cI (-1))) 0]
def Zm8:CC := .seq (.rg false Zik) (.seq (.seq (.rg false Zix) (.block 0 (.loop Zdi))) (.seq (.rg false Zin) .ret))
abbrev Z12:Nat:=133
theorem Zzi:fnOk Tryz.prog 133=some (19,Zm8,[.tmp 4]):=by kernel_rfl
def Zfw:List IOp := [oI 4 (.mv (.c (.bool false))) 0]
def Zez:List IOp := [mI 5 0 0,mI 6 1 0,oI 7 (.call 133 [.t 5,.t 6]) 0,oI 8 (.bin .geq (.t 7) (cI 0)) 0,mI 4 8 0]
def Zir:CC := .seq (.rg false Zfw) (.seq (.rg false Zez) .ret)
abbrev Zt8:Nat:=100
theorem Zrg:fnOk Tryz.prog 100=some (9,Zir,[.tmp 4]):=by kernel_rfl
def Zk8:List IOp := [oI 10 (.mv (.c (.bool false))) 0,oI 11 (.mv (cI 0)) 0]
def Zk5:List IOp := [mI 20 0 0,mI 21 1 0,oI 22 (.call 62 [.t 20,.t 21]) 0,mI 19 22 0,eI 23 0 19 0,eI 24 1 19 0,oI 12 (.alloc [.int .i64 0,.nils,.nils]) 0,⟨none,.st 3 (.t 12) (.t 23),1,[],[],none⟩,mI 13 24 1]
def Zlu:List IOp := [mI 26 4 0,oI 27 (.call 91 [.t 26]) 0,mI 25 27 0,eI 28 0 25 0,eI 29 1 25 0,mI 14 28 0,mI 15 29 0]
def Zlm:List IOp := [mI 31 13 0,oI 32 (.bin .eql (.t 31) (cI 2)) 0,mI 33 32 0,gI 34 (.mv (.t 15)) 0 33 false,gI 35 (.un .not (.t 34)) 0 33 false,oI 36 (.pick (.t 33) (.c (.bool true)) (.t 35)) 0,mI 30 36 0]
def Z1q:List IOp := [oI 10 (.mv (.c (.bool false))) 0,oI 11 (.mv (cI 2)) 0]
def Zli:List IOp := [mI 38 13 0,oI 39 (.bin .neq (.t 38) (cI 0)) 0,mI 40 39 0,gI 41 (.mv (.t 2)) 0 40 false,gI 42 (.bin .lss (.t 41) (cI 0)) 0 40 false,oI 43 (.pick (.t 40) (.c (.bool true)) (.t 42)) 0,mI 44 43 0,gI 45 (.mv (.t 2)) 0 44 false,gI 46 (.mv (.t 0)) 0 44 false,gI 47 (.bin .geq (.t 45) (.t 46)) 0 44 false,oI 48 (.pick (.t 44) (.c (.bool true)) (.t 47)) 0,mI 49 48 0,gI 50 (.mv (.t 3)) 0 49 false,gI 51 (.bin .lss (.t 50) (cI 0)) 0 49 false,oI 52 (.pick (.t 49) (.c (.bool true)) (.t 51)) 0,mI 53 52 0,gI 54 (.mv (.t 3)) 0 53 false,gI 55 (.mv (.t 0)) 0 53 false,gI 56 (.bin .geq (.t 54) (.t 55)) 0 53 false,oI 57 (.pick (.t 53) (.c (.bool true)) (.t 56)) 0,mI 58 57 0,gI 59 (.mv (.t 2)) 0 58 false,gI 60 (.mv (.t 3)) 0 58 false,gI 61 (.bin .eql (.t 59) (.t 60)) 0 58 false,oI 62 (.pick (.t 58) (.c (.bool true)) (.t 61)) 0,mI 63 62 0,gI 64 (.mv (.t 14)) 0 63 false,gI 65 (.len (.t 64)) 0 63 false,gI 66 (.mv (.t 1)) 0 63 false,gI 67 (.len (.t 66)) 0 63 false,gI 68 (.bin .neq (.t 65) (.t 67)) 0 63 false,oI 69 (.pick (.t 63) (.c (.bool true)) (.t 68)) 0,mI 37 69 0]
def Z2i:List IOp := [oI 10 (.mv (.c (.bool false))) 0,oI 11 (.mv (cI 1)) 0]
def Zk3:List IOp := [oI 70 (.call 77 [cI 0]) 0,oI 71 (.bsl (some 4) 1 [.bool false,.nils,.bool false,.nils] [(0,.t 70)]) 0,mI 72 0 1,oI 73 (.call 99 [.t 71,.t 72]) 1,mI 16 73 1]
def Zl4:List IOp := [mI 74 16 0,mI 75 2 0,mI 76 16 0,mI 77 3 0,oI 78 (.call 77 [cI (-1)]) 0,oI 79 (.call 77 [cI 1]) 0,xI 80 4 74 75 0,⟨none,.st 4 (.t 80) (.t 78),0,[],[],none⟩,xI 81 4 76 77 0,⟨none,.st 4 (.t 81) (.t 79),0,[],[],none⟩]
def Zj1:List IOp := [fI 82 1 12 0,lI 83 82 0,oI 84 (.len (.t 83)) 0,oI 85 (.mv (cI 0)) 0]
def Zeb:List IOp := [oI 86 (.bin .lss (.t 85) (.t 84)) 0]
def Zj2:List IOp := [mI 87 85 0,xI 88 2 83 85 0,lJ 89 2 88 0,oI 18 (.alloc [.int .i64 0,.int .i64 0]) 0,mI 17 87 1,⟨none,.st 2 (.t 18) (.t 89),1,[],[],none⟩]
def Zeg:List IOp := [mI 90 16 0,fI 91 0 18 0,lI 92 91 0,mI 93 16 0,fI 94 0 18 0,lI 95 94 0,xI 96 4 93 95 0,lJ 97 4 96 0,mI 98 14 0,mI 99 17 0,xI 100 4 98 99 0,lJ 101 4 100 0,oI 102 (.call 94 [.t 97,.t 101]) 0,xI 103 4 90 92 0,⟨none,.st 4 (.t 103) (.t 102),0,[],[],none⟩]
@[go_sem ↓] theorem Zt2 : autoK Zeg = (0, 1) := by kernel_rfl
@[go_sem] theorem Yg6 : autoK [mI 90 16 0, fI 91 0 18 0, lI 92 91 0, mI 93 16 0, fI 94 0 18 0, lI 95 94 0, xI 96 4 93 95 0, lJ 97 4 96 0, mI 98 14 0, mI 99 17 0, xI 100 4 98 99 0, lJ 101 4 100 0, oI 102 (.call 94 [.t 97, .t 101]) 0, xI 103 4 90 92 0, ⟨none, .st 4 (.t 103) (.t 102), 0, [], [], none⟩] = (0, 1) := Zt2
def Zd8:List IOp := [mI 104 16 0,fI 105 1 18 0,lI 106 105 0,mI 107 16 0,fI 108 1 18 0,lI 109 108 0,xI 110 4 107 109 0,lJ 111 4 110 0,mI 112 14 0,mI 113 17 0,xI 114 4 112 113 0,lJ 115 4 114 0,oI 116 (.call 79 [.t 111,.t 115]) 0,xI 117 4 104 106 0,⟨none,.st 4 (.t 117) (.t 116),0,[],[],none⟩]
@[go_sem ↓] theorem Zuz : autoK Zd8 = (0, 1) := by kernel_rfl
@[go_sem] theorem Yg4 : autoK [mI 104 16 0, fI 105 1 18 0, lI 106 105 0, mI 107 16 0, fI 108 1 18 0, lI 109 108 0, xI 110 4 107 109 0, lJ 111 4 110 0, mI 112 14 0, mI 113 17 0, xI 114 4 112 113 0, lJ 115 4 114 0, oI 116 (.call 79 [.t 111, .t 115]) 0, xI 117 4 104 106 0, ⟨none, .st 4 (.t 117) (.t 116), 0, [], [], none⟩] = (0, 1) := Zuz
def Zj9:List IOp := [oI 118 (.bin .add (.t 85) (cI 1)) 0,mI 85 118 0]
def Zfp:CC := .seq (.rg false Zeb) (.seq (.cond (.t 86) .skip (.exit 1)) (.seq (.block 2 (.seq (.rg false Zj2) (.seq (.rg true Zeg) (.rg true Zd8)))) (.rg false Zj9)))
def Zkk:List IOp := [mI 119 16 0,oI 120 (.call 100 [.t 119,.c (.fn 101 [] [])]) 0,oI 121 (.un .not (.t 120)) 0,mI 10 121 0,oI 11 (.mv (cI 0)) 0]
def Zv3:CC := .seq (.rg false Zk8) (.seq (.rg false Zk5) (.seq (.rg false Zlu) (.seq (.block 0 (.seq (.rg false Zlm) (.cond (.t 30) (.seq (.rg false Z1q) .ret) (.seq (.rg false Zli) (.cond (.t 37) (.seq (.rg false Z2i) .ret) .skip))))) (.seq (.rg false Zk3) (.seq (.rg false Zl4) (.seq (.seq (.rg false Zj1) (.block 1 (.loop Zfp))) (.seq (.rg false Zkk) .ret)))))))
abbrev Zh7:Nat:=53
theorem Z4p:fnOk Tryz.prog 53=some (122,Zv3,[.tmp 10,.tmp 11]):=by kernel_rfl
def Zn0:List IOp := [oI 6 (.mv (.c (.str ⟨#[]⟩))) 0,oI 7 (.mv (cI 0)) 0]
def Znr:List IOp := [mI 16 0 0,mI 17 1 0,oI 18 (.call 62 [.t 16,.t 17]) 0,mI 15 18 0,eI 19 0 15 0,eI 20 1 15 0,oI 8 (.alloc [.int .i64 0,.nils,.nils]) 0,⟨none,.st 3 (.t 8) (.t 19),1,[],[],none⟩,mI 9 20 1]
def Znv:List IOp := [mI 22 2 0,oI 23 (.call 91 [.t 22]) 0,mI 21 23 0,eI 24 0 21 0,eI 25 1 21 0,mI 10 24 0,mI 11 25 0]
def Znu:List IOp := [mI 27 9 0,oI 28 (.bin .eql (.t 27) (cI 2)) 0,mI 29 28 0,gI 30 (.mv (.t 11)) 0 29 false,gI 31 (.un .not (.t 30)) 0 29 false,oI 32 (.pick (.t 29) (.c (.bool true)) (.t 31)) 0,mI 26 32 0]
def Z4m:List IOp := [oI 6 (.mv (.c (.str ⟨#[]⟩))) 0,oI 7 (.mv (cI 2)) 0]
def Zn2:List IOp := [mI 34 9 0,oI 35 (.bin .neq (.t 34) (cI 0)) 0,mI 36 35 0,gI 37 (.mv (.t 10)) 0 36 false,gI 38 (.len (.t 37)) 0 36 false,gI 39 (.mv (.t 1)) 0 36 false,gI 40 (.len (.t 39)) 0 36 false,gI 41 (.bin .neq (.t 38) (.t 40)) 0 36 false,oI 42 (.pick (.t 36) (.c (.bool true)) (.t 41)) 0,mI 33 42 0]
def Z34:List IOp := [oI 6 (.mv (.c (.str ⟨#[]⟩))) 0,oI 7 (.mv (cI 1)) 0]
def Znl:List IOp := [oI 43 (.call 77 [cI 0]) 0,oI 12 (.alloc [.bool false,.nils,.bool false,.nils]) 0,⟨none,.st 4 (.t 12) (.t 43),1,[],[],none⟩]
def Zm6:List IOp := [mI 44 10 0,oI 45 (.len (.t 44)) 0,oI 46 (.mv (cI 0)) 0]
def Ze4:List IOp := [oI 47 (.bin .lss (.t 46) (.t 45)) 0]
def Zk7:List IOp := [mI 48 46 0,xI 49 4 44 46 0,lJ 50 4 49 0,oI 14 (.alloc [.bool false,.nils,.bool false,.nils]) 0,mI 13 48 1,⟨none,.st 4 (.t 14) (.t 50),1,[],[],none⟩]
def Zfi:List IOp := [lJ 51 4 12 0,lJ 52 4 14 0,lJ 53 4 14 0,oI 54 (.call 87 [.t 52,.t 53]) 0,fI 55 2 8 0,lI 56 55 0,mI 57 13 0,xI 58 4 56 57 0,lJ 59 4 58 0,oI 60 (.call 78 [.t 54,.t 59]) 0,oI 61 (.callw 94 [.t 51,.t 60]) 0,⟨none,.st 4 (.t 12) (.t 61),0,[],[],none⟩]
@[go_sem ↓] theorem Zwv : autoK Zfi = (0, 1) := by kernel_rfl
@[go_sem] theorem Yii : autoK [lJ 51 4 12 0, lJ 52 4 14 0, lJ 53 4 14 0, oI 54 (.call 87 [.t 52, .t 53]) 0, fI 55 2 8 0, lI 56 55 0, mI 57 13 0, xI 58 4 56 57 0, lJ 59 4 58 0, oI 60 (.call 78 [.t 54, .t 59]) 0, oI 61 (.callw 94 [.t 51, .t 60]) 0, ⟨none, .st 4 (.t 12) (.t 61), 0, [], [], none⟩] = (0, 1) := Zwv
def Zlc:List IOp := [oI 62 (.bin .add (.t 46) (cI 1)) 0,mI 46 62 0]
def Zgu:CC := .seq (.rg false Ze4) (.seq (.cond (.t 47) .skip (.exit 1)) (.seq (.block 2 (.seq (.rg false Zk7) (.rg true Zfi))) (.rg false Zlc)))
def Zl3:List IOp := [lJ 63 4 12 0,oI 64 (.call 65 [.t 63]) 0,eI 65 0 64 0,eI 66 1 64 0,mI 6 65 0,mI 7 66 0]
def Zx3:CC := .seq (.rg false Zn0) (.seq (.rg false Znr) (.seq (.rg false Znv) (.seq (.block 0 (.seq (.rg false Znu) (.cond (.t 26) (.seq (.rg false Z4m) .ret) (.seq (.rg false Zn2) (.cond (.t 33) (.seq (.rg false Z34) .ret) .skip))))) (.seq (.rg false Znl) (.seq (.seq (.rg false Zm6) (.block 1 (.loop Zgu))) (.seq (.rg false Zl3) .ret))))))
abbrev Zke:Nat:=54
theorem Z7x:fnOk Tryz.prog 54=some (67,Zx3,[.tmp 6,.tmp 7]):=by kernel_rfl
end GoAbs
namespace GoAbs
theorem Zha {r:List Rat}{j c:Nat}{x:Rat}(hc:c<r.length):rget (r.set c x) j=if j=c then x else rget r j:=by
 unfold rget
 rw [List.getD_eq_getElem?_getD,List.getD_eq_getElem?_getD,List.getElem?_set]
 by_cases h:c=j
 ·subst h; simp [hc]
 ·rw [if_neg h,if_neg (fun e=>h e.symm)]
theorem Y2m {M:RM}{i a:Nat}{r:List Rat}(ha:a<M.length):(M.set a r).getD i []=if i=a then r else M.getD i []:=by
 rw [List.getD_eq_getElem?_getD,List.getD_eq_getElem?_getD,List.getElem?_set]
 by_cases h:a=i
 ·subst h; simp [ha]
 ·rw [if_neg h,if_neg (fun e=>h e.symm)]
theorem Z35 {M:RM}{w a c i j:Nat}{x:Rat}(hW:Wid w M) (ha:a<M.length) (hc:c<w):mget (addAt M a c x) i j=mget M i j+if i=a∧j=c then x else 0:=by
 unfold addAt
 show rget ((M.set a _).getD i []) j=_
 rw [Y2m ha]
 by_cases h1:i=a
 ·subst h1
  rw [if_pos rfl,Zha (by rw [hW.get ha]; exact hc)]
  by_cases h2:j=c
  ·subst h2; rw [if_pos rfl,if_pos ⟨rfl,rfl⟩]
  ·rw [if_neg h2,if_neg (fun h=>h2 h.2)]
   show mget M i j=_
   grind
 ·rw [if_neg h1,if_neg (fun h=>h1 h.1)]
  show mget M i j=_
  grind
theorem Yju {M:RM}{m a b i j:Nat}{x:Rat}(hW:Wid m M) (hM:M.length=m) (ha:a≤m) (hb:b≤m) :
  mget (half M a b x) i j=mget M i j+(if i+1=a∧j+1=a then x else 0)+(if i+1=a∧j+1=b then -x else 0):=by
 unfold half
 by_cases h1:a=0
 ·rw [if_pos h1,if_neg (by omega),if_neg (by omega)]; grind
 ·rw [if_neg h1]
  have e1:(i=a - 1∧j=a - 1)↔(i+1=a∧j+1=a):=by omega
  by_cases h2:b=0
  ·rw [if_pos h2,Z35 hW (by omega) (by omega),if_neg (show ¬ (i+1=a∧j+1=b) by omega)]
   simp only [e1]; grind
  ·have e2:(i=a - 1∧j=b - 1)↔(i+1=a∧j+1=b):=by omega
   rw [if_neg h2,Z35 hW.addAt (by rw [Zum]; omega) (by omega),Z35 hW (by omega) (by omega)]
   simp only [e1,e2]
theorem Ywh {M:RM}{m a b i j:Nat}{x:Rat}(hW:Wid m M) (hM:M.length=m) (ha:a≤m) (hb:b≤m) (hab:a≠b) :
  mget (edgeM M (a,b,x)) i j=mget M i j+x*(edge a b (i+1)*edge a b (j+1)):=by
 unfold edgeM
 rw [Yju hW.half (by rw [Zi3,hM]) hb ha,Yju hW hM ha hb]
 unfold edge
 by_cases h1:i+1=a <;> by_cases h2:i+1=b <;> by_cases h3:j+1=a <;> by_cases h4:j+1=b <;> simp [h1,h2,h3,h4,hab] <;> grind
theorem Yiv {m:Nat}:∀ {E:List Sp}{M:RM},Wid m M→M.length=m→(∀ e,e∈E→e.1≤m∧e.2.1≤m∧e.1≠e.2.1)→∀ i j,mget (E.foldl edgeM M) i j=mget M i j+Lm id E (i+1) (j+1)
 | [],M,_,_,_,i,j=>by show mget M i j=mget M i j+0; grind
 | (a,b,x)::E,M,hW,hM,hE,i,j=>by
  obtain ⟨h1,h2,h3⟩:=hE (a,b,x) (by simp)
  rw [List.foldl_cons,Yiv hW.edge (by rw [Ybn,hM]) (fun e he=>hE e (by simp [he])),Ywh hW hM h1 h2 h3]
  have hL:Lm id ((a,b,x)::E) (i+1) (j+1)=Lm id E (i+1) (j+1)+x*(edge a b (i+1)*edge a b (j+1)):=rfl
  rw [hL]
  grind
theorem Yv8 {m i j:Nat}:mget (List.replicate m (List.replicate m (0:Rat))) i j=0:=by
 unfold mget rget
 rw [List.getD_eq_getElem?_getD,List.getD_eq_getElem?_getD,List.getElem?_replicate]
 by_cases h:i<m
 ·rw [if_pos h]
  simp only [Option.getD_some,List.getElem?_replicate]
  split <;> rfl
 ·rw [if_neg h]; simp
theorem Yo6 {m:Nat}{E:List Sp}(hE:∀ e,e∈E→e.1≤m∧e.2.1≤m∧e.1≠e.2.1) (i j:Nat):mget (lapl m E) i j=Lm id E (i+1) (j+1):=by
 unfold lapl
 rw [Yiv (fun r hr=>by rw [(List.mem_replicate.1 hr).2]; simp) (by simp) hE,Yv8]
 grind
theorem Zgz {m:Nat}{E:List Sp}:Wid m (lapl m E)∧(lapl m E).length=m:=by
 unfold lapl
 have main:∀ (E:List Sp) (M:RM),Wid m M→M.length=m→Wid m (E.foldl edgeM M)∧(E.foldl edgeM M).length=m:=by
  intro E
  induction E with
  | nil=>intro M h1 h2; exact ⟨h1,h2⟩
  | cons e E ih=>intro M h1 h2; exact ih _ h1.edge (by rw [Ybn,h2])
 exact main _ _ (fun r hr=>by rw [(List.mem_replicate.1 hr).2]; simp) (by simp)
theorem Yht {m k:Nat}{E:List Sp}(hE:∀ e,e∈E→Qb k e.2.2) (hk:1≤k):Mb (k+E.length*(4*(k+1))) (lapl m E):=by
 have main:∀ (E:List Sp) (M:RM) (l:Nat),(∀ e,e∈E→Qb k e.2.2)→1≤l→Mb l M→Mb (l+E.length*(4*(k+1))) (E.foldl edgeM M):=by
  intro E
  induction E with
  | nil=>intro M l _ _ h; simpa using h
  | cons e E ih =>
   intro M l h1 h2 h3
   refine (ih _ _ (fun x hx=>h1 x (by simp [hx])) (by omega) (h3.edge (h1 e (by simp)) h2)).mono ?_
   rw [List.length_cons,Nat.add_mul]; omega
 exact main E _ k hE hk (fun r hr x hx=>by
  rw [(List.mem_replicate.1 hr).2] at hx
  rw [(List.mem_replicate.1 hx).2]
  exact Qb.zero hk)
theorem Z1d {M:RM}{w c i j:Nat}(hW:Wid w M) (hi:i<M.length) (hj:j<w) (hci:c<i) (hcj:c≤j) (hp:mget M c c≠0):mget (elimCol M c M.length) i j=mget M i j - mget M i c*mget M c j / mget M c c:=by
 unfold mget
 rw [List.getD_eq_getElem?_getD (l:=elimCol M c M.length),Zei hi,if_pos ⟨hci,hi⟩]
 simp only [Option.getD_some]
 unfold elimRow
 have hl:=hW.get hi
 split
 ·rename_i h0
  rw [h0]
  grind
 ·show (elimTo _ _ _ _ _).getD j 0=_
  rw [List.getD_eq_getElem?_getD,Zm0 (by rw [hl]; exact hj),if_pos ⟨hcj,by rw [hl]; exact hj⟩]
  simp only [Option.getD_some]
  unfold mget at hp
  grind
theorem Y4t {m:Nat}:∀ {k c:Nat}{M:RM}{A:Mat}{d:Rat},c+k=m→M.length=m→Wid m M→Psd (List.range' (c+1) k) A→(∀ i j,c≤i→i<m→c≤j→j<m→mget M i j=A (i+1) (j+1)) →
  (tri k c M d).1=d*dt (List.range' (c+1) k) A∧NoSw k c M
 | 0,c,M,A,d,_,_,_,_,_=>⟨by show d=d*1; grind,trivial⟩
 | k+1,c,M,A,d,hk,hM,hW,hA,hg=>by
  have hr:c+1 ∉ List.range' (c+1+1) k:=by rw [List.mem_range'_1]; omega
  rw [List.range'_succ] at hA ⊢
  have hp:=hg c c (by omega) (by omega) (by omega) (by omega)
  unfold tri NoSw dt
  by_cases h0:mget M c c=0
  ·rw [if_pos h0]
   have h0':A (c+1) (c+1)=0:=by rw [← hp]; exact h0
   refine ⟨by rw [h0']; show (0:Rat)=_; grind,fun _ i hi hil=>?_,fun h=>absurd h0 h⟩
   rcases Nat.lt_or_ge c i with hci | hci
   ·rw [hg i c (by omega) (by omega) (by omega) (by omega),hA.sym]
    exact hA.zero hr h0' (i+1) (by rw [List.mem_range'_1]; omega)
   ·have:i=c:=by omega
    rw [this]; exact h0
  ·rw [if_neg h0]
   have h0':A (c+1) (c+1)≠0:=by rw [← hp]; exact h0
   have ih:=Y4t (k:=k) (c:=c+1) (M:=elimCol M c M.length) (A:=schur (c+1) A) (d:=d*mget M c c) (by omega) (by rw [Zaw,hM]) hW.elim (hA.schur hr) (fun i j hi hil hj hjl=>by
    rw [Z1d hW (by omega) (by omega) (by omega) (by omega) h0,hg i j (by omega) hil (by omega) hjl,hg i c (by omega) hil (by omega) (by omega),hg c j (by omega) (by omega) (by omega) hjl,hp]
    rfl)
   refine ⟨?_,fun h=>absurd h h0,fun _=>ih.2⟩
   rw [ih.1,hp]; grind
theorem Yv5 {m:Nat}{E:List Sp}(hE:∀ e,e∈E→e.1≤m∧e.2.1≤m∧e.1≠e.2.1∧0≤e.2.2):(tri m 0 (lapl m E) 1).1=Fsum (m+1) id m E∧NoSw m 0 (lapl m E):=by
 have hpos:Pos E:=fun e he=>(hE e he).2.2.2
 obtain ⟨h1,h2⟩:=Y4t (k:=m) (c:=0) (M:=lapl m E) (A:=Lm id E) (d:=1) (by omega) Zgz.2 Zgz.1 (Zxh hpos) (fun i j _ _ _ _=>Yo6 (fun e he=>⟨(hE e he).1,(hE e he).2.1,(hE e he).2.2.1⟩) i j)
 refine ⟨?_,h2⟩
 have h3:=Zpf (n:=m+1) (l:=E) (p:=id) (g:=0) (R:=List.range' 1 m) hpos (fun e he=>⟨by have:=(hE e he).1; omega,by have:=(hE e he).2.1; omega⟩)
  ⟨by rw [List.nodup_cons]; exact ⟨by rw [List.mem_range'_1]; omega,List.nodup_range'⟩,fun i hi=>by
   rcases Nat.eq_zero_or_pos i with h | h
   ·exact .inl h
   ·exact .inr (by rw [List.mem_range'_1]; simp only [id]; omega),fun x hx=>by
   refine ⟨x,?_,rfl⟩
   rcases List.mem_cons.1 hx with h | h
   ·omega
   ·rw [List.mem_range'_1] at h; omega⟩
 rw [List.length_range'] at h3
 rw [h1,h3]; grind
end GoAbs
namespace GoAbs
open Go Go.Proofs
theorem Yql {w:Nat}:∀ {k c l:Nat}{M:RM}{d:Rat},c+k≤M.length→M.length≤w→Wid w M→Mb l M→Qb l d→1≤l→Qb (9 ^ k*l) (tri k c M d).1
 | 0,c,l,M,d,_,_,_,_,hd,_=>by simpa [tri] using hd
 | k+1,c,l,M,d,hc,hw,hW,hM,hd,hl=>by
  unfold tri
  split
  ·exact Qb.zero (Nat.mul_pos (Nat.pow_pos (by omega)) hl)
  ·rename_i h0
   have h1:=(hM.elim hW (I:=M.length) (by omega) (show c<w by omega) h0).mono (show 8*l+1≤9*l by omega)
   have h2:=(hd.mul ((hM.get (i:=c) (by omega)).get (j:=c) (by rw [hW.get (by omega)]; omega))).mono (show 2*l≤9*l by omega)
   have:=Yql (k:=k) (c:=c+1) (by rw [Zaw]; omega) (by rw [Zaw]; exact hw) hW.elim h1 h2 (by omega)
   rw [Nat.pow_succ,Nat.mul_assoc]
   exact this
structure NetOk (n:Nat) (E:List Sp):Prop where
 n2:2≤n
 e:∀ e,e∈E→e.1<n∧e.2.1<n∧e.1≠e.2.1∧0<e.2.2∧Fitd 20 e.2.2
theorem Ymh {n:Int}{L:List Spr}(hL:L.length≤40) (hn:n≤6) (hl:∀ s,s∈L→s.2.2.length≤1000000000) (h:readR n L = .tup [.agg (netC n.toNat (L.map toE)),.int .i64 0]) (ho:NetOk n.toNat (L.map toE)) :
  SpecV Tryz.prog Zx0 [.int .i64 n,.sl (L.map sprAV)] (if NumOk (Fsum n.toNat id (n.toNat - 1) (L.map toE)) then .tup [.str (bs (numS (Fsum n.toNat id (n.toNat - 1) (L.map toE)))),.int .i64 0] else .tup [.str (bs []),.int .i64 4]):=by
 obtain ⟨m,hm⟩:∃ m,n.toNat=m+1:=⟨n.toNat - 1,by have:=ho.n2; omega⟩
 have hm1:n.toNat - 1=m:=by omega
 generalize hE:L.map toE=E at *
 have hEl:E.length≤40:=by rw [← hE,List.length_map]; exact hL
 have hdt:=Yv5 (m:=m) (E:=E) (fun e he=>⟨by have:=(ho.e e he).1; omega,by have:=(ho.e e he).2.1; omega,(ho.e e he).2.2.1,Rat.le_of_lt (ho.e e he).2.2.2.1⟩)
 rw [hm1,hm]
 generalize hq:Fsum (m+1) id m E=q at *
 have hK:67+E.length*(4*(67+1))≤10947:=by omega
 have hMb:Mb 10947 (lapl m E):=(Yht (fun e he=>(ho.e e he).2.2.2.2.bits) (by omega)).mono hK
 have h9:9 ^ m*10947≤100000000000:=Nat.le_trans (Nat.mul_le_mul_right _ (Nat.pow_le_pow_right (by omega) (show m≤5 by omega))) (by decide)
 have hqb:Qb (9 ^ m*10947) q:=by
  rw [← hdt.1]
  exact Yql (by rw [Zgz.2]; omega) (by rw [Zgz.2]; exact Nat.le_refl _) Zgz.1 hMb (Qb.one (by omega)) (by omega)
 refine Zae Yan (by simp) ?_
 unfold Z25
 have hs:=Zla (n:=n) (by omega) hl
 rw [h] at hs
 simp only [go_sem,Zqk,Zq3]
 refine Zaa hs (by simp only [go_sem]) ?_
 have hcl:(netC n.toNat E).length=3:=rfl
 have hct:(netC n.toNat E).take 3=netC n.toNat E:=rfl
 have hcd:(netC n.toNat E).drop 3 = []:=rfl
 simp only [go_sem,Zq5,Zqt,hcl,hct,hcd]
 have hgc:∀ f,gcL f (netC n.toNat E)=netC n.toNat E:=fun f=>rfl
 have hnet:=Zj4 (H := [.cells (netC n.toNat E)]) (Ynx (n:=n.toNat) (k:=67) (E:=E) ho.n2 (by omega) (fun e he=>⟨(ho.e e he).1,(ho.e e he).2.1,(ho.e e he).2.2.2.2.bits⟩) (by omega) (by omega) (by omega)) (by unfold netC; simp only [go_sem])
 obtain ⟨pre,hpre⟩:∃ pre:Heap,pre = [.cells (netC n.toNat E),.cells (netC n.toNat E)]:=⟨_,rfl⟩
 have hh : [Blk.cells (netC n.toNat E)]++([Blk.cells (netC n.toNat E)]++matH 1 (n.toNat - 1) (lapl (n.toNat - 1) E)).map (Blk.gc (fun i=>some (i + [Blk.cells (netC n.toNat E)].length)))=pre++matH 2 m (lapl m E):=by
  rw [List.map_append,hpre,hm1]
  show [Blk.cells (netC n.toNat E)]++([Blk.cells (gcL _ (netC n.toNat E))]++(matH 1 m (lapl m E)).map (Blk.gc (fun i=>some (i+1))))=_
  rw [hgc,Yly]; rfl
 rw [hh] at hnet
 refine Zi0 hnet ?_
 have e1:(AV.osl none 1 0 (n.toNat - 1)).gc (fun i=>some (i + [Blk.cells (netC n.toNat E)].length)) = .osl none 2 0 m:=by rw [hm1]; rfl
 rw [e1]
 simp only [go_sem]
 refine Zi0 (Y2r (pre:=pre) (o:=2) (w:=m) (n:=m) (k:=10947) (by rw [hpre]; rfl) Zgz.2 (by omega) (by omega) (Nat.le_refl _) Zgz.1 hMb (by omega) h9 hdt.2 (fun m' _=>by rw [hpre]; rfl)) ?_
 rw [hdt.1]
 simp only [go_sem]
 refine Zaa (Y22 (q:=q) (Zmp hqb.n (by omega)) (Zmp hqb.d (by omega))) (by simp only [go_sem,Zbb,Zan]) ?_
 by_cases hok:NumOk q
 ·simp only [if_pos hok,go_sem]
 ·simp only [if_neg hok,go_sem]
end GoAbs
namespace GoAbs
def Ker (n:Nat) (p q:Nat→Nat):Prop:=∀ i j,i<n→j<n→(p i=p j↔q i=q j)
theorem Ker.tie {n:Nat}{p q:Nat→Nat}(h:Ker n p q) {s:MSp}(h1:s.1<n) (h2:s.2.1<n):Ker n (tieP s p) (tieP s q):=fun i j hi hj=>by
 have a1:=h i j hi hj
 have a2:=h i s.1 hi h1
 have a3:=h j s.1 hj h1
 have a4:=h i s.2.1 hi h2
 have a5:=h j s.2.1 hj h2
 have a6:=h s.1 s.2.1 h1 h2
 unfold tieP mrg
 by_cases c1:p i=p s.1 <;> by_cases c2:p j=p s.1
 ·rw [if_pos c1,if_pos c2,if_pos (a2.1 c1),if_pos (a3.1 c2)]; exact ⟨fun _=>rfl,fun _=>rfl⟩
 ·rw [if_pos c1,if_neg c2,if_pos (a2.1 c1),if_neg (fun e=>c2 (a3.2 e))]
  exact ⟨fun e=>(a5.1 e.symm).symm,fun e=>(a5.2 e.symm).symm⟩
 ·rw [if_neg c1,if_pos c2,if_neg (fun e=>c1 (a2.2 e)),if_pos (a3.1 c2)]; exact a4
 ·rw [if_neg c1,if_neg c2,if_neg (fun e=>c1 (a2.2 e)),if_neg (fun e=>c2 (a3.2 e))]; exact a1
theorem Ker.one {n:Nat}{p q:Nat→Nat}(h:Ker n p q):allOne n p=allOne n q:=by
 unfold allOne
 by_cases hn:n=0
 ·rw [if_pos (fun i hi=>by omega),if_pos (fun i hi=>by omega)]
 ·have:(∀ i,i<n→p i=p 0)↔(∀ i,i<n→q i=q 0) :=
   ⟨fun k i hi=>(h i 0 hi (by omega)).1 (k i hi),fun k i hi=>(h i 0 hi (by omega)).2 (k i hi)⟩
  by_cases c:∀ i,i<n→p i=p 0
  ·rw [if_pos c,if_pos (this.1 c)]
  ·rw [if_neg c,if_neg (fun e=>c (this.2 e))]
def InN (n:Nat) (l:List MSp):Prop:=∀ s,s∈l→s.1<n∧s.2.1<n
theorem Z8i {n:Nat}:∀ {l:List MSp}{k:Nat}{p q:Nat→Nat},InN n l→Ker n p q→FG (allOne n) p k l=FG (allOne n) q k l
 | l,0,p,q,_,h=>by rw [Zic,Zic,h.one]
 | [],k+1,p,q,_,h=>by rw [Zy7,Zy7]
 | s::l,k+1,p,q,hl,h=>by
  have hl':InN n l:=fun t ht=>hl t (by simp [ht])
  have hs:=hl s (by simp)
  rw [Zgn,Zgn,Z8i hl' h,Z8i hl' (h.tie hs.1 hs.2)]
theorem Y32 {n:Nat}{p:Nat→Nat}{s t:MSp}:Ker n (tieP s (tieP t p)) (tieP t (tieP s p)):=fun i j _ _=>by
 unfold tieP mrg
 generalize p i=a
 generalize p j=b
 generalize p s.1=x
 generalize p s.2.1=y
 generalize p t.1=u
 generalize p t.2.1=v
 grind
theorem Yn2 {n:Nat}{s:MSp}(hs:s.1<n∧s.2.1<n):∀ {l:List MSp}{k:Nat}{p:Nat→Nat},InN n l→FG (fun q=>allOne n (tieP s q)) p k l=FG (allOne n) (tieP s p) k l
 | l,0,p,_=>by rw [Zic,Zic]
 | [],k+1,p,_=>by rw [Zy7,Zy7]
 | t::l,k+1,p,hl=>by
  have hl':InN n l:=fun u hu=>hl u (by simp [hu])
  rw [Zgn,Zgn,Yn2 hs hl',Yn2 hs hl',Z8i hl' Y32]
def nameE (φ:Nat→Nat) (s:MSp):MSp:=(φ s.1,φ s.2.1,s.2.2)
theorem Ylt {n n':Nat}{φ:Nat→Nat}(hn:0<n) (hn':0<n') (hφ:∀ i,i<n→φ i<n') (ho:∀ j,j<n'→∃ i,i<n∧φ i=j):∀ {l:List MSp}{k:Nat}{q:Nat→Nat},FG (allOne n) (fun i=>q (φ i)) k l=FG (allOne n') q k (l.map (nameE φ))
 | l,0,q=>by
  rw [Zic,Zic]
  unfold allOne
  have:(∀ i,i<n→q (φ i)=q (φ 0))↔∀ j,j<n'→q j=q 0:=by
   constructor
   ·intro h j hj
    obtain ⟨i,hi,rfl⟩:=ho j hj
    obtain ⟨z,hz,hz'⟩:=ho 0 hn'
    rw [h i hi, ← h z hz,hz']
   ·intro h i hi
    rw [h _ (hφ i hi),h _ (hφ 0 hn)]
  by_cases c:∀ i,i<n→q (φ i)=q (φ 0)
  ·rw [if_pos c,if_pos (this.1 c)]
  ·rw [if_neg c,if_neg (fun e=>c (this.2 e))]
 | [],k+1,q=>by rw [List.map_nil,Zy7,Zy7]
 | s::l,k+1,q=>by
  rw [List.map_cons,Zgn,Zgn,Ylt hn hn' hφ ho]
  have:tieP s (fun i=>q (φ i))=fun i=>(tieP (nameE φ s) q) (φ i):=rfl
  rw [this,Ylt hn hn' hφ ho]
  rfl
theorem Ygw {p:Nat→Nat}:∀ {l:List MSp},Lm p l=Lm p (l.filter fun s=>decide (p s.1≠p s.2.1))
 | []=>rfl
 | s::l=>by
  by_cases h:p s.1=p s.2.1
  ·rw [List.filter_cons_of_neg (by simp [h])]
   show up1 (Lm p l) s.2.2 (edge (p s.1) (p s.2.1))=_
   rw [h,Z2m,Ype]
   exact Ygw
  ·rw [List.filter_cons_of_pos (by simp [h])]
   show up1 (Lm p l) s.2.2 (edge (p s.1) (p s.2.1))=up1 (Lm p _) s.2.2 (edge (p s.1) (p s.2.1))
   rw [Ygw (l:=l)]
theorem Yhe {n:Nat}(hn:0<n):Lab n id 0 (List.range' 1 (n - 1)):=by
 refine ⟨by rw [List.nodup_cons]; exact ⟨by rw [List.mem_range'_1]; omega,List.nodup_range'⟩,fun i hi=>?_,fun x hx=>?_⟩
 ·rcases Nat.eq_zero_or_pos i with h | h
  ·exact .inl h
  ·exact .inr (by rw [List.mem_range'_1]; simp only [id]; omega)
 ·refine ⟨x,?_,rfl⟩
  rcases List.mem_cons.1 hx with h | h
  ·omega
  ·rw [List.mem_range'_1] at h; omega
theorem Yrl {n:Nat}{l:List MSp}(hn:0<n) (hp:Pos l) (hl:InN n l):Fsum n id (n - 1) l=Fsum n id (n - 1) (l.filter fun s=>decide (s.1≠s.2.1)):=by
 have h1:=Zpf hp hl (Yhe hn)
 have h2:=Zpf (l:=l.filter fun s=>decide (s.1≠s.2.1)) (fun s hs=>hp s (List.mem_filter.1 hs).1) (fun s hs=>hl s (List.mem_filter.1 hs).1) (Yhe hn)
 rw [List.length_range'] at h1 h2
 rw [h1,h2,Ygw (p:=id) (l:=l)]
 rfl
def oneN (low high i:Nat):Nat:=if i=high then low else if high<i then i - 1 else i
def oneL (low high:Nat) (l:List MSp):List MSp:=(l.map (nameE (oneN low high))).filter fun s=>decide (s.1≠s.2.1)
theorem Y03 {n low high:Nat}(h:low<high) (a b:Nat) (hab:(a=low∧b=high)∨(a=high∧b=low)) (w:Rat):Ker n (tieP (a,b,w) id) (oneN low high):=fun i j _ _=>by
 unfold tieP mrg oneN
 simp only [id]
 rcases hab with ⟨rfl,rfl⟩ | ⟨rfl,rfl⟩
 ·(repeat' split) <;> omega
 ·(repeat' split) <;> omega
theorem Y0r {n low high:Nat}{l:List MSp}{a b:Nat}{w:Rat}(hn:2≤n) (h:low<high) (hh:high<n) (hab:(a=low∧b=high)∨(a=high∧b=low)) (hp:Pos l) (hl:InN n l) (hw:0≤w) :
  Fsum n id (n - 1) (l ++ [(a,b,w)])=Fsum n id (n - 1) l+w*Fsum (n - 1) id (n - 2) (oneL low high l):=by
 have han:a<n∧b<n:=by omega
 obtain ⟨k,rfl⟩:∃ k,n=k+2:=⟨n - 2,by omega⟩
 have e1:k+2 - 1=k+1:=rfl
 have e2:k+2 - 2=k:=rfl
 rw [e1,e2,Zuj,Z8r, ← Zuj,Yn2 han hl,Z8i hl (Y03 (n:=k+2) h a b hab w)]
 have hφ:∀ i,i<k+2→oneN low high i<k+1:=fun i hi=>by
  unfold oneN; split
  ·omega
  ·split <;> omega
 have ho:∀ j,j<k+1→∃ i,i<k+2∧oneN low high i=j:=fun j hj=>by
  by_cases hj':j<high
  ·exact ⟨j,by omega,by unfold oneN; rw [if_neg (by omega),if_neg (by omega)]⟩
  ·exact ⟨j+1,by omega,by unfold oneN; rw [if_neg (by omega),if_pos (by omega)]; omega⟩
 have hname:=Ylt (n:=k+2) (n':=k+1) (φ:=oneN low high) (by omega) (by omega) hφ ho (l:=l) (k:=k) (q:=id)
 have hid:(fun i=>id (oneN low high i))=oneN low high:=rfl
 rw [hid] at hname
 rw [hname, ← Zuj]
 have hl2:=Yrl (n:=k+1) (l:=l.map (nameE (oneN low high))) (by omega) (fun s hs=>by
  obtain ⟨t,ht,rfl⟩:=List.mem_map.1 hs; exact hp t ht) (fun s hs=>by
  obtain ⟨t,ht,rfl⟩:=List.mem_map.1 hs
  exact ⟨hφ _ (hl t ht).1,hφ _ (hl t ht).2⟩)
 have e3:k+1 - 1=k:=rfl
 rw [e3] at hl2
 rw [hl2]
 rfl
end GoAbs
namespace GoAbs
open Go Go.Proofs
theorem Yd2 (b:Int):(madeN b:Int)=b % 5+2∧2≤madeN b∧madeN b≤6:=by
 have h1:=Int.emod_nonneg b (show (5:Int)≠0 by decide)
 have h2:=Int.emod_lt_of_pos b (show (0:Int)<5 by decide)
 unfold madeN
 omega
theorem lmade {b:Int}{X:List Spr}{p:List Int}(h0:0≤b) (h1:b≤255):SpecV Tryz.prog Ys5 [.int .u8 b,.sl (X.map sprAV),.sl (ivs p)] (.agg [.int .i64 (madeN b:Int),.sl ((madeL (madeN b) X p).map sprAV)]):=by
 obtain ⟨n1,n2,n3⟩:=Yd2 b
 have e1:IntKind.i64.wrap b=b:=Zac (by omega) (by omega)
 have e2:b.tmod 5=b % 5:=Int.tmod_eq_emod_of_nonneg h0
 have e3:IntKind.i64.wrap (b % 5+2)=(madeN b:Int):=by rw [Zac (by omega) (by omega)]; omega
 have t5:(5:Int)≠0:=by decide
 unfold madeL
 generalize madeN b=n at *
 obtain ⟨xs,hxs⟩:∃ xs,xs=X.map sprAV:=⟨_,rfl⟩
 rw [← hxs]
 refine Zbr Ynm (by simp) (Zen 1 rfl ?_)
 unfold Yko
 simp only [go_sem,Z6i,Z5g,e1,e2,e3,t5]
 refine T_le (Yfa (Z76 (b:=1) (l' := [.int .i64 (n:Int),.osl (some 3) 2 0 0]) rfl rfl (fun j x y hx hy=>?_)) Yil) ?_
 ·match j,hx,hy with
  | 0,hx,hy=>simp at hx hy; subst hx; subst hy; exact .inl rfl
  | 1,hx,hy=>simp at hx hy; subst hx; subst hy; exact .inr ⟨rfl,_,_,_,rfl⟩
  | j+2,hx,hy=>simp at hx
 refine T_W ?_
 simp only [go_sem,Z6u]
 refine Za2 [(1,.sl xs),(2,.sl (ivs p)),(6,.ptr 0 0),(7,.ptr 1 0),(8,.int .i64 0)] (by simp only [go_sem]) ?_
 refine Y74 (p:=p) (by omega) (fun f=>rfl) (fun e h1 h6 h7=>?_)
 simp only [go_sem,Z20]
 refine Za2 [(1,.sl xs),(6,.ptr 0 0),(7,.ptr 1 0),(10,.int .i64 0)] (by simp only [go_sem,h1,h6,h7]) ?_
 refine Y53 (M0:=pathL p (n - 1)) hxs (by omega) (by omega) (by rw [Znh]; omega) (fun f=>rfl) (fun e h6 h7=>?_)
 simp only [go_sem,Z3n,h6,h7]
 exact Yxx rfl (by simp [allOf])
structure NetL (n:Nat) (L:List Spr):Prop where
 len:L.length≤40
 ok:∀ s,s∈L→EndsOk n s.1 s.2.1∧∃ q,parseL s.2.2=some q∧0<q∧q.num.natAbs≤1000000∧q.den≤1000000∧s.2.2.length≤8002
theorem NetL.read {n:Nat}{L:List Spr}(h:NetL n L) (h2:2≤n) (h6:n≤6):readR (n:Int) L = .tup [.agg (netC n (L.map toE)),.int .i64 0]∧NetOk n (L.map toE):=by
 have a1:(L.all fun s=>(parseL s.2.2).isSome)=true:=List.all_eq_true.2 fun s hs=>by
  obtain ⟨_,q,hq,_⟩:=h.ok s hs
  simp [hq]
 have fit:∀ q:Rat,q.num.natAbs≤1000000→q.den≤1000000→Fitd 20 q:=fun q g1 g2 =>
  ⟨Nat.le_trans (Zl8 (k:=7) (by omega) (by omega)) (by omega),Nat.le_trans (Zl8 (k:=7) (by omega) (by omega)) (by omega)⟩
 have a2:(decide (2≤(n:Int)∧(n:Int)≤10∧L.length≤40) && L.all (sprOk n))=true:=by
  rw [Bool.and_eq_true_iff]
  refine ⟨decide_eq_true ⟨by omega,by omega,h.len⟩,List.all_eq_true.2 fun s hs=>?_⟩
  obtain ⟨he,q,hq,q0,q1,q2,_⟩:=h.ok s hs
  unfold sprOk
  rw [hq,Bool.and_eq_true_iff]
  exact ⟨decide_eq_true he,decide_eq_true ⟨q0,fit q q1 q2⟩⟩
 refine ⟨by unfold readR; rw [a1,a2,Int.toNat_natCast]; rfl,h2,fun e he=>?_⟩
 obtain ⟨s,hs,rfl⟩:=List.mem_map.1 he
 obtain ⟨⟨k1,k2,k3,k4,k5⟩,q,hq,q0,q1,q2,_⟩:=h.ok s hs
 have h3:(toE s).2.2=q:=by simp [toE,hq]
 rw [h3]
 exact ⟨by show s.1.toNat<_; omega,by show s.2.1.toNat<_; omega,by show s.1.toNat≠s.2.1.toNat; omega,q0,fit q q1 q2⟩
end GoAbs
