/- Lemmas for the claim (contracts of the functions that it reaches, and what they compute), without conditions. -/
import Derived.Test.YtnpgooaiiboanaaGreatK31
import Derived.Test.YtnpgooaiiboanaaGreatProg
import Derived.KernelRfl
set_option linter.unusedVariables false
set_option linter.unusedSimpArgs false
set_option maxRecDepth 10000
set_option maxHeartbeats 2000000
namespace GoAbs
open Go Go.Proofs
theorem Opens.mono {P:Program}{t:TypeId}{S S':List AV→Prop}(h:Opens P t S) (hs:∀ av,S av→S' av):Opens P t S':=fun enc w base spare held fuel cs x hx=>by
 obtain ⟨av,h1,h2⟩:=h enc w base spare held fuel cs x hx
 exact ⟨av,h1,hs av h2⟩
theorem opensSpr:Opens Tryz.prog 42 (fun av=>∃ s:Spr,av=sC s):=by
 refine Opens.mono (Yq8 (n:=3) Tryz.underlying42 (by kernel_rfl) (Zkl (off:=0) (k:=1) rfl (by kernel_rfl) (by omega) (Ycv Tryz.underlying3) (Zkl (off:=1) (k:=1) rfl (by kernel_rfl) (by omega) (Ycv Tryz.underlying3) (Zkl (off:=2) (k:=1) rfl (by kernel_rfl) (by omega) (Yle Tryz.underlying26) Yhb)))) ?_
 rintro av ⟨a,b,rfl,_,⟨n,rfl,_⟩,c,d,rfl,_,⟨m,rfl,_⟩,e,f,rfl,_,⟨s,rfl,_⟩,rfl⟩
 obtain ⟨l,rfl⟩:=Xeo s
 exact ⟨(n,m,l),rfl⟩
theorem opensSprs:Opens Tryz.prog 22 (fun av=>∃ L:List Spr,av = [.sl (L.map sprAV)]):=by
 refine Opens.mono (Y1c (n:=3) Tryz.underlying22 (by kernel_rfl) (by omega) opensSpr) ?_
 rintro av ⟨l,rfl,h⟩
 have:∀ l:List (List AV),(∀ c,c∈l→c.length=3∧∃ s:Spr,c=sC s)→∃ L:List Spr,l.map AV.agg=L.map sprAV:=by
  intro l
  induction l with
  | nil=>intro _; exact ⟨[],rfl⟩
  | cons c l ih =>
   intro h
   obtain ⟨L,hL⟩:=ih (fun d hd=>h d (by simp [hd]))
   obtain ⟨_,s,hs⟩:=h c (by simp)
   exact ⟨s::L,by rw [List.map_cons,List.map_cons,hL,hs]; rfl⟩
 obtain ⟨L,hL⟩:=this l h
 exact ⟨L,by rw [hL]⟩
theorem opensNet:Opens Tryz.prog 24 (fun av=>∃ (n:Int) (L:List Spr),av = [.int .i64 n,.sl (L.map sprAV)]):=by
 refine Opens.mono (Yq8 (n:=2) Tryz.underlying24 (by kernel_rfl) (Zkl (off:=0) (k:=1) rfl (by kernel_rfl) (by omega) (Ycv Tryz.underlying3) (Zkl (off:=1) (k:=1) rfl (by kernel_rfl) (by omega) opensSprs Yhb))) ?_
 rintro av ⟨a,b,rfl,_,⟨n,rfl,_⟩,c,d,rfl,_,⟨L,rfl⟩,rfl⟩
 exact ⟨n,L,rfl⟩
theorem Ywo {P:Program}{f:Nat}{xs:List AV}{vs:Array Value}{w:World}(h:SpecV P f xs (.bool true)) (hr:Reps w noX noPl xs vs):Calls P f vs w fun e w'=>e = .returned (.bool true)∧Go.RowKit.Below w.heap.size w w' :=
 (h.2 noX w vs (fun _ hb=>hb.elim) hr).mono fun e w' he=>by
  obtain ⟨v,rfl,hv,hb⟩:=he
  cases hv
  exact ⟨rfl,hb⟩
theorem Ynr {w:World}{x:AV}{xs:List AV}{v:Value}{l:List Value}(h:Rep w noX noPl x v) (k:Reps w noX noPl xs l.toArray):Reps w noX noPl (x::xs) (v::l).toArray:=by
 refine ⟨by have:=k.1; simp at this ⊢; exact this,fun i y u hy hu=>?_⟩
 cases i with
 | zero=>simp at hy hu; subst hy hu; exact h
 | succ i=>exact k.2 i y u (by simpa using hy) (by simpa using hu)
theorem reps2 {w:World}{x y:AV}{v u:Value}(h:Rep w noX noPl x v) (k:Rep w noX noPl y u):Reps w noX noPl [x,y] #[v,u]:=Ynr h (Ynr (l := []) k ⟨rfl,fun i z t hz=>by simp at hz⟩)
theorem Xa8 {P:Program}{W:World}{r:Reach}{base:Nat}{t:TypeId}{v:Value}{e:TypeId}(ht:P.underlying t=some (.slice e)) (h:Value.okWide P W r base t v):v.cells = #[v]:=by
 obtain ⟨a,l,c,rfl⟩:=Go.WideShapes.okWide_slice ht h; rfl
end GoAbs
namespace GoAbs
open Go Go.Proofs
def Zv5:List IOp := [oI 2 (.mv (.c .nils)) 0,oI 3 (.mv (cI 0)) 0]
def Zty:List IOp := [oI 4 (.mv (.c .nils)) 0]
def Ztz:List IOp := [mI 9 0 0,oI 10 (.len (.t 9)) 0,oI 11 (.mv (cI 0)) 0]
def Zkf:List IOp := [oI 12 (.bin .lss (.t 11) (.t 10)) 0]
def Ztn:List IOp := [xI 13 4 9 11 0,lJ 14 4 13 0,oI 6 (.alloc [.bool false,.nils,.bool false,.nils]) 0,⟨none,.st 4 (.t 6) (.t 14),1,[],[],none⟩]
def Ztj:List IOp := [lJ 16 4 6 0,oI 17 (.call 65 [.t 16]) 0,mI 15 17 0,eI 18 0 15 0,eI 19 1 15 0,mI 7 18 0,mI 8 19 0]
def Zj1:List IOp := [mI 20 8 0,oI 21 (.bin .neq (.t 20) (cI 0)) 0]
def Zvn:List IOp := [mI 22 8 0,oI 2 (.mv (.c .nils)) 0,mI 3 22 0]
def Zv1:List IOp := [mI 23 4 0,mI 24 7 0,oI 25 (.bsl none 1 [.str ⟨#[]⟩] [(0,.t 24)]) 0,oI 26 (.app none 16 (.t 23) (.t 25)) 1,mI 4 26 2]
def Zro:List IOp := [oI 27 (.bin .add (.t 11) (cI 1)) 0,mI 11 27 0]
def Zka:CC := .seq (.rg false Zkf) (.seq (.cond (.t 12) .skip (.exit 0)) (.seq (.block 1 (.seq (.rg false Ztn) (.seq (.rg false Ztj) (.seq (.seq (.rg false Zj1) (.cond (.t 21) (.seq (.rg false Zvn) .ret) .skip)) (.rg false Zv1))))) (.rg false Zro)))
def Zrn:List IOp := [mI 28 4 0,mI 2 28 0,oI 3 (.mv (cI 0)) 0]
def Z79:CC := .seq (.rg false Zv5) (.seq (.rg false Zty) (.seq (.seq (.rg false Ztz) (.block 0 (.loop Zka))) (.seq (.rg false Zrn) .ret)))
abbrev Yi6:Nat:=88
theorem Yfn:fnOk Tryz.prog 88=some (29,Z79,[.tmp 2,.tmp 3]):=by kernel_rfl
def Z30:List IOp := [oI 4 (.mv (.c .nils)) 0,oI 5 (.mv (.c (.bool false))) 0]
def Z5t:List IOp := [oI 16 (.bsl none 0 [.nils] []) 0,mI 6 16 1]
def Z43:List IOp := [oI 7 (.mv (cI 0)) 0]
def Zpa:List IOp := [mI 17 7 0,mI 18 0 0,oI 19 (.len (.t 18)) 0,oI 20 (.bin .lss (.t 17) (.t 19)) 0]
def Z3j:List IOp := [mI 23 6 0,oI 24 (.bsl (some 4) 0 [.bool false,.nils,.bool false,.nils] []) 0,mI 25 0 1,mI 26 7 1,xI 27 1 25 26 1,lI 28 27 1,oI 29 (.app (some 4) 64 (.t 24) (.t 28)) 1,oI 30 (.bsl none 1 [.nils] [(0,.t 29)]) 2,oI 31 (.app none 24 (.t 23) (.t 30)) 3,mI 6 31 4]
def Z2i:List IOp := [mI 21 7 0,oI 22 (.bin .add (.t 21) (cI 1)) 0,mI 7 22 0]
def Zqj:CC := .seq (.seq (.rg false Zpa) (.cond (.t 20) .skip (.exit 0))) (.seq (.block 1 (.rg false Z3j)) (.rg false Z2i))
def Z3t:List IOp := [oI 8 (.mv (cI 0)) 0]
def Zqd:List IOp := [mI 32 8 0,mI 33 1 0,oI 34 (.bin .lss (.t 32) (.t 33)) 0]
def Z58:List IOp := [oI 9 (.mv (cI (-1))) 0]
def Zym:List IOp := [mI 37 8 0,mI 10 37 0]
def Zhm:List IOp := [mI 38 10 0,mI 39 1 0,oI 40 (.bin .lss (.t 38) (.t 39)) 0,mI 41 40 0,gI 42 (.mv (.t 9)) 0 41 true,gI 43 (.bin .lss (.t 42) (cI 0)) 0 41 true,oI 44 (.pick (.t 41) (.t 43) (.c (.bool false))) 0]
def Zya:List IOp := [mI 47 6 0,mI 48 10 0,xI 49 1 47 48 0,lI 50 49 0,mI 51 8 0,xI 52 4 50 51 0,lJ 53 4 52 0,oI 54 (.call 35 [.t 53]) 0,oI 55 (.un .not (.t 54)) 0]
def Zmg:List IOp := [mI 56 10 0,mI 9 56 0]
def Zl3:List IOp := [mI 45 10 0,oI 46 (.bin .add (.t 45) (cI 1)) 0,mI 10 46 0]
def Zow:CC := .seq (.seq (.rg false Zhm) (.cond (.t 44) .skip (.exit 4))) (.seq (.block 5 (.seq (.rg false Zya) (.cond (.t 55) (.rg false Zmg) .skip))) (.rg false Zl3))
def Zy2:List IOp := [mI 57 9 0,oI 58 (.bin .lss (.t 57) (cI 0)) 0]
def Ye9:List IOp := [oI 4 (.mv (.c .nils)) 0,oI 5 (.mv (.c (.bool false))) 0]
def Zmf:List IOp := [mI 59 6 0,mI 60 8 0,mI 61 6 0,mI 62 9 0,mI 63 6 0,mI 64 9 0,xI 65 1 63 64 0,lI 66 65 0,mI 67 6 0,mI 68 8 0,xI 69 1 67 68 0,lI 70 69 0,xI 71 1 59 60 0,⟨none,.st 1 (.t 71) (.t 66),0,[],[],none⟩,xI 72 1 61 62 0,⟨none,.st 1 (.t 72) (.t 70),0,[],[],none⟩]
@[go_sem ↓] theorem Yal : autoK Zmf = (0, 1) := by kernel_rfl
@[go_sem] theorem Yua : autoK [mI 59 6 0, mI 60 8 0, mI 61 6 0, mI 62 9 0, mI 63 6 0, mI 64 9 0, xI 65 1 63 64 0, lI 66 65 0, mI 67 6 0, mI 68 8 0, xI 69 1 67 68 0, lI 70 69 0, xI 71 1 59 60 0, ⟨none, .st 1 (.t 71) (.t 66), 0, [], [], none⟩, xI 72 1 61 62 0, ⟨none, .st 1 (.t 72) (.t 70), 0, [], [], none⟩] = (0, 1) := Yal
def Zyk:List IOp := [oI 11 (.mv (cI 0)) 0]
def Zd4:List IOp := [mI 73 11 0,mI 74 1 0,oI 75 (.bin .lss (.t 73) (.t 74)) 0]
def Zhi:List IOp := [mI 78 11 0,mI 79 8 0,oI 80 (.bin .eql (.t 78) (.t 79)) 0,mI 81 80 0,gI 82 (.mv (.t 6)) 0 81 false,gI 83 (.mv (.t 11)) 0 81 false,gI 84 (.idx 1 (.t 82) (.t 83)) 0 81 false,gI 85 (.ld none (.t 84)) 0 81 false,gI 86 (.mv (.t 8)) 0 81 false,gI 87 (.idx 4 (.t 85) (.t 86)) 0 81 false,gI 88 (.ld (some 4) (.t 87)) 0 81 false,gI 89 (.call 35 [.t 88]) 0 81 false,oI 90 (.pick (.t 81) (.c (.bool true)) (.t 89)) 0]
def Zmd:List IOp := [mI 91 6 0,mI 92 11 0,xI 93 1 91 92 0,lI 94 93 0,mI 95 8 0,xI 96 4 94 95 0,lJ 97 4 96 0,mI 98 6 0,mI 99 8 0,xI 100 1 98 99 0,lI 101 100 0,mI 102 8 0,xI 103 4 101 102 0,lJ 104 4 103 0,oI 105 (.call 32 [.t 97,.t 104]) 0,oI 106 (.call 36 [.t 105]) 0,oI 12 (.alloc [.bool false,.nils,.bool false,.nils]) 0,⟨none,.st 4 (.t 12) (.t 106),1,[0],[],none⟩]
@[go_sem ↓] theorem Yav : autoK Zmd = (1, 1) := by kernel_rfl
@[go_sem] theorem Ywc : autoK [mI 91 6 0, mI 92 11 0, xI 93 1 91 92 0, lI 94 93 0, mI 95 8 0, xI 96 4 94 95 0, lJ 97 4 96 0, mI 98 6 0, mI 99 8 0, xI 100 1 98 99 0, lI 101 100 0, mI 102 8 0, xI 103 4 101 102 0, lJ 104 4 103 0, oI 105 (.call 32 [.t 97, .t 104]) 0, oI 106 (.call 36 [.t 105]) 0, oI 12 (.alloc [.bool false, .nils, .bool false, .nils]) 0, ⟨none, .st 4 (.t 12) (.t 106), 1, [0], [], none⟩] = (1, 1) := Yav
def Zyt:List IOp := [mI 107 8 0,mI 13 107 0]
def Zmu:List IOp := [mI 108 13 0,mI 109 1 0,oI 110 (.bin .leq (.t 108) (.t 109)) 0]
def Zmp:List IOp := [mI 113 6 0,mI 114 11 0,xI 115 1 113 114 0,lI 116 115 0,mI 117 13 0,mI 118 6 0,mI 119 11 0,xI 120 1 118 119 0,lI 121 120 0,mI 122 13 0,xI 123 4 121 122 0,lJ 124 4 123 0,lJ 125 4 12 0,mI 126 6 0,mI 127 8 0,xI 128 1 126 127 0,lI 129 128 0,mI 130 13 0,xI 131 4 129 130 0,lJ 132 4 131 0,oI 133 (.call 28 [.t 125,.t 132]) 0,oI 134 (.call 52 [.t 124,.t 133]) 0,oI 135 (.call 36 [.t 134]) 0,xI 136 4 116 117 0,⟨none,.st 4 (.t 136) (.t 135),0,[],[],none⟩]
@[go_sem ↓] theorem Yan : autoK Zmp = (0, 1) := by kernel_rfl
@[go_sem] theorem Ywq : autoK [mI 113 6 0, mI 114 11 0, xI 115 1 113 114 0, lI 116 115 0, mI 117 13 0, mI 118 6 0, mI 119 11 0, xI 120 1 118 119 0, lI 121 120 0, mI 122 13 0, xI 123 4 121 122 0, lJ 124 4 123 0, lJ 125 4 12 0, mI 126 6 0, mI 127 8 0, xI 128 1 126 127 0, lI 129 128 0, mI 130 13 0, xI 131 4 129 130 0, lJ 132 4 131 0, oI 133 (.call 28 [.t 125, .t 132]) 0, oI 134 (.call 52 [.t 124, .t 133]) 0, oI 135 (.call 36 [.t 134]) 0, xI 136 4 116 117 0, ⟨none, .st 4 (.t 136) (.t 135), 0, [], [], none⟩] = (0, 1) := Yan
def Zxt:List IOp := [mI 111 13 0,oI 112 (.bin .add (.t 111) (cI 1)) 0,mI 13 112 0]
def Zor:CC := .seq (.seq (.rg false Zmu) (.cond (.t 110) .skip (.exit 8))) (.seq (.block 9 (.rg true Zmp)) (.rg false Zxt))
def Zg9:List IOp := [mI 76 11 0,oI 77 (.bin .add (.t 76) (cI 1)) 0,mI 11 77 0]
def Zo2:CC := .seq (.seq (.rg false Zd4) (.cond (.t 75) .skip (.exit 6))) (.seq (.block 7 (.seq (.seq (.rg false Zhi) (.cond (.t 90) (.exit 7) .skip)) (.seq (.rg true Zmd) (.seq (.rg false Zyt) (.block 8 (.loop Zor)))))) (.rg false Zg9))
def Zx0:List IOp := [mI 35 8 0,oI 36 (.bin .add (.t 35) (cI 1)) 0,mI 8 36 0]
def Zqf:CC := .seq (.seq (.rg false Zqd) (.cond (.t 34) .skip (.exit 2))) (.seq (.block 3 (.seq (.rg false Z58) (.seq (.seq (.rg false Zym) (.block 4 (.loop Zow))) (.seq (.seq (.rg false Zy2) (.cond (.t 58) (.seq (.rg false Ye9) .ret) .skip)) (.seq (.rg true Zmf) (.seq (.rg false Zyk) (.block 6 (.loop Zo2)))))))) (.rg false Zx0))
def Zx3:List IOp := [oI 137 (.bsl (some 4) 0 [.bool false,.nils,.bool false,.nils] []) 0,mI 14 137 1]
def Zzp:List IOp := [oI 15 (.mv (cI 0)) 0]
def Zl4:List IOp := [mI 138 15 0,mI 139 1 0,oI 140 (.bin .lss (.t 138) (.t 139)) 0]
def Zms:List IOp := [mI 143 14 0,mI 144 6 0,mI 145 15 0,xI 146 1 144 145 0,lI 147 146 0,mI 148 1 0,xI 149 4 147 148 0,lJ 150 4 149 0,mI 151 6 0,mI 152 15 0,xI 153 1 151 152 0,lI 154 153 0,mI 155 15 0,xI 156 4 154 155 0,lJ 157 4 156 0,oI 158 (.call 32 [.t 150,.t 157]) 0,oI 159 (.call 36 [.t 158]) 0,oI 160 (.bsl (some 4) 1 [.bool false,.nils,.bool false,.nils] [(0,.t 159)]) 0,⟨some 161,.app (some 4) 64 (.t 143) (.t 160),1,[0],[],none⟩,⟨some 14,.mv (.t 161),2,[0,1],[],none⟩]
@[go_sem ↓] theorem Yar : autoK Zms = (2, 1) := by kernel_rfl
@[go_sem] theorem Ywi : autoK [mI 143 14 0, mI 144 6 0, mI 145 15 0, xI 146 1 144 145 0, lI 147 146 0, mI 148 1 0, xI 149 4 147 148 0, lJ 150 4 149 0, mI 151 6 0, mI 152 15 0, xI 153 1 151 152 0, lI 154 153 0, mI 155 15 0, xI 156 4 154 155 0, lJ 157 4 156 0, oI 158 (.call 32 [.t 150, .t 157]) 0, oI 159 (.call 36 [.t 158]) 0, oI 160 (.bsl (some 4) 1 [.bool false, .nils, .bool false, .nils] [(0, .t 159)]) 0, ⟨some 161, .app (some 4) 64 (.t 143) (.t 160), 1, [0], [], none⟩, ⟨some 14, .mv (.t 161), 2, [0, 1], [], none⟩] = (2, 1) := Yar
def Zzt:List IOp := [mI 141 15 0,oI 142 (.bin .add (.t 141) (cI 1)) 0,mI 15 142 0]
def Zq0:CC := .seq (.seq (.rg false Zl4) (.cond (.t 140) .skip (.exit 10))) (.seq (.block 11 (.rg true Zms)) (.rg false Zzt))
def Zx6:List IOp := [mI 162 14 0,mI 4 162 0,oI 5 (.mv (.c (.bool true))) 0]
def Yhs:CC := .seq (.rg false Z30) (.seq (.rg false Z5t) (.seq (.seq (.rg false Z43) (.block 0 (.loop Zqj))) (.seq (.seq (.rg false Z3t) (.block 2 (.loop Zqf))) (.seq (.rg false Zx3) (.seq (.seq (.rg false Zzp) (.block 10 (.loop Zq0))) (.seq (.rg false Zx6) .ret))))))
abbrev Yqn:Nat:=97
theorem Yni:fnOk Tryz.prog 97=some (163,Yhs,[.tmp 4,.tmp 5]):=by kernel_rfl
def Z76:List IOp := [oI 6 (.mv (.c .nils)) 0]
def Z9d:List IOp := [oI 17 (.bsl none 0 [.nils] []) 0,mI 7 17 1]
def Z86:List IOp := [oI 8 (.mv (cI 1)) 0]
def Zt2:List IOp := [mI 18 8 0,mI 19 0 0,oI 20 (.bin .lss (.t 18) (.t 19)) 0]
def Z9u:List IOp := [oI 23 (.bsl (some 4) 0 [.bool false,.nils,.bool false,.nils] []) 0,mI 9 23 1]
def Z82:List IOp := [oI 10 (.mv (cI 1)) 0]
def Ztc:List IOp := [mI 24 10 0,mI 25 0 0,oI 26 (.bin .lss (.t 24) (.t 25)) 0]
def Z8q:List IOp := [mI 29 9 0,oI 30 (.call 33 [cI 0]) 0,oI 31 (.bsl (some 4) 1 [.bool false,.nils,.bool false,.nils] [(0,.t 30)]) 0,oI 32 (.app (some 4) 64 (.t 29) (.t 31)) 1,mI 9 32 2]
def Yad:List IOp := [mI 27 10 0,oI 28 (.bin .add (.t 27) (cI 1)) 0,mI 10 28 0]
def Zwr:CC := .seq (.seq (.rg false Ztc) (.cond (.t 26) .skip (.exit 2))) (.seq (.block 3 (.rg false Z8q)) (.rg false Yad))
def Z50:List IOp := [oI 11 (.mv (cI 0)) 0]
def Zgc:List IOp := [mI 33 11 0,mI 34 1 0,oI 35 (.len (.t 34)) 0,oI 36 (.bin .lss (.t 33) (.t 35)) 0]
def Zgd:List IOp := [mI 39 1 0,mI 40 11 0,xI 41 3 39 40 0,fI 42 0 41 0,lI 43 42 0,mI 44 1 0,mI 45 11 0,xI 46 3 44 45 0,fI 47 1 46 0,lI 48 47 0,mI 12 43 0,mI 13 48 0]
@[go_sem ↓] theorem Ye5 : autoK Zgd = (0, 0) := by kernel_rfl
@[go_sem] theorem Yxr : autoK [mI 39 1 0, mI 40 11 0, xI 41 3 39 40 0, fI 42 0 41 0, lI 43 42 0, mI 44 1 0, mI 45 11 0, xI 46 3 44 45 0, fI 47 1 46 0, lI 48 47 0, mI 12 43 0, mI 13 48 0] = (0, 0) := Ye5
def Zi8:List IOp := [mI 49 13 0,mI 50 8 0,oI 51 (.bin .eql (.t 49) (.t 50)) 0]
def Z3w:List IOp := [mI 52 13 0,mI 53 12 0,mI 12 52 0,mI 13 53 0]
def Zjc:List IOp := [mI 54 12 0,mI 55 8 0,oI 56 (.bin .neq (.t 54) (.t 55)) 0]
def Zo5:List IOp := [mI 57 1 0,mI 58 11 0,xI 59 3 57 58 0,fI 60 2 59 0,lI 61 60 0,oI 62 (.call 29 [.t 61]) 0,oI 14 (.alloc [.bool false,.nils,.bool false,.nils]) 0,⟨none,.st 4 (.t 14) (.t 62),1,[],[],none⟩]
def Zjd:List IOp := [mI 63 9 0,mI 64 8 0,oI 65 (.bin .sub (.t 64) (cI 1)) 0,mI 66 9 0,mI 67 8 0,oI 68 (.bin .sub (.t 67) (cI 1)) 0,xI 69 4 66 68 0,lJ 70 4 69 0,lJ 71 4 14 0,oI 72 (.call 27 [.t 70,.t 71]) 0,oI 73 (.call 36 [.t 72]) 0,xI 74 4 63 65 0,⟨none,.st 4 (.t 74) (.t 73),0,[],[],none⟩]
@[go_sem ↓] theorem Yc8 : autoK Zjd = (0, 1) := by kernel_rfl
@[go_sem] theorem Yxu : autoK [mI 63 9 0, mI 64 8 0, oI 65 (.bin .sub (.t 64) (cI 1)) 0, mI 66 9 0, mI 67 8 0, oI 68 (.bin .sub (.t 67) (cI 1)) 0, xI 69 4 66 68 0, lJ 70 4 69 0, lJ 71 4 14 0, oI 72 (.call 27 [.t 70, .t 71]) 0, oI 73 (.call 36 [.t 72]) 0, xI 74 4 63 65 0, ⟨none, .st 4 (.t 74) (.t 73), 0, [], [], none⟩] = (0, 1) := Yc8
def Zfe:List IOp := [mI 75 13 0,oI 76 (.bin .gtr (.t 75) (cI 0)) 0]
def Zjf:List IOp := [mI 77 9 0,mI 78 13 0,oI 79 (.bin .sub (.t 78) (cI 1)) 0,mI 80 9 0,mI 81 13 0,oI 82 (.bin .sub (.t 81) (cI 1)) 0,xI 83 4 80 82 0,lJ 84 4 83 0,lJ 85 4 14 0,oI 86 (.call 52 [.t 84,.t 85]) 0,oI 87 (.call 36 [.t 86]) 0,xI 88 4 77 79 0,⟨none,.st 4 (.t 88) (.t 87),0,[],[],none⟩]
@[go_sem ↓] theorem Yd4 : autoK Zjf = (0, 1) := by kernel_rfl
@[go_sem] theorem Yxt : autoK [mI 77 9 0, mI 78 13 0, oI 79 (.bin .sub (.t 78) (cI 1)) 0, mI 80 9 0, mI 81 13 0, oI 82 (.bin .sub (.t 81) (cI 1)) 0, xI 83 4 80 82 0, lJ 84 4 83 0, lJ 85 4 14 0, oI 86 (.call 52 [.t 84, .t 85]) 0, oI 87 (.call 36 [.t 86]) 0, xI 88 4 77 79 0, ⟨none, .st 4 (.t 88) (.t 87), 0, [], [], none⟩] = (0, 1) := Yd4
def Zdd:List IOp := [mI 37 11 0,oI 38 (.bin .add (.t 37) (cI 1)) 0,mI 11 38 0]
def Zun:CC := .seq (.seq (.rg false Zgc) (.cond (.t 36) .skip (.exit 4))) (.seq (.block 5 (.seq (.rg true Zgd) (.seq (.seq (.rg false Zi8) (.cond (.t 51) (.rg false Z3w) .skip)) (.seq (.seq (.rg false Zjc) (.cond (.t 56) (.exit 5) .skip)) (.seq (.rg false Zo5) (.seq (.rg true Zjd) (.seq (.rg false Zfe) (.cond (.t 76) (.rg true Zjf) .skip)))))))) (.rg false Zdd))
def Z5f:List IOp := [mI 89 7 0,mI 90 9 0,mI 91 2 0,mI 92 8 0,xI 93 4 91 92 0,lJ 94 4 93 0,oI 95 (.bsl (some 4) 1 [.bool false,.nils,.bool false,.nils] [(0,.t 94)]) 0,oI 96 (.app (some 4) 64 (.t 90) (.t 95)) 1,oI 97 (.bsl none 1 [.nils] [(0,.t 96)]) 2,oI 98 (.app none 24 (.t 89) (.t 97)) 3,mI 7 98 4]
def Z2j:List IOp := [mI 21 8 0,oI 22 (.bin .add (.t 21) (cI 1)) 0,mI 8 22 0]
def Zt9:CC := .seq (.seq (.rg false Zt2) (.cond (.t 20) .skip (.exit 0))) (.seq (.block 1 (.seq (.rg false Z9u) (.seq (.seq (.rg false Z82) (.block 2 (.loop Zwr))) (.seq (.seq (.rg false Z50) (.block 4 (.loop Zun))) (.rg false Z5f))))) (.rg false Z2j))
def Z39:List IOp := [mI 100 7 0,mI 101 0 0,oI 102 (.bin .sub (.t 101) (cI 1)) 0,oI 103 (.call 97 [.t 100,.t 102]) 0,mI 99 103 0,eI 104 0 99 0,eI 105 1 99 0,mI 15 104 0,mI 16 105 0]
def Z5s:List IOp := [oI 106 (.call 33 [cI 0]) 0,oI 107 (.bsl (some 4) 1 [.bool false,.nils,.bool false,.nils] [(0,.t 106)]) 0,mI 108 15 1,oI 109 (.app (some 4) 64 (.t 107) (.t 108)) 1,mI 6 109 2]
def Ymd:CC := .seq (.rg false Z76) (.seq (.rg false Z9d) (.seq (.seq (.rg false Z86) (.block 0 (.loop Zt9))) (.seq (.rg false Z39) (.seq (.rg false Z5s) .ret))))
abbrev Yug:Nat:=48
theorem Ypc:fnOk Tryz.prog 48=some (110,Ymd,[.tmp 6]):=by kernel_rfl
def Ydb:List IOp := [oI 4 (.mv (.c (.bool false))) 0]
def Ycu:List IOp := [mI 6 0 0,oI 7 (.len (.t 6)) 0,mI 8 1 0,oI 9 (.len (.t 8)) 0,oI 10 (.bin .neq (.t 7) (.t 9)) 0]
def Yps:List IOp := [oI 4 (.mv (.c (.bool false))) 0]
def Yee:List IOp := [oI 5 (.mv (cI 0)) 0]
def Z1y:List IOp := [mI 11 5 0,mI 12 0 0,oI 13 (.len (.t 12)) 0,oI 14 (.bin .lss (.t 11) (.t 13)) 0]
def Z1m:List IOp := [mI 17 0 0,mI 18 5 0,xI 19 1 17 18 0,lI 20 19 0,mI 21 1 0,mI 22 5 0,xI 23 4 21 22 0,lJ 24 4 23 0,oI 25 (.callw 20 [.t 20,.t 24]) 0,oI 26 (.un .not (.t 25)) 0]
@[go_sem ↓] theorem Yjf : autoK Z1m = (0, 0) := by kernel_rfl
@[go_sem] theorem Y3q : autoK [mI 17 0 0, mI 18 5 0, xI 19 1 17 18 0, lI 20 19 0, mI 21 1 0, mI 22 5 0, xI 23 4 21 22 0, lJ 24 4 23 0, oI 25 (.callw 20 [.t 20, .t 24]) 0, oI 26 (.un .not (.t 25)) 0] = (0, 0) := Yjf
def Yoa:List IOp := [oI 4 (.mv (.c (.bool false))) 0]
def Z0l:List IOp := [mI 15 5 0,oI 16 (.bin .add (.t 15) (cI 1)) 0,mI 5 16 0]
def Z1q:CC := .seq (.seq (.rg false Z1y) (.cond (.t 14) .skip (.exit 0))) (.seq (.block 1 (.seq (.rg true Z1m) (.cond (.t 26) (.seq (.rg false Yoa) .ret) .skip))) (.rg false Z0l))
def Ybo:List IOp := [oI 4 (.mv (.c (.bool true))) 0]
def Yr9:CC := .seq (.rg false Ydb) (.seq (.seq (.rg false Ycu) (.cond (.t 10) (.seq (.rg false Yps) .ret) .skip)) (.seq (.seq (.rg false Yee) (.block 0 (.loop Z1q))) (.seq (.rg false Ybo) .ret)))
abbrev Y1o:Nat:=44
theorem Yxe:fnOk Tryz.prog 44=some (27,Yr9,[.tmp 4]):=by kernel_rfl
end GoAbs
namespace GoAbs
theorem Zgi {r:List Rat}{j c:Nat}{x:Rat}(hc:c<r.length):rget (r.set c x) j=if j=c then x else rget r j:=by
 unfold rget
 rw [List.getD_eq_getElem?_getD,List.getD_eq_getElem?_getD,List.getElem?_set]
 by_cases h:c=j
 ·subst h; simp [hc]
 ·rw [if_neg h,if_neg (fun e=>h e.symm)]
theorem Y4d {M:RM}{i a:Nat}{r:List Rat}(ha:a<M.length):(M.set a r).getD i []=if i=a then r else M.getD i []:=by
 rw [List.getD_eq_getElem?_getD,List.getD_eq_getElem?_getD,List.getElem?_set]
 by_cases h:a=i
 ·subst h; simp [ha]
 ·rw [if_neg h,if_neg (fun e=>h e.symm)]
theorem Z6m {M:RM}{w a c i j:Nat}{x:Rat}(hW:Wid w M) (ha:a<M.length) (hc:c<w):mget (addAt M a c x) i j=mget M i j+if i=a∧j=c then x else 0:=by
 unfold addAt
 show rget ((M.set a _).getD i []) j=_
 rw [Y4d ha]
 by_cases h1:i=a
 ·subst h1
  rw [if_pos rfl,Zgi (by rw [hW.get ha]; exact hc)]
  by_cases h2:j=c
  ·subst h2; rw [if_pos rfl,if_pos ⟨rfl,rfl⟩]
  ·rw [if_neg h2,if_neg (fun h=>h2 h.2)]
   show mget M i j=_
   grind
 ·rw [if_neg h1,if_neg (fun h=>h1 h.1)]
  show mget M i j=_
  grind
theorem Ynw {M:RM}{m a b i j:Nat}{x:Rat}(hW:Wid m M) (hM:M.length=m) (ha:a≤m) (hb:b≤m) :
  mget (half M a b x) i j=mget M i j+(if i+1=a∧j+1=a then x else 0)+(if i+1=a∧j+1=b then -x else 0):=by
 unfold half
 by_cases h1:a=0
 ·rw [if_pos h1,if_neg (by omega),if_neg (by omega)]; grind
 ·rw [if_neg h1]
  have e1:(i=a - 1∧j=a - 1)↔(i+1=a∧j+1=a):=by omega
  by_cases h2:b=0
  ·rw [if_pos h2,Z6m hW (by omega) (by omega),if_neg (show ¬ (i+1=a∧j+1=b) by omega)]
   simp only [e1]; grind
  ·have e2:(i=a - 1∧j=b - 1)↔(i+1=a∧j+1=b):=by omega
   rw [if_neg h2,Z6m hW.addAt (by rw [Zts]; omega) (by omega),Z6m hW (by omega) (by omega)]
   simp only [e1,e2]
theorem Yx6 {M:RM}{m a b i j:Nat}{x:Rat}(hW:Wid m M) (hM:M.length=m) (ha:a≤m) (hb:b≤m) (hab:a≠b) :
  mget (edgeM M (a,b,x)) i j=mget M i j+x*(edge a b (i+1)*edge a b (j+1)):=by
 unfold edgeM
 rw [Ynw hW.half (by rw [Zjl,hM]) hb ha,Ynw hW hM ha hb]
 unfold edge
 by_cases h1:i+1=a <;> by_cases h2:i+1=b <;> by_cases h3:j+1=a <;> by_cases h4:j+1=b <;> simp [h1,h2,h3,h4,hab] <;> grind
theorem Ymf {m:Nat}:∀ {E:List Sp}{M:RM},Wid m M→M.length=m→(∀ e,e∈E→e.1≤m∧e.2.1≤m∧e.1≠e.2.1)→∀ i j,mget (E.foldl edgeM M) i j=mget M i j+Lm id E (i+1) (j+1)
 | [],M,_,_,_,i,j=>by show mget M i j=mget M i j+0; grind
 | (a,b,x)::E,M,hW,hM,hE,i,j=>by
  obtain ⟨h1,h2,h3⟩:=hE (a,b,x) (by simp)
  rw [List.foldl_cons,Ymf hW.edge (by rw [Ych,hM]) (fun e he=>hE e (by simp [he])),Yx6 hW hM h1 h2 h3]
  have hL:Lm id ((a,b,x)::E) (i+1) (j+1)=Lm id E (i+1) (j+1)+x*(edge a b (i+1)*edge a b (j+1)):=rfl
  rw [hL]
  grind
theorem Y02 {m i j:Nat}:mget (List.replicate m (List.replicate m (0:Rat))) i j=0:=by
 unfold mget rget
 rw [List.getD_eq_getElem?_getD,List.getD_eq_getElem?_getD,List.getElem?_replicate]
 by_cases h:i<m
 ·rw [if_pos h]
  simp only [Option.getD_some,List.getElem?_replicate]
  split <;> rfl
 ·rw [if_neg h]; simp
theorem Z2v {m:Nat}{E:List Sp}(hE:∀ e,e∈E→e.1≤m∧e.2.1≤m∧e.1≠e.2.1) (i j:Nat):mget (lapl m E) i j=Lm id E (i+1) (j+1):=by
 unfold lapl
 rw [Ymf (fun r hr=>by rw [(List.mem_replicate.1 hr).2]; simp) (by simp) hE,Y02]
 grind
theorem Zdc {m:Nat}{E:List Sp}:Wid m (lapl m E)∧(lapl m E).length=m:=by
 unfold lapl
 have main:∀ (E:List Sp) (M:RM),Wid m M→M.length=m→Wid m (E.foldl edgeM M)∧(E.foldl edgeM M).length=m:=by
  intro E
  induction E with
  | nil=>intro M h1 h2; exact ⟨h1,h2⟩
  | cons e E ih=>intro M h1 h2; exact ih _ h1.edge (by rw [Ych,h2])
 exact main _ _ (fun r hr=>by rw [(List.mem_replicate.1 hr).2]; simp) (by simp)
theorem Ye0 {m k:Nat}{E:List Sp}(hE:∀ e,e∈E→Qb k e.2.2) (hk:1≤k):Mb (k+E.length*(4*(k+1))) (lapl m E):=by
 have main:∀ (E:List Sp) (M:RM) (l:Nat),(∀ e,e∈E→Qb k e.2.2)→1≤l→Mb l M→Mb (l+E.length*(4*(k+1))) (E.foldl edgeM M):=by
  intro E
  induction E with
  | nil=>intro M l _ _ h; simpa using h
  | cons e E ih =>
   intro M l h1 h2 h3
   refine (ih _ _ (fun x hx=>h1 x (by simp [hx])) (by omega) (h3.edge (h1 e (by simp)) h2)).mono ?_
   rw [List.length_cons,Nat.add_mul]; omega
 exact main E _ k hE hk (fun r hr x hx=>by
  rw [(List.mem_replicate.1 hr).2] at hx
  rw [(List.mem_replicate.1 hx).2]
  exact Qb.zero hk)
theorem Z3d {M:RM}{w c i j:Nat}(hW:Wid w M) (hi:i<M.length) (hj:j<w) (hci:c<i) (hcj:c≤j) (hp:mget M c c≠0):mget (elimCol M c M.length) i j=mget M i j - mget M i c*mget M c j / mget M c c:=by
 unfold mget
 rw [List.getD_eq_getElem?_getD (l:=elimCol M c M.length),Zen hi,if_pos ⟨hci,hi⟩]
 simp only [Option.getD_some]
 unfold elimRow
 have hl:=hW.get hi
 split
 ·rename_i h0
  rw [h0]
  grind
 ·show (elimTo _ _ _ _ _).getD j 0=_
  rw [List.getD_eq_getElem?_getD,Zg0 (by rw [hl]; exact hj),if_pos ⟨hcj,by rw [hl]; exact hj⟩]
  simp only [Option.getD_some]
  unfold mget at hp
  grind
theorem Y8r {m:Nat}:∀ {k c:Nat}{M:RM}{A:Mat}{d:Rat},c+k=m→M.length=m→Wid m M→Psd (List.range' (c+1) k) A→(∀ i j,c≤i→i<m→c≤j→j<m→mget M i j=A (i+1) (j+1)) →
  (tri k c M d).1=d*dt (List.range' (c+1) k) A∧NoSw k c M
 | 0,c,M,A,d,_,_,_,_,_=>⟨by show d=d*1; grind,trivial⟩
 | k+1,c,M,A,d,hk,hM,hW,hA,hg=>by
  have hr:c+1 ∉ List.range' (c+1+1) k:=by rw [List.mem_range'_1]; omega
  rw [List.range'_succ] at hA ⊢
  have hp:=hg c c (by omega) (by omega) (by omega) (by omega)
  unfold tri NoSw dt
  by_cases h0:mget M c c=0
  ·rw [if_pos h0]
   have h0':A (c+1) (c+1)=0:=by rw [← hp]; exact h0
   refine ⟨by rw [h0']; show (0:Rat)=_; grind,fun _ i hi hil=>?_,fun h=>absurd h0 h⟩
   rcases Nat.lt_or_ge c i with hci | hci
   ·rw [hg i c (by omega) (by omega) (by omega) (by omega),hA.sym]
    exact hA.zero hr h0' (i+1) (by rw [List.mem_range'_1]; omega)
   ·have:i=c:=by omega
    rw [this]; exact h0
  ·rw [if_neg h0]
   have h0':A (c+1) (c+1)≠0:=by rw [← hp]; exact h0
   have ih:=Y8r (k:=k) (c:=c+1) (M:=elimCol M c M.length) (A:=schur (c+1) A) (d:=d*mget M c c) (by omega) (by rw [Zaw,hM]) hW.elim (hA.schur hr) (fun i j hi hil hj hjl=>by
    rw [Z3d hW (by omega) (by omega) (by omega) (by omega) h0,hg i j (by omega) hil (by omega) hjl,hg i c (by omega) hil (by omega) (by omega),hg c j (by omega) (by omega) (by omega) hjl,hp]
    rfl)
   refine ⟨?_,fun h=>absurd h h0,fun _=>ih.2⟩
   rw [ih.1,hp]; grind
theorem Y1q {m:Nat}{E:List Sp}(hE:∀ e,e∈E→e.1≤m∧e.2.1≤m∧e.1≠e.2.1∧0≤e.2.2):(tri m 0 (lapl m E) 1).1=Fsum (m+1) id m E∧NoSw m 0 (lapl m E):=by
 have hpos:Pos E:=fun e he=>(hE e he).2.2.2
 obtain ⟨h1,h2⟩:=Y8r (k:=m) (c:=0) (M:=lapl m E) (A:=Lm id E) (d:=1) (by omega) Zdc.2 Zdc.1 (Zwp hpos) (fun i j _ _ _ _=>Z2v (fun e he=>⟨(hE e he).1,(hE e he).2.1,(hE e he).2.2.1⟩) i j)
 refine ⟨?_,h2⟩
 have h3:=Zoj (n:=m+1) (l:=E) (p:=id) (g:=0) (R:=List.range' 1 m) hpos (fun e he=>⟨by have:=(hE e he).1; omega,by have:=(hE e he).2.1; omega⟩)
  ⟨by rw [List.nodup_cons]; exact ⟨by rw [List.mem_range'_1]; omega,List.nodup_range'⟩,fun i hi=>by
   rcases Nat.eq_zero_or_pos i with h | h
   ·exact .inl h
   ·exact .inr (by rw [List.mem_range'_1]; simp only [id]; omega),fun x hx=>by
   refine ⟨x,?_,rfl⟩
   rcases List.mem_cons.1 hx with h | h
   ·omega
   ·rw [List.mem_range'_1] at h; omega⟩
 rw [List.length_range'] at h3
 rw [h1,h3]; grind
end GoAbs
namespace GoAbs
open Go Go.Proofs
theorem Ytv {w:Nat}:∀ {k c l:Nat}{M:RM}{d:Rat},c+k≤M.length→M.length≤w→Wid w M→Mb l M→Qb l d→1≤l→Qb (9 ^ k*l) (tri k c M d).1
 | 0,c,l,M,d,_,_,_,_,hd,_=>by simpa [tri] using hd
 | k+1,c,l,M,d,hc,hw,hW,hM,hd,hl=>by
  unfold tri
  split
  ·exact Qb.zero (Nat.mul_pos (Nat.pow_pos (by omega)) hl)
  ·rename_i h0
   have h1:=(hM.elim hW (I:=M.length) (by omega) (show c<w by omega) h0).mono (show 8*l+1≤9*l by omega)
   have h2:=(hd.mul ((hM.get (i:=c) (by omega)).get (j:=c) (by rw [hW.get (by omega)]; omega))).mono (show 2*l≤9*l by omega)
   have:=Ytv (k:=k) (c:=c+1) (by rw [Zaw]; omega) (by rw [Zaw]; exact hw) hW.elim h1 h2 (by omega)
   rw [Nat.pow_succ,Nat.mul_assoc]
   exact this
structure NetOk (n:Nat) (E:List Sp):Prop where
 n2:2≤n
 e:∀ e,e∈E→e.1<n∧e.2.1<n∧e.1≠e.2.1∧0<e.2.2∧Fitd 20 e.2.2
theorem Ypb {n:Int}{L:List Spr}(hL:L.length≤40) (hn:n≤6) (hl:∀ s,s∈L→s.2.2.length≤1000000000) (h:readR n L = .tup [.agg (netC n.toNat (L.map toE)),.int .i64 0]) (ho:NetOk n.toNat (L.map toE)) :
  SpecV Tryz.prog Zyg [.int .i64 n,.sl (L.map sprAV)] (if NumOk (Fsum n.toNat id (n.toNat - 1) (L.map toE)) then .tup [.str (bs (numS (Fsum n.toNat id (n.toNat - 1) (L.map toE)))),.int .i64 0] else .tup [.str (bs []),.int .i64 4]):=by
 obtain ⟨m,hm⟩:∃ m,n.toNat=m+1:=⟨n.toNat - 1,by have:=ho.n2; omega⟩
 have hm1:n.toNat - 1=m:=by omega
 generalize hE:L.map toE=E at *
 have hEl:E.length≤40:=by rw [← hE,List.length_map]; exact hL
 have hdt:=Y1q (m:=m) (E:=E) (fun e he=>⟨by have:=(ho.e e he).1; omega,by have:=(ho.e e he).2.1; omega,(ho.e e he).2.2.1,Rat.le_of_lt (ho.e e he).2.2.2.1⟩)
 rw [hm1,hm]
 generalize hq:Fsum (m+1) id m E=q at *
 have hK:67+E.length*(4*(67+1))≤10947:=by omega
 have hMb:Mb 10947 (lapl m E):=(Ye0 (fun e he=>(ho.e e he).2.2.2.2.bits) (by omega)).mono hK
 have h9:9 ^ m*10947≤100000000000:=Nat.le_trans (Nat.mul_le_mul_right _ (Nat.pow_le_pow_right (by omega) (show m≤5 by omega))) (by decide)
 have hqb:Qb (9 ^ m*10947) q:=by
  rw [← hdt.1]
  exact Ytv (by rw [Zdc.2]; omega) (by rw [Zdc.2]; exact Nat.le_refl _) Zdc.1 hMb (Qb.one (by omega)) (by omega)
 refine Zad Yb9 (by simp) ?_
 unfold Z2p
 have hs:=Zh2 (n:=n) (by omega) hl
 rw [h] at hs
 simp only [go_sem,Zrf,Zr1]
 refine Zaa hs (by simp only [go_sem]) ?_
 have hcl:(netC n.toNat E).length=3:=rfl
 have hct:(netC n.toNat E).take 3=netC n.toNat E:=rfl
 have hcd:(netC n.toNat E).drop 3 = []:=rfl
 simp only [go_sem,Zri,Zrz,hcl,hct,hcd]
 have hgc:∀ f,gcL f (netC n.toNat E)=netC n.toNat E:=fun f=>rfl
 have hnet:=Zkx (H := [.cells (netC n.toNat E)]) (Ytm (n:=n.toNat) (k:=67) (E:=E) ho.n2 (by omega) (fun e he=>⟨(ho.e e he).1,(ho.e e he).2.1,(ho.e e he).2.2.2.2.bits⟩) (by omega) (by omega) (by omega)) (by unfold netC; simp only [go_sem])
 obtain ⟨pre,hpre⟩:∃ pre:Heap,pre = [.cells (netC n.toNat E),.cells (netC n.toNat E)]:=⟨_,rfl⟩
 have hh : [Blk.cells (netC n.toNat E)]++([Blk.cells (netC n.toNat E)]++matH 1 (n.toNat - 1) (lapl (n.toNat - 1) E)).map (Blk.gc (fun i=>some (i + [Blk.cells (netC n.toNat E)].length)))=pre++matH 2 m (lapl m E):=by
  rw [List.map_append,hpre,hm1]
  show [Blk.cells (netC n.toNat E)]++([Blk.cells (gcL _ (netC n.toNat E))]++(matH 1 m (lapl m E)).map (Blk.gc (fun i=>some (i+1))))=_
  rw [hgc,Ypi]; rfl
 rw [hh] at hnet
 refine Zrm hnet ?_
 have e1:(AV.osl none 1 0 (n.toNat - 1)).gc (fun i=>some (i + [Blk.cells (netC n.toNat E)].length)) = .osl none 2 0 m:=by rw [hm1]; rfl
 rw [e1]
 simp only [go_sem]
 refine Zrm (Y7f (pre:=pre) (o:=2) (w:=m) (n:=m) (k:=10947) (by rw [hpre]; rfl) Zdc.2 (by omega) (by omega) (Nat.le_refl _) Zdc.1 hMb (by omega) h9 hdt.2 (fun m' _=>by rw [hpre]; rfl)) ?_
 rw [hdt.1]
 simp only [go_sem]
 refine Zaa (Xcc (q:=q) (Zth hqb.n (by omega)) (Zth hqb.d (by omega))) (by simp only [go_sem,Zbz,Zaq]) ?_
 by_cases hok:NumOk q
 ·simp only [if_pos hok,go_sem]
 ·simp only [if_neg hok,go_sem]
end GoAbs
namespace GoAbs
def Ker (n:Nat) (p q:Nat→Nat):Prop:=∀ i j,i<n→j<n→(p i=p j↔q i=q j)
theorem Ker.tie {n:Nat}{p q:Nat→Nat}(h:Ker n p q) {s:MSp}(h1:s.1<n) (h2:s.2.1<n):Ker n (tieP s p) (tieP s q):=fun i j hi hj=>by
 have a1:=h i j hi hj
 have a2:=h i s.1 hi h1
 have a3:=h j s.1 hj h1
 have a4:=h i s.2.1 hi h2
 have a5:=h j s.2.1 hj h2
 have a6:=h s.1 s.2.1 h1 h2
 unfold tieP mrg
 by_cases c1:p i=p s.1 <;> by_cases c2:p j=p s.1
 ·rw [if_pos c1,if_pos c2,if_pos (a2.1 c1),if_pos (a3.1 c2)]; exact ⟨fun _=>rfl,fun _=>rfl⟩
 ·rw [if_pos c1,if_neg c2,if_pos (a2.1 c1),if_neg (fun e=>c2 (a3.2 e))]
  exact ⟨fun e=>(a5.1 e.symm).symm,fun e=>(a5.2 e.symm).symm⟩
 ·rw [if_neg c1,if_pos c2,if_neg (fun e=>c1 (a2.2 e)),if_pos (a3.1 c2)]; exact a4
 ·rw [if_neg c1,if_neg c2,if_neg (fun e=>c1 (a2.2 e)),if_neg (fun e=>c2 (a3.2 e))]; exact a1
theorem Ker.one {n:Nat}{p q:Nat→Nat}(h:Ker n p q):allOne n p=allOne n q:=by
 unfold allOne
 by_cases hn:n=0
 ·rw [if_pos (fun i hi=>by omega),if_pos (fun i hi=>by omega)]
 ·have:(∀ i,i<n→p i=p 0)↔(∀ i,i<n→q i=q 0) :=
   ⟨fun k i hi=>(h i 0 hi (by omega)).1 (k i hi),fun k i hi=>(h i 0 hi (by omega)).2 (k i hi)⟩
  by_cases c:∀ i,i<n→p i=p 0
  ·rw [if_pos c,if_pos (this.1 c)]
  ·rw [if_neg c,if_neg (fun e=>c (this.2 e))]
def InN (n:Nat) (l:List MSp):Prop:=∀ s,s∈l→s.1<n∧s.2.1<n
theorem Ya6 {n:Nat}:∀ {l:List MSp}{k:Nat}{p q:Nat→Nat},InN n l→Ker n p q→FG (allOne n) p k l=FG (allOne n) q k l
 | l,0,p,q,_,h=>by rw [Zio,Zio,h.one]
 | [],k+1,p,q,_,h=>by rw [Zyj,Zyj]
 | s::l,k+1,p,q,hl,h=>by
  have hl':InN n l:=fun t ht=>hl t (by simp [ht])
  have hs:=hl s (by simp)
  rw [Zgz,Zgz,Ya6 hl' h,Ya6 hl' (h.tie hs.1 hs.2)]
theorem Y4w {n:Nat}{p:Nat→Nat}{s t:MSp}:Ker n (tieP s (tieP t p)) (tieP t (tieP s p)):=fun i j _ _=>by
 unfold tieP mrg
 generalize p i=a
 generalize p j=b
 generalize p s.1=x
 generalize p s.2.1=y
 generalize p t.1=u
 generalize p t.2.1=v
 grind
theorem Ysh {n:Nat}{s:MSp}(hs:s.1<n∧s.2.1<n):∀ {l:List MSp}{k:Nat}{p:Nat→Nat},InN n l→FG (fun q=>allOne n (tieP s q)) p k l=FG (allOne n) (tieP s p) k l
 | l,0,p,_=>by rw [Zio,Zio]
 | [],k+1,p,_=>by rw [Zyj,Zyj]
 | t::l,k+1,p,hl=>by
  have hl':InN n l:=fun u hu=>hl u (by simp [hu])
  rw [Zgz,Zgz,Ysh hs hl',Ysh hs hl',Ya6 hl' Y4w]
def nameE (φ:Nat→Nat) (s:MSp):MSp:=(φ s.1,φ s.2.1,s.2.2)
theorem Yo0 {n n':Nat}{φ:Nat→Nat}(hn:0<n) (hn':0<n') (hφ:∀ i,i<n→φ i<n') (ho:∀ j,j<n'→∃ i,i<n∧φ i=j):∀ {l:List MSp}{k:Nat}{q:Nat→Nat},FG (allOne n) (fun i=>q (φ i)) k l=FG (allOne n') q k (l.map (nameE φ))
 | l,0,q=>by
  rw [Zio,Zio]
  unfold allOne
  have:(∀ i,i<n→q (φ i)=q (φ 0))↔∀ j,j<n'→q j=q 0:=by
   constructor
   ·intro h j hj
    obtain ⟨i,hi,rfl⟩:=ho j hj
    obtain ⟨z,hz,hz'⟩:=ho 0 hn'
    rw [h i hi, ← h z hz,hz']
   ·intro h i hi
    rw [h _ (hφ i hi),h _ (hφ 0 hn)]
  by_cases c:∀ i,i<n→q (φ i)=q (φ 0)
  ·rw [if_pos c,if_pos (this.1 c)]
  ·rw [if_neg c,if_neg (fun e=>c (this.2 e))]
 | [],k+1,q=>by rw [List.map_nil,Zyj,Zyj]
 | s::l,k+1,q=>by
  rw [List.map_cons,Zgz,Zgz,Yo0 hn hn' hφ ho]
  have:tieP s (fun i=>q (φ i))=fun i=>(tieP (nameE φ s) q) (φ i):=rfl
  rw [this,Yo0 hn hn' hφ ho]
  rfl
theorem Yh1 {p:Nat→Nat}:∀ {l:List MSp},Lm p l=Lm p (l.filter fun s=>decide (p s.1≠p s.2.1))
 | []=>rfl
 | s::l=>by
  by_cases h:p s.1=p s.2.1
  ·rw [List.filter_cons_of_neg (by simp [h])]
   show up1 (Lm p l) s.2.2 (edge (p s.1) (p s.2.1))=_
   rw [h,Yep,Ys8]
   exact Yh1
  ·rw [List.filter_cons_of_pos (by simp [h])]
   show up1 (Lm p l) s.2.2 (edge (p s.1) (p s.2.1))=up1 (Lm p _) s.2.2 (edge (p s.1) (p s.2.1))
   rw [Yh1 (l:=l)]
theorem Ykx {n:Nat}(hn:0<n):Lab n id 0 (List.range' 1 (n - 1)):=by
 refine ⟨by rw [List.nodup_cons]; exact ⟨by rw [List.mem_range'_1]; omega,List.nodup_range'⟩,fun i hi=>?_,fun x hx=>?_⟩
 ·rcases Nat.eq_zero_or_pos i with h | h
  ·exact .inl h
  ·exact .inr (by rw [List.mem_range'_1]; simp only [id]; omega)
 ·refine ⟨x,?_,rfl⟩
  rcases List.mem_cons.1 hx with h | h
  ·omega
  ·rw [List.mem_range'_1] at h; omega
theorem Yvl {n:Nat}{l:List MSp}(hn:0<n) (hp:Pos l) (hl:InN n l):Fsum n id (n - 1) l=Fsum n id (n - 1) (l.filter fun s=>decide (s.1≠s.2.1)):=by
 have h1:=Zoj hp hl (Ykx hn)
 have h2:=Zoj (l:=l.filter fun s=>decide (s.1≠s.2.1)) (fun s hs=>hp s (List.mem_filter.1 hs).1) (fun s hs=>hl s (List.mem_filter.1 hs).1) (Ykx hn)
 rw [List.length_range'] at h1 h2
 rw [h1,h2,Yh1 (p:=id) (l:=l)]
 rfl
def oneN (low high i:Nat):Nat:=if i=high then low else if high<i then i - 1 else i
def oneL (low high:Nat) (l:List MSp):List MSp:=(l.map (nameE (oneN low high))).filter fun s=>decide (s.1≠s.2.1)
theorem Y53 {n low high:Nat}(h:low<high) (a b:Nat) (hab:(a=low∧b=high)∨(a=high∧b=low)) (w:Rat):Ker n (tieP (a,b,w) id) (oneN low high):=fun i j _ _=>by
 unfold tieP mrg oneN
 simp only [id]
 rcases hab with ⟨rfl,rfl⟩ | ⟨rfl,rfl⟩
 ·(repeat' split) <;> omega
 ·(repeat' split) <;> omega
theorem Y7g {n low high:Nat}{l:List MSp}{a b:Nat}{w:Rat}(hn:2≤n) (h:low<high) (hh:high<n) (hab:(a=low∧b=high)∨(a=high∧b=low)) (hp:Pos l) (hl:InN n l) (hw:0≤w) :
  Fsum n id (n - 1) (l ++ [(a,b,w)])=Fsum n id (n - 1) l+w*Fsum (n - 1) id (n - 2) (oneL low high l):=by
 have han:a<n∧b<n:=by omega
 obtain ⟨k,rfl⟩:∃ k,n=k+2:=⟨n - 2,by omega⟩
 have e1:k+2 - 1=k+1:=rfl
 have e2:k+2 - 2=k:=rfl
 rw [e1,e2,Zuj,Yb1, ← Zuj,Ysh han hl,Ya6 hl (Y53 (n:=k+2) h a b hab w)]
 have hφ:∀ i,i<k+2→oneN low high i<k+1:=fun i hi=>by
  unfold oneN; split
  ·omega
  ·split <;> omega
 have ho:∀ j,j<k+1→∃ i,i<k+2∧oneN low high i=j:=fun j hj=>by
  by_cases hj':j<high
  ·exact ⟨j,by omega,by unfold oneN; rw [if_neg (by omega),if_neg (by omega)]⟩
  ·exact ⟨j+1,by omega,by unfold oneN; rw [if_neg (by omega),if_pos (by omega)]; omega⟩
 have hname:=Yo0 (n:=k+2) (n':=k+1) (φ:=oneN low high) (by omega) (by omega) hφ ho (l:=l) (k:=k) (q:=id)
 have hid:(fun i=>id (oneN low high i))=oneN low high:=rfl
 rw [hid] at hname
 rw [hname, ← Zuj]
 have hl2:=Yvl (n:=k+1) (l:=l.map (nameE (oneN low high))) (by omega) (fun s hs=>by
  obtain ⟨t,ht,rfl⟩:=List.mem_map.1 hs; exact hp t ht) (fun s hs=>by
  obtain ⟨t,ht,rfl⟩:=List.mem_map.1 hs
  exact ⟨hφ _ (hl t ht).1,hφ _ (hl t ht).2⟩)
 have e3:k+1 - 1=k:=rfl
 rw [e3] at hl2
 rw [hl2]
 rfl
end GoAbs
namespace GoAbs
open Go Go.Proofs
structure NetL (n:Nat) (L:List Spr):Prop where
 len:L.length≤40
 ok:∀ s,s∈L→EndsOk n s.1 s.2.1∧∃ q,parseL s.2.2=some q∧0<q∧q.num.natAbs≤1000000∧q.den≤1000000∧s.2.2.length≤8002
theorem NetL.read {n:Nat}{L:List Spr}(h:NetL n L) (h2:2≤n) (h6:n≤6):readR (n:Int) L = .tup [.agg (netC n (L.map toE)),.int .i64 0]∧NetOk n (L.map toE):=by
 have a1:(L.all fun s=>(parseL s.2.2).isSome)=true:=List.all_eq_true.2 fun s hs=>by
  obtain ⟨_,q,hq,_⟩:=h.ok s hs
  simp [hq]
 have fit:∀ q:Rat,q.num.natAbs≤1000000→q.den≤1000000→Fitd 20 q:=fun q g1 g2 =>
  ⟨Nat.le_trans (Yi0 (k:=7) (by omega) (by omega)) (by omega),Nat.le_trans (Yi0 (k:=7) (by omega) (by omega)) (by omega)⟩
 have a2:(decide (2≤(n:Int)∧(n:Int)≤10∧L.length≤40) && L.all (sprOk n))=true:=by
  rw [Bool.and_eq_true_iff]
  refine ⟨decide_eq_true ⟨by omega,by omega,h.len⟩,List.all_eq_true.2 fun s hs=>?_⟩
  obtain ⟨he,q,hq,q0,q1,q2,_⟩:=h.ok s hs
  unfold sprOk
  rw [hq,Bool.and_eq_true_iff]
  exact ⟨decide_eq_true he,decide_eq_true ⟨q0,fit q q1 q2⟩⟩
 refine ⟨by unfold readR; rw [a1,a2,Int.toNat_natCast]; rfl,h2,fun e he=>?_⟩
 obtain ⟨s,hs,rfl⟩:=List.mem_map.1 he
 obtain ⟨⟨k1,k2,k3,k4,k5⟩,q,hq,q0,q1,q2,_⟩:=h.ok s hs
 have h3:(toE s).2.2=q:=by simp [toE,hq]
 rw [h3]
 exact ⟨by show s.1.toNat<_; omega,by show s.2.1.toNat<_; omega,by show s.1.toNat≠s.2.1.toNat; omega,q0,fit q q1 q2⟩
end GoAbs
