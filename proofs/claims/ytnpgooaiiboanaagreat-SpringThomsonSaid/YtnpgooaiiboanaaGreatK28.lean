/- Lemmas for the claim (contracts of the functions that it reaches, and what they compute), without conditions. -/
import Derived.Test.YtnpgooaiiboanaaGreatK27
import Derived.Test.YtnpgooaiiboanaaGreatProg
import Derived.KernelRfl
set_option linter.unusedVariables false
set_option linter.unusedSimpArgs false
set_option maxRecDepth 10000
set_option maxHeartbeats 2000000
namespace GoAbs
open Go Go.Proofs
def Z4v:List IOp := [oI 4 (.mv (cI 0)) 0]
def Z45:List IOp := [mI 5 0 0,mI 6 1 0,oI 7 (.bin .rem (.t 5) (.t 6)) 0,mI 8 1 0,oI 9 (.bin .add (.t 7) (.t 8)) 0,mI 10 1 0,oI 11 (.bin .rem (.t 9) (.t 10)) 0,mI 4 11 0]
def Yja:CC := .seq (.rg false Z4v) (.seq (.rg false Z45) .ret)
abbrev Yto:Nat:=37
theorem Yni:fnOk Tryz.prog 37=some (12,Yja,[.tmp 4]):=by kernel_rfl
def Yaw:List IOp := [oI 2 (.mv (.c (.str ⟨#[]⟩))) 0]
def Ya8:List IOp := [mI 6 0 0,oI 7 (.call 37 [.t 6,cI 12]) 0,oI 8 (.bin .add (.t 7) (cI 1)) 0,mI 9 0 0,oI 10 (.bin .quo (.t 9) (cI 12)) 0,oI 11 (.call 37 [.t 10,cI 4]) 0,oI 12 (.bin .add (.t 11) (cI 1)) 0,oI 13 (.call 84 [.t 8,.t 12]) 0,oI 14 (.call 39 [.t 13]) 0,mI 5 14 0,eI 15 0 5 0,eI 16 1 5 0,mI 3 15 0,mI 4 16 0]
def Yau:List IOp := [mI 17 3 0,mI 2 17 0]
def Yn8:CC := .seq (.rg false Yaw) (.seq (.rg false Ya8) (.seq (.rg false Yau) .ret))
abbrev Yxb:Nat:=38
theorem Yq5:fnOk Tryz.prog 38=some (18,Yn8,[.tmp 2]):=by kernel_rfl
def Z6i:List IOp := [oI 6 (.alloc [.int .i64 0,.nils]) 0]
def Z5g:List IOp := [mI 13 0 0,oI 14 (.cvi .i64 (.t 13)) 0,oI 15 (.bin .rem (.t 14) (cI 5)) 0,oI 16 (.bin .add (.t 15) (cI 2)) 0,oI 17 (.build [.int .i64 0,.nils] [(0,1,.t 16)]) 0,oI 7 (.alloc [.int .i64 0,.nils]) 0,⟨none,.st 2 (.t 7) (.t 17),1,[],[],none⟩]
def Z6u:List IOp := [oI 8 (.mv (cI 0)) 0]
def Zlq:List IOp := [mI 18 8 0,oI 19 (.bin .add (.t 18) (cI 1)) 0,fI 20 0 7 0,lI 21 20 0,oI 22 (.bin .lss (.t 19) (.t 21)) 0]
def Zut:List IOp := [oI 9 (.mv (cI 0)) 0]
def Zuv:List IOp := [mI 25 8 0,mI 26 2 0,oI 27 (.len (.t 26)) 0,oI 28 (.bin .lss (.t 25) (.t 27)) 0]
def Z6e:List IOp := [mI 29 2 0,mI 30 8 0,xI 31 1 29 30 0,lI 32 31 0,mI 9 32 0]
def Zk0:List IOp := [fI 33 1 7 0,lI 34 33 0,mI 35 8 0,mI 36 8 0,oI 37 (.bin .add (.t 36) (cI 1)) 0,mI 38 9 0,oI 39 (.call 38 [.t 38]) 0,oI 40 (.build [.int .i64 0,.int .i64 0,.str ⟨#[]⟩] [(0,1,.t 35),(1,1,.t 37),(2,1,.t 39)]) 0,oI 41 (.bsl (some 3) 1 [.int .i64 0,.int .i64 0,.str ⟨#[]⟩] [(0,.t 40)]) 0,⟨some 42,.app (some 3) 32 (.t 34) (.t 41),1,[0],[],none⟩,⟨some 43,.fa 1 (.t 7),2,[0,1],[],none⟩,⟨none,.st 1 (.t 43) (.t 42),2,[0,1],[],none⟩]
@[go_sem ↓] theorem Yci : autoK Zk0 = (2, 1) := by kernel_rfl
@[go_sem] theorem Yuq : autoK [fI 33 1 7 0, lI 34 33 0, mI 35 8 0, mI 36 8 0, oI 37 (.bin .add (.t 36) (cI 1)) 0, mI 38 9 0, oI 39 (.call 38 [.t 38]) 0, oI 40 (.build [.int .i64 0, .int .i64 0, .str ⟨#[]⟩] [(0, 1, .t 35), (1, 1, .t 37), (2, 1, .t 39)]) 0, oI 41 (.bsl (some 3) 1 [.int .i64 0, .int .i64 0, .str ⟨#[]⟩] [(0, .t 40)]) 0, ⟨some 42, .app (some 3) 32 (.t 34) (.t 41), 1, [0], [], none⟩, ⟨some 43, .fa 1 (.t 7), 2, [0, 1], [], none⟩, ⟨none, .st 1 (.t 43) (.t 42), 2, [0, 1], [], none⟩] = (2, 1) := Yci
def Zun:List IOp := [mI 23 8 0,oI 24 (.bin .add (.t 23) (cI 1)) 0,mI 8 24 0]
def Zu1:CC := .seq (.seq (.rg false Zlq) (.cond (.t 22) .skip (.exit 0))) (.seq (.block 1 (.seq (.rg false Zut) (.seq (.seq (.rg false Zuv) (.cond (.t 28) (.rg false Z6e) .skip)) (.rg true Zk0)))) (.rg false Zun))
def Z20:List IOp := [oI 10 (.mv (cI 0)) 0]
def Ze9:List IOp := [mI 44 10 0,mI 45 1 0,oI 46 (.len (.t 45)) 0,oI 47 (.bin .lss (.t 44) (.t 46)) 0,mI 48 47 0,gI 49 (.mv (.t 10)) 0 48 true,gI 50 (.bin .lss (.t 49) (cI 6)) 0 48 true,oI 51 (.pick (.t 48) (.t 50) (.c (.bool false))) 0]
def Zjb:List IOp := [mI 54 1 0,mI 55 10 0,xI 56 3 54 55 0,fI 57 0 56 0,lI 58 57 0,fI 59 0 7 0,lI 60 59 0,oI 61 (.call 37 [.t 58,.t 60]) 0,mI 62 1 0,mI 63 10 0,xI 64 3 62 63 0,fI 65 1 64 0,lI 66 65 0,fI 67 0 7 0,lI 68 67 0,oI 69 (.callw 37 [.t 66,.t 68]) 0,mI 11 61 0,mI 12 69 0]
@[go_sem ↓] theorem Ybq : autoK Zjb = (0, 0) := by kernel_rfl
@[go_sem] theorem Yub : autoK [mI 54 1 0, mI 55 10 0, xI 56 3 54 55 0, fI 57 0 56 0, lI 58 57 0, fI 59 0 7 0, lI 60 59 0, oI 61 (.call 37 [.t 58, .t 60]) 0, mI 62 1 0, mI 63 10 0, xI 64 3 62 63 0, fI 65 1 64 0, lI 66 65 0, fI 67 0 7 0, lI 68 67 0, oI 69 (.callw 37 [.t 66, .t 68]) 0, mI 11 61 0, mI 12 69 0] = (0, 0) := Ybq
def Zou:List IOp := [mI 70 11 0,mI 71 12 0,oI 72 (.bin .neq (.t 70) (.t 71)) 0]
def Zpk:List IOp := [fI 73 1 7 0,lI 74 73 0,mI 75 11 0,mI 76 12 0,mI 77 1 0,mI 78 10 0,xI 79 3 77 78 0,fI 80 0 79 0,lI 81 80 0,oI 82 (.bin .quo (.t 81) (cI 7)) 0,mI 83 1 0,mI 84 10 0,xI 85 3 83 84 0,fI 86 1 85 0,lI 87 86 0,oI 88 (.bin .add (.t 82) (.t 87)) 0,oI 89 (.call 38 [.t 88]) 0,oI 90 (.build [.int .i64 0,.int .i64 0,.str ⟨#[]⟩] [(0,1,.t 75),(1,1,.t 76),(2,1,.t 89)]) 0,oI 91 (.bsl (some 3) 1 [.int .i64 0,.int .i64 0,.str ⟨#[]⟩] [(0,.t 90)]) 0,⟨some 92,.app (some 3) 32 (.t 74) (.t 91),1,[0],[],none⟩,⟨some 93,.fa 1 (.t 7),2,[0,1],[],none⟩,⟨none,.st 1 (.t 93) (.t 92),2,[0,1],[],none⟩]
@[go_sem ↓] theorem Ya3 : autoK Zpk = (2, 1) := by kernel_rfl
@[go_sem] theorem Yt7 : autoK [fI 73 1 7 0, lI 74 73 0, mI 75 11 0, mI 76 12 0, mI 77 1 0, mI 78 10 0, xI 79 3 77 78 0, fI 80 0 79 0, lI 81 80 0, oI 82 (.bin .quo (.t 81) (cI 7)) 0, mI 83 1 0, mI 84 10 0, xI 85 3 83 84 0, fI 86 1 85 0, lI 87 86 0, oI 88 (.bin .add (.t 82) (.t 87)) 0, oI 89 (.call 38 [.t 88]) 0, oI 90 (.build [.int .i64 0, .int .i64 0, .str ⟨#[]⟩] [(0, 1, .t 75), (1, 1, .t 76), (2, 1, .t 89)]) 0, oI 91 (.bsl (some 3) 1 [.int .i64 0, .int .i64 0, .str ⟨#[]⟩] [(0, .t 90)]) 0, ⟨some 92, .app (some 3) 32 (.t 74) (.t 91), 1, [0], [], none⟩, ⟨some 93, .fa 1 (.t 7), 2, [0, 1], [], none⟩, ⟨none, .st 1 (.t 93) (.t 92), 2, [0, 1], [], none⟩] = (2, 1) := Ya3
def Zo7:List IOp := [mI 52 10 0,oI 53 (.bin .add (.t 52) (cI 1)) 0,mI 10 53 0]
def Zth:CC := .seq (.seq (.rg false Ze9) (.cond (.t 51) .skip (.exit 2))) (.seq (.block 3 (.seq (.rg true Zjb) (.seq (.rg false Zou) (.cond (.t 72) (.rg true Zpk) .skip)))) (.rg false Zo7))
def Z3n:List IOp := [lJ 94 2 7 0,⟨none,.st 2 (.t 6) (.t 94),0,[],[],none⟩]
def Yko:CC := .seq (.rg false Z6i) (.seq (.rg false Z5g) (.seq (.seq (.rg false Z6u) (.block 0 (.loop Zu1))) (.seq (.seq (.rg false Z20) (.block 2 (.loop Zth))) (.seq (.rg false Z3n) .ret))))
abbrev Ys5:Nat:=22
theorem Ynm:fnOk Tryz.prog 22=some (95,Yko,[.cell 6 (some 2)]):=by kernel_rfl
def Z5h:List IOp := [oI 3 (.box (.t 1)) 0,oI 4 (.mv (cI 0)) 1,oI 5 (.mv (cI 0)) 1]
def Z7b:List IOp := [fI 7 0 3 0,lI 8 7 0,mI 9 0 0,oI 10 (.call 37 [.t 8,.t 9]) 0,mI 6 10 0]
def Zsx:List IOp := [mI 11 6 0,mI 12 6 0,oI 13 (.bin .add (.t 12) (cI 1)) 0,fI 14 1 3 0,lI 15 14 0,mI 16 0 0,oI 17 (.bin .sub (.t 16) (cI 1)) 0,oI 18 (.call 37 [.t 15,.t 17]) 0,oI 19 (.bin .add (.t 13) (.t 18)) 0,mI 20 0 0,oI 21 (.bin .rem (.t 19) (.t 20)) 0,mI 4 11 0,mI 5 21 0]
@[go_sem ↓] theorem Ycs : autoK Zsx = (0, 0) := by kernel_rfl
@[go_sem] theorem Yxo : autoK [mI 11 6 0, mI 12 6 0, oI 13 (.bin .add (.t 12) (cI 1)) 0, fI 14 1 3 0, lI 15 14 0, mI 16 0 0, oI 17 (.bin .sub (.t 16) (cI 1)) 0, oI 18 (.call 37 [.t 15, .t 17]) 0, oI 19 (.bin .add (.t 13) (.t 18)) 0, mI 20 0 0, oI 21 (.bin .rem (.t 19) (.t 20)) 0, mI 4 11 0, mI 5 21 0] = (0, 0) := Ycs
def Yha:CC := .seq (.rg false Z5h) (.seq (.rg false Z7b) (.seq (.rg true Zsx) .ret))
abbrev Yt3:Nat:=30
theorem Ync:fnOk Tryz.prog 30=some (22,Yha,[.tmp 4,.tmp 5]):=by kernel_rfl
end GoAbs
namespace GoAbs
open Go Go.Proofs
theorem rover {a b:Int}:SpecV Tryz.prog Yrf [avZ a,avZ b] (if b<0 then avR (-a) (-b) else avR a b):=by
 have hm:Tryz.prog.follows .mixedOrders=true:=by kernel_rfl
 refine Zae Yla (by simp) ?_
 unfold Yj8
 have n1:=Yp4 (z:=a)
 have n2:=Yp4 (z:=b)
 rw [Zai,Zai] at n1 n2
 rw [Zai,Zai]
 by_cases h:b<0
 ·rw [if_pos h,Zau]
  simp only [go_sem,Zss,Zv5,Zs5,Zsq,h,decide_true,hm]
  simp only [h,decide_true] at n2
  refine Zaa n1 (by simp only [go_sem]) ?_
  simp only [go_sem]
  refine Zaa n2 (by simp only [go_sem]) ?_
  simp only [go_sem]
 ·rw [if_neg h,Zau]
  simp only [go_sem,Zss,Zv5,Zsq,h,decide_false]
theorem rsubq {n1 d1 n2 d2:Int}{k:Nat}(h1:Ib k n1) (h2:Ib k d1) (h3:Ib k n2) (h4:Ib k d2) (hk:k≤1000000):SpecV Tryz.prog Yrg [avR n1 d1,avR n2 d2] (avR (n1*d2 - n2*d1) (d1*d2)):=by
 have hm:Tryz.prog.follows .mixedOrders=true:=by kernel_rfl
 refine Zae Ymj (by simp) ?_
 unfold Yip
 have z1:=h1.zs (by omega)
 have z2:=h2.zs (by omega)
 have z3:=h3.zs (by omega)
 have z4:=h4.zs (by omega)
 have m1:=Znf z1 z4
 have m2:=Znf z3 z2
 have m3:=Znf z2 z4
 have m4:=Yox ((h1.mul h4).zs (by omega)) ((h3.mul h2).zs (by omega))
 rw [Zai,Zai,Zai] at m1 m2 m3 m4
 rw [Zau,Zau,Zau]
 simp only [go_sem,Z7f,Ztn,hm]
 refine Zaa m1 (by simp only [go_sem]) ?_
 simp only [go_sem]
 refine Zaa m2 (by simp only [go_sem]) ?_
 simp only [go_sem]
 refine Zaa m4 (by simp only [go_sem]) ?_
 simp only [go_sem]
 refine Zaa m3 (by simp only [go_sem]) ?_
 simp only [go_sem]
theorem rcmpq {n1 d1 n2 d2:Int}{k:Nat}(h1:Ib k n1) (h2:Ib k d1) (h3:Ib k n2) (h4:Ib k d2) (hk:k≤1000000):SpecV Tryz.prog Yek [avR n1 d1,avR n2 d2] (.int .i64 (if n1*d2=n2*d1 then 0 else if n1*d2<n2*d1 then -1 else 1)):=by
 have hm:Tryz.prog.follows .mixedOrders=true:=by kernel_rfl
 refine Zae Ym3 (by simp) ?_
 unfold Yjs
 have z1:=h1.zs (by omega)
 have z2:=h2.zs (by omega)
 have z3:=h3.zs (by omega)
 have z4:=h4.zs (by omega)
 have m1:=Znf z1 z4
 have m2:=Znf z3 z2
 have m4:=Ywx ((h1.mul h4).zs (by omega)) ((h3.mul h2).zs (by omega))
 rw [Zai,Zai,Zai] at m1 m2
 rw [Zai,Zai] at m4
 rw [Zau,Zau]
 simp only [go_sem,Z57,Zu7,hm]
 refine Zaa m1 (by simp only [go_sem]) ?_
 simp only [go_sem]
 refine Zaa m2 (by simp only [go_sem]) ?_
 simp only [go_sem]
 refine Zaa m4 (by simp only [go_sem]) ?_
 simp only [go_sem]
theorem rdivq {n1 d1 n2 d2:Int}{k:Nat}(h1:Ib k n1) (h2:Ib k d1) (h3:Ib k n2) (h4:Ib k d2) (hk:k≤1000000):SpecV Tryz.prog Ysm [avR n1 d1,avR n2 d2] (if d1*n2<0 then avR (-(n1*d2)) (-(d1*n2)) else avR (n1*d2) (d1*n2)):=by
 have hm:Tryz.prog.follows .mixedOrders=true:=by kernel_rfl
 refine Zae Yk0 (by simp) ?_
 unfold Yin
 have z1:=h1.zs (by omega)
 have z2:=h2.zs (by omega)
 have z3:=h3.zs (by omega)
 have z4:=h4.zs (by omega)
 have m1:=Znf z1 z4
 have m2:=Znf z2 z3
 have m3:=rover (a:=n1*d2) (b:=d1*n2)
 rw [Zai,Zai,Zai] at m1 m2
 rw [Zai,Zai] at m3
 rw [Zau,Zau]
 simp only [go_sem,Z44,Zuf,hm]
 refine Zaa m1 (by simp only [go_sem]) ?_
 simp only [go_sem]
 refine Zaa m2 (by simp only [go_sem]) ?_
 simp only [go_sem]
 by_cases h:d1*n2<0
 ·rw [if_pos h,Zau] at m3 ⊢
  refine Zaa m3 (by simp only [go_sem]) ?_
  simp only [go_sem]
 ·rw [if_neg h,Zau] at m3 ⊢
  refine Zaa m3 (by simp only [go_sem]) ?_
  simp only [go_sem]
theorem rmake {n d:Int}(hn:n.natAbs≤9223372036854775807) (hd:0<d) (hdl:d≤9223372036854775807):SpecV Tryz.prog Ytt [.int .i64 n,.int .i64 d] (avR (Rat.divInt n d).num (Rat.divInt n d).den):=by
 refine Zae Ymk (by simp) ?_
 unfold Yi2
 have i1:=Z5v (v:=n) (by omega)
 have i2:=Z5v (v:=d) (by omega)
 have o:=rover (a:=n) (b:=d)
 rw [if_neg (by omega)] at o
 have c:(9223372036854775808:Nat)=2 ^ 63:=by decide
 have l:=rlow (n:=n) (d:=d) (k:=63) (by unfold Ib; omega) (by unfold Ib; omega) hd (by omega)
 rw [Zai] at i1 i2
 rw [Zai,Zai,Zau] at o
 rw [Zau,Zau] at l
 rw [Zau]
 simp only [go_sem,Z6q,Z60]
 refine Zaa i1 (by simp only [go_sem]) ?_
 simp only [go_sem]
 refine Zaa i2 (by simp only [go_sem]) ?_
 simp only [go_sem]
 refine Zaa o (by simp only [go_sem]) ?_
 simp only [go_sem]
 refine Zaa l (by simp only [go_sem]) ?_
 simp only [go_sem]
end GoAbs
namespace GoAbs
open Go Go.Proofs
theorem Y8c {l:List UInt8}{lo hi n0:Nat}{b1 b2:Blk}(hlo:lo≤hi) (hh:hi≤lo+4) (hl:hi≤l.length) (hll:l.length≤4000) {K:Ex→St→Prop}
  (hbad:∀ e:Nat→AV,¬ AllD l→e 2 = .ptr 0 0→e 3 = .bool false→K .ret ⟨e,[.cells [.bool false,.nils],b1,b2]⟩)
  (hK:∀ e:Nat→AV,AllD ((l.take hi).drop lo)→e 0 = .str (bs l)→e 2 = .ptr 0 0→e 4 = .ptr 1 0→e 5 = .int .i64 (hi:Int)→e 6 = .int .i64 (numL ((l.take hi).drop lo):Int)→K (.exit 2) ⟨e,[.cells [.bool false,.nils],b1,b2]⟩) :
  T Tryz.prog 69 n0 (.loop Zmd) ⟨envL [(0,.str (bs l)),(2,.ptr 0 0),(4,.ptr 1 0),(5,.int .i64 (hi:Int)),(6,.int .i64 0),(7,.int .i64 (lo:Int))],[.cells [.bool false,.nils],b1,b2]⟩ K:=by
 refine Zag (fun i:Nat=>⟨envL [(0,.str (bs l)),(2,.ptr 0 0),(4,.ptr 1 0),(5,.int .i64 (hi:Int)),(6,.int .i64 (numL ((l.take i).drop lo):Int)),(7,.int .i64 (i:Int))],[.cells [.bool false,.nils],b1,b2]⟩)
  (fun i=>lo≤i∧i≤hi∧AllD ((l.take i).drop lo)) (fun i=>hi - i) lo
  ⟨Nat.le_refl _,hlo,fun c hc=>by rw [List.drop_eq_nil_of_le (by simp; omega)] at hc; simp at hc⟩ (Zab _ (by
   have:(l.take lo).drop lo = []:=List.drop_eq_nil_of_le (by simp; omega)
   simp only [go_sem,this,Zwh]; simp)) (fun i hI N hN=>?_)
 obtain ⟨h1,h2,h3⟩:=hI
 unfold Zmd
 by_cases hi':i<hi
 ·obtain ⟨c,gi⟩:∃ c,l[i]? = some c:=⟨_,List.getElem?_eq_getElem (show i<l.length by omega)⟩
  have p1:(i:Int)<(hi:Int):=by omega
  have p2:(0:Int)≤(i:Int):=by omega
  have e6:IntKind.i64.wrap ((i:Int)+1)=((i+1:Nat):Int):=by rw [Zac (by omega) (by omega)]; omega
  have hst:(l.take (i+1)).drop lo=(l.take i).drop lo ++ [c]:=by
   rw [List.take_add_one,gi]
   rw [List.drop_append_of_le_length (by simp; omega)]; rfl
  have hlt:numL ((l.take i).drop lo)<10 ^ 4:=by
   refine Nat.lt_of_lt_of_le (Zol h3) (Nat.pow_le_pow_right (by omega) ?_)
   simp; omega
  by_cases c1:c.toNat<48
  ·have q1:(c.toNat:Int)<48:=by omega
   have hnd:¬ AllD l:=fun h=>by have:=h c (List.mem_of_getElem? gi); unfold isDig at this; omega
   simp only [go_sem,Zd0,Zf2,Zj5,p1,p2,Zeu,gi,q1]
   exact hbad _ hnd (by simp only [go_sem]) (by simp only [go_sem])
  ·have q1:¬ (c.toNat:Int)<48:=by omega
   by_cases c2:57<c.toNat
   ·have q2:(57:Int)<(c.toNat:Int):=by omega
    have hnd:¬ AllD l:=fun h=>by have:=h c (List.mem_of_getElem? gi); unfold isDig at this; omega
    simp only [go_sem,Zd0,Zf2,Zj5,p1,p2,Zeu,gi,q1,q2]
    exact hbad _ hnd (by simp only [go_sem]) (by simp only [go_sem])
   ·have q2:¬ (57:Int)<(c.toNat:Int):=by omega
    have e1:IntKind.u8.wrap ((c.toNat:Int) - 48)=((c.toNat - 48:Nat):Int):=by rw [Y0u (by omega) (by omega)]; omega
    have e2:IntKind.i64.wrap ((c.toNat - 48:Nat):Int)=((c.toNat - 48:Nat):Int):=Zac (by omega) (by omega)
    have e3:IntKind.i64.wrap (10*((numL ((l.take i).drop lo):Nat):Int))=((10*numL ((l.take i).drop lo):Nat):Int):=by rw [Zac (by omega) (by omega)]; omega
    have e4:IntKind.i64.wrap (((10*numL ((l.take i).drop lo):Nat):Int)+((c.toNat - 48:Nat):Int))=((numL ((l.take (i+1)).drop lo):Nat):Int):=by
     rw [hst,Zsa,Zac (by omega) (by omega)]; omega
    simp only [go_sem,Zd0,Zf2,Zsy,Ztf,p1,p2,Zeu,gi,q1,q2,e1,e2,e3,e4,e6]
    refine hN (i+1) _ ⟨by omega,by omega,fun x hx=>?_⟩ (by omega) (Zab _ (by simp only [go_sem]))
    rw [hst] at hx
    rcases List.mem_append.1 hx with hx | hx
    ·exact h3 x hx
    ·simp at hx; subst hx; unfold isDig; omega
 ·have he:i=hi:=by omega
  subst he
  have p1:¬ (i:Int)<(i:Int):=by omega
  simp only [go_sem,Zd0,p1]
  exact hK _ h3 (by simp only [go_sem]) (by simp only [go_sem]) (by simp only [go_sem]) (by simp only [go_sem]) (by simp only [go_sem])
theorem Y6h {l:List UInt8}(hl0:l ≠ []) (hll:l.length≤4000) {K:Ex→St→Prop}
  (hbad:∀ (e:Nat→AV) (b1 b2:Blk),¬ AllD l→e 2 = .ptr 0 0→e 3 = .bool false→K .ret ⟨e,[.cells [.bool false,.nils],b1,b2]⟩)
  (hK:∀ (e:Nat→AV) (s:List Nat),AllD l→Od s→vd s=numL l→s.length≤4001→e 2 = .ptr 0 0→e 4 = .ptr 1 0→K (.exit 0) ⟨e,[.cells [.bool false,.nils],.cells [.bool false,.osl none 2 0 s.length],.cells (ic s)]⟩) :
  T Tryz.prog 69 0 (.loop Zgx) ⟨envL [(0,.str (bs l)),(2,.ptr 0 0),(4,.ptr 1 0),(5,.int .i64 (l.length:Int))],[.cells [.bool false,.nils],.cells [.bool false,.osl none 2 0 0],.cells []]⟩ K:=by
 refine Zag (fun s:List Nat=>⟨envL [(0,.str (bs l)),(2,.ptr 0 0),(4,.ptr 1 0),(5,.int .i64 ((l.length:Int) - 4*s.length))],[.cells [.bool false,.nils],.cells [.bool false,.osl none 2 0 s.length],.cells (ic s)]⟩)
  (fun s=>Od s∧4*s.length<l.length+4∧AllD (l.drop (l.length - 4*s.length))∧vd s=numL (l.drop (l.length - 4*s.length))) (fun s=>l.length+4 - 4*s.length) []
  ⟨fun x hx=>by simp at hx,by simp,fun c hc=>by simp at hc,by simp [vd,Zwh]⟩ (Zab _ (by simp only [go_sem]; simp)) (fun s hI N hN=>?_)
 obtain ⟨h1,h2,h3,h4⟩:=hI
 unfold Zgx
 by_cases hgo:4*s.length<l.length
 ·obtain ⟨hi,hhi⟩:∃ hi,hi=l.length - 4*s.length:=⟨_,rfl⟩
  obtain ⟨lo,hlo⟩:∃ lo,lo=hi - 4:=⟨_,rfl⟩
  have ehi:(l.length:Int) - 4*(s.length:Int)=(hi:Int):=by omega
  have p1:(0:Int)<(hi:Int):=by omega
  have e1:IntKind.i64.wrap ((hi:Int) - 4)=(hi:Int) - 4:=Zac (by omega) (by omega)
  have e2:(if (hi:Int) - 4 > 0 then (hi:Int) - 4 else 0)=(lo:Int):=by split <;> omega
  simp only [go_sem,Zmg,Zyj,Zxv,ehi,p1,e1]
  rw [← hhi] at h3 h4
  have hlo2:l.length - 4*(s.length+1)=lo:=by omega
  refine Za2 [(0,.str (bs l)),(2,.ptr 0 0),(4,.ptr 1 0),(5,.int .i64 (hi:Int)),(6,.int .i64 0),(7,.int .i64 (lo:Int))] (by simp only [go_sem,e2])
   (Y8c (by omega) (by omega) (by omega) hll (fun e hn k2 k3=>by simp only [go_sem]; exact hbad e _ _ hn k2 k3) (fun e g1 k0 k2 k4 k5 k6=>?_))
  have hsz:(s.length+1)*8≤1099511627776:=by omega
  have hfit:s.length≤(ic s).length:=by rw [Zar]; omega
  have htake:(ic s).take s.length=ic s:=List.take_of_length_le (by rw [Zar]; omega)
  have e3:(hi:Int) - 4=(l.length:Int) - 4*((s.length+1:Nat):Int):=by omega
  have hgl:((l.take hi).drop lo).length≤4:=by simp; omega
  have hsplit:l.drop lo=(l.take hi).drop lo++l.drop hi:=by
   have h:=List.take_append_drop hi l
   conv=>lhs; rw [← h]
   rw [List.drop_append_of_le_length (by simp; omega)]
  have hnum:numL (l.drop lo)=numL ((l.take hi).drop lo)*10000 ^ s.length+numL (l.drop hi):=by
   rw [hsplit,Zgo]
   have:(l.drop hi).length=4*s.length:=by rw [List.length_drop]; omega
   rw [this,Nat.pow_mul]
  have hd4:numL ((l.take hi).drop lo)<10000:=by
   have h1:=Zol g1
   have h2:10 ^ ((l.take hi).drop lo).length≤10 ^ 4:=Nat.pow_le_pow_right (by omega) hgl
   exact Nat.lt_of_lt_of_le h1 h2
  generalize numL ((l.take hi).drop lo)=d at *
  simp only [go_sem,Ztq,Zt0,k4,k5,k6,hsz,hfit,htake,e1]
  refine hN (s ++ [d]) _ ⟨h1.append (fun x hx=>by simp at hx; omega),by rw [List.length_append,List.length_singleton]; omega,?_,?_⟩ (by show _<_; rw [List.length_append,List.length_singleton]; omega) ?_
  ·rw [List.length_append,List.length_singleton,hlo2,hsplit]
   intro x hx
   rcases List.mem_append.1 hx with hx | hx
   ·exact g1 x hx
   ·exact h3 x hx
  ·rw [List.length_append,List.length_singleton,hlo2,hnum,Zki,h4]
   simp only [vd,Nat.mul_zero,Nat.add_zero]
   rw [Nat.mul_comm d]; omega
  ·refine Zdp (Zii [0,1,4] (by decide) (fun i hi=>by omega) [(0,.str (bs l)),(2,.ptr 0 0),(4,.ptr 1 0),(5,.int .i64 ((l.length:Int) - 4*((s.length+1:Nat):Int)))] (by simp only [go_sem,k0,k2,k4,e3])) ?_
   have h1:ic s ++ [AV.int .i64 (d:Int)]=ic (s ++ [d]):=by rw [Ybo]; rfl
   simp only [List.length_append,List.length_singleton]
   congr 1
   show [Blk.cells [.bool false,.nils],Blk.cells [.bool false,.osl none 2 0 (s.length+1)],Blk.cells (gcL _ (ic s ++ [AV.int .i64 (d:Int)]))]=_
   rw [h1,Y2v]
 ·have p1:¬ (0:Int)<(l.length:Int) - 4*(s.length:Int):=by omega
  have hz:l.length - 4*s.length=0:=by omega
  rw [hz,List.drop_zero] at h3 h4
  simp only [go_sem,Zmg,p1]
  exact hK _ s h3 h1 h4 (by omega) (by simp only [go_sem]) (by simp only [go_sem])
end GoAbs
namespace GoAbs
open Go Go.Proofs
def digR (l:List UInt8):AV:=if digOk l then .tup [avZ (numL l),.bool true] else .tup [.agg [.bool false,.nils],.bool false]
theorem rdigits {l:List UInt8}(hlen:l.length≤1000000000):SpecV Tryz.prog Yi4 [.str (bs l)] (digR l):=by
 refine Zbr Yfz (by simp) (Zen 1 rfl ?_)
 unfold Yaq
 have tail:∀ (e:Nat→AV),l ≠ []→l.length≤4000→¬ (l.head? = some 48∧1<l.length)→e 0 = .str (bs l)→e 2 = .ptr 0 0 →
   T Tryz.prog 69 0 (.seq (.rg false Zml) (.seq (.seq (.rg false Zmt) (.block 0 (.loop Zgx))) (.seq (.rg false Zkn) .ret))) ⟨e,[.cells [.bool false,.nils]]⟩ (retQ [.cell 2 (some 2),.tmp 3] (digR l)):=fun e h0 hl h48 k0 k2=>by
  refine Znw (T_W ?_)
  simp only [go_sem,Zml]
  refine Za2 [(0,.str (bs l)),(2,.ptr 0 0),(4,.ptr 1 0)] (by simp only [go_sem,k0,k2]) ?_
  refine T_le (Z76 (b:=1) (l := [.bool false,.nils]) (l' := [.bool false,.osl none 2 0 0]) rfl rfl (fun j x y hx hy=>?_)) (T_le Yil ?_)
  ·match j,hx,hy with
   | 0,hx,hy=>simp at hx hy; subst hx; subst hy; exact .inl rfl
   | 1,hx,hy=>simp at hx hy; subst hx; subst hy; exact .inr ⟨rfl,_,_,_,rfl⟩
   | j+2,hx,hy=>simp at hx
  refine Znw (Znw (T_W ?_))
  simp only [go_sem,Zmt,Zaq]
  refine Zsn ?_
  refine Za2 [(0,.str (bs l)),(2,.ptr 0 0),(4,.ptr 1 0),(5,.int .i64 (l.length:Int))] (by simp only [go_sem]) ?_
  refine Y6h h0 hl (fun e2 b1 b2 hn j2 j3=>?_) (fun e2 s g1 g2 g3 g4 j2 j4=>?_)
  ·have hr:digR l = .tup [.agg [.bool false,.nils],.bool false]:=by unfold digR; rw [if_neg (fun h=>hn h.1)]
   rw [hr]
   simp only [go_sem,j2,j3]
  ·have hr:digR l = .tup [avZ (numL l),.bool true]:=by unfold digR; rw [if_pos ⟨g1,h0,h48,hl⟩]
   rw [hr]
   have hln:=Zmu (m:=false) g2 (by omega)
   rw [g3] at hln
   simp only [Bool.false_eq_true,if_false] at hln
   rw [Zav] at hln ⊢
   simp only [go_sem]
   refine T_W ?_
   simp only [go_sem,Zkn,j2,j4]
   refine Zhl (ids := [2]) hln ?_ ?_
   ·simp only [go_sem]
    exact Yh4 (r:=s) rfl (by simp) rfl (by rw [List.drop_zero]; exact List.take_of_length_le (by simp [Zar]))
   simp only [go_sem,j2]
 have bad:¬ digOk l→digR l = .tup [.agg [.bool false,.nils],.bool false]:=fun h=>by unfold digR; rw [if_neg h]
 by_cases h0:l = []
 ·have q1:(l.length:Int)<1:=by rw [h0]; simp
  rw [bad (fun h=>h.2.1 h0)]
  simp only [go_sem,Zch,Zce,Zg0,Zaq,q1]
 ·have hpos:0<l.length:=List.length_pos_iff.2 h0
  have q1:¬ (l.length:Int)<1:=by omega
  obtain ⟨c,gi⟩:∃ c,l[0]? = some c:=⟨_,List.getElem?_eq_getElem hpos⟩
  have hhd:l.head? = some c:=by rw [List.head?_eq_getElem?]; exact gi
  by_cases h4:l.length≤4000
  ·have q2:¬ (4000:Int)<(l.length:Int):=by omega
   by_cases hc:c=48
   ·have hci:(c.toNat:Int)=48:=by rw [hc]; rfl
    by_cases h1:1<l.length
    ·have q3:(1:Int)<(l.length:Int):=by omega
     rw [bad (fun h=>h.2.2.1 ⟨by rw [hhd,hc],h1⟩)]
     simp only [go_sem,Zch,Zce,Zg0,Zaq,Zeu,gi,q1,q2,q3,hci]
    ·have q3:¬ (1:Int)<(l.length:Int):=by omega
     simp only [go_sem,Zch,Zce,Zaq,Zeu,gi,q1,q2,q3,hci]
     exact tail _ h0 h4 (fun h=>h1 h.2) (by simp only [go_sem]) (by simp only [go_sem])
   ·have hci:¬ (c.toNat:Int)=48:=fun h=>hc (UInt8.toNat_inj.1 (by have:(48:UInt8).toNat=48:=rfl; omega))
    simp only [go_sem,Zch,Zce,Zaq,Zeu,gi,q1,q2,hci]
    exact tail _ h0 h4 (fun h=>hc (by rw [hhd] at h; simpa using h.1)) (by simp only [go_sem]) (by simp only [go_sem])
  ·have q2:(4000:Int)<(l.length:Int):=by omega
   rw [bad (fun h=>h4 h.2.2.2)]
   simp only [go_sem,Zch,Zce,Zg0,Zaq,q1,q2]
end GoAbs
namespace GoAbs
open Go Go.Proofs
def befL (o:List UInt8):List UInt8:=o.takeWhile (· != 47)
def aftL (o:List UInt8):List UInt8:=(o.dropWhile (· != 47)).tail
theorem Yuo {o:List UInt8}{i:Nat}{c:UInt8}(h:o[i]? = some c):(befL (o.drop i))=if c=47 then [] else c::befL (o.drop (i+1)):=by
 obtain ⟨hi,he⟩:=List.getElem?_eq_some_iff.1 h
 rw [List.drop_eq_getElem_cons hi,he]
 unfold befL
 rw [List.takeWhile_cons]
 by_cases hc:c=47 <;> simp [hc]
theorem Yzq {o:List UInt8}{m:Bool}{n0:Nat}{H:Heap}(ho:o.length≤1000000000) {K:Ex→St→Prop}
  (hK:∀ e:Nat→AV,e 2 = .ptr 0 0→e 4 = .str (bs o)→e 5 = .bool m→e 6 = .int .i64 ((befL o).length:Int)→K (.exit 0) ⟨e,H⟩) :
  T Tryz.prog 98 n0 (.loop Zi5) ⟨envL [(2,.ptr 0 0),(4,.str (bs o)),(5,.bool m),(6,.int .i64 (o.length:Int)),(7,.int .i64 ((o.length:Int) - 1))],H⟩ K:=by
 refine Zag (fun i:Nat=>⟨envL [(2,.ptr 0 0),(4,.str (bs o)),(5,.bool m),(6,.int .i64 ((i+(befL (o.drop i)).length:Nat):Int)),(7,.int .i64 ((i:Int) - 1))],H⟩)
  (fun i=>i≤o.length) (fun i=>i) o.length (Nat.le_refl _) (Zab _ (by simp only [go_sem,List.drop_length]; simp [befL])) (fun i hi N hN=>?_)
 unfold Zi5
 cases i with
 | zero =>
  have q1:¬ (0:Int)≤((0:Nat):Int) - 1:=by omega
  simp only [go_sem,Zi2,q1]
  exact hK _ (by simp only [go_sem]) (by simp only [go_sem]) (by simp only [go_sem]) (by simp only [go_sem,List.drop_zero,Nat.zero_add])
 | succ j =>
  have e0:((j+1:Nat):Int) - 1=(j:Int):=by omega
  have q1:(0:Int)≤(j:Int):=by omega
  have e1:IntKind.i64.wrap ((j:Int) - 1)=(j:Int) - 1:=Zac (by omega) (by omega)
  obtain ⟨c,gi⟩:∃ c,o[j]? = some c:=⟨_,List.getElem?_eq_getElem (show j<o.length by omega)⟩
  have hb:=Yuo gi
  by_cases hc:c=47
  ·have hci:(c.toNat:Int)=47:=by rw [hc]; rfl
   rw [if_pos hc] at hb
   simp only [go_sem,Zi2,Zmk,Zx1,Zmn,e0,q1,Zeu,gi,hci,e1]
   refine hN j _ (by omega) (by omega) (Zab _ (by simp only [go_sem,hb]; try simp))
  ·have hci:¬ (c.toNat:Int)=47:=fun h=>hc (UInt8.toNat_inj.1 (by have:(47:UInt8).toNat=47:=rfl; omega))
   rw [if_neg hc] at hb
   simp only [go_sem,Zi2,Zmk,Zmn,e0,q1,Zeu,gi,hci,e1]
   refine hN j _ (by omega) (by omega) (Zab _ (by simp only [go_sem,hb,List.length_cons]; simp; try omega))
theorem Yeq (o:List UInt8):o.take (befL o).length=befL o:=by
 have h:=List.takeWhile_append_dropWhile (p:=(· != 47)) (l:=o)
 have h2:(o.takeWhile (· != 47)++o.dropWhile (· != 47)).take (befL o).length=befL o:=List.take_left' rfl
 rwa [h] at h2
theorem Yod (o:List UInt8):(befL o).length<o.length↔47∈o:=by
 have h:=List.takeWhile_append_dropWhile (p:=(· != 47)) (l:=o)
 have hl:=congrArg List.length h
 rw [List.length_append] at hl
 have key:(o.dropWhile (· != 47)) = []↔¬ 47∈o:=by
  clear h hl
  induction o with
  | nil=>simp
  | cons x o ih =>
   rw [List.dropWhile_cons]
   by_cases hx:x=47
   ·subst hx; simp
   ·have hx':¬ 47=x:=fun e=>hx e.symm
    simp [hx,hx',ih]
 unfold befL
 constructor
 ·intro h1
  by_cases h2:47∈o
  ·exact h2
  ·rw [key.2 h2] at hl; simp at hl; omega
 ·intro h1
  have:(o.dropWhile (· != 47)) ≠ []:=fun e=>key.1 e h1
  have:=List.length_pos_iff.2 this
  omega
theorem Yex (o:List UInt8):o.drop ((befL o).length+1)=aftL o:=by
 have h:=List.takeWhile_append_dropWhile (p:=(· != 47)) (l:=o)
 rw [← List.drop_drop]
 have:o.drop (befL o).length=o.dropWhile (· != 47):=by
  have h2:(o.takeWhile (· != 47)++o.dropWhile (· != 47)).drop (befL o).length=o.dropWhile (· != 47):=List.drop_left' rfl
  rwa [h] at h2
 rw [this]
 unfold aftL
 rw [List.drop_one]
end GoAbs
namespace GoAbs
open Go Go.Proofs
def badR:AV := .tup [.agg [.bool false,.nils,.bool false,.nils],.bool false]
def digC (l:List UInt8):List AV:=if digOk l then [.bool false,.sl (ic (dg (numL l)))] else [.bool false,.nils]
theorem Yxt (l:List UInt8):digR l = .tup [.agg (digC l),.bool (decide (digOk l))]:=by
 unfold digR digC
 by_cases h:digOk l
 ·rw [if_pos h,if_pos h,Zav]; simp [h]
 ·rw [if_neg h,if_neg h]; simp [h]
theorem Ydm {e:Nat→AV}{a:List UInt8}{m:Bool}{D:Nat}{rest:Heap}(e2:e 2 = .ptr 0 0) (e5:e 5 = .bool m) (e8:e 8 = .ptr 1 0) (e9:e 9 = .bool (decide (digOk a))) (e10:e 10 = .ptr 2 0) :
  T Tryz.prog 98 0 (.seq (.seq (.rg false Zbg) (.cond (.t 90) (.seq (.rg false Zca) .ret) .skip)) (.seq (.seq (.rg false Zcb) (.cond (.t 92) (.rg false Zdq) .skip)) (.seq (.rg false Zcd) .ret)))
   ⟨e,.cells [.bool false,.nils,.bool false,.nils] :: .cells (digC a) :: .cells [.bool false,.sl (ic (dg D))]::rest⟩
   (retQ [.cell 2 (some 4),.tmp 3] (if digOk a∧¬ (m=true∧numL a=0) then .tup [avR (if m then -(numL a:Int) else numL a) (D:Int),.bool true] else badR)):=by
 refine T_W ?_
 have hz2:([AV.bool false,.nils]:List AV).length=2:=rfl
 by_cases hA:digOk a
 ·have hc:digC a = [.bool false,.sl (ic (dg (numL a)))]:=by unfold digC; rw [if_pos hA]
  have hd:decide (digOk a)=true:=by simp [hA]
  rw [hc]
  cases m with
  | false =>
   have hr:(if digOk a∧¬ (false=true∧numL a=0) then AV.tup [avR (if false=true then -(numL a:Int) else numL a) (D:Int),.bool true] else badR) = .tup [.agg [.bool false,.sl (ic (dg (numL a))),.bool false,.sl (ic (dg D))],.bool true]:=by
    rw [if_pos ⟨hA,by simp⟩,Zau]; simp
   rw [hr]
   simp only [go_sem,Zbg,Zcb,Zcd,e2,e5,e8,e9,e10,hd,Bool.not_true,Bool.not_false]
  | true =>
   by_cases h0:numL a=0
   ·have hr:(if digOk a∧¬ (true=true∧numL a=0) then AV.tup [avR (if true=true then -(numL a:Int) else numL a) (D:Int),.bool true] else badR)=badR:=if_neg (fun h=>h.2 ⟨rfl,h0⟩)
    rw [hr]
    have hl:(((dg (numL a)).length:Nat):Int)=0:=by rw [h0,Zb1]; rfl
    unfold badR
    simp only [go_sem,Zbg,Zca,e2,e5,e8,e9,e10,hd,Bool.not_true,Bool.not_false,Zar,hl]
   ·have hr:(if digOk a∧¬ (true=true∧numL a=0) then AV.tup [avR (if true=true then -(numL a:Int) else numL a) (D:Int),.bool true] else badR) = .tup [.agg [.bool (decide (-(numL a:Int)<0)),.sl (ic (dg (-(numL a:Int)).natAbs)),.bool false,.sl (ic (dg D))],.bool true]:=by
     rw [if_pos ⟨hA,fun h=>h0 h.2⟩,Zau]; simp
    rw [hr]
    have hl:¬ (((dg (numL a)).length:Nat):Int)=0:=by have:=(Zey (n:=numL a)).2 h0; omega
    have hn:=Yp4 (z:=(numL a:Int))
    rw [Zav,Zai] at hn
    simp only [go_sem,Zbg,Zcb,Zdq,e2,e5,e8,e9,e10,hd,Bool.not_true,Bool.not_false,Zar,hl]
    refine Zaa hn (by simp only [go_sem]) ?_
    simp only [go_sem,Zcd,e2,e8,e10]
 ·have hc:digC a = [.bool false,.nils]:=by unfold digC; rw [if_neg hA]
  have hd:decide (digOk a)=false:=by simp [hA]
  rw [hc,if_neg (fun h=>hA h.1)]
  unfold badR
  simp only [go_sem,Zbg,Zca,e2,e5,e8,e9,e10,hd,Bool.not_true,Bool.not_false]
end GoAbs
namespace GoAbs
open Go Go.Proofs
def slashOk (o:List UInt8):Prop:=digOk (aftL o)∧2≤numL (aftL o)∧Nat.gcd (if digOk (befL o) then numL (befL o) else 0) (numL (aftL o))=1
instance (o:List UInt8):Decidable (slashOk o):=by unfold slashOk; infer_instance
def midR (o:List UInt8) (m:Bool):AV :=
 if 47∈o→slashOk o then (if digOk (befL o)∧¬ (m=true∧numL (befL o)=0) then .tup [avR (if m then -(numL (befL o):Int) else numL (befL o)) ((if 47∈o then numL (aftL o) else 1:Nat):Int),.bool true] else badR) else badR
theorem Y2o {H:Heap}{a:List UInt8}:BVs H [] (digC a) [.bool false,.sl (ic (dg (if digOk a then numL a else 0)))]:=by
 unfold digC
 by_cases h:digOk a
 ·rw [if_pos h,if_pos h]; simp only [go_sem]
 ·rw [if_neg h,if_neg h,Zb1,Ypz]; simp only [go_sem]
theorem Ygj {a:List UInt8}:(digC a).length=2:=by unfold digC; split <;> rfl
theorem Yqa {l:List UInt8}(h:digOk l):lenD (numL l)≤4000:=by
 refine Zo4 (Nat.lt_of_lt_of_le (Zol h.1) ?_)
 exact Nat.le_trans (Nat.pow_le_pow_right (by omega) h.2.2.2) (Nat.pow_le_pow_left (show 10≤10000 by decide) 4000)
theorem Ytc {e:Nat→AV}{o:List UInt8}{m:Bool}(ho:o.length≤1000000000) (e2:e 2 = .ptr 0 0) (e4:e 4 = .str (bs o)) (e5:e 5 = .bool m) (e6:e 6 = .int .i64 ((befL o).length:Int)) :
  T Tryz.prog 98 0 (.seq (.rg false Zg3) (.seq (.rg false Zg7) (.seq (.seq (.rg false Zg8) (.cond (.t 53) (.seq (.rg false Zgy) (.seq (.seq (.rg true Zci) (.cond (.t 77) (.seq (.rg false Zcg) .ret) .skip)) (.rg false Zg2))) .skip))
   (.seq (.seq (.rg false Zbg) (.cond (.t 90) (.seq (.rg false Zca) .ret) .skip)) (.seq (.seq (.rg false Zcb) (.cond (.t 92) (.rg false Zdq) .skip)) (.seq (.rg false Zcd) .ret))))))
   ⟨e,[.cells [.bool false,.nils,.bool false,.nils]]⟩ (retQ [.cell 2 (some 4),.tmp 3] (midR o m)):=by
 have hm:Tryz.prog.follows .mixedOrders=true:=by kernel_rfl
 refine Zen 2 rfl ?_
 have hbl:(befL o).length≤o.length:=by
  have:=congrArg List.length (Yeq o)
  rw [List.length_take] at this
  omega
 have p0:(0:Int)≤((befL o).length:Int):=by omega
 have hdA:=rdigits (l:=befL o) (by omega)
 rw [Yxt] at hdA
 have hdB:=rdigits (l:=aftL o) (by rw [← Yex,List.length_drop]; omega)
 rw [Yxt] at hdB
 have i1:SpecV Tryz.prog Ybu [.int .i64 1] (.agg [.bool false,.sl (ic (dg 1))]):=by
  have:=Z5v (v:=1) (by decide)
  rwa [show avZ 1 = .agg [.bool false,.sl (ic (dg 1))] from Zav (m:=1)] at this
 have i2:SpecV Tryz.prog Ybu [.int .i64 2] (.agg [.bool false,.sl (ic (dg 2))]):=by
  have:=Z5v (v:=2) (by decide)
  rwa [show avZ 2 = .agg [.bool false,.sl (ic (dg 2))] from Zav (m:=2)] at this
 have htk:o.take (befL o).length=befL o:=Yeq o
 have d2:(digC (befL o)).drop 2 = []:=List.drop_eq_nil_of_le (by rw [Ygj]; omega)
 have dl:=Ygj (a:=befL o)
 simp only [go_sem,Zg3,Zg7,Zg8,e2,e4,e5,e6,Zaq,Zep,htk,p0,hbl,List.drop_zero]
 refine ⟨by omega,?_⟩
 refine Zaa hdA (by simp only [go_sem]) ?_
 simp only [go_sem,dl,d2]
 refine Zaa i1 (by simp only [go_sem]) ?_
 by_cases h47:47∈o
 ·have q1:((befL o).length:Int)<(o.length:Int):=by have:=(Yod o).2 h47; omega
  have e1:IntKind.i64.wrap (((befL o).length:Int)+1)=(((befL o).length+1:Nat):Int):=by rw [Zac (by omega) (by omega)]; omega
  have p1:(0:Int)≤(((befL o).length+1:Nat):Int):=by omega
  have hle:(befL o).length+1≤o.length:=by omega
  have hdr:(o.take o.length).drop ((befL o).length+1)=aftL o:=by rw [List.take_length]; exact Yex o
  have hmid:midR o m=if slashOk o then (if digOk (befL o)∧¬ (m=true∧numL (befL o)=0) then .tup [avR (if m then -(numL (befL o):Int) else numL (befL o)) (numL (aftL o):Int),.bool true] else badR) else badR:=by
   unfold midR
   simp only [h47,if_true,true_implies]
  have db:=Ygj (a:=aftL o)
  have d2b:(digC (aftL o)).drop 2 = []:=List.drop_eq_nil_of_le (by omega)
  have t2b:(digC (aftL o)).take 2=digC (aftL o):=List.take_of_length_le (by omega)
  have t2a:(digC (befL o)).take 2=digC (befL o):=List.take_of_length_le (by omega)
  have l2a:2≤(digC (befL o)).length:=by omega
  have l2b:2≤(digC (aftL o)).length:=by omega
  simp only [go_sem,e2,e4,e5,e6,Zaq,Zep,q1,Zgy,e1,p1,hle,hdr]
  refine ⟨Nat.le_refl _,?_⟩
  refine Zaa hdB (by simp only [go_sem]) ?_
  by_cases hB:digOk (aftL o)
  ·have hd:decide (digOk (aftL o))=true:=by simp [hB]
   have hcB:digC (aftL o) = [.bool false,.sl (ic (dg (numL (aftL o))))]:=by unfold digC; rw [if_pos hB]
   have lB:=Yqa hB
   rw [hcB] at db d2b t2b l2b ⊢
   rw [hd]
   simp only [go_sem,db,d2b,Zci,hm,Bool.not_true]
   refine Zaa i2 (by simp only [go_sem]) ?_
   simp only [go_sem]
   have hc2:=Ywx (a:=(numL (aftL o):Int)) (b:=2) (by rw [Int.natAbs_natCast]; unfold Zs; omega) (by have:lenD 2≤1:=Zwk (by omega); show lenD 2≤_; omega)
   rw [Zav,show avZ 2 = .agg [.bool false,.sl (ic (dg 2))] from Zav (m:=2)] at hc2
   refine Zaa hc2 (by simp only [go_sem]) ?_
   by_cases hD2:2≤numL (aftL o)
   ·have hlt:¬ (if (numL (aftL o):Int)=2 then (0:Int) else if (numL (aftL o):Int)<2 then -1 else 1)<0:=by split <;> (try split) <;> omega
    obtain ⟨N',hN'⟩:∃ N',N'=(if digOk (befL o) then numL (befL o) else 0):=⟨_,rfl⟩
    have lN:lenD N'≤10000000:=by
     rw [hN']; split
     ·rename_i h; have:=Yqa h; omega
     ·show (dg 0).length≤_; rw [Zb1]; simp
    have hgcd:=Y41 (a:=(N':Int)) (b:=(numL (aftL o):Int)) (by rw [Int.natAbs_natCast]; exact lN) (by rw [Int.natAbs_natCast]; omega)
    have hgn:Int.gcd (N':Int) (numL (aftL o):Int)=Nat.gcd N' (numL (aftL o)):=rfl
    rw [hgn,Zav,Zav,Zav] at hgcd
    have lg:lenD (Nat.gcd N' (numL (aftL o)))≤4000:=Nat.le_trans (Za6 (Nat.le_of_dvd (by omega) (Nat.gcd_dvd_right _ _))) lB
    have hc1:=Ywx (a:=(Nat.gcd N' (numL (aftL o)):Int)) (b:=1) (by rw [Int.natAbs_natCast]; unfold Zs; omega) (by have:lenD 1≤1:=Zwk (by omega); show lenD 1≤_; omega)
    rw [Zav,show avZ 1 = .agg [.bool false,.sl (ic (dg 1))] from Zav (m:=1)] at hc1
    have bvA:=fun (H:Heap)=>Y2o (H:=H) (a:=befL o)
    rw [← hN'] at bvA
    simp only [go_sem,hlt,l2a,t2a]
    refine Zlk (ids := []) hgcd (by simp only [go_sem]; exact bvA _) (.inl rfl) (fun b hb=>by simp at hb) ?_
    simp only [go_sem]
    refine Zaa i1 (by simp only [go_sem]) ?_
    simp only [go_sem]
    refine Zaa hc1 (by simp only [go_sem]) ?_
    by_cases hg:Nat.gcd N' (numL (aftL o))=1
    ·have hne:(if ((Nat.gcd N' (numL (aftL o)):Nat):Int)=1 then (0:Int) else if ((Nat.gcd N' (numL (aftL o)):Nat):Int)<1 then -1 else 1)=0:=if_pos (by omega)
     have hso:slashOk o:=⟨hB,hD2,by rw [← hN']; exact hg⟩
     rw [hmid,if_pos hso]
     simp only [go_sem,hne,Zg2]
     exact Ydm (by simp only [go_sem,e2]) (by simp only [go_sem,e5]) (by simp only [go_sem]) (by simp only [go_sem]) (by simp only [go_sem])
    ·have hne:¬ (if ((Nat.gcd N' (numL (aftL o)):Nat):Int)=1 then (0:Int) else if ((Nat.gcd N' (numL (aftL o)):Nat):Int)<1 then -1 else 1)=0:=by
      rw [if_neg (by omega)]; split <;> omega
     have hso:¬ slashOk o:=fun h=>hg (by rw [hN']; exact h.2.2)
     rw [hmid,if_neg hso]
     unfold badR
     simp only [go_sem,hne,Zcg,e2]
   ·have hlt:(if (numL (aftL o):Int)=2 then (0:Int) else if (numL (aftL o):Int)<2 then -1 else 1)<0:=by rw [if_neg (by omega),if_pos (by omega)]; omega
    have hso:¬ slashOk o:=fun h=>hD2 h.2.1
    rw [hmid,if_neg hso]
    unfold badR
    simp only [go_sem,hlt,Zcg,e2]
  ·have hd:decide (digOk (aftL o))=false:=by simp [hB]
   have hso:¬ slashOk o:=fun h=>hB h.1
   rw [hd,hmid,if_neg hso]
   unfold badR
   simp only [go_sem,db,d2b,Zci,Zcg,hm,Bool.not_false,e2]
 ·have q1:¬ ((befL o).length:Int)<(o.length:Int):=fun h=>h47 ((Yod o).1 (by omega))
  have hmid:midR o m=if digOk (befL o)∧¬ (m=true∧numL (befL o)=0) then .tup [avR (if m then -(numL (befL o):Int) else numL (befL o)) ((1:Nat):Int),.bool true] else badR:=by
   unfold midR
   simp only [h47,if_false,false_implies,if_true]
  rw [hmid]
  simp only [go_sem,e2,e4,e5,e6,Zaq,q1]
  exact Ydm (D:=1) (rest := []) (by simp only [go_sem,e2]) (by simp only [go_sem,e5]) (by simp only [go_sem]) (by simp only [go_sem]) (by simp only [go_sem])
end GoAbs
namespace GoAbs
open Go Go.Proofs
def refP (l:List UInt8):AV:=if 8002<l.length then badR else midR (signL l).1 (signL l).2
theorem Yqu {l:List UInt8}(hlen:l.length≤1000000000):SpecV Tryz.prog Ybl [.str (bs l)] (refP l):=by
 refine Zbr Yh1 (by simp) (Zen 4 rfl ?_)
 unfold Ydt
 by_cases hbig:8002<l.length
 ·have q1:(8002:Int)<(l.length:Int):=by omega
  unfold refP
  rw [if_pos hbig]
  unfold badR
  simp only [go_sem,Ze2,Zfb,Zfa,Z1v,Zaq,q1]
 ·have q1:¬ (8002:Int)<(l.length:Int):=by omega
  unfold refP
  rw [if_neg hbig]
  have tail:∀ (e:Nat→AV) (o:List UInt8) (m:Bool),o.length≤1000000000→e 2 = .ptr 0 0→e 4 = .str (bs o)→e 5 = .bool m→e 6 = .int .i64 (o.length:Int) →
    T Tryz.prog 98 0 (.seq (.seq (.rg false Zoj) (.block 0 (.loop Zi5))) (.seq (.rg false Zg3) (.seq (.rg false Zg7) (.seq (.seq (.rg false Zg8) (.cond (.t 53) (.seq (.rg false Zgy) (.seq (.seq (.rg true Zci) (.cond (.t 77) (.seq (.rg false Zcg) .ret) .skip)) (.rg false Zg2))) .skip))
     (.seq (.seq (.rg false Zbg) (.cond (.t 90) (.seq (.rg false Zca) .ret) .skip)) (.seq (.seq (.rg false Zcb) (.cond (.t 92) (.rg false Zdq) .skip)) (.seq (.rg false Zcd) .ret)))))))
     ⟨e,[.cells [.bool false,.nils,.bool false,.nils]]⟩ (retQ [.cell 2 (some 4),.tmp 3] (midR o m)):=fun e o m ho k2 k4 k5 k6=>by
   have e1:IntKind.i64.wrap ((o.length:Int) - 1)=(o.length:Int) - 1:=Zac (by omega) (by omega)
   refine Znw (Znw (T_W ?_))
   simp only [go_sem,Zoj,k4,Zaq,e1]
   refine Zsn ?_
   refine Za2 [(2,.ptr 0 0),(4,.str (bs o)),(5,.bool m),(6,.int .i64 (o.length:Int)),(7,.int .i64 ((o.length:Int) - 1))] (by simp only [go_sem,k2,k4,k5,k6]) ?_
   refine Yzq ho (fun e2 j2 j4 j5 j6=>?_)
   simp only [go_sem]
   exact Ytc ho j2 j4 j5 j6
  by_cases hpos:0<l.length
  ·have q2:(0:Int)<(l.length:Int):=by omega
   obtain ⟨c,gi⟩:∃ c,l[0]? = some c:=⟨_,List.getElem?_eq_getElem hpos⟩
   have hhd:l.head? = some c:=by rw [List.head?_eq_getElem?]; exact gi
   by_cases hc:c=45
   ·have hci:(c.toNat:Int)=45:=by rw [hc]; rfl
    have hs:signL l=(l.tail,true):=by unfold signL; rw [if_pos (by rw [hhd,hc])]
    have h1:1≤l.length:=hpos
    have hdr:(l.take l.length).drop 1=l.tail:=by rw [List.take_length,List.drop_one]
    rw [hs]
    simp only [go_sem,Ze2,Zfb,Zfa,Zi9,Z1b,Zi4,Zaq,Zeu,Zep,q1,q2,gi,hci,h1,hdr]
    refine ⟨Nat.le_refl _,?_⟩
    exact tail _ l.tail true (by rw [List.length_tail]; omega) (by simp only [go_sem]) (by simp only [go_sem]) (by simp only [go_sem]) (by simp only [go_sem])
   ·have hci:¬ (c.toNat:Int)=45:=fun h=>hc (UInt8.toNat_inj.1 (by have:(45:UInt8).toNat=45:=rfl; omega))
    have hs:signL l=(l,false):=by unfold signL; rw [if_neg (by rw [hhd]; simpa using hc)]
    rw [hs]
    simp only [go_sem,Ze2,Zfb,Zfa,Zi9,Zi4,Zaq,Zeu,q1,q2,gi,hci]
    exact tail _ l false hlen (by simp only [go_sem]) (by simp only [go_sem]) (by simp only [go_sem]) (by simp only [go_sem])
  ·have q2:¬ (0:Int)<(l.length:Int):=by omega
   have hs:signL l=(l,false):=by
    have:l = []:=List.length_eq_zero_iff.1 (by omega)
    subst this; rfl
   rw [hs]
   simp only [go_sem,Ze2,Zfb,Zfa,Zi9,Zi4,Zaq,q1,q2]
   exact tail _ l false hlen (by simp only [go_sem]) (by simp only [go_sem]) (by simp only [go_sem]) (by simp only [go_sem])
end GoAbs
namespace GoAbs
open Go Go.Proofs
theorem Yvn {o:List UInt8}(h:47 ∉ o):befL o=o:=by
 have h1:=Yeq o
 have h2:¬ (befL o).length<o.length:=fun h3=>h ((Yod o).1 h3)
 rw [List.take_of_length_le (by omega)] at h1
 exact h1.symm
theorem Yw6 (l:List UInt8):(cutL l).1=befL l:=by
 unfold cutL
 split
 ·rfl
 ·rename_i h; exact (Yvn h).symm
theorem Yew (l:List UInt8):(cutL l).2.2=decide (47∈l):=by
 unfold cutL
 split
 ·rename_i h; simp [h]
 ·rename_i h; simp [h]
theorem Yx2 {l:List UInt8}(h:47∈l):(cutL l).2.1=aftL l:=by
 unfold cutL
 rw [if_pos h]; rfl
theorem Y11 (l:List UInt8):signL (befL l)=(befL (signL l).1,(signL l).2)∧(47∈l↔47∈(signL l).1)∧aftL l=aftL (signL l).1:=by
 cases l with
 | nil=>exact ⟨rfl,Iff.rfl,rfl⟩
 | cons c r =>
  by_cases hc:c=45
  ·subst hc
   have hs:signL (45::r)=(r,true):=rfl
   have hb:befL (45::r)=45::befL r:=by unfold befL; rw [List.takeWhile_cons]; rfl
   rw [hs,hb]
   refine ⟨rfl,by simp,?_⟩
   unfold aftL
   rw [List.dropWhile_cons]; rfl
  ·have hs:signL (c::r)=(c::r,false):=by unfold signL; rw [if_neg (by simpa using hc)]
   rw [hs]
   refine ⟨?_,Iff.rfl,rfl⟩
   by_cases h47:c=47
   ·subst h47; rfl
   ·have hb:befL (c::r)=c::befL r:=by unfold befL; rw [List.takeWhile_cons]; simp [h47]
    rw [hb]
    unfold signL
    rw [if_neg (by simpa using hc)]
theorem Yim {n:Int}{d:Nat}(hd:0<d) (hg:Int.gcd n d=1):(Rat.divInt n d).num=n∧(Rat.divInt n d).den=d:=by
 have hg':Int.gcd (d:Int) n=1:=by rw [Int.gcd_comm]; exact hg
 refine ⟨?_,?_⟩
 ·rw [Rat.num_divInt,hg',Int.sign_eq_one_of_pos (by omega)]; simp
 ·rw [Rat.den_divInt,if_neg (by omega),hg']; simp
theorem Yui {o:List UInt8}(h:47∈o):o.length=(befL o).length+1+(aftL o).length:=by
 have h1:=(Yod o).2 h
 have h2:=congrArg List.length (Yex o)
 rw [List.length_drop] at h2
 omega
theorem Y5k (l:List UInt8):refP l=match parseL l with | some q => .tup [avR q.num q.den,.bool true] | none=>badR:=by
 obtain ⟨s1,s2,s3⟩:=Y11 l
 have hll:l.length≤(signL l).1.length+1:=by unfold signL; split <;> simp <;> omega
 have hp1:(partsL l).1=if (signL l).2 then -(numL (befL (signL l).1):Int) else numL (befL (signL l).1):=by unfold partsL; rw [Yw6,s1]
 have hp2:(partsL l).2.1=if 47∈(signL l).1 then numL (aftL (signL l).1) else 1:=by
  unfold partsL
  simp only [Yew,decide_eq_true_eq,s2]
  by_cases h:47∈(signL l).1
  ·rw [if_pos h,if_pos h,Yx2 (s2.2 h),s3]
  ·rw [if_neg h,if_neg h]
 have hp3:((partsL l).2.2=true)↔47∈(signL l).1:=by unfold partsL; simp only [Yew,decide_eq_true_eq,s2]
 have hform:formL l↔(digOk (befL (signL l).1)∧(47∈(signL l).1→digOk (aftL (signL l).1)∧1<numL (aftL (signL l).1))∧¬ ((signL l).2=true∧numL (befL (signL l).1)=0)):=by
  unfold formL
  rw [Yw6,s1,Yew]
  simp only [decide_eq_true_eq,s2]
  by_cases h:47∈(signL l).1
  ·rw [Yx2 (s2.2 h),s3]
  ·simp [h]
 unfold parseL
 rw [hp1,hp2]
 simp only [hform,hp3]
 unfold refP midR
 have hs':(signL l).1=(signL l).1:=rfl
 by_cases hA:digOk (befL (signL l).1)
 ·by_cases hM:(signL l).2=true∧numL (befL (signL l).1)=0
  ·simp only [hM,and_true,not_true,and_false,false_and,if_false,ite_self]
  ·have hcond:(digOk (befL (signL l).1)∧¬ ((signL l).2=true∧numL (befL (signL l).1)=0)):=⟨hA,hM⟩
   generalize hz:(if (signL l).2=true then -(numL (befL (signL l).1):Int) else (numL (befL (signL l).1):Int))=z at *
   have hgz:∀ D:Nat,Int.gcd z (D:Int)=Nat.gcd (numL (befL (signL l).1)) D:=fun D=>by
    rw [← hz]; split
    ·rw [Int.neg_gcd]; rfl
    ·rfl
   by_cases h47:47∈(signL l).1
   ·simp only [h47,if_true,true_implies]
    by_cases hS:slashOk (signL l).1
    ·obtain ⟨g1,g2,g3⟩:=hS
     rw [if_pos hA] at g3
     have hg:=hgz (numL (aftL (signL l).1))
     rw [g3] at hg
     have hlen:=Yui h47
     have hb1:=hA.2.2.2
     have hb2:=g1.2.2.2
     rw [if_neg (show ¬ 8002<l.length by omega),if_pos (show slashOk (signL l).1 from ⟨g1,g2,by rw [if_pos hA]; exact g3⟩),if_pos hcond,if_pos ⟨⟨hA,⟨g1,by omega⟩,hM⟩,hg⟩]
     obtain ⟨q1,q2⟩:=Yim (n:=z) (d:=numL (aftL (signL l).1)) (by omega) hg
     simp only [q1,q2]
    ·have hno:¬ ((digOk (befL (signL l).1)∧(digOk (aftL (signL l).1)∧1<numL (aftL (signL l).1))∧¬ ((signL l).2=true∧numL (befL (signL l).1)=0))∧Int.gcd z (numL (aftL (signL l).1):Int)=1):=fun h=>hS ⟨h.1.2.1.1,by have:=h.1.2.1.2; omega,by rw [if_pos hA, ← hgz]; exact h.2⟩
     rw [if_neg hS,if_neg hno,ite_self]
   ·simp only [h47,if_false,false_implies,if_true,true_and]
    have hb1:=hA.2.2.2
    rw [Yvn h47] at hb1
    rw [if_neg (show ¬ 8002<l.length by omega),if_pos hcond,if_pos ⟨hcond,trivial⟩]
    obtain ⟨q1,q2⟩:=Yim (n:=z) (d:=1) (by omega) (by rw [hgz]; simp)
    simp only [q1,q2]
 ·simp only [hA,false_and,if_false,ite_self]
end GoAbs
namespace GoAbs
open Go Go.Proofs
theorem rparse {l:List UInt8}(hlen:l.length≤1000000000):SpecV Tryz.prog Ybl [.str (bs l)] (match parseL l with | some q => .tup [avR q.num q.den,.bool true] | none=>badR):=by
 have:=Yqu hlen
 rwa [Y5k] at this
theorem rvalid {l:List UInt8}(hlen:l.length≤1000000000):SpecV Tryz.prog Ylr [.str (bs l)] (.bool (parseL l).isSome):=by
 have hp:=rparse hlen
 refine Zae Yik (by simp) ?_
 unfold Ydi
 cases h:parseL l with
 | some q =>
  rw [h] at hp
  simp only [Zau] at hp
  simp only [go_sem,Zog,Zpm]
  refine Zaa hp (by simp only [go_sem]) ?_
  simp only [go_sem,Zpd,Option.isSome_some]
 | none =>
  rw [h] at hp
  unfold badR at hp
  simp only [go_sem,Zog,Zpm]
  refine Zaa hp (by simp only [go_sem]) ?_
  simp only [go_sem,Zpd,Option.isSome_none]
theorem rof {l:List UInt8}{q:Rat}(hlen:l.length≤1000000000) (h:parseL l=some q):SpecV Tryz.prog Y3a [.str (bs l)] (avR q.num q.den):=by
 have hp:=rparse hlen
 rw [h] at hp
 simp only [Zau] at hp
 refine Zae Yzv (by simp) ?_
 unfold Yv1
 rw [Zau]
 simp only [go_sem,Ydk,Yc7]
 refine Zaa hp (by simp only [go_sem]) ?_
 simp only [go_sem,Yd7]
theorem rzero {n d:Int}:SpecV Tryz.prog Ysk [avR n d] (.bool (decide (n=0))):=by
 refine Zae Ymc (by simp) ?_
 unfold Yjj
 rw [Zau]
 by_cases h:n=0
 ·subst h
  have hd:decide ((0:Int)=0)=true:=by simp
  have hl:(((dg (0:Int).natAbs).length:Nat):Int)=0:=by rw [Int.natAbs_zero,Zb1]; rfl
  rw [hd]
  simp only [go_sem,Zug,Zso,Zar,hl]
 ·have hd:decide (n=0)=false:=by simp [h]
  have hl:¬ (((dg n.natAbs).length:Nat):Int)=0:=by have:=(Zey (n:=n.natAbs)).2 (by omega); omega
  rw [hd]
  simp only [go_sem,Zug,Zso,Zar,hl]
end GoAbs
namespace GoAbs
open Go Go.Proofs
def Z3o:List IOp := [oI 0 (.mv (.c (.bool false))) 0]
def Z1j:List IOp := [oI 6 (.build [.int .i64 0,.int .i64 0,.str ⟨#[]⟩] [(0,1,cI 0),(1,1,cI 1),(2,1,.c (.str ⟨#[49]⟩))]) 0,oI 7 (.build [.int .i64 0,.int .i64 0,.str ⟨#[]⟩] [(0,1,cI 1),(1,1,cI 2),(2,1,.c (.str ⟨#[49]⟩))]) 0,oI 8 (.build [.int .i64 0,.int .i64 0,.str ⟨#[]⟩] [(0,1,cI 0),(1,1,cI 2),(2,1,.c (.str ⟨#[49]⟩))]) 0,oI 9 (.bsl (some 3) 3 [.int .i64 0,.int .i64 0,.str ⟨#[]⟩] [(0,.t 6),(1,.t 7),(2,.t 8)]) 0,mI 1 9 1]
def Z23:List IOp := [mI 11 1 0,oI 12 (.call 16 [cI 3,.t 11]) 0,mI 10 12 0,eI 13 0 10 0,eI 14 1 10 0,mI 2 13 0,mI 3 14 0]
def Z2r:List IOp := [mI 16 1 0,oI 17 (.call 31 [cI 3,.t 16,cI 0,cI 1]) 0,mI 15 17 0,eI 18 0 15 0,eI 19 1 15 0,mI 4 18 0,mI 5 19 0]
def Z0z:List IOp := [mI 20 2 0,oI 21 (.bin .eql (.t 20) (.c (.str ⟨#[51]⟩))) 0,mI 22 21 0,gI 23 (.mv (.t 3)) 0 22 true,gI 24 (.bin .eql (.t 23) (cI 0)) 0 22 true,oI 25 (.pick (.t 22) (.t 24) (.c (.bool false))) 0,mI 26 25 0,gI 27 (.mv (.t 4)) 0 26 true,⟨some 28,.bin .eql (.t 27) (.c (.str ⟨#[51,47,50]⟩)),0,[],[],some (26,true)⟩,oI 29 (.pick (.t 26) (.t 28) (.c (.bool false))) 0,mI 30 29 0,gI 31 (.mv (.t 5)) 0 30 true,gI 32 (.bin .eql (.t 31) (cI 0)) 0 30 true,oI 33 (.pick (.t 30) (.t 32) (.c (.bool false))) 0,mI 0 33 0]
def Ydg:CC := .seq (.rg false Z3o) (.seq (.rg false Z1j) (.seq (.rg false Z23) (.seq (.rg false Z2r) (.seq (.rg false Z0z) .ret))))
abbrev Yk6:Nat:=18
theorem Yj5:fnOk Tryz.prog 18=some (34,Ydg,[.tmp 0]):=by kernel_rfl
end GoAbs
namespace GoAbs
open Go Go.Proofs
end GoAbs
namespace GoAbs
open Go Go.Proofs
end GoAbs
namespace GoAbs
open Go Go.Proofs
def numsE (L:List (List UInt8)):Int:=if (L.all fun s=>(parseL s).isSome) then 0 else 2
def strAV (s:List UInt8):AV := .str (bs s)
theorem rnums {L:List (List UInt8)}(hL:L.length≤1000000000) (hl:∀ s,s∈L→s.length≤1000000000):SpecV Tryz.prog Yc8 [.sl (L.map strAV)] (.int .i64 (numsE L)):=by
 obtain ⟨ls,hls⟩:∃ ls,ls=L.map strAV:=⟨_,rfl⟩
 have hlsl:ls.length=L.length:=by rw [hls,List.length_map]
 rw [← hls]
 refine Zae Ymf (by simp) ?_
 unfold Yi0
 simp only [go_sem,Z5e,Z58]
 refine Zag (fun i:Nat=>⟨envL [(0,.sl ls),(3,.int .i64 (i:Int))],[]⟩) (fun i=>i≤L.length∧((L.take i).all fun s=>(parseL s).isSome)=true) (fun i=>L.length - i) 0 ⟨by simp,by simp⟩ (Zab _ (by simp only [go_sem]; simp)) (fun i hI N hN=>?_)
 obtain ⟨h1,h2⟩:=hI
 unfold Z5z
 by_cases hi:i<L.length
 ·obtain ⟨l,he⟩:∃ s,L[i]? = some s:=⟨_,List.getElem?_eq_getElem hi⟩
  have hll:=hl _ (List.mem_of_getElem? he)
  have hlsi:ls[i]? = some (.str (bs l)):=by
   rw [hls,List.getElem?_map,he]; rfl
  have q0:(0:Int)≤(i:Int):=by omega
  have q1:(i:Int)<(L.length:Int):=by omega
  have e1:IntKind.i64.wrap ((i:Int)+1)=((i+1:Nat):Int):=by rw [Zac (by omega) (by omega)]; omega
  have tk:((L.take (i+1)).all fun s=>(parseL s).isSome)=(((L.take i).all fun s=>(parseL s).isSome) && (parseL l).isSome):=by
   rw [List.take_add_one,he]; simp [List.all_append]
  simp only [go_sem,Zs2,Z5c,hlsl,q0,q1,hlsi]
  refine Zaa (rvalid hll) (by simp only [go_sem]) ?_
  cases hp:(parseL l).isSome with
  | true =>
   simp only [go_sem,Bool.not_true,Z4y,e1]
   exact hN (i+1) _ ⟨by omega,by rw [tk,h2,hp]; rfl⟩ (by omega) (Zab _ (by simp only [go_sem]))
  | false =>
   have hf:numsE L=2:=by
    unfold numsE
    rw [if_neg]
    intro hall
    have:=List.all_eq_true.1 hall _ (List.mem_of_getElem? he)
    rw [hp] at this; cases this
   rw [hf]
   simp only [go_sem,Bool.not_false,Z5w]
 ·have hie:i=L.length:=by omega
  subst hie
  have q1:¬ ((L.length:Nat):Int)<(L.length:Int):=by omega
  rw [List.take_length] at h2
  have hf:numsE L=0:=by unfold numsE; rw [if_pos h2]
  rw [hf]
  simp only [go_sem,Zs2,Z6r,hlsl,q1]
end GoAbs
namespace GoAbs
open Go Go.Proofs
end GoAbs
namespace GoAbs
theorem Ypk:∀ {n:Nat}{c:UInt8},c∈digs n→isDig c:=by
 intro n
 induction n using Nat.strongRecOn with
 | ind n ih =>
  intro c hc
  by_cases h:n=0
  ·subst h; rw [Zfc] at hc; simp at hc
  ·rw [Zfg h] at hc
   rcases List.mem_cons.1 hc with rfl | hc
   ·unfold isDig; rw [Zb0 (Nat.mod_lt n (by omega))]; omega
   ·exact ih (n / 10) (by omega) hc
theorem Yxz:∀ {n:Nat},numL (digs n).reverse=n:=by
 intro n
 induction n using Nat.strongRecOn with
 | ind n ih =>
  by_cases h:n=0
  ·subst h; rw [Zfc]; rfl
  ·rw [Zfg h,List.reverse_cons,Zsa,ih (n / 10) (by omega),Zb0 (Nat.mod_lt n (by omega))]
   omega
theorem Yvh:∀ {n:Nat},n≠0→∃ l c,digs n=l ++ [c]∧c.toNat≠48:=by
 intro n
 induction n using Nat.strongRecOn with
 | ind n ih =>
  intro h
  rw [Zfg h]
  by_cases h2:n / 10=0
  ·rw [h2,Zfc]
   refine ⟨[],_,rfl,?_⟩
   rw [Zb0 (Nat.mod_lt n (by omega))]; omega
  ·obtain ⟨l,c,e,hc⟩:=ih (n / 10) (by omega) h2
   exact ⟨_::l,c,by rw [e]; rfl,hc⟩
theorem Z04 {n:Nat}:numL (decL n)=n:=by
 unfold decL
 split
 ·rename_i h; rw [h]; rfl
 ·exact Yxz
theorem Ydd {n:Nat}(h:(decL n).length≤4000):digOk (decL n):=by
 refine ⟨fun c hc=>?_,fun e=>by have:=Y1i n; rw [e] at this; simp at this,fun ⟨h1,h2⟩=>?_,h⟩
 ·unfold decL at hc
  split at hc
  ·simp at hc; subst hc; unfold isDig; decide
  ·exact Ypk (List.mem_reverse.1 hc)
 ·unfold decL at h1 h2
  split at h1
  ·rename_i h0; rw [if_pos h0] at h2; simp at h2
  ·rename_i h0
   obtain ⟨l,c,e,hc⟩:=Yvh h0
   rw [e,List.reverse_append] at h1
   simp at h1
   rw [h1] at hc
   exact hc (by decide)
theorem Ykz {n:Nat}{b:UInt8}(hb:¬ isDig b):b ∉ decL n:=fun h=>by
 unfold decL at h
 split at h
 ·simp at h; subst h; exact hb (by unfold isDig; decide)
 ·exact hb (Ypk (List.mem_reverse.1 h))
theorem Za3 {q:Rat}(h:NumOk q):parseL (numS q)=some q:=by
 have h47:¬ isDig 47:=by unfold isDig; decide
 have h45:¬ isDig 45:=by unfold isDig; decide
 obtain ⟨h1,h2⟩:=h
 have hd1:=Ydd h1
 have hs:∀ (sg:List UInt8),sg=(if q.num<0 then [45] else [])→47 ∉ sg:=fun sg e hh=>by
  rw [e] at hh; split at hh <;> simp at hh
 have hsign:∀ (sg:List UInt8),sg=(if q.num<0 then [45] else [])→signL (sg++decL q.num.natAbs)=(decL q.num.natAbs,decide (q.num<0)):=fun sg e=>by
  unfold signL
  by_cases hn:q.num<0
  ·rw [if_pos hn] at e
   subst e
   rw [if_pos (by rfl)]
   simp [hn]
  ·rw [if_neg hn] at e
   subst e
   rw [if_neg (fun hh=>?_)]
   ·simp [hn]
   ·have:(45:UInt8)∈decL q.num.natAbs:=List.mem_of_head? hh
    exact Ykz h45 this
 have hcut:cutL (numS q)=((if q.num<0 then [45] else [])++decL q.num.natAbs,if q.den=1 then [] else decL q.den, !decide (q.den=1)):=by
  unfold numS
  by_cases hd:q.den=1
  ·rw [if_pos hd,if_pos hd,List.append_nil]
   unfold cutL
   rw [if_neg (fun hh=>?_)]
   ·simp [hd]
   ·rcases List.mem_append.1 hh with hh | hh
    ·exact hs _ rfl hh
    ·exact Ykz h47 hh
  ·rw [if_neg hd,if_neg hd]
   unfold cutL
   have hx:∀ x,x∈(if q.num<0 then [45] else [])++decL q.num.natAbs→(x != 47)=true:=fun x hx=>by
    have:x≠47:=fun e=>by
     subst e
     rcases List.mem_append.1 hx with hh | hh
     ·exact hs _ rfl hh
     ·exact Ykz h47 hh
    simpa using this
   rw [if_pos (by simp),List.takeWhile_append_of_pos hx,List.dropWhile_append_of_pos hx]
   simp [hd]
 have hP:partsL (numS q)=(q.num,q.den, !decide (q.den=1)):=by
  unfold partsL
  rw [hcut]
  simp only [hsign _ rfl,Z04]
  refine Prod.ext ?_ (Prod.ext ?_ rfl)
  ·by_cases hn:q.num<0
   ·simp [hn]; omega
   ·simp [hn]; omega
  ·by_cases hd:q.den=1
   ·simp [hd]
   ·simp [hd,Z04]
 have hF:formL (numS q):=by
  unfold formL
  rw [hcut]
  simp only [hsign _ rfl,Z04]
  refine ⟨hd1,fun hh=>?_,fun ⟨a,b⟩=>?_⟩
  ·have hd:q.den≠1:=by simpa using hh
   rw [if_neg hd,Z04]
   have:=q.den_pos
   exact ⟨Ydd (h2.resolve_left hd),by omega⟩
  ·have:q.num<0:=by simpa using a
   omega
 unfold parseL
 rw [hP]
 rw [if_pos ⟨hF,fun _=>by
  have:=q.reduced
  show Int.gcd q.num (q.den:Int)=1
  rw [Int.gcd,Int.natAbs_natCast]; exact this⟩,Rat.num_divInt_den]
theorem Ygx {q:Rat}(h:NumOk q):(numS q).length≤8002:=by
 obtain ⟨h1,h2⟩:=h
 have e1:(if q.num<0 then [(45:UInt8)] else []).length≤1:=by split <;> simp
 have e2:(if q.den=1 then [] else 47::decL q.den).length≤4001:=by
  split
  ·simp
  ·rename_i hd
   rw [List.length_cons]; have:=h2.resolve_left hd; omega
 unfold numS
 rw [List.length_append,List.length_append]
 omega
end GoAbs
