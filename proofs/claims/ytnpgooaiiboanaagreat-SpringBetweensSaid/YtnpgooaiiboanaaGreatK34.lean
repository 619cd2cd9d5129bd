/- Lemmas for the claim (contracts of the functions that it reaches, and what they compute), without conditions. -/
import Derived.Test.YtnpgooaiiboanaaGreatK33
import Derived.Test.YtnpgooaiiboanaaGreatProg
import Derived.KernelRfl
set_option linter.unusedVariables false
set_option linter.unusedSimpArgs false
set_option maxRecDepth 10000
set_option maxHeartbeats 2000000
namespace GoAbs
open Go Go.Proofs
def Zm8:List IOp := [oI 1 (.box (.t 0)) 0,oI 2 (.mv (.c (.bool false))) 1]
def Zm1:List IOp := [fI 6 0 1 0,lI 7 6 0,oI 8 (.mks none 1 [.bool false] (.t 7) (.t 7)) 0,mI 3 8 1]
def Zni:List IOp := [mI 9 3 0,oI 10 (.idx 1 (.t 9) (cI 0)) 0,⟨none,.st 1 (.t 10) (.c (.bool true)),0,[],[],none⟩]
def Zm7:List IOp := [fI 11 0 1 0,lI 12 11 0,oI 13 (.mv (cI 0)) 0]
def Zg6:List IOp := [oI 14 (.bin .lss (.t 13) (.t 12)) 0]
def Zne:List IOp := [fI 15 1 1 0,lI 16 15 0,oI 17 (.len (.t 16)) 0,oI 18 (.mv (cI 0)) 0]
def Zg5:List IOp := [oI 19 (.bin .lss (.t 18) (.t 17)) 0]
def Znn:List IOp := [xI 20 2 16 18 0,lJ 21 2 20 0,oI 5 (.alloc [.int .i64 0,.int .i64 0]) 0,⟨none,.st 2 (.t 5) (.t 21),1,[],[],none⟩]
def Zb5:List IOp := [mI 22 3 0,fI 23 0 5 0,lI 24 23 0,mI 25 3 0,fI 26 0 5 0,lI 27 26 0,xI 28 1 25 27 0,lI 29 28 0,mI 30 29 0,gI 31 (.mv (.t 3)) 0 30 false,gI 32 (.fa 1 (.t 5)) 0 30 false,gI 33 (.ld none (.t 32)) 0 30 false,gI 34 (.idx 1 (.t 31) (.t 33)) 0 30 false,gI 35 (.ld none (.t 34)) 0 30 false,oI 36 (.pick (.t 30) (.c (.bool true)) (.t 35)) 0,xI 37 1 22 24 0,⟨none,.st 1 (.t 37) (.t 36),0,[],[],none⟩]
@[go_sem ↓] theorem Z0s : autoK Zb5 = (0, 1) := by kernel_rfl
@[go_sem] theorem Yno : autoK [mI 22 3 0, fI 23 0 5 0, lI 24 23 0, mI 25 3 0, fI 26 0 5 0, lI 27 26 0, xI 28 1 25 27 0, lI 29 28 0, mI 30 29 0, gI 31 (.mv (.t 3)) 0 30 false, gI 32 (.fa 1 (.t 5)) 0 30 false, gI 33 (.ld none (.t 32)) 0 30 false, gI 34 (.idx 1 (.t 31) (.t 33)) 0 30 false, gI 35 (.ld none (.t 34)) 0 30 false, oI 36 (.pick (.t 30) (.c (.bool true)) (.t 35)) 0, xI 37 1 22 24 0, ⟨none, .st 1 (.t 37) (.t 36), 0, [], [], none⟩] = (0, 1) := Z0s
def Zbx:List IOp := [mI 38 3 0,fI 39 1 5 0,lI 40 39 0,mI 41 3 0,fI 42 1 5 0,lI 43 42 0,xI 44 1 41 43 0,lI 45 44 0,mI 46 45 0,gI 47 (.mv (.t 3)) 0 46 false,gI 48 (.fa 0 (.t 5)) 0 46 false,gI 49 (.ld none (.t 48)) 0 46 false,gI 50 (.idx 1 (.t 47) (.t 49)) 0 46 false,gI 51 (.ld none (.t 50)) 0 46 false,oI 52 (.pick (.t 46) (.c (.bool true)) (.t 51)) 0,xI 53 1 38 40 0,⟨none,.st 1 (.t 53) (.t 52),0,[],[],none⟩]
@[go_sem ↓] theorem Zxf : autoK Zbx = (0, 1) := by kernel_rfl
@[go_sem] theorem Yjy : autoK [mI 38 3 0, fI 39 1 5 0, lI 40 39 0, mI 41 3 0, fI 42 1 5 0, lI 43 42 0, xI 44 1 41 43 0, lI 45 44 0, mI 46 45 0, gI 47 (.mv (.t 3)) 0 46 false, gI 48 (.fa 0 (.t 5)) 0 46 false, gI 49 (.ld none (.t 48)) 0 46 false, gI 50 (.idx 1 (.t 47) (.t 49)) 0 46 false, gI 51 (.ld none (.t 50)) 0 46 false, oI 52 (.pick (.t 46) (.c (.bool true)) (.t 51)) 0, xI 53 1 38 40 0, ⟨none, .st 1 (.t 53) (.t 52), 0, [], [], none⟩] = (0, 1) := Zxf
def Zlb:List IOp := [oI 54 (.bin .add (.t 18) (cI 1)) 0,mI 18 54 0]
def Zgw:CC := .seq (.rg false Zg5) (.seq (.cond (.t 19) .skip (.exit 2)) (.seq (.block 3 (.seq (.rg false Znn) (.seq (.rg true Zb5) (.rg true Zbx)))) (.rg false Zlb)))
def Zlr:List IOp := [oI 55 (.bin .add (.t 13) (cI 1)) 0,mI 13 55 0]
def Znl:CC := .seq (.rg false Zg6) (.seq (.cond (.t 14) .skip (.exit 0)) (.seq (.block 1 (.seq (.rg false Zne) (.block 2 (.loop Zgw)))) (.rg false Zlr)))
def Zlp:List IOp := [mI 56 3 0,oI 57 (.call 128 [.t 56,.c (.bool false)]) 0,oI 58 (.un .not (.t 57)) 0,mI 2 58 0]
def Zyh:CC := .seq (.rg false Zm8) (.seq (.rg false Zm1) (.seq (.rg false Zni) (.seq (.seq (.rg false Zm7) (.block 0 (.loop Znl))) (.seq (.rg false Zlp) .ret))))
abbrev Ycs:Nat:=92
theorem Yam:fnOk Tryz.prog 92=some (59,Zyh,[.tmp 2]):=by kernel_rfl
def Zku:List IOp := [oI 4 (.mv (.c (.bool false))) 0]
def Zk8:List IOp := [mI 5 0 0,mI 6 1 0,oI 7 (.call 150 [.t 5,.t 6]) 0,oI 8 (.bin .geq (.t 7) (cI 0)) 0,mI 4 8 0]
def Zq7:CC := .seq (.rg false Zku) (.seq (.rg false Zk8) .ret)
abbrev Z6y:Nat:=128
theorem Z5h:fnOk Tryz.prog 128=some (9,Zq7,[.tmp 4]):=by kernel_rfl
def Zrp:List IOp := [oI 4 (.mv (cI 0)) 0]
def Zri:List IOp := [mI 6 0 0,oI 7 (.len (.t 6)) 0,oI 8 (.mv (cI 0)) 0]
def Zem:List IOp := [oI 9 (.bin .lss (.t 8) (.t 7)) 0]
def Zij:List IOp := [mI 10 8 0,mI 5 10 0]
def Zip:List IOp := [mI 11 1 0,mI 12 0 0,mI 13 5 0,xI 14 1 12 13 0,lI 15 14 0,oI 16 (.beq false (.t 11) (.t 15)) 0]
def Zqy:List IOp := [mI 17 5 0,mI 4 17 0]
def Zq3:List IOp := [oI 18 (.bin .add (.t 8) (cI 1)) 0,mI 8 18 0]
def Zrf:CC := .seq (.rg false Zem) (.seq (.cond (.t 9) .skip (.exit 0)) (.seq (.block 1 (.seq (.rg false Zij) (.seq (.rg false Zip) (.cond (.t 16) (.seq (.rg false Zqy) .ret) .skip)))) (.rg false Zq3)))
def Zq8:List IOp := [oI 4 (.mv (cI (-1))) 0]
def Z14:CC := .seq (.rg false Zrp) (.seq (.seq (.rg false Zri) (.block 0 (.loop Zrf))) (.seq (.rg false Zq8) .ret))
abbrev Ye7:Nat:=150
theorem Ycu:fnOk Tryz.prog 150=some (19,Z14,[.tmp 4]):=by kernel_rfl
def Z9g:List IOp := [oI 2 (.box (.t 0)) 0,oI 4 (.mv (.c .nils)) 1]
def Zv7:List IOp := [oI 5 (.call 77 [cI 0]) 0,oI 6 (.bsl (some 4) 1 [.bool false,.nils,.bool false,.nils] [(0,.t 5)]) 0,lJ 7 3 2 1,oI 8 (.calle 63 [.t 7]) 2,mI 9 1 1,oI 10 (.slc 4 (.t 9) (some (cI 1)) none) 1,oI 11 (.calle 131 [.t 8,.t 10]) 2,⟨some 12,.app (some 4) 64 (.t 6) (.t 11),1,[0],[],none⟩,⟨some 4,.mv (.t 12),2,[0,1],[],none⟩]
@[go_sem ↓] theorem Yez : autoK Zv7 = (2, 1) := by kernel_rfl
@[go_sem] theorem Y1r : autoK [oI 5 (.call 77 [cI 0]) 0, oI 6 (.bsl (some 4) 1 [.bool false, .nils, .bool false, .nils] [(0, .t 5)]) 0, lJ 7 3 2 1, oI 8 (.calle 63 [.t 7]) 2, mI 9 1 1, oI 10 (.slc 4 (.t 9) (some (cI 1)) none) 1, oI 11 (.calle 131 [.t 8, .t 10]) 2, ⟨some 12, .app (some 4) 64 (.t 6) (.t 11), 1, [0], [], none⟩, ⟨some 4, .mv (.t 12), 2, [0, 1], [], none⟩] = (2, 1) := Yez
def Yj5:CC := .seq (.rg false Z9g) (.seq (.rg true Zv7) .ret)
abbrev Zw8:Nat:=96
theorem Yoh:fnOk Tryz.prog 96=some (13,Yj5,[.tmp 4]):=by kernel_rfl
def Zq9:List IOp := [oI 4 (.mv (.c .nils)) 0]
def Zrn:List IOp := [mI 11 0 0,oI 12 (.len (.t 11)) 0,oI 13 (.mv (cI 0)) 0]
def Zim:List IOp := [oI 14 (.bin .lss (.t 13) (.t 12)) 0]
def Zrb:List IOp := [mI 15 13 0,mI 5 15 0]
def Zeo:List IOp := [mI 16 0 0,mI 17 5 0,mI 18 0 0,mI 19 5 0,xI 20 1 18 19 0,lI 21 20 0,mI 22 1 0,mI 23 5 0,xI 24 4 22 23 0,lJ 25 4 24 0,oI 26 (.bsl (some 4) 1 [.bool false,.nils,.bool false,.nils] [(0,.t 25)]) 0,⟨some 27,.app (some 4) 64 (.t 21) (.t 26),1,[0],[],none⟩,⟨some 28,.idx 1 (.t 16) (.t 17),2,[0,1],[],none⟩,⟨none,.st 1 (.t 28) (.t 27),2,[0,1],[],none⟩]
@[go_sem ↓] theorem Z4k : autoK Zeo = (2, 1) := by kernel_rfl
@[go_sem] theorem Yo2 : autoK [mI 16 0 0, mI 17 5 0, mI 18 0 0, mI 19 5 0, xI 20 1 18 19 0, lI 21 20 0, mI 22 1 0, mI 23 5 0, xI 24 4 22 23 0, lJ 25 4 24 0, oI 26 (.bsl (some 4) 1 [.bool false, .nils, .bool false, .nils] [(0, .t 25)]) 0, ⟨some 27, .app (some 4) 64 (.t 21) (.t 26), 1, [0], [], none⟩, ⟨some 28, .idx 1 (.t 16) (.t 17), 2, [0, 1], [], none⟩, ⟨none, .st 1 (.t 28) (.t 27), 2, [0, 1], [], none⟩] = (2, 1) := Z4k
def Zqz:List IOp := [oI 29 (.bin .add (.t 13) (cI 1)) 0,mI 13 29 0]
def Zig:CC := .seq (.rg false Zim) (.seq (.cond (.t 14) .skip (.exit 0)) (.seq (.block 1 (.seq (.rg false Zrb) (.rg true Zeo))) (.rg false Zqz)))
def Zq6:List IOp := [mI 30 0 0,oI 31 (.call 114 [.t 30]) 0]
def Zq0:List IOp := [mI 32 0 0,oI 33 (.len (.t 32)) 0,mI 6 33 0]
def Zrq:List IOp := [mI 34 6 0,oI 35 (.mks (some 4) 64 [.bool false,.nils,.bool false,.nils] (.t 34) (.t 34)) 0,mI 7 35 1]
def Znr:List IOp := [mI 36 6 0,oI 37 (.bin .sub (.t 36) (cI 1)) 0,mI 8 37 0]
def Zg0:List IOp := [mI 38 8 0,oI 39 (.bin .geq (.t 38) (cI 0)) 0]
def Znb:List IOp := [mI 42 0 0,mI 43 8 0,xI 44 1 42 43 0,lI 45 44 0,mI 46 6 0,xI 47 4 45 46 0,lJ 48 4 47 0,oI 9 (.alloc [.bool false,.nils,.bool false,.nils]) 0,⟨none,.st 4 (.t 9) (.t 48),1,[],[],none⟩]
def Znt:List IOp := [mI 49 8 0,oI 50 (.bin .add (.t 49) (cI 1)) 0,mI 10 50 0]
def Zg4:List IOp := [mI 51 10 0,mI 52 6 0,oI 53 (.bin .lss (.t 51) (.t 52)) 0]
def Zgz:List IOp := [lJ 56 4 9 0,mI 57 0 0,mI 58 8 0,xI 59 1 57 58 0,lI 60 59 0,mI 61 10 0,xI 62 4 60 61 0,lJ 63 4 62 0,mI 64 7 0,mI 65 10 0,xI 66 4 64 65 0,lJ 67 4 66 0,oI 68 (.call 87 [.t 63,.t 67]) 0,oI 69 (.callw 79 [.t 56,.t 68]) 0,⟨none,.st 4 (.t 9) (.t 69),0,[],[],none⟩]
@[go_sem ↓] theorem Z09 : autoK Zgz = (0, 1) := by kernel_rfl
@[go_sem] theorem Ynn : autoK [lJ 56 4 9 0, mI 57 0 0, mI 58 8 0, xI 59 1 57 58 0, lI 60 59 0, mI 61 10 0, xI 62 4 60 61 0, lJ 63 4 62 0, mI 64 7 0, mI 65 10 0, xI 66 4 64 65 0, lJ 67 4 66 0, oI 68 (.call 87 [.t 63, .t 67]) 0, oI 69 (.callw 79 [.t 56, .t 68]) 0, ⟨none, .st 4 (.t 9) (.t 69), 0, [], [], none⟩] = (0, 1) := Z09
def Znu:List IOp := [mI 54 10 0,oI 55 (.bin .add (.t 54) (cI 1)) 0,mI 10 55 0]
def Zio:CC := .seq (.seq (.rg false Zg4) (.cond (.t 53) .skip (.exit 4))) (.seq (.block 5 (.rg true Zgz)) (.rg false Znu))
def Zg1:List IOp := [mI 70 7 0,mI 71 8 0,lJ 72 4 9 0,mI 73 0 0,mI 74 8 0,xI 75 1 73 74 0,lI 76 75 0,mI 77 8 0,xI 78 4 76 77 0,lJ 79 4 78 0,oI 80 (.call 78 [.t 72,.t 79]) 0,xI 81 4 70 71 0,⟨none,.st 4 (.t 81) (.t 80),0,[],[],none⟩]
@[go_sem ↓] theorem Z1q : autoK Zg1 = (0, 1) := by kernel_rfl
@[go_sem] theorem Ynm : autoK [mI 70 7 0, mI 71 8 0, lJ 72 4 9 0, mI 73 0 0, mI 74 8 0, xI 75 1 73 74 0, lI 76 75 0, mI 77 8 0, xI 78 4 76 77 0, lJ 79 4 78 0, oI 80 (.call 78 [.t 72, .t 79]) 0, xI 81 4 70 71 0, ⟨none, .st 4 (.t 81) (.t 80), 0, [], [], none⟩] = (0, 1) := Z1q
def Zm3:List IOp := [mI 40 8 0,oI 41 (.bin .sub (.t 40) (cI 1)) 0,mI 8 41 0]
def Zif:CC := .seq (.seq (.rg false Zg0) (.cond (.t 39) .skip (.exit 2))) (.seq (.block 3 (.seq (.rg false Znb) (.seq (.seq (.rg false Znt) (.block 4 (.loop Zio))) (.rg true Zg1)))) (.rg false Zm3))
def Zg2:List IOp := [mI 82 7 0,mI 4 82 0]
def Z5j:CC := .seq (.rg false Zq9) (.seq (.seq (.rg false Zrn) (.block 0 (.loop Zig))) (.seq (.rg false Zq6) (.seq (.rg false Zq0) (.seq (.rg false Zrq) (.seq (.seq (.rg false Znr) (.block 2 (.loop Zif))) (.seq (.rg false Zg2) .ret))))))
abbrev Yfi:Nat:=131
theorem Ybd:fnOk Tryz.prog 131=some (83,Z5j,[.tmp 4]):=by kernel_rfl
def Zc4:List IOp := [oI 8 (.alloc [.int .i64 0,.nils,.nils]) 0,oI 9 (.mv (.c .nils)) 1,oI 10 (.mv (cI 0)) 1]
def Zc6:List IOp := [mI 15 0 0,mI 16 1 0,oI 17 (.call 62 [.t 15,.t 16]) 0,mI 14 17 0,eI 18 0 14 0,eI 19 1 14 0,oI 11 (.alloc [.int .i64 0,.nils,.nils]) 0,⟨none,.st 3 (.t 11) (.t 18),1,[],[],none⟩,mI 12 19 1]
def Za6:List IOp := [mI 21 12 0,oI 22 (.bin .neq (.t 21) (cI 0)) 0,mI 20 22 0]
def Zt9:List IOp := [oI 23 (.build [.int .i64 0,.nils,.nils] []) 0,mI 24 12 0,⟨none,.st 3 (.t 8) (.t 23),0,[],[],none⟩,oI 9 (.mv (.c .nils)) 0,mI 10 24 0]
def Zbc:List IOp := [mI 26 2 0,oI 27 (.bin .lss (.t 26) (cI 0)) 0,mI 28 27 0,gI 29 (.mv (.t 2)) 0 28 false,gI 30 (.mv (.t 0)) 0 28 false,gI 31 (.bin .geq (.t 29) (.t 30)) 0 28 false,oI 32 (.pick (.t 28) (.c (.bool true)) (.t 31)) 0,mI 33 32 0,gI 34 (.mv (.t 3)) 0 33 false,gI 35 (.bin .lss (.t 34) (cI 0)) 0 33 false,oI 36 (.pick (.t 33) (.c (.bool true)) (.t 35)) 0,mI 37 36 0,gI 38 (.mv (.t 3)) 0 37 false,gI 39 (.mv (.t 0)) 0 37 false,gI 40 (.bin .geq (.t 38) (.t 39)) 0 37 false,oI 41 (.pick (.t 37) (.c (.bool true)) (.t 40)) 0,mI 42 41 0,gI 43 (.mv (.t 2)) 0 42 false,gI 44 (.mv (.t 3)) 0 42 false,gI 45 (.bin .eql (.t 43) (.t 44)) 0 42 false,oI 46 (.pick (.t 42) (.c (.bool true)) (.t 45)) 0,mI 25 46 0]
def Zb8:List IOp := [oI 47 (.build [.int .i64 0,.nils,.nils] []) 0,⟨none,.st 3 (.t 8) (.t 47),0,[],[],none⟩,oI 9 (.mv (.c .nils)) 0,oI 10 (.mv (cI 1)) 0]
def Zj4:List IOp := [lJ 49 3 11 0,oI 50 (.call 92 [.t 49]) 0,oI 51 (.un .not (.t 50)) 0,mI 48 51 0]
def Zwj:List IOp := [oI 52 (.build [.int .i64 0,.nils,.nils] []) 0,⟨none,.st 3 (.t 8) (.t 52),0,[],[],none⟩,oI 9 (.mv (.c .nils)) 0,oI 10 (.mv (cI 5)) 0]
def Zuv:List IOp := [oI 53 (.call 77 [cI 0]) 0,oI 54 (.bsl (some 4) 1 [.bool false,.nils,.bool false,.nils] [(0,.t 53)]) 0,mI 55 0 1,oI 56 (.call 99 [.t 54,.t 55]) 1,mI 13 56 1]
def Zrr:List IOp := [mI 57 13 0,mI 58 2 0,mI 59 13 0,mI 60 3 0,oI 61 (.call 77 [cI 1]) 0,oI 62 (.call 77 [cI (-1)]) 0,xI 63 4 57 58 0,⟨none,.st 4 (.t 63) (.t 61),0,[],[],none⟩,xI 64 4 59 60 0,⟨none,.st 4 (.t 64) (.t 62),0,[],[],none⟩]
def Zie:List IOp := [lJ 65 3 11 0,lJ 66 3 11 0,mI 67 13 0,oI 68 (.call 96 [.t 66,.t 67]) 0,⟨none,.st 3 (.t 8) (.t 65),0,[],[],none⟩,mI 9 68 0,oI 10 (.mv (cI 0)) 0]
@[go_sem ↓] theorem Z4i : autoK Zie = (0, 1) := by kernel_rfl
@[go_sem] theorem Ypq : autoK [lJ 65 3 11 0, lJ 66 3 11 0, mI 67 13 0, oI 68 (.call 96 [.t 66, .t 67]) 0, ⟨none, .st 3 (.t 8) (.t 65), 0, [], [], none⟩, mI 9 68 0, oI 10 (.mv (cI 0)) 0] = (0, 1) := Z4i
def Zhx:CC := .seq (.rg false Zc4) (.seq (.rg false Zc6) (.seq (.block 0 (.seq (.rg false Za6) (.cond (.t 20) (.seq (.rg false Zt9) .ret) (.seq (.rg false Zbc) (.cond (.t 25) (.seq (.rg false Zb8) .ret) (.seq (.rg false Zj4) (.cond (.t 48) (.seq (.rg false Zwj) .ret) .skip))))))) (.seq (.rg false Zuv) (.seq (.rg false Zrr) (.seq (.rg true Zie) .ret)))))
abbrev Zbb:Nat:=76
theorem Zhn:fnOk Tryz.prog 76=some (69,Zhx,[.cell 8 (some 3),.tmp 9,.tmp 10]):=by kernel_rfl
def Zgf:List IOp := [oI 8 (.mv (.c (.str ⟨#[]⟩))) 0,oI 9 (.mv (cI 0)) 0]
def Zf7:List IOp := [mI 14 0 0,mI 15 1 0,mI 16 2 0,mI 17 3 0,oI 18 (.call 76 [.t 14,.t 15,.t 16,.t 17]) 0,mI 13 18 0,eI 19 0 13 0,eI 20 1 13 0,eI 21 2 13 0,oI 10 (.alloc [.int .i64 0,.nils,.nils]) 0,⟨none,.st 3 (.t 10) (.t 19),1,[],[],none⟩,mI 11 20 1,mI 12 21 1]
def Zfw:List IOp := [mI 22 12 0,oI 23 (.bin .neq (.t 22) (cI 0)) 0]
def Zld:List IOp := [mI 24 12 0,oI 8 (.mv (.c (.str ⟨#[]⟩))) 0,mI 9 24 0]
def Zf5:List IOp := [oI 25 (.call 77 [cI 1]) 0,mI 26 11 0,mI 27 2 0,xI 28 4 26 27 0,lJ 29 4 28 0,mI 30 11 0,mI 31 3 0,xI 32 4 30 31 0,lJ 33 4 32 0,oI 34 (.callw 79 [.t 29,.t 33]) 0,oI 35 (.callw 78 [.t 25,.t 34]) 0,oI 36 (.callw 65 [.t 35]) 0,eI 37 0 36 0,eI 38 1 36 0,mI 8 37 0,mI 9 38 0]
@[go_sem ↓] theorem Zw9 : autoK Zf5 = (0, 0) := by kernel_rfl
@[go_sem] theorem Yma : autoK [oI 25 (.call 77 [cI 1]) 0, mI 26 11 0, mI 27 2 0, xI 28 4 26 27 0, lJ 29 4 28 0, mI 30 11 0, mI 31 3 0, xI 32 4 30 31 0, lJ 33 4 32 0, oI 34 (.callw 79 [.t 29, .t 33]) 0, oI 35 (.callw 78 [.t 25, .t 34]) 0, oI 36 (.callw 65 [.t 35]) 0, eI 37 0 36 0, eI 38 1 36 0, mI 8 37 0, mI 9 38 0] = (0, 0) := Zw9
def Zj5:CC := .seq (.rg false Zgf) (.seq (.rg false Zf7) (.seq (.seq (.rg false Zfw) (.cond (.t 23) (.seq (.rg false Zld) .ret) .skip)) (.seq (.rg true Zf5) .ret)))
abbrev Zbt:Nat:=31
theorem Znx:fnOk Tryz.prog 31=some (39,Zj5,[.tmp 8,.tmp 9]):=by kernel_rfl
end GoAbs
namespace GoAbs
open Go Go.Proofs
theorem Xfe {nt n0:Nat}{e:Nat→AV}{H:Heap}{Q:Ex→St→Prop}{o n i L b N:Nat}{P ls c row:List AV}(e0:e 0 = .osl none o 0 N) (e1:e 1 = .sl ls) (e5:e 5 = .int .i64 (i:Int)) (hiN:i<N) (hL:H.length=L) (ho:H[o]? = some (.cells P)) (hPN:N≤P.length)
  (hP:P[i]? = some (.osl (some 4) b 0 n)) (hb:H[b]? = some (.cells row)) (hr:row.length=n*4) (hbo:b≠o) (hls:ls[i]? = some (.agg c)) (hc:c.length=4) (hn:n≤1000000)
  (hQ:∀ e',e' 0=e 0→e' 1=e 1→e' 12=e 12→e' 13=e 13→Q .normal ⟨e',(H.set b .dead).set o (.cells (P.set i (.osl (some 4) (L+1) 0 (n+1)))) ++ [.cells c,.cells (row++c)]⟩) :
  T Tryz.prog nt n0 (.rg true Zeo) ⟨e,H⟩ Q:=by
 have hm:Tryz.prog.follows .mixedOrders=true:=by kernel_rfl
 have hoL:o<H.length:=(List.getElem?_eq_some_iff.1 ho).1
 have hbL:b<H.length:=(List.getElem?_eq_some_iff.1 hb).1
 have q0:(0:Int)≤(i:Int):=by omega
 have q1:(i:Int)<(N:Int):=by omega
 have q2:(i:Int)<(ls.length:Int):=by have:=(List.getElem?_eq_some_iff.1 hls).1; omega
 have g1:∀ X:Heap,(H++X)[o]? = some (.cells P):=fun X=>by rw [List.getElem?_append_left hoL]; exact ho
 have g2:∀ X:Heap,(H++X)[b]? = some (.cells row):=fun X=>by rw [List.getElem?_append_left hbL]; exact hb
 have s1:∀ X:Heap,(H++X).set b .dead=H.set b .dead++X:=fun X=>List.set_append_left _ _ hbL
 have g3:∀ X:Heap,(H.set b .dead++X)[o]? = some (.cells P):=fun X=>by rw [List.getElem?_append_left (by rw [List.length_set]; exact hoL),List.getElem?_set_ne hbo]; exact ho
 have s2:∀ (X:Heap) (y:Blk),(H.set b .dead++X).set o y=(H.set b .dead).set o y++X:=fun X y=>List.set_append_left _ _ (by rw [List.length_set]; exact hoL)
 have p0:∀ x y:Blk,(H ++ [x,y])[L]? = some x:=fun x y=>by rw [List.getElem?_append_right (by omega),hL,Nat.sub_self]; rfl
 have p1:∀ x y:Blk,(H.set b .dead ++ [x,y])[L+1]? = some y:=fun x y=>by rw [List.getElem?_append_right (by rw [List.length_set]; omega),List.length_set,hL,Nat.add_sub_cancel_left]; rfl
 have p2:∀ x y z:Blk,(H ++ [x,y]).set L z=H ++ [z,y]:=fun x y z=>by rw [List.set_append_right _ _ (by omega),hL,Nat.sub_self]; rfl
 have p3:∀ x y z:Blk,(H.set b .dead ++ [x,y]).set (L+1) z=H.set b .dead ++ [x,z]:=fun x y z=>by rw [List.set_append_right _ _ (by rw [List.length_set]; omega),List.length_set,hL,Nat.add_sub_cancel_left]; rfl
 have hi:i<P.length:=(List.getElem?_eq_some_iff.1 hP).1
 have hset:∀ v:AV,P.take i++v::P.drop (i+1)=P.set i v:=fun v=>by rw [List.set_eq_take_append_cons_drop,if_pos hi]
 have hPd:P.drop i = .osl (some 4) b 0 n::P.drop (i+1):=by
  have:=List.drop_eq_getElem_cons hi
  rw [this]; congr 1
  exact (List.getElem?_eq_some_iff.1 hP).2
 have z1:(n+1)*64≤1099511627776:=by omega
 have z2:n*4≤row.length:=by omega
 have tr:row.take (n*4)=row:=List.take_of_length_le (by omega)
 have tc:c.take 4=c:=List.take_of_length_le (by omega)
 have dc:c.drop 4 = []:=List.drop_eq_nil_of_le (by omega)
 have lc:4≤c.length:=by omega
 have z3:i+1≤P.length:=hi
 refine T_W ?_
 simp only [go_sem,Zeo,e0,e1,e5,hL,g1,g2,g3,s1,s2,p0,p1,p2,p3,q0,q1,q2,hls,hc,hP,hPd,hset,z1,z2,z3,tr,tc,dc,lc,hm]
 have hset':∀ v:AV,P.take i ++ [v]++P.drop (i+1)=P.set i v:=fun v=>by rw [← hset,List.append_assoc]; rfl
 refine ⟨.inl (by omega),.inl (by omega),.inl (by omega),?_⟩
 rw [hset']
 exact hQ _ (by simp only [go_sem]) (by simp only [go_sem]) (by simp only [go_sem]) (by simp only [go_sem])
def aug (M:RM) (r:List Rat):RM:=List.zipWith (fun row x=>row ++ [x]) M r
theorem Z04 {M:RM}{r:List Rat}(h:r.length=M.length):(aug M r).length=M.length:=by unfold aug; rw [List.length_zipWith]; omega
theorem Yi0 {M:RM}{r:List Rat}{w:Nat}(h:Wid w M):Wid (w+1) (aug M r):=fun row hr=>by
 unfold aug at hr
 obtain ⟨i,hi,he⟩:=List.getElem_of_mem hr
 rw [List.getElem_zipWith] at he
 rw [← he,List.length_append,h _ (List.getElem_mem _)]; rfl
theorem Yn3 {M:RM}{r:List Rat}{i:Nat}{row:List Rat}{x:Rat}(h1:M[i]? = some row) (h2:r[i]? = some x):(aug M r)[i]? = some (row ++ [x]):=by
 unfold aug; rw [List.getElem?_zipWith,h1,h2]
def ptrsA (o n i:Nat):List AV:=((List.range i).map fun j=>AV.osl (some 4) (o+2+2*n+2*j) 0 (n+1))++((List.range' i (n - i)).map fun j=>AV.osl (some 4) (o+2+2*j) 0 n)
theorem Yz0 {o n i:Nat}(h:i≤n):(ptrsA o n i).length=n:=by unfold ptrsA; simp; omega
theorem Yvr {o n:Nat}:ptrsA o n 0=ptrs o n n:=by unfold ptrsA ptrs; simp [List.range_eq_range']
theorem Yye {o n i:Nat}(h:i<n):(ptrsA o n i)[i]? = some (.osl (some 4) (o+2+2*i) 0 n):=by
 unfold ptrsA
 rw [List.getElem?_append_right (by simp),List.length_map,List.length_range,Nat.sub_self,List.getElem?_map,List.getElem?_range' (by omega)]
 rfl
theorem Y1h {o n i:Nat}(h:i<n):(ptrsA o n i).set i (.osl (some 4) (o+2+2*n+2*i) 0 (n+1))=ptrsA o n (i+1):=by
 unfold ptrsA
 rw [List.set_append_right _ _ (by simp),List.length_map,List.length_range,Nat.sub_self,List.range_succ,List.map_append,show n - i=(n - (i+1))+1 by omega,List.range'_succ,List.map_cons,List.set_cons_zero]
 simp
def heapA (o n i:Nat) (M:RM) (r:List Rat):Heap := .cells (ptrsA o n i)::(List.replicate (2*i) .dead++(rowsH (M.drop i)++rowsH ((aug M r).take i)))
theorem Yvx {o n:Nat}{M:RM}{r:List Rat}(h:M.length=n):heapA o n 0 M r=matH o n M:=by
 unfold heapA matH; rw [Yvr,h]; simp [rowsH]
theorem Y1z {o n i:Nat}{M:RM}{r:List Rat}(hM:M.length=n) (hr:r.length=n) (hi:i≤n):(heapA o n i M r).length=1+2*n+2*i:=by
 unfold heapA
 rw [List.length_cons,List.length_append,List.length_append,Zc7,Zc7,List.length_replicate,List.length_drop,List.length_take,Z04 (by omega)]
 omega
theorem Y1x {o n i:Nat}{M:RM}{r row:List Rat}(hi:i<n) (hM:M.length=n) (hrow:M[i]? = some row):(heapA o n i M r)[2+2*i]? = some (.cells (qc row)):=by
 unfold heapA
 rw [show 2+2*i=(1+2*i)+1 by omega,List.getElem?_cons_succ,List.getElem?_append_right (by simp),List.length_replicate,show 1+2*i - 2*i=1 by omega]
 rw [List.drop_eq_getElem_cons (by omega)]
 show some (Blk.cells (qc (M[i]'(by omega))))=_
 have:=List.getElem?_eq_some_iff.1 hrow
 rw [← this.2]
theorem Yw6 {o n i:Nat}{M:RM}{r row:List Rat}{x:Rat}(hi:i<n) (hM:M.length=n) (hrow:M[i]? = some row) (hx:r[i]? = some x) (hw:row.length=n) :
  ((heapA o n i M r).set (2+2*i) .dead).set 0 (.cells ((ptrsA o n i).set i (.osl (some 4) (o+2+2*n+2*i) 0 (n+1)))) ++ [.dead,.cells (qc row++qcell x)]=heapA o n (i+1) M r:=by
 rw [Y1h hi]
 unfold heapA
 rw [show 2+2*i=(1+2*i)+1 by omega,List.set_cons_succ,List.set_cons_zero,List.set_append_right _ _ (by simp),List.length_replicate,show 1+2*i - 2*i=1 by omega]
 have hd:M.drop i=row::M.drop (i+1):=by
  rw [List.drop_eq_getElem_cons (by omega)]
  congr 1
  exact (List.getElem?_eq_some_iff.1 hrow).2
 have hr:rowsH (row::M.drop (i+1)) = .dead :: .cells (qc row)::rowsH (M.drop (i+1)):=rfl
 rw [hd,hr,List.set_append_left _ _ (by simp)]
 have ht:(aug M r).take (i+1)=(aug M r).take i ++ [row ++ [x]]:=by
  rw [List.take_add_one,Yn3 hrow hx]; rfl
 have hq:qc (row ++ [x])=qc row++qcell x:=by rw [Z5c]; simp [qc]
 have happ:rowsH ((aug M r).take i ++ [row ++ [x]])=rowsH ((aug M r).take i) ++ [.dead,.cells (qc row++qcell x)]:=by
  unfold rowsH
  rw [List.flatMap_append]
  simp [hq]
 have hrep:(List.replicate (2*(i+1)) Blk.dead)=List.replicate (2*i) .dead ++ [.dead,.dead]:=by
  rw [show 2*(i+1)=2*i+2 by omega, ← List.replicate_append_replicate]; rfl
 rw [ht,happ,hrep]
 simp
end GoAbs
namespace GoAbs
open Go Go.Proofs
def condsR (r:List Rat):List AV:=r.map avQ
theorem Z6o (r:List Rat):(condsR r).length=r.length:=by simp [condsR]
theorem Zjm {r:List Rat}{i:Nat}{x:Rat}(h:r[i]? = some x):(condsR r)[i]? = some (.agg (qcell x)):=by
 unfold condsR; rw [List.getElem?_map,h]; rfl
theorem Xdx {pre:Heap}{o n n0:Nat}{M:RM}{r:List Rat}(ho:pre.length=o) (hM:M.length=n) (hr:r.length=n) (hW:Wid n M) (hn:n≤1000000) {K:Ex→St→Prop}
  (hK:∀ e:Nat→AV,e 0 = .osl none o 0 n→K (.exit 0) ⟨e,pre++heapA o n n M r⟩) :
  T Tryz.prog 83 n0 (.loop Zig) ⟨envL [(0,.osl none o 0 n),(1,.sl (condsR r)),(12,.int .i64 (n:Int)),(13,.int .i64 0)],pre++matH o n M⟩ K:=by
 refine Z47 (fun i:Nat=>⟨envL [(0,.osl none o 0 n),(1,.sl (condsR r)),(12,.int .i64 (n:Int)),(13,.int .i64 (i:Int))],pre++heapA o n i M r⟩) (fun i=>i≤n) (fun i=>n - i) 0 (by omega)
  (Zcj (Zab [(0,.osl none o 0 n),(1,.sl (condsR r)),(12,.int .i64 (n:Int)),(13,.int .i64 0)] (by simp only [go_sem])) (by rw [Yvx hM]; rfl)) (fun i hi N hN=>?_)
 unfold Zig
 by_cases hin:i<n
 ·obtain ⟨row,hrow⟩:∃ row,M[i]? = some row:=⟨_,List.getElem?_eq_getElem (by omega)⟩
  obtain ⟨x,hx⟩:∃ x,r[i]? = some x:=⟨_,List.getElem?_eq_getElem (by omega)⟩
  have hw:row.length=n:=hW _ (List.mem_of_getElem? hrow)
  have q1:(i:Int)<(n:Int):=by omega
  have e1:IntKind.i64.wrap ((i:Int)+1)=((i+1:Nat):Int):=by rw [Zac (by omega) (by omega)]; omega
  have hAl:=Y1z (o:=o) hM hr (show i≤n by omega)
  have hL:(pre++heapA o n i M r).length=o+(1+2*n+2*i):=by rw [List.length_append,hAl,ho]
  have hgo:(pre++heapA o n i M r)[o]? = some (.cells (ptrsA o n i)):=by rw [List.getElem?_append_right (by omega),ho,Nat.sub_self]; rfl
  have hgb:(pre++heapA o n i M r)[o+2+2*i]? = some (.cells (qc row)):=by
   rw [List.getElem?_append_right (by omega),ho,show o+2+2*i - o=2+2*i by omega]; exact Y1x hin hM hrow
  refine Zcx 1 rfl ?_
  simp only [go_sem,Zim,q1]
  refine Zds (Zet (Zcx 0 rfl ?_))
  simp only [go_sem,Zrb]
  refine Xfe (o:=o) (n:=n) (i:=i) (N:=n) (ls:=condsR r) (P:=ptrsA o n i) (row:=qc row) (c:=qcell x) (by simp only [go_sem]) (by simp only [go_sem]) (by simp only [go_sem]) hin hL hgo (by rw [Yz0 hi]; exact Nat.le_refl _) (Yye hin) hgb (by rw [Z85,hw]) (by omega) (Zjm hx) rfl hn (fun e' h0 h1 h12 h13=>?_)
  simp only [go_sem] at h0 h1 h12 h13
  refine T_W ?_
  simp only [go_sem,Zqz,h13,e1]
  refine hN (i+1) _ (by omega) (by omega) (Zcj (Ztp [o+(1+2*n+2*i)] [(0,.osl none o 0 n),(1,.sl (condsR r)),(12,.int .i64 (n:Int)),(13,.int .i64 ((i+1:Nat):Int))] ⟨.inr (by simp only [go_sem,h0]),.inr (by simp only [go_sem,h1]),.inr (by simp only [go_sem,h12]),.inr (by simp only [go_sem]),trivial⟩) ?_)
  congr 1
  rw [← Yw6 (o:=o) (n:=n) (x:=x) hin hM hrow hx hw]
  show List.set _ (o+(1+2*n+2*i)) Blk.dead=_
  rw [List.set_append_right _ _ (by rw [List.length_set,List.length_set,hL]; exact Nat.le_refl _),List.length_set,List.length_set,hL,Nat.sub_self,List.set_cons_zero]
  rw [List.set_append_right _ _ (by omega),ho,show o+2+2*i - o=2+2*i by omega,List.set_append_right _ _ (by omega),ho,Nat.sub_self,List.append_assoc]
  rw [show o+(1+2*n+2*i)+1=o+2+2*n+2*i by omega]
 ·have hie:i=n:=by omega
  subst hie
  have q1:¬ ((i:Nat):Int)<(i:Int):=by omega
  refine T_W ?_
  simp only [go_sem,Zim,q1]
  exact hK _ (by simp only [go_sem])
end GoAbs
namespace GoAbs
open Go Go.Proofs
def heapT (o n:Nat) (A:RM):Heap := .cells (ptrsA o n n)::(List.replicate (2*n) .dead++rowsH A)
theorem Yvz {o n:Nat}{M:RM}{r:List Rat}(hM:M.length=n) (hr:r.length=n):heapA o n n M r=heapT o n (aug M r):=by
 unfold heapA heapT
 rw [List.drop_eq_nil_of_le (by omega),List.take_of_length_le (by rw [Z04 (by omega)]; omega)]
 rfl
theorem Y1t {o n:Nat}{A:RM}(hA:A.length=n):(heapT o n A).length=1+4*n:=by
 unfold heapT
 rw [List.length_cons,List.length_append,List.length_replicate,Zc7]; omega
def swB (o n i:Nat):Nat:=if o+1≤i∧i<o+1+2*n then i+2*n else if o+1+2*n≤i∧i<o+1+4*n then i - 2*n else i
theorem Y9c (o n:Nat):∀ i,swB o n (swB o n i)=i:=fun i=>by
 unfold swB
 by_cases h1:o+1≤i∧i<o+1+2*n
 ·rw [if_pos h1,if_neg (by omega),if_pos (by omega)]; omega
 ·by_cases h2:o+1+2*n≤i∧i<o+1+4*n
  ·rw [if_neg h1,if_pos h2,if_pos (by omega)]; omega
  ·rw [if_neg h1,if_neg h2,if_neg h1,if_neg h2]
def PureH (K:Heap):Prop:=∀ f,K.map (Blk.gc f)=K
theorem PureH.clo {K:Heap}(h:PureH K) (m:Nat):Clo m K:=h _
theorem Ygd {A:RM}:PureH (rowsH A):=fun f=>Yqs
theorem Xdm {pre:Heap}{o n:Nat}{A:RM}(ho:pre.length=o) (hp:PureH pre) (hA:A.length=n):Ren (swB o n) (pre++(matH o (n+1) A++List.replicate (2*n) .dead)) (pre++heapT o n A):=fun i=>by
 have hml:(matH o (n+1) A).length=1+2*n:=by rw [Zbe,hA]
 have hrl:(rowsH A).length=2*n:=by rw [Zc7,hA]
 have gp:∀ (j:Nat) (b:Blk),pre[j]? = some b→b.gc (sg (swB o n))=b:=fun j b hb=>by
  have:=congrArg (fun l:Heap=>l[j]?) (hp (sg (swB o n)))
  simp only [List.getElem?_map,hb,Option.map_some,Option.some.injEq] at this
  exact this
 have gr:∀ (j:Nat) (b:Blk),(rowsH A)[j]? = some b→b.gc (sg (swB o n))=b:=fun j b hb=>by
  have:=congrArg (fun l:Heap=>l[j]?) (Ygd (A:=A) (sg (swB o n)))
  simp only [List.getElem?_map,hb,Option.map_some,Option.some.injEq] at this
  exact this
 have mapid:∀ (x:Option Blk),(∀ b,x=some b→b.gc (sg (swB o n))=b)→x.map (Blk.gc (sg (swB o n)))=x:=fun x hx=>by
  cases x with
  | none=>rfl
  | some b=>rw [Option.map_some,hx b rfl]
 unfold heapT
 by_cases h0:i<o
 ·have hs:swB o n i=i:=by unfold swB; rw [if_neg (by omega),if_neg (by omega)]
  rw [hs,List.getElem?_append_left (by omega),List.getElem?_append_left (by omega),mapid _ (fun b hb=>gp i b hb)]
 ·by_cases h1:i=o
  ·have hs:swB o n i=i:=by unfold swB; rw [if_neg (by omega),if_neg (by omega)]
   rw [hs,h1,List.getElem?_append_right (by omega),List.getElem?_append_right (by omega),ho,Nat.sub_self]
   show some (Blk.cells (ptrsA o n n))=some (Blk.gc (sg (swB o n)) (.cells (ptrs o (n+1) A.length)))
   rw [hA]
   simp only [Blk.gc,Option.some.injEq,Blk.cells.injEq]
   rw [Zau]
   unfold ptrsA ptrs
   rw [Nat.sub_self]
   simp only [List.range'_zero,List.map_nil,List.append_nil,List.map_map]
   refine List.map_congr_left fun j hj=>?_
   have hj':j<n:=List.mem_range.1 hj
   simp only [Function.comp,AV.gc,sg]
   congr 1
   unfold swB; rw [if_pos (by omega)]; omega
  ·by_cases h2:i<o+1+2*n
   ·have hs:swB o n i=i+2*n:=by unfold swB; rw [if_pos (by omega)]
    rw [hs,List.getElem?_append_right (by omega),List.getElem?_append_right (by omega),ho,List.getElem?_append_right (by omega),hml]
    rw [show i - o=(i - o - 1)+1 by omega,List.getElem?_cons_succ,List.getElem?_append_left (by rw [List.length_replicate]; omega),List.getElem?_replicate,if_pos (by omega),List.getElem?_replicate,if_pos (by omega)]
    rfl
   ·by_cases h3:i<o+1+4*n
    ·have hs:swB o n i=i - 2*n:=by unfold swB; rw [if_neg (by omega),if_pos (by omega)]
     rw [hs,List.getElem?_append_right (by omega),List.getElem?_append_right (by omega),ho,List.getElem?_append_left (by omega)]
     unfold matH
     rw [show i - o=(i - o - 1)+1 by omega,List.getElem?_cons_succ,List.getElem?_append_right (by rw [List.length_replicate]; omega),List.length_replicate,show i - 2*n - o=(i - 2*n - o - 1)+1 by omega,List.getElem?_cons_succ,
      show i - o - 1 - 2*n=i - 2*n - o - 1 by omega,mapid _ (fun b hb=>gr _ b hb)]
    ·have hs:swB o n i=i:=by unfold swB; rw [if_neg (by omega),if_neg (by omega)]
     rw [hs,List.getElem?_eq_none,List.getElem?_eq_none]
     ·rfl
     ·rw [List.length_append,List.length_append,hml,List.length_replicate]; omega
     ·rw [List.length_append,List.length_cons,List.length_append,List.length_replicate,hrl]; omega
theorem Yig:∀ {k c:Nat}{M:RM}{d:Rat},(tri k c M d).2.length=M.length
 | 0,c,M,d=>rfl
 | k+1,c,M,d=>by
  unfold tri
  split
  ·rfl
  ·rw [Yig,Zax]
theorem Xhv {pre:Heap}{o n k:Nat}{A:RM}(ho:pre.length=o) (hp:PureH pre) (hA:A.length=n) (hnl:n≤999999) (hW:Wid (n+1) A) (hB:Mb k A) (hk1:1≤k) (hk:9 ^ n*k≤100000000000) (hns:NoSw n 0 A) :
  SpecR Tryz.prog Zn2 (pre++heapT o n A) [.osl none o 0 n] (.agg (qcell (tri n 0 A 1).1)) (pre++heapT o n (tri n 0 A 1).2):=by
 have h:=Yrq (pre:=pre) (PP:=List.replicate (2*n) .dead) (o:=o) (w:=n+1) (n:=n) (k:=k) (M:=A) ho hA (by omega) (by omega) (by omega) hW hB hk1 hk hns (fun m _=>hp.clo m) (fun m _=>by unfold Clo; rw [List.map_replicate]; rfl)
 have hl:(tri n 0 A 1).2.length=n:=by rw [Yig,hA]
 have:=Yzd (Y9c o n) (Xdm ho hp hA) (Xdm ho hp hl) h
 have e1 : [AV.osl none o 0 n].map (AV.gc (sg (swB o n))) = [.osl none o 0 n]:=by
  simp only [List.map_cons,List.map_nil,AV.gc,sg]
  have hs:swB o n o=o:=by unfold swB; rw [if_neg (by omega),if_neg (by omega)]
  rw [hs]
 rw [e1] at this
 exact this
end GoAbs
namespace GoAbs
open Go Go.Proofs
def bacc (row T:List Rat) (i n:Nat):Nat→Rat
 | 0=>rget row n
 | t+1=>bacc row T i n t - rget row (i+1+t)*rget T t
def bsub (A:RM) (n:Nat):Nat→List Rat
 | 0 => []
 | k+1=>bacc (A.getD (n - 1 - k) []) (bsub A n k) (n - 1 - k) n k / rget (A.getD (n - 1 - k) []) (n - 1 - k)::bsub A n k
theorem Zfp {A:RM}{n:Nat}:∀ k,(bsub A n k).length=k
 | 0=>rfl
 | k+1=>by unfold bsub; rw [List.length_cons,Zfp k]
theorem Qb.sub2 {k l:Nat}{a b:Rat}(ha:Qb k a) (hb:Qb l b):Qb (k+l+1) (a - b):=by
 rw [Rat.sub_eq_add_neg]; exact ha.add2 hb.neg
theorem Qb.mul2 {k l:Nat}{a b:Rat}(ha:Qb k a) (hb:Qb l b):Qb (k+l) (a*b):=by
 rw [← Ypm]
 have h0:(a.den:Int)*b.den≠0:=by have:=den_pos' a; have:=den_pos' b; exact Int.mul_ne_zero (by omega) (by omega)
 obtain ⟨h1,h2⟩:=Zea (n:=a.num*b.num) h0
 refine ⟨Nat.lt_of_le_of_lt h1 ?_,Nat.lt_of_le_of_lt h2 ?_⟩
 ·rw [Int.natAbs_mul,Nat.pow_add]; exact Nat.mul_lt_mul'' ha.n hb.n
 ·rw [Int.natAbs_mul,Nat.pow_add]; exact Nat.mul_lt_mul'' ha.dz hb.dz
theorem Qb.div2 {k l:Nat}{a b:Rat}(ha:Qb k a) (hb:Qb l b) (h0:b≠0):Qb (k+l) (a / b):=by
 rw [← Yp7]
 have hn:b.num≠0:=fun h=>h0 (Rat.num_eq_zero.1 h)
 have h0:(a.den:Int)*b.num≠0:=by have:=den_pos' a; exact Int.mul_ne_zero (by omega) hn
 obtain ⟨h1,h2⟩:=Zea (n:=a.num*b.den) h0
 refine ⟨Nat.lt_of_le_of_lt h1 ?_,Nat.lt_of_le_of_lt h2 ?_⟩
 ·rw [Int.natAbs_mul,Nat.pow_add]; exact Nat.mul_lt_mul'' ha.n hb.dz
 ·rw [Int.natAbs_mul,Nat.pow_add]; exact Nat.mul_lt_mul'' ha.dz hb.n
def bbit (a:Nat):Nat→Nat
 | 0=>a
 | k+1=>2*a+k*(a+bbit a k+1)
theorem Ykl {a k:Nat}:bbit a k≤bbit a (k+1):=by
 cases k with
 | zero=>show a≤2*a+0*_; omega
 | succ k =>
  show bbit a (k+1)≤2*a+(k+1)*(a+bbit a (k+1)+1)
  have:bbit a (k+1)≤(k+1)*(a+bbit a (k+1)+1):=Nat.le_trans (by omega) (Nat.le_mul_of_pos_left _ (by omega))
  omega
theorem Y15 {a k l:Nat}(h:k≤l):bbit a k≤bbit a l:=by
 induction h with
 | refl=>exact Nat.le_refl _
 | step _ ih=>exact Nat.le_trans ih Ykl
theorem Z45 {row T:List Rat}{i n a l:Nat}(hr:Rb a row) (hT:Rb l T) (hn:row.length=n+1) (hi:i+1+T.length≤n):∀ t,t≤T.length→Qb (a+t*(a+l+1)) (bacc row T i n t)
 | 0,_=>by have:=hr.get (j:=n) (by omega); simpa [bacc] using this
 | t+1,h=>by
  have h1:=Z45 hr hT hn hi t (by omega)
  have:=h1.sub2 ((hr.get (j:=i+1+t) (by omega)).mul2 (hT.get (j:=t) (by omega)))
  refine this.mono ?_
  rw [Nat.add_mul]; omega
theorem Yc9 {A:RM}{n a:Nat}(hA:Mb a A) (hW:Wid (n+1) A) (hn:A.length=n) (hp:∀ i,i<n→rget (A.getD i []) i≠0):∀ k,k≤n→Rb (bbit a k) (bsub A n k)
 | 0,_=>fun x hx=>by simp [bsub] at hx
 | k+1,h=>by
  have ih:=Yc9 hA hW hn hp k (by omega)
  have hr:=hA.get (i:=n - 1 - k) (by omega)
  have hw:=hW.get (i:=n - 1 - k) (by omega)
  intro x hx
  unfold bsub at hx
  rcases List.mem_cons.1 hx with rfl | hx
  ·have h1:=Z45 (i:=n - 1 - k) hr ih hw (by rw [Zfp]; omega) k (by rw [Zfp]; exact Nat.le_refl _)
   have h2:=h1.div2 (hr.get (j:=n - 1 - k) (by omega)) (hp _ (by omega))
   refine h2.mono ?_
   show _≤2*a+k*(a+bbit a k+1)
   omega
  ·exact (ih x hx).mono Ykl
def xC (m:Nat) (T:List Rat):List AV:=rows m z4++qc T
theorem Xf2 {m:Nat}{T:List Rat}:(xC m T).length=(m+T.length)*4:=by
 unfold xC; rw [List.length_append,Zfx rfl,Z85]; omega
theorem Xf8 {m t:Nat}{T:List Rat}(h:t<T.length):((xC m T).drop ((m+t)*4)).take 4=qcell (rget T t)∧4≤((xC m T).drop ((m+t)*4)).length:=by
 have hl:(rows m z4).length=m*4:=Zfx rfl
 have:(xC m T).drop ((m+t)*4)=(qc T).drop (t*4):=by
  unfold xC
  rw [List.drop_append,List.drop_eq_nil_of_le (by rw [hl]; omega),List.nil_append,hl]
  congr 1; omega
 rw [this]
 exact ⟨Zel (Zag h),Zir (Zag h)⟩
theorem Xfu {m:Nat}{T:List Rat}{x:Rat}:(xC (m+1) T).take (m*4)++qcell x++(xC (m+1) T).drop (m*4+4)=xC m (x::T):=by
 have hl:(rows m z4).length=m*4:=Zfx rfl
 unfold xC
 rw [Z43 (a:=m) (b:=1),show rows 1 z4=z4 by simp [rows],List.append_assoc (rows m z4) z4 (qc T),List.take_left' hl, ← List.drop_drop,List.drop_left' hl]
 have:(z4++qc T).drop 4=qc T:=rfl
 rw [this]
 simp [qc]
theorem Xgv {f:Nat→Option Nat}{m:Nat}{T:List Rat}:gcL f (xC m T)=xC m T:=by
 unfold xC
 rw [Zau,List.map_append, ← Zau, ← Zau,Y5w]
 congr 1
 rw [Zau]
 unfold rows
 rw [List.map_flatten,List.map_replicate]
 rfl
theorem Xfo {H0:Heap}{o n i L bR n0 a l:Nat}{V row:List Rat}(hL:H0.length=L) (ho:H0[o]? = some (.cells (ptrsA o n n))) (hb:bR=o+2+2*n+2*i) (hR:H0[bR]? = some (.cells (qc row))) (hi:i<n) (hnl:n≤1000000)
  (hw:row.length=n+1) (hT:i+1+V.length=n) (br:Rb a row) (bT:Rb l V) (hk:2*(a+V.length*(a+l+1)+l)+1≤1000000000000) {K:Ex→St→Prop}
  (hK:∀ e:Nat→AV,e 0 = .osl none o 0 n→e 6 = .int .i64 (n:Int)→e 7 = .osl (some 4) L 0 n→e 8 = .int .i64 (i:Int)→e 9 = .ptr (L+1) 0 →
   K (.exit 4) ⟨e,H0 ++ [.cells (xC (i+1) V),.cells (qcell (bacc row V i n V.length))]⟩) :
  T Tryz.prog 83 n0 (.loop Zio) ⟨envL [(0,.osl none o 0 n),(6,.int .i64 (n:Int)),(7,.osl (some 4) L 0 n),(8,.int .i64 (i:Int)),(9,.ptr (L+1) 0),(10,.int .i64 ((i+1:Nat):Int))],
   H0 ++ [.cells (xC (i+1) V),.cells (qcell (rget row n))]⟩ K:=by
 have hm:Tryz.prog.follows .mixedOrders=true:=by kernel_rfl
 refine Zae (fun t:Nat=>⟨envL [(0,.osl none o 0 n),(6,.int .i64 (n:Int)),(7,.osl (some 4) L 0 n),(8,.int .i64 (i:Int)),(9,.ptr (L+1) 0),(10,.int .i64 ((i+1+t:Nat):Int))],
   H0 ++ [.cells (xC (i+1) V),.cells (qcell (bacc row V i n t))]⟩) (fun t=>t≤V.length) (fun t=>V.length - t) 0 (by omega) (Zab _ (by simp only [go_sem])) (fun t ht N hN=>?_)
 unfold Zio
 by_cases htl:t<V.length
 ·have q0:(0:Int)≤(i:Int):=by omega
  have q1:(i:Int)<(n:Int):=by omega
  have r0:(0:Int)≤((i+1+t:Nat):Int):=by omega
  have r1:((i+1+t:Nat):Int)<(n:Int):=by omega
  have r2:((i+1+t:Nat):Int)<((n+1:Nat):Int):=by omega
  have e1:IntKind.i64.wrap (((i+1+t:Nat):Int)+1)=((i+1+(t+1):Nat):Int):=by rw [Zac (by omega) (by omega)]; omega
  have g0:∀ X:Heap,(H0++X)[o]? = some (.cells (ptrsA o n n)):=fun X=>by rw [List.getElem?_append_left (List.getElem?_eq_some_iff.1 ho).1]; exact ho
  have g1:∀ X:Heap,(H0++X)[bR]? = some (.cells (qc row)):=fun X=>by rw [List.getElem?_append_left (List.getElem?_eq_some_iff.1 hR).1]; exact hR
  have gx:∀ x y:Blk,(H0 ++ [x,y])[L]? = some x:=fun x y=>by rw [List.getElem?_append_right (by omega),hL,Nat.sub_self]; rfl
  have gs:∀ x y:Blk,(H0 ++ [x,y])[L+1]? = some y:=fun x y=>by rw [List.getElem?_append_right (by omega),hL,Nat.add_sub_cancel_left]; rfl
  have ss:∀ x y z:Blk,(H0 ++ [x,y]).set (L+1) z=H0 ++ [x,z]:=fun x y z=>by rw [List.set_append_right _ _ (by omega),hL,Nat.add_sub_cancel_left]; rfl
  have gp:(ptrsA o n n)[i]? = some (.osl (some 4) bR 0 (n+1)):=by
   unfold ptrsA
   rw [List.getElem?_append_left (by simp; exact hi),List.getElem?_map,List.getElem?_range hi,hb]; rfl
  have rJ:row[i+1+t]? = some (rget row (i+1+t)):=Zag (by omega)
  have t1:=Zel rJ
  have t2:=Zir rJ
  obtain ⟨t3,t4⟩:=Xf8 (m:=i+1) htl
  have hql:∀ q:Rat,(4:Nat)≤(qcell q).length:=fun q=>by rw [Zai]; omega
  have hqt:∀ q:Rat,(qcell q).take 4=qcell q:=fun q=>List.take_of_length_le (by rw [Zai]; omega)
  have hqd:∀ q:Rat,(qcell q).drop 4 = []:=fun q=>rfl
  have hlen:∀ x y:Blk,(H0 ++ [x,y]).length=L+2:=fun x y=>by rw [List.length_append,hL]; rfl
  have l0:o<L+2:=by have:=(List.getElem?_eq_some_iff.1 ho).1; omega
  have l1:bR<L+2:=by have:=(List.getElem?_eq_some_iff.1 hR).1; omega
  have l2:L<L+2:=by omega
  have l3:L+1<L+2:=by omega
  have b1:Qb (a+l) (rget row (i+1+t)*rget V t):=(br.get (j:=i+1+t) (by omega)).mul2 (bT.get (j:=t) htl)
  have b2:=Z45 (i:=i) (n:=n) br bT hw (by omega) t ht
  have hmul:t*(a+l+1)≤V.length*(a+l+1):=Nat.mul_le_mul_right _ ht
  simp only [go_sem,Zg4,Zgz,hm,q0,q1,r0,r1,r2,g0,g1,gx,gs,gp,List.getElem?_drop,t1,t2,t3,t4,hql,hqt,hlen,l0,l1,l2,l3]
  refine Zaa (Y6k (k:=a+l) ((br.get (j:=i+1+t) (by omega)).mono (by omega)) ((bT.get (j:=t) htl).mono (by omega)) (by omega)) (by simp only [go_sem,Zcv,Zaq]) ?_
  simp only [go_sem,Zcv]
  refine Zaa (Y6i (k:=a+V.length*(a+l+1)+l) (b2.mono (by omega)) (b1.mono (by omega)) hk) (by simp only [go_sem,Zcv,Zaq]) ?_
  simp only [go_sem,Zcv,gs,ss,hlen,l3,Zai,hqd,hqt,Znu,e1]
  exact hN (t+1) _ (by omega) (by omega) (Zab _ (by simp only [go_sem]))
 ·have hte:t=V.length:=by omega
  subst hte
  have r1:¬ ((i+1+V.length:Nat):Int)<(n:Int):=by omega
  simp only [go_sem,Zg4,r1]
  exact hK _ (by simp only [go_sem]) (by simp only [go_sem]) (by simp only [go_sem]) (by simp only [go_sem]) (by simp only [go_sem])
end GoAbs
namespace GoAbs
open Go Go.Proofs
theorem Xex {H0:Heap}{o n L n0 a:Nat}{A:RM}(hL:H0.length=L) (hclo:Clo (L+1) H0) (hn0:n0≤L) (hoL:o<L) (ho:H0[o]? = some (.cells (ptrsA o n n))) (hR:∀ i,i<n→H0[o+2+2*n+2*i]? = some (.cells (qc (A.getD i []))))
  (hn:A.length=n) (hnl:n≤1000000) (hW:Wid (n+1) A) (hB:Mb a A) (hp:∀ i,i<n→rget (A.getD i []) i≠0) (hk:∀ k,k<n→2*(a+k*(a+bbit a k+1)+bbit a k)+1≤1000000000000) {K:Ex→St→Prop}
  (hK:∀ e:Nat→AV,e 7 = .osl (some 4) L 0 n→K (.exit 2) ⟨e,H0 ++ [.cells (qc (bsub A n n))]⟩) :
  T Tryz.prog 83 n0 (.loop Zif) ⟨envL [(0,.osl none o 0 n),(6,.int .i64 (n:Int)),(7,.osl (some 4) L 0 n),(8,.int .i64 ((n:Int) - 1))],H0 ++ [.cells (rows n z4)]⟩ K:=by
 have hm:Tryz.prog.follows .mixedOrders=true:=by kernel_rfl
 refine Zae (fun k:Nat=>⟨envL [(0,.osl none o 0 n),(6,.int .i64 (n:Int)),(7,.osl (some 4) L 0 n),(8,.int .i64 ((n:Int) - 1 - (k:Int)))],H0 ++ [.cells (xC (n - k) (bsub A n k))]⟩) (fun k=>k≤n) (fun k=>n - k) 0 (by omega)
  (Zcj (Zab [(0,.osl none o 0 n),(6,.int .i64 (n:Int)),(7,.osl (some 4) L 0 n),(8,.int .i64 ((n:Int) - 1))] (by simp only [go_sem])) (by simp [xC,bsub,qc])) (fun k hkn N hN=>?_)
 unfold Zif
 by_cases hlt:k<n
 ·obtain ⟨i,hi⟩:∃ i,i=n - 1 - k:=⟨_,rfl⟩
  have hin:i<n:=by omega
  have ei:(n:Int) - 1 - (k:Int)=(i:Int):=by omega
  have enk:n - k=i+1:=by omega
  have enk':n - (k+1)=i:=by omega
  have hw:=hW.get (i:=i) (by omega)
  have br:=hB.get (i:=i) (by omega)
  have bT:=Yc9 hB hW hn hp k hkn
  have hTl:(bsub A n k).length=k:=Zfp k
  have hnext:bsub A n (k+1)=bacc (A.getD i []) (bsub A n k) i n k / rget (A.getD i []) i::bsub A n k:=by rw [bsub, ← hi]
  have hRi:=hR i hin
  have hpi:=hp i hin
  generalize hrow:A.getD i []=row at *
  generalize bsub A n k=V at *
  rw [ei,enk]
  have q0:(0:Int)≤(i:Int):=by omega
  have q1:(i:Int)<(n:Int):=by omega
  have q2:(i:Int)<((n+1:Nat):Int):=by omega
  have z0:(0:Int)≤(n:Int):=by omega
  have z1:(n:Int)<((n+1:Nat):Int):=by omega
  have e1:IntKind.i64.wrap ((i:Int)+1)=((i+1:Nat):Int):=by rw [Zac (by omega) (by omega)]; omega
  have e2:IntKind.i64.wrap ((i:Int) - 1)=(n:Int) - 1 - ((k+1:Nat):Int):=by rw [Zac (by omega) (by omega)]; omega
  have g0:∀ X:Heap,(H0++X)[o]? = some (.cells (ptrsA o n n)):=fun X=>by rw [List.getElem?_append_left (List.getElem?_eq_some_iff.1 ho).1]; exact ho
  have g1:∀ X:Heap,(H0++X)[o+2+2*n+2*i]? = some (.cells (qc row)):=fun X=>by rw [List.getElem?_append_left (List.getElem?_eq_some_iff.1 hRi).1]; exact hRi
  have gx:∀ x y:Blk,(H0 ++ [x,y])[L]? = some x:=fun x y=>by rw [List.getElem?_append_right (by omega),hL,Nat.sub_self]; rfl
  have gs:∀ x y:Blk,(H0 ++ [x,y])[L+1]? = some y:=fun x y=>by rw [List.getElem?_append_right (by omega),hL,Nat.add_sub_cancel_left]; rfl
  have ss:∀ x y z:Blk,(H0 ++ [x,y]).set (L+1) z=H0 ++ [x,z]:=fun x y z=>by rw [List.set_append_right _ _ (by omega),hL,Nat.add_sub_cancel_left]; rfl
  have sx:∀ x y z:Blk,(H0 ++ [x,y]).set L z=H0 ++ [z,y]:=fun x y z=>by rw [List.set_append_right _ _ (by omega),hL,Nat.sub_self]; rfl
  have eA:∀ x y:Blk,H0 ++ [x] ++ [y]=H0 ++ [x,y]:=fun x y=>by simp
  have gp:(ptrsA o n n)[i]? = some (.osl (some 4) (o+2+2*n+2*i) 0 (n+1)):=by
   unfold ptrsA
   rw [List.getElem?_append_left (by simp; exact hin),List.getElem?_map,List.getElem?_range hin]; rfl
  have rN:row[n]? = some (rget row n):=Zag (by omega)
  have rI:row[i]? = some (rget row i):=Zag (by omega)
  have t1:=Zel rN
  have t2:=Zir rN
  have t3:=Zel rI
  have t4:=Zir rI
  have hql:∀ q:Rat,(4:Nat)≤(qcell q).length:=fun q=>by rw [Zai]; omega
  have hqt:∀ q:Rat,(qcell q).take 4=qcell q:=fun q=>List.take_of_length_le (by rw [Zai]; omega)
  have hqd:∀ q:Rat,(qcell q).drop 4 = []:=fun q=>rfl
  have hlen1:∀ x:Blk,(H0 ++ [x]).length=L+1:=fun x=>by rw [List.length_append,hL]; rfl
  have hlen:∀ x y:Blk,(H0 ++ [x,y]).length=L+2:=fun x y=>by rw [List.length_append,hL]; rfl
  have l0:o<L+2:=by omega
  have l1:o+2+2*n+2*i<L+2:=by have:=(List.getElem?_eq_some_iff.1 hRi).1; omega
  have l2:L<L+2:=by omega
  have l3:L+1<L+2:=by omega
  have hxl:(xC (i+1) V).length=n*4:=by rw [Xf2]; congr 1; omega
  have fit:i*4+4≤n*4:=by omega
  simp only [go_sem,Zg0,Znb,Znt,q0,q1,q2,z0,z1,g0,g1,gp,eA,gs,ss,hlen1,List.getElem?_drop,t1,t2,Zai,hql,hqt,e1]
  refine Zas [(0,.osl none o 0 n),(6,.int .i64 (n:Int)),(7,.osl (some 4) L 0 n),(8,.int .i64 (i:Int)),(9,.ptr (L+1) 0),(10,.int .i64 ((i+1:Nat):Int))] (by simp only [go_sem]) ?_
  refine Xfo (a:=a) (l:=bbit a k) hL ho rfl hRi hin hnl hw (by omega) br bT (by rw [hTl]; exact hk k hlt) (fun e k0 k6 k7 k8 k9=>?_)
  rw [hTl]
  have b2:=Z45 (i:=i) (n:=n) br bT hw (by omega) k (by omega)
  have hkk:=hk k hlt
  simp only [go_sem,Zg1,hm,k0,k6,k7,k8,k9,q0,q1,q2,g0,g1,gx,gs,sx,gp,List.getElem?_drop,t3,t4,hql,hqt,hlen,l0,l1,l2,l3]
  refine Zaa (Xbw (k:=a+k*(a+bbit a k+1)) b2 ((br.get (j:=i) (by omega)).mono (by omega)) hpi (by omega)) (by simp only [go_sem,Zcv,Zaq]) ?_
  simp only [go_sem,Zcv,k7,k8,q0,q1,gx,sx,hxl,fit,hlen,l2,Zai,Xfu,Zm3,e2]
  have hsplit:∀ x y:Blk,H0 ++ [x,y]=(H0 ++ [x]) ++ [y]:=fun x y=>by simp
  rw [hsplit]
  refine hN (k+1) _ (by omega) (by omega) (Zcj (Zt7 (m:=L+1) (by rw [List.length_append,hL]; rfl) (hclo.append (by unfold Clo; simp only [List.map_cons,List.map_nil,Blk.gc,Xgv])) (by omega)
   [(0,.osl none o 0 n),(6,.int .i64 (n:Int)),(7,.osl (some 4) L 0 n),(8,.int .i64 ((n:Int) - 1 - ((k+1:Nat):Int)))] (by simp only [go_sem,k0,k6,k7]) ?_) (by rw [enk',hnext]))
  have p1:pos (List.range (L+1)) o=some o:=Zbm (by omega)
  have p2:pos (List.range (L+1)) L=some L:=Zbm (by omega)
  simp [AV.gc,p1,p2]
 ·have hke:k=n:=by omega
  subst hke
  have q1:¬ (0:Int)≤(k:Int) - 1 - (k:Int):=by omega
  simp only [go_sem,Zg0,q1]
  have:xC (k - k) (bsub A k k)=qc (bsub A k k):=by rw [Nat.sub_self]; rfl
  rw [this]
  exact hK _ (by simp only [go_sem])
theorem Yx2 {pre:Heap}{o n:Nat}{A:RM}(ho:pre.length=o) (hA:A.length=n):(pre++heapT o n A)[o]? = some (.cells (ptrsA o n n))∧∀ i,i<n→(pre++heapT o n A)[o+2+2*n+2*i]? = some (.cells (qc (A.getD i []))):=by
 refine ⟨by rw [List.getElem?_append_right (by omega),ho,Nat.sub_self]; rfl,fun i hi=>?_⟩
 rw [List.getElem?_append_right (by omega),ho,show o+2+2*n+2*i - o=(1+2*n+2*i)+1 by omega]
 unfold heapT
 rw [List.getElem?_cons_succ,List.getElem?_append_right (by rw [List.length_replicate]; omega),List.length_replicate,show 1+2*n+2*i - 2*n=2*i+1 by omega]
 exact Yb4 (getD_some (by omega))
theorem Ymp {pre:Heap}{o n m:Nat}{A:RM}(hp:PureH pre) (hm:o+1+4*n≤m):Clo m (pre++heapT o n A):=by
 refine (hp.clo m).append ?_
 unfold Clo heapT
 rw [List.map_cons,List.map_append,Ygd,List.map_replicate]
 congr 1
 simp only [Blk.gc,Blk.cells.injEq]
 rw [Zau]
 unfold ptrsA
 rw [Nat.sub_self]
 simp only [List.range'_zero,List.map_nil,List.append_nil,List.map_map]
 refine List.map_congr_left fun j hj=>?_
 have hj':j<n:=List.mem_range.1 hj
 have:pos (List.range m) (o+2+2*n+2*j)=some (o+2+2*n+2*j):=Zbm (by omega)
 simp [AV.gc,this]
theorem Yau {H:Heap}{ids:List Nat}{b:Nat}{r:List Rat}(hb:H[b]? = some (.cells (qc r))) (hi:b∈ids):BV H ids (.osl (some 4) b 0 r.length) (.sl (condsR r)):=by
 have:=Z6u (H:=H) (ids:=ids) (w:=4) (b:=b) (R:=r.map qcell) hb hi (by unfold qc; rw [List.flatMap_def]) (fun d hd=>by obtain ⟨j,_,rfl⟩:=List.mem_map.1 hd; rfl) (fun d hd=>by
  obtain ⟨j,_,rfl⟩:=List.mem_map.1 hd; rw [Zaq]; trivial)
 rw [List.length_map,List.map_map] at this
 exact this
theorem Yw5 {pre:Heap}{o n k:Nat}{M:RM}{r:List Rat}(ho:pre.length=o) (hp:PureH pre) (hM:M.length=n) (hr:r.length=n) (hnl:n≤999999) (hW:Wid n M) (hB:Mb k (aug M r)) (hk1:1≤k) (hk:9 ^ n*k≤100000000000)
  (hns:NoSw n 0 (aug M r)) {a:Nat} (hB':Mb a (tri n 0 (aug M r) 1).2) (hW':Wid (n+1) (tri n 0 (aug M r) 1).2) (hpv:∀ i,i<n→rget ((tri n 0 (aug M r) 1).2.getD i []) i≠0) (hka:∀ k,k<n→2*(a+k*(a+bbit a k+1)+bbit a k)+1≤1000000000000) :
  SpecR Tryz.prog Yfi (pre++matH o n M) [.osl none o 0 n,.sl (condsR r)] (.sl (condsR (bsub (tri n 0 (aug M r) 1).2 n n))) (pre++heapT o n (tri n 0 (aug M r) 1).2):=by
 have hAl:(aug M r).length=n:=by rw [Z04 (by omega),hM]
 have ht:=Xhv ho hp hAl hnl (Yi0 hW) hB hk1 hk hns
 have hl:(tri n 0 (aug M r) 1).2.length=n:=by rw [Yig,hAl]
 have hL0:(pre++matH o n M).length=o+(1+2*n):=by rw [List.length_append,Zbe,hM,ho]
 refine Ytm Ybd (by simp) (Zcx 5 rfl ?_)
 unfold Z5j
 simp only [go_sem,Zq9,Zrn]
 refine Zas [(0,.osl none o 0 n),(1,.sl (condsR r)),(12,.int .i64 (n:Int)),(13,.int .i64 0)] (by simp only [go_sem]) ?_
 refine Xdx ho hM hr hW (by omega) (fun e h0=>?_)
 rw [Yvz hM hr]
 simp only [go_sem,Zq6,h0]
 refine Zrs ht ?_
 generalize hA:(tri n 0 (aug M r) 1).2=A at *
 obtain ⟨f0,f1⟩:=Yx2 (pre:=pre) (o:=o) (n:=n) (A:=A) ho hl
 have hLT:(pre++heapT o n A).length=o+1+4*n:=by rw [List.length_append,Y1t hl,ho]; omega
 have hclo:=Ymp (pre:=pre) (o:=o) (n:=n) (m:=o+1+4*n) (A:=A) hp (Nat.le_refl _)
 have hclo1:=Ymp (pre:=pre) (o:=o) (n:=n) (m:=o+1+4*n+1) (A:=A) hp (Nat.le_succ _)
 generalize pre++heapT o n A=HT at *
 have hsz:((64:Nat):Int)*(n:Int)≤281474976710656:=by omega
 have z0:(0:Int)≤(n:Int):=by omega
 have e2:IntKind.i64.wrap ((n:Int) - 1)=(n:Int) - 1:=Zac (by omega) (by omega)
 simp only [go_sem,Zq0,Zrq,Znr,h0,hsz,z0,e2,hLT,Int.toNat_natCast,Int.le_refl]
 have hrows:(List.replicate n [AV.bool false,.nils,.bool false,.nils]).flatten=rows n z4:=rfl
 rw [hrows]
 refine Zas [(0,.osl none o 0 n),(6,.int .i64 (n:Int)),(7,.osl (some 4) (o+1+4*n) 0 n),(8,.int .i64 ((n:Int) - 1))] (by simp only [go_sem,h0]) ?_
 refine Xex (a:=a) hLT hclo1 (by rw [hL0]; omega) (by omega) f0 f1 hl (by omega) hW' hB' hpv hka (fun e k7=>?_)
 show T Tryz.prog 83 _ (.seq (.rg false Zg2) .ret) _ _
 have hx:(bsub A n n).length=n:=Zfp n
 have hbv:=Yau (H:=HT ++ [.cells (qc (bsub A n n))]) (ids := [o+1+4*n]) (b:=o+1+4*n) (r:=bsub A n n) (by rw [List.getElem?_append_right (by omega),hLT,Nat.sub_self]; rfl) (by simp)
 rw [hx] at hbv
 refine T_le (Ztp [o+1+4*n] [(7,.sl (condsR (bsub A n n)))] ⟨.inl (by show BV _ _ (e 7) _; rw [k7]; exact hbv),trivial⟩) (T_W ?_)
 have hkill:kill [o+1+4*n] (HT ++ [Blk.cells (qc (bsub A n n))])=HT ++ [.dead]:=by
  show List.set _ (o+1+4*n) Blk.dead=_
  rw [List.set_append_right _ _ (by omega),hLT,Nat.sub_self]; rfl
 rw [hkill]
 simp only [go_sem,Zg2]
 refine ⟨rfl,_,Zt7 hLT hclo (by rw [hL0]; omega) [] trivial (fun p hp=>by simp at hp),rfl⟩
end GoAbs
namespace GoAbs
open Go Go.Proofs
theorem LessB.pure {H1 H0:Heap}(h:LessB H1 H0) (hp:PureH H0):PureH H1:=fun f=>by
 refine List.ext_getElem? fun i=>?_
 rw [List.getElem?_map]
 rcases h.2 i with g | g
 ·rw [g]
  have:=congrArg (fun l:Heap=>l[i]?) (hp f)
  simp only [List.getElem?_map] at this
  exact this
 ·rw [g]; rfl
theorem Yt3 {r:List Rat}:(condsR r).flatMap AV.cells=qc r:=by
 unfold condsR qc; rw [List.flatMap_map]; rfl
theorem PureH.append {A B:Heap}(h:PureH A) (k:PureH B):PureH (A++B):=fun f=>by rw [List.map_append,h f,k f]
theorem Yk0 {m k a:Nat}{E:List Sp}{f:List Rat}(hm:1≤m) (hml:m<100) {kE:Nat}(hE:∀ e,e∈E→e.1<m+1∧e.2.1<m+1∧Qb kE e.2.2) (hkE:1≤kE) (hEl:E.length≤1000) (hKE:kE+E.length*(4*(kE+1))≤10000000000) (hf:f.length=m+1)
  (hB:Mb k (aug (lapl m E) (f.drop 1))) (hk1:1≤k) (hk:9 ^ m*k≤100000000000) (hns:NoSw m 0 (aug (lapl m E) (f.drop 1)))
  (hB':Mb a (tri m 0 (aug (lapl m E) (f.drop 1)) 1).2) (hW':Wid (m+1) (tri m 0 (aug (lapl m E) (f.drop 1)) 1).2) (hpv:∀ i,i<m→rget ((tri m 0 (aug (lapl m E) (f.drop 1)) 1).2.getD i []) i≠0)
  (hka:∀ k,k<m→2*(a+k*(a+bbit a k+1)+bbit a k)+1≤1000000000000) :
  SpecV Tryz.prog Zw8 [.agg (netC (m+1) E),.sl (condsR f)] (.sl (condsR (0::bsub (tri m 0 (aug (lapl m E) (f.drop 1)) 1).2 m m))):=by
 have hmx:Tryz.prog.follows .mixedOrders=true:=by kernel_rfl
 have hnet:=Yrm (n:=m+1) (k:=kE) (E:=E) (by omega) (by omega) hE hkE hEl hKE
 rw [Nat.add_sub_cancel] at hnet
 have hfd:(f.drop 1).length=m:=by rw [List.length_drop]; omega
 have hslc:(condsR f).drop 1=condsR (f.drop 1):=by unfold condsR; rw [List.map_drop]
 obtain ⟨lW,lL⟩:=Zdl (m:=m) (E:=E)
 have hsol:=fun (pre:Heap) (ho:pre.length=4) (hp:PureH pre)=>Yw5 (pre:=pre) (o:=4) (n:=m) (k:=k) (M:=lapl m E) (r:=f.drop 1) ho hp lL hfd (by omega) lW hB hk1 hk hns hB' hW' hpv hka
 generalize f.drop 1=r at *
 generalize (tri m 0 (aug (lapl m E) r) 1).2=A at *
 have hxl:(bsub A m m).length=m:=Zfp m
 generalize bsub A m m=x at *
 have hcl:(condsR f).length=m+1:=by rw [Z6o,hf]
 have hxc:(condsR x).length=m:=by rw [Z6o,hxl]
 obtain ⟨nc,hnc⟩:∃ nc,nc=netC (m+1) E:=⟨_,rfl⟩
 have hnl3:nc.length=3:=by rw [hnc]; rfl
 have hnt3:nc.take 3=nc:=by rw [hnc]; rfl
 refine Zad Yoh (by simp) ?_
 unfold Yj5
 rw [← hnc]
 have z0:=Yqu
 have one1:(1:Nat)≤m+1:=by omega
 have sz:(1+m)*64≤1099511627776:=by omega
 simp only [go_sem,Z9g,Zv7,hmx]
 refine Zaa z0 (by simp only [go_sem]) ?_
 simp only [go_sem,Zcv,Zai,hnl3,hnt3]
 have hH0:PureH [Blk.cells nc,.cells (qcell 0),.unborn]:=fun f=>by rw [hnc]; rfl
 have hgcn:∀ f,gcL f nc=nc:=fun f=>by rw [hnc]; rfl
 have c4:∀ y,y∈condsR f→y.cells.length=4:=fun y hy=>by obtain ⟨q,_,rfl⟩:=List.mem_map.1 hy; rfl
 have c4x:∀ y,y∈condsR x→y.cells.length=4:=fun y hy=>by obtain ⟨q,_,rfl⟩:=List.mem_map.1 hy; rfl
 refine Y8n (H0 := [.cells nc,.cells (qcell 0),.unborn]) (K := []) (K' := [.cells nc]++matH 4 m (lapl m E)) (v := .osl none 4 0 m) rfl rfl (fun H1 h1=>?_) ?_
 ·have hl:H1.length=3:=h1.1
  have:=Zj0 (H:=H1) hnet (by unfold netC; simp only [go_sem])
  rw [← hnc,List.map_append,hl,Yos] at this
  have e1:(AV.osl none 1 0 m).gc (fun i=>some (i+3)) = .osl none 4 0 m:=rfl
  have e2 : [Blk.cells nc].map (Blk.gc (fun i=>some (i+3))) = [.cells nc]:=by
   simp only [List.map_cons,List.map_nil,Blk.gc,hgcn]
  rw [e1,e2] at this
  rw [List.append_nil]
  exact this
 have htk:(condsR f).take (m+1)=condsR f:=List.take_of_length_le (by omega)
 simp only [go_sem,hcl,htk,hslc,one1,Nat.le_refl]
 refine ⟨c4,Y8n (H0 := [.cells nc,.cells (qcell 0),.unborn]) (K := [.cells nc]++matH 4 m (lapl m E)) (K' := [.cells nc]++heapT 4 m A) (v := .sl (condsR x)) rfl rfl (fun H1 h1=>?_) ?_⟩
 ·have hl:H1.length=3:=h1.1
  have:=hsol (H1 ++ [.cells nc]) (by rw [List.length_append,hl]; rfl) ((h1.pure hH0).append (fun f=>by simp only [List.map_cons,List.map_nil,Blk.gc,hgcn]))
  rw [List.append_assoc,List.append_assoc] at this
  exact this
 simp only [go_sem,hxc,sz,Yt3,Zai,Nat.le_refl]
 refine ⟨c4x,?_⟩
 have h0x:(0::x).length=1+m:=by rw [List.length_cons,hxl]; omega
 rw [← h0x]
 refine Yau rfl (List.mem_range.2 (by simp))
end GoAbs
namespace GoAbs
open Go Go.Proofs
def bc (s:List Bool):List AV:=s.map AV.bool
theorem Yf4 (s:List Bool):(bc s).length=s.length:=by simp [bc]
theorem Yg6 {s:List Bool}{i:Nat}{b:Bool}(h:s[i]? = some b):(bc s)[i]? = some (.bool b):=by simp [bc,h]
theorem Y14 {s:List Bool}{i:Nat}{b:Bool}(h:i<s.length):(bc s).take i ++ .bool b::(bc s).drop (i+1)=bc (s.set i b):=by
 unfold bc
 rw [List.map_set,List.set_eq_take_append_cons_drop,if_pos (by simpa using h)]
theorem bc_set' {s:List Bool}{i:Nat}{b:Bool}(h:i<s.length):(bc s).take i ++ [.bool b]++(bc s).drop (i+1)=bc (s.set i b):=by
 rw [← Y14 h]; simp
theorem Xho {f:Nat→Option Nat}{s:List Bool}:gcL f (bc s)=bc s:=by
 rw [Zau]; unfold bc; rw [List.map_map]; rfl
theorem Xht {H:Heap}{ids:List Nat}{b:Nat}{s:List Bool}(hb:H[b]? = some (.cells (bc s))) (hi:b∈ids):BV H ids (.osl none b 0 s.length) (.sl (bc s)):=by
 refine .osl none b 0 s.length (bc s) (bc s) hb hi (Yf4 s) (fun x hx=>?_) (by rw [Yf4]; simp [es]) (fun i x j y z hx hy hz=>?_)
 ·obtain ⟨c,_,rfl⟩:=List.mem_map.1 hx; rfl
 ·obtain ⟨c,_,rfl⟩:=List.mem_map.1 (List.mem_of_getElem? hx)
  have hj:j=0:=by
   have:=(List.getElem?_eq_some_iff.1 hy).1
   simp [AV.cells] at this; omega
  subst hj
  simp [AV.cells] at hy
  subst hy
  simp [es] at hz
  rw [hx] at hz
  cases hz
  exact .bool _
def bget (s:List Bool) (i:Nat):Bool:=s.getD i false
theorem Zf6 {s:List Bool}{i:Nat}(h:i<s.length):s[i]? = some (bget s i):=by
 unfold bget; rw [List.getD_eq_getElem?_getD,List.getElem?_eq_getElem h]; rfl
def seeA (a b:Nat) (s:List Bool):List Bool:=s.set a (bget s a || bget s b)
def seeE (s:List Bool) (e:Sp):List Bool:=seeA e.2.1 e.1 (seeA e.1 e.2.1 s)
theorem Z3x {a b:Nat}{s:List Bool}:(seeA a b s).length=s.length:=by simp [seeA]
theorem Z2x {s:List Bool}{e:Sp}:(seeE s e).length=s.length:=by simp [seeE,Z3x]
theorem Yst {E:List Sp}:∀ {s:List Bool},(E.foldl seeE s).length=s.length:=by
 induction E with
 | nil=>intro s; rfl
 | cons e E ih=>intro s; rw [List.foldl_cons,ih,Z2x]
def seeN (E:List Sp):Nat→List Bool→List Bool
 | 0,s=>s
 | k+1,s=>E.foldl seeE (seeN E k s)
theorem Zli {E:List Sp}{s:List Bool}:∀ {k:Nat},(seeN E k s).length=s.length
 | 0=>rfl
 | k+1=>by unfold seeN; rw [Yst,Zli]
def start (n:Nat):List Bool:=(List.replicate n false).set 0 true
def connB (n:Nat) (E:List Sp):Bool:=(seeN E n (start n)).all id
theorem Xeu {nt n0:Nat}{e:Nat→AV}{nc:List AV}{Q:Ex→St→Prop}{s:List Bool}{n a b:Nat}(hs:s.length=n) (e3:e 3 = .osl none 1 0 n) (e5:e 5 = .ptr 2 0) (ha:a<n) (hb:b<n)
  (hQ:∀ e',e' 1=e 1→e' 3=e 3→e' 5=e 5→e' 12=e 12→e' 13=e 13→e' 16=e 16→e' 17=e 17→e' 18=e 18→Q .normal ⟨e',[.cells nc,.cells (bc (seeA a b s)),.cells [.int .i64 (a:Int),.int .i64 (b:Int)]]⟩) :
  T Tryz.prog nt n0 (.rg true Zb5) ⟨e,[.cells nc,.cells (bc s),.cells [.int .i64 (a:Int),.int .i64 (b:Int)]]⟩ Q:=by
 have hm:Tryz.prog.follows .mixedOrders=true:=by kernel_rfl
 have a0:(0:Int)≤(a:Int):=by omega
 have a1:(a:Int)<(n:Int):=by omega
 have b0:(0:Int)≤(b:Int):=by omega
 have b1:(b:Int)<(n:Int):=by omega
 have ga:=Yg6 (Zf6 (s:=s) (i:=a) (by omega))
 have gb:=Yg6 (Zf6 (s:=s) (i:=b) (by omega))
 have fit:a+1≤(bc s).length:=by rw [Yf4]; omega
 have hset:=fun v=>bc_set' (s:=s) (i:=a) (b:=v) (by omega)
 have hset2:=fun v=>Y14 (s:=s) (i:=a) (b:=v) (by omega)
 refine T_W ?_
 unfold seeA at hQ
 generalize bget s a=u at *
 generalize bget s b=v at *
 cases u with
 | true =>
  simp only [go_sem,Zb5,e3,e5,a0,a1,b0,b1,ga,gb,fit,hset,hset2,List.getElem?_drop,hm]
  exact hQ _ (by simp only [go_sem]) (by simp only [go_sem]) (by simp only [go_sem]) (by simp only [go_sem]) (by simp only [go_sem]) (by simp only [go_sem]) (by simp only [go_sem]) (by simp only [go_sem])
 | false =>
  simp only [go_sem,Zb5,e3,e5,a0,a1,b0,b1,ga,gb,fit,hset,hset2,List.getElem?_drop,hm]
  exact hQ _ (by simp only [go_sem]) (by simp only [go_sem]) (by simp only [go_sem]) (by simp only [go_sem]) (by simp only [go_sem]) (by simp only [go_sem]) (by simp only [go_sem]) (by simp only [go_sem])
theorem Xa7 {nt n0:Nat}{e:Nat→AV}{nc:List AV}{Q:Ex→St→Prop}{s:List Bool}{n a b:Nat}(hs:s.length=n) (e3:e 3 = .osl none 1 0 n) (e5:e 5 = .ptr 2 0) (ha:a<n) (hb:b<n)
  (hQ:∀ e',e' 1=e 1→e' 3=e 3→e' 5=e 5→e' 12=e 12→e' 13=e 13→e' 16=e 16→e' 17=e 17→e' 18=e 18→Q .normal ⟨e',[.cells nc,.cells (bc (seeA b a s)),.cells [.int .i64 (a:Int),.int .i64 (b:Int)]]⟩) :
  T Tryz.prog nt n0 (.rg true Zbx) ⟨e,[.cells nc,.cells (bc s),.cells [.int .i64 (a:Int),.int .i64 (b:Int)]]⟩ Q:=by
 have hm:Tryz.prog.follows .mixedOrders=true:=by kernel_rfl
 have a0:(0:Int)≤(a:Int):=by omega
 have a1:(a:Int)<(n:Int):=by omega
 have b0:(0:Int)≤(b:Int):=by omega
 have b1:(b:Int)<(n:Int):=by omega
 have ga:=Yg6 (Zf6 (s:=s) (i:=a) (by omega))
 have gb:=Yg6 (Zf6 (s:=s) (i:=b) (by omega))
 have fit:b+1≤(bc s).length:=by rw [Yf4]; omega
 have hset:=fun v=>bc_set' (s:=s) (i:=b) (b:=v) (by omega)
 have hset2:=fun v=>Y14 (s:=s) (i:=b) (b:=v) (by omega)
 refine T_W ?_
 unfold seeA at hQ
 generalize bget s a=u at *
 generalize bget s b=v at *
 cases v with
 | true =>
  simp only [go_sem,Zbx,e3,e5,a0,a1,b0,b1,ga,gb,fit,hset,hset2,List.getElem?_drop,hm]
  exact hQ _ (by simp only [go_sem]) (by simp only [go_sem]) (by simp only [go_sem]) (by simp only [go_sem]) (by simp only [go_sem]) (by simp only [go_sem]) (by simp only [go_sem]) (by simp only [go_sem])
 | false =>
  simp only [go_sem,Zbx,e3,e5,a0,a1,b0,b1,ga,gb,fit,hset,hset2,List.getElem?_drop,hm]
  exact hQ _ (by simp only [go_sem]) (by simp only [go_sem]) (by simp only [go_sem]) (by simp only [go_sem]) (by simp only [go_sem]) (by simp only [go_sem]) (by simp only [go_sem]) (by simp only [go_sem])
theorem Xf9 {nc:List AV}{E:List Sp}{s:List Bool}{n:Nat}{N0 i0:Int}(hs:s.length=n) (hE:∀ e,e∈E→e.1<n∧e.2.1<n) (hg:∀ f,gcL f nc=nc) (hEl:E.length≤1000000000) {K:Ex→St→Prop}
  (hK:∀ e:Nat→AV,e 1 = .ptr 0 0→e 3 = .osl none 1 0 n→e 12 = .int .i64 N0→e 13 = .int .i64 i0→K (.exit 2) ⟨e,[.cells nc,.cells (bc (E.foldl seeE s))]⟩) :
  T Tryz.prog 59 0 (.loop Zgw) ⟨envL [(1,.ptr 0 0),(3,.osl none 1 0 n),(12,.int .i64 N0),(13,.int .i64 i0),(16,.sl (pairsL E)),(17,.int .i64 (E.length:Int)),(18,.int .i64 0)],[.cells nc,.cells (bc s)]⟩ K:=by
 refine Z47 (fun k:Nat=>⟨envL [(1,.ptr 0 0),(3,.osl none 1 0 n),(12,.int .i64 N0),(13,.int .i64 i0),(16,.sl (pairsL E)),(17,.int .i64 (E.length:Int)),(18,.int .i64 (k:Int))],[.cells nc,.cells (bc ((E.take k).foldl seeE s))]⟩)
  (fun k=>k≤E.length) (fun k=>E.length - k) 0 (by omega) (Zab _ (by simp only [go_sem]; simp)) (fun k hk N hN=>?_)
 unfold Zgw
 by_cases hkn:k<E.length
 ·obtain ⟨⟨a,b,c⟩,he⟩:∃ e,E[k]? = some e:=⟨_,List.getElem?_eq_getElem hkn⟩
  obtain ⟨ha,hb⟩:=hE _ (List.mem_of_getElem? he)
  simp only at ha hb
  have hps:(pairsL E)[k]? = some (.agg [.int .i64 (a:Int),.int .i64 (b:Int)]):=by unfold pairsL; rw [List.getElem?_map,he]; rfl
  have q0:(0:Int)≤(k:Int):=by omega
  have q1:(k:Int)<(E.length:Int):=by omega
  have e1:IntKind.i64.wrap ((k:Int)+1)=((k+1:Nat):Int):=by rw [Zac (by omega) (by omega)]; omega
  have hstep:(E.take (k+1)).foldl seeE s=seeA b a (seeA a b ((E.take k).foldl seeE s)):=by
   rw [List.take_add_one,he,List.foldl_append]; rfl
  have hsl:((E.take k).foldl seeE s).length=n:=by rw [Yst,hs]
  generalize (E.take k).foldl seeE s=u at *
  refine Zcx 1 rfl ?_
  simp only [go_sem,Zg5,q1]
  refine Zds (Zet (Zcx 0 rfl ?_))
  simp only [go_sem,Znn,q0,hps]
  refine Zds (Xeu (n:=n) hsl (by simp only [go_sem]) (by simp only [go_sem]) ha hb (fun e' h1 h3 h5 h12 h13 h16 h17 h18=>?_))
  simp only [go_sem] at h1 h3 h5 h12 h13 h16 h17 h18
  refine Xa7 (n:=n) (by rw [Z3x,hsl]) h3 h5 ha hb (fun e2 k1 k3 k5 k12 k13 k16 k17 k18=>?_)
  refine T_W ?_
  simp only [go_sem,Zlb,k18,h18,e1]
  refine hN (k+1) _ (by omega) (by omega) (Zcj (Zjv [0,1] (by decide) (fun i hi=>by omega) [(1,.ptr 0 0),(3,.osl none 1 0 n),(12,.int .i64 N0),(13,.int .i64 i0),(16,.sl (pairsL E)),(17,.int .i64 (E.length:Int)),(18,.int .i64 ((k+1:Nat):Int))] (by simp only [go_sem,k1,k3,k12,k13,k16,k17,h1,h3,h12,h13,h16,h17])) ?_)
  show St.mk _ [Blk.cells (gcL _ nc),Blk.cells (gcL _ (bc _))]=_
  rw [hg,Xho,hstep]
  rfl
 ·have hke:k=E.length:=by omega
  subst hke
  have q1:¬ ((E.length:Nat):Int)<(E.length:Int):=by omega
  refine T_W ?_
  simp only [go_sem,Zg5,q1,List.take_length]
  exact hK _ (by simp only [go_sem]) (by simp only [go_sem]) (by simp only [go_sem]) (by simp only [go_sem])
theorem Yoq {s:List Bool}(hl:s.length≤1000000000):∃ j:Int,SpecV Tryz.prog Ye7 [.sl (bc s),.bool false] (.int .i64 j)∧(0≤j↔s.all id=false):=by
 have key:∃ j:Int,(0≤j↔s.all id=false)∧((j = -1∧∀ i:Nat,i<s.length→s[i]? = some true)∨∃ i:Nat,j=(i:Int)∧s[i]? = some false∧∀ i':Nat,i'<i→s[i']? = some true):=by
  clear hl
  induction s with
  | nil=>exact ⟨-1,by simp,.inl ⟨rfl,fun i hi=>by simp at hi⟩⟩
  | cons b s ih =>
   cases b with
   | false=>exact ⟨0,by simp,.inr ⟨0,rfl,rfl,fun i' hi'=>by omega⟩⟩
   | true =>
    obtain ⟨j,h1,h2⟩:=ih
    rcases h2 with ⟨rfl,h2⟩ | ⟨i,rfl,h2,h3⟩
    ·refine ⟨-1,by simpa using h1,.inl ⟨rfl,fun i hi=>?_⟩⟩
     cases i with
     | zero=>rfl
     | succ i=>simpa using h2 i (by simpa using hi)
    ·refine ⟨((i+1:Nat):Int),?_,.inr ⟨i+1,rfl,by simpa using h2,fun i' hi'=>?_⟩⟩
     ·have:s.all id=false:=h1.1 (by omega)
      simp [this]; omega
     ·cases i' with
      | zero=>rfl
      | succ i'=>simpa using h3 i' (by omega)
 obtain ⟨j,h1,h2⟩:=key
 refine ⟨j,?_,h1⟩
 refine Zad Ycu (by simp) ?_
 unfold Z14
 simp only [go_sem,Zrp,Zri,Yf4]
 refine Zae (fun i:Nat=>⟨envL [(0,.sl (bc s)),(1,.bool false),(7,.int .i64 (s.length:Int)),(8,.int .i64 (i:Int))],[]⟩) (fun i=>i≤s.length∧∀ i':Nat,i'<i→s[i']? = some true) (fun i=>s.length - i) 0 ⟨by omega,fun i' hi'=>by omega⟩ (Zab _ (by simp only [go_sem]; simp)) (fun i hI N hN=>?_)
 obtain ⟨g1,g2⟩:=hI
 unfold Zrf
 by_cases hi:i<s.length
 ·have q0:(0:Int)≤(i:Int):=by omega
  have q1:(i:Int)<(s.length:Int):=by omega
  have e1:IntKind.i64.wrap ((i:Int)+1)=((i+1:Nat):Int):=by rw [Zac (by omega) (by omega)]; omega
  have gi:=Zf6 hi
  cases hb:bget s i with
  | true =>
   rw [hb] at gi
   simp only [go_sem,Zem,Zij,Zip,Zq3,q0,q1,Yg6 gi,e1]
   exact hN (i+1) _ ⟨by omega,fun i' hi'=>by
    by_cases h:i'=i
    ·rw [h]; exact gi
    ·exact g2 i' (by omega)⟩ (by omega) (Zab _ (by simp only [go_sem]))
  | false =>
   rw [hb] at gi
   have hj:j=(i:Int):=by
    rcases h2 with ⟨_,h2⟩ | ⟨i2,rfl,h3,h4⟩
    ·have:=h2 i hi; rw [gi] at this; cases this
    ·have:i2=i:=by
      rcases Nat.lt_trichotomy i2 i with h | h | h
      ·have:=g2 i2 h; rw [h3] at this; cases this
      ·exact h
      ·have:=h4 i h; rw [gi] at this; cases this
     rw [this]
   rw [hj]
   simp only [go_sem,Zem,Zij,Zip,Zqy,q0,q1,Yg6 gi]
 ·have hie:i=s.length:=by omega
  subst hie
  have q1:¬ ((s.length:Nat):Int)<(s.length:Int):=by omega
  have hj:j = -1:=by
   rcases h2 with ⟨h2,_⟩ | ⟨i2,rfl,h3,h4⟩
   ·exact h2
   ·have:=g2 i2 (List.getElem?_eq_some_iff.1 h3).1
    rw [h3] at this; cases this
  rw [hj]
  simp only [go_sem,Zem,Zq8,q1]
theorem Yex {s:List Bool}(hl:s.length≤1000000000):SpecV Tryz.prog Z6y [.sl (bc s),.bool false] (.bool (!s.all id)):=by
 obtain ⟨j,h1,h2⟩:=Yoq hl
 refine Zad Z5h (by simp) ?_
 unfold Zq7
 simp only [go_sem,Zku,Zk8]
 refine Zaa h1 (by simp only [go_sem]) ?_
 cases ha:s.all id with
 | true =>
  have q:¬ (0:Int)≤j:=fun h=>by rw [h2.1 h] at ha; cases ha
  simp only [go_sem,q,Bool.not_true]
 | false =>
  have q:(0:Int)≤j:=h2.2 ha
  simp only [go_sem,q,Bool.not_false]
theorem Zyi {n:Nat}{E:List Sp}(hn:1≤n) (hnl:n≤1000000) (hE:∀ e,e∈E→e.1<n∧e.2.1<n) (hEl:E.length≤1000000000):SpecV Tryz.prog Ycs [.agg (netC n E)] (.bool (connB n E)):=by
 obtain ⟨nc,hnc⟩:∃ nc,nc=netC n E:=⟨_,rfl⟩
 have hg:∀ f,gcL f nc=nc:=fun f=>by rw [hnc]; rfl
 have hpl:(pairsL E).length=E.length:=by simp [pairsL]
 have hbl:(bc (start n)).length=n:=by rw [Yf4]; simp [start]
 have hst:(List.replicate n [AV.bool false]).flatten.take 0 ++ [AV.bool true]++(List.replicate n [AV.bool false]).flatten.drop 1=bc (start n):=by
  have h1:∀ k:Nat,(List.replicate k [AV.bool false]).flatten=bc (List.replicate k false):=by
   intro k
   induction k with
   | zero=>rfl
   | succ k ih=>rw [List.replicate_succ,List.flatten_cons,ih]; rfl
  rw [h1]
  exact bc_set' (s:=List.replicate n false) (i:=0) (b:=true) (by simp; omega)
 have hrl:((List.replicate n [AV.bool false]).flatten).length=n:=by simp
 refine Zad Yam (by simp) ?_
 unfold Zyh
 have hsz:((1:Nat):Int)*(n:Int)≤281474976710656:=by omega
 have z0:(0:Int)≤(n:Int):=by omega
 have z1:(0:Int)<(n:Int):=by omega
 simp only [go_sem,Zm8,Zm1,Zni,Zm7,netC,hsz,z0,z1,Int.le_refl,Int.toNat_natCast,hrl]
 refine ⟨hn,?_⟩
 have hst':AV.bool true::(List.replicate n [AV.bool false]).flatten.drop 1=bc (start n):=by rw [← hst]; simp
 rw [hst']
 refine Zae (fun k:Nat=>⟨envL [(1,.ptr 0 0),(3,.osl none 1 0 n),(12,.int .i64 (n:Int)),(13,.int .i64 (k:Int))],[.cells nc,.cells (bc (seeN E k (start n)))]⟩)
  (fun k=>k≤n) (fun k=>n - k) 0 (by omega) (Zcj (Zab [(1,.ptr 0 0),(3,.osl none 1 0 n),(12,.int .i64 (n:Int)),(13,.int .i64 0)] (by simp only [go_sem])) (by rw [hnc]; rfl)) (fun k hk N hN=>?_)
 unfold Znl
 have hsl:(seeN E k (start n)).length=n:=by rw [Zli]; simp [start]
 by_cases hkn:k<n
 ·have q1:(k:Int)<(n:Int):=by omega
  have e1:IntKind.i64.wrap ((k:Int)+1)=((k+1:Nat):Int):=by rw [Zac (by omega) (by omega)]; omega
  have hnc1:nc.drop 1 = [.sl (pairsL E),.sl (condsL E)]:=by rw [hnc]; rfl
  simp only [go_sem,Zg6,Zne,q1,hnc1,hpl]
  refine Zas [(1,.ptr 0 0),(3,.osl none 1 0 n),(12,.int .i64 (n:Int)),(13,.int .i64 (k:Int)),(16,.sl (pairsL E)),(17,.int .i64 (E.length:Int)),(18,.int .i64 0)] (by simp only [go_sem]) ?_
  refine Xf9 hsl hE hg hEl (fun e h1 h3 h12 h13=>?_)
  simp only [go_sem,Zlr,h13,e1]
  exact hN (k+1) _ (by omega) (by omega) (Zab _ (by simp only [go_sem,h1,h3,h12]))
 ·have hke:k=n:=by omega
  subst hke
  have q1:¬ ((k:Nat):Int)<(k:Int):=by omega
  simp only [go_sem,Zg6,Zlp,q1]
  have hbv:BVs [.cells nc,.cells (bc (seeN E k (start k)))] [1] [.osl none 1 0 k,.bool false] [.sl (bc (seeN E k (start k))),.bool false]:=by
   refine .cons ?_ (.cons (.bool _) .nil)
   have:=Xht (H := [.cells nc,.cells (bc (seeN E k (start k)))]) (ids := [1]) (b:=1) (s:=seeN E k (start k)) rfl (by simp)
   rwa [hsl] at this
  refine Zkw (Yex (by omega)) hbv (.inr (.bool _)) (fun _ _=>trivial) ?_
  simp only [go_sem,Bool.not_not]
  rfl
end GoAbs
namespace GoAbs
open Go Go.Proofs
abbrev netZ:List AV := [.int .i64 0,.nils,.nils]
theorem Y4v {n a b e:Int}{L:List Spr}(hL:L.length≤1000000000) (hl:∀ s,s∈L→s.2.2.length≤1000000000) (h:readR n L = .tup [.agg [.int .i64 0,.nils,.nils],.int .i64 e]) (he:e≠0) :
  SpecV Tryz.prog Zbb [.int .i64 n,.sl (L.map sprAV),.int .i64 a,.int .i64 b] (.tup [.agg netZ,.nils,.int .i64 e]):=by
 have hs:=Zhy (n:=n) hL hl
 rw [h] at hs
 refine Zad Zhn (by simp) ?_
 unfold Zhx
 simp only [go_sem,Zc4,Zc6]
 refine Zaa hs (by simp only [go_sem]) ?_
 simp only [go_sem,Za6,Zt9,he]
theorem Y4r {n a b:Int}{L:List Spr}{nc:List AV}(hL:L.length≤1000000000) (hl:∀ s,s∈L→s.2.2.length≤1000000000) (h:readR n L = .tup [.agg nc,.int .i64 0]) (hn3:nc.length=3) (hb:¬ EndsOk n a b) :
  SpecV Tryz.prog Zbb [.int .i64 n,.sl (L.map sprAV),.int .i64 a,.int .i64 b] (.tup [.agg netZ,.nils,.int .i64 1]):=by
 have hs:=Zhy (n:=n) hL hl
 rw [h] at hs
 refine Zad Zhn (by simp) ?_
 unfold Zhx
 have t3:nc.drop 3 = []:=List.drop_eq_nil_of_le (by omega)
 simp only [go_sem,Zc4,Zc6]
 refine Zaa hs (by simp only [go_sem]) ?_
 have main:(¬ a<0∧¬ n≤a∧¬ b<0∧¬ n≤b∧a=b)∨(¬ a<0∧¬ n≤a∧¬ b<0∧n≤b)∨(¬ a<0∧¬ n≤a∧b<0)∨(¬ a<0∧n≤a)∨a<0:=by
  unfold EndsOk at hb; omega
 rcases main with ⟨h1,h2,h3,h5,h6⟩ | ⟨h1,h2,h3,h5⟩ | ⟨h1,h2,h3⟩ | ⟨h1,h2⟩ | h1
 ·subst h6
  simp only [go_sem,Za6,Zbc,Zb8,hn3,t3,h1,h2,h3,h5]
 ·simp only [go_sem,Za6,Zbc,Zb8,hn3,t3,h1,h2,h3,h5]
 ·simp only [go_sem,Za6,Zbc,Zb8,hn3,t3,h1,h2,h3]
 ·simp only [go_sem,Za6,Zbc,Zb8,hn3,t3,h1,h2]
 ·simp only [go_sem,Za6,Zbc,Zb8,hn3,t3,h1]
theorem Yzy {n:Nat}{a b:Int}{L:List Spr}{E:List Sp}(hL:L.length≤1000000000) (hl:∀ s,s∈L→s.2.2.length≤1000000000) (h:readR n L = .tup [.agg (netC n E),.int .i64 0]) (hab:EndsOk n a b)
  (hn:1≤n) (hnl:n≤1000000) (hE:∀ e,e∈E→e.1<n∧e.2.1<n) (hEl:E.length≤1000000000) (hc:connB n E=false) :
  SpecV Tryz.prog Zbb [.int .i64 (n:Int),.sl (L.map sprAV),.int .i64 a,.int .i64 b] (.tup [.agg netZ,.nils,.int .i64 5]):=by
 have hs:=Zhy (n:=n) hL hl
 rw [h] at hs
 have hcon:=Zyi hn hnl hE hEl
 rw [hc] at hcon
 obtain ⟨nc,hnc⟩:∃ nc,nc=netC n E:=⟨_,rfl⟩
 have hn3:nc.length=3:=by rw [hnc]; rfl
 have t3:nc.drop 3 = []:=by rw [hnc]; rfl
 have k3:nc.take 3=nc:=by rw [hnc]; rfl
 have hbv:∀ (H:Heap) (ids:List Nat),BVs H ids nc nc=True:=fun H ids=>by rw [hnc]; unfold netC; simp only [go_sem]
 rw [← hnc] at hs hcon
 obtain ⟨h1,h2,h3,h5,h6⟩:=hab
 have p1:¬ a<0:=by omega
 have p2:¬ (n:Int)≤a:=by omega
 have p3:¬ b<0:=by omega
 have p5:¬ (n:Int)≤b:=by omega
 refine Zad Zhn (by simp) ?_
 unfold Zhx
 simp only [go_sem,Zc4,Zc6]
 refine Zaa hs (by simp only [go_sem]) ?_
 simp only [go_sem,Za6,Zbc,Zj4,hn3,t3,k3,p1,p2,p3,p5,h6]
 refine Zaa hcon (by simp only [go_sem,hbv]) ?_
 simp only [go_sem,Bool.not_false,Zwj]
def unitF (n a b:Nat):List Rat:=((List.replicate n (0:Rat)).set a 1).set b (-1)
theorem Zd2 {n a b:Nat}:(unitF n a b).length=n:=by simp [unitF]
theorem Yy4 {n a b:Nat}{L:List Spr}{E:List Sp}{x:List Rat}(hL:L.length≤1000000000) (hl:∀ s,s∈L→s.2.2.length≤1000000000) (h:readR n L = .tup [.agg (netC n E),.int .i64 0]) (ha:a<n) (hb:b<n) (hab:a≠b)
  (hn:1≤n) (hnl:n≤1000000) (hE:∀ e,e∈E→e.1<n∧e.2.1<n) (hEl:E.length≤1000000000) (hc:connB n E=true) (hmv:SpecV Tryz.prog Zw8 [.agg (netC n E),.sl (condsR (unitF n a b))] (.sl (condsR x))) :
  SpecV Tryz.prog Zbb [.int .i64 (n:Int),.sl (L.map sprAV),.int .i64 (a:Int),.int .i64 (b:Int)] (.tup [.agg (netC n E),.sl (condsR x),.int .i64 0]):=by
 have hmx:Tryz.prog.follows .mixedOrders=true:=by kernel_rfl
 have hs:=Zhy (n:=n) hL hl
 rw [h] at hs
 have hcon:=Zyi hn hnl hE hEl
 rw [hc] at hcon
 have hgn:∀ f,gcL f (netC n E)=netC n E:=fun f=>rfl
 obtain ⟨nc,hnc⟩:∃ nc,nc=netC n E:=⟨_,rfl⟩
 have hn3:nc.length=3:=by rw [hnc]; rfl
 have t3:nc.drop 3 = []:=by rw [hnc]; rfl
 have k3:nc.take 3=nc:=by rw [hnc]; rfl
 have hbv:∀ (H:Heap) (ids:List Nat),BVs H ids nc nc=True:=fun H ids=>by rw [hnc]; unfold netC; simp only [go_sem]
 rw [← hnc] at hs hcon hmv hgn ⊢
 have p1:¬ (a:Int)<0:=by omega
 have p2:¬ (n:Int)≤(a:Int):=by omega
 have p3:¬ (b:Int)<0:=by omega
 have p5:¬ (n:Int)≤(b:Int):=by omega
 have p6:¬ (a:Int)=(b:Int):=by omega
 have a0:(0:Int)≤(a:Int):=by omega
 have a1:(a:Int)<(n:Int):=by omega
 have b0:(0:Int)≤(b:Int):=by omega
 have b1:(b:Int)<(n:Int):=by omega
 refine Zbh Zhn (by simp) (Zcx 4 rfl ?_)
 unfold Zhx
 simp only [go_sem,Zc4,Zc6]
 refine Zaa hs (by simp only [go_sem]) ?_
 simp only [go_sem,Za6,Zbc,Zj4,hn3,t3,k3,p1,p2,p3,p5,p6]
 refine Zaa hcon (by simp only [go_sem,hbv]) ?_
 simp only [go_sem,Bool.not_true,Zuv]
 refine Zaa Yqu (by simp only [go_sem]) ?_
 simp only [go_sem,Zcv,Zai]
 have hrep:SpecR Tryz.prog Zke [.cells [.int .i64 0,.nils,.nils],.cells nc,.cells (qcell 0)] [.osl (some 4) 2 0 1,.int .i64 (n:Int)] (.osl (some 4) 3 0 n) [.cells [.int .i64 0,.nils,.nils],.cells nc,.dead,.cells (qc (List.replicate n 0))]:=by
  have h:=Z7a (P:=Tryz.prog) (H := [.cells [.int .i64 0,.nils,.nils],.cells nc,.cells (qcell 0)]) (ids := [2]) (xs := [.osl (some 4) 2 0 1,.int .i64 (n:Int)]) (Yhe hn hnl (x:=qcell 0) rfl)
   (by
    simp only [go_sem]
    exact Yyz rfl rfl (by simp) (by rw [Zaq]; trivial)) (by simp only [go_sem])
  have e3 : [Blk.cells (rows n (qcell 0))].map (Blk.gc (fun i=>some (i + [Blk.cells [.int .i64 0,.nils,.nils],.cells nc,.cells (qcell 0)].length))) = [.cells (qc (List.replicate n 0))]:=by
   simp only [List.map_cons,List.map_nil,Blk.gc,Yym,Y1u]
  rw [e3] at h
  exact h
 refine Zrs hrep ?_
 have hone:=Xb2
 have hneg:=Ype (z := -1) (by omega) (by omega)
 have hm1:((-1:Int):Rat) = -1:=rfl
 rw [hm1] at hneg
 have q0:(qc (List.replicate n (0:Rat))).length=n*4:=by rw [Z85,List.length_replicate]
 have q1:(qc ((List.replicate n (0:Rat)).set a 1)).length=n*4:=by rw [Z85,List.length_set,List.length_replicate]
 have fa:a*4+4≤n*4:=by omega
 have fb:b*4+4≤n*4:=by omega
 have sa:=Yrw (r:=List.replicate n (0:Rat)) (j:=a) (x:=1) (by rw [List.length_replicate]; exact ha)
 have sb:=Yrw (r:=(List.replicate n (0:Rat)).set a 1) (j:=b) (x := -1) (by rw [List.length_set,List.length_replicate]; exact hb)
 simp only [go_sem,Zrr]
 refine Zaa hone (by simp only [go_sem]) ?_
 simp only [go_sem]
 refine Zaa hneg (by simp only [go_sem]) ?_
 simp only [go_sem,Zcv,Zai,a0,a1,b0,b1,q0,q1,fa,fb,sa,sb]
 have hul:(unitF n a b).length=n:=Zd2
 have hfr:=Yau (H := [.cells [.int .i64 0,.nils,.nils],.cells nc,.dead,.cells (qc (unitF n a b))]) (ids := [3]) (b:=3) (r:=unitF n a b) rfl (by simp)
 rw [hul] at hfr
 refine T_le (Ztp [3] [(8,.ptr 0 0),(11,.ptr 1 0),(13,.sl (condsR (unitF n a b)))] ⟨.inr (by simp only [go_sem]),.inr (by simp only [go_sem]),.inl (by simp only [go_sem]; exact hfr),trivial⟩) (T_W ?_)
 show W _ _ _ _ ⟨_,[.cells [.int .i64 0,.nils,.nils],.cells nc,.dead,.dead]⟩ _
 simp only [go_sem,Zie,hn3,k3,hmx]
 refine Zaa hmv (by simp only [go_sem,hbv]) ?_
 simp only [go_sem,hn3,t3,k3]
 simp only [go_sem,hn3,k3,hbv]
end GoAbs
namespace GoAbs
open Go Go.Proofs
theorem Yp9 {n a b e:Int}{L:List Spr}(he:e≠0) (h:SpecV Tryz.prog Zbb [.int .i64 n,.sl (L.map sprAV),.int .i64 a,.int .i64 b] (.tup [.agg netZ,.nils,.int .i64 e])) :
  SpecV Tryz.prog Zbt [.int .i64 n,.sl (L.map sprAV),.int .i64 a,.int .i64 b] (.tup [.str (bs []),.int .i64 e]):=by
 refine Zad Znx (by simp) ?_
 unfold Zj5
 simp only [go_sem,Zgf,Zf7]
 refine Zaa h (by simp only [go_sem]) ?_
 simp only [go_sem,Zfw,Zld,he]
 rfl
def numR (q:Rat):AV:=if NumOk q then .tup [.str (bs (numS q)),.int .i64 0] else .tup [.str (bs []),.int .i64 4]
theorem Yfp {n a b k:Nat}{L:List Spr}{E:List Sp}{x:List Rat}(h:SpecV Tryz.prog Zbb [.int .i64 (n:Int),.sl (L.map sprAV),.int .i64 (a:Int),.int .i64 (b:Int)] (.tup [.agg (netC n E),.sl (condsR x),.int .i64 0]))
  (ha:a<x.length) (hb:b<x.length) (hx:Rb k x) (hk1:1≤k) (hk:k≤60000000000) (hne:rget x a - rget x b≠0) :
  SpecV Tryz.prog Zbt [.int .i64 (n:Int),.sl (L.map sprAV),.int .i64 (a:Int),.int .i64 (b:Int)] (numR (1 / (rget x a - rget x b))):=by
 have hmx:Tryz.prog.follows .mixedOrders=true:=by kernel_rfl
 have hbv:∀ (H:Heap) (ids:List Nat),BVs H ids (netC n E) (netC n E)=True:=fun H ids=>by unfold netC; simp only [go_sem]
 have hl3:(netC n E).length=3:=rfl
 have ht3:(netC n E).drop 3 = []:=rfl
 have a0:(0:Int)≤(a:Int):=by omega
 have b0:(0:Int)≤(b:Int):=by omega
 have ga:=Zjm (Zag ha)
 have gb:=Zjm (Zag hb)
 have b1:=(hx.get ha).sub2 (hx.get hb)
 have hq:=(Qb.one (k:=k+k+1) (by omega)).div2 b1 hne
 have h1:=Y6i (k:=k) (hx.get ha) (hx.get hb) (by omega)
 have h2:=Xbw (k:=k+k+1) (Qb.one (by omega)) b1 hne (by omega)
 have h3:=Xcb (q:=1 / (rget x a - rget x b)) (Zv0 hq.n (by omega)) (Zv0 hq.d (by omega))
 have ql:∀ q:Rat,(qcell q).length=4:=fun q=>rfl
 have qt:∀ q:Rat,(qcell q).take 4=qcell q:=fun q=>rfl
 generalize 1 / (rget x a - rget x b)=q at *
 refine Zad Znx (by simp) ?_
 unfold Zj5
 simp only [go_sem,Zgf,Zf7]
 refine Zaa h (by simp only [go_sem]) ?_
 simp only [go_sem,Zfw,Zf5,hl3,ht3,hmx,a0,b0,ga,gb,ql,qt]
 refine Zaa Xb2 (by simp only [go_sem]) ?_
 simp only [go_sem,a0,b0,ga,gb,ql,qt]
 refine Zaa h1 (by simp only [go_sem,Zcv,Zaq]) ?_
 simp only [go_sem]
 refine Zaa h2 (by simp only [go_sem,Zcv,Zaq]) ?_
 simp only [go_sem]
 refine Zaa h3 (by simp only [go_sem,Zcv,Zaq]) ?_
 unfold numR
 by_cases hok:NumOk q
 ·simp only [if_pos hok,go_sem]
 ·simp only [if_neg hok,go_sem]
end GoAbs
namespace GoAbs
open Go Go.Proofs
def L3:List Spr := [(0,1,[49]),(1,2,[49]),(0,2,[49])]
def E3:List Sp := [(0,1,1),(1,2,1),(0,2,1)]
theorem Yl2:parseL [49]=some 1:=by decide+kernel
theorem Y5v:L3.map toE=E3:=by
 simp [L3,E3,toE,Yl2]
theorem lapl3:lapl 2 E3 = [[2,-1],[-1,2]]:=by decide+kernel
theorem unit3:(unitF 3 0 1).drop 1 = [-1,0]:=by decide+kernel
theorem aug3:aug (lapl 2 E3) ((unitF 3 0 1).drop 1) = [[2,-1,-1],[-1,2,0]]:=by rw [lapl3,unit3]; rfl
theorem tri3:(tri 2 0 [[2,-1,-1],[-1,2,0]] 1).2 = [[2,-1,-1],[0,3/2,-1/2]]:=by decide+kernel
theorem bsub3:bsub [[2,-1,-1],[0,3/2,-1/2]] 2 2 = [-2/3,-1/3]:=by decide+kernel
theorem fsum3:Fsum 3 id 2 E3=3:=by decide+kernel
theorem conn3:connB 3 E3=true:=by decide+kernel
theorem nums3:numS 3 = [51]:=by decide+kernel
theorem nums32:numS (3/2) = [51,47,50]:=by decide+kernel
theorem read3:readR 3 L3 = .tup [.agg (netC 3 E3),.int .i64 0]:=by
 have h1:(L3.all fun s=>(parseL s.2.2).isSome)=true:=by simp [L3,Yl2]
 have h2:(decide (2≤(3:Int)∧(3:Int)≤10∧L3.length≤40) && L3.all (sprOk 3))=true:=by decide+kernel
 unfold readR
 rw [h1,h2,Y5v]
 rfl
theorem len3:∀ s,s∈L3→s.2.2.length≤1000000000:=fun s hs=>by
 simp [L3] at hs
 rcases hs with rfl | rfl | rfl <;> simp
theorem ok3:NetOk 3 E3:=by
 refine ⟨by omega,fun e he=>?_⟩
 simp only [E3,List.mem_cons,List.not_mem_nil,or_false] at he
 have hf:Fitd 20 (1:Rat):=by decide+kernel
 rcases he with rfl | rfl | rfl
 ·exact ⟨by decide,by decide,by decide,by decide,hf⟩
 ·exact ⟨by decide,by decide,by decide,by decide,hf⟩
 ·exact ⟨by decide,by decide,by decide,by decide,hf⟩
theorem Yo8:SpecV Tryz.prog Zye [.int .i64 3,.sl (L3.map sprAV)] (.tup [.str (bs [51]),.int .i64 0]):=by
 have h:=Ynv (n:=3) (L:=L3) (by decide) (by omega) len3 (by rw [Y5v]; exact read3) (by rw [Y5v]; exact ok3)
 rw [Y5v] at h
 have hF:Fsum (3:Int).toNat id ((3:Int).toNat - 1) E3=3:=fsum3
 rw [hF,if_pos (by decide+kernel),nums3] at h
 exact h
theorem Yiw {q:Rat}(h:q.num.natAbs<1048576∧q.den<1048576):Qb 20 q:=⟨h.1,h.2⟩
theorem move3:SpecV Tryz.prog Zw8 [.agg (netC 3 E3),.sl (condsR (unitF 3 0 1))] (.sl (condsR [0,-2/3,-1/3])):=by
 have h:=Yk0 (m:=2) (k:=20) (a:=20) (E:=E3) (f:=unitF 3 0 1) (by omega) (by omega) (kE:=67) (fun e he=>⟨(ok3.e e he).1,(ok3.e e he).2.1,(ok3.e e he).2.2.2.2.bits⟩) (by omega) (by decide) (by decide) Zd2
  (by
   rw [aug3]
   intro r hr x hx
   simp only [List.mem_cons,List.not_mem_nil,or_false] at hr
   rcases hr with rfl | rfl <;> simp only [List.mem_cons,List.not_mem_nil,or_false] at hx <;> rcases hx with rfl | rfl | rfl <;> exact Yiw (by decide))
  (by omega) (by decide)
  (by
   rw [aug3]
   refine ⟨fun h=>absurd h (by decide+kernel),fun _=>⟨fun h=>absurd h (by decide+kernel),fun _=>trivial⟩⟩)
  (by
   rw [aug3,tri3]
   intro r hr x hx
   simp only [List.mem_cons,List.not_mem_nil,or_false] at hr
   rcases hr with rfl | rfl <;> simp only [List.mem_cons,List.not_mem_nil,or_false] at hx <;> rcases hx with rfl | rfl | rfl <;> exact Yiw (by decide+kernel))
  (by
   rw [aug3,tri3]
   intro r hr
   simp only [List.mem_cons,List.not_mem_nil,or_false] at hr
   rcases hr with rfl | rfl <;> rfl)
  (by
   rw [aug3,tri3]
   intro i hi
   have:i=0∨i=1:=by omega
   rcases this with rfl | rfl <;> decide+kernel)
  (fun k hk=>by
   have:k=0∨k=1:=by omega
   rcases this with rfl | rfl <;> decide)
 rw [aug3,tri3,bsub3] at h
 exact h
theorem Yix:SpecV Tryz.prog Zbt [.int .i64 3,.sl (L3.map sprAV),.int .i64 0,.int .i64 1] (.tup [.str (bs [51,47,50]),.int .i64 0]):=by
 have hl:=Yy4 (n:=3) (a:=0) (b:=1) (L:=L3) (E:=E3) (x := [0,-2/3,-1/3]) (by decide) len3 read3 (by omega) (by omega) (by omega) (by omega) (by omega) (fun e he=>⟨(ok3.e e he).1,(ok3.e e he).2.1⟩) (by decide) conn3 move3
 have h:=Yfp (k:=20) hl (by decide) (by decide) (fun x hx=>by
  simp only [List.mem_cons,List.not_mem_nil,or_false] at hx
  rcases hx with rfl | rfl | rfl <;> exact Yiw (by decide+kernel)) (by omega) (by omega) (by decide+kernel)
 have hv:(1:Rat) / (rget [0,-2/3,-1/3] 0 - rget [0,-2/3,-1/3] 1)=3/2:=by decide+kernel
 unfold numR at h
 rw [hv,if_pos (by decide+kernel),nums32] at h
 exact h
theorem llives:SpecV Tryz.prog Yn2 [] (.bool true):=by
 refine Zbh Yj6 (by simp) (Zcx 1 rfl ?_)
 unfold Yg9
 have h49:(⟨#[49]⟩:ByteArray)=bs [49]:=rfl
 have h51:(⟨#[51]⟩:ByteArray)=bs [51]:=rfl
 have h32:(⟨#[51,47,50]⟩:ByteArray)=bs [51,47,50]:=rfl
 simp only [go_sem,Z3c,Z2b,h49]
 have hbv:=Y1w (H := [.cells (L3.flatMap sC)]) (ids := [0]) (b:=0) (L:=L3) rfl (by simp)
 refine T_le (Ztp [0] [(1,.sl (L3.map sprAV))] ⟨.inl (by simp only [go_sem]; exact hbv),trivial⟩) (T_W ?_)
 show W _ _ _ _ ⟨_,[.dead]⟩ _
 simp only [go_sem,Z39]
 refine Zaa Yo8 (by simp only [go_sem]) ?_
 simp only [go_sem,Z42]
 refine Zaa Yix (by simp only [go_sem]) ?_
 simp only [go_sem,Z2s,h51,h32]
end GoAbs
namespace GoAbs
open Go Go.Proofs
theorem Y91 (a b d D n q:Rat) (hd:d≠0) (hD:D≠0) (hq:q=n / d):a / D+q*(b / D)=(a*d+n*b) / (d*D):=by grind
theorem Yd8 {n M:Nat}(hM:1≤M):∀ {l:List MSp}{k:Nat}{p:Nat→Nat},(∀ s,s∈l→s.2.2.num.natAbs≤M∧s.2.2.den≤M) →
  ∃ N:Int,N.natAbs≤(2*M) ^ l.length∧Fsum n p k l=Rat.divInt N ((l.map fun s=>s.2.2.den).prod:Nat)
 | l,0,p,h=>by
  have hp:0<(l.map fun s:MSp=>s.2.2.den).prod:=by
   clear h
   induction l with
   | nil=>decide
   | cons s l ih=>rw [List.map_cons,List.prod_cons]; exact Nat.mul_pos s.2.2.den_pos ih
  have hle:(l.map fun s:MSp=>s.2.2.den).prod≤(2*M) ^ l.length:=by
   clear hp
   induction l with
   | nil=>simp
   | cons s l ih =>
    rw [List.map_cons,List.prod_cons,List.length_cons,Nat.pow_succ,Nat.mul_comm]
    have h1:=ih (fun t ht=>h t (by simp [ht]))
    have h2:=(h s (by simp)).2
    exact Nat.mul_le_mul h1 (by omega)
  generalize (l.map fun s:MSp=>s.2.2.den).prod=D at *
  unfold Fsum
  split
  ·exact ⟨(D:Int),by rw [Int.natAbs_natCast]; exact hle,by rw [Rat.divInt_self' (by omega)]⟩
  ·exact ⟨0,by simp,by rw [Rat.zero_divInt]⟩
 | [],k+1,p,h=>⟨0,by simp,by unfold Fsum; rw [Rat.zero_divInt]⟩
 | s::l,k+1,p,h=>by
  obtain ⟨N1,a1,e1⟩:=Yd8 (n:=n) hM (l:=l) (k:=k+1) (p:=p) (fun t ht=>h t (by simp [ht]))
  obtain ⟨N2,a2,e2⟩:=Yd8 (n:=n) hM (l:=l) (k:=k) (p:=mrg p (p s.1) (p s.2.1)) (fun t ht=>h t (by simp [ht]))
  have hp:0<(l.map fun s:MSp=>s.2.2.den).prod:=by
   clear h e1 e2 a1 a2
   induction l with
   | nil=>decide
   | cons s l ih=>rw [List.map_cons,List.prod_cons]; exact Nat.mul_pos s.2.2.den_pos ih
  obtain ⟨g1,g2⟩:=h s (by simp)
  refine ⟨N1*s.2.2.den+s.2.2.num*N2,?_,?_⟩
  ·have h1:=Int.natAbs_add_le (N1*s.2.2.den) (s.2.2.num*N2)
   rw [Int.natAbs_mul,Int.natAbs_mul,Int.natAbs_natCast] at h1
   have k1:N1.natAbs*s.2.2.den≤(2*M) ^ l.length*M:=Nat.mul_le_mul a1 g2
   have k2:s.2.2.num.natAbs*N2.natAbs≤M*(2*M) ^ l.length:=Nat.mul_le_mul g1 a2
   rw [List.length_cons,Nat.pow_succ]
   have k3:(2*M) ^ l.length*(2*M)=(2*M) ^ l.length*M+M*(2*M) ^ l.length:=by rw [Nat.mul_left_comm,Nat.two_mul,Nat.mul_comm M]
   omega
  ·rw [List.map_cons,List.prod_cons]
   generalize (l.map fun s:MSp=>s.2.2.den).prod=D at *
   unfold Fsum
   rw [e1,e2]
   have hd:(s.2.2.den:Int)≠0:=by have:=s.2.2.den_pos; omega
   have hD:(D:Int)≠0:=by omega
   rw [Rat.divInt_eq_div,Rat.divInt_eq_div,Rat.divInt_eq_div]
   have c1:((N1*(s.2.2.den:Int)+s.2.2.num*N2:Int):Rat)=(N1:Rat)*((s.2.2.den:Int):Rat)+(s.2.2.num:Rat)*(N2:Rat):=by rw [Rat.intCast_add,Rat.intCast_mul,Rat.intCast_mul]
   have c2:(((s.2.2.den*D:Nat):Int):Rat)=((s.2.2.den:Int):Rat)*((D:Int):Rat):=by rw [Int.natCast_mul,Rat.intCast_mul]
   rw [c1,c2]
   have hd':((s.2.2.den:Int):Rat)≠0:=fun h=>hd (Rat.intCast_eq_zero_iff.1 h)
   have hD':((D:Int):Rat)≠0:=fun h=>hD (Rat.intCast_eq_zero_iff.1 h)
   have hq':s.2.2=(s.2.2.num:Rat) / ((s.2.2.den:Int):Rat):=by rw [← Rat.divInt_eq_div,Rat.num_divInt_den]
   exact Y91 _ _ _ _ _ _ hd' hD' hq'
theorem Y3m {l:List UInt8}{q:Rat}(h:parseL l=some q) (hl:l.length≤6):q.num.natAbs≤1000000∧q.den≤1000000:=by
 obtain ⟨_,h2,h3,h4⟩:=Yf5 h
 have hs:(signL l).1.length≤6:=by
  unfold signL
  split
  ·show l.tail.length≤6
   rw [List.length_tail]; omega
  ·exact hl
 have hb:(befL (signL l).1).length≤6:=by
  unfold befL
  exact Nat.le_trans (List.takeWhile_sublist _).length_le hs
 refine ⟨Nat.le_of_lt (Yeq (k:=6) (by rw [h2]; exact hb)),?_⟩
 by_cases h47:47∈(signL l).1
 ·refine Nat.le_of_lt (Yeq (k:=6) ?_)
  rw [(h3 h47).2]
  have:=Ykc h47
  have h5:=congrArg List.length this
  rw [List.length_append,List.length_cons] at h5
  omega
 ·rw [h4 h47]; decide
end GoAbs
namespace GoAbs
open Go Go.Proofs
theorem NetL.size {n m k:Nat}{L:List Spr}(h:NetL n L):(Fsum m id k (L.map toE)).num.natAbs<10 ^ 260∧(Fsum m id k (L.map toE)).den<10 ^ 260:=by
 have hs:∀ s,s∈L.map toE→s.2.2.num.natAbs≤1000000∧s.2.2.den≤1000000:=fun s hs=>by
  obtain ⟨t,ht,rfl⟩:=List.mem_map.1 hs
  obtain ⟨_,q,hq,_,q1,q2,_⟩:=h.ok t ht
  have:(toE t).2.2=q:=by simp [toE,hq]
  rw [this]; exact ⟨q1,q2⟩
 obtain ⟨N,hN,hF⟩:=Yd8 (n:=m) (M:=1000000) (by omega) (k:=k) (p:=id) hs
 have hD:((L.map toE).map fun s=>s.2.2.den).prod≤1000000 ^ (L.map toE).length∧0<((L.map toE).map fun s=>s.2.2.den).prod:=by
  clear hF hN h
  generalize L.map toE=E at *
  induction E with
  | nil=>exact ⟨by decide,by decide⟩
  | cons s E ih =>
   obtain ⟨g1,g2⟩:=ih (fun t ht=>hs t (by simp [ht]))
   rw [List.map_cons,List.prod_cons,List.length_cons,Nat.pow_succ,Nat.mul_comm]
   exact ⟨Nat.mul_le_mul g1 (hs s (by simp)).2,Nat.mul_pos g2 s.2.2.den_pos⟩
 rw [List.length_map] at hN hD
 have b1:(2*1000000) ^ L.length≤(2*1000000) ^ 40:=Nat.pow_le_pow_right (by omega) h.len
 have b2:1000000 ^ L.length≤1000000 ^ 40:=Nat.pow_le_pow_right (by omega) h.len
 have c1:(2*1000000) ^ 40<10 ^ 260:=by decide+kernel
 have c2:1000000 ^ 40<10 ^ 260:=by decide+kernel
 generalize ((L.map toE).map fun s=>s.2.2.den).prod=D at *
 obtain ⟨g1,g2⟩:=Zea (n:=N) (d:=(D:Int)) (by omega)
 rw [← hF] at g1 g2
 rw [Int.natAbs_natCast] at g2
 exact ⟨Nat.lt_of_le_of_lt g1 (Nat.lt_of_le_of_lt hN (Nat.lt_of_le_of_lt b1 c1)),Nat.lt_of_le_of_lt g2 (Nat.lt_of_le_of_lt hD.1 (Nat.lt_of_le_of_lt b2 c2))⟩
theorem Y1k {q:Rat}(h:q.num.natAbs<10 ^ 260∧q.den<10 ^ 260):NumOk q∧Ib 900 q.num∧Ib 900 (q.den:Int):=by
 have c:10 ^ 260<2 ^ 900:=by decide+kernel
 refine ⟨⟨Nat.le_trans (Zv8 (by omega) h.1) (by omega),.inr (Nat.le_trans (Zv8 (by omega) h.2) (by omega))⟩,Nat.lt_trans h.1 c,?_⟩
 show (q.den:Int).natAbs<_
 rw [Int.natAbs_natCast]
 exact Nat.lt_trans h.2 c
def treesF (n:Nat) (L:List Spr):Rat:=Fsum n id (n - 1) (L.map toE)
def one1 (low high:Nat) (s:Spr):List Spr:=if oneN low high s.1.toNat=oneN low high s.2.1.toNat then [] else [((oneN low high s.1.toNat:Nat),(oneN low high s.2.1.toNat:Nat),s.2.2)]
def oneS (low high:Nat) (L:List Spr):List Spr:=L.flatMap (one1 low high)
end GoAbs
namespace GoAbs
open Go Go.Proofs
theorem Yxu {n low high v:Nat}(h:low<high) (hh:high<n) (hv:v<n):oneN low high v<n - 1:=by
 unfold oneN; split
 ·omega
 ·split <;> omega
theorem Yqf {n low high:Nat}{L:List Spr}(h:NetL n L) (hlh:low<high) (hh:high<n):NetL (n - 1) (oneS low high L):=by
 refine ⟨?_,fun s hs=>?_⟩
 ·have:∀ Y:List Spr,(oneS low high Y).length≤Y.length:=fun Y=>by
   induction Y with
   | nil=>exact Nat.le_refl 0
   | cons s Y ih =>
    show (one1 low high s++oneS low high Y).length≤_
    have:(one1 low high s).length≤1:=by unfold one1; split <;> simp
    rw [List.length_append,List.length_cons]; omega
  exact Nat.le_trans (this L) h.len
 ·obtain ⟨t,htL,ht⟩:=List.mem_flatMap.1 hs
  obtain ⟨⟨k1,k2,k3,k4,k5⟩,q,hq⟩:=h.ok t htL
  unfold one1 at ht
  split at ht
  ·simp at ht
  ·rename_i hne
   simp at ht
   subst ht
   have a:=Yxu (v:=t.1.toNat) hlh hh (by omega)
   have b:=Yxu (v:=t.2.1.toNat) hlh hh (by omega)
   exact ⟨⟨by show (0:Int)≤((oneN low high t.1.toNat:Nat):Int); omega,by show ((oneN low high t.1.toNat:Nat):Int)<_; omega,by show (0:Int)≤((oneN low high t.2.1.toNat:Nat):Int); omega,by show ((oneN low high t.2.1.toNat:Nat):Int)<_; omega,by show ((oneN low high t.1.toNat:Nat):Int)≠((oneN low high t.2.1.toNat:Nat):Int); omega⟩,q,hq⟩
theorem Y0p {low high:Nat}:∀ {L:List Spr},(oneS low high L).map toE=oneL low high (L.map toE)
 | []=>rfl
 | s::L=>by
  have ih:=Y0p (low:=low) (high:=high) (L:=L)
  show (one1 low high s++oneS low high L).map toE=((nameE (oneN low high) (toE s)::(L.map toE).map (nameE (oneN low high))).filter _)
  rw [List.map_append,ih]
  unfold one1
  by_cases h:oneN low high s.1.toNat=oneN low high s.2.1.toNat
  ·rw [if_pos h,List.filter_cons_of_neg (by simp [nameE,toE,h])]
   rfl
  ·rw [if_neg h,List.filter_cons_of_pos (by simp [nameE,toE,h])]
   simp only [List.map_cons,List.map_nil,List.singleton_append,List.cons.injEq]
   refine ⟨?_,rfl⟩
   simp [nameE,toE]
theorem NetL.pos {n:Nat}{L:List Spr}(h:NetL n L):Pos (L.map toE)∧InN n (L.map toE):=by
 refine ⟨fun e he=>?_,fun e he=>?_⟩
 ·obtain ⟨s,hs,rfl⟩:=List.mem_map.1 he
  obtain ⟨_,q,hq,h0,_⟩:=h.ok s hs
  have:(toE s).2.2=q:=by simp [toE,hq]
  rw [this]; exact Rat.le_of_lt h0
 ·obtain ⟨s,hs,rfl⟩:=List.mem_map.1 he
  obtain ⟨⟨k1,k2,k3,k4,k5⟩,_⟩:=h.ok s hs
  exact ⟨by show s.1.toNat<n; omega,by show s.2.1.toNat<n; omega⟩
end GoAbs
namespace GoAbs
open Go Go.Proofs
end GoAbs
namespace GoAbs
theorem Y7u {R S:List Nat}{f:Nat→Rat}:sumL (R++S) f=sumL R f+sumL S f:=by
 induction R with
 | nil=>rw [List.nil_append,Zo8]; grind
 | cons i R ih=>rw [List.cons_append,Zam,Zam,ih]; grind
theorem Ykr {r:Nat}{R:List Nat}{A:Mat}{v x:Nat→Rat}(hs:∀ i j,A i j=A j i) (hd:A r r≠0) (h:∀ i,i∈r::R→sumL (r::R) (fun j=>x j*A i j)=v i) :
  ∀ i,i∈R→sumL R (fun j=>x j*schur r A i j)=v i - v r*A i r / A r r:=fun i hi=>by
 have h1:=h i (by simp [hi])
 have h2:=h r (by simp)
 rw [Zam] at h1 h2
 have h3:sumL R (fun j=>x j*schur r A i j)=sumL R (fun j=>x j*A i j)+(-(A i r / A r r))*sumL R (fun j=>x j*A r j):=by
  rw [← Zb3, ← Zch]
  refine Zal (fun j _=>?_)
  unfold schur
  grind
 rw [h3]
 have h4:sumL R (fun j=>x j*A i j)=v i - x r*A i r:=by grind
 have h5:sumL R (fun j=>x j*A r j)=v r - x r*A r r:=by grind
 rw [h4,h5]
 grind
theorem Yim {r:Nat}{R:List Nat}{A:Mat}(h:dt (r::R) A≠0):A r r≠0∧dt R (schur r A)≠0:=by
 unfold dt at h
 exact ⟨fun e=>h (by rw [e]; grind),fun e=>h (by rw [e]; grind)⟩
theorem Yje:∀ {R:List Nat}{A:Mat}{v x:Nat→Rat},(∀ i j,A i j=A j i)→dt R A≠0→(∀ i,i∈R→sumL R (fun j=>x j*A i j)=v i)→sumL R (fun i=>v i*x i)*dt R A=gt R A v
 | [],A,v,x,_,_,_=>by unfold dt gt; rw [Zo8]; grind
 | r::R,A,v,x,hs,hd,h=>by
  obtain ⟨d1,d2⟩:=Yim hd
  have ih:=Yje (Ydx hs) d2 (Ykr hs d1 h)
  have h2:=h r (by simp)
  rw [Zam] at h2
  unfold dt gt
  rw [← ih,Zam]
  have h3:sumL R (fun i=>(v i - v r*A i r / A r r)*x i)=sumL R (fun i=>v i*x i)+(-(v r / A r r))*sumL R (fun j=>x j*A r j):=by
   rw [← Zb3, ← Zch]
   refine Zal (fun j _=>?_)
   rw [hs j r]
   grind
  rw [h3]
  have h5:sumL R (fun j=>x j*A r j)=v r - x r*A r r:=by grind
  rw [h5]
  generalize sumL R (fun i=>v i*x i)=y
  generalize dt R (schur r A)=D
  grind
theorem Ytq:∀ {R:List Nat}{A:Mat}{x:Nat→Rat},(∀ i j,A i j=A j i)→dt R A≠0→(∀ i,i∈R→sumL R (fun j=>x j*A i j)=0)→∀ i,i∈R→x i=0
 | [],A,x,_,_,_=>by simp
 | r::R,A,x,hs,hd,h=>by
  obtain ⟨d1,d2⟩:=Yim hd
  have ih:=Ytq (x:=x) (Ydx hs) d2 (fun i hi=>by rw [Ykr (v:=fun _=>0) hs d1 h i hi]; grind)
  have h2:=h r (by simp)
  rw [Zam,Zfi (fun i hi=>by rw [ih i hi]; grind)] at h2
  intro i hi
  rcases List.mem_cons.1 hi with rfl | hi
  ·have h3:x i*A i i=0:=by grind
   rcases Rat.mul_eq_zero.1 h3 with h | h
   ·exact h
   ·exact absurd h d1
  ·exact ih i hi
theorem Y6y {R:List Nat}{A:Mat}{x y v:Nat→Rat}(hs:∀ i j,A i j=A j i) (hd:dt R A≠0) (hx:∀ i,i∈R→sumL R (fun j=>x j*A i j)=v i) (hy:∀ i,i∈R→sumL R (fun j=>y j*A i j)=v i):∀ i,i∈R→x i=y i:=fun i hi=>by
 have:=Ytq (x:=fun j=>x j - y j) hs hd (fun i hi=>by
  have:sumL R (fun j=>(x j - y j)*A i j)=sumL R (fun j=>x j*A i j)+(-1)*sumL R (fun j=>y j*A i j):=by
   rw [← Zb3, ← Zch]
   exact Zal (fun j _=>by grind)
  rw [this,hx i hi,hy i hi]; grind) i hi
 grind
def tieAll (l:List MSp) (p:Nat→Nat):Nat→Nat:=l.foldl (fun p e=>tieP e p) p
theorem Zol {n:Nat}:∀ {l:List MSp}{k:Nat}{p:Nat→Nat},Pos l→0≤Fsum n p k l
 | l,0,p,_=>by
  have:Fsum n p 0 l=if ∀ i,i<n→p i=p 0 then 1 else 0:=by cases l <;> rfl
  rw [this]; split <;> grind
 | [],k+1,p,_=>Rat.le_refl
 | s::l,k+1,p,h=>by
  unfold Fsum
  have h1:=Zol (n:=n) (l:=l) (k:=k+1) (p:=p) (fun t ht=>h t (by simp [ht]))
  have h2:=Zol (n:=n) (l:=l) (k:=k) (p:=mrg p (p s.1) (p s.2.1)) (fun t ht=>h t (by simp [ht]))
  have h3:=Rat.mul_nonneg (h s (by simp)) h2
  grind
theorem Z21 {n:Nat}:∀ {l:List MSp}{p:Nat→Nat}{g:Nat}{R:List Nat},(∀ s,s∈l→0<s.2.2)→InN n l→Lab n p g R→(∀ i,i<n→tieAll l p i=tieAll l p 0)→0<Fsum n p R.length l
 | l,p,g,[],hpos,hl,h,hc=>by
  have h0:∀ i,i<n→p i=p 0:=fun i hi=>by
   have h1:∀ i,i<n→p i=g:=fun i hi=>(h.mem i hi).elim id (fun h=>by simp at h)
   rw [h1 i hi,h1 0 (by omega)]
  have:Fsum n p 0 l=1:=by
   have:Fsum n p 0 l=if ∀ i,i<n→p i=p 0 then 1 else 0:=by cases l <;> rfl
   rw [this,if_pos h0]
  rw [List.length_nil,this]; decide
 | [],p,g,r::R,hpos,hl,h,hc=>by
  exfalso
  have hc':∀ i,i<n→p i=p 0:=hc
  obtain ⟨i,hi,hpi⟩:=h.onto g (by simp)
  obtain ⟨j,hj,hpj⟩:=h.onto r (by simp)
  have:g=r:=by rw [← hpi, ← hpj,hc' i hi,hc' j hj]
  exact (List.nodup_cons.1 h.nd).1 (by rw [this]; simp)
 | s::l,p,g,r::R,hpos,hl,h,hc=>by
  have hl':InN n l:=fun t ht=>hl t (by simp [ht])
  have hpos':∀ t,t∈l→0<t.2.2:=fun t ht=>hpos t (by simp [ht])
  have hp0:Pos l:=fun t ht=>Rat.le_of_lt (hpos' t ht)
  have hs:=hl s (by simp)
  have hK:=hpos s (by simp)
  have hc':∀ i,i<n→tieAll l (mrg p (p s.1) (p s.2.1)) i=tieAll l (mrg p (p s.1) (p s.2.1)) 0:=hc
  have hlen:(r::R).length=R.length+1:=rfl
  have n1:=Zol (n:=n) (l:=l) (k:=R.length+1) (p:=p) hp0
  have n2:=Zol (n:=n) (l:=l) (k:=R.length) (p:=mrg p (p s.1) (p s.2.1)) hp0
  rw [hlen]
  unfold Fsum
  by_cases hxy:p s.2.1=p s.1
  ·have n3:=Rat.mul_nonneg (Rat.le_of_lt hK) n2
   rw [hxy,Yhn] at hc'
   have ih:=Z21 hpos' hl' h hc'
   rw [hlen] at ih
   grind
  ·have key:0<Fsum n (mrg p (p s.1) (p s.2.1)) R.length l:=by
    rcases h.mem _ hs.1 with h1 | h1
    ·rcases h.mem _ hs.2 with h2 | h2
     ·exact absurd (h2.trans h1.symm) hxy
     ·rw [h1] at hc' ⊢
      have ih:=Z21 hpos' hl' (h.mrg0 h2) hc'
      have hlen2:((r::R).erase (p s.2.1)).length=R.length:=by rw [List.length_erase_of_mem h2]; rfl
      rwa [hlen2] at ih
    ·have h2:p s.2.1∈g::r::R:=by
      rcases h.mem _ hs.2 with h2 | h2
      ·simp [h2]
      ·exact List.mem_cons_of_mem _ h2
     have ih:=Z21 hpos' hl' (h.mrg h1 h2 hxy) hc'
     have hlen2:((r::R).erase (p s.1)).length=R.length:=by rw [List.length_erase_of_mem h1]; rfl
     rwa [hlen2] at ih
   have n3:=Rat.mul_pos hK key
   grind
theorem Ycn:∀ {l:List MSp}{p:Nat→Nat}{i j:Nat},p i=p j→tieAll l p i=tieAll l p j
 | [],p,i,j,h=>h
 | s::l,p,i,j,h=>Ycn (l:=l) (p:=tieP s p) (by unfold tieP mrg; rw [h])
theorem Z0m:∀ {l:List MSp}{p:Nat→Nat}{s:MSp},s∈l→tieAll l p s.1=tieAll l p s.2.1
 | t::l,p,s,hs=>by
  rcases List.mem_cons.1 hs with rfl | hs
  ·exact Ycn (l:=l) (p:=tieP s p) (by unfold tieP mrg; rw [if_pos rfl]; split <;> rfl)
  ·exact Z0m (l:=l) (p:=tieP t p) hs
theorem Z6p {β:Type}{f:Nat→β}:∀ {l:List MSp}{p:Nat→Nat},(∀ i j,p i=p j→f i=f j)→(∀ s,s∈l→f s.1=f s.2.1)→∀ i j,tieAll l p i=tieAll l p j→f i=f j
 | [],p,h,_=>h
 | s::l,p,h,hl=>Z6p (l:=l) (p:=tieP s p) (fun i j hij=>by
   have hs:=hl s (by simp)
   unfold tieP mrg at hij
   by_cases c1:p i=p s.1 <;> by_cases c2:p j=p s.1
   ·exact (h _ _ c1).trans (h _ _ c2).symm
   ·rw [if_pos c1,if_neg c2] at hij
    exact ((h _ _ c1).trans hs).trans (h _ _ hij)
   ·rw [if_neg c1,if_pos c2] at hij
    exact ((h _ _ hij).trans hs.symm).trans (h _ _ c2).symm
   ·rw [if_neg c1,if_neg c2] at hij
    exact h _ _ hij) (fun t ht=>hl t (by simp [ht]))
end GoAbs
namespace GoAbs
theorem Zh2 {M:RM}{c i j:Nat}(hi:i≤c):mget (elimCol M c M.length) i j=mget M i j:=by
 by_cases hl:i<M.length
 ·unfold mget
  rw [List.getD_eq_getElem?_getD (l:=elimCol M c M.length),Ze2 hl,if_neg (by omega)]
  rfl
 ·unfold mget
  rw [List.getD_eq_getElem?_getD,List.getD_eq_getElem?_getD,List.getElem?_eq_none (by rw [Zax]; omega),List.getElem?_eq_none (by omega)]
theorem Ymc:∀ {k c:Nat}{M:RM}{d:Rat}{i j:Nat},i≤c→mget (tri k c M d).2 i j=mget M i j
 | 0,_,_,_,_,_,_=>rfl
 | k+1,c,M,d,i,j,hi=>by
  unfold tri
  split
  ·rfl
  ·rw [Ymc (by omega),Zh2 hi]
theorem Yxn {m:Nat}:∀ {k c:Nat}{M:RM}{A:Mat}{d:Rat},c+k=m→M.length=m→Wid (m+1) M→Psd (List.range' (c+1) k) A→dt (List.range' (c+1) k) A≠0→(∀ i j,c≤i→i<m→c≤j→j<m→mget M i j=A (i+1) (j+1)) →
  NoSw k c M∧(∀ i,c≤i→i<m→mget (tri k c M d).2 i i≠0)∧Wid (m+1) (tri k c M d).2 ∧
  ∀ x:Nat→Rat,(∀ i,c≤i→i<m→sumL (List.range' (i+1) (m - i)) (fun j=>x j*mget (tri k c M d).2 i (j - 1))=mget (tri k c M d).2 i m) →
   ∀ i,c≤i→i<m→sumL (List.range' (c+1) k) (fun j=>x j*mget M i (j - 1))=mget M i m
 | 0,c,M,A,d,hk,_,hW,_,_,_=>⟨trivial,fun i h1 h2=>by omega,hW,fun _ _ i h1 h2=>by omega⟩
 | k+1,c,M,A,d,hk,hM,hW,hA,hd,hg=>by
  have hr:c+1 ∉ List.range' (c+1+1) k:=by rw [List.mem_range'_1]; omega
  rw [List.range'_succ] at hA hd ⊢
  obtain ⟨d1,d2⟩:=Yim hd
  have hp:=hg c c (by omega) (by omega) (by omega) (by omega)
  have h0:mget M c c≠0:=by rw [hp]; exact d1
  obtain ⟨i1,i2,i3,i4⟩:=Yxn (k:=k) (c:=c+1) (M:=elimCol M c M.length) (A:=schur (c+1) A) (d:=d*mget M c c) (by omega) (by rw [Zax,hM]) hW.elim (hA.schur hr) d2 (fun i j hi hil hj hjl=>by
   rw [Z5f hW (by omega) (by omega) (by omega) (by omega) h0,hg i j (by omega) hil (by omega) hjl,hg i c (by omega) hil (by omega) (by omega),hg c j (by omega) (by omega) (by omega) hjl,hp]
   rfl)
  unfold tri NoSw
  rw [if_neg h0]
  refine ⟨⟨fun h=>absurd h h0,fun _=>i1⟩,fun i h1 h2=>?_,i3,fun x hx=>?_⟩
  ·by_cases hi:i=c
   ·rw [hi,Ymc (by omega),Zh2 (by omega)]; exact h0
   ·exact i2 i (by omega) h2
  ·have ih:=i4 x (fun i h1 h2=>hx i (by omega) h2)
   have hc:=hx c (by omega) (by omega)
   rw [show m - c=k+1 by omega,List.range'_succ,Zam,Ymc (by omega),Ymc (by omega),Zh2 (by omega),Zh2 (by omega)] at hc
   have hcs:sumL (List.range' (c+1+1) k) (fun j=>x j*mget (tri k (c+1) (elimCol M c M.length) (d*mget M c c)).2 c (j - 1))=sumL (List.range' (c+1+1) k) (fun j=>x j*mget M c (j - 1)) :=
    Zal (fun j _=>by rw [Ymc (by omega),Zh2 (by omega)])
   rw [hcs] at hc
   intro i h1 h2
   rw [Zam]
   rw [Nat.add_sub_cancel] at hc ⊢
   by_cases hi:i=c
   ·rw [hi]; exact hc
   ·have hm:=ih i (by omega) h2
    have e1:sumL (List.range' (c+1+1) k) (fun j=>x j*mget (elimCol M c M.length) i (j - 1))=sumL (List.range' (c+1+1) k) (fun j=>x j*mget M i (j - 1))+(-(mget M i c / mget M c c))*sumL (List.range' (c+1+1) k) (fun j=>x j*mget M c (j - 1)):=by
     rw [← Zb3, ← Zch]
     refine Zal (fun j hj=>?_)
     have hj':=List.mem_range'_1.1 hj
     rw [Z5f hW (by omega) (by omega) (by omega) (by omega) h0]
     grind
    rw [e1,Z5f hW (by omega) (by omega) (by omega) (by omega) h0] at hm
    generalize sumL (List.range' (c+1+1) k) (fun j=>x j*mget M i (j - 1))=s at *
    generalize sumL (List.range' (c+1+1) k) (fun j=>x j*mget M c (j - 1))=t at *
    have ht:t=mget M c m - x (c+1)*mget M c c:=by grind
    rw [ht] at hm
    grind
theorem Ylx {A:RM}{n k:Nat}:bsub A n (k+1)=bacc (A.getD (n - 1 - k) []) (bsub A n k) (n - 1 - k) n k / rget (A.getD (n - 1 - k) []) (n - 1 - k)::bsub A n k:=by rw [bsub]
theorem Yna {A:RM}{n:Nat}:∀ {d k:Nat},(bsub A n (k+d)).drop d=bsub A n k
 | 0,k=>rfl
 | d+1,k=>by
  rw [show k+(d+1)=(k+d)+1 by omega,Ylx,List.drop_succ_cons]
  exact Yna
theorem Ytk {A:RM}{n k s:Nat}(hk:k≤n):rget (bsub A n k) s=rget (bsub A n n) (n - k+s):=by
 have h:=Yna (A:=A) (n:=n) (d:=n - k) (k:=k)
 rw [show k+(n - k)=n by omega] at h
 rw [← h]
 unfold rget
 rw [List.getD_eq_getElem?_getD,List.getD_eq_getElem?_getD,List.getElem?_drop]
theorem Ysr {row T:List Rat}{i n:Nat}:∀ {t:Nat},bacc row T i n t=rget row n - sumL (List.range' (i+2) t) (fun j=>rget T (j - i - 2)*rget row (j - 1))
 | 0=>by unfold bacc; rw [List.range'_zero,Zo8]; grind
 | t+1=>by
  unfold bacc
  rw [Ysr,List.range'_1_concat,Y7u,Zam,Zo8,show i+2+t - i - 2=t by omega,show i+2+t - 1=i+1+t by omega]
  grind
def solX (A:RM) (n:Nat):Nat→Rat:=fun j=>rget (0::bsub A n n) j
theorem Ykw {A:RM}{n j:Nat}:solX A n (j+1)=rget (bsub A n n) j:=by unfold solX rget; rfl
theorem Y4g {A:RM}{n:Nat}(hp:∀ i,i<n→mget A i i≠0):∀ i,i<n→sumL (List.range' (i+1) (n - i)) (fun j=>solX A n j*mget A i (j - 1))=mget A i n:=fun i hi=>by
 obtain ⟨k,hk⟩:∃ k,k=n - 1 - i:=⟨_,rfl⟩
 have hik:n - 1 - k=i:=by omega
 have h1:rget (bsub A n (k+1)) 0=bacc (A.getD i []) (bsub A n k) i n k / mget A i i:=by
  rw [Ylx,hik]
  rfl
 rw [Ytk (by omega),Ysr] at h1
 rw [show n - i=k+1 by omega,List.range'_succ,Zam,Ykw,Nat.add_sub_cancel]
 rw [show n - (k+1)+0=i by omega] at h1
 have h2:sumL (List.range' (i+1+1) k) (fun j=>solX A n j*mget A i (j - 1))=sumL (List.range' (i+2) k) (fun j=>rget (bsub A n k) (j - i - 2)*rget (A.getD i []) (j - 1)):=Zal (fun j hj=>by
  have hj':=List.mem_range'_1.1 hj
  rw [Ytk (by omega),show n - k+(j - i - 2)=j - 1 by omega]
  obtain ⟨j',rfl⟩:∃ j',j=j'+1:=⟨j - 1,by omega⟩
  rw [Ykw,Nat.add_sub_cancel]
  rfl)
 rw [h2,h1]
 have h3:=hp i hi
 show _ / _*_+_=rget (A.getD i []) n
 generalize sumL _ _=s
 grind
theorem Ya2 {M:RM}{r:List Rat}{m i:Nat}(hM:M.length=m) (hW:Wid m M) (hr:r.length=m) (hi:i<m):(∀ j,j<m→mget (aug M r) i j=mget M i j)∧mget (aug M r) i m=rget r i:=by
 have h:=Yn3 (M:=M) (r:=r) (getD_some (M:=M) (i:=i) (by omega)) (Zag (r:=r) (j:=i) (by omega))
 have e:(aug M r).getD i []=M.getD i [] ++ [rget r i]:=by rw [List.getD_eq_getElem?_getD,h]; rfl
 have hl:=hW.get (i:=i) (by omega)
 refine ⟨fun j hj=>?_,?_⟩
 ·show rget ((aug M r).getD i []) j=rget (M.getD i []) j
  rw [e]; unfold rget
  rw [List.getD_eq_getElem?_getD,List.getElem?_append_left (by omega), ← List.getD_eq_getElem?_getD]
 ·show rget ((aug M r).getD i []) m=_
  rw [e]; unfold rget
  rw [List.getD_eq_getElem?_getD,List.getElem?_append_right (by omega),hl,Nat.sub_self]; rfl
def triA (m:Nat) (E:List Sp) (r:List Rat):RM:=(tri m 0 (aug (lapl m E) r) 1).2
theorem Z5u {m:Nat}{E:List Sp}{r:List Rat}(hE:∀ e,e∈E→e.1≤m∧e.2.1≤m∧e.1≠e.2.1∧0≤e.2.2) (hr:r.length=m) (hd:dt (List.range' 1 m) (Lm id E)≠0) :
  NoSw m 0 (aug (lapl m E) r)∧(∀ i,i<m→rget ((triA m E r).getD i []) i≠0)∧Wid (m+1) (triA m E r) ∧
  ∀ i,i∈List.range' 1 m→sumL (List.range' 1 m) (fun j=>solX (triA m E r) m j*Lm id E i j)=rget r (i - 1):=by
 obtain ⟨lW,lL⟩:=Zdl (m:=m) (E:=E)
 have hpos:Pos E:=fun e he=>(hE e he).2.2.2
 have hget:=Z5r (m:=m) (E:=E) (fun e he=>⟨(hE e he).1,(hE e he).2.1,(hE e he).2.2.1⟩)
 obtain ⟨a1,a2,a3,a4⟩:=Yxn (m:=m) (k:=m) (c:=0) (M:=aug (lapl m E) r) (A:=Lm id E) (d:=1) (by omega) (by rw [Z04 (by omega),lL]) (Yi0 lW) (Zvj hpos) hd (fun i j _ hi _ hj=>by
  rw [(Ya2 lL lW hr hi).1 j hj,hget])
 refine ⟨a1,fun i hi=>a2 i (by omega) hi,a3,fun i hi=>?_⟩
 have hi':=List.mem_range'_1.1 hi
 have h:=a4 (solX (triA m E r) m) (fun i _ hi=>Y4g (A:=triA m E r) (n:=m) (fun i hi=>a2 i (by omega) hi) i hi) (i - 1) (by omega) (by omega)
 rw [(Ya2 lL lW hr (by omega)).2] at h
 rw [← h]
 refine Zal (fun j hj=>?_)
 have hj':=List.mem_range'_1.1 hj
 rw [(Ya2 lL lW hr (by omega)).1 (j - 1) (by omega),hget,show i - 1+1=i by omega,show j - 1+1=j by omega]
end GoAbs
namespace GoAbs
theorem Ysj {s:List Bool}{a i:Nat}{v:Bool}(ha:a<s.length):bget (s.set a v) i=if i=a then v else bget s i:=by
 unfold bget
 rw [List.getD_eq_getElem?_getD,List.getD_eq_getElem?_getD,List.getElem?_set]
 by_cases h:a=i
 ·subst h; simp [ha]
 ·rw [if_neg h,if_neg (fun e=>h e.symm)]
theorem Zw0 {s:List Bool}{a b i:Nat}(ha:a<s.length):bget (seeA a b s) i=if i=a then (bget s a || bget s b) else bget s i:=Ysj ha
def BLe (s t:List Bool):Prop:=∀ i,bget s i=true→bget t i=true
theorem Y06 {s:List Bool}{a b:Nat}(ha:a<s.length):BLe s (seeA a b s):=fun i hi=>by
 rw [Zw0 ha]; split
 ·rename_i h; subst h; rw [hi]; rfl
 ·exact hi
theorem Y11 {s:List Bool}{e:Sp}(h1:e.1<s.length) (h2:e.2.1<s.length):BLe s (seeE s e):=fun i hi =>
 Y06 (by rw [Z3x]; exact h2) i (Y06 h1 i hi)
theorem Ypc {E:List Sp}:∀ {s:List Bool},InN s.length E→BLe s (E.foldl seeE s):=by
 induction E with
 | nil=>intro s _ i hi; exact hi
 | cons e E ih =>
  intro s h i hi
  rw [List.foldl_cons]
  exact ih (by rw [Z2x]; exact fun x hx=>h x (by simp [hx])) i (Y11 (h e (by simp)).1 (h e (by simp)).2 i hi)
theorem BLe.anti {s t:List Bool}(hl:s.length=t.length) (h1:BLe s t) (h2:BLe t s):s=t:=by
 apply List.ext_getElem?
 intro i
 by_cases hi:i<s.length
 ·rw [Zf6 hi,Zf6 (by omega)]
  have a:=h1 i
  have b:=h2 i
  cases h:bget s i <;> cases h':bget t i <;> simp_all
 ·rw [List.getElem?_eq_none (by omega),List.getElem?_eq_none (by omega)]
theorem Y69 {E:List Sp}:∀ {s:List Bool},InN s.length E→E.foldl seeE s=s→∀ e,e∈E→bget s e.1=bget s e.2.1:=by
 induction E with
 | nil=>intro s _ _ e he; simp at he
 | cons d E ih =>
  intro s hE hf
  rw [List.foldl_cons] at hf
  obtain ⟨d1,d2⟩:=hE d (by simp)
  have hE':InN (seeE s d).length E:=by rw [Z2x]; exact fun x hx=>hE x (by simp [hx])
  have e1:seeE s d=s:=BLe.anti Z2x (fun i hi=>by
   have:=Ypc hE' i hi
   rwa [hf] at this) (Y11 d1 d2)
  have hd:bget s d.1=bget s d.2.1:=by
   have g1:=congrArg (fun t=>bget t d.1) e1
   have g2:=congrArg (fun t=>bget t d.2.1) e1
   simp only [seeE] at g1 g2
   rw [Zw0 (by rw [Z3x]; exact d2),Zw0 d1,Zw0 d1] at g1 g2
   by_cases hh:d.1=d.2.1
   ·rw [hh]
   ·rw [if_neg hh,if_pos rfl] at g1
    rw [if_pos rfl,if_neg (fun e=>hh e.symm),if_pos rfl] at g2
    cases h:bget s d.1 <;> cases h':bget s d.2.1 <;> simp_all
  intro e he
  rcases List.mem_cons.1 he with rfl | he
  ·exact hd
  ·rw [e1] at hf
   exact ih (fun x hx=>hE x (by simp [hx])) hf e he
theorem Yqw:∀ {s t:List Bool},s.length=t.length→BLe s t→s=t∨s.count true<t.count true
 | [],[],_,_ => .inl rfl
 | [],_::_,h,_=>by simp at h
 | _::_,[],h,_=>by simp at h
 | a::s,b::t,h,hle=>by
  have h0:a=true→b=true:=hle 0
  have ih:=Yqw (s:=s) (t:=t) (by simpa using h) (fun i=>hle (i+1))
  rw [List.count_cons,List.count_cons]
  rcases ih with rfl | ih
  ·cases a <;> cases b <;> simp_all
  ·refine .inr ?_
   cases a <;> cases b <;> simp_all <;> omega
theorem Ydy {n i:Nat}(hn:1≤n):bget (start n) i=decide (i=0):=by
 unfold start
 rw [Ysj (by simp; omega)]
 by_cases h:i=0
 ·rw [if_pos h,decide_eq_true h]
 ·rw [if_neg h,decide_eq_false h]
  unfold bget
  rw [List.getD_eq_getElem?_getD,List.getElem?_replicate]
  split <;> rfl
theorem Zuf {n:Nat}:(start n).length=n:=by simp [start]
theorem Yni {n:Nat}{E:List Sp}(hn:1≤n) (hE:InN n E):∀ k,seeN E (k+1) (start n)=seeN E k (start n)∨k+1≤(seeN E k (start n)).count true
 | 0 => .inr (by
  show 0+1≤(start n).count true
  have h:=Ydy (i:=0) hn
  have hl:=Zuf (n:=n)
  revert h hl
  generalize start n=s
  intro h hl
  cases s with
  | nil=>simp at hl; omega
  | cons b s =>
   have hb:b=true:=h
   rw [hb,List.count_cons]; simp)
 | k+1=>by
  have hl:(seeN E k (start n)).length=n:=by rw [Zli,Zuf]
  have h0:seeN E (k+1) (start n)=E.foldl seeE (seeN E k (start n)):=rfl
  rcases Yni hn hE k with ih | ih
  ·refine .inl ?_
   show E.foldl seeE (seeN E (k+1) (start n))=_
   rw [ih, ← h0,ih]
  ·rcases Yqw (s:=seeN E k (start n)) (t:=seeN E (k+1) (start n)) (by rw [Zli,Zli]) (by rw [h0]; exact Ypc (by rw [hl]; exact hE)) with h | h
   ·refine .inl ?_
    show E.foldl seeE (seeN E (k+1) (start n))=_
    rw [← h, ← h0, ← h]
   ·exact .inr (by omega)
theorem Yq4 {n:Nat}{E:List Sp}(hn:1≤n) (hE:InN n E):connB n E=decide (connE n E):=by
 have hinv:∀ (lab:Nat→Nat),(∀ e,e∈E→lab e.1=lab e.2.1)→∀ k i,bget (seeN E k (start n)) i=true→lab i=lab 0:=fun lab hlab k=>by
  have one:∀ (s:List Bool),s.length=n→(∀ i,bget s i=true→lab i=lab 0)→∀ e,e∈E→∀ i,bget (seeE s e) i=true→lab i=lab 0:=fun s hs h e he i hi=>by
   obtain ⟨d1,d2⟩:=hE e he
   have he':=hlab e he
   have B:∀ i,bget (seeA e.1 e.2.1 s) i=if i=e.1 then (bget s e.1 || bget s e.2.1) else bget s i:=fun i=>Zw0 (by rw [hs]; exact d1)
   unfold seeE at hi
   rw [Zw0 (by rw [Z3x,hs]; exact d2),B,B,B] at hi
   have k1:=h e.1
   have k2:=h e.2.1
   have k3:=h i
   clear h hlab B
   by_cases c1:i=e.2.1 <;> by_cases c3:i=e.1 <;> by_cases c2:e.2.1=e.1 <;> simp only [c1,c2,c3,if_true,if_false,Bool.or_eq_true] at * <;> grind
  have fold:∀ (F:List Sp),(∀ e,e∈F→e∈E)→∀ (s:List Bool),s.length=n→(∀ i,bget s i=true→lab i=lab 0)→∀ i,bget (F.foldl seeE s) i=true→lab i=lab 0:=fun F=>by
   induction F with
   | nil=>intro _ s _ h; exact h
   | cons e F ih=>intro hF s hs h; rw [List.foldl_cons]; exact ih (fun x hx=>hF x (by simp [hx])) _ (by rw [Z2x,hs]) (one s hs h e (hF e (by simp)))
  induction k with
  | zero=>intro i hi; rw [show seeN E 0 (start n)=start n from rfl,Ydy hn] at hi; rw [of_decide_eq_true hi]
  | succ k ih=>exact fold E (fun _ h=>h) _ (by rw [Zli,Zuf]) ih
 have hl:(seeN E n (start n)).length=n:=by rw [Zli,Zuf]
 by_cases h:connE n E
 ·rw [decide_eq_true h]
  have hfix:seeN E (n+1) (start n)=seeN E n (start n):=by
   rcases Yni hn hE n with h | h
   ·exact h
   ·have:=List.count_le_length (a:=true) (l:=seeN E n (start n)); omega
  have hcl:=Y69 (by rw [hl]; exact hE) hfix
  have h0:bget (seeN E n (start n)) 0=true:=by
   have:∀ k,bget (seeN E k (start n)) 0=true:=fun k=>by
    induction k with
    | zero=>exact (Ydy hn).trans (by rfl)
    | succ k ih=>exact Ypc (by rw [Zli,Zuf]; exact hE) 0 ih
   exact this n
  refine List.all_eq_true.2 fun b hb=>?_
  obtain ⟨i,hi,rfl⟩:=List.getElem_of_mem hb
  have hi':i<n:=by omega
  have:=Z6p (f:=fun i=>bget (seeN E n (start n)) i) (l:=E) (p:=id) (fun i j hij=>by have:i=j:=hij; rw [this]) hcl i 0 (h i hi')
  have h2:=Zf6 hi
  rw [List.getElem?_eq_getElem hi] at h2
  have h3:=Option.some.inj h2
  show (seeN E n (start n))[i]=true
  rw [h3]
  exact this.trans h0
 ·rw [decide_eq_false h]
  cases hc:connB n E with
  | false=>rfl
  | true =>
   refine absurd (fun i hi=>?_) h
   have hb:=List.all_eq_true.1 hc _ (List.getElem_mem (l:=seeN E n (start n)) (n:=i) (by omega))
   have h2:=Zf6 (s:=seeN E n (start n)) (i:=i) (by omega)
   rw [List.getElem?_eq_getElem (by omega)] at h2
   have h3:=Option.some.inj h2
   exact hinv (tieAll E id) (fun e he=>Z0m he) n i (by rw [← h3]; exact hb)
end GoAbs
