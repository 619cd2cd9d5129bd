/- Lemmas for the claim (contracts of the functions that it reaches, and what they compute), without conditions. -/
import Derived.Test.YtnpgooaiiboanaaGreatK33
import Derived.Test.YtnpgooaiiboanaaGreatProg
import Derived.KernelRfl
set_option linter.unusedVariables false
set_option linter.unusedSimpArgs false
set_option maxRecDepth 10000
set_option maxHeartbeats 2000000
namespace GoAbs
open Go Go.Proofs
def Zm4:List IOp := [oI 1 (.box (.t 0)) 0,oI 2 (.mv (.c (.bool false))) 1]
def Zn9:List IOp := [fI 6 0 1 0,lI 7 6 0,oI 8 (.mks none 1 [.bool false] (.t 7) (.t 7)) 0,mI 3 8 1]
def Znf:List IOp := [mI 9 3 0,oI 10 (.idx 1 (.t 9) (cI 0)) 0,⟨none,.st 1 (.t 10) (.c (.bool true)),0,[],[],none⟩]
def Zni:List IOp := [fI 11 0 1 0,lI 12 11 0,oI 13 (.mv (cI 0)) 0]
def Zhb:List IOp := [oI 14 (.bin .lss (.t 13) (.t 12)) 0]
def Zng:List IOp := [fI 15 1 1 0,lI 16 15 0,oI 17 (.len (.t 16)) 0,oI 18 (.mv (cI 0)) 0]
def Zgx:List IOp := [oI 19 (.bin .lss (.t 18) (.t 17)) 0]
def Znb:List IOp := [xI 20 2 16 18 0,lJ 21 2 20 0,oI 5 (.alloc [.int .i64 0,.int .i64 0]) 0,⟨none,.st 2 (.t 5) (.t 21),1,[],[],none⟩]
def Zbw:List IOp := [mI 22 3 0,fI 23 0 5 0,lI 24 23 0,mI 25 3 0,fI 26 0 5 0,lI 27 26 0,xI 28 1 25 27 0,lI 29 28 0,mI 30 29 0,gI 31 (.mv (.t 3)) 0 30 false,gI 32 (.fa 1 (.t 5)) 0 30 false,gI 33 (.ld none (.t 32)) 0 30 false,gI 34 (.idx 1 (.t 31) (.t 33)) 0 30 false,gI 35 (.ld none (.t 34)) 0 30 false,oI 36 (.pick (.t 30) (.c (.bool true)) (.t 35)) 0,xI 37 1 22 24 0,⟨none,.st 1 (.t 37) (.t 36),0,[],[],none⟩]
@[go_sem ↓] theorem Z0a : autoK Zbw = (0, 1) := by kernel_rfl
@[go_sem] theorem Ykh : autoK [mI 22 3 0, fI 23 0 5 0, lI 24 23 0, mI 25 3 0, fI 26 0 5 0, lI 27 26 0, xI 28 1 25 27 0, lI 29 28 0, mI 30 29 0, gI 31 (.mv (.t 3)) 0 30 false, gI 32 (.fa 1 (.t 5)) 0 30 false, gI 33 (.ld none (.t 32)) 0 30 false, gI 34 (.idx 1 (.t 31) (.t 33)) 0 30 false, gI 35 (.ld none (.t 34)) 0 30 false, oI 36 (.pick (.t 30) (.c (.bool true)) (.t 35)) 0, xI 37 1 22 24 0, ⟨none, .st 1 (.t 37) (.t 36), 0, [], [], none⟩] = (0, 1) := Z0a
def Zbl:List IOp := [mI 38 3 0,fI 39 1 5 0,lI 40 39 0,mI 41 3 0,fI 42 1 5 0,lI 43 42 0,xI 44 1 41 43 0,lI 45 44 0,mI 46 45 0,gI 47 (.mv (.t 3)) 0 46 false,gI 48 (.fa 0 (.t 5)) 0 46 false,gI 49 (.ld none (.t 48)) 0 46 false,gI 50 (.idx 1 (.t 47) (.t 49)) 0 46 false,gI 51 (.ld none (.t 50)) 0 46 false,oI 52 (.pick (.t 46) (.c (.bool true)) (.t 51)) 0,xI 53 1 38 40 0,⟨none,.st 1 (.t 53) (.t 52),0,[],[],none⟩]
@[go_sem ↓] theorem Zwk : autoK Zbl = (0, 1) := by kernel_rfl
@[go_sem] theorem Yha : autoK [mI 38 3 0, fI 39 1 5 0, lI 40 39 0, mI 41 3 0, fI 42 1 5 0, lI 43 42 0, xI 44 1 41 43 0, lI 45 44 0, mI 46 45 0, gI 47 (.mv (.t 3)) 0 46 false, gI 48 (.fa 0 (.t 5)) 0 46 false, gI 49 (.ld none (.t 48)) 0 46 false, gI 50 (.idx 1 (.t 47) (.t 49)) 0 46 false, gI 51 (.ld none (.t 50)) 0 46 false, oI 52 (.pick (.t 46) (.c (.bool true)) (.t 51)) 0, xI 53 1 38 40 0, ⟨none, .st 1 (.t 53) (.t 52), 0, [], [], none⟩] = (0, 1) := Zwk
def Zli:List IOp := [oI 54 (.bin .add (.t 18) (cI 1)) 0,mI 18 54 0]
def Zgw:CC := .seq (.rg false Zgx) (.seq (.cond (.t 19) .skip (.exit 2)) (.seq (.block 3 (.seq (.rg false Znb) (.seq (.rg true Zbw) (.rg true Zbl)))) (.rg false Zli)))
def Zl4:List IOp := [oI 55 (.bin .add (.t 13) (cI 1)) 0,mI 13 55 0]
def Zm8:CC := .seq (.rg false Zhb) (.seq (.cond (.t 14) .skip (.exit 0)) (.seq (.block 1 (.seq (.rg false Zng) (.block 2 (.loop Zgw)))) (.rg false Zl4)))
def Zl3:List IOp := [mI 56 3 0,oI 57 (.call 128 [.t 56,.c (.bool false)]) 0,oI 58 (.un .not (.t 57)) 0,mI 2 58 0]
def Zw5:CC := .seq (.rg false Zm4) (.seq (.rg false Zn9) (.seq (.rg false Znf) (.seq (.seq (.rg false Zni) (.block 0 (.loop Zm8))) (.seq (.rg false Zl3) .ret))))
abbrev Z9o:Nat:=92
theorem Z8e:fnOk Tryz.prog 92=some (59,Zw5,[.tmp 2]):=by kernel_rfl
def Zke:List IOp := [oI 4 (.mv (.c (.bool false))) 0]
def Zjs:List IOp := [mI 5 0 0,mI 6 1 0,oI 7 (.call 150 [.t 5,.t 6]) 0,oI 8 (.bin .geq (.t 7) (cI 0)) 0,mI 4 8 0]
def Zqs:CC := .seq (.rg false Zke) (.seq (.rg false Zjs) .ret)
abbrev Z4j:Nat:=128
theorem Z30:fnOk Tryz.prog 128=some (9,Zqs,[.tmp 4]):=by kernel_rfl
def Zqt:List IOp := [oI 4 (.mv (cI 0)) 0]
def Zra:List IOp := [mI 6 0 0,oI 7 (.len (.t 6)) 0,oI 8 (.mv (cI 0)) 0]
def Zej:List IOp := [oI 9 (.bin .lss (.t 8) (.t 7)) 0]
def Zij:List IOp := [mI 10 8 0,mI 5 10 0]
def Zil:List IOp := [mI 11 1 0,mI 12 0 0,mI 13 5 0,xI 14 1 12 13 0,lI 15 14 0,oI 16 (.beq false (.t 11) (.t 15)) 0]
def Zq3:List IOp := [mI 17 5 0,mI 4 17 0]
def Zrg:List IOp := [oI 18 (.bin .add (.t 8) (cI 1)) 0,mI 8 18 0]
def Zre:CC := .seq (.rg false Zej) (.seq (.cond (.t 9) .skip (.exit 0)) (.seq (.block 1 (.seq (.rg false Zij) (.seq (.rg false Zil) (.cond (.t 16) (.seq (.rg false Zq3) .ret) .skip)))) (.rg false Zrg)))
def Zri:List IOp := [oI 4 (.mv (cI (-1))) 0]
def Z2f:CC := .seq (.rg false Zqt) (.seq (.seq (.rg false Zra) (.block 0 (.loop Zre))) (.seq (.rg false Zri) .ret))
abbrev Ycb:Nat:=150
theorem Z95:fnOk Tryz.prog 150=some (19,Z2f,[.tmp 4]):=by kernel_rfl
def Z75:List IOp := [oI 2 (.box (.t 0)) 0,oI 4 (.mv (.c .nils)) 1]
def Zst:List IOp := [oI 5 (.call 77 [cI 0]) 0,oI 6 (.bsl (some 4) 1 [.bool false,.nils,.bool false,.nils] [(0,.t 5)]) 0,lJ 7 3 2 1,oI 8 (.calle 63 [.t 7]) 2,mI 9 1 1,oI 10 (.slc 4 (.t 9) (some (cI 1)) none) 1,oI 11 (.calle 131 [.t 8,.t 10]) 2,⟨some 12,.app (some 4) 64 (.t 6) (.t 11),1,[0],[],none⟩,⟨some 4,.mv (.t 12),2,[0,1],[],none⟩]
@[go_sem ↓] theorem Ycu : autoK Zst = (2, 1) := by kernel_rfl
@[go_sem] theorem Yud : autoK [oI 5 (.call 77 [cI 0]) 0, oI 6 (.bsl (some 4) 1 [.bool false, .nils, .bool false, .nils] [(0, .t 5)]) 0, lJ 7 3 2 1, oI 8 (.calle 63 [.t 7]) 2, mI 9 1 1, oI 10 (.slc 4 (.t 9) (some (cI 1)) none) 1, oI 11 (.calle 131 [.t 8, .t 10]) 2, ⟨some 12, .app (some 4) 64 (.t 6) (.t 11), 1, [0], [], none⟩, ⟨some 4, .mv (.t 12), 2, [0, 1], [], none⟩] = (2, 1) := Ycu
def Yie:CC := .seq (.rg false Z75) (.seq (.rg true Zst) .ret)
abbrev Z4m:Nat:=96
theorem Ymc:fnOk Tryz.prog 96=some (13,Yie,[.tmp 4]):=by kernel_rfl
def Zq1:List IOp := [oI 4 (.mv (.c .nils)) 0]
def Zqz:List IOp := [mI 11 0 0,oI 12 (.len (.t 11)) 0,oI 13 (.mv (cI 0)) 0]
def Zih:List IOp := [oI 14 (.bin .lss (.t 13) (.t 12)) 0]
def Zrj:List IOp := [mI 15 13 0,mI 5 15 0]
def Zeg:List IOp := [mI 16 0 0,mI 17 5 0,mI 18 0 0,mI 19 5 0,xI 20 1 18 19 0,lI 21 20 0,mI 22 1 0,mI 23 5 0,xI 24 4 22 23 0,lJ 25 4 24 0,oI 26 (.bsl (some 4) 1 [.bool false,.nils,.bool false,.nils] [(0,.t 25)]) 0,⟨some 27,.app (some 4) 64 (.t 21) (.t 26),1,[0],[],none⟩,⟨some 28,.idx 1 (.t 16) (.t 17),2,[0,1],[],none⟩,⟨none,.st 1 (.t 28) (.t 27),2,[0,1],[],none⟩]
@[go_sem ↓] theorem Z3b : autoK Zeg = (2, 1) := by kernel_rfl
@[go_sem] theorem Yl7 : autoK [mI 16 0 0, mI 17 5 0, mI 18 0 0, mI 19 5 0, xI 20 1 18 19 0, lI 21 20 0, mI 22 1 0, mI 23 5 0, xI 24 4 22 23 0, lJ 25 4 24 0, oI 26 (.bsl (some 4) 1 [.bool false, .nils, .bool false, .nils] [(0, .t 25)]) 0, ⟨some 27, .app (some 4) 64 (.t 21) (.t 26), 1, [0], [], none⟩, ⟨some 28, .idx 1 (.t 16) (.t 17), 2, [0, 1], [], none⟩, ⟨none, .st 1 (.t 28) (.t 27), 2, [0, 1], [], none⟩] = (2, 1) := Z3b
def Zq4:List IOp := [oI 29 (.bin .add (.t 13) (cI 1)) 0,mI 13 29 0]
def Zie:CC := .seq (.rg false Zih) (.seq (.cond (.t 14) .skip (.exit 0)) (.seq (.block 1 (.seq (.rg false Zrj) (.rg true Zeg))) (.rg false Zq4)))
def Zqy:List IOp := [mI 30 0 0,oI 31 (.call 114 [.t 30]) 0]
def Zrf:List IOp := [mI 32 0 0,oI 33 (.len (.t 32)) 0,mI 6 33 0]
def Zrb:List IOp := [mI 34 6 0,oI 35 (.mks (some 4) 64 [.bool false,.nils,.bool false,.nils] (.t 34) (.t 34)) 0,mI 7 35 1]
def Znc:List IOp := [mI 36 6 0,oI 37 (.bin .sub (.t 36) (cI 1)) 0,mI 8 37 0]
def Zg3:List IOp := [mI 38 8 0,oI 39 (.bin .geq (.t 38) (cI 0)) 0]
def Zna:List IOp := [mI 42 0 0,mI 43 8 0,xI 44 1 42 43 0,lI 45 44 0,mI 46 6 0,xI 47 4 45 46 0,lJ 48 4 47 0,oI 9 (.alloc [.bool false,.nils,.bool false,.nils]) 0,⟨none,.st 4 (.t 9) (.t 48),1,[],[],none⟩]
def Znv:List IOp := [mI 49 8 0,oI 50 (.bin .add (.t 49) (cI 1)) 0,mI 10 50 0]
def Zg1:List IOp := [mI 51 10 0,mI 52 6 0,oI 53 (.bin .lss (.t 51) (.t 52)) 0]
def Zgz:List IOp := [lJ 56 4 9 0,mI 57 0 0,mI 58 8 0,xI 59 1 57 58 0,lI 60 59 0,mI 61 10 0,xI 62 4 60 61 0,lJ 63 4 62 0,mI 64 7 0,mI 65 10 0,xI 66 4 64 65 0,lJ 67 4 66 0,oI 68 (.call 87 [.t 63,.t 67]) 0,oI 69 (.callw 79 [.t 56,.t 68]) 0,⟨none,.st 4 (.t 9) (.t 69),0,[],[],none⟩]
@[go_sem ↓] theorem Zzr : autoK Zgz = (0, 1) := by kernel_rfl
@[go_sem] theorem Ykg : autoK [lJ 56 4 9 0, mI 57 0 0, mI 58 8 0, xI 59 1 57 58 0, lI 60 59 0, mI 61 10 0, xI 62 4 60 61 0, lJ 63 4 62 0, mI 64 7 0, mI 65 10 0, xI 66 4 64 65 0, lJ 67 4 66 0, oI 68 (.call 87 [.t 63, .t 67]) 0, oI 69 (.callw 79 [.t 56, .t 68]) 0, ⟨none, .st 4 (.t 9) (.t 69), 0, [], [], none⟩] = (0, 1) := Zzr
def Zm1:List IOp := [mI 54 10 0,oI 55 (.bin .add (.t 54) (cI 1)) 0,mI 10 55 0]
def Zig:CC := .seq (.seq (.rg false Zg1) (.cond (.t 53) .skip (.exit 4))) (.seq (.block 5 (.rg true Zgz)) (.rg false Zm1))
def Zha:List IOp := [mI 70 7 0,mI 71 8 0,lJ 72 4 9 0,mI 73 0 0,mI 74 8 0,xI 75 1 73 74 0,lI 76 75 0,mI 77 8 0,xI 78 4 76 77 0,lJ 79 4 78 0,oI 80 (.call 78 [.t 72,.t 79]) 0,xI 81 4 70 71 0,⟨none,.st 4 (.t 81) (.t 80),0,[],[],none⟩]
@[go_sem ↓] theorem Zz3 : autoK Zha = (0, 1) := by kernel_rfl
@[go_sem] theorem Yki : autoK [mI 70 7 0, mI 71 8 0, lJ 72 4 9 0, mI 73 0 0, mI 74 8 0, xI 75 1 73 74 0, lI 76 75 0, mI 77 8 0, xI 78 4 76 77 0, lJ 79 4 78 0, oI 80 (.call 78 [.t 72, .t 79]) 0, xI 81 4 70 71 0, ⟨none, .st 4 (.t 81) (.t 80), 0, [], [], none⟩] = (0, 1) := Zz3
def Znm:List IOp := [mI 40 8 0,oI 41 (.bin .sub (.t 40) (cI 1)) 0,mI 8 41 0]
def Zif:CC := .seq (.seq (.rg false Zg3) (.cond (.t 39) .skip (.exit 2))) (.seq (.block 3 (.seq (.rg false Zna) (.seq (.seq (.rg false Znv) (.block 4 (.loop Zig))) (.rg true Zha)))) (.rg false Znm))
def Zg6:List IOp := [mI 82 7 0,mI 4 82 0]
def Z32:CC := .seq (.rg false Zq1) (.seq (.seq (.rg false Zqz) (.block 0 (.loop Zie))) (.seq (.rg false Zqy) (.seq (.rg false Zrf) (.seq (.rg false Zrb) (.seq (.seq (.rg false Znc) (.block 2 (.loop Zif))) (.seq (.rg false Zg6) .ret))))))
abbrev Ycf:Nat:=131
theorem Z9m:fnOk Tryz.prog 131=some (83,Z32,[.tmp 4]):=by kernel_rfl
def Zso:List IOp := [oI 8 (.alloc [.int .i64 0,.nils,.nils]) 0,oI 9 (.mv (.c .nils)) 1,oI 10 (.mv (cI 0)) 1]
def Zu5:List IOp := [mI 15 0 0,mI 16 1 0,oI 17 (.call 62 [.t 15,.t 16]) 0,mI 14 17 0,eI 18 0 14 0,eI 19 1 14 0,oI 11 (.alloc [.int .i64 0,.nils,.nils]) 0,⟨none,.st 3 (.t 11) (.t 18),1,[],[],none⟩,mI 12 19 1]
def Zv7:List IOp := [mI 21 12 0,oI 22 (.bin .neq (.t 21) (cI 0)) 0,mI 20 22 0]
def Z93:List IOp := [oI 23 (.build [.int .i64 0,.nils,.nils] []) 0,mI 24 12 0,⟨none,.st 3 (.t 8) (.t 23),0,[],[],none⟩,oI 9 (.mv (.c .nils)) 0,mI 10 24 0]
def Zs0:List IOp := [mI 26 2 0,oI 27 (.bin .lss (.t 26) (cI 0)) 0,mI 28 27 0,gI 29 (.mv (.t 2)) 0 28 false,gI 30 (.mv (.t 0)) 0 28 false,gI 31 (.bin .geq (.t 29) (.t 30)) 0 28 false,oI 32 (.pick (.t 28) (.c (.bool true)) (.t 31)) 0,mI 33 32 0,gI 34 (.mv (.t 3)) 0 33 false,gI 35 (.bin .lss (.t 34) (cI 0)) 0 33 false,oI 36 (.pick (.t 33) (.c (.bool true)) (.t 35)) 0,mI 37 36 0,gI 38 (.mv (.t 3)) 0 37 false,gI 39 (.mv (.t 0)) 0 37 false,gI 40 (.bin .geq (.t 38) (.t 39)) 0 37 false,oI 41 (.pick (.t 37) (.c (.bool true)) (.t 40)) 0,mI 42 41 0,gI 43 (.mv (.t 2)) 0 42 false,gI 44 (.mv (.t 3)) 0 42 false,gI 45 (.bin .eql (.t 43) (.t 44)) 0 42 false,oI 46 (.pick (.t 42) (.c (.bool true)) (.t 45)) 0,mI 25 46 0]
def Yby:List IOp := [oI 47 (.build [.int .i64 0,.nils,.nils] []) 0,⟨none,.st 3 (.t 8) (.t 47),0,[],[],none⟩,oI 9 (.mv (.c .nils)) 0,oI 10 (.mv (cI 1)) 0]
def Zuj:List IOp := [lJ 49 3 11 0,oI 50 (.call 92 [.t 49]) 0,oI 51 (.un .not (.t 50)) 0,mI 48 51 0]
def Ybs:List IOp := [oI 52 (.build [.int .i64 0,.nils,.nils] []) 0,⟨none,.st 3 (.t 8) (.t 52),0,[],[],none⟩,oI 9 (.mv (.c .nils)) 0,oI 10 (.mv (cI 5)) 0]
def Zv9:List IOp := [oI 53 (.call 77 [cI 0]) 0,oI 54 (.bsl (some 4) 1 [.bool false,.nils,.bool false,.nils] [(0,.t 53)]) 0,mI 55 0 1,oI 56 (.call 99 [.t 54,.t 55]) 1,mI 13 56 1]
def Zq9:List IOp := [mI 57 13 0,mI 58 2 0,mI 59 13 0,mI 60 3 0,oI 61 (.call 77 [cI 1]) 0,oI 62 (.call 77 [cI (-1)]) 0,xI 63 4 57 58 0,⟨none,.st 4 (.t 63) (.t 61),0,[],[],none⟩,xI 64 4 59 60 0,⟨none,.st 4 (.t 64) (.t 62),0,[],[],none⟩]
def Zin:List IOp := [lJ 65 3 11 0,lJ 66 3 11 0,mI 67 13 0,oI 68 (.call 96 [.t 66,.t 67]) 0,⟨none,.st 3 (.t 8) (.t 65),0,[],[],none⟩,mI 9 68 0,oI 10 (.mv (cI 0)) 0]
@[go_sem ↓] theorem Z2m : autoK Zin = (0, 1) := by kernel_rfl
@[go_sem] theorem Ylw : autoK [lJ 65 3 11 0, lJ 66 3 11 0, mI 67 13 0, oI 68 (.call 96 [.t 66, .t 67]) 0, ⟨none, .st 3 (.t 8) (.t 65), 0, [], [], none⟩, mI 9 68 0, oI 10 (.mv (cI 0)) 0] = (0, 1) := Z2m
def Z58:CC := .seq (.rg false Zso) (.seq (.rg false Zu5) (.seq (.block 0 (.seq (.rg false Zv7) (.cond (.t 20) (.seq (.rg false Z93) .ret) (.seq (.rg false Zs0) (.cond (.t 25) (.seq (.rg false Yby) .ret) (.seq (.rg false Zuj) (.cond (.t 48) (.seq (.rg false Ybs) .ret) .skip))))))) (.seq (.rg false Zv9) (.seq (.rg false Zq9) (.seq (.rg true Zin) .ret)))))
abbrev Z0x:Nat:=76
theorem Ycq:fnOk Tryz.prog 76=some (69,Z58,[.cell 8 (some 3),.tmp 9,.tmp 10]):=by kernel_rfl
def Zl2:List IOp := [oI 8 (.mv (.c (.str ⟨#[]⟩))) 0,oI 9 (.mv (cI 0)) 0]
def Zle:List IOp := [mI 14 0 0,mI 15 1 0,mI 16 2 0,mI 17 3 0,oI 18 (.call 76 [.t 14,.t 15,.t 16,.t 17]) 0,mI 13 18 0,eI 19 0 13 0,eI 20 1 13 0,eI 21 2 13 0,oI 10 (.alloc [.int .i64 0,.nils,.nils]) 0,⟨none,.st 3 (.t 10) (.t 19),1,[],[],none⟩,mI 11 20 1,mI 12 21 1]
def Zld:List IOp := [mI 22 12 0,oI 23 (.bin .neq (.t 22) (cI 0)) 0]
def Z1b:List IOp := [mI 24 12 0,oI 8 (.mv (.c (.str ⟨#[]⟩))) 0,mI 9 24 0]
def Zfg:List IOp := [oI 25 (.call 77 [cI 1]) 0,mI 26 11 0,mI 27 2 0,xI 28 4 26 27 0,lJ 29 4 28 0,mI 30 11 0,mI 31 3 0,xI 32 4 30 31 0,lJ 33 4 32 0,oI 34 (.callw 79 [.t 29,.t 33]) 0,oI 35 (.callw 78 [.t 25,.t 34]) 0,oI 36 (.callw 65 [.t 35]) 0,eI 37 0 36 0,eI 38 1 36 0,mI 8 37 0,mI 9 38 0]
@[go_sem ↓] theorem Zwr : autoK Zfg = (0, 0) := by kernel_rfl
@[go_sem] theorem Yi9 : autoK [oI 25 (.call 77 [cI 1]) 0, mI 26 11 0, mI 27 2 0, xI 28 4 26 27 0, lJ 29 4 28 0, mI 30 11 0, mI 31 3 0, xI 32 4 30 31 0, lJ 33 4 32 0, oI 34 (.callw 79 [.t 29, .t 33]) 0, oI 35 (.callw 78 [.t 25, .t 34]) 0, oI 36 (.callw 65 [.t 35]) 0, eI 37 0 36 0, eI 38 1 36 0, mI 8 37 0, mI 9 38 0] = (0, 0) := Zwr
def Zvv:CC := .seq (.rg false Zl2) (.seq (.rg false Zle) (.seq (.seq (.rg false Zld) (.cond (.t 23) (.seq (.rg false Z1b) .ret) .skip)) (.seq (.rg true Zfg) .ret)))
abbrev Zqx:Nat:=31
theorem Z48:fnOk Tryz.prog 31=some (39,Zvv,[.tmp 8,.tmp 9]):=by kernel_rfl
end GoAbs
namespace GoAbs
open Go Go.Proofs
theorem Y94 {nt n0:Nat}{e:Nat→AV}{H:Heap}{Q:Ex→St→Prop}{o n i L b N:Nat}{P ls c row:List AV}(e0:e 0 = .osl none o 0 N) (e1:e 1 = .sl ls) (e5:e 5 = .int .i64 (i:Int)) (hiN:i<N) (hL:H.length=L) (ho:H[o]? = some (.cells P)) (hPN:N≤P.length)
  (hP:P[i]? = some (.osl (some 4) b 0 n)) (hb:H[b]? = some (.cells row)) (hr:row.length=n*4) (hbo:b≠o) (hls:ls[i]? = some (.agg c)) (hc:c.length=4) (hn:n≤1000000)
  (hQ:∀ e',e' 0=e 0→e' 1=e 1→e' 12=e 12→e' 13=e 13→Q .normal ⟨e',(H.set b .dead).set o (.cells (P.set i (.osl (some 4) (L+1) 0 (n+1)))) ++ [.cells c,.cells (row++c)]⟩) :
  T Tryz.prog nt n0 (.rg true Zeg) ⟨e,H⟩ Q:=by
 have hm:Tryz.prog.follows .mixedOrders=true:=by kernel_rfl
 have hoL:o<H.length:=(List.getElem?_eq_some_iff.1 ho).1
 have hbL:b<H.length:=(List.getElem?_eq_some_iff.1 hb).1
 have q0:(0:Int)≤(i:Int):=by omega
 have q1:(i:Int)<(N:Int):=by omega
 have q2:(i:Int)<(ls.length:Int):=by have:=(List.getElem?_eq_some_iff.1 hls).1; omega
 have g1:∀ X:Heap,(H++X)[o]? = some (.cells P):=fun X=>by rw [List.getElem?_append_left hoL]; exact ho
 have g2:∀ X:Heap,(H++X)[b]? = some (.cells row):=fun X=>by rw [List.getElem?_append_left hbL]; exact hb
 have s1:∀ X:Heap,(H++X).set b .dead=H.set b .dead++X:=fun X=>List.set_append_left _ _ hbL
 have g3:∀ X:Heap,(H.set b .dead++X)[o]? = some (.cells P):=fun X=>by rw [List.getElem?_append_left (by rw [List.length_set]; exact hoL),List.getElem?_set_ne hbo]; exact ho
 have s2:∀ (X:Heap) (y:Blk),(H.set b .dead++X).set o y=(H.set b .dead).set o y++X:=fun X y=>List.set_append_left _ _ (by rw [List.length_set]; exact hoL)
 have p0:∀ x y:Blk,(H ++ [x,y])[L]? = some x:=fun x y=>by rw [List.getElem?_append_right (by omega),hL,Nat.sub_self]; rfl
 have p1:∀ x y:Blk,(H.set b .dead ++ [x,y])[L+1]? = some y:=fun x y=>by rw [List.getElem?_append_right (by rw [List.length_set]; omega),List.length_set,hL,Nat.add_sub_cancel_left]; rfl
 have p2:∀ x y z:Blk,(H ++ [x,y]).set L z=H ++ [z,y]:=fun x y z=>by rw [List.set_append_right _ _ (by omega),hL,Nat.sub_self]; rfl
 have p3:∀ x y z:Blk,(H.set b .dead ++ [x,y]).set (L+1) z=H.set b .dead ++ [x,z]:=fun x y z=>by rw [List.set_append_right _ _ (by rw [List.length_set]; omega),List.length_set,hL,Nat.add_sub_cancel_left]; rfl
 have hi:i<P.length:=(List.getElem?_eq_some_iff.1 hP).1
 have hset:∀ v:AV,P.take i++v::P.drop (i+1)=P.set i v:=fun v=>by rw [List.set_eq_take_append_cons_drop,if_pos hi]
 have hPd:P.drop i = .osl (some 4) b 0 n::P.drop (i+1):=by
  have:=List.drop_eq_getElem_cons hi
  rw [this]; congr 1
  exact (List.getElem?_eq_some_iff.1 hP).2
 have z1:(n+1)*64≤1099511627776:=by omega
 have z2:n*4≤row.length:=by omega
 have tr:row.take (n*4)=row:=List.take_of_length_le (by omega)
 have tc:c.take 4=c:=List.take_of_length_le (by omega)
 have dc:c.drop 4 = []:=List.drop_eq_nil_of_le (by omega)
 have lc:4≤c.length:=by omega
 have z3:i+1≤P.length:=hi
 refine T_W ?_
 simp only [go_sem,Zeg,e0,e1,e5,hL,g1,g2,g3,s1,s2,p0,p1,p2,p3,q0,q1,q2,hls,hc,hP,hPd,hset,z1,z2,z3,tr,tc,dc,lc,hm]
 have hset':∀ v:AV,P.take i ++ [v]++P.drop (i+1)=P.set i v:=fun v=>by rw [← hset,List.append_assoc]; rfl
 refine ⟨.inl (by omega),.inl (by omega),.inl (by omega),?_⟩
 rw [hset']
 exact hQ _ (by simp only [go_sem]) (by simp only [go_sem]) (by simp only [go_sem]) (by simp only [go_sem])
def aug (M:RM) (r:List Rat):RM:=List.zipWith (fun row x=>row ++ [x]) M r
theorem Yky {M:RM}{r:List Rat}(h:r.length=M.length):(aug M r).length=M.length:=by unfold aug; rw [List.length_zipWith]; omega
theorem Y3q {M:RM}{r:List Rat}{w:Nat}(h:Wid w M):Wid (w+1) (aug M r):=fun row hr=>by
 unfold aug at hr
 obtain ⟨i,hi,he⟩:=List.getElem_of_mem hr
 rw [List.getElem_zipWith] at he
 rw [← he,List.length_append,h _ (List.getElem_mem _)]; rfl
theorem Y38 {M:RM}{r:List Rat}{i:Nat}{row:List Rat}{x:Rat}(h1:M[i]? = some row) (h2:r[i]? = some x):(aug M r)[i]? = some (row ++ [x]):=by
 unfold aug; rw [List.getElem?_zipWith,h1,h2]
def ptrsA (o n i:Nat):List AV:=((List.range i).map fun j=>AV.osl (some 4) (o+2+2*n+2*j) 0 (n+1))++((List.range' i (n - i)).map fun j=>AV.osl (some 4) (o+2+2*j) 0 n)
theorem Ywq {o n i:Nat}(h:i≤n):(ptrsA o n i).length=n:=by unfold ptrsA; simp; omega
theorem Yst {o n:Nat}:ptrsA o n 0=ptrs o n n:=by unfold ptrsA ptrs; simp [List.range_eq_range']
theorem Yuo {o n i:Nat}(h:i<n):(ptrsA o n i)[i]? = some (.osl (some 4) (o+2+2*i) 0 n):=by
 unfold ptrsA
 rw [List.getElem?_append_right (by simp),List.length_map,List.length_range,Nat.sub_self,List.getElem?_map,List.getElem?_range' (by omega)]
 rfl
theorem Yum {o n i:Nat}(h:i<n):(ptrsA o n i).set i (.osl (some 4) (o+2+2*n+2*i) 0 (n+1))=ptrsA o n (i+1):=by
 unfold ptrsA
 rw [List.set_append_right _ _ (by simp),List.length_map,List.length_range,Nat.sub_self,List.range_succ,List.map_append,show n - i=(n - (i+1))+1 by omega,List.range'_succ,List.map_cons,List.set_cons_zero]
 simp
def heapA (o n i:Nat) (M:RM) (r:List Rat):Heap := .cells (ptrsA o n i)::(List.replicate (2*i) .dead++(rowsH (M.drop i)++rowsH ((aug M r).take i)))
theorem Yqp {o n:Nat}{M:RM}{r:List Rat}(h:M.length=n):heapA o n 0 M r=matH o n M:=by
 unfold heapA matH; rw [Yst,h]; simp [rowsH]
theorem Yup {o n i:Nat}{M:RM}{r:List Rat}(hM:M.length=n) (hr:r.length=n) (hi:i≤n):(heapA o n i M r).length=1+2*n+2*i:=by
 unfold heapA
 rw [List.length_cons,List.length_append,List.length_append,Zct,Zct,List.length_replicate,List.length_drop,List.length_take,Yky (by omega)]
 omega
theorem Ywz {o n i:Nat}{M:RM}{r row:List Rat}(hi:i<n) (hM:M.length=n) (hrow:M[i]? = some row):(heapA o n i M r)[2+2*i]? = some (.cells (qc row)):=by
 unfold heapA
 rw [show 2+2*i=(1+2*i)+1 by omega,List.getElem?_cons_succ,List.getElem?_append_right (by simp),List.length_replicate,show 1+2*i - 2*i=1 by omega]
 rw [List.drop_eq_getElem_cons (by omega)]
 show some (Blk.cells (qc (M[i]'(by omega))))=_
 have:=List.getElem?_eq_some_iff.1 hrow
 rw [← this.2]
theorem Yqe {o n i:Nat}{M:RM}{r row:List Rat}{x:Rat}(hi:i<n) (hM:M.length=n) (hrow:M[i]? = some row) (hx:r[i]? = some x) (hw:row.length=n) :
  ((heapA o n i M r).set (2+2*i) .dead).set 0 (.cells ((ptrsA o n i).set i (.osl (some 4) (o+2+2*n+2*i) 0 (n+1)))) ++ [.dead,.cells (qc row++qcell x)]=heapA o n (i+1) M r:=by
 rw [Yum hi]
 unfold heapA
 rw [show 2+2*i=(1+2*i)+1 by omega,List.set_cons_succ,List.set_cons_zero,List.set_append_right _ _ (by simp),List.length_replicate,show 1+2*i - 2*i=1 by omega]
 have hd:M.drop i=row::M.drop (i+1):=by
  rw [List.drop_eq_getElem_cons (by omega)]
  congr 1
  exact (List.getElem?_eq_some_iff.1 hrow).2
 have hr:rowsH (row::M.drop (i+1)) = .dead :: .cells (qc row)::rowsH (M.drop (i+1)):=rfl
 rw [hd,hr,List.set_append_left _ _ (by simp)]
 have ht:(aug M r).take (i+1)=(aug M r).take i ++ [row ++ [x]]:=by
  rw [List.take_add_one,Y38 hrow hx]; rfl
 have hq:qc (row ++ [x])=qc row++qcell x:=by rw [Z38]; simp [qc]
 have happ:rowsH ((aug M r).take i ++ [row ++ [x]])=rowsH ((aug M r).take i) ++ [.dead,.cells (qc row++qcell x)]:=by
  unfold rowsH
  rw [List.flatMap_append]
  simp [hq]
 have hrep:(List.replicate (2*(i+1)) Blk.dead)=List.replicate (2*i) .dead ++ [.dead,.dead]:=by
  rw [show 2*(i+1)=2*i+2 by omega, ← List.replicate_append_replicate]; rfl
 rw [ht,happ,hrep]
 simp
end GoAbs
namespace GoAbs
open Go Go.Proofs
def condsR (r:List Rat):List AV:=r.map avQ
theorem Zbx (r:List Rat):(condsR r).length=r.length:=by simp [condsR]
theorem Zjm {r:List Rat}{i:Nat}{x:Rat}(h:r[i]? = some x):(condsR r)[i]? = some (.agg (qcell x)):=by
 unfold condsR; rw [List.getElem?_map,h]; rfl
theorem Y9t {pre:Heap}{o n n0:Nat}{M:RM}{r:List Rat}(ho:pre.length=o) (hM:M.length=n) (hr:r.length=n) (hW:Wid n M) (hn:n≤1000000) {K:Ex→St→Prop}
  (hK:∀ e:Nat→AV,e 0 = .osl none o 0 n→K (.exit 0) ⟨e,pre++heapA o n n M r⟩) :
  T Tryz.prog 83 n0 (.loop Zie) ⟨envL [(0,.osl none o 0 n),(1,.sl (condsR r)),(12,.int .i64 (n:Int)),(13,.int .i64 0)],pre++matH o n M⟩ K:=by
 refine Z3i (fun i:Nat=>⟨envL [(0,.osl none o 0 n),(1,.sl (condsR r)),(12,.int .i64 (n:Int)),(13,.int .i64 (i:Int))],pre++heapA o n i M r⟩) (fun i=>i≤n) (fun i=>n - i) 0 (by omega)
  (Zgo (Zab [(0,.osl none o 0 n),(1,.sl (condsR r)),(12,.int .i64 (n:Int)),(13,.int .i64 0)] (by simp only [go_sem])) (by rw [Yqp hM]; rfl)) (fun i hi N hN=>?_)
 unfold Zie
 by_cases hin:i<n
 ·obtain ⟨row,hrow⟩:∃ row,M[i]? = some row:=⟨_,List.getElem?_eq_getElem (by omega)⟩
  obtain ⟨x,hx⟩:∃ x,r[i]? = some x:=⟨_,List.getElem?_eq_getElem (by omega)⟩
  have hw:row.length=n:=hW _ (List.mem_of_getElem? hrow)
  have q1:(i:Int)<(n:Int):=by omega
  have e1:IntKind.i64.wrap ((i:Int)+1)=((i+1:Nat):Int):=by rw [Zac (by omega) (by omega)]; omega
  have hAl:=Yup (o:=o) hM hr (show i≤n by omega)
  have hL:(pre++heapA o n i M r).length=o+(1+2*n+2*i):=by rw [List.length_append,hAl,ho]
  have hgo:(pre++heapA o n i M r)[o]? = some (.cells (ptrsA o n i)):=by rw [List.getElem?_append_right (by omega),ho,Nat.sub_self]; rfl
  have hgb:(pre++heapA o n i M r)[o+2+2*i]? = some (.cells (qc row)):=by
   rw [List.getElem?_append_right (by omega),ho,show o+2+2*i - o=2+2*i by omega]; exact Ywz hin hM hrow
  refine Ze7 1 rfl ?_
  simp only [go_sem,Zih,q1]
  refine Zms (Zov (Ze7 0 rfl ?_))
  simp only [go_sem,Zrj]
  refine Y94 (o:=o) (n:=n) (i:=i) (N:=n) (ls:=condsR r) (P:=ptrsA o n i) (row:=qc row) (c:=qcell x) (by simp only [go_sem]) (by simp only [go_sem]) (by simp only [go_sem]) hin hL hgo (by rw [Ywq hi]; exact Nat.le_refl _) (Yuo hin) hgb (by rw [Zq0,hw]) (by omega) (Zjm hx) rfl hn (fun e' h0 h1 h12 h13=>?_)
  simp only [go_sem] at h0 h1 h12 h13
  refine T_W ?_
  simp only [go_sem,Zq4,h13,e1]
  refine hN (i+1) _ (by omega) (by omega) (Zgo (Zto [o+(1+2*n+2*i)] [(0,.osl none o 0 n),(1,.sl (condsR r)),(12,.int .i64 (n:Int)),(13,.int .i64 ((i+1:Nat):Int))] ⟨.inr (by simp only [go_sem,h0]),.inr (by simp only [go_sem,h1]),.inr (by simp only [go_sem,h12]),.inr (by simp only [go_sem]),trivial⟩) ?_)
  congr 1
  rw [← Yqe (o:=o) (n:=n) (x:=x) hin hM hrow hx hw]
  show List.set _ (o+(1+2*n+2*i)) Blk.dead=_
  rw [List.set_append_right _ _ (by rw [List.length_set,List.length_set,hL]; exact Nat.le_refl _),List.length_set,List.length_set,hL,Nat.sub_self,List.set_cons_zero]
  rw [List.set_append_right _ _ (by omega),ho,show o+2+2*i - o=2+2*i by omega,List.set_append_right _ _ (by omega),ho,Nat.sub_self,List.append_assoc]
  rw [show o+(1+2*n+2*i)+1=o+2+2*n+2*i by omega]
 ·have hie:i=n:=by omega
  subst hie
  have q1:¬ ((i:Nat):Int)<(i:Int):=by omega
  refine T_W ?_
  simp only [go_sem,Zih,q1]
  exact hK _ (by simp only [go_sem])
end GoAbs
namespace GoAbs
open Go Go.Proofs
def heapT (o n:Nat) (A:RM):Heap := .cells (ptrsA o n n)::(List.replicate (2*n) .dead++rowsH A)
theorem Yqd {o n:Nat}{M:RM}{r:List Rat}(hM:M.length=n) (hr:r.length=n):heapA o n n M r=heapT o n (aug M r):=by
 unfold heapA heapT
 rw [List.drop_eq_nil_of_le (by omega),List.take_of_length_le (by rw [Yky (by omega)]; omega)]
 rfl
theorem Yu2 {o n:Nat}{A:RM}(hA:A.length=n):(heapT o n A).length=1+4*n:=by
 unfold heapT
 rw [List.length_cons,List.length_append,List.length_replicate,Zct]; omega
def swB (o n i:Nat):Nat:=if o+1≤i∧i<o+1+2*n then i+2*n else if o+1+2*n≤i∧i<o+1+4*n then i - 2*n else i
theorem Y4c (o n:Nat):∀ i,swB o n (swB o n i)=i:=fun i=>by
 unfold swB
 by_cases h1:o+1≤i∧i<o+1+2*n
 ·rw [if_pos h1,if_neg (by omega),if_pos (by omega)]; omega
 ·by_cases h2:o+1+2*n≤i∧i<o+1+4*n
  ·rw [if_neg h1,if_pos h2,if_pos (by omega)]; omega
  ·rw [if_neg h1,if_neg h2,if_neg h1,if_neg h2]
def PureH (K:Heap):Prop:=∀ f,K.map (Blk.gc f)=K
theorem PureH.clo {K:Heap}(h:PureH K) (m:Nat):Clo m K:=h _
theorem Yev {A:RM}:PureH (rowsH A):=fun f=>Ypo
theorem Y8q {pre:Heap}{o n:Nat}{A:RM}(ho:pre.length=o) (hp:PureH pre) (hA:A.length=n):Ren (swB o n) (pre++(matH o (n+1) A++List.replicate (2*n) .dead)) (pre++heapT o n A):=fun i=>by
 have hml:(matH o (n+1) A).length=1+2*n:=by rw [Zbb,hA]
 have hrl:(rowsH A).length=2*n:=by rw [Zct,hA]
 have gp:∀ (j:Nat) (b:Blk),pre[j]? = some b→b.gc (sg (swB o n))=b:=fun j b hb=>by
  have:=congrArg (fun l:Heap=>l[j]?) (hp (sg (swB o n)))
  simp only [List.getElem?_map,hb,Option.map_some,Option.some.injEq] at this
  exact this
 have gr:∀ (j:Nat) (b:Blk),(rowsH A)[j]? = some b→b.gc (sg (swB o n))=b:=fun j b hb=>by
  have:=congrArg (fun l:Heap=>l[j]?) (Yev (A:=A) (sg (swB o n)))
  simp only [List.getElem?_map,hb,Option.map_some,Option.some.injEq] at this
  exact this
 have mapid:∀ (x:Option Blk),(∀ b,x=some b→b.gc (sg (swB o n))=b)→x.map (Blk.gc (sg (swB o n)))=x:=fun x hx=>by
  cases x with
  | none=>rfl
  | some b=>rw [Option.map_some,hx b rfl]
 unfold heapT
 by_cases h0:i<o
 ·have hs:swB o n i=i:=by unfold swB; rw [if_neg (by omega),if_neg (by omega)]
  rw [hs,List.getElem?_append_left (by omega),List.getElem?_append_left (by omega),mapid _ (fun b hb=>gp i b hb)]
 ·by_cases h1:i=o
  ·have hs:swB o n i=i:=by unfold swB; rw [if_neg (by omega),if_neg (by omega)]
   rw [hs,h1,List.getElem?_append_right (by omega),List.getElem?_append_right (by omega),ho,Nat.sub_self]
   show some (Blk.cells (ptrsA o n n))=some (Blk.gc (sg (swB o n)) (.cells (ptrs o (n+1) A.length)))
   rw [hA]
   simp only [Blk.gc,Option.some.injEq,Blk.cells.injEq]
   rw [Zaw]
   unfold ptrsA ptrs
   rw [Nat.sub_self]
   simp only [List.range'_zero,List.map_nil,List.append_nil,List.map_map]
   refine List.map_congr_left fun j hj=>?_
   have hj':j<n:=List.mem_range.1 hj
   simp only [Function.comp,AV.gc,sg]
   congr 1
   unfold swB; rw [if_pos (by omega)]; omega
  ·by_cases h2:i<o+1+2*n
   ·have hs:swB o n i=i+2*n:=by unfold swB; rw [if_pos (by omega)]
    rw [hs,List.getElem?_append_right (by omega),List.getElem?_append_right (by omega),ho,List.getElem?_append_right (by omega),hml]
    rw [show i - o=(i - o - 1)+1 by omega,List.getElem?_cons_succ,List.getElem?_append_left (by rw [List.length_replicate]; omega),List.getElem?_replicate,if_pos (by omega),List.getElem?_replicate,if_pos (by omega)]
    rfl
   ·by_cases h3:i<o+1+4*n
    ·have hs:swB o n i=i - 2*n:=by unfold swB; rw [if_neg (by omega),if_pos (by omega)]
     rw [hs,List.getElem?_append_right (by omega),List.getElem?_append_right (by omega),ho,List.getElem?_append_left (by omega)]
     unfold matH
     rw [show i - o=(i - o - 1)+1 by omega,List.getElem?_cons_succ,List.getElem?_append_right (by rw [List.length_replicate]; omega),List.length_replicate,show i - 2*n - o=(i - 2*n - o - 1)+1 by omega,List.getElem?_cons_succ,
      show i - o - 1 - 2*n=i - 2*n - o - 1 by omega,mapid _ (fun b hb=>gr _ b hb)]
    ·have hs:swB o n i=i:=by unfold swB; rw [if_neg (by omega),if_neg (by omega)]
     rw [hs,List.getElem?_eq_none,List.getElem?_eq_none]
     ·rfl
     ·rw [List.length_append,List.length_append,hml,List.length_replicate]; omega
     ·rw [List.length_append,List.length_cons,List.length_append,List.length_replicate,hrl]; omega
theorem Ymm:∀ {k c:Nat}{M:RM}{d:Rat},(tri k c M d).2.length=M.length
 | 0,c,M,d=>rfl
 | k+1,c,M,d=>by
  unfold tri
  split
  ·rfl
  ·rw [Ymm,Za9]
theorem Xcc {pre:Heap}{o n k:Nat}{A:RM}(ho:pre.length=o) (hp:PureH pre) (hA:A.length=n) (hnl:n≤999999) (hW:Wid (n+1) A) (hB:Mb k A) (hk1:1≤k) (hk:9 ^ n*k≤100000000000) (hns:NoSw n 0 A) :
  SpecR Tryz.prog Zm6 (pre++heapT o n A) [.osl none o 0 n] (.agg (qcell (tri n 0 A 1).1)) (pre++heapT o n (tri n 0 A 1).2):=by
 have h:=Ypq (pre:=pre) (PP:=List.replicate (2*n) .dead) (o:=o) (w:=n+1) (n:=n) (k:=k) (M:=A) ho hA (by omega) (by omega) (by omega) hW hB hk1 hk hns (fun m _=>hp.clo m) (fun m _=>by unfold Clo; rw [List.map_replicate]; rfl)
 have hl:(tri n 0 A 1).2.length=n:=by rw [Ymm,hA]
 have:=Yvv (Y4c o n) (Y8q ho hp hA) (Y8q ho hp hl) h
 have e1 : [AV.osl none o 0 n].map (AV.gc (sg (swB o n))) = [.osl none o 0 n]:=by
  simp only [List.map_cons,List.map_nil,AV.gc,sg]
  have hs:swB o n o=o:=by unfold swB; rw [if_neg (by omega),if_neg (by omega)]
  rw [hs]
 rw [e1] at this
 exact this
end GoAbs
namespace GoAbs
open Go Go.Proofs
def bacc (row T:List Rat) (i n:Nat):Nat→Rat
 | 0=>rget row n
 | t+1=>bacc row T i n t - rget row (i+1+t)*rget T t
def bsub (A:RM) (n:Nat):Nat→List Rat
 | 0 => []
 | k+1=>bacc (A.getD (n - 1 - k) []) (bsub A n k) (n - 1 - k) n k / rget (A.getD (n - 1 - k) []) (n - 1 - k)::bsub A n k
theorem Zwj {A:RM}{n:Nat}:∀ k,(bsub A n k).length=k
 | 0=>rfl
 | k+1=>by unfold bsub; rw [List.length_cons,Zwj k]
theorem Qb.sub2 {k l:Nat}{a b:Rat}(ha:Qb k a) (hb:Qb l b):Qb (k+l+1) (a - b):=by
 rw [Rat.sub_eq_add_neg]; exact ha.add2 hb.neg
theorem Qb.mul2 {k l:Nat}{a b:Rat}(ha:Qb k a) (hb:Qb l b):Qb (k+l) (a*b):=by
 rw [← Yl2]
 have h0:(a.den:Int)*b.den≠0:=by have:=den_pos' a; have:=den_pos' b; exact Int.mul_ne_zero (by omega) (by omega)
 obtain ⟨h1,h2⟩:=Zic (n:=a.num*b.num) h0
 refine ⟨Nat.lt_of_le_of_lt h1 ?_,Nat.lt_of_le_of_lt h2 ?_⟩
 ·rw [Int.natAbs_mul,Nat.pow_add]; exact Nat.mul_lt_mul'' ha.n hb.n
 ·rw [Int.natAbs_mul,Nat.pow_add]; exact Nat.mul_lt_mul'' ha.dz hb.dz
theorem Qb.div2 {k l:Nat}{a b:Rat}(ha:Qb k a) (hb:Qb l b) (h0:b≠0):Qb (k+l) (a / b):=by
 rw [← Ykl]
 have hn:b.num≠0:=fun h=>h0 (Rat.num_eq_zero.1 h)
 have h0:(a.den:Int)*b.num≠0:=by have:=den_pos' a; exact Int.mul_ne_zero (by omega) hn
 obtain ⟨h1,h2⟩:=Zic (n:=a.num*b.den) h0
 refine ⟨Nat.lt_of_le_of_lt h1 ?_,Nat.lt_of_le_of_lt h2 ?_⟩
 ·rw [Int.natAbs_mul,Nat.pow_add]; exact Nat.mul_lt_mul'' ha.n hb.dz
 ·rw [Int.natAbs_mul,Nat.pow_add]; exact Nat.mul_lt_mul'' ha.dz hb.n
def bbit (a:Nat):Nat→Nat
 | 0=>a
 | k+1=>2*a+k*(a+bbit a k+1)
theorem Yw1 {a k:Nat}:bbit a k≤bbit a (k+1):=by
 cases k with
 | zero=>show a≤2*a+0*_; omega
 | succ k =>
  show bbit a (k+1)≤2*a+(k+1)*(a+bbit a (k+1)+1)
  have:bbit a (k+1)≤(k+1)*(a+bbit a (k+1)+1):=Nat.le_trans (by omega) (Nat.le_mul_of_pos_left _ (by omega))
  omega
theorem Z2u {row T:List Rat}{i n a l:Nat}(hr:Rb a row) (hT:Rb l T) (hn:row.length=n+1) (hi:i+1+T.length≤n):∀ t,t≤T.length→Qb (a+t*(a+l+1)) (bacc row T i n t)
 | 0,_=>by have:=hr.get (j:=n) (by omega); simpa [bacc] using this
 | t+1,h=>by
  have h1:=Z2u hr hT hn hi t (by omega)
  have:=h1.sub2 ((hr.get (j:=i+1+t) (by omega)).mul2 (hT.get (j:=t) (by omega)))
  refine this.mono ?_
  rw [Nat.add_mul]; omega
theorem Yif {A:RM}{n a:Nat}(hA:Mb a A) (hW:Wid (n+1) A) (hn:A.length=n) (hp:∀ i,i<n→rget (A.getD i []) i≠0):∀ k,k≤n→Rb (bbit a k) (bsub A n k)
 | 0,_=>fun x hx=>by simp [bsub] at hx
 | k+1,h=>by
  have ih:=Yif hA hW hn hp k (by omega)
  have hr:=hA.get (i:=n - 1 - k) (by omega)
  have hw:=hW.get (i:=n - 1 - k) (by omega)
  intro x hx
  unfold bsub at hx
  rcases List.mem_cons.1 hx with rfl | hx
  ·have h1:=Z2u (i:=n - 1 - k) hr ih hw (by rw [Zwj]; omega) k (by rw [Zwj]; exact Nat.le_refl _)
   have h2:=h1.div2 (hr.get (j:=n - 1 - k) (by omega)) (hp _ (by omega))
   refine h2.mono ?_
   show _≤2*a+k*(a+bbit a k+1)
   omega
  ·exact (ih x hx).mono Yw1
def xC (m:Nat) (T:List Rat):List AV:=rows m z4++qc T
theorem Xaz {m:Nat}{T:List Rat}:(xC m T).length=(m+T.length)*4:=by
 unfold xC; rw [List.length_append,Zgg rfl,Zq0]; omega
theorem Xaj {m t:Nat}{T:List Rat}(h:t<T.length):((xC m T).drop ((m+t)*4)).take 4=qcell (rget T t)∧4≤((xC m T).drop ((m+t)*4)).length:=by
 have hl:(rows m z4).length=m*4:=Zgg rfl
 have:(xC m T).drop ((m+t)*4)=(qc T).drop (t*4):=by
  unfold xC
  rw [List.drop_append,List.drop_eq_nil_of_le (by rw [hl]; omega),List.nil_append,hl]
  congr 1; omega
 rw [this]
 exact ⟨Zcm (Zal h),Zfv (Zal h)⟩
theorem Y8l {m:Nat}{T:List Rat}{x:Rat}:(xC (m+1) T).take (m*4)++qcell x++(xC (m+1) T).drop (m*4+4)=xC m (x::T):=by
 have hl:(rows m z4).length=m*4:=Zgg rfl
 unfold xC
 rw [Z1d (a:=m) (b:=1),show rows 1 z4=z4 by simp [rows],List.append_assoc (rows m z4) z4 (qc T),List.take_left' hl, ← List.drop_drop,List.drop_left' hl]
 have:(z4++qc T).drop 4=qc T:=rfl
 rw [this]
 simp [qc]
theorem Xbz {f:Nat→Option Nat}{m:Nat}{T:List Rat}:gcL f (xC m T)=xC m T:=by
 unfold xC
 rw [Zaw,List.map_append, ← Zaw, ← Zaw,Yq3]
 congr 1
 rw [Zaw]
 unfold rows
 rw [List.map_flatten,List.map_replicate]
 rfl
theorem Y8t {H0:Heap}{o n i L bR n0 a l:Nat}{V row:List Rat}(hL:H0.length=L) (ho:H0[o]? = some (.cells (ptrsA o n n))) (hb:bR=o+2+2*n+2*i) (hR:H0[bR]? = some (.cells (qc row))) (hi:i<n) (hnl:n≤1000000)
  (hw:row.length=n+1) (hT:i+1+V.length=n) (br:Rb a row) (bT:Rb l V) (hk:2*(a+V.length*(a+l+1)+l)+1≤1000000000000) {K:Ex→St→Prop}
  (hK:∀ e:Nat→AV,e 0 = .osl none o 0 n→e 6 = .int .i64 (n:Int)→e 7 = .osl (some 4) L 0 n→e 8 = .int .i64 (i:Int)→e 9 = .ptr (L+1) 0 →
   K (.exit 4) ⟨e,H0 ++ [.cells (xC (i+1) V),.cells (qcell (bacc row V i n V.length))]⟩) :
  T Tryz.prog 83 n0 (.loop Zig) ⟨envL [(0,.osl none o 0 n),(6,.int .i64 (n:Int)),(7,.osl (some 4) L 0 n),(8,.int .i64 (i:Int)),(9,.ptr (L+1) 0),(10,.int .i64 ((i+1:Nat):Int))],
   H0 ++ [.cells (xC (i+1) V),.cells (qcell (rget row n))]⟩ K:=by
 have hm:Tryz.prog.follows .mixedOrders=true:=by kernel_rfl
 refine Zaf (fun t:Nat=>⟨envL [(0,.osl none o 0 n),(6,.int .i64 (n:Int)),(7,.osl (some 4) L 0 n),(8,.int .i64 (i:Int)),(9,.ptr (L+1) 0),(10,.int .i64 ((i+1+t:Nat):Int))],
   H0 ++ [.cells (xC (i+1) V),.cells (qcell (bacc row V i n t))]⟩) (fun t=>t≤V.length) (fun t=>V.length - t) 0 (by omega) (Zab _ (by simp only [go_sem])) (fun t ht N hN=>?_)
 unfold Zig
 by_cases htl:t<V.length
 ·have q0:(0:Int)≤(i:Int):=by omega
  have q1:(i:Int)<(n:Int):=by omega
  have r0:(0:Int)≤((i+1+t:Nat):Int):=by omega
  have r1:((i+1+t:Nat):Int)<(n:Int):=by omega
  have r2:((i+1+t:Nat):Int)<((n+1:Nat):Int):=by omega
  have e1:IntKind.i64.wrap (((i+1+t:Nat):Int)+1)=((i+1+(t+1):Nat):Int):=by rw [Zac (by omega) (by omega)]; omega
  have g0:∀ X:Heap,(H0++X)[o]? = some (.cells (ptrsA o n n)):=fun X=>by rw [List.getElem?_append_left (List.getElem?_eq_some_iff.1 ho).1]; exact ho
  have g1:∀ X:Heap,(H0++X)[bR]? = some (.cells (qc row)):=fun X=>by rw [List.getElem?_append_left (List.getElem?_eq_some_iff.1 hR).1]; exact hR
  have gx:∀ x y:Blk,(H0 ++ [x,y])[L]? = some x:=fun x y=>by rw [List.getElem?_append_right (by omega),hL,Nat.sub_self]; rfl
  have gs:∀ x y:Blk,(H0 ++ [x,y])[L+1]? = some y:=fun x y=>by rw [List.getElem?_append_right (by omega),hL,Nat.add_sub_cancel_left]; rfl
  have ss:∀ x y z:Blk,(H0 ++ [x,y]).set (L+1) z=H0 ++ [x,z]:=fun x y z=>by rw [List.set_append_right _ _ (by omega),hL,Nat.add_sub_cancel_left]; rfl
  have gp:(ptrsA o n n)[i]? = some (.osl (some 4) bR 0 (n+1)):=by
   unfold ptrsA
   rw [List.getElem?_append_left (by simp; exact hi),List.getElem?_map,List.getElem?_range hi,hb]; rfl
  have rJ:row[i+1+t]? = some (rget row (i+1+t)):=Zal (by omega)
  have t1:=Zcm rJ
  have t2:=Zfv rJ
  obtain ⟨t3,t4⟩:=Xaj (m:=i+1) htl
  have hql:∀ q:Rat,(4:Nat)≤(qcell q).length:=fun q=>by rw [Zai]; omega
  have hqt:∀ q:Rat,(qcell q).take 4=qcell q:=fun q=>List.take_of_length_le (by rw [Zai]; omega)
  have hqd:∀ q:Rat,(qcell q).drop 4 = []:=fun q=>rfl
  have hlen:∀ x y:Blk,(H0 ++ [x,y]).length=L+2:=fun x y=>by rw [List.length_append,hL]; rfl
  have l0:o<L+2:=by have:=(List.getElem?_eq_some_iff.1 ho).1; omega
  have l1:bR<L+2:=by have:=(List.getElem?_eq_some_iff.1 hR).1; omega
  have l2:L<L+2:=by omega
  have l3:L+1<L+2:=by omega
  have b1:Qb (a+l) (rget row (i+1+t)*rget V t):=(br.get (j:=i+1+t) (by omega)).mul2 (bT.get (j:=t) htl)
  have b2:=Z2u (i:=i) (n:=n) br bT hw (by omega) t ht
  have hmul:t*(a+l+1)≤V.length*(a+l+1):=Nat.mul_le_mul_right _ ht
  simp only [go_sem,Zg1,Zgz,hm,q0,q1,r0,r1,r2,g0,g1,gx,gs,gp,List.getElem?_drop,t1,t2,t3,t4,hql,hqt,hlen,l0,l1,l2,l3]
  refine Zaa (Y1g (k:=a+l) ((br.get (j:=i+1+t) (by omega)).mono (by omega)) ((bT.get (j:=t) htl).mono (by omega)) (by omega)) (by simp only [go_sem,Zbg,Zan]) ?_
  simp only [go_sem,Zbg]
  refine Zaa (Y17 (k:=a+V.length*(a+l+1)+l) (b2.mono (by omega)) (b1.mono (by omega)) hk) (by simp only [go_sem,Zbg,Zan]) ?_
  simp only [go_sem,Zbg,gs,ss,hlen,l3,Zai,hqd,hqt,Zm1,e1]
  exact hN (t+1) _ (by omega) (by omega) (Zab _ (by simp only [go_sem]))
 ·have hte:t=V.length:=by omega
  subst hte
  have r1:¬ ((i+1+V.length:Nat):Int)<(n:Int):=by omega
  simp only [go_sem,Zg1,r1]
  exact hK _ (by simp only [go_sem]) (by simp only [go_sem]) (by simp only [go_sem]) (by simp only [go_sem]) (by simp only [go_sem])
end GoAbs
namespace GoAbs
open Go Go.Proofs
theorem Xan {H0:Heap}{o n L n0 a:Nat}{A:RM}(hL:H0.length=L) (hclo:Clo (L+1) H0) (hn0:n0≤L) (hoL:o<L) (ho:H0[o]? = some (.cells (ptrsA o n n))) (hR:∀ i,i<n→H0[o+2+2*n+2*i]? = some (.cells (qc (A.getD i []))))
  (hn:A.length=n) (hnl:n≤1000000) (hW:Wid (n+1) A) (hB:Mb a A) (hp:∀ i,i<n→rget (A.getD i []) i≠0) (hk:∀ k,k<n→2*(a+k*(a+bbit a k+1)+bbit a k)+1≤1000000000000) {K:Ex→St→Prop}
  (hK:∀ e:Nat→AV,e 7 = .osl (some 4) L 0 n→K (.exit 2) ⟨e,H0 ++ [.cells (qc (bsub A n n))]⟩) :
  T Tryz.prog 83 n0 (.loop Zif) ⟨envL [(0,.osl none o 0 n),(6,.int .i64 (n:Int)),(7,.osl (some 4) L 0 n),(8,.int .i64 ((n:Int) - 1))],H0 ++ [.cells (rows n z4)]⟩ K:=by
 have hm:Tryz.prog.follows .mixedOrders=true:=by kernel_rfl
 refine Zaf (fun k:Nat=>⟨envL [(0,.osl none o 0 n),(6,.int .i64 (n:Int)),(7,.osl (some 4) L 0 n),(8,.int .i64 ((n:Int) - 1 - (k:Int)))],H0 ++ [.cells (xC (n - k) (bsub A n k))]⟩) (fun k=>k≤n) (fun k=>n - k) 0 (by omega)
  (Zgo (Zab [(0,.osl none o 0 n),(6,.int .i64 (n:Int)),(7,.osl (some 4) L 0 n),(8,.int .i64 ((n:Int) - 1))] (by simp only [go_sem])) (by simp [xC,bsub,qc])) (fun k hkn N hN=>?_)
 unfold Zif
 by_cases hlt:k<n
 ·obtain ⟨i,hi⟩:∃ i,i=n - 1 - k:=⟨_,rfl⟩
  have hin:i<n:=by omega
  have ei:(n:Int) - 1 - (k:Int)=(i:Int):=by omega
  have enk:n - k=i+1:=by omega
  have enk':n - (k+1)=i:=by omega
  have hw:=hW.get (i:=i) (by omega)
  have br:=hB.get (i:=i) (by omega)
  have bT:=Yif hB hW hn hp k hkn
  have hTl:(bsub A n k).length=k:=Zwj k
  have hnext:bsub A n (k+1)=bacc (A.getD i []) (bsub A n k) i n k / rget (A.getD i []) i::bsub A n k:=by rw [bsub, ← hi]
  have hRi:=hR i hin
  have hpi:=hp i hin
  generalize hrow:A.getD i []=row at *
  generalize bsub A n k=V at *
  rw [ei,enk]
  have q0:(0:Int)≤(i:Int):=by omega
  have q1:(i:Int)<(n:Int):=by omega
  have q2:(i:Int)<((n+1:Nat):Int):=by omega
  have z0:(0:Int)≤(n:Int):=by omega
  have z1:(n:Int)<((n+1:Nat):Int):=by omega
  have e1:IntKind.i64.wrap ((i:Int)+1)=((i+1:Nat):Int):=by rw [Zac (by omega) (by omega)]; omega
  have e2:IntKind.i64.wrap ((i:Int) - 1)=(n:Int) - 1 - ((k+1:Nat):Int):=by rw [Zac (by omega) (by omega)]; omega
  have g0:∀ X:Heap,(H0++X)[o]? = some (.cells (ptrsA o n n)):=fun X=>by rw [List.getElem?_append_left (List.getElem?_eq_some_iff.1 ho).1]; exact ho
  have g1:∀ X:Heap,(H0++X)[o+2+2*n+2*i]? = some (.cells (qc row)):=fun X=>by rw [List.getElem?_append_left (List.getElem?_eq_some_iff.1 hRi).1]; exact hRi
  have gx:∀ x y:Blk,(H0 ++ [x,y])[L]? = some x:=fun x y=>by rw [List.getElem?_append_right (by omega),hL,Nat.sub_self]; rfl
  have gs:∀ x y:Blk,(H0 ++ [x,y])[L+1]? = some y:=fun x y=>by rw [List.getElem?_append_right (by omega),hL,Nat.add_sub_cancel_left]; rfl
  have ss:∀ x y z:Blk,(H0 ++ [x,y]).set (L+1) z=H0 ++ [x,z]:=fun x y z=>by rw [List.set_append_right _ _ (by omega),hL,Nat.add_sub_cancel_left]; rfl
  have sx:∀ x y z:Blk,(H0 ++ [x,y]).set L z=H0 ++ [z,y]:=fun x y z=>by rw [List.set_append_right _ _ (by omega),hL,Nat.sub_self]; rfl
  have eA:∀ x y:Blk,H0 ++ [x] ++ [y]=H0 ++ [x,y]:=fun x y=>by simp
  have gp:(ptrsA o n n)[i]? = some (.osl (some 4) (o+2+2*n+2*i) 0 (n+1)):=by
   unfold ptrsA
   rw [List.getElem?_append_left (by simp; exact hin),List.getElem?_map,List.getElem?_range hin]; rfl
  have rN:row[n]? = some (rget row n):=Zal (by omega)
  have rI:row[i]? = some (rget row i):=Zal (by omega)
  have t1:=Zcm rN
  have t2:=Zfv rN
  have t3:=Zcm rI
  have t4:=Zfv rI
  have hql:∀ q:Rat,(4:Nat)≤(qcell q).length:=fun q=>by rw [Zai]; omega
  have hqt:∀ q:Rat,(qcell q).take 4=qcell q:=fun q=>List.take_of_length_le (by rw [Zai]; omega)
  have hqd:∀ q:Rat,(qcell q).drop 4 = []:=fun q=>rfl
  have hlen1:∀ x:Blk,(H0 ++ [x]).length=L+1:=fun x=>by rw [List.length_append,hL]; rfl
  have hlen:∀ x y:Blk,(H0 ++ [x,y]).length=L+2:=fun x y=>by rw [List.length_append,hL]; rfl
  have l0:o<L+2:=by omega
  have l1:o+2+2*n+2*i<L+2:=by have:=(List.getElem?_eq_some_iff.1 hRi).1; omega
  have l2:L<L+2:=by omega
  have l3:L+1<L+2:=by omega
  have hxl:(xC (i+1) V).length=n*4:=by rw [Xaz]; congr 1; omega
  have fit:i*4+4≤n*4:=by omega
  simp only [go_sem,Zg3,Zna,Znv,q0,q1,q2,z0,z1,g0,g1,gp,eA,gs,ss,hlen1,List.getElem?_drop,t1,t2,Zai,hql,hqt,e1]
  refine Za0 [(0,.osl none o 0 n),(6,.int .i64 (n:Int)),(7,.osl (some 4) L 0 n),(8,.int .i64 (i:Int)),(9,.ptr (L+1) 0),(10,.int .i64 ((i+1:Nat):Int))] (by simp only [go_sem]) ?_
  refine Y8t (a:=a) (l:=bbit a k) hL ho rfl hRi hin hnl hw (by omega) br bT (by rw [hTl]; exact hk k hlt) (fun e k0 k6 k7 k8 k9=>?_)
  rw [hTl]
  have b2:=Z2u (i:=i) (n:=n) br bT hw (by omega) k (by omega)
  have hkk:=hk k hlt
  simp only [go_sem,Zha,hm,k0,k6,k7,k8,k9,q0,q1,q2,g0,g1,gx,gs,sx,gp,List.getElem?_drop,t3,t4,hql,hqt,hlen,l0,l1,l2,l3]
  refine Zaa (Y0u (k:=a+k*(a+bbit a k+1)) b2 ((br.get (j:=i) (by omega)).mono (by omega)) hpi (by omega)) (by simp only [go_sem,Zbg,Zan]) ?_
  simp only [go_sem,Zbg,k7,k8,q0,q1,gx,sx,hxl,fit,hlen,l2,Zai,Y8l,Znm,e2]
  have hsplit:∀ x y:Blk,H0 ++ [x,y]=(H0 ++ [x]) ++ [y]:=fun x y=>by simp
  rw [hsplit]
  refine hN (k+1) _ (by omega) (by omega) (Zgo (Z4t (m:=L+1) (by rw [List.length_append,hL]; rfl) (hclo.append (by unfold Clo; simp only [List.map_cons,List.map_nil,Blk.gc,Xbz])) (by omega)
   [(0,.osl none o 0 n),(6,.int .i64 (n:Int)),(7,.osl (some 4) L 0 n),(8,.int .i64 ((n:Int) - 1 - ((k+1:Nat):Int)))] (by simp only [go_sem,k0,k6,k7]) ?_) (by rw [enk',hnext]))
  have p1:pos (List.range (L+1)) o=some o:=Zd1 (by omega)
  have p2:pos (List.range (L+1)) L=some L:=Zd1 (by omega)
  simp [AV.gc,p1,p2]
 ·have hke:k=n:=by omega
  subst hke
  have q1:¬ (0:Int)≤(k:Int) - 1 - (k:Int):=by omega
  simp only [go_sem,Zg3,q1]
  have:xC (k - k) (bsub A k k)=qc (bsub A k k):=by rw [Nat.sub_self]; rfl
  rw [this]
  exact hK _ (by simp only [go_sem])
theorem Yuu {pre:Heap}{o n:Nat}{A:RM}(ho:pre.length=o) (hA:A.length=n):(pre++heapT o n A)[o]? = some (.cells (ptrsA o n n))∧∀ i,i<n→(pre++heapT o n A)[o+2+2*n+2*i]? = some (.cells (qc (A.getD i []))):=by
 refine ⟨by rw [List.getElem?_append_right (by omega),ho,Nat.sub_self]; rfl,fun i hi=>?_⟩
 rw [List.getElem?_append_right (by omega),ho,show o+2+2*n+2*i - o=(1+2*n+2*i)+1 by omega]
 unfold heapT
 rw [List.getElem?_cons_succ,List.getElem?_append_right (by rw [List.length_replicate]; omega),List.length_replicate,show 1+2*n+2*i - 2*n=2*i+1 by omega]
 exact Z9j (getD_some (by omega))
theorem Yhk {pre:Heap}{o n m:Nat}{A:RM}(hp:PureH pre) (hm:o+1+4*n≤m):Clo m (pre++heapT o n A):=by
 refine (hp.clo m).append ?_
 unfold Clo heapT
 rw [List.map_cons,List.map_append,Yev,List.map_replicate]
 congr 1
 simp only [Blk.gc,Blk.cells.injEq]
 rw [Zaw]
 unfold ptrsA
 rw [Nat.sub_self]
 simp only [List.range'_zero,List.map_nil,List.append_nil,List.map_map]
 refine List.map_congr_left fun j hj=>?_
 have hj':j<n:=List.mem_range.1 hj
 have:pos (List.range m) (o+2+2*n+2*j)=some (o+2+2*n+2*j):=Zd1 (by omega)
 simp [AV.gc,this]
theorem Z3n {H:Heap}{ids:List Nat}{b:Nat}{r:List Rat}(hb:H[b]? = some (.cells (qc r))) (hi:b∈ids):BV H ids (.osl (some 4) b 0 r.length) (.sl (condsR r)):=by
 have:=Z9c (H:=H) (ids:=ids) (w:=4) (b:=b) (R:=r.map qcell) hb hi (by unfold qc; rw [List.flatMap_def]) (fun d hd=>by obtain ⟨j,_,rfl⟩:=List.mem_map.1 hd; rfl) (fun d hd=>by
  obtain ⟨j,_,rfl⟩:=List.mem_map.1 hd; rw [Zan]; trivial)
 rw [List.length_map,List.map_map] at this
 exact this
theorem Yro {pre:Heap}{o n k:Nat}{M:RM}{r:List Rat}(ho:pre.length=o) (hp:PureH pre) (hM:M.length=n) (hr:r.length=n) (hnl:n≤999999) (hW:Wid n M) (hB:Mb k (aug M r)) (hk1:1≤k) (hk:9 ^ n*k≤100000000000)
  (hns:NoSw n 0 (aug M r)) {a:Nat} (hB':Mb a (tri n 0 (aug M r) 1).2) (hW':Wid (n+1) (tri n 0 (aug M r) 1).2) (hpv:∀ i,i<n→rget ((tri n 0 (aug M r) 1).2.getD i []) i≠0) (hka:∀ k,k<n→2*(a+k*(a+bbit a k+1)+bbit a k)+1≤1000000000000) :
  SpecR Tryz.prog Ycf (pre++matH o n M) [.osl none o 0 n,.sl (condsR r)] (.sl (condsR (bsub (tri n 0 (aug M r) 1).2 n n))) (pre++heapT o n (tri n 0 (aug M r) 1).2):=by
 have hAl:(aug M r).length=n:=by rw [Yky (by omega),hM]
 have ht:=Xcc ho hp hAl hnl (Y3q hW) hB hk1 hk hns
 have hl:(tri n 0 (aug M r) 1).2.length=n:=by rw [Ymm,hAl]
 have hL0:(pre++matH o n M).length=o+(1+2*n):=by rw [List.length_append,Zbb,hM,ho]
 refine Ypw Z9m (by simp) (Ze7 5 rfl ?_)
 unfold Z32
 simp only [go_sem,Zq1,Zqz]
 refine Za0 [(0,.osl none o 0 n),(1,.sl (condsR r)),(12,.int .i64 (n:Int)),(13,.int .i64 0)] (by simp only [go_sem]) ?_
 refine Y9t ho hM hr hW (by omega) (fun e h0=>?_)
 rw [Yqd hM hr]
 simp only [go_sem,Zqy,h0]
 refine Znw ht ?_
 generalize hA:(tri n 0 (aug M r) 1).2=A at *
 obtain ⟨f0,f1⟩:=Yuu (pre:=pre) (o:=o) (n:=n) (A:=A) ho hl
 have hLT:(pre++heapT o n A).length=o+1+4*n:=by rw [List.length_append,Yu2 hl,ho]; omega
 have hclo:=Yhk (pre:=pre) (o:=o) (n:=n) (m:=o+1+4*n) (A:=A) hp (Nat.le_refl _)
 have hclo1:=Yhk (pre:=pre) (o:=o) (n:=n) (m:=o+1+4*n+1) (A:=A) hp (Nat.le_succ _)
 generalize pre++heapT o n A=HT at *
 have hsz:((64:Nat):Int)*(n:Int)≤281474976710656:=by omega
 have z0:(0:Int)≤(n:Int):=by omega
 have e2:IntKind.i64.wrap ((n:Int) - 1)=(n:Int) - 1:=Zac (by omega) (by omega)
 simp only [go_sem,Zrf,Zrb,Znc,h0,hsz,z0,e2,hLT,Int.toNat_natCast,Int.le_refl]
 have hrows:(List.replicate n [AV.bool false,.nils,.bool false,.nils]).flatten=rows n z4:=rfl
 rw [hrows]
 refine Za0 [(0,.osl none o 0 n),(6,.int .i64 (n:Int)),(7,.osl (some 4) (o+1+4*n) 0 n),(8,.int .i64 ((n:Int) - 1))] (by simp only [go_sem,h0]) ?_
 refine Xan (a:=a) hLT hclo1 (by rw [hL0]; omega) (by omega) f0 f1 hl (by omega) hW' hB' hpv hka (fun e k7=>?_)
 show T Tryz.prog 83 _ (.seq (.rg false Zg6) .ret) _ _
 have hx:(bsub A n n).length=n:=Zwj n
 have hbv:=Z3n (H:=HT ++ [.cells (qc (bsub A n n))]) (ids := [o+1+4*n]) (b:=o+1+4*n) (r:=bsub A n n) (by rw [List.getElem?_append_right (by omega),hLT,Nat.sub_self]; rfl) (by simp)
 rw [hx] at hbv
 refine T_le (Zto [o+1+4*n] [(7,.sl (condsR (bsub A n n)))] ⟨.inl (by show BV _ _ (e 7) _; rw [k7]; exact hbv),trivial⟩) (T_W ?_)
 have hkill:kill [o+1+4*n] (HT ++ [Blk.cells (qc (bsub A n n))])=HT ++ [.dead]:=by
  show List.set _ (o+1+4*n) Blk.dead=_
  rw [List.set_append_right _ _ (by omega),hLT,Nat.sub_self]; rfl
 rw [hkill]
 simp only [go_sem,Zg6]
 refine ⟨rfl,_,Z4t hLT hclo (by rw [hL0]; omega) [] trivial (fun p hp=>by simp at hp),rfl⟩
end GoAbs
namespace GoAbs
open Go Go.Proofs
theorem LessB.pure {H1 H0:Heap}(h:LessB H1 H0) (hp:PureH H0):PureH H1:=fun f=>by
 refine List.ext_getElem? fun i=>?_
 rw [List.getElem?_map]
 rcases h.2 i with g | g
 ·rw [g]
  have:=congrArg (fun l:Heap=>l[i]?) (hp f)
  simp only [List.getElem?_map] at this
  exact this
 ·rw [g]; rfl
theorem Yqx {r:List Rat}:(condsR r).flatMap AV.cells=qc r:=by
 unfold condsR qc; rw [List.flatMap_map]; rfl
theorem PureH.append {A B:Heap}(h:PureH A) (k:PureH B):PureH (A++B):=fun f=>by rw [List.map_append,h f,k f]
theorem Yv0 {m k a:Nat}{E:List Sp}{f:List Rat}(hm:1≤m) (hml:m<100) {kE:Nat}(hE:∀ e,e∈E→e.1<m+1∧e.2.1<m+1∧Qb kE e.2.2) (hkE:1≤kE) (hEl:E.length≤1000) (hKE:kE+E.length*(4*(kE+1))≤10000000000) (hf:f.length=m+1)
  (hB:Mb k (aug (lapl m E) (f.drop 1))) (hk1:1≤k) (hk:9 ^ m*k≤100000000000) (hns:NoSw m 0 (aug (lapl m E) (f.drop 1)))
  (hB':Mb a (tri m 0 (aug (lapl m E) (f.drop 1)) 1).2) (hW':Wid (m+1) (tri m 0 (aug (lapl m E) (f.drop 1)) 1).2) (hpv:∀ i,i<m→rget ((tri m 0 (aug (lapl m E) (f.drop 1)) 1).2.getD i []) i≠0)
  (hka:∀ k,k<m→2*(a+k*(a+bbit a k+1)+bbit a k)+1≤1000000000000) :
  SpecV Tryz.prog Z4m [.agg (netC (m+1) E),.sl (condsR f)] (.sl (condsR (0::bsub (tri m 0 (aug (lapl m E) (f.drop 1)) 1).2 m m))):=by
 have hmx:Tryz.prog.follows .mixedOrders=true:=by kernel_rfl
 have hnet:=Ypd (n:=m+1) (k:=kE) (E:=E) (by omega) (by omega) hE hkE hEl hKE
 rw [Nat.add_sub_cancel] at hnet
 have hfd:(f.drop 1).length=m:=by rw [List.length_drop]; omega
 have hslc:(condsR f).drop 1=condsR (f.drop 1):=by unfold condsR; rw [List.map_drop]
 obtain ⟨lW,lL⟩:=Zlt (m:=m) (E:=E)
 have hsol:=fun (pre:Heap) (ho:pre.length=4) (hp:PureH pre)=>Yro (pre:=pre) (o:=4) (n:=m) (k:=k) (M:=lapl m E) (r:=f.drop 1) ho hp lL hfd (by omega) lW hB hk1 hk hns hB' hW' hpv hka
 generalize f.drop 1=r at *
 generalize (tri m 0 (aug (lapl m E) r) 1).2=A at *
 have hxl:(bsub A m m).length=m:=Zwj m
 generalize bsub A m m=x at *
 have hcl:(condsR f).length=m+1:=by rw [Zbx,hf]
 have hxc:(condsR x).length=m:=by rw [Zbx,hxl]
 obtain ⟨nc,hnc⟩:∃ nc,nc=netC (m+1) E:=⟨_,rfl⟩
 have hnl3:nc.length=3:=by rw [hnc]; rfl
 have hnt3:nc.take 3=nc:=by rw [hnc]; rfl
 refine Zad Ymc (by simp) ?_
 unfold Yie
 rw [← hnc]
 have z0:=Ydd
 have one1:(1:Nat)≤m+1:=by omega
 have sz:(1+m)*64≤1099511627776:=by omega
 simp only [go_sem,Z75,Zst,hmx]
 refine Zaa z0 (by simp only [go_sem]) ?_
 simp only [go_sem,Zbg,Zai,hnl3,hnt3]
 have hH0:PureH [Blk.cells nc,.cells (qcell 0),.unborn]:=fun f=>by rw [hnc]; rfl
 have hgcn:∀ f,gcL f nc=nc:=fun f=>by rw [hnc]; rfl
 have c4:∀ y,y∈condsR f→y.cells.length=4:=fun y hy=>by obtain ⟨q,_,rfl⟩:=List.mem_map.1 hy; rfl
 have c4x:∀ y,y∈condsR x→y.cells.length=4:=fun y hy=>by obtain ⟨q,_,rfl⟩:=List.mem_map.1 hy; rfl
 refine Y3f (H0 := [.cells nc,.cells (qcell 0),.unborn]) (K := []) (K' := [.cells nc]++matH 4 m (lapl m E)) (v := .osl none 4 0 m) rfl rfl (fun H1 h1=>?_) ?_
 ·have hl:H1.length=3:=h1.1
  have:=Zkv (H:=H1) hnet (by unfold netC; simp only [go_sem])
  rw [← hnc,List.map_append,hl,Ylf] at this
  have e1:(AV.osl none 1 0 m).gc (fun i=>some (i+3)) = .osl none 4 0 m:=rfl
  have e2 : [Blk.cells nc].map (Blk.gc (fun i=>some (i+3))) = [.cells nc]:=by
   simp only [List.map_cons,List.map_nil,Blk.gc,hgcn]
  rw [e1,e2] at this
  rw [List.append_nil]
  exact this
 have htk:(condsR f).take (m+1)=condsR f:=List.take_of_length_le (by omega)
 simp only [go_sem,hcl,htk,hslc,one1,Nat.le_refl]
 refine ⟨c4,Y3f (H0 := [.cells nc,.cells (qcell 0),.unborn]) (K := [.cells nc]++matH 4 m (lapl m E)) (K' := [.cells nc]++heapT 4 m A) (v := .sl (condsR x)) rfl rfl (fun H1 h1=>?_) ?_⟩
 ·have hl:H1.length=3:=h1.1
  have:=hsol (H1 ++ [.cells nc]) (by rw [List.length_append,hl]; rfl) ((h1.pure hH0).append (fun f=>by simp only [List.map_cons,List.map_nil,Blk.gc,hgcn]))
  rw [List.append_assoc,List.append_assoc] at this
  exact this
 simp only [go_sem,hxc,sz,Yqx,Zai,Nat.le_refl]
 refine ⟨c4x,?_⟩
 have h0x:(0::x).length=1+m:=by rw [List.length_cons,hxl]; omega
 rw [← h0x]
 refine Z3n rfl (List.mem_range.2 (by simp))
end GoAbs
namespace GoAbs
open Go Go.Proofs
def bc (s:List Bool):List AV:=s.map AV.bool
theorem Ydh (s:List Bool):(bc s).length=s.length:=by simp [bc]
theorem Yej {s:List Bool}{i:Nat}{b:Bool}(h:s[i]? = some b):(bc s)[i]? = some (.bool b):=by simp [bc,h]
theorem Yv4 {s:List Bool}{i:Nat}{b:Bool}(h:i<s.length):(bc s).take i ++ .bool b::(bc s).drop (i+1)=bc (s.set i b):=by
 unfold bc
 rw [List.map_set,List.set_eq_take_append_cons_drop,if_pos (by simpa using h)]
theorem bc_set' {s:List Bool}{i:Nat}{b:Bool}(h:i<s.length):(bc s).take i ++ [.bool b]++(bc s).drop (i+1)=bc (s.set i b):=by
 rw [← Yv4 h]; simp
theorem Xcs {f:Nat→Option Nat}{s:List Bool}:gcL f (bc s)=bc s:=by
 rw [Zaw]; unfold bc; rw [List.map_map]; rfl
theorem Xbt {H:Heap}{ids:List Nat}{b:Nat}{s:List Bool}(hb:H[b]? = some (.cells (bc s))) (hi:b∈ids):BV H ids (.osl none b 0 s.length) (.sl (bc s)):=by
 refine .osl none b 0 s.length (bc s) (bc s) hb hi (Ydh s) (fun x hx=>?_) (by rw [Ydh]; simp [es]) (fun i x j y z hx hy hz=>?_)
 ·obtain ⟨c,_,rfl⟩:=List.mem_map.1 hx; rfl
 ·obtain ⟨c,_,rfl⟩:=List.mem_map.1 (List.mem_of_getElem? hx)
  have hj:j=0:=by
   have:=(List.getElem?_eq_some_iff.1 hy).1
   simp [AV.cells] at this; omega
  subst hj
  simp [AV.cells] at hy
  subst hy
  simp [es] at hz
  rw [hx] at hz
  cases hz
  exact .bool _
def bget (s:List Bool) (i:Nat):Bool:=s.getD i false
theorem Zt5 {s:List Bool}{i:Nat}(h:i<s.length):s[i]? = some (bget s i):=by
 unfold bget; rw [List.getD_eq_getElem?_getD,List.getElem?_eq_getElem h]; rfl
def seeA (a b:Nat) (s:List Bool):List Bool:=s.set a (bget s a || bget s b)
def seeE (s:List Bool) (e:Sp):List Bool:=seeA e.2.1 e.1 (seeA e.1 e.2.1 s)
theorem Yo1 {a b:Nat}{s:List Bool}:(seeA a b s).length=s.length:=by simp [seeA]
theorem Y10 {s:List Bool}{e:Sp}:(seeE s e).length=s.length:=by simp [seeE,Yo1]
theorem Yoi {E:List Sp}:∀ {s:List Bool},(E.foldl seeE s).length=s.length:=by
 induction E with
 | nil=>intro s; rfl
 | cons e E ih=>intro s; rw [List.foldl_cons,ih,Y10]
def seeN (E:List Sp):Nat→List Bool→List Bool
 | 0,s=>s
 | k+1,s=>E.foldl seeE (seeN E k s)
theorem Yo4 {E:List Sp}{s:List Bool}:∀ {k:Nat},(seeN E k s).length=s.length
 | 0=>rfl
 | k+1=>by unfold seeN; rw [Yoi,Yo4]
def start (n:Nat):List Bool:=(List.replicate n false).set 0 true
def connB (n:Nat) (E:List Sp):Bool:=(seeN E n (start n)).all id
theorem Y8j {nt n0:Nat}{e:Nat→AV}{nc:List AV}{Q:Ex→St→Prop}{s:List Bool}{n a b:Nat}(hs:s.length=n) (e3:e 3 = .osl none 1 0 n) (e5:e 5 = .ptr 2 0) (ha:a<n) (hb:b<n)
  (hQ:∀ e',e' 1=e 1→e' 3=e 3→e' 5=e 5→e' 12=e 12→e' 13=e 13→e' 16=e 16→e' 17=e 17→e' 18=e 18→Q .normal ⟨e',[.cells nc,.cells (bc (seeA a b s)),.cells [.int .i64 (a:Int),.int .i64 (b:Int)]]⟩) :
  T Tryz.prog nt n0 (.rg true Zbw) ⟨e,[.cells nc,.cells (bc s),.cells [.int .i64 (a:Int),.int .i64 (b:Int)]]⟩ Q:=by
 have hm:Tryz.prog.follows .mixedOrders=true:=by kernel_rfl
 have a0:(0:Int)≤(a:Int):=by omega
 have a1:(a:Int)<(n:Int):=by omega
 have b0:(0:Int)≤(b:Int):=by omega
 have b1:(b:Int)<(n:Int):=by omega
 have ga:=Yej (Zt5 (s:=s) (i:=a) (by omega))
 have gb:=Yej (Zt5 (s:=s) (i:=b) (by omega))
 have fit:a+1≤(bc s).length:=by rw [Ydh]; omega
 have hset:=fun v=>bc_set' (s:=s) (i:=a) (b:=v) (by omega)
 have hset2:=fun v=>Yv4 (s:=s) (i:=a) (b:=v) (by omega)
 refine T_W ?_
 unfold seeA at hQ
 generalize bget s a=u at *
 generalize bget s b=v at *
 cases u with
 | true =>
  simp only [go_sem,Zbw,e3,e5,a0,a1,b0,b1,ga,gb,fit,hset,hset2,List.getElem?_drop,hm]
  exact hQ _ (by simp only [go_sem]) (by simp only [go_sem]) (by simp only [go_sem]) (by simp only [go_sem]) (by simp only [go_sem]) (by simp only [go_sem]) (by simp only [go_sem]) (by simp only [go_sem])
 | false =>
  simp only [go_sem,Zbw,e3,e5,a0,a1,b0,b1,ga,gb,fit,hset,hset2,List.getElem?_drop,hm]
  exact hQ _ (by simp only [go_sem]) (by simp only [go_sem]) (by simp only [go_sem]) (by simp only [go_sem]) (by simp only [go_sem]) (by simp only [go_sem]) (by simp only [go_sem]) (by simp only [go_sem])
theorem Y4g {nt n0:Nat}{e:Nat→AV}{nc:List AV}{Q:Ex→St→Prop}{s:List Bool}{n a b:Nat}(hs:s.length=n) (e3:e 3 = .osl none 1 0 n) (e5:e 5 = .ptr 2 0) (ha:a<n) (hb:b<n)
  (hQ:∀ e',e' 1=e 1→e' 3=e 3→e' 5=e 5→e' 12=e 12→e' 13=e 13→e' 16=e 16→e' 17=e 17→e' 18=e 18→Q .normal ⟨e',[.cells nc,.cells (bc (seeA b a s)),.cells [.int .i64 (a:Int),.int .i64 (b:Int)]]⟩) :
  T Tryz.prog nt n0 (.rg true Zbl) ⟨e,[.cells nc,.cells (bc s),.cells [.int .i64 (a:Int),.int .i64 (b:Int)]]⟩ Q:=by
 have hm:Tryz.prog.follows .mixedOrders=true:=by kernel_rfl
 have a0:(0:Int)≤(a:Int):=by omega
 have a1:(a:Int)<(n:Int):=by omega
 have b0:(0:Int)≤(b:Int):=by omega
 have b1:(b:Int)<(n:Int):=by omega
 have ga:=Yej (Zt5 (s:=s) (i:=a) (by omega))
 have gb:=Yej (Zt5 (s:=s) (i:=b) (by omega))
 have fit:b+1≤(bc s).length:=by rw [Ydh]; omega
 have hset:=fun v=>bc_set' (s:=s) (i:=b) (b:=v) (by omega)
 have hset2:=fun v=>Yv4 (s:=s) (i:=b) (b:=v) (by omega)
 refine T_W ?_
 unfold seeA at hQ
 generalize bget s a=u at *
 generalize bget s b=v at *
 cases v with
 | true =>
  simp only [go_sem,Zbl,e3,e5,a0,a1,b0,b1,ga,gb,fit,hset,hset2,List.getElem?_drop,hm]
  exact hQ _ (by simp only [go_sem]) (by simp only [go_sem]) (by simp only [go_sem]) (by simp only [go_sem]) (by simp only [go_sem]) (by simp only [go_sem]) (by simp only [go_sem]) (by simp only [go_sem])
 | false =>
  simp only [go_sem,Zbl,e3,e5,a0,a1,b0,b1,ga,gb,fit,hset,hset2,List.getElem?_drop,hm]
  exact hQ _ (by simp only [go_sem]) (by simp only [go_sem]) (by simp only [go_sem]) (by simp only [go_sem]) (by simp only [go_sem]) (by simp only [go_sem]) (by simp only [go_sem]) (by simp only [go_sem])
theorem Xa8 {nc:List AV}{E:List Sp}{s:List Bool}{n:Nat}{N0 i0:Int}(hs:s.length=n) (hE:∀ e,e∈E→e.1<n∧e.2.1<n) (hg:∀ f,gcL f nc=nc) (hEl:E.length≤1000000000) {K:Ex→St→Prop}
  (hK:∀ e:Nat→AV,e 1 = .ptr 0 0→e 3 = .osl none 1 0 n→e 12 = .int .i64 N0→e 13 = .int .i64 i0→K (.exit 2) ⟨e,[.cells nc,.cells (bc (E.foldl seeE s))]⟩) :
  T Tryz.prog 59 0 (.loop Zgw) ⟨envL [(1,.ptr 0 0),(3,.osl none 1 0 n),(12,.int .i64 N0),(13,.int .i64 i0),(16,.sl (pairsL E)),(17,.int .i64 (E.length:Int)),(18,.int .i64 0)],[.cells nc,.cells (bc s)]⟩ K:=by
 refine Z3i (fun k:Nat=>⟨envL [(1,.ptr 0 0),(3,.osl none 1 0 n),(12,.int .i64 N0),(13,.int .i64 i0),(16,.sl (pairsL E)),(17,.int .i64 (E.length:Int)),(18,.int .i64 (k:Int))],[.cells nc,.cells (bc ((E.take k).foldl seeE s))]⟩)
  (fun k=>k≤E.length) (fun k=>E.length - k) 0 (by omega) (Zab _ (by simp only [go_sem]; simp)) (fun k hk N hN=>?_)
 unfold Zgw
 by_cases hkn:k<E.length
 ·obtain ⟨⟨a,b,c⟩,he⟩:∃ e,E[k]? = some e:=⟨_,List.getElem?_eq_getElem hkn⟩
  obtain ⟨ha,hb⟩:=hE _ (List.mem_of_getElem? he)
  simp only at ha hb
  have hps:(pairsL E)[k]? = some (.agg [.int .i64 (a:Int),.int .i64 (b:Int)]):=by unfold pairsL; rw [List.getElem?_map,he]; rfl
  have q0:(0:Int)≤(k:Int):=by omega
  have q1:(k:Int)<(E.length:Int):=by omega
  have e1:IntKind.i64.wrap ((k:Int)+1)=((k+1:Nat):Int):=by rw [Zac (by omega) (by omega)]; omega
  have hstep:(E.take (k+1)).foldl seeE s=seeA b a (seeA a b ((E.take k).foldl seeE s)):=by
   rw [List.take_add_one,he,List.foldl_append]; rfl
  have hsl:((E.take k).foldl seeE s).length=n:=by rw [Yoi,hs]
  generalize (E.take k).foldl seeE s=u at *
  refine Ze7 1 rfl ?_
  simp only [go_sem,Zgx,q1]
  refine Zms (Zov (Ze7 0 rfl ?_))
  simp only [go_sem,Znb,q0,hps]
  refine Zms (Y8j (n:=n) hsl (by simp only [go_sem]) (by simp only [go_sem]) ha hb (fun e' h1 h3 h5 h12 h13 h16 h17 h18=>?_))
  simp only [go_sem] at h1 h3 h5 h12 h13 h16 h17 h18
  refine Y4g (n:=n) (by rw [Yo1,hsl]) h3 h5 ha hb (fun e2 k1 k3 k5 k12 k13 k16 k17 k18=>?_)
  refine T_W ?_
  simp only [go_sem,Zli,k18,h18,e1]
  refine hN (k+1) _ (by omega) (by omega) (Zgo (Zjl [0,1] (by decide) (fun i hi=>by omega) [(1,.ptr 0 0),(3,.osl none 1 0 n),(12,.int .i64 N0),(13,.int .i64 i0),(16,.sl (pairsL E)),(17,.int .i64 (E.length:Int)),(18,.int .i64 ((k+1:Nat):Int))] (by simp only [go_sem,k1,k3,k12,k13,k16,k17,h1,h3,h12,h13,h16,h17])) ?_)
  show St.mk _ [Blk.cells (gcL _ nc),Blk.cells (gcL _ (bc _))]=_
  rw [hg,Xcs,hstep]
  rfl
 ·have hke:k=E.length:=by omega
  subst hke
  have q1:¬ ((E.length:Nat):Int)<(E.length:Int):=by omega
  refine T_W ?_
  simp only [go_sem,Zgx,q1,List.take_length]
  exact hK _ (by simp only [go_sem]) (by simp only [go_sem]) (by simp only [go_sem]) (by simp only [go_sem])
theorem Ymx {s:List Bool}(hl:s.length≤1000000000):∃ j:Int,SpecV Tryz.prog Ycb [.sl (bc s),.bool false] (.int .i64 j)∧(0≤j↔s.all id=false):=by
 have key:∃ j:Int,(0≤j↔s.all id=false)∧((j = -1∧∀ i:Nat,i<s.length→s[i]? = some true)∨∃ i:Nat,j=(i:Int)∧s[i]? = some false∧∀ i':Nat,i'<i→s[i']? = some true):=by
  clear hl
  induction s with
  | nil=>exact ⟨-1,by simp,.inl ⟨rfl,fun i hi=>by simp at hi⟩⟩
  | cons b s ih =>
   cases b with
   | false=>exact ⟨0,by simp,.inr ⟨0,rfl,rfl,fun i' hi'=>by omega⟩⟩
   | true =>
    obtain ⟨j,h1,h2⟩:=ih
    rcases h2 with ⟨rfl,h2⟩ | ⟨i,rfl,h2,h3⟩
    ·refine ⟨-1,by simpa using h1,.inl ⟨rfl,fun i hi=>?_⟩⟩
     cases i with
     | zero=>rfl
     | succ i=>simpa using h2 i (by simpa using hi)
    ·refine ⟨((i+1:Nat):Int),?_,.inr ⟨i+1,rfl,by simpa using h2,fun i' hi'=>?_⟩⟩
     ·have:s.all id=false:=h1.1 (by omega)
      simp [this]; omega
     ·cases i' with
      | zero=>rfl
      | succ i'=>simpa using h3 i' (by omega)
 obtain ⟨j,h1,h2⟩:=key
 refine ⟨j,?_,h1⟩
 refine Zad Z95 (by simp) ?_
 unfold Z2f
 simp only [go_sem,Zqt,Zra,Ydh]
 refine Zaf (fun i:Nat=>⟨envL [(0,.sl (bc s)),(1,.bool false),(7,.int .i64 (s.length:Int)),(8,.int .i64 (i:Int))],[]⟩) (fun i=>i≤s.length∧∀ i':Nat,i'<i→s[i']? = some true) (fun i=>s.length - i) 0 ⟨by omega,fun i' hi'=>by omega⟩ (Zab _ (by simp only [go_sem]; simp)) (fun i hI N hN=>?_)
 obtain ⟨g1,g2⟩:=hI
 unfold Zre
 by_cases hi:i<s.length
 ·have q0:(0:Int)≤(i:Int):=by omega
  have q1:(i:Int)<(s.length:Int):=by omega
  have e1:IntKind.i64.wrap ((i:Int)+1)=((i+1:Nat):Int):=by rw [Zac (by omega) (by omega)]; omega
  have gi:=Zt5 hi
  cases hb:bget s i with
  | true =>
   rw [hb] at gi
   simp only [go_sem,Zej,Zij,Zil,Zrg,q0,q1,Yej gi,e1]
   exact hN (i+1) _ ⟨by omega,fun i' hi'=>by
    by_cases h:i'=i
    ·rw [h]; exact gi
    ·exact g2 i' (by omega)⟩ (by omega) (Zab _ (by simp only [go_sem]))
  | false =>
   rw [hb] at gi
   have hj:j=(i:Int):=by
    rcases h2 with ⟨_,h2⟩ | ⟨i2,rfl,h3,h4⟩
    ·have:=h2 i hi; rw [gi] at this; cases this
    ·have:i2=i:=by
      rcases Nat.lt_trichotomy i2 i with h | h | h
      ·have:=g2 i2 h; rw [h3] at this; cases this
      ·exact h
      ·have:=h4 i h; rw [gi] at this; cases this
     rw [this]
   rw [hj]
   simp only [go_sem,Zej,Zij,Zil,Zq3,q0,q1,Yej gi]
 ·have hie:i=s.length:=by omega
  subst hie
  have q1:¬ ((s.length:Nat):Int)<(s.length:Int):=by omega
  have hj:j = -1:=by
   rcases h2 with ⟨h2,_⟩ | ⟨i2,rfl,h3,h4⟩
   ·exact h2
   ·have:=g2 i2 (List.getElem?_eq_some_iff.1 h3).1
    rw [h3] at this; cases this
  rw [hj]
  simp only [go_sem,Zej,Zri,q1]
theorem Ycs {s:List Bool}(hl:s.length≤1000000000):SpecV Tryz.prog Z4j [.sl (bc s),.bool false] (.bool (!s.all id)):=by
 obtain ⟨j,h1,h2⟩:=Ymx hl
 refine Zad Z30 (by simp) ?_
 unfold Zqs
 simp only [go_sem,Zke,Zjs]
 refine Zaa h1 (by simp only [go_sem]) ?_
 cases ha:s.all id with
 | true =>
  have q:¬ (0:Int)≤j:=fun h=>by rw [h2.1 h] at ha; cases ha
  simp only [go_sem,q,Bool.not_true]
 | false =>
  have q:(0:Int)≤j:=h2.2 ha
  simp only [go_sem,q,Bool.not_false]
theorem Yco {n:Nat}{E:List Sp}(hn:1≤n) (hnl:n≤1000000) (hE:∀ e,e∈E→e.1<n∧e.2.1<n) (hEl:E.length≤1000000000):SpecV Tryz.prog Z9o [.agg (netC n E)] (.bool (connB n E)):=by
 obtain ⟨nc,hnc⟩:∃ nc,nc=netC n E:=⟨_,rfl⟩
 have hg:∀ f,gcL f nc=nc:=fun f=>by rw [hnc]; rfl
 have hpl:(pairsL E).length=E.length:=by simp [pairsL]
 have hbl:(bc (start n)).length=n:=by rw [Ydh]; simp [start]
 have hst:(List.replicate n [AV.bool false]).flatten.take 0 ++ [AV.bool true]++(List.replicate n [AV.bool false]).flatten.drop 1=bc (start n):=by
  have h1:∀ k:Nat,(List.replicate k [AV.bool false]).flatten=bc (List.replicate k false):=by
   intro k
   induction k with
   | zero=>rfl
   | succ k ih=>rw [List.replicate_succ,List.flatten_cons,ih]; rfl
  rw [h1]
  exact bc_set' (s:=List.replicate n false) (i:=0) (b:=true) (by simp; omega)
 have hrl:((List.replicate n [AV.bool false]).flatten).length=n:=by simp
 refine Zad Z8e (by simp) ?_
 unfold Zw5
 have hsz:((1:Nat):Int)*(n:Int)≤281474976710656:=by omega
 have z0:(0:Int)≤(n:Int):=by omega
 have z1:(0:Int)<(n:Int):=by omega
 simp only [go_sem,Zm4,Zn9,Znf,Zni,netC,hsz,z0,z1,Int.le_refl,Int.toNat_natCast,hrl]
 refine ⟨hn,?_⟩
 have hst':AV.bool true::(List.replicate n [AV.bool false]).flatten.drop 1=bc (start n):=by rw [← hst]; simp
 rw [hst']
 refine Zaf (fun k:Nat=>⟨envL [(1,.ptr 0 0),(3,.osl none 1 0 n),(12,.int .i64 (n:Int)),(13,.int .i64 (k:Int))],[.cells nc,.cells (bc (seeN E k (start n)))]⟩)
  (fun k=>k≤n) (fun k=>n - k) 0 (by omega) (Zgo (Zab [(1,.ptr 0 0),(3,.osl none 1 0 n),(12,.int .i64 (n:Int)),(13,.int .i64 0)] (by simp only [go_sem])) (by rw [hnc]; rfl)) (fun k hk N hN=>?_)
 unfold Zm8
 have hsl:(seeN E k (start n)).length=n:=by rw [Yo4]; simp [start]
 by_cases hkn:k<n
 ·have q1:(k:Int)<(n:Int):=by omega
  have e1:IntKind.i64.wrap ((k:Int)+1)=((k+1:Nat):Int):=by rw [Zac (by omega) (by omega)]; omega
  have hnc1:nc.drop 1 = [.sl (pairsL E),.sl (condsL E)]:=by rw [hnc]; rfl
  simp only [go_sem,Zhb,Zng,q1,hnc1,hpl]
  refine Za0 [(1,.ptr 0 0),(3,.osl none 1 0 n),(12,.int .i64 (n:Int)),(13,.int .i64 (k:Int)),(16,.sl (pairsL E)),(17,.int .i64 (E.length:Int)),(18,.int .i64 0)] (by simp only [go_sem]) ?_
  refine Xa8 hsl hE hg hEl (fun e h1 h3 h12 h13=>?_)
  simp only [go_sem,Zl4,h13,e1]
  exact hN (k+1) _ (by omega) (by omega) (Zab _ (by simp only [go_sem,h1,h3,h12]))
 ·have hke:k=n:=by omega
  subst hke
  have q1:¬ ((k:Nat):Int)<(k:Int):=by omega
  simp only [go_sem,Zhb,Zl3,q1]
  have hbv:BVs [.cells nc,.cells (bc (seeN E k (start k)))] [1] [.osl none 1 0 k,.bool false] [.sl (bc (seeN E k (start k))),.bool false]:=by
   refine .cons ?_ (.cons (.bool _) .nil)
   have:=Xbt (H := [.cells nc,.cells (bc (seeN E k (start k)))]) (ids := [1]) (b:=1) (s:=seeN E k (start k)) rfl (by simp)
   rwa [hsl] at this
  refine Zw1 (Ycs (by omega)) hbv (.inr (.bool _)) (fun _ _=>trivial) ?_
  simp only [go_sem,Bool.not_not]
  rfl
end GoAbs
namespace GoAbs
open Go Go.Proofs
def unitF (n a b:Nat):List Rat:=((List.replicate n (0:Rat)).set a 1).set b (-1)
theorem Yh3 {n a b:Nat}:(unitF n a b).length=n:=by simp [unitF]
theorem Y5u {n a b:Nat}{L:List Spr}{E:List Sp}{x:List Rat}(hL:L.length≤1000000000) (hl:∀ s,s∈L→s.2.2.length≤1000000000) (h:readR n L = .tup [.agg (netC n E),.int .i64 0]) (ha:a<n) (hb:b<n) (hab:a≠b)
  (hn:1≤n) (hnl:n≤1000000) (hE:∀ e,e∈E→e.1<n∧e.2.1<n) (hEl:E.length≤1000000000) (hc:connB n E=true) (hmv:SpecV Tryz.prog Z4m [.agg (netC n E),.sl (condsR (unitF n a b))] (.sl (condsR x))) :
  SpecV Tryz.prog Z0x [.int .i64 (n:Int),.sl (L.map sprAV),.int .i64 (a:Int),.int .i64 (b:Int)] (.tup [.agg (netC n E),.sl (condsR x),.int .i64 0]):=by
 have hmx:Tryz.prog.follows .mixedOrders=true:=by kernel_rfl
 have hs:=Zfe (n:=n) hL hl
 rw [h] at hs
 have hcon:=Yco hn hnl hE hEl
 rw [hc] at hcon
 have hgn:∀ f,gcL f (netC n E)=netC n E:=fun f=>rfl
 obtain ⟨nc,hnc⟩:∃ nc,nc=netC n E:=⟨_,rfl⟩
 have hn3:nc.length=3:=by rw [hnc]; rfl
 have t3:nc.drop 3 = []:=by rw [hnc]; rfl
 have k3:nc.take 3=nc:=by rw [hnc]; rfl
 have hbv:∀ (H:Heap) (ids:List Nat),BVs H ids nc nc=True:=fun H ids=>by rw [hnc]; unfold netC; simp only [go_sem]
 rw [← hnc] at hs hcon hmv hgn ⊢
 have p1:¬ (a:Int)<0:=by omega
 have p2:¬ (n:Int)≤(a:Int):=by omega
 have p3:¬ (b:Int)<0:=by omega
 have p5:¬ (n:Int)≤(b:Int):=by omega
 have p6:¬ (a:Int)=(b:Int):=by omega
 have a0:(0:Int)≤(a:Int):=by omega
 have a1:(a:Int)<(n:Int):=by omega
 have b0:(0:Int)≤(b:Int):=by omega
 have b1:(b:Int)<(n:Int):=by omega
 refine Zbt Ycq (by simp) (Ze7 4 rfl ?_)
 unfold Z58
 simp only [go_sem,Zso,Zu5]
 refine Zaa hs (by simp only [go_sem]) ?_
 simp only [go_sem,Zv7,Zs0,Zuj,hn3,t3,k3,p1,p2,p3,p5,p6]
 refine Zaa hcon (by simp only [go_sem,hbv]) ?_
 simp only [go_sem,Bool.not_true,Zv9]
 refine Zaa Ydd (by simp only [go_sem]) ?_
 simp only [go_sem,Zbg,Zai]
 have hrep:SpecR Tryz.prog Zf9 [.cells [.int .i64 0,.nils,.nils],.cells nc,.cells (qcell 0)] [.osl (some 4) 2 0 1,.int .i64 (n:Int)] (.osl (some 4) 3 0 n) [.cells [.int .i64 0,.nils,.nils],.cells nc,.dead,.cells (qc (List.replicate n 0))]:=by
  have h:=Ztq (P:=Tryz.prog) (H := [.cells [.int .i64 0,.nils,.nils],.cells nc,.cells (qcell 0)]) (ids := [2]) (xs := [.osl (some 4) 2 0 1,.int .i64 (n:Int)]) (Z5h hn hnl (x:=qcell 0) rfl)
   (by
    simp only [go_sem]
    exact Yli rfl rfl (by simp) (by rw [Zan]; trivial)) (by simp only [go_sem])
  have e3 : [Blk.cells (rows n (qcell 0))].map (Blk.gc (fun i=>some (i + [Blk.cells [.int .i64 0,.nils,.nils],.cells nc,.cells (qcell 0)].length))) = [.cells (qc (List.replicate n 0))]:=by
   simp only [List.map_cons,List.map_nil,Blk.gc,Yml,Yov]
  rw [e3] at h
  exact h
 refine Znw hrep ?_
 have hone:=Yzi
 have hneg:=Ygw (z := -1) (by omega) (by omega)
 have hm1:((-1:Int):Rat) = -1:=rfl
 rw [hm1] at hneg
 have q0:(qc (List.replicate n (0:Rat))).length=n*4:=by rw [Zq0,List.length_replicate]
 have q1:(qc ((List.replicate n (0:Rat)).set a 1)).length=n*4:=by rw [Zq0,List.length_set,List.length_replicate]
 have fa:a*4+4≤n*4:=by omega
 have fb:b*4+4≤n*4:=by omega
 have sa:=Z6o (r:=List.replicate n (0:Rat)) (j:=a) (x:=1) (by rw [List.length_replicate]; exact ha)
 have sb:=Z6o (r:=(List.replicate n (0:Rat)).set a 1) (j:=b) (x := -1) (by rw [List.length_set,List.length_replicate]; exact hb)
 simp only [go_sem,Zq9]
 refine Zaa hone (by simp only [go_sem]) ?_
 simp only [go_sem]
 refine Zaa hneg (by simp only [go_sem]) ?_
 simp only [go_sem,Zbg,Zai,a0,a1,b0,b1,q0,q1,fa,fb,sa,sb]
 have hul:(unitF n a b).length=n:=Yh3
 have hfr:=Z3n (H := [.cells [.int .i64 0,.nils,.nils],.cells nc,.dead,.cells (qc (unitF n a b))]) (ids := [3]) (b:=3) (r:=unitF n a b) rfl (by simp)
 rw [hul] at hfr
 refine T_le (Zto [3] [(8,.ptr 0 0),(11,.ptr 1 0),(13,.sl (condsR (unitF n a b)))] ⟨.inr (by simp only [go_sem]),.inr (by simp only [go_sem]),.inl (by simp only [go_sem]; exact hfr),trivial⟩) (T_W ?_)
 show W _ _ _ _ ⟨_,[.cells [.int .i64 0,.nils,.nils],.cells nc,.dead,.dead]⟩ _
 simp only [go_sem,Zin,hn3,k3,hmx]
 refine Zaa hmv (by simp only [go_sem,hbv]) ?_
 simp only [go_sem,hn3,t3,k3]
 simp only [go_sem,hn3,k3,hbv]
end GoAbs
namespace GoAbs
open Go Go.Proofs
def numR (q:Rat):AV:=if NumOk q then .tup [.str (bs (numS q)),.int .i64 0] else .tup [.str (bs []),.int .i64 4]
theorem Yrv {n a b k:Nat}{L:List Spr}{E:List Sp}{x:List Rat}(h:SpecV Tryz.prog Z0x [.int .i64 (n:Int),.sl (L.map sprAV),.int .i64 (a:Int),.int .i64 (b:Int)] (.tup [.agg (netC n E),.sl (condsR x),.int .i64 0]))
  (ha:a<x.length) (hb:b<x.length) (hx:Rb k x) (hk1:1≤k) (hk:k≤60000000000) (hne:rget x a - rget x b≠0) :
  SpecV Tryz.prog Zqx [.int .i64 (n:Int),.sl (L.map sprAV),.int .i64 (a:Int),.int .i64 (b:Int)] (numR (1 / (rget x a - rget x b))):=by
 have hmx:Tryz.prog.follows .mixedOrders=true:=by kernel_rfl
 have hbv:∀ (H:Heap) (ids:List Nat),BVs H ids (netC n E) (netC n E)=True:=fun H ids=>by unfold netC; simp only [go_sem]
 have hl3:(netC n E).length=3:=rfl
 have ht3:(netC n E).drop 3 = []:=rfl
 have a0:(0:Int)≤(a:Int):=by omega
 have b0:(0:Int)≤(b:Int):=by omega
 have ga:=Zjm (Zal ha)
 have gb:=Zjm (Zal hb)
 have b1:=(hx.get ha).sub2 (hx.get hb)
 have hq:=(Qb.one (k:=k+k+1) (by omega)).div2 b1 hne
 have h1:=Y17 (k:=k) (hx.get ha) (hx.get hb) (by omega)
 have h2:=Y0u (k:=k+k+1) (Qb.one (by omega)) b1 hne (by omega)
 have h3:=Y6x (q:=1 / (rget x a - rget x b)) (Zu9 hq.n (by omega)) (Zu9 hq.d (by omega))
 have ql:∀ q:Rat,(qcell q).length=4:=fun q=>rfl
 have qt:∀ q:Rat,(qcell q).take 4=qcell q:=fun q=>rfl
 generalize 1 / (rget x a - rget x b)=q at *
 refine Zad Z48 (by simp) ?_
 unfold Zvv
 simp only [go_sem,Zl2,Zle]
 refine Zaa h (by simp only [go_sem]) ?_
 simp only [go_sem,Zld,Zfg,hl3,ht3,hmx,a0,b0,ga,gb,ql,qt]
 refine Zaa Yzi (by simp only [go_sem]) ?_
 simp only [go_sem,a0,b0,ga,gb,ql,qt]
 refine Zaa h1 (by simp only [go_sem,Zbg,Zan]) ?_
 simp only [go_sem]
 refine Zaa h2 (by simp only [go_sem,Zbg,Zan]) ?_
 simp only [go_sem]
 refine Zaa h3 (by simp only [go_sem,Zbg,Zan]) ?_
 unfold numR
 by_cases hok:NumOk q
 ·simp only [if_pos hok,go_sem]
 ·simp only [if_neg hok,go_sem]
end GoAbs
namespace GoAbs
open Go Go.Proofs
def L3:List Spr := [(0,1,[49]),(1,2,[49]),(0,2,[49])]
def E3:List Sp := [(0,1,1),(1,2,1),(0,2,1)]
theorem Yh6:parseL [49]=some 1:=by decide+kernel
theorem Y03:L3.map toE=E3:=by
 simp [L3,E3,toE,Yh6]
theorem lapl3:lapl 2 E3 = [[2,-1],[-1,2]]:=by decide+kernel
theorem unit3:(unitF 3 0 1).drop 1 = [-1,0]:=by decide+kernel
theorem aug3:aug (lapl 2 E3) ((unitF 3 0 1).drop 1) = [[2,-1,-1],[-1,2,0]]:=by rw [lapl3,unit3]; rfl
theorem tri3:(tri 2 0 [[2,-1,-1],[-1,2,0]] 1).2 = [[2,-1,-1],[0,3/2,-1/2]]:=by decide+kernel
theorem bsub3:bsub [[2,-1,-1],[0,3/2,-1/2]] 2 2 = [-2/3,-1/3]:=by decide+kernel
theorem fsum3:Fsum 3 id 2 E3=3:=by decide+kernel
theorem conn3:connB 3 E3=true:=by decide+kernel
theorem nums3:numS 3 = [51]:=by decide+kernel
theorem nums32:numS (3/2) = [51,47,50]:=by decide+kernel
theorem read3:readR 3 L3 = .tup [.agg (netC 3 E3),.int .i64 0]:=by
 have h1:(L3.all fun s=>(parseL s.2.2).isSome)=true:=by simp [L3,Yh6]
 have h2:(decide (2≤(3:Int)∧(3:Int)≤10∧L3.length≤40) && L3.all (sprOk 3))=true:=by decide+kernel
 unfold readR
 rw [h1,h2,Y03]
 rfl
theorem len3:∀ s,s∈L3→s.2.2.length≤1000000000:=fun s hs=>by
 simp [L3] at hs
 rcases hs with rfl | rfl | rfl <;> simp
theorem ok3:NetOk 3 E3:=by
 refine ⟨by omega,fun e he=>?_⟩
 simp only [E3,List.mem_cons,List.not_mem_nil,or_false] at he
 have hf:Fitd 20 (1:Rat):=by decide+kernel
 rcases he with rfl | rfl | rfl
 ·exact ⟨by decide,by decide,by decide,by decide,hf⟩
 ·exact ⟨by decide,by decide,by decide,by decide,hf⟩
 ·exact ⟨by decide,by decide,by decide,by decide,hf⟩
theorem Yl0:SpecV Tryz.prog Zxi [.int .i64 3,.sl (L3.map sprAV)] (.tup [.str (bs [51]),.int .i64 0]):=by
 have h:=Yk8 (n:=3) (L:=L3) (by decide) (by omega) len3 (by rw [Y03]; exact read3) (by rw [Y03]; exact ok3)
 rw [Y03] at h
 have hF:Fsum (3:Int).toNat id ((3:Int).toNat - 1) E3=3:=fsum3
 rw [hF,if_pos (by decide+kernel),nums3] at h
 exact h
theorem Yfj {q:Rat}(h:q.num.natAbs<1048576∧q.den<1048576):Qb 20 q:=⟨h.1,h.2⟩
theorem move3:SpecV Tryz.prog Z4m [.agg (netC 3 E3),.sl (condsR (unitF 3 0 1))] (.sl (condsR [0,-2/3,-1/3])):=by
 have h:=Yv0 (m:=2) (k:=20) (a:=20) (E:=E3) (f:=unitF 3 0 1) (by omega) (by omega) (kE:=67) (fun e he=>⟨(ok3.e e he).1,(ok3.e e he).2.1,(ok3.e e he).2.2.2.2.bits⟩) (by omega) (by decide) (by decide) Yh3
  (by
   rw [aug3]
   intro r hr x hx
   simp only [List.mem_cons,List.not_mem_nil,or_false] at hr
   rcases hr with rfl | rfl <;> simp only [List.mem_cons,List.not_mem_nil,or_false] at hx <;> rcases hx with rfl | rfl | rfl <;> exact Yfj (by decide))
  (by omega) (by decide)
  (by
   rw [aug3]
   refine ⟨fun h=>absurd h (by decide+kernel),fun _=>⟨fun h=>absurd h (by decide+kernel),fun _=>trivial⟩⟩)
  (by
   rw [aug3,tri3]
   intro r hr x hx
   simp only [List.mem_cons,List.not_mem_nil,or_false] at hr
   rcases hr with rfl | rfl <;> simp only [List.mem_cons,List.not_mem_nil,or_false] at hx <;> rcases hx with rfl | rfl | rfl <;> exact Yfj (by decide+kernel))
  (by
   rw [aug3,tri3]
   intro r hr
   simp only [List.mem_cons,List.not_mem_nil,or_false] at hr
   rcases hr with rfl | rfl <;> rfl)
  (by
   rw [aug3,tri3]
   intro i hi
   have:i=0∨i=1:=by omega
   rcases this with rfl | rfl <;> decide+kernel)
  (fun k hk=>by
   have:k=0∨k=1:=by omega
   rcases this with rfl | rfl <;> decide)
 rw [aug3,tri3,bsub3] at h
 exact h
theorem Ygd:SpecV Tryz.prog Zqx [.int .i64 3,.sl (L3.map sprAV),.int .i64 0,.int .i64 1] (.tup [.str (bs [51,47,50]),.int .i64 0]):=by
 have hl:=Y5u (n:=3) (a:=0) (b:=1) (L:=L3) (E:=E3) (x := [0,-2/3,-1/3]) (by decide) len3 read3 (by omega) (by omega) (by omega) (by omega) (by omega) (fun e he=>⟨(ok3.e e he).1,(ok3.e e he).2.1⟩) (by decide) conn3 move3
 have h:=Yrv (k:=20) hl (by decide) (by decide) (fun x hx=>by
  simp only [List.mem_cons,List.not_mem_nil,or_false] at hx
  rcases hx with rfl | rfl | rfl <;> exact Yfj (by decide+kernel)) (by omega) (by omega) (by decide+kernel)
 have hv:(1:Rat) / (rget [0,-2/3,-1/3] 0 - rget [0,-2/3,-1/3] 1)=3/2:=by decide+kernel
 unfold numR at h
 rw [hv,if_pos (by decide+kernel),nums32] at h
 exact h
theorem llives:SpecV Tryz.prog Yk3 [] (.bool true):=by
 refine Zbt Yjf (by simp) (Ze7 1 rfl ?_)
 unfold Yeu
 have h49:(⟨#[49]⟩:ByteArray)=bs [49]:=rfl
 have h51:(⟨#[51]⟩:ByteArray)=bs [51]:=rfl
 have h32:(⟨#[51,47,50]⟩:ByteArray)=bs [51,47,50]:=rfl
 simp only [go_sem,Z34,Z0y,h49]
 have hbv:=Yvi (H := [.cells (L3.flatMap sC)]) (ids := [0]) (b:=0) (L:=L3) rfl (by simp)
 refine T_le (Zto [0] [(1,.sl (L3.map sprAV))] ⟨.inl (by simp only [go_sem]; exact hbv),trivial⟩) (T_W ?_)
 show W _ _ _ _ ⟨_,[.dead]⟩ _
 simp only [go_sem,Z3t]
 refine Zaa Yl0 (by simp only [go_sem]) ?_
 simp only [go_sem,Z2e]
 refine Zaa Ygd (by simp only [go_sem]) ?_
 simp only [go_sem,Z17,h51,h32]
end GoAbs
namespace GoAbs
open Go Go.Proofs
end GoAbs
namespace GoAbs
open Go Go.Proofs
def one1 (low high:Nat) (s:Spr):List Spr:=if oneN low high s.1.toNat=oneN low high s.2.1.toNat then [] else [((oneN low high s.1.toNat:Nat),(oneN low high s.2.1.toNat:Nat),s.2.2)]
end GoAbs
namespace GoAbs
open Go Go.Proofs
end GoAbs
namespace GoAbs
open Go Go.Proofs
end GoAbs
namespace GoAbs
end GoAbs
namespace GoAbs
end GoAbs
namespace GoAbs
end GoAbs
namespace GoAbs
open Go Go.Proofs
end GoAbs
namespace GoAbs
open Go Go.Proofs
end GoAbs
namespace GoAbs
open Go Go.Proofs
set_option exponentiation.threshold 20000
end GoAbs
namespace GoAbs
open Go Go.Proofs
set_option exponentiation.threshold 20000
def ss (x:List Rat):List AV:=x.map fun q => .str (bs (numS q))
end GoAbs
namespace GoAbs
open Go Go.Proofs
def Znl:List IOp := [oI 2 (.mv (.c .nils)) 0,oI 3 (.mv (.c (.bool false))) 0]
def Zny:List IOp := [oI 4 (.mv (.c .nils)) 0]
def Znu:List IOp := [mI 9 0 0,oI 10 (.len (.t 9)) 0,oI 11 (.mv (cI 0)) 0]
def Zhc:List IOp := [oI 12 (.bin .lss (.t 11) (.t 10)) 0]
def Znk:List IOp := [xI 13 1 9 11 0,lI 14 13 0,mI 6 14 0]
def Znh:List IOp := [mI 16 6 0,oI 17 (.call 109 [.t 16]) 0,mI 15 17 0,eI 18 0 15 0,eI 19 1 15 0,oI 7 (.alloc [.bool false,.nils,.bool false,.nils]) 0,⟨none,.st 4 (.t 7) (.t 18),1,[],[],none⟩,mI 8 19 1]
def Zg5:List IOp := [mI 20 8 0,oI 21 (.un .not (.t 20)) 0]
def Zn7:List IOp := [oI 2 (.mv (.c .nils)) 0,oI 3 (.mv (.c (.bool false))) 0]
def Zn6:List IOp := [mI 22 4 0,lJ 23 4 7 0,oI 24 (.bsl (some 4) 1 [.bool false,.nils,.bool false,.nils] [(0,.t 23)]) 0,oI 25 (.app (some 4) 64 (.t 22) (.t 24)) 1,mI 4 25 2]
def Zla:List IOp := [oI 26 (.bin .add (.t 11) (cI 1)) 0,mI 11 26 0]
def Zhf:CC := .seq (.rg false Zhc) (.seq (.cond (.t 12) .skip (.exit 0)) (.seq (.block 1 (.seq (.rg false Znk) (.seq (.rg false Znh) (.seq (.seq (.rg false Zg5) (.cond (.t 21) (.seq (.rg false Zn7) .ret) .skip)) (.rg false Zn6))))) (.rg false Zla)))
def Zk8:List IOp := [mI 27 4 0,mI 2 27 0,oI 3 (.mv (.c (.bool true))) 0]
def Zxg:CC := .seq (.rg false Znl) (.seq (.rg false Zny) (.seq (.seq (.rg false Znu) (.block 0 (.loop Zhf))) (.seq (.rg false Zk8) .ret)))
abbrev Ybn:Nat:=91
theorem Z8m:fnOk Tryz.prog 91=some (28,Zxg,[.tmp 2,.tmp 3]):=by kernel_rfl
end GoAbs
namespace GoAbs
open Go Go.Proofs
set_option exponentiation.threshold 20000
def txts (L:List (List UInt8)):List AV:=L.map fun l => .str (bs l)
theorem Zfw (L:List (List UInt8)):(txts L).length=L.length:=by simp [txts]
theorem Ye1 {L:List (List UInt8)}{i:Nat}{l:List UInt8}(h:L[i]? = some l):(txts L)[i]? = some (.str (bs l)):=by simp [txts,h]
def toQ (l:List UInt8):Rat:=(parseL l).getD 0
def vecR (L:List (List UInt8)):AV:=if ∀ l,l∈L→(parseL l).isSome=true then .tup [.sl (condsR (L.map toQ)),.bool true] else .tup [.nils,.bool false]
theorem Xa9 {L:List (List UInt8)}(hl:∀ l,l∈L→l.length≤1000000000) (hL:L.length≤1000000) {K:Ex→St→Prop}
  (hK:(∀ l,l∈L→(parseL l).isSome=true)→∀ e:Nat→AV,e 4 = .osl (some 4) 0 0 L.length→K (.exit 0) ⟨e,[.cells (qc (L.map toQ))]⟩)
  (hK0:(¬ ∀ l,l∈L→(parseL l).isSome=true)→∀ e:Nat→AV,∀ H,e 2 = .nils→e 3 = .bool false→K .ret ⟨e,H⟩) :
  T Tryz.prog 28 0 (.loop Zhf) ⟨envL [(4,.osl (some 4) 0 0 0),(9,.sl (txts L)),(10,.int .i64 (L.length:Int)),(11,.int .i64 0)],[.cells []]⟩ K:=by
 have hm:Tryz.prog.follows .mixedOrders=true:=by kernel_rfl
 refine Zaf (fun i:Nat=>⟨envL [(4,.osl (some 4) 0 0 i),(9,.sl (txts L)),(10,.int .i64 (L.length:Int)),(11,.int .i64 (i:Int))],[.cells (qc ((L.take i).map toQ))]⟩)
  (fun i=>i≤L.length∧∀ l,l∈L.take i→(parseL l).isSome=true) (fun i=>L.length - i) 0 ⟨by omega,by simp⟩ (Zab _ (by simp only [go_sem]; simp)) (fun i hi N hN=>?_)
 obtain ⟨hi,hall⟩:=hi
 unfold Zhf
 by_cases hin:i<L.length
 ·obtain ⟨l,hli⟩:∃ l,L[i]? = some l:=⟨_,List.getElem?_eq_getElem hin⟩
  have hmem:=List.mem_of_getElem? hli
  obtain ⟨c,t,hc,hcg,hcb,hsp,hct⟩:=Yi7 (hl l hmem)
  have gl:=Ye1 hli
  have tk:L.take (i+1)=L.take i ++ [l]:=by rw [List.take_add_one,hli]; rfl
  have q0:(0:Int)≤(i:Int):=by omega
  have q1:(i:Int)<(L.length:Int):=by omega
  have e1:IntKind.i64.wrap ((i:Int)+1)=((i+1:Nat):Int):=by rw [Zac (by omega) (by omega)]; omega
  have l1:(qc ((L.take i).map toQ)).length=i*4:=by rw [Zq0,List.length_map,List.length_take]; congr 1; omega
  have l2:(qc ((L.take i).map toQ)).take (i*4)=qc ((L.take i).map toQ):=List.take_of_length_le (by omega)
  have l3:i*4≤(qc ((L.take i).map toQ)).length:=by omega
  have s1:(i+1)*64≤1099511627776:=by omega
  have ct:c.take 4=c:=List.take_of_length_le (by omega)
  have cd:c.drop 4 = []:=List.drop_of_length_le (by omega)
  simp only [go_sem,Zhc,Znk,Znh,q0,q1,gl]
  refine Zaa hsp (by simp only [go_sem]) ?_
  rcases hct with ⟨rfl,q,hq,rfl⟩ | ⟨rfl,hq⟩
  ·simp only [go_sem,Zg5,Zn6,Zla,hc,ct,cd,Bool.not_true,e1,l1,l2,l3,s1]
   refine ⟨Nat.le_refl _,hN (i+1) _ ⟨by omega,?_⟩ (by omega) ?_⟩
   ·rw [tk]; intro y hy
    rcases List.mem_append.1 hy with h | h
    ·exact hall y h
    ·rw [List.mem_singleton.1 h,hq]; rfl
   ·refine Zgo (Zjl [3] (by decide) (fun i hi=>by omega) [(4,.osl (some 4) 3 0 (i+1)),(9,.sl (txts L)),(10,.int .i64 (L.length:Int)),(11,.int .i64 ((i+1:Nat):Int))] (by simp only [go_sem])) ?_
    have hqq:toQ l=q:=by unfold toQ; rw [hq]; rfl
    have hss:qc ((L.take (i+1)).map toQ)=qc ((L.take i).map toQ)++qcell q:=by rw [tk,List.map_append,Z38, ← hqq]; simp [qc]
    show St.mk _ [Blk.cells (gcL _ (qc ((L.take i).map toQ)++qcell q))]=_
    rw [← hss,Yq3]
    rfl
  ·simp only [go_sem,Zg5,Zn7,hc,ct,cd,Bool.not_false]
   exact hK0 (fun h=>by have:=h l hmem; rw [hq] at this; cases this) _ _ (by simp only [go_sem]) (by simp only [go_sem])
 ·have hie:i=L.length:=by omega
  subst hie
  have q1:¬ ((L.length:Nat):Int)<(L.length:Int):=by omega
  rw [List.take_length] at hall ⊢
  simp only [go_sem,Zhc,q1]
  exact hK hall _ (by simp only [go_sem])
theorem Zod {L:List (List UInt8)}(hl:∀ l,l∈L→l.length≤1000000000) (hL:L.length≤1000000):SpecV Tryz.prog Ybn [.sl (txts L)] (vecR L):=by
 refine Zbt Z8m (by simp) (Ze7 1 rfl ?_)
 unfold Zxg
 simp only [go_sem,Znl,Zny]
 refine T_le (Z4i 4 (some 4) (by simp only [go_sem]) [(0,.sl (txts L)),(2,.nils),(3,.bool false)] (by simp only [go_sem])) ?_
 refine T_W ?_
 simp only [go_sem,Znu,Zfw]
 refine Za0 [(4,.osl (some 4) 0 0 0),(9,.sl (txts L)),(10,.int .i64 (L.length:Int)),(11,.int .i64 0)] (by simp only [go_sem]) ?_
 refine Xa9 hl hL (fun hall e e4=>?_) (fun hall e H e2 e3=>?_)
 ·simp only [go_sem,Zk8,e4,vecR,if_pos hall]
  have:=Z3n (H := [.cells (qc (L.map toQ))]) (ids:=allOf [.cells (qc (L.map toQ))]) (b:=0) (r:=L.map toQ) rfl (by simp [allOf])
  rwa [List.length_map] at this
 ·simp only [go_sem,e2,e3,vecR,if_neg hall]
end GoAbs
namespace GoAbs
open Go Go.Proofs
theorem opensNums:Opens Tryz.prog 65 (fun av=>∃ L:List (List UInt8),av = [.sl (txts L)]):=by
 refine Opens.mono (Yx6 (e:=26) (fun x ⟨n,hx,_⟩=>by cases hx; rfl) Tryz.underlying65 (by kernel_rfl) (Yia Tryz.underlying26)) ?_
 rintro av ⟨l,rfl,h⟩
 have:∀ l:List AV,(∀ c,c∈l→∃ s:ByteArray,[c] = [AV.str s]∧s.size≤maxLen)→∃ L:List (List UInt8),l=txts L:=by
  intro l
  induction l with
  | nil=>intro _; exact ⟨[],rfl⟩
  | cons c l ih =>
   intro h
   obtain ⟨p,hp⟩:=ih (fun d hd=>h d (by simp [hd]))
   obtain ⟨s,hs,_⟩:=h c (by simp)
   cases hs
   obtain ⟨b,rfl⟩:=Xak s
   exact ⟨b::p,by rw [hp]; rfl⟩
 obtain ⟨p,hp⟩:=this l h
 exact ⟨p,by rw [hp]⟩
end GoAbs
namespace GoAbs
open Go Go.Proofs
def Z7o:List IOp := [oI 2 (.mv (.c .nils)) 0]
def Z73:List IOp := [oI 5 (.bsl none 0 [.str ⟨#[]⟩] []) 0,mI 3 5 1]
def Z56:List IOp := [oI 4 (.mv (cI 0)) 0]
def Zlr:List IOp := [mI 6 4 0,mI 7 0 0,oI 8 (.len (.t 7)) 0,oI 9 (.bin .lss (.t 6) (.t 8)) 0,mI 10 9 0,gI 11 (.mv (.t 4)) 0 10 true,gI 12 (.bin .lss (.t 11) (cI 42)) 0 10 true,oI 13 (.pick (.t 10) (.t 12) (.c (.bool false))) 0]
def Z59:List IOp := [mI 16 3 0,mI 17 0 0,mI 18 4 0,xI 19 1 17 18 0,lI 20 19 0,oI 21 (.call 61 [.t 20]) 0,oI 22 (.bsl none 1 [.str ⟨#[]⟩] [(0,.t 21)]) 0,oI 23 (.app none 16 (.t 16) (.t 22)) 1,mI 3 23 2]
def Z65:List IOp := [mI 14 4 0,oI 15 (.bin .add (.t 14) (cI 1)) 0,mI 4 15 0]
def Zuu:CC := .seq (.seq (.rg false Zlr) (.cond (.t 13) .skip (.exit 0))) (.seq (.block 1 (.rg false Z59)) (.rg false Z65))
def Z6i:List IOp := [mI 24 3 0,mI 2 24 0]
def Yis:CC := .seq (.rg false Z7o) (.seq (.rg false Z73) (.seq (.seq (.rg false Z56) (.block 0 (.loop Zuu))) (.seq (.rg false Z6i) .ret)))
abbrev Yd8:Nat:=46
theorem Yly:fnOk Tryz.prog 46=some (25,Yis,[.tmp 2]):=by kernel_rfl
def Yc5:List IOp := [oI 2 (.mv (.c .nils)) 0]
def Ydl:List IOp := [oI 5 (.bsl (some 4) 0 [.bool false,.nils,.bool false,.nils] []) 0,mI 3 5 1]
def Yet:List IOp := [oI 4 (.mv (cI 0)) 0]
def Z43:List IOp := [mI 6 4 0,mI 7 0 0,oI 8 (.len (.t 7)) 0,oI 9 (.bin .lss (.t 6) (.t 8)) 0]
def Yei:List IOp := [mI 12 3 0,mI 13 0 0,mI 14 4 0,xI 15 1 13 14 0,lI 16 15 0,oI 17 (.call 29 [.t 16]) 0,oI 18 (.bsl (some 4) 1 [.bool false,.nils,.bool false,.nils] [(0,.t 17)]) 0,oI 19 (.app (some 4) 64 (.t 12) (.t 18)) 1,mI 3 19 2]
def Ydj:List IOp := [mI 10 4 0,oI 11 (.bin .add (.t 10) (cI 1)) 0,mI 4 11 0]
def Z4v:CC := .seq (.seq (.rg false Z43) (.cond (.t 9) .skip (.exit 0))) (.seq (.block 1 (.rg false Yei)) (.rg false Ydj))
def Yeo:List IOp := [mI 20 3 0,mI 2 20 0]
def Yv2:CC := .seq (.rg false Yc5) (.seq (.rg false Ydl) (.seq (.seq (.rg false Yet) (.block 0 (.loop Z4v))) (.seq (.rg false Yeo) .ret)))
abbrev Y2s:Nat:=49
theorem Yx9:fnOk Tryz.prog 49=some (21,Yv2,[.tmp 2]):=by kernel_rfl
def Zci:List IOp := [oI 1 (.box (.t 0)) 0,oI 2 (.mv (.c (.bool false))) 1]
def Zch:List IOp := [lJ 3 4 1 0,oI 4 (.call 95 [.t 3]) 0,oI 5 (.bin .neq (.t 4) (cI 0)) 0,mI 2 5 0]
def Zkq:CC := .seq (.rg false Zci) (.seq (.rg false Zch) .ret)
abbrev Za2:Nat:=101
theorem Zs2:fnOk Tryz.prog 101=some (6,Zkq,[.tmp 2]):=by kernel_rfl
def Zi7:List IOp := [oI 4 (.mv (cI 0)) 0]
def Zi2:List IOp := [mI 6 0 0,oI 7 (.len (.t 6)) 0,oI 8 (.mv (cI 0)) 0]
def Zdq:List IOp := [oI 9 (.bin .lss (.t 8) (.t 7)) 0]
def Zir:List IOp := [mI 10 8 0,mI 5 10 0]
def Zja:List IOp := [mI 11 1 0,mI 12 0 0,mI 13 5 0,xI 14 4 12 13 0,lJ 15 4 14 0,oI 16 (.callv (.t 11) [.t 15]) 0]
def Zi6:List IOp := [mI 17 5 0,mI 4 17 0]
def Zis:List IOp := [oI 18 (.bin .add (.t 8) (cI 1)) 0,mI 8 18 0]
def Zdk:CC := .seq (.rg false Zdq) (.seq (.cond (.t 9) .skip (.exit 0)) (.seq (.block 1 (.seq (.rg false Zir) (.seq (.rg false Zja) (.cond (.t 16) (.seq (.rg false Zi6) .ret) .skip)))) (.rg false Zis)))
def Zit:List IOp := [oI 4 (.mv (cI (-1))) 0]
def Znn:CC := .seq (.rg false Zi7) (.seq (.seq (.rg false Zi2) (.block 0 (.loop Zdk))) (.seq (.rg false Zit) .ret))
abbrev Z3d:Nat:=133
theorem Z0i:fnOk Tryz.prog 133=some (19,Znn,[.tmp 4]):=by kernel_rfl
def Zf0:List IOp := [oI 4 (.mv (.c (.bool false))) 0]
def Zgk:List IOp := [mI 5 0 0,mI 6 1 0,oI 7 (.call 133 [.t 5,.t 6]) 0,oI 8 (.bin .geq (.t 7) (cI 0)) 0,mI 4 8 0]
def Zi3:CC := .seq (.rg false Zf0) (.seq (.rg false Zgk) .ret)
abbrev Zuh:Nat:=100
theorem Zr3:fnOk Tryz.prog 100=some (9,Zi3,[.tmp 4]):=by kernel_rfl
def Zgn:List IOp := [oI 10 (.mv (.c (.bool false))) 0,oI 11 (.mv (cI 0)) 0]
def Zfs:List IOp := [mI 20 0 0,mI 21 1 0,oI 22 (.call 62 [.t 20,.t 21]) 0,mI 19 22 0,eI 23 0 19 0,eI 24 1 19 0,oI 12 (.alloc [.int .i64 0,.nils,.nils]) 0,⟨none,.st 3 (.t 12) (.t 23),1,[],[],none⟩,mI 13 24 1]
def Zf5:List IOp := [mI 26 4 0,oI 27 (.call 91 [.t 26]) 0,mI 25 27 0,eI 28 0 25 0,eI 29 1 25 0,mI 14 28 0,mI 15 29 0]
def Zam:List IOp := [mI 31 13 0,oI 32 (.bin .eql (.t 31) (cI 2)) 0,mI 33 32 0,gI 34 (.mv (.t 15)) 0 33 false,gI 35 (.un .not (.t 34)) 0 33 false,oI 36 (.pick (.t 33) (.c (.bool true)) (.t 35)) 0,mI 30 36 0]
def Zcn:List IOp := [oI 10 (.mv (.c (.bool false))) 0,oI 11 (.mv (cI 2)) 0]
def Zar:List IOp := [mI 38 13 0,oI 39 (.bin .neq (.t 38) (cI 0)) 0,mI 40 39 0,gI 41 (.mv (.t 2)) 0 40 false,gI 42 (.bin .lss (.t 41) (cI 0)) 0 40 false,oI 43 (.pick (.t 40) (.c (.bool true)) (.t 42)) 0,mI 44 43 0,gI 45 (.mv (.t 2)) 0 44 false,gI 46 (.mv (.t 0)) 0 44 false,gI 47 (.bin .geq (.t 45) (.t 46)) 0 44 false,oI 48 (.pick (.t 44) (.c (.bool true)) (.t 47)) 0,mI 49 48 0,gI 50 (.mv (.t 3)) 0 49 false,gI 51 (.bin .lss (.t 50) (cI 0)) 0 49 false,oI 52 (.pick (.t 49) (.c (.bool true)) (.t 51)) 0,mI 53 52 0,gI 54 (.mv (.t 3)) 0 53 false,gI 55 (.mv (.t 0)) 0 53 false,gI 56 (.bin .geq (.t 54) (.t 55)) 0 53 false,oI 57 (.pick (.t 53) (.c (.bool true)) (.t 56)) 0,mI 58 57 0,gI 59 (.mv (.t 2)) 0 58 false,gI 60 (.mv (.t 3)) 0 58 false,gI 61 (.bin .eql (.t 59) (.t 60)) 0 58 false,oI 62 (.pick (.t 58) (.c (.bool true)) (.t 61)) 0,mI 63 62 0,gI 64 (.mv (.t 14)) 0 63 false,gI 65 (.len (.t 64)) 0 63 false,gI 66 (.mv (.t 1)) 0 63 false,gI 67 (.len (.t 66)) 0 63 false,gI 68 (.bin .neq (.t 65) (.t 67)) 0 63 false,oI 69 (.pick (.t 63) (.c (.bool true)) (.t 68)) 0,mI 37 69 0]
def Zau:List IOp := [oI 10 (.mv (.c (.bool false))) 0,oI 11 (.mv (cI 1)) 0]
def Zlp:List IOp := [oI 70 (.call 77 [cI 0]) 0,oI 71 (.bsl (some 4) 1 [.bool false,.nils,.bool false,.nils] [(0,.t 70)]) 0,mI 72 0 1,oI 73 (.call 99 [.t 71,.t 72]) 1,mI 16 73 1]
def Zlg:List IOp := [mI 74 16 0,mI 75 2 0,mI 76 16 0,mI 77 3 0,oI 78 (.call 77 [cI (-1)]) 0,oI 79 (.call 77 [cI 1]) 0,xI 80 4 74 75 0,⟨none,.st 4 (.t 80) (.t 78),0,[],[],none⟩,xI 81 4 76 77 0,⟨none,.st 4 (.t 81) (.t 79),0,[],[],none⟩]
def Zjy:List IOp := [fI 82 1 12 0,lI 83 82 0,oI 84 (.len (.t 83)) 0,oI 85 (.mv (cI 0)) 0]
def Zeq:List IOp := [oI 86 (.bin .lss (.t 85) (.t 84)) 0]
def Zjx:List IOp := [mI 87 85 0,xI 88 2 83 85 0,lJ 89 2 88 0,oI 18 (.alloc [.int .i64 0,.int .i64 0]) 0,mI 17 87 1,⟨none,.st 2 (.t 18) (.t 89),1,[],[],none⟩]
def Zey:List IOp := [mI 90 16 0,fI 91 0 18 0,lI 92 91 0,mI 93 16 0,fI 94 0 18 0,lI 95 94 0,xI 96 4 93 95 0,lJ 97 4 96 0,mI 98 14 0,mI 99 17 0,xI 100 4 98 99 0,lJ 101 4 100 0,oI 102 (.call 94 [.t 97,.t 101]) 0,xI 103 4 90 92 0,⟨none,.st 4 (.t 103) (.t 102),0,[],[],none⟩]
@[go_sem ↓] theorem Zv5 : autoK Zey = (0, 1) := by kernel_rfl
@[go_sem] theorem Yg8 : autoK [mI 90 16 0, fI 91 0 18 0, lI 92 91 0, mI 93 16 0, fI 94 0 18 0, lI 95 94 0, xI 96 4 93 95 0, lJ 97 4 96 0, mI 98 14 0, mI 99 17 0, xI 100 4 98 99 0, lJ 101 4 100 0, oI 102 (.call 94 [.t 97, .t 101]) 0, xI 103 4 90 92 0, ⟨none, .st 4 (.t 103) (.t 102), 0, [], [], none⟩] = (0, 1) := Zv5
def Ze1:List IOp := [mI 104 16 0,fI 105 1 18 0,lI 106 105 0,mI 107 16 0,fI 108 1 18 0,lI 109 108 0,xI 110 4 107 109 0,lJ 111 4 110 0,mI 112 14 0,mI 113 17 0,xI 114 4 112 113 0,lJ 115 4 114 0,oI 116 (.call 79 [.t 111,.t 115]) 0,xI 117 4 104 106 0,⟨none,.st 4 (.t 117) (.t 116),0,[],[],none⟩]
@[go_sem ↓] theorem Ztt : autoK Ze1 = (0, 1) := by kernel_rfl
@[go_sem] theorem Yg7 : autoK [mI 104 16 0, fI 105 1 18 0, lI 106 105 0, mI 107 16 0, fI 108 1 18 0, lI 109 108 0, xI 110 4 107 109 0, lJ 111 4 110 0, mI 112 14 0, mI 113 17 0, xI 114 4 112 113 0, lJ 115 4 114 0, oI 116 (.call 79 [.t 111, .t 115]) 0, xI 117 4 104 106 0, ⟨none, .st 4 (.t 117) (.t 116), 0, [], [], none⟩] = (0, 1) := Ztt
def Zjo:List IOp := [oI 118 (.bin .add (.t 85) (cI 1)) 0,mI 85 118 0]
def Zfq:CC := .seq (.rg false Zeq) (.seq (.cond (.t 86) .skip (.exit 1)) (.seq (.block 2 (.seq (.rg false Zjx) (.seq (.rg true Zey) (.rg true Ze1)))) (.rg false Zjo)))
def Zj6:List IOp := [mI 119 16 0,oI 120 (.call 100 [.t 119,.c (.fn 101 [] [])]) 0,oI 121 (.un .not (.t 120)) 0,mI 10 121 0,oI 11 (.mv (cI 0)) 0]
def Zkr:CC := .seq (.rg false Zgn) (.seq (.rg false Zfs) (.seq (.rg false Zf5) (.seq (.block 0 (.seq (.rg false Zam) (.cond (.t 30) (.seq (.rg false Zcn) .ret) (.seq (.rg false Zar) (.cond (.t 37) (.seq (.rg false Zau) .ret) .skip))))) (.seq (.rg false Zlp) (.seq (.rg false Zlg) (.seq (.seq (.rg false Zjy) (.block 1 (.loop Zfq))) (.seq (.rg false Zj6) .ret)))))))
abbrev Zef:Nat:=53
theorem Zn8:fnOk Tryz.prog 53=some (122,Zkr,[.tmp 10,.tmp 11]):=by kernel_rfl
def Zhg:List IOp := [oI 6 (.mv (.c (.str ⟨#[]⟩))) 0,oI 7 (.mv (cI 0)) 0]
def Zgy:List IOp := [mI 16 0 0,mI 17 1 0,oI 18 (.call 62 [.t 16,.t 17]) 0,mI 15 18 0,eI 19 0 15 0,eI 20 1 15 0,oI 8 (.alloc [.int .i64 0,.nils,.nils]) 0,⟨none,.st 3 (.t 8) (.t 19),1,[],[],none⟩,mI 9 20 1]
def Zg4:List IOp := [mI 22 2 0,oI 23 (.call 91 [.t 22]) 0,mI 21 23 0,eI 24 0 21 0,eI 25 1 21 0,mI 10 24 0,mI 11 25 0]
def Za6:List IOp := [mI 27 9 0,oI 28 (.bin .eql (.t 27) (cI 2)) 0,mI 29 28 0,gI 30 (.mv (.t 11)) 0 29 false,gI 31 (.un .not (.t 30)) 0 29 false,oI 32 (.pick (.t 29) (.c (.bool true)) (.t 31)) 0,mI 26 32 0]
def Zdb:List IOp := [oI 6 (.mv (.c (.str ⟨#[]⟩))) 0,oI 7 (.mv (cI 2)) 0]
def Zdd:List IOp := [mI 34 9 0,oI 35 (.bin .neq (.t 34) (cI 0)) 0,mI 36 35 0,gI 37 (.mv (.t 10)) 0 36 false,gI 38 (.len (.t 37)) 0 36 false,gI 39 (.mv (.t 1)) 0 36 false,gI 40 (.len (.t 39)) 0 36 false,gI 41 (.bin .neq (.t 38) (.t 40)) 0 36 false,oI 42 (.pick (.t 36) (.c (.bool true)) (.t 41)) 0,mI 33 42 0]
def Zg9:List IOp := [oI 6 (.mv (.c (.str ⟨#[]⟩))) 0,oI 7 (.mv (cI 1)) 0]
def Znj:List IOp := [oI 43 (.call 77 [cI 0]) 0,oI 12 (.alloc [.bool false,.nils,.bool false,.nils]) 0,⟨none,.st 4 (.t 12) (.t 43),1,[],[],none⟩]
def Zn0:List IOp := [mI 44 10 0,oI 45 (.len (.t 44)) 0,oI 46 (.mv (cI 0)) 0]
def Zfk:List IOp := [oI 47 (.bin .lss (.t 46) (.t 45)) 0]
def Zlj:List IOp := [mI 48 46 0,xI 49 4 44 46 0,lJ 50 4 49 0,oI 14 (.alloc [.bool false,.nils,.bool false,.nils]) 0,mI 13 48 1,⟨none,.st 4 (.t 14) (.t 50),1,[],[],none⟩]
def Zgj:List IOp := [lJ 51 4 12 0,lJ 52 4 14 0,lJ 53 4 14 0,oI 54 (.call 87 [.t 52,.t 53]) 0,fI 55 2 8 0,lI 56 55 0,mI 57 13 0,xI 58 4 56 57 0,lJ 59 4 58 0,oI 60 (.call 78 [.t 54,.t 59]) 0,oI 61 (.callw 94 [.t 51,.t 60]) 0,⟨none,.st 4 (.t 12) (.t 61),0,[],[],none⟩]
@[go_sem ↓] theorem Zwq : autoK Zgj = (0, 1) := by kernel_rfl
@[go_sem] theorem Yhe : autoK [lJ 51 4 12 0, lJ 52 4 14 0, lJ 53 4 14 0, oI 54 (.call 87 [.t 52, .t 53]) 0, fI 55 2 8 0, lI 56 55 0, mI 57 13 0, xI 58 4 56 57 0, lJ 59 4 58 0, oI 60 (.call 78 [.t 54, .t 59]) 0, oI 61 (.callw 94 [.t 51, .t 60]) 0, ⟨none, .st 4 (.t 12) (.t 61), 0, [], [], none⟩] = (0, 1) := Zwq
def Zlb:List IOp := [oI 62 (.bin .add (.t 46) (cI 1)) 0,mI 46 62 0]
def Zhd:CC := .seq (.rg false Zfk) (.seq (.cond (.t 47) .skip (.exit 1)) (.seq (.block 2 (.seq (.rg false Zlj) (.rg true Zgj))) (.rg false Zlb)))
def Zlk:List IOp := [lJ 63 4 12 0,oI 64 (.call 65 [.t 63]) 0,eI 65 0 64 0,eI 66 1 64 0,mI 6 65 0,mI 7 66 0]
def Zl8:CC := .seq (.rg false Zhg) (.seq (.rg false Zgy) (.seq (.rg false Zg4) (.seq (.block 0 (.seq (.rg false Za6) (.cond (.t 26) (.seq (.rg false Zdb) .ret) (.seq (.rg false Zdd) (.cond (.t 33) (.seq (.rg false Zg9) .ret) .skip))))) (.seq (.rg false Znj) (.seq (.seq (.rg false Zn0) (.block 1 (.loop Zhd))) (.seq (.rg false Zlk) .ret))))))
abbrev Zkt:Nat:=54
theorem Zq6:fnOk Tryz.prog 54=some (67,Zl8,[.tmp 6,.tmp 7]):=by kernel_rfl
def Zts:List IOp := [oI 10 (.mv (.c (.bool false))) 0]
def Zsp:List IOp := [oI 11 (.mv (cI 0)) 0]
def Zkp:List IOp := [mI 15 11 0,mI 16 0 0,oI 17 (.bin .lss (.t 15) (.t 16)) 0]
def Zub:List IOp := [oI 20 (.call 33 [cI 0]) 0,oI 12 (.alloc [.bool false,.nils,.bool false,.nils]) 0,⟨none,.st 4 (.t 12) (.t 20),1,[],[],none⟩]
def Zt3:List IOp := [oI 13 (.mv (cI 0)) 0]
def Zcz:List IOp := [mI 21 13 0,mI 22 1 0,oI 23 (.len (.t 22)) 0,oI 24 (.bin .lss (.t 21) (.t 23)) 0]
def Zgb:List IOp := [mI 27 1 0,mI 28 13 0,xI 29 3 27 28 0,fI 30 0 29 0,lI 31 30 0,mI 32 11 0,oI 33 (.bin .eql (.t 31) (.t 32)) 0]
def Zkx:List IOp := [lJ 34 4 12 0,mI 35 4 0,mI 36 13 0,xI 37 4 35 36 0,lJ 38 4 37 0,oI 39 (.callw 27 [.t 34,.t 38]) 0,oI 40 (.callw 36 [.t 39]) 0,⟨none,.st 4 (.t 12) (.t 40),0,[],[],none⟩]
@[go_sem ↓] theorem Z42 : autoK Zkx = (0, 1) := by kernel_rfl
@[go_sem] theorem Yof : autoK [lJ 34 4 12 0, mI 35 4 0, mI 36 13 0, xI 37 4 35 36 0, lJ 38 4 37 0, oI 39 (.callw 27 [.t 34, .t 38]) 0, oI 40 (.callw 36 [.t 39]) 0, ⟨none, .st 4 (.t 12) (.t 40), 0, [], [], none⟩] = (0, 1) := Z42
def Zf3:List IOp := [mI 41 1 0,mI 42 13 0,xI 43 3 41 42 0,fI 44 1 43 0,lI 45 44 0,mI 46 11 0,oI 47 (.bin .eql (.t 45) (.t 46)) 0]
def Zio:List IOp := [lJ 48 4 12 0,mI 49 4 0,mI 50 13 0,xI 51 4 49 50 0,lJ 52 4 51 0,oI 53 (.callw 52 [.t 48,.t 52]) 0,oI 54 (.callw 36 [.t 53]) 0,⟨none,.st 4 (.t 12) (.t 54),0,[],[],none⟩]
@[go_sem ↓] theorem Z31 : autoK Zio = (0, 1) := by kernel_rfl
@[go_sem] theorem Ym6 : autoK [lJ 48 4 12 0, mI 49 4 0, mI 50 13 0, xI 51 4 49 50 0, lJ 52 4 51 0, oI 53 (.callw 52 [.t 48, .t 52]) 0, oI 54 (.callw 36 [.t 53]) 0, ⟨none, .st 4 (.t 12) (.t 54), 0, [], [], none⟩] = (0, 1) := Z31
def Zec:List IOp := [mI 25 13 0,oI 26 (.bin .add (.t 25) (cI 1)) 0,mI 13 26 0]
def Zj5:CC := .seq (.seq (.rg false Zcz) (.cond (.t 24) .skip (.exit 2))) (.seq (.block 3 (.seq (.seq (.rg false Zgb) (.cond (.t 33) (.rg true Zkx) .skip)) (.seq (.rg false Zf3) (.cond (.t 47) (.rg true Zio) .skip)))) (.rg false Zec))
def Zei:List IOp := [oI 14 (.mv (cI 0)) 0]
def Zed:List IOp := [mI 55 11 0,mI 56 2 0,oI 57 (.bin .eql (.t 55) (.t 56)) 0]
def Zqo:List IOp := [oI 14 (.mv (cI 1)) 0]
def Zeh:List IOp := [mI 58 11 0,mI 59 3 0,oI 60 (.bin .eql (.t 58) (.t 59)) 0]
def Zqw:List IOp := [oI 14 (.mv (cI (-1))) 0]
def Zb4:List IOp := [lJ 61 4 12 0,mI 62 14 0,oI 63 (.call 33 [.t 62]) 0,oI 64 (.callw 26 [.t 61,.t 63]) 0,oI 65 (.bin .neq (.t 64) (cI 0)) 0]
@[go_sem ↓] theorem Z1t : autoK Zb4 = (0, 0) := by kernel_rfl
@[go_sem] theorem Yla : autoK [lJ 61 4 12 0, mI 62 14 0, oI 63 (.call 33 [.t 62]) 0, oI 64 (.callw 26 [.t 61, .t 63]) 0, oI 65 (.bin .neq (.t 64) (cI 0)) 0] = (0, 0) := Z1t
def Zea:List IOp := [oI 10 (.mv (.c (.bool false))) 0]
def Zek:List IOp := [mI 18 11 0,oI 19 (.bin .add (.t 18) (cI 1)) 0,mI 11 19 0]
def Zk2:CC := .seq (.seq (.rg false Zkp) (.cond (.t 17) .skip (.exit 0))) (.seq (.block 1 (.seq (.rg false Zub) (.seq (.seq (.rg false Zt3) (.block 2 (.loop Zj5))) (.seq (.rg false Zei) (.seq (.seq (.rg false Zed) (.cond (.t 57) (.rg false Zqo) .skip)) (.seq (.seq (.rg false Zeh) (.cond (.t 60) (.rg false Zqw) .skip)) (.seq (.rg true Zb4) (.cond (.t 65) (.seq (.rg false Zea) .ret) .skip)))))))) (.rg false Zek))
def Zrc:List IOp := [oI 10 (.mv (.c (.bool true))) 0]
def Z6s:CC := .seq (.rg false Zts) (.seq (.seq (.rg false Zsp) (.block 0 (.loop Zk2))) (.seq (.rg false Zrc) .ret))
abbrev Z2h:Nat:=56
theorem Yct:fnOk Tryz.prog 56=some (66,Z6s,[.tmp 10]):=by kernel_rfl
def Zyf:List IOp := [oI 4 (.alloc [.bool false,.nils,.bool false,.nils]) 0]
def Zy5:List IOp := [oI 7 (.call 33 [cI 0]) 0,oI 5 (.alloc [.bool false,.nils,.bool false,.nils]) 0,⟨none,.st 4 (.t 5) (.t 7),1,[],[],none⟩]
def Zwv:List IOp := [oI 6 (.mv (cI 0)) 0]
def Zmg:List IOp := [mI 8 6 0,mI 9 0 0,oI 10 (.len (.t 9)) 0,oI 11 (.bin .lss (.t 8) (.t 10)) 0]
def Zmo:List IOp := [lJ 14 4 5 0,mI 15 1 0,mI 16 6 0,xI 17 4 15 16 0,lJ 18 4 17 0,mI 19 1 0,mI 20 6 0,xI 21 4 19 20 0,lJ 22 4 21 0,oI 23 (.call 28 [.t 18,.t 22]) 0,mI 24 0 0,mI 25 6 0,xI 26 3 24 25 0,fI 27 2 26 0,lI 28 27 0,oI 29 (.call 29 [.t 28]) 0,oI 30 (.call 32 [.t 23,.t 29]) 0,oI 31 (.callw 27 [.t 14,.t 30]) 0,oI 32 (.callw 36 [.t 31]) 0,⟨none,.st 4 (.t 5) (.t 32),0,[],[],none⟩]
@[go_sem ↓] theorem Z8k : autoK Zmo = (0, 1) := by kernel_rfl
@[go_sem] theorem Yr4 : autoK [lJ 14 4 5 0, mI 15 1 0, mI 16 6 0, xI 17 4 15 16 0, lJ 18 4 17 0, mI 19 1 0, mI 20 6 0, xI 21 4 19 20 0, lJ 22 4 21 0, oI 23 (.call 28 [.t 18, .t 22]) 0, mI 24 0 0, mI 25 6 0, xI 26 3 24 25 0, fI 27 2 26 0, lI 28 27 0, oI 29 (.call 29 [.t 28]) 0, oI 30 (.call 32 [.t 23, .t 29]) 0, oI 31 (.callw 27 [.t 14, .t 30]) 0, oI 32 (.callw 36 [.t 31]) 0, ⟨none, .st 4 (.t 5) (.t 32), 0, [], [], none⟩] = (0, 1) := Z8k
def Zxy:List IOp := [mI 12 6 0,oI 13 (.bin .add (.t 12) (cI 1)) 0,mI 6 13 0]
def Zmc:CC := .seq (.seq (.rg false Zmg) (.cond (.t 11) .skip (.exit 0))) (.seq (.block 1 (.rg true Zmo)) (.rg false Zxy))
def Zxn:List IOp := [lJ 33 4 5 0,⟨none,.st 4 (.t 4) (.t 33),0,[],[],none⟩]
def Z86:CC := .seq (.rg false Zyf) (.seq (.rg false Zy5) (.seq (.seq (.rg false Zwv) (.block 0 (.loop Zmc))) (.seq (.rg false Zxn) .ret)))
abbrev Yhu:Nat:=55
theorem Yga:fnOk Tryz.prog 55=some (34,Z86,[.cell 4 (some 4)]):=by kernel_rfl
def Zda:List IOp := [oI 3 (.box (.t 0)) 0,oI 4 (.box (.t 1)) 1,oI 6 (.mv (.c (.bool false))) 2]
def Zc5:List IOp := [lJ 14 2 3 0,oI 15 (.call 15 [.t 14]) 0,mI 16 2 0,oI 17 (.call 46 [.t 16]) 0,oI 7 (.alloc [.int .i64 0,.nils]) 0,⟨none,.st 2 (.t 7) (.t 15),1,[],[],none⟩,mI 8 17 1]
def Zc0:List IOp := [fI 19 0 7 0,lI 20 19 0,fI 21 1 7 0,lI 22 21 0,fI 23 0 4 0,lI 24 23 0,fI 25 1 4 0,lI 26 25 0,mI 27 8 0,oI 28 (.call 53 [.t 20,.t 22,.t 24,.t 26,.t 27]) 0,mI 18 28 0,eI 29 0 18 0,eI 30 1 18 0,mI 9 29 0,mI 10 30 0]
def Zc7:List IOp := [fI 32 0 7 0,lI 33 32 0,fI 34 1 7 0,lI 35 34 0,mI 36 8 0,oI 37 (.call 54 [.t 33,.t 35,.t 36]) 0,mI 31 37 0,eI 38 0 31 0,eI 39 1 31 0,mI 11 38 0,mI 12 39 0]
def Zcu:List IOp := [fI 40 0 7 0,lI 41 40 0,fI 42 1 7 0,lI 43 42 0,mI 44 8 0,oI 45 (.call 17 [.t 41,.t 43,.t 44]) 0,mI 13 45 0]
def Zbm:List IOp := [mI 46 13 0,oI 47 (.bin .eql (.t 46) (cI 0)) 0,mI 48 47 0,gI 49 (.mv (.t 8)) 0 48 true,gI 50 (.len (.t 49)) 0 48 true,gI 51 (.fa 1 (.t 7)) 0 48 true,gI 52 (.ld none (.t 51)) 0 48 true,gI 53 (.len (.t 52)) 0 48 true,gI 54 (.bin .neq (.t 50) (.t 53)) 0 48 true,oI 55 (.pick (.t 48) (.t 54) (.c (.bool false))) 0]
def Zh1:List IOp := [oI 13 (.mv (cI 1)) 0]
def Zbo:List IOp := [mI 56 13 0,oI 57 (.bin .neq (.t 56) (cI 0)) 0]
def Zc8:List IOp := [mI 58 9 0,oI 59 (.un .not (.t 58)) 0,mI 60 59 0,gI 61 (.mv (.t 10)) 0 60 true,gI 62 (.mv (.t 13)) 0 60 true,gI 63 (.bin .eql (.t 61) (.t 62)) 0 60 true,oI 64 (.pick (.t 60) (.t 63) (.c (.bool false))) 0,mI 65 64 0,gI 66 (.mv (.t 11)) 0 65 true,⟨some 67,.bin .eql (.t 66) (.c (.str ⟨#[]⟩)),0,[],[],some (65,true)⟩,oI 68 (.pick (.t 65) (.t 67) (.c (.bool false))) 0,mI 69 68 0,gI 70 (.mv (.t 12)) 0 69 true,gI 71 (.mv (.t 13)) 0 69 true,gI 72 (.bin .eql (.t 70) (.t 71)) 0 69 true,oI 73 (.pick (.t 69) (.t 72) (.c (.bool false))) 0,mI 74 73 0,gI 75 (.call 18 []) 0 74 true,oI 76 (.pick (.t 74) (.t 75) (.c (.bool false))) 0,mI 6 76 0]
def Zgv:List IOp := [lJ 77 2 7 0,oI 78 (.call 19 [.t 77]) 0,oI 79 (.un .not (.t 78)) 0]
def Zgt:List IOp := [oI 80 (.call 18 []) 0,mI 6 80 0]
def Zck:List IOp := [mI 81 11 0,fI 82 1 7 0,lI 83 82 0,mI 84 8 0,oI 85 (.call 49 [.t 84]) 0,oI 86 (.call 55 [.t 83,.t 85]) 0,oI 87 (.callw 20 [.t 81,.t 86]) 0,oI 88 (.un .not (.t 87)) 0,mI 89 88 0,gI 90 (.mv (.t 12)) 0 89 false,gI 91 (.bin .neq (.t 90) (cI 0)) 0 89 false,oI 92 (.pick (.t 89) (.c (.bool true)) (.t 91)) 0,mI 93 92 0,gI 94 (.callw 18 []) 0 93 false,gI 95 (.un .not (.t 94)) 0 93 false,oI 96 (.pick (.t 93) (.c (.bool true)) (.t 95)) 0]
@[go_sem ↓] theorem Zm5 : autoK Zck = (0, 0) := by kernel_rfl
@[go_sem] theorem Yb9 : autoK [mI 81 11 0, fI 82 1 7 0, lI 83 82 0, mI 84 8 0, oI 85 (.call 49 [.t 84]) 0, oI 86 (.call 55 [.t 83, .t 85]) 0, oI 87 (.callw 20 [.t 81, .t 86]) 0, oI 88 (.un .not (.t 87)) 0, mI 89 88 0, gI 90 (.mv (.t 12)) 0 89 false, gI 91 (.bin .neq (.t 90) (cI 0)) 0 89 false, oI 92 (.pick (.t 89) (.c (.bool true)) (.t 91)) 0, mI 93 92 0, gI 94 (.callw 18 []) 0 93 false, gI 95 (.un .not (.t 94)) 0 93 false, oI 96 (.pick (.t 93) (.c (.bool true)) (.t 95)) 0] = (0, 0) := Zm5
def Zrz:List IOp := [oI 6 (.mv (.c (.bool false))) 0]
def Zgu:List IOp := [fI 97 0 7 0,lI 98 97 0,lJ 99 2 4 0,oI 100 (.call 41 [.t 98,.t 99]) 0,mI 13 100 0]
def Zcj:List IOp := [mI 101 13 0,oI 102 (.bin .neq (.t 101) (cI 0)) 0]
def Zgr:List IOp := [mI 103 9 0,oI 104 (.un .not (.t 103)) 0,mI 105 104 0,gI 106 (.mv (.t 10)) 0 105 true,gI 107 (.mv (.t 13)) 0 105 true,gI 108 (.bin .eql (.t 106) (.t 107)) 0 105 true,oI 109 (.pick (.t 105) (.t 108) (.c (.bool false))) 0,mI 6 109 0]
def Zcl:List IOp := [mI 110 9 0,fI 111 0 7 0,lI 112 111 0,fI 113 1 7 0,lI 114 113 0,fI 115 0 4 0,lI 116 115 0,fI 117 1 4 0,lI 118 117 0,mI 119 8 0,oI 120 (.call 49 [.t 119]) 0,oI 121 (.call 56 [.t 112,.t 114,.t 116,.t 118,.t 120]) 0,oI 122 (.beq false (.t 110) (.t 121)) 0,mI 123 122 0,gI 124 (.mv (.t 10)) 0 123 true,gI 125 (.bin .eql (.t 124) (cI 0)) 0 123 true,oI 126 (.pick (.t 123) (.t 125) (.c (.bool false))) 0,mI 6 126 0]
@[go_sem ↓] theorem Zns : autoK Zcl = (0, 0) := by kernel_rfl
@[go_sem] theorem Ycl : autoK [mI 110 9 0, fI 111 0 7 0, lI 112 111 0, fI 113 1 7 0, lI 114 113 0, fI 115 0 4 0, lI 116 115 0, fI 117 1 4 0, lI 118 117 0, mI 119 8 0, oI 120 (.call 49 [.t 119]) 0, oI 121 (.call 56 [.t 112, .t 114, .t 116, .t 118, .t 120]) 0, oI 122 (.beq false (.t 110) (.t 121)) 0, mI 123 122 0, gI 124 (.mv (.t 10)) 0 123 true, gI 125 (.bin .eql (.t 124) (cI 0)) 0 123 true, oI 126 (.pick (.t 123) (.t 125) (.c (.bool false))) 0, mI 6 126 0] = (0, 0) := Zns
def Zfj:CC := .seq (.rg false Zda) (.seq (.rg false Zc5) (.seq (.rg false Zc0) (.seq (.rg false Zc7) (.seq (.rg false Zcu) (.seq (.seq (.rg false Zbm) (.cond (.t 55) (.rg false Zh1) .skip)) (.seq (.seq (.rg false Zbo) (.cond (.t 57) (.seq (.rg false Zc8) .ret) .skip)) (.seq (.seq (.rg false Zgv) (.cond (.t 79) (.seq (.rg false Zgt) .ret) .skip)) (.seq (.seq (.rg true Zck) (.cond (.t 96) (.seq (.rg false Zrz) .ret) .skip)) (.seq (.seq (.rg false Zgu) (.seq (.rg false Zcj) (.cond (.t 102) (.seq (.rg false Zgr) .ret) .skip))) (.seq (.rg true Zcl) .ret))))))))))
abbrev Zka:Nat:=11
theorem Ziy:fnOk Tryz.prog 11=some (127,Zfj,[.tmp 6]):=by kernel_rfl
end GoAbs
namespace GoAbs
open Go Go.Proofs
set_option exponentiation.threshold 20000
end GoAbs
namespace GoAbs
open Go Go.Proofs
set_option exponentiation.threshold 20000
theorem Qb.ib {k:Nat}{q:Rat}(h:Qb k q):Ib k q.num∧Ib k (q.den:Int):=⟨h.n,by show (q.den:Int).natAbs<_; rw [Int.natAbs_natCast]; exact h.d⟩
end GoAbs
namespace GoAbs
open Go Go.Proofs
set_option exponentiation.threshold 20000
end GoAbs
namespace GoAbs
set_option exponentiation.threshold 20000
end GoAbs
namespace GoAbs
end GoAbs
namespace GoAbs
open Go Go.Proofs
def rq (q:Rat):List AV:=rc q.num q.den
theorem Zi4 {q:Rat}:(rq q).length=4:=rfl
theorem Ze4 {q:Rat}:(rq q).take 4=rq q:=rfl
theorem Zuf {q:Rat}:(rq q).drop 4 = []:=rfl
def qr (r:List Rat):List AV:=r.flatMap rq
theorem Y9s (r:List Rat):(qr r).length=r.length*4:=by
 induction r with
 | nil=>rfl
 | cons q r ih=>show (rq q++qr r).length=_; rw [List.length_append,ih,List.length_cons,Zi4]; omega
theorem Ytr {r s:List Rat}:qr (r++s)=qr r++qr s:=by simp [qr]
theorem Xbu {f:Nat→Option Nat}(r:List Rat):gcL f (qr r)=qr r:=by
 induction r with
 | nil=>rfl
 | cons q r ih =>
  show gcL f (rq q++qr r)=rq q++qr r
  rw [Zaw] at ih ⊢
  rw [List.map_append,ih]
  rfl
section
variable {w:Nat} {M:RM} {post:Heap}
end
end GoAbs
namespace GoAbs
open Go Go.Proofs
end GoAbs
namespace GoAbs
open Go Go.Proofs
end GoAbs
namespace GoAbs
open Go Go.Proofs
def rowV (r:List Rat):AV := .sl (r.map fun q => .agg (rq q))
end GoAbs
namespace GoAbs
end GoAbs
namespace GoAbs
open Go Go.Proofs
theorem q_sub' {q w:Rat}:Rat.divInt (q.num*w.den - w.num*q.den) ((q.den:Int)*w.den)=q - w:=by
 have h:=Y7a (q:=q) (w := -w) (wn := -w.num) (wd:=w.den) (by have:=w.den_pos; omega) (by rw [← Rat.neg_divInt,Rat.num_divInt_den])
 rw [Int.neg_mul, ← Int.sub_eq_add_neg] at h
 rw [h]; grind
theorem lends {n a b:Int}:SpecV Tryz.prog Ysc [.int .i64 n,.agg [.int .i64 a,.int .i64 b]] (.int .i64 (if EndsOk n a b then 0 else 1)):=by
 have hm:Tryz.prog.follows .mixedOrders=true:=by kernel_rfl
 have key:EndsOk n a b↔(¬ a<0∧¬ b<0∧¬ n≤a∧¬ n≤b∧¬ a=b):=by unfold EndsOk; omega
 refine Zad Ymi (by simp) ?_
 unfold Yjp
 by_cases c1:a<0
 ·rw [if_neg (fun h=>(key.1 h).1 c1)]
  simp only [go_sem,Zcq,Zcv,Zff,c1]
 ·by_cases c2:b<0
  ·rw [if_neg (fun h=>(key.1 h).2.1 c2)]
   simp only [go_sem,Zcq,Zcv,Zff,c1,c2]
  ·by_cases c3:n≤a
   ·rw [if_neg (fun h=>(key.1 h).2.2.1 c3)]
    simp only [go_sem,Zcq,Zcv,Zff,c1,c2,c3]
   ·by_cases c4:n≤b
    ·rw [if_neg (fun h=>(key.1 h).2.2.2.1 c4)]
     simp only [go_sem,Zcq,Zcv,Zff,c1,c2,c3,c4]
    ·by_cases c5:a=b
     ·rw [if_neg (fun h=>(key.1 h).2.2.2.2 c5)]
      subst c5
      simp only [go_sem,Zcq,Zcv,Zff,c1,c2,c3,c4]
     ·rw [if_pos (key.2 ⟨c1,c2,c3,c4,c5⟩)]
      simp only [go_sem,Zcq,Zcv,Z7k,c1,c2,c3,c4,c5]
theorem Y69 {H:Heap}{ids:List Nat}{b:Nat}{x:List Rat}(hb:H[b]? = some (.cells (qr x))) (hi:b∈ids):BV H ids (.osl (some 4) b 0 x.length) (rowV x):=by
 have h:=Z9c (H:=H) (ids:=ids) (w:=4) (b:=b) (R:=x.map rq) hb hi (by unfold qr; rw [List.flatMap_def]) (fun c hc=>by obtain ⟨q,_,rfl⟩:=List.mem_map.1 hc; rfl) (fun c hc=>by obtain ⟨q,_,rfl⟩:=List.mem_map.1 hc; exact of_eq_true Zlf)
 rw [List.length_map,List.map_map] at h
 exact h
end GoAbs
namespace GoAbs
open Go Go.Proofs
end GoAbs
namespace GoAbs
open Go Go.Proofs
theorem Y98 {a b:Rat}{k:Nat}(ha:Qb k a) (hb:Qb k b) (hk:k≤400000):∃ X,SpecV Tryz.prog Z5e [.agg (rq a),.agg (rq b)] (.agg X)∧(∀ H ids,BVs H ids X X=True)∧SpecV Tryz.prog Zlm [.agg X] (.agg (rq (a+b))):=by
 have da:=a.den_pos
 have db:=b.den_pos
 have h1:=raddq ha.ib.1 ha.ib.2 hb.ib.1 hb.ib.2 (by omega)
 have h2:=rlow (k:=2*k+1) (Ib.add (k:=2*k) ((ha.ib.1.mul hb.ib.2).mono (by omega)) ((hb.ib.1.mul ha.ib.2).mono (by omega))) ((ha.ib.2.mul hb.ib.2).mono (by omega)) (Int.mul_pos (by omega) (by omega)) (by omega)
 rw [Y7a (q:=a) (w:=b) (by omega) (Rat.num_divInt_den _).symm] at h2
 exact ⟨_,h1,fun H ids=>Zlf,h2⟩
theorem Y9y {a b:Rat}{k:Nat}(ha:Qb k a) (hb:Qb k b) (hk:k≤400000):∃ X,SpecV Tryz.prog Yeb [.agg (rq a),.agg (rq b)] (.agg X)∧(∀ H ids,BVs H ids X X=True)∧SpecV Tryz.prog Zlm [.agg X] (.agg (rq (a - b))):=by
 have da:=a.den_pos
 have db:=b.den_pos
 have h1:=rsubq ha.ib.1 ha.ib.2 hb.ib.1 hb.ib.2 (by omega)
 have i2:Ib (2*k) (-(b.num*a.den)):=by have:=hb.ib.1.mul ha.ib.2; show Int.natAbs _<_; rw [Int.natAbs_neg]; exact (this.mono (by omega):Ib (2*k) _)
 have h2:=rlow (k:=2*k+1) (n:=a.num*b.den - b.num*a.den) (d:=(a.den:Int)*b.den) (by
  rw [Int.sub_eq_add_neg]
  exact Ib.add (k:=2*k) ((ha.ib.1.mul hb.ib.2).mono (by omega)) i2) ((ha.ib.2.mul hb.ib.2).mono (by omega)) (Int.mul_pos (by omega) (by omega)) (by omega)
 rw [q_sub'] at h2
 exact ⟨_,h1,fun H ids=>Zlf,h2⟩
end GoAbs
namespace GoAbs
open Go Go.Proofs
end GoAbs
namespace GoAbs
open Go Go.Proofs
set_option exponentiation.threshold 20000
def lt1 (a b i:Nat):List UInt8:=if i=b then [45,49] else if i=a then [49] else [48]
theorem Y4j {H:Heap}{ids:List Nat}{b:Nat}{L:List (List UInt8)}(hb:H[b]? = some (.cells (txts L))) (hi:b∈ids):BV H ids (.osl none b 0 L.length) (.sl (txts L)):=by
 refine .osl none b 0 L.length (txts L) (txts L) hb hi (Zfw L) (fun y hy=>?_) (by rw [Zfw]; simp [es]) (fun i y j z w hy hz hw=>?_)
 ·obtain ⟨c,_,rfl⟩:=List.mem_map.1 hy; rfl
 ·obtain ⟨c,_,rfl⟩:=List.mem_map.1 (List.mem_of_getElem? hy)
  have hj:j=0:=by
   have:=(List.getElem?_eq_some_iff.1 hz).1
   simp [AV.cells] at this; omega
  subst hj
  simp [AV.cells] at hz
  subst hz
  simp [es] at hw
  rw [hy] at hw
  cases hw
  exact .str _
theorem Y7c {f:Nat→Option Nat}{L:List (List UInt8)}:gcL f (txts L)=txts L:=by
 rw [Zaw]; unfold txts; rw [List.map_map]; rfl
end GoAbs
namespace GoAbs
open Go Go.Proofs
set_option exponentiation.threshold 20000
theorem Yqi {k:Nat}{q:Rat}(h:Qb k q) (hk:k≤12000):NumOk q:=by
 have e:2 ^ k≤10 ^ 4000:=by
  have h1:2 ^ k≤2 ^ 12000:=Nat.pow_le_pow_right (by omega) hk
  have h2:2 ^ 12000=8 ^ 4000:=by rw [show (8:Nat)=2 ^ 3 by decide, ← Nat.pow_mul]
  have h3:8 ^ 4000≤10 ^ 4000:=Nat.pow_le_pow_left (by omega) _
  rw [h2] at h1
  exact Nat.le_trans h1 h3
 exact ⟨Yx8 (by omega) (Nat.lt_of_lt_of_le h.n e),.inr (Yx8 (by omega) (Nat.lt_of_lt_of_le h.d e))⟩
theorem Ysv {n i:Nat}{f:Nat→Rat}(hi:i<n):rget ((List.range n).map f) i=f i:=by
 unfold rget
 rw [List.getD_eq_getElem?_getD,List.getElem?_map,List.getElem?_range hi]; rfl
theorem Yp0 {a b i:Nat}(hab:a≠b):edge a b i=0∨edge a b i=1∨edge a b i = -1:=by
 unfold edge
 by_cases h1:i=a <;> by_cases h2:i=b <;> simp [h1,h2,hab] <;> grind
theorem Yw7 {a b i:Nat}(hab:a≠b):Qb 2 (edge a b i):=by
 rcases Yp0 (i:=i) hab with h | h | h <;> rw [h] <;> exact ⟨by decide+kernel,by decide+kernel⟩
end GoAbs
namespace GoAbs
open Go Go.Proofs
end GoAbs
namespace GoAbs
open Go Go.Proofs
end GoAbs
namespace GoAbs
open Go Go.Proofs
set_option exponentiation.threshold 20000
end GoAbs
namespace GoAbs
open Go Go.Proofs
end GoAbs
namespace GoAbs
open Go Go.Proofs
theorem Yns {L:List Spr}:(fewL L).length=min (mostL L) L.length:=by unfold fewL; rw [List.length_map,List.length_take]
theorem Ysr {L:List Spr}:∀ s,s∈fewL L→s.2.2.length≤23:=fun s hs=>by
 obtain ⟨t,_,rfl⟩:=List.mem_map.1 hs
 exact Ydp
theorem Z5j {n:Int}{s:Spr}{q:Rat}(h:sprOk n s=true) (hq:parseL s.2.2=some q):EndsOk n s.1 s.2.1∧StiffOk q:=by
 unfold sprOk at h
 rw [hq] at h
 obtain ⟨h1,h2⟩:=Bool.and_eq_true_iff.1 h
 exact ⟨of_decide_eq_true h1,of_decide_eq_true h2⟩
end GoAbs
namespace GoAbs
open Go Go.Proofs
set_option exponentiation.threshold 20000
end GoAbs
namespace GoAbs
open Go Go.Proofs
set_option exponentiation.threshold 20000
end GoAbs
