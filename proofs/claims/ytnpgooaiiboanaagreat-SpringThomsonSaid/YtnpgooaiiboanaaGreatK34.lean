/- Lemmas for the claim (contracts of the functions that it reaches, and what they compute), without conditions. -/
import Derived.Test.YtnpgooaiiboanaaGreatK33
import Derived.Test.YtnpgooaiiboanaaGreatProg
import Derived.KernelRfl
set_option linter.unusedVariables false
set_option linter.unusedSimpArgs false
set_option maxRecDepth 10000
set_option maxHeartbeats 2000000
namespace GoAbs
open Go Go.Proofs
def Zm4:List IOp := [oI 1 (.box (.t 0)) 0,oI 2 (.mv (.c (.bool false))) 1]
def Zne:List IOp := [fI 6 0 1 0,lI 7 6 0,oI 8 (.mks none 1 [.bool false] (.t 7) (.t 7)) 0,mI 3 8 1]
def Zmy:List IOp := [mI 9 3 0,oI 10 (.idx 1 (.t 9) (cI 0)) 0,⟨none,.st 1 (.t 10) (.c (.bool true)),0,[],[],none⟩]
def Zm9:List IOp := [fI 11 0 1 0,lI 12 11 0,oI 13 (.mv (cI 0)) 0]
def Zgv:List IOp := [oI 14 (.bin .lss (.t 13) (.t 12)) 0]
def Zns:List IOp := [fI 15 1 1 0,lI 16 15 0,oI 17 (.len (.t 16)) 0,oI 18 (.mv (cI 0)) 0]
def Zgk:List IOp := [oI 19 (.bin .lss (.t 18) (.t 17)) 0]
def Znz:List IOp := [xI 20 2 16 18 0,lJ 21 2 20 0,oI 5 (.alloc [.int .i64 0,.int .i64 0]) 0,⟨none,.st 2 (.t 5) (.t 21),1,[],[],none⟩]
def Zbx:List IOp := [mI 22 3 0,fI 23 0 5 0,lI 24 23 0,mI 25 3 0,fI 26 0 5 0,lI 27 26 0,xI 28 1 25 27 0,lI 29 28 0,mI 30 29 0,gI 31 (.mv (.t 3)) 0 30 false,gI 32 (.fa 1 (.t 5)) 0 30 false,gI 33 (.ld none (.t 32)) 0 30 false,gI 34 (.idx 1 (.t 31) (.t 33)) 0 30 false,gI 35 (.ld none (.t 34)) 0 30 false,oI 36 (.pick (.t 30) (.c (.bool true)) (.t 35)) 0,xI 37 1 22 24 0,⟨none,.st 1 (.t 37) (.t 36),0,[],[],none⟩]
@[go_sem ↓] theorem Z0k : autoK Zbx = (0, 1) := by kernel_rfl
@[go_sem] theorem Ykp : autoK [mI 22 3 0, fI 23 0 5 0, lI 24 23 0, mI 25 3 0, fI 26 0 5 0, lI 27 26 0, xI 28 1 25 27 0, lI 29 28 0, mI 30 29 0, gI 31 (.mv (.t 3)) 0 30 false, gI 32 (.fa 1 (.t 5)) 0 30 false, gI 33 (.ld none (.t 32)) 0 30 false, gI 34 (.idx 1 (.t 31) (.t 33)) 0 30 false, gI 35 (.ld none (.t 34)) 0 30 false, oI 36 (.pick (.t 30) (.c (.bool true)) (.t 35)) 0, xI 37 1 22 24 0, ⟨none, .st 1 (.t 37) (.t 36), 0, [], [], none⟩] = (0, 1) := Z0k
def Zbo:List IOp := [mI 38 3 0,fI 39 1 5 0,lI 40 39 0,mI 41 3 0,fI 42 1 5 0,lI 43 42 0,xI 44 1 41 43 0,lI 45 44 0,mI 46 45 0,gI 47 (.mv (.t 3)) 0 46 false,gI 48 (.fa 0 (.t 5)) 0 46 false,gI 49 (.ld none (.t 48)) 0 46 false,gI 50 (.idx 1 (.t 47) (.t 49)) 0 46 false,gI 51 (.ld none (.t 50)) 0 46 false,oI 52 (.pick (.t 46) (.c (.bool true)) (.t 51)) 0,xI 53 1 38 40 0,⟨none,.st 1 (.t 53) (.t 52),0,[],[],none⟩]
@[go_sem ↓] theorem Zwq : autoK Zbo = (0, 1) := by kernel_rfl
@[go_sem] theorem Yiq : autoK [mI 38 3 0, fI 39 1 5 0, lI 40 39 0, mI 41 3 0, fI 42 1 5 0, lI 43 42 0, xI 44 1 41 43 0, lI 45 44 0, mI 46 45 0, gI 47 (.mv (.t 3)) 0 46 false, gI 48 (.fa 0 (.t 5)) 0 46 false, gI 49 (.ld none (.t 48)) 0 46 false, gI 50 (.idx 1 (.t 47) (.t 49)) 0 46 false, gI 51 (.ld none (.t 50)) 0 46 false, oI 52 (.pick (.t 46) (.c (.bool true)) (.t 51)) 0, xI 53 1 38 40 0, ⟨none, .st 1 (.t 53) (.t 52), 0, [], [], none⟩] = (0, 1) := Zwq
def Zk1:List IOp := [oI 54 (.bin .add (.t 18) (cI 1)) 0,mI 18 54 0]
def Zgp:CC := .seq (.rg false Zgk) (.seq (.cond (.t 19) .skip (.exit 2)) (.seq (.block 3 (.seq (.rg false Znz) (.seq (.rg true Zbx) (.rg true Zbo)))) (.rg false Zk1)))
def Zk4:List IOp := [oI 55 (.bin .add (.t 13) (cI 1)) 0,mI 13 55 0]
def Zmz:CC := .seq (.rg false Zgv) (.seq (.cond (.t 14) .skip (.exit 0)) (.seq (.block 1 (.seq (.rg false Zns) (.block 2 (.loop Zgp)))) (.rg false Zk4)))
def Zk9:List IOp := [mI 56 3 0,oI 57 (.call 128 [.t 56,.c (.bool false)]) 0,oI 58 (.un .not (.t 57)) 0,mI 2 58 0]
def Zyc:CC := .seq (.rg false Zm4) (.seq (.rg false Zne) (.seq (.rg false Zmy) (.seq (.seq (.rg false Zm9) (.block 0 (.loop Zmz))) (.seq (.rg false Zk9) .ret))))
abbrev Z9k:Nat:=92
theorem Z7w:fnOk Tryz.prog 92=some (59,Zyc,[.tmp 2]):=by kernel_rfl
def Zji:List IOp := [oI 4 (.mv (.c (.bool false))) 0]
def Zkc:List IOp := [mI 5 0 0,mI 6 1 0,oI 7 (.call 150 [.t 5,.t 6]) 0,oI 8 (.bin .geq (.t 7) (cI 0)) 0,mI 4 8 0]
def Zqf:CC := .seq (.rg false Zji) (.seq (.rg false Zkc) .ret)
abbrev Z4a:Nat:=128
theorem Z0w:fnOk Tryz.prog 128=some (9,Zqf,[.tmp 4]):=by kernel_rfl
def Zql:List IOp := [oI 4 (.mv (cI 0)) 0]
def Zqq:List IOp := [mI 6 0 0,oI 7 (.len (.t 6)) 0,oI 8 (.mv (cI 0)) 0]
def Zd4:List IOp := [oI 9 (.bin .lss (.t 8) (.t 7)) 0]
def Zh4:List IOp := [mI 10 8 0,mI 5 10 0]
def Zh5:List IOp := [mI 11 1 0,mI 12 0 0,mI 13 5 0,xI 14 1 12 13 0,lI 15 14 0,oI 16 (.beq false (.t 11) (.t 15)) 0]
def Zqn:List IOp := [mI 17 5 0,mI 4 17 0]
def Zqz:List IOp := [oI 18 (.bin .add (.t 8) (cI 1)) 0,mI 8 18 0]
def Zq4:CC := .seq (.rg false Zd4) (.seq (.cond (.t 9) .skip (.exit 0)) (.seq (.block 1 (.seq (.rg false Zh4) (.seq (.rg false Zh5) (.cond (.t 16) (.seq (.rg false Zqn) .ret) .skip)))) (.rg false Zqz)))
def Zqx:List IOp := [oI 4 (.mv (cI (-1))) 0]
def Z1s:CC := .seq (.rg false Zql) (.seq (.seq (.rg false Zqq) (.block 0 (.loop Zq4))) (.seq (.rg false Zqx) .ret))
abbrev Ycv:Nat:=150
theorem Ya0:fnOk Tryz.prog 150=some (19,Z1s,[.tmp 4]):=by kernel_rfl
def Z55:List IOp := [oI 2 (.box (.t 0)) 0,oI 4 (.mv (.c .nils)) 1]
def Zt4:List IOp := [oI 5 (.call 77 [cI 0]) 0,oI 6 (.bsl (some 4) 1 [.bool false,.nils,.bool false,.nils] [(0,.t 5)]) 0,lJ 7 3 2 1,oI 8 (.calle 63 [.t 7]) 2,mI 9 1 1,oI 10 (.slc 4 (.t 9) (some (cI 1)) none) 1,oI 11 (.calle 131 [.t 8,.t 10]) 2,⟨some 12,.app (some 4) 64 (.t 6) (.t 11),1,[0],[],none⟩,⟨some 4,.mv (.t 12),2,[0,1],[],none⟩]
@[go_sem ↓] theorem Ycu : autoK Zt4 = (2, 1) := by kernel_rfl
@[go_sem] theorem Yzt : autoK [oI 5 (.call 77 [cI 0]) 0, oI 6 (.bsl (some 4) 1 [.bool false, .nils, .bool false, .nils] [(0, .t 5)]) 0, lJ 7 3 2 1, oI 8 (.calle 63 [.t 7]) 2, mI 9 1 1, oI 10 (.slc 4 (.t 9) (some (cI 1)) none) 1, oI 11 (.calle 131 [.t 8, .t 10]) 2, ⟨some 12, .app (some 4) 64 (.t 6) (.t 11), 1, [0], [], none⟩, ⟨some 4, .mv (.t 12), 2, [0, 1], [], none⟩] = (2, 1) := Ycu
def Yhb:CC := .seq (.rg false Z55) (.seq (.rg true Zt4) .ret)
abbrev Zwj:Nat:=96
theorem Ylo:fnOk Tryz.prog 96=some (13,Yhb,[.tmp 4]):=by kernel_rfl
def Zqp:List IOp := [oI 4 (.mv (.c .nils)) 0]
def Zqu:List IOp := [mI 11 0 0,oI 12 (.len (.t 11)) 0,oI 13 (.mv (cI 0)) 0]
def Zie:List IOp := [oI 14 (.bin .lss (.t 13) (.t 12)) 0]
def Zqr:List IOp := [mI 15 13 0,mI 5 15 0]
def Zd5:List IOp := [mI 16 0 0,mI 17 5 0,mI 18 0 0,mI 19 5 0,xI 20 1 18 19 0,lI 21 20 0,mI 22 1 0,mI 23 5 0,xI 24 4 22 23 0,lJ 25 4 24 0,oI 26 (.bsl (some 4) 1 [.bool false,.nils,.bool false,.nils] [(0,.t 25)]) 0,⟨some 27,.app (some 4) 64 (.t 21) (.t 26),1,[0],[],none⟩,⟨some 28,.idx 1 (.t 16) (.t 17),2,[0,1],[],none⟩,⟨none,.st 1 (.t 28) (.t 27),2,[0,1],[],none⟩]
@[go_sem ↓] theorem Z1l : autoK Zd5 = (2, 1) := by kernel_rfl
@[go_sem] theorem Ynn : autoK [mI 16 0 0, mI 17 5 0, mI 18 0 0, mI 19 5 0, xI 20 1 18 19 0, lI 21 20 0, mI 22 1 0, mI 23 5 0, xI 24 4 22 23 0, lJ 25 4 24 0, oI 26 (.bsl (some 4) 1 [.bool false, .nils, .bool false, .nils] [(0, .t 25)]) 0, ⟨some 27, .app (some 4) 64 (.t 21) (.t 26), 1, [0], [], none⟩, ⟨some 28, .idx 1 (.t 16) (.t 17), 2, [0, 1], [], none⟩, ⟨none, .st 1 (.t 28) (.t 27), 2, [0, 1], [], none⟩] = (2, 1) := Z1l
def Zqo:List IOp := [oI 29 (.bin .add (.t 13) (cI 1)) 0,mI 13 29 0]
def Zh9:CC := .seq (.rg false Zie) (.seq (.cond (.t 14) .skip (.exit 0)) (.seq (.block 1 (.seq (.rg false Zqr) (.rg true Zd5))) (.rg false Zqo)))
def Zq8:List IOp := [mI 30 0 0,oI 31 (.call 114 [.t 30]) 0]
def Zqv:List IOp := [mI 32 0 0,oI 33 (.len (.t 32)) 0,mI 6 33 0]
def Zqw:List IOp := [mI 34 6 0,oI 35 (.mks (some 4) 64 [.bool false,.nils,.bool false,.nils] (.t 34) (.t 34)) 0,mI 7 35 1]
def Zmx:List IOp := [mI 36 6 0,oI 37 (.bin .sub (.t 36) (cI 1)) 0,mI 8 37 0]
def Zgs:List IOp := [mI 38 8 0,oI 39 (.bin .geq (.t 38) (cI 0)) 0]
def Znm:List IOp := [mI 42 0 0,mI 43 8 0,xI 44 1 42 43 0,lI 45 44 0,mI 46 6 0,xI 47 4 45 46 0,lJ 48 4 47 0,oI 9 (.alloc [.bool false,.nils,.bool false,.nils]) 0,⟨none,.st 4 (.t 9) (.t 48),1,[],[],none⟩]
def Zm7:List IOp := [mI 49 8 0,oI 50 (.bin .add (.t 49) (cI 1)) 0,mI 10 50 0]
def Zgr:List IOp := [mI 51 10 0,mI 52 6 0,oI 53 (.bin .lss (.t 51) (.t 52)) 0]
def Zgt:List IOp := [lJ 56 4 9 0,mI 57 0 0,mI 58 8 0,xI 59 1 57 58 0,lI 60 59 0,mI 61 10 0,xI 62 4 60 61 0,lJ 63 4 62 0,mI 64 7 0,mI 65 10 0,xI 66 4 64 65 0,lJ 67 4 66 0,oI 68 (.call 87 [.t 63,.t 67]) 0,oI 69 (.callw 79 [.t 56,.t 68]) 0,⟨none,.st 4 (.t 9) (.t 69),0,[],[],none⟩]
@[go_sem ↓] theorem Zzl : autoK Zgt = (0, 1) := by kernel_rfl
@[go_sem] theorem Ykq : autoK [lJ 56 4 9 0, mI 57 0 0, mI 58 8 0, xI 59 1 57 58 0, lI 60 59 0, mI 61 10 0, xI 62 4 60 61 0, lJ 63 4 62 0, mI 64 7 0, mI 65 10 0, xI 66 4 64 65 0, lJ 67 4 66 0, oI 68 (.call 87 [.t 63, .t 67]) 0, oI 69 (.callw 79 [.t 56, .t 68]) 0, ⟨none, .st 4 (.t 9) (.t 69), 0, [], [], none⟩] = (0, 1) := Zzl
def Zn8:List IOp := [mI 54 10 0,oI 55 (.bin .add (.t 54) (cI 1)) 0,mI 10 55 0]
def Zh6:CC := .seq (.seq (.rg false Zgr) (.cond (.t 53) .skip (.exit 4))) (.seq (.block 5 (.rg true Zgt)) (.rg false Zn8))
def Zgi:List IOp := [mI 70 7 0,mI 71 8 0,lJ 72 4 9 0,mI 73 0 0,mI 74 8 0,xI 75 1 73 74 0,lI 76 75 0,mI 77 8 0,xI 78 4 76 77 0,lJ 79 4 78 0,oI 80 (.call 78 [.t 72,.t 79]) 0,xI 81 4 70 71 0,⟨none,.st 4 (.t 81) (.t 80),0,[],[],none⟩]
@[go_sem ↓] theorem Zzq : autoK Zgi = (0, 1) := by kernel_rfl
@[go_sem] theorem Ykr : autoK [mI 70 7 0, mI 71 8 0, lJ 72 4 9 0, mI 73 0 0, mI 74 8 0, xI 75 1 73 74 0, lI 76 75 0, mI 77 8 0, xI 78 4 76 77 0, lJ 79 4 78 0, oI 80 (.call 78 [.t 72, .t 79]) 0, xI 81 4 70 71 0, ⟨none, .st 4 (.t 81) (.t 80), 0, [], [], none⟩] = (0, 1) := Zzq
def Znd:List IOp := [mI 40 8 0,oI 41 (.bin .sub (.t 40) (cI 1)) 0,mI 8 41 0]
def Zh8:CC := .seq (.seq (.rg false Zgs) (.cond (.t 39) .skip (.exit 2))) (.seq (.block 3 (.seq (.rg false Znm) (.seq (.seq (.rg false Zm7) (.block 4 (.loop Zh6))) (.rg true Zgi)))) (.rg false Znd))
def Zgq:List IOp := [mI 82 7 0,mI 4 82 0]
def Z2x:CC := .seq (.rg false Zqp) (.seq (.seq (.rg false Zqu) (.block 0 (.loop Zh9))) (.seq (.rg false Zq8) (.seq (.rg false Zqv) (.seq (.rg false Zqw) (.seq (.seq (.rg false Zmx) (.block 2 (.loop Zh8))) (.seq (.rg false Zgq) .ret))))))
abbrev Yct:Nat:=131
theorem Ya7:fnOk Tryz.prog 131=some (83,Z2x,[.tmp 4]):=by kernel_rfl
def Zvg:List IOp := [oI 8 (.alloc [.int .i64 0,.nils,.nils]) 0,oI 9 (.mv (.c .nils)) 1,oI 10 (.mv (cI 0)) 1]
def Zuy:List IOp := [mI 15 0 0,mI 16 1 0,oI 17 (.call 62 [.t 15,.t 16]) 0,mI 14 17 0,eI 18 0 14 0,eI 19 1 14 0,oI 11 (.alloc [.int .i64 0,.nils,.nils]) 0,⟨none,.st 3 (.t 11) (.t 18),1,[],[],none⟩,mI 12 19 1]
def Zu3:List IOp := [mI 21 12 0,oI 22 (.bin .neq (.t 21) (cI 0)) 0,mI 20 22 0]
def Yb2:List IOp := [oI 23 (.build [.int .i64 0,.nils,.nils] []) 0,mI 24 12 0,⟨none,.st 3 (.t 8) (.t 23),0,[],[],none⟩,oI 9 (.mv (.c .nils)) 0,mI 10 24 0]
def Zvh:List IOp := [mI 26 2 0,oI 27 (.bin .lss (.t 26) (cI 0)) 0,mI 28 27 0,gI 29 (.mv (.t 2)) 0 28 false,gI 30 (.mv (.t 0)) 0 28 false,gI 31 (.bin .geq (.t 29) (.t 30)) 0 28 false,oI 32 (.pick (.t 28) (.c (.bool true)) (.t 31)) 0,mI 33 32 0,gI 34 (.mv (.t 3)) 0 33 false,gI 35 (.bin .lss (.t 34) (cI 0)) 0 33 false,oI 36 (.pick (.t 33) (.c (.bool true)) (.t 35)) 0,mI 37 36 0,gI 38 (.mv (.t 3)) 0 37 false,gI 39 (.mv (.t 0)) 0 37 false,gI 40 (.bin .geq (.t 38) (.t 39)) 0 37 false,oI 41 (.pick (.t 37) (.c (.bool true)) (.t 40)) 0,mI 42 41 0,gI 43 (.mv (.t 2)) 0 42 false,gI 44 (.mv (.t 3)) 0 42 false,gI 45 (.bin .eql (.t 43) (.t 44)) 0 42 false,oI 46 (.pick (.t 42) (.c (.bool true)) (.t 45)) 0,mI 25 46 0]
def Yax:List IOp := [oI 47 (.build [.int .i64 0,.nils,.nils] []) 0,⟨none,.st 3 (.t 8) (.t 47),0,[],[],none⟩,oI 9 (.mv (.c .nils)) 0,oI 10 (.mv (cI 1)) 0]
def Zvk:List IOp := [lJ 49 3 11 0,oI 50 (.call 92 [.t 49]) 0,oI 51 (.un .not (.t 50)) 0,mI 48 51 0]
def Yb4:List IOp := [oI 52 (.build [.int .i64 0,.nils,.nils] []) 0,⟨none,.st 3 (.t 8) (.t 52),0,[],[],none⟩,oI 9 (.mv (.c .nils)) 0,oI 10 (.mv (cI 5)) 0]
def Zuh:List IOp := [oI 53 (.call 77 [cI 0]) 0,oI 54 (.bsl (some 4) 1 [.bool false,.nils,.bool false,.nils] [(0,.t 53)]) 0,mI 55 0 1,oI 56 (.call 99 [.t 54,.t 55]) 1,mI 13 56 1]
def Zq6:List IOp := [mI 57 13 0,mI 58 2 0,mI 59 13 0,mI 60 3 0,oI 61 (.call 77 [cI 1]) 0,oI 62 (.call 77 [cI (-1)]) 0,xI 63 4 57 58 0,⟨none,.st 4 (.t 63) (.t 61),0,[],[],none⟩,xI 64 4 59 60 0,⟨none,.st 4 (.t 64) (.t 62),0,[],[],none⟩]
def Zib:List IOp := [lJ 65 3 11 0,lJ 66 3 11 0,mI 67 13 0,oI 68 (.call 96 [.t 66,.t 67]) 0,⟨none,.st 3 (.t 8) (.t 65),0,[],[],none⟩,mI 9 68 0,oI 10 (.mv (cI 0)) 0]
@[go_sem ↓] theorem Z0r : autoK Zib = (0, 1) := by kernel_rfl
@[go_sem] theorem Yk3 : autoK [lJ 65 3 11 0, lJ 66 3 11 0, mI 67 13 0, oI 68 (.call 96 [.t 66, .t 67]) 0, ⟨none, .st 3 (.t 8) (.t 65), 0, [], [], none⟩, mI 9 68 0, oI 10 (.mv (cI 0)) 0] = (0, 1) := Z0r
def Z5s:CC := .seq (.rg false Zvg) (.seq (.rg false Zuy) (.seq (.block 0 (.seq (.rg false Zu3) (.cond (.t 20) (.seq (.rg false Yb2) .ret) (.seq (.rg false Zvh) (.cond (.t 25) (.seq (.rg false Yax) .ret) (.seq (.rg false Zvk) (.cond (.t 48) (.seq (.rg false Yb4) .ret) .skip))))))) (.seq (.rg false Zuh) (.seq (.rg false Zq6) (.seq (.rg true Zib) .ret)))))
abbrev Zja:Nat:=76
theorem Ycb:fnOk Tryz.prog 76=some (69,Z5s,[.cell 8 (some 3),.tmp 9,.tmp 10]):=by kernel_rfl
def Zlr:List IOp := [oI 8 (.mv (.c (.str ⟨#[]⟩))) 0,oI 9 (.mv (cI 0)) 0]
def Zlz:List IOp := [mI 14 0 0,mI 15 1 0,mI 16 2 0,mI 17 3 0,oI 18 (.call 76 [.t 14,.t 15,.t 16,.t 17]) 0,mI 13 18 0,eI 19 0 13 0,eI 20 1 13 0,eI 21 2 13 0,oI 10 (.alloc [.int .i64 0,.nils,.nils]) 0,⟨none,.st 3 (.t 10) (.t 19),1,[],[],none⟩,mI 11 20 1,mI 12 21 1]
def Zle:List IOp := [mI 22 12 0,oI 23 (.bin .neq (.t 22) (cI 0)) 0]
def Z18:List IOp := [mI 24 12 0,oI 8 (.mv (.c (.str ⟨#[]⟩))) 0,mI 9 24 0]
def Zfh:List IOp := [oI 25 (.call 77 [cI 1]) 0,mI 26 11 0,mI 27 2 0,xI 28 4 26 27 0,lJ 29 4 28 0,mI 30 11 0,mI 31 3 0,xI 32 4 30 31 0,lJ 33 4 32 0,oI 34 (.callw 79 [.t 29,.t 33]) 0,oI 35 (.callw 78 [.t 25,.t 34]) 0,oI 36 (.callw 65 [.t 35]) 0,eI 37 0 36 0,eI 38 1 36 0,mI 8 37 0,mI 9 38 0]
@[go_sem ↓] theorem Zwu : autoK Zfh = (0, 0) := by kernel_rfl
@[go_sem] theorem Yhu : autoK [oI 25 (.call 77 [cI 1]) 0, mI 26 11 0, mI 27 2 0, xI 28 4 26 27 0, lJ 29 4 28 0, mI 30 11 0, mI 31 3 0, xI 32 4 30 31 0, lJ 33 4 32 0, oI 34 (.callw 79 [.t 29, .t 33]) 0, oI 35 (.callw 78 [.t 25, .t 34]) 0, oI 36 (.callw 65 [.t 35]) 0, eI 37 0 36 0, eI 38 1 36 0, mI 8 37 0, mI 9 38 0] = (0, 0) := Zwu
def Zvs:CC := .seq (.rg false Zlr) (.seq (.rg false Zlz) (.seq (.seq (.rg false Zle) (.cond (.t 23) (.seq (.rg false Z18) .ret) .skip)) (.seq (.rg true Zfh) .ret)))
abbrev Zb6:Nat:=31
theorem Z4e:fnOk Tryz.prog 31=some (39,Zvs,[.tmp 8,.tmp 9]):=by kernel_rfl
end GoAbs
namespace GoAbs
open Go Go.Proofs
theorem Xaz {nt n0:Nat}{e:Nat→AV}{H:Heap}{Q:Ex→St→Prop}{o n i L b N:Nat}{P ls c row:List AV}(e0:e 0 = .osl none o 0 N) (e1:e 1 = .sl ls) (e5:e 5 = .int .i64 (i:Int)) (hiN:i<N) (hL:H.length=L) (ho:H[o]? = some (.cells P)) (hPN:N≤P.length)
  (hP:P[i]? = some (.osl (some 4) b 0 n)) (hb:H[b]? = some (.cells row)) (hr:row.length=n*4) (hbo:b≠o) (hls:ls[i]? = some (.agg c)) (hc:c.length=4) (hn:n≤1000000)
  (hQ:∀ e',e' 0=e 0→e' 1=e 1→e' 12=e 12→e' 13=e 13→Q .normal ⟨e',(H.set b .dead).set o (.cells (P.set i (.osl (some 4) (L+1) 0 (n+1)))) ++ [.cells c,.cells (row++c)]⟩) :
  T Tryz.prog nt n0 (.rg true Zd5) ⟨e,H⟩ Q:=by
 have hm:Tryz.prog.follows .mixedOrders=true:=by kernel_rfl
 have hoL:o<H.length:=(List.getElem?_eq_some_iff.1 ho).1
 have hbL:b<H.length:=(List.getElem?_eq_some_iff.1 hb).1
 have q0:(0:Int)≤(i:Int):=by omega
 have q1:(i:Int)<(N:Int):=by omega
 have q2:(i:Int)<(ls.length:Int):=by have:=(List.getElem?_eq_some_iff.1 hls).1; omega
 have g1:∀ X:Heap,(H++X)[o]? = some (.cells P):=fun X=>by rw [List.getElem?_append_left hoL]; exact ho
 have g2:∀ X:Heap,(H++X)[b]? = some (.cells row):=fun X=>by rw [List.getElem?_append_left hbL]; exact hb
 have s1:∀ X:Heap,(H++X).set b .dead=H.set b .dead++X:=fun X=>List.set_append_left _ _ hbL
 have g3:∀ X:Heap,(H.set b .dead++X)[o]? = some (.cells P):=fun X=>by rw [List.getElem?_append_left (by rw [List.length_set]; exact hoL),List.getElem?_set_ne hbo]; exact ho
 have s2:∀ (X:Heap) (y:Blk),(H.set b .dead++X).set o y=(H.set b .dead).set o y++X:=fun X y=>List.set_append_left _ _ (by rw [List.length_set]; exact hoL)
 have p0:∀ x y:Blk,(H ++ [x,y])[L]? = some x:=fun x y=>by rw [List.getElem?_append_right (by omega),hL,Nat.sub_self]; rfl
 have p1:∀ x y:Blk,(H.set b .dead ++ [x,y])[L+1]? = some y:=fun x y=>by rw [List.getElem?_append_right (by rw [List.length_set]; omega),List.length_set,hL,Nat.add_sub_cancel_left]; rfl
 have p2:∀ x y z:Blk,(H ++ [x,y]).set L z=H ++ [z,y]:=fun x y z=>by rw [List.set_append_right _ _ (by omega),hL,Nat.sub_self]; rfl
 have p3:∀ x y z:Blk,(H.set b .dead ++ [x,y]).set (L+1) z=H.set b .dead ++ [x,z]:=fun x y z=>by rw [List.set_append_right _ _ (by rw [List.length_set]; omega),List.length_set,hL,Nat.add_sub_cancel_left]; rfl
 have hi:i<P.length:=(List.getElem?_eq_some_iff.1 hP).1
 have hset:∀ v:AV,P.take i++v::P.drop (i+1)=P.set i v:=fun v=>by rw [List.set_eq_take_append_cons_drop,if_pos hi]
 have hPd:P.drop i = .osl (some 4) b 0 n::P.drop (i+1):=by
  have:=List.drop_eq_getElem_cons hi
  rw [this]; congr 1
  exact (List.getElem?_eq_some_iff.1 hP).2
 have z1:(n+1)*64≤1099511627776:=by omega
 have z2:n*4≤row.length:=by omega
 have tr:row.take (n*4)=row:=List.take_of_length_le (by omega)
 have tc:c.take 4=c:=List.take_of_length_le (by omega)
 have dc:c.drop 4 = []:=List.drop_eq_nil_of_le (by omega)
 have lc:4≤c.length:=by omega
 have z3:i+1≤P.length:=hi
 refine T_W ?_
 simp only [go_sem,Zd5,e0,e1,e5,hL,g1,g2,g3,s1,s2,p0,p1,p2,p3,q0,q1,q2,hls,hc,hP,hPd,hset,z1,z2,z3,tr,tc,dc,lc,hm]
 have hset':∀ v:AV,P.take i ++ [v]++P.drop (i+1)=P.set i v:=fun v=>by rw [← hset,List.append_assoc]; rfl
 refine ⟨.inl (by omega),.inl (by omega),.inl (by omega),?_⟩
 rw [hset']
 exact hQ _ (by simp only [go_sem]) (by simp only [go_sem]) (by simp only [go_sem]) (by simp only [go_sem])
def aug (M:RM) (r:List Rat):RM:=List.zipWith (fun row x=>row ++ [x]) M r
theorem Z8x {M:RM}{r:List Rat}(h:r.length=M.length):(aug M r).length=M.length:=by unfold aug; rw [List.length_zipWith]; omega
theorem Ym4 {M:RM}{r:List Rat}{w:Nat}(h:Wid w M):Wid (w+1) (aug M r):=fun row hr=>by
 unfold aug at hr
 obtain ⟨i,hi,he⟩:=List.getElem_of_mem hr
 rw [List.getElem_zipWith] at he
 rw [← he,List.length_append,h _ (List.getElem_mem _)]; rfl
theorem Yva {M:RM}{r:List Rat}{i:Nat}{row:List Rat}{x:Rat}(h1:M[i]? = some row) (h2:r[i]? = some x):(aug M r)[i]? = some (row ++ [x]):=by
 unfold aug; rw [List.getElem?_zipWith,h1,h2]
def ptrsA (o n i:Nat):List AV:=((List.range i).map fun j=>AV.osl (some 4) (o+2+2*n+2*j) 0 (n+1))++((List.range' i (n - i)).map fun j=>AV.osl (some 4) (o+2+2*j) 0 n)
theorem Yyd {o n i:Nat}(h:i≤n):(ptrsA o n i).length=n:=by unfold ptrsA; simp; omega
theorem Ysi {o n:Nat}:ptrsA o n 0=ptrs o n n:=by unfold ptrsA ptrs; simp [List.range_eq_range']
theorem Ywv {o n i:Nat}(h:i<n):(ptrsA o n i)[i]? = some (.osl (some 4) (o+2+2*i) 0 n):=by
 unfold ptrsA
 rw [List.getElem?_append_right (by simp),List.length_map,List.length_range,Nat.sub_self,List.getElem?_map,List.getElem?_range' (by omega)]
 rfl
theorem Yzm {o n i:Nat}(h:i<n):(ptrsA o n i).set i (.osl (some 4) (o+2+2*n+2*i) 0 (n+1))=ptrsA o n (i+1):=by
 unfold ptrsA
 rw [List.set_append_right _ _ (by simp),List.length_map,List.length_range,Nat.sub_self,List.range_succ,List.map_append,show n - i=(n - (i+1))+1 by omega,List.range'_succ,List.map_cons,List.set_cons_zero]
 simp
def heapA (o n i:Nat) (M:RM) (r:List Rat):Heap := .cells (ptrsA o n i)::(List.replicate (2*i) .dead++(rowsH (M.drop i)++rowsH ((aug M r).take i)))
theorem Ysr {o n:Nat}{M:RM}{r:List Rat}(h:M.length=n):heapA o n 0 M r=matH o n M:=by
 unfold heapA matH; rw [Ysi,h]; simp [rowsH]
theorem Yxs {o n i:Nat}{M:RM}{r:List Rat}(hM:M.length=n) (hr:r.length=n) (hi:i≤n):(heapA o n i M r).length=1+2*n+2*i:=by
 unfold heapA
 rw [List.length_cons,List.length_append,List.length_append,Zc6,Zc6,List.length_replicate,List.length_drop,List.length_take,Z8x (by omega)]
 omega
theorem Yvj {o n i:Nat}{M:RM}{r row:List Rat}(hi:i<n) (hM:M.length=n) (hrow:M[i]? = some row):(heapA o n i M r)[2+2*i]? = some (.cells (qc row)):=by
 unfold heapA
 rw [show 2+2*i=(1+2*i)+1 by omega,List.getElem?_cons_succ,List.getElem?_append_right (by simp),List.length_replicate,show 1+2*i - 2*i=1 by omega]
 rw [List.drop_eq_getElem_cons (by omega)]
 show some (Blk.cells (qc (M[i]'(by omega))))=_
 have:=List.getElem?_eq_some_iff.1 hrow
 rw [← this.2]
theorem Ysh {o n i:Nat}{M:RM}{r row:List Rat}{x:Rat}(hi:i<n) (hM:M.length=n) (hrow:M[i]? = some row) (hx:r[i]? = some x) (hw:row.length=n) :
  ((heapA o n i M r).set (2+2*i) .dead).set 0 (.cells ((ptrsA o n i).set i (.osl (some 4) (o+2+2*n+2*i) 0 (n+1)))) ++ [.dead,.cells (qc row++qcell x)]=heapA o n (i+1) M r:=by
 rw [Yzm hi]
 unfold heapA
 rw [show 2+2*i=(1+2*i)+1 by omega,List.set_cons_succ,List.set_cons_zero,List.set_append_right _ _ (by simp),List.length_replicate,show 1+2*i - 2*i=1 by omega]
 have hd:M.drop i=row::M.drop (i+1):=by
  rw [List.drop_eq_getElem_cons (by omega)]
  congr 1
  exact (List.getElem?_eq_some_iff.1 hrow).2
 have hr:rowsH (row::M.drop (i+1)) = .dead :: .cells (qc row)::rowsH (M.drop (i+1)):=rfl
 rw [hd,hr,List.set_append_left _ _ (by simp)]
 have ht:(aug M r).take (i+1)=(aug M r).take i ++ [row ++ [x]]:=by
  rw [List.take_add_one,Yva hrow hx]; rfl
 have hq:qc (row ++ [x])=qc row++qcell x:=by rw [Zvz]; simp [qc]
 have happ:rowsH ((aug M r).take i ++ [row ++ [x]])=rowsH ((aug M r).take i) ++ [.dead,.cells (qc row++qcell x)]:=by
  unfold rowsH
  rw [List.flatMap_append]
  simp [hq]
 have hrep:(List.replicate (2*(i+1)) Blk.dead)=List.replicate (2*i) .dead ++ [.dead,.dead]:=by
  rw [show 2*(i+1)=2*i+2 by omega, ← List.replicate_append_replicate]; rfl
 rw [ht,happ,hrep]
 simp
end GoAbs
namespace GoAbs
open Go Go.Proofs
def condsR (r:List Rat):List AV:=r.map avQ
theorem Zcf (r:List Rat):(condsR r).length=r.length:=by simp [condsR]
theorem Zda {r:List Rat}{i:Nat}{x:Rat}(h:r[i]? = some x):(condsR r)[i]? = some (.agg (qcell x)):=by
 unfold condsR; rw [List.getElem?_map,h]; rfl
theorem Xaa {pre:Heap}{o n n0:Nat}{M:RM}{r:List Rat}(ho:pre.length=o) (hM:M.length=n) (hr:r.length=n) (hW:Wid n M) (hn:n≤1000000) {K:Ex→St→Prop}
  (hK:∀ e:Nat→AV,e 0 = .osl none o 0 n→K (.exit 0) ⟨e,pre++heapA o n n M r⟩) :
  T Tryz.prog 83 n0 (.loop Zh9) ⟨envL [(0,.osl none o 0 n),(1,.sl (condsR r)),(12,.int .i64 (n:Int)),(13,.int .i64 0)],pre++matH o n M⟩ K:=by
 refine Ybd (fun i:Nat=>⟨envL [(0,.osl none o 0 n),(1,.sl (condsR r)),(12,.int .i64 (n:Int)),(13,.int .i64 (i:Int))],pre++heapA o n i M r⟩) (fun i=>i≤n) (fun i=>n - i) 0 (by omega)
  (Zdp (Zab [(0,.osl none o 0 n),(1,.sl (condsR r)),(12,.int .i64 (n:Int)),(13,.int .i64 0)] (by simp only [go_sem])) (by rw [Ysr hM]; rfl)) (fun i hi N hN=>?_)
 unfold Zh9
 by_cases hin:i<n
 ·obtain ⟨row,hrow⟩:∃ row,M[i]? = some row:=⟨_,List.getElem?_eq_getElem (by omega)⟩
  obtain ⟨x,hx⟩:∃ x,r[i]? = some x:=⟨_,List.getElem?_eq_getElem (by omega)⟩
  have hw:row.length=n:=hW _ (List.mem_of_getElem? hrow)
  have q1:(i:Int)<(n:Int):=by omega
  have e1:IntKind.i64.wrap ((i:Int)+1)=((i+1:Nat):Int):=by rw [Zac (by omega) (by omega)]; omega
  have hAl:=Yxs (o:=o) hM hr (show i≤n by omega)
  have hL:(pre++heapA o n i M r).length=o+(1+2*n+2*i):=by rw [List.length_append,hAl,ho]
  have hgo:(pre++heapA o n i M r)[o]? = some (.cells (ptrsA o n i)):=by rw [List.getElem?_append_right (by omega),ho,Nat.sub_self]; rfl
  have hgb:(pre++heapA o n i M r)[o+2+2*i]? = some (.cells (qc row)):=by
   rw [List.getElem?_append_right (by omega),ho,show o+2+2*i - o=2+2*i by omega]; exact Yvj hin hM hrow
  refine Zen 1 rfl ?_
  simp only [go_sem,Zie,q1]
  refine Znw (Zsn (Zen 0 rfl ?_))
  simp only [go_sem,Zqr]
  refine Xaz (o:=o) (n:=n) (i:=i) (N:=n) (ls:=condsR r) (P:=ptrsA o n i) (row:=qc row) (c:=qcell x) (by simp only [go_sem]) (by simp only [go_sem]) (by simp only [go_sem]) hin hL hgo (by rw [Yyd hi]; exact Nat.le_refl _) (Ywv hin) hgb (by rw [Zm1,hw]) (by omega) (Zda hx) rfl hn (fun e' h0 h1 h12 h13=>?_)
  simp only [go_sem] at h0 h1 h12 h13
  refine T_W ?_
  simp only [go_sem,Zqo,h13,e1]
  refine hN (i+1) _ (by omega) (by omega) (Zdp (Zt5 [o+(1+2*n+2*i)] [(0,.osl none o 0 n),(1,.sl (condsR r)),(12,.int .i64 (n:Int)),(13,.int .i64 ((i+1:Nat):Int))] ⟨.inr (by simp only [go_sem,h0]),.inr (by simp only [go_sem,h1]),.inr (by simp only [go_sem,h12]),.inr (by simp only [go_sem]),trivial⟩) ?_)
  congr 1
  rw [← Ysh (o:=o) (n:=n) (x:=x) hin hM hrow hx hw]
  show List.set _ (o+(1+2*n+2*i)) Blk.dead=_
  rw [List.set_append_right _ _ (by rw [List.length_set,List.length_set,hL]; exact Nat.le_refl _),List.length_set,List.length_set,hL,Nat.sub_self,List.set_cons_zero]
  rw [List.set_append_right _ _ (by omega),ho,show o+2+2*i - o=2+2*i by omega,List.set_append_right _ _ (by omega),ho,Nat.sub_self,List.append_assoc]
  rw [show o+(1+2*n+2*i)+1=o+2+2*n+2*i by omega]
 ·have hie:i=n:=by omega
  subst hie
  have q1:¬ ((i:Nat):Int)<(i:Int):=by omega
  refine T_W ?_
  simp only [go_sem,Zie,q1]
  exact hK _ (by simp only [go_sem])
end GoAbs
namespace GoAbs
open Go Go.Proofs
def heapT (o n:Nat) (A:RM):Heap := .cells (ptrsA o n n)::(List.replicate (2*n) .dead++rowsH A)
theorem Yru {o n:Nat}{M:RM}{r:List Rat}(hM:M.length=n) (hr:r.length=n):heapA o n n M r=heapT o n (aug M r):=by
 unfold heapA heapT
 rw [List.drop_eq_nil_of_le (by omega),List.take_of_length_le (by rw [Z8x (by omega)]; omega)]
 rfl
theorem Yy6 {o n:Nat}{A:RM}(hA:A.length=n):(heapT o n A).length=1+4*n:=by
 unfold heapT
 rw [List.length_cons,List.length_append,List.length_replicate,Zc6]; omega
def swB (o n i:Nat):Nat:=if o+1≤i∧i<o+1+2*n then i+2*n else if o+1+2*n≤i∧i<o+1+4*n then i - 2*n else i
theorem Y8d (o n:Nat):∀ i,swB o n (swB o n i)=i:=fun i=>by
 unfold swB
 by_cases h1:o+1≤i∧i<o+1+2*n
 ·rw [if_pos h1,if_neg (by omega),if_pos (by omega)]; omega
 ·by_cases h2:o+1+2*n≤i∧i<o+1+4*n
  ·rw [if_neg h1,if_pos h2,if_pos (by omega)]; omega
  ·rw [if_neg h1,if_neg h2,if_neg h1,if_neg h2]
def PureH (K:Heap):Prop:=∀ f,K.map (Blk.gc f)=K
theorem PureH.clo {K:Heap}(h:PureH K) (m:Nat):Clo m K:=h _
theorem Yc0 {A:RM}:PureH (rowsH A):=fun f=>Ypv
theorem Xb7 {pre:Heap}{o n:Nat}{A:RM}(ho:pre.length=o) (hp:PureH pre) (hA:A.length=n):Ren (swB o n) (pre++(matH o (n+1) A++List.replicate (2*n) .dead)) (pre++heapT o n A):=fun i=>by
 have hml:(matH o (n+1) A).length=1+2*n:=by rw [Zbe,hA]
 have hrl:(rowsH A).length=2*n:=by rw [Zc6,hA]
 have gp:∀ (j:Nat) (b:Blk),pre[j]? = some b→b.gc (sg (swB o n))=b:=fun j b hb=>by
  have:=congrArg (fun l:Heap=>l[j]?) (hp (sg (swB o n)))
  simp only [List.getElem?_map,hb,Option.map_some,Option.some.injEq] at this
  exact this
 have gr:∀ (j:Nat) (b:Blk),(rowsH A)[j]? = some b→b.gc (sg (swB o n))=b:=fun j b hb=>by
  have:=congrArg (fun l:Heap=>l[j]?) (Yc0 (A:=A) (sg (swB o n)))
  simp only [List.getElem?_map,hb,Option.map_some,Option.some.injEq] at this
  exact this
 have mapid:∀ (x:Option Blk),(∀ b,x=some b→b.gc (sg (swB o n))=b)→x.map (Blk.gc (sg (swB o n)))=x:=fun x hx=>by
  cases x with
  | none=>rfl
  | some b=>rw [Option.map_some,hx b rfl]
 unfold heapT
 by_cases h0:i<o
 ·have hs:swB o n i=i:=by unfold swB; rw [if_neg (by omega),if_neg (by omega)]
  rw [hs,List.getElem?_append_left (by omega),List.getElem?_append_left (by omega),mapid _ (fun b hb=>gp i b hb)]
 ·by_cases h1:i=o
  ·have hs:swB o n i=i:=by unfold swB; rw [if_neg (by omega),if_neg (by omega)]
   rw [hs,h1,List.getElem?_append_right (by omega),List.getElem?_append_right (by omega),ho,Nat.sub_self]
   show some (Blk.cells (ptrsA o n n))=some (Blk.gc (sg (swB o n)) (.cells (ptrs o (n+1) A.length)))
   rw [hA]
   simp only [Blk.gc,Option.some.injEq,Blk.cells.injEq]
   rw [Zaz]
   unfold ptrsA ptrs
   rw [Nat.sub_self]
   simp only [List.range'_zero,List.map_nil,List.append_nil,List.map_map]
   refine List.map_congr_left fun j hj=>?_
   have hj':j<n:=List.mem_range.1 hj
   simp only [Function.comp,AV.gc,sg]
   congr 1
   unfold swB; rw [if_pos (by omega)]; omega
  ·by_cases h2:i<o+1+2*n
   ·have hs:swB o n i=i+2*n:=by unfold swB; rw [if_pos (by omega)]
    rw [hs,List.getElem?_append_right (by omega),List.getElem?_append_right (by omega),ho,List.getElem?_append_right (by omega),hml]
    rw [show i - o=(i - o - 1)+1 by omega,List.getElem?_cons_succ,List.getElem?_append_left (by rw [List.length_replicate]; omega),List.getElem?_replicate,if_pos (by omega),List.getElem?_replicate,if_pos (by omega)]
    rfl
   ·by_cases h3:i<o+1+4*n
    ·have hs:swB o n i=i - 2*n:=by unfold swB; rw [if_neg (by omega),if_pos (by omega)]
     rw [hs,List.getElem?_append_right (by omega),List.getElem?_append_right (by omega),ho,List.getElem?_append_left (by omega)]
     unfold matH
     rw [show i - o=(i - o - 1)+1 by omega,List.getElem?_cons_succ,List.getElem?_append_right (by rw [List.length_replicate]; omega),List.length_replicate,show i - 2*n - o=(i - 2*n - o - 1)+1 by omega,List.getElem?_cons_succ,
      show i - o - 1 - 2*n=i - 2*n - o - 1 by omega,mapid _ (fun b hb=>gr _ b hb)]
    ·have hs:swB o n i=i:=by unfold swB; rw [if_neg (by omega),if_neg (by omega)]
     rw [hs,List.getElem?_eq_none,List.getElem?_eq_none]
     ·rfl
     ·rw [List.length_append,List.length_append,hml,List.length_replicate]; omega
     ·rw [List.length_append,List.length_cons,List.length_append,List.length_replicate,hrl]; omega
theorem Yfr:∀ {k c:Nat}{M:RM}{d:Rat},(tri k c M d).2.length=M.length
 | 0,c,M,d=>rfl
 | k+1,c,M,d=>by
  unfold tri
  split
  ·rfl
  ·rw [Yfr,Zaw]
theorem Xdp {pre:Heap}{o n k:Nat}{A:RM}(ho:pre.length=o) (hp:PureH pre) (hA:A.length=n) (hnl:n≤999999) (hW:Wid (n+1) A) (hB:Mb k A) (hk1:1≤k) (hk:9 ^ n*k≤100000000000) (hns:NoSw n 0 A) :
  SpecR Tryz.prog Zmw (pre++heapT o n A) [.osl none o 0 n] (.agg (qcell (tri n 0 A 1).1)) (pre++heapT o n (tri n 0 A 1).2):=by
 have h:=Yn1 (pre:=pre) (PP:=List.replicate (2*n) .dead) (o:=o) (w:=n+1) (n:=n) (k:=k) (M:=A) ho hA (by omega) (by omega) (by omega) hW hB hk1 hk hns (fun m _=>hp.clo m) (fun m _=>by unfold Clo; rw [List.map_replicate]; rfl)
 have hl:(tri n 0 A 1).2.length=n:=by rw [Yfr,hA]
 have:=Yur (Y8d o n) (Xb7 ho hp hA) (Xb7 ho hp hl) h
 have e1 : [AV.osl none o 0 n].map (AV.gc (sg (swB o n))) = [.osl none o 0 n]:=by
  simp only [List.map_cons,List.map_nil,AV.gc,sg]
  have hs:swB o n o=o:=by unfold swB; rw [if_neg (by omega),if_neg (by omega)]
  rw [hs]
 rw [e1] at this
 exact this
end GoAbs
namespace GoAbs
open Go Go.Proofs
def bacc (row T:List Rat) (i n:Nat):Nat→Rat
 | 0=>rget row n
 | t+1=>bacc row T i n t - rget row (i+1+t)*rget T t
def bsub (A:RM) (n:Nat):Nat→List Rat
 | 0 => []
 | k+1=>bacc (A.getD (n - 1 - k) []) (bsub A n k) (n - 1 - k) n k / rget (A.getD (n - 1 - k) []) (n - 1 - k)::bsub A n k
theorem Zg4 {A:RM}{n:Nat}:∀ k,(bsub A n k).length=k
 | 0=>rfl
 | k+1=>by unfold bsub; rw [List.length_cons,Zg4 k]
theorem Qb.sub2 {k l:Nat}{a b:Rat}(ha:Qb k a) (hb:Qb l b):Qb (k+l+1) (a - b):=by
 rw [Rat.sub_eq_add_neg]; exact ha.add2 hb.neg
theorem Qb.mul2 {k l:Nat}{a b:Rat}(ha:Qb k a) (hb:Qb l b):Qb (k+l) (a*b):=by
 rw [← Ylz]
 have h0:(a.den:Int)*b.den≠0:=by have:=den_pos' a; have:=den_pos' b; exact Int.mul_ne_zero (by omega) (by omega)
 obtain ⟨h1,h2⟩:=Zcv (n:=a.num*b.num) h0
 refine ⟨Nat.lt_of_le_of_lt h1 ?_,Nat.lt_of_le_of_lt h2 ?_⟩
 ·rw [Int.natAbs_mul,Nat.pow_add]; exact Nat.mul_lt_mul'' ha.n hb.n
 ·rw [Int.natAbs_mul,Nat.pow_add]; exact Nat.mul_lt_mul'' ha.dz hb.dz
theorem Qb.div2 {k l:Nat}{a b:Rat}(ha:Qb k a) (hb:Qb l b) (h0:b≠0):Qb (k+l) (a / b):=by
 rw [← Yl9]
 have hn:b.num≠0:=fun h=>h0 (Rat.num_eq_zero.1 h)
 have h0:(a.den:Int)*b.num≠0:=by have:=den_pos' a; exact Int.mul_ne_zero (by omega) hn
 obtain ⟨h1,h2⟩:=Zcv (n:=a.num*b.den) h0
 refine ⟨Nat.lt_of_le_of_lt h1 ?_,Nat.lt_of_le_of_lt h2 ?_⟩
 ·rw [Int.natAbs_mul,Nat.pow_add]; exact Nat.mul_lt_mul'' ha.n hb.dz
 ·rw [Int.natAbs_mul,Nat.pow_add]; exact Nat.mul_lt_mul'' ha.dz hb.n
def bbit (a:Nat):Nat→Nat
 | 0=>a
 | k+1=>2*a+k*(a+bbit a k+1)
theorem Yjm {a k:Nat}:bbit a k≤bbit a (k+1):=by
 cases k with
 | zero=>show a≤2*a+0*_; omega
 | succ k =>
  show bbit a (k+1)≤2*a+(k+1)*(a+bbit a (k+1)+1)
  have:bbit a (k+1)≤(k+1)*(a+bbit a (k+1)+1):=Nat.le_trans (by omega) (Nat.le_mul_of_pos_left _ (by omega))
  omega
theorem Yuw {a k l:Nat}(h:k≤l):bbit a k≤bbit a l:=by
 induction h with
 | refl=>exact Nat.le_refl _
 | step _ ih=>exact Nat.le_trans ih Yjm
theorem Z3q {row T:List Rat}{i n a l:Nat}(hr:Rb a row) (hT:Rb l T) (hn:row.length=n+1) (hi:i+1+T.length≤n):∀ t,t≤T.length→Qb (a+t*(a+l+1)) (bacc row T i n t)
 | 0,_=>by have:=hr.get (j:=n) (by omega); simpa [bacc] using this
 | t+1,h=>by
  have h1:=Z3q hr hT hn hi t (by omega)
  have:=h1.sub2 ((hr.get (j:=i+1+t) (by omega)).mul2 (hT.get (j:=t) (by omega)))
  refine this.mono ?_
  rw [Nat.add_mul]; omega
theorem Yaf {A:RM}{n a:Nat}(hA:Mb a A) (hW:Wid (n+1) A) (hn:A.length=n) (hp:∀ i,i<n→rget (A.getD i []) i≠0):∀ k,k≤n→Rb (bbit a k) (bsub A n k)
 | 0,_=>fun x hx=>by simp [bsub] at hx
 | k+1,h=>by
  have ih:=Yaf hA hW hn hp k (by omega)
  have hr:=hA.get (i:=n - 1 - k) (by omega)
  have hw:=hW.get (i:=n - 1 - k) (by omega)
  intro x hx
  unfold bsub at hx
  rcases List.mem_cons.1 hx with rfl | hx
  ·have h1:=Z3q (i:=n - 1 - k) hr ih hw (by rw [Zg4]; omega) k (by rw [Zg4]; exact Nat.le_refl _)
   have h2:=h1.div2 (hr.get (j:=n - 1 - k) (by omega)) (hp _ (by omega))
   refine h2.mono ?_
   show _≤2*a+k*(a+bbit a k+1)
   omega
  ·exact (ih x hx).mono Yjm
def xC (m:Nat) (T:List Rat):List AV:=rows m z4++qc T
theorem Xaq {m:Nat}{T:List Rat}:(xC m T).length=(m+T.length)*4:=by
 unfold xC; rw [List.length_append,Zfx rfl,Zm1]; omega
theorem Xbi {m t:Nat}{T:List Rat}(h:t<T.length):((xC m T).drop ((m+t)*4)).take 4=qcell (rget T t)∧4≤((xC m T).drop ((m+t)*4)).length:=by
 have hl:(rows m z4).length=m*4:=Zfx rfl
 have:(xC m T).drop ((m+t)*4)=(qc T).drop (t*4):=by
  unfold xC
  rw [List.drop_append,List.drop_eq_nil_of_le (by rw [hl]; omega),List.nil_append,hl]
  congr 1; omega
 rw [this]
 exact ⟨Zcr (Zaj h),Zfd (Zaj h)⟩
theorem Xcq {m:Nat}{T:List Rat}{x:Rat}:(xC (m+1) T).take (m*4)++qcell x++(xC (m+1) T).drop (m*4+4)=xC m (x::T):=by
 have hl:(rows m z4).length=m*4:=Zfx rfl
 unfold xC
 rw [Z2z (a:=m) (b:=1),show rows 1 z4=z4 by simp [rows],List.append_assoc (rows m z4) z4 (qc T),List.take_left' hl, ← List.drop_drop,List.drop_left' hl]
 have:(z4++qc T).drop 4=qc T:=rfl
 rw [this]
 simp [qc]
theorem Xde {f:Nat→Option Nat}{m:Nat}{T:List Rat}:gcL f (xC m T)=xC m T:=by
 unfold xC
 rw [Zaz,List.map_append, ← Zaz, ← Zaz,Ym1]
 congr 1
 rw [Zaz]
 unfold rows
 rw [List.map_flatten,List.map_replicate]
 rfl
theorem Xb3 {H0:Heap}{o n i L bR n0 a l:Nat}{V row:List Rat}(hL:H0.length=L) (ho:H0[o]? = some (.cells (ptrsA o n n))) (hb:bR=o+2+2*n+2*i) (hR:H0[bR]? = some (.cells (qc row))) (hi:i<n) (hnl:n≤1000000)
  (hw:row.length=n+1) (hT:i+1+V.length=n) (br:Rb a row) (bT:Rb l V) (hk:2*(a+V.length*(a+l+1)+l)+1≤1000000000000) {K:Ex→St→Prop}
  (hK:∀ e:Nat→AV,e 0 = .osl none o 0 n→e 6 = .int .i64 (n:Int)→e 7 = .osl (some 4) L 0 n→e 8 = .int .i64 (i:Int)→e 9 = .ptr (L+1) 0 →
   K (.exit 4) ⟨e,H0 ++ [.cells (xC (i+1) V),.cells (qcell (bacc row V i n V.length))]⟩) :
  T Tryz.prog 83 n0 (.loop Zh6) ⟨envL [(0,.osl none o 0 n),(6,.int .i64 (n:Int)),(7,.osl (some 4) L 0 n),(8,.int .i64 (i:Int)),(9,.ptr (L+1) 0),(10,.int .i64 ((i+1:Nat):Int))],
   H0 ++ [.cells (xC (i+1) V),.cells (qcell (rget row n))]⟩ K:=by
 have hm:Tryz.prog.follows .mixedOrders=true:=by kernel_rfl
 refine Zag (fun t:Nat=>⟨envL [(0,.osl none o 0 n),(6,.int .i64 (n:Int)),(7,.osl (some 4) L 0 n),(8,.int .i64 (i:Int)),(9,.ptr (L+1) 0),(10,.int .i64 ((i+1+t:Nat):Int))],
   H0 ++ [.cells (xC (i+1) V),.cells (qcell (bacc row V i n t))]⟩) (fun t=>t≤V.length) (fun t=>V.length - t) 0 (by omega) (Zab _ (by simp only [go_sem])) (fun t ht N hN=>?_)
 unfold Zh6
 by_cases htl:t<V.length
 ·have q0:(0:Int)≤(i:Int):=by omega
  have q1:(i:Int)<(n:Int):=by omega
  have r0:(0:Int)≤((i+1+t:Nat):Int):=by omega
  have r1:((i+1+t:Nat):Int)<(n:Int):=by omega
  have r2:((i+1+t:Nat):Int)<((n+1:Nat):Int):=by omega
  have e1:IntKind.i64.wrap (((i+1+t:Nat):Int)+1)=((i+1+(t+1):Nat):Int):=by rw [Zac (by omega) (by omega)]; omega
  have g0:∀ X:Heap,(H0++X)[o]? = some (.cells (ptrsA o n n)):=fun X=>by rw [List.getElem?_append_left (List.getElem?_eq_some_iff.1 ho).1]; exact ho
  have g1:∀ X:Heap,(H0++X)[bR]? = some (.cells (qc row)):=fun X=>by rw [List.getElem?_append_left (List.getElem?_eq_some_iff.1 hR).1]; exact hR
  have gx:∀ x y:Blk,(H0 ++ [x,y])[L]? = some x:=fun x y=>by rw [List.getElem?_append_right (by omega),hL,Nat.sub_self]; rfl
  have gs:∀ x y:Blk,(H0 ++ [x,y])[L+1]? = some y:=fun x y=>by rw [List.getElem?_append_right (by omega),hL,Nat.add_sub_cancel_left]; rfl
  have ss:∀ x y z:Blk,(H0 ++ [x,y]).set (L+1) z=H0 ++ [x,z]:=fun x y z=>by rw [List.set_append_right _ _ (by omega),hL,Nat.add_sub_cancel_left]; rfl
  have gp:(ptrsA o n n)[i]? = some (.osl (some 4) bR 0 (n+1)):=by
   unfold ptrsA
   rw [List.getElem?_append_left (by simp; exact hi),List.getElem?_map,List.getElem?_range hi,hb]; rfl
  have rJ:row[i+1+t]? = some (rget row (i+1+t)):=Zaj (by omega)
  have t1:=Zcr rJ
  have t2:=Zfd rJ
  obtain ⟨t3,t4⟩:=Xbi (m:=i+1) htl
  have hql:∀ q:Rat,(4:Nat)≤(qcell q).length:=fun q=>by rw [Zak]; omega
  have hqt:∀ q:Rat,(qcell q).take 4=qcell q:=fun q=>List.take_of_length_le (by rw [Zak]; omega)
  have hqd:∀ q:Rat,(qcell q).drop 4 = []:=fun q=>rfl
  have hlen:∀ x y:Blk,(H0 ++ [x,y]).length=L+2:=fun x y=>by rw [List.length_append,hL]; rfl
  have l0:o<L+2:=by have:=(List.getElem?_eq_some_iff.1 ho).1; omega
  have l1:bR<L+2:=by have:=(List.getElem?_eq_some_iff.1 hR).1; omega
  have l2:L<L+2:=by omega
  have l3:L+1<L+2:=by omega
  have b1:Qb (a+l) (rget row (i+1+t)*rget V t):=(br.get (j:=i+1+t) (by omega)).mul2 (bT.get (j:=t) htl)
  have b2:=Z3q (i:=i) (n:=n) br bT hw (by omega) t ht
  have hmul:t*(a+l+1)≤V.length*(a+l+1):=Nat.mul_le_mul_right _ ht
  simp only [go_sem,Zgr,Zgt,hm,q0,q1,r0,r1,r2,g0,g1,gx,gs,gp,List.getElem?_drop,t1,t2,t3,t4,hql,hqt,hlen,l0,l1,l2,l3]
  refine Zaa (Ywf (k:=a+l) ((br.get (j:=i+1+t) (by omega)).mono (by omega)) ((bT.get (j:=t) htl).mono (by omega)) (by omega)) (by simp only [go_sem,Zbb,Zan]) ?_
  simp only [go_sem,Zbb]
  refine Zaa (Yxm (k:=a+V.length*(a+l+1)+l) (b2.mono (by omega)) (b1.mono (by omega)) hk) (by simp only [go_sem,Zbb,Zan]) ?_
  simp only [go_sem,Zbb,gs,ss,hlen,l3,Zak,hqd,hqt,Zn8,e1]
  exact hN (t+1) _ (by omega) (by omega) (Zab _ (by simp only [go_sem]))
 ·have hte:t=V.length:=by omega
  subst hte
  have r1:¬ ((i+1+V.length:Nat):Int)<(n:Int):=by omega
  simp only [go_sem,Zgr,r1]
  exact hK _ (by simp only [go_sem]) (by simp only [go_sem]) (by simp only [go_sem]) (by simp only [go_sem]) (by simp only [go_sem])
end GoAbs
namespace GoAbs
open Go Go.Proofs
theorem Xck {H0:Heap}{o n L n0 a:Nat}{A:RM}(hL:H0.length=L) (hclo:Clo (L+1) H0) (hn0:n0≤L) (hoL:o<L) (ho:H0[o]? = some (.cells (ptrsA o n n))) (hR:∀ i,i<n→H0[o+2+2*n+2*i]? = some (.cells (qc (A.getD i []))))
  (hn:A.length=n) (hnl:n≤1000000) (hW:Wid (n+1) A) (hB:Mb a A) (hp:∀ i,i<n→rget (A.getD i []) i≠0) (hk:∀ k,k<n→2*(a+k*(a+bbit a k+1)+bbit a k)+1≤1000000000000) {K:Ex→St→Prop}
  (hK:∀ e:Nat→AV,e 7 = .osl (some 4) L 0 n→K (.exit 2) ⟨e,H0 ++ [.cells (qc (bsub A n n))]⟩) :
  T Tryz.prog 83 n0 (.loop Zh8) ⟨envL [(0,.osl none o 0 n),(6,.int .i64 (n:Int)),(7,.osl (some 4) L 0 n),(8,.int .i64 ((n:Int) - 1))],H0 ++ [.cells (rows n z4)]⟩ K:=by
 have hm:Tryz.prog.follows .mixedOrders=true:=by kernel_rfl
 refine Zag (fun k:Nat=>⟨envL [(0,.osl none o 0 n),(6,.int .i64 (n:Int)),(7,.osl (some 4) L 0 n),(8,.int .i64 ((n:Int) - 1 - (k:Int)))],H0 ++ [.cells (xC (n - k) (bsub A n k))]⟩) (fun k=>k≤n) (fun k=>n - k) 0 (by omega)
  (Zdp (Zab [(0,.osl none o 0 n),(6,.int .i64 (n:Int)),(7,.osl (some 4) L 0 n),(8,.int .i64 ((n:Int) - 1))] (by simp only [go_sem])) (by simp [xC,bsub,qc])) (fun k hkn N hN=>?_)
 unfold Zh8
 by_cases hlt:k<n
 ·obtain ⟨i,hi⟩:∃ i,i=n - 1 - k:=⟨_,rfl⟩
  have hin:i<n:=by omega
  have ei:(n:Int) - 1 - (k:Int)=(i:Int):=by omega
  have enk:n - k=i+1:=by omega
  have enk':n - (k+1)=i:=by omega
  have hw:=hW.get (i:=i) (by omega)
  have br:=hB.get (i:=i) (by omega)
  have bT:=Yaf hB hW hn hp k hkn
  have hTl:(bsub A n k).length=k:=Zg4 k
  have hnext:bsub A n (k+1)=bacc (A.getD i []) (bsub A n k) i n k / rget (A.getD i []) i::bsub A n k:=by rw [bsub, ← hi]
  have hRi:=hR i hin
  have hpi:=hp i hin
  generalize hrow:A.getD i []=row at *
  generalize bsub A n k=V at *
  rw [ei,enk]
  have q0:(0:Int)≤(i:Int):=by omega
  have q1:(i:Int)<(n:Int):=by omega
  have q2:(i:Int)<((n+1:Nat):Int):=by omega
  have z0:(0:Int)≤(n:Int):=by omega
  have z1:(n:Int)<((n+1:Nat):Int):=by omega
  have e1:IntKind.i64.wrap ((i:Int)+1)=((i+1:Nat):Int):=by rw [Zac (by omega) (by omega)]; omega
  have e2:IntKind.i64.wrap ((i:Int) - 1)=(n:Int) - 1 - ((k+1:Nat):Int):=by rw [Zac (by omega) (by omega)]; omega
  have g0:∀ X:Heap,(H0++X)[o]? = some (.cells (ptrsA o n n)):=fun X=>by rw [List.getElem?_append_left (List.getElem?_eq_some_iff.1 ho).1]; exact ho
  have g1:∀ X:Heap,(H0++X)[o+2+2*n+2*i]? = some (.cells (qc row)):=fun X=>by rw [List.getElem?_append_left (List.getElem?_eq_some_iff.1 hRi).1]; exact hRi
  have gx:∀ x y:Blk,(H0 ++ [x,y])[L]? = some x:=fun x y=>by rw [List.getElem?_append_right (by omega),hL,Nat.sub_self]; rfl
  have gs:∀ x y:Blk,(H0 ++ [x,y])[L+1]? = some y:=fun x y=>by rw [List.getElem?_append_right (by omega),hL,Nat.add_sub_cancel_left]; rfl
  have ss:∀ x y z:Blk,(H0 ++ [x,y]).set (L+1) z=H0 ++ [x,z]:=fun x y z=>by rw [List.set_append_right _ _ (by omega),hL,Nat.add_sub_cancel_left]; rfl
  have sx:∀ x y z:Blk,(H0 ++ [x,y]).set L z=H0 ++ [z,y]:=fun x y z=>by rw [List.set_append_right _ _ (by omega),hL,Nat.sub_self]; rfl
  have eA:∀ x y:Blk,H0 ++ [x] ++ [y]=H0 ++ [x,y]:=fun x y=>by simp
  have gp:(ptrsA o n n)[i]? = some (.osl (some 4) (o+2+2*n+2*i) 0 (n+1)):=by
   unfold ptrsA
   rw [List.getElem?_append_left (by simp; exact hin),List.getElem?_map,List.getElem?_range hin]; rfl
  have rN:row[n]? = some (rget row n):=Zaj (by omega)
  have rI:row[i]? = some (rget row i):=Zaj (by omega)
  have t1:=Zcr rN
  have t2:=Zfd rN
  have t3:=Zcr rI
  have t4:=Zfd rI
  have hql:∀ q:Rat,(4:Nat)≤(qcell q).length:=fun q=>by rw [Zak]; omega
  have hqt:∀ q:Rat,(qcell q).take 4=qcell q:=fun q=>List.take_of_length_le (by rw [Zak]; omega)
  have hqd:∀ q:Rat,(qcell q).drop 4 = []:=fun q=>rfl
  have hlen1:∀ x:Blk,(H0 ++ [x]).length=L+1:=fun x=>by rw [List.length_append,hL]; rfl
  have hlen:∀ x y:Blk,(H0 ++ [x,y]).length=L+2:=fun x y=>by rw [List.length_append,hL]; rfl
  have l0:o<L+2:=by omega
  have l1:o+2+2*n+2*i<L+2:=by have:=(List.getElem?_eq_some_iff.1 hRi).1; omega
  have l2:L<L+2:=by omega
  have l3:L+1<L+2:=by omega
  have hxl:(xC (i+1) V).length=n*4:=by rw [Xaq]; congr 1; omega
  have fit:i*4+4≤n*4:=by omega
  simp only [go_sem,Zgs,Znm,Zm7,q0,q1,q2,z0,z1,g0,g1,gp,eA,gs,ss,hlen1,List.getElem?_drop,t1,t2,Zak,hql,hqt,e1]
  refine Za2 [(0,.osl none o 0 n),(6,.int .i64 (n:Int)),(7,.osl (some 4) L 0 n),(8,.int .i64 (i:Int)),(9,.ptr (L+1) 0),(10,.int .i64 ((i+1:Nat):Int))] (by simp only [go_sem]) ?_
  refine Xb3 (a:=a) (l:=bbit a k) hL ho rfl hRi hin hnl hw (by omega) br bT (by rw [hTl]; exact hk k hlt) (fun e k0 k6 k7 k8 k9=>?_)
  rw [hTl]
  have b2:=Z3q (i:=i) (n:=n) br bT hw (by omega) k (by omega)
  have hkk:=hk k hlt
  simp only [go_sem,Zgi,hm,k0,k6,k7,k8,k9,q0,q1,q2,g0,g1,gx,gs,sx,gp,List.getElem?_drop,t3,t4,hql,hqt,hlen,l0,l1,l2,l3]
  refine Zaa (Y10 (k:=a+k*(a+bbit a k+1)) b2 ((br.get (j:=i) (by omega)).mono (by omega)) hpi (by omega)) (by simp only [go_sem,Zbb,Zan]) ?_
  simp only [go_sem,Zbb,k7,k8,q0,q1,gx,sx,hxl,fit,hlen,l2,Zak,Xcq,Znd,e2]
  have hsplit:∀ x y:Blk,H0 ++ [x,y]=(H0 ++ [x]) ++ [y]:=fun x y=>by simp
  rw [hsplit]
  refine hN (k+1) _ (by omega) (by omega) (Zdp (Z4o (m:=L+1) (by rw [List.length_append,hL]; rfl) (hclo.append (by unfold Clo; simp only [List.map_cons,List.map_nil,Blk.gc,Xde])) (by omega)
   [(0,.osl none o 0 n),(6,.int .i64 (n:Int)),(7,.osl (some 4) L 0 n),(8,.int .i64 ((n:Int) - 1 - ((k+1:Nat):Int)))] (by simp only [go_sem,k0,k6,k7]) ?_) (by rw [enk',hnext]))
  have p1:pos (List.range (L+1)) o=some o:=Zdm (by omega)
  have p2:pos (List.range (L+1)) L=some L:=Zdm (by omega)
  simp [AV.gc,p1,p2]
 ·have hke:k=n:=by omega
  subst hke
  have q1:¬ (0:Int)≤(k:Int) - 1 - (k:Int):=by omega
  simp only [go_sem,Zgs,q1]
  have:xC (k - k) (bsub A k k)=qc (bsub A k k):=by rw [Nat.sub_self]; rfl
  rw [this]
  exact hK _ (by simp only [go_sem])
theorem Yyl {pre:Heap}{o n:Nat}{A:RM}(ho:pre.length=o) (hA:A.length=n):(pre++heapT o n A)[o]? = some (.cells (ptrsA o n n))∧∀ i,i<n→(pre++heapT o n A)[o+2+2*n+2*i]? = some (.cells (qc (A.getD i []))):=by
 refine ⟨by rw [List.getElem?_append_right (by omega),ho,Nat.sub_self]; rfl,fun i hi=>?_⟩
 rw [List.getElem?_append_right (by omega),ho,show o+2+2*n+2*i - o=(1+2*n+2*i)+1 by omega]
 unfold heapT
 rw [List.getElem?_cons_succ,List.getElem?_append_right (by rw [List.length_replicate]; omega),List.length_replicate,show 1+2*n+2*i - 2*n=2*i+1 by omega]
 exact Ybg (getD_some (by omega))
theorem Yix {pre:Heap}{o n m:Nat}{A:RM}(hp:PureH pre) (hm:o+1+4*n≤m):Clo m (pre++heapT o n A):=by
 refine (hp.clo m).append ?_
 unfold Clo heapT
 rw [List.map_cons,List.map_append,Yc0,List.map_replicate]
 congr 1
 simp only [Blk.gc,Blk.cells.injEq]
 rw [Zaz]
 unfold ptrsA
 rw [Nat.sub_self]
 simp only [List.range'_zero,List.map_nil,List.append_nil,List.map_map]
 refine List.map_congr_left fun j hj=>?_
 have hj':j<n:=List.mem_range.1 hj
 have:pos (List.range m) (o+2+2*n+2*j)=some (o+2+2*n+2*j):=Zdm (by omega)
 simp [AV.gc,this]
theorem Zwi {H:Heap}{ids:List Nat}{b:Nat}{r:List Rat}(hb:H[b]? = some (.cells (qc r))) (hi:b∈ids):BV H ids (.osl (some 4) b 0 r.length) (.sl (condsR r)):=by
 have:=Yet (H:=H) (ids:=ids) (w:=4) (b:=b) (R:=r.map qcell) hb hi (by unfold qc; rw [List.flatMap_def]) (fun d hd=>by obtain ⟨j,_,rfl⟩:=List.mem_map.1 hd; rfl) (fun d hd=>by
  obtain ⟨j,_,rfl⟩:=List.mem_map.1 hd; rw [Zan]; trivial)
 rw [List.length_map,List.map_map] at this
 exact this
theorem Ys3 {pre:Heap}{o n k:Nat}{M:RM}{r:List Rat}(ho:pre.length=o) (hp:PureH pre) (hM:M.length=n) (hr:r.length=n) (hnl:n≤999999) (hW:Wid n M) (hB:Mb k (aug M r)) (hk1:1≤k) (hk:9 ^ n*k≤100000000000)
  (hns:NoSw n 0 (aug M r)) {a:Nat} (hB':Mb a (tri n 0 (aug M r) 1).2) (hW':Wid (n+1) (tri n 0 (aug M r) 1).2) (hpv:∀ i,i<n→rget ((tri n 0 (aug M r) 1).2.getD i []) i≠0) (hka:∀ k,k<n→2*(a+k*(a+bbit a k+1)+bbit a k)+1≤1000000000000) :
  SpecR Tryz.prog Yct (pre++matH o n M) [.osl none o 0 n,.sl (condsR r)] (.sl (condsR (bsub (tri n 0 (aug M r) 1).2 n n))) (pre++heapT o n (tri n 0 (aug M r) 1).2):=by
 have hAl:(aug M r).length=n:=by rw [Z8x (by omega),hM]
 have ht:=Xdp ho hp hAl hnl (Ym4 hW) hB hk1 hk hns
 have hl:(tri n 0 (aug M r) 1).2.length=n:=by rw [Yfr,hAl]
 have hL0:(pre++matH o n M).length=o+(1+2*n):=by rw [List.length_append,Zbe,hM,ho]
 refine Yo9 Ya7 (by simp) (Zen 5 rfl ?_)
 unfold Z2x
 simp only [go_sem,Zqp,Zqu]
 refine Za2 [(0,.osl none o 0 n),(1,.sl (condsR r)),(12,.int .i64 (n:Int)),(13,.int .i64 0)] (by simp only [go_sem]) ?_
 refine Xaa ho hM hr hW (by omega) (fun e h0=>?_)
 rw [Yru hM hr]
 simp only [go_sem,Zq8,h0]
 refine Zi0 ht ?_
 generalize hA:(tri n 0 (aug M r) 1).2=A at *
 obtain ⟨f0,f1⟩:=Yyl (pre:=pre) (o:=o) (n:=n) (A:=A) ho hl
 have hLT:(pre++heapT o n A).length=o+1+4*n:=by rw [List.length_append,Yy6 hl,ho]; omega
 have hclo:=Yix (pre:=pre) (o:=o) (n:=n) (m:=o+1+4*n) (A:=A) hp (Nat.le_refl _)
 have hclo1:=Yix (pre:=pre) (o:=o) (n:=n) (m:=o+1+4*n+1) (A:=A) hp (Nat.le_succ _)
 generalize pre++heapT o n A=HT at *
 have hsz:((64:Nat):Int)*(n:Int)≤281474976710656:=by omega
 have z0:(0:Int)≤(n:Int):=by omega
 have e2:IntKind.i64.wrap ((n:Int) - 1)=(n:Int) - 1:=Zac (by omega) (by omega)
 simp only [go_sem,Zqv,Zqw,Zmx,h0,hsz,z0,e2,hLT,Int.toNat_natCast,Int.le_refl]
 have hrows:(List.replicate n [AV.bool false,.nils,.bool false,.nils]).flatten=rows n z4:=rfl
 rw [hrows]
 refine Za2 [(0,.osl none o 0 n),(6,.int .i64 (n:Int)),(7,.osl (some 4) (o+1+4*n) 0 n),(8,.int .i64 ((n:Int) - 1))] (by simp only [go_sem,h0]) ?_
 refine Xck (a:=a) hLT hclo1 (by rw [hL0]; omega) (by omega) f0 f1 hl (by omega) hW' hB' hpv hka (fun e k7=>?_)
 show T Tryz.prog 83 _ (.seq (.rg false Zgq) .ret) _ _
 have hx:(bsub A n n).length=n:=Zg4 n
 have hbv:=Zwi (H:=HT ++ [.cells (qc (bsub A n n))]) (ids := [o+1+4*n]) (b:=o+1+4*n) (r:=bsub A n n) (by rw [List.getElem?_append_right (by omega),hLT,Nat.sub_self]; rfl) (by simp)
 rw [hx] at hbv
 refine T_le (Zt5 [o+1+4*n] [(7,.sl (condsR (bsub A n n)))] ⟨.inl (by show BV _ _ (e 7) _; rw [k7]; exact hbv),trivial⟩) (T_W ?_)
 have hkill:kill [o+1+4*n] (HT ++ [Blk.cells (qc (bsub A n n))])=HT ++ [.dead]:=by
  show List.set _ (o+1+4*n) Blk.dead=_
  rw [List.set_append_right _ _ (by omega),hLT,Nat.sub_self]; rfl
 rw [hkill]
 simp only [go_sem,Zgq]
 refine ⟨rfl,_,Z4o hLT hclo (by rw [hL0]; omega) [] trivial (fun p hp=>by simp at hp),rfl⟩
end GoAbs
namespace GoAbs
open Go Go.Proofs
theorem LessB.pure {H1 H0:Heap}(h:LessB H1 H0) (hp:PureH H0):PureH H1:=fun f=>by
 refine List.ext_getElem? fun i=>?_
 rw [List.getElem?_map]
 rcases h.2 i with g | g
 ·rw [g]
  have:=congrArg (fun l:Heap=>l[i]?) (hp f)
  simp only [List.getElem?_map] at this
  exact this
 ·rw [g]; rfl
theorem Yt1 {r:List Rat}:(condsR r).flatMap AV.cells=qc r:=by
 unfold condsR qc; rw [List.flatMap_map]; rfl
theorem PureH.append {A B:Heap}(h:PureH A) (k:PureH B):PureH (A++B):=fun f=>by rw [List.map_append,h f,k f]
theorem Yis {m k a:Nat}{E:List Sp}{f:List Rat}(hm:1≤m) (hml:m<100) {kE:Nat}(hE:∀ e,e∈E→e.1<m+1∧e.2.1<m+1∧Qb kE e.2.2) (hkE:1≤kE) (hEl:E.length≤1000) (hKE:kE+E.length*(4*(kE+1))≤10000000000) (hf:f.length=m+1)
  (hB:Mb k (aug (lapl m E) (f.drop 1))) (hk1:1≤k) (hk:9 ^ m*k≤100000000000) (hns:NoSw m 0 (aug (lapl m E) (f.drop 1)))
  (hB':Mb a (tri m 0 (aug (lapl m E) (f.drop 1)) 1).2) (hW':Wid (m+1) (tri m 0 (aug (lapl m E) (f.drop 1)) 1).2) (hpv:∀ i,i<m→rget ((tri m 0 (aug (lapl m E) (f.drop 1)) 1).2.getD i []) i≠0)
  (hka:∀ k,k<m→2*(a+k*(a+bbit a k+1)+bbit a k)+1≤1000000000000) :
  SpecV Tryz.prog Zwj [.agg (netC (m+1) E),.sl (condsR f)] (.sl (condsR (0::bsub (tri m 0 (aug (lapl m E) (f.drop 1)) 1).2 m m))):=by
 have hmx:Tryz.prog.follows .mixedOrders=true:=by kernel_rfl
 have hnet:=Ynx (n:=m+1) (k:=kE) (E:=E) (by omega) (by omega) hE hkE hEl hKE
 rw [Nat.add_sub_cancel] at hnet
 have hfd:(f.drop 1).length=m:=by rw [List.length_drop]; omega
 have hslc:(condsR f).drop 1=condsR (f.drop 1):=by unfold condsR; rw [List.map_drop]
 obtain ⟨lW,lL⟩:=Zgz (m:=m) (E:=E)
 have hsol:=fun (pre:Heap) (ho:pre.length=4) (hp:PureH pre)=>Ys3 (pre:=pre) (o:=4) (n:=m) (k:=k) (M:=lapl m E) (r:=f.drop 1) ho hp lL hfd (by omega) lW hB hk1 hk hns hB' hW' hpv hka
 generalize f.drop 1=r at *
 generalize (tri m 0 (aug (lapl m E) r) 1).2=A at *
 have hxl:(bsub A m m).length=m:=Zg4 m
 generalize bsub A m m=x at *
 have hcl:(condsR f).length=m+1:=by rw [Zcf,hf]
 have hxc:(condsR x).length=m:=by rw [Zcf,hxl]
 obtain ⟨nc,hnc⟩:∃ nc,nc=netC (m+1) E:=⟨_,rfl⟩
 have hnl3:nc.length=3:=by rw [hnc]; rfl
 have hnt3:nc.take 3=nc:=by rw [hnc]; rfl
 refine Zae Ylo (by simp) ?_
 unfold Yhb
 rw [← hnc]
 have z0:=Yd5
 have one1:(1:Nat)≤m+1:=by omega
 have sz:(1+m)*64≤1099511627776:=by omega
 simp only [go_sem,Z55,Zt4,hmx]
 refine Zaa z0 (by simp only [go_sem]) ?_
 simp only [go_sem,Zbb,Zak,hnl3,hnt3]
 have hH0:PureH [Blk.cells nc,.cells (qcell 0),.unborn]:=fun f=>by rw [hnc]; rfl
 have hgcn:∀ f,gcL f nc=nc:=fun f=>by rw [hnc]; rfl
 have c4:∀ y,y∈condsR f→y.cells.length=4:=fun y hy=>by obtain ⟨q,_,rfl⟩:=List.mem_map.1 hy; rfl
 have c4x:∀ y,y∈condsR x→y.cells.length=4:=fun y hy=>by obtain ⟨q,_,rfl⟩:=List.mem_map.1 hy; rfl
 refine Y42 (H0 := [.cells nc,.cells (qcell 0),.unborn]) (K := []) (K' := [.cells nc]++matH 4 m (lapl m E)) (v := .osl none 4 0 m) rfl rfl (fun H1 h1=>?_) ?_
 ·have hl:H1.length=3:=h1.1
  have:=Zj4 (H:=H1) hnet (by unfold netC; simp only [go_sem])
  rw [← hnc,List.map_append,hl,Yly] at this
  have e1:(AV.osl none 1 0 m).gc (fun i=>some (i+3)) = .osl none 4 0 m:=rfl
  have e2 : [Blk.cells nc].map (Blk.gc (fun i=>some (i+3))) = [.cells nc]:=by
   simp only [List.map_cons,List.map_nil,Blk.gc,hgcn]
  rw [e1,e2] at this
  rw [List.append_nil]
  exact this
 have htk:(condsR f).take (m+1)=condsR f:=List.take_of_length_le (by omega)
 simp only [go_sem,hcl,htk,hslc,one1,Nat.le_refl]
 refine ⟨c4,Y42 (H0 := [.cells nc,.cells (qcell 0),.unborn]) (K := [.cells nc]++matH 4 m (lapl m E)) (K' := [.cells nc]++heapT 4 m A) (v := .sl (condsR x)) rfl rfl (fun H1 h1=>?_) ?_⟩
 ·have hl:H1.length=3:=h1.1
  have:=hsol (H1 ++ [.cells nc]) (by rw [List.length_append,hl]; rfl) ((h1.pure hH0).append (fun f=>by simp only [List.map_cons,List.map_nil,Blk.gc,hgcn]))
  rw [List.append_assoc,List.append_assoc] at this
  exact this
 simp only [go_sem,hxc,sz,Yt1,Zak,Nat.le_refl]
 refine ⟨c4x,?_⟩
 have h0x:(0::x).length=1+m:=by rw [List.length_cons,hxl]; omega
 rw [← h0x]
 refine Zwi rfl (List.mem_range.2 (by simp))
end GoAbs
namespace GoAbs
open Go Go.Proofs
def bc (s:List Bool):List AV:=s.map AV.bool
theorem Ycz (s:List Bool):(bc s).length=s.length:=by simp [bc]
theorem Ydb {s:List Bool}{i:Nat}{b:Bool}(h:s[i]? = some b):(bc s)[i]? = some (.bool b):=by simp [bc,h]
theorem Yxa {s:List Bool}{i:Nat}{b:Bool}(h:i<s.length):(bc s).take i ++ .bool b::(bc s).drop (i+1)=bc (s.set i b):=by
 unfold bc
 rw [List.map_set,List.set_eq_take_append_cons_drop,if_pos (by simpa using h)]
theorem bc_set' {s:List Bool}{i:Nat}{b:Bool}(h:i<s.length):(bc s).take i ++ [.bool b]++(bc s).drop (i+1)=bc (s.set i b):=by
 rw [← Yxa h]; simp
theorem Xed {f:Nat→Option Nat}{s:List Bool}:gcL f (bc s)=bc s:=by
 rw [Zaz]; unfold bc; rw [List.map_map]; rfl
theorem Xd2 {H:Heap}{ids:List Nat}{b:Nat}{s:List Bool}(hb:H[b]? = some (.cells (bc s))) (hi:b∈ids):BV H ids (.osl none b 0 s.length) (.sl (bc s)):=by
 refine .osl none b 0 s.length (bc s) (bc s) hb hi (Ycz s) (fun x hx=>?_) (by rw [Ycz]; simp [es]) (fun i x j y z hx hy hz=>?_)
 ·obtain ⟨c,_,rfl⟩:=List.mem_map.1 hx; rfl
 ·obtain ⟨c,_,rfl⟩:=List.mem_map.1 (List.mem_of_getElem? hx)
  have hj:j=0:=by
   have:=(List.getElem?_eq_some_iff.1 hy).1
   simp [AV.cells] at this; omega
  subst hj
  simp [AV.cells] at hy
  subst hy
  simp [es] at hz
  rw [hx] at hz
  cases hz
  exact .bool _
def bget (s:List Bool) (i:Nat):Bool:=s.getD i false
theorem Ze3 {s:List Bool}{i:Nat}(h:i<s.length):s[i]? = some (bget s i):=by
 unfold bget; rw [List.getD_eq_getElem?_getD,List.getElem?_eq_getElem h]; rfl
def seeA (a b:Nat) (s:List Bool):List Bool:=s.set a (bget s a || bget s b)
def seeE (s:List Bool) (e:Sp):List Bool:=seeA e.2.1 e.1 (seeA e.1 e.2.1 s)
theorem Z2n {a b:Nat}{s:List Bool}:(seeA a b s).length=s.length:=by simp [seeA]
theorem Z3j {s:List Bool}{e:Sp}:(seeE s e).length=s.length:=by simp [seeE,Z2n]
theorem Yps {E:List Sp}:∀ {s:List Bool},(E.foldl seeE s).length=s.length:=by
 induction E with
 | nil=>intro s; rfl
 | cons e E ih=>intro s; rw [List.foldl_cons,ih,Z3j]
def seeN (E:List Sp):Nat→List Bool→List Bool
 | 0,s=>s
 | k+1,s=>E.foldl seeE (seeN E k s)
theorem Zk6 {E:List Sp}{s:List Bool}:∀ {k:Nat},(seeN E k s).length=s.length
 | 0=>rfl
 | k+1=>by unfold seeN; rw [Yps,Zk6]
def start (n:Nat):List Bool:=(List.replicate n false).set 0 true
def connB (n:Nat) (E:List Sp):Bool:=(seeN E n (start n)).all id
theorem Xcm {nt n0:Nat}{e:Nat→AV}{nc:List AV}{Q:Ex→St→Prop}{s:List Bool}{n a b:Nat}(hs:s.length=n) (e3:e 3 = .osl none 1 0 n) (e5:e 5 = .ptr 2 0) (ha:a<n) (hb:b<n)
  (hQ:∀ e',e' 1=e 1→e' 3=e 3→e' 5=e 5→e' 12=e 12→e' 13=e 13→e' 16=e 16→e' 17=e 17→e' 18=e 18→Q .normal ⟨e',[.cells nc,.cells (bc (seeA a b s)),.cells [.int .i64 (a:Int),.int .i64 (b:Int)]]⟩) :
  T Tryz.prog nt n0 (.rg true Zbx) ⟨e,[.cells nc,.cells (bc s),.cells [.int .i64 (a:Int),.int .i64 (b:Int)]]⟩ Q:=by
 have hm:Tryz.prog.follows .mixedOrders=true:=by kernel_rfl
 have a0:(0:Int)≤(a:Int):=by omega
 have a1:(a:Int)<(n:Int):=by omega
 have b0:(0:Int)≤(b:Int):=by omega
 have b1:(b:Int)<(n:Int):=by omega
 have ga:=Ydb (Ze3 (s:=s) (i:=a) (by omega))
 have gb:=Ydb (Ze3 (s:=s) (i:=b) (by omega))
 have fit:a+1≤(bc s).length:=by rw [Ycz]; omega
 have hset:=fun v=>bc_set' (s:=s) (i:=a) (b:=v) (by omega)
 have hset2:=fun v=>Yxa (s:=s) (i:=a) (b:=v) (by omega)
 refine T_W ?_
 unfold seeA at hQ
 generalize bget s a=u at *
 generalize bget s b=v at *
 cases u with
 | true =>
  simp only [go_sem,Zbx,e3,e5,a0,a1,b0,b1,ga,gb,fit,hset,hset2,List.getElem?_drop,hm]
  exact hQ _ (by simp only [go_sem]) (by simp only [go_sem]) (by simp only [go_sem]) (by simp only [go_sem]) (by simp only [go_sem]) (by simp only [go_sem]) (by simp only [go_sem]) (by simp only [go_sem])
 | false =>
  simp only [go_sem,Zbx,e3,e5,a0,a1,b0,b1,ga,gb,fit,hset,hset2,List.getElem?_drop,hm]
  exact hQ _ (by simp only [go_sem]) (by simp only [go_sem]) (by simp only [go_sem]) (by simp only [go_sem]) (by simp only [go_sem]) (by simp only [go_sem]) (by simp only [go_sem]) (by simp only [go_sem])
theorem Y88 {nt n0:Nat}{e:Nat→AV}{nc:List AV}{Q:Ex→St→Prop}{s:List Bool}{n a b:Nat}(hs:s.length=n) (e3:e 3 = .osl none 1 0 n) (e5:e 5 = .ptr 2 0) (ha:a<n) (hb:b<n)
  (hQ:∀ e',e' 1=e 1→e' 3=e 3→e' 5=e 5→e' 12=e 12→e' 13=e 13→e' 16=e 16→e' 17=e 17→e' 18=e 18→Q .normal ⟨e',[.cells nc,.cells (bc (seeA b a s)),.cells [.int .i64 (a:Int),.int .i64 (b:Int)]]⟩) :
  T Tryz.prog nt n0 (.rg true Zbo) ⟨e,[.cells nc,.cells (bc s),.cells [.int .i64 (a:Int),.int .i64 (b:Int)]]⟩ Q:=by
 have hm:Tryz.prog.follows .mixedOrders=true:=by kernel_rfl
 have a0:(0:Int)≤(a:Int):=by omega
 have a1:(a:Int)<(n:Int):=by omega
 have b0:(0:Int)≤(b:Int):=by omega
 have b1:(b:Int)<(n:Int):=by omega
 have ga:=Ydb (Ze3 (s:=s) (i:=a) (by omega))
 have gb:=Ydb (Ze3 (s:=s) (i:=b) (by omega))
 have fit:b+1≤(bc s).length:=by rw [Ycz]; omega
 have hset:=fun v=>bc_set' (s:=s) (i:=b) (b:=v) (by omega)
 have hset2:=fun v=>Yxa (s:=s) (i:=b) (b:=v) (by omega)
 refine T_W ?_
 unfold seeA at hQ
 generalize bget s a=u at *
 generalize bget s b=v at *
 cases v with
 | true =>
  simp only [go_sem,Zbo,e3,e5,a0,a1,b0,b1,ga,gb,fit,hset,hset2,List.getElem?_drop,hm]
  exact hQ _ (by simp only [go_sem]) (by simp only [go_sem]) (by simp only [go_sem]) (by simp only [go_sem]) (by simp only [go_sem]) (by simp only [go_sem]) (by simp only [go_sem]) (by simp only [go_sem])
 | false =>
  simp only [go_sem,Zbo,e3,e5,a0,a1,b0,b1,ga,gb,fit,hset,hset2,List.getElem?_drop,hm]
  exact hQ _ (by simp only [go_sem]) (by simp only [go_sem]) (by simp only [go_sem]) (by simp only [go_sem]) (by simp only [go_sem]) (by simp only [go_sem]) (by simp only [go_sem]) (by simp only [go_sem])
theorem Xa7 {nc:List AV}{E:List Sp}{s:List Bool}{n:Nat}{N0 i0:Int}(hs:s.length=n) (hE:∀ e,e∈E→e.1<n∧e.2.1<n) (hg:∀ f,gcL f nc=nc) (hEl:E.length≤1000000000) {K:Ex→St→Prop}
  (hK:∀ e:Nat→AV,e 1 = .ptr 0 0→e 3 = .osl none 1 0 n→e 12 = .int .i64 N0→e 13 = .int .i64 i0→K (.exit 2) ⟨e,[.cells nc,.cells (bc (E.foldl seeE s))]⟩) :
  T Tryz.prog 59 0 (.loop Zgp) ⟨envL [(1,.ptr 0 0),(3,.osl none 1 0 n),(12,.int .i64 N0),(13,.int .i64 i0),(16,.sl (pairsL E)),(17,.int .i64 (E.length:Int)),(18,.int .i64 0)],[.cells nc,.cells (bc s)]⟩ K:=by
 refine Ybd (fun k:Nat=>⟨envL [(1,.ptr 0 0),(3,.osl none 1 0 n),(12,.int .i64 N0),(13,.int .i64 i0),(16,.sl (pairsL E)),(17,.int .i64 (E.length:Int)),(18,.int .i64 (k:Int))],[.cells nc,.cells (bc ((E.take k).foldl seeE s))]⟩)
  (fun k=>k≤E.length) (fun k=>E.length - k) 0 (by omega) (Zab _ (by simp only [go_sem]; simp)) (fun k hk N hN=>?_)
 unfold Zgp
 by_cases hkn:k<E.length
 ·obtain ⟨⟨a,b,c⟩,he⟩:∃ e,E[k]? = some e:=⟨_,List.getElem?_eq_getElem hkn⟩
  obtain ⟨ha,hb⟩:=hE _ (List.mem_of_getElem? he)
  simp only at ha hb
  have hps:(pairsL E)[k]? = some (.agg [.int .i64 (a:Int),.int .i64 (b:Int)]):=by unfold pairsL; rw [List.getElem?_map,he]; rfl
  have q0:(0:Int)≤(k:Int):=by omega
  have q1:(k:Int)<(E.length:Int):=by omega
  have e1:IntKind.i64.wrap ((k:Int)+1)=((k+1:Nat):Int):=by rw [Zac (by omega) (by omega)]; omega
  have hstep:(E.take (k+1)).foldl seeE s=seeA b a (seeA a b ((E.take k).foldl seeE s)):=by
   rw [List.take_add_one,he,List.foldl_append]; rfl
  have hsl:((E.take k).foldl seeE s).length=n:=by rw [Yps,hs]
  generalize (E.take k).foldl seeE s=u at *
  refine Zen 1 rfl ?_
  simp only [go_sem,Zgk,q1]
  refine Znw (Zsn (Zen 0 rfl ?_))
  simp only [go_sem,Znz,q0,hps]
  refine Znw (Xcm (n:=n) hsl (by simp only [go_sem]) (by simp only [go_sem]) ha hb (fun e' h1 h3 h5 h12 h13 h16 h17 h18=>?_))
  simp only [go_sem] at h1 h3 h5 h12 h13 h16 h17 h18
  refine Y88 (n:=n) (by rw [Z2n,hsl]) h3 h5 ha hb (fun e2 k1 k3 k5 k12 k13 k16 k17 k18=>?_)
  refine T_W ?_
  simp only [go_sem,Zk1,k18,h18,e1]
  refine hN (k+1) _ (by omega) (by omega) (Zdp (Zii [0,1] (by decide) (fun i hi=>by omega) [(1,.ptr 0 0),(3,.osl none 1 0 n),(12,.int .i64 N0),(13,.int .i64 i0),(16,.sl (pairsL E)),(17,.int .i64 (E.length:Int)),(18,.int .i64 ((k+1:Nat):Int))] (by simp only [go_sem,k1,k3,k12,k13,k16,k17,h1,h3,h12,h13,h16,h17])) ?_)
  show St.mk _ [Blk.cells (gcL _ nc),Blk.cells (gcL _ (bc _))]=_
  rw [hg,Xed,hstep]
  rfl
 ·have hke:k=E.length:=by omega
  subst hke
  have q1:¬ ((E.length:Nat):Int)<(E.length:Int):=by omega
  refine T_W ?_
  simp only [go_sem,Zgk,q1,List.take_length]
  exact hK _ (by simp only [go_sem]) (by simp only [go_sem]) (by simp only [go_sem]) (by simp only [go_sem])
theorem Ymu {s:List Bool}(hl:s.length≤1000000000):∃ j:Int,SpecV Tryz.prog Ycv [.sl (bc s),.bool false] (.int .i64 j)∧(0≤j↔s.all id=false):=by
 have key:∃ j:Int,(0≤j↔s.all id=false)∧((j = -1∧∀ i:Nat,i<s.length→s[i]? = some true)∨∃ i:Nat,j=(i:Int)∧s[i]? = some false∧∀ i':Nat,i'<i→s[i']? = some true):=by
  clear hl
  induction s with
  | nil=>exact ⟨-1,by simp,.inl ⟨rfl,fun i hi=>by simp at hi⟩⟩
  | cons b s ih =>
   cases b with
   | false=>exact ⟨0,by simp,.inr ⟨0,rfl,rfl,fun i' hi'=>by omega⟩⟩
   | true =>
    obtain ⟨j,h1,h2⟩:=ih
    rcases h2 with ⟨rfl,h2⟩ | ⟨i,rfl,h2,h3⟩
    ·refine ⟨-1,by simpa using h1,.inl ⟨rfl,fun i hi=>?_⟩⟩
     cases i with
     | zero=>rfl
     | succ i=>simpa using h2 i (by simpa using hi)
    ·refine ⟨((i+1:Nat):Int),?_,.inr ⟨i+1,rfl,by simpa using h2,fun i' hi'=>?_⟩⟩
     ·have:s.all id=false:=h1.1 (by omega)
      simp [this]; omega
     ·cases i' with
      | zero=>rfl
      | succ i'=>simpa using h3 i' (by omega)
 obtain ⟨j,h1,h2⟩:=key
 refine ⟨j,?_,h1⟩
 refine Zae Ya0 (by simp) ?_
 unfold Z1s
 simp only [go_sem,Zql,Zqq,Ycz]
 refine Zag (fun i:Nat=>⟨envL [(0,.sl (bc s)),(1,.bool false),(7,.int .i64 (s.length:Int)),(8,.int .i64 (i:Int))],[]⟩) (fun i=>i≤s.length∧∀ i':Nat,i'<i→s[i']? = some true) (fun i=>s.length - i) 0 ⟨by omega,fun i' hi'=>by omega⟩ (Zab _ (by simp only [go_sem]; simp)) (fun i hI N hN=>?_)
 obtain ⟨g1,g2⟩:=hI
 unfold Zq4
 by_cases hi:i<s.length
 ·have q0:(0:Int)≤(i:Int):=by omega
  have q1:(i:Int)<(s.length:Int):=by omega
  have e1:IntKind.i64.wrap ((i:Int)+1)=((i+1:Nat):Int):=by rw [Zac (by omega) (by omega)]; omega
  have gi:=Ze3 hi
  cases hb:bget s i with
  | true =>
   rw [hb] at gi
   simp only [go_sem,Zd4,Zh4,Zh5,Zqz,q0,q1,Ydb gi,e1]
   exact hN (i+1) _ ⟨by omega,fun i' hi'=>by
    by_cases h:i'=i
    ·rw [h]; exact gi
    ·exact g2 i' (by omega)⟩ (by omega) (Zab _ (by simp only [go_sem]))
  | false =>
   rw [hb] at gi
   have hj:j=(i:Int):=by
    rcases h2 with ⟨_,h2⟩ | ⟨i2,rfl,h3,h4⟩
    ·have:=h2 i hi; rw [gi] at this; cases this
    ·have:i2=i:=by
      rcases Nat.lt_trichotomy i2 i with h | h | h
      ·have:=g2 i2 h; rw [h3] at this; cases this
      ·exact h
      ·have:=h4 i h; rw [gi] at this; cases this
     rw [this]
   rw [hj]
   simp only [go_sem,Zd4,Zh4,Zh5,Zqn,q0,q1,Ydb gi]
 ·have hie:i=s.length:=by omega
  subst hie
  have q1:¬ ((s.length:Nat):Int)<(s.length:Int):=by omega
  have hj:j = -1:=by
   rcases h2 with ⟨h2,_⟩ | ⟨i2,rfl,h3,h4⟩
   ·exact h2
   ·have:=g2 i2 (List.getElem?_eq_some_iff.1 h3).1
    rw [h3] at this; cases this
  rw [hj]
  simp only [go_sem,Zd4,Zqx,q1]
theorem Ycr {s:List Bool}(hl:s.length≤1000000000):SpecV Tryz.prog Z4a [.sl (bc s),.bool false] (.bool (!s.all id)):=by
 obtain ⟨j,h1,h2⟩:=Ymu hl
 refine Zae Z0w (by simp) ?_
 unfold Zqf
 simp only [go_sem,Zji,Zkc]
 refine Zaa h1 (by simp only [go_sem]) ?_
 cases ha:s.all id with
 | true =>
  have q:¬ (0:Int)≤j:=fun h=>by rw [h2.1 h] at ha; cases ha
  simp only [go_sem,q,Bool.not_true]
 | false =>
  have q:(0:Int)≤j:=h2.2 ha
  simp only [go_sem,q,Bool.not_false]
theorem Ycq {n:Nat}{E:List Sp}(hn:1≤n) (hnl:n≤1000000) (hE:∀ e,e∈E→e.1<n∧e.2.1<n) (hEl:E.length≤1000000000):SpecV Tryz.prog Z9k [.agg (netC n E)] (.bool (connB n E)):=by
 obtain ⟨nc,hnc⟩:∃ nc,nc=netC n E:=⟨_,rfl⟩
 have hg:∀ f,gcL f nc=nc:=fun f=>by rw [hnc]; rfl
 have hpl:(pairsL E).length=E.length:=by simp [pairsL]
 have hbl:(bc (start n)).length=n:=by rw [Ycz]; simp [start]
 have hst:(List.replicate n [AV.bool false]).flatten.take 0 ++ [AV.bool true]++(List.replicate n [AV.bool false]).flatten.drop 1=bc (start n):=by
  have h1:∀ k:Nat,(List.replicate k [AV.bool false]).flatten=bc (List.replicate k false):=by
   intro k
   induction k with
   | zero=>rfl
   | succ k ih=>rw [List.replicate_succ,List.flatten_cons,ih]; rfl
  rw [h1]
  exact bc_set' (s:=List.replicate n false) (i:=0) (b:=true) (by simp; omega)
 have hrl:((List.replicate n [AV.bool false]).flatten).length=n:=by simp
 refine Zae Z7w (by simp) ?_
 unfold Zyc
 have hsz:((1:Nat):Int)*(n:Int)≤281474976710656:=by omega
 have z0:(0:Int)≤(n:Int):=by omega
 have z1:(0:Int)<(n:Int):=by omega
 simp only [go_sem,Zm4,Zne,Zmy,Zm9,netC,hsz,z0,z1,Int.le_refl,Int.toNat_natCast,hrl]
 refine ⟨hn,?_⟩
 have hst':AV.bool true::(List.replicate n [AV.bool false]).flatten.drop 1=bc (start n):=by rw [← hst]; simp
 rw [hst']
 refine Zag (fun k:Nat=>⟨envL [(1,.ptr 0 0),(3,.osl none 1 0 n),(12,.int .i64 (n:Int)),(13,.int .i64 (k:Int))],[.cells nc,.cells (bc (seeN E k (start n)))]⟩)
  (fun k=>k≤n) (fun k=>n - k) 0 (by omega) (Zdp (Zab [(1,.ptr 0 0),(3,.osl none 1 0 n),(12,.int .i64 (n:Int)),(13,.int .i64 0)] (by simp only [go_sem])) (by rw [hnc]; rfl)) (fun k hk N hN=>?_)
 unfold Zmz
 have hsl:(seeN E k (start n)).length=n:=by rw [Zk6]; simp [start]
 by_cases hkn:k<n
 ·have q1:(k:Int)<(n:Int):=by omega
  have e1:IntKind.i64.wrap ((k:Int)+1)=((k+1:Nat):Int):=by rw [Zac (by omega) (by omega)]; omega
  have hnc1:nc.drop 1 = [.sl (pairsL E),.sl (condsL E)]:=by rw [hnc]; rfl
  simp only [go_sem,Zgv,Zns,q1,hnc1,hpl]
  refine Za2 [(1,.ptr 0 0),(3,.osl none 1 0 n),(12,.int .i64 (n:Int)),(13,.int .i64 (k:Int)),(16,.sl (pairsL E)),(17,.int .i64 (E.length:Int)),(18,.int .i64 0)] (by simp only [go_sem]) ?_
  refine Xa7 hsl hE hg hEl (fun e h1 h3 h12 h13=>?_)
  simp only [go_sem,Zk4,h13,e1]
  exact hN (k+1) _ (by omega) (by omega) (Zab _ (by simp only [go_sem,h1,h3,h12]))
 ·have hke:k=n:=by omega
  subst hke
  have q1:¬ ((k:Nat):Int)<(k:Int):=by omega
  simp only [go_sem,Zgv,Zk9,q1]
  have hbv:BVs [.cells nc,.cells (bc (seeN E k (start k)))] [1] [.osl none 1 0 k,.bool false] [.sl (bc (seeN E k (start k))),.bool false]:=by
   refine .cons ?_ (.cons (.bool _) .nil)
   have:=Xd2 (H := [.cells nc,.cells (bc (seeN E k (start k)))]) (ids := [1]) (b:=1) (s:=seeN E k (start k)) rfl (by simp)
   rwa [hsl] at this
  refine Zlk (Ycr (by omega)) hbv (.inr (.bool _)) (fun _ _=>trivial) ?_
  simp only [go_sem,Bool.not_not]
  rfl
end GoAbs
namespace GoAbs
open Go Go.Proofs
def unitF (n a b:Nat):List Rat:=((List.replicate n (0:Rat)).set a 1).set b (-1)
theorem Ze8 {n a b:Nat}:(unitF n a b).length=n:=by simp [unitF]
theorem Yy4 {n a b:Nat}{L:List Spr}{E:List Sp}{x:List Rat}(hL:L.length≤1000000000) (hl:∀ s,s∈L→s.2.2.length≤1000000000) (h:readR n L = .tup [.agg (netC n E),.int .i64 0]) (ha:a<n) (hb:b<n) (hab:a≠b)
  (hn:1≤n) (hnl:n≤1000000) (hE:∀ e,e∈E→e.1<n∧e.2.1<n) (hEl:E.length≤1000000000) (hc:connB n E=true) (hmv:SpecV Tryz.prog Zwj [.agg (netC n E),.sl (condsR (unitF n a b))] (.sl (condsR x))) :
  SpecV Tryz.prog Zja [.int .i64 (n:Int),.sl (L.map sprAV),.int .i64 (a:Int),.int .i64 (b:Int)] (.tup [.agg (netC n E),.sl (condsR x),.int .i64 0]):=by
 have hmx:Tryz.prog.follows .mixedOrders=true:=by kernel_rfl
 have hs:=Zla (n:=n) hL hl
 rw [h] at hs
 have hcon:=Ycq hn hnl hE hEl
 rw [hc] at hcon
 have hgn:∀ f,gcL f (netC n E)=netC n E:=fun f=>rfl
 obtain ⟨nc,hnc⟩:∃ nc,nc=netC n E:=⟨_,rfl⟩
 have hn3:nc.length=3:=by rw [hnc]; rfl
 have t3:nc.drop 3 = []:=by rw [hnc]; rfl
 have k3:nc.take 3=nc:=by rw [hnc]; rfl
 have hbv:∀ (H:Heap) (ids:List Nat),BVs H ids nc nc=True:=fun H ids=>by rw [hnc]; unfold netC; simp only [go_sem]
 rw [← hnc] at hs hcon hmv hgn ⊢
 have p1:¬ (a:Int)<0:=by omega
 have p2:¬ (n:Int)≤(a:Int):=by omega
 have p3:¬ (b:Int)<0:=by omega
 have p5:¬ (n:Int)≤(b:Int):=by omega
 have p6:¬ (a:Int)=(b:Int):=by omega
 have a0:(0:Int)≤(a:Int):=by omega
 have a1:(a:Int)<(n:Int):=by omega
 have b0:(0:Int)≤(b:Int):=by omega
 have b1:(b:Int)<(n:Int):=by omega
 refine Zbr Ycb (by simp) (Zen 4 rfl ?_)
 unfold Z5s
 simp only [go_sem,Zvg,Zuy]
 refine Zaa hs (by simp only [go_sem]) ?_
 simp only [go_sem,Zu3,Zvh,Zvk,hn3,t3,k3,p1,p2,p3,p5,p6]
 refine Zaa hcon (by simp only [go_sem,hbv]) ?_
 simp only [go_sem,Bool.not_true,Zuh]
 refine Zaa Yd5 (by simp only [go_sem]) ?_
 simp only [go_sem,Zbb,Zak]
 have hrep:SpecR Tryz.prog Zfr [.cells [.int .i64 0,.nils,.nils],.cells nc,.cells (qcell 0)] [.osl (some 4) 2 0 1,.int .i64 (n:Int)] (.osl (some 4) 3 0 n) [.cells [.int .i64 0,.nils,.nils],.cells nc,.dead,.cells (qc (List.replicate n 0))]:=by
  have h:=Zvm (P:=Tryz.prog) (H := [.cells [.int .i64 0,.nils,.nils],.cells nc,.cells (qcell 0)]) (ids := [2]) (xs := [.osl (some 4) 2 0 1,.int .i64 (n:Int)]) (Z4f hn hnl (x:=qcell 0) rfl)
   (by
    simp only [go_sem]
    exact Ynf rfl rfl (by simp) (by rw [Zan]; trivial)) (by simp only [go_sem])
  have e3 : [Blk.cells (rows n (qcell 0))].map (Blk.gc (fun i=>some (i + [Blk.cells [.int .i64 0,.nils,.nils],.cells nc,.cells (qcell 0)].length))) = [.cells (qc (List.replicate n 0))]:=by
   simp only [List.map_cons,List.map_nil,Blk.gc,Yma,Ypr]
  rw [e3] at h
  exact h
 refine Zi0 hrep ?_
 have hone:=Y37
 have hneg:=Ygc (z := -1) (by omega) (by omega)
 have hm1:((-1:Int):Rat) = -1:=rfl
 rw [hm1] at hneg
 have q0:(qc (List.replicate n (0:Rat))).length=n*4:=by rw [Zm1,List.length_replicate]
 have q1:(qc ((List.replicate n (0:Rat)).set a 1)).length=n*4:=by rw [Zm1,List.length_set,List.length_replicate]
 have fa:a*4+4≤n*4:=by omega
 have fb:b*4+4≤n*4:=by omega
 have sa:=Z6s (r:=List.replicate n (0:Rat)) (j:=a) (x:=1) (by rw [List.length_replicate]; exact ha)
 have sb:=Z6s (r:=(List.replicate n (0:Rat)).set a 1) (j:=b) (x := -1) (by rw [List.length_set,List.length_replicate]; exact hb)
 simp only [go_sem,Zq6]
 refine Zaa hone (by simp only [go_sem]) ?_
 simp only [go_sem]
 refine Zaa hneg (by simp only [go_sem]) ?_
 simp only [go_sem,Zbb,Zak,a0,a1,b0,b1,q0,q1,fa,fb,sa,sb]
 have hul:(unitF n a b).length=n:=Ze8
 have hfr:=Zwi (H := [.cells [.int .i64 0,.nils,.nils],.cells nc,.dead,.cells (qc (unitF n a b))]) (ids := [3]) (b:=3) (r:=unitF n a b) rfl (by simp)
 rw [hul] at hfr
 refine T_le (Zt5 [3] [(8,.ptr 0 0),(11,.ptr 1 0),(13,.sl (condsR (unitF n a b)))] ⟨.inr (by simp only [go_sem]),.inr (by simp only [go_sem]),.inl (by simp only [go_sem]; exact hfr),trivial⟩) (T_W ?_)
 show W _ _ _ _ ⟨_,[.cells [.int .i64 0,.nils,.nils],.cells nc,.dead,.dead]⟩ _
 simp only [go_sem,Zib,hn3,k3,hmx]
 refine Zaa hmv (by simp only [go_sem,hbv]) ?_
 simp only [go_sem,hn3,t3,k3]
 simp only [go_sem,hn3,k3,hbv]
end GoAbs
namespace GoAbs
open Go Go.Proofs
def numR (q:Rat):AV:=if NumOk q then .tup [.str (bs (numS q)),.int .i64 0] else .tup [.str (bs []),.int .i64 4]
theorem Ydy {n a b k:Nat}{L:List Spr}{E:List Sp}{x:List Rat}(h:SpecV Tryz.prog Zja [.int .i64 (n:Int),.sl (L.map sprAV),.int .i64 (a:Int),.int .i64 (b:Int)] (.tup [.agg (netC n E),.sl (condsR x),.int .i64 0]))
  (ha:a<x.length) (hb:b<x.length) (hx:Rb k x) (hk1:1≤k) (hk:k≤60000000000) (hne:rget x a - rget x b≠0) :
  SpecV Tryz.prog Zb6 [.int .i64 (n:Int),.sl (L.map sprAV),.int .i64 (a:Int),.int .i64 (b:Int)] (numR (1 / (rget x a - rget x b))):=by
 have hmx:Tryz.prog.follows .mixedOrders=true:=by kernel_rfl
 have hbv:∀ (H:Heap) (ids:List Nat),BVs H ids (netC n E) (netC n E)=True:=fun H ids=>by unfold netC; simp only [go_sem]
 have hl3:(netC n E).length=3:=rfl
 have ht3:(netC n E).drop 3 = []:=rfl
 have a0:(0:Int)≤(a:Int):=by omega
 have b0:(0:Int)≤(b:Int):=by omega
 have ga:=Zda (Zaj ha)
 have gb:=Zda (Zaj hb)
 have b1:=(hx.get ha).sub2 (hx.get hb)
 have hq:=(Qb.one (k:=k+k+1) (by omega)).div2 b1 hne
 have h1:=Yxm (k:=k) (hx.get ha) (hx.get hb) (by omega)
 have h2:=Y10 (k:=k+k+1) (Qb.one (by omega)) b1 hne (by omega)
 have h3:=Y22 (q:=1 / (rget x a - rget x b)) (Zmp hq.n (by omega)) (Zmp hq.d (by omega))
 have ql:∀ q:Rat,(qcell q).length=4:=fun q=>rfl
 have qt:∀ q:Rat,(qcell q).take 4=qcell q:=fun q=>rfl
 generalize 1 / (rget x a - rget x b)=q at *
 refine Zae Z4e (by simp) ?_
 unfold Zvs
 simp only [go_sem,Zlr,Zlz]
 refine Zaa h (by simp only [go_sem]) ?_
 simp only [go_sem,Zle,Zfh,hl3,ht3,hmx,a0,b0,ga,gb,ql,qt]
 refine Zaa Y37 (by simp only [go_sem]) ?_
 simp only [go_sem,a0,b0,ga,gb,ql,qt]
 refine Zaa h1 (by simp only [go_sem,Zbb,Zan]) ?_
 simp only [go_sem]
 refine Zaa h2 (by simp only [go_sem,Zbb,Zan]) ?_
 simp only [go_sem]
 refine Zaa h3 (by simp only [go_sem,Zbb,Zan]) ?_
 unfold numR
 by_cases hok:NumOk q
 ·simp only [if_pos hok,go_sem]
 ·simp only [if_neg hok,go_sem]
end GoAbs
namespace GoAbs
open Go Go.Proofs
def L3:List Spr := [(0,1,[49]),(1,2,[49]),(0,2,[49])]
def E3:List Sp := [(0,1,1),(1,2,1),(0,2,1)]
theorem Yh9:parseL [49]=some 1:=by decide+kernel
theorem Y3u:L3.map toE=E3:=by
 simp [L3,E3,toE,Yh9]
theorem lapl3:lapl 2 E3 = [[2,-1],[-1,2]]:=by decide+kernel
theorem unit3:(unitF 3 0 1).drop 1 = [-1,0]:=by decide+kernel
theorem aug3:aug (lapl 2 E3) ((unitF 3 0 1).drop 1) = [[2,-1,-1],[-1,2,0]]:=by rw [lapl3,unit3]; rfl
theorem tri3:(tri 2 0 [[2,-1,-1],[-1,2,0]] 1).2 = [[2,-1,-1],[0,3/2,-1/2]]:=by decide+kernel
theorem bsub3:bsub [[2,-1,-1],[0,3/2,-1/2]] 2 2 = [-2/3,-1/3]:=by decide+kernel
theorem fsum3:Fsum 3 id 2 E3=3:=by decide+kernel
theorem conn3:connB 3 E3=true:=by decide+kernel
theorem nums3:numS 3 = [51]:=by decide+kernel
theorem nums32:numS (3/2) = [51,47,50]:=by decide+kernel
theorem read3:readR 3 L3 = .tup [.agg (netC 3 E3),.int .i64 0]:=by
 have h1:(L3.all fun s=>(parseL s.2.2).isSome)=true:=by simp [L3,Yh9]
 have h2:(decide (2≤(3:Int)∧(3:Int)≤10∧L3.length≤40) && L3.all (sprOk 3))=true:=by decide+kernel
 unfold readR
 rw [h1,h2,Y3u]
 rfl
theorem len3:∀ s,s∈L3→s.2.2.length≤1000000000:=fun s hs=>by
 simp [L3] at hs
 rcases hs with rfl | rfl | rfl <;> simp
theorem ok3:NetOk 3 E3:=by
 refine ⟨by omega,fun e he=>?_⟩
 simp only [E3,List.mem_cons,List.not_mem_nil,or_false] at he
 have hf:Fitd 20 (1:Rat):=by decide+kernel
 rcases he with rfl | rfl | rfl
 ·exact ⟨by decide,by decide,by decide,by decide,hf⟩
 ·exact ⟨by decide,by decide,by decide,by decide,hf⟩
 ·exact ⟨by decide,by decide,by decide,by decide,hf⟩
theorem Ym5:SpecV Tryz.prog Zx0 [.int .i64 3,.sl (L3.map sprAV)] (.tup [.str (bs [51]),.int .i64 0]):=by
 have h:=Ymh (n:=3) (L:=L3) (by decide) (by omega) len3 (by rw [Y3u]; exact read3) (by rw [Y3u]; exact ok3)
 rw [Y3u] at h
 have hF:Fsum (3:Int).toNat id ((3:Int).toNat - 1) E3=3:=fsum3
 rw [hF,if_pos (by decide+kernel),nums3] at h
 exact h
theorem Ye8 {q:Rat}(h:q.num.natAbs<1048576∧q.den<1048576):Qb 20 q:=⟨h.1,h.2⟩
theorem move3:SpecV Tryz.prog Zwj [.agg (netC 3 E3),.sl (condsR (unitF 3 0 1))] (.sl (condsR [0,-2/3,-1/3])):=by
 have h:=Yis (m:=2) (k:=20) (a:=20) (E:=E3) (f:=unitF 3 0 1) (by omega) (by omega) (kE:=67) (fun e he=>⟨(ok3.e e he).1,(ok3.e e he).2.1,(ok3.e e he).2.2.2.2.bits⟩) (by omega) (by decide) (by decide) Ze8
  (by
   rw [aug3]
   intro r hr x hx
   simp only [List.mem_cons,List.not_mem_nil,or_false] at hr
   rcases hr with rfl | rfl <;> simp only [List.mem_cons,List.not_mem_nil,or_false] at hx <;> rcases hx with rfl | rfl | rfl <;> exact Ye8 (by decide))
  (by omega) (by decide)
  (by
   rw [aug3]
   refine ⟨fun h=>absurd h (by decide+kernel),fun _=>⟨fun h=>absurd h (by decide+kernel),fun _=>trivial⟩⟩)
  (by
   rw [aug3,tri3]
   intro r hr x hx
   simp only [List.mem_cons,List.not_mem_nil,or_false] at hr
   rcases hr with rfl | rfl <;> simp only [List.mem_cons,List.not_mem_nil,or_false] at hx <;> rcases hx with rfl | rfl | rfl <;> exact Ye8 (by decide+kernel))
  (by
   rw [aug3,tri3]
   intro r hr
   simp only [List.mem_cons,List.not_mem_nil,or_false] at hr
   rcases hr with rfl | rfl <;> rfl)
  (by
   rw [aug3,tri3]
   intro i hi
   have:i=0∨i=1:=by omega
   rcases this with rfl | rfl <;> decide+kernel)
  (fun k hk=>by
   have:k=0∨k=1:=by omega
   rcases this with rfl | rfl <;> decide)
 rw [aug3,tri3,bsub3] at h
 exact h
theorem Yft:SpecV Tryz.prog Zb6 [.int .i64 3,.sl (L3.map sprAV),.int .i64 0,.int .i64 1] (.tup [.str (bs [51,47,50]),.int .i64 0]):=by
 have hl:=Yy4 (n:=3) (a:=0) (b:=1) (L:=L3) (E:=E3) (x := [0,-2/3,-1/3]) (by decide) len3 read3 (by omega) (by omega) (by omega) (by omega) (by omega) (fun e he=>⟨(ok3.e e he).1,(ok3.e e he).2.1⟩) (by decide) conn3 move3
 have h:=Ydy (k:=20) hl (by decide) (by decide) (fun x hx=>by
  simp only [List.mem_cons,List.not_mem_nil,or_false] at hx
  rcases hx with rfl | rfl | rfl <;> exact Ye8 (by decide+kernel)) (by omega) (by omega) (by decide+kernel)
 have hv:(1:Rat) / (rget [0,-2/3,-1/3] 0 - rget [0,-2/3,-1/3] 1)=3/2:=by decide+kernel
 unfold numR at h
 rw [hv,if_pos (by decide+kernel),nums32] at h
 exact h
theorem llives:SpecV Tryz.prog Yk6 [] (.bool true):=by
 refine Zbr Yj5 (by simp) (Zen 1 rfl ?_)
 unfold Ydg
 have h49:(⟨#[49]⟩:ByteArray)=bs [49]:=rfl
 have h51:(⟨#[51]⟩:ByteArray)=bs [51]:=rfl
 have h32:(⟨#[51,47,50]⟩:ByteArray)=bs [51,47,50]:=rfl
 simp only [go_sem,Z3o,Z1j,h49]
 have hbv:=Yxx (H := [.cells (L3.flatMap sC)]) (ids := [0]) (b:=0) (L:=L3) rfl (by simp)
 refine T_le (Zt5 [0] [(1,.sl (L3.map sprAV))] ⟨.inl (by simp only [go_sem]; exact hbv),trivial⟩) (T_W ?_)
 show W _ _ _ _ ⟨_,[.dead]⟩ _
 simp only [go_sem,Z23]
 refine Zaa Ym5 (by simp only [go_sem]) ?_
 simp only [go_sem,Z2r]
 refine Zaa Yft (by simp only [go_sem]) ?_
 simp only [go_sem,Z0z,h51,h32]
end GoAbs
namespace GoAbs
open Go Go.Proofs
theorem Y8g (a b d D n q:Rat) (hd:d≠0) (hD:D≠0) (hq:q=n / d):a / D+q*(b / D)=(a*d+n*b) / (d*D):=by grind
theorem Z8j {n M:Nat}(hM:1≤M):∀ {l:List MSp}{k:Nat}{p:Nat→Nat},(∀ s,s∈l→s.2.2.num.natAbs≤M∧s.2.2.den≤M) →
  ∃ N:Int,N.natAbs≤(2*M) ^ l.length∧Fsum n p k l=Rat.divInt N ((l.map fun s=>s.2.2.den).prod:Nat)
 | l,0,p,h=>by
  have hp:0<(l.map fun s:MSp=>s.2.2.den).prod:=by
   clear h
   induction l with
   | nil=>decide
   | cons s l ih=>rw [List.map_cons,List.prod_cons]; exact Nat.mul_pos s.2.2.den_pos ih
  have hle:(l.map fun s:MSp=>s.2.2.den).prod≤(2*M) ^ l.length:=by
   clear hp
   induction l with
   | nil=>simp
   | cons s l ih =>
    rw [List.map_cons,List.prod_cons,List.length_cons,Nat.pow_succ,Nat.mul_comm]
    have h1:=ih (fun t ht=>h t (by simp [ht]))
    have h2:=(h s (by simp)).2
    exact Nat.mul_le_mul h1 (by omega)
  generalize (l.map fun s:MSp=>s.2.2.den).prod=D at *
  unfold Fsum
  split
  ·exact ⟨(D:Int),by rw [Int.natAbs_natCast]; exact hle,by rw [Rat.divInt_self' (by omega)]⟩
  ·exact ⟨0,by simp,by rw [Rat.zero_divInt]⟩
 | [],k+1,p,h=>⟨0,by simp,by unfold Fsum; rw [Rat.zero_divInt]⟩
 | s::l,k+1,p,h=>by
  obtain ⟨N1,a1,e1⟩:=Z8j (n:=n) hM (l:=l) (k:=k+1) (p:=p) (fun t ht=>h t (by simp [ht]))
  obtain ⟨N2,a2,e2⟩:=Z8j (n:=n) hM (l:=l) (k:=k) (p:=mrg p (p s.1) (p s.2.1)) (fun t ht=>h t (by simp [ht]))
  have hp:0<(l.map fun s:MSp=>s.2.2.den).prod:=by
   clear h e1 e2 a1 a2
   induction l with
   | nil=>decide
   | cons s l ih=>rw [List.map_cons,List.prod_cons]; exact Nat.mul_pos s.2.2.den_pos ih
  obtain ⟨g1,g2⟩:=h s (by simp)
  refine ⟨N1*s.2.2.den+s.2.2.num*N2,?_,?_⟩
  ·have h1:=Int.natAbs_add_le (N1*s.2.2.den) (s.2.2.num*N2)
   rw [Int.natAbs_mul,Int.natAbs_mul,Int.natAbs_natCast] at h1
   have k1:N1.natAbs*s.2.2.den≤(2*M) ^ l.length*M:=Nat.mul_le_mul a1 g2
   have k2:s.2.2.num.natAbs*N2.natAbs≤M*(2*M) ^ l.length:=Nat.mul_le_mul g1 a2
   rw [List.length_cons,Nat.pow_succ]
   have k3:(2*M) ^ l.length*(2*M)=(2*M) ^ l.length*M+M*(2*M) ^ l.length:=by rw [Nat.mul_left_comm,Nat.two_mul,Nat.mul_comm M]
   omega
  ·rw [List.map_cons,List.prod_cons]
   generalize (l.map fun s:MSp=>s.2.2.den).prod=D at *
   unfold Fsum
   rw [e1,e2]
   have hd:(s.2.2.den:Int)≠0:=by have:=s.2.2.den_pos; omega
   have hD:(D:Int)≠0:=by omega
   rw [Rat.divInt_eq_div,Rat.divInt_eq_div,Rat.divInt_eq_div]
   have c1:((N1*(s.2.2.den:Int)+s.2.2.num*N2:Int):Rat)=(N1:Rat)*((s.2.2.den:Int):Rat)+(s.2.2.num:Rat)*(N2:Rat):=by rw [Rat.intCast_add,Rat.intCast_mul,Rat.intCast_mul]
   have c2:(((s.2.2.den*D:Nat):Int):Rat)=((s.2.2.den:Int):Rat)*((D:Int):Rat):=by rw [Int.natCast_mul,Rat.intCast_mul]
   rw [c1,c2]
   have hd':((s.2.2.den:Int):Rat)≠0:=fun h=>hd (Rat.intCast_eq_zero_iff.1 h)
   have hD':((D:Int):Rat)≠0:=fun h=>hD (Rat.intCast_eq_zero_iff.1 h)
   have hq':s.2.2=(s.2.2.num:Rat) / ((s.2.2.den:Int):Rat):=by rw [← Rat.divInt_eq_div,Rat.num_divInt_den]
   exact Y8g _ _ _ _ _ _ hd' hD' hq'
end GoAbs
namespace GoAbs
open Go Go.Proofs
theorem NetL.size {n m k:Nat}{L:List Spr}(h:NetL n L):(Fsum m id k (L.map toE)).num.natAbs<10 ^ 260∧(Fsum m id k (L.map toE)).den<10 ^ 260:=by
 have hs:∀ s,s∈L.map toE→s.2.2.num.natAbs≤1000000∧s.2.2.den≤1000000:=fun s hs=>by
  obtain ⟨t,ht,rfl⟩:=List.mem_map.1 hs
  obtain ⟨_,q,hq,_,q1,q2,_⟩:=h.ok t ht
  have:(toE t).2.2=q:=by simp [toE,hq]
  rw [this]; exact ⟨q1,q2⟩
 obtain ⟨N,hN,hF⟩:=Z8j (n:=m) (M:=1000000) (by omega) (k:=k) (p:=id) hs
 have hD:((L.map toE).map fun s=>s.2.2.den).prod≤1000000 ^ (L.map toE).length∧0<((L.map toE).map fun s=>s.2.2.den).prod:=by
  clear hF hN h
  generalize L.map toE=E at *
  induction E with
  | nil=>exact ⟨by decide,by decide⟩
  | cons s E ih =>
   obtain ⟨g1,g2⟩:=ih (fun t ht=>hs t (by simp [ht]))
   rw [List.map_cons,List.prod_cons,List.length_cons,Nat.pow_succ,Nat.mul_comm]
   exact ⟨Nat.mul_le_mul g1 (hs s (by simp)).2,Nat.mul_pos g2 s.2.2.den_pos⟩
 rw [List.length_map] at hN hD
 have b1:(2*1000000) ^ L.length≤(2*1000000) ^ 40:=Nat.pow_le_pow_right (by omega) h.len
 have b2:1000000 ^ L.length≤1000000 ^ 40:=Nat.pow_le_pow_right (by omega) h.len
 have c1:(2*1000000) ^ 40<10 ^ 260:=by decide+kernel
 have c2:1000000 ^ 40<10 ^ 260:=by decide+kernel
 generalize ((L.map toE).map fun s=>s.2.2.den).prod=D at *
 obtain ⟨g1,g2⟩:=Zcv (n:=N) (d:=(D:Int)) (by omega)
 rw [← hF] at g1 g2
 rw [Int.natAbs_natCast] at g2
 exact ⟨Nat.lt_of_le_of_lt g1 (Nat.lt_of_le_of_lt hN (Nat.lt_of_le_of_lt b1 c1)),Nat.lt_of_le_of_lt g2 (Nat.lt_of_le_of_lt hD.1 (Nat.lt_of_le_of_lt b2 c2))⟩
theorem Yx6 {q:Rat}(h:q.num.natAbs<10 ^ 260∧q.den<10 ^ 260):NumOk q∧Ib 900 q.num∧Ib 900 (q.den:Int):=by
 have c:10 ^ 260<2 ^ 900:=by decide+kernel
 refine ⟨⟨Nat.le_trans (Zl8 (by omega) h.1) (by omega),.inr (Nat.le_trans (Zl8 (by omega) h.2) (by omega))⟩,Nat.lt_trans h.1 c,?_⟩
 show (q.den:Int).natAbs<_
 rw [Int.natAbs_natCast]
 exact Nat.lt_trans h.2 c
def treesF (n:Nat) (L:List Spr):Rat:=Fsum n id (n - 1) (L.map toE)
def one1 (low high:Nat) (s:Spr):List Spr:=if oneN low high s.1.toNat=oneN low high s.2.1.toNat then [] else [((oneN low high s.1.toNat:Nat),(oneN low high s.2.1.toNat:Nat),s.2.2)]
def oneS (low high:Nat) (L:List Spr):List Spr:=L.flatMap (one1 low high)
end GoAbs
namespace GoAbs
open Go Go.Proofs
theorem Yk2 {n:Nat}{a b:Int}{v:Int}(h:EndsOk n a b):EndsOk n ((a,b,numS (numQ v)):Spr).1 ((a,b,numS (numQ v)):Spr).2.1∧∃ q,parseL ((a,b,numS (numQ v)):Spr).2.2=some q∧0<q∧q.num.natAbs≤1000000∧q.den≤1000000∧((a,b,numS (numQ v)):Spr).2.2.length≤8002:=by
 obtain ⟨h0,h1,h2⟩:=Ylb v
 have hk:=(Ygi v).1
 exact ⟨h,numQ v,Za3 hk,h0,by omega,by omega,Ygx hk⟩
theorem Y1k {n:Nat}{X:List Spr}{p:List Int}(h2:2≤n) (h6:n≤6):NetL n (madeL n X p)∧1≤(madeL n X p).length:=by
 have hex:∀ Y:List Spr,(extraL n Y).length≤Y.length:=fun Y=>by
  induction Y with
  | nil=>exact Nat.le_refl 0
  | cons s Y ih =>
   show (extra1 n s++extraL n Y).length≤_
   have:(extra1 n s).length≤1:=by unfold extra1; split <;> simp
   rw [List.length_append,List.length_cons]; omega
 have h3:=hex (X.take 6)
 have h4:(X.take 6).length≤6:=by rw [List.length_take]; omega
 refine ⟨⟨?_,fun s hs=>?_⟩,?_⟩
 ·unfold madeL; rw [List.length_append,Znh]; omega
 ·unfold madeL at hs
  rcases List.mem_append.1 hs with hs | hs
  ·obtain ⟨i,hi,rfl⟩:=List.mem_map.1 hs
   have hi':=List.mem_range.1 hi
   exact Yk2 ⟨by omega,by omega,by omega,by omega,by omega⟩
  ·obtain ⟨t,_,ht⟩:=List.mem_flatMap.1 hs
   unfold extra1 at ht
   split at ht
   ·simp at ht
   ·rename_i hne
    simp at ht
    subst ht
    have a1:=Int.emod_nonneg t.1 (show (n:Int)≠0 by omega)
    have a2:=Int.emod_lt_of_pos t.1 (show (0:Int)<n by omega)
    have b1:=Int.emod_nonneg t.2.1 (show (n:Int)≠0 by omega)
    have b2:=Int.emod_lt_of_pos t.2.1 (show (0:Int)<n by omega)
    exact Yk2 ⟨a1,a2,b1,b2,hne⟩
 ·unfold madeL; rw [List.length_append,Znh]; omega
theorem Yu5 {n low high v:Nat}(h:low<high) (hh:high<n) (hv:v<n):oneN low high v<n - 1:=by
 unfold oneN; split
 ·omega
 ·split <;> omega
theorem Yge {n low high:Nat}{L:List Spr}(h:NetL n L) (hlh:low<high) (hh:high<n):NetL (n - 1) (oneS low high L):=by
 refine ⟨?_,fun s hs=>?_⟩
 ·have:∀ Y:List Spr,(oneS low high Y).length≤Y.length:=fun Y=>by
   induction Y with
   | nil=>exact Nat.le_refl 0
   | cons s Y ih =>
    show (one1 low high s++oneS low high Y).length≤_
    have:(one1 low high s).length≤1:=by unfold one1; split <;> simp
    rw [List.length_append,List.length_cons]; omega
  exact Nat.le_trans (this L) h.len
 ·obtain ⟨t,htL,ht⟩:=List.mem_flatMap.1 hs
  obtain ⟨⟨k1,k2,k3,k4,k5⟩,q,hq⟩:=h.ok t htL
  unfold one1 at ht
  split at ht
  ·simp at ht
  ·rename_i hne
   simp at ht
   subst ht
   have a:=Yu5 (v:=t.1.toNat) hlh hh (by omega)
   have b:=Yu5 (v:=t.2.1.toNat) hlh hh (by omega)
   exact ⟨⟨by show (0:Int)≤((oneN low high t.1.toNat:Nat):Int); omega,by show ((oneN low high t.1.toNat:Nat):Int)<_; omega,by show (0:Int)≤((oneN low high t.2.1.toNat:Nat):Int); omega,by show ((oneN low high t.2.1.toNat:Nat):Int)<_; omega,by show ((oneN low high t.1.toNat:Nat):Int)≠((oneN low high t.2.1.toNat:Nat):Int); omega⟩,q,hq⟩
theorem Yy8 {low high:Nat}:∀ {L:List Spr},(oneS low high L).map toE=oneL low high (L.map toE)
 | []=>rfl
 | s::L=>by
  have ih:=Yy8 (low:=low) (high:=high) (L:=L)
  show (one1 low high s++oneS low high L).map toE=((nameE (oneN low high) (toE s)::(L.map toE).map (nameE (oneN low high))).filter _)
  rw [List.map_append,ih]
  unfold one1
  by_cases h:oneN low high s.1.toNat=oneN low high s.2.1.toNat
  ·rw [if_pos h,List.filter_cons_of_neg (by simp [nameE,toE,h])]
   rfl
  ·rw [if_neg h,List.filter_cons_of_pos (by simp [nameE,toE,h])]
   simp only [List.map_cons,List.map_nil,List.singleton_append,List.cons.injEq]
   refine ⟨?_,rfl⟩
   simp [nameE,toE]
theorem NetL.pos {n:Nat}{L:List Spr}(h:NetL n L):Pos (L.map toE)∧InN n (L.map toE):=by
 refine ⟨fun e he=>?_,fun e he=>?_⟩
 ·obtain ⟨s,hs,rfl⟩:=List.mem_map.1 he
  obtain ⟨_,q,hq,h0,_⟩:=h.ok s hs
  have:(toE s).2.2=q:=by simp [toE,hq]
  rw [this]; exact Rat.le_of_lt h0
 ·obtain ⟨s,hs,rfl⟩:=List.mem_map.1 he
  obtain ⟨⟨k1,k2,k3,k4,k5⟩,_⟩:=h.ok s hs
  exact ⟨by show s.1.toNat<n; omega,by show s.2.1.toNat<n; omega⟩
end GoAbs
namespace GoAbs
open Go Go.Proofs
end GoAbs
namespace GoAbs
theorem Ypd {R S:List Nat}{f:Nat→Rat}:sumL (R++S) f=sumL R f+sumL S f:=by
 induction R with
 | nil=>rw [List.nil_append,Zg1]; grind
 | cons i R ih=>rw [List.cons_append,Zal,Zal,ih]; grind
theorem Ykk {r:Nat}{R:List Nat}{A:Mat}{v x:Nat→Rat}(hs:∀ i j,A i j=A j i) (hd:A r r≠0) (h:∀ i,i∈r::R→sumL (r::R) (fun j=>x j*A i j)=v i) :
  ∀ i,i∈R→sumL R (fun j=>x j*schur r A i j)=v i - v r*A i r / A r r:=fun i hi=>by
 have h1:=h i (by simp [hi])
 have h2:=h r (by simp)
 rw [Zal] at h1 h2
 have h3:sumL R (fun j=>x j*schur r A i j)=sumL R (fun j=>x j*A i j)+(-(A i r / A r r))*sumL R (fun j=>x j*A r j):=by
  rw [← Za0, ← Zba]
  refine Zaf (fun j _=>?_)
  unfold schur
  grind
 rw [h3]
 have h4:sumL R (fun j=>x j*A i j)=v i - x r*A i r:=by grind
 have h5:sumL R (fun j=>x j*A r j)=v r - x r*A r r:=by grind
 rw [h4,h5]
 grind
theorem Yml {r:Nat}{R:List Nat}{A:Mat}(h:dt (r::R) A≠0):A r r≠0∧dt R (schur r A)≠0:=by
 unfold dt at h
 exact ⟨fun e=>h (by rw [e]; grind),fun e=>h (by rw [e]; grind)⟩
theorem Ygb:∀ {R:List Nat}{A:Mat}{v x:Nat→Rat},(∀ i j,A i j=A j i)→dt R A≠0→(∀ i,i∈R→sumL R (fun j=>x j*A i j)=v i)→sumL R (fun i=>v i*x i)*dt R A=gt R A v
 | [],A,v,x,_,_,_=>by unfold dt gt; rw [Zg1]; grind
 | r::R,A,v,x,hs,hd,h=>by
  obtain ⟨d1,d2⟩:=Yml hd
  have ih:=Ygb (Z9l hs) d2 (Ykk hs d1 h)
  have h2:=h r (by simp)
  rw [Zal] at h2
  unfold dt gt
  rw [← ih,Zal]
  have h3:sumL R (fun i=>(v i - v r*A i r / A r r)*x i)=sumL R (fun i=>v i*x i)+(-(v r / A r r))*sumL R (fun j=>x j*A r j):=by
   rw [← Za0, ← Zba]
   refine Zaf (fun j _=>?_)
   rw [hs j r]
   grind
  rw [h3]
  have h5:sumL R (fun j=>x j*A r j)=v r - x r*A r r:=by grind
  rw [h5]
  generalize sumL R (fun i=>v i*x i)=y
  generalize dt R (schur r A)=D
  grind
theorem Yqj:∀ {R:List Nat}{A:Mat}{x:Nat→Rat},(∀ i j,A i j=A j i)→dt R A≠0→(∀ i,i∈R→sumL R (fun j=>x j*A i j)=0)→∀ i,i∈R→x i=0
 | [],A,x,_,_,_=>by simp
 | r::R,A,x,hs,hd,h=>by
  obtain ⟨d1,d2⟩:=Yml hd
  have ih:=Yqj (x:=x) (Z9l hs) d2 (fun i hi=>by rw [Ykk (v:=fun _=>0) hs d1 h i hi]; grind)
  have h2:=h r (by simp)
  rw [Zal,Zdu (fun i hi=>by rw [ih i hi]; grind)] at h2
  intro i hi
  rcases List.mem_cons.1 hi with rfl | hi
  ·have h3:x i*A i i=0:=by grind
   rcases Rat.mul_eq_zero.1 h3 with h | h
   ·exact h
   ·exact absurd h d1
  ·exact ih i hi
theorem Y0n {R:List Nat}{A:Mat}{x y v:Nat→Rat}(hs:∀ i j,A i j=A j i) (hd:dt R A≠0) (hx:∀ i,i∈R→sumL R (fun j=>x j*A i j)=v i) (hy:∀ i,i∈R→sumL R (fun j=>y j*A i j)=v i):∀ i,i∈R→x i=y i:=fun i hi=>by
 have:=Yqj (x:=fun j=>x j - y j) hs hd (fun i hi=>by
  have:sumL R (fun j=>(x j - y j)*A i j)=sumL R (fun j=>x j*A i j)+(-1)*sumL R (fun j=>y j*A i j):=by
   rw [← Za0, ← Zba]
   exact Zaf (fun j _=>by grind)
  rw [this,hx i hi,hy i hi]; grind) i hi
 grind
def tieAll (l:List MSp) (p:Nat→Nat):Nat→Nat:=l.foldl (fun p e=>tieP e p) p
theorem Zoa {n:Nat}:∀ {l:List MSp}{k:Nat}{p:Nat→Nat},Pos l→0≤Fsum n p k l
 | l,0,p,_=>by
  have:Fsum n p 0 l=if ∀ i,i<n→p i=p 0 then 1 else 0:=by cases l <;> rfl
  rw [this]; split <;> grind
 | [],k+1,p,_=>Rat.le_refl
 | s::l,k+1,p,h=>by
  unfold Fsum
  have h1:=Zoa (n:=n) (l:=l) (k:=k+1) (p:=p) (fun t ht=>h t (by simp [ht]))
  have h2:=Zoa (n:=n) (l:=l) (k:=k) (p:=mrg p (p s.1) (p s.2.1)) (fun t ht=>h t (by simp [ht]))
  have h3:=Rat.mul_nonneg (h s (by simp)) h2
  grind
theorem Z1g {n:Nat}:∀ {l:List MSp}{p:Nat→Nat}{g:Nat}{R:List Nat},(∀ s,s∈l→0<s.2.2)→InN n l→Lab n p g R→(∀ i,i<n→tieAll l p i=tieAll l p 0)→0<Fsum n p R.length l
 | l,p,g,[],hpos,hl,h,hc=>by
  have h0:∀ i,i<n→p i=p 0:=fun i hi=>by
   have h1:∀ i,i<n→p i=g:=fun i hi=>(h.mem i hi).elim id (fun h=>by simp at h)
   rw [h1 i hi,h1 0 (by omega)]
  have:Fsum n p 0 l=1:=by
   have:Fsum n p 0 l=if ∀ i,i<n→p i=p 0 then 1 else 0:=by cases l <;> rfl
   rw [this,if_pos h0]
  rw [List.length_nil,this]; decide
 | [],p,g,r::R,hpos,hl,h,hc=>by
  exfalso
  have hc':∀ i,i<n→p i=p 0:=hc
  obtain ⟨i,hi,hpi⟩:=h.onto g (by simp)
  obtain ⟨j,hj,hpj⟩:=h.onto r (by simp)
  have:g=r:=by rw [← hpi, ← hpj,hc' i hi,hc' j hj]
  exact (List.nodup_cons.1 h.nd).1 (by rw [this]; simp)
 | s::l,p,g,r::R,hpos,hl,h,hc=>by
  have hl':InN n l:=fun t ht=>hl t (by simp [ht])
  have hpos':∀ t,t∈l→0<t.2.2:=fun t ht=>hpos t (by simp [ht])
  have hp0:Pos l:=fun t ht=>Rat.le_of_lt (hpos' t ht)
  have hs:=hl s (by simp)
  have hK:=hpos s (by simp)
  have hc':∀ i,i<n→tieAll l (mrg p (p s.1) (p s.2.1)) i=tieAll l (mrg p (p s.1) (p s.2.1)) 0:=hc
  have hlen:(r::R).length=R.length+1:=rfl
  have n1:=Zoa (n:=n) (l:=l) (k:=R.length+1) (p:=p) hp0
  have n2:=Zoa (n:=n) (l:=l) (k:=R.length) (p:=mrg p (p s.1) (p s.2.1)) hp0
  rw [hlen]
  unfold Fsum
  by_cases hxy:p s.2.1=p s.1
  ·have n3:=Rat.mul_nonneg (Rat.le_of_lt hK) n2
   rw [hxy,Ye3] at hc'
   have ih:=Z1g hpos' hl' h hc'
   rw [hlen] at ih
   grind
  ·have key:0<Fsum n (mrg p (p s.1) (p s.2.1)) R.length l:=by
    rcases h.mem _ hs.1 with h1 | h1
    ·rcases h.mem _ hs.2 with h2 | h2
     ·exact absurd (h2.trans h1.symm) hxy
     ·rw [h1] at hc' ⊢
      have ih:=Z1g hpos' hl' (h.mrg0 h2) hc'
      have hlen2:((r::R).erase (p s.2.1)).length=R.length:=by rw [List.length_erase_of_mem h2]; rfl
      rwa [hlen2] at ih
    ·have h2:p s.2.1∈g::r::R:=by
      rcases h.mem _ hs.2 with h2 | h2
      ·simp [h2]
      ·exact List.mem_cons_of_mem _ h2
     have ih:=Z1g hpos' hl' (h.mrg h1 h2 hxy) hc'
     have hlen2:((r::R).erase (p s.1)).length=R.length:=by rw [List.length_erase_of_mem h1]; rfl
     rwa [hlen2] at ih
   have n3:=Rat.mul_pos hK key
   grind
theorem Z9t:∀ {l:List MSp}{p:Nat→Nat}{i j:Nat},p i=p j→tieAll l p i=tieAll l p j
 | [],p,i,j,h=>h
 | s::l,p,i,j,h=>Z9t (l:=l) (p:=tieP s p) (by unfold tieP mrg; rw [h])
theorem Zpp:∀ {l:List MSp}{p:Nat→Nat}{s:MSp},s∈l→tieAll l p s.1=tieAll l p s.2.1
 | t::l,p,s,hs=>by
  rcases List.mem_cons.1 hs with rfl | hs
  ·exact Z9t (l:=l) (p:=tieP s p) (by unfold tieP mrg; rw [if_pos rfl]; split <;> rfl)
  ·exact Zpp (l:=l) (p:=tieP t p) hs
theorem Z3x {β:Type}{f:Nat→β}:∀ {l:List MSp}{p:Nat→Nat},(∀ i j,p i=p j→f i=f j)→(∀ s,s∈l→f s.1=f s.2.1)→∀ i j,tieAll l p i=tieAll l p j→f i=f j
 | [],p,h,_=>h
 | s::l,p,h,hl=>Z3x (l:=l) (p:=tieP s p) (fun i j hij=>by
   have hs:=hl s (by simp)
   unfold tieP mrg at hij
   by_cases c1:p i=p s.1 <;> by_cases c2:p j=p s.1
   ·exact (h _ _ c1).trans (h _ _ c2).symm
   ·rw [if_pos c1,if_neg c2] at hij
    exact ((h _ _ c1).trans hs).trans (h _ _ hij)
   ·rw [if_neg c1,if_pos c2] at hij
    exact ((h _ _ hij).trans hs.symm).trans (h _ _ c2).symm
   ·rw [if_neg c1,if_neg c2] at hij
    exact h _ _ hij) (fun t ht=>hl t (by simp [ht]))
end GoAbs
namespace GoAbs
theorem Zhk {M:RM}{c i j:Nat}(hi:i≤c):mget (elimCol M c M.length) i j=mget M i j:=by
 by_cases hl:i<M.length
 ·unfold mget
  rw [List.getD_eq_getElem?_getD (l:=elimCol M c M.length),Zei hl,if_neg (by omega)]
  rfl
 ·unfold mget
  rw [List.getD_eq_getElem?_getD,List.getD_eq_getElem?_getD,List.getElem?_eq_none (by rw [Zaw]; omega),List.getElem?_eq_none (by omega)]
theorem Ykj:∀ {k c:Nat}{M:RM}{d:Rat}{i j:Nat},i≤c→mget (tri k c M d).2 i j=mget M i j
 | 0,_,_,_,_,_,_=>rfl
 | k+1,c,M,d,i,j,hi=>by
  unfold tri
  split
  ·rfl
  ·rw [Ykj (by omega),Zhk hi]
theorem Yzs {m:Nat}:∀ {k c:Nat}{M:RM}{A:Mat}{d:Rat},c+k=m→M.length=m→Wid (m+1) M→Psd (List.range' (c+1) k) A→dt (List.range' (c+1) k) A≠0→(∀ i j,c≤i→i<m→c≤j→j<m→mget M i j=A (i+1) (j+1)) →
  NoSw k c M∧(∀ i,c≤i→i<m→mget (tri k c M d).2 i i≠0)∧Wid (m+1) (tri k c M d).2 ∧
  ∀ x:Nat→Rat,(∀ i,c≤i→i<m→sumL (List.range' (i+1) (m - i)) (fun j=>x j*mget (tri k c M d).2 i (j - 1))=mget (tri k c M d).2 i m) →
   ∀ i,c≤i→i<m→sumL (List.range' (c+1) k) (fun j=>x j*mget M i (j - 1))=mget M i m
 | 0,c,M,A,d,hk,_,hW,_,_,_=>⟨trivial,fun i h1 h2=>by omega,hW,fun _ _ i h1 h2=>by omega⟩
 | k+1,c,M,A,d,hk,hM,hW,hA,hd,hg=>by
  have hr:c+1 ∉ List.range' (c+1+1) k:=by rw [List.mem_range'_1]; omega
  rw [List.range'_succ] at hA hd ⊢
  obtain ⟨d1,d2⟩:=Yml hd
  have hp:=hg c c (by omega) (by omega) (by omega) (by omega)
  have h0:mget M c c≠0:=by rw [hp]; exact d1
  obtain ⟨i1,i2,i3,i4⟩:=Yzs (k:=k) (c:=c+1) (M:=elimCol M c M.length) (A:=schur (c+1) A) (d:=d*mget M c c) (by omega) (by rw [Zaw,hM]) hW.elim (hA.schur hr) d2 (fun i j hi hil hj hjl=>by
   rw [Z1d hW (by omega) (by omega) (by omega) (by omega) h0,hg i j (by omega) hil (by omega) hjl,hg i c (by omega) hil (by omega) (by omega),hg c j (by omega) (by omega) (by omega) hjl,hp]
   rfl)
  unfold tri NoSw
  rw [if_neg h0]
  refine ⟨⟨fun h=>absurd h h0,fun _=>i1⟩,fun i h1 h2=>?_,i3,fun x hx=>?_⟩
  ·by_cases hi:i=c
   ·rw [hi,Ykj (by omega),Zhk (by omega)]; exact h0
   ·exact i2 i (by omega) h2
  ·have ih:=i4 x (fun i h1 h2=>hx i (by omega) h2)
   have hc:=hx c (by omega) (by omega)
   rw [show m - c=k+1 by omega,List.range'_succ,Zal,Ykj (by omega),Ykj (by omega),Zhk (by omega),Zhk (by omega)] at hc
   have hcs:sumL (List.range' (c+1+1) k) (fun j=>x j*mget (tri k (c+1) (elimCol M c M.length) (d*mget M c c)).2 c (j - 1))=sumL (List.range' (c+1+1) k) (fun j=>x j*mget M c (j - 1)) :=
    Zaf (fun j _=>by rw [Ykj (by omega),Zhk (by omega)])
   rw [hcs] at hc
   intro i h1 h2
   rw [Zal]
   rw [Nat.add_sub_cancel] at hc ⊢
   by_cases hi:i=c
   ·rw [hi]; exact hc
   ·have hm:=ih i (by omega) h2
    have e1:sumL (List.range' (c+1+1) k) (fun j=>x j*mget (elimCol M c M.length) i (j - 1))=sumL (List.range' (c+1+1) k) (fun j=>x j*mget M i (j - 1))+(-(mget M i c / mget M c c))*sumL (List.range' (c+1+1) k) (fun j=>x j*mget M c (j - 1)):=by
     rw [← Za0, ← Zba]
     refine Zaf (fun j hj=>?_)
     have hj':=List.mem_range'_1.1 hj
     rw [Z1d hW (by omega) (by omega) (by omega) (by omega) h0]
     grind
    rw [e1,Z1d hW (by omega) (by omega) (by omega) (by omega) h0] at hm
    generalize sumL (List.range' (c+1+1) k) (fun j=>x j*mget M i (j - 1))=s at *
    generalize sumL (List.range' (c+1+1) k) (fun j=>x j*mget M c (j - 1))=t at *
    have ht:t=mget M c m - x (c+1)*mget M c c:=by grind
    rw [ht] at hm
    grind
theorem Yji {A:RM}{n k:Nat}:bsub A n (k+1)=bacc (A.getD (n - 1 - k) []) (bsub A n k) (n - 1 - k) n k / rget (A.getD (n - 1 - k) []) (n - 1 - k)::bsub A n k:=by rw [bsub]
theorem Ykh {A:RM}{n:Nat}:∀ {d k:Nat},(bsub A n (k+d)).drop d=bsub A n k
 | 0,k=>rfl
 | d+1,k=>by
  rw [show k+(d+1)=(k+d)+1 by omega,Yji,List.drop_succ_cons]
  exact Ykh
theorem Yn9 {A:RM}{n k s:Nat}(hk:k≤n):rget (bsub A n k) s=rget (bsub A n n) (n - k+s):=by
 have h:=Ykh (A:=A) (n:=n) (d:=n - k) (k:=k)
 rw [show k+(n - k)=n by omega] at h
 rw [← h]
 unfold rget
 rw [List.getD_eq_getElem?_getD,List.getD_eq_getElem?_getD,List.getElem?_drop]
theorem Yqg {row T:List Rat}{i n:Nat}:∀ {t:Nat},bacc row T i n t=rget row n - sumL (List.range' (i+2) t) (fun j=>rget T (j - i - 2)*rget row (j - 1))
 | 0=>by unfold bacc; rw [List.range'_zero,Zg1]; grind
 | t+1=>by
  unfold bacc
  rw [Yqg,List.range'_1_concat,Ypd,Zal,Zg1,show i+2+t - i - 2=t by omega,show i+2+t - 1=i+1+t by omega]
  grind
def solX (A:RM) (n:Nat):Nat→Rat:=fun j=>rget (0::bsub A n n) j
theorem Yiy {A:RM}{n j:Nat}:solX A n (j+1)=rget (bsub A n n) j:=by unfold solX rget; rfl
theorem Y3p {A:RM}{n:Nat}(hp:∀ i,i<n→mget A i i≠0):∀ i,i<n→sumL (List.range' (i+1) (n - i)) (fun j=>solX A n j*mget A i (j - 1))=mget A i n:=fun i hi=>by
 obtain ⟨k,hk⟩:∃ k,k=n - 1 - i:=⟨_,rfl⟩
 have hik:n - 1 - k=i:=by omega
 have h1:rget (bsub A n (k+1)) 0=bacc (A.getD i []) (bsub A n k) i n k / mget A i i:=by
  rw [Yji,hik]
  rfl
 rw [Yn9 (by omega),Yqg] at h1
 rw [show n - i=k+1 by omega,List.range'_succ,Zal,Yiy,Nat.add_sub_cancel]
 rw [show n - (k+1)+0=i by omega] at h1
 have h2:sumL (List.range' (i+1+1) k) (fun j=>solX A n j*mget A i (j - 1))=sumL (List.range' (i+2) k) (fun j=>rget (bsub A n k) (j - i - 2)*rget (A.getD i []) (j - 1)):=Zaf (fun j hj=>by
  have hj':=List.mem_range'_1.1 hj
  rw [Yn9 (by omega),show n - k+(j - i - 2)=j - 1 by omega]
  obtain ⟨j',rfl⟩:∃ j',j=j'+1:=⟨j - 1,by omega⟩
  rw [Yiy,Nat.add_sub_cancel]
  rfl)
 rw [h2,h1]
 have h3:=hp i hi
 show _ / _*_+_=rget (A.getD i []) n
 generalize sumL _ _=s
 grind
theorem Yez {M:RM}{r:List Rat}{m i:Nat}(hM:M.length=m) (hW:Wid m M) (hr:r.length=m) (hi:i<m):(∀ j,j<m→mget (aug M r) i j=mget M i j)∧mget (aug M r) i m=rget r i:=by
 have h:=Yva (M:=M) (r:=r) (getD_some (M:=M) (i:=i) (by omega)) (Zaj (r:=r) (j:=i) (by omega))
 have e:(aug M r).getD i []=M.getD i [] ++ [rget r i]:=by rw [List.getD_eq_getElem?_getD,h]; rfl
 have hl:=hW.get (i:=i) (by omega)
 refine ⟨fun j hj=>?_,?_⟩
 ·show rget ((aug M r).getD i []) j=rget (M.getD i []) j
  rw [e]; unfold rget
  rw [List.getD_eq_getElem?_getD,List.getElem?_append_left (by omega), ← List.getD_eq_getElem?_getD]
 ·show rget ((aug M r).getD i []) m=_
  rw [e]; unfold rget
  rw [List.getD_eq_getElem?_getD,List.getElem?_append_right (by omega),hl,Nat.sub_self]; rfl
def triA (m:Nat) (E:List Sp) (r:List Rat):RM:=(tri m 0 (aug (lapl m E) r) 1).2
theorem Z3h {m:Nat}{E:List Sp}{r:List Rat}(hE:∀ e,e∈E→e.1≤m∧e.2.1≤m∧e.1≠e.2.1∧0≤e.2.2) (hr:r.length=m) (hd:dt (List.range' 1 m) (Lm id E)≠0) :
  NoSw m 0 (aug (lapl m E) r)∧(∀ i,i<m→rget ((triA m E r).getD i []) i≠0)∧Wid (m+1) (triA m E r) ∧
  ∀ i,i∈List.range' 1 m→sumL (List.range' 1 m) (fun j=>solX (triA m E r) m j*Lm id E i j)=rget r (i - 1):=by
 obtain ⟨lW,lL⟩:=Zgz (m:=m) (E:=E)
 have hpos:Pos E:=fun e he=>(hE e he).2.2.2
 have hget:=Yo6 (m:=m) (E:=E) (fun e he=>⟨(hE e he).1,(hE e he).2.1,(hE e he).2.2.1⟩)
 obtain ⟨a1,a2,a3,a4⟩:=Yzs (m:=m) (k:=m) (c:=0) (M:=aug (lapl m E) r) (A:=Lm id E) (d:=1) (by omega) (by rw [Z8x (by omega),lL]) (Ym4 lW) (Zxh hpos) hd (fun i j _ hi _ hj=>by
  rw [(Yez lL lW hr hi).1 j hj,hget])
 refine ⟨a1,fun i hi=>a2 i (by omega) hi,a3,fun i hi=>?_⟩
 have hi':=List.mem_range'_1.1 hi
 have h:=a4 (solX (triA m E r) m) (fun i _ hi=>Y3p (A:=triA m E r) (n:=m) (fun i hi=>a2 i (by omega) hi) i hi) (i - 1) (by omega) (by omega)
 rw [(Yez lL lW hr (by omega)).2] at h
 rw [← h]
 refine Zaf (fun j hj=>?_)
 have hj':=List.mem_range'_1.1 hj
 rw [(Yez lL lW hr (by omega)).1 (j - 1) (by omega),hget,show i - 1+1=i by omega,show j - 1+1=j by omega]
end GoAbs
namespace GoAbs
theorem Ynv {s:List Bool}{a i:Nat}{v:Bool}(ha:a<s.length):bget (s.set a v) i=if i=a then v else bget s i:=by
 unfold bget
 rw [List.getD_eq_getElem?_getD,List.getD_eq_getElem?_getD,List.getElem?_set]
 by_cases h:a=i
 ·subst h; simp [ha]
 ·rw [if_neg h,if_neg (fun e=>h e.symm)]
theorem Zwm {s:List Bool}{a b i:Nat}(ha:a<s.length):bget (seeA a b s) i=if i=a then (bget s a || bget s b) else bget s i:=Ynv ha
def BLe (s t:List Bool):Prop:=∀ i,bget s i=true→bget t i=true
theorem Yxe {s:List Bool}{a b:Nat}(ha:a<s.length):BLe s (seeA a b s):=fun i hi=>by
 rw [Zwm ha]; split
 ·rename_i h; subst h; rw [hi]; rfl
 ·exact hi
theorem Yxf {s:List Bool}{e:Sp}(h1:e.1<s.length) (h2:e.2.1<s.length):BLe s (seeE s e):=fun i hi =>
 Yxe (by rw [Z2n]; exact h2) i (Yxe h1 i hi)
theorem Yle {E:List Sp}:∀ {s:List Bool},InN s.length E→BLe s (E.foldl seeE s):=by
 induction E with
 | nil=>intro s _ i hi; exact hi
 | cons e E ih =>
  intro s h i hi
  rw [List.foldl_cons]
  exact ih (by rw [Z3j]; exact fun x hx=>h x (by simp [hx])) i (Yxf (h e (by simp)).1 (h e (by simp)).2 i hi)
theorem BLe.anti {s t:List Bool}(hl:s.length=t.length) (h1:BLe s t) (h2:BLe t s):s=t:=by
 apply List.ext_getElem?
 intro i
 by_cases hi:i<s.length
 ·rw [Ze3 hi,Ze3 (by omega)]
  have a:=h1 i
  have b:=h2 i
  cases h:bget s i <;> cases h':bget t i <;> simp_all
 ·rw [List.getElem?_eq_none (by omega),List.getElem?_eq_none (by omega)]
theorem Y0i {E:List Sp}:∀ {s:List Bool},InN s.length E→E.foldl seeE s=s→∀ e,e∈E→bget s e.1=bget s e.2.1:=by
 induction E with
 | nil=>intro s _ _ e he; simp at he
 | cons d E ih =>
  intro s hE hf
  rw [List.foldl_cons] at hf
  obtain ⟨d1,d2⟩:=hE d (by simp)
  have hE':InN (seeE s d).length E:=by rw [Z3j]; exact fun x hx=>hE x (by simp [hx])
  have e1:seeE s d=s:=BLe.anti Z3j (fun i hi=>by
   have:=Yle hE' i hi
   rwa [hf] at this) (Yxf d1 d2)
  have hd:bget s d.1=bget s d.2.1:=by
   have g1:=congrArg (fun t=>bget t d.1) e1
   have g2:=congrArg (fun t=>bget t d.2.1) e1
   simp only [seeE] at g1 g2
   rw [Zwm (by rw [Z2n]; exact d2),Zwm d1,Zwm d1] at g1 g2
   by_cases hh:d.1=d.2.1
   ·rw [hh]
   ·rw [if_neg hh,if_pos rfl] at g1
    rw [if_pos rfl,if_neg (fun e=>hh e.symm),if_pos rfl] at g2
    cases h:bget s d.1 <;> cases h':bget s d.2.1 <;> simp_all
  intro e he
  rcases List.mem_cons.1 he with rfl | he
  ·exact hd
  ·rw [e1] at hf
   exact ih (fun x hx=>hE x (by simp [hx])) hf e he
theorem Yop:∀ {s t:List Bool},s.length=t.length→BLe s t→s=t∨s.count true<t.count true
 | [],[],_,_ => .inl rfl
 | [],_::_,h,_=>by simp at h
 | _::_,[],h,_=>by simp at h
 | a::s,b::t,h,hle=>by
  have h0:a=true→b=true:=hle 0
  have ih:=Yop (s:=s) (t:=t) (by simpa using h) (fun i=>hle (i+1))
  rw [List.count_cons,List.count_cons]
  rcases ih with rfl | ih
  ·cases a <;> cases b <;> simp_all
  ·refine .inr ?_
   cases a <;> cases b <;> simp_all <;> omega
theorem Z98 {n i:Nat}(hn:1≤n):bget (start n) i=decide (i=0):=by
 unfold start
 rw [Ynv (by simp; omega)]
 by_cases h:i=0
 ·rw [if_pos h,decide_eq_true h]
 ·rw [if_neg h,decide_eq_false h]
  unfold bget
  rw [List.getD_eq_getElem?_getD,List.getElem?_replicate]
  split <;> rfl
theorem Zs0 {n:Nat}:(start n).length=n:=by simp [start]
theorem Yi1 {n:Nat}{E:List Sp}(hn:1≤n) (hE:InN n E):∀ k,seeN E (k+1) (start n)=seeN E k (start n)∨k+1≤(seeN E k (start n)).count true
 | 0 => .inr (by
  show 0+1≤(start n).count true
  have h:=Z98 (i:=0) hn
  have hl:=Zs0 (n:=n)
  revert h hl
  generalize start n=s
  intro h hl
  cases s with
  | nil=>simp at hl; omega
  | cons b s =>
   have hb:b=true:=h
   rw [hb,List.count_cons]; simp)
 | k+1=>by
  have hl:(seeN E k (start n)).length=n:=by rw [Zk6,Zs0]
  have h0:seeN E (k+1) (start n)=E.foldl seeE (seeN E k (start n)):=rfl
  rcases Yi1 hn hE k with ih | ih
  ·refine .inl ?_
   show E.foldl seeE (seeN E (k+1) (start n))=_
   rw [ih, ← h0,ih]
  ·rcases Yop (s:=seeN E k (start n)) (t:=seeN E (k+1) (start n)) (by rw [Zk6,Zk6]) (by rw [h0]; exact Yle (by rw [hl]; exact hE)) with h | h
   ·refine .inl ?_
    show E.foldl seeE (seeN E (k+1) (start n))=_
    rw [← h, ← h0, ← h]
   ·exact .inr (by omega)
theorem Y0p {n:Nat}{E:List Sp}(hn:1≤n) (hE:InN n E):connB n E=decide (connE n E):=by
 have hinv:∀ (lab:Nat→Nat),(∀ e,e∈E→lab e.1=lab e.2.1)→∀ k i,bget (seeN E k (start n)) i=true→lab i=lab 0:=fun lab hlab k=>by
  have one:∀ (s:List Bool),s.length=n→(∀ i,bget s i=true→lab i=lab 0)→∀ e,e∈E→∀ i,bget (seeE s e) i=true→lab i=lab 0:=fun s hs h e he i hi=>by
   obtain ⟨d1,d2⟩:=hE e he
   have he':=hlab e he
   have B:∀ i,bget (seeA e.1 e.2.1 s) i=if i=e.1 then (bget s e.1 || bget s e.2.1) else bget s i:=fun i=>Zwm (by rw [hs]; exact d1)
   unfold seeE at hi
   rw [Zwm (by rw [Z2n,hs]; exact d2),B,B,B] at hi
   have k1:=h e.1
   have k2:=h e.2.1
   have k3:=h i
   clear h hlab B
   by_cases c1:i=e.2.1 <;> by_cases c3:i=e.1 <;> by_cases c2:e.2.1=e.1 <;> simp only [c1,c2,c3,if_true,if_false,Bool.or_eq_true] at * <;> grind
  have fold:∀ (F:List Sp),(∀ e,e∈F→e∈E)→∀ (s:List Bool),s.length=n→(∀ i,bget s i=true→lab i=lab 0)→∀ i,bget (F.foldl seeE s) i=true→lab i=lab 0:=fun F=>by
   induction F with
   | nil=>intro _ s _ h; exact h
   | cons e F ih=>intro hF s hs h; rw [List.foldl_cons]; exact ih (fun x hx=>hF x (by simp [hx])) _ (by rw [Z3j,hs]) (one s hs h e (hF e (by simp)))
  induction k with
  | zero=>intro i hi; rw [show seeN E 0 (start n)=start n from rfl,Z98 hn] at hi; rw [of_decide_eq_true hi]
  | succ k ih=>exact fold E (fun _ h=>h) _ (by rw [Zk6,Zs0]) ih
 have hl:(seeN E n (start n)).length=n:=by rw [Zk6,Zs0]
 by_cases h:connE n E
 ·rw [decide_eq_true h]
  have hfix:seeN E (n+1) (start n)=seeN E n (start n):=by
   rcases Yi1 hn hE n with h | h
   ·exact h
   ·have:=List.count_le_length (a:=true) (l:=seeN E n (start n)); omega
  have hcl:=Y0i (by rw [hl]; exact hE) hfix
  have h0:bget (seeN E n (start n)) 0=true:=by
   have:∀ k,bget (seeN E k (start n)) 0=true:=fun k=>by
    induction k with
    | zero=>exact (Z98 hn).trans (by rfl)
    | succ k ih=>exact Yle (by rw [Zk6,Zs0]; exact hE) 0 ih
   exact this n
  refine List.all_eq_true.2 fun b hb=>?_
  obtain ⟨i,hi,rfl⟩:=List.getElem_of_mem hb
  have hi':i<n:=by omega
  have:=Z3x (f:=fun i=>bget (seeN E n (start n)) i) (l:=E) (p:=id) (fun i j hij=>by have:i=j:=hij; rw [this]) hcl i 0 (h i hi')
  have h2:=Ze3 hi
  rw [List.getElem?_eq_getElem hi] at h2
  have h3:=Option.some.inj h2
  show (seeN E n (start n))[i]=true
  rw [h3]
  exact this.trans h0
 ·rw [decide_eq_false h]
  cases hc:connB n E with
  | false=>rfl
  | true =>
   refine absurd (fun i hi=>?_) h
   have hb:=List.all_eq_true.1 hc _ (List.getElem_mem (l:=seeN E n (start n)) (n:=i) (by omega))
   have h2:=Ze3 (s:=seeN E n (start n)) (i:=i) (by omega)
   rw [List.getElem?_eq_getElem (by omega)] at h2
   have h3:=Option.some.inj h2
   exact hinv (tieAll E id) (fun e he=>Zpp he) n i (by rw [← h3]; exact hb)
end GoAbs
namespace GoAbs
open Go Go.Proofs
theorem Zkl {R:List Nat}{a:Nat}{x:Nat→Rat}(hn:R.Nodup):sumL R (fun i=>(if i=a then 1 else 0)*x i)=if a∈R then x a else 0:=by
 induction R with
 | nil=>simp [Zg1]
 | cons r R ih =>
  obtain ⟨h1,h2⟩:=List.nodup_cons.1 hn
  rw [Zal,ih h2]
  by_cases h:r=a
  ·subst h; rw [if_pos rfl,if_neg h1,if_pos (by simp)]; grind
  ·rw [if_neg h]
   by_cases h':a∈R
   ·rw [if_pos h',if_pos (by simp [h'])]; grind
   ·have h2:¬ a=r:=fun e=>h e.symm
    rw [if_neg h',if_neg (by simp [h',h2])]; grind
theorem Z9r {m a b:Nat}{x:Nat→Rat}(ha:a≤m) (hb:b≤m) (h0:x 0=0):sumL (List.range' 1 m) (fun i=>edge a b i*x i)=x a - x b:=by
 have h1:sumL (List.range' 1 m) (fun i=>edge a b i*x i)=sumL (List.range' 1 m) (fun i=>(if i=a then 1 else 0)*x i)+(-1)*sumL (List.range' 1 m) (fun i=>(if i=b then 1 else 0)*x i):=by
  rw [← Za0, ← Zba]
  exact Zaf (fun i _=>by unfold edge; grind)
 have pick:∀ c,c≤m→(if c∈List.range' 1 m then x c else 0)=x c:=fun c hc=>by
  by_cases h:c=0
  ·subst h; rw [if_neg (by rw [List.mem_range'_1]; omega),h0]
  ·rw [if_pos (by rw [List.mem_range'_1]; omega)]
 rw [h1,Zkl List.nodup_range',Zkl List.nodup_range',pick a ha,pick b hb]
 grind
theorem Z4j {m:Nat}{E:List Sp}(hp:Pos E) (hE:InN (m+1) E):dt (List.range' 1 m) (Lm id E)=Fsum (m+1) id m E:=by
 have h:=Zpf hp hE (Yhe (n:=m+1) (by omega))
 rw [List.length_range',Nat.add_sub_cancel] at h
 exact h.symm
def oneF (n a b:Nat) (E:List Sp):Rat:=Fsum n (mrg id a b) (n - 2) E
theorem Ywl {m a b:Nat}{E:List Sp}(hp:Pos E) (hE:InN (m+1) E) (hm:1≤m) (ha:a≤m) (hb:b≤m):gt (List.range' 1 m) (Lm id E) (edge a b)=oneF (m+1) a b E:=by
 obtain ⟨k,rfl⟩:∃ k,m=k+1:=⟨m - 1,by omega⟩
 have h1:=Z4j (E:=(a,b,1)::E) (m:=k+1) (fun s hs=>by
  rcases List.mem_cons.1 hs with rfl | hs
  ·show (0:Rat)≤1; decide
  ·exact hp s hs) (fun s hs=>by
  rcases List.mem_cons.1 hs with rfl | hs
  ·exact ⟨by show a<_; omega,by show b<_; omega⟩
  ·exact hE s hs)
 have h2:=Z4j hp hE
 have h3:Lm id ((a,b,(1:Rat))::E)=up1 (Lm id E) 1 (edge a b):=rfl
 have h4:Fsum (k+1+1) id (k+1) ((a,b,1)::E)=Fsum (k+1+1) id (k+1) E+1*Fsum (k+1+1) (mrg id a b) k E:=rfl
 rw [h3,Yn3 List.nodup_range' (Zxh hp) (by decide),h4,h2] at h1
 unfold oneF
 rw [show k+1+1 - 2=k by omega]
 grind
theorem Y5z {n a b:Nat}(ha:a<n) (hb:b<n) (hab:a≠b):∃ g R,Lab n (mrg id a b) g R∧R.length=n - 2:=by
 have h:=Yhe (n:=n) (by omega)
 by_cases h0:a=0
 ·have hb':b∈List.range' 1 (n - 1):=by rw [List.mem_range'_1]; omega
  have:=h.mrg0 hb'
  rw [h0]
  exact ⟨_,_,this,by rw [List.length_erase_of_mem hb',List.length_range']; omega⟩
 ·have ha':a∈List.range' 1 (n - 1):=by rw [List.mem_range'_1]; omega
  have hb':b∈0::List.range' 1 (n - 1):=by
   rw [List.mem_cons,List.mem_range'_1]; omega
  exact ⟨_,_,h.mrg ha' hb' (fun e=>hab e.symm),by rw [List.length_erase_of_mem ha',List.length_range']; omega⟩
theorem Zwf {n:Nat}{E:List Sp}(hn:1≤n) (hp:∀ e,e∈E→0<e.2.2) (hE:InN n E) (hc:connE n E):0<Fsum n id (n - 1) E:=by
 have h:=Z1g hp hE (Yhe (n:=n) (by omega)) hc
 rwa [List.length_range'] at h
theorem Ylj {n a b:Nat}{E:List Sp}(hp:∀ e,e∈E→0<e.2.2) (hE:InN n E) (hc:connE n E) (ha:a<n) (hb:b<n) (hab:a≠b):0<oneF n a b E:=by
 obtain ⟨g,R,hL,hR⟩:=Y5z ha hb hab
 have h:=Z1g hp hE hL (fun i hi=>Z3x (f:=tieAll E (mrg id a b)) (l:=E) (p:=id) (fun i j hij=>by have:i=j:=hij; rw [this]) (fun e he=>Zpp he) i 0 (hc i hi))
 rw [hR] at h
 exact h
def unitX (m a b:Nat) (E:List Sp):List Rat:=0::bsub (triA m E ((unitF (m+1) a b).drop 1)) m m
theorem Z8c {n a b i:Nat}(ha:a<n) (hb:b<n) (hab:a≠b):rget (unitF n a b) i=edge a b i:=by
 unfold unitF edge
 rw [Zha (by simp; exact hb),Zha (by simp; exact ha)]
 have h0:rget (List.replicate n 0) i=0:=by
  unfold rget
  rw [List.getD_eq_getElem?_getD,List.getElem?_replicate]
  split <;> rfl
 rw [h0]
 by_cases h1:i=b
 ·subst h1
  rw [if_pos rfl,if_pos rfl,if_neg (fun e=>hab e.symm)]; grind
 ·rw [if_neg h1,if_neg h1]; grind
theorem Z83 {f:List Rat}{i:Nat}:rget (f.drop 1) i=rget f (i+1):=by
 unfold rget
 rw [List.getD_eq_getElem?_getD,List.getD_eq_getElem?_getD,List.getElem?_drop,Nat.add_comm]
theorem Ybv {n:Nat}{E:List Sp}(ho:NetOk n E):(∀ e,e∈E→0<e.2.2)∧Pos E∧InN n E :=
 ⟨fun e he=>(ho.e e he).2.2.2.1,fun e he=>Rat.le_of_lt (ho.e e he).2.2.2.1,fun e he=>⟨(ho.e e he).1,(ho.e e he).2.1⟩⟩
theorem Yib {m a b:Nat}{E:List Sp}(ho:NetOk (m+1) E) (hc:connE (m+1) E) (ha:a≤m) (hb:b≤m) (hab:a≠b) :
  rget (unitX m a b E) a - rget (unitX m a b E) b=oneF (m+1) a b E / Fsum (m+1) id m E:=by
 obtain ⟨hp,hP,hI⟩:=Ybv ho
 have hm:1≤m:=by have:=ho.n2; omega
 have hD:=Zwf (n:=m+1) (by omega) hp hI hc
 rw [Nat.add_sub_cancel] at hD
 have hdt:=Z4j hP hI
 have hd0:dt (List.range' 1 m) (Lm id E)≠0:=by rw [hdt]; grind
 have hs:=(Z3h (m:=m) (E:=E) (r:=(unitF (m+1) a b).drop 1) (fun e he=>⟨by have:=(hI e he).1; omega,by have:=(hI e he).2; omega,(ho.e e he).2.2.1,hP e he⟩) (by rw [List.length_drop,Ze8]; omega) hd0).2.2.2
 have hg:=Ygb (R:=List.range' 1 m) (A:=Lm id E) (v:=edge a b) (x:=solX (triA m E ((unitF (m+1) a b).drop 1)) m) (Zxh (R := []) hP).sym hd0 (fun i hi=>by
  have hi':=List.mem_range'_1.1 hi
  rw [hs i hi,Z83,show i - 1+1=i by omega,Z8c (by omega) (by omega) hab])
 rw [Z9r ha hb rfl,Ywl hP hI hm ha hb,hdt] at hg
 show solX _ _ a - solX _ _ b=_
 have hD':Fsum (m+1) id m E≠0:=by grind
 generalize solX _ _ a - solX _ _ b=y at *
 rw [← hg]; grind
theorem Rb.elim5 {k:Nat}{p r:List Rat}{c:Nat}(hr:Rb k r) (hp:Rb k p) (hl:p.length=r.length) (hc:c<r.length) (hk:1≤k) (h0:rget p c≠0):Rb (5*k) (GoAbs.elimRow p c r):=fun x hx=>by
 unfold GoAbs.elimRow at hx
 split at hx
 ·exact (hr x hx).mono (by omega)
 ·unfold GoAbs.elimTo at hx
  obtain ⟨j,hj,rfl⟩:=List.mem_map.1 hx
  have hj':=List.mem_range.1 hj
  split
  ·exact ((hr.get hj').sub2 (((hr.get hc).div2 (hp.get (by omega)) h0).mul2 (hp.get (by omega)))).mono (by omega)
  ·exact (hr.get hj').mono (by omega)
theorem Mb.elim5 {k w:Nat}{M:RM}(h:Mb k M) (hw:Wid w M) {c I:Nat}(hcM:c<M.length) (hc:c<w) (hk:1≤k) (h0:mget M c c≠0):Mb (5*k) (elimCol M c I):=fun r hr=>by
 unfold elimCol at hr
 obtain ⟨i,hi,rfl⟩:=List.mem_map.1 hr
 have hi':=List.mem_range.1 hi
 split
 ·exact Rb.elim5 (h.get hi') (h.get hcM) (by rw [hw.get hcM,hw.get hi']) (by rw [hw.get hi']; exact hc) hk h0
 ·exact (h.get hi').mono (by omega)
theorem Yuf {w:Nat}:∀ {k c l:Nat}{M:RM}{d:Rat},c+k≤M.length→M.length≤w→Wid w M→Mb l M→1≤l→Mb (5 ^ k*l) (tri k c M d).2
 | 0,c,l,M,d,_,_,_,hM,_=>by simpa [tri] using hM
 | k+1,c,l,M,d,hc,hw,hW,hM,hl=>by
  unfold tri
  split
  ·refine hM.mono ?_
   have:1≤5 ^ (k+1):=Nat.pow_pos (by omega)
   exact Nat.le_mul_of_pos_left l this
  ·rename_i h0
   have:=Yuf (k:=k) (c:=c+1) (d:=d*mget M c c) (by rw [Zaw]; omega) (by rw [Zaw]; exact hw) (hW.elim (c:=c) (I:=M.length)) (hM.elim5 hW (by omega) (by omega) hl h0) (by omega)
   exact this.mono (by rw [Nat.pow_succ,Nat.mul_assoc]; exact Nat.le_refl _)
theorem Y5d {a k:Nat}(hk:k≤5):bbit a k≤200*(a+1):=by
 have h:bbit a k≤bbit a 5:=Yuw hk
 have:bbit a 5≤200*(a+1):=by simp only [bbit]; omega
 omega
def moveX (m:Nat) (E:List Sp) (f:List Rat):List Rat:=0::bsub (triA m E (f.drop 1)) m m
theorem Yag {m:Nat}{E:List Sp}{f:List Rat}(ho:NetOk (m+1) E) (hm5:m≤5) (hEl:E.length≤40) (hc:connE (m+1) E) (hf:f.length=m+1) (hfb:Rb 10947 f) :
  SpecV Tryz.prog Zwj [.agg (netC (m+1) E),.sl (condsR f)] (.sl (condsR (moveX m E f)))∧Rb 7000000000 (moveX m E f):=by
 obtain ⟨hp,hP,hI⟩:=Ybv ho
 have hm:1≤m:=by have:=ho.n2; omega
 have hD:=Zwf (n:=m+1) (by omega) hp hI hc
 rw [Nat.add_sub_cancel] at hD
 have hd0:dt (List.range' 1 m) (Lm id E)≠0:=by rw [Z4j hP hI]; grind
 obtain ⟨lW,lL⟩:=Zgz (m:=m) (E:=E)
 obtain ⟨s1,s2,s3,s4⟩:=Z3h (m:=m) (E:=E) (r:=f.drop 1) (fun e he=>⟨by have:=(hI e he).1; omega,by have:=(hI e he).2; omega,(ho.e e he).2.2.1,hP e he⟩) (by rw [List.length_drop]; omega) hd0
 have hMb:Mb 10947 (lapl m E):=(Yht (fun e he=>(ho.e e he).2.2.2.2.bits) (by omega)).mono (by omega)
 have hAb:Mb 10947 (aug (lapl m E) (f.drop 1)):=fun row hr=>by
  unfold aug at hr
  rw [List.mem_iff_getElem?] at hr
  obtain ⟨i,hi⟩:=hr
  rw [List.getElem?_zipWith] at hi
  revert hi
  cases h1:(lapl m E)[i]? with
  | none=>intro hi; simp at hi
  | some r0 =>
   cases h2:(f.drop 1)[i]? with
   | none=>intro hi; simp at hi
   | some y =>
    intro hi
    simp at hi
    subst hi
    intro x hx
    rcases List.mem_append.1 hx with h | h
    ·exact hMb r0 (List.mem_of_getElem? h1) x h
    ·rw [List.mem_singleton] at h
     rw [h]
     exact hfb y (List.mem_of_mem_drop (List.mem_of_getElem? h2))
 have hAl:(aug (lapl m E) (f.drop 1)).length=m:=by rw [Z8x (by rw [List.length_drop]; omega),lL]
 have h5:5 ^ m*10947≤34209375:=Nat.le_trans (Nat.mul_le_mul_right _ (Nat.pow_le_pow_right (by omega) hm5)) (by decide)
 have h9:9 ^ m*10947≤100000000000:=Nat.le_trans (Nat.mul_le_mul_right _ (Nat.pow_le_pow_right (by omega) hm5)) (by decide)
 have hT:Mb 34209375 (triA m E (f.drop 1)):=(Yuf (w:=m+1) (k:=m) (c:=0) (l:=10947) (d:=1) (by omega) (by omega) (Ym4 lW) hAb (by omega)).mono h5
 have hTl:(triA m E (f.drop 1)).length=m:=by unfold triA; rw [Yfr,hAl]
 refine ⟨Yis (k:=10947) (a:=34209375) (kE:=67) hm (by omega) (fun e he=>⟨(ho.e e he).1,(ho.e e he).2.1,(ho.e e he).2.2.2.2.bits⟩) (by omega) (by omega) (by omega) hf hAb (by omega) h9 s1 hT s3 s2 (fun k hk=>?_),fun x hx=>?_⟩
 ·have hb:bbit 34209375 k≤200*(34209375+1):=Y5d (by omega)
  generalize bbit 34209375 k=y at *
  have:k*(34209375+y+1)≤4*(34209375+y+1):=Nat.mul_le_mul_right _ (by omega)
  omega
 ·unfold moveX at hx
  rcases List.mem_cons.1 hx with h | h
  ·rw [h]; exact Qb.zero (by omega)
  ·have hb:bbit 34209375 m≤200*(34209375+1):=Y5d hm5
   exact (Yaf (n:=m) hT s3 hTl s2 m (Nat.le_refl _) x h).mono (by omega)
theorem Yb7 {n a b:Nat}:Rb 10947 (unitF n a b):=fun x hx=>by
 unfold unitF at hx
 have h1:Qb 10947 (1:Rat):=Qb.one (by omega)
 have h2:Qb 10947 (-1:Rat):=h1.neg
 rcases List.mem_or_eq_of_mem_set hx with h | h
 ·rcases List.mem_or_eq_of_mem_set h with h | h
  ·rw [(List.mem_replicate.1 h).2]; exact Qb.zero (by omega)
  ·rw [h]; exact h1
 ·rw [h]; exact h2
theorem Yj0 {m a b:Nat}{L:List Spr}{E:List Sp}(hE:E=L.map toE) (hL:L.length≤40) (hl:∀ s,s∈L→s.2.2.length≤1000000000) (h:readR ((m+1:Nat):Int) L = .tup [.agg (netC (m+1) E),.int .i64 0]) (ho:NetOk (m+1) E) (hm5:m≤5) (hc:connE (m+1) E)
  (ha:a≤m) (hb:b≤m) (hab:a≠b) :
  SpecV Tryz.prog Zja [.int .i64 ((m+1:Nat):Int),.sl (L.map sprAV),.int .i64 (a:Int),.int .i64 (b:Int)] (.tup [.agg (netC (m+1) E),.sl (condsR (unitX m a b E)),.int .i64 0]):=by
 have hEl:E.length≤40:=by rw [hE,List.length_map]; exact hL
 obtain ⟨hp,hP,hI⟩:=Ybv ho
 have hcB:connB (m+1) E=true:=by rw [Y0p (by omega) hI,decide_eq_true hc]
 obtain ⟨hmv,hxb⟩:=Yag ho hm5 hEl hc (f:=unitF (m+1) a b) Ze8 Yb7
 exact Yy4 (by omega) hl h (by omega) (by omega) hab (by omega) (by omega) hI (by omega) hcB hmv
theorem Yi9 {m a b:Nat}{L:List Spr}{E:List Sp}(hE:E=L.map toE) (hL:L.length≤40) (hl:∀ s,s∈L→s.2.2.length≤1000000000) (h:readR ((m+1:Nat):Int) L = .tup [.agg (netC (m+1) E),.int .i64 0]) (ho:NetOk (m+1) E) (hm5:m≤5) (hc:connE (m+1) E)
  (ha:a≤m) (hb:b≤m) (hab:a≠b) :
  SpecV Tryz.prog Zb6 [.int .i64 ((m+1:Nat):Int),.sl (L.map sprAV),.int .i64 (a:Int),.int .i64 (b:Int)] (numR (Fsum (m+1) id m E / oneF (m+1) a b E)):=by
 have hEl:E.length≤40:=by rw [hE,List.length_map]; exact hL
 obtain ⟨hp,hP,hI⟩:=Ybv ho
 have hm:1≤m:=by have:=ho.n2; omega
 have hD:=Zwf (n:=m+1) (by omega) hp hI hc
 rw [Nat.add_sub_cancel] at hD
 have hG:=Ylj hp hI hc (a:=a) (b:=b) (by omega) (by omega) hab
 have hd:=Yib ho hc ha hb hab
 obtain ⟨hmv,hxb⟩:=Yag ho hm5 hEl hc (f:=unitF (m+1) a b) Ze8 Yb7
 have hxl:(unitX m a b E).length=m+1:=by unfold unitX; rw [List.length_cons,Zg4]
 have hld:=Yj0 hE hL hl h ho hm5 hc ha hb hab
 have hne:oneF (m+1) a b E / Fsum (m+1) id m E≠0:=by
  intro e
  have h1:oneF (m+1) a b E=oneF (m+1) a b E / Fsum (m+1) id m E*Fsum (m+1) id m E:=by grind
  rw [e] at h1
  grind
 have hbt:=Ydy (k:=7000000000) hld (by omega) (by omega) hxb (by omega) (by omega) (by rw [hd]; exact hne)
 rw [hd] at hbt
 have e:1 / (oneF (m+1) a b E / Fsum (m+1) id m E)=Fsum (m+1) id m E / oneF (m+1) a b E:=by grind
 rw [e] at hbt
 exact hbt
end GoAbs
namespace GoAbs
open Go Go.Proofs
end GoAbs
