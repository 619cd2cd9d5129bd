/- Lemmas for the claim (contracts of the functions that it reaches, and what they compute), without conditions. -/
import Derived.Test.YtiapneoakbealaaGreatK27
import Derived.Test.YtiapneoakbealaaGreatProg
import Derived.KernelRfl
set_option linter.unusedVariables false
set_option linter.unusedSimpArgs false
set_option maxRecDepth 10000
set_option maxHeartbeats 2000000
namespace GoAbs
open Go Go.Proofs
def Zcs:List IOp := [oI 2 (.alloc [.bool false,.nils]) 0,oI 3 (.mv (.c (.bool false))) 1]
def Zcv:List IOp := [mI 8 0 0,oI 9 (.slen (.t 8)) 0,oI 10 (.bin .lss (.t 9) (cI 1)) 0,mI 11 10 0,gI 12 (.mv (.t 0)) 0 11 false,gI 13 (.slen (.t 12)) 0 11 false,gI 14 (.bin .gtr (.t 13) (cI 4000)) 0 11 false,oI 15 (.pick (.t 11) (.c (.bool true)) (.t 14)) 0,mI 16 15 0,gI 17 (.mv (.t 0)) 0 16 false,gI 18 (.sidx (.t 17) (cI 0)) 0 16 false,gI 19 (.bin .eql (.t 18) (.c (.int .u8 48))) 0 16 false,gI 20 (.mv (.t 19)) 0 16 false,gI 21 (.mv (.t 0)) 0 20 true,gI 22 (.slen (.t 21)) 0 20 true,gI 23 (.bin .gtr (.t 22) (cI 1)) 0 20 true,gI 24 (.pick (.t 20) (.t 23) (.c (.bool false))) 0 16 false,oI 25 (.pick (.t 16) (.c (.bool true)) (.t 24)) 0]
def Zia:List IOp := [oI 26 (.build [.bool false,.nils] []) 0,⟨none,.st 2 (.t 2) (.t 26),0,[],[],none⟩,oI 3 (.mv (.c (.bool false))) 0]
def Znd:List IOp := [oI 27 (.build [.bool false,.nils] []) 0,oI 4 (.alloc [.bool false,.nils]) 0,⟨none,.st 2 (.t 4) (.t 27),1,[],[],none⟩]
def Znw:List IOp := [mI 28 0 0,oI 29 (.slen (.t 28)) 0,mI 5 29 0]
def Znq:List IOp := [mI 30 5 0,oI 31 (.bin .gtr (.t 30) (cI 0)) 0]
def Z0c:List IOp := [oI 6 (.mv (cI 0)) 0]
def Z0m:List IOp := [mI 34 5 0,oI 35 (.bin .sub (.t 34) (cI 4)) 0,oI 36 (.mx (cI 0) (.t 35)) 0,mI 7 36 0]
def Zeo:List IOp := [mI 37 7 0,mI 38 5 0,oI 39 (.bin .lss (.t 37) (.t 38)) 0]
def Zfz:List IOp := [mI 42 0 0,mI 43 7 0,oI 44 (.sidx (.t 42) (.t 43)) 0,oI 45 (.bin .lss (.t 44) (.c (.int .u8 48))) 0,mI 46 45 0,gI 47 (.mv (.t 0)) 0 46 false,gI 48 (.mv (.t 7)) 0 46 false,gI 49 (.sidx (.t 47) (.t 48)) 0 46 false,gI 50 (.bin .gtr (.t 49) (.c (.int .u8 57))) 0 46 false,oI 51 (.pick (.t 46) (.c (.bool true)) (.t 50)) 0]
def Zlx:List IOp := [oI 52 (.build [.bool false,.nils] []) 0,⟨none,.st 2 (.t 2) (.t 52),0,[],[],none⟩,oI 3 (.mv (.c (.bool false))) 0]
def Zwe:List IOp := [mI 53 6 0,oI 54 (.bin .mul (cI 10) (.t 53)) 0,mI 55 0 0,mI 56 7 0,oI 57 (.sidx (.t 55) (.t 56)) 0,oI 58 (.bin .sub (.t 57) (.c (.int .u8 48))) 0,oI 59 (.cvi .i64 (.t 58)) 0,oI 60 (.bin .add (.t 54) (.t 59)) 0,mI 6 60 0]
def Zwk:List IOp := [mI 40 7 0,oI 41 (.bin .add (.t 40) (cI 1)) 0,mI 7 41 0]
def Zob:CC := .seq (.seq (.rg false Zeo) (.cond (.t 39) .skip (.exit 2))) (.seq (.block 3 (.seq (.seq (.rg false Zfz) (.cond (.t 51) (.seq (.rg false Zlx) .ret) .skip)) (.rg false Zwe))) (.rg false Zwk))
def Zwd:List IOp := [fI 61 1 4 0,lI 62 61 0,mI 63 6 0,oI 64 (.bsl none 1 [.int .i64 0] [(0,.t 63)]) 0,oI 65 (.app none 8 (.t 62) (.t 64)) 1,fI 66 1 4 2,⟨none,.st 1 (.t 66) (.t 65),2,[],[],none⟩]
def Zv9:List IOp := [mI 32 5 0,oI 33 (.bin .sub (.t 32) (cI 4)) 0,mI 5 33 0]
def Zh6:CC := .seq (.seq (.rg false Znq) (.cond (.t 31) .skip (.exit 0))) (.seq (.block 1 (.seq (.rg false Z0c) (.seq (.seq (.rg false Z0m) (.block 2 (.loop Zob))) (.rg false Zwd)))) (.rg false Zv9))
def Zln:List IOp := [lJ 67 2 4 0,oI 68 (.call 90 [.t 67]) 0,⟨none,.st 2 (.t 2) (.t 68),0,[],[],none⟩,oI 3 (.mv (.c (.bool true))) 0]
def Yf4:CC := .seq (.rg false Zcs) (.seq (.seq (.rg false Zcv) (.cond (.t 25) (.seq (.rg false Zia) .ret) .skip)) (.seq (.rg false Znd) (.seq (.seq (.rg false Znw) (.block 0 (.loop Zh6))) (.seq (.rg false Zln) .ret))))
abbrev Yqd:Nat:=86
theorem Ylo:fnOk Tryz.prog 86=some (69,Yf4,[.cell 2 (some 2),.tmp 3]):=by kernel_rfl
def Zgb:List IOp := [oI 2 (.alloc [.bool false,.nils,.bool false,.nils]) 0,oI 3 (.mv (.c (.bool false))) 1]
def Zf9:List IOp := [mI 13 0 0,mI 4 13 0,oI 5 (.mv (.c (.bool false))) 0]
def Zfv:List IOp := [mI 14 4 0,oI 15 (.slen (.t 14)) 0,oI 16 (.bin .gtr (.t 15) (cI 8002)) 0]
def Z4x:List IOp := [oI 17 (.build [.bool false,.nils,.bool false,.nils] []) 0,⟨none,.st 4 (.t 2) (.t 17),0,[],[],none⟩,oI 3 (.mv (.c (.bool false))) 0]
def Zj5:List IOp := [mI 18 4 0,oI 19 (.slen (.t 18)) 0,oI 20 (.bin .gtr (.t 19) (cI 0)) 0,mI 21 20 0,gI 22 (.mv (.t 4)) 0 21 true,gI 23 (.sidx (.t 22) (cI 0)) 0 21 true,gI 24 (.bin .eql (.t 23) (.c (.int .u8 45))) 0 21 true,oI 25 (.pick (.t 21) (.t 24) (.c (.bool false))) 0]
def Z7c:List IOp := [mI 26 4 0,oI 27 (.sslc (.t 26) (some (cI 1)) none) 0,mI 4 27 0,oI 5 (.mv (.c (.bool true))) 0]
def Zka:List IOp := [mI 28 4 0,oI 29 (.slen (.t 28)) 0,mI 6 29 0]
def Zrd:List IOp := [mI 30 4 0,oI 31 (.slen (.t 30)) 0,oI 32 (.bin .sub (.t 31) (cI 1)) 0,mI 7 32 0]
def Zj4:List IOp := [mI 33 7 0,oI 34 (.bin .geq (.t 33) (cI 0)) 0]
def Zm8:List IOp := [mI 37 4 0,mI 38 7 0,oI 39 (.sidx (.t 37) (.t 38)) 0,oI 40 (.bin .eql (.t 39) (.c (.int .u8 47))) 0]
def Z0s:List IOp := [mI 41 7 0,mI 6 41 0]
def Zoh:List IOp := [mI 35 7 0,oI 36 (.bin .sub (.t 35) (cI 1)) 0,mI 7 36 0]
def Zjr:CC := .seq (.seq (.rg false Zj4) (.cond (.t 34) .skip (.exit 0))) (.seq (.block 1 (.seq (.rg false Zm8) (.cond (.t 40) (.rg false Z0s) .skip))) (.rg false Zoh))
def Zhy:List IOp := [mI 43 4 0,mI 44 6 0,oI 45 (.sslc (.t 43) none (some (.t 44))) 0,oI 46 (.call 86 [.t 45]) 0,mI 42 46 0,eI 47 0 42 0,eI 48 1 42 0,oI 8 (.alloc [.bool false,.nils]) 0,⟨none,.st 2 (.t 8) (.t 47),1,[],[],none⟩,mI 9 48 1]
def Zhv:List IOp := [oI 49 (.call 64 [cI 1]) 0,oI 10 (.alloc [.bool false,.nils]) 0,⟨none,.st 2 (.t 10) (.t 49),1,[],[],none⟩]
def Zhj:List IOp := [mI 50 6 0,mI 51 4 0,oI 52 (.slen (.t 51)) 0,oI 53 (.bin .lss (.t 50) (.t 52)) 0]
def Zhh:List IOp := [mI 55 4 0,mI 56 6 0,oI 57 (.bin .add (.t 56) (cI 1)) 0,oI 58 (.sslc (.t 55) (some (.t 57)) none) 0,oI 59 (.call 86 [.t 58]) 0,mI 54 59 0,eI 60 0 54 0,eI 61 1 54 0,oI 11 (.alloc [.bool false,.nils]) 0,⟨none,.st 2 (.t 11) (.t 60),1,[],[],none⟩,mI 12 61 1]
def Zcx:List IOp := [mI 62 12 0,oI 63 (.un .not (.t 62)) 0,mI 64 63 0,gI 65 (.ld (some 2) (.t 11)) 0 64 false,gI 66 (.call 64 [cI 2]) 0 64 false,gI 67 (.callw 61 [.t 65,.t 66]) 0 64 false,gI 68 (.bin .lss (.t 67) (cI 0)) 0 64 false,oI 69 (.pick (.t 64) (.c (.bool true)) (.t 68)) 0,mI 70 69 0,gI 71 (.ld (some 2) (.t 8)) 0 70 false,gI 72 (.ld (some 2) (.t 11)) 0 70 false,gI 73 (.callw 87 [.t 71,.t 72]) 0 70 false,gI 74 (.callw 64 [cI 1]) 0 70 false,gI 75 (.callw 61 [.t 73,.t 74]) 0 70 false,gI 76 (.bin .neq (.t 75) (cI 0)) 0 70 false,oI 77 (.pick (.t 70) (.c (.bool true)) (.t 76)) 0]
@[go_sem ↓] theorem Ych : autoK Zcx = (0, 0) := by kernel_rfl
@[go_sem] theorem Yyc : autoK [mI 62 12 0, oI 63 (.un .not (.t 62)) 0, mI 64 63 0, gI 65 (.ld (some 2) (.t 11)) 0 64 false, gI 66 (.call 64 [cI 2]) 0 64 false, gI 67 (.callw 61 [.t 65, .t 66]) 0 64 false, gI 68 (.bin .lss (.t 67) (cI 0)) 0 64 false, oI 69 (.pick (.t 64) (.c (.bool true)) (.t 68)) 0, mI 70 69 0, gI 71 (.ld (some 2) (.t 8)) 0 70 false, gI 72 (.ld (some 2) (.t 11)) 0 70 false, gI 73 (.callw 87 [.t 71, .t 72]) 0 70 false, gI 74 (.callw 64 [cI 1]) 0 70 false, gI 75 (.callw 61 [.t 73, .t 74]) 0 70 false, gI 76 (.bin .neq (.t 75) (cI 0)) 0 70 false, oI 77 (.pick (.t 70) (.c (.bool true)) (.t 76)) 0] = (0, 0) := Ych
def Zcu:List IOp := [oI 78 (.build [.bool false,.nils,.bool false,.nils] []) 0,⟨none,.st 4 (.t 2) (.t 78),0,[],[],none⟩,oI 3 (.mv (.c (.bool false))) 0]
def Zhl:List IOp := [lJ 79 2 11 0,⟨none,.st 2 (.t 10) (.t 79),0,[],[],none⟩]
def Zbo:List IOp := [mI 80 9 0,oI 81 (.un .not (.t 80)) 0,mI 82 81 0,gI 83 (.mv (.t 5)) 0 82 false,gI 84 (.mv (.t 83)) 0 82 false,gI 85 (.fa 1 (.t 8)) 0 84 true,gI 86 (.ld none (.t 85)) 0 84 true,gI 87 (.len (.t 86)) 0 84 true,gI 88 (.bin .eql (.t 87) (cI 0)) 0 84 true,gI 89 (.pick (.t 84) (.t 88) (.c (.bool false))) 0 82 false,oI 90 (.pick (.t 82) (.c (.bool true)) (.t 89)) 0]
def Zc0:List IOp := [oI 91 (.build [.bool false,.nils,.bool false,.nils] []) 0,⟨none,.st 4 (.t 2) (.t 91),0,[],[],none⟩,oI 3 (.mv (.c (.bool false))) 0]
def Zcr:List IOp := [mI 92 5 0]
def Zet:List IOp := [lJ 93 2 8 0,oI 94 (.call 88 [.t 93]) 0,⟨none,.st 2 (.t 8) (.t 94),0,[],[],none⟩]
def Zcz:List IOp := [lJ 95 2 8 0,lJ 96 2 10 0,oI 97 (.build [.bool false,.nils,.bool false,.nils] [(0,2,.t 95),(2,2,.t 96)]) 0,⟨none,.st 4 (.t 2) (.t 97),0,[],[],none⟩,oI 3 (.mv (.c (.bool true))) 0]
def Yjf:CC := .seq (.rg false Zgb) (.seq (.rg false Zf9) (.seq (.seq (.rg false Zfv) (.cond (.t 16) (.seq (.rg false Z4x) .ret) .skip)) (.seq (.seq (.rg false Zj5) (.cond (.t 25) (.rg false Z7c) .skip)) (.seq (.rg false Zka) (.seq (.seq (.rg false Zrd) (.block 0 (.loop Zjr))) (.seq (.rg false Zhy) (.seq (.rg false Zhv) (.seq (.seq (.rg false Zhj) (.cond (.t 53) (.seq (.rg false Zhh) (.seq (.seq (.rg true Zcx) (.cond (.t 77) (.seq (.rg false Zcu) .ret) .skip)) (.rg false Zhl))) .skip)) (.seq (.seq (.rg false Zbo) (.cond (.t 90) (.seq (.rg false Zc0) .ret) .skip)) (.seq (.seq (.rg false Zcr) (.cond (.t 92) (.rg false Zet) .skip)) (.seq (.rg false Zcz) .ret)))))))))))
abbrev Yd4:Nat:=59
theorem Yqj:fnOk Tryz.prog 59=some (98,Yjf,[.cell 2 (some 4),.tmp 3]):=by kernel_rfl
def Zq9:List IOp := [oI 2 (.mv (.c (.bool false))) 0]
def Zqv:List IOp := [mI 6 0 0,oI 7 (.call 59 [.t 6]) 0,mI 5 7 0,eI 8 0 5 0,eI 9 1 5 0,oI 3 (.alloc [.bool false,.nils,.bool false,.nils]) 0,⟨none,.st 4 (.t 3) (.t 8),1,[],[],none⟩,mI 4 9 1]
def Zr5:List IOp := [mI 10 4 0,mI 2 10 0]
def Yjl:CC := .seq (.rg false Zq9) (.seq (.rg false Zqv) (.seq (.rg false Zr5) .ret))
abbrev Ygg:Nat:=42
theorem Ypk:fnOk Tryz.prog 42=some (11,Yjl,[.tmp 2]):=by kernel_rfl
def Yi8:List IOp := [oI 2 (.alloc [.bool false,.nils,.bool false,.nils]) 0]
def Yi1:List IOp := [mI 6 0 0,oI 7 (.call 59 [.t 6]) 0,mI 5 7 0,eI 8 0 5 0,eI 9 1 5 0,oI 3 (.alloc [.bool false,.nils,.bool false,.nils]) 0,⟨none,.st 4 (.t 3) (.t 8),1,[],[],none⟩,mI 4 9 1]
def Yi9:List IOp := [lJ 10 4 3 0,⟨none,.st 4 (.t 2) (.t 10),0,[],[],none⟩]
def Y3q:CC := .seq (.rg false Yi8) (.seq (.rg false Yi1) (.seq (.rg false Yi9) .ret))
abbrev Zza:Nat:=21
theorem Y3a:fnOk Tryz.prog 21=some (11,Y3q,[.cell 2 (some 4)]):=by kernel_rfl
def Zle:List IOp := [oI 1 (.box (.t 0)) 0,oI 2 (.mv (.c (.str ⟨#[]⟩))) 1]
def Zly:List IOp := [fI 7 1 1 0,lI 8 7 0,oI 9 (.len (.t 8)) 0,oI 10 (.bin .eql (.t 9) (cI 0)) 0]
def Zw2:List IOp := [oI 2 (.mv (.c (.str ⟨#[48]⟩))) 0]
def Zwh:List IOp := [oI 3 (.mv (.c (.str ⟨#[]⟩))) 0]
def Zvb:List IOp := [fI 11 1 1 0,lI 12 11 0,oI 13 (.len (.t 12)) 0,oI 14 (.bin .sub (.t 13) (cI 1)) 0,mI 4 14 0]
def Zkv:List IOp := [mI 15 4 0,oI 16 (.bin .geq (.t 15) (cI 0)) 0]
def Zuz:List IOp := [fI 19 1 1 0,lI 20 19 0,mI 21 4 0,xI 22 1 20 21 0,lI 23 22 0,mI 5 23 0]
def Zux:List IOp := [mI 24 5 0,oI 25 (.bin .quo (.t 24) (cI 1000)) 0,oI 26 (.bin .add (cI 48) (.t 25)) 0,oI 27 (.cvi .u8 (.t 26)) 0,mI 28 5 0,oI 29 (.bin .quo (.t 28) (cI 100)) 0,oI 30 (.bin .rem (.t 29) (cI 10)) 0,oI 31 (.bin .add (cI 48) (.t 30)) 0,oI 32 (.cvi .u8 (.t 31)) 0,mI 33 5 0,oI 34 (.bin .quo (.t 33) (cI 10)) 0,oI 35 (.bin .rem (.t 34) (cI 10)) 0,oI 36 (.bin .add (cI 48) (.t 35)) 0,oI 37 (.cvi .u8 (.t 36)) 0,mI 38 5 0,oI 39 (.bin .rem (.t 38) (cI 10)) 0,oI 40 (.bin .add (cI 48) (.t 39)) 0,oI 41 (.cvi .u8 (.t 40)) 0,oI 42 (.bsl none 4 [.int .u8 0] [(0,.t 27),(1,.t 32),(2,.t 37),(3,.t 41)]) 0,oI 43 (.b2s (.t 42)) 1,mI 6 43 1]
def Zxz:List IOp := [mI 44 3 0,mI 45 6 0,oI 46 (.bin .add (.t 44) (.t 45)) 0,mI 3 46 0]
def Ztc:List IOp := [mI 17 4 0,oI 18 (.bin .sub (.t 17) (cI 1)) 0,mI 4 18 0]
def Zlz:CC := .seq (.seq (.rg false Zkv) (.cond (.t 16) .skip (.exit 0))) (.seq (.block 1 (.seq (.rg false Zuz) (.seq (.rg false Zux) (.rg false Zxz)))) (.rg false Ztc))
def Zjb:List IOp := [mI 47 3 0,oI 48 (.sidx (.t 47) (cI 0)) 0,oI 49 (.bin .eql (.t 48) (.c (.int .u8 48))) 0]
def Zti:List IOp := [mI 50 3 0,oI 51 (.sslc (.t 50) (some (cI 1)) none) 0,mI 3 51 0]
def Zll:CC := .seq (.seq (.rg false Zjb) (.cond (.t 49) .skip (.exit 2))) (.block 3 (.rg false Zti))
def Ztm:List IOp := [mI 52 3 0,mI 2 52 0]
def Zxm:CC := .seq (.rg false Zle) (.seq (.seq (.rg false Zly) (.cond (.t 10) (.seq (.rg false Zw2) .ret) .skip)) (.seq (.rg false Zwh) (.seq (.seq (.rg false Zvb) (.block 0 (.loop Zlz))) (.seq (.block 2 (.loop Zll)) (.seq (.rg false Ztm) .ret)))))
abbrev Ymk:Nat:=91
theorem Z0i:fnOk Tryz.prog 91=some (53,Zxm,[.tmp 2]):=by kernel_rfl
def Yfs:List IOp := [oI 1 (.box (.t 0)) 0,oI 2 (.mv (.c (.str ⟨#[]⟩))) 1,oI 3 (.mv (.c (.bool false))) 1]
def Yfq:List IOp := [lJ 6 4 1 0,oI 7 (.call 73 [.t 6]) 0,⟨none,.st 4 (.t 1) (.t 7),0,[],[],none⟩]
def Z30:List IOp := [fI 8 0 1 0,lJ 9 2 8 0,oI 10 (.call 92 [.t 9]) 0,oI 11 (.call 91 [.t 10]) 0,fI 12 2 1 0,lJ 13 2 12 0,oI 14 (.callw 91 [.t 13]) 0,mI 4 11 0,mI 5 14 0]
@[go_sem ↓] theorem Yku : autoK Z30 = (0, 0) := by kernel_rfl
@[go_sem] theorem Y57 : autoK [fI 8 0 1 0, lJ 9 2 8 0, oI 10 (.call 92 [.t 9]) 0, oI 11 (.call 91 [.t 10]) 0, fI 12 2 1 0, lJ 13 2 12 0, oI 14 (.callw 91 [.t 13]) 0, mI 4 11 0, mI 5 14 0] = (0, 0) := Yku
def Zfe:List IOp := [mI 15 4 0,oI 16 (.slen (.t 15)) 0,oI 17 (.bin .gtr (.t 16) (cI 4000)) 0,mI 18 17 0,gI 19 (.mv (.t 5)) 0 18 false,gI 20 (.slen (.t 19)) 0 18 false,gI 21 (.bin .gtr (.t 20) (cI 4000)) 0 18 false,oI 22 (.pick (.t 18) (.c (.bool true)) (.t 21)) 0]
def Z2s:List IOp := [oI 2 (.mv (.c (.str ⟨#[]⟩))) 0,oI 3 (.mv (.c (.bool false))) 0]
def Zl3:List IOp := [fI 23 0 1 0,fI 24 0 23 0,lI 25 24 0]
def Z2q:List IOp := [mI 26 4 0,oI 27 (.bin .add (.c (.str ⟨#[45]⟩)) (.t 26)) 0,mI 4 27 0]
def Zlc:List IOp := [mI 28 5 0,oI 29 (.bin .neq (.t 28) (.c (.str ⟨#[49]⟩))) 0]
def Z37:List IOp := [mI 30 4 0,mI 31 5 0,oI 32 (.bin .add (.c (.str ⟨#[47]⟩)) (.t 31)) 0,oI 33 (.bin .add (.t 30) (.t 32)) 0,mI 4 33 0]
def Zio:List IOp := [mI 34 4 0,mI 2 34 0,oI 3 (.mv (.c (.bool true))) 0]
def Yu7:CC := .seq (.rg false Yfs) (.seq (.rg false Yfq) (.seq (.rg true Z30) (.seq (.seq (.rg false Zfe) (.cond (.t 22) (.seq (.rg false Z2s) .ret) .skip)) (.seq (.seq (.rg false Zl3) (.cond (.t 25) (.rg false Z2q) .skip)) (.seq (.seq (.rg false Zlc) (.cond (.t 29) (.rg false Z37) .skip)) (.seq (.rg false Zio) .ret))))))
abbrev Y2s:Nat:=63
theorem Yzd:fnOk Tryz.prog 63=some (35,Yu7,[.tmp 2,.tmp 3]):=by kernel_rfl
def Yit:List IOp := [oI 3 (.box (.t 1)) 0,oI 4 (.mv (.c (.bool false))) 1]
def Yjm:List IOp := [lJ 8 4 3 0,oI 9 (.call 63 [.t 8]) 0,mI 7 9 0,eI 10 0 7 0,eI 11 1 7 0,mI 5 10 0,mI 6 11 0]
def Zy4:List IOp := [mI 12 6 0,mI 13 12 0,gI 14 (.mv (.t 0)) 0 13 true,gI 15 (.mv (.t 5)) 0 13 true,gI 16 (.bin .eql (.t 14) (.t 15)) 0 13 true,oI 17 (.pick (.t 13) (.t 16) (.c (.bool false))) 0,mI 4 17 0]
def Y16:CC := .seq (.rg false Yit) (.seq (.rg false Yjm) (.seq (.rg false Zy4) .ret))
abbrev Y9k:Nat:=57
theorem Y08:fnOk Tryz.prog 57=some (18,Y16,[.tmp 4]):=by kernel_rfl
def Zv2:List IOp := [oI 1 (.box (.t 0)) 0,oI 2 (.mv (.c (.bool false))) 1]
def Zv5:List IOp := [fI 3 0 1 0,fI 4 1 3 0,lI 5 4 0,oI 6 (.len (.t 5)) 0,oI 7 (.bin .eql (.t 6) (cI 0)) 0,mI 2 7 0]
def Ypp:CC := .seq (.rg false Zv2) (.seq (.rg false Zv5) .ret)
abbrev Y0b:Nat:=109
theorem Yr9:fnOk Tryz.prog 109=some (8,Ypp,[.tmp 2]):=by kernel_rfl
def Yb3:List IOp := [oI 2 (.mv (cI 0)) 0]
def Ybm:List IOp := [oI 3 (.mv (cI 0)) 0]
def Zxn:List IOp := [mI 4 3 0,mI 5 0 0,oI 6 (.len (.t 5)) 0,oI 7 (.bin .lss (.t 4) (.t 6)) 0]
def Yaz:List IOp := [mI 10 0 0,mI 11 3 0,xI 12 1 10 11 0,lI 13 12 0,oI 14 (.call 42 [.t 13]) 0,oI 15 (.un .not (.t 14)) 0]
def Z95:List IOp := [oI 2 (.mv (cI 2)) 0]
def Z9x:List IOp := [mI 8 3 0,oI 9 (.bin .add (.t 8) (cI 1)) 0,mI 3 9 0]
def Yat:CC := .seq (.seq (.rg false Zxn) (.cond (.t 7) .skip (.exit 0))) (.seq (.block 1 (.seq (.rg false Yaz) (.cond (.t 15) (.seq (.rg false Z95) .ret) .skip))) (.rg false Z9x))
def Z91:List IOp := [oI 2 (.mv (cI 0)) 0]
def Yoo:CC := .seq (.rg false Yb3) (.seq (.seq (.rg false Ybm) (.block 0 (.loop Yat))) (.seq (.rg false Z91) .ret))
abbrev Yzc:Nat:=24
theorem Yrc:fnOk Tryz.prog 24=some (16,Yoo,[.tmp 2]):=by kernel_rfl
def Z7o:List IOp := [oI 4 (.mv (.c (.bool false))) 0]
def Z7r:List IOp := [oI 5 (.mv (cI 0)) 0]
def Z7y:List IOp := [oI 6 (.mv (cI 0)) 0]
def Zcl:List IOp := [mI 7 6 0,mI 8 0 0,oI 9 (.slen (.t 8)) 0,oI 10 (.bin .lss (.t 7) (.t 9)) 0]
def Zdo:List IOp := [mI 13 0 0,mI 14 6 0,oI 15 (.sidx (.t 13) (.t 14)) 0,oI 16 (.bin .eql (.t 15) (.c (.int .u8 47))) 0]
def Z6e:List IOp := [oI 5 (.mv (cI 0)) 0]
def Zgp:List IOp := [mI 17 0 0,mI 18 6 0,oI 19 (.sidx (.t 17) (.t 18)) 0,oI 20 (.bin .neq (.t 19) (.c (.int .u8 45))) 0]
def Zsv:List IOp := [mI 21 5 0,oI 22 (.bin .add (.t 21) (cI 1)) 0,mI 5 22 0]
def Zdi:List IOp := [mI 23 5 0,mI 24 1 0,oI 25 (.bin .gtr (.t 23) (.t 24)) 0]
def Zm7:List IOp := [oI 4 (.mv (.c (.bool false))) 0]
def Zh3:List IOp := [mI 11 6 0,oI 12 (.bin .add (.t 11) (cI 1)) 0,mI 6 12 0]
def Z7e:CC := .seq (.seq (.rg false Zcl) (.cond (.t 10) .skip (.exit 0))) (.seq (.block 1 (.seq (.seq (.rg false Zdo) (.cond (.t 16) (.rg false Z6e) (.seq (.rg false Zgp) (.cond (.t 20) (.rg false Zsv) .skip)))) (.seq (.rg false Zdi) (.cond (.t 25) (.seq (.rg false Zm7) .ret) .skip)))) (.rg false Zh3))
def Z0y:List IOp := [oI 4 (.mv (.c (.bool true))) 0]
def Yjn:CC := .seq (.rg false Z7o) (.seq (.rg false Z7r) (.seq (.seq (.rg false Z7y) (.block 0 (.loop Z7e))) (.seq (.rg false Z0y) .ret)))
abbrev Yr3:Nat:=53
theorem Ynb:fnOk Tryz.prog 53=some (26,Yjn,[.tmp 4]):=by kernel_rfl
end GoAbs
namespace GoAbs
open Go Go.Proofs
def AllD (l:List UInt8):Prop:=∀ c,c∈l→isDig c
theorem Zyy:numL []=0:=rfl
theorem Yfh {l:List UInt8}(h:AllD l) (h0:l ≠ []) (hh:l.head? ≠ some 48):decL (numL l)=l:=by
 have main:∀ k (l:List UInt8),l.length=k→AllD l→l.head? ≠ some 48→(l ≠ []→numL l≠0)∧(digs (numL l)).reverse=l:=by
  intro k
  induction k with
  | zero =>
   intro l hl _ _
   have:l = []:=List.length_eq_zero_iff.1 hl
   subst this
   exact ⟨fun h=>absurd rfl h,by rw [Zyy,Zom]; rfl⟩
  | succ k ih =>
   intro l hl hd hh
   obtain ⟨r,c,rfl⟩:∃ r c,l=r ++ [c]:=by
    cases h:l.getLast? with
    | none=>rw [List.getLast?_eq_none_iff] at h; subst h; simp at hl
    | some c=>obtain ⟨r,rfl⟩:=List.getLast?_eq_some_iff.1 h; exact ⟨r,c,rfl⟩
   have hc:=hd c (by simp)
   have hrd:AllD r:=fun x hx=>hd x (by simp [hx])
   unfold isDig at hc
   rw [Z5h]
   have hn:10*numL r+(c.toNat - 48)≠0:=by
    by_cases hr:r = []
    ·subst hr
     simp only [List.nil_append,List.head?_cons] at hh
     have:c.toNat≠48:=fun e=>hh (by congr 1; exact UInt8.toNat_inj.1 e)
     omega
    ·have hrh:r.head? ≠ some 48:=fun e=>hh (by
      cases r with
      | nil=>exact absurd rfl hr
      | cons x r=>simpa using e)
     have:=(ih r (by simp at hl; exact hl) hrd hrh).1 hr
     omega
   refine ⟨fun _=>hn,?_⟩
   rw [Zrk hn]
   have e1:(10*numL r+(c.toNat - 48)) / 10=numL r:=by omega
   have e2:UInt8.ofNat (48+(10*numL r+(c.toNat - 48)) % 10)=c:=by
    have:48+(10*numL r+(c.toNat - 48)) % 10=c.toNat:=by omega
    rw [this]; exact UInt8.ofNat_toNat
   rw [e1,e2,List.reverse_cons]
   congr 1
   by_cases hr:r = []
   ·subst hr; rw [Zyy,Zom]; rfl
   ·exact (ih r (by simp at hl; exact hl) hrd (fun e=>hh (by
     cases r with
     | nil=>exact absurd rfl hr
     | cons x r=>simpa using e))).2
 obtain ⟨m1,m2⟩:=main l.length l rfl h hh
 unfold decL
 rw [if_neg (m1 h0)]
 exact m2
def four (d:Nat):List UInt8 := [UInt8.ofNat (48+d / 1000),UInt8.ofNat (48+d / 100 % 10),UInt8.ofNat (48+d / 10 % 10),UInt8.ofNat (48+d % 10)]
theorem Zd3 {x:Nat}(h:x<10):(UInt8.ofNat (48+x)).toNat=48+x:=by rw [UInt8.toNat_ofNat']; exact Nat.mod_eq_of_lt (by omega)
theorem Y9v {d:Nat}(h:d<10000):numL (four d)=d:=by
 unfold four numL
 simp only [List.foldl_cons,List.foldl_nil]
 rw [Zd3 (by omega),Zd3 (by omega),Zd3 (by omega),Zd3 (by omega)]
 omega
theorem Y65 {d:Nat}(h:d<10000):AllD (four d):=fun c hc=>by
 unfold four at hc
 unfold isDig
 simp only [List.mem_cons,List.not_mem_nil,or_false] at hc
 rcases hc with rfl | rfl | rfl | rfl
 ·rw [Zd3 (by omega)]; omega
 ·rw [Zd3 (by omega)]; omega
 ·rw [Zd3 (by omega)]; omega
 ·rw [Zd3 (by omega)]; omega
theorem Xet {m:Bool}{A:List Nat}(hA:Od A) (hla:A.length≤100000000) {K:Ex→St→Prop}
  (hK:∀ (e:Nat→AV) (F:List UInt8) (H:Heap),AllD F→numL F=vd A→F.length=4*A.length→e 3 = .str (bs F)→K (.exit 0) ⟨e,H⟩) :
  T Tryz.prog 53 0 (.loop Zlz) ⟨envL [(1,.ptr 0 0),(3,.str (bs [])),(4,.int .i64 ((A.length:Int) - 1))],[.cells [.bool m,.sl (ic A)]]⟩ K:=by
 refine Zad (fun z:Nat×List UInt8=>⟨envL [(1,.ptr 0 0),(3,.str (bs z.2)),(4,.int .i64 ((z.1:Int) - 1))],[.cells [.bool m,.sl (ic A)]]⟩)
  (fun z=>z.1≤A.length∧AllD z.2∧numL z.2=vd (A.drop z.1)∧z.2.length=4*(A.length - z.1)) (fun z=>z.1) (A.length,[])
  ⟨Nat.le_refl _,fun c hc=>by simp at hc,by simp [Zyy,vd],by simp⟩ (Zab _ (by simp only [go_sem])) (fun z hI N hN=>?_)
 obtain ⟨i,F⟩:=z
 obtain ⟨h1,h2,h3,h4⟩:=hI
 simp only at h1 h2 h3 h4 ⊢
 unfold Zlz
 cases i with
 | zero =>
  have q1:¬ (0:Int)≤((0:Nat):Int) - 1:=by omega
  simp only [go_sem,Zkv,q1]
  rw [List.drop_zero] at h3
  exact hK _ F _ h2 h3 (by omega) (by simp only [go_sem])
 | succ j =>
  have e0:((j+1:Nat):Int) - 1=(j:Int):=by omega
  have q1:(0:Int)≤(j:Int):=by omega
  have e1:IntKind.i64.wrap ((j:Int) - 1)=(j:Int) - 1:=Zac (by omega) (by omega)
  have hx:A[j]? = some (A.getD j 0):=getElem?_getD (by omega)
  have hxl:=hA.get hx
  have hdA:=Ys0 (l:=A) (j:=j) (by omega)
  generalize A.getD j 0=x at *
  have p1:¬ (1000:Int)=0:=by omega
  have p2:¬ (100:Int)=0:=by omega
  have p3:¬ (10:Int)=0:=by omega
  have dv:∀ (y k:Nat),y<10000→0<k→IntKind.i64.wrap (((y:Nat):Int).tdiv (k:Int))=((y / k:Nat):Int):=fun y k hy hk=>by
   have:((y:Nat):Int).tdiv (k:Int)=((y / k:Nat):Int):=(Int.ofNat_tdiv y k).symm
   rw [this]
   have hle:=Nat.div_le_self y k
   generalize y / k=w at *
   exact Zac (by omega) (by omega)
  have d1:IntKind.i64.wrap ((x:Int).tdiv 1000)=((x / 1000:Nat):Int):=dv x 1000 hxl (by omega)
  have d2:IntKind.i64.wrap ((x:Int).tdiv 100)=((x / 100:Nat):Int):=dv x 100 hxl (by omega)
  have d3:IntKind.i64.wrap ((x:Int).tdiv 10)=((x / 10:Nat):Int):=dv x 10 hxl (by omega)
  have em:∀ t:Nat,((t:Nat):Int).tmod 10=((t % 10:Nat):Int):=fun t=>Zy3 (b:=10)
  have ea:∀ t:Nat,t<10→IntKind.i64.wrap (48+((t:Nat):Int))=((48+t:Nat):Int):=fun t ht=>by rw [Zac (by omega) (by omega)]; omega
  have eu:∀ t:Nat,t<10→IntKind.u8.wrap (((48+t:Nat):Int))=(((UInt8.ofNat (48+t)).toNat:Nat):Int):=fun t ht=>by rw [Zd3 ht,Y70 (by omega) (by omega)]
  have hsz:F.length+4≤4*100000000:=by omega
  simp only [go_sem,Zkv,Zuz,Zux,Zxz,Ztc,e0,q1,Zo3 hx,p1,p2,p3,d1,d2,d3,em,ea (x / 1000) (by omega),ea (x / 100 % 10) (by omega),ea (x / 10 % 10) (by omega),ea (x % 10) (by omega),eu (x / 1000) (by omega),eu (x / 100 % 10) (by omega),eu (x / 10 % 10) (by omega),eu (x % 10) (by omega),e1]
  refine ⟨four x,rfl,?_⟩
  have hb:(⟨(four x).toArray⟩:ByteArray)=bs (four x):=rfl
  have h4l:(four x).length=4:=rfl
  have hmax:(((bs F).size+(bs (four x)).size:Nat):Int)≤IntKind.i64.max:=by
   rw [Zak,Zak,h4l]
   have:IntKind.i64.max=9223372036854775807:=by decide
   rw [this]; omega
  simp only [go_sem,hb,Zlo]
  refine ⟨hmax,?_⟩
  refine hN (j,F++four x) _ ⟨by simp only; omega,fun c hc=>?_,?_,?_⟩ (by show j<j+1; omega) ?_
  ·rcases List.mem_append.1 hc with hc | hc
   ·exact h2 c hc
   ·exact Y65 hxl c hc
  ·simp only
   rw [Zg0,Y9v hxl,h4l,h3,hdA]
   omega
  ·simp only [List.length_append,h4l]; omega
  ·exact Zbj (Zgv [0] (by decide) (fun i hi=>by omega) [(1,.ptr 0 0),(3,.str (bs (F++four x))),(4,.int .i64 ((j:Int) - 1))] (by simp only [go_sem])) rfl
theorem Xfq {F:List UInt8}{n0:Nat}{H:Heap}(hF:AllD F) (h0:numL F≠0) {K:Ex→St→Prop}
  (hK:∀ (e:Nat→AV),e 3 = .str (bs (decL (numL F)))→K (.exit 2) ⟨e,H⟩) :
  T Tryz.prog 53 n0 (.loop Zll) ⟨envL [(3,.str (bs F))],H⟩ K:=by
 refine Zad (fun z:List UInt8=>⟨envL [(3,.str (bs z))],H⟩) (fun z=>AllD z∧numL z=numL F) (fun z=>z.length) F ⟨hF,rfl⟩ (Zab _ (by simp only [go_sem])) (fun z hI N hN=>?_)
 obtain ⟨h1,h2⟩:=hI
 unfold Zll
 cases z with
 | nil=>rw [Zyy] at h2; exact absurd h2.symm h0
 | cons c z =>
  have gi:(c::z)[0]? = some c:=rfl
  by_cases hc:c.toNat=48
  ·have hci:(c.toNat:Int)=48:=by omega
   have q0:(1:Nat)≤(c::z).length:=by simp
   simp only [go_sem,Zjb,Zti,Zcm,Zak,gi,hci,Zc2]
   refine ⟨Nat.le_refl _,?_⟩
   rw [List.take_length]
   refine hN z _ ⟨fun x hx=>h1 x (by simp [hx]),?_⟩ (by simp) (Zab _ (by simp only [go_sem]))
   rw [← h2]
   have:=Zg0 [c] z
   have hc1:numL [c]=0:=by simp [numL,hc]
   rw [hc1,Nat.zero_mul,Nat.zero_add] at this
   exact this.symm
  ·have hci:¬ (c.toNat:Int)=48:=by omega
   simp only [go_sem,Zjb,Zcm,gi,hci]
   have hd:=Yfh h1 (by simp) (by simp only [List.head?_cons]; intro e; apply hc; cases e; rfl)
   rw [h2] at hd
   exact hK _ (by simp only [go_sem,hd])
theorem Yuo {n:Nat}(hn:Zs n) {m:Bool}:SpecV Tryz.prog Ymk [.agg [.bool m,.sl (ic (dg n))]] (.str (bs (decL n))):=by
 have hlen:=hn.len
 by_cases h0:n=0
 ·subst h0
  refine Zae Z0i (by simp) ?_
  unfold Zxm
  simp only [go_sem,Zle,Zly,Zw2,Zcg,Yuf]
  exact ⟨fun _=>rfl,fun h=>absurd rfl h⟩
 ·refine Za0 Z0i (by simp) (Za9 1 rfl ?_)
  unfold Zxm
  have hp:¬ ((dg n).length:Int)=0:=by have:=(Zfl (n:=n)).2 h0; omega
  have e0:IntKind.i64.wrap (((dg n).length:Int) - 1)=((dg n).length:Int) - 1:=Zac (by omega) (by omega)
  simp only [go_sem,Zle,Zly,Zan,hp]
  refine T_W ?_
  simp only [go_sem,Zwh,Zvb,Zan,e0]
  refine Zap [(1,.ptr 0 0),(3,.str (bs [])),(4,.int .i64 (((dg n).length:Int) - 1))] (by simp only [go_sem]; rfl) (Xet (Zxc n) hlen (fun e F H g1 g2 g3 k3=>?_))
  rw [Zo1] at g2
  simp only [go_sem]
  refine Zap [(3,.str (bs F))] (by simp only [go_sem,k3]) (Xfq g1 (by omega) (fun e2 j3=>?_))
  rw [g2] at j3
  simp only [go_sem,Ztm,j3]
end GoAbs
namespace GoAbs
open Go Go.Proofs
theorem Ymw {n:Nat}:decL n = [49]↔n=1:=by
 constructor
 ·intro h
  have h1:n<10:=by have:=Z9b (n:=n) (k:=1) (by rw [h]; simp); omega
  unfold decL at h
  split at h
  ·cases h
  ·rename_i h0
   rw [Zrk h0,show n / 10=0 by omega,Zom] at h
   simp only [List.reverse_cons,List.reverse_nil,List.nil_append,List.cons.injEq,and_true] at h
   have:=congrArg UInt8.toNat h
   rw [Zd3 (by omega)] at this
   have h49:(49:UInt8).toNat=49:=rfl
   omega
 ·intro h
  subst h
  exact Yfh (l := [49]) (fun c hc=>by simp at hc; subst hc; decide) (by simp) (by simp)
theorem rnum {n d:Int}{k:Nat}{q:Rat}(h1:Ib k n) (h2:Ib k d) (hd:0<d) (hk:k≤10000000) (hq:Rat.divInt n d=q) :
  SpecV Tryz.prog Y2s [avR n d] (if NumOk q then .tup [.str (bs (numS q)),.bool true] else .tup [.str (bs []),.bool false]):=by
 have hm:Tryz.prog.follows .mixedOrders=true:=by kernel_rfl
 refine Zae Yzd (by simp) ?_
 unfold Yu7
 have hl:=rlow h1 h2 hd hk
 rw [hq] at hl
 obtain ⟨g1,g2⟩:=Zgu (n:=n) (d:=d) (by omega)
 rw [hq] at g1 g2
 have zn:Zs q.num.natAbs:=(h1.zs hk).mono g1
 have zd:Zs q.den:=(h2.zs hk).mono g2
 have ha:=Y3n (z:=q.num)
 rw [Zaz,Zai] at ha
 have f1:=Yuo zn (m:=false)
 have f2:=Yuo zd (m:=decide ((q.den:Int)<0))
 rw [Zaq,Zaq] at hl
 rw [Zaq]
 rw [Int.natAbs_natCast] at hl
 have hmax:IntKind.i64.max=9223372036854775807:=rfl
 have c45:(⟨#[45]⟩:ByteArray)=bs [45]:=rfl
 have c47:(⟨#[47]⟩:ByteArray)=bs [47]:=rfl
 have c49:(⟨#[49]⟩:ByteArray)=bs [49]:=rfl
 have hok:NumOk q↔((decL q.num.natAbs).length≤4000∧(decL q.den).length≤4000):=by
  unfold NumOk
  constructor
  ·rintro ⟨h1,h2 | h2⟩
   ·exact ⟨h1,by rw [Ymw.2 h2]; simp⟩
   ·exact ⟨h1,h2⟩
  ·rintro ⟨h1,h2⟩; exact ⟨h1,.inr h2⟩
 have hden:(bs (decL q.den)=bs [49])=(q.den=1):=propext (bs_inj.trans Ymw)
 simp only [go_sem,Yfs,Yfq]
 refine Zaa hl (by simp only [go_sem]) ?_
 simp only [go_sem,Z30,hm]
 refine Zaa ha (by simp only [go_sem]) ?_
 simp only [go_sem]
 refine Zaa f1 (by simp only [go_sem]) ?_
 simp only [go_sem]
 refine Zaa f2 (by simp only [go_sem]) ?_
 by_cases hA:(decL q.num.natAbs).length≤4000
 ·have q1:¬ (4000:Int)<((decL q.num.natAbs).length:Int):=by omega
  by_cases hB:(decL q.den).length≤4000
  ·have q2:¬ (4000:Int)<((decL q.den).length:Int):=by omega
   rw [if_pos (hok.2 ⟨hA,hB⟩)]
   have m1:((1+(decL q.num.natAbs).length:Nat):Int)≤IntKind.i64.max:=by rw [hmax]; omega
   have m2:((1+(decL q.den).length:Nat):Int)≤IntKind.i64.max:=by rw [hmax]; omega
   have m3:∀ S:List UInt8,S.length≤4001→((S.length+(1+(decL q.den).length):Nat):Int)≤IntKind.i64.max:=fun S hS=>by rw [hmax]; omega
   by_cases hs:q.num<0
   ·by_cases h1:q.den=1
    ·have hden':(bs (decL q.den)=bs [49])=True:=by rw [hden]; simp [h1]
     have hS:numS q = [45]++decL q.num.natAbs ++ []:=by unfold numS; simp [hs,h1]
     rw [hS]
     simp only [go_sem,Zfe,Zl3,Z2q,Zlc,Zio,Zak,q1,q2,decide_eq_true hs,c45,c47,c49,Zlo,m1,m2,hden',List.length_cons,List.length_append,List.length_nil]
    ·have hden':(bs (decL q.den)=bs [49])=False:=by rw [hden]; simp [h1]
     have hS:numS q = [45]++decL q.num.natAbs++(47::decL q.den):=by unfold numS; simp [hs,h1]
     rw [hS]
     simp only [go_sem,Zfe,Zl3,Z2q,Zlc,Z37,Zio,Zak,q1,q2,decide_eq_true hs,c45,c47,c49,Zlo,m1,m2,hden',List.length_cons,List.length_append,List.length_nil]
     rw [hmax]; omega
   ·by_cases h1:q.den=1
    ·have hden':(bs (decL q.den)=bs [49])=True:=by rw [hden]; simp [h1]
     have hS:numS q = []++decL q.num.natAbs ++ []:=by unfold numS; simp [hs,h1]
     rw [hS]
     simp only [go_sem,Zfe,Zl3,Zlc,Zio,Zak,q1,q2,decide_eq_false hs,c45,c47,c49,Zlo,m1,m2,hden',List.length_cons,List.length_append,List.length_nil]
    ·have hden':(bs (decL q.den)=bs [49])=False:=by rw [hden]; simp [h1]
     have hS:numS q = []++decL q.num.natAbs++(47::decL q.den):=by unfold numS; simp [hs,h1]
     rw [hS]
     simp only [go_sem,Zfe,Zl3,Zlc,Z37,Zio,Zak,q1,q2,decide_eq_false hs,c45,c47,c49,Zlo,m1,m2,hden',List.length_cons,List.length_append,List.length_nil]
     rw [hmax]; omega
  ·have q2:(4000:Int)<((decL q.den).length:Int):=by omega
   rw [if_neg (fun h=>hB (hok.1 h).2)]
   simp only [go_sem,Zfe,Z2s,Zak,q1,q2]
   rfl
 ·have q1:(4000:Int)<((decL q.num.natAbs).length:Int):=by omega
  rw [if_neg (fun h=>hA (hok.1 h).1)]
  simp only [go_sem,Zfe,Z2s,Zak,q1]
  rfl
theorem ris {n d:Int}{k:Nat}{q:Rat}{s:ByteArray}(h1:Ib k n) (h2:Ib k d) (hd:0<d) (hk:k≤10000000) (hq:Rat.divInt n d=q) :
  SpecV Tryz.prog Y9k [.str s,avR n d] (.bool (decide (NumOk q∧s=bs (numS q)))):=by
 refine Zae Y08 (by simp) ?_
 unfold Y16
 have hn:=rnum h1 h2 hd hk hq
 rw [Zaq] at hn ⊢
 simp only [go_sem,Yit,Yjm]
 refine Zaa hn (by simp only [go_sem]) ?_
 by_cases ho:NumOk q
 ·rw [if_pos ho]
  by_cases hs:s=bs (numS q)
  ·have:decide (NumOk q∧s=bs (numS q))=true:=by simp [ho,hs]
   rw [this]
   simp only [go_sem,Zy4,hs]
  ·have:decide (NumOk q∧s=bs (numS q))=false:=by simp [hs]
   rw [this]
   simp only [go_sem,Zy4,hs]
 ·have:decide (NumOk q∧s=bs (numS q))=false:=by simp [ho]
  rw [if_neg ho,this]
  simp only [go_sem,Zy4]
end GoAbs
namespace GoAbs
open Go Go.Proofs
end GoAbs
namespace GoAbs
open Go Go.Proofs
theorem rover {a b:Int}:SpecV Tryz.prog Yw2 [avZ a,avZ b] (if b<0 then avR (-a) (-b) else avR a b):=by
 have hm:Tryz.prog.follows .mixedOrders=true:=by kernel_rfl
 refine Zae Yrn (by simp) ?_
 unfold Yp8
 have n1:=Yvw (z:=a)
 have n2:=Yvw (z:=b)
 rw [Zai,Zai] at n1 n2
 rw [Zai,Zai]
 by_cases h:b<0
 ·rw [if_pos h,Zaq]
  simp only [go_sem,Zu4,Zu5,Zxh,Zwr,h,decide_true,hm]
  simp only [h,decide_true] at n2
  refine Zaa n1 (by simp only [go_sem]) ?_
  simp only [go_sem]
  refine Zaa n2 (by simp only [go_sem]) ?_
  simp only [go_sem]
 ·rw [if_neg h,Zaq]
  simp only [go_sem,Zu4,Zu5,Zwr,h,decide_false]
theorem rsubq {n1 d1 n2 d2:Int}{k:Nat}(h1:Ib k n1) (h2:Ib k d1) (h3:Ib k n2) (h4:Ib k d2) (hk:k≤1000000):SpecV Tryz.prog Yje [avR n1 d1,avR n2 d2] (avR (n1*d2 - n2*d1) (d1*d2)):=by
 have hm:Tryz.prog.follows .mixedOrders=true:=by kernel_rfl
 refine Zae Ysw (by simp) ?_
 unfold Yqw
 have z1:=h1.zs (by omega)
 have z2:=h2.zs (by omega)
 have z3:=h3.zs (by omega)
 have z4:=h4.zs (by omega)
 have m1:=Zot z1 z4
 have m2:=Zot z3 z2
 have m3:=Zot z2 z4
 have m4:=Yvg ((h1.mul h4).zs (by omega)) ((h3.mul h2).zs (by omega))
 rw [Zai,Zai,Zai] at m1 m2 m3 m4
 rw [Zaq,Zaq,Zaq]
 simp only [go_sem,Ybu,Zvc,hm]
 refine Zaa m1 (by simp only [go_sem]) ?_
 simp only [go_sem]
 refine Zaa m2 (by simp only [go_sem]) ?_
 simp only [go_sem]
 refine Zaa m4 (by simp only [go_sem]) ?_
 simp only [go_sem]
 refine Zaa m3 (by simp only [go_sem]) ?_
 simp only [go_sem]
theorem rcmpq {n1 d1 n2 d2:Int}{k:Nat}(h1:Ib k n1) (h2:Ib k d1) (h3:Ib k n2) (h4:Ib k d2) (hk:k≤1000000):SpecV Tryz.prog Yir [avR n1 d1,avR n2 d2] (.int .i64 (if n1*d2=n2*d1 then 0 else if n1*d2<n2*d1 then -1 else 1)):=by
 have hm:Tryz.prog.follows .mixedOrders=true:=by kernel_rfl
 refine Zae Yty (by simp) ?_
 unfold Ypz
 have z1:=h1.zs (by omega)
 have z2:=h2.zs (by omega)
 have z3:=h3.zs (by omega)
 have z4:=h4.zs (by omega)
 have m1:=Zot z1 z4
 have m2:=Zot z3 z2
 have m4:=Y1h ((h1.mul h4).zs (by omega)) ((h3.mul h2).zs (by omega))
 rw [Zai,Zai,Zai] at m1 m2
 rw [Zai,Zai] at m4
 rw [Zaq,Zaq]
 simp only [go_sem,Ya8,Zw6,hm]
 refine Zaa m1 (by simp only [go_sem]) ?_
 simp only [go_sem]
 refine Zaa m2 (by simp only [go_sem]) ?_
 simp only [go_sem]
 refine Zaa m4 (by simp only [go_sem]) ?_
 simp only [go_sem]
theorem rdivq {n1 d1 n2 d2:Int}{k:Nat}(h1:Ib k n1) (h2:Ib k d1) (h3:Ib k n2) (h4:Ib k d2) (hk:k≤1000000):SpecV Tryz.prog Ykb [avR n1 d1,avR n2 d2] (if d1*n2<0 then avR (-(n1*d2)) (-(d1*n2)) else avR (n1*d2) (d1*n2)):=by
 have hm:Tryz.prog.follows .mixedOrders=true:=by kernel_rfl
 refine Zae Ys2 (by simp) ?_
 unfold Yp7
 have z1:=h1.zs (by omega)
 have z2:=h2.zs (by omega)
 have z3:=h3.zs (by omega)
 have z4:=h4.zs (by omega)
 have m1:=Zot z1 z4
 have m2:=Zot z2 z3
 have m3:=rover (a:=n1*d2) (b:=d1*n2)
 rw [Zai,Zai,Zai] at m1 m2
 rw [Zai,Zai] at m3
 rw [Zaq,Zaq]
 simp only [go_sem,Yb1,Zxi,hm]
 refine Zaa m1 (by simp only [go_sem]) ?_
 simp only [go_sem]
 refine Zaa m2 (by simp only [go_sem]) ?_
 simp only [go_sem]
 by_cases h:d1*n2<0
 ·rw [if_pos h,Zaq] at m3 ⊢
  refine Zaa m3 (by simp only [go_sem]) ?_
  simp only [go_sem]
 ·rw [if_neg h,Zaq] at m3 ⊢
  refine Zaa m3 (by simp only [go_sem]) ?_
  simp only [go_sem]
end GoAbs
namespace GoAbs
open Go Go.Proofs
theorem Xck {l:List UInt8}{lo hi n0:Nat}{b1 b2:Blk}(hlo:lo≤hi) (hh:hi≤lo+4) (hl:hi≤l.length) (hll:l.length≤4000) {K:Ex→St→Prop}
  (hbad:∀ e:Nat→AV,¬ AllD l→e 2 = .ptr 0 0→e 3 = .bool false→K .ret ⟨e,[.cells [.bool false,.nils],b1,b2]⟩)
  (hK:∀ e:Nat→AV,AllD ((l.take hi).drop lo)→e 0 = .str (bs l)→e 2 = .ptr 0 0→e 4 = .ptr 1 0→e 5 = .int .i64 (hi:Int)→e 6 = .int .i64 (numL ((l.take hi).drop lo):Int)→K (.exit 2) ⟨e,[.cells [.bool false,.nils],b1,b2]⟩) :
  T Tryz.prog 69 n0 (.loop Zob) ⟨envL [(0,.str (bs l)),(2,.ptr 0 0),(4,.ptr 1 0),(5,.int .i64 (hi:Int)),(6,.int .i64 0),(7,.int .i64 (lo:Int))],[.cells [.bool false,.nils],b1,b2]⟩ K:=by
 refine Zad (fun i:Nat=>⟨envL [(0,.str (bs l)),(2,.ptr 0 0),(4,.ptr 1 0),(5,.int .i64 (hi:Int)),(6,.int .i64 (numL ((l.take i).drop lo):Int)),(7,.int .i64 (i:Int))],[.cells [.bool false,.nils],b1,b2]⟩)
  (fun i=>lo≤i∧i≤hi∧AllD ((l.take i).drop lo)) (fun i=>hi - i) lo
  ⟨Nat.le_refl _,hlo,fun c hc=>by rw [List.drop_eq_nil_of_le (by simp; omega)] at hc; simp at hc⟩ (Zab _ (by
   have:(l.take lo).drop lo = []:=List.drop_eq_nil_of_le (by simp; omega)
   simp only [go_sem,this,Zyy]; simp)) (fun i hI N hN=>?_)
 obtain ⟨h1,h2,h3⟩:=hI
 unfold Zob
 by_cases hi':i<hi
 ·obtain ⟨c,gi⟩:∃ c,l[i]? = some c:=⟨_,List.getElem?_eq_getElem (show i<l.length by omega)⟩
  have p1:(i:Int)<(hi:Int):=by omega
  have p2:(0:Int)≤(i:Int):=by omega
  have e6:IntKind.i64.wrap ((i:Int)+1)=((i+1:Nat):Int):=by rw [Zac (by omega) (by omega)]; omega
  have hst:(l.take (i+1)).drop lo=(l.take i).drop lo ++ [c]:=by
   rw [List.take_add_one,gi]
   rw [List.drop_append_of_le_length (by simp; omega)]; rfl
  have hlt:numL ((l.take i).drop lo)<10 ^ 4:=by
   refine Nat.lt_of_lt_of_le (Zvu h3) (Nat.pow_le_pow_right (by omega) ?_)
   simp; omega
  by_cases c1:c.toNat<48
  ·have q1:(c.toNat:Int)<48:=by omega
   have hnd:¬ AllD l:=fun h=>by have:=h c (List.mem_of_getElem? gi); unfold isDig at this; omega
   simp only [go_sem,Zeo,Zfz,Zlx,p1,p2,Zcm,gi,q1]
   exact hbad _ hnd (by simp only [go_sem]) (by simp only [go_sem])
  ·have q1:¬ (c.toNat:Int)<48:=by omega
   by_cases c2:57<c.toNat
   ·have q2:(57:Int)<(c.toNat:Int):=by omega
    have hnd:¬ AllD l:=fun h=>by have:=h c (List.mem_of_getElem? gi); unfold isDig at this; omega
    simp only [go_sem,Zeo,Zfz,Zlx,p1,p2,Zcm,gi,q1,q2]
    exact hbad _ hnd (by simp only [go_sem]) (by simp only [go_sem])
   ·have q2:¬ (57:Int)<(c.toNat:Int):=by omega
    have e1:IntKind.u8.wrap ((c.toNat:Int) - 48)=((c.toNat - 48:Nat):Int):=by rw [Y70 (by omega) (by omega)]; omega
    have e2:IntKind.i64.wrap ((c.toNat - 48:Nat):Int)=((c.toNat - 48:Nat):Int):=Zac (by omega) (by omega)
    have e3:IntKind.i64.wrap (10*((numL ((l.take i).drop lo):Nat):Int))=((10*numL ((l.take i).drop lo):Nat):Int):=by rw [Zac (by omega) (by omega)]; omega
    have e4:IntKind.i64.wrap (((10*numL ((l.take i).drop lo):Nat):Int)+((c.toNat - 48:Nat):Int))=((numL ((l.take (i+1)).drop lo):Nat):Int):=by
     rw [hst,Z5h,Zac (by omega) (by omega)]; omega
    simp only [go_sem,Zeo,Zfz,Zwe,Zwk,p1,p2,Zcm,gi,q1,q2,e1,e2,e3,e4,e6]
    refine hN (i+1) _ ⟨by omega,by omega,fun x hx=>?_⟩ (by omega) (Zab _ (by simp only [go_sem]))
    rw [hst] at hx
    rcases List.mem_append.1 hx with hx | hx
    ·exact h3 x hx
    ·simp at hx; subst hx; unfold isDig; omega
 ·have he:i=hi:=by omega
  subst he
  have p1:¬ (i:Int)<(i:Int):=by omega
  simp only [go_sem,Zeo,p1]
  exact hK _ h3 (by simp only [go_sem]) (by simp only [go_sem]) (by simp only [go_sem]) (by simp only [go_sem]) (by simp only [go_sem])
theorem Xb7 {l:List UInt8}(hl0:l ≠ []) (hll:l.length≤4000) {K:Ex→St→Prop}
  (hbad:∀ (e:Nat→AV) (b1 b2:Blk),¬ AllD l→e 2 = .ptr 0 0→e 3 = .bool false→K .ret ⟨e,[.cells [.bool false,.nils],b1,b2]⟩)
  (hK:∀ (e:Nat→AV) (s:List Nat),AllD l→Od s→vd s=numL l→s.length≤4001→e 2 = .ptr 0 0→e 4 = .ptr 1 0→K (.exit 0) ⟨e,[.cells [.bool false,.nils],.cells [.bool false,.osl none 2 0 s.length],.cells (ic s)]⟩) :
  T Tryz.prog 69 0 (.loop Zh6) ⟨envL [(0,.str (bs l)),(2,.ptr 0 0),(4,.ptr 1 0),(5,.int .i64 (l.length:Int))],[.cells [.bool false,.nils],.cells [.bool false,.osl none 2 0 0],.cells []]⟩ K:=by
 refine Zad (fun s:List Nat=>⟨envL [(0,.str (bs l)),(2,.ptr 0 0),(4,.ptr 1 0),(5,.int .i64 ((l.length:Int) - 4*s.length))],[.cells [.bool false,.nils],.cells [.bool false,.osl none 2 0 s.length],.cells (ic s)]⟩)
  (fun s=>Od s∧4*s.length<l.length+4∧AllD (l.drop (l.length - 4*s.length))∧vd s=numL (l.drop (l.length - 4*s.length))) (fun s=>l.length+4 - 4*s.length) []
  ⟨fun x hx=>by simp at hx,by simp,fun c hc=>by simp at hc,by simp [vd,Zyy]⟩ (Zab _ (by simp only [go_sem]; simp)) (fun s hI N hN=>?_)
 obtain ⟨h1,h2,h3,h4⟩:=hI
 unfold Zh6
 by_cases hgo:4*s.length<l.length
 ·obtain ⟨hi,hhi⟩:∃ hi,hi=l.length - 4*s.length:=⟨_,rfl⟩
  obtain ⟨lo,hlo⟩:∃ lo,lo=hi - 4:=⟨_,rfl⟩
  have ehi:(l.length:Int) - 4*(s.length:Int)=(hi:Int):=by omega
  have p1:(0:Int)<(hi:Int):=by omega
  have e1:IntKind.i64.wrap ((hi:Int) - 4)=(hi:Int) - 4:=Zac (by omega) (by omega)
  have e2:(if (hi:Int) - 4 > 0 then (hi:Int) - 4 else 0)=(lo:Int):=by split <;> omega
  simp only [go_sem,Znq,Z0c,Z0m,ehi,p1,e1]
  rw [← hhi] at h3 h4
  have hlo2:l.length - 4*(s.length+1)=lo:=by omega
  refine Zap [(0,.str (bs l)),(2,.ptr 0 0),(4,.ptr 1 0),(5,.int .i64 (hi:Int)),(6,.int .i64 0),(7,.int .i64 (lo:Int))] (by simp only [go_sem,e2])
   (Xck (by omega) (by omega) (by omega) hll (fun e hn k2 k3=>by simp only [go_sem]; exact hbad e _ _ hn k2 k3) (fun e g1 k0 k2 k4 k5 k6=>?_))
  have hsz:(s.length+1)*8≤1099511627776:=by omega
  have hfit:s.length≤(ic s).length:=by rw [Zan]; omega
  have htake:(ic s).take s.length=ic s:=List.take_of_length_le (by rw [Zan]; omega)
  have e3:(hi:Int) - 4=(l.length:Int) - 4*((s.length+1:Nat):Int):=by omega
  have hgl:((l.take hi).drop lo).length≤4:=by simp; omega
  have hsplit:l.drop lo=(l.take hi).drop lo++l.drop hi:=by
   have h:=List.take_append_drop hi l
   conv=>lhs; rw [← h]
   rw [List.drop_append_of_le_length (by simp; omega)]
  have hnum:numL (l.drop lo)=numL ((l.take hi).drop lo)*10000 ^ s.length+numL (l.drop hi):=by
   rw [hsplit,Zg0]
   have:(l.drop hi).length=4*s.length:=by rw [List.length_drop]; omega
   rw [this,Nat.pow_mul]
  have hd4:numL ((l.take hi).drop lo)<10000:=by
   have h1:=Zvu g1
   have h2:10 ^ ((l.take hi).drop lo).length≤10 ^ 4:=Nat.pow_le_pow_right (by omega) hgl
   exact Nat.lt_of_lt_of_le h1 h2
  generalize numL ((l.take hi).drop lo)=d at *
  simp only [go_sem,Zwd,Zv9,k4,k5,k6,hsz,hfit,htake,e1]
  refine hN (s ++ [d]) _ ⟨h1.append (fun x hx=>by simp at hx; omega),by rw [List.length_append,List.length_singleton]; omega,?_,?_⟩ (by show _<_; rw [List.length_append,List.length_singleton]; omega) ?_
  ·rw [List.length_append,List.length_singleton,hlo2,hsplit]
   intro x hx
   rcases List.mem_append.1 hx with hx | hx
   ·exact g1 x hx
   ·exact h3 x hx
  ·rw [List.length_append,List.length_singleton,hlo2,hnum,Zko,h4]
   simp only [vd,Nat.mul_zero,Nat.add_zero]
   rw [Nat.mul_comm d]; omega
  ·refine Zbj (Zgv [0,1,4] (by decide) (fun i hi=>by omega) [(0,.str (bs l)),(2,.ptr 0 0),(4,.ptr 1 0),(5,.int .i64 ((l.length:Int) - 4*((s.length+1:Nat):Int)))] (by simp only [go_sem,k0,k2,k4,e3])) ?_
   have h1:ic s ++ [AV.int .i64 (d:Int)]=ic (s ++ [d]):=by rw [Yfv]; rfl
   simp only [List.length_append,List.length_singleton]
   congr 1
   show [Blk.cells [.bool false,.nils],Blk.cells [.bool false,.osl none 2 0 (s.length+1)],Blk.cells (gcL _ (ic s ++ [AV.int .i64 (d:Int)]))]=_
   rw [h1,Y88]
 ·have p1:¬ (0:Int)<(l.length:Int) - 4*(s.length:Int):=by omega
  have hz:l.length - 4*s.length=0:=by omega
  rw [hz,List.drop_zero] at h3 h4
  simp only [go_sem,Znq,p1]
  exact hK _ s h3 h1 h4 (by omega) (by simp only [go_sem]) (by simp only [go_sem])
end GoAbs
namespace GoAbs
open Go Go.Proofs
def digR (l:List UInt8):AV:=if digOk l then .tup [avZ (numL l),.bool true] else .tup [.agg [.bool false,.nils],.bool false]
theorem rdigits {l:List UInt8}(hlen:l.length≤1000000000):SpecV Tryz.prog Yqd [.str (bs l)] (digR l):=by
 refine Za0 Ylo (by simp) (Za9 1 rfl ?_)
 unfold Yf4
 have tail:∀ (e:Nat→AV),l ≠ []→l.length≤4000→¬ (l.head? = some 48∧1<l.length)→e 0 = .str (bs l)→e 2 = .ptr 0 0 →
   T Tryz.prog 69 0 (.seq (.rg false Znd) (.seq (.seq (.rg false Znw) (.block 0 (.loop Zh6))) (.seq (.rg false Zln) .ret))) ⟨e,[.cells [.bool false,.nils]]⟩ (retQ [.cell 2 (some 2),.tmp 3] (digR l)):=fun e h0 hl h48 k0 k2=>by
  refine Zau (T_W ?_)
  simp only [go_sem,Znd]
  refine Zap [(0,.str (bs l)),(2,.ptr 0 0),(4,.ptr 1 0)] (by simp only [go_sem,k0,k2]) ?_
  refine T_le (Ydd (b:=1) (l := [.bool false,.nils]) (l' := [.bool false,.osl none 2 0 0]) rfl rfl (fun j x y hx hy=>?_)) (T_le Yop ?_)
  ·match j,hx,hy with
   | 0,hx,hy=>simp at hx hy; subst hx; subst hy; exact .inl rfl
   | 1,hx,hy=>simp at hx hy; subst hx; subst hy; exact .inr ⟨rfl,_,_,_,rfl⟩
   | j+2,hx,hy=>simp at hx
  refine Zau (Zau (T_W ?_))
  simp only [go_sem,Znw,Zak]
  refine Zat ?_
  refine Zap [(0,.str (bs l)),(2,.ptr 0 0),(4,.ptr 1 0),(5,.int .i64 (l.length:Int))] (by simp only [go_sem]) ?_
  refine Xb7 h0 hl (fun e2 b1 b2 hn j2 j3=>?_) (fun e2 s g1 g2 g3 g4 j2 j4=>?_)
  ·have hr:digR l = .tup [.agg [.bool false,.nils],.bool false]:=by unfold digR; rw [if_neg (fun h=>hn h.1)]
   rw [hr]
   simp only [go_sem,j2,j3]
  ·have hr:digR l = .tup [avZ (numL l),.bool true]:=by unfold digR; rw [if_pos ⟨g1,h0,h48,hl⟩]
   rw [hr]
   have hln:=Znt (m:=false) g2 (by omega)
   rw [g3] at hln
   simp only [Bool.false_eq_true,if_false] at hln
   rw [Zaz] at hln ⊢
   simp only [go_sem]
   refine T_W ?_
   simp only [go_sem,Zln,j2,j4]
   refine Zjj (ids := [2]) hln ?_ ?_
   ·simp only [go_sem]
    exact Ynl (r:=s) rfl (by simp) rfl (by rw [List.drop_zero]; exact List.take_of_length_le (by simp [Zan]))
   simp only [go_sem,j2]
 have bad:¬ digOk l→digR l = .tup [.agg [.bool false,.nils],.bool false]:=fun h=>by unfold digR; rw [if_neg h]
 by_cases h0:l = []
 ·have q1:(l.length:Int)<1:=by rw [h0]; simp
  rw [bad (fun h=>h.2.1 h0)]
  simp only [go_sem,Zcs,Zcv,Zia,Zak,q1]
 ·have hpos:0<l.length:=List.length_pos_iff.2 h0
  have q1:¬ (l.length:Int)<1:=by omega
  obtain ⟨c,gi⟩:∃ c,l[0]? = some c:=⟨_,List.getElem?_eq_getElem hpos⟩
  have hhd:l.head? = some c:=by rw [List.head?_eq_getElem?]; exact gi
  by_cases h4:l.length≤4000
  ·have q2:¬ (4000:Int)<(l.length:Int):=by omega
   by_cases hc:c=48
   ·have hci:(c.toNat:Int)=48:=by rw [hc]; rfl
    by_cases h1:1<l.length
    ·have q3:(1:Int)<(l.length:Int):=by omega
     rw [bad (fun h=>h.2.2.1 ⟨by rw [hhd,hc],h1⟩)]
     simp only [go_sem,Zcs,Zcv,Zia,Zak,Zcm,gi,q1,q2,q3,hci]
    ·have q3:¬ (1:Int)<(l.length:Int):=by omega
     simp only [go_sem,Zcs,Zcv,Zak,Zcm,gi,q1,q2,q3,hci]
     exact tail _ h0 h4 (fun h=>h1 h.2) (by simp only [go_sem]) (by simp only [go_sem])
   ·have hci:¬ (c.toNat:Int)=48:=fun h=>hc (UInt8.toNat_inj.1 (by have:(48:UInt8).toNat=48:=rfl; omega))
    simp only [go_sem,Zcs,Zcv,Zak,Zcm,gi,q1,q2,hci]
    exact tail _ h0 h4 (fun h=>hc (by rw [hhd] at h; simpa using h.1)) (by simp only [go_sem]) (by simp only [go_sem])
  ·have q2:(4000:Int)<(l.length:Int):=by omega
   rw [bad (fun h=>h4 h.2.2.2)]
   simp only [go_sem,Zcs,Zcv,Zia,Zak,q1,q2]
end GoAbs
namespace GoAbs
open Go Go.Proofs
def befL (o:List UInt8):List UInt8:=o.takeWhile (· != 47)
def aftL (o:List UInt8):List UInt8:=(o.dropWhile (· != 47)).tail
theorem Y4a {o:List UInt8}{i:Nat}{c:UInt8}(h:o[i]? = some c):(befL (o.drop i))=if c=47 then [] else c::befL (o.drop (i+1)):=by
 obtain ⟨hi,he⟩:=List.getElem?_eq_some_iff.1 h
 rw [List.drop_eq_getElem_cons hi,he]
 unfold befL
 rw [List.takeWhile_cons]
 by_cases hc:c=47 <;> simp [hc]
theorem Y5t {o:List UInt8}{m:Bool}{n0:Nat}{H:Heap}(ho:o.length≤1000000000) {K:Ex→St→Prop}
  (hK:∀ e:Nat→AV,e 2 = .ptr 0 0→e 4 = .str (bs o)→e 5 = .bool m→e 6 = .int .i64 ((befL o).length:Int)→K (.exit 0) ⟨e,H⟩) :
  T Tryz.prog 98 n0 (.loop Zjr) ⟨envL [(2,.ptr 0 0),(4,.str (bs o)),(5,.bool m),(6,.int .i64 (o.length:Int)),(7,.int .i64 ((o.length:Int) - 1))],H⟩ K:=by
 refine Zad (fun i:Nat=>⟨envL [(2,.ptr 0 0),(4,.str (bs o)),(5,.bool m),(6,.int .i64 ((i+(befL (o.drop i)).length:Nat):Int)),(7,.int .i64 ((i:Int) - 1))],H⟩)
  (fun i=>i≤o.length) (fun i=>i) o.length (Nat.le_refl _) (Zab _ (by simp only [go_sem,List.drop_length]; simp [befL])) (fun i hi N hN=>?_)
 unfold Zjr
 cases i with
 | zero =>
  have q1:¬ (0:Int)≤((0:Nat):Int) - 1:=by omega
  simp only [go_sem,Zj4,q1]
  exact hK _ (by simp only [go_sem]) (by simp only [go_sem]) (by simp only [go_sem]) (by simp only [go_sem,List.drop_zero,Nat.zero_add])
 | succ j =>
  have e0:((j+1:Nat):Int) - 1=(j:Int):=by omega
  have q1:(0:Int)≤(j:Int):=by omega
  have e1:IntKind.i64.wrap ((j:Int) - 1)=(j:Int) - 1:=Zac (by omega) (by omega)
  obtain ⟨c,gi⟩:∃ c,o[j]? = some c:=⟨_,List.getElem?_eq_getElem (show j<o.length by omega)⟩
  have hb:=Y4a gi
  by_cases hc:c=47
  ·have hci:(c.toNat:Int)=47:=by rw [hc]; rfl
   rw [if_pos hc] at hb
   simp only [go_sem,Zj4,Zm8,Z0s,Zoh,e0,q1,Zcm,gi,hci,e1]
   refine hN j _ (by omega) (by omega) (Zab _ (by simp only [go_sem,hb]; try simp))
  ·have hci:¬ (c.toNat:Int)=47:=fun h=>hc (UInt8.toNat_inj.1 (by have:(47:UInt8).toNat=47:=rfl; omega))
   rw [if_neg hc] at hb
   simp only [go_sem,Zj4,Zm8,Zoh,e0,q1,Zcm,gi,hci,e1]
   refine hN j _ (by omega) (by omega) (Zab _ (by simp only [go_sem,hb,List.length_cons]; simp; try omega))
theorem Yme (o:List UInt8):o.take (befL o).length=befL o:=by
 have h:=List.takeWhile_append_dropWhile (p:=(· != 47)) (l:=o)
 have h2:(o.takeWhile (· != 47)++o.dropWhile (· != 47)).take (befL o).length=befL o:=List.take_left' rfl
 rwa [h] at h2
theorem Yvy (o:List UInt8):(befL o).length<o.length↔47∈o:=by
 have h:=List.takeWhile_append_dropWhile (p:=(· != 47)) (l:=o)
 have hl:=congrArg List.length h
 rw [List.length_append] at hl
 have key:(o.dropWhile (· != 47)) = []↔¬ 47∈o:=by
  clear h hl
  induction o with
  | nil=>simp
  | cons x o ih =>
   rw [List.dropWhile_cons]
   by_cases hx:x=47
   ·subst hx; simp
   ·have hx':¬ 47=x:=fun e=>hx e.symm
    simp [hx,hx',ih]
 unfold befL
 constructor
 ·intro h1
  by_cases h2:47∈o
  ·exact h2
  ·rw [key.2 h2] at hl; simp at hl; omega
 ·intro h1
  have:(o.dropWhile (· != 47)) ≠ []:=fun e=>key.1 e h1
  have:=List.length_pos_iff.2 this
  omega
theorem Ym1 (o:List UInt8):o.drop ((befL o).length+1)=aftL o:=by
 have h:=List.takeWhile_append_dropWhile (p:=(· != 47)) (l:=o)
 rw [← List.drop_drop]
 have:o.drop (befL o).length=o.dropWhile (· != 47):=by
  have h2:(o.takeWhile (· != 47)++o.dropWhile (· != 47)).drop (befL o).length=o.dropWhile (· != 47):=List.drop_left' rfl
  rwa [h] at h2
 rw [this]
 unfold aftL
 rw [List.drop_one]
end GoAbs
namespace GoAbs
open Go Go.Proofs
def badR:AV := .tup [.agg [.bool false,.nils,.bool false,.nils],.bool false]
def digC (l:List UInt8):List AV:=if digOk l then [.bool false,.sl (ic (dg (numL l)))] else [.bool false,.nils]
theorem Y4z (l:List UInt8):digR l = .tup [.agg (digC l),.bool (decide (digOk l))]:=by
 unfold digR digC
 by_cases h:digOk l
 ·rw [if_pos h,if_pos h,Zaz]; simp [h]
 ·rw [if_neg h,if_neg h]; simp [h]
theorem Yij {e:Nat→AV}{a:List UInt8}{m:Bool}{D:Nat}{rest:Heap}(e2:e 2 = .ptr 0 0) (e5:e 5 = .bool m) (e8:e 8 = .ptr 1 0) (e9:e 9 = .bool (decide (digOk a))) (e10:e 10 = .ptr 2 0) :
  T Tryz.prog 98 0 (.seq (.seq (.rg false Zbo) (.cond (.t 90) (.seq (.rg false Zc0) .ret) .skip)) (.seq (.seq (.rg false Zcr) (.cond (.t 92) (.rg false Zet) .skip)) (.seq (.rg false Zcz) .ret)))
   ⟨e,.cells [.bool false,.nils,.bool false,.nils] :: .cells (digC a) :: .cells [.bool false,.sl (ic (dg D))]::rest⟩
   (retQ [.cell 2 (some 4),.tmp 3] (if digOk a∧¬ (m=true∧numL a=0) then .tup [avR (if m then -(numL a:Int) else numL a) (D:Int),.bool true] else badR)):=by
 refine T_W ?_
 have hz2:([AV.bool false,.nils]:List AV).length=2:=rfl
 by_cases hA:digOk a
 ·have hc:digC a = [.bool false,.sl (ic (dg (numL a)))]:=by unfold digC; rw [if_pos hA]
  have hd:decide (digOk a)=true:=by simp [hA]
  rw [hc]
  cases m with
  | false =>
   have hr:(if digOk a∧¬ (false=true∧numL a=0) then AV.tup [avR (if false=true then -(numL a:Int) else numL a) (D:Int),.bool true] else badR) = .tup [.agg [.bool false,.sl (ic (dg (numL a))),.bool false,.sl (ic (dg D))],.bool true]:=by
    rw [if_pos ⟨hA,by simp⟩,Zaq]; simp
   rw [hr]
   simp only [go_sem,Zbo,Zcr,Zcz,e2,e5,e8,e9,e10,hd,Bool.not_true,Bool.not_false]
  | true =>
   by_cases h0:numL a=0
   ·have hr:(if digOk a∧¬ (true=true∧numL a=0) then AV.tup [avR (if true=true then -(numL a:Int) else numL a) (D:Int),.bool true] else badR)=badR:=if_neg (fun h=>h.2 ⟨rfl,h0⟩)
    rw [hr]
    have hl:(((dg (numL a)).length:Nat):Int)=0:=by rw [h0,Zcg]; rfl
    unfold badR
    simp only [go_sem,Zbo,Zc0,e2,e5,e8,e9,e10,hd,Bool.not_true,Bool.not_false,Zan,hl]
   ·have hr:(if digOk a∧¬ (true=true∧numL a=0) then AV.tup [avR (if true=true then -(numL a:Int) else numL a) (D:Int),.bool true] else badR) = .tup [.agg [.bool (decide (-(numL a:Int)<0)),.sl (ic (dg (-(numL a:Int)).natAbs)),.bool false,.sl (ic (dg D))],.bool true]:=by
     rw [if_pos ⟨hA,fun h=>h0 h.2⟩,Zaq]; simp
    rw [hr]
    have hl:¬ (((dg (numL a)).length:Nat):Int)=0:=by have:=(Zfl (n:=numL a)).2 h0; omega
    have hn:=Yvw (z:=(numL a:Int))
    rw [Zaz,Zai] at hn
    simp only [go_sem,Zbo,Zcr,Zet,e2,e5,e8,e9,e10,hd,Bool.not_true,Bool.not_false,Zan,hl]
    refine Zaa hn (by simp only [go_sem]) ?_
    simp only [go_sem,Zcz,e2,e8,e10]
 ·have hc:digC a = [.bool false,.nils]:=by unfold digC; rw [if_neg hA]
  have hd:decide (digOk a)=false:=by simp [hA]
  rw [hc,if_neg (fun h=>hA h.1)]
  unfold badR
  simp only [go_sem,Zbo,Zc0,e2,e5,e8,e9,e10,hd,Bool.not_true,Bool.not_false]
end GoAbs
namespace GoAbs
open Go Go.Proofs
def slashOk (o:List UInt8):Prop:=digOk (aftL o)∧2≤numL (aftL o)∧Nat.gcd (if digOk (befL o) then numL (befL o) else 0) (numL (aftL o))=1
instance (o:List UInt8):Decidable (slashOk o):=by unfold slashOk; infer_instance
def midR (o:List UInt8) (m:Bool):AV :=
 if 47∈o→slashOk o then (if digOk (befL o)∧¬ (m=true∧numL (befL o)=0) then .tup [avR (if m then -(numL (befL o):Int) else numL (befL o)) ((if 47∈o then numL (aftL o) else 1:Nat):Int),.bool true] else badR) else badR
theorem Y7q {H:Heap}{a:List UInt8}:BVs H [] (digC a) [.bool false,.sl (ic (dg (if digOk a then numL a else 0)))]:=by
 unfold digC
 by_cases h:digOk a
 ·rw [if_pos h,if_pos h]; simp only [go_sem]
 ·rw [if_neg h,if_neg h,Zcg,Yuf]; simp only [go_sem]
theorem Ym8 {a:List UInt8}:(digC a).length=2:=by unfold digC; split <;> rfl
theorem Yua {l:List UInt8}(h:digOk l):lenD (numL l)≤4000:=by
 refine Zpm (Nat.lt_of_lt_of_le (Zvu h.1) ?_)
 exact Nat.le_trans (Nat.pow_le_pow_right (by omega) h.2.2.2) (Nat.pow_le_pow_left (show 10≤10000 by decide) 4000)
theorem Yxu {e:Nat→AV}{o:List UInt8}{m:Bool}(ho:o.length≤1000000000) (e2:e 2 = .ptr 0 0) (e4:e 4 = .str (bs o)) (e5:e 5 = .bool m) (e6:e 6 = .int .i64 ((befL o).length:Int)) :
  T Tryz.prog 98 0 (.seq (.rg false Zhy) (.seq (.rg false Zhv) (.seq (.seq (.rg false Zhj) (.cond (.t 53) (.seq (.rg false Zhh) (.seq (.seq (.rg true Zcx) (.cond (.t 77) (.seq (.rg false Zcu) .ret) .skip)) (.rg false Zhl))) .skip))
   (.seq (.seq (.rg false Zbo) (.cond (.t 90) (.seq (.rg false Zc0) .ret) .skip)) (.seq (.seq (.rg false Zcr) (.cond (.t 92) (.rg false Zet) .skip)) (.seq (.rg false Zcz) .ret))))))
   ⟨e,[.cells [.bool false,.nils,.bool false,.nils]]⟩ (retQ [.cell 2 (some 4),.tmp 3] (midR o m)):=by
 have hm:Tryz.prog.follows .mixedOrders=true:=by kernel_rfl
 refine Za9 2 rfl ?_
 have hbl:(befL o).length≤o.length:=by
  have:=congrArg List.length (Yme o)
  rw [List.length_take] at this
  omega
 have p0:(0:Int)≤((befL o).length:Int):=by omega
 have hdA:=rdigits (l:=befL o) (by omega)
 rw [Y4z] at hdA
 have hdB:=rdigits (l:=aftL o) (by rw [← Ym1,List.length_drop]; omega)
 rw [Y4z] at hdB
 have i1:SpecV Tryz.prog Ygh [.int .i64 1] (.agg [.bool false,.sl (ic (dg 1))]):=by
  have:=Yja (v:=1) (by decide)
  rwa [show avZ 1 = .agg [.bool false,.sl (ic (dg 1))] from Zaz (m:=1)] at this
 have i2:SpecV Tryz.prog Ygh [.int .i64 2] (.agg [.bool false,.sl (ic (dg 2))]):=by
  have:=Yja (v:=2) (by decide)
  rwa [show avZ 2 = .agg [.bool false,.sl (ic (dg 2))] from Zaz (m:=2)] at this
 have htk:o.take (befL o).length=befL o:=Yme o
 have d2:(digC (befL o)).drop 2 = []:=List.drop_eq_nil_of_le (by rw [Ym8]; omega)
 have dl:=Ym8 (a:=befL o)
 simp only [go_sem,Zhy,Zhv,Zhj,e2,e4,e5,e6,Zak,Zc2,htk,p0,hbl,List.drop_zero]
 refine ⟨by omega,?_⟩
 refine Zaa hdA (by simp only [go_sem]) ?_
 simp only [go_sem,dl,d2]
 refine Zaa i1 (by simp only [go_sem]) ?_
 by_cases h47:47∈o
 ·have q1:((befL o).length:Int)<(o.length:Int):=by have:=(Yvy o).2 h47; omega
  have e1:IntKind.i64.wrap (((befL o).length:Int)+1)=(((befL o).length+1:Nat):Int):=by rw [Zac (by omega) (by omega)]; omega
  have p1:(0:Int)≤(((befL o).length+1:Nat):Int):=by omega
  have hle:(befL o).length+1≤o.length:=by omega
  have hdr:(o.take o.length).drop ((befL o).length+1)=aftL o:=by rw [List.take_length]; exact Ym1 o
  have hmid:midR o m=if slashOk o then (if digOk (befL o)∧¬ (m=true∧numL (befL o)=0) then .tup [avR (if m then -(numL (befL o):Int) else numL (befL o)) (numL (aftL o):Int),.bool true] else badR) else badR:=by
   unfold midR
   simp only [h47,if_true,true_implies]
  have db:=Ym8 (a:=aftL o)
  have d2b:(digC (aftL o)).drop 2 = []:=List.drop_eq_nil_of_le (by omega)
  have t2b:(digC (aftL o)).take 2=digC (aftL o):=List.take_of_length_le (by omega)
  have t2a:(digC (befL o)).take 2=digC (befL o):=List.take_of_length_le (by omega)
  have l2a:2≤(digC (befL o)).length:=by omega
  have l2b:2≤(digC (aftL o)).length:=by omega
  simp only [go_sem,e2,e4,e5,e6,Zak,Zc2,q1,Zhh,e1,p1,hle,hdr]
  refine ⟨Nat.le_refl _,?_⟩
  refine Zaa hdB (by simp only [go_sem]) ?_
  by_cases hB:digOk (aftL o)
  ·have hd:decide (digOk (aftL o))=true:=by simp [hB]
   have hcB:digC (aftL o) = [.bool false,.sl (ic (dg (numL (aftL o))))]:=by unfold digC; rw [if_pos hB]
   have lB:=Yua hB
   rw [hcB] at db d2b t2b l2b ⊢
   rw [hd]
   simp only [go_sem,db,d2b,Zcx,hm,Bool.not_true]
   refine Zaa i2 (by simp only [go_sem]) ?_
   simp only [go_sem]
   have hc2:=Y1h (a:=(numL (aftL o):Int)) (b:=2) (by rw [Int.natAbs_natCast]; unfold Zs; omega) (by have:lenD 2≤1:=Zy9 (by omega); show lenD 2≤_; omega)
   rw [Zaz,show avZ 2 = .agg [.bool false,.sl (ic (dg 2))] from Zaz (m:=2)] at hc2
   refine Zaa hc2 (by simp only [go_sem]) ?_
   by_cases hD2:2≤numL (aftL o)
   ·have hlt:¬ (if (numL (aftL o):Int)=2 then (0:Int) else if (numL (aftL o):Int)<2 then -1 else 1)<0:=by split <;> (try split) <;> omega
    obtain ⟨N',hN'⟩:∃ N',N'=(if digOk (befL o) then numL (befL o) else 0):=⟨_,rfl⟩
    have lN:lenD N'≤10000000:=by
     rw [hN']; split
     ·rename_i h; have:=Yua h; omega
     ·show (dg 0).length≤_; rw [Zcg]; simp
    have hgcd:=Xbm (a:=(N':Int)) (b:=(numL (aftL o):Int)) (by rw [Int.natAbs_natCast]; exact lN) (by rw [Int.natAbs_natCast]; omega)
    have hgn:Int.gcd (N':Int) (numL (aftL o):Int)=Nat.gcd N' (numL (aftL o)):=rfl
    rw [hgn,Zaz,Zaz,Zaz] at hgcd
    have lg:lenD (Nat.gcd N' (numL (aftL o)))≤4000:=Nat.le_trans (Zbe (Nat.le_of_dvd (by omega) (Nat.gcd_dvd_right _ _))) lB
    have hc1:=Y1h (a:=(Nat.gcd N' (numL (aftL o)):Int)) (b:=1) (by rw [Int.natAbs_natCast]; unfold Zs; omega) (by have:lenD 1≤1:=Zy9 (by omega); show lenD 1≤_; omega)
    rw [Zaz,show avZ 1 = .agg [.bool false,.sl (ic (dg 1))] from Zaz (m:=1)] at hc1
    have bvA:=fun (H:Heap)=>Y7q (H:=H) (a:=befL o)
    rw [← hN'] at bvA
    simp only [go_sem,hlt,l2a,t2a]
    refine Zl1 (ids := []) hgcd (by simp only [go_sem]; exact bvA _) (.inl rfl) (fun b hb=>by simp at hb) ?_
    simp only [go_sem]
    refine Zaa i1 (by simp only [go_sem]) ?_
    simp only [go_sem]
    refine Zaa hc1 (by simp only [go_sem]) ?_
    by_cases hg:Nat.gcd N' (numL (aftL o))=1
    ·have hne:(if ((Nat.gcd N' (numL (aftL o)):Nat):Int)=1 then (0:Int) else if ((Nat.gcd N' (numL (aftL o)):Nat):Int)<1 then -1 else 1)=0:=if_pos (by omega)
     have hso:slashOk o:=⟨hB,hD2,by rw [← hN']; exact hg⟩
     rw [hmid,if_pos hso]
     simp only [go_sem,hne,Zhl]
     exact Yij (by simp only [go_sem,e2]) (by simp only [go_sem,e5]) (by simp only [go_sem]) (by simp only [go_sem]) (by simp only [go_sem])
    ·have hne:¬ (if ((Nat.gcd N' (numL (aftL o)):Nat):Int)=1 then (0:Int) else if ((Nat.gcd N' (numL (aftL o)):Nat):Int)<1 then -1 else 1)=0:=by
      rw [if_neg (by omega)]; split <;> omega
     have hso:¬ slashOk o:=fun h=>hg (by rw [hN']; exact h.2.2)
     rw [hmid,if_neg hso]
     unfold badR
     simp only [go_sem,hne,Zcu,e2]
   ·have hlt:(if (numL (aftL o):Int)=2 then (0:Int) else if (numL (aftL o):Int)<2 then -1 else 1)<0:=by rw [if_neg (by omega),if_pos (by omega)]; omega
    have hso:¬ slashOk o:=fun h=>hD2 h.2.1
    rw [hmid,if_neg hso]
    unfold badR
    simp only [go_sem,hlt,Zcu,e2]
  ·have hd:decide (digOk (aftL o))=false:=by simp [hB]
   have hso:¬ slashOk o:=fun h=>hB h.1
   rw [hd,hmid,if_neg hso]
   unfold badR
   simp only [go_sem,db,d2b,Zcx,Zcu,hm,Bool.not_false,e2]
 ·have q1:¬ ((befL o).length:Int)<(o.length:Int):=fun h=>h47 ((Yvy o).1 (by omega))
  have hmid:midR o m=if digOk (befL o)∧¬ (m=true∧numL (befL o)=0) then .tup [avR (if m then -(numL (befL o):Int) else numL (befL o)) ((1:Nat):Int),.bool true] else badR:=by
   unfold midR
   simp only [h47,if_false,false_implies,if_true]
  rw [hmid]
  simp only [go_sem,e2,e4,e5,e6,Zak,q1]
  exact Yij (D:=1) (rest := []) (by simp only [go_sem,e2]) (by simp only [go_sem,e5]) (by simp only [go_sem]) (by simp only [go_sem]) (by simp only [go_sem])
end GoAbs
namespace GoAbs
open Go Go.Proofs
def refP (l:List UInt8):AV:=if 8002<l.length then badR else midR (signL l).1 (signL l).2
theorem Y0c {l:List UInt8}(hlen:l.length≤1000000000):SpecV Tryz.prog Yd4 [.str (bs l)] (refP l):=by
 refine Za0 Yqj (by simp) (Za9 4 rfl ?_)
 unfold Yjf
 by_cases hbig:8002<l.length
 ·have q1:(8002:Int)<(l.length:Int):=by omega
  unfold refP
  rw [if_pos hbig]
  unfold badR
  simp only [go_sem,Zgb,Zf9,Zfv,Z4x,Zak,q1]
 ·have q1:¬ (8002:Int)<(l.length:Int):=by omega
  unfold refP
  rw [if_neg hbig]
  have tail:∀ (e:Nat→AV) (o:List UInt8) (m:Bool),o.length≤1000000000→e 2 = .ptr 0 0→e 4 = .str (bs o)→e 5 = .bool m→e 6 = .int .i64 (o.length:Int) →
    T Tryz.prog 98 0 (.seq (.seq (.rg false Zrd) (.block 0 (.loop Zjr))) (.seq (.rg false Zhy) (.seq (.rg false Zhv) (.seq (.seq (.rg false Zhj) (.cond (.t 53) (.seq (.rg false Zhh) (.seq (.seq (.rg true Zcx) (.cond (.t 77) (.seq (.rg false Zcu) .ret) .skip)) (.rg false Zhl))) .skip))
     (.seq (.seq (.rg false Zbo) (.cond (.t 90) (.seq (.rg false Zc0) .ret) .skip)) (.seq (.seq (.rg false Zcr) (.cond (.t 92) (.rg false Zet) .skip)) (.seq (.rg false Zcz) .ret)))))))
     ⟨e,[.cells [.bool false,.nils,.bool false,.nils]]⟩ (retQ [.cell 2 (some 4),.tmp 3] (midR o m)):=fun e o m ho k2 k4 k5 k6=>by
   have e1:IntKind.i64.wrap ((o.length:Int) - 1)=(o.length:Int) - 1:=Zac (by omega) (by omega)
   refine Zau (Zau (T_W ?_))
   simp only [go_sem,Zrd,k4,Zak,e1]
   refine Zat ?_
   refine Zap [(2,.ptr 0 0),(4,.str (bs o)),(5,.bool m),(6,.int .i64 (o.length:Int)),(7,.int .i64 ((o.length:Int) - 1))] (by simp only [go_sem,k2,k4,k5,k6]) ?_
   refine Y5t ho (fun e2 j2 j4 j5 j6=>?_)
   simp only [go_sem]
   exact Yxu ho j2 j4 j5 j6
  by_cases hpos:0<l.length
  ·have q2:(0:Int)<(l.length:Int):=by omega
   obtain ⟨c,gi⟩:∃ c,l[0]? = some c:=⟨_,List.getElem?_eq_getElem hpos⟩
   have hhd:l.head? = some c:=by rw [List.head?_eq_getElem?]; exact gi
   by_cases hc:c=45
   ·have hci:(c.toNat:Int)=45:=by rw [hc]; rfl
    have hs:signL l=(l.tail,true):=by unfold signL; rw [if_pos (by rw [hhd,hc])]
    have h1:1≤l.length:=hpos
    have hdr:(l.take l.length).drop 1=l.tail:=by rw [List.take_length,List.drop_one]
    rw [hs]
    simp only [go_sem,Zgb,Zf9,Zfv,Zj5,Z7c,Zka,Zak,Zcm,Zc2,q1,q2,gi,hci,h1,hdr]
    refine ⟨Nat.le_refl _,?_⟩
    exact tail _ l.tail true (by rw [List.length_tail]; omega) (by simp only [go_sem]) (by simp only [go_sem]) (by simp only [go_sem]) (by simp only [go_sem])
   ·have hci:¬ (c.toNat:Int)=45:=fun h=>hc (UInt8.toNat_inj.1 (by have:(45:UInt8).toNat=45:=rfl; omega))
    have hs:signL l=(l,false):=by unfold signL; rw [if_neg (by rw [hhd]; simpa using hc)]
    rw [hs]
    simp only [go_sem,Zgb,Zf9,Zfv,Zj5,Zka,Zak,Zcm,q1,q2,gi,hci]
    exact tail _ l false hlen (by simp only [go_sem]) (by simp only [go_sem]) (by simp only [go_sem]) (by simp only [go_sem])
  ·have q2:¬ (0:Int)<(l.length:Int):=by omega
   have hs:signL l=(l,false):=by
    have:l = []:=List.length_eq_zero_iff.1 (by omega)
    subst this; rfl
   rw [hs]
   simp only [go_sem,Zgb,Zf9,Zfv,Zj5,Zka,Zak,q1,q2]
   exact tail _ l false hlen (by simp only [go_sem]) (by simp only [go_sem]) (by simp only [go_sem]) (by simp only [go_sem])
end GoAbs
namespace GoAbs
open Go Go.Proofs
theorem Ys7 {o:List UInt8}(h:47 ∉ o):befL o=o:=by
 have h1:=Yme o
 have h2:¬ (befL o).length<o.length:=fun h3=>h ((Yvy o).1 h3)
 rw [List.take_of_length_le (by omega)] at h1
 exact h1.symm
theorem Y4v (l:List UInt8):(cutL l).1=befL l:=by
 unfold cutL
 split
 ·rfl
 ·rename_i h; exact (Ys7 h).symm
theorem Yl9 (l:List UInt8):(cutL l).2.2=decide (47∈l):=by
 unfold cutL
 split
 ·rename_i h; simp [h]
 ·rename_i h; simp [h]
theorem Y3g {l:List UInt8}(h:47∈l):(cutL l).2.1=aftL l:=by
 unfold cutL
 rw [if_pos h]; rfl
theorem Xaa (l:List UInt8):signL (befL l)=(befL (signL l).1,(signL l).2)∧(47∈l↔47∈(signL l).1)∧aftL l=aftL (signL l).1:=by
 cases l with
 | nil=>exact ⟨rfl,Iff.rfl,rfl⟩
 | cons c r =>
  by_cases hc:c=45
  ·subst hc
   have hs:signL (45::r)=(r,true):=rfl
   have hb:befL (45::r)=45::befL r:=by unfold befL; rw [List.takeWhile_cons]; rfl
   rw [hs,hb]
   refine ⟨rfl,by simp,?_⟩
   unfold aftL
   rw [List.dropWhile_cons]; rfl
  ·have hs:signL (c::r)=(c::r,false):=by unfold signL; rw [if_neg (by simpa using hc)]
   rw [hs]
   refine ⟨?_,Iff.rfl,rfl⟩
   by_cases h47:c=47
   ·subst h47; rfl
   ·have hb:befL (c::r)=c::befL r:=by unfold befL; rw [List.takeWhile_cons]; simp [h47]
    rw [hb]
    unfold signL
    rw [if_neg (by simpa using hc)]
theorem Yny {n:Int}{d:Nat}(hd:0<d) (hg:Int.gcd n d=1):(Rat.divInt n d).num=n∧(Rat.divInt n d).den=d:=by
 have hg':Int.gcd (d:Int) n=1:=by rw [Int.gcd_comm]; exact hg
 refine ⟨?_,?_⟩
 ·rw [Rat.num_divInt,hg',Int.sign_eq_one_of_pos (by omega)]; simp
 ·rw [Rat.den_divInt,if_neg (by omega),hg']; simp
theorem Y2n {o:List UInt8}(h:47∈o):o.length=(befL o).length+1+(aftL o).length:=by
 have h1:=(Yvy o).2 h
 have h2:=congrArg List.length (Ym1 o)
 rw [List.length_drop] at h2
 omega
theorem Y3v (l:List UInt8):refP l=match parseL l with | some q => .tup [avR q.num q.den,.bool true] | none=>badR:=by
 obtain ⟨s1,s2,s3⟩:=Xaa l
 have hll:l.length≤(signL l).1.length+1:=by unfold signL; split <;> simp <;> omega
 have hp1:(partsL l).1=if (signL l).2 then -(numL (befL (signL l).1):Int) else numL (befL (signL l).1):=by unfold partsL; rw [Y4v,s1]
 have hp2:(partsL l).2.1=if 47∈(signL l).1 then numL (aftL (signL l).1) else 1:=by
  unfold partsL
  simp only [Yl9,decide_eq_true_eq,s2]
  by_cases h:47∈(signL l).1
  ·rw [if_pos h,if_pos h,Y3g (s2.2 h),s3]
  ·rw [if_neg h,if_neg h]
 have hp3:((partsL l).2.2=true)↔47∈(signL l).1:=by unfold partsL; simp only [Yl9,decide_eq_true_eq,s2]
 have hform:formL l↔(digOk (befL (signL l).1)∧(47∈(signL l).1→digOk (aftL (signL l).1)∧1<numL (aftL (signL l).1))∧¬ ((signL l).2=true∧numL (befL (signL l).1)=0)):=by
  unfold formL
  rw [Y4v,s1,Yl9]
  simp only [decide_eq_true_eq,s2]
  by_cases h:47∈(signL l).1
  ·rw [Y3g (s2.2 h),s3]
  ·simp [h]
 unfold parseL
 rw [hp1,hp2]
 simp only [hform,hp3]
 unfold refP midR
 have hs':(signL l).1=(signL l).1:=rfl
 by_cases hA:digOk (befL (signL l).1)
 ·by_cases hM:(signL l).2=true∧numL (befL (signL l).1)=0
  ·simp only [hM,and_true,not_true,and_false,false_and,if_false,ite_self]
  ·have hcond:(digOk (befL (signL l).1)∧¬ ((signL l).2=true∧numL (befL (signL l).1)=0)):=⟨hA,hM⟩
   generalize hz:(if (signL l).2=true then -(numL (befL (signL l).1):Int) else (numL (befL (signL l).1):Int))=z at *
   have hgz:∀ D:Nat,Int.gcd z (D:Int)=Nat.gcd (numL (befL (signL l).1)) D:=fun D=>by
    rw [← hz]; split
    ·rw [Int.neg_gcd]; rfl
    ·rfl
   by_cases h47:47∈(signL l).1
   ·simp only [h47,if_true,true_implies]
    by_cases hS:slashOk (signL l).1
    ·obtain ⟨g1,g2,g3⟩:=hS
     rw [if_pos hA] at g3
     have hg:=hgz (numL (aftL (signL l).1))
     rw [g3] at hg
     have hlen:=Y2n h47
     have hb1:=hA.2.2.2
     have hb2:=g1.2.2.2
     rw [if_neg (show ¬ 8002<l.length by omega),if_pos (show slashOk (signL l).1 from ⟨g1,g2,by rw [if_pos hA]; exact g3⟩),if_pos hcond,if_pos ⟨⟨hA,⟨g1,by omega⟩,hM⟩,hg⟩]
     obtain ⟨q1,q2⟩:=Yny (n:=z) (d:=numL (aftL (signL l).1)) (by omega) hg
     simp only [q1,q2]
    ·have hno:¬ ((digOk (befL (signL l).1)∧(digOk (aftL (signL l).1)∧1<numL (aftL (signL l).1))∧¬ ((signL l).2=true∧numL (befL (signL l).1)=0))∧Int.gcd z (numL (aftL (signL l).1):Int)=1):=fun h=>hS ⟨h.1.2.1.1,by have:=h.1.2.1.2; omega,by rw [if_pos hA, ← hgz]; exact h.2⟩
     rw [if_neg hS,if_neg hno,ite_self]
   ·simp only [h47,if_false,false_implies,if_true,true_and]
    have hb1:=hA.2.2.2
    rw [Ys7 h47] at hb1
    rw [if_neg (show ¬ 8002<l.length by omega),if_pos hcond,if_pos ⟨hcond,trivial⟩]
    obtain ⟨q1,q2⟩:=Yny (n:=z) (d:=1) (by omega) (by rw [hgz]; simp)
    simp only [q1,q2]
 ·simp only [hA,false_and,if_false,ite_self]
end GoAbs
namespace GoAbs
open Go Go.Proofs
theorem rparse {l:List UInt8}(hlen:l.length≤1000000000):SpecV Tryz.prog Yd4 [.str (bs l)] (match parseL l with | some q => .tup [avR q.num q.den,.bool true] | none=>badR):=by
 have:=Y0c hlen
 rwa [Y3v] at this
theorem rvalid {l:List UInt8}(hlen:l.length≤1000000000):SpecV Tryz.prog Ygg [.str (bs l)] (.bool (parseL l).isSome):=by
 have hp:=rparse hlen
 refine Zae Ypk (by simp) ?_
 unfold Yjl
 cases h:parseL l with
 | some q =>
  rw [h] at hp
  simp only [Zaq] at hp
  simp only [go_sem,Zq9,Zqv]
  refine Zaa hp (by simp only [go_sem]) ?_
  simp only [go_sem,Zr5,Option.isSome_some]
 | none =>
  rw [h] at hp
  unfold badR at hp
  simp only [go_sem,Zq9,Zqv]
  refine Zaa hp (by simp only [go_sem]) ?_
  simp only [go_sem,Zr5,Option.isSome_none]
theorem rof {l:List UInt8}{q:Rat}(hlen:l.length≤1000000000) (h:parseL l=some q):SpecV Tryz.prog Zza [.str (bs l)] (avR q.num q.den):=by
 have hp:=rparse hlen
 rw [h] at hp
 simp only [Zaq] at hp
 refine Zae Y3a (by simp) ?_
 unfold Y3q
 rw [Zaq]
 simp only [go_sem,Yi8,Yi1]
 refine Zaa hp (by simp only [go_sem]) ?_
 simp only [go_sem,Yi9]
theorem rzero {n d:Int}:SpecV Tryz.prog Y0b [avR n d] (.bool (decide (n=0))):=by
 refine Zae Yr9 (by simp) ?_
 unfold Ypp
 rw [Zaq]
 by_cases h:n=0
 ·subst h
  have hd:decide ((0:Int)=0)=true:=by simp
  have hl:(((dg (0:Int).natAbs).length:Nat):Int)=0:=by rw [Int.natAbs_zero,Zcg]; rfl
  rw [hd]
  simp only [go_sem,Zv2,Zv5,Zan,hl]
 ·have hd:decide (n=0)=false:=by simp [h]
  have hl:¬ (((dg n.natAbs).length:Nat):Int)=0:=by have:=(Zfl (n:=n.natAbs)).2 (by omega); omega
  rw [hd]
  simp only [go_sem,Zv2,Zv5,Zan,hl]
end GoAbs
namespace GoAbs
open Go Go.Proofs
def Zy8:List IOp := [oI 6 (.mv (.c (.bool false))) 0]
def Zy6:List IOp := [mI 7 0 0,mI 8 1 0,oI 9 (.bin .geq (.t 7) (.t 8)) 0,mI 10 9 0,gI 11 (.mv (.t 0)) 0 10 true,gI 12 (.mv (.t 2)) 0 10 true,gI 13 (.bin .leq (.t 11) (.t 12)) 0 10 true,oI 14 (.pick (.t 10) (.t 13) (.c (.bool false))) 0,mI 6 14 0]
def Y10:CC := .seq (.rg false Zy8) (.seq (.rg false Zy6) .ret)
abbrev Ymn:Nat:=52
theorem Y1l:fnOk Tryz.prog 52=some (15,Y10,[.tmp 6]):=by kernel_rfl
def Z6o:List IOp := [oI 6 (.mv (cI 0)) 0]
def Z5u:List IOp := [mI 12 1 0,oI 13 (.call 42 [.t 12]) 0,mI 14 13 0,gI 15 (.mv (.t 2)) 0 14 true,gI 16 (.call 24 [.t 15]) 0 14 true,gI 17 (.bin .eql (.t 16) (cI 0)) 0 14 true,oI 18 (.pick (.t 14) (.t 17) (.c (.bool false))) 0,mI 7 18 0]
def Zrj:List IOp := [oI 8 (.mv (cI 0)) 0]
def Zkd:List IOp := [mI 19 8 0,mI 20 0 0,oI 21 (.len (.t 20)) 0,oI 22 (.bin .lss (.t 19) (.t 21)) 0]
def Zqe:List IOp := [mI 25 7 0,mI 26 25 0,gI 27 (.mv (.t 0)) 0 26 true,gI 28 (.mv (.t 8)) 0 26 true,gI 29 (.idx 3 (.t 27) (.t 28)) 0 26 true,gI 30 (.fa 1 (.t 29)) 0 26 true,gI 31 (.ld none (.t 30)) 0 26 true,gI 32 (.call 42 [.t 31]) 0 26 true,oI 33 (.pick (.t 26) (.t 32) (.c (.bool false))) 0,mI 7 33 0]
def Zsk:List IOp := [oI 9 (.mv (cI 0)) 0]
def Zf6:List IOp := [mI 34 9 0,mI 35 0 0,mI 36 8 0,xI 37 3 35 36 0,fI 38 2 37 0,lI 39 38 0,oI 40 (.len (.t 39)) 0,oI 41 (.bin .lss (.t 34) (.t 40)) 0]
def Zjv:List IOp := [mI 44 7 0,mI 45 44 0,gI 46 (.mv (.t 0)) 0 45 true,gI 47 (.mv (.t 8)) 0 45 true,gI 48 (.idx 3 (.t 46) (.t 47)) 0 45 true,gI 49 (.fa 2 (.t 48)) 0 45 true,gI 50 (.ld none (.t 49)) 0 45 true,gI 51 (.mv (.t 9)) 0 45 true,gI 52 (.idx 2 (.t 50) (.t 51)) 0 45 true,gI 53 (.fa 1 (.t 52)) 0 45 true,gI 54 (.ld none (.t 53)) 0 45 true,⟨some 55,.bin .eql (.t 54) (.c (.str ⟨#[]⟩)),0,[],[],some (45,true)⟩,gI 56 (.mv (.t 55)) 0 45 true,gI 57 (.mv (.t 0)) 0 56 false,gI 58 (.mv (.t 8)) 0 56 false,gI 59 (.idx 3 (.t 57) (.t 58)) 0 56 false,gI 60 (.fa 2 (.t 59)) 0 56 false,gI 61 (.ld none (.t 60)) 0 56 false,gI 62 (.mv (.t 9)) 0 56 false,gI 63 (.idx 2 (.t 61) (.t 62)) 0 56 false,gI 64 (.fa 1 (.t 63)) 0 56 false,gI 65 (.ld none (.t 64)) 0 56 false,gI 66 (.call 42 [.t 65]) 0 56 false,gI 67 (.pick (.t 56) (.c (.bool true)) (.t 66)) 0 45 true,oI 68 (.pick (.t 45) (.t 67) (.c (.bool false))) 0,mI 7 68 0]
def Zjx:List IOp := [mI 42 9 0,oI 43 (.bin .add (.t 42) (cI 1)) 0,mI 9 43 0]
def Zj2:CC := .seq (.seq (.rg false Zf6) (.cond (.t 41) .skip (.exit 2))) (.seq (.block 3 (.rg false Zjv)) (.rg false Zjx))
def Zhs:List IOp := [mI 23 8 0,oI 24 (.bin .add (.t 23) (cI 1)) 0,mI 8 24 0]
def Zju:CC := .seq (.seq (.rg false Zkd) (.cond (.t 22) .skip (.exit 0))) (.seq (.block 1 (.seq (.rg false Zqe) (.seq (.rg false Zsk) (.block 2 (.loop Zj2))))) (.rg false Zhs))
def Zed:List IOp := [mI 69 7 0,oI 70 (.un .not (.t 69)) 0]
def Zib:List IOp := [oI 6 (.mv (cI 2)) 0]
def Zhw:List IOp := [mI 71 0 0,oI 72 (.len (.t 71)) 0,oI 73 (.call 52 [.t 72,cI 1,cI 10]) 0,mI 74 73 0,gI 75 (.mv (.t 1)) 0 74 true,gI 76 (.call 53 [.t 75,cI 12]) 0 74 true,oI 77 (.pick (.t 74) (.t 76) (.c (.bool false))) 0,mI 78 77 0,gI 79 (.mv (.t 1)) 0 78 true,gI 80 (.call 21 [.t 79]) 0 78 true,gI 81 (.fld (some 2) 0 (.t 80)) 0 78 true,gI 82 (.call 54 [.t 81]) 0 78 true,gI 83 (.bin .geq (.t 82) (cI 0)) 0 78 true,oI 84 (.pick (.t 78) (.t 83) (.c (.bool false))) 0,mI 85 84 0,gI 86 (.mv (.t 1)) 0 85 true,gI 87 (.call 21 [.t 86]) 0 85 true,gI 88 (.call 31 [cI 1]) 0 85 true,gI 89 (.call 25 [.t 87,.t 88]) 0 85 true,gI 90 (.bin .lss (.t 89) (cI 0)) 0 85 true,oI 91 (.pick (.t 85) (.t 90) (.c (.bool false))) 0,mI 10 91 0]
def Zec:List IOp := [oI 11 (.mv (cI 0)) 0]
def Zhm:List IOp := [mI 92 11 0,mI 93 0 0,oI 94 (.len (.t 93)) 0,oI 95 (.bin .lss (.t 92) (.t 94)) 0]
def Zm3:List IOp := [mI 98 10 0,mI 99 98 0,gI 100 (.mv (.t 0)) 0 99 true,gI 101 (.mv (.t 0)) 0 99 true,gI 102 (.mv (.t 11)) 0 99 true,gI 103 (.idx 3 (.t 101) (.t 102)) 0 99 true,gI 104 (.ld (some 3) (.t 103)) 0 99 true,gI 105 (.call 55 [.t 100,.t 104]) 0 99 true,oI 106 (.pick (.t 99) (.t 105) (.c (.bool false))) 0,mI 10 106 0]
def Znm:List IOp := [mI 96 11 0,oI 97 (.bin .add (.t 96) (cI 1)) 0,mI 11 97 0]
def Zdl:CC := .seq (.seq (.rg false Zhm) (.cond (.t 95) .skip (.exit 4))) (.seq (.block 5 (.rg false Zm3)) (.rg false Znm))
def Zb4:List IOp := [mI 107 10 0,oI 108 (.un .not (.t 107)) 0]
def Zc4:List IOp := [oI 6 (.mv (cI 1)) 0]
def Zc1:List IOp := [oI 6 (.mv (cI 0)) 0]
def Yjd:CC := .seq (.rg false Z6o) (.seq (.rg false Z5u) (.seq (.seq (.rg false Zrj) (.block 0 (.loop Zju))) (.seq (.seq (.rg false Zed) (.cond (.t 70) (.seq (.rg false Zib) .ret) .skip)) (.seq (.rg false Zhw) (.seq (.seq (.rg false Zec) (.block 4 (.loop Zdl))) (.seq (.seq (.rg false Zb4) (.cond (.t 108) (.seq (.rg false Zc4) .ret) .skip)) (.seq (.rg false Zc1) .ret)))))))
abbrev Yfl:Nat:=16
theorem Yqg:fnOk Tryz.prog 16=some (109,Yjd,[.tmp 6]):=by kernel_rfl
def Z28:List IOp := [oI 2 (.mv (.c .nils)) 0]
def Z2z:List IOp := [oI 3 (.mv (cI 5)) 0]
def Z4a:List IOp := [mI 8 0 0,oI 9 (.len (.t 8)) 0,oI 10 (.bin .gtr (.t 9) (cI 10)) 0]
def Yg7:List IOp := [oI 3 (.mv (cI 11)) 0]
def Z2v:List IOp := [oI 11 (.bsl (some 3) 0 [.int .i64 0,.str ⟨#[]⟩,.nils] []) 0,mI 4 11 1]
def Z3q:List IOp := [oI 5 (.mv (cI 0)) 0]
def Zqu:List IOp := [mI 12 5 0,mI 13 0 0,oI 14 (.len (.t 13)) 0,oI 15 (.bin .lss (.t 12) (.t 14)) 0,mI 16 15 0,gI 17 (.mv (.t 5)) 0 16 true,gI 18 (.mv (.t 3)) 0 16 true,gI 19 (.bin .lss (.t 17) (.t 18)) 0 16 true,oI 20 (.pick (.t 16) (.t 19) (.c (.bool false))) 0]
def Z3i:List IOp := [mI 23 0 0,mI 24 5 0,xI 25 3 23 24 0,fI 26 0 25 0,lI 27 26 0,mI 28 0 0,mI 29 5 0,xI 30 3 28 29 0,fI 31 1 30 0,lI 32 31 0,oI 33 (.call 14 [.t 32]) 0,oI 34 (.build [.int .i64 0,.str ⟨#[]⟩,.nils] [(0,1,.t 27),(1,1,.t 33)]) 0,oI 6 (.alloc [.int .i64 0,.str ⟨#[]⟩,.nils]) 0,⟨none,.st 3 (.t 6) (.t 34),1,[0],[],none⟩]
@[go_sem ↓] theorem Ylm : autoK Z3i = (1, 1) := by kernel_rfl
@[go_sem] theorem Y6q : autoK [mI 23 0 0, mI 24 5 0, xI 25 3 23 24 0, fI 26 0 25 0, lI 27 26 0, mI 28 0 0, mI 29 5 0, xI 30 3 28 29 0, fI 31 1 30 0, lI 32 31 0, oI 33 (.call 14 [.t 32]) 0, oI 34 (.build [.int .i64 0, .str ⟨#[]⟩, .nils] [(0, 1, .t 27), (1, 1, .t 33)]) 0, oI 6 (.alloc [.int .i64 0, .str ⟨#[]⟩, .nils]) 0, ⟨none, .st 3 (.t 6) (.t 34), 1, [0], [], none⟩] = (1, 1) := Ylm
def Ye4:List IOp := [oI 7 (.mv (cI 0)) 0]
def Zl9:List IOp := [mI 35 7 0,mI 36 0 0,mI 37 5 0,xI 38 3 36 37 0,fI 39 2 38 0,lI 40 39 0,oI 41 (.len (.t 40)) 0,oI 42 (.bin .lss (.t 35) (.t 41)) 0,mI 43 42 0,gI 44 (.mv (.t 7)) 0 43 true,gI 45 (.bin .leq (.t 44) (cI 6)) 0 43 true,oI 46 (.pick (.t 43) (.t 45) (.c (.bool false))) 0]
def Zw1:List IOp := [fI 49 2 6 0,lI 50 49 0,mI 51 0 0,mI 52 5 0,xI 53 3 51 52 0,fI 54 2 53 0,lI 55 54 0,mI 56 7 0,xI 57 2 55 56 0,fI 58 0 57 0,lI 59 58 0,mI 60 0 0,mI 61 5 0,xI 62 3 60 61 0,fI 63 2 62 0,lI 64 63 0,mI 65 7 0,xI 66 2 64 65 0,fI 67 1 66 0,lI 68 67 0,oI 69 (.call 14 [.t 68]) 0,oI 70 (.build [.int .i64 0,.str ⟨#[]⟩] [(0,1,.t 59),(1,1,.t 69)]) 0,oI 71 (.bsl (some 2) 1 [.int .i64 0,.str ⟨#[]⟩] [(0,.t 70)]) 0,⟨some 72,.app (some 2) 24 (.t 50) (.t 71),1,[0],[],none⟩,⟨some 73,.fa 2 (.t 6),2,[0,1],[],none⟩,⟨none,.st 1 (.t 73) (.t 72),2,[0,1],[],none⟩]
@[go_sem ↓] theorem Yhr : autoK Zw1 = (2, 1) := by kernel_rfl
@[go_sem] theorem Y3y : autoK [fI 49 2 6 0, lI 50 49 0, mI 51 0 0, mI 52 5 0, xI 53 3 51 52 0, fI 54 2 53 0, lI 55 54 0, mI 56 7 0, xI 57 2 55 56 0, fI 58 0 57 0, lI 59 58 0, mI 60 0 0, mI 61 5 0, xI 62 3 60 61 0, fI 63 2 62 0, lI 64 63 0, mI 65 7 0, xI 66 2 64 65 0, fI 67 1 66 0, lI 68 67 0, oI 69 (.call 14 [.t 68]) 0, oI 70 (.build [.int .i64 0, .str ⟨#[]⟩] [(0, 1, .t 59), (1, 1, .t 69)]) 0, oI 71 (.bsl (some 2) 1 [.int .i64 0, .str ⟨#[]⟩] [(0, .t 70)]) 0, ⟨some 72, .app (some 2) 24 (.t 50) (.t 71), 1, [0], [], none⟩, ⟨some 73, .fa 2 (.t 6), 2, [0, 1], [], none⟩, ⟨none, .st 1 (.t 73) (.t 72), 2, [0, 1], [], none⟩] = (2, 1) := Yhr
def Yap:List IOp := [mI 47 7 0,oI 48 (.bin .add (.t 47) (cI 1)) 0,mI 7 48 0]
def Z3r:CC := .seq (.seq (.rg false Zl9) (.cond (.t 46) .skip (.exit 2))) (.seq (.block 3 (.rg true Zw1)) (.rg false Yap))
def Zmm:List IOp := [mI 74 4 0,lJ 75 3 6 0,oI 76 (.bsl (some 3) 1 [.int .i64 0,.str ⟨#[]⟩,.nils] [(0,.t 75)]) 0,oI 77 (.app (some 3) 48 (.t 74) (.t 76)) 1,mI 4 77 2]
def Zyf:List IOp := [mI 21 5 0,oI 22 (.bin .add (.t 21) (cI 1)) 0,mI 5 22 0]
def Zre:CC := .seq (.seq (.rg false Zqu) (.cond (.t 20) .skip (.exit 0))) (.seq (.block 1 (.seq (.rg true Z3i) (.seq (.seq (.rg false Ye4) (.block 2 (.loop Z3r))) (.rg false Zmm)))) (.rg false Zyf))
def Zme:List IOp := [mI 78 4 0,mI 2 78 0]
def Yt9:CC := .seq (.rg false Z28) (.seq (.rg false Z2z) (.seq (.seq (.rg false Z4a) (.cond (.t 10) (.rg false Yg7) .skip)) (.seq (.rg false Z2v) (.seq (.seq (.rg false Z3q) (.block 0 (.loop Zre))) (.seq (.rg false Zme) .ret)))))
abbrev Y00:Nat:=13
theorem Yxl:fnOk Tryz.prog 13=some (79,Yt9,[.tmp 2]):=by kernel_rfl
def Zrx:List IOp := [oI 2 (.mv (.c (.str ⟨#[]⟩))) 0]
def Zq8:List IOp := [mI 3 0 0,oI 4 (.slen (.t 3)) 0,oI 5 (.bin .gtr (.t 4) (cI 12)) 0]
def Z4f:List IOp := [mI 6 0 0,mI 7 0 0,oI 8 (.slen (.t 7)) 0,oI 9 (.mn (.t 8) (cI 14)) 0,oI 10 (.sslc (.t 6) none (some (.t 9))) 0,mI 2 10 0]
def Z7m:List IOp := [mI 11 0 0,mI 12 0 0,oI 13 (.slen (.t 12)) 0,oI 14 (.mn (.t 13) (cI 3)) 0,oI 15 (.sslc (.t 11) none (some (.t 14))) 0,mI 2 15 0]
def Yjz:CC := .seq (.rg false Zrx) (.seq (.seq (.rg false Zq8) (.cond (.t 5) (.seq (.rg false Z4f) .ret) .skip)) (.seq (.rg false Z7m) .ret))
abbrev Yt1:Nat:=14
theorem Yoy:fnOk Tryz.prog 14=some (16,Yjz,[.tmp 2]):=by kernel_rfl
def Zrw:List IOp := [oI 4 (.mv (.c (.bool false))) 0]
def Zso:List IOp := [mI 8 1 0,oI 9 (.slen (.t 8)) 0,oI 10 (.bin .leq (.t 9) (cI 3)) 0,mI 5 10 0]
def Zq5:List IOp := [oI 6 (.mv (cI 0)) 0]
def Zgo:List IOp := [mI 11 6 0,mI 12 0 0,oI 13 (.len (.t 12)) 0,oI 14 (.bin .lss (.t 11) (.t 13)) 0]
def Zjs:List IOp := [mI 17 5 0,mI 18 17 0,gI 19 (.mv (.t 0)) 0 18 true,gI 20 (.mv (.t 6)) 0 18 true,gI 21 (.idx 3 (.t 19) (.t 20)) 0 18 true,gI 22 (.fa 1 (.t 21)) 0 18 true,gI 23 (.ld none (.t 22)) 0 18 true,gI 24 (.slen (.t 23)) 0 18 true,gI 25 (.bin .leq (.t 24) (cI 3)) 0 18 true,oI 26 (.pick (.t 18) (.t 25) (.c (.bool false))) 0,mI 5 26 0]
def Zke:List IOp := [oI 7 (.mv (cI 0)) 0]
def Zgj:List IOp := [mI 27 7 0,mI 28 0 0,mI 29 6 0,xI 30 3 28 29 0,fI 31 2 30 0,lI 32 31 0,oI 33 (.len (.t 32)) 0,oI 34 (.bin .lss (.t 27) (.t 33)) 0]
def Zkf:List IOp := [mI 37 5 0,mI 38 37 0,gI 39 (.mv (.t 0)) 0 38 true,gI 40 (.mv (.t 6)) 0 38 true,gI 41 (.idx 3 (.t 39) (.t 40)) 0 38 true,gI 42 (.fa 2 (.t 41)) 0 38 true,gI 43 (.ld none (.t 42)) 0 38 true,gI 44 (.mv (.t 7)) 0 38 true,gI 45 (.idx 2 (.t 43) (.t 44)) 0 38 true,gI 46 (.fa 1 (.t 45)) 0 38 true,gI 47 (.ld none (.t 46)) 0 38 true,gI 48 (.slen (.t 47)) 0 38 true,gI 49 (.bin .leq (.t 48) (cI 3)) 0 38 true,oI 50 (.pick (.t 38) (.t 49) (.c (.bool false))) 0,mI 5 50 0]
def Zjy:List IOp := [mI 35 7 0,oI 36 (.bin .add (.t 35) (cI 1)) 0,mI 7 36 0]
def Zkb:CC := .seq (.seq (.rg false Zgj) (.cond (.t 34) .skip (.exit 2))) (.seq (.block 3 (.rg false Zkf)) (.rg false Zjy))
def Zhr:List IOp := [mI 15 6 0,oI 16 (.bin .add (.t 15) (cI 1)) 0,mI 6 16 0]
def Zkc:CC := .seq (.seq (.rg false Zgo) (.cond (.t 14) .skip (.exit 0))) (.seq (.block 1 (.seq (.rg false Zjs) (.seq (.rg false Zke) (.block 2 (.loop Zkb))))) (.rg false Zhr))
def Zhu:List IOp := [mI 51 5 0,mI 4 51 0]
def Yjj:CC := .seq (.rg false Zrw) (.seq (.rg false Zso) (.seq (.seq (.rg false Zq5) (.block 0 (.loop Zkc))) (.seq (.rg false Zhu) .ret)))
abbrev Ysd:Nat:=18
theorem Ypl:fnOk Tryz.prog 18=some (52,Yjj,[.tmp 4]):=by kernel_rfl
def Z7v:List IOp := [oI 0 (.mv (.c (.bool false))) 0]
def Z8b:List IOp := [oI 6 (.build [.int .i64 0,.str ⟨#[]⟩] []) 0,oI 7 (.bsl (some 2) 1 [.int .i64 0,.str ⟨#[]⟩] [(0,.t 6)]) 0,oI 8 (.build [.int .i64 0,.str ⟨#[]⟩,.nils] [(0,1,cI 1),(1,1,.c (.str ⟨#[49]⟩)),(2,1,.t 7)]) 1,oI 9 (.bsl (some 3) 1 [.int .i64 0,.str ⟨#[]⟩,.nils] [(0,.t 8)]) 1,oI 10 (.call 43 [.t 9,.c (.str ⟨#[49,47,50]⟩)]) 2,mI 5 10 2,eI 11 0 5 2,eI 12 1 5 2,mI 1 11 2,mI 2 12 2]
def Z46:List IOp := [oI 14 (.build [.int .i64 0,.str ⟨#[]⟩] []) 0,oI 15 (.bsl (some 2) 1 [.int .i64 0,.str ⟨#[]⟩] [(0,.t 14)]) 0,oI 16 (.build [.int .i64 0,.str ⟨#[]⟩,.nils] [(0,1,cI 1),(1,1,.c (.str ⟨#[49]⟩)),(2,1,.t 15)]) 1,oI 17 (.bsl (some 3) 1 [.int .i64 0,.str ⟨#[]⟩,.nils] [(0,.t 16)]) 1,oI 18 (.call 15 [.t 17,.c (.str ⟨#[49,47,50]⟩),cI 3]) 2,mI 13 18 2,eI 19 0 13 2,eI 20 1 13 2,mI 3 19 2,mI 4 20 2]
def Z7d:List IOp := [mI 21 2 0,oI 22 (.bin .eql (.t 21) (cI 0)) 0,mI 23 22 0,gI 24 (.mv (.t 1)) 0 23 true,⟨some 25,.bsl none 1 [.str ⟨#[]⟩] [(0,.c (.str ⟨#[50]⟩))],0,[],[],some (23,true)⟩,gI 26 (.call 56 [.t 24,.t 25]) 1 23 true,oI 27 (.pick (.t 23) (.t 26) (.c (.bool false))) 1,mI 28 27 1,gI 29 (.mv (.t 4)) 1 28 true,gI 30 (.bin .eql (.t 29) (cI 0)) 1 28 true,oI 31 (.pick (.t 28) (.t 30) (.c (.bool false))) 1,mI 32 31 1,gI 33 (.mv (.t 3)) 1 32 true,⟨some 34,.bsl none 1 [.str ⟨#[]⟩] [(0,.c (.str ⟨#[55,47,52]⟩))],1,[],[],some (32,true)⟩,gI 35 (.call 56 [.t 33,.t 34]) 2 32 true,oI 36 (.pick (.t 32) (.t 35) (.c (.bool false))) 2,mI 0 36 2]
def Yi5:CC := .seq (.rg false Z7v) (.seq (.rg false Z8b) (.seq (.rg false Z46) (.seq (.rg false Z7d) .ret)))
abbrev Yt4:Nat:=17
theorem Ypn:fnOk Tryz.prog 17=some (37,Yi5,[.tmp 0]):=by kernel_rfl
end GoAbs
namespace GoAbs
open Go Go.Proofs
theorem rin {v a b:Int}:SpecV Tryz.prog Ymn [.int .i64 v,.int .i64 a,.int .i64 b] (.bool (decide (a≤v∧v≤b))):=by
 refine Zae Y1l (by simp) ?_
 unfold Y10
 by_cases h1:a≤v
 ·by_cases h2:v≤b
  ·have hd:decide (a≤v∧v≤b)=true:=by simp [h1,h2]
   rw [hd]; simp only [go_sem,Zy8,Zy6,h1,h2]
  ·have hd:decide (a≤v∧v≤b)=false:=by simp [h2]
   rw [hd]; simp only [go_sem,Zy8,Zy6,h1,h2]
 ·have hd:decide (a≤v∧v≤b)=false:=by simp [h1]
  rw [hd]; simp only [go_sem,Zy8,Zy6,h1]
end GoAbs
namespace GoAbs
open Go Go.Proofs
def stepS (k:Nat) (c:UInt8):Nat:=if c=47 then 0 else if c=45 then k else k+1
def shortL (n:Nat):Nat→List UInt8→Bool
 | _,[]=>true
 | k,c::r=>if n<stepS k c then false else shortL n (stepS k c) r
theorem Zqq {n k:Nat}{c:UInt8}{r:List UInt8}:shortL n k (c::r)=if n<stepS k c then false else shortL n (stepS k c) r:=rfl
theorem rshort {l:List UInt8}{n:Nat}(hlen:l.length≤1000000000) (hn:n≤1000000000):SpecV Tryz.prog Yr3 [.str (bs l),.int .i64 (n:Int)] (.bool (shortL n 0 l)):=by
 refine Zae Ynb (by simp) ?_
 unfold Yjn
 simp only [go_sem,Z7o,Z7r,Z7y]
 refine Zad (fun z:Nat×Nat=>⟨envL [(0,.str (bs l)),(1,.int .i64 (n:Int)),(5,.int .i64 (z.2:Int)),(6,.int .i64 (z.1:Int))],[]⟩) (fun z=>z.1≤l.length∧z.2≤z.1∧shortL n z.2 (l.drop z.1)=shortL n 0 l) (fun z=>l.length - z.1) (0,0) ⟨by simp,by simp,by simp⟩ (Zab _ (by simp only [go_sem]; simp)) (fun z hI N hN=>?_)
 obtain ⟨i,k⟩:=z
 obtain ⟨h1,h2,h3⟩:=hI
 simp only at h1 h2 h3 ⊢
 unfold Z7e
 by_cases hi:i<l.length
 ·obtain ⟨c,gi⟩:∃ c,l[i]? = some c:=⟨_,List.getElem?_eq_getElem hi⟩
  have hdr:l.drop i=c::l.drop (i+1):=by
   rw [List.drop_eq_getElem_cons hi]
   congr 1
   have:=List.getElem?_eq_getElem hi
   rw [gi] at this
   exact (Option.some.inj this).symm
  have q0:(0:Int)≤(i:Int):=by omega
  have q1:(i:Int)<(l.length:Int):=by omega
  have e1:IntKind.i64.wrap ((i:Int)+1)=((i+1:Nat):Int):=by rw [Zac (by omega) (by omega)]; omega
  have e2:IntKind.i64.wrap ((k:Int)+1)=((k+1:Nat):Int):=by rw [Zac (by omega) (by omega)]; omega
  rw [hdr,Zqq] at h3
  by_cases hc:c=47
  ·have hci:(c.toNat:Int)=47:=by rw [hc]; rfl
   have hst:stepS k c=0:=by unfold stepS; rw [if_pos hc]
   have q2:¬ (n:Int)<0:=by omega
   rw [hst,if_neg (by omega)] at h3
   simp only [go_sem,Zcl,Zdo,Z6e,Zdi,Zh3,Zcm,Zak,gi,q0,q1,q2,hci,e1]
   exact hN (i+1,0) _ ⟨hi,by simp,h3⟩ (by show l.length - (i+1)<l.length - i; omega) (Zab _ (by simp only [go_sem]; simp))
  ·have hci:¬ (c.toNat:Int)=47:=fun h=>hc (UInt8.toNat_inj.1 (by have:(47:UInt8).toNat=47:=rfl; omega))
   by_cases hc5:c=45
   ·have hci5:(c.toNat:Int)=45:=by rw [hc5]; rfl
    have hst:stepS k c=k:=by unfold stepS; rw [if_neg hc,if_pos hc5]
    rw [hst] at h3
    by_cases hk:n<k
    ·have q2:(n:Int)<(k:Int):=by omega
     rw [if_pos hk] at h3
     rw [← h3]
     simp only [go_sem,Zcl,Zdo,Zgp,Zdi,Zm7,Zcm,Zak,gi,q0,q1,q2,hci,hci5]
    ·have q2:¬ (n:Int)<(k:Int):=by omega
     rw [if_neg hk] at h3
     simp only [go_sem,Zcl,Zdo,Zgp,Zdi,Zh3,Zcm,Zak,gi,q0,q1,q2,hci,hci5,e1]
     exact hN (i+1,k) _ ⟨hi,by simp only; omega,h3⟩ (by show l.length - (i+1)<l.length - i; omega) (Zab _ (by simp only [go_sem]))
   ·have hci5:¬ (c.toNat:Int)=45:=fun h=>hc5 (UInt8.toNat_inj.1 (by have:(45:UInt8).toNat=45:=rfl; omega))
    have hst:stepS k c=k+1:=by unfold stepS; rw [if_neg hc,if_neg hc5]
    rw [hst] at h3
    by_cases hk:n<k+1
    ·have q2:(n:Int)<((k+1:Nat):Int):=by omega
     rw [if_pos hk] at h3
     rw [← h3]
     simp only [go_sem,Zcl,Zdo,Zgp,Zsv,Zdi,Zm7,Zcm,Zak,gi,q0,q1,q2,hci,hci5,e2]
    ·have q2:¬ (n:Int)<((k+1:Nat):Int):=by omega
     rw [if_neg hk] at h3
     simp only [go_sem,Zcl,Zdo,Zgp,Zsv,Zdi,Zh3,Zcm,Zak,gi,q0,q1,q2,hci,hci5,e1,e2]
     exact hN (i+1,k+1) _ ⟨hi,by simp only; omega,h3⟩ (by show l.length - (i+1)<l.length - i; omega) (Zab _ (by simp only [go_sem]))
 ·have hie:i=l.length:=by omega
  subst hie
  have q1:¬ ((l.length:Nat):Int)<(l.length:Int):=by omega
  rw [List.drop_length] at h3
  rw [← h3]
  simp only [go_sem,Zcl,Z0y,Zak,q1]
  rfl
end GoAbs
namespace GoAbs
open Go Go.Proofs
def numsE (L:List (List UInt8)):Int:=if (L.all fun s=>(parseL s).isSome) then 0 else 2
def strAV (s:List UInt8):AV := .str (bs s)
theorem rnums {L:List (List UInt8)}(hL:L.length≤1000000000) (hl:∀ s,s∈L→s.length≤1000000000):SpecV Tryz.prog Yzc [.sl (L.map strAV)] (.int .i64 (numsE L)):=by
 obtain ⟨ls,hls⟩:∃ ls,ls=L.map strAV:=⟨_,rfl⟩
 have hlsl:ls.length=L.length:=by rw [hls,List.length_map]
 rw [← hls]
 refine Zae Yrc (by simp) ?_
 unfold Yoo
 simp only [go_sem,Yb3,Ybm]
 refine Zad (fun i:Nat=>⟨envL [(0,.sl ls),(3,.int .i64 (i:Int))],[]⟩) (fun i=>i≤L.length∧((L.take i).all fun s=>(parseL s).isSome)=true) (fun i=>L.length - i) 0 ⟨by simp,by simp⟩ (Zab _ (by simp only [go_sem]; simp)) (fun i hI N hN=>?_)
 obtain ⟨h1,h2⟩:=hI
 unfold Yat
 by_cases hi:i<L.length
 ·obtain ⟨l,he⟩:∃ s,L[i]? = some s:=⟨_,List.getElem?_eq_getElem hi⟩
  have hll:=hl _ (List.mem_of_getElem? he)
  have hlsi:ls[i]? = some (.str (bs l)):=by
   rw [hls,List.getElem?_map,he]; rfl
  have q0:(0:Int)≤(i:Int):=by omega
  have q1:(i:Int)<(L.length:Int):=by omega
  have e1:IntKind.i64.wrap ((i:Int)+1)=((i+1:Nat):Int):=by rw [Zac (by omega) (by omega)]; omega
  have tk:((L.take (i+1)).all fun s=>(parseL s).isSome)=(((L.take i).all fun s=>(parseL s).isSome) && (parseL l).isSome):=by
   rw [List.take_add_one,he]; simp [List.all_append]
  simp only [go_sem,Zxn,Yaz,hlsl,q0,q1,hlsi]
  refine Zaa (rvalid hll) (by simp only [go_sem]) ?_
  cases hp:(parseL l).isSome with
  | true =>
   simp only [go_sem,Bool.not_true,Z9x,e1]
   exact hN (i+1) _ ⟨by omega,by rw [tk,h2,hp]; rfl⟩ (by omega) (Zab _ (by simp only [go_sem]))
  | false =>
   have hf:numsE L=2:=by
    unfold numsE
    rw [if_neg]
    intro hall
    have:=List.all_eq_true.1 hall _ (List.mem_of_getElem? he)
    rw [hp] at this; cases this
   rw [hf]
   simp only [go_sem,Bool.not_false,Z95]
 ·have hie:i=L.length:=by omega
  subst hie
  have q1:¬ ((L.length:Nat):Int)<(L.length:Int):=by omega
  rw [List.take_length] at h2
  have hf:numsE L=0:=by unfold numsE; rw [if_pos h2]
  rw [hf]
  simp only [go_sem,Zxn,Z91,hlsl,q1]
theorem Zr1 {n:Nat}:∀ {l r:List UInt8}{k:Nat},AllD l→k≤n→shortL n k (l++r)=(decide (k+l.length≤n) && shortL n (k+l.length) r)
 | [],r,k,_,hk=>by simp [hk]
 | c::l,r,k,hd,hk=>by
  have hc:=hd c (by simp)
  unfold isDig at hc
  have h1:c≠47:=fun e=>by rw [e] at hc; have:(47:UInt8).toNat=47:=rfl; omega
  have h2:c≠45:=fun e=>by rw [e] at hc; have:(45:UInt8).toNat=45:=rfl; omega
  have hst:stepS k c=k+1:=by unfold stepS; rw [if_neg h1,if_neg h2]
  rw [List.cons_append,Zqq,hst]
  by_cases hn:n<k+1
  ·rw [if_pos hn]
   have:decide (k+(c::l).length≤n)=false:=by simp; omega
   rw [this]; rfl
  ·rw [if_neg hn,Zr1 (fun x hx=>hd x (by simp [hx])) (by omega),List.length_cons]
   have e:k+1+l.length=k+(l.length+1):=by omega
   rw [e]
end GoAbs
namespace GoAbs
open Go Go.Proofs
theorem Yj9 {a:List UInt8}(h:digOk a):decL (numL a)=a:=by
 obtain ⟨h1,h2,h3,_⟩:=h
 by_cases hh:a.head? = some 48
 ·have hl:¬ 1<a.length:=fun hl=>h3 ⟨hh,hl⟩
  cases a with
  | nil=>exact absurd rfl h2
  | cons c r =>
   have hr:r = []:=List.length_eq_zero_iff.1 (by rw [List.length_cons] at hl; omega)
   subst hr
   simp at hh
   subst hh
   rfl
 ·exact Yfh h1 h2 hh
theorem Xbr:∀ {a b:List Nat},ic a=ic b→a=b
 | [],[],_=>rfl
 | [],y::b,h=>by simp [ic] at h
 | x::a,[],h=>by simp [ic] at h
 | x::a,y::b,h=>by
  rw [Yt2,Yt2] at h
  injection h with h1 h2
  injection h1 with _ h3
  have h4:x=y:=by omega
  rw [h4,Xbr h2]
theorem Xb1 {m n:Nat}(h:ic (dg m)=ic (dg n)):m=n:=by
 have:=congrArg vd (Xbr h)
 rwa [Zo1,Zo1] at this
theorem Xd3 {n d n' d':Int}(h:AV.tup [avR n d,.bool true] = .tup [avR n' d',.bool true]):n.natAbs=n'.natAbs∧d.natAbs=d'.natAbs:=by
 rw [Zaq,Zaq] at h
 injection h with h
 injection h with h _
 injection h with h
 injection h with _ h
 injection h with h1 h
 injection h with _ h
 injection h with h2 _
 injection h1 with h1
 injection h2 with h2
 exact ⟨Xb1 h1,Xb1 h2⟩
theorem Z8t {l:List UInt8}{q:Rat}(h:parseL l=some q):digOk (befL (signL l).1)∧decL q.num.natAbs=befL (signL l).1∧(47∈(signL l).1→digOk (aftL (signL l).1)∧decL q.den=aftL (signL l).1)∧(47 ∉ (signL l).1→q.den=1):=by
 have hr:=Y3v l
 rw [h] at hr
 simp only at hr
 unfold refP midR at hr
 have hb:badR ≠ .tup [avR q.num q.den,.bool true]:=by unfold badR; intro e; simp at e
 split at hr
 ·exact absurd hr hb
 ·split at hr
  ·rename_i hs
   split at hr
   ·rename_i hc
    have hA:=hc.1
    obtain ⟨e1,e2⟩:=Xd3 hr
    have e1':numL (befL (signL l).1)=q.num.natAbs:=by rw [← e1]; split <;> simp
    rw [Int.natAbs_natCast,Int.natAbs_natCast] at e2
    refine ⟨hA,by rw [← e1']; exact Yj9 hA,fun h47=>?_,fun h47=>?_⟩
    ·have:=hs h47
     rw [if_pos h47] at e2
     exact ⟨this.1,by rw [← e2]; exact Yj9 this.1⟩
    ·rw [if_neg h47] at e2
     exact e2.symm
   ·exact absurd hr hb
  ·exact absurd hr hb
theorem Yd7 {o:List UInt8}(h:47∈o):o=befL o++47::aftL o:=by
 have h1:=List.takeWhile_append_dropWhile (p:=(· != 47)) (l:=o)
 have h2:∀ l:List UInt8,47∈l→l.dropWhile (· != 47)=47::(l.dropWhile (· != 47)).tail:=by
  intro l
  induction l with
  | nil=>intro h; simp at h
  | cons x l ih =>
   intro h
   rw [List.dropWhile_cons]
   by_cases hx:x=47
   ·subst hx; rfl
   ·have hx':(x != 47)=true:=by simpa using hx
    rw [if_pos hx']
    exact ih (by rcases List.mem_cons.1 h with h | h; exact absurd h.symm hx; exact h)
 rw [h2 o h] at h1
 exact h1.symm
end GoAbs
namespace GoAbs
end GoAbs
