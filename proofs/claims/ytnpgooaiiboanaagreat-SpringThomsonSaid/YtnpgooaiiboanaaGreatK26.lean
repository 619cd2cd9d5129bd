/- Lemmas for the claim (contracts of the functions that it reaches, and what they compute), without conditions. -/
import Derived.Test.YtnpgooaiiboanaaGreatK25
import Derived.Test.YtnpgooaiiboanaaGreatProg
import Derived.KernelRfl
import Derived.Laws.Externs
import Derived.Lib.Bytealg
set_option linter.unusedVariables false
set_option linter.unusedSimpArgs false
set_option maxRecDepth 10000
set_option maxHeartbeats 2000000
namespace GoAbs
open Go Go.Proofs
def Zch:List IOp := [oI 2 (.alloc [.bool false,.nils]) 0,oI 3 (.mv (.c (.bool false))) 1]
def Zce:List IOp := [mI 8 0 0,oI 9 (.slen (.t 8)) 0,oI 10 (.bin .lss (.t 9) (cI 1)) 0,mI 11 10 0,gI 12 (.mv (.t 0)) 0 11 false,gI 13 (.slen (.t 12)) 0 11 false,gI 14 (.bin .gtr (.t 13) (cI 4000)) 0 11 false,oI 15 (.pick (.t 11) (.c (.bool true)) (.t 14)) 0,mI 16 15 0,gI 17 (.mv (.t 0)) 0 16 false,gI 18 (.sidx (.t 17) (cI 0)) 0 16 false,gI 19 (.bin .eql (.t 18) (.c (.int .u8 48))) 0 16 false,gI 20 (.mv (.t 19)) 0 16 false,gI 21 (.mv (.t 0)) 0 20 true,gI 22 (.slen (.t 21)) 0 20 true,gI 23 (.bin .gtr (.t 22) (cI 1)) 0 20 true,gI 24 (.pick (.t 20) (.t 23) (.c (.bool false))) 0 16 false,oI 25 (.pick (.t 16) (.c (.bool true)) (.t 24)) 0]
def Zg0:List IOp := [oI 26 (.build [.bool false,.nils] []) 0,⟨none,.st 2 (.t 2) (.t 26),0,[],[],none⟩,oI 3 (.mv (.c (.bool false))) 0]
def Zml:List IOp := [oI 27 (.build [.bool false,.nils] []) 0,oI 4 (.alloc [.bool false,.nils]) 0,⟨none,.st 2 (.t 4) (.t 27),1,[],[],none⟩]
def Zmt:List IOp := [mI 28 0 0,oI 29 (.slen (.t 28)) 0,mI 5 29 0]
def Zmg:List IOp := [mI 30 5 0,oI 31 (.bin .gtr (.t 30) (cI 0)) 0]
def Zyj:List IOp := [oI 6 (.mv (cI 0)) 0]
def Zxv:List IOp := [mI 34 5 0,oI 35 (.bin .sub (.t 34) (cI 4)) 0,oI 36 (.mx (cI 0) (.t 35)) 0,mI 7 36 0]
def Zd0:List IOp := [mI 37 7 0,mI 38 5 0,oI 39 (.bin .lss (.t 37) (.t 38)) 0]
def Zf2:List IOp := [mI 42 0 0,mI 43 7 0,oI 44 (.sidx (.t 42) (.t 43)) 0,oI 45 (.bin .lss (.t 44) (.c (.int .u8 48))) 0,mI 46 45 0,gI 47 (.mv (.t 0)) 0 46 false,gI 48 (.mv (.t 7)) 0 46 false,gI 49 (.sidx (.t 47) (.t 48)) 0 46 false,gI 50 (.bin .gtr (.t 49) (.c (.int .u8 57))) 0 46 false,oI 51 (.pick (.t 46) (.c (.bool true)) (.t 50)) 0]
def Zj5:List IOp := [oI 52 (.build [.bool false,.nils] []) 0,⟨none,.st 2 (.t 2) (.t 52),0,[],[],none⟩,oI 3 (.mv (.c (.bool false))) 0]
def Zsy:List IOp := [mI 53 6 0,oI 54 (.bin .mul (cI 10) (.t 53)) 0,mI 55 0 0,mI 56 7 0,oI 57 (.sidx (.t 55) (.t 56)) 0,oI 58 (.bin .sub (.t 57) (.c (.int .u8 48))) 0,oI 59 (.cvi .i64 (.t 58)) 0,oI 60 (.bin .add (.t 54) (.t 59)) 0,mI 6 60 0]
def Ztf:List IOp := [mI 40 7 0,oI 41 (.bin .add (.t 40) (cI 1)) 0,mI 7 41 0]
def Zmd:CC := .seq (.seq (.rg false Zd0) (.cond (.t 39) .skip (.exit 2))) (.seq (.block 3 (.seq (.seq (.rg false Zf2) (.cond (.t 51) (.seq (.rg false Zj5) .ret) .skip)) (.rg false Zsy))) (.rg false Ztf))
def Ztq:List IOp := [fI 61 1 4 0,lI 62 61 0,mI 63 6 0,oI 64 (.bsl none 1 [.int .i64 0] [(0,.t 63)]) 0,oI 65 (.app none 8 (.t 62) (.t 64)) 1,fI 66 1 4 2,⟨none,.st 1 (.t 66) (.t 65),2,[],[],none⟩]
def Zt0:List IOp := [mI 32 5 0,oI 33 (.bin .sub (.t 32) (cI 4)) 0,mI 5 33 0]
def Zgx:CC := .seq (.seq (.rg false Zmg) (.cond (.t 31) .skip (.exit 0))) (.seq (.block 1 (.seq (.rg false Zyj) (.seq (.seq (.rg false Zxv) (.block 2 (.loop Zmd))) (.rg false Ztq)))) (.rg false Zt0))
def Zkn:List IOp := [lJ 67 2 4 0,oI 68 (.call 117 [.t 67]) 0,⟨none,.st 2 (.t 2) (.t 68),0,[],[],none⟩,oI 3 (.mv (.c (.bool true))) 0]
def Yaq:CC := .seq (.rg false Zch) (.seq (.seq (.rg false Zce) (.cond (.t 25) (.seq (.rg false Zg0) .ret) .skip)) (.seq (.rg false Zml) (.seq (.seq (.rg false Zmt) (.block 0 (.loop Zgx))) (.seq (.rg false Zkn) .ret))))
abbrev Yi4:Nat:=121
theorem Yfz:fnOk Tryz.prog 121=some (69,Yaq,[.cell 2 (some 2),.tmp 3]):=by kernel_rfl
def Ze2:List IOp := [oI 2 (.alloc [.bool false,.nils,.bool false,.nils]) 0,oI 3 (.mv (.c (.bool false))) 1]
def Zfb:List IOp := [mI 13 0 0,mI 4 13 0,oI 5 (.mv (.c (.bool false))) 0]
def Zfa:List IOp := [mI 14 4 0,oI 15 (.slen (.t 14)) 0,oI 16 (.bin .gtr (.t 15) (cI 8002)) 0]
def Z1v:List IOp := [oI 17 (.build [.bool false,.nils,.bool false,.nils] []) 0,⟨none,.st 4 (.t 2) (.t 17),0,[],[],none⟩,oI 3 (.mv (.c (.bool false))) 0]
def Zi9:List IOp := [mI 18 4 0,oI 19 (.slen (.t 18)) 0,oI 20 (.bin .gtr (.t 19) (cI 0)) 0,mI 21 20 0,gI 22 (.mv (.t 4)) 0 21 true,gI 23 (.sidx (.t 22) (cI 0)) 0 21 true,gI 24 (.bin .eql (.t 23) (.c (.int .u8 45))) 0 21 true,oI 25 (.pick (.t 21) (.t 24) (.c (.bool false))) 0]
def Z1b:List IOp := [mI 26 4 0,oI 27 (.sslc (.t 26) (some (cI 1)) none) 0,mI 4 27 0,oI 5 (.mv (.c (.bool true))) 0]
def Zi4:List IOp := [mI 28 4 0,oI 29 (.slen (.t 28)) 0,mI 6 29 0]
def Zoj:List IOp := [mI 30 4 0,oI 31 (.slen (.t 30)) 0,oI 32 (.bin .sub (.t 31) (cI 1)) 0,mI 7 32 0]
def Zi2:List IOp := [mI 33 7 0,oI 34 (.bin .geq (.t 33) (cI 0)) 0]
def Zmk:List IOp := [mI 37 4 0,mI 38 7 0,oI 39 (.sidx (.t 37) (.t 38)) 0,oI 40 (.bin .eql (.t 39) (.c (.int .u8 47))) 0]
def Zx1:List IOp := [mI 41 7 0,mI 6 41 0]
def Zmn:List IOp := [mI 35 7 0,oI 36 (.bin .sub (.t 35) (cI 1)) 0,mI 7 36 0]
def Zi5:CC := .seq (.seq (.rg false Zi2) (.cond (.t 34) .skip (.exit 0))) (.seq (.block 1 (.seq (.rg false Zmk) (.cond (.t 40) (.rg false Zx1) .skip))) (.rg false Zmn))
def Zg3:List IOp := [mI 43 4 0,mI 44 6 0,oI 45 (.sslc (.t 43) none (some (.t 44))) 0,oI 46 (.call 121 [.t 45]) 0,mI 42 46 0,eI 47 0 42 0,eI 48 1 42 0,oI 8 (.alloc [.bool false,.nils]) 0,⟨none,.st 2 (.t 8) (.t 47),1,[],[],none⟩,mI 9 48 1]
def Zg7:List IOp := [oI 49 (.call 81 [cI 1]) 0,oI 10 (.alloc [.bool false,.nils]) 0,⟨none,.st 2 (.t 10) (.t 49),1,[],[],none⟩]
def Zg8:List IOp := [mI 50 6 0,mI 51 4 0,oI 52 (.slen (.t 51)) 0,oI 53 (.bin .lss (.t 50) (.t 52)) 0]
def Zgy:List IOp := [mI 55 4 0,mI 56 6 0,oI 57 (.bin .add (.t 56) (cI 1)) 0,oI 58 (.sslc (.t 55) (some (.t 57)) none) 0,oI 59 (.call 121 [.t 58]) 0,mI 54 59 0,eI 60 0 54 0,eI 61 1 54 0,oI 11 (.alloc [.bool false,.nils]) 0,⟨none,.st 2 (.t 11) (.t 60),1,[],[],none⟩,mI 12 61 1]
def Zci:List IOp := [mI 62 12 0,oI 63 (.un .not (.t 62)) 0,mI 64 63 0,gI 65 (.ld (some 2) (.t 11)) 0 64 false,gI 66 (.call 81 [cI 2]) 0 64 false,gI 67 (.callw 72 [.t 65,.t 66]) 0 64 false,gI 68 (.bin .lss (.t 67) (cI 0)) 0 64 false,oI 69 (.pick (.t 64) (.c (.bool true)) (.t 68)) 0,mI 70 69 0,gI 71 (.ld (some 2) (.t 8)) 0 70 false,gI 72 (.ld (some 2) (.t 11)) 0 70 false,gI 73 (.callw 82 [.t 71,.t 72]) 0 70 false,gI 74 (.callw 81 [cI 1]) 0 70 false,gI 75 (.callw 72 [.t 73,.t 74]) 0 70 false,gI 76 (.bin .neq (.t 75) (cI 0)) 0 70 false,oI 77 (.pick (.t 70) (.c (.bool true)) (.t 76)) 0]
@[go_sem ↓] theorem Z7y : autoK Zci = (0, 0) := by kernel_rfl
@[go_sem] theorem Ytp : autoK [mI 62 12 0, oI 63 (.un .not (.t 62)) 0, mI 64 63 0, gI 65 (.ld (some 2) (.t 11)) 0 64 false, gI 66 (.call 81 [cI 2]) 0 64 false, gI 67 (.callw 72 [.t 65, .t 66]) 0 64 false, gI 68 (.bin .lss (.t 67) (cI 0)) 0 64 false, oI 69 (.pick (.t 64) (.c (.bool true)) (.t 68)) 0, mI 70 69 0, gI 71 (.ld (some 2) (.t 8)) 0 70 false, gI 72 (.ld (some 2) (.t 11)) 0 70 false, gI 73 (.callw 82 [.t 71, .t 72]) 0 70 false, gI 74 (.callw 81 [cI 1]) 0 70 false, gI 75 (.callw 72 [.t 73, .t 74]) 0 70 false, gI 76 (.bin .neq (.t 75) (cI 0)) 0 70 false, oI 77 (.pick (.t 70) (.c (.bool true)) (.t 76)) 0] = (0, 0) := Z7y
def Zcg:List IOp := [oI 78 (.build [.bool false,.nils,.bool false,.nils] []) 0,⟨none,.st 4 (.t 2) (.t 78),0,[],[],none⟩,oI 3 (.mv (.c (.bool false))) 0]
def Zg2:List IOp := [lJ 79 2 11 0,⟨none,.st 2 (.t 10) (.t 79),0,[],[],none⟩]
def Zbg:List IOp := [mI 80 9 0,oI 81 (.un .not (.t 80)) 0,mI 82 81 0,gI 83 (.mv (.t 5)) 0 82 false,gI 84 (.mv (.t 83)) 0 82 false,gI 85 (.fa 1 (.t 8)) 0 84 true,gI 86 (.ld none (.t 85)) 0 84 true,gI 87 (.len (.t 86)) 0 84 true,gI 88 (.bin .eql (.t 87) (cI 0)) 0 84 true,gI 89 (.pick (.t 84) (.t 88) (.c (.bool false))) 0 82 false,oI 90 (.pick (.t 82) (.c (.bool true)) (.t 89)) 0]
def Zca:List IOp := [oI 91 (.build [.bool false,.nils,.bool false,.nils] []) 0,⟨none,.st 4 (.t 2) (.t 91),0,[],[],none⟩,oI 3 (.mv (.c (.bool false))) 0]
def Zcb:List IOp := [mI 92 5 0]
def Zdq:List IOp := [lJ 93 2 8 0,oI 94 (.call 122 [.t 93]) 0,⟨none,.st 2 (.t 8) (.t 94),0,[],[],none⟩]
def Zcd:List IOp := [lJ 95 2 8 0,lJ 96 2 10 0,oI 97 (.build [.bool false,.nils,.bool false,.nils] [(0,2,.t 95),(2,2,.t 96)]) 0,⟨none,.st 4 (.t 2) (.t 97),0,[],[],none⟩,oI 3 (.mv (.c (.bool true))) 0]
def Ydt:CC := .seq (.rg false Ze2) (.seq (.rg false Zfb) (.seq (.seq (.rg false Zfa) (.cond (.t 16) (.seq (.rg false Z1v) .ret) .skip)) (.seq (.seq (.rg false Zi9) (.cond (.t 25) (.rg false Z1b) .skip)) (.seq (.rg false Zi4) (.seq (.seq (.rg false Zoj) (.block 0 (.loop Zi5))) (.seq (.rg false Zg3) (.seq (.rg false Zg7) (.seq (.seq (.rg false Zg8) (.cond (.t 53) (.seq (.rg false Zgy) (.seq (.seq (.rg true Zci) (.cond (.t 77) (.seq (.rg false Zcg) .ret) .skip)) (.rg false Zg2))) .skip)) (.seq (.seq (.rg false Zbg) (.cond (.t 90) (.seq (.rg false Zca) .ret) .skip)) (.seq (.seq (.rg false Zcb) (.cond (.t 92) (.rg false Zdq) .skip)) (.seq (.rg false Zcd) .ret)))))))))))
abbrev Ybl:Nat:=75
theorem Yh1:fnOk Tryz.prog 75=some (98,Ydt,[.cell 2 (some 4),.tmp 3]):=by kernel_rfl
def Zog:List IOp := [oI 2 (.mv (.c (.bool false))) 0]
def Zpm:List IOp := [mI 6 0 0,oI 7 (.call 75 [.t 6]) 0,mI 5 7 0,eI 8 0 5 0,eI 9 1 5 0,oI 3 (.alloc [.bool false,.nils,.bool false,.nils]) 0,⟨none,.st 4 (.t 3) (.t 8),1,[],[],none⟩,mI 4 9 1]
def Zpd:List IOp := [mI 10 4 0,mI 2 10 0]
def Ydi:CC := .seq (.rg false Zog) (.seq (.rg false Zpm) (.seq (.rg false Zpd) .ret))
abbrev Ylr:Nat:=34
theorem Yik:fnOk Tryz.prog 34=some (11,Ydi,[.tmp 2]):=by kernel_rfl
def Ydk:List IOp := [oI 2 (.alloc [.bool false,.nils,.bool false,.nils]) 0]
def Yc7:List IOp := [mI 6 0 0,oI 7 (.call 75 [.t 6]) 0,mI 5 7 0,eI 8 0 5 0,eI 9 1 5 0,oI 3 (.alloc [.bool false,.nils,.bool false,.nils]) 0,⟨none,.st 4 (.t 3) (.t 8),1,[],[],none⟩,mI 4 9 1]
def Yd7:List IOp := [lJ 10 4 3 0,⟨none,.st 4 (.t 2) (.t 10),0,[],[],none⟩]
def Yv1:CC := .seq (.rg false Ydk) (.seq (.rg false Yc7) (.seq (.rg false Yd7) .ret))
abbrev Y3a:Nat:=29
theorem Yzv:fnOk Tryz.prog 29=some (11,Yv1,[.cell 2 (some 4)]):=by kernel_rfl
def Zjq:List IOp := [oI 1 (.box (.t 0)) 0,oI 2 (.mv (.c (.str ⟨#[]⟩))) 1]
def Zje:List IOp := [fI 7 1 1 0,lI 8 7 0,oI 9 (.len (.t 8)) 0,oI 10 (.bin .eql (.t 9) (cI 0)) 0]
def Zs7:List IOp := [oI 2 (.mv (.c (.str ⟨#[48]⟩))) 0]
def Zua:List IOp := [oI 3 (.mv (.c (.str ⟨#[]⟩))) 0]
def Zs9:List IOp := [fI 11 1 1 0,lI 12 11 0,oI 13 (.len (.t 12)) 0,oI 14 (.bin .sub (.t 13) (cI 1)) 0,mI 4 14 0]
def Zko:List IOp := [mI 15 4 0,oI 16 (.bin .geq (.t 15) (cI 0)) 0]
def Zu9:List IOp := [fI 19 1 1 0,lI 20 19 0,mI 21 4 0,xI 22 1 20 21 0,lI 23 22 0,mI 5 23 0]
def Zsj:List IOp := [mI 24 5 0,oI 25 (.bin .quo (.t 24) (cI 1000)) 0,oI 26 (.bin .add (cI 48) (.t 25)) 0,oI 27 (.cvi .u8 (.t 26)) 0,mI 28 5 0,oI 29 (.bin .quo (.t 28) (cI 100)) 0,oI 30 (.bin .rem (.t 29) (cI 10)) 0,oI 31 (.bin .add (cI 48) (.t 30)) 0,oI 32 (.cvi .u8 (.t 31)) 0,mI 33 5 0,oI 34 (.bin .quo (.t 33) (cI 10)) 0,oI 35 (.bin .rem (.t 34) (cI 10)) 0,oI 36 (.bin .add (cI 48) (.t 35)) 0,oI 37 (.cvi .u8 (.t 36)) 0,mI 38 5 0,oI 39 (.bin .rem (.t 38) (cI 10)) 0,oI 40 (.bin .add (cI 48) (.t 39)) 0,oI 41 (.cvi .u8 (.t 40)) 0,oI 42 (.bsl none 4 [.int .u8 0] [(0,.t 27),(1,.t 32),(2,.t 37),(3,.t 41)]) 0,oI 43 (.b2s (.t 42)) 1,mI 6 43 1]
def Zt6:List IOp := [mI 44 3 0,mI 45 6 0,oI 46 (.bin .add (.t 44) (.t 45)) 0,mI 3 46 0]
def Zqg:List IOp := [mI 17 4 0,oI 18 (.bin .sub (.t 17) (cI 1)) 0,mI 4 18 0]
def Zjz:CC := .seq (.seq (.rg false Zko) (.cond (.t 16) .skip (.exit 0))) (.seq (.block 1 (.seq (.rg false Zu9) (.seq (.rg false Zsj) (.rg false Zt6)))) (.rg false Zqg))
def Zih:List IOp := [mI 47 3 0,oI 48 (.sidx (.t 47) (cI 0)) 0,oI 49 (.bin .eql (.t 48) (.c (.int .u8 48))) 0]
def Zq2:List IOp := [mI 50 3 0,oI 51 (.sslc (.t 50) (some (cI 1)) none) 0,mI 3 51 0]
def Zjl:CC := .seq (.seq (.rg false Zih) (.cond (.t 49) .skip (.exit 2))) (.block 3 (.rg false Zq2))
def Zq9:List IOp := [mI 52 3 0,mI 2 52 0]
def Zvt:CC := .seq (.rg false Zjq) (.seq (.seq (.rg false Zje) (.cond (.t 10) (.seq (.rg false Zs7) .ret) .skip)) (.seq (.rg false Zua) (.seq (.seq (.rg false Zs9) (.block 0 (.loop Zjz))) (.seq (.block 2 (.loop Zjl)) (.seq (.rg false Zq9) .ret)))))
abbrev Yf1:Nat:=85
theorem Zxc:fnOk Tryz.prog 85=some (53,Zvt,[.tmp 2]):=by kernel_rfl
def Ybc:List IOp := [oI 1 (.box (.t 0)) 0,oI 2 (.mv (.c (.str ⟨#[]⟩))) 1,oI 3 (.mv (.c (.bool false))) 1]
def Z9e:List IOp := [lJ 6 4 1 0,oI 7 (.call 36 [.t 6]) 0,⟨none,.st 4 (.t 1) (.t 7),0,[],[],none⟩]
def Z0f:List IOp := [fI 8 0 1 0,lJ 9 2 8 0,oI 10 (.call 86 [.t 9]) 0,oI 11 (.call 85 [.t 10]) 0,fI 12 2 1 0,lJ 13 2 12 0,oI 14 (.callw 85 [.t 13]) 0,mI 4 11 0,mI 5 14 0]
@[go_sem ↓] theorem Ygy : autoK Z0f = (0, 0) := by kernel_rfl
@[go_sem] theorem Y0g : autoK [fI 8 0 1 0, lJ 9 2 8 0, oI 10 (.call 86 [.t 9]) 0, oI 11 (.call 85 [.t 10]) 0, fI 12 2 1 0, lJ 13 2 12 0, oI 14 (.callw 85 [.t 13]) 0, mI 4 11 0, mI 5 14 0] = (0, 0) := Ygy
def Zej:List IOp := [mI 15 4 0,oI 16 (.slen (.t 15)) 0,oI 17 (.bin .gtr (.t 16) (cI 4000)) 0,mI 18 17 0,gI 19 (.mv (.t 5)) 0 18 false,gI 20 (.slen (.t 19)) 0 18 false,gI 21 (.bin .gtr (.t 20) (cI 4000)) 0 18 false,oI 22 (.pick (.t 18) (.c (.bool true)) (.t 21)) 0]
def Zzu:List IOp := [oI 2 (.mv (.c (.str ⟨#[]⟩))) 0,oI 3 (.mv (.c (.bool false))) 0]
def Zkr:List IOp := [fI 23 0 1 0,fI 24 0 23 0,lI 25 24 0]
def Zzz:List IOp := [mI 26 4 0,oI 27 (.bin .add (.c (.str ⟨#[45]⟩)) (.t 26)) 0,mI 4 27 0]
def Zkx:List IOp := [mI 28 5 0,oI 29 (.bin .neq (.t 28) (.c (.str ⟨#[49]⟩))) 0]
def Z0j:List IOp := [mI 30 4 0,mI 31 5 0,oI 32 (.bin .add (.c (.str ⟨#[47]⟩)) (.t 31)) 0,oI 33 (.bin .add (.t 30) (.t 32)) 0,mI 4 33 0]
def Zhq:List IOp := [mI 34 4 0,mI 2 34 0,oI 3 (.mv (.c (.bool true))) 0]
def Yoc:CC := .seq (.rg false Ybc) (.seq (.rg false Z9e) (.seq (.rg true Z0f) (.seq (.seq (.rg false Zej) (.cond (.t 22) (.seq (.rg false Zzu) .ret) .skip)) (.seq (.seq (.rg false Zkr) (.cond (.t 25) (.rg false Zzz) .skip)) (.seq (.seq (.rg false Zkx) (.cond (.t 29) (.rg false Z0j) .skip)) (.seq (.rg false Zhq) .ret))))))
abbrev Yug:Nat:=39
theorem Ytb:fnOk Tryz.prog 39=some (35,Yoc,[.tmp 2,.tmp 3]):=by kernel_rfl
def Ydq:List IOp := [oI 3 (.box (.t 1)) 0,oI 4 (.mv (.c (.bool false))) 1]
def Yel:List IOp := [lJ 8 4 3 0,oI 9 (.call 39 [.t 8]) 0,mI 7 9 0,eI 10 0 7 0,eI 11 1 7 0,mI 5 10 0,mI 6 11 0]
def Zwe:List IOp := [mI 12 6 0,mI 13 12 0,gI 14 (.mv (.t 0)) 0 13 true,gI 15 (.mv (.t 5)) 0 13 true,gI 16 (.bin .eql (.t 14) (.t 15)) 0 13 true,oI 17 (.pick (.t 13) (.t 16) (.c (.bool false))) 0,mI 4 17 0]
def Yx9:CC := .seq (.rg false Ydq) (.seq (.rg false Yel) (.seq (.rg false Zwe) .ret))
abbrev Y4c:Nat:=20
theorem Yw1:fnOk Tryz.prog 20=some (18,Yx9,[.tmp 4]):=by kernel_rfl
def Z6q:List IOp := [oI 4 (.alloc [.bool false,.nils,.bool false,.nils]) 0]
def Z60:List IOp := [mI 5 0 0,oI 6 (.call 81 [.t 5]) 0,mI 7 1 0,oI 8 (.call 81 [.t 7]) 0,oI 9 (.call 80 [.t 6,.t 8]) 0,oI 10 (.call 36 [.t 9]) 0,⟨none,.st 4 (.t 4) (.t 10),0,[],[],none⟩]
def Yi2:CC := .seq (.rg false Z6q) (.seq (.rg false Z60) .ret)
abbrev Ytt:Nat:=84
theorem Ymk:fnOk Tryz.prog 84=some (11,Yi2,[.cell 4 (some 4)]):=by kernel_rfl
def Zug:List IOp := [oI 1 (.box (.t 0)) 0,oI 2 (.mv (.c (.bool false))) 1]
def Zso:List IOp := [fI 3 0 1 0,fI 4 1 3 0,lI 5 4 0,oI 6 (.len (.t 5)) 0,oI 7 (.bin .eql (.t 6) (cI 0)) 0,mI 2 7 0]
def Yjj:CC := .seq (.rg false Zug) (.seq (.rg false Zso) .ret)
abbrev Ysk:Nat:=35
theorem Ymc:fnOk Tryz.prog 35=some (8,Yjj,[.tmp 2]):=by kernel_rfl
def Z5e:List IOp := [oI 2 (.mv (cI 0)) 0]
def Z58:List IOp := [oI 3 (.mv (cI 0)) 0]
def Zs2:List IOp := [mI 4 3 0,mI 5 0 0,oI 6 (.len (.t 5)) 0,oI 7 (.bin .lss (.t 4) (.t 6)) 0]
def Z5c:List IOp := [mI 10 0 0,mI 11 3 0,xI 12 1 10 11 0,lI 13 12 0,oI 14 (.call 34 [.t 13]) 0,oI 15 (.un .not (.t 14)) 0]
def Z5w:List IOp := [oI 2 (.mv (cI 2)) 0]
def Z4y:List IOp := [mI 8 3 0,oI 9 (.bin .add (.t 8) (cI 1)) 0,mI 3 9 0]
def Z5z:CC := .seq (.seq (.rg false Zs2) (.cond (.t 7) .skip (.exit 0))) (.seq (.block 1 (.seq (.rg false Z5c) (.cond (.t 15) (.seq (.rg false Z5w) .ret) .skip))) (.rg false Z4y))
def Z6r:List IOp := [oI 2 (.mv (cI 0)) 0]
def Yi0:CC := .seq (.rg false Z5e) (.seq (.seq (.rg false Z58) (.block 0 (.loop Z5z))) (.seq (.rg false Z6r) .ret))
abbrev Yc8:Nat:=51
theorem Ymf:fnOk Tryz.prog 51=some (16,Yi0,[.tmp 2]):=by kernel_rfl
end GoAbs
namespace GoAbs
open Go Go.Proofs
theorem Y1s {k x:Nat}(h:x<4294967296 ^ k):trimL (fixL k x)=limbs x:=(Ysb h).symm
theorem Xcn {a b s:Nat}(hs:0<s):a*s / (b*s)=a / b∧a*s % (b*s)=a % b*s :=
 ⟨Nat.mul_div_mul_right a b hs,Nat.mul_mod_mul_right s a b⟩
theorem Xbg {b n:Nat}(hb:b≠0) (hn:lenN b=n+1):∃ t,(limbs b)[n]? = some t∧t≠0∧t<4294967296∧b=val ((limbs b).take n)+4294967296 ^ n*t∧val ((limbs b).take n)<4294967296 ^ n:=by
 have hn':(limbs b).length=n+1:=hn
 obtain ⟨t,h1,h2⟩:=Z4i hb
 rw [List.getLast?_eq_getElem?,hn',Nat.add_sub_cancel] at h1
 refine ⟨t,h1,h2,(Zbj b).get h1,?_,?_⟩
 ·have:=Zat h1
  rw [List.take_of_length_le (by omega),Zay] at this
  exact this
 ·have:=Zwx ((Zbj b).take (n:=n))
  rwa [List.length_take,Nat.min_eq_left (by omega)] at this
theorem Yjv {a b:Nat}(hb:b≠0) (ha:lenN a≤274877906944) (hlb:lenN b≤549755813888) :
  SpecV Tryz.prog Ytl [.sl (u32c (limbs a)),.sl (u32c (limbs b))] (.tup [.sl (u32c (limbs (a / b))),.sl (u32c (limbs (a % b)))]):=by
 refine Zbr Yl7 (by simp) (Zen 7 rfl ?_)
 unfold Yg9
 simp only [go_sem,Z5r,Z6z]
 refine Zaa (Zzm (Nat.le_trans ha (by omega)) hlb) (by simp only [go_sem]) ?_
 have hla:(limbs a).length=lenN a:=rfl
 have hlb':(limbs b).length=lenN b:=rfl
 by_cases hab:a<b
 ·have hc:((-1:Int)<0):=by omega
  simp only [go_sem,hab,hc,Z4w]
  refine ⟨fun y hy=>Ygo y hy,by rw [Zad]; omega,?_⟩
  refine ⟨?_,?_⟩
  ·rw [Nat.div_eq_of_lt hab,Zas]; exact .nilsl
  ·rw [Nat.mod_eq_of_lt hab,Yx8,Zad]
   exact Zde rfl (by simp [allOf]) rfl (by rw [List.drop_zero,List.take_of_length_le (by rw [Zad]; omega)])
 ·have hc:¬ ((if b<a then (1:Int) else 0)<0):=by split <;> omega
  simp only [go_sem,hab,hc,Z6c,Zad,hlb']
  have hb1:1≤lenN b:=by
   rcases Nat.eq_zero_or_pos (lenN b) with h | h
   ·exact absurd (Zhm.1 (List.length_eq_zero_iff.1 h)) hb
   ·exact h
  have hle:lenN b≤lenN a:=Zni (by omega)
  obtain ⟨n,hn⟩:∃ n,lenN b=n+1:=⟨lenN b - 1,by omega⟩
  obtain ⟨t,gt,ht0,ht,hbt,hblo⟩:=Xbg hb hn
  refine ⟨fun h1=>?_,fun h1=>?_⟩
  ·
   have hn0:n=0:=by omega
   subst hn0
   have hbt':b=t:=by
    rw [hbt]; simp [val]
   have p0:(0:Int)≤0:=by omega
   have g0:(u32c (limbs b))[Int.toNat 0]? = some (.int .u32 (t:Int)):=Zap gt
   simp only [go_sem,Z6h,Zap gt]
   refine Zaa (Z82 (Zbj a) (by omega) (by omega) ht) (by simp only [go_sem]) ?_
   rw [Zay, ← hbt']
   simp only [go_sem,Z48]
   have hr:trimL [a % b]=limbs (a % b):=by
    have:Ok32 [a % b]:=fun x hx=>by
     have:=Nat.mod_lt a (Nat.pos_of_ne_zero hb)
     simp at hx; omega
    rw [← Zc3 this]; simp [val]
   refine Zhl (ids := [0]) (Zc1 [a % b] (by simp)) ?_ ?_
   ·simp only [go_sem]
    exact Zde rfl (by simp) rfl rfl
   ·rw [hr]
    simp only [go_sem]
  ·have hnn:1≤n:=by omega
   have e1:IntKind.i64.wrap (((n+1:Nat):Int) - 1)=(n:Nat):=by rw [Zac (by omega) (by omega)]; omega
   have p1:(0:Int)≤((n:Nat):Int):=by omega
   obtain ⟨q1,q2,q3,q4,q5⟩:=Y29 ht0 ht
   simp only [go_sem,Z6n,Zad,hlb',hn,e1,p1,Zap gt]
   refine Zaa (Yne ht q1) (by simp only [go_sem]) ?_
   generalize hsd:32 - bl t=s at *
   have hs0:0<2 ^ s:=Nat.pow_pos (by omega)
   obtain ⟨z1,z2⟩:=Ywn hbt hblo q3 q4 hs0
   rw [← Nat.pow_succ] at z1
   simp only [go_sem,Z6p]
   refine Zaa (Y8u (Zbj b) (by omega) q2) (by simp only [go_sem]) ?_
   rw [Zay,hlb',hn]
   simp only [go_sem]
   have hVlt2:b*2 ^ s<4294967296 ^ (n+1+1):=Nat.lt_of_lt_of_le z1 (Nat.pow_le_pow_right (by omega) (by omega))
   refine Zaa (Zc1 (fixL (n+1+1) (b*2 ^ s)) (by rw [Zo9]; omega)) (by simp only [go_sem]) ?_
   rw [Y1s hVlt2]
   simp only [go_sem]
   refine Zi0 (Zj4 (H := []) (Xat (Zbj a) (by omega) q2) (by simp only [go_sem])) ?_
   have hV0:0<b*2 ^ s:=Nat.mul_pos (Nat.pos_of_ne_zero hb) hs0
   have hlV:lenN (b*2 ^ s)=n+1:=by
    have h2:=Z4n z1
    have h3:n<lenN (b*2 ^ s):=Y56 (Nat.le_trans (Nat.le_mul_of_pos_right _ (by omega)) z2)
    omega
   have hlV':(limbs (b*2 ^ s)).length=n+1:=hlV
   have halt:a<4294967296 ^ lenN a:=Z0h a
   have hAl:a*2 ^ s<4294967296 ^ (lenN a+1):=by
    rw [Nat.pow_succ]
    exact Nat.mul_lt_mul_of_lt_of_le halt (by omega) (by omega)
   have hA:a*2 ^ s / 4294967296 ^ (lenN a - (n+1)+1)<b*2 ^ s:=by
    rw [Nat.div_lt_iff_lt_mul (Nat.pow_pos (by omega))]
    have h2:4294967296 ^ n*2147483648*4294967296 ^ (lenN a - (n+1)+1)≤b*2 ^ s*4294967296 ^ (lenN a - (n+1)+1):=Nat.mul_le_mul_right _ z2
    have h3:4294967296 ^ n*2147483648*4294967296 ^ (lenN a - (n+1)+1)=4294967296 ^ lenN a*2147483648:=by
     rw [Nat.mul_right_comm, ← Nat.pow_add]
     congr 2; omega
    have h4:a*2 ^ s<4294967296 ^ lenN a*2147483648:=Nat.mul_lt_mul_of_lt_of_le halt q5 (by omega)
    omega
   obtain ⟨w1,w2⟩ := @Xcn a b (2 ^ s) hs0
   have hgc:(AV.osl none 0 0 ((limbs a).length+1)).gc (fun i=>some (i+([]:Heap).length)) = .osl none 0 0 (lenN a+1):=by rfl
   have hgc2:([] ++ [Blk.cells (u32c (fixL ((limbs a).length+1) (val (limbs a)*2 ^ s)))].map (Blk.gc (fun i=>some (i+([]:Heap).length)))) = [.cells (u32c (fixL (lenN a+1) (a*2 ^ s)))]:=by
    rw [Zay]
    simp only [List.map_cons,List.map_nil,List.nil_append,Blk.gc,Zaz]
    congr 2
    unfold u32c
    rw [List.map_map]
    rfl
   rw [hgc,hgc2]
   have e2:IntKind.i64.wrap ((lenN a:Int) - ((n+1:Nat):Int))=(lenN a - (n+1):Nat):=by rw [Zac (by omega) (by omega)]; omega
   have e3:IntKind.i64.wrap (((lenN a - (n+1):Nat):Int)+1)=(lenN a - (n+1)+1:Nat):=by rw [Zac (by omega) (by omega)]; omega
   have p2:(0:Int)≤((lenN a - (n+1)+1:Nat):Int):=by omega
   have p3:(4:Int)*((lenN a - (n+1)+1:Nat):Int)≤281474976710656:=by omega
   simp only [go_sem,Z5m,Z2f,Z1w,Zad,hla,hlV',e2,e3,p2,Zok]
   refine ⟨Int.le_refl _,p3,?_⟩
   refine Za2 [(0,.sl (u32c (limbs a))),(8,.int .i64 (s:Int)),(9,.sl (u32c (limbs (b*2 ^ s)))),(10,.osl none 0 0 (lenN a+1)),(11,.int .i64 ((n+1:Nat):Int)),(12,.osl none 1 0 (lenN a - (n+1)+1)),(13,.int .i64 ((lenN a - (n+1):Nat):Int))] (by simp only [go_sem])
    (Yx1 (A:=a*2 ^ s) (V:=b*2 ^ s) rfl hlV (by omega) rfl (by omega) (by omega) z1 hV0 hA hAl (fun U Q e g1 g2 g3 g4 g5 g6 y8 y10 y11 y12=>?_))
   rw [w2] at g5
   rw [w1] at g6
   simp only [go_sem]
   refine Z72 [0,1] [(8,.int .i64 (s:Int)),(10,.sl (u32c U)),(11,.int .i64 ((n+1:Nat):Int)),(12,.sl (u32c Q))] ⟨.inr y8,.inl ?_,.inr y11,.inl ?_,trivial⟩ (T_W ?_)
   ·show BV _ _ (e 10) _
    rw [y10]
    exact Zde rfl (by simp) g3 (by rw [List.drop_zero,List.take_of_length_le (by rw [Zad]; omega)])
   ·show BV _ _ (e 12) _
    rw [y12]
    exact Zde rfl (by simp) g4 (by rw [List.drop_zero,List.take_of_length_le (by rw [Zad]; omega)])
   have hm:Tryz.prog.follows .mixedOrders=true:=by kernel_rfl
   simp only [go_sem,Zob,hm]
   refine Zaa (Zc1 Q (by omega)) (by simp only [go_sem]) ?_
   have p5:(0:Int)≤((n+1:Nat):Int):=by omega
   simp only [go_sem,p5,Zad,g3,Ykl]
   refine ⟨by omega,fun y hy=>Ygo y hy,?_⟩
   refine Zaa (Zc1 (U.take (n+1)) (by rw [List.length_take]; omega)) (by simp only [go_sem]) ?_
   have hUn:val (U.take (n+1))=a % b*2 ^ s:=by
    have h2:=Zbl (U.take (n+1)) (U.drop (n+1))
    rw [List.take_append_drop,g5,List.length_take,Nat.min_eq_left (by omega)] at h2
    have h3:a % b*2 ^ s<4294967296 ^ (n+1):=Nat.lt_trans (Nat.mul_lt_mul_of_pos_right (Nat.mod_lt a (Nat.pos_of_ne_zero hb)) hs0) z1
    rcases Nat.eq_zero_or_pos (val (U.drop (n+1))) with h | h
    ·rw [h] at h2; omega
    ·have h5:4294967296 ^ (n+1)*1≤4294967296 ^ (n+1)*val (U.drop (n+1)):=Nat.mul_le_mul_left _ h
     generalize 4294967296 ^ (n+1)=Z at *
     omega
   rw [← Zc3 g1.take,hUn, ← Zc3 g2,g6]
   simp only [go_sem]
   have hlR:(limbs (a % b*2 ^ s)).length≤n+1:=Z4n (Nat.lt_trans (Nat.mul_lt_mul_of_pos_right (Nat.mod_lt a (Nat.pos_of_ne_zero hb)) hs0) z1)
   refine Zaa (Yzf (Zbj _) (by omega) q2) (by simp only [go_sem]) ?_
   rw [Zay,Nat.mul_div_cancel _ hs0]
   simp only [go_sem]
end GoAbs
namespace GoAbs
open Go Go.Proofs
def Sz (n:Nat):Prop:=lenN n≤274877906944
theorem Sz.l {n:Nat}(h:Sz n):lenN n≤549755813888:=Nat.le_trans h (by omega)
theorem Sz.mono {m n:Nat}(h:Sz n) (hm:m≤n):Sz m:=Nat.le_trans (Zni hm) h
theorem Sz.one:Sz 1:=by
 have:lenN 1≤1:=Z4n (by decide)
 unfold Sz; omega
theorem Zc9 {n:Nat}:(0:Int)<((limbs n).length:Int)↔n≠0:=by
 rw [ne_eq, ← Zhm, ← List.length_eq_zero_iff]; omega
theorem Yoo {a b:Int}(ha:Sz a.natAbs) (hb:Sz b.natAbs):SpecV Tryz.prog Yyx [avI a,avI b] (avI (Int.gcd a b)):=by
 refine Zae Yrr (by simp) ?_
 unfold Ypo
 have hm:Tryz.prog.follows .mixedOrders=true:=by kernel_rfl
 simp only [go_sem,Zao,Z96,Z0i,hm]
 refine Zag (fun z:Nat×Nat=>⟨envL [(4,.ptr 2 0),(5,.sl (u32c (limbs z.1))),(6,.sl (u32c (limbs z.2)))],[.cells [.bool (decide (a<0)),.sl (u32c (limbs a.natAbs))],.cells [.bool (decide (b<0)),.sl (u32c (limbs b.natAbs))],.cells [.bool false,.nils]]⟩)
  (fun z=>Nat.gcd z.1 z.2=Int.gcd a b∧Sz z.1∧Sz z.2) (fun z=>z.2) (a.natAbs,b.natAbs) ⟨rfl,ha,hb⟩ (Zab _ (by simp only [go_sem])) (fun z hI N hN=>?_)
 obtain ⟨x,y⟩:=z
 obtain ⟨h1,h2,h3⟩:=hI
 simp only at h1 h2 h3 ⊢
 unfold Ybx
 by_cases hy:y=0
 ·subst hy
  have p1:¬ (0:Int)<((0:Nat):Int):=by omega
  simp only [go_sem,Zze,Z9u,Zas,Zg5,p1]
  rw [Nat.gcd_zero_right] at h1
  refine Zaa (Zps (s:=false) (n:=x) (z:=(x:Int)) (by simp)) (by simp only [go_sem]) ?_
  simp only [go_sem,Zao]
  subst h1
  refine ⟨?_,rfl⟩
  simp
 ·have p1:=(Zc9 (n:=y)).2 hy
  simp only [go_sem,Zze,Z92,Ybs,Zad,p1]
  refine Zaa (Yjv hy h2 h3.l) (by simp only [go_sem]) ?_
  simp only [go_sem]
  have hlt:=Nat.mod_lt x (Nat.pos_of_ne_zero hy)
  refine hN (y,x % y) _ ⟨?_,h3,h3.mono (Nat.le_of_lt hlt)⟩ hlt (Zab _ (by simp only [go_sem]))
  simp only
  rw [← h1,Nat.gcd_comm y, ← Nat.gcd_rec,Nat.gcd_comm]
theorem Xb6 {a b:Int}(hb:b≠0) (h:a.natAbs % b.natAbs≠0) (hs:decide (a<0)≠decide (b<0)):a.tdiv b - 1=a.fdiv b∧a.tmod b+b=a.fmod b:=by
 have hd:¬ b∣a:=fun hd=>h (Nat.mod_eq_zero_of_dvd (Int.natAbs_dvd_natAbs.2 hd))
 have h3:=Int.tmod_add_mul_tdiv a b
 have h4:=Int.fmod_add_mul_fdiv a b
 have hq:a.fdiv b=a.tdiv b - 1:=by
  rw [Int.fdiv_eq_tdiv,if_neg hd]
  have:(a<0)≠(b<0):=fun e=>hs (by simp only [e])
  by_cases h1:0≤a
  ·have h2:¬ 0≤b:=fun h2=>this (by simp [show ¬ a<0 by omega,show ¬ b<0 by omega])
   rw [if_pos h1,if_neg h2]
  ·have h2:0≤b:=by
    rcases Int.lt_or_le b 0 with h2 | h2
    ·exact absurd (by simp [show a<0 by omega,h2]) this
    ·exact h2
   rw [if_neg h1,if_pos h2,Int.sign_eq_one_of_pos (by omega)]
 refine ⟨hq.symm,?_⟩
 rw [hq,Int.mul_sub] at h4
 omega
theorem Y8p {a b:Int}(hb:b≠0) (h:a.natAbs % b.natAbs=0∨decide (a<0)=decide (b<0)):a.tdiv b=a.fdiv b∧a.tmod b=a.fmod b:=by
 have h3:=Int.tmod_add_mul_tdiv a b
 have h4:=Int.fmod_add_mul_fdiv a b
 have hq:a.fdiv b=a.tdiv b:=by
  rw [Int.fdiv_eq_tdiv]
  by_cases hd:b∣a
  ·rw [if_pos hd]; omega
  ·rw [if_neg hd]
   have hs:decide (a<0)=decide (b<0):=h.elim (fun h=>absurd (Int.natAbs_dvd_natAbs.1 (Nat.dvd_of_mod_eq_zero h)) hd) id
   by_cases h1:0≤a
   ·have h2:0≤b:=by
     have:¬ b<0:=by
      have:decide (b<0)=false:=by rw [← hs]; simp; omega
      simpa using this
     omega
    rw [if_pos h1,if_pos h2]; omega
   ·have h2:¬ 0≤b:=by
     have:b<0:=by
      have:decide (b<0)=true:=by rw [← hs]; simp; omega
      simpa using this
     omega
    rw [if_neg h1,if_neg h2,Int.sign_eq_neg_one_of_neg (by omega)]; omega
 refine ⟨hq.symm,?_⟩
 rw [hq] at h4
 omega
theorem Yxk {a b:Int}{s:Bool}(hs:s = !(decide (a<0) == decide (b<0))):(if s=true then -((a.natAbs / b.natAbs:Nat):Int) else ((a.natAbs / b.natAbs:Nat):Int))=a.tdiv b:=by
 subst hs
 rcases Int.natAbs_eq a with ha | ha <;> rcases Int.natAbs_eq b with hb | hb
 all_goals
  generalize a.natAbs=m at *
  generalize b.natAbs=n at *
  subst ha hb
  simp only [Int.neg_tdiv,Int.tdiv_neg, ← Int.ofNat_tdiv]
 ·have h1:¬ ((m:Int)<0):=by omega
  have h2:¬ ((n:Int)<0):=by omega
  simp [h1,h2]
 ·by_cases h0:n=0
  ·subst h0; simp
  ·have h1:¬ ((m:Int)<0):=by omega
   have h2 : -(n:Int)<0:=by omega
   simp [h1,h2]
   intro h; exact absurd h h0
 ·by_cases h0:m=0
  ·subst h0; simp
  ·have h1 : -(m:Int)<0:=by omega
   have h2:¬ ((n:Int)<0):=by omega
   simp [h1,h2]
   intro h; exact absurd h h0
 ·by_cases h0:m=0
  ·subst h0; simp
  ·by_cases h0':n=0
   ·subst h0'; simp
   ·have h1 : -(m:Int)<0:=by omega
    have h2 : -(n:Int)<0:=by omega
    simp only [h1,h2]
    simp
theorem Yyb {a b:Int}:(if decide (a<0)=true then -((a.natAbs % b.natAbs:Nat):Int) else ((a.natAbs % b.natAbs:Nat):Int))=a.tmod b:=by
 have hb:a.tmod b=a.tmod (b.natAbs:Int):=by
  rcases Int.natAbs_eq b with hb | hb
  ·rw [← hb]
  ·conv=>lhs; rw [hb,Int.tmod_neg]
 rw [hb]
 rcases Int.natAbs_eq a with ha | ha
 ·have h1:¬ a<0:=by omega
  rw [if_neg (by simpa using h1)]
  conv=>rhs; rw [ha]
  exact Int.ofNat_tmod _ _
 ·by_cases h0:a=0
  ·subst h0; simp
  ·have h1:a<0:=by omega
   rw [if_pos (by simpa using h1)]
   conv=>rhs; rw [ha,Int.neg_tmod, ← Int.ofNat_tmod]
theorem Ypc {a b:Int}(ha:Sz a.natAbs) (hb:Sz b.natAbs) (hb0:b≠0):SpecV Tryz.prog Ywe [avI a,avI b] (.tup [avI (a.fdiv b),avI (a.fmod b)]):=by
 refine Zae Yqq (by simp) ?_
 unfold Yom
 have hm:Tryz.prog.follows .mixedOrders=true:=by kernel_rfl
 have hbn:b.natAbs≠0:=by omega
 rw [Zao a,Zao b]
 simp only [go_sem,Z88,Yam]
 refine Zaa (Yjv hbn ha hb.l) (by simp only [go_sem]) ?_
 have hr:a.natAbs % b.natAbs≤b.natAbs:=Nat.le_of_lt (Nat.mod_lt _ (by omega))
 simp only [go_sem,Zz4,hm]
 refine Zaa (Zps (Yxk rfl)) (by simp only [go_sem]) ?_
 simp only [go_sem]
 refine Zaa (Zps Yyb) (by simp only [go_sem]) ?_
 have hrl:(0:Int)<((limbs (a.natAbs % b.natAbs)).length:Int)↔a.natAbs % b.natAbs≠0:=Zc9
 by_cases hc:a.natAbs % b.natAbs≠0∧decide (a<0)≠decide (b<0)
 ·obtain ⟨q1,q2⟩:=Xb6 hb0 hc.1 hc.2
  have p1:=hrl.2 hc.1
  have p2:(!(decide (a<0) == decide (b<0)))=true:=by simpa using hc.2
  simp only [go_sem,Zao,Zpe,Zzn,Zad,p1,p2,hm]
  refine Zaa Z01 (by simp only [go_sem]) ?_
  simp only [go_sem,Zao]
  have s1:Sz (a.tdiv b).natAbs:=ha.mono (by rw [Int.natAbs_tdiv]; exact Nat.div_le_self _ _)
  have s2:Sz (a.tmod b).natAbs:=hb.mono (by rw [Int.natAbs_tmod]; exact hr)
  refine Zaa (Yo7 (b:=1) s1.l Sz.one.l) (by simp only [go_sem,Zao]) ?_
  simp only [go_sem]
  refine Zaa (Z8h s2.l hb.l) (by simp only [go_sem,Zao]) ?_
  simp only [go_sem,Zao]
  refine Z93 hm (fun _ b=>b=2∨b=3) 0 ?_
  simp only [go_sem,Zj3,q1,q2]
 ·obtain ⟨q1,q2⟩:=Y8p hb0 (a:=a) (by
   by_cases h:a.natAbs % b.natAbs=0
   ·exact .inl h
   ·exact .inr (Classical.byContradiction fun h2=>hc ⟨h,h2⟩))
  have p2:¬ (0:Int)<((limbs (a.natAbs % b.natAbs)).length:Int)∨(!(decide (a<0) == decide (b<0)))=false:=by
   rcases Classical.em (a.natAbs % b.natAbs=0) with h | h
   ·exact .inl (fun h2=>(hrl.1 h2) h)
   ·exact .inr (by
     have:decide (a<0)=decide (b<0):=Classical.byContradiction fun h2=>hc ⟨h,h2⟩
     rw [this]; simp)
  have fin:∀ (e:Nat→AV),e 4 = .ptr 2 0→e 5 = .ptr 3 0→e 8 = .ptr 4 0→e 9 = .ptr 5 0→W Tryz.prog 47 0 ((CC.rg true Zj3).seq CC.ret) ⟨e,[Blk.cells [AV.bool (decide (a<0)),AV.sl (u32c (limbs a.natAbs))],
    Blk.cells [AV.bool (decide (b<0)),AV.sl (u32c (limbs b.natAbs))],Blk.cells [AV.bool false,AV.nils],
    Blk.cells [AV.bool false,AV.nils],
    Blk.cells [AV.bool (decide (a.tdiv b<0)),AV.sl (u32c (limbs (a.tdiv b).natAbs))],
    Blk.cells [AV.bool (decide (a.tmod b<0)),AV.sl (u32c (limbs (a.tmod b).natAbs))]]⟩ (retQ [RV.cell 4 (some 2),RV.cell 5 (some 2)] (.tup [avI (a.fdiv b),avI (a.fmod b)])):=fun e e4 e5 e8 e9=>by
   simp only [go_sem]
   refine Z93 hm (fun _ b=>b=2∨b=3) 0 ?_
   simp only [go_sem,Zj3,e4,e5,e8,e9,q1,q2,Zao]
  rcases p2 with p2 | p2
  ·simp only [go_sem,Zao,Zpe,Zad,p2]
   exact fin _ (by simp only [go_sem]) (by simp only [go_sem]) (by simp only [go_sem]) (by simp only [go_sem])
  ·simp only [go_sem,Zao,Zpe,Zad,p2]
   refine ⟨fun _=>?_,fun _=>?_⟩
   ·exact fin _ (by simp only [go_sem]) (by simp only [go_sem]) (by simp only [go_sem]) (by simp only [go_sem])
   ·exact fin _ (by simp only [go_sem]) (by simp only [go_sem]) (by simp only [go_sem]) (by simp only [go_sem])
end GoAbs
namespace GoAbs
open Go Go.Proofs
theorem Ydu {n d:Int}(hd:0<d):(Rat.divInt n d).num=n / (Int.gcd n d:Int)∧((Rat.divInt n d).den:Int)=d / (Int.gcd n d:Int):=by
 refine ⟨?_,?_⟩
 ·rw [Rat.num_divInt,Int.sign_eq_one_of_pos hd,Int.one_mul,Int.gcd_comm]
 ·rw [Rat.den_divInt,if_neg (by omega),Int.natCast_ediv,Int.natAbs_of_nonneg (by omega),Int.gcd_comm]
theorem Yd3 {n d:Int}(hd:0<d) (hg:Int.gcd n d=1):avF n d=avQ (Rat.divInt n d):=by
 obtain ⟨h1,h2⟩:=Ydu (n:=n) hd
 rw [hg] at h1 h2
 rw [avQ,h1,h2]; simp
theorem Y73 {n d:Int}(hd:0<d):avF (n.fdiv (Int.gcd n d)) (d.fdiv (Int.gcd n d))=avQ (Rat.divInt n d):=by
 obtain ⟨h1,h2⟩:=Ydu (n:=n) hd
 rw [avQ,h1,h2,Int.fdiv_eq_ediv_of_nonneg _ (by omega),Int.fdiv_eq_ediv_of_nonneg _ (by omega)]
theorem Ykf {n d:Int}(hn:Sz n.natAbs) (hd:Sz d.natAbs) (h0:0<d) {H:Heap}(a b:AV) (hH:H = [.cells [.bool (decide (n<0)),.sl (u32c (limbs n.natAbs))],.cells [.bool (decide (d<0)),.sl (u32c (limbs d.natAbs))],.cells [.bool false,.nils,.bool false,.nils]])
  (e:Nat→AV) (e2:e 2 = .ptr 0 0) (e3:e 3 = .ptr 1 0) (e4:e 4 = .ptr 2 0) :
  W Tryz.prog 41 0 (.seq (.rg false Zph) (.seq (.seq (.rg true Zi6) (.cond (.t 22) (.seq (.rg false Zpl) .ret) .skip)) (.seq (.rg false Zpo) (.seq (.rg false Zow) (.seq (.rg false Zoq) .ret))))) ⟨e,H⟩
   (retQ [.cell 4 (some 4)] (avQ (Rat.divInt n d))):=by
 subst hH
 have hm:Tryz.prog.follows .mixedOrders=true:=by kernel_rfl
 simp only [go_sem,Zph,e2,e3,e4]
 refine Zaa (Yoo hn hd) (by simp only [go_sem,Zao]) ?_
 have hgn:(Int.gcd n d:Int).natAbs=Int.gcd n d:=by simp
 have hgp:0<Int.gcd n d:=Int.gcd_pos_of_ne_zero_right _ (by omega)
 have hgd:Int.gcd n d≤d.natAbs:=Nat.le_of_dvd (by omega) (Int.gcd_dvd_natAbs_right n d)
 have hgs:Sz (Int.gcd n d:Int).natAbs:=by rw [hgn]; exact hd.mono hgd
 have hg0:(Int.gcd n d:Int)≠0:=by omega
 simp only [go_sem,Zao,Zi6,hm]
 refine Zaa Z01 (by simp only [go_sem]) ?_
 simp only [go_sem,Zao]
 refine Zaa (Ypu (b:=1) hgs.l Sz.one.l) (by simp only [go_sem,Zao]) ?_
 by_cases hg1:Int.gcd n d=1
 ·have p1:¬ (Int.gcd n d:Int)<1:=by omega
  have p2:¬ (1:Int)<(Int.gcd n d:Int):=by omega
  rw [← Yd3 h0 hg1]
  simp only [go_sem,p1,p2,Zpl,e2,e3,e4]
 ·have p1:¬ (Int.gcd n d:Int)<1:=by omega
  have p2:(1:Int)<(Int.gcd n d:Int):=by omega
  have p3:¬ (1:Int)=0:=by omega
  simp only [go_sem,p1,p2,p3,Zpo,Zow,Zoq,e2,e3,e4]
  refine Zaa (Ypc hn hgs hg0) (by simp only [go_sem,Zao]) ?_
  simp only [go_sem,Zao,e2,e3,e4]
  refine Zaa (Ypc hd hgs hg0) (by simp only [go_sem,Zao]) ?_
  rw [← Y73 h0]
  simp only [go_sem,Zao,e2,e3,e4]
theorem Z4l {n d:Int}(hn:Sz n.natAbs) (hd:Sz d.natAbs) (h0:d≠0):SpecV Tryz.prog Yk1 [avI n,avI d] (avQ (Rat.divInt n d)):=by
 refine Zae Yhd (by simp) ?_
 unfold Yem
 have hm:Tryz.prog.follows .mixedOrders=true:=by kernel_rfl
 rw [Y2n]
 by_cases hs:d<0
 ·simp only [go_sem,Zao,Zo5,Zqd,Zpq,hs,hm,decide_true]
  refine Zaa (Z74 n) (by simp only [go_sem,Zao]) ?_
  simp only [go_sem,Zao,hs,decide_true]
  have hneg:=Z74 d
  rw [Zao d,show decide (d<0)=true by simpa using hs] at hneg
  refine Zaa hneg (by simp only [go_sem]) ?_
  simp only [go_sem,Zao]
  have h:=Ykf (n := -n) (d := -d) (by simpa using hn) (by simpa using hd) (by omega) (H:=_) .any .any rfl
  rw [Rat.neg_divInt_neg] at h
  have h2:=fun e e2 e3 e4=>h e e2 e3 e4
  simp only [Y2n,W_rg] at h2
  exact h2 _ (by simp only [go_sem]) (by simp only [go_sem]) (by simp only [go_sem])
 ·have h:=Ykf hn hd (by omega) (H:=_) .any .any rfl
  have hf:decide (d<0)=false:=by simpa using hs
  simp only [go_sem,Zao,Zo5,Zqd,hf]
  have h2:=fun e e2 e3 e4=>h e e2 e3 e4
  simp only [Y2n,W_rg,hf] at h2
  exact h2 _ (by simp only [go_sem]) (by simp only [go_sem]) (by simp only [go_sem])
theorem Yfg {q:Rat}:(q.den:Int)=1↔q=(q.num:Rat):=by
 constructor
 ·intro h
  exact Rat.ext (by simp) (by simp; omega)
 ·intro h
  rw [h]; simp
theorem Yli (z:Int):avQ (z:Rat)=avF z 1:=by simp [avQ]
theorem den_pos' (q:Rat):(0:Int)<q.den:=by have:=q.den_pos; omega
theorem Zby (q:Rat):(q.den:Int).natAbs=q.den:=by simp
structure Sz2 (a b:Rat):Prop where
 nd:Sz (a.num*b.den).natAbs
 dn:Sz (b.num*a.den).natAbs
 nn:Sz (a.num*b.num).natAbs
 dd:Sz (a.den*b.den)
 sm:Sz (a.num*b.den+b.num*a.den).natAbs
 an:Sz a.num.natAbs
 bn:Sz b.num.natAbs
 ad:Sz a.den
 bd:Sz b.den
 si:Sz (a.num+b.num).natAbs
theorem Ymg {a b:Rat}:Rat.divInt (a.num*b.den+b.num*a.den) (a.den*b.den)=a+b:=by
 have h1:=Rat.num_divInt_den a
 have h2:=Rat.num_divInt_den b
 conv=>rhs; rw [← h1, ← h2]
 rw [Rat.divInt_add_divInt _ _ (by have:=den_pos' a; omega) (by have:=den_pos' b; omega)]
theorem Ylz {a b:Rat}:Rat.divInt (a.num*b.num) (a.den*b.den)=a*b:=by
 have h1:=Rat.num_divInt_den a
 have h2:=Rat.num_divInt_den b
 conv=>rhs; rw [← h1, ← h2]
 rw [Rat.divInt_mul_divInt]
theorem Yl9 {a b:Rat}:Rat.divInt (a.num*b.den) (a.den*b.num)=a / b:=by
 have h1:=Rat.num_divInt_den a
 have h2:=Rat.num_divInt_den b
 conv=>rhs; rw [← h1, ← h2]
 rw [Rat.div_def,Rat.inv_divInt,Rat.divInt_mul_divInt]
theorem Y7f {a b:Rat}(h:Sz2 a b):SpecV Tryz.prog Yhj [avQ a,avQ b] (avQ (a+b)):=by
 refine Zbr Yst (by simp) (Zen 1 rfl ?_)
 unfold Ynq
 have hm:Tryz.prog.follows .mixedOrders=true:=by kernel_rfl
 have full:∀ (e:Nat→AV),e 2 = .ptr 0 0→e 3 = .ptr 1 0→e 4 = .ptr 2 0→T Tryz.prog 34 0 (.seq (.rg true Zqb) .ret) ⟨e,[.cells [.bool (decide (a.num<0)),.sl (u32c (limbs a.num.natAbs)),.bool (decide ((a.den:Int)<0)),.sl (u32c (limbs (a.den:Int).natAbs))],
   .cells [.bool (decide (b.num<0)),.sl (u32c (limbs b.num.natAbs)),.bool (decide ((b.den:Int)<0)),.sl (u32c (limbs (b.den:Int).natAbs))],.cells [.bool false,.nils,.bool false,.nils]]⟩ (retQ [.cell 4 (some 4)] (avQ (a+b))):=fun e e2 e3 e4=>T_W (by
  simp only [go_sem,Zqb,e2,e3,e4,hm]
  refine Zaa (Zly (a:=a.num) (b:=b.den) h.an.l (by rw [Zby]; exact h.bd.l)) (by simp only [go_sem,Zao]) ?_
  simp only [go_sem,e2,e3,e4]
  refine Zaa (Zly (a:=b.num) (b:=a.den) h.bn.l (by rw [Zby]; exact h.ad.l)) (by simp only [go_sem,Zao]) ?_
  simp only [go_sem,Zao,e2,e3,e4]
  refine Zaa (Z8h (a:=a.num*b.den) (b:=b.num*a.den) h.nd.l h.dn.l) (by simp only [go_sem,Zao]) ?_
  simp only [go_sem,e2,e3,e4]
  refine Zaa (Zly (a:=a.den) (b:=b.den) (by rw [Zby]; exact h.ad.l) (by rw [Zby]; exact h.bd.l)) (by simp only [go_sem,Zao]) ?_
  simp only [go_sem,Zao,e2,e3,e4]
  refine Zaa (Z4l h.sm (by rw [← Int.natCast_mul,Int.natAbs_natCast]; exact h.dd) (by have:=den_pos' a; have:=den_pos' b; exact Int.mul_ne_zero (by omega) (by omega))) (by simp only [go_sem,Zao]) ?_
  rw [Ymg]
  simp only [go_sem,Ze0,e2,e3,e4])
 simp only [go_sem,Ze0,Z91,Yay]
 refine Zaa (Zh0 (a:=a.num) (b:=a.den) (den_pos' a)) (by simp only [go_sem]) ?_
 by_cases ha:(a.den:Int)=1
 ·simp only [go_sem,decide_eq_true ha]
  refine Zaa (Zh0 (a:=b.num) (b:=b.den) (den_pos' b)) (by simp only [go_sem]) ?_
  by_cases hb:(b.den:Int)=1
  ·simp only [go_sem,decide_eq_true hb,Z9c]
   refine Zaa (Z8h h.an.l h.bn.l) (by simp only [go_sem,Zao]) ?_
   simp only [go_sem]
   refine Zaa (Z5n (a.num+b.num)) (by simp only [go_sem,Zao]) ?_
   have:avQ (a+b)=avF (a.num+b.num) 1:=by
    have h1:=Yfg.1 ha
    have h2:=Yfg.1 hb
    rw [h1,h2, ← Rat.intCast_add,Yli]; simp
   rw [← Ymy, ← Ze0,this]
   simp only [go_sem]
  ·simp only [go_sem,decide_eq_false hb]
   exact full _ (by simp only [go_sem]) (by simp only [go_sem]) (by simp only [go_sem])
 ·simp only [go_sem,decide_eq_false ha]
  exact full _ (by simp only [go_sem]) (by simp only [go_sem]) (by simp only [go_sem])
end GoAbs
namespace GoAbs
open Go Go.Proofs
theorem Zmm {n k:Nat}(h:n<2 ^ k) (hk:k≤1000000000000):Sz n:=by
 have h1:n<4294967296 ^ (k / 32+1):=by
  have e:(4294967296:Nat)=2 ^ 32:=by decide
  rw [e, ← Nat.pow_mul]
  exact Nat.lt_of_lt_of_le h (Nat.pow_le_pow_right (by omega) (by omega))
 have h2:=Z4n h1
 unfold Sz
 omega
structure Qb (k:Nat) (q:Rat):Prop where
 n:q.num.natAbs<2 ^ k
 d:q.den<2 ^ k
theorem Qb.mono {k l:Nat}{q:Rat}(h:Qb k q) (hkl:k≤l):Qb l q :=
 ⟨Nat.lt_of_lt_of_le h.n (Nat.pow_le_pow_right (by omega) hkl),Nat.lt_of_lt_of_le h.d (Nat.pow_le_pow_right (by omega) hkl)⟩
theorem Zcv {n d:Int}(hd:d≠0):(Rat.divInt n d).num.natAbs≤n.natAbs∧(Rat.divInt n d).den≤d.natAbs:=by
 refine ⟨?_,?_⟩
 ·rw [Rat.num_divInt,Int.natAbs_ediv_of_dvd,Int.natAbs_mul]
  ·have:d.sign.natAbs≤1:=by
    rcases Int.lt_trichotomy d 0 with h | h | h
    ·rw [Int.sign_eq_neg_one_of_neg h]; decide
    ·exact absurd h hd
    ·rw [Int.sign_eq_one_of_pos h]; decide
   refine Nat.le_trans (Nat.div_le_self _ _) ?_
   have:=Nat.mul_le_mul_right n.natAbs this
   omega
  ·exact Int.dvd_mul_of_dvd_right (Int.gcd_dvd_right d n)
 ·rw [Rat.den_divInt,if_neg hd]; exact Nat.div_le_self _ _
theorem Zbz {a b k:Nat}(ha:a<2 ^ k) (hb:b<2 ^ k):a*b<2 ^ (2*k):=by
 rw [show 2*k=k+k by omega,Nat.pow_add]
 exact Nat.mul_lt_mul'' ha hb
theorem Y44 {a b c d:Int}{k:Nat}(ha:a.natAbs<2 ^ k) (hb:b.natAbs<2 ^ k) (hc:c.natAbs<2 ^ k) (hd:d.natAbs<2 ^ k):(a*b+c*d).natAbs<2 ^ (2*k+1):=by
 have h1:=Int.natAbs_add_le (a*b) (c*d)
 rw [Int.natAbs_mul,Int.natAbs_mul] at h1
 have h2:=Zbz ha hb
 have h3:=Zbz hc hd
 rw [Nat.pow_succ]
 omega
theorem Qb.dz {k:Nat}{q:Rat}(h:Qb k q):(q.den:Int).natAbs<2 ^ k:=by rw [Zby]; exact h.d
theorem Qb.add {k:Nat}{a b:Rat}(ha:Qb k a) (hb:Qb k b):Qb (2*k+1) (a+b):=by
 rw [← Ymg]
 have h0:(a.den:Int)*b.den≠0:=by have:=den_pos' a; have:=den_pos' b; exact Int.mul_ne_zero (by omega) (by omega)
 obtain ⟨h1,h2⟩:=Zcv (n:=a.num*b.den+b.num*a.den) h0
 refine ⟨Nat.lt_of_le_of_lt h1 (Y44 ha.n hb.dz hb.n ha.dz),?_⟩
 rw [Int.natAbs_mul] at h2
 have:=Zbz ha.dz hb.dz
 rw [Nat.pow_succ]
 omega
theorem Qb.mul {k:Nat}{a b:Rat}(ha:Qb k a) (hb:Qb k b):Qb (2*k) (a*b):=by
 rw [← Ylz]
 have h0:(a.den:Int)*b.den≠0:=by have:=den_pos' a; have:=den_pos' b; exact Int.mul_ne_zero (by omega) (by omega)
 obtain ⟨h1,h2⟩:=Zcv (n:=a.num*b.num) h0
 rw [Int.natAbs_mul] at h1 h2
 exact ⟨Nat.lt_of_le_of_lt h1 (Zbz ha.n hb.n),Nat.lt_of_le_of_lt h2 (Zbz ha.dz hb.dz)⟩
theorem Qb.div {k:Nat}{a b:Rat}(ha:Qb k a) (hb:Qb k b) (h0:b≠0):Qb (2*k) (a / b):=by
 rw [← Yl9]
 have hn:b.num≠0:=fun h=>h0 (Rat.num_eq_zero.1 h)
 have h0:(a.den:Int)*b.num≠0:=by have:=den_pos' a; exact Int.mul_ne_zero (by omega) hn
 obtain ⟨h1,h2⟩:=Zcv (n:=a.num*b.den) h0
 rw [Int.natAbs_mul] at h1 h2
 exact ⟨Nat.lt_of_le_of_lt h1 (Zbz ha.n hb.dz),Nat.lt_of_le_of_lt h2 (Zbz ha.dz hb.n)⟩
theorem Qb.neg {k:Nat}{a:Rat}(ha:Qb k a):Qb k (-a):=by
 have h1:(-a).num = -a.num:=rfl
 have h2:(-a).den=a.den:=rfl
 exact ⟨by rw [h1,Int.natAbs_neg]; exact ha.n,by rw [h2]; exact ha.d⟩
theorem Qb.sub {k:Nat}{a b:Rat}(ha:Qb k a) (hb:Qb k b):Qb (2*k+1) (a - b):=by
 rw [Rat.sub_eq_add_neg]; exact ha.add hb.neg
theorem Qb.zero {k:Nat}(hk:1≤k):Qb k 0:=by
 have:2 ^ 1≤2 ^ k:=Nat.pow_le_pow_right (by omega) hk
 exact ⟨by show 0<_; omega,by show 1<_; omega⟩
theorem Qb.one {k:Nat}(hk:1≤k):Qb k 1:=by
 have:2 ^ 1≤2 ^ k:=Nat.pow_le_pow_right (by omega) hk
 exact ⟨by show 1<_; omega,by show 1<_; omega⟩
theorem Qb.sz2 {k:Nat}{a b:Rat}(ha:Qb k a) (hb:Qb k b) (hk:2*k+1≤1000000000000):Sz2 a b where
 nd:=Zmm (by rw [Int.natAbs_mul]; exact Zbz ha.n hb.dz) (by omega)
 dn:=Zmm (by rw [Int.natAbs_mul]; exact Zbz hb.n ha.dz) (by omega)
 nn:=Zmm (by rw [Int.natAbs_mul]; exact Zbz ha.n hb.n) (by omega)
 dd:=Zmm (Zbz ha.d hb.d) (by omega)
 sm:=Zmm (Y44 ha.n hb.dz hb.n ha.dz) hk
 an:=Zmm ha.n (by omega)
 bn:=Zmm hb.n (by omega)
 ad:=Zmm ha.d (by omega)
 bd:=Zmm hb.d (by omega)
 si:=Zmm (k:=k+1) (by
  have:=Int.natAbs_add_le a.num b.num
  have:=ha.n
  have:=hb.n
  rw [Nat.pow_succ]; omega) (by omega)
theorem Y4h {a b:Rat}{k:Nat}(ha:Qb k a) (hb:Qb k b) (hk:2*k+1≤1000000000000):SpecV Tryz.prog Yhj [avQ a,avQ b] (avQ (a+b)):=Y7f (ha.sz2 hb hk)
theorem Ywf {a b:Rat}{k:Nat}(ha:Qb k a) (hb:Qb k b) (hk:2*k+1≤1000000000000):SpecV Tryz.prog Yyv [avQ a,avQ b] (avQ (a*b)):=by
 have h:=ha.sz2 hb hk
 refine Zbr Ysx (by simp) (Zen 1 rfl ?_)
 unfold Ynp
 have hm:Tryz.prog.follows .mixedOrders=true:=by kernel_rfl
 have full:∀ (e:Nat→AV),e 2 = .ptr 0 0→e 3 = .ptr 1 0→e 4 = .ptr 2 0→T Tryz.prog 28 0 (.seq (.rg true Zos) .ret) ⟨e,[.cells [.bool (decide (a.num<0)),.sl (u32c (limbs a.num.natAbs)),.bool (decide ((a.den:Int)<0)),.sl (u32c (limbs (a.den:Int).natAbs))],
   .cells [.bool (decide (b.num<0)),.sl (u32c (limbs b.num.natAbs)),.bool (decide ((b.den:Int)<0)),.sl (u32c (limbs (b.den:Int).natAbs))],.cells [.bool false,.nils,.bool false,.nils]]⟩ (retQ [.cell 4 (some 4)] (avQ (a*b))):=fun e e2 e3 e4=>T_W (by
  simp only [go_sem,Zos,e2,e3,e4,hm]
  refine Zaa (Zly (a:=a.num) (b:=b.num) h.an.l h.bn.l) (by simp only [go_sem,Zao]) ?_
  simp only [go_sem,e2,e3,e4]
  refine Zaa (Zly (a:=a.den) (b:=b.den) (by rw [Zby]; exact h.ad.l) (by rw [Zby]; exact h.bd.l)) (by simp only [go_sem,Zao]) ?_
  simp only [go_sem,Zao,e2,e3,e4]
  refine Zaa (Z4l h.nn (by rw [← Int.natCast_mul,Int.natAbs_natCast]; exact h.dd) (by have:=den_pos' a; have:=den_pos' b; exact Int.mul_ne_zero (by omega) (by omega))) (by simp only [go_sem,Zao]) ?_
  rw [Ylz]
  simp only [go_sem,Ze0,e2,e3,e4])
 simp only [go_sem,Ze0,Z9a,Z8p]
 refine Zaa (Zh0 (a:=a.num) (b:=a.den) (den_pos' a)) (by simp only [go_sem]) ?_
 by_cases ha:(a.den:Int)=1
 ·simp only [go_sem,decide_eq_true ha]
  refine Zaa (Zh0 (a:=b.num) (b:=b.den) (den_pos' b)) (by simp only [go_sem]) ?_
  by_cases hb:(b.den:Int)=1
  ·simp only [go_sem,decide_eq_true hb,Z85]
   refine Zaa (Zly h.an.l h.bn.l) (by simp only [go_sem,Zao]) ?_
   simp only [go_sem]
   refine Zaa (Z5n (a.num*b.num)) (by simp only [go_sem,Zao]) ?_
   have:avQ (a*b)=avF (a.num*b.num) 1:=by
    have h1:=Yfg.1 ha
    have h2:=Yfg.1 hb
    rw [h1,h2, ← Rat.intCast_mul,Yli]; simp
   rw [← Ymy, ← Ze0,this]
   simp only [go_sem]
  ·simp only [go_sem,decide_eq_false hb]
   exact full _ (by simp only [go_sem]) (by simp only [go_sem]) (by simp only [go_sem])
 ·simp only [go_sem,decide_eq_false ha]
  exact full _ (by simp only [go_sem]) (by simp only [go_sem]) (by simp only [go_sem])
theorem Xcj (a:Rat):SpecV Tryz.prog Yh7 [avQ a] (avQ (-a)):=Yl8 a.num a.den
theorem Yxm {a b:Rat}{k:Nat}(ha:Qb k a) (hb:Qb k b) (hk:2*k+1≤1000000000000):SpecV Tryz.prog Yzc [avQ a,avQ b] (avQ (a - b)):=by
 refine Zae Yrt (by simp) ?_
 unfold Ypx
 have hm:Tryz.prog.follows .mixedOrders=true:=by kernel_rfl
 simp only [go_sem,Ze0,Yae,Zz7,hm]
 refine Zaa (Xcj b) (by simp only [go_sem,Ze0]) ?_
 simp only [go_sem]
 refine Zaa (Y4h ha hb.neg hk) (by simp only [go_sem,Ze0]) ?_
 rw [Rat.sub_eq_add_neg]
 simp only [go_sem,Ze0]
theorem Y10 {a b:Rat}{k:Nat}(ha:Qb k a) (hb:Qb k b) (h0:b≠0) (hk:2*k+1≤1000000000000):SpecV Tryz.prog Yv0 [avQ a,avQ b] (avQ (a / b)):=by
 have h:=ha.sz2 hb hk
 have hn:b.num≠0:=fun h=>h0 (Rat.num_eq_zero.1 h)
 refine Zae Yrw (by simp) ?_
 unfold Yp1
 have hm:Tryz.prog.follows .mixedOrders=true:=by kernel_rfl
 simp only [go_sem,Ze0,Z8t,Z0d,hm]
 refine Zaa (Zly (a:=a.num) (b:=b.den) h.an.l (by rw [Zby]; exact h.bd.l)) (by simp only [go_sem,Zao]) ?_
 simp only [go_sem]
 refine Zaa (Zly (a:=a.den) (b:=b.num) (by rw [Zby]; exact h.ad.l) h.bn.l) (by simp only [go_sem,Zao]) ?_
 simp only [go_sem,Zao]
 refine Zaa (Z4l (n:=a.num*b.den) (d:=a.den*b.num) h.nd (by rw [Int.mul_comm]; exact h.dn) (by have:=den_pos' a; exact Int.mul_ne_zero (by omega) hn)) (by simp only [go_sem,Zao]) ?_
 rw [Yl9]
 simp only [go_sem,Ze0]
theorem Yjr (a:Rat):SpecV Tryz.prog Yed [avQ a] (.int .i64 (if a=0 then 0 else if a<0 then -1 else 1)):=by
 have:=Yi6 a.num a.den
 have e1:(a.num=0)=(a=0):=propext Rat.num_eq_zero
 have e2:(a.num<0)=(a<0):=propext (by rw [Rat.lt_iff]; simp)
 simp only [e1,e2] at this
 exact this
theorem Ygc {z:Int}(h1 : -9223372036854775808≤z) (h2:z≤9223372036854775807):SpecV Tryz.prog Zqa [.int .i64 z] (avQ (z:Rat)):=by
 rw [Yli]; exact Yqs h1 h2
theorem Yd5:SpecV Tryz.prog Zqa [.int .i64 0] (avQ 0):=Ygc (z:=0) (by omega) (by omega)
theorem Y37:SpecV Tryz.prog Zqa [.int .i64 1] (avQ 1):=Ygc (z:=1) (by omega) (by omega)
end GoAbs
namespace GoAbs
open Go Go.Proofs
def swp (L:List AV) (k:Nat):List AV:=(List.range L.length).map fun x=>if x<k∨L.length - k≤x then L.getD (L.length - 1 - x) .any else L.getD x .any
theorem Zjw (L:List AV) (k:Nat):(swp L k).length=L.length:=by simp [swp]
theorem Z4d {L:List AV}{k x:Nat}(h:x<L.length):(swp L k)[x]? = some (if x<k∨L.length - k≤x then L.getD (L.length - 1 - x) .any else L.getD x .any):=by
 simp [swp,h]
theorem Z8e {L:List AV}{x:Nat}(h:x<L.length):L[x]? = some (L.getD x .any):=by
 rw [List.getD_eq_getElem?_getD,List.getElem?_eq_getElem h]; rfl
theorem Y3y (L:List AV):swp L 0=L:=by
 apply List.ext_getElem?
 intro x
 by_cases h:x<L.length
 ·rw [Z4d h,if_neg (by omega),Z8e h]
 ·rw [List.getElem?_eq_none (by rw [Zjw]; omega),List.getElem?_eq_none (by omega)]
theorem Y8x {L:List AV}{k:Nat}(h:L.length≤2*k+1):swp L k=L.reverse:=by
 apply List.ext_getElem?
 intro x
 by_cases hx:x<L.length
 ·rw [Z4d hx,List.getElem?_reverse hx,Z8e (by omega)]
  congr 1
  by_cases h1:x<k∨L.length - k≤x
  ·rw [if_pos h1]
  ·rw [if_neg h1]
   have:L.length - 1 - x=x:=by omega
   rw [this]
 ·rw [List.getElem?_eq_none (by rw [Zjw]; omega),List.getElem?_eq_none (by simp; omega)]
theorem Y1x {L:List AV}{k:Nat}(h:2*k+1<L.length):((swp L k).set k (L.getD (L.length - 1 - k) .any)).set (L.length - 1 - k) (L.getD k .any)=swp L (k+1):=by
 apply List.ext_getElem?
 intro x
 by_cases hx:x<L.length
 ·rw [Z4d hx]
  by_cases h1:x=L.length - 1 - k
  ·subst h1
   rw [List.getElem?_set_self (by rw [List.length_set,Zjw]; omega),if_pos (by omega)]
   congr 2; omega
  ·rw [List.getElem?_set_ne (by omega)]
   by_cases h2:x=k
   ·subst h2
    rw [List.getElem?_set_self (by rw [Zjw]; omega),if_pos (by omega)]
   ·rw [List.getElem?_set_ne (by omega),Z4d hx]
    by_cases h3:x<k∨L.length - k≤x
    ·rw [if_pos h3,if_pos (by omega)]
    ·rw [if_neg h3,if_neg (by omega)]
 ·rw [List.getElem?_eq_none (by rw [List.length_set,List.length_set,Zjw]; omega),List.getElem?_eq_none (by rw [Zjw]; omega)]
def Plain (L:List AV):Prop:=∀ x,x∈L→x.known∧x.cells = [x]
theorem Yi7 {H:Heap}{b n:Nat}{L:List AV}(hH:H[b]? = some (.cells L)) (hn:L.length=n) (hp:Plain L) (hnl:n≤1099511627776) :
  SpecR Tryz.prog Z7z H [.osl none b 0 n] (.tup []) (H.set b (.cells L.reverse)):=by
 have hb:b<H.length:=(List.getElem?_eq_some_iff.1 hH).1
 have hm:Tryz.prog.follows .mixedOrders=true:=by kernel_rfl
 have hself:H=H.set b (.cells (swp L 0)):=by
  rw [Y3y]
  apply List.ext_getElem?
  intro i
  by_cases h:b=i
  ·subst h; rw [List.getElem?_set_self hb,hH]
  ·rw [List.getElem?_set_ne h]
 refine Zpn Z3y (by simp) ?_
 unfold Zu8
 have e0:IntKind.i64.wrap ((n:Int) - 1)=(n:Int) - 1:=by rw [Zac (by omega) (by omega)]
 simp only [go_sem,Zlv,e0]
 refine Zag (fun k:Nat=>⟨envL [(0,.osl none b 0 n),(2,.int .i64 (k:Int)),(3,.int .i64 ((n:Int) - 1 - k))],H.set b (.cells (swp L k))⟩)
  (fun k=>2*k≤n) (fun k=>n - k) 0 (by simp) (by rw [← hself]; exact Zab _ (by simp only [go_sem]; simp)) (fun k hk N hN=>?_)
 unfold Zl1
 by_cases hlt:2*k+1<n
 ·have hki:(k:Int)<(n:Int) - 1 - k:=by omega
  have ej:((n:Int) - 1 - k)=((n - 1 - k:Nat):Int):=by omega
  rw [ej]
  have hki':(k:Int)<((n - 1 - k:Nat):Int):=by omega
  have p1:(0:Int)≤(k:Int):=by omega
  have p2:(0:Int)≤((n - 1 - k:Nat):Int):=by omega
  have p3:(k:Int)<(n:Int):=by omega
  have p4:((n - 1 - k:Nat):Int)<(n:Int):=by omega
  have e1:IntKind.i64.wrap ((k:Int)+1)=((k+1:Nat):Int):=by rw [Zac (by omega) (by omega)]; omega
  have e2:IntKind.i64.wrap (((n - 1 - k:Nat):Int) - 1)=(n:Int) - 1 - ((k+1:Nat):Int):=by rw [Zac (by omega) (by omega)]; omega
  have g1:(swp L k)[k]? = some (L.getD k .any):=by rw [Z4d (by omega),if_neg (by omega)]
  have g2:(swp L k)[n - 1 - k]? = some (L.getD (n - 1 - k) .any):=by rw [Z4d (by omega),if_neg (by omega)]
  have hx:=hp _ (List.mem_of_getElem? (Z8e (L:=L) (x:=k) (by omega)))
  have hy:=hp _ (List.mem_of_getElem? (Z8e (L:=L) (x:=n - 1 - k) (by omega)))
  have hs:=Y1x (L:=L) (k:=k) (by omega)
  rw [hn] at hs
  generalize L.getD k .any=x at *
  generalize L.getD (n - 1 - k) .any=y at *
  have hbs:∀ bl:Blk,(H.set b bl)[b]? = some bl:=fun bl=>List.getElem?_set_self hb
  have kx:∀ {C:Prop},knownC x C=C:=fun {C}=>by simp [knownC,hx.1]
  have ky:∀ {C:Prop},knownC y C=C:=fun {C}=>by simp [knownC,hy.1]
  have hl1:∀ z w:AV,k+1≤(swp L k).length:=fun _ _=>by rw [Zjw]; omega
  simp only [go_sem,Ze7,Zft,Zfj,hki',hm,p1,p2,p3,p4,hbs,List.getElem?_drop,g1,g2,List.length_set,hb,kx,ky,hx.2,hy.2]
  refine ⟨by rw [Zjw]; omega,?_⟩
  rw [Za5 (by rw [Zjw]; omega),List.set_set]
  simp only [go_sem,hbs,Zfj,e1,e2,hx.2]
  refine ⟨by rw [List.length_set,Zjw]; omega,?_⟩
  rw [Za5 (by rw [List.length_set,Zjw]; omega),List.set_set,hs]
  exact hN (k+1) _ (by omega) (by omega) (Zab _ (by simp only [go_sem]))
 ·have hki:¬ (k:Int)<(n:Int) - 1 - k:=by omega
  simp only [go_sem,Ze7,hki]
  rw [Y8x (by omega)]
end GoAbs
namespace GoAbs
open Go Go.Proofs
def digs (n:Nat):List UInt8:=if h:n=0 then [] else UInt8.ofNat (48+n % 10)::digs (n / 10)
 termination_by n
 decreasing_by omega
theorem Zfc:digs 0 = []:=by unfold digs; simp
theorem Zfg {n:Nat}(h:n≠0):digs n=UInt8.ofNat (48+n % 10)::digs (n / 10):=by rw [digs]; simp [h]
theorem Yfe:∀ {k n:Nat},n<10 ^ k→(digs n).length≤k
 | 0,n,h=>by
  have:n=0:=by simpa using h
  subst this; simp [Zfc]
 | k+1,n,h=>by
  by_cases h0:n=0
  ·subst h0; simp [Zfc]
  ·rw [Zfg h0,List.length_cons]
   have:(digs (n / 10)).length≤k:=Yfe (by rw [Nat.div_lt_iff_lt_mul (by omega), ← Nat.pow_succ]; exact h)
   omega
def decL (n:Nat):List UInt8:=if n=0 then [48] else (digs n).reverse
def decB (n:Nat):ByteArray:=⟨(decL n).toArray⟩
def byc (l:List UInt8):List AV:=l.map fun b=>AV.int .u8 (b.toNat:Int)
theorem Z4k (l:List UInt8):(byc l).length=l.length:=by simp [byc]
theorem Yrm {l r:List UInt8}:byc (l++r)=byc l++byc r:=by simp [byc]
theorem Yyz (l:List UInt8):Plain (byc l):=fun x hx=>by
 obtain ⟨b,_,rfl⟩:=List.mem_map.1 hx
 exact ⟨trivial,rfl⟩
theorem Yl5 (l:List UInt8):(byc l).reverse=byc l.reverse:=by simp [byc]
def Tx (n:Nat):Prop:=lenN n≤10000000000
theorem Ysy {n k:Nat}(h:n<4294967296 ^ k):(digs n).length≤10*k:=by
 refine Yfe (Nat.lt_of_lt_of_le h ?_)
 rw [Nat.pow_mul]
 exact Nat.pow_le_pow_left (by decide) _
theorem Tx.len {n:Nat}(h:Tx n):(digs n).length≤100000000000:=by
 have:=Ysy (Z0h n)
 unfold Tx at h
 omega
theorem Tx.mono {m n:Nat}(h:Tx n) (hm:m≤n):Tx m:=Nat.le_trans (Zni hm) h
theorem Yrx (r:Nat):∃ d:UInt8,d=UInt8.ofNat (48+r % 10)∧(d.toNat:Int)=48+(r % 10:Nat):=by
 refine ⟨_,rfl,?_⟩
 have:r % 10<10:=Nat.mod_lt _ (by omega)
 rw [UInt8.toNat_ofNat']
 have:(48+r % 10) % 2 ^ 8=48+r % 10:=Nat.mod_eq_of_lt (by omega)
 omega
theorem Y0u {x:Int}(h1:0≤x) (h2:x≤255):IntKind.u8.wrap x=x:=by
 rw [IntKind.wrap_u8]; omega
theorem Yre {n q r:Nat}{l:List UInt8}(hn:(digs n).length≤100000000000) (hr:r<1000000000) (hl:l++digs (q*10 ^ 9+r)=digs n) {X:AV}(hX:X.gc (pos [2])=X) {K:Ex→St→Prop}
  (hK:∀ l' e,l'++digs q=digs n→e 0=X→e 3 = .osl none 0 0 l'.length→e 4 = .sl (u32c (limbs q))→K (.exit 2) ⟨e,[.cells (byc l')]⟩) :
  T Tryz.prog 45 0 (.loop Zt9) ⟨envL [(0,X),(3,.osl none 0 0 l.length),(4,.sl (u32c (limbs q))),(5,.int .u32 (r:Int)),(6,.int .i64 0)],[.cells (byc l)]⟩ K:=by
 refine Zag (fun z:Nat×Nat×List UInt8=>⟨envL [(0,X),(3,.osl none 0 0 z.2.2.length),(4,.sl (u32c (limbs q))),(5,.int .u32 (z.2.1:Int)),(6,.int .i64 (z.1:Int))],[.cells (byc z.2.2)]⟩)
  (fun z=>z.1≤9∧z.2.1<10 ^ (9 - z.1)∧z.2.2++digs (q*10 ^ (9 - z.1)+z.2.1)=digs n) (fun z=>9 - z.1) (0,r,l) ⟨by simp,hr,hl⟩ (Zab _ (by simp only [go_sem]; simp)) (fun z hI N hN=>?_)
 obtain ⟨i,r1,l1⟩:=z
 obtain ⟨h1,h2,h3⟩:=hI
 simp only at h1 h2 h3 ⊢
 unfold Zt9
 by_cases hi:i<9
 ·have pi:(i:Int)<9:=by omega
  have hpow:(10:Nat) ^ (9 - i)=10 ^ (9 - (i+1))*10:=by rw [← Nat.pow_succ]; congr 1; omega
  have hple:(10:Nat) ^ (9 - i)≤10 ^ 9:=Nat.pow_le_pow_right (by omega) (by omega)
  by_cases hz:q=0∧r1=0
  ·obtain ⟨rfl,rfl⟩:=hz
   have p1:¬ (0:Int)<((0:Nat):Int):=by omega
   simp only [go_sem,Zld,pi,Zas,Zg5,p1]
   rw [Nat.zero_mul] at h3
   exact hK l1 _ h3 (by simp only [go_sem]) (by simp only [go_sem]) (by simp only [go_sem,Zas,Zg5])
  ·have hpos:q*10 ^ (9 - i)+r1≠0:=by
    intro h
    apply hz
    have h4:q*10 ^ (9 - i)=0:=by omega
    rcases Nat.mul_eq_zero.1 h4 with h5 | h5
    ·exact ⟨h5,by omega⟩
    ·have:=Nat.pow_pos (n:=9 - i) (show 0<10 by omega); omega
   have hmod:(q*10 ^ (9 - i)+r1) % 10=r1 % 10:=by rw [hpow, ← Nat.mul_assoc,Nat.add_comm,Nat.add_mul_mod_self_right]
   have hdiv:(q*10 ^ (9 - i)+r1) / 10=q*10 ^ (9 - (i+1))+r1 / 10:=by rw [hpow, ← Nat.mul_assoc,Nat.add_comm,Nat.add_mul_div_right _ _ (by omega)]; omega
   rw [Zfg hpos,hmod,hdiv] at h3
   obtain ⟨d,hd,hdn⟩:=Yrx r1
   rw [← hd] at h3
   have hlen:l1.length+1≤100000000000:=by
    have:=congrArg List.length h3
    simp at this; omega
   have e1:((r1:Nat):Int).tmod 10=((r1 % 10:Nat):Int):=Zwg (b:=10)
   have e2:IntKind.u32.wrap (48+((r1 % 10:Nat):Int))=(d.toNat:Int):=by rw [Zf0 (by omega) (by omega)]; omega
   have e3:IntKind.u8.wrap (d.toNat:Int)=(d.toNat:Int):=Y0u (by omega) (by have:=d.toNat_lt; omega)
   have e4:IntKind.u32.wrap (((r1:Nat):Int).tdiv 10)=((r1 / 10:Nat):Int):=by
    have:((r1:Nat):Int).tdiv 10=((r1 / 10:Nat):Int):=(Int.ofNat_tdiv r1 10).symm
    rw [this,Zf0 (by omega) (by omega)]
   have e5:IntKind.i64.wrap ((i:Int)+1)=((i+1:Nat):Int):=by rw [Zac (by omega) (by omega)]; omega
   have p10:¬ (10:Int)=0:=by omega
   have hsz:(l1.length+1)*1≤1099511627776:=by omega
   have hfit:0+l1.length*1≤(byc l1).length:=by rw [Z4k]; omega
   have done:∀ e:Nat→AV,e 0=X→e 3 = .osl none 2 0 (l1.length+1)→e 4 = .sl (u32c (limbs q))→e 5 = .int .u32 ((r1 / 10:Nat):Int)→e 6 = .int .i64 ((i+1:Nat):Int) →
     N ⟨e,[.dead,.cells [.int .u8 (d.toNat:Int)],.cells (byc l1 ++ [.int .u8 (d.toNat:Int)])]⟩:=fun e q0 q3 q4 q5 q6=>by
    refine hN (i+1,r1 / 10,l1 ++ [d]) _ ⟨hi,?_,by simpa using h3⟩ (by show 9 - (i+1)<9 - i; omega) ?_
    ·simp only
     rw [Nat.div_lt_iff_lt_mul (by omega), ← hpow]; exact h2
    ·refine Zdp (Zii [2] (by simp) (fun i hi=>by omega) [(0,X),(3,.osl none 2 0 (l1.length+1)),(4,.sl (u32c (limbs q))),(5,.int .u32 ((r1 / 10:Nat):Int)),(6,.int .i64 ((i+1:Nat):Int))] ⟨q0,q3,q4,q5,q6,trivial⟩) ?_
     have hg:gcL (pos [2]) (byc l1 ++ [.int .u8 (d.toNat:Int)])=byc (l1 ++ [d]):=by
      rw [Zaz,Yrm,List.map_append]
      congr 1
      unfold byc
      rw [List.map_map]
      rfl
     have hp2:pos [2] 2=some 0:=rfl
     simp only [List.map_cons,List.map_nil,List.getD_cons_succ,List.getD_cons_zero,Blk.gc,hg,AV.gc,hp2,List.length_append,List.length_singleton,hX]
   simp only [go_sem,Zld,Z69,Z1r,Z1x,pi,p10,e1,e2,e3,e4,e5,hsz,hfit]
   have hl1:l1.length≤(byc l1).length:=by rw [Z4k]; omega
   have htake:(byc l1).take l1.length=byc l1:=List.take_of_length_le (by rw [Z4k]; omega)
   rw [htake]
   refine ⟨fun h=>⟨by omega,hl1,done _ (by simp only [go_sem]) (by simp only [go_sem]) (by simp only [go_sem]) (by simp only [go_sem]) (by simp only [go_sem])⟩,fun h=>⟨fun h2=>⟨by omega,hl1,done _ (by simp only [go_sem]) (by simp only [go_sem]) (by simp only [go_sem]) (by simp only [go_sem]) (by simp only [go_sem])⟩,fun h2=>?_⟩⟩
   exfalso
   apply hz
   rw [Zad,Zc9] at h
   exact ⟨Classical.byContradiction h,by omega⟩
 ·have hi9:i=9:=by omega
  subst hi9
  have pi:¬ ((9:Nat):Int)<9:=by omega
  simp only [go_sem,Zld,pi]
  have hr0:r1=0:=by simpa using h2
  subst hr0
  simp only [Nat.sub_self,Nat.pow_zero,Nat.mul_one,Nat.add_zero] at h3
  exact hK l1 _ h3 (by simp only [go_sem]) (by simp only [go_sem]) (by simp only [go_sem])
theorem Yuj {n:Nat}(hn:Tx n) {K:Ex→St→Prop}
  (hK:∀ l e,l=digs n→e 3 = .osl none 0 0 l.length→K (.exit 0) ⟨e,[.cells (byc l)]⟩) :
  T Tryz.prog 45 0 (.loop Zuo) ⟨envL [(3,.osl none 0 0 0),(0,.sl (u32c (limbs n)))],[.cells []]⟩ K:=by
 refine Zag (fun z:Nat×List UInt8=>⟨envL [(3,.osl none 0 0 z.2.length),(0,.sl (u32c (limbs z.1)))],[.cells (byc z.2)]⟩)
  (fun z=>Tx z.1∧z.2++digs z.1=digs n) (fun z=>z.1) (n,[]) ⟨hn,rfl⟩ (Zab _ (by simp only [go_sem])) (fun z hI N hN=>?_)
 obtain ⟨m,l⟩:=z
 obtain ⟨h1,h2⟩:=hI
 simp only at h1 h2 ⊢
 unfold Zuo
 by_cases hm:m=0
 ·subst hm
  have p1:¬ (0:Int)<((0:Nat):Int):=by omega
  simp only [go_sem,Zv0,Zas,Zg5,p1]
  rw [Zfc,List.append_nil] at h2
  exact hK l _ h2 (by simp only [go_sem])
 ·have p1:=(Zc9 (n:=m)).2 hm
  simp only [go_sem,Zv0,Z5b,Z5y,Zad,p1]
  refine Zaa (Z82 (w:=1000000000) (Zbj m) (Nat.le_trans h1 (by omega)) (by omega) (by omega)) (by simp only [go_sem]) ?_
  rw [Zay]
  simp only [go_sem]
  have hdm:m / 1000000000*10 ^ 9+m % 1000000000=m:=by rw [show (10:Nat) ^ 9=1000000000 from rfl,Nat.mul_comm]; exact Nat.div_add_mod _ _
  refine Za2 [(0,.sl (u32c (limbs m))),(3,.osl none 0 0 l.length),(4,.sl (u32c (limbs (m / 1000000000)))),(5,.int .u32 ((m % 1000000000:Nat):Int)),(6,.int .i64 0)] (by simp only [go_sem])
   (Yre (n:=n) hn.len (Nat.mod_lt _ (by omega)) (by rw [hdm]; exact h2) rfl (fun l' e k1 k2 k3 k4=>?_))
  simp only [go_sem,Z1h,k4]
  exact hN (m / 1000000000,l') _ ⟨h1.mono (Nat.div_le_self _ _),k1⟩ (Nat.div_lt_self (by omega) (by omega)) (Zab _ (by simp only [go_sem,k3]))
theorem Z2h {n:Nat}(hn:Tx n):SpecV Tryz.prog Yrq [.sl (u32c (limbs n))] (.str (decB n)):=by
 refine Zbr Yng (by simp) (Zen 2 rfl ?_)
 unfold Yhl
 by_cases h0:n=0
 ·subst h0
  have p1:((0:Nat):Int)=0:=rfl
  simp only [go_sem,Zvw,Zty,Z5x,Zas,Zg5,p1]
  rfl
 ·have p1:¬ ((limbs n).length:Int)=0:=by have:=(Zc9 (n:=n)).2 h0; omega
  simp only [go_sem,Zvw,Zty,Z6b,Zad,p1]
  refine T_le (Z3z 3 none (by simp only [go_sem]) [(0,.sl (u32c (limbs n)))] (by simp only [go_sem])) (T_W ?_)
  simp only [go_sem]
  refine Yuj hn (fun l e k1 k2=>?_)
  have hlen:l.length≤100000000000:=by rw [k1]; exact hn.len
  simp only [go_sem,Z1k,k2]
  refine Zi0 (Yi7 (H := [.cells (byc l)]) rfl (Z4k l) (Yyz l) (by omega)) ?_
  simp only [go_sem,Z1a,k2]
  have hl0:l.length≠0:=by
   rw [k1,Zfg h0]; simp
  refine ⟨fun h=>absurd h hl0,fun _=>⟨by rw [List.length_reverse,Z4k]; omega,l.reverse,?_,?_⟩⟩
  ·rw [List.take_of_length_le (by rw [List.length_reverse,Z4k]; omega),Yl5]; rfl
  ·show _=_
   rw [decB,decL,if_neg h0,k1]
end GoAbs
namespace GoAbs
open Go Go.Proofs
def bs (l:List UInt8):ByteArray:=⟨l.toArray⟩
theorem Zaq (l:List UInt8):(bs l).size=l.length:=by simp [bs,ByteArray.size]
theorem Zeu (l:List UInt8) (i:Nat):(bs l)[i]? = l[i]?:=by
 by_cases h:i<l.length
 ·rw [getElem?_pos (bs l) i (by rw [Zaq]; exact h),List.getElem?_eq_getElem h]
  rfl
 ·rw [getElem?_neg (bs l) i (by rw [Zaq]; exact h),List.getElem?_eq_none (by omega)]
theorem bs_inj {l r:List UInt8}:bs l=bs r↔l=r:=by
 constructor
 ·intro h
  have:=congrArg (fun b=>b.data.toList) h
  simpa [bs] using this
 ·intro h; rw [h]
theorem Zep (l:List UInt8) (a b:Nat):(bs l).extract a b=bs ((l.take b).drop a):=by
 apply ByteArray.ext
 simp only [ByteArray.data_extract,bs]
 apply Array.ext'
 simp [List.drop_take]
theorem Zjj (l r:List UInt8):bs l++bs r=bs (l++r):=by
 apply ByteArray.ext
 simp [bs]
theorem Xdw (s:ByteArray):∃ l,s=bs l:=⟨s.data.toList,by simp [bs]⟩
theorem Yfo (n:Nat):decB n=bs (decL n):=rfl
def isDig (c:UInt8):Prop:=48≤c.toNat∧c.toNat≤57
instance (c:UInt8):Decidable (isDig c):=by unfold isDig; infer_instance
def numL (l:List UInt8):Nat:=l.foldl (fun a c=>10*a+(c.toNat - 48)) 0
theorem Ytd (l:List UInt8):∀ a:Nat,l.foldl (fun a c=>10*a+(c.toNat - 48)) a=a*10 ^ l.length+numL l:=by
 unfold numL
 induction l with
 | nil=>intro a; simp
 | cons c l ih =>
  intro a
  simp only [List.foldl_cons,List.length_cons]
  rw [ih (10*a+(c.toNat - 48)),ih (10*0+(c.toNat - 48)),Nat.pow_succ]
  generalize (10:Nat) ^ l.length=p
  generalize c.toNat - 48=d
  grind
theorem Zgo (l r:List UInt8):numL (l++r)=numL l*10 ^ r.length+numL r:=by
 have:numL (l++r)=r.foldl (fun a c=>10*a+(c.toNat - 48)) (numL l):=by simp [numL,List.foldl_append]
 rw [this,Ytd]
theorem Zsa (l:List UInt8) (c:UInt8):numL (l ++ [c])=10*numL l+(c.toNat - 48):=by
 rw [Zgo]; simp [numL]; omega
theorem Zol {l:List UInt8}(h:∀ c,c∈l→isDig c):numL l<10 ^ l.length:=by
 have main:∀ l:List UInt8,(∀ c,c∈l.reverse→isDig c)→numL l.reverse<10 ^ l.length:=by
  intro l
  induction l with
  | nil=>intro _; simp [numL]
  | cons c l ih =>
   intro h
   rw [List.reverse_cons] at h ⊢
   have h1:=ih (fun d hd=>h d (by simp at hd ⊢; exact .inl hd))
   have h2:=h c (by simp)
   rw [Zsa,List.length_cons,Nat.pow_succ]
   unfold isDig at h2
   omega
 have:=main l.reverse (by simpa using h)
 simpa using this
def digOk (l:List UInt8):Prop:=(∀ c,c∈l→isDig c)∧l ≠ []∧¬ (l.head? = some 48∧1<l.length)∧l.length≤4000
instance (l:List UInt8):Decidable (digOk l):=by unfold digOk; infer_instance
theorem Yg3 {n k:Nat}(h:n<10 ^ k):lenN n≤k:=Z4n (Nat.lt_of_lt_of_le h (Nat.pow_le_pow_left (by decide) _))
theorem Ysa {l:List UInt8}{k:Nat}(hd:∀ c,c∈l→isDig c) (hk:k≤9) (hkl:k≤l.length) {X:AV}{K:Ex→St→Prop}
  (hK:∀ e,e 0 = .str (bs l)→e 5=X→e 6 = .int .i64 (k:Int)→e 7 = .int .u32 ((numL (l.take k):Nat):Int)→e 8 = .int .u32 ((10 ^ k:Nat):Int)→K (.exit 4) ⟨e,[]⟩) :
  T Tryz.prog 77 0 (.loop Zsu) ⟨envL [(0,.str (bs l)),(5,X),(6,.int .i64 (k:Int)),(7,.int .u32 0),(8,.int .u32 1),(50,.int .i64 (k:Int)),(51,.int .i64 0)],[]⟩ K:=by
 refine Zag (fun i:Nat=>⟨envL [(0,.str (bs l)),(5,X),(6,.int .i64 (k:Int)),(7,.int .u32 ((numL (l.take i):Nat):Int)),(8,.int .u32 ((10 ^ i:Nat):Int)),(50,.int .i64 (k:Int)),(51,.int .i64 (i:Int))],[]⟩)
  (fun i=>i≤k) (fun i=>k - i) 0 (by simp) (Zab _ (by simp only [go_sem]; simp [numL])) (fun i hi N hN=>?_)
 unfold Zsu
 by_cases hik:i<k
 ·have gi:=List.getElem?_eq_getElem (show i<l.length by omega)
  generalize l[i]'(by omega)=c at gi
  have hc:=hd c (List.mem_of_getElem? gi)
  obtain ⟨hc1,hc2⟩:=hc
  have hlt:numL (l.take i)<10 ^ i:=by
   have:=Zol (l:=l.take i) (fun c hc=>hd c (List.mem_of_mem_take hc))
   rwa [List.length_take,Nat.min_eq_left (by omega)] at this
  have hpow:(10:Nat) ^ i≤10 ^ 8:=Nat.pow_le_pow_right (by omega) (by omega)
  have htake:l.take (i+1)=l.take i ++ [c]:=by rw [List.take_add_one,gi]; rfl
  have p1:(i:Int)<(k:Int):=by omega
  have p2:(0:Int)≤(i:Int):=by omega
  have e1:IntKind.u8.wrap ((c.toNat:Int) - 48)=((c.toNat - 48:Nat):Int):=by rw [Y0u (by omega) (by omega)]; omega
  have e2:IntKind.u32.wrap ((c.toNat - 48:Nat):Int)=((c.toNat - 48:Nat):Int):=Zf0 (by omega) (by omega)
  have e3:IntKind.u32.wrap (10*((numL (l.take i):Nat):Int))=((10*numL (l.take i):Nat):Int):=by rw [Zf0 (by omega) (by omega)]; omega
  have e4:IntKind.u32.wrap (((10*numL (l.take i):Nat):Int)+((c.toNat - 48:Nat):Int))=((numL (l.take (i+1)):Nat):Int):=by
   rw [htake,Zsa,Zf0 (by omega) (by omega)]; omega
  have e5:IntKind.u32.wrap (10*((10 ^ i:Nat):Int))=((10 ^ (i+1):Nat):Int):=by
   rw [Nat.pow_succ,Zf0 (by omega) (by omega)]; omega
  have e6:IntKind.i64.wrap ((i:Int)+1)=((i+1:Nat):Int):=by rw [Zac (by omega) (by omega)]; omega
  simp only [go_sem,Zp7,Z3f,Z1m,Z08,p1,p2,Zeu,gi,e1,e2,e3,e4,e5,e6]
  exact hN (i+1) _ (by omega) (by omega) (Zab _ (by simp only [go_sem]))
 ·have hi':i=k:=by omega
  subst hi'
  have p1:¬ (i:Int)<(i:Int):=by omega
  simp only [go_sem,Zp7,p1]
  exact hK _ (by simp only [go_sem]) (by simp only [go_sem]) (by simp only [go_sem]) (by simp only [go_sem]) (by simp only [go_sem])
theorem Yv7 {l:List UInt8}(hd:∀ c,c∈l→isDig c) (hl:l.length≤4000) {K:Ex→St→Prop}
  (hK:∀ e,e 5 = .sl (u32c (limbs (numL l)))→K (.exit 2) ⟨e,[]⟩) :
  T Tryz.prog 77 0 (.loop Zlj) ⟨envL [(0,.str (bs l)),(5,.sl [])],[]⟩ K:=by
 refine Zag (fun z:Nat×List UInt8=>⟨envL [(0,.str (bs z.2)),(5,.sl (u32c (limbs z.1)))],[]⟩)
  (fun z=>(∀ c,c∈z.2→isDig c)∧z.2.length≤4000∧z.1*10 ^ z.2.length+numL z.2=numL l) (fun z=>z.2.length) (0,l) ⟨hd,hl,by simp⟩ (Zab _ (by simp only [go_sem,Zas,Zg5])) (fun z hI N hN=>?_)
 obtain ⟨X,r⟩:=z
 obtain ⟨h1,h2,h3⟩:=hI
 simp only at h1 h2 h3 ⊢
 unfold Zlj
 by_cases hr:r = []
 ·subst hr
  have p1:¬ (bs []≠(⟨#[]⟩:ByteArray)):=fun h=>h rfl
  simp only [go_sem,Zo2,p1]
  simp only [List.length_nil,Nat.pow_zero,Nat.mul_one] at h3
  have:X=numL l:=by simpa [numL] using h3
  refine hK _ ?_
  rw [← this]; simp only [go_sem]
 ·have p1:bs r≠(⟨#[]⟩:ByteArray):=fun h=>hr (bs_inj.1 h)
  have hlen:0<r.length:=List.length_pos_iff.2 hr
  obtain ⟨k,hk⟩:∃ k,k=(r.length - 1) % 9+1:=⟨_,rfl⟩
  have hk9:k≤9:=by omega
  have hkl:k≤r.length:=by omega
  have e1:IntKind.i64.wrap ((r.length:Int) - 1)=((r.length - 1:Nat):Int):=by rw [Zac (by omega) (by omega)]; omega
  have e2:((r.length - 1:Nat):Int).tmod 9=(((r.length - 1) % 9:Nat):Int):=Zwg (b:=9)
  have e3:IntKind.i64.wrap ((((r.length - 1) % 9:Nat):Int)+1)=(k:Int):=by rw [Zac (by omega) (by omega)]; omega
  have p9:¬ (9:Int)=0:=by omega
  simp only [go_sem,Zo2,Z2p,Z1f,Z09,p1,p9,Zaq,e1,e2,e3]
  refine Za2 [(0,.str (bs r)),(5,.sl (u32c (limbs X))),(6,.int .i64 (k:Int)),(7,.int .u32 0),(8,.int .u32 1),(50,.int .i64 (k:Int)),(51,.int .i64 0)] (by simp only [go_sem])
   (Ysa h1 hk9 hkl (fun e k0 k5 k6 k7 k8=>?_))
  have hXk:X*10 ^ k+numL (r.take k)≤numL l:=by
   have h4:numL r=numL (r.take k)*10 ^ (r.drop k).length+numL (r.drop k):=by rw [← Zgo,List.take_append_drop]
   have h5:r.length=k+(r.drop k).length:=by rw [List.length_drop]; omega
   rw [h4,h5,Nat.pow_add, ← Nat.mul_assoc] at h3
   have h6:1≤10 ^ (r.drop k).length:=Nat.pow_pos (by omega)
   have h7:(X*10 ^ k+numL (r.take k))*1≤(X*10 ^ k+numL (r.take k))*10 ^ (r.drop k).length:=Nat.mul_le_mul_left _ h6
   rw [Nat.add_mul _ _ (10 ^ (r.drop k).length)] at h7
   omega
  have hlim:numL l<10 ^ l.length:=Zol hd
  have hsz:∀ m,m≤numL l→lenN m≤4000:=fun m hm=>Nat.le_trans (Yg3 (Nat.lt_of_le_of_lt hm hlim)) hl
  have hX:lenN X≤4000:=by
   refine hsz X (Nat.le_trans ?_ hXk)
   have:X*1≤X*10 ^ k:=Nat.mul_le_mul_left _ (Nat.pow_pos (by omega))
   omega
  have hp9:(10:Nat) ^ k≤10 ^ 9:=Nat.pow_le_pow_right (by omega) hk9
  have hv9:numL (r.take k)<10 ^ k:=by
   have:=Zol (l:=r.take k) (fun c hc=>h1 c (List.mem_of_mem_take hc))
   rwa [List.length_take,Nat.min_eq_left hkl] at this
  have okS:Ok32 [10 ^ k]:=fun x hx=>by simp at hx; omega
  have okV:Ok32 [numL (r.take k)]:=fun x hx=>by simp at hx; omega
  simp only [go_sem,Z11,k0,k5,k6,k7,k8]
  have hs:=Yd0 (Zbj X) okS (Nat.le_trans hX (by omega)) (by simp)
  rw [Zay] at hs
  simp only [val,Nat.mul_zero,Nat.add_zero] at hs
  refine Zhl (ids := [0]) hs ?_ ?_
  ·simp only [go_sem]
   exact Zde (r := [10 ^ k]) rfl (by simp) rfl rfl
  simp only [go_sem,k0,k5,k6,k7,k8]
  refine Zhl (ids := [1]) (Zc1 [numL (r.take k)] (by simp)) ?_ ?_
  ·simp only [go_sem]
   exact Zde (r := [numL (r.take k)]) rfl (by simp) rfl rfl
  have htv:trimL [numL (r.take k)]=limbs (numL (r.take k)):=by rw [← Zc3 okV]; simp [val]
  rw [htv]
  simp only [go_sem,k0,k6]
  refine Zaa (Yoh (m:=X*10 ^ k) (n:=numL (r.take k)) (Nat.le_trans (hsz _ (by omega)) (by omega)) (Nat.le_trans (hsz _ (by omega)) (by omega))) (by simp only [go_sem]) ?_
  have p0:(0:Int)≤(k:Int):=by omega
  simp only [go_sem,Z2q,k0,k6,p0,Zaq,hkl,Nat.le_refl,Zep,List.take_length]
  have h5:r.length=k+(r.drop k).length:=by rw [List.length_drop]; omega
  have h4:numL r=numL (r.take k)*10 ^ (r.drop k).length+numL (r.drop k):=by rw [← Zgo,List.take_append_drop]
  refine hN (X*10 ^ k+numL (r.take k),r.drop k) _ ⟨fun c hc=>h1 c (List.mem_of_mem_drop hc),by simp; omega,?_⟩ (by show (r.drop k).length<r.length; omega) ?_
  ·simp only
   rw [← h3,h4]
   conv=>rhs; rw [h5,Nat.pow_add]
   rw [Nat.add_mul,Nat.mul_assoc]; omega
  ·refine Zdp (Zii [] (by simp) (fun i hi=>by omega) [(0,.str (bs (r.drop k))),(5,.sl (u32c (limbs (X*10 ^ k+numL (r.take k)))))] ?_) ?_
   ·simp only [go_sem]
   ·rfl
theorem Yk7 {l:List UInt8}(hl:l.length≤1000000000) {K:Ex→St→Prop}
  (hgood:(∀ c,c∈l→isDig c)→∀ e,e 0 = .str (bs l)→K (.exit 0) ⟨e,[]⟩)
  (hbad:(¬ ∀ c,c∈l→isDig c)→∀ e,e 2 = .nils→e 3 = .bool false→K .ret ⟨e,[]⟩) :
  T Tryz.prog 77 0 (.loop Zuq) ⟨envL [(0,.str (bs l)),(11,.int .i64 (l.length:Int)),(12,.int .i64 0)],[]⟩ K:=by
 refine Zag (fun i:Nat=>⟨envL [(0,.str (bs l)),(11,.int .i64 (l.length:Int)),(12,.int .i64 (i:Int))],[]⟩)
  (fun i=>i≤l.length∧∀ c,c∈l.take i→isDig c) (fun i=>l.length - i) 0 ⟨by simp,by simp⟩ (Zab _ (by simp only [go_sem]; simp)) (fun i hI N hN=>?_)
 obtain ⟨hi,hd⟩:=hI
 unfold Zuq
 by_cases hil:i<l.length
 ·have gi:=List.getElem?_eq_getElem hil
  generalize l[i]'hil=c at gi
  have p1:(i:Int)<(l.length:Int):=by omega
  have p2:(0:Int)≤(i:Int):=by omega
  have e6:IntKind.i64.wrap ((i:Int)+1)=((i+1:Nat):Int):=by rw [Zac (by omega) (by omega)]; omega
  by_cases hc:isDig c
  ·have hc':=hc
   obtain ⟨hc1,hc2⟩:=hc'
   have q1:¬ (c.toNat:Int)<48:=by omega
   have q2:¬ (57:Int)<(c.toNat:Int):=by omega
   simp only [go_sem,Zht,Zlt,Zll,Z7k,p1,p2,Zeu,gi,q1,q2,e6]
   refine hN (i+1) _ ⟨by omega,fun d hdm=>?_⟩ (by omega) (Zab _ (by simp only [go_sem]))
   rw [List.take_add_one,gi] at hdm
   rcases List.mem_append.1 hdm with h | h
   ·exact hd d h
   ·simp at h; rw [h]; exact hc
  ·have hnb:¬ ∀ c,c∈l→isDig c:=fun h=>hc (h c (List.mem_of_getElem? gi))
   by_cases q1:(c.toNat:Int)<48
   ·simp only [go_sem,Zht,Zlt,Zll,Zv7,p1,p2,Zeu,gi,q1]
    exact hbad hnb _ (by simp only [go_sem]) (by simp only [go_sem])
   ·have q2:(57:Int)<(c.toNat:Int):=by unfold isDig at hc; omega
    simp only [go_sem,Zht,Zlt,Zll,Zv7,p1,p2,Zeu,gi,q1,q2]
    exact hbad hnb _ (by simp only [go_sem]) (by simp only [go_sem])
 ·have p1:¬ (i:Int)<(l.length:Int):=by omega
  simp only [go_sem,Zht,p1]
  rw [List.take_of_length_le (by omega)] at hd
  exact hgood hd _ (by simp only [go_sem])
theorem Yka {l:List UInt8}(hl:l.length≤1000000000) :
  SpecV Tryz.prog Ys1 [.str (bs l)] (if digOk l then .tup [.sl (u32c (limbs (numL l))),.bool true] else .tup [.nils,.bool false]):=by
 refine Zbr Yk9 (by simp) (Zen 2 rfl ?_)
 unfold Yhq
 have fin:digOk l→∀ e:Nat→AV,e 0 = .str (bs l)→T Tryz.prog 77 0 (.seq (.rg false Zpx) (.seq (.block 2 (.loop Zlj)) (.seq (.rg false Zpz) .ret))) ⟨e,[]⟩
   (retQ [.tmp 2,.tmp 3] (if digOk l then .tup [.sl (u32c (limbs (numL l))),.bool true] else .tup [.nils,.bool false])):=fun hok e e0=>T_W (by
  rw [if_pos hok]
  simp only [go_sem,Zpx,e0]
  refine Z72 [] [(0,.str (bs l)),(5,.sl [])] ⟨.inr (by simp only [go_sem,e0]),.inl (by simp only [go_sem]),trivial⟩ (Yv7 hok.1 hok.2.2.2 (fun e e5=>?_))
  simp only [go_sem,Zpz,e5])
 simp only [go_sem,Z5p,Z40,Zaq]
 refine Za2 [(0,.str (bs l)),(11,.int .i64 (l.length:Int)),(12,.int .i64 0)] (by simp only [go_sem]) (Yk7 hl (fun hd e e0=>?_) (fun hnd e e2 e3=>?_))
 ·by_cases h1:l = []
  ·subst h1
   have hno:¬ digOk []:=fun h=>h.2.1 rfl
   have p1:bs []=(⟨#[]⟩:ByteArray):=rfl
   rw [if_neg hno]
   simp only [go_sem,Zes,Zew,e0,p1]
  ·have p1:¬ bs l=(⟨#[]⟩:ByteArray):=fun h=>h1 (bs_inj.1 h)
   obtain ⟨c,g0,hh⟩:∃ c,l[0]? = some c∧l.head? = some c:=by cases l with
    | nil=>exact absurd rfl h1
    | cons c r=>exact ⟨c,rfl,rfl⟩
   by_cases h4:4000<l.length
   ·have hno:¬ digOk l:=fun h=>by have:=h.2.2.2; omega
    have q4:(4000:Int)<(l.length:Int):=by omega
    have q3:(1:Int)<(l.length:Int):=by omega
    rw [if_neg hno]
    simp only [go_sem,Zes,Zew,e0,p1,Zeu,g0,Zaq,q3,q4]
   ·have q4:¬ (4000:Int)<(l.length:Int):=by omega
    by_cases hc:(c.toNat:Int)=48
    ·by_cases h3:1<l.length
     ·have hc48:c=48:=by apply UInt8.toNat_inj.1; show c.toNat=48; omega
      have hno:¬ digOk l:=fun h=>h.2.2.1 ⟨by rw [hh,hc48],h3⟩
      have q3:(1:Int)<(l.length:Int):=by omega
      rw [if_neg hno]
      simp only [go_sem,Zes,Zew,e0,p1,Zeu,g0,Zaq,hc,q3]
     ·have hok:digOk l:=⟨hd,h1,fun h=>h3 h.2,by omega⟩
      have q3:¬ (1:Int)<(l.length:Int):=by omega
      simp only [go_sem,Zes,Zew,e0,p1,Zeu,g0,Zaq,hc,q3,q4]
      exact fin hok _ (by simp only [go_sem,e0])
    ·have hok:digOk l:=⟨hd,h1,fun h=>hc (by
      have:=h.1.symm.trans hh
      simp at this
      rw [← this]; rfl),by omega⟩
     simp only [go_sem,Zes,Zew,e0,p1,Zeu,g0,Zaq,hc,q4]
     exact fin hok _ (by simp only [go_sem,e0])
 ·have hno:¬ digOk l:=fun h=>hnd h.1
  rw [if_neg hno]
  simp only [go_sem,e2,e3]
end GoAbs
namespace GoAbs
open Go Go.Proofs
def Zkg:List IOp := [oI 4 (.mv (.c (.str ⟨#[]⟩))) 0,oI 5 (.mv (.c (.str ⟨#[]⟩))) 0,oI 6 (.mv (.c (.bool false))) 0]
def Zjm:List IOp := [mI 7 0 0,mI 8 1 0,oI 9 (.call 165 [.t 7,.t 8]) 0,eI 10 0 9 0,eI 11 1 9 0,eI 12 2 9 0,mI 4 10 0,mI 5 11 0,mI 6 12 0]
def Zud:CC := .seq (.rg false Zkg) (.seq (.rg false Zjm) .ret)
abbrev Zi7:Nat:=137
theorem Zx9:fnOk Tryz.prog 137=some (13,Zud,[.tmp 4,.tmp 5,.tmp 6]):=by kernel_rfl
def Zho:List IOp := [oI 4 (.mv (.c (.str ⟨#[]⟩))) 0,oI 5 (.mv (.c (.bool false))) 0]
def Zhn:List IOp := [mI 6 0 0,mI 7 1 0,oI 8 (.call 166 [.t 6,.t 7]) 0,eI 9 0 8 0,eI 10 1 8 0,mI 4 9 0,mI 5 10 0]
def Zlp:CC := .seq (.rg false Zho) (.seq (.rg false Zhn) .ret)
abbrev Zjr:Nat:=138
theorem Zwn:fnOk Tryz.prog 138=some (11,Zlp,[.tmp 4,.tmp 5]):=by kernel_rfl
def Zee:List IOp := [oI 4 (.mv (.c (.str ⟨#[]⟩))) 0,oI 5 (.mv (.c (.str ⟨#[]⟩))) 0,oI 6 (.mv (.c (.bool false))) 0]
def Zea:List IOp := [mI 8 0 0,mI 9 1 0,oI 10 (.call 176 [.t 8,.t 9]) 0,mI 7 10 0]
def Zek:List IOp := [mI 11 7 0,oI 12 (.bin .geq (.t 11) (cI 0)) 0]
def Zef:List IOp := [mI 13 0 0,mI 14 7 0,oI 15 (.sslc (.t 13) none (some (.t 14))) 0,mI 16 0 0,mI 17 7 0,mI 18 1 0,oI 19 (.slen (.t 18)) 0,oI 20 (.bin .add (.t 17) (.t 19)) 0,oI 21 (.sslc (.t 16) (some (.t 20)) none) 0,mI 4 15 0,mI 5 21 0,oI 6 (.mv (.c (.bool true))) 0]
@[go_sem ↓] theorem Ztp : autoK Zef = (0, 0) := by kernel_rfl
@[go_sem] theorem Yg5 : autoK [mI 13 0 0, mI 14 7 0, oI 15 (.sslc (.t 13) none (some (.t 14))) 0, mI 16 0 0, mI 17 7 0, mI 18 1 0, oI 19 (.slen (.t 18)) 0, oI 20 (.bin .add (.t 17) (.t 19)) 0, oI 21 (.sslc (.t 16) (some (.t 20)) none) 0, mI 4 15 0, mI 5 21 0, oI 6 (.mv (.c (.bool true))) 0] = (0, 0) := Ztp
def Zkh:List IOp := [mI 22 0 0,mI 4 22 0,oI 5 (.mv (.c (.str ⟨#[]⟩))) 0,oI 6 (.mv (.c (.bool false))) 0]
def Zia:CC := .seq (.rg false Zee) (.seq (.seq (.rg false Zea) (.seq (.rg false Zek) (.cond (.t 12) (.seq (.rg true Zef) .ret) .skip))) (.seq (.rg false Zkh) .ret))
abbrev Zm5:Nat:=165
theorem Zlg:fnOk Tryz.prog 165=some (23,Zia,[.tmp 4,.tmp 5,.tmp 6]):=by kernel_rfl
def Zdo:List IOp := [oI 4 (.mv (.c (.str ⟨#[]⟩))) 0,oI 5 (.mv (.c (.bool false))) 0]
def Zdy:List IOp := [mI 6 0 0,mI 7 1 0,oI 8 (.call 177 [.t 6,.t 7]) 0,oI 9 (.un .not (.t 8)) 0]
def Zdk:List IOp := [mI 10 0 0,mI 4 10 0,oI 5 (.mv (.c (.bool false))) 0]
def Zdl:List IOp := [mI 11 0 0,mI 12 1 0,oI 13 (.slen (.t 12)) 0,oI 14 (.sslc (.t 11) (some (.t 13)) none) 0,mI 4 14 0,oI 5 (.mv (.c (.bool true))) 0]
def Zgf:CC := .seq (.rg false Zdo) (.seq (.seq (.rg false Zdy) (.cond (.t 9) (.seq (.rg false Zdk) .ret) .skip)) (.seq (.rg false Zdl) .ret))
abbrev Zpy:Nat:=166
theorem Zno:fnOk Tryz.prog 166=some (15,Zgf,[.tmp 4,.tmp 5]):=by kernel_rfl
def Zct:List IOp := [oI 4 (.mv (cI 0)) 0]
def Zc5:List IOp := [mI 14 1 0,oI 15 (.slen (.t 14)) 0,mI 5 15 0]
def Zc4:List IOp := [mI 17 5 0,oI 18 (.bin .eql (.t 17) (cI 0)) 0,mI 19 18 0,gI 20 (.mv (.t 1)) 0 19 false,gI 21 (.mv (.t 0)) 0 19 false,gI 22 (.bin .eql (.t 20) (.t 21)) 0 19 false,oI 23 (.pick (.t 19) (.c (.bool true)) (.t 22)) 0,mI 16 23 0]
def Zhd:List IOp := [oI 4 (.mv (cI 0)) 0]
def Zhc:List IOp := [mI 25 5 0,oI 26 (.bin .eql (.t 25) (cI 1)) 0,mI 24 26 0]
def Zhu:List IOp := [mI 27 0 0,mI 28 1 0,oI 29 (.sidx (.t 28) (cI 0)) 0,oI 30 (.call 183 [.t 27,.t 29]) 0,mI 4 30 0]
def Zsl:List IOp := [mI 32 5 0,mI 33 0 0,oI 34 (.slen (.t 33)) 0,oI 35 (.bin .geq (.t 32) (.t 34)) 0,mI 31 35 0]
def Zs8:List IOp := [oI 4 (.mv (cI (-1))) 0]
def Ztu:List IOp := [mI 37 5 0,oI 38 .bad 0,oI 39 (.bin .leq (.t 37) (.t 38)) 0,mI 40 39 0,gI 41 (.mv (.t 0)) 0 40 true,gI 42 (.slen (.t 41)) 0 40 true,gI 43 (.bin .leq (.t 42) (cI 64)) 0 40 true,oI 44 (.pick (.t 40) (.t 43) (.c (.bool false))) 0,mI 36 44 0]
def Zr3:List IOp := [mI 45 0 0,mI 46 1 0,oI 47 (.xt 184 [.t 45,.t 46]) 0,mI 4 47 0]
def Zrn:List IOp := [mI 48 1 0,oI 49 (.sidx (.t 48) (cI 0)) 0,mI 6 49 0]
def Zrv:List IOp := [mI 50 1 0,oI 51 (.sidx (.t 50) (cI 1)) 0,mI 7 51 0]
def Zry:List IOp := [oI 8 (.mv (cI 0)) 0]
def Zr6:List IOp := [mI 52 0 0,oI 53 (.slen (.t 52)) 0,mI 54 5 0,oI 55 (.bin .sub (.t 53) (.t 54)) 0,oI 56 (.bin .add (.t 55) (cI 1)) 0,mI 9 56 0]
def Zrh:List IOp := [oI 10 (.mv (cI 0)) 0]
def Zrq:List IOp := [mI 57 8 0,mI 58 9 0,oI 59 (.bin .lss (.t 57) (.t 58)) 0]
def Zrd:List IOp := [mI 60 0 0,mI 61 8 0,oI 62 (.sidx (.t 60) (.t 61)) 0,mI 63 6 0,oI 64 (.bin .neq (.t 62) (.t 63)) 0]
def Zrf:List IOp := [mI 65 0 0,mI 66 8 0,oI 67 (.bin .add (.t 66) (cI 1)) 0,mI 68 9 0,oI 69 (.sslc (.t 65) (some (.t 67)) (some (.t 68))) 0,mI 70 6 0,oI 71 (.call 183 [.t 69,.t 70]) 0,mI 11 71 0]
def Zrl:List IOp := [mI 72 11 0,oI 73 (.bin .lss (.t 72) (cI 0)) 0]
def Zra:List IOp := [oI 4 (.mv (cI (-1))) 0]
def Zrs:List IOp := [mI 74 8 0,mI 75 11 0,oI 76 (.bin .add (.t 75) (cI 1)) 0,oI 77 (.bin .add (.t 74) (.t 76)) 0,mI 8 77 0]
def Zrw:List IOp := [mI 78 0 0,mI 79 8 0,oI 80 (.bin .add (.t 79) (cI 1)) 0,oI 81 (.sidx (.t 78) (.t 80)) 0,mI 82 7 0,oI 83 (.bin .eql (.t 81) (.t 82)) 0,mI 84 83 0,gI 85 (.mv (.t 0)) 0 84 true,gI 86 (.mv (.t 8)) 0 84 true,gI 87 (.mv (.t 8)) 0 84 true,gI 88 (.mv (.t 5)) 0 84 true,gI 89 (.bin .add (.t 87) (.t 88)) 0 84 true,gI 90 (.sslc (.t 85) (some (.t 86)) (some (.t 89))) 0 84 true,gI 91 (.mv (.t 1)) 0 84 true,gI 92 (.bin .eql (.t 90) (.t 91)) 0 84 true,oI 93 (.pick (.t 84) (.t 92) (.c (.bool false))) 0]
def Zrj:List IOp := [mI 94 8 0,mI 4 94 0]
def Zr2:List IOp := [mI 95 8 0,oI 96 (.bin .add (.t 95) (cI 1)) 0,mI 8 96 0]
def Zro:List IOp := [mI 97 10 0,oI 98 (.bin .add (.t 97) (cI 1)) 0,mI 10 98 0]
def Zrr:List IOp := [mI 99 5 0,oI 100 .bad 0,oI 101 (.bin .leq (.t 99) (.t 100)) 0,mI 102 101 0,gI 103 (.mv (.t 10)) 0 102 true,gI 104 (.mv (.t 8)) 0 102 true,gI 105 (.call 185 [.t 104]) 0 102 true,gI 106 (.bin .gtr (.t 103) (.t 105)) 0 102 true,oI 107 (.pick (.t 102) (.t 106) (.c (.bool false))) 0]
def Zrc:List IOp := [mI 108 0 0,mI 109 8 0,oI 110 (.sslc (.t 108) (some (.t 109)) none) 0,mI 111 1 0,oI 112 (.xt 184 [.t 110,.t 111]) 0,mI 12 112 0]
def Zri:List IOp := [mI 113 12 0,oI 114 (.bin .geq (.t 113) (cI 0)) 0]
def Zr1:List IOp := [mI 115 12 0,mI 116 8 0,oI 117 (.bin .add (.t 115) (.t 116)) 0,mI 4 117 0]
def Zru:List IOp := [oI 4 (.mv (cI (-1))) 0]
def Zrp:List IOp := [mI 118 5 0,oI 119 .bad 0,oI 120 (.bin .gtr (.t 118) (.t 119)) 0,mI 121 120 0,gI 122 (.mv (.t 10)) 0 121 true,gI 123 (.mv (.t 8)) 0 121 true,gI 124 (.bin .shr (.t 123) (.c (.int .u64 4))) 0 121 true,gI 125 (.bin .add (cI 4) (.t 124)) 0 121 true,gI 126 (.bin .geq (.t 122) (.t 125)) 0 121 true,oI 127 (.pick (.t 121) (.t 126) (.c (.bool false))) 0,mI 128 127 0,gI 129 (.mv (.t 8)) 0 128 true,gI 130 (.mv (.t 9)) 0 128 true,gI 131 (.bin .lss (.t 129) (.t 130)) 0 128 true,oI 132 (.pick (.t 128) (.t 131) (.c (.bool false))) 0]
def Zr4:List IOp := [mI 133 0 0,mI 134 8 0,oI 135 (.sslc (.t 133) (some (.t 134)) none) 0,mI 136 1 0,oI 137 (.call 186 [.t 135,.t 136]) 0,mI 13 137 0]
def Zr7:List IOp := [mI 138 13 0,oI 139 (.bin .lss (.t 138) (cI 0)) 0]
def Zr0:List IOp := [oI 4 (.mv (cI (-1))) 0]
def Zrx:List IOp := [mI 140 8 0,mI 141 13 0,oI 142 (.bin .add (.t 140) (.t 141)) 0,mI 4 142 0]
def Zvl:CC := .seq (.seq (.rg false Zrq) (.cond (.t 59) .skip (.exit 1))) (.block 2 (.seq (.seq (.rg false Zrd) (.cond (.t 64) (.seq (.rg false Zrf) (.seq (.seq (.rg false Zrl) (.cond (.t 73) (.seq (.rg false Zra) .ret) .skip)) (.rg false Zrs))) .skip)) (.seq (.seq (.rg false Zrw) (.cond (.t 93) (.seq (.rg false Zrj) .ret) .skip)) (.seq (.rg false Zr2) (.seq (.rg false Zro) (.seq (.rg false Zrr) (.cond (.t 107) (.seq (.rg false Zrc) (.seq (.seq (.rg false Zri) (.cond (.t 114) (.seq (.rg false Zr1) .ret) .skip)) (.seq (.rg false Zru) .ret))) (.seq (.rg false Zrp) (.cond (.t 132) (.seq (.rg false Zr4) (.seq (.seq (.rg false Zr7) (.cond (.t 139) (.seq (.rg false Zr0) .ret) .skip)) (.seq (.rg false Zrx) .ret))) .skip)))))))))
def Zrz:List IOp := [oI 4 (.mv (cI (-1))) 0]
def Zlx:CC := .seq (.rg false Zct) (.seq (.rg false Zc5) (.seq (.block 0 (.seq (.rg false Zc4) (.cond (.t 16) (.seq (.rg false Zhd) .ret) (.seq (.rg false Zhc) (.cond (.t 24) (.seq (.rg false Zhu) .ret) (.seq (.rg false Zsl) (.cond (.t 31) (.seq (.rg false Zs8) .ret) (.seq (.rg false Ztu) (.cond (.t 36) (.seq (.rg false Zr3) .ret) .skip))))))))) (.seq (.rg false Zrn) (.seq (.rg false Zrv) (.seq (.rg false Zry) (.seq (.rg false Zr6) (.seq (.rg false Zrh) (.seq (.block 1 (.loop Zvl)) (.seq (.rg false Zrz) .ret)))))))))
abbrev Zzw:Nat:=176
theorem Zwo:fnOk Tryz.prog 176=some (143,Zlx,[.tmp 4]):=by kernel_rfl
def Zd1:List IOp := [oI 4 (.mv (cI 0)) 0]
def Zdt:List IOp := [mI 5 0 0,mI 6 1 0,oI 7 (.xt 187 [.t 5,.t 6]) 0,mI 4 7 0]
def Zf9:CC := .seq (.rg false Zd1) (.seq (.rg false Zdt) .ret)
abbrev Zoo:Nat:=183
theorem Zng:fnOk Tryz.prog 183=some (8,Zf9,[.tmp 4]):=by kernel_rfl
def Zbs:List IOp := [oI 4 (.mv (.c (.bool false))) 0]
def Zbt:List IOp := [mI 5 0 0,oI 6 (.slen (.t 5)) 0,mI 7 1 0,oI 8 (.slen (.t 7)) 0,oI 9 (.bin .geq (.t 6) (.t 8)) 0,mI 10 9 0,gI 11 (.mv (.t 0)) 0 10 true,gI 12 (.mv (.t 1)) 0 10 true,gI 13 (.slen (.t 12)) 0 10 true,gI 14 (.sslc (.t 11) none (some (.t 13))) 0 10 true,gI 15 (.mv (.t 1)) 0 10 true,gI 16 (.bin .eql (.t 14) (.t 15)) 0 10 true,oI 17 (.pick (.t 10) (.t 16) (.c (.bool false))) 0,mI 4 17 0]
def Zf5:CC := .seq (.rg false Zbs) (.seq (.rg false Zbt) .ret)
abbrev Zoe:Nat:=177
theorem Znx:fnOk Tryz.prog 177=some (18,Zf5,[.tmp 4]):=by kernel_rfl
end GoAbs
namespace GoAbs
open Go Go.Proofs
def idxB:List UInt8→UInt8→Int
 | [],_ => -1
 | b::l,c=>if b=c then 0 else if idxB l c = -1 then -1 else idxB l c+1
theorem Y8i (l:List UInt8) (c:UInt8):Lib.indexByte l c=idxB l c:=by
 induction l with
 | nil=>rfl
 | cons b l ih=>unfold Lib.indexByte idxB; rw [ih]; simp
theorem Z30 (l:List UInt8) (c:UInt8):PureX Tryz.prog 187 [.str (bs l),.int .u8 (c.toNat:Int)] (.int .i64 (idxB l c)):=by
 refine ⟨.int _ _,fun w O ρ vs hr=>?_⟩
 obtain ⟨h1,h2⟩:=hr
 have h1:vs.size=2:=h1
 obtain ⟨a,b,rfl⟩:∃ a b,vs = #[a,b]:=⟨vs[0],vs[1],by
  apply Array.ext
  ·simpa using h1
  ·intro i hi hj
   have:i=0∨i=1:=by simp at hj; omega
   rcases this with rfl | rfl <;> rfl⟩
 have ha:=h2 0 _ a rfl rfl
 have hb:=h2 1 _ b rfl rfl
 cases ha
 cases hb
 refine ⟨.int .i64 (idxB l c),?_,.int _ _⟩
 have hf:Tryz.prog.funcs[187]? = some Tryz.f187:=by kernel_rfl
 rw [run_callFunc_extern hf (by kernel_rfl) (by kernel_rfl) (by kernel_rfl) (e:=Extern.BytealgIndexByte.indexByte) (by kernel_rfl),Lib.run_indexByteString]
 have e1:(bs l).data.toList=l:=by simp [bs]
 have e2:((c.toNat:Int).toNat.toUInt8)=c:=by simp
 rw [e1,e2,Y8i]
 rfl
theorem Yco (l:List UInt8) (c:UInt8):SpecV Tryz.prog Zoo [.str (bs l),.int .u8 (c.toNat:Int)] (.int .i64 (idxB l c)):=by
 refine Zae Zng (by simp) ?_
 unfold Zf9
 simp only [go_sem,Zd1,Zdt]
 refine Xbt (Z30 l c) (fun x hx=>?_) ?_
 ·rcases List.mem_cons.1 hx with rfl | hx
  ·exact .str _
  ·rcases List.mem_cons.1 hx with rfl | hx
   ·exact .int _ _
   ·simp at hx
 ·simp only [go_sem]
theorem Yiu (l:List UInt8) (c:UInt8):SpecV Tryz.prog Zzw [.str (bs l),.str (bs [c])] (.int .i64 (idxB l c)):=by
 refine Zae Zwo (by simp) ?_
 unfold Zlx
 have e1:(bs [c]).size=1:=rfl
 have g0:(bs [c])[0]? = some c:=rfl
 have q0:¬ ((1:Nat):Int)=0:=by omega
 have q1:((1:Nat):Int)=1:=rfl
 by_cases he:bs [c]=bs l
 ·have hl:=(bs_inj.1 he).symm
  subst hl
  simp only [go_sem,Zct,Zc5,Zc4,Zhd,e1,q0]
  show _=_
  simp [idxB]
 ·simp only [go_sem,Zct,Zc5,Zc4,Zhc,Zhu,e1,q0,q1,g0,he]
  refine Zaa (Yco l c) (by simp only [go_sem]) ?_
  simp only [go_sem]
theorem Yu3 {l:List UInt8}{c:UInt8}:idxB l c = -1↔c ∉ l:=by
 induction l with
 | nil=>simp [idxB]
 | cons b l ih =>
  unfold idxB
  by_cases hb:b=c
  ·simp [hb]
  ·rw [if_neg hb]
   by_cases hi:idxB l c = -1
   ·rw [if_pos hi]
    have:=ih.1 hi
    simp [this,Ne.symm hb]
   ·rw [if_neg hi]
    have h1:c∈l:=Classical.byContradiction fun h=>hi (ih.2 h)
    constructor
    ·intro h
     have:∀ l:List UInt8,-1≤idxB l c:=by
      intro l
      induction l with
      | nil=>simp [idxB]
      | cons b l ih=>unfold idxB; (repeat' split) <;> omega
     have:=this l
     omega
    ·intro h; simp [h1] at h
theorem Yxh {l r:List UInt8}{c:UInt8}(h:c ∉ l):idxB (l++c::r) c=l.length:=by
 induction l with
 | nil=>simp [idxB]
 | cons b l ih =>
  simp only [List.mem_cons,not_or] at h
  simp only [List.cons_append,idxB]
  rw [if_neg (fun e=>h.1 e.symm),ih h.2,if_neg (by omega)]
  simp
theorem Xav (l:List UInt8) (c:UInt8):c ∉ l∨∃ a b,c ∉ a∧l=a++c::b:=by
 induction l with
 | nil=>simp
 | cons x l ih =>
  by_cases hx:x=c
  ·exact .inr ⟨[],l,by simp,by simp [hx]⟩
  ·rcases ih with h | ⟨a,b,h1,h2⟩
   ·exact .inl (by simp [Ne.symm hx,h])
   ·exact .inr ⟨x::a,b,by simp [Ne.symm hx,h1],by simp [h2]⟩
theorem Y5w {l:List UInt8}{c:UInt8}(h:c ∉ l):SpecV Tryz.prog Zm5 [.str (bs l),.str (bs [c])] (.tup [.str (bs l),.str (bs []),.bool false]):=by
 refine Zae Zlg (by simp) ?_
 unfold Zia
 simp only [go_sem,Zee,Zea]
 refine Zaa (Yiu l c) (by simp only [go_sem]) ?_
 have q1:¬ (0:Int) ≤ -1:=by omega
 rw [Yu3.2 h]
 simp only [go_sem,Zek,Zkh,q1]
 rfl
theorem Y14 {a b:List UInt8}{c:UInt8}(h:c ∉ a) (hl:(a++c::b).length≤1000000000):SpecV Tryz.prog Zm5 [.str (bs (a++c::b)),.str (bs [c])] (.tup [.str (bs a),.str (bs b),.bool true]):=by
 refine Zae Zlg (by simp) ?_
 unfold Zia
 simp only [go_sem,Zee,Zea]
 refine Zaa (Yiu _ c) (by simp only [go_sem]) ?_
 rw [Yxh h]
 have hm:Tryz.prog.follows .mixedOrders=true:=by kernel_rfl
 have q1:(0:Int)≤(a.length:Int):=by omega
 simp at hl
 have e1:IntKind.i64.wrap ((a.length:Int)+((1:Nat):Int))=((a.length+1:Nat):Int):=by rw [Zac (by omega) (by omega)]; omega
 have q2:(0:Int)≤((a.length+1:Nat):Int):=by omega
 have e2:((bs [c]).size:Int)=1:=rfl
 have l1:a.length≤(a++c::b).length:=by simp
 have l2:a.length+1≤(a++c::b).length:=by simp
 have t1:(a++c::b).take a.length=a:=by simp
 have t2:(a++c::b).drop (a.length+1)=b:=by
  simp [List.drop_append]
 simp only [go_sem,Zek,Zef,q1,q2,e1,hm,Zaq,Zep,l1,l2,Nat.zero_le,Nat.le_refl,t1,t2,List.take_length]
theorem Xch {l:List UInt8}{c:UInt8}(h:c ∉ l):SpecV Tryz.prog Zi7 [.str (bs l),.str (bs [c])] (.tup [.str (bs l),.str (bs []),.bool false]):=by
 refine Zae Zx9 (by simp) ?_
 unfold Zud
 simp only [go_sem,Zkg,Zjm]
 refine Zaa (Y5w h) (by simp only [go_sem]) ?_
 simp only [go_sem]
theorem Y5o {a b:List UInt8}{c:UInt8}(h:c ∉ a) (hl:(a++c::b).length≤1000000000):SpecV Tryz.prog Zi7 [.str (bs (a++c::b)),.str (bs [c])] (.tup [.str (bs a),.str (bs b),.bool true]):=by
 refine Zae Zx9 (by simp) ?_
 unfold Zud
 simp only [go_sem,Zkg,Zjm]
 refine Zaa (Y14 h hl) (by simp only [go_sem]) ?_
 simp only [go_sem]
theorem Ye1 (l:List UInt8) (c:UInt8):SpecV Tryz.prog Zoe [.str (bs l),.str (bs [c])] (.bool (decide (l.head? = some c))):=by
 refine Zae Znx (by simp) ?_
 unfold Zf5
 have e2:((bs [c]).size:Int)=1:=rfl
 have e3:(bs [c]).size=1:=rfl
 cases l with
 | nil =>
  have q1:¬ (1:Int)≤((0:Nat):Int):=by omega
  simp only [go_sem,Zbs,Zbt,e2,Zaq,q1]
  simp
 | cons b r =>
  have q1:((1:Nat):Int)≤((r.length+1:Nat):Int):=by omega
  have q2:(0:Int)≤((1:Nat):Int):=by omega
  have l1:1≤r.length+1:=by omega
  simp only [go_sem,Zbs,Zbt,Zaq,q1,q2,l1,Nat.zero_le,Zep]
  have:(bs [b]=bs [c])↔b=c:=by rw [bs_inj]; simp
  refine ⟨fun h=>?_,fun h=>?_⟩
  ·rw [this] at h; simp [h]
  ·rw [this] at h; simp [h]
theorem Yeo (l:List UInt8) (c:UInt8):SpecV Tryz.prog Zjr [.str (bs l),.str (bs [c])] (if l.head? = some c then .tup [.str (bs l.tail),.bool true] else .tup [.str (bs l),.bool false]):=by
 have inner:SpecV Tryz.prog Zpy [.str (bs l),.str (bs [c])] (if l.head? = some c then .tup [.str (bs l.tail),.bool true] else .tup [.str (bs l),.bool false]):=by
  refine Zae Zno (by simp) ?_
  unfold Zgf
  have e2:((bs [c]).size:Int)=1:=rfl
  simp only [go_sem,Zdo,Zdy]
  refine Zaa (Ye1 l c) (by simp only [go_sem]) ?_
  by_cases h:l.head? = some c
  ·have q2:(0:Int)≤1:=by omega
   have l1:1≤l.length:=by cases l with
    | nil=>simp at h
    | cons b r=>simp
   rw [if_pos h]
   simp only [go_sem,decide_eq_true h,Zdl,e2,Zaq,l1,Nat.le_refl,Zep,List.take_length]
   simp
  ·rw [if_neg h]
   simp only [go_sem,decide_eq_false h,Zdk]
 refine Zae Zwn (by simp) ?_
 unfold Zlp
 simp only [go_sem,Zho,Zhn]
 refine Zaa inner (by simp only [go_sem]) ?_
 by_cases h:l.head? = some c
 ·rw [if_pos h]; simp only [go_sem]
 ·rw [if_neg h]; simp only [go_sem]
end GoAbs
namespace GoAbs
open Go Go.Proofs
theorem Yzu {slash minus:Bool}{N D:Nat}(hN:Sz N) (hD:Sz D)
  {e:Nat→AV} (e2:e 2 = .ptr 0 0) (e6:e 6 = .bool slash) (e8:e 8 = .bool minus) (e9:e 9 = .sl (u32c (limbs N))) (e11:e 11 = .sl (u32c (limbs D))) :
  T Tryz.prog 78 0 (.seq (.rg false Zbu) (.seq (.rg true Zbh) .ret)) ⟨e,[.cells [.bool false,.nils,.bool false,.nils]]⟩
   (retQ [.cell 2 (some 4),.tmp 3] (.tup [avF (if minus then -(N:Int) else N) D,.bool (!slash || decide (Int.gcd (if minus then -(N:Int) else N) D=1))])):=by
 have hm:Tryz.prog.follows .mixedOrders=true:=by kernel_rfl
 refine T_W ?_
 generalize hz:(if minus=true then -(N:Int) else N)=z
 have hzn:z.natAbs=N:=by subst hz; cases minus <;> simp
 have hzS:Sz z.natAbs:=by rw [hzn]; exact hN
 have hDS:Sz (D:Int).natAbs:=by simpa using hD
 have hD0:decide ((D:Int)<0)=false:=by simp
 simp only [go_sem,Zbu,e2,e6,e8,e9,e11]
 refine Zaa (Zps (s:=minus) (n:=N) (z:=z) hz) (by simp only [go_sem]) ?_
 simp only [go_sem,e11]
 refine Zaa (Zps (s:=false) (n:=D) (z:=(D:Int)) (by simp)) (by simp only [go_sem]) ?_
 simp only [go_sem,Zao,Zbh,hm,e2,e6]
 cases slash with
 | false=>simp only [go_sem,e2,e6]; simp
 | true =>
  simp only [go_sem,e2,e6]
  refine Zaa (Yoo hzS hDS) (by simp only [go_sem,Zao]) ?_
  simp only [go_sem]
  refine Zaa Z01 (by simp only [go_sem]) ?_
  simp only [go_sem]
  have hgs:Sz (Int.gcd z D:Int).natAbs:=by
   have:Int.gcd z D≤max N D:=by
    rcases Nat.eq_zero_or_pos D with h | h
    ·subst h
     simp [hzn]
    ·exact Nat.le_trans (Nat.le_of_dvd h (by simpa using Int.gcd_dvd_natAbs_right z D)) (Nat.le_max_right _ _)
   simp only [Int.natAbs_natCast]
   rcases Nat.le_total N D with h | h
   ·exact hD.mono (by omega)
   ·exact hN.mono (by omega)
  refine Zaa (Ypu (b:=1) hgs.l Sz.one.l) (by simp only [go_sem,Zao]) ?_
  simp only [go_sem,Zao,e2,e6]
  have key:((if (Int.gcd z D:Int)<1 then (-1:Int) else if (1:Int)<(Int.gcd z D:Int) then 1 else 0)=0)↔Int.gcd z D=1:=by
   split
   ·constructor
    ·intro h; omega
    ·intro h; omega
   ·split
    ·constructor
     ·intro h; omega
     ·intro h; omega
    ·constructor
     ·intro h; omega
     ·intro h; rfl
  refine ⟨fun h=>?_,fun h=>?_⟩
  ·rw [key] at h
   simp [h]
  ·rw [key] at h
   simp [h]
def badQ:AV := .tup [.agg [.bool false,.nils,.bool false,.nils],.bool false]
def goodQ (slash minus:Bool) (N D:Nat):AV := .tup [avF (if minus then -(N:Int) else N) D,.bool (!slash || decide (Int.gcd (if minus then -(N:Int) else N) D=1))]
theorem Z0t {slash minus ok t:Bool}{X Y r:AV}{N D:Nat}(hX:ok=true→X = .sl (u32c (limbs N))) (hN:Sz N) (hD:Sz D) (hY:t=true→Y = .sl (u32c (limbs D)))
  (hbad:ok=false∨t=false∨(minus=true∧N=0)→r=badQ) (hgood:ok=true→t=true→¬ (minus=true∧N=0)→r=goodQ slash minus N D)
  {e:Nat→AV} (e2:e 2 = .ptr 0 0) (e6:e 6 = .bool slash) (e8:e 8 = .bool minus) (e9:e 9=X) (e10:e 10 = .bool ok) (e11:e 11=Y) (e12:e 12 = .bool t) :
  T Tryz.prog 78 0 (.seq (.seq (.rg false Zbd) (.cond (.t 57) (.seq (.rg false Za9) .ret) .skip)) (.seq (.rg false Zbu) (.seq (.rg true Zbh) .ret))) ⟨e,[.cells [.bool false,.nils,.bool false,.nils]]⟩
   (retQ [.cell 2 (some 4),.tmp 3] r):=by
 refine Zen 0 rfl ?_
 cases ok with
 | false =>
  rw [hbad (.inl rfl)]
  simp only [go_sem,Zbd,Za9,e2,e6,e8,e9,e10,e11,e12,badQ]
 | true =>
  cases t with
  | false =>
   rw [hbad (.inr (.inl rfl))]
   simp only [go_sem,Zbd,Za9,e2,e6,e8,e9,e10,e11,e12,badQ]
  | true =>
   have hx:=hX rfl
   have hy:=hY rfl
   have fin:¬ (minus=true∧N=0)→∀ e:Nat→AV,e 2 = .ptr 0 0→e 6 = .bool slash→e 8 = .bool minus→e 9=X→e 11=Y →
     T Tryz.prog 78 0 (.seq (.rg false Zbu) (.seq (.rg true Zbh) .ret)) ⟨e,[.cells [.bool false,.nils,.bool false,.nils]]⟩ (retQ [.cell 2 (some 4),.tmp 3] r):=fun h e q2 q6 q8 q9 q11=>by
    rw [hgood rfl rfl h]
    exact Yzu hN hD q2 q6 q8 (q9.trans hx) (q11.trans hy)
   cases minus with
   | false =>
    simp only [go_sem,Zbd,Za9,e2,e6,e8,e9,e10,e11,e12]
    exact fin (fun h=>by cases h.1) _ (by simp only [go_sem,e2]) (by simp only [go_sem,e6]) (by simp only [go_sem,e8]) (by simp only [go_sem,e9]) (by simp only [go_sem,e11])
   | true =>
    by_cases h0:N=0
    ·rw [hbad (.inr (.inr ⟨rfl,h0⟩))]
     subst h0
     have q1:((0:Nat):Int)=0:=rfl
     simp only [go_sem,Zbd,Za9,e2,e6,e8,e9,e10,e11,e12,hx,Zas,Zg5,q1,badQ]
    ·have q1:¬ ((limbs N).length:Int)=0:=by have:=(Zc9 (n:=N)).2 h0; omega
     simp only [go_sem,Zbd,Za9,e2,e6,e8,e9,e10,e11,e12,hx,Zad,q1]
     exact fin (fun h=>h0 h.2) _ (by simp only [go_sem,e2]) (by simp only [go_sem,e6]) (by simp only [go_sem,e8]) (by simp only [go_sem,e9,hx]) (by simp only [go_sem,e11])
theorem Yj2 {slash minus ok:Bool}{X r:AV}{N:Nat}{under:List UInt8}(hul:under.length≤1000000000) (hX:ok=true→X = .sl (u32c (limbs N))) (hN:Sz N)
  (hbad:ok=false∨(slash=true∧¬ (digOk under∧1<numL under))∨(minus=true∧N=0)→r=badQ)
  (hgood:ok=true→(slash=true→digOk under∧1<numL under)→¬ (minus=true∧N=0)→r=goodQ slash minus N (if slash=true then numL under else 1))
  {e:Nat→AV} (e2:e 2 = .ptr 0 0) (e5:e 5 = .str (bs under)) (e6:e 6 = .bool slash) (e8:e 8 = .bool minus) (e9:e 9=X) (e10:e 10 = .bool ok) (e11:e 11 = .sl (u32c (limbs 1))) (e12:e 12 = .bool true) :
  T Tryz.prog 78 0 (.seq (.seq (.rg false Zfo) (.cond (.t 31) (.seq (.rg false Zi8) (.rg false Zfs)) .skip)) (.seq (.seq (.rg false Zbd) (.cond (.t 57) (.seq (.rg false Za9) .ret) .skip)) (.seq (.rg false Zbu) (.seq (.rg true Zbh) .ret)))) ⟨e,[.cells [.bool false,.nils,.bool false,.nils]]⟩
   (retQ [.cell 2 (some 4),.tmp 3] r):=by
 refine Zen 0 rfl ?_
 cases slash with
 | false =>
  simp only [go_sem,Zfo,e6]
  exact Z0t (slash:=false) (minus:=minus) (ok:=ok) (t:=true) (D:=1) hX hN Sz.one (fun _=>rfl) (fun h=>hbad (h.elim .inl (fun h=>h.elim (fun h=>by cases h) (fun h => .inr (.inr h)))))
   (fun h1 h2 h3=>hgood h1 (fun h=>by cases h) h3) (by simp only [go_sem,e2]) (by simp only [go_sem,e6]) (by simp only [go_sem,e8]) (by simp only [go_sem,e9]) (by simp only [go_sem,e10]) (by simp only [go_sem,e11]) (by simp only [go_sem,e12])
 | true =>
  simp only [go_sem,Zfo,Zi8,e5,e6]
  refine Zaa (Yka hul) (by simp only [go_sem]) ?_
  have s4:digOk under→Sz (numL under):=fun h=>by
   have:=Yg3 (Zol h.1)
   have:=h.2.2.2
   unfold Sz; omega
  have one:limbs 1 = [1]:=by rw [Zb7 (by omega),show 1 / 4294967296=0 by omega,Zas]
  by_cases hu:digOk under
  ·rw [if_pos hu]
   simp only [go_sem,Zfs]
   refine Zlk (ids := [1]) (Zzm (m:=numL under) (n:=1) (s4 hu).l Sz.one.l) ?_ (.inr (.int _ _)) (fun b hb=>trivial) ?_
   ·simp only [go_sem]
    rw [one]
    exact Zde (r := [1]) rfl (by simp) rfl rfl
   ·by_cases h1:1<numL under
    ·have q1:¬ numL under<1:=by omega
     have q2:(0:Int)<1:=by omega
     simp only [go_sem,q1,h1,q2]
     refine T_le (Zii [0] (by simp) (fun i hi=>by omega) [(2,.ptr 0 0),(6,.bool true),(8,.bool minus),(9,X),(10,.bool ok),(11,.sl (u32c (limbs (numL under)))),(12,.bool true)] (by simp only [go_sem,e2,e6,e8,e9,e10])) ?_
     exact Z0t (slash:=true) (minus:=minus) (ok:=ok) (t:=true) (D:=numL under) (X:=X.gc (pos [0])) (fun h=>by rw [hX h]; rfl) hN (s4 hu) (fun _=>rfl) (fun h=>hbad (h.elim .inl (fun h=>h.elim (fun h=>by cases h) (fun h => .inr (.inr h)))))
      (fun h1 h2 h3=>hgood h1 (fun _=>⟨hu,by assumption⟩) h3) rfl rfl rfl rfl rfl rfl rfl
    ·have q2:¬ (0:Int)<(if numL under<1 then -1 else 0):=by split <;> omega
     simp only [go_sem,h1,q2]
     refine T_le (Zii [0] (by simp) (fun i hi=>by omega) [(2,.ptr 0 0),(6,.bool true),(8,.bool minus),(9,X),(10,.bool ok),(11,.sl (u32c (limbs (numL under)))),(12,.bool false)] (by simp only [go_sem,e2,e6,e8,e9,e10])) ?_
     exact Z0t (slash:=true) (minus:=minus) (ok:=ok) (t:=false) (D:=numL under) (X:=X.gc (pos [0])) (fun h=>by rw [hX h]; rfl) hN (s4 hu) (fun _=>rfl) (fun _=>hbad (.inr (.inl ⟨rfl,fun h=>h1 h.2⟩)))
      (fun h1 h2 h3=>by cases h2) rfl rfl rfl rfl rfl rfl rfl
  ·rw [if_neg hu]
   simp only [go_sem,Zfs]
   exact Z0t (slash:=true) (minus:=minus) (ok:=ok) (t:=false) (D:=1) (Y := .nils) hX hN Sz.one (fun h=>by cases h) (fun _=>hbad (.inr (.inl ⟨rfl,fun h=>hu h.1⟩)))
      (fun h1 h2 h3=>by cases h2) (by simp only [go_sem,e2]) (by simp only [go_sem,e6]) (by simp only [go_sem,e8]) (by simp only [go_sem,e9]) (by simp only [go_sem,e10]) (by simp only [go_sem]) (by simp only [go_sem])
theorem Ynb {l over under:List UInt8}{slash:Bool}{r:AV}(hol:over.length≤1000000000) (hul:under.length≤1000000000)
  (hcut:SpecV Tryz.prog Zi7 [.str (bs l),.str (bs [47])] (.tup [.str (bs over),.str (bs under),.bool slash]))
  (minus:Bool) (digits:List UInt8) (hmd:(over.head? = some 45∧minus=true∧digits=over.tail)∨(¬ over.head? = some 45∧minus=false∧digits=over))
  (hbad:¬ digOk digits∨(slash=true∧¬ (digOk under∧1<numL under))∨(minus=true∧numL digits=0)→r=badQ)
  (hgood:digOk digits→(slash=true→digOk under∧1<numL under)→¬ (minus=true∧numL digits=0)→r=goodQ slash minus (numL digits) (if slash=true then numL under else 1)) :
  SpecV Tryz.prog Zj6 [.str (bs l)] r:=by
 refine Zbr Yio (by simp) (Zen 4 rfl ?_)
 unfold Ydv
 have c47:(⟨#[47]⟩:ByteArray)=bs [47]:=rfl
 have c45:(⟨#[45]⟩:ByteArray)=bs [45]:=rfl
 simp only [go_sem,Z2l,Z3s,c47]
 refine Zaa hcut (by simp only [go_sem]) ?_
 simp only [go_sem,Z2u,c45]
 have hcp:SpecV Tryz.prog Zjr [.str (bs over),.str (bs [45])] (.tup [.str (bs digits),.bool minus]):=by
  have:=Yeo over 45
  rcases hmd with ⟨h1,h2,h3⟩ | ⟨h1,h2,h3⟩
  ·rw [if_pos h1] at this; rw [h2,h3]; exact this
  ·rw [if_neg h1] at this; rw [h2,h3]; exact this
 have hdl:digits.length≤1000000000:=by
  rcases hmd with ⟨_,_,h3⟩ | ⟨_,_,h3⟩
  ·rw [h3,List.length_tail]; omega
  ·rw [h3]; exact hol
 refine Zaa hcp (by simp only [go_sem]) ?_
 simp only [go_sem,Z1n]
 refine Zaa (Yka hdl) (by simp only [go_sem]) ?_
 have one:limbs 1 = [1]:=by rw [Zb7 (by omega),show 1 / 4294967296=0 by omega,Zas]
 have fin:∀ (X:AV) (ok:Bool),(ok=true→X = .sl (u32c (limbs (numL digits))))→X.gc (pos [0])=X→(ok=true↔digOk digits)→∀ e:Nat→AV,e 2 = .ptr 0 0→e 5 = .str (bs under)→e 6 = .bool slash→e 8 = .bool minus→e 9=X→e 10 = .bool ok→e 11 = .osl none 1 0 1→e 12 = .bool true →
   T Tryz.prog 78 0 (.seq (.seq (.rg false Zfo) (.cond (.t 31) (.seq (.rg false Zi8) (.rg false Zfs)) .skip)) (.seq (.seq (.rg false Zbd) (.cond (.t 57) (.seq (.rg false Za9) .ret) .skip)) (.seq (.rg false Zbu) (.seq (.rg true Zbh) .ret))))
    ⟨e,[.cells [.bool false,.nils,.bool false,.nils],.cells [.int .u32 1]]⟩ (retQ [.cell 2 (some 4),.tmp 3] r):=fun X ok hX hXg hok e q2 q5 q6 q8 q9 q10 q11 q12=>by
  refine Z72 [1] [(2,.ptr 0 0),(5,.str (bs under)),(6,.bool slash),(8,.bool minus),(9,X),(10,.bool ok),(11,.sl (u32c (limbs 1))),(12,.bool true)]
   ⟨.inr q2,.inr q5,.inr q6,.inr q8,.inr q9,.inr q10,.inl (by show BV _ _ (e 11) _; rw [q11,one]; exact Zde (r := [1]) rfl (by simp) rfl rfl),.inr q12,trivial⟩ ?_
  refine T_le (Zii [0] (by simp) (fun i hi=>by omega) [(2,.ptr 0 0),(5,.str (bs under)),(6,.bool slash),(8,.bool minus),(9,X),(10,.bool ok),(11,.sl (u32c (limbs 1))),(12,.bool true)] (by simp only [go_sem])) ?_
  have hN:Sz (numL digits)∨ok=false:=by
   cases ok with
   | false=>exact .inr rfl
   | true =>
    have h:=hok.1 rfl
    have:=Yg3 (Zol h.1)
    have:=h.2.2.2
    exact .inl (by unfold Sz; omega)
  rcases hN with hN | hN
  ·exact Yj2 (slash:=slash) (minus:=minus) (ok:=ok) (N:=numL digits) hul (X:=X) (fun h=>hX h) hN
    (fun h=>hbad (h.elim (fun h => .inl (fun h2=>by rw [hok.2 h2] at h; cases h)) .inr)) (fun h1 h2 h3=>hgood (hok.1 h1) h2 h3) rfl rfl rfl rfl hXg rfl rfl rfl
  ·subst hN
   have hnd:¬ digOk digits:=fun h=>by cases hok.2 h
   exact Yj2 (slash:=slash) (minus:=minus) (ok:=false) (N:=0) hul (fun h=>by cases h) (Sz.one.mono (by omega))
    (fun _=>hbad (.inl hnd)) (fun h1 h2 h3=>by cases h1) rfl rfl rfl rfl rfl rfl rfl rfl
 by_cases hd:digOk digits
 ·rw [if_pos hd]
  simp only [go_sem,Zp2]
  exact fin (.sl (u32c (limbs (numL digits)))) true (fun _=>rfl) rfl ⟨fun _=>hd,fun _=>rfl⟩ _ (by simp only [go_sem]) (by simp only [go_sem]) (by simp only [go_sem]) (by simp only [go_sem]) (by simp only [go_sem]) (by simp only [go_sem]) (by simp only [go_sem]) (by simp only [go_sem])
 ·rw [if_neg hd]
  simp only [go_sem,Zp2]
  exact fin .nils false (fun h=>by cases h) rfl ⟨fun h=>(by cases h),fun h=>absurd h hd⟩ _ (by simp only [go_sem]) (by simp only [go_sem]) (by simp only [go_sem]) (by simp only [go_sem]) (by simp only [go_sem]) (by simp only [go_sem]) (by simp only [go_sem]) (by simp only [go_sem])
def cutL (l:List UInt8):List UInt8×List UInt8×Bool:=if 47∈l then (l.takeWhile (· != 47),(l.dropWhile (· != 47)).tail,true) else (l,[],false)
def signL (o:List UInt8):List UInt8×Bool:=if o.head? = some 45 then (o.tail,true) else (o,false)
def partsL (l:List UInt8):Int×Nat×Bool :=
 (if (signL (cutL l).1).2 then -(numL (signL (cutL l).1).1:Int) else numL (signL (cutL l).1).1,if (cutL l).2.2 then numL (cutL l).2.1 else 1,(cutL l).2.2)
def formL (l:List UInt8):Prop:=digOk (signL (cutL l).1).1∧((cutL l).2.2=true→digOk (cutL l).2.1∧1<numL (cutL l).2.1)∧¬ ((signL (cutL l).1).2=true∧numL (signL (cutL l).1).1=0)
instance (l:List UInt8):Decidable (formL l):=by unfold formL; infer_instance
def parseL (l:List UInt8):Option Rat:=if formL l∧((partsL l).2.2=true→Int.gcd (partsL l).1 (partsL l).2.1=1) then some (Rat.divInt (partsL l).1 (partsL l).2.1) else none
theorem Yzi {l:List UInt8}(hl:l.length≤1000000000):SpecV Tryz.prog Zi7 [.str (bs l),.str (bs [47])] (.tup [.str (bs (cutL l).1),.str (bs (cutL l).2.1),.bool (cutL l).2.2])∧(cutL l).1.length≤l.length∧(cutL l).2.1.length≤l.length:=by
 rcases Xav l 47 with h | ⟨a,b,h,rfl⟩
 ·unfold cutL
  rw [if_neg h]
  exact ⟨Xch h,Nat.le_refl _,by simp⟩
 ·have h1:∀ x,x∈a→(x != 47)=true:=fun x hx=>by
   have:x≠47:=fun e=>h (e ▸ hx)
   simpa using this
  have e:cutL (a++47::b)=(a,b,true):=by
   unfold cutL
   rw [if_pos (by simp),List.takeWhile_append_of_pos h1,List.dropWhile_append_of_pos h1]
   simp
  rw [e]
  refine ⟨Y5o h hl,by simp,by simp; omega⟩
theorem Ymi {l:List UInt8}:goodQ (cutL l).2.2 (signL (cutL l).1).2 (numL (signL (cutL l).1).1) (if (cutL l).2.2=true then numL (cutL l).2.1 else 1) =
  .tup [avF (partsL l).1 (partsL l).2.1,.bool (!(partsL l).2.2 || decide (Int.gcd (partsL l).1 (partsL l).2.1=1))]:=rfl
theorem Z97 {l:List UInt8}{r:AV}(hl:l.length≤1000000000) (hbad:¬ formL l→r=badQ)
  (hgood:formL l→r = .tup [avF (partsL l).1 (partsL l).2.1,.bool (!(partsL l).2.2 || decide (Int.gcd (partsL l).1 (partsL l).2.1=1))]):SpecV Tryz.prog Zj6 [.str (bs l)] r:=by
 obtain ⟨h1,h2,h3⟩:=Yzi hl
 refine Ynb (by omega) (by omega) h1 (signL (cutL l).1).2 (signL (cutL l).1).1 ?_ (fun h=>hbad (fun hf=>?_)) (fun a b c=>?_)
 ·unfold signL
  by_cases h:(cutL l).1.head? = some 45
  ·rw [if_pos h]; exact .inl ⟨h,rfl,rfl⟩
  ·rw [if_neg h]; exact .inr ⟨h,rfl,rfl⟩
 ·obtain ⟨f1,f2,f3⟩:=hf
  rcases h with h | ⟨h,h'⟩ | h
  ·exact h f1
  ·exact h' (f2 h)
  ·exact f3 h
 ·rw [Ymi]
  exact hgood ⟨a,b,c⟩
theorem Ys9 {l:List UInt8}(h:formL l):(0:Int)<((partsL l).2.1:Int):=by
 unfold partsL
 simp only
 split
 ·have:=(h.2.1 (by assumption)).2; omega
 ·omega
theorem Ytg {l:List UInt8}{q:Rat}(hl:l.length≤1000000000) (h:parseL l=some q):SpecV Tryz.prog Zj6 [.str (bs l)] (.tup [avQ q,.bool true]):=by
 unfold parseL at h
 split at h
 ·rename_i hc
  obtain ⟨hf,hg⟩:=hc
  cases h
  refine Z97 hl (fun h=>absurd hf h) (fun _=>?_)
  have hpos:=Ys9 hf
  have hgcd:Int.gcd (partsL l).1 (partsL l).2.1=1:=by
   cases hs:(partsL l).2.2 with
   | true=>exact hg hs
   | false =>
    have:(partsL l).2.1=1:=by
     unfold partsL at hs ⊢
     simp only at hs ⊢
     rw [hs]; rfl
    rw [this]; simp
  rw [Yd3 hpos hgcd,hgcd]
  simp
 ·cases h
def Wk (x:AV):Prop:=x = .agg [.bool false,.nils,.bool false,.nils]∨∃ n d,x=avF n d
theorem Yra {l:List UInt8}(hl:l.length≤1000000000) (h:parseL l=none):∃ x,Wk x∧SpecV Tryz.prog Zj6 [.str (bs l)] (.tup [x,.bool false]):=by
 unfold parseL at h
 split at h
 ·cases h
 ·rename_i hc
  by_cases hf:formL l
  ·refine ⟨avF (partsL l).1 (partsL l).2.1,.inr ⟨_,_,rfl⟩,Z97 hl (fun h=>absurd hf h) (fun _=>?_)⟩
   have hg:¬ ((partsL l).2.2=true→Int.gcd (partsL l).1 (partsL l).2.1=1):=fun h=>hc ⟨hf,h⟩
   have hs:(partsL l).2.2=true:=Classical.byContradiction fun h=>hg (fun h2=>absurd h2 h)
   have hg':¬ Int.gcd (partsL l).1 (partsL l).2.1=1:=fun h=>hg (fun _=>h)
   rw [hs]
   simp [hg']
  ·exact ⟨_,.inl rfl,Z97 hl (fun _=>rfl) (fun h=>absurd h hf)⟩
end GoAbs
namespace GoAbs
open Go Go.Proofs
theorem Zmp {n k:Nat}(h:n<2 ^ k) (hk:k≤300000000000):Tx n:=by
 have h1:n<4294967296 ^ (k / 32+1):=by
  have e:(4294967296:Nat)=2 ^ 32:=by decide
  rw [e, ← Nat.pow_mul]
  exact Nat.lt_of_lt_of_le h (Nat.pow_le_pow_right (by omega) (by omega))
 have h2:=Z4n h1
 unfold Tx
 omega
theorem Yqb {n:Nat}(h:Tx n):(decL n).length≤100000000000:=by
 unfold decL
 split
 ·simp
 ·rw [List.length_reverse]; exact h.len
theorem Y1i (n:Nat):1≤(decL n).length:=by
 unfold decL
 split
 ·simp
 ·rename_i h; rw [List.length_reverse,Zfg h]; simp
def numS (q:Rat):List UInt8:=(if q.num<0 then [45] else [])++decL q.num.natAbs++(if q.den=1 then [] else 47::decL q.den)
def NumOk (q:Rat):Prop:=(decL q.num.natAbs).length≤4000∧(q.den=1∨(decL q.den).length≤4000)
instance (q:Rat):Decidable (NumOk q):=by unfold NumOk; infer_instance
theorem Xbs {q:Rat}{d:Int}(hn:Tx q.num.natAbs) (hd:Tx q.den):SpecV Tryz.prog Yts [avQ q,.int .i64 d] (.bool (decide (((decL q.num.natAbs).length:Int)≤d∧((decL q.den).length:Int)≤d))):=by
 refine Zae Ylk (by simp) ?_
 unfold Yke
 simp only [go_sem,Ze0,Z5l,Z7m]
 refine Zaa (Z2h hn) (by simp only [go_sem]) ?_
 rw [Yfo]
 have ht:=Z2h hd
 rw [Yfo] at ht
 by_cases h1:((decL q.num.natAbs).length:Int)≤d
 ·simp only [go_sem,Zaq,h1,Zby]
  refine Zaa ht (by simp only [go_sem]) ?_
  by_cases h2:((decL q.den).length:Int)≤d
  ·simp only [go_sem,Zaq,h2]; simp
  ·simp only [go_sem,Zaq,h2]; simp
 ·simp only [go_sem,Zaq,h1]; simp
theorem Yyi {q:Rat}(hn:Tx q.num.natAbs) (hd:Tx q.den) (ho:(decL q.num.natAbs).length≤4000) {S:List UInt8}(hS:S=(if q.num<0 then [45] else [])++decL q.num.natAbs)
  {e:Nat→AV} (e1:e 1 = .ptr 0 0) (e4:e 4 = .str (bs S)) :
  T Tryz.prog 32 0 (.seq (.seq (.rg false Zzc) (.cond (.t 19) (.seq (.rg false Zz2) .ret) .skip)) (.seq (.rg false Zz9) (.seq (.seq (.rg false Zkz) (.cond (.t 27) (.seq (.rg false Zs4) .ret) .skip)) (.seq (.rg false Zvx) .ret))))
   ⟨e,[.cells [.bool (decide (q.num<0)),.sl (u32c (limbs q.num.natAbs)),.bool (decide ((q.den:Int)<0)),.sl (u32c (limbs (q.den:Int).natAbs))]]⟩
   (retQ [.tmp 2,.tmp 3] (if q.den=1∨(decL q.den).length≤4000 then .tup [.str (bs (numS q)),.int .i64 0] else .tup [.str (bs []),.int .i64 4])):=by
 refine T_W ?_
 have hSl:S.length≤4001:=by
  rw [hS,List.length_append]
  split <;> simp <;> omega
 simp only [go_sem,Zzc,e1]
 refine Zaa (Zh0 (a:=q.num) (b:=q.den) (den_pos' q)) (by simp only [go_sem]) ?_
 by_cases h1:(q.den:Int)=1
 ·have h1':q.den=1:=by omega
  rw [if_pos (.inl h1')]
  simp only [go_sem,decide_eq_true h1,Zz2,e4]
  rw [hS,numS,if_pos h1',List.append_nil]
 ·have h1':¬ q.den=1:=by omega
  have ht:=Z2h hd
  rw [Yfo] at ht
  simp only [go_sem,decide_eq_false h1,Zz9,e1,Zby]
  refine Zaa ht (by simp only [go_sem]) ?_
  have hdl:=Yqb hd
  by_cases h2:(decL q.den).length≤4000
  ·have q2:¬ (4000:Int)<((decL q.den).length:Int):=by omega
   have hmax:IntKind.i64.max=9223372036854775807:=rfl
   have m1:((S.length+1:Nat):Int)≤IntKind.i64.max:=by rw [hmax]; omega
   have m2:(((S ++ [47]).length+(decL q.den).length:Nat):Int)≤IntKind.i64.max:=by rw [hmax]; simp; omega
   have c47:(⟨#[47]⟩:ByteArray)=bs [47]:=rfl
   rw [if_pos (.inr h2)]
   simp only [go_sem,Zkz,Zvx,Zaq,q2,e4,c47,Zjj,m1,m2]
   rw [hS,numS,if_neg h1']
   simp
  ·have q2:(4000:Int)<((decL q.den).length:Int):=by omega
   rw [if_neg (fun h=>h.elim h1' h2)]
   simp only [go_sem,Zkz,Zs4,Zaq,q2]
   first | exact ⟨trivial,trivial⟩ | rfl
theorem Y22 {q:Rat}(hn:Tx q.num.natAbs) (hd:Tx q.den):SpecV Tryz.prog Yym [avQ q] (if NumOk q then .tup [.str (bs (numS q)),.int .i64 0] else .tup [.str (bs []),.int .i64 4]):=by
 refine Zbr Ytx (by simp) (Zen 3 rfl ?_)
 unfold Yob
 simp only [go_sem,Ze0,Yar,Yb1]
 refine Zaa (Z2h hn) (by simp only [go_sem]) ?_
 rw [Yfo]
 have hnl:=Yqb hn
 by_cases ho:(decL q.num.natAbs).length≤4000
 ·have q1:¬ (4000:Int)<((decL q.num.natAbs).length:Int):=by omega
  have hk:NumOk q↔(q.den=1∨(decL q.den).length≤4000):=⟨fun h=>h.2,fun h=>⟨ho,h⟩⟩
  simp only [hk]
  have c45:(⟨#[45]⟩:ByteArray)=bs [45]:=rfl
  by_cases hs:q.num<0
  ·have hmax:IntKind.i64.max=9223372036854775807:=rfl
   have m1:((1+(decL q.num.natAbs).length:Nat):Int)≤IntKind.i64.max:=by rw [hmax]; omega
   simp only [go_sem,Zpc,Zzg,Zzh,Zaq,q1,decide_eq_true hs,c45,Zjj,m1]
   have:=fun e e1 e4=>Yyi (q:=q) hn hd ho (S:=45::decL q.num.natAbs) (by rw [if_pos hs]; rfl) (e:=e) e1 e4
   rw [decide_eq_true hs] at this
   refine this _ ?_ ?_ <;> simp only [go_sem]
  ·simp only [go_sem,Zpc,Zzg,Zzh,Zaq,q1,decide_eq_false hs]
   have:=fun e e1 e4=>Yyi (q:=q) hn hd ho (S:=decL q.num.natAbs) (by rw [if_neg hs]; rfl) (e:=e) e1 e4
   rw [decide_eq_false hs] at this
   refine this _ ?_ ?_ <;> simp only [go_sem]
 ·have q1:(4000:Int)<((decL q.num.natAbs).length:Int):=by omega
  have hk:¬ NumOk q:=fun h=>ho h.1
  rw [if_neg hk]
  simp only [go_sem,Zpc,Z99,Zaq,q1]
  first | exact ⟨trivial,trivial⟩ | rfl
end GoAbs
