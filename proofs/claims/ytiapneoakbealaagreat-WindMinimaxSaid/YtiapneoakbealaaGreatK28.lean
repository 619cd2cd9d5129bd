/- Lemmas for the claim (contracts of the functions that it reaches, and what they compute), without conditions. -/
import Derived.Test.YtiapneoakbealaaGreatK27
import Derived.Test.YtiapneoakbealaaGreatProg
import Derived.KernelRfl
set_option linter.unusedVariables false
set_option linter.unusedSimpArgs false
set_option maxRecDepth 10000
set_option maxHeartbeats 2000000
namespace GoAbs
open Go Go.Proofs
def Zcm:List IOp := [oI 2 (.alloc [.bool false,.nils]) 0,oI 3 (.mv (.c (.bool false))) 1]
def Zcs:List IOp := [mI 8 0 0,oI 9 (.slen (.t 8)) 0,oI 10 (.bin .lss (.t 9) (cI 1)) 0,mI 11 10 0,gI 12 (.mv (.t 0)) 0 11 false,gI 13 (.slen (.t 12)) 0 11 false,gI 14 (.bin .gtr (.t 13) (cI 4000)) 0 11 false,oI 15 (.pick (.t 11) (.c (.bool true)) (.t 14)) 0,mI 16 15 0,gI 17 (.mv (.t 0)) 0 16 false,gI 18 (.sidx (.t 17) (cI 0)) 0 16 false,gI 19 (.bin .eql (.t 18) (.c (.int .u8 48))) 0 16 false,gI 20 (.mv (.t 19)) 0 16 false,gI 21 (.mv (.t 0)) 0 20 true,gI 22 (.slen (.t 21)) 0 20 true,gI 23 (.bin .gtr (.t 22) (cI 1)) 0 20 true,gI 24 (.pick (.t 20) (.t 23) (.c (.bool false))) 0 16 false,oI 25 (.pick (.t 16) (.c (.bool true)) (.t 24)) 0]
def Zhr:List IOp := [oI 26 (.build [.bool false,.nils] []) 0,⟨none,.st 2 (.t 2) (.t 26),0,[],[],none⟩,oI 3 (.mv (.c (.bool false))) 0]
def Zmj:List IOp := [oI 27 (.build [.bool false,.nils] []) 0,oI 4 (.alloc [.bool false,.nils]) 0,⟨none,.st 2 (.t 4) (.t 27),1,[],[],none⟩]
def Zne:List IOp := [mI 28 0 0,oI 29 (.slen (.t 28)) 0,mI 5 29 0]
def Zmf:List IOp := [mI 30 5 0,oI 31 (.bin .gtr (.t 30) (cI 0)) 0]
def Zxv:List IOp := [oI 6 (.mv (cI 0)) 0]
def Zxr:List IOp := [mI 34 5 0,oI 35 (.bin .sub (.t 34) (cI 4)) 0,oI 36 (.mx (cI 0) (.t 35)) 0,mI 7 36 0]
def Zei:List IOp := [mI 37 7 0,mI 38 5 0,oI 39 (.bin .lss (.t 37) (.t 38)) 0]
def Zge:List IOp := [mI 42 0 0,mI 43 7 0,oI 44 (.sidx (.t 42) (.t 43)) 0,oI 45 (.bin .lss (.t 44) (.c (.int .u8 48))) 0,mI 46 45 0,gI 47 (.mv (.t 0)) 0 46 false,gI 48 (.mv (.t 7)) 0 46 false,gI 49 (.sidx (.t 47) (.t 48)) 0 46 false,gI 50 (.bin .gtr (.t 49) (.c (.int .u8 57))) 0 46 false,oI 51 (.pick (.t 46) (.c (.bool true)) (.t 50)) 0]
def Zkd:List IOp := [oI 52 (.build [.bool false,.nils] []) 0,⟨none,.st 2 (.t 2) (.t 52),0,[],[],none⟩,oI 3 (.mv (.c (.bool false))) 0]
def Zua:List IOp := [mI 53 6 0,oI 54 (.bin .mul (cI 10) (.t 53)) 0,mI 55 0 0,mI 56 7 0,oI 57 (.sidx (.t 55) (.t 56)) 0,oI 58 (.bin .sub (.t 57) (.c (.int .u8 48))) 0,oI 59 (.cvi .i64 (.t 58)) 0,oI 60 (.bin .add (.t 54) (.t 59)) 0,mI 6 60 0]
def Zud:List IOp := [mI 40 7 0,oI 41 (.bin .add (.t 40) (cI 1)) 0,mI 7 41 0]
def Zmh:CC := .seq (.seq (.rg false Zei) (.cond (.t 39) .skip (.exit 2))) (.seq (.block 3 (.seq (.seq (.rg false Zge) (.cond (.t 51) (.seq (.rg false Zkd) .ret) .skip)) (.rg false Zua))) (.rg false Zud))
def Zwe:List IOp := [fI 61 1 4 0,lI 62 61 0,mI 63 6 0,oI 64 (.bsl none 1 [.int .i64 0] [(0,.t 63)]) 0,oI 65 (.app none 8 (.t 62) (.t 64)) 1,fI 66 1 4 2,⟨none,.st 1 (.t 66) (.t 65),2,[],[],none⟩]
def Ztn:List IOp := [mI 32 5 0,oI 33 (.bin .sub (.t 32) (cI 4)) 0,mI 5 33 0]
def Zhf:CC := .seq (.seq (.rg false Zmf) (.cond (.t 31) .skip (.exit 0))) (.seq (.block 1 (.seq (.rg false Zxv) (.seq (.seq (.rg false Zxr) (.block 2 (.loop Zmh))) (.rg false Zwe)))) (.rg false Ztn))
def Zk2:List IOp := [lJ 67 2 4 0,oI 68 (.call 90 [.t 67]) 0,⟨none,.st 2 (.t 2) (.t 68),0,[],[],none⟩,oI 3 (.mv (.c (.bool true))) 0]
def Ych:CC := .seq (.rg false Zcm) (.seq (.seq (.rg false Zcs) (.cond (.t 25) (.seq (.rg false Zhr) .ret) .skip)) (.seq (.rg false Zmj) (.seq (.seq (.rg false Zne) (.block 0 (.loop Zhf))) (.seq (.rg false Zk2) .ret))))
abbrev Yk8:Nat:=86
theorem Yjg:fnOk Tryz.prog 86=some (69,Ych,[.cell 2 (some 2),.tmp 3]):=by kernel_rfl
def Zfz:List IOp := [oI 2 (.alloc [.bool false,.nils,.bool false,.nils]) 0,oI 3 (.mv (.c (.bool false))) 1]
def Zfr:List IOp := [mI 13 0 0,mI 4 13 0,oI 5 (.mv (.c (.bool false))) 0]
def Zfq:List IOp := [mI 14 4 0,oI 15 (.slen (.t 14)) 0,oI 16 (.bin .gtr (.t 15) (cI 8002)) 0]
def Z25:List IOp := [oI 17 (.build [.bool false,.nils,.bool false,.nils] []) 0,⟨none,.st 4 (.t 2) (.t 17),0,[],[],none⟩,oI 3 (.mv (.c (.bool false))) 0]
def Zjs:List IOp := [mI 18 4 0,oI 19 (.slen (.t 18)) 0,oI 20 (.bin .gtr (.t 19) (cI 0)) 0,mI 21 20 0,gI 22 (.mv (.t 4)) 0 21 true,gI 23 (.sidx (.t 22) (cI 0)) 0 21 true,gI 24 (.bin .eql (.t 23) (.c (.int .u8 45))) 0 21 true,oI 25 (.pick (.t 21) (.t 24) (.c (.bool false))) 0]
def Z30:List IOp := [mI 26 4 0,oI 27 (.sslc (.t 26) (some (cI 1)) none) 0,mI 4 27 0,oI 5 (.mv (.c (.bool true))) 0]
def Zjk:List IOp := [mI 28 4 0,oI 29 (.slen (.t 28)) 0,mI 6 29 0]
def Zo0:List IOp := [mI 30 4 0,oI 31 (.slen (.t 30)) 0,oI 32 (.bin .sub (.t 31) (cI 1)) 0,mI 7 32 0]
def Zjv:List IOp := [mI 33 7 0,oI 34 (.bin .geq (.t 33) (cI 0)) 0]
def Zmq:List IOp := [mI 37 4 0,mI 38 7 0,oI 39 (.sidx (.t 37) (.t 38)) 0,oI 40 (.bin .eql (.t 39) (.c (.int .u8 47))) 0]
def Zy8:List IOp := [mI 41 7 0,mI 6 41 0]
def Zmz:List IOp := [mI 35 7 0,oI 36 (.bin .sub (.t 35) (cI 1)) 0,mI 7 36 0]
def Zjn:CC := .seq (.seq (.rg false Zjv) (.cond (.t 34) .skip (.exit 0))) (.seq (.block 1 (.seq (.rg false Zmq) (.cond (.t 40) (.rg false Zy8) .skip))) (.rg false Zmz))
def Zhb:List IOp := [mI 43 4 0,mI 44 6 0,oI 45 (.sslc (.t 43) none (some (.t 44))) 0,oI 46 (.call 86 [.t 45]) 0,mI 42 46 0,eI 47 0 42 0,eI 48 1 42 0,oI 8 (.alloc [.bool false,.nils]) 0,⟨none,.st 2 (.t 8) (.t 47),1,[],[],none⟩,mI 9 48 1]
def Zg8:List IOp := [oI 49 (.call 64 [cI 1]) 0,oI 10 (.alloc [.bool false,.nils]) 0,⟨none,.st 2 (.t 10) (.t 49),1,[],[],none⟩]
def Zhk:List IOp := [mI 50 6 0,mI 51 4 0,oI 52 (.slen (.t 51)) 0,oI 53 (.bin .lss (.t 50) (.t 52)) 0]
def Zhc:List IOp := [mI 55 4 0,mI 56 6 0,oI 57 (.bin .add (.t 56) (cI 1)) 0,oI 58 (.sslc (.t 55) (some (.t 57)) none) 0,oI 59 (.call 86 [.t 58]) 0,mI 54 59 0,eI 60 0 54 0,eI 61 1 54 0,oI 11 (.alloc [.bool false,.nils]) 0,⟨none,.st 2 (.t 11) (.t 60),1,[],[],none⟩,mI 12 61 1]
def Zcv:List IOp := [mI 62 12 0,oI 63 (.un .not (.t 62)) 0,mI 64 63 0,gI 65 (.ld (some 2) (.t 11)) 0 64 false,gI 66 (.call 64 [cI 2]) 0 64 false,gI 67 (.callw 61 [.t 65,.t 66]) 0 64 false,gI 68 (.bin .lss (.t 67) (cI 0)) 0 64 false,oI 69 (.pick (.t 64) (.c (.bool true)) (.t 68)) 0,mI 70 69 0,gI 71 (.ld (some 2) (.t 8)) 0 70 false,gI 72 (.ld (some 2) (.t 11)) 0 70 false,gI 73 (.callw 87 [.t 71,.t 72]) 0 70 false,gI 74 (.callw 64 [cI 1]) 0 70 false,gI 75 (.callw 61 [.t 73,.t 74]) 0 70 false,gI 76 (.bin .neq (.t 75) (cI 0)) 0 70 false,oI 77 (.pick (.t 70) (.c (.bool true)) (.t 76)) 0]
@[go_sem ↓] theorem Z9p : autoK Zcv = (0, 0) := by kernel_rfl
@[go_sem] theorem Ysw : autoK [mI 62 12 0, oI 63 (.un .not (.t 62)) 0, mI 64 63 0, gI 65 (.ld (some 2) (.t 11)) 0 64 false, gI 66 (.call 64 [cI 2]) 0 64 false, gI 67 (.callw 61 [.t 65, .t 66]) 0 64 false, gI 68 (.bin .lss (.t 67) (cI 0)) 0 64 false, oI 69 (.pick (.t 64) (.c (.bool true)) (.t 68)) 0, mI 70 69 0, gI 71 (.ld (some 2) (.t 8)) 0 70 false, gI 72 (.ld (some 2) (.t 11)) 0 70 false, gI 73 (.callw 87 [.t 71, .t 72]) 0 70 false, gI 74 (.callw 64 [cI 1]) 0 70 false, gI 75 (.callw 61 [.t 73, .t 74]) 0 70 false, gI 76 (.bin .neq (.t 75) (cI 0)) 0 70 false, oI 77 (.pick (.t 70) (.c (.bool true)) (.t 76)) 0] = (0, 0) := Z9p
def Zcp:List IOp := [oI 78 (.build [.bool false,.nils,.bool false,.nils] []) 0,⟨none,.st 4 (.t 2) (.t 78),0,[],[],none⟩,oI 3 (.mv (.c (.bool false))) 0]
def Zhj:List IOp := [lJ 79 2 11 0,⟨none,.st 2 (.t 10) (.t 79),0,[],[],none⟩]
def Zbo:List IOp := [mI 80 9 0,oI 81 (.un .not (.t 80)) 0,mI 82 81 0,gI 83 (.mv (.t 5)) 0 82 false,gI 84 (.mv (.t 83)) 0 82 false,gI 85 (.fa 1 (.t 8)) 0 84 true,gI 86 (.ld none (.t 85)) 0 84 true,gI 87 (.len (.t 86)) 0 84 true,gI 88 (.bin .eql (.t 87) (cI 0)) 0 84 true,gI 89 (.pick (.t 84) (.t 88) (.c (.bool false))) 0 82 false,oI 90 (.pick (.t 82) (.c (.bool true)) (.t 89)) 0]
def Zcn:List IOp := [oI 91 (.build [.bool false,.nils,.bool false,.nils] []) 0,⟨none,.st 4 (.t 2) (.t 91),0,[],[],none⟩,oI 3 (.mv (.c (.bool false))) 0]
def Zcw:List IOp := [mI 92 5 0]
def Zem:List IOp := [lJ 93 2 8 0,oI 94 (.call 88 [.t 93]) 0,⟨none,.st 2 (.t 8) (.t 94),0,[],[],none⟩]
def Zcu:List IOp := [lJ 95 2 8 0,lJ 96 2 10 0,oI 97 (.build [.bool false,.nils,.bool false,.nils] [(0,2,.t 95),(2,2,.t 96)]) 0,⟨none,.st 4 (.t 2) (.t 97),0,[],[],none⟩,oI 3 (.mv (.c (.bool true))) 0]
def Yf7:CC := .seq (.rg false Zfz) (.seq (.rg false Zfr) (.seq (.seq (.rg false Zfq) (.cond (.t 16) (.seq (.rg false Z25) .ret) .skip)) (.seq (.seq (.rg false Zjs) (.cond (.t 25) (.rg false Z30) .skip)) (.seq (.rg false Zjk) (.seq (.seq (.rg false Zo0) (.block 0 (.loop Zjn))) (.seq (.rg false Zhb) (.seq (.rg false Zg8) (.seq (.seq (.rg false Zhk) (.cond (.t 53) (.seq (.rg false Zhc) (.seq (.seq (.rg true Zcv) (.cond (.t 77) (.seq (.rg false Zcp) .ret) .skip)) (.rg false Zhj))) .skip)) (.seq (.seq (.rg false Zbo) (.cond (.t 90) (.seq (.rg false Zcn) .ret) .skip)) (.seq (.seq (.rg false Zcw) (.cond (.t 92) (.rg false Zem) .skip)) (.seq (.rg false Zcu) .ret)))))))))))
abbrev Yc9:Nat:=59
theorem Yjp:fnOk Tryz.prog 59=some (98,Yf7,[.cell 2 (some 4),.tmp 3]):=by kernel_rfl
def Zpn:List IOp := [oI 2 (.mv (.c (.bool false))) 0]
def Zoe:List IOp := [mI 6 0 0,oI 7 (.call 59 [.t 6]) 0,mI 5 7 0,eI 8 0 5 0,eI 9 1 5 0,oI 3 (.alloc [.bool false,.nils,.bool false,.nils]) 0,⟨none,.st 4 (.t 3) (.t 8),1,[],[],none⟩,mI 4 9 1]
def Zqk:List IOp := [mI 10 4 0,mI 2 10 0]
def Yf0:CC := .seq (.rg false Zpn) (.seq (.rg false Zoe) (.seq (.rg false Zqk) .ret))
abbrev Ya2:Nat:=42
theorem Ykk:fnOk Tryz.prog 42=some (11,Yf0,[.tmp 2]):=by kernel_rfl
def Yfx:List IOp := [oI 2 (.alloc [.bool false,.nils,.bool false,.nils]) 0]
def Yfc:List IOp := [mI 6 0 0,oI 7 (.call 59 [.t 6]) 0,mI 5 7 0,eI 8 0 5 0,eI 9 1 5 0,oI 3 (.alloc [.bool false,.nils,.bool false,.nils]) 0,⟨none,.st 4 (.t 3) (.t 8),1,[],[],none⟩,mI 4 9 1]
def Yfa:List IOp := [lJ 10 4 3 0,⟨none,.st 4 (.t 2) (.t 10),0,[],[],none⟩]
def Ywk:CC := .seq (.rg false Yfx) (.seq (.rg false Yfc) (.seq (.rg false Yfa) .ret))
abbrev Yrt:Nat:=21
theorem Ywy:fnOk Tryz.prog 21=some (11,Ywk,[.cell 2 (some 4)]):=by kernel_rfl
def Zlf:List IOp := [oI 1 (.box (.t 0)) 0,oI 2 (.mv (.c (.str ⟨#[]⟩))) 1]
def Zli:List IOp := [fI 7 1 1 0,lI 8 7 0,oI 9 (.len (.t 8)) 0,oI 10 (.bin .eql (.t 9) (cI 0)) 0]
def Zt3:List IOp := [oI 2 (.mv (.c (.str ⟨#[48]⟩))) 0]
def Ztv:List IOp := [oI 3 (.mv (.c (.str ⟨#[]⟩))) 0]
def Zta:List IOp := [fI 11 1 1 0,lI 12 11 0,oI 13 (.len (.t 12)) 0,oI 14 (.bin .sub (.t 13) (cI 1)) 0,mI 4 14 0]
def Zj3:List IOp := [mI 15 4 0,oI 16 (.bin .geq (.t 15) (cI 0)) 0]
def Zvu:List IOp := [fI 19 1 1 0,lI 20 19 0,mI 21 4 0,xI 22 1 20 21 0,lI 23 22 0,mI 5 23 0]
def Zwa:List IOp := [mI 24 5 0,oI 25 (.bin .quo (.t 24) (cI 1000)) 0,oI 26 (.bin .add (cI 48) (.t 25)) 0,oI 27 (.cvi .u8 (.t 26)) 0,mI 28 5 0,oI 29 (.bin .quo (.t 28) (cI 100)) 0,oI 30 (.bin .rem (.t 29) (cI 10)) 0,oI 31 (.bin .add (cI 48) (.t 30)) 0,oI 32 (.cvi .u8 (.t 31)) 0,mI 33 5 0,oI 34 (.bin .quo (.t 33) (cI 10)) 0,oI 35 (.bin .rem (.t 34) (cI 10)) 0,oI 36 (.bin .add (cI 48) (.t 35)) 0,oI 37 (.cvi .u8 (.t 36)) 0,mI 38 5 0,oI 39 (.bin .rem (.t 38) (cI 10)) 0,oI 40 (.bin .add (cI 48) (.t 39)) 0,oI 41 (.cvi .u8 (.t 40)) 0,oI 42 (.bsl none 4 [.int .u8 0] [(0,.t 27),(1,.t 32),(2,.t 37),(3,.t 41)]) 0,oI 43 (.b2s (.t 42)) 1,mI 6 43 1]
def Zs2:List IOp := [mI 44 3 0,mI 45 6 0,oI 46 (.bin .add (.t 44) (.t 45)) 0,mI 3 46 0]
def Zrp:List IOp := [mI 17 4 0,oI 18 (.bin .sub (.t 17) (cI 1)) 0,mI 4 18 0]
def Zkc:CC := .seq (.seq (.rg false Zj3) (.cond (.t 16) .skip (.exit 0))) (.seq (.block 1 (.seq (.rg false Zvu) (.seq (.rg false Zwa) (.rg false Zs2)))) (.rg false Zrp))
def Zio:List IOp := [mI 47 3 0,oI 48 (.sidx (.t 47) (cI 0)) 0,oI 49 (.bin .eql (.t 48) (.c (.int .u8 48))) 0]
def Zrh:List IOp := [mI 50 3 0,oI 51 (.sslc (.t 50) (some (cI 1)) none) 0,mI 3 51 0]
def Zki:CC := .seq (.seq (.rg false Zio) (.cond (.t 49) .skip (.exit 2))) (.block 3 (.rg false Zrh))
def Zrt:List IOp := [mI 52 3 0,mI 2 52 0]
def Zur:CC := .seq (.rg false Zlf) (.seq (.seq (.rg false Zli) (.cond (.t 10) (.seq (.rg false Zt3) .ret) .skip)) (.seq (.rg false Ztv) (.seq (.seq (.rg false Zta) (.block 0 (.loop Zkc))) (.seq (.block 2 (.loop Zki)) (.seq (.rg false Zrt) .ret)))))
abbrev Yhq:Nat:=91
theorem Zzm:fnOk Tryz.prog 91=some (53,Zur,[.tmp 2]):=by kernel_rfl
def Yay:List IOp := [oI 1 (.box (.t 0)) 0,oI 2 (.mv (.c (.str ⟨#[]⟩))) 1,oI 3 (.mv (.c (.bool false))) 1]
def Yc3:List IOp := [lJ 6 4 1 0,oI 7 (.call 73 [.t 6]) 0,⟨none,.st 4 (.t 1) (.t 7),0,[],[],none⟩]
def Z0d:List IOp := [fI 8 0 1 0,lJ 9 2 8 0,oI 10 (.call 92 [.t 9]) 0,oI 11 (.call 91 [.t 10]) 0,fI 12 2 1 0,lJ 13 2 12 0,oI 14 (.callw 91 [.t 13]) 0,mI 4 11 0,mI 5 14 0]
@[go_sem ↓] theorem Yhd : autoK Z0d = (0, 0) := by kernel_rfl
@[go_sem] theorem Y1t : autoK [fI 8 0 1 0, lJ 9 2 8 0, oI 10 (.call 92 [.t 9]) 0, oI 11 (.call 91 [.t 10]) 0, fI 12 2 1 0, lJ 13 2 12 0, oI 14 (.callw 91 [.t 13]) 0, mI 4 11 0, mI 5 14 0] = (0, 0) := Yhd
def Zfa:List IOp := [mI 15 4 0,oI 16 (.slen (.t 15)) 0,oI 17 (.bin .gtr (.t 16) (cI 4000)) 0,mI 18 17 0,gI 19 (.mv (.t 5)) 0 18 false,gI 20 (.slen (.t 19)) 0 18 false,gI 21 (.bin .gtr (.t 20) (cI 4000)) 0 18 false,oI 22 (.pick (.t 18) (.c (.bool true)) (.t 21)) 0]
def Zz7:List IOp := [oI 2 (.mv (.c (.str ⟨#[]⟩))) 0,oI 3 (.mv (.c (.bool false))) 0]
def Zj7:List IOp := [fI 23 0 1 0,fI 24 0 23 0,lI 25 24 0]
def Z1c:List IOp := [mI 26 4 0,oI 27 (.bin .add (.c (.str ⟨#[45]⟩)) (.t 26)) 0,mI 4 27 0]
def Zj1:List IOp := [mI 28 5 0,oI 29 (.bin .neq (.t 28) (.c (.str ⟨#[49]⟩))) 0]
def Z0b:List IOp := [mI 30 4 0,mI 31 5 0,oI 32 (.bin .add (.c (.str ⟨#[47]⟩)) (.t 31)) 0,oI 33 (.bin .add (.t 30) (.t 32)) 0,mI 4 33 0]
def Zh2:List IOp := [mI 34 4 0,mI 2 34 0,oI 3 (.mv (.c (.bool true))) 0]
def Yqn:CC := .seq (.rg false Yay) (.seq (.rg false Yc3) (.seq (.rg true Z0d) (.seq (.seq (.rg false Zfa) (.cond (.t 22) (.seq (.rg false Zz7) .ret) .skip)) (.seq (.seq (.rg false Zj7) (.cond (.t 25) (.rg false Z1c) .skip)) (.seq (.seq (.rg false Zj1) (.cond (.t 29) (.rg false Z0b) .skip)) (.seq (.rg false Zh2) .ret))))))
abbrev Yjr:Nat:=63
theorem Ys3:fnOk Tryz.prog 63=some (35,Yqn,[.tmp 2,.tmp 3]):=by kernel_rfl
def Z6k:List IOp := [oI 4 (.alloc [.bool false,.nils,.bool false,.nils]) 0]
def Z88:List IOp := [mI 5 0 0,oI 6 (.call 64 [.t 5]) 0,mI 7 1 0,oI 8 (.call 64 [.t 7]) 0,oI 9 (.call 66 [.t 6,.t 8]) 0,oI 10 (.call 73 [.t 9]) 0,⟨none,.st 4 (.t 4) (.t 10),0,[],[],none⟩]
def Yko:CC := .seq (.rg false Z6k) (.seq (.rg false Z88) .ret)
abbrev Z5o:Nat:=89
theorem Ynq:fnOk Tryz.prog 89=some (11,Yko,[.cell 4 (some 4)]):=by kernel_rfl
def Z7y:List IOp := [oI 2 (.mv (cI 0)) 0]
def Z8m:List IOp := [oI 3 (.mv (cI 0)) 0]
def Zwu:List IOp := [mI 4 3 0,mI 5 0 0,oI 6 (.len (.t 5)) 0,oI 7 (.bin .lss (.t 4) (.t 6)) 0]
def Z7m:List IOp := [mI 10 0 0,mI 11 3 0,xI 12 1 10 11 0,lI 13 12 0,oI 14 (.call 42 [.t 13]) 0,oI 15 (.un .not (.t 14)) 0]
def Z77:List IOp := [oI 2 (.mv (cI 2)) 0]
def Z8f:List IOp := [mI 8 3 0,oI 9 (.bin .add (.t 8) (cI 1)) 0,mI 3 9 0]
def Z7p:CC := .seq (.seq (.rg false Zwu) (.cond (.t 7) .skip (.exit 0))) (.seq (.block 1 (.seq (.rg false Z7m) (.cond (.t 15) (.seq (.rg false Z77) .ret) .skip))) (.rg false Z8f))
def Z8t:List IOp := [oI 2 (.mv (cI 0)) 0]
def Ylk:CC := .seq (.rg false Z7y) (.seq (.seq (.rg false Z8m) (.block 0 (.loop Z7p))) (.seq (.rg false Z8t) .ret))
abbrev Ygc:Nat:=24
theorem Yni:fnOk Tryz.prog 24=some (16,Ylk,[.tmp 2]):=by kernel_rfl
end GoAbs
namespace GoAbs
open Go Go.Proofs
def AllD (l:List UInt8):Prop:=∀ c,c∈l→isDig c
theorem Zw1:numL []=0:=rfl
theorem Ycm {l:List UInt8}(h:AllD l) (h0:l ≠ []) (hh:l.head? ≠ some 48):decL (numL l)=l:=by
 have main:∀ k (l:List UInt8),l.length=k→AllD l→l.head? ≠ some 48→(l ≠ []→numL l≠0)∧(digs (numL l)).reverse=l:=by
  intro k
  induction k with
  | zero =>
   intro l hl _ _
   have:l = []:=List.length_eq_zero_iff.1 hl
   subst this
   exact ⟨fun h=>absurd rfl h,by rw [Zw1,Zf6]; rfl⟩
  | succ k ih =>
   intro l hl hd hh
   obtain ⟨r,c,rfl⟩:∃ r c,l=r ++ [c]:=by
    cases h:l.getLast? with
    | none=>rw [List.getLast?_eq_none_iff] at h; subst h; simp at hl
    | some c=>obtain ⟨r,rfl⟩:=List.getLast?_eq_some_iff.1 h; exact ⟨r,c,rfl⟩
   have hc:=hd c (by simp)
   have hrd:AllD r:=fun x hx=>hd x (by simp [hx])
   unfold isDig at hc
   rw [Zuv]
   have hn:10*numL r+(c.toNat - 48)≠0:=by
    by_cases hr:r = []
    ·subst hr
     simp only [List.nil_append,List.head?_cons] at hh
     have:c.toNat≠48:=fun e=>hh (by congr 1; exact UInt8.toNat_inj.1 e)
     omega
    ·have hrh:r.head? ≠ some 48:=fun e=>hh (by
      cases r with
      | nil=>exact absurd rfl hr
      | cons x r=>simpa using e)
     have:=(ih r (by simp at hl; exact hl) hrd hrh).1 hr
     omega
   refine ⟨fun _=>hn,?_⟩
   rw [Zfu hn]
   have e1:(10*numL r+(c.toNat - 48)) / 10=numL r:=by omega
   have e2:UInt8.ofNat (48+(10*numL r+(c.toNat - 48)) % 10)=c:=by
    have:48+(10*numL r+(c.toNat - 48)) % 10=c.toNat:=by omega
    rw [this]; exact UInt8.ofNat_toNat
   rw [e1,e2,List.reverse_cons]
   congr 1
   by_cases hr:r = []
   ·subst hr; rw [Zw1,Zf6]; rfl
   ·exact (ih r (by simp at hl; exact hl) hrd (fun e=>hh (by
     cases r with
     | nil=>exact absurd rfl hr
     | cons x r=>simpa using e))).2
 obtain ⟨m1,m2⟩:=main l.length l rfl h hh
 unfold decL
 rw [if_neg (m1 h0)]
 exact m2
def four (d:Nat):List UInt8 := [UInt8.ofNat (48+d / 1000),UInt8.ofNat (48+d / 100 % 10),UInt8.ofNat (48+d / 10 % 10),UInt8.ofNat (48+d % 10)]
theorem Zce {x:Nat}(h:x<10):(UInt8.ofNat (48+x)).toNat=48+x:=by rw [UInt8.toNat_ofNat']; exact Nat.mod_eq_of_lt (by omega)
theorem Y4d {d:Nat}(h:d<10000):numL (four d)=d:=by
 unfold four numL
 simp only [List.foldl_cons,List.foldl_nil]
 rw [Zce (by omega),Zce (by omega),Zce (by omega),Zce (by omega)]
 omega
theorem Y20 {d:Nat}(h:d<10000):AllD (four d):=fun c hc=>by
 unfold four at hc
 unfold isDig
 simp only [List.mem_cons,List.not_mem_nil,or_false] at hc
 rcases hc with rfl | rfl | rfl | rfl
 ·rw [Zce (by omega)]; omega
 ·rw [Zce (by omega)]; omega
 ·rw [Zce (by omega)]; omega
 ·rw [Zce (by omega)]; omega
theorem Xax {m:Bool}{A:List Nat}(hA:Od A) (hla:A.length≤100000000) {K:Ex→St→Prop}
  (hK:∀ (e:Nat→AV) (F:List UInt8) (H:Heap),AllD F→numL F=vd A→F.length=4*A.length→e 3 = .str (bs F)→K (.exit 0) ⟨e,H⟩) :
  T Tryz.prog 53 0 (.loop Zkc) ⟨envL [(1,.ptr 0 0),(3,.str (bs [])),(4,.int .i64 ((A.length:Int) - 1))],[.cells [.bool m,.sl (ic A)]]⟩ K:=by
 refine Zaf (fun z:Nat×List UInt8=>⟨envL [(1,.ptr 0 0),(3,.str (bs z.2)),(4,.int .i64 ((z.1:Int) - 1))],[.cells [.bool m,.sl (ic A)]]⟩)
  (fun z=>z.1≤A.length∧AllD z.2∧numL z.2=vd (A.drop z.1)∧z.2.length=4*(A.length - z.1)) (fun z=>z.1) (A.length,[])
  ⟨Nat.le_refl _,fun c hc=>by simp at hc,by simp [Zw1,vd],by simp⟩ (Zab _ (by simp only [go_sem])) (fun z hI N hN=>?_)
 obtain ⟨i,F⟩:=z
 obtain ⟨h1,h2,h3,h4⟩:=hI
 simp only at h1 h2 h3 h4 ⊢
 unfold Zkc
 cases i with
 | zero =>
  have q1:¬ (0:Int)≤((0:Nat):Int) - 1:=by omega
  simp only [go_sem,Zj3,q1]
  rw [List.drop_zero] at h3
  exact hK _ F _ h2 h3 (by omega) (by simp only [go_sem])
 | succ j =>
  have e0:((j+1:Nat):Int) - 1=(j:Int):=by omega
  have q1:(0:Int)≤(j:Int):=by omega
  have e1:IntKind.i64.wrap ((j:Int) - 1)=(j:Int) - 1:=Zac (by omega) (by omega)
  have hx:A[j]? = some (A.getD j 0):=getElem?_getD (by omega)
  have hxl:=hA.get hx
  have hdA:=Ynt (l:=A) (j:=j) (by omega)
  generalize A.getD j 0=x at *
  have p1:¬ (1000:Int)=0:=by omega
  have p2:¬ (100:Int)=0:=by omega
  have p3:¬ (10:Int)=0:=by omega
  have dv:∀ (y k:Nat),y<10000→0<k→IntKind.i64.wrap (((y:Nat):Int).tdiv (k:Int))=((y / k:Nat):Int):=fun y k hy hk=>by
   have:((y:Nat):Int).tdiv (k:Int)=((y / k:Nat):Int):=(Int.ofNat_tdiv y k).symm
   rw [this]
   have hle:=Nat.div_le_self y k
   generalize y / k=w at *
   exact Zac (by omega) (by omega)
  have d1:IntKind.i64.wrap ((x:Int).tdiv 1000)=((x / 1000:Nat):Int):=dv x 1000 hxl (by omega)
  have d2:IntKind.i64.wrap ((x:Int).tdiv 100)=((x / 100:Nat):Int):=dv x 100 hxl (by omega)
  have d3:IntKind.i64.wrap ((x:Int).tdiv 10)=((x / 10:Nat):Int):=dv x 10 hxl (by omega)
  have em:∀ t:Nat,((t:Nat):Int).tmod 10=((t % 10:Nat):Int):=fun t=>Zww (b:=10)
  have ea:∀ t:Nat,t<10→IntKind.i64.wrap (48+((t:Nat):Int))=((48+t:Nat):Int):=fun t ht=>by rw [Zac (by omega) (by omega)]; omega
  have eu:∀ t:Nat,t<10→IntKind.u8.wrap (((48+t:Nat):Int))=(((UInt8.ofNat (48+t)).toNat:Nat):Int):=fun t ht=>by rw [Zce ht,Y6i (by omega) (by omega)]
  have hsz:F.length+4≤4*100000000:=by omega
  simp only [go_sem,Zj3,Zvu,Zwa,Zs2,Zrp,e0,q1,Zn5 hx,p1,p2,p3,d1,d2,d3,em,ea (x / 1000) (by omega),ea (x / 100 % 10) (by omega),ea (x / 10 % 10) (by omega),ea (x % 10) (by omega),eu (x / 1000) (by omega),eu (x / 100 % 10) (by omega),eu (x / 10 % 10) (by omega),eu (x % 10) (by omega),e1]
  refine ⟨four x,rfl,?_⟩
  have hb:(⟨(four x).toArray⟩:ByteArray)=bs (four x):=rfl
  have h4l:(four x).length=4:=rfl
  have hmax:(((bs F).size+(bs (four x)).size:Nat):Int)≤IntKind.i64.max:=by
   rw [Zam,Zam,h4l]
   have:IntKind.i64.max=9223372036854775807:=by decide
   rw [this]; omega
  simp only [go_sem,hb,Zkl]
  refine ⟨hmax,?_⟩
  refine hN (j,F++four x) _ ⟨by simp only; omega,fun c hc=>?_,?_,?_⟩ (by show j<j+1; omega) ?_
  ·rcases List.mem_append.1 hc with hc | hc
   ·exact h2 c hc
   ·exact Y20 hxl c hc
  ·simp only
   rw [Zg5,Y4d hxl,h4l,h3,hdA]
   omega
  ·simp only [List.length_append,h4l]; omega
  ·exact Zbz (Zgb [0] (by decide) (fun i hi=>by omega) [(1,.ptr 0 0),(3,.str (bs (F++four x))),(4,.int .i64 ((j:Int) - 1))] (by simp only [go_sem])) rfl
theorem Xan {F:List UInt8}{n0:Nat}{H:Heap}(hF:AllD F) (h0:numL F≠0) {K:Ex→St→Prop}
  (hK:∀ (e:Nat→AV),e 3 = .str (bs (decL (numL F)))→K (.exit 2) ⟨e,H⟩) :
  T Tryz.prog 53 n0 (.loop Zki) ⟨envL [(3,.str (bs F))],H⟩ K:=by
 refine Zaf (fun z:List UInt8=>⟨envL [(3,.str (bs z))],H⟩) (fun z=>AllD z∧numL z=numL F) (fun z=>z.length) F ⟨hF,rfl⟩ (Zab _ (by simp only [go_sem])) (fun z hI N hN=>?_)
 obtain ⟨h1,h2⟩:=hI
 unfold Zki
 cases z with
 | nil=>rw [Zw1] at h2; exact absurd h2.symm h0
 | cons c z =>
  have gi:(c::z)[0]? = some c:=rfl
  by_cases hc:c.toNat=48
  ·have hci:(c.toNat:Int)=48:=by omega
   have q0:(1:Nat)≤(c::z).length:=by simp
   simp only [go_sem,Zio,Zrh,Zfo,Zam,gi,hci,Zfl]
   refine ⟨Nat.le_refl _,?_⟩
   rw [List.take_length]
   refine hN z _ ⟨fun x hx=>h1 x (by simp [hx]),?_⟩ (by simp) (Zab _ (by simp only [go_sem]))
   rw [← h2]
   have:=Zg5 [c] z
   have hc1:numL [c]=0:=by simp [numL,hc]
   rw [hc1,Nat.zero_mul,Nat.zero_add] at this
   exact this.symm
  ·have hci:¬ (c.toNat:Int)=48:=by omega
   simp only [go_sem,Zio,Zfo,gi,hci]
   have hd:=Ycm h1 (by simp) (by simp only [List.head?_cons]; intro e; apply hc; cases e; rfl)
   rw [h2] at hd
   exact hK _ (by simp only [go_sem,hd])
theorem Yr3 {n:Nat}(hn:Zs n) {m:Bool}:SpecV Tryz.prog Yhq [.agg [.bool m,.sl (ic (dg n))]] (.str (bs (decL n))):=by
 have hlen:=hn.len
 by_cases h0:n=0
 ·subst h0
  refine Zad Zzm (by simp) ?_
  unfold Zur
  simp only [go_sem,Zlf,Zli,Zt3,Zcg,Yqr]
  exact ⟨fun _=>rfl,fun h=>absurd rfl h⟩
 ·refine Zba Zzm (by simp) (Zbg 1 rfl ?_)
  unfold Zur
  have hp:¬ ((dg n).length:Int)=0:=by have:=(Zgz (n:=n)).2 h0; omega
  have e0:IntKind.i64.wrap (((dg n).length:Int) - 1)=((dg n).length:Int) - 1:=Zac (by omega) (by omega)
  simp only [go_sem,Zlf,Zli,Zao,hp]
  refine T_W ?_
  simp only [go_sem,Ztv,Zta,Zao,e0]
  refine Zar [(1,.ptr 0 0),(3,.str (bs [])),(4,.int .i64 (((dg n).length:Int) - 1))] (by simp only [go_sem]; rfl) (Xax (Zum n) hlen (fun e F H g1 g2 g3 k3=>?_))
  rw [Zn9] at g2
  simp only [go_sem]
  refine Zar [(3,.str (bs F))] (by simp only [go_sem,k3]) (Xan g1 (by omega) (fun e2 j3=>?_))
  rw [g2] at j3
  simp only [go_sem,Zrt,j3]
end GoAbs
namespace GoAbs
open Go Go.Proofs
theorem Yro {n:Nat}:decL n = [49]↔n=1:=by
 constructor
 ·intro h
  have h1:n<10:=by have:=Ycu (n:=n) (k:=1) (by rw [h]; simp); omega
  unfold decL at h
  split at h
  ·cases h
  ·rename_i h0
   rw [Zfu h0,show n / 10=0 by omega,Zf6] at h
   simp only [List.reverse_cons,List.reverse_nil,List.nil_append,List.cons.injEq,and_true] at h
   have:=congrArg UInt8.toNat h
   rw [Zce (by omega)] at this
   have h49:(49:UInt8).toNat=49:=rfl
   omega
 ·intro h
  subst h
  exact Ycm (l := [49]) (fun c hc=>by simp at hc; subst hc; decide) (by simp) (by simp)
theorem rnum {n d:Int}{k:Nat}{q:Rat}(h1:Ib k n) (h2:Ib k d) (hd:0<d) (hk:k≤10000000) (hq:Rat.divInt n d=q) :
  SpecV Tryz.prog Yjr [avR n d] (if NumOk q then .tup [.str (bs (numS q)),.bool true] else .tup [.str (bs []),.bool false]):=by
 have hm:Tryz.prog.follows .mixedOrders=true:=by kernel_rfl
 refine Zad Ys3 (by simp) ?_
 unfold Yqn
 have hl:=rlow h1 h2 hd hk
 rw [hq] at hl
 obtain ⟨g1,g2⟩:=Zed (n:=n) (d:=d) (by omega)
 rw [hq] at g1 g2
 have zn:Zs q.num.natAbs:=(h1.zs hk).mono g1
 have zd:Zs q.den:=(h2.zs hk).mono g2
 have ha:=Yy4 (z:=q.num)
 rw [Zav,Zai] at ha
 have f1:=Yr3 zn (m:=false)
 have f2:=Yr3 zd (m:=decide ((q.den:Int)<0))
 rw [Zbl,Zbl] at hl
 rw [Zbl]
 rw [Int.natAbs_natCast] at hl
 have hmax:IntKind.i64.max=9223372036854775807:=rfl
 have c45:(⟨#[45]⟩:ByteArray)=bs [45]:=rfl
 have c47:(⟨#[47]⟩:ByteArray)=bs [47]:=rfl
 have c49:(⟨#[49]⟩:ByteArray)=bs [49]:=rfl
 have hok:NumOk q↔((decL q.num.natAbs).length≤4000∧(decL q.den).length≤4000):=by
  unfold NumOk
  constructor
  ·rintro ⟨h1,h2 | h2⟩
   ·exact ⟨h1,by rw [Yro.2 h2]; simp⟩
   ·exact ⟨h1,h2⟩
  ·rintro ⟨h1,h2⟩; exact ⟨h1,.inr h2⟩
 have hden:(bs (decL q.den)=bs [49])=(q.den=1):=propext (bs_inj.trans Yro)
 simp only [go_sem,Yay,Yc3]
 refine Zaa hl (by simp only [go_sem]) ?_
 simp only [go_sem,Z0d,hm]
 refine Zaa ha (by simp only [go_sem]) ?_
 simp only [go_sem]
 refine Zaa f1 (by simp only [go_sem]) ?_
 simp only [go_sem]
 refine Zaa f2 (by simp only [go_sem]) ?_
 by_cases hA:(decL q.num.natAbs).length≤4000
 ·have q1:¬ (4000:Int)<((decL q.num.natAbs).length:Int):=by omega
  by_cases hB:(decL q.den).length≤4000
  ·have q2:¬ (4000:Int)<((decL q.den).length:Int):=by omega
   rw [if_pos (hok.2 ⟨hA,hB⟩)]
   have m1:((1+(decL q.num.natAbs).length:Nat):Int)≤IntKind.i64.max:=by rw [hmax]; omega
   have m2:((1+(decL q.den).length:Nat):Int)≤IntKind.i64.max:=by rw [hmax]; omega
   have m3:∀ S:List UInt8,S.length≤4001→((S.length+(1+(decL q.den).length):Nat):Int)≤IntKind.i64.max:=fun S hS=>by rw [hmax]; omega
   by_cases hs:q.num<0
   ·by_cases h1:q.den=1
    ·have hden':(bs (decL q.den)=bs [49])=True:=by rw [hden]; simp [h1]
     have hS:numS q = [45]++decL q.num.natAbs ++ []:=by unfold numS; simp [hs,h1]
     rw [hS]
     simp only [go_sem,Zfa,Zj7,Z1c,Zj1,Zh2,Zam,q1,q2,decide_eq_true hs,c45,c47,c49,Zkl,m1,m2,hden',List.length_cons,List.length_append,List.length_nil]
    ·have hden':(bs (decL q.den)=bs [49])=False:=by rw [hden]; simp [h1]
     have hS:numS q = [45]++decL q.num.natAbs++(47::decL q.den):=by unfold numS; simp [hs,h1]
     rw [hS]
     simp only [go_sem,Zfa,Zj7,Z1c,Zj1,Z0b,Zh2,Zam,q1,q2,decide_eq_true hs,c45,c47,c49,Zkl,m1,m2,hden',List.length_cons,List.length_append,List.length_nil]
     rw [hmax]; omega
   ·by_cases h1:q.den=1
    ·have hden':(bs (decL q.den)=bs [49])=True:=by rw [hden]; simp [h1]
     have hS:numS q = []++decL q.num.natAbs ++ []:=by unfold numS; simp [hs,h1]
     rw [hS]
     simp only [go_sem,Zfa,Zj7,Zj1,Zh2,Zam,q1,q2,decide_eq_false hs,c45,c47,c49,Zkl,m1,m2,hden',List.length_cons,List.length_append,List.length_nil]
    ·have hden':(bs (decL q.den)=bs [49])=False:=by rw [hden]; simp [h1]
     have hS:numS q = []++decL q.num.natAbs++(47::decL q.den):=by unfold numS; simp [hs,h1]
     rw [hS]
     simp only [go_sem,Zfa,Zj7,Zj1,Z0b,Zh2,Zam,q1,q2,decide_eq_false hs,c45,c47,c49,Zkl,m1,m2,hden',List.length_cons,List.length_append,List.length_nil]
     rw [hmax]; omega
  ·have q2:(4000:Int)<((decL q.den).length:Int):=by omega
   rw [if_neg (fun h=>hB (hok.1 h).2)]
   simp only [go_sem,Zfa,Zz7,Zam,q1,q2]
   rfl
 ·have q1:(4000:Int)<((decL q.num.natAbs).length:Int):=by omega
  rw [if_neg (fun h=>hA (hok.1 h).1)]
  simp only [go_sem,Zfa,Zz7,Zam,q1]
  rfl
end GoAbs
namespace GoAbs
open Go Go.Proofs
def Ydl:List IOp := [oI 1 (.box (.t 0)) 0,oI 2 (.mv (.c (.str ⟨#[]⟩))) 1]
def Yde:List IOp := [lJ 6 4 1 0,oI 7 (.call 63 [.t 6]) 0,mI 5 7 0,eI 8 0 5 0,eI 9 1 5 0,mI 3 8 0,mI 4 9 0]
def Ydh:List IOp := [mI 10 3 0,mI 2 10 0]
def Yrj:CC := .seq (.rg false Ydl) (.seq (.rg false Yde) (.seq (.rg false Ydh) .ret))
abbrev Ywm:Nat:=30
theorem Ysu:fnOk Tryz.prog 30=some (11,Yrj,[.tmp 2]):=by kernel_rfl
def Z6v:List IOp := [oI 10 (.mv (.c .nils)) 0,oI 11 (.mv (.c (.str ⟨#[]⟩))) 0]
def Z8l:List IOp := [oI 23 (.bsl (some 3) 0 [.int .i64 0,.str ⟨#[]⟩,.nils] []) 0,mI 12 23 1]
def Z8x:List IOp := [mI 24 0 0,oI 25 (.cvi .i64 (.t 24)) 0,oI 26 (.bin .rem (.t 25) (cI 5)) 0,oI 27 (.bin .add (.t 26) (cI 1)) 0,mI 13 27 0]
def Z7u:List IOp := [oI 14 (.mv (cI 0)) 0]
def Zui:List IOp := [mI 28 14 0,mI 29 13 0,oI 30 (.bin .lss (.t 28) (.t 29)) 0]
def Z7b:List IOp := [mI 33 1 0,mI 34 14 0,oI 35 (.call 47 [.t 33,.t 34]) 0,oI 36 (.call 29 [.t 35,cI 3]) 0,oI 37 (.bin .add (.t 36) (cI 1)) 0,mI 38 2 0,mI 39 14 0,oI 40 (.call 47 [.t 38,.t 39]) 0,oI 41 (.bin .rem (.t 40) (cI 50)) 0,oI 42 (.call 31 [.t 41]) 0,oI 43 (.call 30 [.t 42]) 0,oI 44 (.build [.int .i64 0,.str ⟨#[]⟩,.nils] [(0,1,.t 37),(1,1,.t 43)]) 0,oI 15 (.alloc [.int .i64 0,.str ⟨#[]⟩,.nils]) 0,⟨none,.st 3 (.t 15) (.t 44),1,[],[],none⟩]
def Z85:List IOp := [mI 45 3 0,mI 46 14 0,oI 47 (.bin .mul (cI 4) (.t 46)) 0,oI 48 (.call 47 [.t 45,.t 47]) 0,oI 49 (.call 29 [.t 48,cI 3]) 0,oI 50 (.bin .add (.t 49) (cI 1)) 0,mI 16 50 0]
def Z8q:List IOp := [oI 51 (.bsl none 0 [.int .i64 0] []) 0,mI 17 51 1,oI 18 (.mv (cI 0)) 1]
def Z7n:List IOp := [oI 19 (.mv (cI 0)) 0]
def Zqa:List IOp := [mI 52 19 0,mI 53 16 0,oI 54 (.bin .lss (.t 52) (.t 53)) 0]
def Z3s:List IOp := [mI 57 3 0,mI 58 14 0,oI 59 (.bin .mul (cI 4) (.t 58)) 0,mI 60 19 0,oI 61 (.bin .add (.t 59) (.t 60)) 0,oI 62 (.bin .add (.t 61) (cI 1)) 0,oI 63 (.call 47 [.t 57,.t 62]) 0,oI 64 (.bin .quo (.t 63) (cI 7)) 0,oI 65 (.call 29 [.t 64,cI 3]) 0,oI 66 (.bin .add (.t 65) (cI 1)) 0,mI 20 66 0]
def Z27:List IOp := [mI 67 17 0,mI 68 20 0,oI 69 (.bsl none 1 [.int .i64 0] [(0,.t 68)]) 0,oI 70 (.app none 8 (.t 67) (.t 69)) 1,mI 71 18 2,mI 72 20 2,oI 73 (.bin .add (.t 71) (.t 72)) 2,mI 17 70 2,mI 18 73 2]
def Z3v:List IOp := [mI 55 19 0,oI 56 (.bin .add (.t 55) (cI 1)) 0,mI 19 56 0]
def Zwf:CC := .seq (.seq (.rg false Zqa) (.cond (.t 54) .skip (.exit 2))) (.seq (.block 3 (.seq (.rg false Z3s) (.rg false Z27))) (.rg false Z3v))
def Zq0:List IOp := [oI 21 (.mv (cI 0)) 0]
def Zjm:List IOp := [mI 74 21 0,mI 75 16 0,oI 76 (.bin .lss (.t 74) (.t 75)) 0]
def Zo2:List IOp := [mI 79 3 0,mI 80 14 0,oI 81 (.bin .mul (cI 4) (.t 80)) 0,mI 82 21 0,oI 83 (.bin .add (.t 81) (.t 82)) 0,oI 84 (.bin .add (.t 83) (cI 1)) 0,oI 85 (.call 47 [.t 79,.t 84]) 0,mI 86 13 0,oI 87 (.call 29 [.t 85,.t 86]) 0,oI 88 (.build [.int .i64 0,.str ⟨#[]⟩] [(0,1,.t 87)]) 0,oI 22 (.alloc [.int .i64 0,.str ⟨#[]⟩]) 0,⟨none,.st 2 (.t 22) (.t 88),1,[],[],none⟩]
def Zpz:List IOp := [fI 89 0 15 0,lI 90 89 0,oI 91 (.bin .eql (.t 90) (cI 3)) 0]
def Z1m:List IOp := [mI 92 17 0,mI 93 21 0,xI 94 1 92 93 0,lI 95 94 0,mI 96 18 0,oI 97 (.call 89 [.t 95,.t 96]) 0,oI 98 (.call 30 [.t 97]) 0,fI 99 1 22 0,⟨none,.st 1 (.t 99) (.t 98),0,[],[],none⟩]
def Zpl:List IOp := [fI 100 2 15 0,lI 101 100 0,lJ 102 2 22 0,oI 103 (.bsl (some 2) 1 [.int .i64 0,.str ⟨#[]⟩] [(0,.t 102)]) 0,oI 104 (.app (some 2) 24 (.t 101) (.t 103)) 1,fI 105 2 15 2,⟨none,.st 1 (.t 105) (.t 104),2,[],[],none⟩]
def Zof:List IOp := [mI 77 21 0,oI 78 (.bin .add (.t 77) (cI 1)) 0,mI 21 78 0]
def Zlx:CC := .seq (.seq (.rg false Zjm) (.cond (.t 76) .skip (.exit 4))) (.seq (.block 5 (.seq (.rg false Zo2) (.seq (.seq (.rg false Zpz) (.cond (.t 91) (.rg false Z1m) .skip)) (.rg false Zpl)))) (.rg false Zof))
def Zgf:List IOp := [mI 106 12 0,lJ 107 3 15 0,oI 108 (.bsl (some 3) 1 [.int .i64 0,.str ⟨#[]⟩,.nils] [(0,.t 107)]) 0,oI 109 (.app (some 3) 48 (.t 106) (.t 108)) 1,mI 12 109 2]
def Z35:List IOp := [mI 31 14 0,oI 32 (.bin .add (.t 31) (cI 1)) 0,mI 14 32 0]
def Zva:CC := .seq (.seq (.rg false Zui) (.cond (.t 30) .skip (.exit 0))) (.seq (.block 1 (.seq (.rg false Z7b) (.seq (.rg false Z85) (.seq (.rg false Z8q) (.seq (.seq (.rg false Z7n) (.block 2 (.loop Zwf))) (.seq (.seq (.rg false Zq0) (.block 4 (.loop Zlx))) (.rg false Zgf))))))) (.rg false Z35))
def Zpp:List IOp := [mI 110 12 0,mI 111 4 0,oI 112 (.cvi .i64 (.t 111)) 0,oI 113 (.bin .rem (.t 112) (cI 7)) 0,mI 114 4 0,oI 115 (.cvi .i64 (.t 114)) 0,oI 116 (.bin .rem (.t 115) (cI 7)) 0,oI 117 (.bin .add (.t 116) (cI 1)) 0,mI 118 4 0,oI 119 (.cvi .i64 (.t 118)) 0,oI 120 (.bin .quo (.t 119) (cI 7)) 0,oI 121 (.bin .rem (.t 120) (cI 3)) 0,oI 122 (.bin .add (.t 117) (.t 121)) 0,oI 123 (.call 89 [.t 113,.t 122]) 0,oI 124 (.call 30 [.t 123]) 0,mI 10 110 0,mI 11 124 0]
def Ymb:CC := .seq (.rg false Z6v) (.seq (.rg false Z8l) (.seq (.rg false Z8x) (.seq (.seq (.rg false Z7u) (.block 0 (.loop Zva))) (.seq (.rg false Zpp) .ret))))
abbrev Yvh:Nat:=60
theorem Ynw:fnOk Tryz.prog 60=some (125,Ymb,[.tmp 10,.tmp 11]):=by kernel_rfl
end GoAbs
namespace GoAbs
open Go Go.Proofs
theorem rover {a b:Int}:SpecV Tryz.prog Yt4 [avZ a,avZ b] (if b<0 then avR (-a) (-b) else avR a b):=by
 have hm:Tryz.prog.follows .mixedOrders=true:=by kernel_rfl
 refine Zad Ypj (by simp) ?_
 unfold Yle
 have n1:=Yp6 (z:=a)
 have n2:=Yp6 (z:=b)
 rw [Zai,Zai] at n1 n2
 rw [Zai,Zai]
 by_cases h:b<0
 ·rw [if_pos h,Zbl]
  simp only [go_sem,Ztj,Zs0,Ztr,Zuj,h,decide_true,hm]
  simp only [h,decide_true] at n2
  refine Zaa n1 (by simp only [go_sem]) ?_
  simp only [go_sem]
  refine Zaa n2 (by simp only [go_sem]) ?_
  simp only [go_sem]
 ·rw [if_neg h,Zbl]
  simp only [go_sem,Ztj,Zs0,Zuj,h,decide_false]
theorem rsubq {n1 d1 n2 d2:Int}{k:Nat}(h1:Ib k n1) (h2:Ib k d1) (h3:Ib k n2) (h4:Ib k d2) (hk:k≤1000000):SpecV Tryz.prog Yvg [avR n1 d1,avR n2 d2] (avR (n1*d2 - n2*d1) (d1*d2)):=by
 have hm:Tryz.prog.follows .mixedOrders=true:=by kernel_rfl
 refine Zad Ypg (by simp) ?_
 unfold Yls
 have z1:=h1.zs (by omega)
 have z2:=h2.zs (by omega)
 have z3:=h3.zs (by omega)
 have z4:=h4.zs (by omega)
 have m1:=Yfg z1 z4
 have m2:=Yfg z3 z2
 have m3:=Yfg z2 z4
 have m4:=Ysa ((h1.mul h4).zs (by omega)) ((h3.mul h2).zs (by omega))
 rw [Zai,Zai,Zai] at m1 m2 m3 m4
 rw [Zbl,Zbl,Zbl]
 simp only [go_sem,Z8r,Zuw,hm]
 refine Zaa m1 (by simp only [go_sem]) ?_
 simp only [go_sem]
 refine Zaa m2 (by simp only [go_sem]) ?_
 simp only [go_sem]
 refine Zaa m4 (by simp only [go_sem]) ?_
 simp only [go_sem]
 refine Zaa m3 (by simp only [go_sem]) ?_
 simp only [go_sem]
theorem rcmpq {n1 d1 n2 d2:Int}{k:Nat}(h1:Ib k n1) (h2:Ib k d1) (h3:Ib k n2) (h4:Ib k d2) (hk:k≤1000000):SpecV Tryz.prog Yfj [avR n1 d1,avR n2 d2] (.int .i64 (if n1*d2=n2*d1 then 0 else if n1*d2<n2*d1 then -1 else 1)):=by
 have hm:Tryz.prog.follows .mixedOrders=true:=by kernel_rfl
 refine Zad Ype (by simp) ?_
 unfold Ykd
 have z1:=h1.zs (by omega)
 have z2:=h2.zs (by omega)
 have z3:=h3.zs (by omega)
 have z4:=h4.zs (by omega)
 have m1:=Yfg z1 z4
 have m2:=Yfg z3 z2
 have m4:=Yxc ((h1.mul h4).zs (by omega)) ((h3.mul h2).zs (by omega))
 rw [Zai,Zai,Zai] at m1 m2
 rw [Zai,Zai] at m4
 rw [Zbl,Zbl]
 simp only [go_sem,Z80,Zuz,hm]
 refine Zaa m1 (by simp only [go_sem]) ?_
 simp only [go_sem]
 refine Zaa m2 (by simp only [go_sem]) ?_
 simp only [go_sem]
 refine Zaa m4 (by simp only [go_sem]) ?_
 simp only [go_sem]
theorem rmake {n d:Int}(hn:n.natAbs≤9223372036854775807) (hd:0<d) (hdl:d≤9223372036854775807):SpecV Tryz.prog Z5o [.int .i64 n,.int .i64 d] (avR (Rat.divInt n d).num (Rat.divInt n d).den):=by
 refine Zad Ynq (by simp) ?_
 unfold Yko
 have i1:=Z6y (v:=n) (by omega)
 have i2:=Z6y (v:=d) (by omega)
 have o:=rover (a:=n) (b:=d)
 rw [if_neg (by omega)] at o
 have c:(9223372036854775808:Nat)=2 ^ 63:=by decide
 have l:=rlow (n:=n) (d:=d) (k:=63) (by unfold Ib; omega) (by unfold Ib; omega) hd (by omega)
 rw [Zai] at i1 i2
 rw [Zai,Zai,Zbl] at o
 rw [Zbl,Zbl] at l
 rw [Zbl]
 simp only [go_sem,Z6k,Z88]
 refine Zaa i1 (by simp only [go_sem]) ?_
 simp only [go_sem]
 refine Zaa i2 (by simp only [go_sem]) ?_
 simp only [go_sem]
 refine Zaa o (by simp only [go_sem]) ?_
 simp only [go_sem]
 refine Zaa l (by simp only [go_sem]) ?_
 simp only [go_sem]
end GoAbs
namespace GoAbs
open Go Go.Proofs
theorem Y8m {l:List UInt8}{lo hi n0:Nat}{b1 b2:Blk}(hlo:lo≤hi) (hh:hi≤lo+4) (hl:hi≤l.length) (hll:l.length≤4000) {K:Ex→St→Prop}
  (hbad:∀ e:Nat→AV,¬ AllD l→e 2 = .ptr 0 0→e 3 = .bool false→K .ret ⟨e,[.cells [.bool false,.nils],b1,b2]⟩)
  (hK:∀ e:Nat→AV,AllD ((l.take hi).drop lo)→e 0 = .str (bs l)→e 2 = .ptr 0 0→e 4 = .ptr 1 0→e 5 = .int .i64 (hi:Int)→e 6 = .int .i64 (numL ((l.take hi).drop lo):Int)→K (.exit 2) ⟨e,[.cells [.bool false,.nils],b1,b2]⟩) :
  T Tryz.prog 69 n0 (.loop Zmh) ⟨envL [(0,.str (bs l)),(2,.ptr 0 0),(4,.ptr 1 0),(5,.int .i64 (hi:Int)),(6,.int .i64 0),(7,.int .i64 (lo:Int))],[.cells [.bool false,.nils],b1,b2]⟩ K:=by
 refine Zaf (fun i:Nat=>⟨envL [(0,.str (bs l)),(2,.ptr 0 0),(4,.ptr 1 0),(5,.int .i64 (hi:Int)),(6,.int .i64 (numL ((l.take i).drop lo):Int)),(7,.int .i64 (i:Int))],[.cells [.bool false,.nils],b1,b2]⟩)
  (fun i=>lo≤i∧i≤hi∧AllD ((l.take i).drop lo)) (fun i=>hi - i) lo
  ⟨Nat.le_refl _,hlo,fun c hc=>by rw [List.drop_eq_nil_of_le (by simp; omega)] at hc; simp at hc⟩ (Zab _ (by
   have:(l.take lo).drop lo = []:=List.drop_eq_nil_of_le (by simp; omega)
   simp only [go_sem,this,Zw1]; simp)) (fun i hI N hN=>?_)
 obtain ⟨h1,h2,h3⟩:=hI
 unfold Zmh
 by_cases hi':i<hi
 ·obtain ⟨c,gi⟩:∃ c,l[i]? = some c:=⟨_,List.getElem?_eq_getElem (show i<l.length by omega)⟩
  have p1:(i:Int)<(hi:Int):=by omega
  have p2:(0:Int)≤(i:Int):=by omega
  have e6:IntKind.i64.wrap ((i:Int)+1)=((i+1:Nat):Int):=by rw [Zac (by omega) (by omega)]; omega
  have hst:(l.take (i+1)).drop lo=(l.take i).drop lo ++ [c]:=by
   rw [List.take_add_one,gi]
   rw [List.drop_append_of_le_length (by simp; omega)]; rfl
  have hlt:numL ((l.take i).drop lo)<10 ^ 4:=by
   refine Nat.lt_of_lt_of_le (Zv3 h3) (Nat.pow_le_pow_right (by omega) ?_)
   simp; omega
  by_cases c1:c.toNat<48
  ·have q1:(c.toNat:Int)<48:=by omega
   have hnd:¬ AllD l:=fun h=>by have:=h c (List.mem_of_getElem? gi); unfold isDig at this; omega
   simp only [go_sem,Zei,Zge,Zkd,p1,p2,Zfo,gi,q1]
   exact hbad _ hnd (by simp only [go_sem]) (by simp only [go_sem])
  ·have q1:¬ (c.toNat:Int)<48:=by omega
   by_cases c2:57<c.toNat
   ·have q2:(57:Int)<(c.toNat:Int):=by omega
    have hnd:¬ AllD l:=fun h=>by have:=h c (List.mem_of_getElem? gi); unfold isDig at this; omega
    simp only [go_sem,Zei,Zge,Zkd,p1,p2,Zfo,gi,q1,q2]
    exact hbad _ hnd (by simp only [go_sem]) (by simp only [go_sem])
   ·have q2:¬ (57:Int)<(c.toNat:Int):=by omega
    have e1:IntKind.u8.wrap ((c.toNat:Int) - 48)=((c.toNat - 48:Nat):Int):=by rw [Y6i (by omega) (by omega)]; omega
    have e2:IntKind.i64.wrap ((c.toNat - 48:Nat):Int)=((c.toNat - 48:Nat):Int):=Zac (by omega) (by omega)
    have e3:IntKind.i64.wrap (10*((numL ((l.take i).drop lo):Nat):Int))=((10*numL ((l.take i).drop lo):Nat):Int):=by rw [Zac (by omega) (by omega)]; omega
    have e4:IntKind.i64.wrap (((10*numL ((l.take i).drop lo):Nat):Int)+((c.toNat - 48:Nat):Int))=((numL ((l.take (i+1)).drop lo):Nat):Int):=by
     rw [hst,Zuv,Zac (by omega) (by omega)]; omega
    simp only [go_sem,Zei,Zge,Zua,Zud,p1,p2,Zfo,gi,q1,q2,e1,e2,e3,e4,e6]
    refine hN (i+1) _ ⟨by omega,by omega,fun x hx=>?_⟩ (by omega) (Zab _ (by simp only [go_sem]))
    rw [hst] at hx
    rcases List.mem_append.1 hx with hx | hx
    ·exact h3 x hx
    ·simp at hx; subst hx; unfold isDig; omega
 ·have he:i=hi:=by omega
  subst he
  have p1:¬ (i:Int)<(i:Int):=by omega
  simp only [go_sem,Zei,p1]
  exact hK _ h3 (by simp only [go_sem]) (by simp only [go_sem]) (by simp only [go_sem]) (by simp only [go_sem]) (by simp only [go_sem])
theorem Xbu {l:List UInt8}(hl0:l ≠ []) (hll:l.length≤4000) {K:Ex→St→Prop}
  (hbad:∀ (e:Nat→AV) (b1 b2:Blk),¬ AllD l→e 2 = .ptr 0 0→e 3 = .bool false→K .ret ⟨e,[.cells [.bool false,.nils],b1,b2]⟩)
  (hK:∀ (e:Nat→AV) (s:List Nat),AllD l→Od s→vd s=numL l→s.length≤4001→e 2 = .ptr 0 0→e 4 = .ptr 1 0→K (.exit 0) ⟨e,[.cells [.bool false,.nils],.cells [.bool false,.osl none 2 0 s.length],.cells (ic s)]⟩) :
  T Tryz.prog 69 0 (.loop Zhf) ⟨envL [(0,.str (bs l)),(2,.ptr 0 0),(4,.ptr 1 0),(5,.int .i64 (l.length:Int))],[.cells [.bool false,.nils],.cells [.bool false,.osl none 2 0 0],.cells []]⟩ K:=by
 refine Zaf (fun s:List Nat=>⟨envL [(0,.str (bs l)),(2,.ptr 0 0),(4,.ptr 1 0),(5,.int .i64 ((l.length:Int) - 4*s.length))],[.cells [.bool false,.nils],.cells [.bool false,.osl none 2 0 s.length],.cells (ic s)]⟩)
  (fun s=>Od s∧4*s.length<l.length+4∧AllD (l.drop (l.length - 4*s.length))∧vd s=numL (l.drop (l.length - 4*s.length))) (fun s=>l.length+4 - 4*s.length) []
  ⟨fun x hx=>by simp at hx,by simp,fun c hc=>by simp at hc,by simp [vd,Zw1]⟩ (Zab _ (by simp only [go_sem]; simp)) (fun s hI N hN=>?_)
 obtain ⟨h1,h2,h3,h4⟩:=hI
 unfold Zhf
 by_cases hgo:4*s.length<l.length
 ·obtain ⟨hi,hhi⟩:∃ hi,hi=l.length - 4*s.length:=⟨_,rfl⟩
  obtain ⟨lo,hlo⟩:∃ lo,lo=hi - 4:=⟨_,rfl⟩
  have ehi:(l.length:Int) - 4*(s.length:Int)=(hi:Int):=by omega
  have p1:(0:Int)<(hi:Int):=by omega
  have e1:IntKind.i64.wrap ((hi:Int) - 4)=(hi:Int) - 4:=Zac (by omega) (by omega)
  have e2:(if (hi:Int) - 4 > 0 then (hi:Int) - 4 else 0)=(lo:Int):=by split <;> omega
  simp only [go_sem,Zmf,Zxv,Zxr,ehi,p1,e1]
  rw [← hhi] at h3 h4
  have hlo2:l.length - 4*(s.length+1)=lo:=by omega
  refine Zar [(0,.str (bs l)),(2,.ptr 0 0),(4,.ptr 1 0),(5,.int .i64 (hi:Int)),(6,.int .i64 0),(7,.int .i64 (lo:Int))] (by simp only [go_sem,e2])
   (Y8m (by omega) (by omega) (by omega) hll (fun e hn k2 k3=>by simp only [go_sem]; exact hbad e _ _ hn k2 k3) (fun e g1 k0 k2 k4 k5 k6=>?_))
  have hsz:(s.length+1)*8≤1099511627776:=by omega
  have hfit:s.length≤(ic s).length:=by rw [Zao]; omega
  have htake:(ic s).take s.length=ic s:=List.take_of_length_le (by rw [Zao]; omega)
  have e3:(hi:Int) - 4=(l.length:Int) - 4*((s.length+1:Nat):Int):=by omega
  have hgl:((l.take hi).drop lo).length≤4:=by simp; omega
  have hsplit:l.drop lo=(l.take hi).drop lo++l.drop hi:=by
   have h:=List.take_append_drop hi l
   conv=>lhs; rw [← h]
   rw [List.drop_append_of_le_length (by simp; omega)]
  have hnum:numL (l.drop lo)=numL ((l.take hi).drop lo)*10000 ^ s.length+numL (l.drop hi):=by
   rw [hsplit,Zg5]
   have:(l.drop hi).length=4*s.length:=by rw [List.length_drop]; omega
   rw [this,Nat.pow_mul]
  have hd4:numL ((l.take hi).drop lo)<10000:=by
   have h1:=Zv3 g1
   have h2:10 ^ ((l.take hi).drop lo).length≤10 ^ 4:=Nat.pow_le_pow_right (by omega) hgl
   exact Nat.lt_of_lt_of_le h1 h2
  generalize numL ((l.take hi).drop lo)=d at *
  simp only [go_sem,Zwe,Ztn,k4,k5,k6,hsz,hfit,htake,e1]
  refine hN (s ++ [d]) _ ⟨h1.append (fun x hx=>by simp at hx; omega),by rw [List.length_append,List.length_singleton]; omega,?_,?_⟩ (by show _<_; rw [List.length_append,List.length_singleton]; omega) ?_
  ·rw [List.length_append,List.length_singleton,hlo2,hsplit]
   intro x hx
   rcases List.mem_append.1 hx with hx | hx
   ·exact g1 x hx
   ·exact h3 x hx
  ·rw [List.length_append,List.length_singleton,hlo2,hnum,Zk4,h4]
   simp only [vd,Nat.mul_zero,Nat.add_zero]
   rw [Nat.mul_comm d]; omega
  ·refine Zbz (Zgb [0,1,4] (by decide) (fun i hi=>by omega) [(0,.str (bs l)),(2,.ptr 0 0),(4,.ptr 1 0),(5,.int .i64 ((l.length:Int) - 4*((s.length+1:Nat):Int)))] (by simp only [go_sem,k0,k2,k4,e3])) ?_
   have h1:ic s ++ [AV.int .i64 (d:Int)]=ic (s ++ [d]):=by rw [Ybq]; rfl
   simp only [List.length_append,List.length_singleton]
   congr 1
   show [Blk.cells [.bool false,.nils],Blk.cells [.bool false,.osl none 2 0 (s.length+1)],Blk.cells (gcL _ (ic s ++ [AV.int .i64 (d:Int)]))]=_
   rw [h1,Y3f]
 ·have p1:¬ (0:Int)<(l.length:Int) - 4*(s.length:Int):=by omega
  have hz:l.length - 4*s.length=0:=by omega
  rw [hz,List.drop_zero] at h3 h4
  simp only [go_sem,Zmf,p1]
  exact hK _ s h3 h1 h4 (by omega) (by simp only [go_sem]) (by simp only [go_sem])
end GoAbs
namespace GoAbs
open Go Go.Proofs
def digR (l:List UInt8):AV:=if digOk l then .tup [avZ (numL l),.bool true] else .tup [.agg [.bool false,.nils],.bool false]
theorem rdigits {l:List UInt8}(hlen:l.length≤1000000000):SpecV Tryz.prog Yk8 [.str (bs l)] (digR l):=by
 refine Zba Yjg (by simp) (Zbg 1 rfl ?_)
 unfold Ych
 have tail:∀ (e:Nat→AV),l ≠ []→l.length≤4000→¬ (l.head? = some 48∧1<l.length)→e 0 = .str (bs l)→e 2 = .ptr 0 0 →
   T Tryz.prog 69 0 (.seq (.rg false Zmj) (.seq (.seq (.rg false Zne) (.block 0 (.loop Zhf))) (.seq (.rg false Zk2) .ret))) ⟨e,[.cells [.bool false,.nils]]⟩ (retQ [.cell 2 (some 2),.tmp 3] (digR l)):=fun e h0 hl h48 k0 k2=>by
  refine Zbc (T_W ?_)
  simp only [go_sem,Zmj]
  refine Zar [(0,.str (bs l)),(2,.ptr 0 0),(4,.ptr 1 0)] (by simp only [go_sem,k0,k2]) ?_
  refine T_le (Yab (b:=1) (l := [.bool false,.nils]) (l' := [.bool false,.osl none 2 0 0]) rfl rfl (fun j x y hx hy=>?_)) (T_le Yl6 ?_)
  ·match j,hx,hy with
   | 0,hx,hy=>simp at hx hy; subst hx; subst hy; exact .inl rfl
   | 1,hx,hy=>simp at hx hy; subst hx; subst hy; exact .inr ⟨rfl,_,_,_,rfl⟩
   | j+2,hx,hy=>simp at hx
  refine Zbc (Zbc (T_W ?_))
  simp only [go_sem,Zne,Zam]
  refine Za8 ?_
  refine Zar [(0,.str (bs l)),(2,.ptr 0 0),(4,.ptr 1 0),(5,.int .i64 (l.length:Int))] (by simp only [go_sem]) ?_
  refine Xbu h0 hl (fun e2 b1 b2 hn j2 j3=>?_) (fun e2 s g1 g2 g3 g4 j2 j4=>?_)
  ·have hr:digR l = .tup [.agg [.bool false,.nils],.bool false]:=by unfold digR; rw [if_neg (fun h=>hn h.1)]
   rw [hr]
   simp only [go_sem,j2,j3]
  ·have hr:digR l = .tup [avZ (numL l),.bool true]:=by unfold digR; rw [if_pos ⟨g1,h0,h48,hl⟩]
   rw [hr]
   have hln:=Zmg (m:=false) g2 (by omega)
   rw [g3] at hln
   simp only [Bool.false_eq_true,if_false] at hln
   rw [Zav] at hln ⊢
   simp only [go_sem]
   refine T_W ?_
   simp only [go_sem,Zk2,j2,j4]
   refine Zjb (ids := [2]) hln ?_ ?_
   ·simp only [go_sem]
    exact Ylq (r:=s) rfl (by simp) rfl (by rw [List.drop_zero]; exact List.take_of_length_le (by simp [Zao]))
   simp only [go_sem,j2]
 have bad:¬ digOk l→digR l = .tup [.agg [.bool false,.nils],.bool false]:=fun h=>by unfold digR; rw [if_neg h]
 by_cases h0:l = []
 ·have q1:(l.length:Int)<1:=by rw [h0]; simp
  rw [bad (fun h=>h.2.1 h0)]
  simp only [go_sem,Zcm,Zcs,Zhr,Zam,q1]
 ·have hpos:0<l.length:=List.length_pos_iff.2 h0
  have q1:¬ (l.length:Int)<1:=by omega
  obtain ⟨c,gi⟩:∃ c,l[0]? = some c:=⟨_,List.getElem?_eq_getElem hpos⟩
  have hhd:l.head? = some c:=by rw [List.head?_eq_getElem?]; exact gi
  by_cases h4:l.length≤4000
  ·have q2:¬ (4000:Int)<(l.length:Int):=by omega
   by_cases hc:c=48
   ·have hci:(c.toNat:Int)=48:=by rw [hc]; rfl
    by_cases h1:1<l.length
    ·have q3:(1:Int)<(l.length:Int):=by omega
     rw [bad (fun h=>h.2.2.1 ⟨by rw [hhd,hc],h1⟩)]
     simp only [go_sem,Zcm,Zcs,Zhr,Zam,Zfo,gi,q1,q2,q3,hci]
    ·have q3:¬ (1:Int)<(l.length:Int):=by omega
     simp only [go_sem,Zcm,Zcs,Zam,Zfo,gi,q1,q2,q3,hci]
     exact tail _ h0 h4 (fun h=>h1 h.2) (by simp only [go_sem]) (by simp only [go_sem])
   ·have hci:¬ (c.toNat:Int)=48:=fun h=>hc (UInt8.toNat_inj.1 (by have:(48:UInt8).toNat=48:=rfl; omega))
    simp only [go_sem,Zcm,Zcs,Zam,Zfo,gi,q1,q2,hci]
    exact tail _ h0 h4 (fun h=>hc (by rw [hhd] at h; simpa using h.1)) (by simp only [go_sem]) (by simp only [go_sem])
  ·have q2:(4000:Int)<(l.length:Int):=by omega
   rw [bad (fun h=>h4 h.2.2.2)]
   simp only [go_sem,Zcm,Zcs,Zhr,Zam,q1,q2]
end GoAbs
namespace GoAbs
open Go Go.Proofs
def befL (o:List UInt8):List UInt8:=o.takeWhile (· != 47)
def aftL (o:List UInt8):List UInt8:=(o.dropWhile (· != 47)).tail
theorem Yz0 {o:List UInt8}{i:Nat}{c:UInt8}(h:o[i]? = some c):(befL (o.drop i))=if c=47 then [] else c::befL (o.drop (i+1)):=by
 obtain ⟨hi,he⟩:=List.getElem?_eq_some_iff.1 h
 rw [List.drop_eq_getElem_cons hi,he]
 unfold befL
 rw [List.takeWhile_cons]
 by_cases hc:c=47 <;> simp [hc]
theorem Yyj {o:List UInt8}{m:Bool}{n0:Nat}{H:Heap}(ho:o.length≤1000000000) {K:Ex→St→Prop}
  (hK:∀ e:Nat→AV,e 2 = .ptr 0 0→e 4 = .str (bs o)→e 5 = .bool m→e 6 = .int .i64 ((befL o).length:Int)→K (.exit 0) ⟨e,H⟩) :
  T Tryz.prog 98 n0 (.loop Zjn) ⟨envL [(2,.ptr 0 0),(4,.str (bs o)),(5,.bool m),(6,.int .i64 (o.length:Int)),(7,.int .i64 ((o.length:Int) - 1))],H⟩ K:=by
 refine Zaf (fun i:Nat=>⟨envL [(2,.ptr 0 0),(4,.str (bs o)),(5,.bool m),(6,.int .i64 ((i+(befL (o.drop i)).length:Nat):Int)),(7,.int .i64 ((i:Int) - 1))],H⟩)
  (fun i=>i≤o.length) (fun i=>i) o.length (Nat.le_refl _) (Zab _ (by simp only [go_sem,List.drop_length]; simp [befL])) (fun i hi N hN=>?_)
 unfold Zjn
 cases i with
 | zero =>
  have q1:¬ (0:Int)≤((0:Nat):Int) - 1:=by omega
  simp only [go_sem,Zjv,q1]
  exact hK _ (by simp only [go_sem]) (by simp only [go_sem]) (by simp only [go_sem]) (by simp only [go_sem,List.drop_zero,Nat.zero_add])
 | succ j =>
  have e0:((j+1:Nat):Int) - 1=(j:Int):=by omega
  have q1:(0:Int)≤(j:Int):=by omega
  have e1:IntKind.i64.wrap ((j:Int) - 1)=(j:Int) - 1:=Zac (by omega) (by omega)
  obtain ⟨c,gi⟩:∃ c,o[j]? = some c:=⟨_,List.getElem?_eq_getElem (show j<o.length by omega)⟩
  have hb:=Yz0 gi
  by_cases hc:c=47
  ·have hci:(c.toNat:Int)=47:=by rw [hc]; rfl
   rw [if_pos hc] at hb
   simp only [go_sem,Zjv,Zmq,Zy8,Zmz,e0,q1,Zfo,gi,hci,e1]
   refine hN j _ (by omega) (by omega) (Zab _ (by simp only [go_sem,hb]; try simp))
  ·have hci:¬ (c.toNat:Int)=47:=fun h=>hc (UInt8.toNat_inj.1 (by have:(47:UInt8).toNat=47:=rfl; omega))
   rw [if_neg hc] at hb
   simp only [go_sem,Zjv,Zmq,Zmz,e0,q1,Zfo,gi,hci,e1]
   refine hN j _ (by omega) (by omega) (Zab _ (by simp only [go_sem,hb,List.length_cons]; simp; try omega))
theorem Yh9 (o:List UInt8):o.take (befL o).length=befL o:=by
 have h:=List.takeWhile_append_dropWhile (p:=(· != 47)) (l:=o)
 have h2:(o.takeWhile (· != 47)++o.dropWhile (· != 47)).take (befL o).length=befL o:=List.take_left' rfl
 rwa [h] at h2
theorem Yrd (o:List UInt8):(befL o).length<o.length↔47∈o:=by
 have h:=List.takeWhile_append_dropWhile (p:=(· != 47)) (l:=o)
 have hl:=congrArg List.length h
 rw [List.length_append] at hl
 have key:(o.dropWhile (· != 47)) = []↔¬ 47∈o:=by
  clear h hl
  induction o with
  | nil=>simp
  | cons x o ih =>
   rw [List.dropWhile_cons]
   by_cases hx:x=47
   ·subst hx; simp
   ·have hx':¬ 47=x:=fun e=>hx e.symm
    simp [hx,hx',ih]
 unfold befL
 constructor
 ·intro h1
  by_cases h2:47∈o
  ·exact h2
  ·rw [key.2 h2] at hl; simp at hl; omega
 ·intro h1
  have:(o.dropWhile (· != 47)) ≠ []:=fun e=>key.1 e h1
  have:=List.length_pos_iff.2 this
  omega
theorem Yin (o:List UInt8):o.drop ((befL o).length+1)=aftL o:=by
 have h:=List.takeWhile_append_dropWhile (p:=(· != 47)) (l:=o)
 rw [← List.drop_drop]
 have:o.drop (befL o).length=o.dropWhile (· != 47):=by
  have h2:(o.takeWhile (· != 47)++o.dropWhile (· != 47)).drop (befL o).length=o.dropWhile (· != 47):=List.drop_left' rfl
  rwa [h] at h2
 rw [this]
 unfold aftL
 rw [List.drop_one]
end GoAbs
namespace GoAbs
open Go Go.Proofs
def badR:AV := .tup [.agg [.bool false,.nils,.bool false,.nils],.bool false]
def digC (l:List UInt8):List AV:=if digOk l then [.bool false,.sl (ic (dg (numL l)))] else [.bool false,.nils]
theorem Yxq (l:List UInt8):digR l = .tup [.agg (digC l),.bool (decide (digOk l))]:=by
 unfold digR digC
 by_cases h:digOk l
 ·rw [if_pos h,if_pos h,Zav]; simp [h]
 ·rw [if_neg h,if_neg h]; simp [h]
theorem Ye4 {e:Nat→AV}{a:List UInt8}{m:Bool}{D:Nat}{rest:Heap}(e2:e 2 = .ptr 0 0) (e5:e 5 = .bool m) (e8:e 8 = .ptr 1 0) (e9:e 9 = .bool (decide (digOk a))) (e10:e 10 = .ptr 2 0) :
  T Tryz.prog 98 0 (.seq (.seq (.rg false Zbo) (.cond (.t 90) (.seq (.rg false Zcn) .ret) .skip)) (.seq (.seq (.rg false Zcw) (.cond (.t 92) (.rg false Zem) .skip)) (.seq (.rg false Zcu) .ret)))
   ⟨e,.cells [.bool false,.nils,.bool false,.nils] :: .cells (digC a) :: .cells [.bool false,.sl (ic (dg D))]::rest⟩
   (retQ [.cell 2 (some 4),.tmp 3] (if digOk a∧¬ (m=true∧numL a=0) then .tup [avR (if m then -(numL a:Int) else numL a) (D:Int),.bool true] else badR)):=by
 refine T_W ?_
 have hz2:([AV.bool false,.nils]:List AV).length=2:=rfl
 by_cases hA:digOk a
 ·have hc:digC a = [.bool false,.sl (ic (dg (numL a)))]:=by unfold digC; rw [if_pos hA]
  have hd:decide (digOk a)=true:=by simp [hA]
  rw [hc]
  cases m with
  | false =>
   have hr:(if digOk a∧¬ (false=true∧numL a=0) then AV.tup [avR (if false=true then -(numL a:Int) else numL a) (D:Int),.bool true] else badR) = .tup [.agg [.bool false,.sl (ic (dg (numL a))),.bool false,.sl (ic (dg D))],.bool true]:=by
    rw [if_pos ⟨hA,by simp⟩,Zbl]; simp
   rw [hr]
   simp only [go_sem,Zbo,Zcw,Zcu,e2,e5,e8,e9,e10,hd,Bool.not_true,Bool.not_false]
  | true =>
   by_cases h0:numL a=0
   ·have hr:(if digOk a∧¬ (true=true∧numL a=0) then AV.tup [avR (if true=true then -(numL a:Int) else numL a) (D:Int),.bool true] else badR)=badR:=if_neg (fun h=>h.2 ⟨rfl,h0⟩)
    rw [hr]
    have hl:(((dg (numL a)).length:Nat):Int)=0:=by rw [h0,Zcg]; rfl
    unfold badR
    simp only [go_sem,Zbo,Zcn,e2,e5,e8,e9,e10,hd,Bool.not_true,Bool.not_false,Zao,hl]
   ·have hr:(if digOk a∧¬ (true=true∧numL a=0) then AV.tup [avR (if true=true then -(numL a:Int) else numL a) (D:Int),.bool true] else badR) = .tup [.agg [.bool (decide (-(numL a:Int)<0)),.sl (ic (dg (-(numL a:Int)).natAbs)),.bool false,.sl (ic (dg D))],.bool true]:=by
     rw [if_pos ⟨hA,fun h=>h0 h.2⟩,Zbl]; simp
    rw [hr]
    have hl:¬ (((dg (numL a)).length:Nat):Int)=0:=by have:=(Zgz (n:=numL a)).2 h0; omega
    have hn:=Yp6 (z:=(numL a:Int))
    rw [Zav,Zai] at hn
    simp only [go_sem,Zbo,Zcw,Zem,e2,e5,e8,e9,e10,hd,Bool.not_true,Bool.not_false,Zao,hl]
    refine Zaa hn (by simp only [go_sem]) ?_
    simp only [go_sem,Zcu,e2,e8,e10]
 ·have hc:digC a = [.bool false,.nils]:=by unfold digC; rw [if_neg hA]
  have hd:decide (digOk a)=false:=by simp [hA]
  rw [hc,if_neg (fun h=>hA h.1)]
  unfold badR
  simp only [go_sem,Zbo,Zcn,e2,e5,e8,e9,e10,hd,Bool.not_true,Bool.not_false]
end GoAbs
namespace GoAbs
open Go Go.Proofs
def slashOk (o:List UInt8):Prop:=digOk (aftL o)∧2≤numL (aftL o)∧Nat.gcd (if digOk (befL o) then numL (befL o) else 0) (numL (aftL o))=1
instance (o:List UInt8):Decidable (slashOk o):=by unfold slashOk; infer_instance
def midR (o:List UInt8) (m:Bool):AV :=
 if 47∈o→slashOk o then (if digOk (befL o)∧¬ (m=true∧numL (befL o)=0) then .tup [avR (if m then -(numL (befL o):Int) else numL (befL o)) ((if 47∈o then numL (aftL o) else 1:Nat):Int),.bool true] else badR) else badR
theorem Y5d {H:Heap}{a:List UInt8}:BVs H [] (digC a) [.bool false,.sl (ic (dg (if digOk a then numL a else 0)))]:=by
 unfold digC
 by_cases h:digOk a
 ·rw [if_pos h,if_pos h]; simp only [go_sem]
 ·rw [if_neg h,if_neg h,Zcg,Yqr]; simp only [go_sem]
theorem Yhc {a:List UInt8}:(digC a).length=2:=by unfold digC; split <;> rfl
theorem Yrw {l:List UInt8}(h:digOk l):lenD (numL l)≤4000:=by
 refine Zpy (Nat.lt_of_lt_of_le (Zv3 h.1) ?_)
 exact Nat.le_trans (Nat.pow_le_pow_right (by omega) h.2.2.2) (Nat.pow_le_pow_left (show 10≤10000 by decide) 4000)
theorem Yvl {e:Nat→AV}{o:List UInt8}{m:Bool}(ho:o.length≤1000000000) (e2:e 2 = .ptr 0 0) (e4:e 4 = .str (bs o)) (e5:e 5 = .bool m) (e6:e 6 = .int .i64 ((befL o).length:Int)) :
  T Tryz.prog 98 0 (.seq (.rg false Zhb) (.seq (.rg false Zg8) (.seq (.seq (.rg false Zhk) (.cond (.t 53) (.seq (.rg false Zhc) (.seq (.seq (.rg true Zcv) (.cond (.t 77) (.seq (.rg false Zcp) .ret) .skip)) (.rg false Zhj))) .skip))
   (.seq (.seq (.rg false Zbo) (.cond (.t 90) (.seq (.rg false Zcn) .ret) .skip)) (.seq (.seq (.rg false Zcw) (.cond (.t 92) (.rg false Zem) .skip)) (.seq (.rg false Zcu) .ret))))))
   ⟨e,[.cells [.bool false,.nils,.bool false,.nils]]⟩ (retQ [.cell 2 (some 4),.tmp 3] (midR o m)):=by
 have hm:Tryz.prog.follows .mixedOrders=true:=by kernel_rfl
 refine Zbg 2 rfl ?_
 have hbl:(befL o).length≤o.length:=by
  have:=congrArg List.length (Yh9 o)
  rw [List.length_take] at this
  omega
 have p0:(0:Int)≤((befL o).length:Int):=by omega
 have hdA:=rdigits (l:=befL o) (by omega)
 rw [Yxq] at hdA
 have hdB:=rdigits (l:=aftL o) (by rw [← Yin,List.length_drop]; omega)
 rw [Yxq] at hdB
 have i1:SpecV Tryz.prog Ydr [.int .i64 1] (.agg [.bool false,.sl (ic (dg 1))]):=by
  have:=Z6y (v:=1) (by decide)
  rwa [show avZ 1 = .agg [.bool false,.sl (ic (dg 1))] from Zav (m:=1)] at this
 have i2:SpecV Tryz.prog Ydr [.int .i64 2] (.agg [.bool false,.sl (ic (dg 2))]):=by
  have:=Z6y (v:=2) (by decide)
  rwa [show avZ 2 = .agg [.bool false,.sl (ic (dg 2))] from Zav (m:=2)] at this
 have htk:o.take (befL o).length=befL o:=Yh9 o
 have d2:(digC (befL o)).drop 2 = []:=List.drop_eq_nil_of_le (by rw [Yhc]; omega)
 have dl:=Yhc (a:=befL o)
 simp only [go_sem,Zhb,Zg8,Zhk,e2,e4,e5,e6,Zam,Zfl,htk,p0,hbl,List.drop_zero]
 refine ⟨by omega,?_⟩
 refine Zaa hdA (by simp only [go_sem]) ?_
 simp only [go_sem,dl,d2]
 refine Zaa i1 (by simp only [go_sem]) ?_
 by_cases h47:47∈o
 ·have q1:((befL o).length:Int)<(o.length:Int):=by have:=(Yrd o).2 h47; omega
  have e1:IntKind.i64.wrap (((befL o).length:Int)+1)=(((befL o).length+1:Nat):Int):=by rw [Zac (by omega) (by omega)]; omega
  have p1:(0:Int)≤(((befL o).length+1:Nat):Int):=by omega
  have hle:(befL o).length+1≤o.length:=by omega
  have hdr:(o.take o.length).drop ((befL o).length+1)=aftL o:=by rw [List.take_length]; exact Yin o
  have hmid:midR o m=if slashOk o then (if digOk (befL o)∧¬ (m=true∧numL (befL o)=0) then .tup [avR (if m then -(numL (befL o):Int) else numL (befL o)) (numL (aftL o):Int),.bool true] else badR) else badR:=by
   unfold midR
   simp only [h47,if_true,true_implies]
  have db:=Yhc (a:=aftL o)
  have d2b:(digC (aftL o)).drop 2 = []:=List.drop_eq_nil_of_le (by omega)
  have t2b:(digC (aftL o)).take 2=digC (aftL o):=List.take_of_length_le (by omega)
  have t2a:(digC (befL o)).take 2=digC (befL o):=List.take_of_length_le (by omega)
  have l2a:2≤(digC (befL o)).length:=by omega
  have l2b:2≤(digC (aftL o)).length:=by omega
  simp only [go_sem,e2,e4,e5,e6,Zam,Zfl,q1,Zhc,e1,p1,hle,hdr]
  refine ⟨Nat.le_refl _,?_⟩
  refine Zaa hdB (by simp only [go_sem]) ?_
  by_cases hB:digOk (aftL o)
  ·have hd:decide (digOk (aftL o))=true:=by simp [hB]
   have hcB:digC (aftL o) = [.bool false,.sl (ic (dg (numL (aftL o))))]:=by unfold digC; rw [if_pos hB]
   have lB:=Yrw hB
   rw [hcB] at db d2b t2b l2b ⊢
   rw [hd]
   simp only [go_sem,db,d2b,Zcv,hm,Bool.not_true]
   refine Zaa i2 (by simp only [go_sem]) ?_
   simp only [go_sem]
   have hc2:=Yxc (a:=(numL (aftL o):Int)) (b:=2) (by rw [Int.natAbs_natCast]; unfold Zs; omega) (by have:lenD 2≤1:=Zw0 (by omega); show lenD 2≤_; omega)
   rw [Zav,show avZ 2 = .agg [.bool false,.sl (ic (dg 2))] from Zav (m:=2)] at hc2
   refine Zaa hc2 (by simp only [go_sem]) ?_
   by_cases hD2:2≤numL (aftL o)
   ·have hlt:¬ (if (numL (aftL o):Int)=2 then (0:Int) else if (numL (aftL o):Int)<2 then -1 else 1)<0:=by split <;> (try split) <;> omega
    obtain ⟨N',hN'⟩:∃ N',N'=(if digOk (befL o) then numL (befL o) else 0):=⟨_,rfl⟩
    have lN:lenD N'≤10000000:=by
     rw [hN']; split
     ·rename_i h; have:=Yrw h; omega
     ·show (dg 0).length≤_; rw [Zcg]; simp
    have hgcd:=Y6w (a:=(N':Int)) (b:=(numL (aftL o):Int)) (by rw [Int.natAbs_natCast]; exact lN) (by rw [Int.natAbs_natCast]; omega)
    have hgn:Int.gcd (N':Int) (numL (aftL o):Int)=Nat.gcd N' (numL (aftL o)):=rfl
    rw [hgn,Zav,Zav,Zav] at hgcd
    have lg:lenD (Nat.gcd N' (numL (aftL o)))≤4000:=Nat.le_trans (Za7 (Nat.le_of_dvd (by omega) (Nat.gcd_dvd_right _ _))) lB
    have hc1:=Yxc (a:=(Nat.gcd N' (numL (aftL o)):Int)) (b:=1) (by rw [Int.natAbs_natCast]; unfold Zs; omega) (by have:lenD 1≤1:=Zw0 (by omega); show lenD 1≤_; omega)
    rw [Zav,show avZ 1 = .agg [.bool false,.sl (ic (dg 1))] from Zav (m:=1)] at hc1
    have bvA:=fun (H:Heap)=>Y5d (H:=H) (a:=befL o)
    rw [← hN'] at bvA
    simp only [go_sem,hlt,l2a,t2a]
    refine Zus (ids := []) hgcd (by simp only [go_sem]; exact bvA _) (.inl rfl) (fun b hb=>by simp at hb) ?_
    simp only [go_sem]
    refine Zaa i1 (by simp only [go_sem]) ?_
    simp only [go_sem]
    refine Zaa hc1 (by simp only [go_sem]) ?_
    by_cases hg:Nat.gcd N' (numL (aftL o))=1
    ·have hne:(if ((Nat.gcd N' (numL (aftL o)):Nat):Int)=1 then (0:Int) else if ((Nat.gcd N' (numL (aftL o)):Nat):Int)<1 then -1 else 1)=0:=if_pos (by omega)
     have hso:slashOk o:=⟨hB,hD2,by rw [← hN']; exact hg⟩
     rw [hmid,if_pos hso]
     simp only [go_sem,hne,Zhj]
     exact Ye4 (by simp only [go_sem,e2]) (by simp only [go_sem,e5]) (by simp only [go_sem]) (by simp only [go_sem]) (by simp only [go_sem])
    ·have hne:¬ (if ((Nat.gcd N' (numL (aftL o)):Nat):Int)=1 then (0:Int) else if ((Nat.gcd N' (numL (aftL o)):Nat):Int)<1 then -1 else 1)=0:=by
      rw [if_neg (by omega)]; split <;> omega
     have hso:¬ slashOk o:=fun h=>hg (by rw [hN']; exact h.2.2)
     rw [hmid,if_neg hso]
     unfold badR
     simp only [go_sem,hne,Zcp,e2]
   ·have hlt:(if (numL (aftL o):Int)=2 then (0:Int) else if (numL (aftL o):Int)<2 then -1 else 1)<0:=by rw [if_neg (by omega),if_pos (by omega)]; omega
    have hso:¬ slashOk o:=fun h=>hD2 h.2.1
    rw [hmid,if_neg hso]
    unfold badR
    simp only [go_sem,hlt,Zcp,e2]
  ·have hd:decide (digOk (aftL o))=false:=by simp [hB]
   have hso:¬ slashOk o:=fun h=>hB h.1
   rw [hd,hmid,if_neg hso]
   unfold badR
   simp only [go_sem,db,d2b,Zcv,Zcp,hm,Bool.not_false,e2]
 ·have q1:¬ ((befL o).length:Int)<(o.length:Int):=fun h=>h47 ((Yrd o).1 (by omega))
  have hmid:midR o m=if digOk (befL o)∧¬ (m=true∧numL (befL o)=0) then .tup [avR (if m then -(numL (befL o):Int) else numL (befL o)) ((1:Nat):Int),.bool true] else badR:=by
   unfold midR
   simp only [h47,if_false,false_implies,if_true]
  rw [hmid]
  simp only [go_sem,e2,e4,e5,e6,Zam,q1]
  exact Ye4 (D:=1) (rest := []) (by simp only [go_sem,e2]) (by simp only [go_sem,e5]) (by simp only [go_sem]) (by simp only [go_sem]) (by simp only [go_sem])
end GoAbs
namespace GoAbs
open Go Go.Proofs
def refP (l:List UInt8):AV:=if 8002<l.length then badR else midR (signL l).1 (signL l).2
theorem Yt7 {l:List UInt8}(hlen:l.length≤1000000000):SpecV Tryz.prog Yc9 [.str (bs l)] (refP l):=by
 refine Zba Yjp (by simp) (Zbg 4 rfl ?_)
 unfold Yf7
 by_cases hbig:8002<l.length
 ·have q1:(8002:Int)<(l.length:Int):=by omega
  unfold refP
  rw [if_pos hbig]
  unfold badR
  simp only [go_sem,Zfz,Zfr,Zfq,Z25,Zam,q1]
 ·have q1:¬ (8002:Int)<(l.length:Int):=by omega
  unfold refP
  rw [if_neg hbig]
  have tail:∀ (e:Nat→AV) (o:List UInt8) (m:Bool),o.length≤1000000000→e 2 = .ptr 0 0→e 4 = .str (bs o)→e 5 = .bool m→e 6 = .int .i64 (o.length:Int) →
    T Tryz.prog 98 0 (.seq (.seq (.rg false Zo0) (.block 0 (.loop Zjn))) (.seq (.rg false Zhb) (.seq (.rg false Zg8) (.seq (.seq (.rg false Zhk) (.cond (.t 53) (.seq (.rg false Zhc) (.seq (.seq (.rg true Zcv) (.cond (.t 77) (.seq (.rg false Zcp) .ret) .skip)) (.rg false Zhj))) .skip))
     (.seq (.seq (.rg false Zbo) (.cond (.t 90) (.seq (.rg false Zcn) .ret) .skip)) (.seq (.seq (.rg false Zcw) (.cond (.t 92) (.rg false Zem) .skip)) (.seq (.rg false Zcu) .ret)))))))
     ⟨e,[.cells [.bool false,.nils,.bool false,.nils]]⟩ (retQ [.cell 2 (some 4),.tmp 3] (midR o m)):=fun e o m ho k2 k4 k5 k6=>by
   have e1:IntKind.i64.wrap ((o.length:Int) - 1)=(o.length:Int) - 1:=Zac (by omega) (by omega)
   refine Zbc (Zbc (T_W ?_))
   simp only [go_sem,Zo0,k4,Zam,e1]
   refine Za8 ?_
   refine Zar [(2,.ptr 0 0),(4,.str (bs o)),(5,.bool m),(6,.int .i64 (o.length:Int)),(7,.int .i64 ((o.length:Int) - 1))] (by simp only [go_sem,k2,k4,k5,k6]) ?_
   refine Yyj ho (fun e2 j2 j4 j5 j6=>?_)
   simp only [go_sem]
   exact Yvl ho j2 j4 j5 j6
  by_cases hpos:0<l.length
  ·have q2:(0:Int)<(l.length:Int):=by omega
   obtain ⟨c,gi⟩:∃ c,l[0]? = some c:=⟨_,List.getElem?_eq_getElem hpos⟩
   have hhd:l.head? = some c:=by rw [List.head?_eq_getElem?]; exact gi
   by_cases hc:c=45
   ·have hci:(c.toNat:Int)=45:=by rw [hc]; rfl
    have hs:signL l=(l.tail,true):=by unfold signL; rw [if_pos (by rw [hhd,hc])]
    have h1:1≤l.length:=hpos
    have hdr:(l.take l.length).drop 1=l.tail:=by rw [List.take_length,List.drop_one]
    rw [hs]
    simp only [go_sem,Zfz,Zfr,Zfq,Zjs,Z30,Zjk,Zam,Zfo,Zfl,q1,q2,gi,hci,h1,hdr]
    refine ⟨Nat.le_refl _,?_⟩
    exact tail _ l.tail true (by rw [List.length_tail]; omega) (by simp only [go_sem]) (by simp only [go_sem]) (by simp only [go_sem]) (by simp only [go_sem])
   ·have hci:¬ (c.toNat:Int)=45:=fun h=>hc (UInt8.toNat_inj.1 (by have:(45:UInt8).toNat=45:=rfl; omega))
    have hs:signL l=(l,false):=by unfold signL; rw [if_neg (by rw [hhd]; simpa using hc)]
    rw [hs]
    simp only [go_sem,Zfz,Zfr,Zfq,Zjs,Zjk,Zam,Zfo,q1,q2,gi,hci]
    exact tail _ l false hlen (by simp only [go_sem]) (by simp only [go_sem]) (by simp only [go_sem]) (by simp only [go_sem])
  ·have q2:¬ (0:Int)<(l.length:Int):=by omega
   have hs:signL l=(l,false):=by
    have:l = []:=List.length_eq_zero_iff.1 (by omega)
    subst this; rfl
   rw [hs]
   simp only [go_sem,Zfz,Zfr,Zfq,Zjs,Zjk,Zam,q1,q2]
   exact tail _ l false hlen (by simp only [go_sem]) (by simp only [go_sem]) (by simp only [go_sem]) (by simp only [go_sem])
end GoAbs
namespace GoAbs
open Go Go.Proofs
theorem Yz3 {o:List UInt8}(h:47 ∉ o):befL o=o:=by
 have h1:=Yh9 o
 have h2:¬ (befL o).length<o.length:=fun h3=>h ((Yrd o).1 h3)
 rw [List.take_of_length_le (by omega)] at h1
 exact h1.symm
theorem Yzq (l:List UInt8):(cutL l).1=befL l:=by
 unfold cutL
 split
 ·rfl
 ·rename_i h; exact (Yz3 h).symm
theorem Yg9 (l:List UInt8):(cutL l).2.2=decide (47∈l):=by
 unfold cutL
 split
 ·rename_i h; simp [h]
 ·rename_i h; simp [h]
theorem Yxg {l:List UInt8}(h:47∈l):(cutL l).2.1=aftL l:=by
 unfold cutL
 rw [if_pos h]; rfl
theorem Y3a (l:List UInt8):signL (befL l)=(befL (signL l).1,(signL l).2)∧(47∈l↔47∈(signL l).1)∧aftL l=aftL (signL l).1:=by
 cases l with
 | nil=>exact ⟨rfl,Iff.rfl,rfl⟩
 | cons c r =>
  by_cases hc:c=45
  ·subst hc
   have hs:signL (45::r)=(r,true):=rfl
   have hb:befL (45::r)=45::befL r:=by unfold befL; rw [List.takeWhile_cons]; rfl
   rw [hs,hb]
   refine ⟨rfl,by simp,?_⟩
   unfold aftL
   rw [List.dropWhile_cons]; rfl
  ·have hs:signL (c::r)=(c::r,false):=by unfold signL; rw [if_neg (by simpa using hc)]
   rw [hs]
   refine ⟨?_,Iff.rfl,rfl⟩
   by_cases h47:c=47
   ·subst h47; rfl
   ·have hb:befL (c::r)=c::befL r:=by unfold befL; rw [List.takeWhile_cons]; simp [h47]
    rw [hb]
    unfold signL
    rw [if_neg (by simpa using hc)]
theorem Yme {n:Int}{d:Nat}(hd:0<d) (hg:Int.gcd n d=1):(Rat.divInt n d).num=n∧(Rat.divInt n d).den=d:=by
 have hg':Int.gcd (d:Int) n=1:=by rw [Int.gcd_comm]; exact hg
 refine ⟨?_,?_⟩
 ·rw [Rat.num_divInt,hg',Int.sign_eq_one_of_pos (by omega)]; simp
 ·rw [Rat.den_divInt,if_neg (by omega),hg']; simp
theorem Ywi {o:List UInt8}(h:47∈o):o.length=(befL o).length+1+(aftL o).length:=by
 have h1:=(Yrd o).2 h
 have h2:=congrArg List.length (Yin o)
 rw [List.length_drop] at h2
 omega
theorem Y09 (l:List UInt8):refP l=match parseL l with | some q => .tup [avR q.num q.den,.bool true] | none=>badR:=by
 obtain ⟨s1,s2,s3⟩:=Y3a l
 have hll:l.length≤(signL l).1.length+1:=by unfold signL; split <;> simp <;> omega
 have hp1:(partsL l).1=if (signL l).2 then -(numL (befL (signL l).1):Int) else numL (befL (signL l).1):=by unfold partsL; rw [Yzq,s1]
 have hp2:(partsL l).2.1=if 47∈(signL l).1 then numL (aftL (signL l).1) else 1:=by
  unfold partsL
  simp only [Yg9,decide_eq_true_eq,s2]
  by_cases h:47∈(signL l).1
  ·rw [if_pos h,if_pos h,Yxg (s2.2 h),s3]
  ·rw [if_neg h,if_neg h]
 have hp3:((partsL l).2.2=true)↔47∈(signL l).1:=by unfold partsL; simp only [Yg9,decide_eq_true_eq,s2]
 have hform:formL l↔(digOk (befL (signL l).1)∧(47∈(signL l).1→digOk (aftL (signL l).1)∧1<numL (aftL (signL l).1))∧¬ ((signL l).2=true∧numL (befL (signL l).1)=0)):=by
  unfold formL
  rw [Yzq,s1,Yg9]
  simp only [decide_eq_true_eq,s2]
  by_cases h:47∈(signL l).1
  ·rw [Yxg (s2.2 h),s3]
  ·simp [h]
 unfold parseL
 rw [hp1,hp2]
 simp only [hform,hp3]
 unfold refP midR
 have hs':(signL l).1=(signL l).1:=rfl
 by_cases hA:digOk (befL (signL l).1)
 ·by_cases hM:(signL l).2=true∧numL (befL (signL l).1)=0
  ·simp only [hM,and_true,not_true,and_false,false_and,if_false,ite_self]
  ·have hcond:(digOk (befL (signL l).1)∧¬ ((signL l).2=true∧numL (befL (signL l).1)=0)):=⟨hA,hM⟩
   generalize hz:(if (signL l).2=true then -(numL (befL (signL l).1):Int) else (numL (befL (signL l).1):Int))=z at *
   have hgz:∀ D:Nat,Int.gcd z (D:Int)=Nat.gcd (numL (befL (signL l).1)) D:=fun D=>by
    rw [← hz]; split
    ·rw [Int.neg_gcd]; rfl
    ·rfl
   by_cases h47:47∈(signL l).1
   ·simp only [h47,if_true,true_implies]
    by_cases hS:slashOk (signL l).1
    ·obtain ⟨g1,g2,g3⟩:=hS
     rw [if_pos hA] at g3
     have hg:=hgz (numL (aftL (signL l).1))
     rw [g3] at hg
     have hlen:=Ywi h47
     have hb1:=hA.2.2.2
     have hb2:=g1.2.2.2
     rw [if_neg (show ¬ 8002<l.length by omega),if_pos (show slashOk (signL l).1 from ⟨g1,g2,by rw [if_pos hA]; exact g3⟩),if_pos hcond,if_pos ⟨⟨hA,⟨g1,by omega⟩,hM⟩,hg⟩]
     obtain ⟨q1,q2⟩:=Yme (n:=z) (d:=numL (aftL (signL l).1)) (by omega) hg
     simp only [q1,q2]
    ·have hno:¬ ((digOk (befL (signL l).1)∧(digOk (aftL (signL l).1)∧1<numL (aftL (signL l).1))∧¬ ((signL l).2=true∧numL (befL (signL l).1)=0))∧Int.gcd z (numL (aftL (signL l).1):Int)=1):=fun h=>hS ⟨h.1.2.1.1,by have:=h.1.2.1.2; omega,by rw [if_pos hA, ← hgz]; exact h.2⟩
     rw [if_neg hS,if_neg hno,ite_self]
   ·simp only [h47,if_false,false_implies,if_true,true_and]
    have hb1:=hA.2.2.2
    rw [Yz3 h47] at hb1
    rw [if_neg (show ¬ 8002<l.length by omega),if_pos hcond,if_pos ⟨hcond,trivial⟩]
    obtain ⟨q1,q2⟩:=Yme (n:=z) (d:=1) (by omega) (by rw [hgz]; simp)
    simp only [q1,q2]
 ·simp only [hA,false_and,if_false,ite_self]
end GoAbs
namespace GoAbs
open Go Go.Proofs
theorem rparse {l:List UInt8}(hlen:l.length≤1000000000):SpecV Tryz.prog Yc9 [.str (bs l)] (match parseL l with | some q => .tup [avR q.num q.den,.bool true] | none=>badR):=by
 have:=Yt7 hlen
 rwa [Y09] at this
theorem rvalid {l:List UInt8}(hlen:l.length≤1000000000):SpecV Tryz.prog Ya2 [.str (bs l)] (.bool (parseL l).isSome):=by
 have hp:=rparse hlen
 refine Zad Ykk (by simp) ?_
 unfold Yf0
 cases h:parseL l with
 | some q =>
  rw [h] at hp
  simp only [Zbl] at hp
  simp only [go_sem,Zpn,Zoe]
  refine Zaa hp (by simp only [go_sem]) ?_
  simp only [go_sem,Zqk,Option.isSome_some]
 | none =>
  rw [h] at hp
  unfold badR at hp
  simp only [go_sem,Zpn,Zoe]
  refine Zaa hp (by simp only [go_sem]) ?_
  simp only [go_sem,Zqk,Option.isSome_none]
theorem rof {l:List UInt8}{q:Rat}(hlen:l.length≤1000000000) (h:parseL l=some q):SpecV Tryz.prog Yrt [.str (bs l)] (avR q.num q.den):=by
 have hp:=rparse hlen
 rw [h] at hp
 simp only [Zbl] at hp
 refine Zad Ywy (by simp) ?_
 unfold Ywk
 rw [Zbl]
 simp only [go_sem,Yfx,Yfc]
 refine Zaa hp (by simp only [go_sem]) ?_
 simp only [go_sem,Yfa]
end GoAbs
namespace GoAbs
open Go Go.Proofs
def Z49:List IOp := [oI 0 (.mv (.c (.bool false))) 0]
def Z5a:List IOp := [oI 6 (.build [.int .i64 0,.str ⟨#[]⟩] []) 0,oI 7 (.bsl (some 2) 1 [.int .i64 0,.str ⟨#[]⟩] [(0,.t 6)]) 0,oI 8 (.build [.int .i64 0,.str ⟨#[]⟩,.nils] [(0,1,cI 1),(1,1,.c (.str ⟨#[49]⟩)),(2,1,.t 7)]) 1,oI 9 (.bsl (some 3) 1 [.int .i64 0,.str ⟨#[]⟩,.nils] [(0,.t 8)]) 1,oI 10 (.call 43 [.t 9,.c (.str ⟨#[49,47,50]⟩)]) 2,mI 5 10 2,eI 11 0 5 2,eI 12 1 5 2,mI 1 11 2,mI 2 12 2]
def Z5c:List IOp := [oI 14 (.build [.int .i64 0,.str ⟨#[]⟩] []) 0,oI 15 (.bsl (some 2) 1 [.int .i64 0,.str ⟨#[]⟩] [(0,.t 14)]) 0,oI 16 (.build [.int .i64 0,.str ⟨#[]⟩,.nils] [(0,1,cI 1),(1,1,.c (.str ⟨#[49]⟩)),(2,1,.t 15)]) 1,oI 17 (.bsl (some 3) 1 [.int .i64 0,.str ⟨#[]⟩,.nils] [(0,.t 16)]) 1,oI 18 (.call 15 [.t 17,.c (.str ⟨#[49,47,50]⟩),cI 3]) 2,mI 13 18 2,eI 19 0 13 2,eI 20 1 13 2,mI 3 19 2,mI 4 20 2]
def Z4q:List IOp := [mI 21 2 0,oI 22 (.bin .eql (.t 21) (cI 0)) 0,mI 23 22 0,gI 24 (.mv (.t 1)) 0 23 true,⟨some 25,.bsl none 1 [.str ⟨#[]⟩] [(0,.c (.str ⟨#[50]⟩))],0,[],[],some (23,true)⟩,gI 26 (.call 56 [.t 24,.t 25]) 1 23 true,oI 27 (.pick (.t 23) (.t 26) (.c (.bool false))) 1,mI 28 27 1,gI 29 (.mv (.t 4)) 1 28 true,gI 30 (.bin .eql (.t 29) (cI 0)) 1 28 true,oI 31 (.pick (.t 28) (.t 30) (.c (.bool false))) 1,mI 32 31 1,gI 33 (.mv (.t 3)) 1 32 true,⟨some 34,.bsl none 1 [.str ⟨#[]⟩] [(0,.c (.str ⟨#[55,47,52]⟩))],1,[],[],some (32,true)⟩,gI 35 (.call 56 [.t 33,.t 34]) 2 32 true,oI 36 (.pick (.t 32) (.t 35) (.c (.bool false))) 2,mI 0 36 2]
def Ygz:CC := .seq (.rg false Z49) (.seq (.rg false Z5a) (.seq (.rg false Z5c) (.seq (.rg false Z4q) .ret)))
abbrev Yoq:Nat:=17
theorem Ykt:fnOk Tryz.prog 17=some (37,Ygz,[.tmp 0]):=by kernel_rfl
end GoAbs
namespace GoAbs
open Go Go.Proofs
end GoAbs
namespace GoAbs
open Go Go.Proofs
end GoAbs
namespace GoAbs
open Go Go.Proofs
def numsE (L:List (List UInt8)):Int:=if (L.all fun s=>(parseL s).isSome) then 0 else 2
def strAV (s:List UInt8):AV := .str (bs s)
theorem rnums {L:List (List UInt8)}(hL:L.length≤1000000000) (hl:∀ s,s∈L→s.length≤1000000000):SpecV Tryz.prog Ygc [.sl (L.map strAV)] (.int .i64 (numsE L)):=by
 obtain ⟨ls,hls⟩:∃ ls,ls=L.map strAV:=⟨_,rfl⟩
 have hlsl:ls.length=L.length:=by rw [hls,List.length_map]
 rw [← hls]
 refine Zad Yni (by simp) ?_
 unfold Ylk
 simp only [go_sem,Z7y,Z8m]
 refine Zaf (fun i:Nat=>⟨envL [(0,.sl ls),(3,.int .i64 (i:Int))],[]⟩) (fun i=>i≤L.length∧((L.take i).all fun s=>(parseL s).isSome)=true) (fun i=>L.length - i) 0 ⟨by simp,by simp⟩ (Zab _ (by simp only [go_sem]; simp)) (fun i hI N hN=>?_)
 obtain ⟨h1,h2⟩:=hI
 unfold Z7p
 by_cases hi:i<L.length
 ·obtain ⟨l,he⟩:∃ s,L[i]? = some s:=⟨_,List.getElem?_eq_getElem hi⟩
  have hll:=hl _ (List.mem_of_getElem? he)
  have hlsi:ls[i]? = some (.str (bs l)):=by
   rw [hls,List.getElem?_map,he]; rfl
  have q0:(0:Int)≤(i:Int):=by omega
  have q1:(i:Int)<(L.length:Int):=by omega
  have e1:IntKind.i64.wrap ((i:Int)+1)=((i+1:Nat):Int):=by rw [Zac (by omega) (by omega)]; omega
  have tk:((L.take (i+1)).all fun s=>(parseL s).isSome)=(((L.take i).all fun s=>(parseL s).isSome) && (parseL l).isSome):=by
   rw [List.take_add_one,he]; simp [List.all_append]
  simp only [go_sem,Zwu,Z7m,hlsl,q0,q1,hlsi]
  refine Zaa (rvalid hll) (by simp only [go_sem]) ?_
  cases hp:(parseL l).isSome with
  | true =>
   simp only [go_sem,Bool.not_true,Z8f,e1]
   exact hN (i+1) _ ⟨by omega,by rw [tk,h2,hp]; rfl⟩ (by omega) (Zab _ (by simp only [go_sem]))
  | false =>
   have hf:numsE L=2:=by
    unfold numsE
    rw [if_neg]
    intro hall
    have:=List.all_eq_true.1 hall _ (List.mem_of_getElem? he)
    rw [hp] at this; cases this
   rw [hf]
   simp only [go_sem,Bool.not_false,Z77]
 ·have hie:i=L.length:=by omega
  subst hie
  have q1:¬ ((L.length:Nat):Int)<(L.length:Int):=by omega
  rw [List.take_length] at h2
  have hf:numsE L=0:=by unfold numsE; rw [if_pos h2]
  rw [hf]
  simp only [go_sem,Zwu,Z8t,hlsl,q1]
end GoAbs
namespace GoAbs
open Go Go.Proofs
theorem Ygj {a:List UInt8}(h:digOk a):decL (numL a)=a:=by
 obtain ⟨h1,h2,h3,_⟩:=h
 by_cases hh:a.head? = some 48
 ·have hl:¬ 1<a.length:=fun hl=>h3 ⟨hh,hl⟩
  cases a with
  | nil=>exact absurd rfl h2
  | cons c r =>
   have hr:r = []:=List.length_eq_zero_iff.1 (by rw [List.length_cons] at hl; omega)
   subst hr
   simp at hh
   subst hh
   rfl
 ·exact Ycm h1 h2 hh
theorem Y61:∀ {a b:List Nat},ic a=ic b→a=b
 | [],[],_=>rfl
 | [],y::b,h=>by simp [ic] at h
 | x::a,[],h=>by simp [ic] at h
 | x::a,y::b,h=>by
  rw [Yn3,Yn3] at h
  injection h with h1 h2
  injection h1 with _ h3
  have h4:x=y:=by omega
  rw [h4,Y61 h2]
theorem Y7i {m n:Nat}(h:ic (dg m)=ic (dg n)):m=n:=by
 have:=congrArg vd (Y61 h)
 rwa [Zn9,Zn9] at this
theorem Y7j {n d n' d':Int}(h:AV.tup [avR n d,.bool true] = .tup [avR n' d',.bool true]):n.natAbs=n'.natAbs∧d.natAbs=d'.natAbs:=by
 rw [Zbl,Zbl] at h
 injection h with h
 injection h with h _
 injection h with h
 injection h with _ h
 injection h with h1 h
 injection h with _ h
 injection h with h2 _
 injection h1 with h1
 injection h2 with h2
 exact ⟨Y7i h1,Y7i h2⟩
theorem Yua {l:List UInt8}{q:Rat}(h:parseL l=some q):digOk (befL (signL l).1)∧decL q.num.natAbs=befL (signL l).1∧(47∈(signL l).1→digOk (aftL (signL l).1)∧decL q.den=aftL (signL l).1)∧(47 ∉ (signL l).1→q.den=1):=by
 have hr:=Y09 l
 rw [h] at hr
 simp only at hr
 unfold refP midR at hr
 have hb:badR ≠ .tup [avR q.num q.den,.bool true]:=by unfold badR; intro e; simp at e
 split at hr
 ·exact absurd hr hb
 ·split at hr
  ·rename_i hs
   split at hr
   ·rename_i hc
    have hA:=hc.1
    obtain ⟨e1,e2⟩:=Y7j hr
    have e1':numL (befL (signL l).1)=q.num.natAbs:=by rw [← e1]; split <;> simp
    rw [Int.natAbs_natCast,Int.natAbs_natCast] at e2
    refine ⟨hA,by rw [← e1']; exact Ygj hA,fun h47=>?_,fun h47=>?_⟩
    ·have:=hs h47
     rw [if_pos h47] at e2
     exact ⟨this.1,by rw [← e2]; exact Ygj this.1⟩
    ·rw [if_neg h47] at e2
     exact e2.symm
   ·exact absurd hr hb
  ·exact absurd hr hb
theorem Y0h {o:List UInt8}(h:47∈o):o=befL o++47::aftL o:=by
 have h1:=List.takeWhile_append_dropWhile (p:=(· != 47)) (l:=o)
 have h2:∀ l:List UInt8,47∈l→l.dropWhile (· != 47)=47::(l.dropWhile (· != 47)).tail:=by
  intro l
  induction l with
  | nil=>intro h; simp at h
  | cons x l ih =>
   intro h
   rw [List.dropWhile_cons]
   by_cases hx:x=47
   ·subst hx; rfl
   ·have hx':(x != 47)=true:=by simpa using hx
    rw [if_pos hx']
    exact ih (by rcases List.mem_cons.1 h with h | h; exact absurd h.symm hx; exact h)
 rw [h2 o h] at h1
 exact h1.symm
end GoAbs
namespace GoAbs
theorem Yrk:∀ {n:Nat}{c:UInt8},c∈digs n→isDig c:=by
 intro n
 induction n using Nat.strongRecOn with
 | ind n ih =>
  intro c hc
  by_cases h:n=0
  ·subst h; rw [Zf6] at hc; simp at hc
  ·rw [Zfu h] at hc
   rcases List.mem_cons.1 hc with rfl | hc
   ·unfold isDig; rw [Zce (Nat.mod_lt n (by omega))]; omega
   ·exact ih (n / 10) (by omega) hc
theorem Yzg:∀ {n:Nat},numL (digs n).reverse=n:=by
 intro n
 induction n using Nat.strongRecOn with
 | ind n ih =>
  by_cases h:n=0
  ·subst h; rw [Zf6]; rfl
  ·rw [Zfu h,List.reverse_cons,Zuv,ih (n / 10) (by omega),Zce (Nat.mod_lt n (by omega))]
   omega
theorem Yz6:∀ {n:Nat},n≠0→∃ l c,digs n=l ++ [c]∧c.toNat≠48:=by
 intro n
 induction n using Nat.strongRecOn with
 | ind n ih =>
  intro h
  rw [Zfu h]
  by_cases h2:n / 10=0
  ·rw [h2,Zf6]
   refine ⟨[],_,rfl,?_⟩
   rw [Zce (Nat.mod_lt n (by omega))]; omega
  ·obtain ⟨l,c,e,hc⟩:=ih (n / 10) (by omega) h2
   exact ⟨_::l,c,by rw [e]; rfl,hc⟩
theorem Z2h {n:Nat}:numL (decL n)=n:=by
 unfold decL
 split
 ·rename_i h; rw [h]; rfl
 ·exact Yzg
theorem Yf5 {n:Nat}(h:(decL n).length≤4000):digOk (decL n):=by
 refine ⟨fun c hc=>?_,fun e=>by have:=Yrp n; rw [e] at this; simp at this,fun ⟨h1,h2⟩=>?_,h⟩
 ·unfold decL at hc
  split at hc
  ·simp at hc; subst hc; unfold isDig; decide
  ·exact Yrk (List.mem_reverse.1 hc)
 ·unfold decL at h1 h2
  split at h1
  ·rename_i h0; rw [if_pos h0] at h2; simp at h2
  ·rename_i h0
   obtain ⟨l,c,e,hc⟩:=Yz6 h0
   rw [e,List.reverse_append] at h1
   simp at h1
   rw [h1] at hc
   exact hc (by decide)
theorem Yo0 {n:Nat}{b:UInt8}(hb:¬ isDig b):b ∉ decL n:=fun h=>by
 unfold decL at h
 split at h
 ·simp at h; subst h; exact hb (by unfold isDig; decide)
 ·exact hb (Yrk (List.mem_reverse.1 h))
theorem Zwy {q:Rat}(h:NumOk q):parseL (numS q)=some q:=by
 have h47:¬ isDig 47:=by unfold isDig; decide
 have h45:¬ isDig 45:=by unfold isDig; decide
 obtain ⟨h1,h2⟩:=h
 have hd1:=Yf5 h1
 have hs:∀ (sg:List UInt8),sg=(if q.num<0 then [45] else [])→47 ∉ sg:=fun sg e hh=>by
  rw [e] at hh; split at hh <;> simp at hh
 have hsign:∀ (sg:List UInt8),sg=(if q.num<0 then [45] else [])→signL (sg++decL q.num.natAbs)=(decL q.num.natAbs,decide (q.num<0)):=fun sg e=>by
  unfold signL
  by_cases hn:q.num<0
  ·rw [if_pos hn] at e
   subst e
   rw [if_pos (by rfl)]
   simp [hn]
  ·rw [if_neg hn] at e
   subst e
   rw [if_neg (fun hh=>?_)]
   ·simp [hn]
   ·have:(45:UInt8)∈decL q.num.natAbs:=List.mem_of_head? hh
    exact Yo0 h45 this
 have hcut:cutL (numS q)=((if q.num<0 then [45] else [])++decL q.num.natAbs,if q.den=1 then [] else decL q.den, !decide (q.den=1)):=by
  unfold numS
  by_cases hd:q.den=1
  ·rw [if_pos hd,if_pos hd,List.append_nil]
   unfold cutL
   rw [if_neg (fun hh=>?_)]
   ·simp [hd]
   ·rcases List.mem_append.1 hh with hh | hh
    ·exact hs _ rfl hh
    ·exact Yo0 h47 hh
  ·rw [if_neg hd,if_neg hd]
   unfold cutL
   have hx:∀ x,x∈(if q.num<0 then [45] else [])++decL q.num.natAbs→(x != 47)=true:=fun x hx=>by
    have:x≠47:=fun e=>by
     subst e
     rcases List.mem_append.1 hx with hh | hh
     ·exact hs _ rfl hh
     ·exact Yo0 h47 hh
    simpa using this
   rw [if_pos (by simp),List.takeWhile_append_of_pos hx,List.dropWhile_append_of_pos hx]
   simp [hd]
 have hP:partsL (numS q)=(q.num,q.den, !decide (q.den=1)):=by
  unfold partsL
  rw [hcut]
  simp only [hsign _ rfl,Z2h]
  refine Prod.ext ?_ (Prod.ext ?_ rfl)
  ·by_cases hn:q.num<0
   ·simp [hn]; omega
   ·simp [hn]; omega
  ·by_cases hd:q.den=1
   ·simp [hd]
   ·simp [hd,Z2h]
 have hF:formL (numS q):=by
  unfold formL
  rw [hcut]
  simp only [hsign _ rfl,Z2h]
  refine ⟨hd1,fun hh=>?_,fun ⟨a,b⟩=>?_⟩
  ·have hd:q.den≠1:=by simpa using hh
   rw [if_neg hd,Z2h]
   have:=q.den_pos
   exact ⟨Yf5 (h2.resolve_left hd),by omega⟩
  ·have:q.num<0:=by simpa using a
   omega
 unfold parseL
 rw [hP]
 rw [if_pos ⟨hF,fun _=>by
  have:=q.reduced
  show Int.gcd q.num (q.den:Int)=1
  rw [Int.gcd,Int.natAbs_natCast]; exact this⟩,Rat.num_divInt_den]
theorem Y2r {q:Rat}(h:NumOk q):(numS q).length≤8002:=by
 obtain ⟨h1,h2⟩:=h
 have e1:(if q.num<0 then [(45:UInt8)] else []).length≤1:=by split <;> simp
 have e2:(if q.den=1 then [] else 47::decL q.den).length≤4001:=by
  split
  ·simp
  ·rename_i hd
   rw [List.length_cons]; have:=h2.resolve_left hd; omega
 unfold numS
 rw [List.length_append,List.length_append]
 omega
end GoAbs
