/- Lemmas for the claim (contracts of the functions that it reaches, and what they compute), without conditions. -/
import Derived.Test.YtnpgooaiiboanaaGreatK26
import Derived.Test.YtnpgooaiiboanaaGreatProg
import Derived.KernelRfl
set_option linter.unusedVariables false
set_option linter.unusedSimpArgs false
set_option maxRecDepth 10000
set_option maxHeartbeats 2000000
namespace GoAbs
open Go Go.Proofs
def Znt:List IOp := [oI 4 (.mv (.c .nils)) 0]
def Znc:List IOp := [mI 9 1 0,oI 10 (.bin .lss (.t 9) (cI 0)) 0]
def Z33:List IOp := [oI 11 .bad 0,⟨none,.bad,0,[],[],none⟩]
def Zn4:List IOp := [mI 13 0 0,oI 14 (.len (.t 13)) 0,oI 15 (.cvi .u64 (.t 14)) 0,mI 16 1 0,oI 17 (.cvi .u64 (.t 16)) 0,oI 18 (.call 132 [.t 15,.t 17]) 0,mI 12 18 0,eI 19 0 12 0,eI 20 1 12 0,mI 5 19 0,mI 6 20 0]
def Zm2:List IOp := [mI 21 5 0,oI 22 (.bin .gtr (.t 21) (.c (.int .u64 0))) 0,mI 23 22 0,gI 24 (.mv (.t 6)) 0 23 false,gI 25 (.bin .gtr (.t 24) (.c (.int .u64 9223372036854775807))) 0 23 false,oI 26 (.pick (.t 23) (.c (.bool true)) (.t 25)) 0]
def Z3v:List IOp := [oI 27 .bad 0,⟨none,.bad,0,[],[],none⟩]
def Znp:List IOp := [mI 28 6 0,oI 29 (.cvi .i64 (.t 28)) 0,oI 30 (.mks (some 4) 64 [.bool false,.nils,.bool false,.nils] (.t 29) (.t 29)) 0,mI 7 30 1]
def Zm3:List IOp := [mI 31 7 0,mI 32 0 0,oI 33 (.cpy 4 (.t 31) (.t 32)) 0,mI 8 33 0]
def Zgm:List IOp := [mI 34 8 0,mI 35 7 0,oI 36 (.len (.t 35)) 0,oI 37 (.bin .lss (.t 34) (.t 36)) 0]
def Zfq:List IOp := [mI 38 8 0,mI 39 7 0,mI 40 8 0,oI 41 (.slc 4 (.t 39) (some (.t 40)) none) 0,mI 42 7 0,mI 43 8 0,oI 44 (.slc 4 (.t 42) none (some (.t 43))) 0,oI 45 (.cpy 4 (.t 41) (.t 44)) 0,oI 46 (.bin .add (.t 38) (.t 45)) 0,mI 8 46 0]
@[go_sem ↓] theorem Zwp : autoK Zfq = (0, 1) := by kernel_rfl
@[go_sem] theorem Yij : autoK [mI 38 8 0, mI 39 7 0, mI 40 8 0, oI 41 (.slc 4 (.t 39) (some (.t 40)) none) 0, mI 42 7 0, mI 43 8 0, oI 44 (.slc 4 (.t 42) none (some (.t 43))) 0, oI 45 (.cpy 4 (.t 41) (.t 44)) 0, oI 46 (.bin .add (.t 38) (.t 45)) 0, mI 8 46 0] = (0, 1) := Zwp
def Znk:CC := .seq (.seq (.rg false Zgm) (.cond (.t 37) .skip (.exit 0))) (.block 1 (.rg true Zfq))
def Zln:List IOp := [mI 47 7 0,mI 4 47 0]
def Zya:CC := .seq (.rg false Znt) (.seq (.seq (.rg false Znc) (.cond (.t 10) (.rg false Z33) .skip)) (.seq (.rg false Zn4) (.seq (.seq (.rg false Zm2) (.cond (.t 26) (.rg false Z3v) .skip)) (.seq (.rg false Znp) (.seq (.rg false Zm3) (.seq (.block 0 (.loop Znk)) (.seq (.rg false Zln) .ret)))))))
abbrev Zfr:Nat:=99
theorem Z71:fnOk Tryz.prog 99=some (48,Zya,[.tmp 4]):=by kernel_rfl
def Z6t:List IOp := [oI 4 (.mv (.c (.int .u64 0))) 0,oI 5 (.mv (.c (.int .u64 0))) 0]
def Yj7:List IOp := [mI 11 0 0,oI 12 (.cvi .u32 (.t 11)) 0,mI 13 1 0,oI 14 (.cvi .u32 (.t 13)) 0,oI 15 (.call 153 [.t 12,.t 14]) 0,mI 10 15 0,eI 16 0 10 0,eI 17 1 10 0,mI 6 16 0,mI 7 17 0]
def Yj9:List IOp := [mI 18 6 0,oI 19 (.cvi .u64 (.t 18)) 0,mI 20 7 0,oI 21 (.cvi .u64 (.t 20)) 0,mI 4 19 0,mI 5 21 0]
def Z63:List IOp := [mI 23 0 0,mI 24 1 0,oI 25 (.call 154 [.t 23,.t 24]) 0,mI 22 25 0,eI 26 0 22 0,eI 27 1 22 0,mI 8 26 0,mI 9 27 0]
def Z7i:List IOp := [mI 28 8 0,mI 29 9 0,mI 4 28 0,mI 5 29 0]
def Yje:CC := .seq (.rg false Z6t) (.seq (.cond (.c (.bool false)) (.seq (.rg false Yj7) (.seq (.rg false Yj9) .ret)) .skip) (.seq (.rg false Z63) (.seq (.rg false Z7i) .ret)))
abbrev Ys6:Nat:=132
theorem Ykx:fnOk Tryz.prog 132=some (30,Yje,[.tmp 4,.tmp 5]):=by kernel_rfl
def Zxz:List IOp := [oI 4 (.mv (.c (.int .u64 0))) 0,oI 5 (.mv (.c (.int .u64 0))) 0]
def Zyo:List IOp := [mI 14 0 0,oI 15 (.bin .and (.t 14) (.c (.int .u64 4294967295))) 0,mI 6 15 0]
def Zxa:List IOp := [mI 16 0 0,oI 17 (.bin .shr (.t 16) (.c (.int .u64 32))) 0,mI 7 17 0]
def Zyl:List IOp := [mI 18 1 0,oI 19 (.bin .and (.t 18) (.c (.int .u64 4294967295))) 0,mI 8 19 0]
def Zyp:List IOp := [mI 20 1 0,oI 21 (.bin .shr (.t 20) (.c (.int .u64 32))) 0,mI 9 21 0]
def Zxk:List IOp := [mI 22 6 0,mI 23 8 0,oI 24 (.bin .mul (.t 22) (.t 23)) 0,mI 10 24 0]
def Zw3:List IOp := [mI 25 7 0,mI 26 8 0,oI 27 (.bin .mul (.t 25) (.t 26)) 0,mI 28 10 0,oI 29 (.bin .shr (.t 28) (.c (.int .u64 32))) 0,oI 30 (.bin .add (.t 27) (.t 29)) 0,mI 11 30 0]
def Zyw:List IOp := [mI 31 11 0,oI 32 (.bin .and (.t 31) (.c (.int .u64 4294967295))) 0,mI 12 32 0]
def Zw7:List IOp := [mI 33 11 0,oI 34 (.bin .shr (.t 33) (.c (.int .u64 32))) 0,mI 13 34 0]
def Zu6:List IOp := [mI 35 12 0,mI 36 6 0,mI 37 9 0,oI 38 (.bin .mul (.t 36) (.t 37)) 0,oI 39 (.bin .add (.t 35) (.t 38)) 0,mI 12 39 0]
def Zse:List IOp := [mI 40 7 0,mI 41 9 0,oI 42 (.bin .mul (.t 40) (.t 41)) 0,mI 43 13 0,oI 44 (.bin .add (.t 42) (.t 43)) 0,mI 45 12 0,oI 46 (.bin .shr (.t 45) (.c (.int .u64 32))) 0,oI 47 (.bin .add (.t 44) (.t 46)) 0,mI 4 47 0]
def Zvp:List IOp := [mI 48 0 0,mI 49 1 0,oI 50 (.bin .mul (.t 48) (.t 49)) 0,mI 5 50 0]
def Yb5:CC := .seq (.rg false Zxz) (.seq (.rg false Zyo) (.seq (.rg false Zxa) (.seq (.rg false Zyl) (.seq (.rg false Zyp) (.seq (.rg false Zxk) (.seq (.rg false Zw3) (.seq (.rg false Zyw) (.seq (.rg false Zw7) (.seq (.rg false Zu6) (.seq (.rg false Zse) (.seq (.rg false Zvp) .ret)))))))))))
abbrev Yhk:Nat:=154
theorem Ye6:fnOk Tryz.prog 154=some (51,Yb5,[.tmp 4,.tmp 5]):=by kernel_rfl
def Zue:List IOp := [oI 4 (.mv (.c .nils)) 0]
def Zu4:List IOp := [mI 7 0 0,oI 8 (.mks none 24 [.nils] (.t 7) (.t 7)) 0,mI 5 8 1]
def Zup:List IOp := [mI 9 5 0,oI 10 (.len (.t 9)) 0,oI 11 (.mv (cI 0)) 0]
def Zj0:List IOp := [oI 12 (.bin .lss (.t 11) (.t 10)) 0]
def Ztk:List IOp := [mI 13 11 0,mI 6 13 0]
def Zv4:List IOp := [mI 14 5 0,mI 15 6 0,oI 16 (.call 77 [cI 0]) 0,oI 17 (.bsl (some 4) 1 [.bool false,.nils,.bool false,.nils] [(0,.t 16)]) 0,mI 18 1 1,oI 19 (.call 99 [.t 17,.t 18]) 1,xI 20 1 14 15 1,⟨none,.st 1 (.t 20) (.t 19),1,[],[],none⟩]
def Zwb:List IOp := [oI 21 (.bin .add (.t 11) (cI 1)) 0,mI 11 21 0]
def Zs3:CC := .seq (.rg false Zj0) (.seq (.cond (.t 12) .skip (.exit 0)) (.seq (.block 1 (.seq (.rg false Ztk) (.rg false Zv4))) (.rg false Zwb)))
def Zsm:List IOp := [mI 22 5 0,mI 4 22 0]
def Z7o:CC := .seq (.rg false Zue) (.seq (.rg false Zu4) (.seq (.seq (.rg false Zup) (.block 0 (.loop Zs3))) (.seq (.rg false Zsm) .ret)))
abbrev Ygu:Nat:=111
theorem Yb9:fnOk Tryz.prog 111=some (23,Z7o,[.tmp 4]):=by kernel_rfl
def Zx4:List IOp := [oI 7 (.box (.t 3)) 0]
def Zmr:List IOp := [mI 8 0 0,mI 9 1 0,xI 10 1 8 9 0,lI 11 10 0,mI 12 2 0,mI 13 0 0,mI 14 1 0,xI 15 1 13 14 0,lI 16 15 0,mI 17 2 0,xI 18 4 16 17 0,lJ 19 4 18 0,lJ 20 4 7 0,oI 21 (.call 94 [.t 19,.t 20]) 0,xI 22 4 11 12 0,⟨none,.st 4 (.t 22) (.t 21),0,[],[],none⟩]
@[go_sem ↓] theorem Z7p : autoK Zmr = (0, 1) := by kernel_rfl
@[go_sem] theorem Yqt : autoK [mI 8 0 0, mI 9 1 0, xI 10 1 8 9 0, lI 11 10 0, mI 12 2 0, mI 13 0 0, mI 14 1 0, xI 15 1 13 14 0, lI 16 15 0, mI 17 2 0, xI 18 4 16 17 0, lJ 19 4 18 0, lJ 20 4 7 0, oI 21 (.call 94 [.t 19, .t 20]) 0, xI 22 4 11 12 0, ⟨none, .st 4 (.t 22) (.t 21), 0, [], [], none⟩] = (0, 1) := Z7p
def Yb6:CC := .seq (.rg false Zx4) (.rg true Zmr)
abbrev Z66:Nat:=112
theorem Yer:fnOk Tryz.prog 112=some (23,Yb6,[]):=by kernel_rfl
def Zju:List IOp := [oI 2 (.alloc [.bool false,.nils,.bool false,.nils]) 0]
def Zkj:List IOp := [oI 9 (.call 77 [cI 1]) 0,oI 3 (.alloc [.bool false,.nils,.bool false,.nils]) 0,⟨none,.st 4 (.t 3) (.t 9),1,[],[],none⟩]
def Zjp:List IOp := [mI 10 0 0,oI 11 (.len (.t 10)) 0,oI 12 (.mv (cI 0)) 0]
def Zed:List IOp := [oI 13 (.bin .lss (.t 12) (.t 11)) 0]
def Zku:List IOp := [mI 14 12 0,mI 4 14 0]
def Zks:List IOp := [mI 15 4 0,mI 5 15 0]
def Zb4:List IOp := [mI 16 5 0,mI 17 0 0,oI 18 (.len (.t 17)) 0,oI 19 (.bin .lss (.t 16) (.t 18)) 0,mI 20 19 0,gI 21 (.mv (.t 0)) 0 20 true,gI 22 (.mv (.t 5)) 0 20 true,gI 23 (.idx 1 (.t 21) (.t 22)) 0 20 true,gI 24 (.ld none (.t 23)) 0 20 true,gI 25 (.mv (.t 4)) 0 20 true,gI 26 (.idx 4 (.t 24) (.t 25)) 0 20 true,gI 27 (.ld (some 4) (.t 26)) 0 20 true,gI 28 (.call 95 [.t 27]) 0 20 true,gI 29 (.bin .eql (.t 28) (cI 0)) 0 20 true,oI 30 (.pick (.t 20) (.t 29) (.c (.bool false))) 0]
def Zjt:List IOp := [mI 31 5 0,oI 32 (.bin .add (.t 31) (cI 1)) 0,mI 5 32 0]
def Zbi:CC := .seq (.seq (.rg false Zb4) (.cond (.t 30) .skip (.exit 2))) (.block 3 (.rg false Zjt))
def Zd9:List IOp := [mI 33 5 0,mI 34 0 0,oI 35 (.len (.t 34)) 0,oI 36 (.bin .eql (.t 33) (.t 35)) 0]
def Zis:List IOp := [oI 37 (.call 77 [cI 0]) 0,⟨none,.st 4 (.t 2) (.t 37),0,[],[],none⟩]
def Ziq:List IOp := [mI 38 5 0,mI 39 4 0,oI 40 (.bin .neq (.t 38) (.t 39)) 0]
def Zil:List IOp := [mI 41 0 0,mI 42 5 0,mI 43 0 0,mI 44 4 0,mI 45 0 0,mI 46 4 0,xI 47 1 45 46 0,lI 48 47 0,mI 49 0 0,mI 50 5 0,xI 51 1 49 50 0,lI 52 51 0,xI 53 1 41 42 0,⟨none,.st 1 (.t 53) (.t 48),0,[],[],none⟩,xI 54 1 43 44 0,⟨none,.st 1 (.t 54) (.t 52),0,[],[],none⟩]
@[go_sem ↓] theorem Zrt : autoK Zil = (0, 1) := by kernel_rfl
@[go_sem] theorem Ygz : autoK [mI 41 0 0, mI 42 5 0, mI 43 0 0, mI 44 4 0, mI 45 0 0, mI 46 4 0, xI 47 1 45 46 0, lI 48 47 0, mI 49 0 0, mI 50 5 0, xI 51 1 49 50 0, lI 52 51 0, xI 53 1 41 42 0, ⟨none, .st 1 (.t 53) (.t 48), 0, [], [], none⟩, xI 54 1 43 44 0, ⟨none, .st 1 (.t 54) (.t 52), 0, [], [], none⟩] = (0, 1) := Zrt
def Zwr:List IOp := [lJ 55 4 3 0,oI 56 (.call 113 [.t 55]) 0,⟨none,.st 4 (.t 3) (.t 56),0,[],[],none⟩]
def Zdd:List IOp := [lJ 57 4 3 0,mI 58 0 0,mI 59 4 0,xI 60 1 58 59 0,lI 61 60 0,mI 62 4 0,xI 63 4 61 62 0,lJ 64 4 63 0,oI 65 (.callw 87 [.t 57,.t 64]) 0,⟨none,.st 4 (.t 3) (.t 65),0,[],[],none⟩]
@[go_sem ↓] theorem Zrb : autoK Zdd = (0, 1) := by kernel_rfl
@[go_sem] theorem Yf6 : autoK [lJ 57 4 3 0, mI 58 0 0, mI 59 4 0, xI 60 1 58 59 0, lI 61 60 0, mI 62 4 0, xI 63 4 61 62 0, lJ 64 4 63 0, oI 65 (.callw 87 [.t 57, .t 64]) 0, ⟨none, .st 4 (.t 3) (.t 65), 0, [], [], none⟩] = (0, 1) := Zrb
def Zit:List IOp := [mI 66 4 0,oI 67 (.bin .add (.t 66) (cI 1)) 0,mI 6 67 0]
def Zdh:List IOp := [mI 68 6 0,mI 69 0 0,oI 70 (.len (.t 69)) 0,oI 71 (.bin .lss (.t 68) (.t 70)) 0]
def Ziz:List IOp := [mI 74 0 0,mI 75 6 0,xI 76 1 74 75 0,lI 77 76 0,mI 78 4 0,xI 79 4 77 78 0,lJ 80 4 79 0,oI 81 (.call 95 [.t 80]) 0,oI 82 (.bin .eql (.t 81) (cI 0)) 0]
def Zdb:List IOp := [mI 83 0 0,mI 84 6 0,xI 85 1 83 84 0,lI 86 85 0,mI 87 4 0,xI 88 4 86 87 0,lJ 89 4 88 0,mI 90 0 0,mI 91 4 0,xI 92 1 90 91 0,lI 93 92 0,mI 94 4 0,xI 95 4 93 94 0,lJ 96 4 95 0,oI 97 (.call 78 [.t 89,.t 96]) 0,oI 7 (.alloc [.bool false,.nils,.bool false,.nils]) 0,⟨none,.st 4 (.t 7) (.t 97),1,[0],[],none⟩]
@[go_sem ↓] theorem Zrk : autoK Zdb = (1, 1) := by kernel_rfl
@[go_sem] theorem Ygr : autoK [mI 83 0 0, mI 84 6 0, xI 85 1 83 84 0, lI 86 85 0, mI 87 4 0, xI 88 4 86 87 0, lJ 89 4 88 0, mI 90 0 0, mI 91 4 0, xI 92 1 90 91 0, lI 93 92 0, mI 94 4 0, xI 95 4 93 94 0, lJ 96 4 95 0, oI 97 (.call 78 [.t 89, .t 96]) 0, oI 7 (.alloc [.bool false, .nils, .bool false, .nils]) 0, ⟨none, .st 4 (.t 7) (.t 97), 1, [0], [], none⟩] = (1, 1) := Zrk
def Ziu:List IOp := [mI 98 4 0,mI 8 98 0]
def Zdj:List IOp := [mI 99 8 0,mI 100 0 0,mI 101 6 0,xI 102 1 100 101 0,lI 103 102 0,oI 104 (.len (.t 103)) 0,oI 105 (.bin .lss (.t 99) (.t 104)) 0]
def Zdg:List IOp := [mI 108 0 0,mI 109 6 0,xI 110 1 108 109 0,lI 111 110 0,mI 112 8 0,mI 113 0 0,mI 114 6 0,xI 115 1 113 114 0,lI 116 115 0,mI 117 8 0,xI 118 4 116 117 0,lJ 119 4 118 0,lJ 120 4 7 0,mI 121 0 0,mI 122 4 0,xI 123 1 121 122 0,lI 124 123 0,mI 125 8 0,xI 126 4 124 125 0,lJ 127 4 126 0,oI 128 (.call 87 [.t 120,.t 127]) 0,oI 129 (.call 79 [.t 119,.t 128]) 0,xI 130 4 111 112 0,⟨none,.st 4 (.t 130) (.t 129),0,[],[],none⟩]
@[go_sem ↓] theorem Zr5 : autoK Zdg = (0, 1) := by kernel_rfl
@[go_sem] theorem Ygp : autoK [mI 108 0 0, mI 109 6 0, xI 110 1 108 109 0, lI 111 110 0, mI 112 8 0, mI 113 0 0, mI 114 6 0, xI 115 1 113 114 0, lI 116 115 0, mI 117 8 0, xI 118 4 116 117 0, lJ 119 4 118 0, lJ 120 4 7 0, mI 121 0 0, mI 122 4 0, xI 123 1 121 122 0, lI 124 123 0, mI 125 8 0, xI 126 4 124 125 0, lJ 127 4 126 0, oI 128 (.call 87 [.t 120, .t 127]) 0, oI 129 (.call 79 [.t 119, .t 128]) 0, xI 130 4 111 112 0, ⟨none, .st 4 (.t 130) (.t 129), 0, [], [], none⟩] = (0, 1) := Zr5
def Zim:List IOp := [mI 106 8 0,oI 107 (.bin .add (.t 106) (cI 1)) 0,mI 8 107 0]
def Zd7:CC := .seq (.seq (.rg false Zdj) (.cond (.t 105) .skip (.exit 6))) (.seq (.block 7 (.rg true Zdg)) (.rg false Zim))
def Zdc:List IOp := [mI 72 6 0,oI 73 (.bin .add (.t 72) (cI 1)) 0,mI 6 73 0]
def Zel:CC := .seq (.seq (.rg false Zdh) (.cond (.t 71) .skip (.exit 4))) (.seq (.block 5 (.seq (.seq (.rg false Ziz) (.cond (.t 82) (.exit 5) .skip)) (.seq (.rg true Zdb) (.seq (.rg false Ziu) (.block 6 (.loop Zd7)))))) (.rg false Zdc))
def Zio:List IOp := [oI 131 (.bin .add (.t 12) (cI 1)) 0,mI 12 131 0]
def Zem:CC := .seq (.rg false Zed) (.seq (.cond (.t 13) .skip (.exit 0)) (.seq (.block 1 (.seq (.rg false Zku) (.seq (.rg false Zks) (.seq (.block 2 (.loop Zbi)) (.seq (.seq (.rg false Zd9) (.cond (.t 36) (.seq (.rg false Zis) .ret) .skip)) (.seq (.seq (.rg false Ziq) (.cond (.t 40) (.seq (.rg true Zil) (.rg false Zwr)) .skip)) (.seq (.rg true Zdd) (.seq (.rg false Zit) (.block 4 (.loop Zel)))))))))) (.rg false Zio)))
def Zi1:List IOp := [lJ 132 4 3 0,⟨none,.st 4 (.t 2) (.t 132),0,[],[],none⟩]
def Zq1:CC := .seq (.rg false Zju) (.seq (.rg false Zkj) (.seq (.seq (.rg false Zjp) (.block 0 (.loop Zem))) (.seq (.rg false Zi1) .ret)))
abbrev Zmw:Nat:=114
theorem Z3g:fnOk Tryz.prog 114=some (133,Zq1,[.cell 2 (some 4)]):=by kernel_rfl
def Zw9:List IOp := [oI 2 (.alloc [.bool false,.nils,.bool false,.nils]) 0]
def Zw2:List IOp := [mI 3 0 0,oI 4 (.call 114 [.t 3]) 0,⟨none,.st 4 (.t 2) (.t 4),0,[],[],none⟩]
def Z81:CC := .seq (.rg false Zw9) (.seq (.rg false Zw2) .ret)
abbrev Yjo:Nat:=64
theorem Ye5:fnOk Tryz.prog 64=some (5,Z81,[.cell 2 (some 4)]):=by kernel_rfl
def Zye:List IOp := [oI 1 (.box (.t 0)) 0,oI 2 (.mv (.c .nils)) 1]
def Zxx:List IOp := [fI 9 0 1 0,lI 10 9 0,oI 11 (.bin .sub (.t 10) (cI 1)) 0,fI 12 0 1 0,lI 13 12 0,oI 14 (.bin .sub (.t 13) (cI 1)) 0,oI 15 (.call 111 [.t 11,.t 14]) 0,mI 3 15 0]
def Zy2:List IOp := [fI 16 1 1 0,lI 17 16 0,oI 18 (.len (.t 17)) 0,oI 19 (.mv (cI 0)) 0]
def Zme:List IOp := [oI 20 (.bin .lss (.t 19) (.t 18)) 0]
def Zx8:List IOp := [mI 21 19 0,xI 22 2 17 19 0,lJ 23 2 22 0,oI 5 (.alloc [.int .i64 0,.int .i64 0]) 0,mI 4 21 1,⟨none,.st 2 (.t 5) (.t 23),1,[],[],none⟩]
def Zys:List IOp := [fI 24 2 1 0,lI 25 24 0,mI 26 4 0,xI 27 4 25 26 0,lJ 28 4 27 0,oI 6 (.alloc [.bool false,.nils,.bool false,.nils]) 0,⟨none,.st 4 (.t 6) (.t 28),1,[],[],none⟩]
def Zxd:List IOp := [fI 29 0 5 0,lI 30 29 0,fI 31 1 5 0,lI 32 31 0,oI 33 (.build [.int .i64 0,.int .i64 0] [(0,1,.t 30),(1,1,.t 32)]) 0,fI 34 1 5 0,lI 35 34 0,fI 36 0 5 0,lI 37 36 0,oI 38 (.build [.int .i64 0,.int .i64 0] [(0,1,.t 35),(1,1,.t 37)]) 0,oI 39 (.bsl (some 2) 2 [.int .i64 0,.int .i64 0] [(0,.t 33),(1,.t 38)]) 0,oI 40 (.len (.t 39)) 1,oI 41 (.mv (cI 0)) 1]
def Zmb:List IOp := [oI 42 (.bin .lss (.t 41) (.t 40)) 0]
def Zw5:List IOp := [xI 43 2 39 41 0,lJ 44 2 43 0,oI 8 (.alloc [.int .i64 0,.int .i64 0]) 0,⟨none,.st 2 (.t 8) (.t 44),1,[],[],none⟩]
def Zus:List IOp := [fI 45 0 8 0,lI 46 45 0,oI 47 (.bin .eql (.t 46) (cI 0)) 0]
def Zr9:List IOp := [mI 48 3 0,fI 49 0 8 0,lI 50 49 0,oI 51 (.bin .sub (.t 50) (cI 1)) 0,fI 52 0 8 0,lI 53 52 0,oI 54 (.bin .sub (.t 53) (cI 1)) 0,lJ 55 4 6 0,oI 56 (.call 112 [.t 48,.t 51,.t 54,.t 55]) 0]
def Zuc:List IOp := [fI 57 1 8 0,lI 58 57 0,oI 59 (.bin .neq (.t 58) (cI 0)) 0]
def Zkp:List IOp := [mI 60 3 0,fI 61 0 8 0,lI 62 61 0,oI 63 (.bin .sub (.t 62) (cI 1)) 0,fI 64 1 8 0,lI 65 64 0,oI 66 (.bin .sub (.t 65) (cI 1)) 0,lJ 67 4 6 0,oI 68 (.call 113 [.t 67]) 0,oI 69 (.callw 112 [.t 60,.t 63,.t 66,.t 68]) 0]
@[go_sem ↓] theorem Z4b : autoK Zkp = (0, 0) := by kernel_rfl
@[go_sem] theorem Yn7 : autoK [mI 60 3 0, fI 61 0 8 0, lI 62 61 0, oI 63 (.bin .sub (.t 62) (cI 1)) 0, fI 64 1 8 0, lI 65 64 0, oI 66 (.bin .sub (.t 65) (cI 1)) 0, lJ 67 4 6 0, oI 68 (.call 113 [.t 67]) 0, oI 69 (.callw 112 [.t 60, .t 63, .t 66, .t 68]) 0] = (0, 0) := Z4b
def Ze1:List IOp := [oI 70 (.bin .add (.t 41) (cI 1)) 0,mI 41 70 0]
def Zl5:CC := .seq (.rg false Zmb) (.seq (.cond (.t 42) .skip (.exit 2)) (.seq (.block 3 (.seq (.rg false Zw5) (.seq (.seq (.rg false Zus) (.cond (.t 47) (.exit 3) .skip)) (.seq (.rg false Zr9) (.seq (.rg false Zuc) (.cond (.t 59) (.rg true Zkp) .skip)))))) (.rg false Ze1)))
def Ztt:List IOp := [oI 71 (.bin .add (.t 19) (cI 1)) 0,mI 19 71 0]
def Zyh:CC := .seq (.rg false Zme) (.seq (.cond (.t 20) .skip (.exit 0)) (.seq (.block 1 (.seq (.rg false Zx8) (.seq (.rg false Zys) (.seq (.rg false Zxd) (.block 2 (.loop Zl5)))))) (.rg false Ztt)))
def Zwc:List IOp := [mI 72 3 0,mI 2 72 0]
def Z9n:CC := .seq (.rg false Zye) (.seq (.rg false Zxx) (.seq (.seq (.rg false Zy2) (.block 0 (.loop Zyh))) (.seq (.rg false Zwc) .ret)))
abbrev Yih:Nat:=63
theorem Yev:fnOk Tryz.prog 63=some (73,Z9n,[.tmp 2]):=by kernel_rfl
def Zqk:List IOp := [oI 4 (.mv (.c (.str ⟨#[]⟩))) 0,oI 5 (.mv (cI 0)) 0]
def Zq3:List IOp := [mI 9 0 0,mI 10 1 0,oI 11 (.call 62 [.t 9,.t 10]) 0,mI 8 11 0,eI 12 0 8 0,eI 13 1 8 0,oI 6 (.alloc [.int .i64 0,.nils,.nils]) 0,⟨none,.st 3 (.t 6) (.t 12),1,[],[],none⟩,mI 7 13 1]
def Zq5:List IOp := [mI 14 7 0,oI 15 (.bin .neq (.t 14) (cI 0)) 0]
def Z7u:List IOp := [mI 16 7 0,oI 4 (.mv (.c (.str ⟨#[]⟩))) 0,mI 5 16 0]
def Zqt:List IOp := [lJ 17 3 6 0,oI 18 (.call 63 [.t 17]) 0,oI 19 (.call 64 [.t 18]) 0,oI 20 (.call 65 [.t 19]) 0,eI 21 0 20 0,eI 22 1 20 0,mI 4 21 0,mI 5 22 0]
def Z25:CC := .seq (.rg false Zqk) (.seq (.rg false Zq3) (.seq (.seq (.rg false Zq5) (.cond (.t 15) (.seq (.rg false Z7u) .ret) .skip)) (.seq (.rg false Zqt) .ret)))
abbrev Zx0:Nat:=16
theorem Yan:fnOk Tryz.prog 16=some (23,Z25,[.tmp 4,.tmp 5]):=by kernel_rfl
def Zc2:List IOp := [oI 4 (.alloc [.int .i64 0,.nils,.nils]) 0,oI 5 (.mv (cI 0)) 1]
def Zc7:List IOp := [mI 13 0 0,oI 14 (.build [.int .i64 0,.nils,.nils] [(0,1,.t 13)]) 0,oI 6 (.alloc [.int .i64 0,.nils,.nils]) 0,⟨none,.st 3 (.t 6) (.t 14),1,[],[],none⟩]
def Zcy:List IOp := [mI 15 0 0,oI 16 (.bin .geq (.t 15) (cI 2)) 0,mI 17 16 0,gI 18 (.mv (.t 0)) 0 17 true,gI 19 (.bin .leq (.t 18) (cI 10)) 0 17 true,oI 20 (.pick (.t 17) (.t 19) (.c (.bool false))) 0,mI 21 20 0,gI 22 (.mv (.t 1)) 0 21 true,gI 23 (.len (.t 22)) 0 21 true,gI 24 (.bin .leq (.t 23) (cI 40)) 0 21 true,oI 25 (.pick (.t 21) (.t 24) (.c (.bool false))) 0,oI 7 (.mv (.c (.bool true))) 0,mI 8 25 0]
def Zka:List IOp := [mI 26 1 0,oI 27 (.len (.t 26)) 0,oI 28 (.mv (cI 0)) 0]
def Zj8:List IOp := [oI 29 (.bin .lss (.t 28) (.t 27)) 0]
def Zsc:List IOp := [xI 30 3 26 28 0,lJ 31 3 30 0,oI 10 (.alloc [.int .i64 0,.int .i64 0,.str ⟨#[]⟩]) 0,⟨none,.st 3 (.t 10) (.t 31),1,[],[],none⟩]
def Zsr:List IOp := [fI 33 2 10 0,lI 34 33 0,oI 35 (.call 109 [.t 34]) 0,mI 32 35 0,eI 36 0 32 0,eI 37 1 32 0,oI 11 (.alloc [.bool false,.nils,.bool false,.nils]) 0,⟨none,.st 4 (.t 11) (.t 36),1,[],[],none⟩,mI 12 37 1]
def Zuw:List IOp := [mI 38 7 0,mI 39 38 0,gI 40 (.mv (.t 12)) 0 39 true,oI 41 (.pick (.t 39) (.t 40) (.c (.bool false))) 0,mI 7 41 0]
def Zax:List IOp := [mI 42 8 0,mI 43 42 0,gI 44 (.fa 0 (.t 10)) 0 43 true,gI 45 (.ld none (.t 44)) 0 43 true,gI 46 (.bin .geq (.t 45) (cI 0)) 0 43 true,oI 47 (.pick (.t 43) (.t 46) (.c (.bool false))) 0,mI 48 47 0,gI 49 (.fa 0 (.t 10)) 0 48 true,gI 50 (.ld none (.t 49)) 0 48 true,gI 51 (.mv (.t 0)) 0 48 true,gI 52 (.bin .lss (.t 50) (.t 51)) 0 48 true,oI 53 (.pick (.t 48) (.t 52) (.c (.bool false))) 0,mI 54 53 0,gI 55 (.fa 1 (.t 10)) 0 54 true,gI 56 (.ld none (.t 55)) 0 54 true,gI 57 (.bin .geq (.t 56) (cI 0)) 0 54 true,oI 58 (.pick (.t 54) (.t 57) (.c (.bool false))) 0,mI 59 58 0,gI 60 (.fa 1 (.t 10)) 0 59 true,gI 61 (.ld none (.t 60)) 0 59 true,gI 62 (.mv (.t 0)) 0 59 true,gI 63 (.bin .lss (.t 61) (.t 62)) 0 59 true,oI 64 (.pick (.t 59) (.t 63) (.c (.bool false))) 0,mI 65 64 0,gI 66 (.fa 0 (.t 10)) 0 65 true,gI 67 (.ld none (.t 66)) 0 65 true,gI 68 (.fa 1 (.t 10)) 0 65 true,gI 69 (.ld none (.t 68)) 0 65 true,gI 70 (.bin .neq (.t 67) (.t 69)) 0 65 true,oI 71 (.pick (.t 65) (.t 70) (.c (.bool false))) 0,mI 8 71 0]
def Zd3:List IOp := [mI 72 12 0]
def Zbk:List IOp := [mI 73 8 0,mI 74 73 0,gI 75 (.ld (some 4) (.t 11)) 0 74 true,gI 76 (.call 95 [.t 75]) 0 74 true,gI 77 (.bin .gtr (.t 76) (cI 0)) 0 74 true,oI 78 (.pick (.t 74) (.t 77) (.c (.bool false))) 0,mI 79 78 0,gI 80 (.ld (some 4) (.t 11)) 0 79 true,gI 81 (.call 110 [.t 80,cI 20]) 0 79 true,oI 82 (.pick (.t 79) (.t 81) (.c (.bool false))) 0,mI 8 82 0]
def Zbc:List IOp := [fI 83 1 6 0,lI 84 83 0,fI 85 0 10 0,lI 86 85 0,fI 87 1 10 0,lI 88 87 0,oI 89 (.build [.int .i64 0,.int .i64 0] [(0,1,.t 86),(1,1,.t 88)]) 0,oI 90 (.bsl (some 2) 1 [.int .i64 0,.int .i64 0] [(0,.t 89)]) 0,⟨some 91,.app (some 2) 16 (.t 84) (.t 90),1,[0],[],none⟩,fI 92 2 6 2,⟨some 93,.ld none (.t 92),2,[],[1],none⟩,⟨some 94,.ld (some 4) (.t 11),2,[],[1],none⟩,⟨some 95,.bsl (some 4) 1 [.bool false,.nils,.bool false,.nils] [(0,.t 94)],2,[],[1],none⟩,⟨some 96,.app (some 4) 64 (.t 93) (.t 95),3,[0,1,2],[],none⟩,⟨some 97,.fa 1 (.t 6),4,[0,1],[],none⟩,⟨none,.st 1 (.t 97) (.t 91),4,[0,1,2,3],[],none⟩,⟨some 98,.fa 2 (.t 6),4,[0,1,2,3],[],none⟩,⟨none,.st 1 (.t 98) (.t 96),4,[0,1,2,3],[],none⟩]
@[go_sem ↓] theorem Z05 : autoK Zbc = (4, 2) := by kernel_rfl
@[go_sem] theorem Ylf : autoK [fI 83 1 6 0, lI 84 83 0, fI 85 0 10 0, lI 86 85 0, fI 87 1 10 0, lI 88 87 0, oI 89 (.build [.int .i64 0, .int .i64 0] [(0, 1, .t 86), (1, 1, .t 88)]) 0, oI 90 (.bsl (some 2) 1 [.int .i64 0, .int .i64 0] [(0, .t 89)]) 0, ⟨some 91, .app (some 2) 16 (.t 84) (.t 90), 1, [0], [], none⟩, fI 92 2 6 2, ⟨some 93, .ld none (.t 92), 2, [], [1], none⟩, ⟨some 94, .ld (some 4) (.t 11), 2, [], [1], none⟩, ⟨some 95, .bsl (some 4) 1 [.bool false, .nils, .bool false, .nils] [(0, .t 94)], 2, [], [1], none⟩, ⟨some 96, .app (some 4) 64 (.t 93) (.t 95), 3, [0, 1, 2], [], none⟩, ⟨some 97, .fa 1 (.t 6), 4, [0, 1], [], none⟩, ⟨none, .st 1 (.t 97) (.t 91), 4, [0, 1, 2, 3], [], none⟩, ⟨some 98, .fa 2 (.t 6), 4, [0, 1, 2, 3], [], none⟩, ⟨none, .st 1 (.t 98) (.t 96), 4, [0, 1, 2, 3], [], none⟩] = (4, 2) := Z05
def Zbm:List IOp := [oI 99 (.bin .add (.t 28) (cI 1)) 0,mI 28 99 0]
def Ze5:CC := .seq (.rg false Zj8) (.seq (.cond (.t 29) .skip (.exit 0)) (.seq (.block 1 (.seq (.rg false Zsc) (.seq (.rg false Zsr) (.seq (.rg false Zuw) (.seq (.rg false Zax) (.seq (.seq (.rg false Zd3) (.cond (.t 72) (.rg false Zbk) .skip)) (.rg true Zbc))))))) (.rg false Zbm)))
def Zb8:List IOp := [mI 101 7 0,oI 102 (.un .not (.t 101)) 0,mI 100 102 0]
def Zif:List IOp := [oI 103 (.build [.int .i64 0,.nils,.nils] []) 0,⟨none,.st 3 (.t 4) (.t 103),0,[],[],none⟩,oI 5 (.mv (cI 2)) 0]
def Zd2:List IOp := [mI 105 8 0,oI 106 (.un .not (.t 105)) 0,mI 104 106 0]
def Zid:List IOp := [oI 107 (.build [.int .i64 0,.nils,.nils] []) 0,⟨none,.st 3 (.t 4) (.t 107),0,[],[],none⟩,oI 5 (.mv (cI 1)) 0]
def Zig:List IOp := [lJ 108 3 6 0,⟨none,.st 3 (.t 4) (.t 108),0,[],[],none⟩,oI 5 (.mv (cI 0)) 0]
def Z62:CC := .seq (.rg false Zc2) (.seq (.rg false Zc7) (.seq (.rg false Zcy) (.seq (.seq (.rg false Zka) (.block 0 (.loop Ze5))) (.seq (.block 2 (.seq (.rg false Zb8) (.cond (.t 100) (.seq (.rg false Zif) .ret) (.seq (.rg false Zd2) (.cond (.t 104) (.seq (.rg false Zid) .ret) .skip))))) (.seq (.rg false Zig) .ret)))))
abbrev Yfw:Nat:=62
theorem Ycf:fnOk Tryz.prog 62=some (109,Z62,[.cell 4 (some 3),.tmp 5]):=by kernel_rfl
end GoAbs
namespace GoAbs
open Go Go.Proofs
theorem Yxr {n:Nat}(hn:n<4294967296):SpecV Tryz.prog Yhk [.int .u64 1,.int .u64 (n:Int)] (.tup [.int .u64 0,.int .u64 (n:Int)]):=by
 refine Zae Ye6 (by simp) ?_
 unfold Yb5
 have h32:(32:Int)=((32:Nat):Int):=rfl
 have a1:andI .u64 1 4294967295=1:=by have:=and64 (a:=1) (b:=4294967295) (by omega) (by omega); simpa using this
 have a2:andI .u64 (n:Int) 4294967295=n:=by
  have:=and64 (a:=n) (b:=4294967295) (by omega) (by omega)
  rw [show ((4294967295:Nat):Int)=4294967295 from rfl] at this
  rw [this,show (4294967295:Nat)=2 ^ 32 - 1 from rfl,Nat.and_two_pow_sub_one_eq_mod,Nat.mod_eq_of_lt (by simpa using hn)]
 have a0:andI .u64 0 4294967295=0:=by have:=and64 (a:=0) (b:=4294967295) (by omega) (by omega); simpa using this
 have s1:shrI .u64 1 32=0:=by
  have:=Zeh .u64 1 32 (by decide)
  rw [h32]; simpa using this
 have s2:shrI .u64 (n:Int) 32=0:=by
  rw [h32,Zeh .u64 n 32 (by decide),Nat.div_eq_of_lt (by simpa using hn)]; rfl
 have s0:shrI .u64 0 32=0:=by
  have:=Zeh .u64 0 32 (by decide)
  rw [h32]; simpa using this
 have w0:IntKind.u64.wrap 0=0:=Za1 (by omega) (by omega)
 have wn:IntKind.u64.wrap (n:Int)=n:=Za1 (by omega) (by omega)
 have p32:(0:Int)≤32:=by omega
 have m1:(1:Int)*n=n:=Int.one_mul _
 have m2:(0:Int)*n=0:=Int.zero_mul _
 simp only [go_sem,Zxz,Zyo,Zxa,Zyl,Zyp,Zxk,Zw3,Zyw,Zw7,Zu6,Zse,Zvp,a0,a1,a2,s0,s1,s2,w0,wn,p32,m1,m2,Int.mul_zero,Int.add_zero]
theorem mul_one {n:Nat}(hn:n<4294967296):SpecV Tryz.prog Ys6 [.int .u64 1,.int .u64 (n:Int)] (.tup [.int .u64 0,.int .u64 (n:Int)]):=by
 refine Zae Ykx (by simp) ?_
 unfold Yje
 simp only [go_sem,Z6t,Z63]
 refine Zaa (Yxr hn) (by simp only [go_sem]) ?_
 simp only [go_sem,Z7i]
def rows (c:Nat) (x:List AV):List AV:=(List.replicate c x).flatten
theorem Zfx {c:Nat}{x:List AV}(hx:x.length=4):(rows c x).length=c*4:=by
 unfold rows
 induction c with
 | zero=>rfl
 | succ c ih=>rw [List.replicate_succ,List.flatten_cons,List.length_append,ih,hx]; omega
theorem Z2z {a b:Nat}{x:List AV}:rows (a+b) x=rows a x++rows b x:=by
 unfold rows
 rw [← List.replicate_append_replicate,List.flatten_append]
theorem Ywj {c k n:Nat}{x z:List AV}(hx:x.length=4) (hz:z.length=4) (hk:k≤c) (hkn:c+k≤n) :
  (rows c x++rows (n - c) z).take (c*4)++((rows c x++rows (n - c) z).take (c*4)).take (k*4)++(rows c x++rows (n - c) z).drop (c*4+((((rows c x++rows (n - c) z).take (c*4)).take (k*4)).length))=rows (c+k) x++rows (n - (c+k)) z:=by
 have h1:(rows c x++rows (n - c) z).take (c*4)=rows c x:=by rw [← Zfx hx,List.take_left]
 have h2:(rows c x).take (k*4)=rows k x:=by
  have:rows c x=rows k x++rows (c - k) x:=by rw [← Z2z]; congr 1; omega
  rw [this, ← Zfx hx (c:=k),List.take_left]
 rw [h1,h2,Zfx hx]
 have h3:(rows c x++rows (n - c) z).drop (c*4+k*4)=rows (n - (c+k)) z:=by
  rw [← List.drop_drop]
  have:(rows c x++rows (n - c) z).drop (c*4)=rows (n - c) z:=by rw [← Zfx hx,List.drop_left]
  rw [this]
  have:rows (n - c) z=rows k z++rows (n - (c+k)) z:=by rw [← Z2z]; congr 1; omega
  rw [this, ← Zfx hz (c:=k),List.drop_left]
 rw [h3,Z2z]
theorem Z4f {n:Nat}{x:List AV}(hn:1≤n) (hnl:n≤1000000) (hx:x.length=4) :
  SpecR Tryz.prog Zfr [] [.sl [.agg x],.int .i64 (n:Int)] (.osl (some 4) 0 0 n) [.cells (rows n x)]:=by
 have hm:Tryz.prog.follows .mixedOrders=true:=by kernel_rfl
 refine Zpn Z71 (by simp) ?_
 unfold Zya
 have q0:¬ (n:Int)<0:=by omega
 have e1:IntKind.u64.wrap ((1:Nat):Int)=1:=Za1 (by omega) (by omega)
 have e1':IntKind.u64.wrap 1=1:=Za1 (by omega) (by omega)
 have e2:IntKind.u64.wrap (n:Int)=n:=Za1 (by omega) (by omega)
 have q00:¬ (0:Int)<0:=by omega
 have q1:¬ (9223372036854775807:Int)<(n:Int):=by omega
 have e3:IntKind.i64.wrap (n:Int)=n:=Zac (by omega) (by omega)
 simp only [go_sem,Znt,Znc,Zn4,q0,e1,e1',e2]
 refine Zaa (mul_one (n:=n) (by omega)) (by simp only [go_sem]) ?_
 have p0:(0:Int)≤(n:Int):=by omega
 have p1:(n:Int)≤n:=Int.le_refl _
 have p2:(64:Int)*(n:Int)≤281474976710656:=by omega
 have p4:(0:Nat)<4:=by omega
 have hmin:min 1 n=1:=by omega
 simp only [go_sem,Zm2,Znp,Zm3,q00,q1,e3,p0,p1,p2,hx]
 have hzl:(rows n [AV.bool false,AV.nils,AV.bool false,AV.nils]).length=n*4:=Zfx rfl
 refine ⟨by omega,fun y hy=>by subst hy; exact hx,by show n*4≤(rows n _).length; omega,?_⟩
 refine Zag (fun c:Nat=>⟨envL [(7,.osl (some 4) 0 0 n),(8,.int .i64 (c:Int))],[.cells (rows c x++rows (n - c) [.bool false,.nils,.bool false,.nils])]⟩)
  (fun c=>1≤c∧c≤n) (fun c=>n - c) 1 ⟨by omega,hn⟩ ?_ (fun c hI N hN=>?_)
 ·have hfill:fillA (List.replicate n [AV.bool false,.nils,.bool false,.nils]).flatten [(0,.agg ((x ++ []).take (min 1 n*4)))]=rows 1 x++rows (n - 1) [.bool false,.nils,.bool false,.nils]:=by
   rw [hmin,List.append_nil]
   simp only [fillA,AV.cells]
   have ht:x.take (1*4)=x:=List.take_of_length_le (by omega)
   rw [ht,hx,List.take_zero,List.nil_append]
   have h1:(List.replicate n [AV.bool false,.nils,.bool false,.nils]).flatten=rows 1 [.bool false,.nils,.bool false,.nils]++rows (n - 1) [.bool false,.nils,.bool false,.nils]:=by
    rw [← Z2z]; show rows n _=_; congr 1; omega
   rw [h1]
   simp [rows]
  refine Zdp (Zab [(7,.osl (some 4) 0 0 n),(8,.int .i64 ((1:Nat):Int))] (by simp only [go_sem,hmin])) ?_
  rw [← hfill]
  simp only [fillA,Yh0,List.append_nil,List.take_zero,List.nil_append,Nat.zero_add,List.flatMap_cons,List.flatMap_nil]
 ·obtain ⟨h1,h2⟩:=hI
  unfold Znk
  have hl:(rows c x++rows (n - c) [AV.bool false,.nils,.bool false,.nils]).length=n*4:=by rw [List.length_append,Zfx hx,Zfx rfl, ← Nat.add_mul]; congr 1; omega
  by_cases hc:c<n
  ·have r1:(c:Int)<(n:Int):=by omega
   have r0:(0:Int)≤(c:Int):=by omega
   have e5:IntKind.i64.wrap ((c:Int)+((min c (n - c):Nat):Int))=((c+min c (n - c):Nat):Int):=by rw [Zac (by omega) (by omega)]; omega
   have e5':IntKind.i64.wrap (((min c (n - c):Nat):Int)+(c:Int))=((c+min c (n - c):Nat):Int):=by rw [Zac (by omega) (by omega)]; omega
   have r2:c≤n:=h2
   have r3:¬ c=0:=by omega
   simp only [go_sem,Zgm,Zfq,r1,r0,r2,r3,hm,Nat.le_refl,Nat.zero_le,Nat.sub_zero,e5,e5',hl]
   have hk:min c (n - c)≤c:=Nat.min_le_left _ _
   have hkn:c+min c (n - c)≤n:=by omega
   have hst:=Ywj (z := [.bool false,.nils,.bool false,.nils]) hx rfl hk hkn
   refine ⟨by omega,by omega,?_⟩
   rw [hst]
   exact hN (c+min c (n - c)) _ ⟨by omega,hkn⟩ (by omega) (Zab _ (by simp only [go_sem]))
  ·have hcn:c=n:=by omega
   subst hcn
   have r1:¬ (c:Int)<(c:Int):=by omega
   simp only [go_sem,Zgm,Zln,r1,Nat.sub_self]
   simp [rows]
end GoAbs
namespace GoAbs
open Go Go.Proofs
def qcell (q:Rat):List AV := [.bool (decide (q.num<0)),.sl (u32c (limbs q.num.natAbs)),.bool (decide ((q.den:Int)<0)),.sl (u32c (limbs (q.den:Int).natAbs))]
theorem Zbb {q:Rat}:avQ q = .agg (qcell q):=rfl
theorem Zak {q:Rat}:(qcell q).length=4:=rfl
theorem Zan {H:Heap}{ids:List Nat}{q:Rat}:BVs H ids (qcell q) (qcell q)=True:=by
 unfold qcell; simp only [go_sem]
theorem Y36 {f:Nat→Option Nat}{q:Rat}:gcL f (qcell q)=qcell q:=rfl
def qc (r:List Rat):List AV:=r.flatMap qcell
theorem Zm1 (r:List Rat):(qc r).length=r.length*4:=by
 induction r with
 | nil=>rfl
 | cons q r ih=>show (qcell q++qc r).length=_; rw [List.length_append,ih,List.length_cons,Zak]; omega
theorem Zvz {r s:List Rat}:qc (r++s)=qc r++qc s:=by simp [qc]
theorem Yqh {r:List Rat}{j:Nat}{q:Rat}(h:r[j]? = some q):qc r=qc (r.take j)++(qcell q++qc (r.drop (j+1))):=by
 obtain ⟨hj,he⟩:=List.getElem?_eq_some_iff.1 h
 have:r=r.take j++(q::r.drop (j+1)):=by
  rw [← he]; simp
 conv=>lhs; rw [this,Zvz]
 rfl
theorem Y4q {r:List Rat}{j:Nat}(h:j≤r.length):(qc (r.take j)).length=j*4:=by rw [Zm1,List.length_take,Nat.min_eq_left h]
theorem Yl2 {r:List Rat}{j:Nat}{q:Rat}(h:r[j]? = some q):(qc r).drop (j*4)=qcell q++qc (r.drop (j+1)):=by
 have hj:=(List.getElem?_eq_some_iff.1 h).1
 rw [Yqh h, ← Y4q (r:=r) (j:=j) (by omega),List.drop_left]
theorem Zcr {r:List Rat}{j:Nat}{q:Rat}(h:r[j]? = some q):((qc r).drop (j*4)).take 4=qcell q:=by
 rw [Yl2 h]; exact List.take_left' rfl
theorem Zfd {r:List Rat}{j:Nat}{q:Rat}(h:r[j]? = some q):4≤((qc r).drop (j*4)).length:=by
 rw [Yl2 h,List.length_append,Zak]; omega
theorem Z6s {r:List Rat}{j:Nat}{x:Rat}(h:j<r.length):(qc r).take (j*4)++qcell x++(qc r).drop (j*4+4)=qc (r.set j x):=by
 have hg:=List.getElem?_eq_getElem h
 have h1:(qc r).take (j*4)=qc (r.take j):=by rw [Yqh hg, ← Y4q (r:=r) (j:=j) (by omega),List.take_left]
 have h2:(qc r).drop (j*4+4)=qc (r.drop (j+1)):=by
  rw [← List.drop_drop,Yl2 hg]; exact List.drop_left' rfl
 rw [h1,h2,List.set_eq_take_append_cons_drop,if_pos h,Zvz,List.append_assoc]
 rfl
theorem Ypr {n:Nat}{q:Rat}:qc (List.replicate n q)=rows n (qcell q):=by
 induction n with
 | zero=>rfl
 | succ n ih=>rw [List.replicate_succ]; show qcell q++qc _=_; rw [ih]; rfl
def ptrs (o w n:Nat):List AV:=(List.range n).map fun i=>AV.osl (some 4) (o+2+2*i) 0 w
def rowsH (M:List (List Rat)):Heap:=M.flatMap fun r => [.dead,.cells (qc r)]
def matH (o w:Nat) (M:List (List Rat)):Heap := .cells (ptrs o w M.length)::rowsH M
theorem Yes (o w n:Nat):(ptrs o w n).length=n:=by simp [ptrs]
theorem Zls {o w n i:Nat}(h:i<n):(ptrs o w n)[i]? = some (.osl (some 4) (o+2+2*i) 0 w):=by simp [ptrs,h]
theorem Yvu (o w n:Nat):ptrs o w (n+1)=ptrs o w n ++ [.osl (some 4) (o+2+2*n) 0 w]:=by simp [ptrs,List.range_succ]
theorem Zc6 (M:List (List Rat)):(rowsH M).length=2*M.length:=by
 induction M with
 | nil=>rfl
 | cons r M ih=>show ([Blk.dead,.cells (qc r)]++rowsH M).length=_; rw [List.length_append,ih,List.length_cons]; simp; omega
theorem Ybg:∀ {M:List (List Rat)}{i:Nat}{r:List Rat},M[i]? = some r→(rowsH M)[2*i+1]? = some (.cells (qc r))
 | [],i,r,h=>by simp at h
 | s::M,0,r,h=>by simp at h; subst h; rfl
 | s::M,i+1,r,h=>by
  show ([Blk.dead,.cells (qc s)]++rowsH M)[2*(i+1)+1]? = _
  rw [List.getElem?_append_right (by simp; omega)]
  have:=Ybg (M:=M) (i:=i) (r:=r) (by simpa using h)
  rw [← this]; congr 1
theorem Yjf:∀ {M:List (List Rat)}{i:Nat}{r:List Rat},i<M.length→(rowsH M).set (2*i+1) (.cells (qc r))=rowsH (M.set i r)
 | [],i,r,h=>by simp at h
 | s::M,0,r,h=>rfl
 | s::M,i+1,r,h=>by
  show ([Blk.dead,.cells (qc s)]++rowsH M).set (2*(i+1)+1) _ = [Blk.dead,.cells (qc s)]++rowsH (M.set i r)
  rw [List.set_append_right _ _ (by simp; omega), ← Yjf (by simpa using h)]
  congr 1
theorem Zbe (o w:Nat) (M:List (List Rat)):(matH o w M).length=1+2*M.length:=by
 show (_::rowsH M).length=_; rw [List.length_cons,Zc6]; omega
section
variable {pre post:Heap} {o w:Nat} {M:List (List Rat)}
theorem Zz1 (ho:pre.length=o):(pre++(matH o w M++post))[o]? = some (.cells (ptrs o w M.length)):=by
 rw [List.getElem?_append_right (by omega),ho,Nat.sub_self]; rfl
theorem Zmf (ho:pre.length=o) {i:Nat}{r:List Rat}(h:M[i]? = some r):(pre++(matH o w M++post))[o+2+2*i]? = some (.cells (qc r)):=by
 have hi:=(List.getElem?_eq_some_iff.1 h).1
 rw [List.getElem?_append_right (by omega),ho,List.getElem?_append_left (by rw [Zbe]; omega)]
 show (_::rowsH M)[o+2+2*i - o]? = _
 rw [show o+2+2*i - o=(2*i+1)+1 by omega,List.getElem?_cons_succ]
 exact Ybg h
theorem Yyf (ho:pre.length=o) {i:Nat}{r:List Rat}(h:i<M.length):(pre++(matH o w M++post)).set (o+2+2*i) (.cells (qc r))=pre++(matH o w (M.set i r)++post):=by
 rw [List.set_append_right _ _ (by omega),ho,List.set_append_left _ _ (by rw [Zbe]; omega)]
 congr 2
 show (_::rowsH M).set (o+2+2*i - o) _=_::rowsH (M.set i r)
 rw [show o+2+2*i - o=(2*i+1)+1 by omega,List.set_cons_succ,Yjf h,List.length_set]
end
theorem Yq3 {n:Nat}{m:Nat}:(List.replicate m [AV.nils]).flatten=List.replicate m .nils:=by
 induction m with
 | zero=>rfl
 | succ m ih=>rw [List.replicate_succ,List.flatten_cons,ih]; rfl
theorem Ynf {H:Heap}{ids:List Nat}{b:Nat}{c:List AV}(hc:c.length=4) (hb:H[b]? = some (.cells c)) (hi:b∈ids) (hq:BVs H ids c c):BV H ids (.osl (some 4) b 0 1) (.sl [.agg c]):=by
 refine .osl (some 4) b 0 1 c [.agg c] hb hi rfl (fun x hx=>by simp at hx; subst hx; exact hc) (by simp [es,hc]) (fun i x j y z hx hy hz=>?_)
 have hi0:i=0:=by
  have:=(List.getElem?_eq_some_iff.1 hx).1
  simp at this; exact this
 subst hi0
 simp at hx
 subst hx
 simp only [es,Nat.zero_mul,Nat.zero_add] at hz
 have hy':c[j]? = some y:=hy
 rw [hy'] at hz
 cases hz
 exact (Yzp hq).2 j y y hy' hy'
theorem Yma {f:Nat→Option Nat}{n:Nat}{q:Rat}:gcL f (rows n (qcell q))=rows n (qcell q):=by
 rw [← Ypr]
 induction n with
 | zero=>rfl
 | succ n ih =>
  rw [List.replicate_succ]
  show gcL f (qcell q++qc _)=qcell q++qc _
  rw [Zaz] at ih ⊢
  rw [List.map_append,ih]
  rfl
theorem Ylv {K:List AV}{M:List (List Rat)}{n:Nat}{q:Rat}(hn:1≤n) (hnl:n≤1000000) :
  SpecR Tryz.prog Zfr (.cells K::(rowsH M ++ [.cells (qcell q)])) [.osl (some 4) (2*M.length+1) 0 1,.int .i64 (n:Int)] (.osl (some 4) (2*M.length+2) 0 n) (.cells K::rowsH (M ++ [List.replicate n q])):=by
 have hb:(Blk.cells K::(rowsH M ++ [Blk.cells (qcell q)]))[2*M.length+1]? = some (.cells (qcell q)):=by
  rw [List.getElem?_cons_succ,List.getElem?_append_right (by rw [Zc6]; omega),Zc6,Nat.sub_self]; rfl
 have h:=Zvm (P:=Tryz.prog) (H := .cells K::(rowsH M ++ [.cells (qcell q)])) (ids := [2*M.length+1]) (xs := [.osl (some 4) (2*M.length+1) 0 1,.int .i64 (n:Int)]) (Z4f hn hnl (x:=qcell q) rfl)
  (by
   simp only [go_sem]
   exact Ynf rfl hb (by simp) (by rw [Zan]; trivial)) (by simp only [go_sem])
 have e1:(AV.osl (some 4) 0 0 n).gc (fun i=>some (i+(Blk.cells K::(rowsH M ++ [Blk.cells (qcell q)])).length)) = .osl (some 4) (2*M.length+2) 0 n:=by
  simp only [AV.gc,List.length_cons,List.length_append,Zc6,List.length_nil,Nat.zero_add]
 have e2:kill [2*M.length+1] (Blk.cells K::(rowsH M ++ [Blk.cells (qcell q)])) = .cells K::(rowsH M ++ [.dead]):=by
  show List.set _ _ _=_
  rw [List.set_cons_succ,List.set_append_right _ _ (by rw [Zc6]; omega),Zc6,Nat.sub_self]; rfl
 rw [e1,e2] at h
 have e3:(Blk.cells K::(rowsH M ++ [.dead]))++([Blk.cells (rows n (qcell q))].map (Blk.gc (fun i=>some (i+(Blk.cells K::(rowsH M ++ [Blk.cells (qcell q)])).length)))) = .cells K::rowsH (M ++ [List.replicate n q]):=by
  simp only [List.map_cons,List.map_nil,Blk.gc,Yma]
  unfold rowsH
  rw [List.flatMap_append, ← Ypr]
  simp
 rw [e3] at h
 exact h
theorem Y1w {m n:Nat}(hm:m≤1000000) (hn:1≤n) (hnl:n≤1000000) :
  SpecR Tryz.prog Ygu [] [.int .i64 (m:Int),.int .i64 (n:Int)] (.osl none 0 0 m) (matH 0 n (List.replicate m (List.replicate n 0))):=by
 refine Zpn Yb9 (by simp) ?_
 unfold Z7o
 have p0:(0:Int)≤(m:Int):=by omega
 have p1:(24:Int)*(m:Int)≤281474976710656:=by omega
 simp only [go_sem,Zue,Zu4,Zup,p0,Int.le_refl]
 refine ⟨by omega,?_⟩
 rw [Yq3 (n:=n)]
 refine Zag (fun i:Nat=>⟨envL [(1,.int .i64 (n:Int)),(5,.osl none 0 0 m),(10,.int .i64 (m:Int)),(11,.int .i64 (i:Int))],.cells (ptrs 0 n i++List.replicate (m - i) .nils)::rowsH (List.replicate i (List.replicate n 0))⟩)
  (fun i=>i≤m) (fun i=>m - i) 0 (by omega) (Zdp (Zab [(1,.int .i64 (n:Int)),(5,.osl none 0 0 m),(10,.int .i64 (m:Int)),(11,.int .i64 ((0:Nat):Int))] (by simp only [go_sem]; simp)) (by simp [ptrs,rowsH])) (fun i hi N hN=>?_)
 unfold Zs3
 by_cases him:i<m
 ·have r1:(i:Int)<(m:Int):=by omega
  have r0:(0:Int)≤(i:Int):=by omega
  have e1:IntKind.i64.wrap ((i:Int)+1)=((i+1:Nat):Int):=by rw [Zac (by omega) (by omega)]; omega
  simp only [go_sem,Zj0,Ztk,Zv4,r1]
  refine Zaa Yd5 (by simp only [go_sem]) ?_
  simp only [go_sem,Zbb,Zak,List.append_nil]
  have hlen:(rowsH (List.replicate i (List.replicate n (0:Rat)))).length=2*i:=by rw [Zc6,List.length_replicate]
  rw [hlen]
  have hrep:=Ylv (K:=ptrs 0 n i++List.replicate (m - i) .nils) (M:=List.replicate i (List.replicate n 0)) (q:=0) hn hnl
  rw [List.length_replicate, ← List.replicate_succ'] at hrep
  refine Zi0 hrep ?_
  have hl2:i+1≤(ptrs 0 n i++List.replicate (m - i) AV.nils).length:=by rw [List.length_append,Yes,List.length_replicate]; omega
  simp only [go_sem,Zwb,r0,r1,hl2,e1]
  rw [Za5 (by omega)]
  have hset:(ptrs 0 n i++List.replicate (m - i) AV.nils).set i (.osl (some 4) (2*i+2) 0 n)=ptrs 0 n (i+1)++List.replicate (m - (i+1)) .nils:=by
   rw [List.set_append_right _ _ (by rw [Yes]; omega),Yes,Nat.sub_self]
   have:m - i=(m - (i+1))+1:=by omega
   rw [this,List.replicate_succ,List.set_cons_zero,Yvu,List.append_assoc]
   congr 3
   omega
  rw [hset]
  exact hN (i+1) _ (by omega) (by omega) (Zab _ (by simp only [go_sem]))
 ·have him':i=m:=by omega
  subst him'
  have r1:¬ (i:Int)<(i:Int):=by omega
  simp only [go_sem,Zj0,Zsm,r1,Nat.sub_self,List.replicate_zero,List.append_nil]
  unfold matH
  rw [List.length_replicate]
end GoAbs
namespace GoAbs
open Go Go.Proofs
theorem Yvs {pre post:Heap}{o w i j k:Nat}{M:List (List Rat)}{r:List Rat}{q x:Rat}(ho:pre.length=o) (hr:M[i]? = some r) (hq:r[j]? = some q) (hw:r.length=w) (hml:M.length≤1000000) (hwl:w≤1000000)
  (bq:Qb k q) (bx:Qb k x) (hk:2*k+1≤1000000000000) :
  SpecR Tryz.prog Z66 (pre++(matH o w M++post)) [.osl none o 0 M.length,.int .i64 (i:Int),.int .i64 (j:Int),.agg (qcell x)] (.tup []) (pre++(matH o w (M.set i (r.set j (q+x)))++(post ++ [.cells (qcell x)]))):=by
 have hm:Tryz.prog.follows .mixedOrders=true:=by kernel_rfl
 have hi:=(List.getElem?_eq_some_iff.1 hr).1
 have hj:=(List.getElem?_eq_some_iff.1 hq).1
 refine Zpn Yer (by simp) ?_
 unfold Yb6
 have p0:(0:Int)≤(i:Int):=by omega
 have p1:(i:Int)<(M.length:Int):=by omega
 have p2:(0:Int)≤(j:Int):=by omega
 have p3:(j:Int)<(w:Int):=by omega
 have eA:(pre++(matH o w M++post)) ++ [Blk.cells (qcell x)]=pre++(matH o w M++(post ++ [.cells (qcell x)])):=by simp
 have gP:=Zz1 (post:=post ++ [.cells (qcell x)]) (w:=w) (M:=M) ho
 have gR:=Zmf (post:=post ++ [.cells (qcell x)]) (w:=w) ho hr
 have gX:(pre++(matH o w M++(post ++ [Blk.cells (qcell x)])))[(pre++(matH o w M++post)).length]? = some (.cells (qcell x)):=by
  rw [← eA,List.getElem?_append_right (Nat.le_refl _),Nat.sub_self]; rfl
 have hlen:(pre++(matH o w M++(post ++ [Blk.cells (qcell x)]))).length=(pre++(matH o w M++post)).length+1:=by rw [← eA,List.length_append]; rfl
 have hoL:o<(pre++(matH o w M++post)).length+1:=by simp [Zbe,ho]; omega
 have hrL:o+2+2*i<(pre++(matH o w M++post)).length+1:=by simp [Zbe,ho]; omega
 have hxL:(pre++(matH o w M++post)).length<(pre++(matH o w M++post)).length+1:=by omega
 have hg:=Zls (o:=o) (w:=w) hi
 have ht:=Zcr hq
 have hl4:=Zfd hq
 have hql:(4:Nat)≤(qcell x).length:=by rw [Zak]; omega
 have hqt:(qcell x).take 4=qcell x:=List.take_of_length_le (by rw [Zak]; omega)
 have hfit:j*4+4≤(qc r).length:=by rw [Zm1]; omega
 simp only [go_sem,Zx4,Zmr,hm,eA]
 generalize hHH:(pre++(matH o w M++post)).length=L at *
 simp only [go_sem,hlen,p0,p1,p2,p3,gP,gR,gX,hoL,hrL,hxL,List.getElem?_drop,hg,ht,hl4,hql,hqt]
 refine Zaa (Y4h bq bx hk) (by simp only [go_sem,Zbb,Zan]) ?_
 simp only [go_sem,Zbb,hlen,p0,p1,p2,p3,gP,gR,gX,hoL,hrL,hxL,Zak,hfit]
 rw [Z6s hj,Yyf ho hi]
end GoAbs
namespace GoAbs
open Go Go.Proofs
abbrev RM:=List (List Rat)
def rget (r:List Rat) (j:Nat):Rat:=r.getD j 0
def mget (M:RM) (i j:Nat):Rat:=rget (M.getD i []) j
theorem Zaj {r:List Rat}{j:Nat}(h:j<r.length):r[j]? = some (rget r j):=by
 unfold rget
 rw [List.getD_eq_getElem?_getD,List.getElem?_eq_getElem h]; rfl
theorem getD_some {M:RM}{i:Nat}(h:i<M.length):M[i]? = some (M.getD i []):=by
 rw [List.getD_eq_getElem?_getD,List.getElem?_eq_getElem h]; rfl
def elimTo (p:List Rat) (c:Nat) (q:Rat) (r:List Rat) (J:Nat):List Rat:=(List.range r.length).map fun j=>if c≤j∧j<J then rget r j - q*rget p j else rget r j
theorem Zgh {p r:List Rat}{c J:Nat}{q:Rat}:(elimTo p c q r J).length=r.length:=by simp [elimTo]
theorem Zm0 {p r:List Rat}{c J j:Nat}{q:Rat}(h:j<r.length):(elimTo p c q r J)[j]? = some (if c≤j∧j<J then rget r j - q*rget p j else rget r j):=by simp [elimTo,h]
theorem Ymq {p r:List Rat}{c J:Nat}{q:Rat}(h:J≤c):elimTo p c q r J=r:=by
 apply List.ext_getElem?
 intro j
 by_cases hj:j<r.length
 ·rw [Zm0 hj,if_neg (by omega),Zaj hj]
 ·rw [List.getElem?_eq_none (by rw [Zgh]; omega),List.getElem?_eq_none (by omega)]
theorem Ymv {p r:List Rat}{c J:Nat}{q:Rat}(h:J<r.length) (hc:c≤J):(elimTo p c q r J).set J (rget r J - q*rget p J)=elimTo p c q r (J+1):=by
 apply List.ext_getElem?
 intro j
 by_cases hj:j<r.length
 ·rw [Zm0 hj]
  by_cases h1:j=J
  ·subst h1
   rw [List.getElem?_set_self (by rw [Zgh]; exact hj),if_pos (by omega)]
  ·rw [List.getElem?_set_ne (by omega),Zm0 hj]
   by_cases h2:c≤j∧j<J
   ·rw [if_pos h2,if_pos (by omega)]
   ·rw [if_neg h2,if_neg (by omega)]
 ·rw [List.getElem?_eq_none (by rw [List.length_set,Zgh]; omega),List.getElem?_eq_none (by rw [Zgh]; omega)]
theorem Zwl {pre post:Heap}{o w:Nat}{M:RM}(ho:pre.length=o) {n t:Nat}(hn:M.length=n):(pre++(matH o w M++post))[o+(1+2*n)+t]? = post[t]?:=by
 rw [List.getElem?_append_right (by omega),ho,List.getElem?_append_right (by rw [Zbe]; omega),Zbe]
 congr 1; omega
theorem Ywi {M:RM}{i:Nat}{a b:List Rat}:(M.set i a).set i b=M.set i b:=by simp
def Rb (k:Nat) (r:List Rat):Prop:=∀ x,x∈r→Qb k x
def Mb (k:Nat) (M:RM):Prop:=∀ r,r∈M→Rb k r
theorem Rb.get {k:Nat}{r:List Rat}(h:Rb k r) {j:Nat}(hj:j<r.length):Qb k (rget r j):=h _ (List.mem_of_getElem? (Zaj hj))
theorem Rb.mono {k l:Nat}{r:List Rat}(h:Rb k r) (hkl:k≤l):Rb l r:=fun x hx=>(h x hx).mono hkl
theorem Rb.elimTo {k:Nat}{p r:List Rat}{c J:Nat}{q:Rat}(hr:Rb k r) (hp:Rb k p) (hl:p.length=r.length) (hq:Qb (2*k) q):Rb (8*k+1) (GoAbs.elimTo p c q r J):=fun x hx=>by
 unfold GoAbs.elimTo at hx
 obtain ⟨j,hj,rfl⟩:=List.mem_map.1 hx
 have hj':=List.mem_range.1 hj
 split
 ·have h1:=(hr.get hj').mono (show k≤4*k by omega)
  have h2:=Qb.mul hq ((hp.get (j:=j) (by omega)).mono (show k≤2*k by omega))
  have h3:=h1.sub (h2.mono (show 2*(2*k)≤4*k by omega))
  exact h3.mono (by omega)
 ·exact (hr.get hj').mono (by omega)
theorem Y98 {pre post:Heap}{o w n i c t n0 bz:Nat}{M:RM}{q:Rat}{k:Nat}{p r:List Rat}(ho:pre.length=o) (hn:M.length=n) (hnl:n≤1000000) (hwl:w≤1000000) (hi:i<n) (hc:c<n) (hci:c≠i) (hcw:c≤w)
  (hp:M[c]? = some p) (hr:M[i]? = some r) (hpw:p.length=w) (hrw:r.length=w) (hbz:bz=o+(1+2*n)+t) (hpost:post[t]? = some (.cells (qcell q)))
  (bp:Rb k p) (br:Rb k r) (bq:Qb (2*k) q) (hk1:1≤k) (hk:2*(4*k)+1≤1000000000000) {bA:Nat} {K:Ex→St→Prop}
  (hK:∀ e:Nat→AV,e 0 = .osl none o 0 n→e 2 = .ptr bA 0→e 3 = .ptr (bA+1) 0→e 4 = .int .i64 (c:Int)→e 6 = .int .i64 (i:Int)→e 11 = .int .i64 (n:Int)→e 12 = .int .i64 (c:Int) →
   K (.exit 6) ⟨e,pre++(matH o w (M.set i (elimTo p c q r w))++post)⟩) :
  T Tryz.prog 133 n0 (.loop Zd7) ⟨envL [(0,.osl none o 0 n),(2,.ptr bA 0),(3,.ptr (bA+1) 0),(4,.int .i64 (c:Int)),(6,.int .i64 (i:Int)),(7,.ptr bz 0),(8,.int .i64 (c:Int)),(11,.int .i64 (n:Int)),(12,.int .i64 (c:Int))],pre++(matH o w M++post)⟩ K:=by
 have hm:Tryz.prog.follows .mixedOrders=true:=by kernel_rfl
 have hMset:M.set i r=M:=by
  apply List.ext_getElem?
  intro x
  by_cases hx:i=x
  ·subst hx; rw [List.getElem?_set_self (by omega),hr]
  ·rw [List.getElem?_set_ne hx]
 refine Zag (fun J:Nat=>⟨envL [(0,.osl none o 0 n),(2,.ptr bA 0),(3,.ptr (bA+1) 0),(4,.int .i64 (c:Int)),(6,.int .i64 (i:Int)),(7,.ptr bz 0),(8,.int .i64 (J:Int)),(11,.int .i64 (n:Int)),(12,.int .i64 (c:Int))],pre++(matH o w (M.set i (elimTo p c q r J))++post)⟩)
  (fun J=>c≤J∧J≤w) (fun J=>w - J) c ⟨Nat.le_refl _,hcw⟩ (Zdp (Zab [(0,.osl none o 0 n),(2,.ptr bA 0),(3,.ptr (bA+1) 0),(4,.int .i64 (c:Int)),(6,.int .i64 (i:Int)),(7,.ptr bz 0),(8,.int .i64 (c:Int)),(11,.int .i64 (n:Int)),(12,.int .i64 (c:Int))] (by simp only [go_sem])) (by rw [Ymq (Nat.le_refl _),hMset])) (fun J hJ N hN=>?_)
 obtain ⟨h1,h2⟩:=hJ
 unfold Zd7
 have hnS:(M.set i (elimTo p c q r J)).length=n:=by rw [List.length_set,hn]
 have gP:=Zz1 (pre:=pre) (post:=post) (w:=w) (M:=M.set i (elimTo p c q r J)) ho
 rw [hnS] at gP
 have gi:=Zls (o:=o) (w:=w) hi
 have gc:=Zls (o:=o) (w:=w) hc
 have q0:(0:Int)≤(i:Int):=by omega
 have q1:(i:Int)<(n:Int):=by omega
 have q2:(0:Int)≤(c:Int):=by omega
 have q3:(c:Int)<(n:Int):=by omega
 by_cases hJw:J<w
 ·have rJ:(M.set i (elimTo p c q r J))[i]? = some (elimTo p c q r J):=List.getElem?_set_self (by omega)
  have rc:(M.set i (elimTo p c q r J))[c]? = some p:=by rw [List.getElem?_set_ne (by omega)]; exact hp
  have gR:=Zmf (post:=post) (w:=w) ho rJ
  have gC:=Zmf (post:=post) (w:=w) ho rc
  have gQ:=Zwl (post:=post) (w:=w) (t:=t) ho hnS
  rw [hpost, ← hbz] at gQ
  have eJ:(elimTo p c q r J)[J]? = some (rget r J):=by rw [Zm0 (by omega),if_neg (by omega)]
  have pJ:p[J]? = some (rget p J):=Zaj (by omega)
  have t1:=Zcr eJ
  have t2:=Zfd eJ
  have t3:=Zcr pJ
  have t4:=Zfd pJ
  have hql:(4:Nat)≤(qcell q).length:=by rw [Zak]; omega
  have hqt:(qcell q).take 4=qcell q:=List.take_of_length_le (by rw [Zak]; omega)
  have r0:(0:Int)≤(J:Int):=by omega
  have r1:(J:Int)<(w:Int):=by omega
  have e1:IntKind.i64.wrap ((J:Int)+1)=((J+1:Nat):Int):=by rw [Zac (by omega) (by omega)]; omega
  have hlen:(pre++(matH o w (M.set i (elimTo p c q r J))++post)).length=o+(1+2*n)+post.length:=by rw [List.length_append,List.length_append,Zbe,hnS,ho]; omega
  have ht:t<post.length:=(List.getElem?_eq_some_iff.1 hpost).1
  have l0:o<o+(1+2*n)+post.length:=by omega
  have l1:o+2+2*i<o+(1+2*n)+post.length:=by omega
  have l2:o+2+2*c<o+(1+2*n)+post.length:=by omega
  have l3:bz<o+(1+2*n)+post.length:=by omega
  have hfit:J*4+4≤(qc (elimTo p c q r J)).length:=by rw [Zm1,Zgh]; omega
  simp only [go_sem,Zdj,Zdg,Zim,hm,q0,q1,q2,q3,gP,gi,gc,gR,gC,gQ,List.getElem?_drop,r0,r1,hlen,l0,l1,l2,l3,hql,hqt,t1,t2,t3,t4]
  refine Zaa (Ywf bq ((bp.get (j:=J) (by omega)).mono (by omega)) (by omega)) (by simp only [go_sem,Zbb,Zan]) ?_
  simp only [go_sem,Zbb]
  refine Zaa (Yxm (k:=4*k) ((br.get (j:=J) (by omega)).mono (by omega)) ((Qb.mul bq ((bp.get (j:=J) (by omega)).mono (show k≤2*k by omega))).mono (by omega)) hk) (by simp only [go_sem,Zbb,Zan]) ?_
  simp only [go_sem,Zbb,q0,q1,q2,q3,gP,gi,gR,List.getElem?_drop,r0,r1,hlen,l0,l1,l2,l3,Zak,hfit,e1]
  rw [Z6s (by rw [Zgh]; omega),Yyf ho (by omega),Ywi,Ymv (by omega) h1]
  exact hN (J+1) _ ⟨by omega,by omega⟩ (by omega) (Zab _ (by simp only [go_sem]))
 ·have hJw':J=w:=by omega
  subst hJw'
  have r1:¬ (J:Int)<(J:Int):=by omega
  have l0:True:=trivial
  simp only [go_sem,Zdj,q0,q1,gP,gi,List.getElem?_drop,r1]
  exact hK _ (by simp only [go_sem]) (by simp only [go_sem]) (by simp only [go_sem]) (by simp only [go_sem]) (by simp only [go_sem]) (by simp only [go_sem]) (by simp only [go_sem])
def elimRow (p:List Rat) (c:Nat) (r:List Rat):List Rat:=if rget r c=0 then r else elimTo p c (rget r c / rget p c) r r.length
theorem Ymx {p r:List Rat}{c:Nat}:(elimRow p c r).length=r.length:=by
 unfold elimRow; split
 ·rfl
 ·exact Zgh
def elimCol (M:RM) (c I:Nat):RM:=(List.range M.length).map fun i=>if c<i∧i<I then elimRow (M.getD c []) c (M.getD i []) else M.getD i []
theorem Zaw {M:RM}{c I:Nat}:(elimCol M c I).length=M.length:=by simp [elimCol]
theorem Zei {M:RM}{c I i:Nat}(h:i<M.length):(elimCol M c I)[i]? = some (if c<i∧i<I then elimRow (M.getD c []) c (M.getD i []) else M.getD i []):=by simp [elimCol,h]
theorem Yhv {M:RM}{c I:Nat}(h:I≤c+1):elimCol M c I=M:=by
 apply List.ext_getElem?
 intro i
 by_cases hi:i<M.length
 ·rw [Zei hi,if_neg (by omega),getD_some hi]
 ·rw [List.getElem?_eq_none (by rw [Zaw]; omega),List.getElem?_eq_none (by omega)]
theorem Z7e {M:RM}{c I:Nat}(hI:I<M.length) (hc:c<I):(elimCol M c I).set I (elimRow (M.getD c []) c (M.getD I []))=elimCol M c (I+1):=by
 apply List.ext_getElem?
 intro i
 by_cases hi:i<M.length
 ·rw [Zei hi]
  by_cases h1:i=I
  ·subst h1
   rw [List.getElem?_set_self (by rw [Zaw]; exact hi),if_pos (by omega)]
  ·rw [List.getElem?_set_ne (by omega),Zei hi]
   by_cases h2:c<i∧i<I
   ·rw [if_pos h2,if_pos (by omega)]
   ·rw [if_neg h2,if_neg (by omega)]
 ·rw [List.getElem?_eq_none (by rw [List.length_set,Zaw]; omega),List.getElem?_eq_none (by rw [Zaw]; omega)]
def Wid (w:Nat) (M:RM):Prop:=∀ r,r∈M→r.length=w
theorem Wid.get {w:Nat}{M:RM}(h:Wid w M) {i:Nat}(hi:i<M.length):(M.getD i []).length=w:=h _ (List.mem_of_getElem? (getD_some hi))
theorem Wid.elim {w:Nat}{M:RM}(h:Wid w M) {c I:Nat}:Wid w (elimCol M c I):=fun r hr=>by
 unfold elimCol at hr
 obtain ⟨i,hi,rfl⟩:=List.mem_map.1 hr
 have hi':=List.mem_range.1 hi
 split
 ·rw [Ymx]; exact h.get hi'
 ·exact h.get hi'
theorem Mb.get {k:Nat}{M:RM}(h:Mb k M) {i:Nat}(hi:i<M.length):Rb k (M.getD i []):=h _ (List.mem_of_getElem? (getD_some hi))
theorem Mb.mono {k l:Nat}{M:RM}(h:Mb k M) (hkl:k≤l):Mb l M:=fun r hr=>(h r hr).mono hkl
theorem Rb.elimRow {k w:Nat}{p r:List Rat}{c:Nat}(hr:Rb k r) (hp:Rb k p) (hpl:p.length=w) (hrl:r.length=w) (hc:c<w) (h0:rget p c≠0):Rb (8*k+1) (GoAbs.elimRow p c r):=by
 unfold GoAbs.elimRow
 split
 ·exact hr.mono (by omega)
 ·exact Rb.elimTo hr hp (by omega) ((hr.get (by omega)).div (hp.get (by omega)) h0)
theorem Mb.elim {k w:Nat}{M:RM}(h:Mb k M) (hw:Wid w M) {c I:Nat}(hcM:c<M.length) (hc:c<w) (h0:mget M c c≠0):Mb (8*k+1) (elimCol M c I):=fun r hr=>by
 unfold elimCol at hr
 obtain ⟨i,hi,rfl⟩:=List.mem_map.1 hr
 have hi':=List.mem_range.1 hi
 split
 ·exact Rb.elimRow (h.get hi') (h.get hcM) (hw.get hcM) (hw.get hi') hc h0
 ·exact (h.get hi').mono (by omega)
theorem Ym1 {f:Nat→Option Nat}(r:List Rat):gcL f (qc r)=qc r:=by
 induction r with
 | nil=>rfl
 | cons q r ih =>
  show gcL f (qcell q++qc r)=qcell q++qc r
  rw [Zaz] at ih ⊢
  rw [List.map_append,ih]
  rfl
theorem Ye0 {o w m:Nat}{M:RM}(h:o+(1+2*M.length)≤m):Clo m (matH o w M):=by
 unfold Clo matH
 rw [List.map_cons]
 congr 1
 ·simp only [Blk.gc,Zaz]
  congr 1
  unfold ptrs
  rw [List.map_map]
  refine List.map_congr_left fun i hi=>?_
  have hi':=List.mem_range.1 hi
  simp only [Function.comp,AV.gc]
  rw [Zdm (by omega)]
 ·unfold rowsH
  rw [List.map_flatMap]
  congr 1
  funext r
  simp only [List.map_cons,List.map_nil,Blk.gc,Ym1]
end GoAbs
namespace GoAbs
open Go Go.Proofs
def z4:List AV := [.bool false,.nils,.bool false,.nils]
theorem Zh1 {pre post PP:Heap}{o w:Nat}{M:RM}(ho:pre.length=o) {n t b:Nat}(hn:M.length=n) (hb:b=o+(1+2*n)+PP.length):(pre++(matH o w M++(PP++post)))[b+t]? = post[t]?:=by
 rw [hb,show o+(1+2*n)+PP.length+t=o+(1+2*n)+(PP.length+t) by omega,Zwl ho hn,List.getElem?_append_right (by omega)]
 congr 1; omega
theorem Zhw {pre post:Heap}{o w:Nat}{M:RM}(ho:pre.length=o) {n t:Nat}(hn:M.length=n) {bl:Blk}:(pre++(matH o w M++post)).set (o+(1+2*n)+t) bl=pre++(matH o w M++post.set t bl):=by
 rw [List.set_append_right _ _ (by omega),ho,List.set_append_right _ _ (by rw [Zbe]; omega),Zbe]
 congr 3; omega
theorem Zfz {pre post PP:Heap}{o w:Nat}{M:RM}(ho:pre.length=o) {n t b:Nat}(hn:M.length=n) (hb:b=o+(1+2*n)+PP.length) {bl:Blk}:(pre++(matH o w M++(PP++post))).set (b+t) bl=pre++(matH o w M++(PP++post.set t bl)):=by
 rw [hb,show o+(1+2*n)+PP.length+t=o+(1+2*n)+(PP.length+t) by omega,Zhw ho hn,List.set_append_right _ _ (by omega)]
 congr 4; omega
theorem Yfy {pre post PP:Heap}{o w:Nat}{M:RM}(ho:pre.length=o) {n b:Nat}(hn:M.length=n) (hb:b=o+(1+2*n)+PP.length):(pre++(matH o w M++(PP++post))).length=b+post.length:=by
 rw [List.length_append,List.length_append,List.length_append,Zbe,hn,ho,hb]; omega
theorem Xc2 {pre PP:Heap}{o w n c n0 k b:Nat}{M:RM}{d:Rat}(ho:pre.length=o) (hn:M.length=n) (hnl:n≤1000000) (hwl:w≤1000000) (hc:c<n) (hcw:c<w) (hW:Wid w M) (hB:Mb k M)
  (h0:mget M c c≠0) (hk1:1≤k) (hk:2*(4*k)+1≤1000000000000) (hb:b=o+(1+2*n)+PP.length) (hn0:n0≤b) (hpre:Clo (b+2) pre) (hPP:Clo (b+2) PP) {K:Ex→St→Prop}
  (hK:∀ e:Nat→AV,e 0 = .osl none o 0 n→e 2 = .ptr b 0→e 3 = .ptr (b+1) 0→e 11 = .int .i64 (n:Int)→e 12 = .int .i64 (c:Int) →
   K (.exit 4) ⟨e,pre++(matH o w (elimCol M c n)++(PP ++ [.cells z4,.cells (qcell d)]))⟩) :
  T Tryz.prog 133 n0 (.loop Zel) ⟨envL [(0,.osl none o 0 n),(2,.ptr b 0),(3,.ptr (b+1) 0),(4,.int .i64 (c:Int)),(6,.int .i64 ((c+1:Nat):Int)),(11,.int .i64 (n:Int)),(12,.int .i64 (c:Int))],pre++(matH o w M++(PP ++ [.cells z4,.cells (qcell d)]))⟩ K:=by
 have hm:Tryz.prog.follows .mixedOrders=true:=by kernel_rfl
 refine Zag (fun i:Nat=>⟨envL [(0,.osl none o 0 n),(2,.ptr b 0),(3,.ptr (b+1) 0),(4,.int .i64 (c:Int)),(6,.int .i64 (i:Int)),(11,.int .i64 (n:Int)),(12,.int .i64 (c:Int))],pre++(matH o w (elimCol M c i)++(PP ++ [.cells z4,.cells (qcell d)]))⟩)
  (fun i=>c+1≤i∧i≤n) (fun i=>n - i) (c+1) ⟨Nat.le_refl _,hc⟩ (Zdp (Zab [(0,.osl none o 0 n),(2,.ptr b 0),(3,.ptr (b+1) 0),(4,.int .i64 (c:Int)),(6,.int .i64 ((c+1:Nat):Int)),(11,.int .i64 (n:Int)),(12,.int .i64 (c:Int))] (by simp only [go_sem])) (by rw [Yhv (Nat.le_refl _)])) (fun i hI N hN=>?_)
 obtain ⟨h1,h2⟩:=hI
 unfold Zel
 have hnS:(elimCol M c i).length=n:=by rw [Zaw,hn]
 by_cases hi:i<n
 ·have gP:=Zz1 (pre:=pre) (post:=PP ++ [.cells z4,.cells (qcell d)]) (w:=w) (M:=elimCol M c i) ho
  rw [hnS] at gP
  have gi:=Zls (o:=o) (w:=w) hi
  have gc:=Zls (o:=o) (w:=w) hc
  have rI:(elimCol M c i)[i]? = some (M.getD i []):=by rw [Zei (by omega),if_neg (by omega)]
  have rC:(elimCol M c i)[c]? = some (M.getD c []):=by rw [Zei (by omega),if_neg (by omega)]
  have gR:=Zmf (post:=PP ++ [.cells z4,.cells (qcell d)]) (w:=w) ho rI
  have gC:=Zmf (post:=PP ++ [.cells z4,.cells (qcell d)]) (w:=w) ho rC
  have hlI:=hW.get (show i<M.length by omega)
  have hlC:=hW.get (show c<M.length by omega)
  have eI:(M.getD i [])[c]? = some (mget M i c):=Zaj (by omega)
  have eC:(M.getD c [])[c]? = some (mget M c c):=Zaj (by omega)
  have t1:=Zcr eI
  have t2:=Zfd eI
  have t3:=Zcr eC
  have t4:=Zfd eC
  have q0:(0:Int)≤(i:Int):=by omega
  have q1:(i:Int)<(n:Int):=by omega
  have q2:(0:Int)≤(c:Int):=by omega
  have q3:(c:Int)<(n:Int):=by omega
  have q4:(c:Int)<(w:Int):=by omega
  have e1:IntKind.i64.wrap ((i:Int)+1)=((i+1:Nat):Int):=by rw [Zac (by omega) (by omega)]; omega
  have hlen:(pre++(matH o w (elimCol M c i)++(PP ++ [Blk.cells z4,.cells (qcell d)]))).length=b+2:=Yfy ho hnS hb
  have bI:=hB.get (show i<M.length by omega)
  have bC:=hB.get (show c<M.length by omega)
  simp only [go_sem,Zdh,Ziz,q0,q1,q2,q3,q4,gP,gi,gc,gR,List.getElem?_drop,t1,t2]
  refine Zaa (Yjr (mget M i c)) (by simp only [go_sem,Zbb,Zan]) ?_
  by_cases hz:mget M i c=0
  ·simp only [go_sem,hz,Zdc,e1]
   have hE:elimCol M c (i+1)=elimCol M c i:=by
    rw [← Z7e (by omega) (by omega)]
    unfold elimRow
    rw [if_pos (show rget (M.getD i []) c=0 from hz)]
    apply List.ext_getElem?
    intro x
    by_cases hx:i=x
    ·subst hx; rw [List.getElem?_set_self (by omega),rI]
    ·rw [List.getElem?_set_ne hx]
   refine hN (i+1) _ ⟨by omega,by omega⟩ (by omega) ?_
   rw [hE]
   exact Zab _ (by simp only [go_sem])
  ·have hz':¬ (if mget M i c<0 then (-1:Int) else 1)=0:=by split <;> omega
   have eA:∀ X:Blk,(pre++(matH o w (elimCol M c i)++(PP ++ [Blk.cells z4,.cells (qcell d)]))) ++ [X]=pre++(matH o w (elimCol M c i)++(PP ++ [.cells z4,.cells (qcell d),X])):=fun X=>by simp
   have gP3:∀ X:Blk,(pre++(matH o w (elimCol M c i)++(PP ++ [Blk.cells z4,.cells (qcell d),X])))[o]? = some (.cells (ptrs o w n)):=fun X=>by
    have:=Zz1 (pre:=pre) (post:=PP ++ [.cells z4,.cells (qcell d),X]) (w:=w) (M:=elimCol M c i) ho
    rwa [hnS] at this
   have gR3:∀ X:Blk,(pre++(matH o w (elimCol M c i)++(PP ++ [Blk.cells z4,.cells (qcell d),X])))[o+2+2*i]? = some (.cells (qc (M.getD i []))):=fun X=>Zmf ho rI
   have gC3:∀ X:Blk,(pre++(matH o w (elimCol M c i)++(PP ++ [Blk.cells z4,.cells (qcell d),X])))[o+2+2*c]? = some (.cells (qc (M.getD c []))):=fun X=>Zmf ho rC
   have g3:∀ X:Blk,(pre++(matH o w (elimCol M c i)++(PP ++ [Blk.cells z4,.cells (qcell d),X])))[b+2]? = some X:=fun X=>Zh1 (t:=2) ho hnS hb
   have s3:∀ X Y:Blk,(pre++(matH o w (elimCol M c i)++(PP ++ [Blk.cells z4,.cells (qcell d),X]))).set (b+2) Y=pre++(matH o w (elimCol M c i)++(PP ++ [.cells z4,.cells (qcell d),Y])):=fun X Y=>Zfz (t:=2) ho hnS hb
   have l0:o<b+2:=by omega
   have l1:o+2+2*i<b+2:=by omega
   have l2:o+2+2*c<b+2:=by omega
   simp only [go_sem,hz,hz',Zdb,hm,hlen,eA,q0,q1,q2,q3,q4,gP3,gR3,gC3,gi,gc,l0,l1,l2,List.getElem?_drop,t1,t2,t3,t4]
   refine Zaa (Y10 (k:=k) (bI.get (j:=c) (by omega)) (bC.get (j:=c) (by omega)) h0 (by omega)) (by simp only [go_sem,Zbb,Zan,mget]) ?_
   simp only [go_sem,Zbb,Zak,g3,s3,Ziu]
   refine Za2 [(0,.osl none o 0 n),(2,.ptr b 0),(3,.ptr (b+1) 0),(4,.int .i64 (c:Int)),(6,.int .i64 (i:Int)),(7,.ptr (b+2) 0),(8,.int .i64 (c:Int)),(11,.int .i64 (n:Int)),(12,.int .i64 (c:Int))] (by simp only [go_sem])
    (Y98 (post:=(PP ++ [.cells z4,.cells (qcell d),.cells (qcell (mget M i c / mget M c c))])) (t:=PP.length+2) (q:=mget M i c / mget M c c) (k:=k) ho hnS hnl hwl hi hc (by omega) (by omega) rC rI hlC hlI (by omega) (by rw [List.getElem?_append_right (by omega),show PP.length+2 - PP.length=2 by omega]; rfl) bC bI ((bI.get (j:=c) (by omega)).div (bC.get (j:=c) (by omega)) h0) hk1 hk (fun e k0 k2 k3 k4 k6 k11 k12=>?_))
   simp only [go_sem,Zdc,k6,e1]
   have hE:(elimCol M c i).set i (elimTo (M.getD c []) c (mget M i c / mget M c c) (M.getD i []) w)=elimCol M c (i+1):=by
    rw [← Z7e (by omega) (by omega)]
    congr 1
    unfold elimRow
    rw [if_neg (show ¬ rget (M.getD i []) c=0 from hz),hlI]
    rfl
   rw [hE]
   refine hN (i+1) _ ⟨by omega,by omega⟩ (by omega) ?_
   have hnS':(elimCol M c (i+1)).length=n:=by rw [Zaw,hn]
   have hK2:(pre++(matH o w (elimCol M c (i+1))++(PP ++ [Blk.cells z4,.cells (qcell d)]))).length=b+2:=Yfy ho hnS' hb
   have hclo:Clo (b+2) (pre++(matH o w (elimCol M c (i+1))++(PP ++ [Blk.cells z4,.cells (qcell d)]))):=hpre.append ((Ye0 (by rw [hnS']; omega)).append (hPP.append rfl))
   have hsplit:pre++(matH o w (elimCol M c (i+1))++(PP ++ [Blk.cells z4,.cells (qcell d),.cells (qcell (mget M i c / mget M c c))]))=(pre++(matH o w (elimCol M c (i+1))++(PP ++ [Blk.cells z4,.cells (qcell d)]))) ++ [.cells (qcell (mget M i c / mget M c c))]:=by simp
   rw [hsplit]
   refine Z4o hK2 hclo (by omega) _ (by simp only [go_sem,k0,k2,k3,k4,k11,k12]) (fun p hp=>?_)
   have g0:pos (List.range (b+2)) o=some o:=Zdm (by omega)
   have g1:pos (List.range (b+2)) b=some b:=Zdm (by omega)
   have g2:pos (List.range (b+2)) (b+1)=some (b+1):=Zdm (by omega)
   simp only [List.mem_cons,List.not_mem_nil,or_false] at hp
   rcases hp with rfl | rfl | rfl | rfl | rfl | rfl | rfl <;> simp only [AV.gc,g0,g1,g2]
 ·have hin:i=n:=by omega
  subst hin
  have q1:¬ (i:Int)<(i:Int):=by omega
  simp only [go_sem,Zdh,q1]
  exact hK _ (by simp only [go_sem]) (by simp only [go_sem]) (by simp only [go_sem]) (by simp only [go_sem]) (by simp only [go_sem])
end GoAbs
namespace GoAbs
open Go Go.Proofs
def tri:Nat→Nat→RM→Rat→Rat×RM
 | 0,_,M,d=>(d,M)
 | k+1,c,M,d=>if mget M c c=0 then (0,M) else tri k (c+1) (elimCol M c M.length) (d*mget M c c)
def NoSw:Nat→Nat→RM→Prop
 | 0,_,_=>True
 | k+1,c,M=>(mget M c c=0→∀ i,c≤i→i<M.length→mget M i c=0)∧(mget M c c≠0→NoSw k (c+1) (elimCol M c M.length))
theorem Xce {pre post:Heap}{o w n c n0:Nat}{M:RM}{bA:Nat}(ho:pre.length=o) (hn:M.length=n) (hnl:n≤1000000) (hc:c<n) (hcw:c<w) (hW:Wid w M)
  (hz:∀ i,c≤i→i<n→mget M i c=0) {K:Ex→St→Prop}
  (hK:∀ e:Nat→AV,e 0 = .osl none o 0 n→e 2 = .ptr bA 0→e 5 = .int .i64 (n:Int)→K (.exit 2) ⟨e,pre++(matH o w M++post)⟩) :
  T Tryz.prog 133 n0 (.loop Zbi) ⟨envL [(0,.osl none o 0 n),(2,.ptr bA 0),(4,.int .i64 (c:Int)),(5,.int .i64 (c:Int))],pre++(matH o w M++post)⟩ K:=by
 refine Zag (fun i:Nat=>⟨envL [(0,.osl none o 0 n),(2,.ptr bA 0),(4,.int .i64 (c:Int)),(5,.int .i64 (i:Int))],pre++(matH o w M++post)⟩)
  (fun i=>c≤i∧i≤n) (fun i=>n - i) c ⟨Nat.le_refl _,by omega⟩ (Zab _ (by simp only [go_sem])) (fun i hI N hN=>?_)
 obtain ⟨h1,h2⟩:=hI
 unfold Zbi
 by_cases hi:i<n
 ·have gP:=Zz1 (pre:=pre) (post:=post) (w:=w) (M:=M) ho
  rw [hn] at gP
  have gi:=Zls (o:=o) (w:=w) hi
  have gR:=Zmf (post:=post) (w:=w) ho (getD_some (M:=M) (i:=i) (by omega))
  have hlI:=hW.get (show i<M.length by omega)
  have eI:(M.getD i [])[c]? = some (mget M i c):=Zaj (by omega)
  have t1:=Zcr eI
  have t2:=Zfd eI
  have q0:(0:Int)≤(i:Int):=by omega
  have q1:(i:Int)<(n:Int):=by omega
  have q2:(0:Int)≤(c:Int):=by omega
  have q4:(c:Int)<(w:Int):=by omega
  have e1:IntKind.i64.wrap ((i:Int)+1)=((i+1:Nat):Int):=by rw [Zac (by omega) (by omega)]; omega
  simp only [go_sem,Zb4,q0,q1,q2,q4,gP,gi,gR,List.getElem?_drop,t1,t2]
  refine Zaa (Yjr (mget M i c)) (by simp only [go_sem,Zbb,Zan]) ?_
  simp only [go_sem,hz i h1 hi,Zjt,e1]
  exact hN (i+1) _ ⟨by omega,by omega⟩ (by omega) (Zab _ (by simp only [go_sem]))
 ·have hin:i=n:=by omega
  subst hin
  have q1:¬ (i:Int)<(i:Int):=by omega
  simp only [go_sem,Zb4,q1]
  exact hK _ (by simp only [go_sem]) (by simp only [go_sem]) (by simp only [go_sem])
theorem Y61 {pre post:Heap}{o w n c n0:Nat}{M:RM}{bA:Nat}(ho:pre.length=o) (hn:M.length=n) (hc:c<n) (hcw:c<w) (hW:Wid w M)
  (hz:mget M c c≠0) {K:Ex→St→Prop}
  (hK:∀ e:Nat→AV,e 0 = .osl none o 0 n→e 2 = .ptr bA 0→e 3 = .ptr (bA+1) 0→e 4 = .int .i64 (c:Int)→e 5 = .int .i64 (c:Int)→e 11 = .int .i64 (n:Int)→e 12 = .int .i64 (c:Int)→K (.exit 2) ⟨e,pre++(matH o w M++post)⟩) :
  T Tryz.prog 133 n0 (.loop Zbi) ⟨envL [(0,.osl none o 0 n),(2,.ptr bA 0),(3,.ptr (bA+1) 0),(4,.int .i64 (c:Int)),(5,.int .i64 (c:Int)),(11,.int .i64 (n:Int)),(12,.int .i64 (c:Int))],pre++(matH o w M++post)⟩ K:=by
 refine Zag (fun _:Unit=>⟨envL [(0,.osl none o 0 n),(2,.ptr bA 0),(3,.ptr (bA+1) 0),(4,.int .i64 (c:Int)),(5,.int .i64 (c:Int)),(11,.int .i64 (n:Int)),(12,.int .i64 (c:Int))],pre++(matH o w M++post)⟩)
  (fun _=>True) (fun _=>0) () trivial (Zab _ (by simp only [go_sem])) (fun i hI N hN=>?_)
 unfold Zbi
 have gP:=Zz1 (pre:=pre) (post:=post) (w:=w) (M:=M) ho
 rw [hn] at gP
 have gi:=Zls (o:=o) (w:=w) hc
 have gR:=Zmf (post:=post) (w:=w) ho (getD_some (M:=M) (i:=c) (by omega))
 have hlI:=hW.get (show c<M.length by omega)
 have eI:(M.getD c [])[c]? = some (mget M c c):=Zaj (by omega)
 have t1:=Zcr eI
 have t2:=Zfd eI
 have q1:(c:Int)<(n:Int):=by omega
 have q2:(0:Int)≤(c:Int):=by omega
 have q4:(c:Int)<(w:Int):=by omega
 simp only [go_sem,Zb4,q1,q2,q4,gP,gi,gR,List.getElem?_drop,t1,t2]
 refine Zaa (Yjr (mget M c c)) (by simp only [go_sem,Zbb,Zan]) ?_
 have hz':¬ (if mget M c c<0 then (-1:Int) else 1)=0:=by split <;> omega
 simp only [go_sem,hz,hz']
 exact hK _ (by simp only [go_sem]) (by simp only [go_sem]) (by simp only [go_sem]) (by simp only [go_sem]) (by simp only [go_sem]) (by simp only [go_sem]) (by simp only [go_sem])
theorem Xcd {pre PP:Heap}{o w n n0 k b:Nat}{M:RM}(ho:pre.length=o) (hn:M.length=n) (hnl:n≤1000000) (hwl:w≤1000000) (hnw:n≤w) (hW:Wid w M) (hB:Mb k M) (hk1:1≤k) (hk:9 ^ n*k≤100000000000)
  (hns:NoSw n 0 M) (hb:b=o+(1+2*n)+PP.length) (hn0:n0≤b) (hpre:Clo (b+2) pre) (hPP:Clo (b+2) PP) {K:Ex→St→Prop}
  (hK:∀ e d M',tri n 0 M 1=(d,M')→M'.length=n→e 2 = .ptr b 0→e 3 = .ptr (b+1) 0→K (.exit 0) ⟨e,pre++(matH o w M'++(PP ++ [.cells z4,.cells (qcell d)]))⟩)
  (hK0:∀ e d M',tri n 0 M 1=(0,M')→M'.length=n→e 2 = .ptr b 0→K .ret ⟨e,pre++(matH o w M'++(PP ++ [.cells (qcell 0),.cells (qcell d)]))⟩) :
  T Tryz.prog 133 n0 (.loop Zem) ⟨envL [(0,.osl none o 0 n),(2,.ptr b 0),(3,.ptr (b+1) 0),(11,.int .i64 (n:Int)),(12,.int .i64 0)],pre++(matH o w M++(PP ++ [.cells z4,.cells (qcell 1)]))⟩ K:=by
 have hm:Tryz.prog.follows .mixedOrders=true:=by kernel_rfl
 refine Zag (fun z:Nat×RM×Rat=>⟨envL [(0,.osl none o 0 n),(2,.ptr b 0),(3,.ptr (b+1) 0),(11,.int .i64 (n:Int)),(12,.int .i64 (z.1:Int))],pre++(matH o w z.2.1++(PP ++ [.cells z4,.cells (qcell z.2.2)]))⟩)
  (fun z=>z.1≤n∧z.2.1.length=n∧Wid w z.2.1∧Mb (9 ^ z.1*k) z.2.1∧Qb (9 ^ z.1*k) z.2.2∧NoSw (n - z.1) z.1 z.2.1∧tri (n - z.1) z.1 z.2.1 z.2.2=tri n 0 M 1) (fun z=>n - z.1) (0,M,1)
  ⟨by simp,hn,hW,by simpa using hB,by simpa using Qb.one hk1,hns,rfl⟩ (Zab _ (by simp only [go_sem]; simp)) (fun z hI N hN=>?_)
 obtain ⟨c,S,d⟩:=z
 obtain ⟨h1,h2,h3,h4,h5,h6,h7⟩:=hI
 simp only at h1 h2 h3 h4 h5 h6 h7 ⊢
 unfold Zem
 by_cases hc:c<n
 ·obtain ⟨m,hm1⟩:∃ m,n - c=m+1:=⟨n - c - 1,by omega⟩
  have hm2:n - (c+1)=m:=by omega
  rw [hm1] at h6 h7
  have q1:(c:Int)<(n:Int):=by omega
  have q0:(0:Int)≤(c:Int):=by omega
  have q4:(c:Int)<(w:Int):=by omega
  have e1:IntKind.i64.wrap ((c:Int)+1)=((c+1:Nat):Int):=by rw [Zac (by omega) (by omega)]; omega
  have gP:=Zz1 (pre:=pre) (post:=PP ++ [.cells z4,.cells (qcell d)]) (w:=w) (M:=S) ho
  rw [h2] at gP
  have gc:=Zls (o:=o) (w:=w) hc
  have gC:=Zmf (post:=PP ++ [.cells z4,.cells (qcell d)]) (w:=w) ho (getD_some (M:=S) (i:=c) (by omega))
  have hlC:=h3.get (show c<S.length by omega)
  have eC:(S.getD c [])[c]? = some (mget S c c):=Zaj (by omega)
  have t1:=Zcr eC
  have t2:=Zfd eC
  have hlen:(pre++(matH o w S++(PP ++ [Blk.cells z4,.cells (qcell d)]))).length=b+2:=Yfy ho h2 hb
  have gA:(pre++(matH o w S++(PP ++ [Blk.cells z4,.cells (qcell d)])))[b]? = some (.cells z4):=Zh1 (t:=0) ho h2 hb
  have gD:(pre++(matH o w S++(PP ++ [Blk.cells z4,.cells (qcell d)])))[b+1]? = some (.cells (qcell d)):=Zh1 (t:=1) ho h2 hb
  have sA:∀ Y:Blk,(pre++(matH o w S++(PP ++ [Blk.cells z4,.cells (qcell d)]))).set b Y=pre++(matH o w S++(PP ++ [Y,.cells (qcell d)])):=fun Y=>Zfz (t:=0) ho h2 hb
  have sD:∀ Y:Blk,(pre++(matH o w S++(PP ++ [Blk.cells z4,.cells (qcell d)]))).set (b+1) Y=pre++(matH o w S++(PP ++ [.cells z4,Y])):=fun Y=>Zfz (t:=1) ho h2 hb
  simp only [go_sem,Zed,Zku,Zks,q1]
  by_cases hp:mget S c c=0
  ·refine Za2 [(0,.osl none o 0 n),(2,.ptr b 0),(4,.int .i64 (c:Int)),(5,.int .i64 (c:Int))] (by simp only [go_sem])
    (Xce ho h2 hnl hc (by omega) h3 (fun i g1 g2=>h6.1 hp i g1 (by omega)) (fun e k0 k2 k5=>?_))
   have hz4:z4.length=4:=rfl
   have hzd:z4.drop 4 = []:=rfl
   simp only [go_sem,Zd9,Zis,k0,k2,k5]
   refine Zaa Yd5 (by simp only [go_sem]) ?_
   simp only [go_sem,Zbb,Zak,gA,hz4,hzd,sA,k2]
   refine hK0 _ d S ?_ h2 (by simp only [go_sem,k2])
   rw [← h7]
   unfold tri
   rw [if_pos hp]
  ·refine Za2 [(0,.osl none o 0 n),(2,.ptr b 0),(3,.ptr (b+1) 0),(4,.int .i64 (c:Int)),(5,.int .i64 (c:Int)),(11,.int .i64 (n:Int)),(12,.int .i64 (c:Int))] (by simp only [go_sem])
    (Y61 ho h2 hc (by omega) h3 hp (fun e k0 k2 k3 k4 k5 k11 k12=>?_))
   have q5:¬ (c:Int)=(n:Int):=by omega
   have q6:¬ ((c:Int)≠(c:Int)):=by omega
   have hql:(4:Nat)≤(qcell d).length:=by rw [Zak]; omega
   have hqt:(qcell d).take 4=qcell d:=List.take_of_length_le (by rw [Zak]; omega)
   have hqd:(qcell d).drop 4 = []:=rfl
   have l0:o<b+2:=by omega
   have l1:o+2+2*c<b+2:=by omega
   have l2:b+1<b+2:=by omega
   have hKb:9 ^ c*k≤9 ^ n*k:=Nat.mul_le_mul_right _ (Nat.pow_le_pow_right (by omega) h1)
   have hKs:9 ^ (c+1)*k=9*(9 ^ c*k):=by rw [Nat.pow_succ,Nat.mul_comm (9 ^ c) 9,Nat.mul_assoc]
   have hKn:9 ^ (c+1)*k≤9 ^ n*k:=Nat.mul_le_mul_right _ (Nat.pow_le_pow_right (by omega) hc)
   have hKp:1≤9 ^ c*k:=Nat.mul_pos (Nat.pow_pos (by omega)) hk1
   simp only [go_sem,Zd9,Ziq,Zdd,k0,k2,k3,k4,k5,q0,q1,q4,q5,q6,hm,hlen,gP,gc,gC,gD,List.getElem?_drop,t1,t2,hql,hqt,l0,l1,l2]
   refine Zaa (Ywf (k:=9 ^ c*k) h5 ((h4.get (i:=c) (by omega)).get (j:=c) (by omega)) (by omega)) (by simp only [go_sem,Zbb,Zan,mget]) ?_
   simp only [go_sem,Zbb,Zak,hqd,gD,sD,hlen,l2,k3,k4,Zit,e1]
   refine Za2 [(0,.osl none o 0 n),(2,.ptr b 0),(3,.ptr (b+1) 0),(4,.int .i64 (c:Int)),(6,.int .i64 ((c+1:Nat):Int)),(11,.int .i64 (n:Int)),(12,.int .i64 (c:Int))] (by simp only [go_sem,k0,k2,k3,k4,k11,k12])
    (Xc2 (k:=9 ^ c*k) ho h2 hnl hwl hc (by omega) h3 h4 hp hKp (by omega) hb hn0 hpre hPP (fun e z0 z2 z3 z11 z12=>?_))
   simp only [go_sem,Zio,z12,e1]
   refine hN (c+1,elimCol S c n,d*mget S c c) _ ⟨hc,by rw [Zaw,h2],h3.elim,?_,?_,?_,?_⟩ (by show n - (c+1)<n - c; omega) (Zab _ (by simp only [go_sem,z0,z2,z3,z11]))
   ·simp only
    rw [hKs]
    exact (h4.elim h3 (by omega) (by omega) hp).mono (by omega)
   ·simp only
    rw [hKs]
    exact (h5.mul ((h4.get (i:=c) (by omega)).get (j:=c) (by omega))).mono (by omega)
   ·simp only
    rw [hm2]
    have:=h6.2 hp
    rwa [h2] at this
   ·simp only
    rw [hm2, ← h7]
    conv=>rhs; unfold tri
    rw [if_neg hp,h2]
 ·have hcn:c=n:=by omega
  subst hcn
  have q1:¬ (c:Int)<(c:Int):=by omega
  simp only [go_sem,Zed,q1]
  rw [Nat.sub_self] at h7
  exact hK _ d S h7.symm h2 (by simp only [go_sem]) (by simp only [go_sem])
theorem Yn1 {pre PP:Heap}{o w n k:Nat}{M:RM}(ho:pre.length=o) (hn:M.length=n) (hnl:n≤1000000) (hwl:w≤1000000) (hnw:n≤w) (hW:Wid w M) (hB:Mb k M) (hk1:1≤k) (hk:9 ^ n*k≤100000000000)
  (hns:NoSw n 0 M) (hpre:∀ m,o+(1+2*n)≤m→Clo m pre) (hPP:∀ m,o+(1+2*n)≤m→Clo m PP) :
  SpecR Tryz.prog Zmw (pre++(matH o w M++PP)) [.osl none o 0 n] (.agg (qcell (tri n 0 M 1).1)) (pre++(matH o w (tri n 0 M 1).2++PP)):=by
 obtain ⟨b,hb⟩:∃ b,b=o+(1+2*n)+PP.length:=⟨_,rfl⟩
 have hL:(pre++(matH o w M++PP)).length=b:=by rw [List.length_append,List.length_append,Zbe,hn,ho]; omega
 refine Yo9 Z3g (by simp) (T_W ?_)
 unfold Zq1
 have eA:(pre++(matH o w M++PP)) ++ [Blk.cells [AV.bool false,.nils,.bool false,.nils]] ++ [Blk.cells [AV.bool false,.nils,.bool false,.nils]]=pre++(matH o w M++(PP ++ [.cells z4,.cells z4])):=by simp [z4]
 have eL:((pre++(matH o w M++PP)) ++ [Blk.cells [AV.bool false,.nils,.bool false,.nils]]).length=b+1:=by rw [List.length_append,hL]; rfl
 have g1:(pre++(matH o w M++(PP ++ [Blk.cells z4,.cells z4])))[b+1]? = some (.cells z4):=Zh1 (t:=1) ho hn hb
 have s1:∀ Y:Blk,(pre++(matH o w M++(PP ++ [Blk.cells z4,.cells z4]))).set (b+1) Y=pre++(matH o w M++(PP ++ [.cells z4,Y])):=fun Y=>Zfz (t:=1) ho hn hb
 have hz4:z4.length=4:=rfl
 have hzd:z4.drop 4 = []:=rfl
 simp only [go_sem,Zju,Zkj,hL]
 refine Zaa Y37 (by simp only [go_sem]) ?_
 simp only [go_sem,Zbb,Zak,eA,eL,hL,g1,s1,hz4,hzd,Zjp,Nat.le_refl]
 have dropK:∀ (e:Nat→AV) (M':RM) (a d:List AV),M'.length=n→∃ st',Le 133 b ⟨e,pre++(matH o w M'++(PP ++ [.cells a,.cells d]))⟩ st'∧st'.H=pre++(matH o w M'++PP):=fun e M' a d hM'=>by
  have hK2:(pre++(matH o w M'++PP)).length=b:=by rw [List.length_append,List.length_append,Zbe,hM',ho]; omega
  have hclo:Clo b (pre++(matH o w M'++PP)):=(hpre _ (by omega)).append ((Ye0 (by rw [hM']; omega)).append (hPP _ (by omega)))
  have hsplit:pre++(matH o w M'++(PP ++ [Blk.cells a,.cells d]))=(pre++(matH o w M'++PP)) ++ [.cells a,.cells d]:=by simp
  rw [hsplit]
  exact ⟨_,Z4o hK2 hclo (Nat.le_refl _) [] trivial (fun p hp=>by simp at hp),rfl⟩
 have gq:∀ q:Rat,(AV.agg (qcell q)).gc (fun _=>none) = .agg (qcell q):=fun q=>rfl
 have hql:∀ q:Rat,(4:Nat)≤(qcell q).length:=fun q=>by rw [Zak]; omega
 have hqt:∀ q:Rat,(qcell q).take 4=qcell q:=fun q=>List.take_of_length_le (by rw [Zak]; omega)
 refine Za2 [(0,.osl none o 0 n),(2,.ptr b 0),(3,.ptr (b+1) 0),(11,.int .i64 (n:Int)),(12,.int .i64 0)] (by simp only [go_sem])
  (Xcd ho hn hnl hwl hnw hW hB hk1 hk hns hb (Nat.le_refl _) (hpre _ (by omega)) (hPP _ (by omega)) (fun e d M' h1 h2 k2 k3=>?_) (fun e d M' h1 h2 k2=>?_))
 ·have gA:(pre++(matH o w M'++(PP ++ [Blk.cells z4,.cells (qcell d)])))[b]? = some (.cells z4):=Zh1 (t:=0) ho h2 hb
  have gD:(pre++(matH o w M'++(PP ++ [Blk.cells z4,.cells (qcell d)])))[b+1]? = some (.cells (qcell d)):=Zh1 (t:=1) ho h2 hb
  have sA:∀ Y:Blk,(pre++(matH o w M'++(PP ++ [Blk.cells z4,.cells (qcell d)]))).set b Y=pre++(matH o w M'++(PP ++ [Y,.cells (qcell d)])):=fun Y=>Zfz (t:=0) ho h2 hb
  have gA':∀ Y:Blk,(pre++(matH o w M'++(PP ++ [Y,.cells (qcell d)])))[b]? = some Y:=fun Y=>Zh1 (t:=0) ho h2 hb
  simp only [go_sem,Zi1,k2,k3,gA,gD,sA,gA',hql,hqt,hz4,hzd,Zak,Nat.le_refl,hL]
  rw [h1]
  exact ⟨rfl,gq _,dropK _ _ _ _ h2⟩
 ·have gA:(pre++(matH o w M'++(PP ++ [Blk.cells (qcell 0),.cells (qcell d)])))[b]? = some (.cells (qcell 0)):=Zh1 (t:=0) ho h2 hb
  simp only [go_sem,k2,gA,hql,hqt,hL]
  rw [h1]
  exact ⟨rfl,gq _,dropK _ _ _ _ h2⟩
theorem Y2r {pre:Heap}{o w n k:Nat}{M:RM}(ho:pre.length=o) (hn:M.length=n) (hnl:n≤1000000) (hwl:w≤1000000) (hnw:n≤w) (hW:Wid w M) (hB:Mb k M) (hk1:1≤k) (hk:9 ^ n*k≤100000000000)
  (hns:NoSw n 0 M) (hpre:∀ m,o+(1+2*n)≤m→Clo m pre) :
  SpecR Tryz.prog Yjo (pre++matH o w M) [.osl none o 0 n] (.agg (qcell (tri n 0 M 1).1)) (pre++(matH o w (tri n 0 M 1).2 ++ [.cells (qcell (tri n 0 M 1).1)])):=by
 refine Zpn Ye5 (by simp) ?_
 unfold Z81
 have hL:(pre++matH o w M).length=o+(1+2*n):=by rw [List.length_append,Zbe,hn,ho]
 have eA:(pre++matH o w M) ++ [Blk.cells [AV.bool false,.nils,.bool false,.nils]]=pre++(matH o w M ++ [.cells z4]):=by simp [z4]
 simp only [go_sem,Zw9,Zw2,hL,eA]
 refine Zi0 (Yn1 (PP := [.cells z4]) ho hn hnl hwl hnw hW hB hk1 hk hns hpre (fun _ _=>rfl)) ?_
 have hn':(tri n 0 M 1).2.length=n:=by
  have main:∀ k c M d,M.length=n→(tri k c M d).2.length=n:=by
   intro k
   induction k with
   | zero=>intro c M d h; exact h
   | succ k ih =>
    intro c M d h
    unfold tri
    split
    ·exact h
    ·exact ih _ _ _ (by rw [Zaw,h])
  exact main _ _ _ _ hn
 have gA:∀ Y:Blk,(pre++(matH o w (tri n 0 M 1).2 ++ [Y]))[o+(1+2*n)]? = some Y:=fun Y=>Zwl (t:=0) ho hn'
 have sA:∀ X Y:Blk,(pre++(matH o w (tri n 0 M 1).2 ++ [X])).set (o+(1+2*n)) Y=pre++(matH o w (tri n 0 M 1).2 ++ [Y]):=fun X Y=>Zhw (t:=0) ho hn'
 have hql:∀ q:Rat,(4:Nat)≤(qcell q).length:=fun q=>by rw [Zak]; omega
 have hqt:∀ q:Rat,(qcell q).take 4=qcell q:=fun q=>List.take_of_length_le (by rw [Zak]; omega)
 have hz4:z4.length=4:=rfl
 have hzd:z4.drop 4 = []:=rfl
 simp only [go_sem,Zak,gA,sA,hql,hqt,hz4,hzd,Nat.le_refl]
end GoAbs
namespace GoAbs
open Go Go.Proofs
def addAt (M:RM) (i j:Nat) (x:Rat):RM:=M.set i ((M.getD i []).set j (mget M i j+x))
def half (M:RM) (a b:Nat) (x:Rat):RM:=if a=0 then M else if b=0 then addAt M (a - 1) (a - 1) x else addAt (addAt M (a - 1) (a - 1) x) (a - 1) (b - 1) (-x)
abbrev Sp:=Nat×Nat×Rat
def edgeM (M:RM) (e:Sp):RM:=half (half M e.1 e.2.1 e.2.2) e.2.1 e.1 e.2.2
def lapl (m:Nat) (E:List Sp):RM:=E.foldl edgeM (List.replicate m (List.replicate m 0))
theorem Zum {M:RM}{i j:Nat}{x:Rat}:(addAt M i j x).length=M.length:=by simp [addAt]
theorem Zi3 {M:RM}{a b:Nat}{x:Rat}:(half M a b x).length=M.length:=by
 unfold half; split
 ·rfl
 ·split <;> simp [Zum]
theorem Ybn {M:RM}{e:Sp}:(edgeM M e).length=M.length:=by simp [edgeM,Zi3]
theorem Wid.addAt {w:Nat}{M:RM}(h:Wid w M) {i j:Nat}{x:Rat}:Wid w (GoAbs.addAt M i j x):=fun r hr=>by
 by_cases hi:i<M.length
 ·rcases List.mem_or_eq_of_mem_set hr with h1 | rfl
  ·exact h r h1
  ·rw [List.length_set]; exact h.get hi
 ·unfold GoAbs.addAt at hr
  rw [List.set_eq_of_length_le (by omega)] at hr
  exact h r hr
theorem Wid.half {w:Nat}{M:RM}(h:Wid w M) {a b:Nat}{x:Rat}:Wid w (GoAbs.half M a b x):=by
 unfold GoAbs.half; split
 ·exact h
 ·split
  ·exact h.addAt
  ·exact h.addAt.addAt
theorem Wid.edge {w:Nat}{M:RM}(h:Wid w M) {e:Sp}:Wid w (edgeM M e):=h.half.half
theorem Qb.add2 {k l:Nat}{a b:Rat}(ha:Qb k a) (hb:Qb l b):Qb (k+l+1) (a+b):=by
 rw [← Ymg]
 have h0:(a.den:Int)*b.den≠0:=by have:=den_pos' a; have:=den_pos' b; exact Int.mul_ne_zero (by omega) (by omega)
 obtain ⟨h1,h2⟩:=Zcv (n:=a.num*b.den+b.num*a.den) h0
 have m:∀ {x y:Nat},x<2 ^ k→y<2 ^ l→x*y<2 ^ (k+l):=fun hx hy=>by rw [Nat.pow_add]; exact Nat.mul_lt_mul'' hx hy
 refine ⟨Nat.lt_of_le_of_lt h1 ?_,?_⟩
 ·have h3:=Int.natAbs_add_le (a.num*b.den) (b.num*a.den)
  rw [Int.natAbs_mul,Int.natAbs_mul,Nat.mul_comm b.num.natAbs] at h3
  have h4:=m ha.n hb.dz
  have h5:=m ha.dz hb.n
  rw [Nat.pow_succ]
  omega
 ·rw [Int.natAbs_mul] at h2
  have:=m ha.dz hb.dz
  rw [Nat.pow_succ]
  omega
theorem Mb.addAt {k l:Nat}{M:RM}(h:Mb k M) {i j:Nat}{x:Rat}(hx:Qb l x) (hk:1≤k):Mb (k+l+1) (GoAbs.addAt M i j x):=fun r hr=>by
 by_cases hi:i<M.length
 ·rcases List.mem_or_eq_of_mem_set hr with h1 | rfl
  ·exact (h r h1).mono (by omega)
  ·intro y hy
   by_cases hj:j<(M.getD i []).length
   ·rcases List.mem_or_eq_of_mem_set hy with h2 | rfl
    ·exact ((h.get hi) y h2).mono (by omega)
    ·exact ((h.get hi).get hj).add2 hx
   ·rw [List.set_eq_of_length_le (by omega)] at hy
    exact ((h.get hi) y hy).mono (by omega)
 ·unfold GoAbs.addAt at hr
  rw [List.set_eq_of_length_le (by omega)] at hr
  exact (h r hr).mono (by omega)
theorem Mb.half {k l:Nat}{M:RM}(h:Mb k M) {a b:Nat}{x:Rat}(hx:Qb l x) (hk:1≤k):Mb (k+2*(l+1)) (GoAbs.half M a b x):=by
 unfold GoAbs.half; split
 ·exact h.mono (by omega)
 ·split
  ·exact (h.addAt hx hk).mono (by omega)
  ·exact ((h.addAt hx hk).addAt hx.neg (by omega)).mono (by omega)
theorem Mb.edge {k l:Nat}{M:RM}(h:Mb k M) {e:Sp}(hx:Qb l e.2.2) (hk:1≤k):Mb (k+4*(l+1)) (edgeM M e) :=
 ((h.half hx hk).half hx (by omega)).mono (by omega)
theorem Yv4 {pre post:Heap}{o w i j k:Nat}{M:RM}{x:Rat}(ho:pre.length=o) (hW:Wid w M) (hi:i<M.length) (hj:j<w) (hml:M.length≤1000000) (hwl:w≤1000000)
  (hB:Mb k M) (bx:Qb k x) (hk:2*k+1≤1000000000000) :
  SpecR Tryz.prog Z66 (pre++(matH o w M++post)) [.osl none o 0 M.length,.int .i64 (i:Int),.int .i64 (j:Int),.agg (qcell x)] (.tup []) (pre++(matH o w (addAt M i j x)++(post ++ [.cells (qcell x)]))):=by
 have hl:=hW.get hi
 exact Yvs ho (getD_some hi) (Zaj (by rw [hl]; exact hj)) hl hml hwl ((hB.get hi).get (by rw [hl]; exact hj)) bx hk
theorem Xc0 {pre:Heap}{ps:List AV}{nn ii:Int}{m a b k n0:Nat}{x:Rat}{M:RM}(hpre:pre.length=1) (hclo:∀ m,Clo m pre) (hm:M.length=m) (hml:m≤1000) (hW:Wid m M) (ha:a≤m) (hb:b≤m) (hB:Mb k M) (bx:Qb k x) (hk1:1≤k) (hk:k≤10000000000)
  (hn0:n0≤1+(1+2*m)) {K:Ex→St→Prop}
  (hK:∀ e:Nat→AV,e 1 = .ptr 0 0→e 3 = .osl none 1 0 m→e 17 = .sl ps→e 18 = .int .i64 nn→e 19 = .int .i64 ii→K (.exit 2) ⟨e,pre++(matH 1 m (half (half M a b x) b a x) ++ [.cells [.int .i64 (a:Int),.int .i64 (b:Int)],.cells (qcell x),.cells [.int .i64 (a:Int),.int .i64 (b:Int),.int .i64 (b:Int),.int .i64 (a:Int)]])⟩) :
  T Tryz.prog 73 n0 (.loop Zl5) ⟨envL [(1,.ptr 0 0),(3,.osl none 1 0 m),(6,.ptr (1+(1+2*m)+1) 0),(17,.sl ps),(18,.int .i64 nn),(19,.int .i64 ii),(39,.osl (some 2) (1+(1+2*m)+2) 0 2),(40,.int .i64 2),(41,.int .i64 0)],
   pre++(matH 1 m M ++ [.cells [.int .i64 (a:Int),.int .i64 (b:Int)],.cells (qcell x),.cells [.int .i64 (a:Int),.int .i64 (b:Int),.int .i64 (b:Int),.int .i64 (a:Int)]])⟩ K:=by
 have hmx:Tryz.prog.follows .mixedOrders=true:=by kernel_rfl
 refine Zag (fun z:Nat×RM=>⟨envL [(1,.ptr 0 0),(3,.osl none 1 0 m),(6,.ptr (1+(1+2*m)+1) 0),(17,.sl ps),(18,.int .i64 nn),(19,.int .i64 ii),(39,.osl (some 2) (1+(1+2*m)+2) 0 2),(40,.int .i64 2),(41,.int .i64 (z.1:Int))],
   pre++(matH 1 m z.2 ++ [.cells [.int .i64 (a:Int),.int .i64 (b:Int)],.cells (qcell x),.cells [.int .i64 (a:Int),.int .i64 (b:Int),.int .i64 (b:Int),.int .i64 (a:Int)]])⟩)
  (fun z=>z.1≤2∧z.2.length=m∧Wid m z.2∧Mb (k+z.1*(2*(k+1))) z.2∧z.2=(if z.1=0 then M else if z.1=1 then half M a b x else half (half M a b x) b a x)) (fun z=>2 - z.1) (0,M)
  ⟨by simp,hm,hW,by simpa using hB,rfl⟩ (Zab _ (by simp only [go_sem]; simp)) (fun z hI N hN=>?_)
 obtain ⟨t,S⟩:=z
 obtain ⟨h1,h2,h3,h4,h5⟩:=hI
 simp only at h1 h2 h3 h4 h5 ⊢
 unfold Zl5
 by_cases ht:t<2
 ·obtain ⟨u,v,hu,hv,hd,hl4,hnx⟩:∃ u v:Nat,u≤m∧v≤m∧([AV.int .i64 (a:Int),.int .i64 (b:Int),.int .i64 (b:Int),.int .i64 (a:Int)].drop (t*2)).take 2 = [.int .i64 (u:Int),.int .i64 (v:Int)] ∧
    2≤([AV.int .i64 (a:Int),.int .i64 (b:Int),.int .i64 (b:Int),.int .i64 (a:Int)].drop (t*2)).length∧half S u v x=(if t+1=0 then M else if t+1=1 then half M a b x else half (half M a b x) b a x):=by
   have:t=0∨t=1:=by omega
   rcases this with rfl | rfl
   ·exact ⟨a,b,ha,hb,rfl,by simp,by simp [h5]⟩
   ·exact ⟨b,a,hb,ha,rfl,by simp,by simp [h5]⟩
  generalize hPB : [AV.int .i64 (a:Int),.int .i64 (b:Int),.int .i64 (b:Int),.int .i64 (a:Int)]=PB at *
  have q0:(0:Int)≤(t:Int):=by omega
  have q1:(t:Int)<2:=by omega
  have q2:(t:Int)<((2:Nat):Int):=by omega
  have e1:IntKind.i64.wrap ((t:Int)+1)=((t+1:Nat):Int):=by rw [Zac (by omega) (by omega)]; omega
  have gP:∀ (S':RM) (post':Heap) (t':Nat),S'.length=m→(pre++(matH 1 m S'++post'))[1+(1+2*m)+t']? = post'[t']?:=fun S' post' t' h=>Zwl hpre h
  have sP:∀ (S':RM) (post':Heap) (t':Nat) (bl:Blk),S'.length=m→(pre++(matH 1 m S'++post')).set (1+(1+2*m)+t') bl=pre++(matH 1 m S'++post'.set t' bl):=fun S' post' t' bl h=>Zhw hpre h
  have gL:∀ (S':RM) (post':Heap),S'.length=m→(pre++(matH 1 m S'++post')).length=1+(1+2*m)+post'.length:=fun S' post' h=>by rw [List.length_append,List.length_append,Zbe,h,hpre]; omega
  have eA:∀ (S':RM) (post':Heap) (Y:Blk),(pre++(matH 1 m S'++post')) ++ [Y]=pre++(matH 1 m S'++(post' ++ [Y])):=fun S' post' Y=>by simp
  simp only [go_sem,eA,List.cons_append,List.nil_append,sP _ _ _ _ h2,Zmb,Zw5,Zus,q0,q1,q2,gP _ _ _ h2,hd,hl4,gL _ _ h2]
  have hw2:(if t+1=0 then M else if t+1=1 then half M a b x else half (half M a b x) b a x).length=m:=by rw [← hnx,Zi3,h2]
  have fin:∀ (e:Nat→AV) (post':Heap),e 1 = .ptr 0 0→e 3 = .osl none 1 0 m→e 6 = .ptr (1+(1+2*m)+1) 0→e 17 = .sl ps→e 18 = .int .i64 nn→e 19 = .int .i64 ii→e 39 = .osl (some 2) (1+(1+2*m)+2) 0 2→e 40 = .int .i64 2→e 41 = .int .i64 ((t+1:Nat):Int) →
    N ⟨e,pre++(matH 1 m (half S u v x)++([.cells [.int .i64 (a:Int),.int .i64 (b:Int)],.cells (qcell x),.cells PB]++post'))⟩:=fun e post' f1 f3 f6 f17 f18 f19 f39 f40 f41=>by
   have hh:=Zi3 (M:=S) (a:=u) (b:=v) (x:=x)
   refine hN (t+1,half S u v x) _ ⟨by show t+1≤2; omega,by rw [Zi3,h2],h3.half,?_,hnx⟩ (by show 2 - (t+1)<2 - t; omega) ?_
   ·have:=h4.half (a:=u) (b:=v) bx (by omega)
    exact this.mono (by show k+t*(2*(k+1))+2*(k+1)≤k+(t+1)*(2*(k+1)); rw [Nat.add_mul]; omega)
   ·have hsplit:pre++(matH 1 m (half S u v x)++([Blk.cells [.int .i64 (a:Int),.int .i64 (b:Int)],.cells (qcell x),.cells PB]++post'))=(pre++(matH 1 m (half S u v x) ++ [Blk.cells [.int .i64 (a:Int),.int .i64 (b:Int)],.cells (qcell x),.cells PB]))++post':=by simp
    rw [hsplit]
    refine Z4o (m:=1+(1+2*m)+3) (gL _ _ (by rw [Zi3,h2])) ((hclo _).append ((Ye0 (by rw [Zi3,h2]; omega)).append ?_)) (by omega) _ ?_ ?_
    ·rw [← hPB]; rfl
    ·simp only [go_sem,f1,f3,f6,f17,f18,f19,f39,f40,f41]
    ·simp [AV.gc,Zdm]
  by_cases hu0:u=0
  ·subst hu0
   have z0:((0:Nat):Int)=0:=rfl
   simp only [go_sem,z0,Ze1,e1]
   have hh:half S 0 v x=S:=by simp [half]
   rw [hh] at fin
   exact fin _ [.cells [.int .i64 ((0:Nat):Int),.int .i64 (v:Int)]] (by simp only [go_sem]) (by simp only [go_sem]) (by simp only [go_sem]) (by simp only [go_sem]) (by simp only [go_sem]) (by simp only [go_sem]) (by simp only [go_sem]) (by simp only [go_sem]) (by simp only [go_sem])
  ·have z0:¬ (u:Int)=0:=by omega
   have eu:IntKind.i64.wrap ((u:Int) - 1)=((u - 1:Nat):Int):=by rw [Zac (by omega) (by omega)]; omega
   have hql:∀ q:Rat,(4:Nat)≤(qcell q).length:=fun q=>by rw [Zak]; omega
   have hqt:∀ q:Rat,(qcell q).take 4=qcell q:=fun q=>List.take_of_length_le (by rw [Zak]; omega)
   have hkk:2*(k+2*(2*(k+1)))+1≤1000000000000:=by omega
   have hb4:Mb (k+2*(2*(k+1))) S:=h4.mono (Nat.add_le_add_left (Nat.mul_le_mul_right _ h1) _)
   have ma:=fun (post':Heap)=>Yv4 (post:=post') (i:=u - 1) (j:=u - 1) hpre h3 (by omega) (by omega) (by omega) (by omega) hb4 (bx.mono (by omega)) hkk
   rw [h2] at ma
   have la:(addAt S (u - 1) (u - 1) x).length=m:=by rw [Zum,h2]
   simp only [go_sem,z0,Zr9,eu,gP _ _ _ h2,hql,hqt]
   refine Zi0 (ma _) ?_
   simp only [go_sem,Zuc,gP _ _ _ la,List.cons_append,List.nil_append]
   by_cases hv0:v=0
   ·subst hv0
    have y0:((0:Nat):Int)=0:=rfl
    simp only [go_sem,y0,Ze1,e1]
    have hh:half S u 0 x=addAt S (u - 1) (u - 1) x:=by simp [half,hu0]
    rw [hh] at fin
    exact fin _ [.cells [.int .i64 (u:Int),.int .i64 ((0:Nat):Int)],.cells (qcell x)] (by simp only [go_sem]) (by simp only [go_sem]) (by simp only [go_sem]) (by simp only [go_sem]) (by simp only [go_sem]) (by simp only [go_sem]) (by simp only [go_sem]) (by simp only [go_sem]) (by simp only [go_sem])
   ·have y0:¬ (v:Int)=0:=by omega
    have ev:IntKind.i64.wrap ((v:Int) - 1)=((v - 1:Nat):Int):=by rw [Zac (by omega) (by omega)]; omega
    have hb5:Mb (k+2*(2*(k+1))+k+1) (addAt S (u - 1) (u - 1) x):=hb4.addAt bx (by omega)
    have mb:=fun (post':Heap)=>Yv4 (post:=post') (i:=u - 1) (j:=v - 1) (x := -x) hpre h3.addAt (by rw [Zum]; omega) (by omega) (by rw [Zum]; omega) (by omega) hb5 (bx.neg.mono (by omega)) (by omega)
    rw [la] at mb
    have l0:1+(1+2*m)+1<1+(1+2*m)+5:=by omega
    have l1:1+(1+2*m)+3<1+(1+2*m)+5:=by omega
    simp only [go_sem,y0,hmx,Zkp,eu,ev,gP _ _ _ la,gL _ _ la,hql,hqt,l0,l1]
    refine Zaa (Xcj x) (by simp only [go_sem,Zbb,Zan]) ?_
    simp only [go_sem,Zbb]
    refine Zi0 (mb _) ?_
    simp only [go_sem,Ze1,e1,List.cons_append,List.nil_append]
    have hh:half S u v x=addAt (addAt S (u - 1) (u - 1) x) (u - 1) (v - 1) (-x):=by simp [half,hu0,hv0]
    rw [hh] at fin
    exact fin _ [.cells [.int .i64 (u:Int),.int .i64 (v:Int)],.cells (qcell x),.cells (qcell (-x))] (by simp only [go_sem]) (by simp only [go_sem]) (by simp only [go_sem]) (by simp only [go_sem]) (by simp only [go_sem]) (by simp only [go_sem]) (by simp only [go_sem]) (by simp only [go_sem]) (by simp only [go_sem])
 ·have ht2:t=2:=by omega
  subst ht2
  have h5':S=half (half M a b x) b a x:=by simpa using h5
  have q1:¬ ((2:Nat):Int)<2:=by omega
  simp only [go_sem,Zmb,q1]
  rw [h5']
  exact hK _ (by simp only [go_sem]) (by simp only [go_sem]) (by simp only [go_sem]) (by simp only [go_sem]) (by simp only [go_sem])
end GoAbs
namespace GoAbs
open Go Go.Proofs
def pairAV (e:Sp):AV := .agg [.int .i64 (e.1:Int),.int .i64 (e.2.1:Int)]
def pairsL (E:List Sp):List AV:=E.map pairAV
def condsL (E:List Sp):List AV:=E.map fun e=>avQ e.2.2
def netC (n:Nat) (E:List Sp):List AV := [.int .i64 (n:Int),.sl (pairsL E),.sl (condsL E)]
theorem Y7b {o w n s:Nat}:gcL (fun i=>some (i+s)) (ptrs o w n)=ptrs (o+s) w n:=by
 rw [Zaz]
 unfold ptrs
 rw [List.map_map]
 refine List.map_congr_left fun i _=>?_
 show AV.gc _ (AV.osl _ _ _ _)=_
 simp only [AV.gc]
 congr 1; omega
theorem Ypv {f:Nat→Option Nat}{M:RM}:(rowsH M).map (Blk.gc f)=rowsH M:=by
 induction M with
 | nil=>rfl
 | cons r M ih =>
  show ([Blk.dead,.cells (qc r)]++rowsH M).map _ = [Blk.dead,.cells (qc r)]++rowsH M
  rw [List.map_append,ih]
  simp only [List.map_cons,List.map_nil,Blk.gc,Ym1]
theorem Yly {o w s:Nat}{M:RM}:(matH o w M).map (Blk.gc (fun i=>some (i+s)))=matH (o+s) w M:=by
 unfold matH
 rw [List.map_cons,Ypv]
 simp only [Blk.gc,Y7b]
theorem Ynx {n k:Nat}{E:List Sp}(hn:2≤n) (hnl:n≤100) (hE:∀ e,e∈E→e.1<n∧e.2.1<n∧Qb k e.2.2) (hk:1≤k) (hEl:E.length≤1000) (hK:k+E.length*(4*(k+1))≤10000000000) :
  SpecR Tryz.prog Yih [] [.agg (netC n E)] (.osl none 1 0 (n - 1)) ([.cells (netC n E)]++matH 1 (n - 1) (lapl (n - 1) E)):=by
 obtain ⟨m,hm⟩:∃ m,n=m+1:=⟨n - 1,by omega⟩
 have hm1:n - 1=m:=by omega
 rw [hm1]
 obtain ⟨nc,hnc⟩:∃ nc,nc=netC n E:=⟨_,rfl⟩
 refine Zpn Yev (by simp) ?_
 unfold Z9n
 have en:IntKind.i64.wrap ((n:Int) - 1)=(m:Int):=by rw [Zac (by omega) (by omega)]; omega
 simp only [go_sem,Zye,Zxx,netC,en]
 have hz:=Zj4 (H := [.cells nc]) (Y1w (m:=m) (n:=m) (by omega) (by omega) (by omega)) (by simp only [go_sem])
 rw [Yly,hnc] at hz
 refine Zi0 hz ?_
 have e1:(AV.osl none 0 0 m).gc (fun i=>some (i + [Blk.cells (netC n E)].length)) = .osl none 1 0 m:=rfl
 have e2:∀ X:Heap,[Blk.cells (netC n E)]++X=Blk.cells (netC n E)::X:=fun X=>rfl
 rw [e1]
 simp only [go_sem,Zy2,netC]
 have hnc' : [Blk.cells [AV.int .i64 (n:Int),.sl (pairsL E),.sl (condsL E)]] = [Blk.cells nc]:=by rw [hnc]; rfl
 have hpl:(pairsL E).length=E.length:=by simp [pairsL]
 obtain ⟨pre,hpre⟩:∃ pre:Heap,pre = [.cells nc]:=⟨_,rfl⟩
 have hp1:pre.length=1:=by rw [hpre]; rfl
 have hclo:∀ m,Clo m pre:=fun m=>by rw [hpre,hnc]; rfl
 have hp0:∀ X:Heap,(pre++X)[0]? = some (.cells [AV.int .i64 (n:Int),.sl (pairsL E),.sl (condsL E)]):=fun X=>by rw [hpre,hnc]; rfl
 have hpc:∀ X:Heap,Blk.cells [AV.int .i64 (n:Int),.sl (pairsL E),.sl (condsL E)]::X=pre++X:=fun X=>by rw [hpre,hnc]; rfl
 rw [hpl,hpc,hpc]
 refine Zag (fun i:Nat=>⟨envL [(1,.ptr 0 0),(3,.osl none 1 0 m),(17,.sl (pairsL E)),(18,.int .i64 (E.length:Int)),(19,.int .i64 (i:Int))],pre++matH 1 m (lapl m (E.take i))⟩)
  (fun i=>i≤E.length) (fun i=>E.length - i) 0 (by omega) (Zab _ (by simp only [go_sem]; simp)) (fun i hi N hN=>?_)
 unfold Zyh
 have gen:∀ (l:List Sp) (M:RM) (k0:Nat),(∀ e,e∈l→Qb k e.2.2)→1≤k0→M.length=m→Wid m M→Mb k0 M→(l.foldl edgeM M).length=m∧Wid m (l.foldl edgeM M)∧Mb (k0+l.length*(4*(k+1))) (l.foldl edgeM M):=by
  intro l
  induction l with
  | nil=>intro M k0 _ _ h1 h2 h3; exact ⟨h1,h2,by simpa using h3⟩
  | cons e l ih =>
   intro M k0 hl h0 h1 h2 h3
   have:=ih (edgeM M e) (k0+4*(k+1)) (fun x hx=>hl x (List.mem_cons_of_mem _ hx)) (by omega) (by rw [Ybn,h1]) h2.edge (h3.edge (hl e (by simp)) h0)
   refine ⟨this.1,this.2.1,this.2.2.mono ?_⟩
   rw [List.length_cons,Nat.add_mul]; omega
 obtain ⟨w1,w2,w3⟩:=gen (E.take i) (List.replicate m (List.replicate m 0)) k (fun e he=>(hE e (List.mem_of_mem_take he)).2.2) hk (by simp) (fun r hr=>by rw [(List.mem_replicate.1 hr).2]; simp) (fun r hr x hx=>by
  rw [(List.mem_replicate.1 hr).2] at hx
  rw [(List.mem_replicate.1 hx).2]
  exact Qb.zero hk)
 by_cases hin:i<E.length
 ·obtain ⟨⟨a,b,x⟩,he⟩:∃ e:Sp,E[i]? = some e:=⟨_,List.getElem?_eq_getElem hin⟩
  obtain ⟨ha,hb,hx⟩:=hE _ (List.mem_of_getElem? he)
  simp only at ha hb hx
  generalize hS:lapl m (E.take i)=S at *
  have w1':S.length=m:=by rw [← hS]; exact w1
  have w2':Wid m S:=by rw [← hS]; exact w2
  have w3':Mb (k+E.length*(4*(k+1))) S:=by
   rw [← hS]; exact w3.mono (Nat.add_le_add_left (Nat.mul_le_mul_right _ (by rw [List.length_take]; omega)) _)
  have hps:(pairsL E)[i]? = some (.agg [.int .i64 (a:Int),.int .i64 (b:Int)]):=by
   unfold pairsL; rw [List.getElem?_map,he]; rfl
  have hcs:(condsL E)[i]? = some (.agg (qcell x)):=by
   unfold condsL; rw [List.getElem?_map,he]; rfl
  have q0:(0:Int)≤(i:Int):=by omega
  have q1:(i:Int)<(E.length:Int):=by omega
  have e1:IntKind.i64.wrap ((i:Int)+1)=((i+1:Nat):Int):=by rw [Zac (by omega) (by omega)]; omega
  have eA:∀ (Y:Blk),(pre++matH 1 m S) ++ [Y]=pre++(matH 1 m S ++ [Y]):=fun Y=>by simp
  have eB:∀ (X:Heap) (Y:Blk),(pre++(matH 1 m S++X)) ++ [Y]=pre++(matH 1 m S++(X ++ [Y])):=fun X Y=>by simp
  have gP:∀ (X:Heap) (t:Nat),(pre++(matH 1 m S++X))[1+(1+2*m)+t]? = X[t]?:=fun X t=>Zwl hp1 w1'
  have sP:∀ (X:Heap) (t:Nat) (bl:Blk),(pre++(matH 1 m S++X)).set (1+(1+2*m)+t) bl=pre++(matH 1 m S++X.set t bl):=fun X t bl=>Zhw hp1 w1'
  have gP0:∀ (X:Heap),(pre++(matH 1 m S++X))[1+(1+2*m)]? = X[0]?:=fun X=>Zwl (t:=0) hp1 w1'
  have sP0:∀ (X:Heap) (bl:Blk),(pre++(matH 1 m S++X)).set (1+(1+2*m)) bl=pre++(matH 1 m S++X.set 0 bl):=fun X bl=>Zhw (t:=0) hp1 w1'
  have gL:∀ (X:Heap),(pre++(matH 1 m S++X)).length=1+(1+2*m)+X.length:=fun X=>by rw [List.length_append,List.length_append,Zbe,w1',hp1]; omega
  have gL0:(pre++matH 1 m S).length=1+(1+2*m):=by rw [List.length_append,Zbe,w1',hp1]
  have hql:∀ q:Rat,(4:Nat)≤(qcell q).length:=fun q=>by rw [Zak]; omega
  have hqt:∀ q:Rat,(qcell q).take 4=qcell q:=fun q=>List.take_of_length_le (by rw [Zak]; omega)
  have hqd:∀ q:Rat,(qcell q).drop 4 = []:=fun q=>rfl
  have hz4:z4.length=4:=rfl
  simp only [go_sem,Zme,Zx8,Zys,Zxd,q0,q1,hps,hcs,hp0,eA,eB,gP,sP,gP0,sP0,gL,gL0,Zak,hql,hqt,hqd,List.cons_append,List.nil_append]
  refine Za2 [(1,.ptr 0 0),(3,.osl none 1 0 m),(6,.ptr (1+(1+2*m)+1) 0),(17,.sl (pairsL E)),(18,.int .i64 (E.length:Int)),(19,.int .i64 (i:Int)),(39,.osl (some 2) (1+(1+2*m)+2) 0 2),(40,.int .i64 2),(41,.int .i64 0)] (by simp only [go_sem]; simp)
   (Yba (Xc0 (a:=a) (b:=b) (x:=x) hp1 hclo w1' (by omega) w2' (by omega) (by omega) w3' (hx.mono (by omega)) (by omega) hK (by omega) (K:=fun e st=>∃ f,e = .exit 2∧st=⟨f,pre++(matH 1 m (half (half S a b x) b a x) ++ [.cells [.int .i64 (a:Int),.int .i64 (b:Int)],.cells (qcell x),.cells [.int .i64 (a:Int),.int .i64 (b:Int),.int .i64 (b:Int),.int .i64 (a:Int)]])⟩∧f 1 = .ptr 0 0∧f 3 = .osl none 1 0 m∧f 17 = .sl (pairsL E)∧f 18 = .int .i64 (E.length:Int)∧f 19 = .int .i64 (i:Int))
    (fun f f1 f3 f17 f18 f19=>⟨f,rfl,rfl,f1,f3,f17,f18,f19⟩)) (fun e st hst=>?_))
  obtain ⟨f,rfl,rfl,f1,f3,f17,f18,f19⟩:=hst
  have hS2:half (half S a b x) b a x=lapl m (E.take (i+1)):=by
   rw [← hS,List.take_add_one,he]
   unfold lapl
   rw [List.foldl_append]; rfl
  simp only [go_sem,Ztt,f19,e1]
  rw [hS2]
  refine hN (i+1) _ (by omega) (by omega) ?_
  have hsplit:∀ X Y:Heap,pre++(X++Y)=(pre++X)++Y:=fun X Y=>by simp
  rw [hsplit]
  have wl:(lapl m (E.take (i+1))).length=m:=by rw [← hS2,Zi3,Zi3,w1']
  refine Z4o (m:=1+(1+2*m)) (by rw [List.length_append,Zbe,wl,hp1]) ((hclo _).append (Ye0 (by rw [wl]; omega))) (by omega) _ ?_ ?_
  ·simp only [go_sem,f1,f3,f17,f18]
  ·have k0:pos (List.range (1+(1+2*m))) 0=some 0:=Zdm (by omega)
   have k1:pos (List.range (1+(1+2*m))) 1=some 1:=Zdm (by omega)
   simp [AV.gc,k0,k1]
 ·have hie:i=E.length:=by omega
  subst hie
  have q1:¬ ((E.length:Nat):Int)<(E.length:Int):=by omega
  simp only [go_sem,Zme,Zwc,q1,List.take_length]
end GoAbs
namespace GoAbs
open Go Go.Proofs
set_option exponentiation.threshold 20000
theorem Y2h (k:Nat):10 ^ k≤2 ^ (4*k):=by rw [Nat.pow_mul]; exact Nat.pow_le_pow_left (by decide) k
theorem Z9g {l:List UInt8}{b:Nat}(hb:4*4000≤b) (h:digOk l):numL l<2 ^ b :=
 Nat.lt_of_lt_of_le (Zol h.1) (Nat.le_trans (Nat.pow_le_pow_right (by omega) h.2.2.2) (Nat.le_trans (Y2h 4000) (Nat.pow_le_pow_right (by omega) hb)))
theorem Ysg {l:List UInt8}{q:Rat}(h:parseL l=some q):Qb 16000 q:=by
 unfold parseL at h
 split at h
 ·rename_i hc
  obtain ⟨⟨h1,h2,_⟩,_⟩:=hc
  cases h
  have hd:((partsL l).2.1:Int)≠0∧(partsL l).2.1<2 ^ 16000:=by
   unfold partsL
   simp only
   split
   ·rename_i hs
    have:=h2 hs
    exact ⟨by omega,Z9g (by decide) this.1⟩
   ·exact ⟨by decide,Nat.one_lt_two_pow (n:=16000) (by decide)⟩
  have hn:(partsL l).1.natAbs<2 ^ 16000:=by
   unfold partsL
   simp only
   split
   ·rw [Int.natAbs_neg]; exact Z9g (by decide) h1
   ·exact Z9g (by decide) h1
  obtain ⟨g1,g2⟩:=Zcv (n:=(partsL l).1) hd.1
  exact ⟨Nat.lt_of_le_of_lt g1 hn,Nat.lt_of_le_of_lt g2 (by rw [Int.natAbs_natCast]; exact hd.2)⟩
 ·cases h
theorem Y75 {k:Nat}:∀ {n:Nat},(digs n).length≤k→n<10 ^ k:=by
 induction k with
 | zero =>
  intro n h
  by_cases h0:n=0
  ·subst h0; simp
  ·rw [Zfg h0] at h; simp at h
 | succ k ih =>
  intro n h
  by_cases h0:n=0
  ·subst h0; exact Nat.pow_pos (by omega)
  ·rw [Zfg h0,List.length_cons] at h
   have:=ih (n:=n / 10) (by omega)
   rw [Nat.pow_succ]; omega
theorem Yk5 {n k:Nat}(h:(decL n).length≤k):n<10 ^ k:=by
 unfold decL at h
 split at h
 ·rename_i h0; subst h0; exact Nat.pow_pos (by omega)
 ·rw [List.length_reverse] at h; exact Y75 h
theorem Zl8 {n k:Nat}(hk:1≤k) (h:n<10 ^ k):(decL n).length≤k:=by
 unfold decL
 split
 ·simpa using hk
 ·rw [List.length_reverse]; exact Yfe h
def Fitd (d:Nat) (q:Rat):Prop:=(decL q.num.natAbs).length≤d∧(decL q.den).length≤d
instance (d:Nat) (q:Rat):Decidable (Fitd d q):=by unfold Fitd; infer_instance
theorem Fitd.bits {q:Rat}(h:Fitd 20 q):Qb 67 q:=by
 have e:10 ^ 20≤2 ^ 67:=by decide
 exact ⟨Nat.lt_of_lt_of_le (Yk5 h.1) e,Nat.lt_of_lt_of_le (Yk5 h.2) e⟩
abbrev Spr:=Int×Int×List UInt8
def sprAV (s:Spr):AV := .agg [.int .i64 s.1,.int .i64 s.2.1,.str (bs s.2.2)]
def EndsOk (n a b:Int):Prop:=0≤a∧a<n∧0≤b∧b<n∧a≠b
instance (n a b:Int):Decidable (EndsOk n a b):=by unfold EndsOk; infer_instance
def StiffOk (q:Rat):Prop:=0<q∧Fitd 20 q
instance (q:Rat):Decidable (StiffOk q):=by unfold StiffOk; infer_instance
theorem Xdy {nt n0:Nat}{e:Nat→AV}{H:Heap}{Q:Ex→St→Prop}{a b n:Int}{s:ByteArray}{f:Bool}(e0:e 0 = .int .i64 n) (e8:e 8 = .bool f) (e10:e 10 = .ptr 4 0)
  (h4:H[4]? = some (.cells [.int .i64 a,.int .i64 b,.str s]))
  (hQ:∀ e',e' 0=e 0→e' 4=e 4→e' 6=e 6→e' 7=e 7→e' 10=e 10→e' 11=e 11→e' 12=e 12→e' 26=e 26→e' 27=e 27→e' 28=e 28→e' 8 = .bool (f && decide (EndsOk n a b))→Q .normal ⟨e',H⟩) :
  T Tryz.prog nt n0 (.rg false Zax) ⟨e,H⟩ Q:=by
 refine T_W ?_
 cases f with
 | false =>
  simp only [go_sem,Zax,e8]
  exact hQ _ (by simp only [go_sem]) (by simp only [go_sem]) (by simp only [go_sem]) (by simp only [go_sem]) (by simp only [go_sem]) (by simp only [go_sem]) (by simp only [go_sem]) (by simp only [go_sem]) (by simp only [go_sem]) (by simp only [go_sem]) (by simp only [go_sem]; simp)
 | true =>
  have main:(0≤a∧a<n∧0≤b∧b<n∧¬ a=b)∨(0≤a∧a<n∧0≤b∧b<n∧a=b)∨(0≤a∧a<n∧0≤b∧¬ b<n)∨(0≤a∧a<n∧¬ 0≤b)∨(0≤a∧¬ a<n)∨¬ 0≤a:=by omega
  rcases main with ⟨h1,h2,h3,h5,h6⟩ | ⟨h1,h2,h3,h5,h6⟩ | ⟨h1,h2,h3,h5⟩ | ⟨h1,h2,h3⟩ | ⟨h1,h2⟩ | h1
  ·simp only [go_sem,Zax,e0,e8,e10,h4,h1,h2,h3,h5,h6]
   exact hQ _ (by simp only [go_sem]) (by simp only [go_sem]) (by simp only [go_sem]) (by simp only [go_sem]) (by simp only [go_sem]) (by simp only [go_sem]) (by simp only [go_sem]) (by simp only [go_sem]) (by simp only [go_sem]) (by simp only [go_sem]) (by simp only [go_sem]; simp [EndsOk,h1,h2,h3,h5,h6])
  ·simp only [go_sem,Zax,e0,e8,e10,h4,h1,h2,h3,h5,h6]
   exact hQ _ (by simp only [go_sem]) (by simp only [go_sem]) (by simp only [go_sem]) (by simp only [go_sem]) (by simp only [go_sem]) (by simp only [go_sem]) (by simp only [go_sem]) (by simp only [go_sem]) (by simp only [go_sem]) (by simp only [go_sem]) (by simp only [go_sem]; simp [EndsOk,h1,h2,h3,h5,h6])
  ·simp only [go_sem,Zax,e0,e8,e10,h4,h1,h2,h3,h5]
   exact hQ _ (by simp only [go_sem]) (by simp only [go_sem]) (by simp only [go_sem]) (by simp only [go_sem]) (by simp only [go_sem]) (by simp only [go_sem]) (by simp only [go_sem]) (by simp only [go_sem]) (by simp only [go_sem]) (by simp only [go_sem]) (by simp only [go_sem]; simp [EndsOk,h1,h2,h3,h5])
  ·simp only [go_sem,Zax,e0,e8,e10,h4,h1,h2,h3]
   exact hQ _ (by simp only [go_sem]) (by simp only [go_sem]) (by simp only [go_sem]) (by simp only [go_sem]) (by simp only [go_sem]) (by simp only [go_sem]) (by simp only [go_sem]) (by simp only [go_sem]) (by simp only [go_sem]) (by simp only [go_sem]) (by simp only [go_sem]; simp [EndsOk,h1,h2,h3])
  ·simp only [go_sem,Zax,e0,e8,e10,h4,h1,h2]
   exact hQ _ (by simp only [go_sem]) (by simp only [go_sem]) (by simp only [go_sem]) (by simp only [go_sem]) (by simp only [go_sem]) (by simp only [go_sem]) (by simp only [go_sem]) (by simp only [go_sem]) (by simp only [go_sem]) (by simp only [go_sem]) (by simp only [go_sem]; simp [EndsOk,h1,h2])
  ·simp only [go_sem,Zax,e0,e8,e10,h4,h1]
   exact hQ _ (by simp only [go_sem]) (by simp only [go_sem]) (by simp only [go_sem]) (by simp only [go_sem]) (by simp only [go_sem]) (by simp only [go_sem]) (by simp only [go_sem]) (by simp only [go_sem]) (by simp only [go_sem]) (by simp only [go_sem]) (by simp only [go_sem]; simp [EndsOk,h1])
theorem Xao {nt n0:Nat}{e:Nat→AV}{H:Heap}{Q:Ex→St→Prop}{q:Rat}{f:Bool}(hb:Qb 16000 q) (e8:e 8 = .bool f) (e11:e 11 = .ptr 5 0) (h5:H[5]? = some (.cells (qcell q)))
  (hQ:∀ e',e' 0=e 0→e' 4=e 4→e' 6=e 6→e' 7=e 7→e' 10=e 10→e' 11=e 11→e' 12=e 12→e' 26=e 26→e' 27=e 27→e' 28=e 28→e' 8 = .bool (f && decide (StiffOk q))→Q .normal ⟨e',H⟩) :
  T Tryz.prog nt n0 (.rg false Zbk) ⟨e,H⟩ Q:=by
 refine T_W ?_
 have hql:(4:Nat)≤(qcell q).length:=by rw [Zak]; omega
 have hqt:(qcell q).take 4=qcell q:=List.take_of_length_le (by rw [Zak]; omega)
 cases f with
 | false =>
  simp only [go_sem,Zbk,e8]
  exact hQ _ (by simp only [go_sem]) (by simp only [go_sem]) (by simp only [go_sem]) (by simp only [go_sem]) (by simp only [go_sem]) (by simp only [go_sem]) (by simp only [go_sem]) (by simp only [go_sem]) (by simp only [go_sem]) (by simp only [go_sem]) (by simp only [go_sem]; simp)
 | true =>
  simp only [go_sem,Zbk,e8,e11,h5,hql,hqt]
  refine Zaa (Yjr q) (by simp only [go_sem,Zbb,Zan]) ?_
  have hF:decide (((decL q.num.natAbs).length:Int)≤20∧((decL q.den).length:Int)≤20)=decide (Fitd 20 q):=by
   unfold Fitd
   apply decide_eq_decide.2
   omega
  by_cases hq:0<q
  ·have h1:¬ q=0:=fun h=>by rw [h] at hq; exact absurd hq (by decide)
   have h2:¬ q<0:=fun h=>by grind
   have hg:(0:Int)<1:=by decide
   simp only [go_sem,h1,h2,hg,h5,e11,hql,hqt]
   refine Zaa (Xbs (Zmp hb.n (by omega)) (Zmp hb.d (by omega))) (by simp only [go_sem,Zbb,Zan]) ?_
   simp only [go_sem,hF]
   exact hQ _ (by simp only [go_sem]) (by simp only [go_sem]) (by simp only [go_sem]) (by simp only [go_sem]) (by simp only [go_sem]) (by simp only [go_sem]) (by simp only [go_sem]) (by simp only [go_sem]) (by simp only [go_sem]) (by simp only [go_sem]) (by simp only [go_sem]; simp [StiffOk,hq])
  ·have hg:¬ (0:Int)<(if q=0 then 0 else if q<0 then -1 else 1):=by
    split
    ·decide
    ·split
     ·decide
     ·exfalso; grind
   simp only [go_sem,hg]
   exact hQ _ (by simp only [go_sem]) (by simp only [go_sem]) (by simp only [go_sem]) (by simp only [go_sem]) (by simp only [go_sem]) (by simp only [go_sem]) (by simp only [go_sem]) (by simp only [go_sem]) (by simp only [go_sem]) (by simp only [go_sem]) (by simp only [go_sem]; simp [StiffOk,hq])
end GoAbs
namespace GoAbs
open Go Go.Proofs
def AllD (l:List UInt8):Prop:=∀ c,c∈l→isDig c
theorem Zwh:numL []=0:=rfl
theorem Ykd {l:List UInt8}(h:AllD l) (h0:l ≠ []) (hh:l.head? ≠ some 48):decL (numL l)=l:=by
 have main:∀ k (l:List UInt8),l.length=k→AllD l→l.head? ≠ some 48→(l ≠ []→numL l≠0)∧(digs (numL l)).reverse=l:=by
  intro k
  induction k with
  | zero =>
   intro l hl _ _
   have:l = []:=List.length_eq_zero_iff.1 hl
   subst this
   exact ⟨fun h=>absurd rfl h,by rw [Zwh,Zfc]; rfl⟩
  | succ k ih =>
   intro l hl hd hh
   obtain ⟨r,c,rfl⟩:∃ r c,l=r ++ [c]:=by
    cases h:l.getLast? with
    | none=>rw [List.getLast?_eq_none_iff] at h; subst h; simp at hl
    | some c=>obtain ⟨r,rfl⟩:=List.getLast?_eq_some_iff.1 h; exact ⟨r,c,rfl⟩
   have hc:=hd c (by simp)
   have hrd:AllD r:=fun x hx=>hd x (by simp [hx])
   unfold isDig at hc
   rw [Zsa]
   have hn:10*numL r+(c.toNat - 48)≠0:=by
    by_cases hr:r = []
    ·subst hr
     simp only [List.nil_append,List.head?_cons] at hh
     have:c.toNat≠48:=fun e=>hh (by congr 1; exact UInt8.toNat_inj.1 e)
     omega
    ·have hrh:r.head? ≠ some 48:=fun e=>hh (by
      cases r with
      | nil=>exact absurd rfl hr
      | cons x r=>simpa using e)
     have:=(ih r (by simp at hl; exact hl) hrd hrh).1 hr
     omega
   refine ⟨fun _=>hn,?_⟩
   rw [Zfg hn]
   have e1:(10*numL r+(c.toNat - 48)) / 10=numL r:=by omega
   have e2:UInt8.ofNat (48+(10*numL r+(c.toNat - 48)) % 10)=c:=by
    have:48+(10*numL r+(c.toNat - 48)) % 10=c.toNat:=by omega
    rw [this]; exact UInt8.ofNat_toNat
   rw [e1,e2,List.reverse_cons]
   congr 1
   by_cases hr:r = []
   ·subst hr; rw [Zwh,Zfc]; rfl
   ·exact (ih r (by simp at hl; exact hl) hrd (fun e=>hh (by
     cases r with
     | nil=>exact absurd rfl hr
     | cons x r=>simpa using e))).2
 obtain ⟨m1,m2⟩:=main l.length l rfl h hh
 unfold decL
 rw [if_neg (m1 h0)]
 exact m2
def four (d:Nat):List UInt8 := [UInt8.ofNat (48+d / 1000),UInt8.ofNat (48+d / 100 % 10),UInt8.ofNat (48+d / 10 % 10),UInt8.ofNat (48+d % 10)]
theorem Zb0 {x:Nat}(h:x<10):(UInt8.ofNat (48+x)).toNat=48+x:=by rw [UInt8.toNat_ofNat']; exact Nat.mod_eq_of_lt (by omega)
theorem Y27 {d:Nat}(h:d<10000):numL (four d)=d:=by
 unfold four numL
 simp only [List.foldl_cons,List.foldl_nil]
 rw [Zb0 (by omega),Zb0 (by omega),Zb0 (by omega),Zb0 (by omega)]
 omega
theorem Y3l {d:Nat}(h:d<10000):AllD (four d):=fun c hc=>by
 unfold four at hc
 unfold isDig
 simp only [List.mem_cons,List.not_mem_nil,or_false] at hc
 rcases hc with rfl | rfl | rfl | rfl
 ·rw [Zb0 (by omega)]; omega
 ·rw [Zb0 (by omega)]; omega
 ·rw [Zb0 (by omega)]; omega
 ·rw [Zb0 (by omega)]; omega
theorem Y70 {m:Bool}{A:List Nat}(hA:Od A) (hla:A.length≤100000000) {K:Ex→St→Prop}
  (hK:∀ (e:Nat→AV) (F:List UInt8) (H:Heap),AllD F→numL F=vd A→F.length=4*A.length→e 3 = .str (bs F)→K (.exit 0) ⟨e,H⟩) :
  T Tryz.prog 53 0 (.loop Zjz) ⟨envL [(1,.ptr 0 0),(3,.str (bs [])),(4,.int .i64 ((A.length:Int) - 1))],[.cells [.bool m,.sl (ic A)]]⟩ K:=by
 refine Zag (fun z:Nat×List UInt8=>⟨envL [(1,.ptr 0 0),(3,.str (bs z.2)),(4,.int .i64 ((z.1:Int) - 1))],[.cells [.bool m,.sl (ic A)]]⟩)
  (fun z=>z.1≤A.length∧AllD z.2∧numL z.2=vd (A.drop z.1)∧z.2.length=4*(A.length - z.1)) (fun z=>z.1) (A.length,[])
  ⟨Nat.le_refl _,fun c hc=>by simp at hc,by simp [Zwh,vd],by simp⟩ (Zab _ (by simp only [go_sem])) (fun z hI N hN=>?_)
 obtain ⟨i,F⟩:=z
 obtain ⟨h1,h2,h3,h4⟩:=hI
 simp only at h1 h2 h3 h4 ⊢
 unfold Zjz
 cases i with
 | zero =>
  have q1:¬ (0:Int)≤((0:Nat):Int) - 1:=by omega
  simp only [go_sem,Zko,q1]
  rw [List.drop_zero] at h3
  exact hK _ F _ h2 h3 (by omega) (by simp only [go_sem])
 | succ j =>
  have e0:((j+1:Nat):Int) - 1=(j:Int):=by omega
  have q1:(0:Int)≤(j:Int):=by omega
  have e1:IntKind.i64.wrap ((j:Int) - 1)=(j:Int) - 1:=Zac (by omega) (by omega)
  have hx:A[j]? = some (A.getD j 0):=getElem?_getD (by omega)
  have hxl:=hA.get hx
  have hdA:=Yks (l:=A) (j:=j) (by omega)
  generalize A.getD j 0=x at *
  have p1:¬ (1000:Int)=0:=by omega
  have p2:¬ (100:Int)=0:=by omega
  have p3:¬ (10:Int)=0:=by omega
  have dv:∀ (y k:Nat),y<10000→0<k→IntKind.i64.wrap (((y:Nat):Int).tdiv (k:Int))=((y / k:Nat):Int):=fun y k hy hk=>by
   have:((y:Nat):Int).tdiv (k:Int)=((y / k:Nat):Int):=(Int.ofNat_tdiv y k).symm
   rw [this]
   have hle:=Nat.div_le_self y k
   generalize y / k=w at *
   exact Zac (by omega) (by omega)
  have d1:IntKind.i64.wrap ((x:Int).tdiv 1000)=((x / 1000:Nat):Int):=dv x 1000 hxl (by omega)
  have d2:IntKind.i64.wrap ((x:Int).tdiv 100)=((x / 100:Nat):Int):=dv x 100 hxl (by omega)
  have d3:IntKind.i64.wrap ((x:Int).tdiv 10)=((x / 10:Nat):Int):=dv x 10 hxl (by omega)
  have em:∀ t:Nat,((t:Nat):Int).tmod 10=((t % 10:Nat):Int):=fun t=>Zwg (b:=10)
  have ea:∀ t:Nat,t<10→IntKind.i64.wrap (48+((t:Nat):Int))=((48+t:Nat):Int):=fun t ht=>by rw [Zac (by omega) (by omega)]; omega
  have eu:∀ t:Nat,t<10→IntKind.u8.wrap (((48+t:Nat):Int))=(((UInt8.ofNat (48+t)).toNat:Nat):Int):=fun t ht=>by rw [Zb0 ht,Y0u (by omega) (by omega)]
  have hsz:F.length+4≤4*100000000:=by omega
  simp only [go_sem,Zko,Zu9,Zsj,Zt6,Zqg,e0,q1,Zna hx,p1,p2,p3,d1,d2,d3,em,ea (x / 1000) (by omega),ea (x / 100 % 10) (by omega),ea (x / 10 % 10) (by omega),ea (x % 10) (by omega),eu (x / 1000) (by omega),eu (x / 100 % 10) (by omega),eu (x / 10 % 10) (by omega),eu (x % 10) (by omega),e1]
  refine ⟨four x,rfl,?_⟩
  have hb:(⟨(four x).toArray⟩:ByteArray)=bs (four x):=rfl
  have h4l:(four x).length=4:=rfl
  have hmax:(((bs F).size+(bs (four x)).size:Nat):Int)≤IntKind.i64.max:=by
   rw [Zaq,Zaq,h4l]
   have:IntKind.i64.max=9223372036854775807:=by decide
   rw [this]; omega
  simp only [go_sem,hb,Zjj]
  refine ⟨hmax,?_⟩
  refine hN (j,F++four x) _ ⟨by simp only; omega,fun c hc=>?_,?_,?_⟩ (by show j<j+1; omega) ?_
  ·rcases List.mem_append.1 hc with hc | hc
   ·exact h2 c hc
   ·exact Y3l hxl c hc
  ·simp only
   rw [Zgo,Y27 hxl,h4l,h3,hdA]
   omega
  ·simp only [List.length_append,h4l]; omega
  ·exact Zdp (Zii [0] (by decide) (fun i hi=>by omega) [(1,.ptr 0 0),(3,.str (bs (F++four x))),(4,.int .i64 ((j:Int) - 1))] (by simp only [go_sem])) rfl
theorem Y5p {F:List UInt8}{n0:Nat}{H:Heap}(hF:AllD F) (h0:numL F≠0) {K:Ex→St→Prop}
  (hK:∀ (e:Nat→AV),e 3 = .str (bs (decL (numL F)))→K (.exit 2) ⟨e,H⟩) :
  T Tryz.prog 53 n0 (.loop Zjl) ⟨envL [(3,.str (bs F))],H⟩ K:=by
 refine Zag (fun z:List UInt8=>⟨envL [(3,.str (bs z))],H⟩) (fun z=>AllD z∧numL z=numL F) (fun z=>z.length) F ⟨hF,rfl⟩ (Zab _ (by simp only [go_sem])) (fun z hI N hN=>?_)
 obtain ⟨h1,h2⟩:=hI
 unfold Zjl
 cases z with
 | nil=>rw [Zwh] at h2; exact absurd h2.symm h0
 | cons c z =>
  have gi:(c::z)[0]? = some c:=rfl
  by_cases hc:c.toNat=48
  ·have hci:(c.toNat:Int)=48:=by omega
   have q0:(1:Nat)≤(c::z).length:=by simp
   simp only [go_sem,Zih,Zq2,Zeu,Zaq,gi,hci,Zep]
   refine ⟨Nat.le_refl _,?_⟩
   rw [List.take_length]
   refine hN z _ ⟨fun x hx=>h1 x (by simp [hx]),?_⟩ (by simp) (Zab _ (by simp only [go_sem]))
   rw [← h2]
   have:=Zgo [c] z
   have hc1:numL [c]=0:=by simp [numL,hc]
   rw [hc1,Nat.zero_mul,Nat.zero_add] at this
   exact this.symm
  ·have hci:¬ (c.toNat:Int)=48:=by omega
   simp only [go_sem,Zih,Zeu,gi,hci]
   have hd:=Ykd h1 (by simp) (by simp only [List.head?_cons]; intro e; apply hc; cases e; rfl)
   rw [h2] at hd
   exact hK _ (by simp only [go_sem,hd])
theorem Ypy {n:Nat}(hn:Zs n) {m:Bool}:SpecV Tryz.prog Yf1 [.agg [.bool m,.sl (ic (dg n))]] (.str (bs (decL n))):=by
 have hlen:=hn.len
 by_cases h0:n=0
 ·subst h0
  refine Zae Zxc (by simp) ?_
  unfold Zvt
  simp only [go_sem,Zjq,Zje,Zs7,Zb1,Ypz]
  exact ⟨fun _=>rfl,fun h=>absurd rfl h⟩
 ·refine Zbr Zxc (by simp) (Zen 1 rfl ?_)
  unfold Zvt
  have hp:¬ ((dg n).length:Int)=0:=by have:=(Zey (n:=n)).2 h0; omega
  have e0:IntKind.i64.wrap (((dg n).length:Int) - 1)=((dg n).length:Int) - 1:=Zac (by omega) (by omega)
  simp only [go_sem,Zjq,Zje,Zar,hp]
  refine T_W ?_
  simp only [go_sem,Zua,Zs9,Zar,e0]
  refine Za2 [(1,.ptr 0 0),(3,.str (bs [])),(4,.int .i64 (((dg n).length:Int) - 1))] (by simp only [go_sem]; rfl) (Y70 (Zvq n) hlen (fun e F H g1 g2 g3 k3=>?_))
  rw [Zrm] at g2
  simp only [go_sem]
  refine Za2 [(3,.str (bs F))] (by simp only [go_sem,k3]) (Y5p g1 (by omega) (fun e2 j3=>?_))
  rw [g2] at j3
  simp only [go_sem,Zq9,j3]
end GoAbs
namespace GoAbs
open Go Go.Proofs
theorem Yph {n:Nat}:decL n = [49]↔n=1:=by
 constructor
 ·intro h
  have h1:n<10:=by have:=Yk5 (n:=n) (k:=1) (by rw [h]; simp); omega
  unfold decL at h
  split at h
  ·cases h
  ·rename_i h0
   rw [Zfg h0,show n / 10=0 by omega,Zfc] at h
   simp only [List.reverse_cons,List.reverse_nil,List.nil_append,List.cons.injEq,and_true] at h
   have:=congrArg UInt8.toNat h
   rw [Zb0 (by omega)] at this
   have h49:(49:UInt8).toNat=49:=rfl
   omega
 ·intro h
  subst h
  exact Ykd (l := [49]) (fun c hc=>by simp at hc; subst hc; decide) (by simp) (by simp)
theorem rnum {n d:Int}{k:Nat}{q:Rat}(h1:Ib k n) (h2:Ib k d) (hd:0<d) (hk:k≤10000000) (hq:Rat.divInt n d=q) :
  SpecV Tryz.prog Yug [avR n d] (if NumOk q then .tup [.str (bs (numS q)),.bool true] else .tup [.str (bs []),.bool false]):=by
 have hm:Tryz.prog.follows .mixedOrders=true:=by kernel_rfl
 refine Zae Ytb (by simp) ?_
 unfold Yoc
 have hl:=rlow h1 h2 hd hk
 rw [hq] at hl
 obtain ⟨g1,g2⟩:=Zcv (n:=n) (d:=d) (by omega)
 rw [hq] at g1 g2
 have zn:Zs q.num.natAbs:=(h1.zs hk).mono g1
 have zd:Zs q.den:=(h2.zs hk).mono g2
 have ha:=Yx4 (z:=q.num)
 rw [Zav,Zai] at ha
 have f1:=Ypy zn (m:=false)
 have f2:=Ypy zd (m:=decide ((q.den:Int)<0))
 rw [Zau,Zau] at hl
 rw [Zau]
 rw [Int.natAbs_natCast] at hl
 have hmax:IntKind.i64.max=9223372036854775807:=rfl
 have c45:(⟨#[45]⟩:ByteArray)=bs [45]:=rfl
 have c47:(⟨#[47]⟩:ByteArray)=bs [47]:=rfl
 have c49:(⟨#[49]⟩:ByteArray)=bs [49]:=rfl
 have hok:NumOk q↔((decL q.num.natAbs).length≤4000∧(decL q.den).length≤4000):=by
  unfold NumOk
  constructor
  ·rintro ⟨h1,h2 | h2⟩
   ·exact ⟨h1,by rw [Yph.2 h2]; simp⟩
   ·exact ⟨h1,h2⟩
  ·rintro ⟨h1,h2⟩; exact ⟨h1,.inr h2⟩
 have hden:(bs (decL q.den)=bs [49])=(q.den=1):=propext (bs_inj.trans Yph)
 simp only [go_sem,Ybc,Z9e]
 refine Zaa hl (by simp only [go_sem]) ?_
 simp only [go_sem,Z0f,hm]
 refine Zaa ha (by simp only [go_sem]) ?_
 simp only [go_sem]
 refine Zaa f1 (by simp only [go_sem]) ?_
 simp only [go_sem]
 refine Zaa f2 (by simp only [go_sem]) ?_
 by_cases hA:(decL q.num.natAbs).length≤4000
 ·have q1:¬ (4000:Int)<((decL q.num.natAbs).length:Int):=by omega
  by_cases hB:(decL q.den).length≤4000
  ·have q2:¬ (4000:Int)<((decL q.den).length:Int):=by omega
   rw [if_pos (hok.2 ⟨hA,hB⟩)]
   have m1:((1+(decL q.num.natAbs).length:Nat):Int)≤IntKind.i64.max:=by rw [hmax]; omega
   have m2:((1+(decL q.den).length:Nat):Int)≤IntKind.i64.max:=by rw [hmax]; omega
   have m3:∀ S:List UInt8,S.length≤4001→((S.length+(1+(decL q.den).length):Nat):Int)≤IntKind.i64.max:=fun S hS=>by rw [hmax]; omega
   by_cases hs:q.num<0
   ·by_cases h1:q.den=1
    ·have hden':(bs (decL q.den)=bs [49])=True:=by rw [hden]; simp [h1]
     have hS:numS q = [45]++decL q.num.natAbs ++ []:=by unfold numS; simp [hs,h1]
     rw [hS]
     simp only [go_sem,Zej,Zkr,Zzz,Zkx,Zhq,Zaq,q1,q2,decide_eq_true hs,c45,c47,c49,Zjj,m1,m2,hden',List.length_cons,List.length_append,List.length_nil]
    ·have hden':(bs (decL q.den)=bs [49])=False:=by rw [hden]; simp [h1]
     have hS:numS q = [45]++decL q.num.natAbs++(47::decL q.den):=by unfold numS; simp [hs,h1]
     rw [hS]
     simp only [go_sem,Zej,Zkr,Zzz,Zkx,Z0j,Zhq,Zaq,q1,q2,decide_eq_true hs,c45,c47,c49,Zjj,m1,m2,hden',List.length_cons,List.length_append,List.length_nil]
     rw [hmax]; omega
   ·by_cases h1:q.den=1
    ·have hden':(bs (decL q.den)=bs [49])=True:=by rw [hden]; simp [h1]
     have hS:numS q = []++decL q.num.natAbs ++ []:=by unfold numS; simp [hs,h1]
     rw [hS]
     simp only [go_sem,Zej,Zkr,Zkx,Zhq,Zaq,q1,q2,decide_eq_false hs,c45,c47,c49,Zjj,m1,m2,hden',List.length_cons,List.length_append,List.length_nil]
    ·have hden':(bs (decL q.den)=bs [49])=False:=by rw [hden]; simp [h1]
     have hS:numS q = []++decL q.num.natAbs++(47::decL q.den):=by unfold numS; simp [hs,h1]
     rw [hS]
     simp only [go_sem,Zej,Zkr,Zkx,Z0j,Zhq,Zaq,q1,q2,decide_eq_false hs,c45,c47,c49,Zjj,m1,m2,hden',List.length_cons,List.length_append,List.length_nil]
     rw [hmax]; omega
  ·have q2:(4000:Int)<((decL q.den).length:Int):=by omega
   rw [if_neg (fun h=>hB (hok.1 h).2)]
   simp only [go_sem,Zej,Zzu,Zaq,q1,q2]
   rfl
 ·have q1:(4000:Int)<((decL q.num.natAbs).length:Int):=by omega
  rw [if_neg (fun h=>hA (hok.1 h).1)]
  simp only [go_sem,Zej,Zzu,Zaq,q1]
  rfl
theorem ris {n d:Int}{k:Nat}{q:Rat}{s:ByteArray}(h1:Ib k n) (h2:Ib k d) (hd:0<d) (hk:k≤10000000) (hq:Rat.divInt n d=q) :
  SpecV Tryz.prog Y4c [.str s,avR n d] (.bool (decide (NumOk q∧s=bs (numS q)))):=by
 refine Zae Yw1 (by simp) ?_
 unfold Yx9
 have hn:=rnum h1 h2 hd hk hq
 rw [Zau] at hn ⊢
 simp only [go_sem,Ydq,Yel]
 refine Zaa hn (by simp only [go_sem]) ?_
 by_cases ho:NumOk q
 ·rw [if_pos ho]
  by_cases hs:s=bs (numS q)
  ·have:decide (NumOk q∧s=bs (numS q))=true:=by simp [ho,hs]
   rw [this]
   simp only [go_sem,Zwe,hs]
  ·have:decide (NumOk q∧s=bs (numS q))=false:=by simp [hs]
   rw [this]
   simp only [go_sem,Zwe,hs]
 ·have:decide (NumOk q∧s=bs (numS q))=false:=by simp [ho]
  rw [if_neg ho,this]
  simp only [go_sem,Zwe]
end GoAbs
