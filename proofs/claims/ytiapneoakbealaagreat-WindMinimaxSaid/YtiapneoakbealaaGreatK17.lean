/- Lemmas for the claim (contracts of the functions that it reaches, and what they compute), without conditions. -/
import Derived.Test.YtiapneoakbealaaGreatK16
import Derived.Test.YtiapneoakbealaaGreatProg
import Derived.KernelRfl
import Derived.IntWalk
import Derived.Test.YtiapneoakbealaaGreatChecked
set_option linter.unusedVariables false
set_option linter.unusedSimpArgs false
set_option maxRecDepth 10000
set_option maxHeartbeats 2000000
namespace GoAbs
open Go Go.Proofs
def Ybr:List IOp := [oI 2 (.box (.t 0)) 0,oI 3 (.box (.t 1)) 1,oI 4 (.mv (cI 0)) 2]
def Z0u:List IOp := [fI 5 0 2 0,lJ 6 2 5 0,fI 7 2 3 0,lJ 8 2 7 0,oI 9 (.call 103 [.t 6,.t 8]) 0,fI 10 0 3 0,lJ 11 2 10 0,fI 12 2 2 0,lJ 13 2 12 0,oI 14 (.callw 103 [.t 11,.t 13]) 0,oI 15 (.callw 102 [.t 9,.t 14]) 0,mI 4 15 0]
@[go_sem ↓] theorem Yji : autoK Z0u = (0, 0) := by kernel_rfl
@[go_sem] theorem Y1y : autoK [fI 5 0 2 0, lJ 6 2 5 0, fI 7 2 3 0, lJ 8 2 7 0, oI 9 (.call 103 [.t 6, .t 8]) 0, fI 10 0 3 0, lJ 11 2 10 0, fI 12 2 2 0, lJ 13 2 12 0, oI 14 (.callw 103 [.t 11, .t 13]) 0, oI 15 (.callw 102 [.t 9, .t 14]) 0, mI 4 15 0] = (0, 0) := Yji
def Yrx:CC := .seq (.rg false Ybr) (.seq (.rg true Z0u) .ret)
abbrev Yze:Nat:=69
theorem Ysv:fnOk Tryz.prog 69=some (16,Yrx,[.tmp 4]):=by kernel_rfl
def Zhm:List IOp := [oI 2 (.alloc [.bool false,.nils,.bool false,.nils]) 0,oI 3 (.mv (.c (.bool false))) 1,oI 4 (.mv (.c (.bool false))) 1]
def Zhl:List IOp := [mI 6 0 0,oI 7 (.call 68 [.t 6]) 0,mI 5 7 0,eI 8 0 5 0,eI 9 1 5 0,⟨none,.st 4 (.t 2) (.t 8),0,[],[],none⟩,mI 3 9 0]
def Zd6:List IOp := [lJ 10 4 2 0,mI 11 3 0,mI 12 3 0,mI 13 12 0,gI 14 (.ld (some 4) (.t 2)) 0 13 true,gI 15 (.call 81 [.t 14,cI 12]) 0 13 true,oI 16 (.pick (.t 13) (.t 15) (.c (.bool false))) 0,⟨none,.st 4 (.t 2) (.t 10),0,[],[],none⟩,mI 3 11 0,mI 4 16 0]
@[go_sem ↓] theorem Z9s : autoK Zd6 = (0, 1) := by kernel_rfl
@[go_sem] theorem Ys7 : autoK [lJ 10 4 2 0, mI 11 3 0, mI 12 3 0, mI 13 12 0, gI 14 (.ld (some 4) (.t 2)) 0 13 true, gI 15 (.call 81 [.t 14, cI 12]) 0 13 true, oI 16 (.pick (.t 13) (.t 15) (.c (.bool false))) 0, ⟨none, .st 4 (.t 2) (.t 10), 0, [], [], none⟩, mI 3 11 0, mI 4 16 0] = (0, 1) := Z9s
def Zpg:CC := .seq (.rg false Zhm) (.seq (.rg false Zhl) (.seq (.rg true Zd6) .ret))
abbrev Zvo:Nat:=79
theorem Zqm:fnOk Tryz.prog 79=some (17,Zpg,[.cell 2 (some 4),.tmp 3,.tmp 4]):=by kernel_rfl
def Znw:List IOp := [oI 4 (.alloc [.bool false,.nils,.bool false,.nils]) 0]
def Zn4:List IOp := [mI 9 0 0,oI 10 (.call 79 [.t 9]) 0,mI 8 10 0,eI 11 0 8 0,eI 12 1 8 0,eI 13 2 8 0,oI 5 (.alloc [.bool false,.nils,.bool false,.nils]) 0,⟨none,.st 4 (.t 5) (.t 11),1,[],[],none⟩,mI 6 12 1,mI 7 13 1]
def Znr:List IOp := [lI 14 1 0,mI 15 14 0,gI 16 (.mv (.t 6)) 0 15 true,oI 17 (.pick (.t 15) (.t 16) (.c (.bool false))) 0,lI 18 2 0,mI 19 18 0,gI 20 (.mv (.t 7)) 0 19 true,oI 21 (.pick (.t 19) (.t 20) (.c (.bool false))) 0,⟨none,.st 1 (.t 1) (.t 17),0,[],[],none⟩,⟨none,.st 1 (.t 2) (.t 21),0,[],[],none⟩]
def Zn7:List IOp := [lJ 22 4 5 0,⟨none,.st 4 (.t 4) (.t 22),0,[],[],none⟩]
def Zx9:CC := .seq (.rg false Znw) (.seq (.rg false Zn4) (.seq (.rg false Znr) (.seq (.rg false Zn7) .ret)))
abbrev Zaz:Nat:=78
theorem Z9g:fnOk Tryz.prog 78=some (23,Zx9,[.cell 4 (some 4)]):=by kernel_rfl
def Zjx:List IOp := [oI 4 (.mv (.c .nilp)) 0,oI 5 (.mv (cI 0)) 0]
def Zju:List IOp := [oI 20 (.build [.nils,.nils,.bool false,.nils,.bool false,.nils] []) 0,oI 21 (.box (.t 20)) 0,mI 6 21 1]
def Zjo:List IOp := [mI 22 0 0,oI 23 (.len (.t 22)) 0,oI 24 (.bin .geq (.t 23) (cI 1)) 0,mI 25 24 0,gI 26 (.mv (.t 0)) 0 25 true,gI 27 (.len (.t 26)) 0 25 true,gI 28 (.bin .leq (.t 27) (cI 10)) 0 25 true,oI 29 (.pick (.t 25) (.t 28) (.c (.bool false))) 0,oI 7 (.alloc [.bool false]) 0,oI 8 (.alloc [.bool false]) 1,⟨none,.st 1 (.t 7) (.c (.bool true)),2,[],[],none⟩,⟨none,.st 1 (.t 8) (.t 29),2,[],[],none⟩]
def Zjy:List IOp := [oI 30 (.mkf 78 [] [.t 7,.t 8]) 0,mI 9 30 0]
def Zoq:List IOp := [mI 31 0 0,oI 32 (.len (.t 31)) 0,oI 33 (.mv (cI 0)) 0]
def Zqp:List IOp := [oI 34 (.bin .lss (.t 33) (.t 32)) 0]
def Zow:List IOp := [xI 35 3 31 33 0,lJ 36 3 35 0,oI 11 (.alloc [.int .i64 0,.str ⟨#[]⟩,.nils]) 0,⟨none,.st 3 (.t 11) (.t 36),1,[],[],none⟩]
def Zfx:List IOp := [mI 37 6 0,mI 38 6 0,oI 39 (.nilck (.t 38)) 0,fI 40 1 39 0,⟨some 41,.ld none (.t 40),0,[],[0],none⟩,mI 42 9 0,fI 43 1 11 0,lI 44 43 0,oI 45 (.callu (.t 42) [.t 44]) 0,oI 46 (.bsl (some 4) 1 [.bool false,.nils,.bool false,.nils] [(0,.t 45)]) 0,⟨some 47,.app (some 4) 64 (.t 41) (.t 46),1,[0],[],none⟩,⟨some 48,.nilck (.t 37),2,[0,1],[],none⟩,⟨some 49,.fa 1 (.t 48),2,[0,1],[],none⟩,⟨none,.st 1 (.t 49) (.t 47),2,[0,1],[],none⟩]
@[go_sem ↓] theorem Yb5 : autoK Zfx = (2, 2) := by kernel_rfl
@[go_sem] theorem Ywb : autoK [mI 37 6 0, mI 38 6 0, oI 39 (.nilck (.t 38)) 0, fI 40 1 39 0, ⟨some 41, .ld none (.t 40), 0, [], [0], none⟩, mI 42 9 0, fI 43 1 11 0, lI 44 43 0, oI 45 (.callu (.t 42) [.t 44]) 0, oI 46 (.bsl (some 4) 1 [.bool false, .nils, .bool false, .nils] [(0, .t 45)]) 0, ⟨some 47, .app (some 4) 64 (.t 41) (.t 46), 1, [0], [], none⟩, ⟨some 48, .nilck (.t 37), 2, [0, 1], [], none⟩, ⟨some 49, .fa 1 (.t 48), 2, [0, 1], [], none⟩, ⟨none, .st 1 (.t 49) (.t 47), 2, [0, 1], [], none⟩] = (2, 2) := Yb5
def Zot:List IOp := [oI 12 (.mv (.c .nils)) 0]
def Zmr:List IOp := [oI 13 (.mv (.c .nils)) 0]
def Zmk:List IOp := [oI 50 (.call 49 [cI 0]) 0,oI 14 (.alloc [.bool false,.nils,.bool false,.nils]) 0,⟨none,.st 4 (.t 14) (.t 50),1,[],[],none⟩]
def Zma:List IOp := [fI 51 2 11 0,lI 52 51 0,oI 53 (.len (.t 52)) 0,oI 54 (.mv (cI 0)) 0]
def Zl8:List IOp := [oI 55 (.bin .lss (.t 54) (.t 53)) 0]
def Zyc:List IOp := [xI 56 2 52 54 0,lJ 57 2 56 0,oI 16 (.alloc [.int .i64 0,.str ⟨#[]⟩]) 0,⟨none,.st 2 (.t 16) (.t 57),1,[],[],none⟩]
def Zx8:List IOp := [mI 58 12 0,fI 59 0 16 0,lI 60 59 0,oI 61 (.bsl none 1 [.int .i64 0] [(0,.t 60)]) 0,oI 62 (.app none 8 (.t 58) (.t 61)) 1,mI 12 62 2]
def Zb5:List IOp := [lI 63 8 0,mI 64 63 0,gI 65 (.fa 0 (.t 16)) 0 64 true,gI 66 (.ld none (.t 65)) 0 64 true,gI 67 (.bin .geq (.t 66) (cI 0)) 0 64 true,oI 68 (.pick (.t 64) (.t 67) (.c (.bool false))) 0,mI 69 68 0,gI 70 (.fa 0 (.t 16)) 0 69 true,gI 71 (.ld none (.t 70)) 0 69 true,gI 72 (.mv (.t 0)) 0 69 true,gI 73 (.len (.t 72)) 0 69 true,gI 74 (.bin .lss (.t 71) (.t 73)) 0 69 true,oI 75 (.pick (.t 69) (.t 74) (.c (.bool false))) 0,mI 76 75 0,gI 77 (.fa 1 (.t 16)) 0 76 true,gI 78 (.ld none (.t 77)) 0 76 true,⟨some 79,.bin .neq (.t 78) (.c (.str ⟨#[]⟩)),0,[],[],some (76,true)⟩,gI 80 (.fa 0 (.t 11)) 0 76 true,gI 81 (.ld none (.t 80)) 0 76 true,gI 82 (.bin .eql (.t 81) (cI 3)) 0 76 true,gI 83 (.beq false (.t 79) (.t 82)) 0 76 true,oI 84 (.pick (.t 76) (.t 83) (.c (.bool false))) 0,⟨none,.st 1 (.t 8) (.t 84),0,[],[],none⟩]
def Zdy:List IOp := [fI 85 1 16 0,lI 86 85 0,oI 87 (.bin .neq (.t 86) (.c (.str ⟨#[]⟩))) 0]
def Zhs:List IOp := [fI 89 1 16 0,lI 90 89 0,oI 91 (.call 79 [.t 90]) 0,mI 88 91 0,eI 92 0 88 0,eI 93 1 88 0,eI 94 2 88 0,oI 17 (.alloc [.bool false,.nils,.bool false,.nils]) 0,⟨none,.st 4 (.t 17) (.t 92),1,[],[],none⟩,mI 18 93 1,mI 19 94 1]
def Zb2:List IOp := [lI 95 7 0,mI 96 95 0,gI 97 (.mv (.t 18)) 0 96 true,oI 98 (.pick (.t 96) (.t 97) (.c (.bool false))) 0,⟨none,.st 1 (.t 7) (.t 98),0,[],[],none⟩]
def Zea:List IOp := [mI 99 18 0]
def Zb0:List IOp := [lI 100 8 0,mI 101 100 0,gI 102 (.ld (some 4) (.t 17)) 0 101 true,gI 103 (.call 80 [.t 102]) 0 101 true,gI 104 (.bin .gtr (.t 103) (cI 0)) 0 101 true,oI 105 (.pick (.t 101) (.t 104) (.c (.bool false))) 0,mI 106 105 0,gI 107 (.ld (some 4) (.t 17)) 0 106 true,gI 108 (.call 81 [.t 107,cI 12]) 0 106 true,oI 109 (.pick (.t 106) (.t 108) (.c (.bool false))) 0,⟨none,.st 1 (.t 8) (.t 109),0,[],[],none⟩]
def Zco:List IOp := [lJ 110 4 14 0,lJ 111 4 17 0,oI 112 (.call 82 [.t 110,.t 111]) 0,⟨none,.st 4 (.t 14) (.t 112),0,[],[],none⟩]
def Zcq:List IOp := [mI 113 13 0,lJ 114 4 17 0,oI 115 (.bsl (some 4) 1 [.bool false,.nils,.bool false,.nils] [(0,.t 114)]) 0,oI 116 (.app (some 4) 64 (.t 113) (.t 115)) 1,mI 13 116 2]
def Zbm:List IOp := [oI 117 (.bin .add (.t 54) (cI 1)) 0,mI 54 117 0]
def Zjw:CC := .seq (.rg false Zl8) (.seq (.cond (.t 55) .skip (.exit 2)) (.seq (.block 3 (.seq (.rg false Zyc) (.seq (.rg false Zx8) (.seq (.rg false Zb5) (.seq (.rg false Zdy) (.cond (.t 87) (.seq (.rg false Zhs) (.seq (.seq (.rg false Zb2) (.seq (.rg false Zea) (.cond (.t 99) (.seq (.rg false Zb0) (.rg false Zco)) .skip))) (.rg false Zcq))) .skip)))))) (.rg false Zbm)))
def Zb4:List IOp := [lI 118 8 0,mI 119 118 0,gI 120 (.mv (.t 12)) 0 119 true,gI 121 (.len (.t 120)) 0 119 true,gI 122 (.bin .geq (.t 121) (cI 1)) 0 119 true,oI 123 (.pick (.t 119) (.t 122) (.c (.bool false))) 0,mI 124 123 0,gI 125 (.mv (.t 12)) 0 124 true,gI 126 (.len (.t 125)) 0 124 true,gI 127 (.bin .leq (.t 126) (cI 6)) 0 124 true,oI 128 (.pick (.t 124) (.t 127) (.c (.bool false))) 0,⟨none,.st 1 (.t 8) (.t 128),0,[],[],none⟩]
def Zmo:List IOp := [fI 129 0 11 0,lI 130 129 0]
def Zcr:List IOp := [oI 132 (.bin .eql (.t 130) (cI 1)) 0,mI 131 132 0]
def Zmy:List IOp := [mI 133 6 0,mI 134 6 0,oI 135 (.nilck (.t 134)) 0,fI 136 0 135 0,lI 137 136 0,mI 138 12 0,oI 139 (.build [.nils] [(0,1,.t 138)]) 0,oI 140 (.mki 129 (.t 139)) 0,oI 141 (.bsl none 1 [.nilif] [(0,.t 140)]) 0,oI 142 (.app none 16 (.t 137) (.t 141)) 1,oI 143 (.nilck (.t 133)) 2,fI 144 0 143 2,⟨none,.st 1 (.t 144) (.t 142),2,[],[],none⟩]
def Zd3:List IOp := [oI 146 (.bin .eql (.t 130) (cI 2)) 0,mI 145 146 0]
def Zmx:List IOp := [mI 147 6 0,mI 148 6 0,oI 149 (.nilck (.t 148)) 0,fI 150 0 149 0,lI 151 150 0,mI 152 12 0,oI 153 (.build [.nils] [(0,1,.t 152)]) 0,oI 154 (.mki 131 (.t 153)) 0,oI 155 (.bsl none 1 [.nilif] [(0,.t 154)]) 0,oI 156 (.app none 16 (.t 151) (.t 155)) 1,oI 157 (.nilck (.t 147)) 2,fI 158 0 157 2,⟨none,.st 1 (.t 158) (.t 156),2,[],[],none⟩]
def Zdw:List IOp := [oI 160 (.bin .eql (.t 130) (cI 3)) 0,mI 159 160 0]
def Zee:List IOp := [lI 161 8 0,mI 162 161 0,gI 163 (.ld (some 4) (.t 14)) 0 162 true,gI 164 (.call 49 [cI 1]) 0 162 true,gI 165 (.callw 69 [.t 163,.t 164]) 0 162 true,gI 166 (.bin .eql (.t 165) (cI 0)) 0 162 true,oI 167 (.pick (.t 162) (.t 166) (.c (.bool false))) 0,⟨none,.st 1 (.t 8) (.t 167),0,[],[],none⟩]
@[go_sem ↓] theorem Z9q : autoK Zee = (0, 1) := by kernel_rfl
@[go_sem] theorem Yvi : autoK [lI 161 8 0, mI 162 161 0, gI 163 (.ld (some 4) (.t 14)) 0 162 true, gI 164 (.call 49 [cI 1]) 0 162 true, gI 165 (.callw 69 [.t 163, .t 164]) 0 162 true, gI 166 (.bin .eql (.t 165) (cI 0)) 0 162 true, oI 167 (.pick (.t 162) (.t 166) (.c (.bool false))) 0, ⟨none, .st 1 (.t 8) (.t 167), 0, [], [], none⟩] = (0, 1) := Z9q
def Zef:List IOp := [mI 168 6 0,mI 169 6 0,oI 170 (.nilck (.t 169)) 0,fI 171 0 170 0,lI 172 171 0,mI 173 12 0,mI 174 13 0,oI 175 (.build [.nils,.nils] [(0,1,.t 173),(1,1,.t 174)]) 0,oI 176 (.mki 140 (.t 175)) 0,oI 177 (.bsl none 1 [.nilif] [(0,.t 176)]) 0,oI 178 (.app none 16 (.t 172) (.t 177)) 1,oI 179 (.nilck (.t 168)) 2,fI 180 0 179 2,⟨none,.st 1 (.t 180) (.t 178),2,[],[],none⟩]
def Zm0:List IOp := [⟨none,.st 1 (.t 8) (.c (.bool false)),0,[],[],none⟩]
def Zm2:List IOp := [oI 181 (.bin .add (.t 33) (cI 1)) 0,mI 33 181 0]
def Zjt:CC := .seq (.rg false Zqp) (.seq (.cond (.t 34) .skip (.exit 0)) (.seq (.block 1 (.seq (.rg false Zow) (.seq (.rg true Zfx) (.seq (.rg false Zot) (.seq (.rg false Zmr) (.seq (.rg false Zmk) (.seq (.seq (.rg false Zma) (.block 2 (.loop Zjw))) (.seq (.rg false Zb4) (.seq (.rg false Zmo) (.block 4 (.seq (.rg false Zcr) (.cond (.t 131) (.rg false Zmy) (.seq (.rg false Zd3) (.cond (.t 145) (.rg false Zmx) (.seq (.rg false Zdw) (.cond (.t 159) (.seq (.rg true Zee) (.rg false Zef)) (.rg false Zm0))))))))))))))))) (.rg false Zm2)))
def Zhg:List IOp := [mI 182 6 0,mI 183 9 0,mI 184 1 0,oI 185 (.callv (.t 183) [.t 184]) 0,oI 186 (.nilck (.t 182)) 0,fI 187 2 186 0,⟨none,.st 4 (.t 187) (.t 185),0,[],[],none⟩]
def Zhq:List IOp := [lI 189 7 0,oI 190 (.un .not (.t 189)) 0,mI 188 190 0]
def Zhd:List IOp := [oI 4 (.mv (.c .nilp)) 0,oI 5 (.mv (cI 2)) 0]
def Zd8:List IOp := [lI 192 8 0,oI 193 (.un .not (.t 192)) 0,mI 194 193 0,gI 195 (.mv (.t 6)) 0 194 false,gI 196 (.nilck (.t 195)) 0 194 false,gI 197 (.fa 2 (.t 196)) 0 194 false,gI 198 (.ld (some 4) (.t 197)) 0 194 false,gI 199 (.callw 80 [.t 198]) 0 194 false,gI 200 (.bin .lss (.t 199) (cI 0)) 0 194 false,oI 201 (.pick (.t 194) (.c (.bool true)) (.t 200)) 0,mI 202 201 0,gI 203 (.mv (.t 6)) 0 202 false,gI 204 (.nilck (.t 203)) 0 202 false,gI 205 (.fa 2 (.t 204)) 0 202 false,gI 206 (.ld (some 4) (.t 205)) 0 202 false,gI 207 (.call 49 [cI 1]) 0 202 false,gI 208 (.callw 69 [.t 206,.t 207]) 0 202 false,gI 209 (.bin .geq (.t 208) (cI 0)) 0 202 false,oI 210 (.pick (.t 202) (.c (.bool true)) (.t 209)) 0,mI 191 210 0]
@[go_sem ↓] theorem Z9r : autoK Zd8 = (0, 0) := by kernel_rfl
@[go_sem] theorem Ysq : autoK [lI 192 8 0, oI 193 (.un .not (.t 192)) 0, mI 194 193 0, gI 195 (.mv (.t 6)) 0 194 false, gI 196 (.nilck (.t 195)) 0 194 false, gI 197 (.fa 2 (.t 196)) 0 194 false, gI 198 (.ld (some 4) (.t 197)) 0 194 false, gI 199 (.callw 80 [.t 198]) 0 194 false, gI 200 (.bin .lss (.t 199) (cI 0)) 0 194 false, oI 201 (.pick (.t 194) (.c (.bool true)) (.t 200)) 0, mI 202 201 0, gI 203 (.mv (.t 6)) 0 202 false, gI 204 (.nilck (.t 203)) 0 202 false, gI 205 (.fa 2 (.t 204)) 0 202 false, gI 206 (.ld (some 4) (.t 205)) 0 202 false, gI 207 (.call 49 [cI 1]) 0 202 false, gI 208 (.callw 69 [.t 206, .t 207]) 0 202 false, gI 209 (.bin .geq (.t 208) (cI 0)) 0 202 false, oI 210 (.pick (.t 202) (.c (.bool true)) (.t 209)) 0, mI 191 210 0] = (0, 0) := Z9r
def Zd2:List IOp := [oI 4 (.mv (.c .nilp)) 0,oI 5 (.mv (cI 1)) 0]
def Zni:List IOp := [mI 211 6 0,mI 4 211 0,oI 5 (.mv (cI 0)) 0]
def Ygx:CC := .seq (.rg false Zjx) (.seq (.rg false Zju) (.seq (.rg false Zjo) (.seq (.rg false Zjy) (.seq (.seq (.rg false Zoq) (.block 0 (.loop Zjt))) (.seq (.rg false Zhg) (.seq (.block 5 (.seq (.rg false Zhq) (.cond (.t 188) (.seq (.rg false Zhd) .ret) (.seq (.rg true Zd8) (.cond (.t 191) (.seq (.rg false Zd2) .ret) .skip))))) (.seq (.rg false Zni) .ret)))))))
abbrev Z01:Nat:=48
theorem Yjy:fnOk Tryz.prog 48=some (212,Ygx,[.tmp 4,.tmp 5]):=by kernel_rfl
def Z3a:List IOp := [oI 6 (.mv (cI 0)) 0]
def Z2j:List IOp := [oI 7 (.mv (cI 0)) 0]
def Z1v:List IOp := [mI 10 0 0,oI 11 (.len (.t 10)) 0,oI 12 (.mv (cI 0)) 0]
def Zqw:List IOp := [oI 13 (.bin .lss (.t 12) (.t 11)) 0]
def Z33:List IOp := [mI 14 12 0,xI 15 1 10 12 0,lI 16 15 0,mI 8 14 0,mI 9 16 0]
def Zo9:List IOp := [mI 17 1 0,mI 18 9 0,xI 19 4 17 18 0,lJ 20 4 19 0,mI 21 1 0,mI 22 0 0,mI 23 7 0,xI 24 1 22 23 0,lI 25 24 0,xI 26 4 21 25 0,lJ 27 4 26 0,oI 28 (.call 69 [.t 20,.t 27]) 0,mI 29 2 0,oI 30 (.bin .eql (.t 28) (.t 29)) 0]
@[go_sem ↓] theorem Ydg : autoK Zo9 = (0, 0) := by kernel_rfl
@[go_sem] theorem Ywc : autoK [mI 17 1 0, mI 18 9 0, xI 19 4 17 18 0, lJ 20 4 19 0, mI 21 1 0, mI 22 0 0, mI 23 7 0, xI 24 1 22 23 0, lI 25 24 0, xI 26 4 21 25 0, lJ 27 4 26 0, oI 28 (.call 69 [.t 20, .t 27]) 0, mI 29 2 0, oI 30 (.bin .eql (.t 28) (.t 29)) 0] = (0, 0) := Ydg
def Z3l:List IOp := [mI 31 8 0,mI 7 31 0]
def Zp5:List IOp := [oI 32 (.bin .add (.t 12) (cI 1)) 0,mI 12 32 0]
def Z4b:CC := .seq (.rg false Zqw) (.seq (.cond (.t 13) .skip (.exit 0)) (.seq (.block 1 (.seq (.rg false Z33) (.seq (.rg true Zo9) (.cond (.t 30) (.rg false Z3l) .skip)))) (.rg false Zp5)))
def Z1o:List IOp := [mI 33 7 0,mI 6 33 0]
def Yez:CC := .seq (.rg false Z3a) (.seq (.rg false Z2j) (.seq (.seq (.rg false Z1v) (.block 0 (.loop Z4b))) (.seq (.rg false Z1o) .ret)))
abbrev Yot:Nat:=76
theorem Yjt:fnOk Tryz.prog 76=some (34,Yez,[.tmp 6]):=by kernel_rfl
def Ztq:List IOp := [oI 2 (.box (.t 0)) 0,oI 4 (.alloc [.bool false,.nils,.bool false,.nils]) 1]
def Zlc:List IOp := [mI 5 1 0,fI 6 0 2 0,lI 7 6 0,fI 8 0 2 0,lI 9 8 0,mI 10 1 0,oI 11 (.call 76 [.t 9,.t 10,cI 1]) 0,xI 12 1 7 11 0,lI 13 12 0,xI 14 4 5 13 0,lJ 15 4 14 0,⟨none,.st 4 (.t 4) (.t 15),0,[],[],none⟩]
@[go_sem ↓] theorem Z55 : autoK Zlc = (0, 1) := by kernel_rfl
@[go_sem] theorem Ypx : autoK [mI 5 1 0, fI 6 0 2 0, lI 7 6 0, fI 8 0 2 0, lI 9 8 0, mI 10 1 0, oI 11 (.call 76 [.t 9, .t 10, cI 1]) 0, xI 12 1 7 11 0, lI 13 12 0, xI 14 4 5 13 0, lJ 15 4 14 0, ⟨none, .st 4 (.t 4) (.t 15), 0, [], [], none⟩] = (0, 1) := Z55
def Z8z:CC := .seq (.rg false Ztq) (.seq (.rg true Zlc) .ret)
abbrev Yh3:Nat:=168
theorem Yev:fnOk Tryz.prog 168=some (16,Z8z,[.cell 4 (some 4)]):=by kernel_rfl
def Zrz:List IOp := [oI 2 (.box (.t 0)) 0,oI 4 (.alloc [.bool false,.nils,.bool false,.nils]) 1]
def Zis:List IOp := [mI 5 1 0,fI 6 0 2 0,lI 7 6 0,fI 8 0 2 0,lI 9 8 0,mI 10 1 0,oI 11 (.call 76 [.t 9,.t 10,cI (-1)]) 0,xI 12 1 7 11 0,lI 13 12 0,xI 14 4 5 13 0,lJ 15 4 14 0,⟨none,.st 4 (.t 4) (.t 15),0,[],[],none⟩]
@[go_sem ↓] theorem Z5e : autoK Zis = (0, 1) := by kernel_rfl
@[go_sem] theorem Yps : autoK [mI 5 1 0, fI 6 0 2 0, lI 7 6 0, fI 8 0 2 0, lI 9 8 0, mI 10 1 0, oI 11 (.call 76 [.t 9, .t 10, cI (-1)]) 0, xI 12 1 7 11 0, lI 13 12 0, xI 14 4 5 13 0, lJ 15 4 14 0, ⟨none, .st 4 (.t 4) (.t 15), 0, [], [], none⟩] = (0, 1) := Z5e
def Z19:CC := .seq (.rg false Zrz) (.seq (.rg true Zis) .ret)
abbrev Yet:Nat:=169
theorem Ydu:fnOk Tryz.prog 169=some (16,Z19,[.cell 4 (some 4)]):=by kernel_rfl
def Zre:List IOp := [oI 2 (.box (.t 0)) 0,oI 4 (.alloc [.bool false,.nils,.bool false,.nils]) 1]
def Zq4:List IOp := [oI 8 (.call 49 [cI 0]) 0,oI 5 (.alloc [.bool false,.nils,.bool false,.nils]) 0,⟨none,.st 4 (.t 5) (.t 8),1,[],[],none⟩]
def Zq3:List IOp := [fI 9 0 2 0,lI 10 9 0,oI 11 (.len (.t 10)) 0,oI 12 (.mv (cI 0)) 0]
def Zin:List IOp := [oI 13 (.bin .lss (.t 12) (.t 11)) 0]
def Zry:List IOp := [mI 14 12 0,xI 15 1 10 12 0,lI 16 15 0,mI 6 14 0,mI 7 16 0]
def Zir:List IOp := [lJ 17 4 5 0,fI 18 1 2 0,lI 19 18 0,mI 20 6 0,xI 21 4 19 20 0,lJ 22 4 21 0,mI 23 1 0,mI 24 7 0,xI 25 4 23 24 0,lJ 26 4 25 0,oI 27 (.call 84 [.t 22,.t 26]) 0,oI 28 (.callw 82 [.t 17,.t 27]) 0,⟨none,.st 4 (.t 5) (.t 28),0,[],[],none⟩]
@[go_sem ↓] theorem Z3t : autoK Zir = (0, 1) := by kernel_rfl
@[go_sem] theorem Yo5 : autoK [lJ 17 4 5 0, fI 18 1 2 0, lI 19 18 0, mI 20 6 0, xI 21 4 19 20 0, lJ 22 4 21 0, mI 23 1 0, mI 24 7 0, xI 25 4 23 24 0, lJ 26 4 25 0, oI 27 (.call 84 [.t 22, .t 26]) 0, oI 28 (.callw 82 [.t 17, .t 27]) 0, ⟨none, .st 4 (.t 5) (.t 28), 0, [], [], none⟩] = (0, 1) := Z3t
def Zrq:List IOp := [oI 29 (.bin .add (.t 12) (cI 1)) 0,mI 12 29 0]
def Zq9:CC := .seq (.rg false Zin) (.seq (.cond (.t 13) .skip (.exit 0)) (.seq (.block 1 (.seq (.rg false Zry) (.rg true Zir))) (.rg false Zrq)))
def Zro:List IOp := [lJ 30 4 5 0,⟨none,.st 4 (.t 4) (.t 30),0,[],[],none⟩]
def Z4w:CC := .seq (.rg false Zre) (.seq (.rg false Zq4) (.seq (.seq (.rg false Zq3) (.block 0 (.loop Zq9))) (.seq (.rg false Zro) .ret)))
abbrev Yei:Nat:=170
theorem Ydk:fnOk Tryz.prog 170=some (31,Z4w,[.cell 4 (some 4)]):=by kernel_rfl
def Z38:List IOp := [oI 4 (.mv (.c .nils)) 0]
def Z2y:List IOp := [oI 5 (.mv (.c .nils)) 0]
def Z2m:List IOp := [mI 8 0 0,oI 9 (.nilck (.t 8)) 0,fI 10 0 9 0,lI 11 10 0,oI 12 (.len (.t 11)) 0,oI 13 (.mv (cI 0)) 0]
def Zpa:List IOp := [oI 14 (.bin .lss (.t 13) (.t 12)) 0]
def Z3o:List IOp := [mI 15 13 0,xI 16 1 11 13 0,lI 17 16 0,mI 6 15 0,mI 7 17 0]
def Zqv:List IOp := [mI 18 5 0,mI 19 0 0,oI 20 (.nilck (.t 19)) 0,fI 21 1 20 0,lI 22 21 0,mI 23 6 0,xI 24 4 22 23 0,lJ 25 4 24 0,mI 26 0 0,oI 27 (.nilck (.t 26)) 0,fI 28 2 27 0,lJ 29 4 28 0,mI 30 7 0,mI 31 1 0,oI 32 (.inv [(129,168),(131,169),(140,170)] (.t 30) [.t 31]) 0,oI 33 (.call 84 [.t 29,.t 32]) 0,oI 34 (.call 82 [.t 25,.t 33]) 0,oI 35 (.bsl (some 4) 1 [.bool false,.nils,.bool false,.nils] [(0,.t 34)]) 0,⟨some 36,.app (some 4) 64 (.t 18) (.t 35),1,[0],[],none⟩,⟨some 5,.mv (.t 36),2,[0,1],[],none⟩]
@[go_sem ↓] theorem Yd1 : autoK Zqv = (2, 1) := by kernel_rfl
@[go_sem] theorem Ywf : autoK [mI 18 5 0, mI 19 0 0, oI 20 (.nilck (.t 19)) 0, fI 21 1 20 0, lI 22 21 0, mI 23 6 0, xI 24 4 22 23 0, lJ 25 4 24 0, mI 26 0 0, oI 27 (.nilck (.t 26)) 0, fI 28 2 27 0, lJ 29 4 28 0, mI 30 7 0, mI 31 1 0, oI 32 (.inv [(129, 168), (131, 169), (140, 170)] (.t 30) [.t 31]) 0, oI 33 (.call 84 [.t 29, .t 32]) 0, oI 34 (.call 82 [.t 25, .t 33]) 0, oI 35 (.bsl (some 4) 1 [.bool false, .nils, .bool false, .nils] [(0, .t 34)]) 0, ⟨some 36, .app (some 4) 64 (.t 18) (.t 35), 1, [0], [], none⟩, ⟨some 5, .mv (.t 36), 2, [0, 1], [], none⟩] = (2, 1) := Yd1
def Z10:List IOp := [oI 37 (.bin .add (.t 13) (cI 1)) 0,mI 13 37 0]
def Z3m:CC := .seq (.rg false Zpa) (.seq (.cond (.t 14) .skip (.exit 0)) (.seq (.block 1 (.seq (.rg false Z3o) (.rg true Zqv))) (.rg false Z10)))
def Z3h:List IOp := [mI 38 5 0,mI 4 38 0]
def Yfs:CC := .seq (.rg false Z38) (.seq (.rg false Z2y) (.seq (.seq (.rg false Z2m) (.block 0 (.loop Z3m))) (.seq (.rg false Z3h) .ret)))
abbrev Ypm:Nat:=50
theorem Ymt:fnOk Tryz.prog 50=some (39,Yfs,[.tmp 4]):=by kernel_rfl
def Zf8:List IOp := [oI 6 (.mv (.c .nils)) 0,oI 7 (.mv (cI 0)) 0]
def Zgc:List IOp := [mI 13 0 0,mI 14 1 0,oI 15 (.call 48 [.t 13,.t 14]) 0,mI 12 15 0,eI 16 0 12 0,eI 17 1 12 0,mI 8 16 0,mI 9 17 0]
def Zc7:List IOp := [mI 19 9 0,oI 20 (.bin .neq (.t 19) (cI 0)) 0,mI 18 20 0]
def Zuf:List IOp := [mI 21 9 0,oI 6 (.mv (.c .nils)) 0,mI 7 21 0]
def Zf1:List IOp := [mI 23 2 0,oI 24 (.bin .lss (.t 23) (cI 0)) 0,mI 25 24 0,gI 26 (.mv (.t 2)) 0 25 false,gI 27 (.bin .gtr (.t 26) (cI 30)) 0 25 false,oI 28 (.pick (.t 25) (.c (.bool true)) (.t 27)) 0,mI 22 28 0]
def Zll:List IOp := [oI 6 (.mv (.c .nils)) 0,oI 7 (.mv (cI 1)) 0]
def Ztu:List IOp := [mI 29 0 0,oI 30 (.len (.t 29)) 0,oI 31 (.mks (some 4) 64 [.bool false,.nils,.bool false,.nils] (.t 30) (.t 30)) 0,mI 10 31 1]
def Zue:List IOp := [mI 32 10 0,oI 33 (.len (.t 32)) 0,oI 34 (.mv (cI 0)) 0]
def Zk1:List IOp := [oI 35 (.bin .lss (.t 34) (.t 33)) 0]
def Zq8:List IOp := [mI 36 34 0,mI 11 36 0]
def Zrw:List IOp := [mI 37 10 0,mI 38 11 0,oI 39 (.call 49 [cI 0]) 0,xI 40 4 37 38 0,⟨none,.st 4 (.t 40) (.t 39),0,[],[],none⟩]
def Zrv:List IOp := [oI 41 (.bin .add (.t 34) (cI 1)) 0,mI 34 41 0]
def Zke:CC := .seq (.rg false Zk1) (.seq (.cond (.t 35) .skip (.exit 1)) (.seq (.block 2 (.seq (.rg false Zq8) (.rg false Zrw))) (.rg false Zrv)))
def Zij:List IOp := [mI 42 2 0,oI 43 (.mv (cI 0)) 0]
def Zih:List IOp := [oI 44 (.bin .lss (.t 43) (.t 42)) 0]
def Zrx:List IOp := [mI 45 8 0,mI 46 10 0,oI 47 (.call 50 [.t 45,.t 46]) 0,mI 10 47 0]
def Zr0:List IOp := [oI 48 (.bin .add (.t 43) (cI 1)) 0,mI 43 48 0]
def Zgh:CC := .seq (.rg false Zih) (.seq (.cond (.t 44) .skip (.exit 3)) (.seq (.block 4 (.rg false Zrx)) (.rg false Zr0)))
def Zeo:List IOp := [mI 49 10 0,oI 50 (.call 51 [.t 49]) 0,eI 51 0 50 0,eI 52 1 50 0,mI 6 51 0,mI 7 52 0]
def Zlt:CC := .seq (.rg false Zf8) (.seq (.rg false Zgc) (.seq (.block 0 (.seq (.rg false Zc7) (.cond (.t 18) (.seq (.rg false Zuf) .ret) (.seq (.rg false Zf1) (.cond (.t 22) (.seq (.rg false Zll) .ret) .skip))))) (.seq (.rg false Ztu) (.seq (.seq (.rg false Zue) (.block 1 (.loop Zke))) (.seq (.seq (.rg false Zij) (.block 3 (.loop Zgh))) (.seq (.rg false Zeo) .ret))))))
abbrev Yh8:Nat:=15
theorem Zmp:fnOk Tryz.prog 15=some (53,Zlt,[.tmp 6,.tmp 7]):=by kernel_rfl
end GoAbs
namespace GoAbs
open Go
theorem Zac {x:Int}(h1 : -9223372036854775808≤x) (h2:x≤9223372036854775807):IntKind.i64.wrap x=x:=IntWalk.i64_in x ⟨h1,h2⟩
theorem Zf9 {x:Int}(h1:0≤x) (h2:x≤4294967295):IntKind.u32.wrap x=x:=IntWalk.u32_in x ⟨h1,h2⟩
theorem Za5 {x:Int}(h1:0≤x) (h2:x≤18446744073709551615):IntKind.u64.wrap x=x:=IntWalk.u64_in x ⟨h1,h2⟩
theorem Z0v (n:Nat):IntKind.u32.wrap (n:Int)=((n % 4294967296:Nat):Int):=by rw [IntKind.wrap_u32]; omega
theorem Y9r (n:Nat):IntKind.u64.wrap (n:Int)=((n % 18446744073709551616:Nat):Int):=by rw [IntKind.wrap_u64]; omega
section bits
variable {a b:Nat}
theorem and32 (ha:a<4294967296) (hb:b<4294967296):andI .u32 a b=((a &&& b:Nat):Int):=by
 show IntKind.u32.wrap ((BitVec.ofInt 32 a &&& BitVec.ofInt 32 b).toNat:Int)=_
 have h:a &&& b<2 ^ 32:=Nat.and_lt_two_pow _ (by simpa using hb)
 rw [BitVec.ofInt_natCast,BitVec.ofInt_natCast,BitVec.toNat_and,BitVec.toNat_ofNat,BitVec.toNat_ofNat,Nat.mod_eq_of_lt (by simpa using ha),Nat.mod_eq_of_lt (by simpa using hb)]
 exact Zf9 (by omega) (by omega)
theorem or32 (ha:a<4294967296) (hb:b<4294967296):orI .u32 a b=((a ||| b:Nat):Int):=by
 show IntKind.u32.wrap ((BitVec.ofInt 32 a ||| BitVec.ofInt 32 b).toNat:Int)=_
 have h:a ||| b<2 ^ 32:=Nat.or_lt_two_pow (by simpa using ha) (by simpa using hb)
 rw [BitVec.ofInt_natCast,BitVec.ofInt_natCast,BitVec.toNat_or,BitVec.toNat_ofNat,BitVec.toNat_ofNat,Nat.mod_eq_of_lt (by simpa using ha),Nat.mod_eq_of_lt (by simpa using hb)]
 exact Zf9 (by omega) (by omega)
theorem xor32 (ha:a<4294967296) (hb:b<4294967296):xorI .u32 a b=((a ^^^ b:Nat):Int):=by
 show IntKind.u32.wrap ((BitVec.ofInt 32 a ^^^ BitVec.ofInt 32 b).toNat:Int)=_
 have h:a ^^^ b<2 ^ 32:=Nat.xor_lt_two_pow (by simpa using ha) (by simpa using hb)
 rw [BitVec.ofInt_natCast,BitVec.ofInt_natCast,BitVec.toNat_xor,BitVec.toNat_ofNat,BitVec.toNat_ofNat,Nat.mod_eq_of_lt (by simpa using ha),Nat.mod_eq_of_lt (by simpa using hb)]
 exact Zf9 (by omega) (by omega)
theorem not32 (ha:a<4294967296):notI .u32 a=((4294967295 - a:Nat):Int):=by
 show IntKind.u32.wrap ((BitVec.ofInt 32 (if IntKind.u32.signed=true then -1 else IntKind.u32.max) ^^^ BitVec.ofInt 32 a).toNat:Int)=_
 have h:BitVec.ofInt 32 (if IntKind.u32.signed=true then -1 else IntKind.u32.max)=BitVec.allOnes 32:=by decide
 rw [h,BitVec.allOnes_xor,BitVec.ofInt_natCast,BitVec.toNat_not,BitVec.toNat_ofNat,Nat.mod_eq_of_lt (by simpa using ha)]
 rw [Zf9 (by omega) (by omega)]
theorem or64 (ha:a<18446744073709551616) (hb:b<18446744073709551616):orI .u64 a b=((a ||| b:Nat):Int):=by
 show IntKind.u64.wrap ((BitVec.ofInt 64 a ||| BitVec.ofInt 64 b).toNat:Int)=_
 have h:a ||| b<2 ^ 64:=Nat.or_lt_two_pow (by simpa using ha) (by simpa using hb)
 rw [BitVec.ofInt_natCast,BitVec.ofInt_natCast,BitVec.toNat_or,BitVec.toNat_ofNat,BitVec.toNat_ofNat,Nat.mod_eq_of_lt (by simpa using ha),Nat.mod_eq_of_lt (by simpa using hb)]
 exact Za5 (by omega) (by omega)
theorem and64 (ha:a<18446744073709551616) (hb:b<18446744073709551616):andI .u64 a b=((a &&& b:Nat):Int):=by
 show IntKind.u64.wrap ((BitVec.ofInt 64 a &&& BitVec.ofInt 64 b).toNat:Int)=_
 have h:a &&& b<2 ^ 64:=Nat.and_lt_two_pow _ (by simpa using hb)
 rw [BitVec.ofInt_natCast,BitVec.ofInt_natCast,BitVec.toNat_and,BitVec.toNat_ofNat,BitVec.toNat_ofNat,Nat.mod_eq_of_lt (by simpa using ha),Nat.mod_eq_of_lt (by simpa using hb)]
 exact Za5 (by omega) (by omega)
theorem Ze7 (k:IntKind) (a n:Nat) (h:n≤k.bits):shrI k a n=((a / 2 ^ n:Nat):Int):=by
 unfold shrI
 rw [Int.toNat_natCast,Nat.min_eq_left h,Int.fdiv_eq_ediv_of_nonneg _ (Int.pow_nonneg (by omega))]
 rw [Int.natCast_ediv,Int.natCast_pow]; rfl
theorem Ztl (a n:Nat) (h:n≤64):shlI .u64 a n=((a*2 ^ n % 18446744073709551616:Nat):Int):=by
 unfold shlI
 rw [Int.toNat_natCast,Nat.min_eq_left (by exact h)]
 have:(a:Int)*2 ^ n=((a*2 ^ n:Nat):Int):=by rw [Int.natCast_mul,Int.natCast_pow]; rfl
 rw [this,Y9r]
end bits
def u32c (l:List Nat):List AV:=l.map fun (x:Nat)=>AV.int .u32 (x:Int)
theorem Zhn:u32c [] = []:=rfl
theorem Yl2 {x:Nat}{l:List Nat}:u32c (x::l) = .int .u32 x::u32c l:=rfl
theorem Zae (l:List Nat):(u32c l).length=l.length:=by simp [u32c]
theorem Zal {l:List Nat}{i x:Nat}(h:l[i]? = some x):(u32c l)[i]? = some (.int .u32 x):=by simp [u32c,h]
theorem Yi5 {l:List Nat}:∀ y,y∈u32c l→y.cells.length=1:=by intro y hy; simp [u32c] at hy; obtain ⟨a,_,rfl⟩:=hy; rfl
theorem Ykj {l:List Nat}{n:Nat}:(u32c l).take n=u32c (l.take n):=by simp [u32c]
theorem Zp1 {n:Nat}:(List.replicate n [AV.int .u32 0]).flatten=u32c (List.replicate n 0):=by
 induction n with
 | zero=>rfl
 | succ n ih=>simp [List.replicate_succ,ih,u32c]
theorem Yxw {l:List Nat}:(u32c l).flatMap AV.cells=u32c l:=by
 induction l with
 | nil=>rfl
 | cons x l ih=>simp [Yl2,AV.cells,ih]
theorem Zcx {l:List Nat}{i x:Nat}:(u32c l).set i (.int .u32 x)=u32c (l.set i x):=by simp [u32c,List.map_set]
theorem Zdq {H:Heap}{ids:List Nat}{b off len:Nat}{l:List AV}{r:List Nat}(hb:H[b]? = some (.cells l)) (hi:b∈ids) (hr:r.length=len) (hl:(l.drop off).take len=u32c r) :
  BV H ids (.osl none b off len) (.sl (u32c r)):=Yw3 (α:=Nat) (f:=fun (x:Nat)=>(x:Int)) hb hi hr hl
def val:List Nat→Nat
 | []=>0
 | x::r=>x+4294967296*val r
theorem Zbw (l r:List Nat):val (l++r)=val l+4294967296 ^ l.length*val r:=by
 induction l with
 | nil=>simp [val]
 | cons x l ih =>
  simp only [List.cons_append,val,ih,List.length_cons,Nat.pow_succ]
  rw [Nat.mul_add,Nat.add_assoc,Nat.mul_comm (4294967296 ^ l.length) 4294967296,Nat.mul_assoc]
theorem Ymq (n:Nat):val (List.replicate n 0)=0:=by
 induction n with
 | zero=>rfl
 | succ n ih=>simp [List.replicate_succ,val,ih]
def Ok32 (l:List Nat):Prop:=∀ x,x∈l→x<4294967296
theorem Ok32.get {l:List Nat}(h:Ok32 l) {i x:Nat}(hx:l[i]? = some x):x<4294967296:=h x (List.mem_of_getElem? hx)
theorem Ok32.take {l:List Nat}(h:Ok32 l) {n:Nat}:Ok32 (l.take n):=fun x hx=>h x (List.mem_of_mem_take hx)
theorem Ok32.drop {l:List Nat}(h:Ok32 l) {n:Nat}:Ok32 (l.drop n):=fun x hx=>h x (List.mem_of_mem_drop hx)
theorem Ok32.append {l r:List Nat}(h:Ok32 l) (h':Ok32 r):Ok32 (l++r):=fun x hx=>(List.mem_append.1 hx).elim (h x) (h' x)
theorem Ok32.rep {n:Nat}:Ok32 (List.replicate n 0):=fun x hx=>by have:=(List.mem_replicate.1 hx).2; omega
theorem Zz2 {l:List Nat}(h:Ok32 l):val l<4294967296 ^ l.length:=by
 induction l with
 | nil=>simp [val]
 | cons x l ih =>
  have h1:=h x (by simp)
  have h2:=ih (fun y hy=>h y (by simp [hy]))
  have h3:4294967296*(val l+1)≤4294967296*4294967296 ^ l.length:=Nat.mul_le_mul_left _ h2
  simp only [val,List.length_cons,Nat.pow_succ]
  omega
def trimL (l:List Nat):List Nat:=(l.reverse.dropWhile (· == 0)).reverse
theorem Z4x:trimL [] = []:=rfl
theorem Z5x (l:List Nat) (x:Nat):trimL (l ++ [x])=if x=0 then trimL l else l ++ [x]:=by
 unfold trimL
 by_cases h:x=0 <;> simp [h,List.dropWhile_cons]
def limbs (n:Nat):List Nat:=if h:n=0 then [] else n % 4294967296::limbs (n / 4294967296)
 termination_by n
 decreasing_by omega
theorem Zap:limbs 0 = []:=by unfold limbs; simp
theorem Zcj {n:Nat}(h:n≠0):limbs n=n % 4294967296::limbs (n / 4294967296):=by rw [limbs]; simp [h]
theorem Zht {n:Nat}:limbs n = []↔n=0:=by
 by_cases h:n=0
 ·simp [h,Zap]
 ·simp [Zcj h,h]
theorem Zay (n:Nat):val (limbs n)=n:=by
 induction n using Nat.strongRecOn with
 | _ n ih =>
  by_cases h:n=0
  ·subst h; simp [Zap,val]
  ·rw [Zcj h,val,ih (n / 4294967296) (by omega)]; omega
theorem Zbt (n:Nat):Ok32 (limbs n):=by
 induction n using Nat.strongRecOn with
 | _ n ih =>
  by_cases h:n=0
  ·subst h; rw [Zap]; intro x hx; simp at hx
  ·rw [Zcj h]
   intro x hx
   rcases List.mem_cons.1 hx with rfl | hx
   ·omega
   ·exact ih (n / 4294967296) (by omega) x hx
theorem Z56 {n:Nat}(h:n≠0):∃ x,(limbs n).getLast? = some x∧x≠0:=by
 induction n using Nat.strongRecOn with
 | _ n ih =>
  rw [Zcj h]
  by_cases h2:n / 4294967296=0
  ·rw [h2,Zap]; exact ⟨n % 4294967296,rfl,by omega⟩
  ·obtain ⟨x,h3,h4⟩:=ih _ (by omega) h2
   refine ⟨x,?_,h4⟩
   rw [Zcj h2] at h3 ⊢
   rw [List.getLast?_cons_cons]; exact h3
theorem Zc3 {l:List Nat}(h:Ok32 l):limbs (val l)=trimL l:=by
 have cons:∀ (x:Nat) (l:List Nat),x<4294967296→trimL (x::l)=if trimL l = [] then (if x=0 then [] else [x]) else x::trimL l:=by
  intro x l _
  unfold trimL
  rw [List.reverse_cons,List.dropWhile_append]
  by_cases h:(l.reverse.dropWhile (· == 0)) = []
  ·simp [h,List.dropWhile_cons]; split <;> simp_all
  ·simp [h]
 induction l with
 | nil=>simp [val,Zap,Z4x]
 | cons x l ih =>
  have hx:=h x (by simp)
  have ih:=ih (fun y hy=>h y (by simp [hy]))
  rw [cons x l hx, ← ih,val]
  by_cases h0:val l=0
  ·rw [h0,Zap]
   by_cases hx0:x=0
   ·subst hx0; simp [Zap]
   ·rw [Zcj (by omega)]
    have h1:(x+4294967296*0) / 4294967296=0:=by omega
    rw [h1,Zap]
    simp [hx0]; omega
  ·rw [Zcj (by omega),if_neg (by rw [Zht]; exact h0)]
   congr 1
   ·omega
   ·congr 1; omega
end GoAbs
namespace GoAbs
open Go Go.Proofs
def Z82:List IOp := [oI 2 (.mv (.c .nils)) 0]
def Ztc:List IOp := [mI 3 0 0,oI 4 (.len (.t 3)) 0,oI 5 (.bin .gtr (.t 4) (cI 0)) 0,mI 6 5 0,gI 7 (.mv (.t 0)) 0 6 true,gI 8 (.mv (.t 0)) 0 6 true,gI 9 (.len (.t 8)) 0 6 true,gI 10 (.bin .sub (.t 9) (cI 1)) 0 6 true,gI 11 (.idx 1 (.t 7) (.t 10)) 0 6 true,gI 12 (.ld none (.t 11)) 0 6 true,gI 13 (.bin .eql (.t 12) (.c (.int .u32 0))) 0 6 true,oI 14 (.pick (.t 6) (.t 13) (.c (.bool false))) 0]
def Zvc:List IOp := [mI 15 0 0,mI 16 0 0,oI 17 (.len (.t 16)) 0,oI 18 (.bin .sub (.t 17) (cI 1)) 0,oI 19 (.slc 1 (.t 15) none (some (.t 18))) 0,mI 0 19 0]
def Zws:CC := .seq (.seq (.rg false Ztc) (.cond (.t 14) .skip (.exit 0))) (.block 1 (.rg false Zvc))
def Zwi:List IOp := [mI 20 0 0,mI 2 20 0]
def Yj9:CC := .seq (.rg false Z82) (.seq (.block 0 (.loop Zws)) (.seq (.rg false Zwi) .ret))
abbrev Yva:Nat:=117
theorem Ypv:fnOk Tryz.prog 117=some (21,Yj9,[.tmp 2]):=by kernel_rfl
def Zt0:List IOp := [oI 4 (.mv (cI 0)) 0]
def Zuu:List IOp := [mI 6 0 0,oI 7 (.len (.t 6)) 0,mI 8 1 0,oI 9 (.len (.t 8)) 0,oI 10 (.bin .neq (.t 7) (.t 9)) 0]
def Zu8:List IOp := [mI 11 0 0,oI 12 (.len (.t 11)) 0,mI 13 1 0,oI 14 (.len (.t 13)) 0,oI 15 (.bin .lss (.t 12) (.t 14)) 0]
def Zu2:List IOp := [oI 4 (.mv (cI (-1))) 0]
def Zut:List IOp := [oI 4 (.mv (cI 1)) 0]
def Zuy:List IOp := [mI 16 0 0,oI 17 (.len (.t 16)) 0,oI 18 (.bin .sub (.t 17) (cI 1)) 0,mI 5 18 0]
def Zk5:List IOp := [mI 19 5 0,oI 20 (.bin .geq (.t 19) (cI 0)) 0]
def Zla:List IOp := [mI 23 0 0,mI 24 5 0,xI 25 1 23 24 0,lI 26 25 0,mI 27 1 0,mI 28 5 0,xI 29 1 27 28 0,lI 30 29 0,oI 31 (.bin .neq (.t 26) (.t 30)) 0]
@[go_sem ↓] theorem Z5u : autoK Zla = (0, 0) := by kernel_rfl
@[go_sem] theorem Yp5 : autoK [mI 23 0 0, mI 24 5 0, xI 25 1 23 24 0, lI 26 25 0, mI 27 1 0, mI 28 5 0, xI 29 1 27 28 0, lI 30 29 0, oI 31 (.bin .neq (.t 26) (.t 30)) 0] = (0, 0) := Z5u
def Zk3:List IOp := [mI 32 0 0,mI 33 5 0,xI 34 1 32 33 0,lI 35 34 0,mI 36 1 0,mI 37 5 0,xI 38 1 36 37 0,lI 39 38 0,oI 40 (.bin .lss (.t 35) (.t 39)) 0]
@[go_sem ↓] theorem Z5g : autoK Zk3 = (0, 0) := by kernel_rfl
@[go_sem] theorem Yrq : autoK [mI 32 0 0, mI 33 5 0, xI 34 1 32 33 0, lI 35 34 0, mI 36 1 0, mI 37 5 0, xI 38 1 36 37 0, lI 39 38 0, oI 40 (.bin .lss (.t 35) (.t 39)) 0] = (0, 0) := Z5g
def Zrb:List IOp := [oI 4 (.mv (cI (-1))) 0]
def Zq6:List IOp := [oI 4 (.mv (cI 1)) 0]
def Zru:List IOp := [mI 21 5 0,oI 22 (.bin .sub (.t 21) (cI 1)) 0,mI 5 22 0]
def Zkw:CC := .seq (.seq (.rg false Zk5) (.cond (.t 20) .skip (.exit 0))) (.seq (.block 1 (.seq (.rg true Zla) (.cond (.t 31) (.seq (.seq (.rg true Zk3) (.cond (.t 40) (.seq (.rg false Zrb) .ret) .skip)) (.seq (.rg false Zq6) .ret)) .skip))) (.rg false Zru))
def Zrg:List IOp := [oI 4 (.mv (cI 0)) 0]
def Z6m:CC := .seq (.rg false Zt0) (.seq (.seq (.rg false Zuu) (.cond (.t 10) (.seq (.seq (.rg false Zu8) (.cond (.t 15) (.seq (.rg false Zu2) .ret) .skip)) (.seq (.rg false Zut) .ret)) .skip)) (.seq (.seq (.rg false Zuy) (.block 0 (.loop Zkw))) (.seq (.rg false Zrg) .ret)))
abbrev Z42:Nat:=99
theorem Yep:fnOk Tryz.prog 99=some (41,Z6m,[.tmp 4]):=by kernel_rfl
def Z63:List IOp := [oI 4 (.mv (.c .nils)) 0]
def Z8b:List IOp := [mI 9 0 0,oI 10 (.len (.t 9)) 0,mI 11 1 0,oI 12 (.len (.t 11)) 0,oI 13 (.bin .lss (.t 10) (.t 12)) 0]
def Z7o:List IOp := [mI 14 1 0,mI 15 0 0,mI 0 14 0,mI 1 15 0]
def Zu3:List IOp := [mI 16 0 0,oI 17 (.len (.t 16)) 0,oI 18 (.bin .add (.t 17) (cI 1)) 0,oI 19 (.mks none 4 [.int .u32 0] (.t 18) (.t 18)) 0,mI 5 19 1]
def Zwl:List IOp := [oI 6 (.mv (.c (.int .u32 0))) 0]
def Zt7:List IOp := [mI 20 0 0,oI 21 (.len (.t 20)) 0,oI 22 (.mv (cI 0)) 0]
def Zv4:List IOp := [oI 23 (.bin .lss (.t 22) (.t 21)) 0]
def Z8k:List IOp := [mI 24 22 0,mI 7 24 0]
def Z7v:List IOp := [oI 8 (.mv (.c (.int .u32 0))) 0]
def Z4y:List IOp := [mI 25 7 0,mI 26 1 0,oI 27 (.len (.t 26)) 0,oI 28 (.bin .lss (.t 25) (.t 27)) 0]
def Z2e:List IOp := [mI 29 1 0,mI 30 7 0,xI 31 1 29 30 0,lI 32 31 0,mI 8 32 0]
def Z1l:List IOp := [mI 34 5 0,mI 35 7 0,mI 36 0 0,mI 37 7 0,xI 38 1 36 37 0,lI 39 38 0,mI 40 8 0,mI 41 6 0,oI 42 (.call 137 [.t 39,.t 40,.t 41]) 0,mI 33 42 0,eI 43 0 33 0,eI 44 1 33 0,xI 45 1 34 35 0,⟨none,.st 1 (.t 45) (.t 43),0,[],[],none⟩,mI 6 44 0]
def Z3u:List IOp := [oI 46 (.bin .add (.t 22) (cI 1)) 0,mI 22 46 0]
def Zvj:CC := .seq (.rg false Zv4) (.seq (.cond (.t 23) .skip (.exit 0)) (.seq (.block 1 (.seq (.rg false Z8k) (.seq (.rg false Z7v) (.seq (.seq (.rg false Z4y) (.cond (.t 28) (.rg false Z2e) .skip)) (.rg false Z1l))))) (.rg false Z3u)))
def Zo3:List IOp := [mI 47 5 0,mI 48 0 0,oI 49 (.len (.t 48)) 0,mI 50 6 0,xI 51 1 47 49 0,⟨none,.st 1 (.t 51) (.t 50),0,[],[],none⟩]
def Zpe:List IOp := [mI 52 5 0,oI 53 (.call 117 [.t 52]) 0,mI 4 53 0]
def Yk4:CC := .seq (.rg false Z63) (.seq (.seq (.rg false Z8b) (.cond (.t 13) (.rg false Z7o) .skip)) (.seq (.rg false Zu3) (.seq (.rg false Zwl) (.seq (.seq (.rg false Zt7) (.block 0 (.loop Zvj))) (.seq (.rg false Zo3) (.seq (.rg false Zpe) .ret))))))
abbrev Ygl:Nat:=120
theorem Yoo:fnOk Tryz.prog 120=some (54,Yk4,[.tmp 4]):=by kernel_rfl
def Z1y:List IOp := [oI 4 (.mv (.c .nils)) 0]
def Z15:List IOp := [mI 9 0 0,oI 10 (.len (.t 9)) 0,oI 11 (.mks none 4 [.int .u32 0] (.t 10) (.t 10)) 0,mI 5 11 1]
def Z3b:List IOp := [oI 6 (.mv (.c (.int .u32 0))) 0]
def Z3p:List IOp := [mI 12 0 0,oI 13 (.len (.t 12)) 0,oI 14 (.mv (cI 0)) 0]
def Zo8:List IOp := [oI 15 (.bin .lss (.t 14) (.t 13)) 0]
def Z2f:List IOp := [mI 16 14 0,mI 7 16 0]
def Z41:List IOp := [oI 8 (.mv (.c (.int .u32 0))) 0]
def Z4c:List IOp := [mI 17 7 0,mI 18 1 0,oI 19 (.len (.t 18)) 0,oI 20 (.bin .lss (.t 17) (.t 19)) 0]
def Z26:List IOp := [mI 21 1 0,mI 22 7 0,xI 23 1 21 22 0,lI 24 23 0,mI 8 24 0]
def Zxt:List IOp := [mI 26 5 0,mI 27 7 0,mI 28 0 0,mI 29 7 0,xI 30 1 28 29 0,lI 31 30 0,mI 32 8 0,mI 33 6 0,oI 34 (.call 143 [.t 31,.t 32,.t 33]) 0,mI 25 34 0,eI 35 0 25 0,eI 36 1 25 0,xI 37 1 26 27 0,⟨none,.st 1 (.t 37) (.t 35),0,[],[],none⟩,mI 6 36 0]
def Zz3:List IOp := [oI 38 (.bin .add (.t 14) (cI 1)) 0,mI 14 38 0]
def Z1q:CC := .seq (.rg false Zo8) (.seq (.cond (.t 15) .skip (.exit 0)) (.seq (.block 1 (.seq (.rg false Z2f) (.seq (.rg false Z41) (.seq (.seq (.rg false Z4c) (.cond (.t 20) (.rg false Z26) .skip)) (.rg false Zxt))))) (.rg false Zz3)))
def Zx6:List IOp := [mI 39 5 0,oI 40 (.call 117 [.t 39]) 0,mI 4 40 0]
def Yg0:CC := .seq (.rg false Z1y) (.seq (.rg false Z15) (.seq (.rg false Z3b) (.seq (.seq (.rg false Z3p) (.block 0 (.loop Z1q))) (.seq (.rg false Zx6) .ret))))
abbrev Yb7:Nat:=133
theorem Yli:fnOk Tryz.prog 133=some (41,Yg0,[.tmp 4]):=by kernel_rfl
def Z2l:List IOp := [oI 4 (.mv (.c .nils)) 0]
def Z4s:List IOp := [mI 12 0 0,oI 13 (.len (.t 12)) 0,mI 14 1 0,oI 15 (.len (.t 14)) 0,oI 16 (.bin .add (.t 13) (.t 15)) 0,oI 17 (.mks none 4 [.int .u32 0] (.t 16) (.t 16)) 0,mI 5 17 1]
def Z34:List IOp := [mI 18 0 0,oI 19 (.len (.t 18)) 0,oI 20 (.mv (cI 0)) 0]
def Zpo:List IOp := [oI 21 (.bin .lss (.t 20) (.t 19)) 0]
def Z3r:List IOp := [mI 22 20 0,xI 23 1 18 20 0,lI 24 23 0,mI 6 22 0,mI 7 24 0]
def Z4a:List IOp := [oI 8 (.mv (.c (.int .u64 0))) 0]
def Z4m:List IOp := [mI 25 1 0,oI 26 (.len (.t 25)) 0,oI 27 (.mv (cI 0)) 0]
def Zph:List IOp := [oI 28 (.bin .lss (.t 27) (.t 26)) 0]
def Z12:List IOp := [mI 29 27 0,xI 30 1 25 27 0,lI 31 30 0,mI 9 29 0,mI 10 31 0]
def Zyx:List IOp := [mI 32 7 0,oI 33 (.cvi .u64 (.t 32)) 0,mI 34 10 0,oI 35 (.cvi .u64 (.t 34)) 0,oI 36 (.bin .mul (.t 33) (.t 35)) 0,mI 37 5 0,mI 38 6 0,mI 39 9 0,oI 40 (.bin .add (.t 38) (.t 39)) 0,xI 41 1 37 40 0,lI 42 41 0,oI 43 (.cvi .u64 (.t 42)) 0,oI 44 (.bin .add (.t 36) (.t 43)) 0,mI 45 8 0,oI 46 (.bin .add (.t 44) (.t 45)) 0,mI 11 46 0]
def Zzq:List IOp := [mI 47 5 0,mI 48 6 0,mI 49 9 0,oI 50 (.bin .add (.t 48) (.t 49)) 0,mI 51 11 0,oI 52 (.cvi .u32 (.t 51)) 0,mI 53 11 0,oI 54 (.bin .shr (.t 53) (.c (.int .u64 32))) 0,xI 55 1 47 50 0,⟨none,.st 1 (.t 55) (.t 52),0,[],[],none⟩,mI 8 54 0]
def Zx7:List IOp := [oI 56 (.bin .add (.t 27) (cI 1)) 0,mI 27 56 0]
def Zpf:CC := .seq (.rg false Zph) (.seq (.cond (.t 28) .skip (.exit 2)) (.seq (.block 3 (.seq (.rg false Z12) (.seq (.rg false Zyx) (.rg false Zzq)))) (.rg false Zx7)))
def Zza:List IOp := [mI 57 5 0,mI 58 6 0,mI 59 1 0,oI 60 (.len (.t 59)) 0,oI 61 (.bin .add (.t 58) (.t 60)) 0,mI 62 8 0,oI 63 (.cvi .u32 (.t 62)) 0,xI 64 1 57 61 0,⟨none,.st 1 (.t 64) (.t 63),0,[],[],none⟩]
def Zy2:List IOp := [oI 65 (.bin .add (.t 20) (cI 1)) 0,mI 20 65 0]
def Z1u:CC := .seq (.rg false Zpo) (.seq (.cond (.t 21) .skip (.exit 0)) (.seq (.block 1 (.seq (.rg false Z3r) (.seq (.rg false Z4a) (.seq (.seq (.rg false Z4m) (.block 2 (.loop Zpf))) (.rg false Zza))))) (.rg false Zy2)))
def Zzh:List IOp := [mI 66 5 0,oI 67 (.call 117 [.t 66]) 0,mI 4 67 0]
def Ygv:CC := .seq (.rg false Z2l) (.seq (.rg false Z4s) (.seq (.seq (.rg false Z34) (.block 0 (.loop Z1u))) (.seq (.rg false Zzh) .ret)))
abbrev Yar:Nat:=121
theorem Ym1:fnOk Tryz.prog 121=some (68,Ygv,[.tmp 4]):=by kernel_rfl
def Zxf:List IOp := [oI 4 (.mv (.c .nils)) 0,oI 5 (.mv (.c (.int .u32 0))) 0]
def Zxp:List IOp := [mI 10 0 0,oI 11 (.len (.t 10)) 0,oI 12 (.mks none 4 [.int .u32 0] (.t 11) (.t 11)) 0,mI 6 12 1]
def Zyi:List IOp := [oI 7 (.mv (.c (.int .u64 0))) 0]
def Zzw:List IOp := [mI 13 0 0,oI 14 (.len (.t 13)) 0,oI 15 (.bin .sub (.t 14) (cI 1)) 0,mI 8 15 0]
def Zm3:List IOp := [mI 16 8 0,oI 17 (.bin .geq (.t 16) (cI 0)) 0]
def Zyz:List IOp := [mI 20 7 0,oI 21 (.bin .shl (.t 20) (.c (.int .u64 32))) 0,mI 22 0 0,mI 23 8 0,xI 24 1 22 23 0,lI 25 24 0,oI 26 (.cvi .u64 (.t 25)) 0,oI 27 (.bin .or (.t 21) (.t 26)) 0,mI 9 27 0]
def Zm9:List IOp := [mI 28 6 0,mI 29 8 0,mI 30 9 0,mI 31 1 0,oI 32 (.cvi .u64 (.t 31)) 0,oI 33 (.bin .quo (.t 30) (.t 32)) 0,oI 34 (.cvi .u32 (.t 33)) 0,mI 35 9 0,mI 36 1 0,oI 37 (.cvi .u64 (.t 36)) 0,oI 38 (.bin .rem (.t 35) (.t 37)) 0,xI 39 1 28 29 0,⟨none,.st 1 (.t 39) (.t 34),0,[],[],none⟩,mI 7 38 0]
@[go_sem ↓] theorem Z9i : autoK Zm9 = (0, 1) := by kernel_rfl
@[go_sem] theorem Yu4 : autoK [mI 28 6 0, mI 29 8 0, mI 30 9 0, mI 31 1 0, oI 32 (.cvi .u64 (.t 31)) 0, oI 33 (.bin .quo (.t 30) (.t 32)) 0, oI 34 (.cvi .u32 (.t 33)) 0, mI 35 9 0, mI 36 1 0, oI 37 (.cvi .u64 (.t 36)) 0, oI 38 (.bin .rem (.t 35) (.t 37)) 0, xI 39 1 28 29 0, ⟨none, .st 1 (.t 39) (.t 34), 0, [], [], none⟩, mI 7 38 0] = (0, 1) := Z9i
def Zzn:List IOp := [mI 18 8 0,oI 19 (.bin .sub (.t 18) (cI 1)) 0,mI 8 19 0]
def Zy4:CC := .seq (.seq (.rg false Zm3) (.cond (.t 17) .skip (.exit 0))) (.seq (.block 1 (.seq (.rg false Zyz) (.rg true Zm9))) (.rg false Zzn))
def Zxq:List IOp := [mI 40 6 0,oI 41 (.call 117 [.t 40]) 0,mI 42 7 0,oI 43 (.cvi .u32 (.t 42)) 0,mI 4 41 0,mI 5 43 0]
def Ydc:CC := .seq (.rg false Zxf) (.seq (.rg false Zxp) (.seq (.rg false Zyi) (.seq (.seq (.rg false Zzw) (.block 0 (.loop Zy4))) (.seq (.rg false Zxq) .ret))))
abbrev Ymo:Nat:=131
theorem Yja:fnOk Tryz.prog 131=some (44,Ydc,[.tmp 4,.tmp 5]):=by kernel_rfl
def Yg2:List IOp := [oI 4 (.mv (.c .nils)) 0]
def Yg1:List IOp := [mI 9 0 0,oI 10 (.len (.t 9)) 0,oI 11 (.bin .add (.t 10) (cI 1)) 0,oI 12 (.mks none 4 [.int .u32 0] (.t 11) (.t 11)) 0,mI 5 12 1]
def Yf2:List IOp := [mI 13 0 0,oI 14 (.len (.t 13)) 0,oI 15 (.mv (cI 0)) 0]
def Z5l:List IOp := [oI 16 (.bin .lss (.t 15) (.t 14)) 0]
def Yfv:List IOp := [mI 17 15 0,xI 18 1 13 15 0,lI 19 18 0,mI 6 17 0,mI 7 19 0]
def Ye6:List IOp := [mI 20 7 0,oI 21 (.cvi .u64 (.t 20)) 0,mI 22 1 0,oI 23 (.bin .shl (.t 21) (.t 22)) 0,mI 8 23 0]
def Yfh:List IOp := [mI 24 5 0,mI 25 6 0,xI 26 1 24 25 0,lI 27 26 0,mI 28 8 0,oI 29 (.cvi .u32 (.t 28)) 0,oI 30 (.bin .or (.t 27) (.t 29)) 0,xI 31 1 24 25 0,⟨none,.st 1 (.t 31) (.t 30),0,[],[],none⟩]
def Yf3:List IOp := [mI 32 5 0,mI 33 6 0,oI 34 (.bin .add (.t 33) (cI 1)) 0,mI 35 8 0,oI 36 (.bin .shr (.t 35) (.c (.int .u64 32))) 0,oI 37 (.cvi .u32 (.t 36)) 0,xI 38 1 32 34 0,⟨none,.st 1 (.t 38) (.t 37),0,[],[],none⟩]
def Yfu:List IOp := [oI 39 (.bin .add (.t 15) (cI 1)) 0,mI 15 39 0]
def Ygo:CC := .seq (.rg false Z5l) (.seq (.cond (.t 16) .skip (.exit 0)) (.seq (.block 1 (.seq (.rg false Yfv) (.seq (.rg false Ye6) (.seq (.rg false Yfh) (.rg false Yf3))))) (.rg false Yfu)))
def Ycf:List IOp := [mI 40 5 0,mI 4 40 0]
def Yo8:CC := .seq (.rg false Yg2) (.seq (.rg false Yg1) (.seq (.seq (.rg false Yf2) (.block 0 (.loop Ygo))) (.seq (.rg false Ycf) .ret)))
abbrev Yp2:Nat:=139
theorem Yld:fnOk Tryz.prog 139=some (41,Yo8,[.tmp 4]):=by kernel_rfl
def Z6r:List IOp := [oI 4 (.mv (.c .nils)) 0]
def Z7e:List IOp := [mI 8 0 0,oI 9 (.len (.t 8)) 0,oI 10 (.mks none 4 [.int .u32 0] (.t 9) (.t 9)) 0,mI 5 10 1]
def Z8w:List IOp := [mI 11 0 0,oI 12 (.len (.t 11)) 0,oI 13 (.mv (cI 0)) 0]
def Zu9:List IOp := [oI 14 (.bin .lss (.t 13) (.t 12)) 0]
def Z75:List IOp := [mI 15 13 0,mI 6 15 0]
def Z68:List IOp := [mI 16 0 0,mI 17 6 0,xI 18 1 16 17 0,lI 19 18 0,oI 20 (.cvi .u64 (.t 19)) 0,mI 7 20 0]
def Z8y:List IOp := [mI 21 6 0,oI 22 (.bin .add (.t 21) (cI 1)) 0,mI 23 0 0,oI 24 (.len (.t 23)) 0,oI 25 (.bin .lss (.t 22) (.t 24)) 0]
def Z86:List IOp := [mI 26 7 0,mI 27 0 0,mI 28 6 0,oI 29 (.bin .add (.t 28) (cI 1)) 0,xI 30 1 27 29 0,lI 31 30 0,oI 32 (.cvi .u64 (.t 31)) 0,oI 33 (.bin .shl (.t 32) (.c (.int .u64 32))) 0,oI 34 (.bin .or (.t 26) (.t 33)) 0,mI 7 34 0]
def Z60:List IOp := [mI 35 5 0,mI 36 6 0,mI 37 7 0,mI 38 1 0,oI 39 (.bin .shr (.t 37) (.t 38)) 0,oI 40 (.cvi .u32 (.t 39)) 0,xI 41 1 35 36 0,⟨none,.st 1 (.t 41) (.t 40),0,[],[],none⟩]
def Z5d:List IOp := [oI 42 (.bin .add (.t 13) (cI 1)) 0,mI 13 42 0]
def Z6u:CC := .seq (.rg false Zu9) (.seq (.cond (.t 14) .skip (.exit 0)) (.seq (.block 1 (.seq (.rg false Z75) (.seq (.rg false Z68) (.seq (.seq (.rg false Z8y) (.cond (.t 25) (.rg false Z86) .skip)) (.rg false Z60))))) (.rg false Z5d)))
def Z11:List IOp := [mI 43 5 0,oI 44 (.call 117 [.t 43]) 0,mI 4 44 0]
def Yll:CC := .seq (.rg false Z6r) (.seq (.rg false Z7e) (.seq (.seq (.rg false Z8w) (.block 0 (.loop Z6u))) (.seq (.rg false Z11) .ret)))
abbrev Yss:Nat:=141
theorem Yn8:fnOk Tryz.prog 141=some (45,Yll,[.tmp 4]):=by kernel_rfl
def Zy1:List IOp := [oI 6 (.mv (.c (.int .u32 0))) 0,oI 7 (.mv (.c (.int .u32 0))) 0]
def Zxe:List IOp := [mI 9 0 0,oI 10 (.cvi .u64 (.t 9)) 0,mI 11 1 0,oI 12 (.cvi .u64 (.t 11)) 0,oI 13 (.bin .add (.t 10) (.t 12)) 0,mI 14 2 0,oI 15 (.cvi .u64 (.t 14)) 0,oI 16 (.bin .add (.t 13) (.t 15)) 0,mI 8 16 0]
def Zzl:List IOp := [mI 17 8 0,oI 18 (.cvi .u32 (.t 17)) 0,mI 6 18 0]
def Zy6:List IOp := [mI 19 8 0,oI 20 (.bin .shr (.t 19) (.c (.int .u64 32))) 0,oI 21 (.cvi .u32 (.t 20)) 0,mI 7 21 0]
def Ya8:CC := .seq (.rg false Zy1) (.seq (.rg false Zxe) (.seq (.rg false Zzl) (.seq (.rg false Zy6) .ret)))
abbrev Z8s:Nat:=137
theorem Yid:fnOk Tryz.prog 137=some (22,Ya8,[.tmp 6,.tmp 7]):=by kernel_rfl
def Zxg:List IOp := [oI 6 (.mv (.c (.int .u32 0))) 0,oI 7 (.mv (.c (.int .u32 0))) 0]
def Zxm:List IOp := [mI 8 0 0,mI 9 1 0,oI 10 (.bin .sub (.t 8) (.t 9)) 0,mI 11 2 0,oI 12 (.bin .sub (.t 10) (.t 11)) 0,mI 6 12 0]
def Zyt:List IOp := [mI 13 0 0,oI 14 (.un .xor (.t 13)) 0,mI 15 1 0,oI 16 (.bin .and (.t 14) (.t 15)) 0,mI 17 0 0,mI 18 1 0,oI 19 (.bin .xor (.t 17) (.t 18)) 0,oI 20 (.un .xor (.t 19)) 0,mI 21 6 0,oI 22 (.bin .and (.t 20) (.t 21)) 0,oI 23 (.bin .or (.t 16) (.t 22)) 0,oI 24 (.bin .shr (.t 23) (.c (.int .u64 31))) 0,mI 7 24 0]
def Yck:CC := .seq (.rg false Zxg) (.seq (.rg false Zxm) (.seq (.rg false Zyt) .ret))
abbrev Z9a:Nat:=143
theorem Yic:fnOk Tryz.prog 143=some (25,Yck,[.tmp 6,.tmp 7]):=by kernel_rfl
def Zgl:List IOp := [oI 2 (.mv (cI 0)) 0]
def Zgm:List IOp := [mI 3 0 0,oI 4 (.call 148 [.t 3]) 0,oI 5 (.bin .sub (cI 32) (.t 4)) 0,mI 2 5 0]
def Zjf:CC := .seq (.rg false Zgl) (.seq (.rg false Zgm) .ret)
abbrev Zuq:Nat:=138
theorem Zr4:fnOk Tryz.prog 138=some (6,Zjf,[.tmp 2]):=by kernel_rfl
def Zd9:List IOp := [oI 2 (.mv (cI 0)) 0]
def Zdv:List IOp := [mI 3 0 0,oI 4 (.bin .geq (.t 3) (.c (.int .u32 65536))) 0]
def Zeg:List IOp := [mI 5 0 0,oI 6 (.bin .shr (.t 5) (.c (.int .u64 16))) 0,mI 0 6 0]
def Zd1:List IOp := [oI 2 (.mv (cI 16)) 0]
def Zeb:List IOp := [mI 7 0 0,oI 8 (.bin .geq (.t 7) (.c (.int .u32 256))) 0]
def Zel:List IOp := [mI 9 0 0,oI 10 (.bin .shr (.t 9) (.c (.int .u64 8))) 0,mI 0 10 0]
def Zdx:List IOp := [mI 11 2 0,oI 12 (.bin .add (.t 11) (cI 8)) 0,mI 2 12 0]
def Zct:List IOp := [mI 13 2 0,mI 14 0 0,oI 15 (.cvi .u8 (.t 14)) 0,oI 16 (.sidx (.c (.str ⟨#[0,1,2,2,3,3,3,3,4,4,4,4,4,4,4,4,5,5,5,5,5,5,5,5,5,5,5,5,5,5,5,5,6,6,6,6,6,6,6,6,6,6,6,6,6,6,6,6,6,6,6,6,6,6,6,6,6,6,6,6,6,6,6,6,7,7,7,7,7,7,7,7,7,7,7,7,7,7,7,7,7,7,7,7,7,7,7,7,7,7,7,7,7,7,7,7,7,7,7,7,7,7,7,7,7,7,7,7,7,7,7,7,7,7,7,7,7,7,7,7,7,7,7,7,7,7,7,7,8,8,8,8,8,8,8,8,8,8,8,8,8,8,8,8,8,8,8,8,8,8,8,8,8,8,8,8,8,8,8,8,8,8,8,8,8,8,8,8,8,8,8,8,8,8,8,8,8,8,8,8,8,8,8,8,8,8,8,8,8,8,8,8,8,8,8,8,8,8,8,8,8,8,8,8,8,8,8,8,8,8,8,8,8,8,8,8,8,8,8,8,8,8,8,8,8,8,8,8,8,8,8,8,8,8,8,8,8,8,8,8,8,8,8,8,8,8,8,8,8,8,8,8,8,8,8,8]⟩)) (.t 15)) 0,oI 17 (.cvi .i64 (.t 16)) 0,oI 18 (.bin .add (.t 13) (.t 17)) 0,mI 2 18 0]
def Ycc:CC := .seq (.rg false Zd9) (.seq (.seq (.rg false Zdv) (.cond (.t 4) (.seq (.rg false Zeg) (.rg false Zd1)) .skip)) (.seq (.seq (.rg false Zeb) (.cond (.t 8) (.seq (.rg false Zel) (.rg false Zdx)) .skip)) (.seq (.rg false Zct) .ret)))
abbrev Ykn:Nat:=148
theorem Yh2:fnOk Tryz.prog 148=some (19,Ycc,[.tmp 2]):=by kernel_rfl
def Z48:List IOp := [oI 4 (.mv (.c (.int .u32 0))) 0]
def Z1r:List IOp := [mI 15 1 0,oI 16 (.len (.t 15)) 0,mI 5 16 0]
def Zpv:List IOp := [mI 17 0 0,mI 18 5 0,xI 19 1 17 18 0,lI 20 19 0,oI 21 (.cvi .u64 (.t 20)) 0,oI 22 (.bin .shl (.t 21) (.c (.int .u64 32))) 0,mI 23 0 0,mI 24 5 0,oI 25 (.bin .sub (.t 24) (cI 1)) 0,xI 26 1 23 25 0,lI 27 26 0,oI 28 (.cvi .u64 (.t 27)) 0,oI 29 (.bin .or (.t 22) (.t 28)) 0,mI 6 29 0]
@[go_sem ↓] theorem Ydm : autoK Zpv = (0, 0) := by kernel_rfl
@[go_sem] theorem Ywe : autoK [mI 17 0 0, mI 18 5 0, xI 19 1 17 18 0, lI 20 19 0, oI 21 (.cvi .u64 (.t 20)) 0, oI 22 (.bin .shl (.t 21) (.c (.int .u64 32))) 0, mI 23 0 0, mI 24 5 0, oI 25 (.bin .sub (.t 24) (cI 1)) 0, xI 26 1 23 25 0, lI 27 26 0, oI 28 (.cvi .u64 (.t 27)) 0, oI 29 (.bin .or (.t 22) (.t 28)) 0, mI 6 29 0] = (0, 0) := Ydm
def Zpk:List IOp := [mI 30 6 0,mI 31 1 0,mI 32 5 0,oI 33 (.bin .sub (.t 32) (cI 1)) 0,xI 34 1 31 33 0,lI 35 34 0,oI 36 (.cvi .u64 (.t 35)) 0,oI 37 (.bin .quo (.t 30) (.t 36)) 0,mI 38 6 0,mI 39 1 0,mI 40 5 0,oI 41 (.bin .sub (.t 40) (cI 1)) 0,xI 42 1 39 41 0,lI 43 42 0,oI 44 (.cvi .u64 (.t 43)) 0,oI 45 (.bin .rem (.t 38) (.t 44)) 0,mI 7 37 0,mI 8 45 0]
@[go_sem ↓] theorem Yao : autoK Zpk = (0, 0) := by kernel_rfl
@[go_sem] theorem Ywa : autoK [mI 30 6 0, mI 31 1 0, mI 32 5 0, oI 33 (.bin .sub (.t 32) (cI 1)) 0, xI 34 1 31 33 0, lI 35 34 0, oI 36 (.cvi .u64 (.t 35)) 0, oI 37 (.bin .quo (.t 30) (.t 36)) 0, mI 38 6 0, mI 39 1 0, mI 40 5 0, oI 41 (.bin .sub (.t 40) (cI 1)) 0, xI 42 1 39 41 0, lI 43 42 0, oI 44 (.cvi .u64 (.t 43)) 0, oI 45 (.bin .rem (.t 38) (.t 44)) 0, mI 7 37 0, mI 8 45 0] = (0, 0) := Yao
def Zf0:List IOp := [mI 46 7 0,oI 47 (.bin .shr (.t 46) (.c (.int .u64 32))) 0,oI 48 (.bin .gtr (.t 47) (.c (.int .u64 0))) 0,mI 49 48 0,gI 50 (.mv (.t 7)) 0 49 false,gI 51 (.mv (.t 1)) 0 49 false,gI 52 (.mv (.t 5)) 0 49 false,gI 53 (.bin .sub (.t 52) (cI 2)) 0 49 false,gI 54 (.idx 1 (.t 51) (.t 53)) 0 49 false,gI 55 (.ld none (.t 54)) 0 49 false,gI 56 (.cvi .u64 (.t 55)) 0 49 false,gI 57 (.bin .mul (.t 50) (.t 56)) 0 49 false,gI 58 (.mv (.t 8)) 0 49 false,gI 59 (.bin .shl (.t 58) (.c (.int .u64 32))) 0 49 false,gI 60 (.mv (.t 0)) 0 49 false,gI 61 (.mv (.t 5)) 0 49 false,gI 62 (.bin .sub (.t 61) (cI 2)) 0 49 false,gI 63 (.idx 1 (.t 60) (.t 62)) 0 49 false,gI 64 (.ld none (.t 63)) 0 49 false,gI 65 (.cvi .u64 (.t 64)) 0 49 false,gI 66 (.bin .or (.t 59) (.t 65)) 0 49 false,gI 67 (.bin .gtr (.t 57) (.t 66)) 0 49 false,oI 68 (.pick (.t 49) (.c (.bool true)) (.t 67)) 0]
@[go_sem ↓] theorem Yct : autoK Zf0 = (0, 0) := by kernel_rfl
@[go_sem] theorem Yv9 : autoK [mI 46 7 0, oI 47 (.bin .shr (.t 46) (.c (.int .u64 32))) 0, oI 48 (.bin .gtr (.t 47) (.c (.int .u64 0))) 0, mI 49 48 0, gI 50 (.mv (.t 7)) 0 49 false, gI 51 (.mv (.t 1)) 0 49 false, gI 52 (.mv (.t 5)) 0 49 false, gI 53 (.bin .sub (.t 52) (cI 2)) 0 49 false, gI 54 (.idx 1 (.t 51) (.t 53)) 0 49 false, gI 55 (.ld none (.t 54)) 0 49 false, gI 56 (.cvi .u64 (.t 55)) 0 49 false, gI 57 (.bin .mul (.t 50) (.t 56)) 0 49 false, gI 58 (.mv (.t 8)) 0 49 false, gI 59 (.bin .shl (.t 58) (.c (.int .u64 32))) 0 49 false, gI 60 (.mv (.t 0)) 0 49 false, gI 61 (.mv (.t 5)) 0 49 false, gI 62 (.bin .sub (.t 61) (cI 2)) 0 49 false, gI 63 (.idx 1 (.t 60) (.t 62)) 0 49 false, gI 64 (.ld none (.t 63)) 0 49 false, gI 65 (.cvi .u64 (.t 64)) 0 49 false, gI 66 (.bin .or (.t 59) (.t 65)) 0 49 false, gI 67 (.bin .gtr (.t 57) (.t 66)) 0 49 false, oI 68 (.pick (.t 49) (.c (.bool true)) (.t 67)) 0] = (0, 0) := Yct
def Zoj:List IOp := [mI 69 7 0,oI 70 (.bin .sub (.t 69) (.c (.int .u64 1))) 0,mI 7 70 0]
def Zod:List IOp := [mI 71 8 0,mI 72 1 0,mI 73 5 0,oI 74 (.bin .sub (.t 73) (cI 1)) 0,xI 75 1 72 74 0,lI 76 75 0,oI 77 (.cvi .u64 (.t 76)) 0,oI 78 (.bin .add (.t 71) (.t 77)) 0,mI 8 78 0]
def Zov:List IOp := [mI 79 8 0,oI 80 (.bin .shr (.t 79) (.c (.int .u64 32))) 0,oI 81 (.bin .gtr (.t 80) (.c (.int .u64 0))) 0]
def Zqo:CC := .seq (.seq (.rg true Zf0) (.cond (.t 68) .skip (.exit 0))) (.block 1 (.seq (.rg false Zoj) (.seq (.rg false Zod) (.seq (.rg false Zov) (.cond (.t 81) (.exit 0) .skip)))))
def Z3x:List IOp := [oI 9 (.mv (.c (.int .u64 0))) 0,oI 10 (.mv (.c (.int .u32 0))) 0]
def Zyn:List IOp := [mI 82 1 0,oI 83 (.len (.t 82)) 0,oI 84 (.mv (cI 0)) 0]
def Zm6:List IOp := [oI 85 (.bin .lss (.t 84) (.t 83)) 0]
def Zy7:List IOp := [mI 86 84 0,mI 11 86 0]
def Zyd:List IOp := [mI 87 7 0,mI 88 1 0,mI 89 11 0,xI 90 1 88 89 0,lI 91 90 0,oI 92 (.cvi .u64 (.t 91)) 0,oI 93 (.bin .mul (.t 87) (.t 92)) 0,mI 94 9 0,oI 95 (.bin .add (.t 93) (.t 94)) 0,mI 12 95 0]
def Zzo:List IOp := [mI 96 12 0,oI 97 (.bin .shr (.t 96) (.c (.int .u64 32))) 0,mI 9 97 0]
def Zzx:List IOp := [mI 99 0 0,mI 100 11 0,mI 101 0 0,mI 102 11 0,xI 103 1 101 102 0,lI 104 103 0,mI 105 12 0,oI 106 (.cvi .u32 (.t 105)) 0,mI 107 10 0,oI 108 (.call 143 [.t 104,.t 106,.t 107]) 0,mI 98 108 0,eI 109 0 98 0,eI 110 1 98 0,xI 111 1 99 100 0,⟨none,.st 1 (.t 111) (.t 109),0,[],[],none⟩,mI 10 110 0]
def Zxz:List IOp := [oI 112 (.bin .add (.t 84) (cI 1)) 0,mI 84 112 0]
def Zqs:CC := .seq (.rg false Zm6) (.seq (.cond (.t 85) .skip (.exit 2)) (.seq (.block 3 (.seq (.rg false Zy7) (.seq (.rg false Zyd) (.seq (.rg false Zzo) (.rg false Zzx))))) (.rg false Zxz)))
def Zys:List IOp := [mI 114 0 0,mI 115 5 0,mI 116 0 0,mI 117 5 0,xI 118 1 116 117 0,lI 119 118 0,mI 120 9 0,oI 121 (.cvi .u32 (.t 120)) 0,mI 122 10 0,oI 123 (.call 143 [.t 119,.t 121,.t 122]) 0,mI 113 123 0,eI 124 0 113 0,eI 125 1 113 0,xI 126 1 114 115 0,⟨none,.st 1 (.t 126) (.t 124),0,[],[],none⟩,mI 10 125 0]
def Zxw:List IOp := [mI 127 10 0,oI 128 (.bin .gtr (.t 127) (.c (.int .u32 0))) 0]
def Zxb:List IOp := [mI 129 7 0,oI 130 (.bin .sub (.t 129) (.c (.int .u64 1))) 0,mI 7 130 0]
def Zzr:List IOp := [oI 13 (.mv (.c (.int .u32 0))) 0]
def Zyu:List IOp := [mI 131 1 0,oI 132 (.len (.t 131)) 0,oI 133 (.mv (cI 0)) 0]
def Zna:List IOp := [oI 134 (.bin .lss (.t 133) (.t 132)) 0]
def Zxh:List IOp := [mI 135 133 0,mI 14 135 0]
def Zmb:List IOp := [mI 137 0 0,mI 138 14 0,mI 139 0 0,mI 140 14 0,xI 141 1 139 140 0,lI 142 141 0,mI 143 1 0,mI 144 14 0,xI 145 1 143 144 0,lI 146 145 0,mI 147 13 0,oI 148 (.call 137 [.t 142,.t 146,.t 147]) 0,mI 136 148 0,eI 149 0 136 0,eI 150 1 136 0,xI 151 1 137 138 0,⟨none,.st 1 (.t 151) (.t 149),0,[],[],none⟩,mI 13 150 0]
@[go_sem ↓] theorem Z9m : autoK Zmb = (0, 1) := by kernel_rfl
@[go_sem] theorem Ys5 : autoK [mI 137 0 0, mI 138 14 0, mI 139 0 0, mI 140 14 0, xI 141 1 139 140 0, lI 142 141 0, mI 143 1 0, mI 144 14 0, xI 145 1 143 144 0, lI 146 145 0, mI 147 13 0, oI 148 (.call 137 [.t 142, .t 146, .t 147]) 0, mI 136 148 0, eI 149 0 136 0, eI 150 1 136 0, xI 151 1 137 138 0, ⟨none, .st 1 (.t 151) (.t 149), 0, [], [], none⟩, mI 13 150 0] = (0, 1) := Z9m
def Zy3:List IOp := [oI 152 (.bin .add (.t 133) (cI 1)) 0,mI 133 152 0]
def Zqe:CC := .seq (.rg false Zna) (.seq (.cond (.t 134) .skip (.exit 4)) (.seq (.block 5 (.seq (.rg false Zxh) (.rg true Zmb))) (.rg false Zy3)))
def Zw9:List IOp := [mI 153 0 0,mI 154 5 0,xI 155 1 153 154 0,lI 156 155 0,mI 157 13 0,oI 158 (.bin .add (.t 156) (.t 157)) 0,xI 159 1 153 154 0,⟨none,.st 1 (.t 159) (.t 158),0,[],[],none⟩]
def Zl7:List IOp := [mI 160 7 0,oI 161 (.cvi .u32 (.t 160)) 0,mI 4 161 0]
def Yfz:CC := .seq (.rg false Z48) (.seq (.rg false Z1r) (.seq (.rg true Zpv) (.seq (.rg true Zpk) (.seq (.block 0 (.loop Zqo)) (.seq (.rg false Z3x) (.seq (.seq (.rg false Zyn) (.block 2 (.loop Zqs))) (.seq (.rg false Zys) (.seq (.seq (.rg false Zxw) (.cond (.t 128) (.seq (.rg false Zxb) (.seq (.rg false Zzr) (.seq (.seq (.rg false Zyu) (.block 4 (.loop Zqe))) (.rg false Zw9)))) .skip)) (.seq (.rg false Zl7) .ret)))))))))
abbrev Yn4:Nat:=140
theorem Yl9:fnOk Tryz.prog 140=some (162,Yfz,[.tmp 4]):=by kernel_rfl
def Z8v:List IOp := [oI 4 (.mv (.c .nils)) 0,oI 5 (.mv (.c .nils)) 0]
def Z8g:List IOp := [mI 14 0 0,mI 15 1 0,oI 16 (.call 99 [.t 14,.t 15]) 0,oI 17 (.bin .lss (.t 16) (cI 0)) 0]
def Z71:List IOp := [mI 18 0 0,oI 19 (.app none 4 (.c .nils) (.t 18)) 0,oI 4 (.mv (.c .nils)) 1,mI 5 19 1]
def Z6q:List IOp := [mI 20 1 0,oI 21 (.len (.t 20)) 0,oI 22 (.bin .eql (.t 21) (cI 1)) 0]
def Z7h:List IOp := [mI 24 0 0,mI 25 1 0,oI 26 (.idx 1 (.t 25) (cI 0)) 0,lI 27 26 0,oI 28 (.call 131 [.t 24,.t 27]) 0,mI 23 28 0,eI 29 0 23 0,eI 30 1 23 0,mI 6 29 0,mI 7 30 0]
def Z6x:List IOp := [mI 31 6 0,mI 32 7 0,oI 33 (.bsl none 1 [.int .u32 0] [(0,.t 32)]) 0,oI 34 (.call 117 [.t 33]) 1,mI 4 31 1,mI 5 34 1]
def Z8a:List IOp := [mI 35 1 0,mI 36 1 0,oI 37 (.len (.t 36)) 0,oI 38 (.bin .sub (.t 37) (cI 1)) 0,xI 39 1 35 38 0,lI 40 39 0,oI 41 (.call 138 [.t 40]) 0,mI 8 41 0]
def Z78:List IOp := [mI 42 1 0,mI 43 8 0,oI 44 (.call 139 [.t 42,.t 43]) 0,oI 45 (.call 117 [.t 44]) 0,mI 46 0 0,mI 47 8 0,oI 48 (.call 139 [.t 46,.t 47]) 0,mI 9 45 0,mI 10 48 0]
def Z64:List IOp := [mI 49 9 0,oI 50 (.len (.t 49)) 0,mI 11 50 0]
def Z2s:List IOp := [mI 51 0 0,oI 52 (.len (.t 51)) 0,mI 53 11 0,oI 54 (.bin .sub (.t 52) (.t 53)) 0,oI 55 (.bin .add (.t 54) (cI 1)) 0,oI 56 (.mks none 4 [.int .u32 0] (.t 55) (.t 55)) 0,mI 12 56 1]
def Z1x:List IOp := [mI 57 0 0,oI 58 (.len (.t 57)) 0,mI 59 11 0,oI 60 (.bin .sub (.t 58) (.t 59)) 0,mI 13 60 0]
def Zo5:List IOp := [mI 61 13 0,oI 62 (.bin .geq (.t 61) (cI 0)) 0]
def Z21:List IOp := [mI 65 12 0,mI 66 13 0,mI 67 10 0,mI 68 13 0,mI 69 13 0,mI 70 11 0,oI 71 (.bin .add (.t 69) (.t 70)) 0,oI 72 (.bin .add (.t 71) (cI 1)) 0,oI 73 (.slc 1 (.t 67) (some (.t 68)) (some (.t 72))) 0,mI 74 9 0,oI 75 (.call 140 [.t 73,.t 74]) 0,xI 76 1 65 66 0,⟨none,.st 1 (.t 76) (.t 75),0,[],[],none⟩]
def Z43:List IOp := [mI 63 13 0,oI 64 (.bin .sub (.t 63) (cI 1)) 0,mI 13 64 0]
def Ztg:CC := .seq (.seq (.rg false Zo5) (.cond (.t 62) .skip (.exit 0))) (.seq (.block 1 (.rg false Z21)) (.rg false Z43))
def Zom:List IOp := [mI 77 12 0,oI 78 (.call 117 [.t 77]) 0,mI 79 10 0,mI 80 11 0,oI 81 (.slc 1 (.t 79) none (some (.t 80))) 0,oI 82 (.call 117 [.t 81]) 0,mI 83 8 0,oI 84 (.callw 141 [.t 82,.t 83]) 0,mI 4 78 0,mI 5 84 0]
@[go_sem ↓] theorem Yax : autoK Zom = (0, 0) := by kernel_rfl
@[go_sem] theorem Ywd : autoK [mI 77 12 0, oI 78 (.call 117 [.t 77]) 0, mI 79 10 0, mI 80 11 0, oI 81 (.slc 1 (.t 79) none (some (.t 80))) 0, oI 82 (.call 117 [.t 81]) 0, mI 83 8 0, oI 84 (.callw 141 [.t 82, .t 83]) 0, mI 4 78 0, mI 5 84 0] = (0, 0) := Yax
def Ymz:CC := .seq (.rg false Z8v) (.seq (.seq (.rg false Z8g) (.cond (.t 17) (.seq (.rg false Z71) .ret) .skip)) (.seq (.seq (.rg false Z6q) (.cond (.t 22) (.seq (.rg false Z7h) (.seq (.rg false Z6x) .ret)) .skip)) (.seq (.rg false Z8a) (.seq (.rg false Z78) (.seq (.rg false Z64) (.seq (.rg false Z2s) (.seq (.seq (.rg false Z1x) (.block 0 (.loop Ztg))) (.seq (.rg true Zom) .ret))))))))
abbrev Yuy:Nat:=122
theorem Ynj:fnOk Tryz.prog 122=some (85,Ymz,[.tmp 4,.tmp 5]):=by kernel_rfl
def Zvx:List IOp := [oI 4 (.alloc [.bool false,.nils]) 0]
def Ztb:List IOp := [mI 5 0 0,mI 6 5 0,gI 7 (.mv (.t 1)) 0 6 true,gI 8 (.len (.t 7)) 0 6 true,gI 9 (.bin .gtr (.t 8) (cI 0)) 0 6 true,oI 10 (.pick (.t 6) (.t 9) (.c (.bool false))) 0,mI 11 1 0,oI 12 (.build [.bool false,.nils] [(0,1,.t 10),(1,1,.t 11)]) 0,⟨none,.st 2 (.t 4) (.t 12),0,[],[],none⟩]
def Yky:CC := .seq (.rg false Zvx) (.seq (.rg false Ztb) .ret)
abbrev Zns:Nat:=100
theorem Yos:fnOk Tryz.prog 100=some (13,Yky,[.cell 4 (some 2)]):=by kernel_rfl
def Yge:List IOp := [oI 2 (.alloc [.bool false,.nils]) 0]
def Yfb:List IOp := [mI 4 0 0,oI 5 (.cvi .u64 (.t 4)) 0,mI 3 5 0]
def Yf1:List IOp := [mI 6 0 0,oI 7 (.bin .lss (.t 6) (cI 0)) 0]
def Yfd:List IOp := [mI 8 3 0,oI 9 (.un .neg (.t 8)) 0,mI 3 9 0]
def Z5k:List IOp := [mI 10 0 0,oI 11 (.bin .lss (.t 10) (cI 0)) 0,mI 12 3 0,oI 13 (.cvi .u32 (.t 12)) 0,mI 14 3 0,oI 15 (.bin .shr (.t 14) (.c (.int .u64 32))) 0,oI 16 (.cvi .u32 (.t 15)) 0,oI 17 (.bsl none 2 [.int .u32 0] [(0,.t 13),(1,.t 16)]) 0,oI 18 (.call 117 [.t 17]) 1,oI 19 (.call 100 [.t 11,.t 18]) 1,⟨none,.st 2 (.t 2) (.t 19),1,[],[],none⟩]
def Y1f:CC := .seq (.rg false Yge) (.seq (.rg false Yfb) (.seq (.seq (.rg false Yf1) (.cond (.t 7) (.rg false Yfd) .skip)) (.seq (.rg false Z5k) .ret)))
abbrev Yri:Nat:=83
theorem Ywx:fnOk Tryz.prog 83=some (20,Y1f,[.cell 2 (some 2)]):=by kernel_rfl
def Z7a:List IOp := [oI 1 (.box (.t 0)) 0,oI 2 (.mv (cI 0)) 1]
def Z83:List IOp := [fI 4 1 1 0,lI 5 4 0,oI 6 (.len (.t 5)) 0,oI 7 (.bin .eql (.t 6) (cI 0)) 0,mI 3 7 0]
def Z7w:List IOp := [oI 2 (.mv (cI 0)) 0]
def Z7q:List IOp := [fI 9 0 1 0,lI 10 9 0,mI 8 10 0]
def Z7x:List IOp := [oI 2 (.mv (cI (-1))) 0]
def Z66:List IOp := [oI 2 (.mv (cI 1)) 0]
def Yks:CC := .seq (.rg false Z7a) (.seq (.block 0 (.seq (.rg false Z83) (.cond (.t 3) (.seq (.rg false Z7w) .ret) (.seq (.rg false Z7q) (.cond (.t 8) (.seq (.rg false Z7x) .ret) .skip))))) (.seq (.rg false Z66) .ret))
abbrev Yga:Nat:=111
theorem Ync:fnOk Tryz.prog 111=some (11,Yks,[.tmp 2]):=by kernel_rfl
def Yds:List IOp := [oI 1 (.box (.t 0)) 0,oI 2 (.alloc [.bool false,.nils]) 1]
def Ybn:List IOp := [fI 3 0 1 0,lI 4 3 0,oI 5 (.un .not (.t 4)) 0,fI 6 1 1 0,lI 7 6 0,oI 8 (.call 100 [.t 5,.t 7]) 0,⟨none,.st 2 (.t 2) (.t 8),0,[],[],none⟩]
def Yqy:CC := .seq (.rg false Yds) (.seq (.rg false Ybn) .ret)
abbrev Y08:Nat:=125
theorem Yvr:fnOk Tryz.prog 125=some (9,Yqy,[.cell 2 (some 2)]):=by kernel_rfl
def Zop:List IOp := [oI 2 (.box (.t 0)) 0,oI 3 (.box (.t 1)) 1,oI 4 (.alloc [.bool false,.nils]) 2]
def Zqh:List IOp := [fI 6 0 2 0,lI 7 6 0,fI 8 0 3 0,lI 9 8 0,oI 10 (.beq false (.t 7) (.t 9)) 0,mI 5 10 0]
def Zok:List IOp := [fI 11 0 2 0,lI 12 11 0,fI 13 1 2 0,lI 14 13 0,fI 15 1 3 0,lI 16 15 0,oI 17 (.call 120 [.t 14,.t 16]) 0,oI 18 (.callw 100 [.t 12,.t 17]) 0,⟨none,.st 2 (.t 4) (.t 18),0,[],[],none⟩]
@[go_sem ↓] theorem Yjh : autoK Zok = (0, 1) := by kernel_rfl
@[go_sem] theorem Y19 : autoK [fI 11 0 2 0, lI 12 11 0, fI 13 1 2 0, lI 14 13 0, fI 15 1 3 0, lI 16 15 0, oI 17 (.call 120 [.t 14, .t 16]) 0, oI 18 (.callw 100 [.t 12, .t 17]) 0, ⟨none, .st 2 (.t 4) (.t 18), 0, [], [], none⟩] = (0, 1) := Yjh
def Z0z:List IOp := [fI 20 1 2 0,lI 21 20 0,fI 22 1 3 0,lI 23 22 0,oI 24 (.call 99 [.t 21,.t 23]) 0,oI 25 (.bin .geq (.t 24) (cI 0)) 0,mI 19 25 0]
def Zp3:List IOp := [fI 26 0 2 0,lI 27 26 0,fI 28 1 2 0,lI 29 28 0,fI 30 1 3 0,lI 31 30 0,oI 32 (.call 133 [.t 29,.t 31]) 0,oI 33 (.callw 100 [.t 27,.t 32]) 0,⟨none,.st 2 (.t 4) (.t 33),0,[],[],none⟩]
@[go_sem ↓] theorem Yiz : autoK Zp3 = (0, 1) := by kernel_rfl
@[go_sem] theorem Y1v : autoK [fI 26 0 2 0, lI 27 26 0, fI 28 1 2 0, lI 29 28 0, fI 30 1 3 0, lI 31 30 0, oI 32 (.call 133 [.t 29, .t 31]) 0, oI 33 (.callw 100 [.t 27, .t 32]) 0, ⟨none, .st 2 (.t 4) (.t 33), 0, [], [], none⟩] = (0, 1) := Yiz
def Zqd:List IOp := [fI 34 0 3 0,lI 35 34 0,fI 36 1 3 0,lI 37 36 0,fI 38 1 2 0,lI 39 38 0,oI 40 (.call 133 [.t 37,.t 39]) 0,oI 41 (.callw 100 [.t 35,.t 40]) 0,⟨none,.st 2 (.t 4) (.t 41),0,[],[],none⟩]
@[go_sem ↓] theorem Yia : autoK Zqd = (0, 1) := by kernel_rfl
@[go_sem] theorem Y17 : autoK [fI 34 0 3 0, lI 35 34 0, fI 36 1 3 0, lI 37 36 0, fI 38 1 2 0, lI 39 38 0, oI 40 (.call 133 [.t 37, .t 39]) 0, oI 41 (.callw 100 [.t 35, .t 40]) 0, ⟨none, .st 2 (.t 4) (.t 41), 0, [], [], none⟩] = (0, 1) := Yia
def Yqf:CC := .seq (.rg false Zop) (.seq (.block 0 (.seq (.rg false Zqh) (.cond (.t 5) (.seq (.rg true Zok) .ret) (.seq (.rg false Z0z) (.cond (.t 19) (.seq (.rg true Zp3) .ret) .skip))))) (.seq (.rg true Zqd) .ret))
abbrev Yw4:Nat:=115
theorem Yul:fnOk Tryz.prog 115=some (42,Yqf,[.cell 4 (some 2)]):=by kernel_rfl
def Ycg:List IOp := [oI 2 (.box (.t 0)) 0,oI 3 (.box (.t 1)) 1,oI 4 (.alloc [.bool false,.nils]) 2]
def Z0e:List IOp := [lJ 5 2 2 0,lJ 6 2 3 0,oI 7 (.call 125 [.t 6]) 0,oI 8 (.callw 115 [.t 5,.t 7]) 0,⟨none,.st 2 (.t 4) (.t 8),0,[],[],none⟩]
@[go_sem ↓] theorem Yh6 : autoK Z0e = (0, 1) := by kernel_rfl
@[go_sem] theorem Y1p : autoK [lJ 5 2 2 0, lJ 6 2 3 0, oI 7 (.call 125 [.t 6]) 0, oI 8 (.callw 115 [.t 5, .t 7]) 0, ⟨none, .st 2 (.t 4) (.t 8), 0, [], [], none⟩] = (0, 1) := Yh6
def Yrb:CC := .seq (.rg false Ycg) (.seq (.rg true Z0e) .ret)
abbrev Yzv:Nat:=123
theorem Yto:fnOk Tryz.prog 123=some (9,Yrb,[.cell 4 (some 2)]):=by kernel_rfl
def Yb0:List IOp := [oI 2 (.box (.t 0)) 0,oI 3 (.box (.t 1)) 1,oI 4 (.alloc [.bool false,.nils]) 2]
def Z0g:List IOp := [fI 5 0 2 0,lI 6 5 0,fI 7 0 3 0,lI 8 7 0,oI 9 (.beq true (.t 6) (.t 8)) 0,fI 10 1 2 0,lI 11 10 0,fI 12 1 3 0,lI 13 12 0,oI 14 (.call 121 [.t 11,.t 13]) 0,oI 15 (.callw 100 [.t 9,.t 14]) 0,⟨none,.st 2 (.t 4) (.t 15),0,[],[],none⟩]
@[go_sem ↓] theorem Yim : autoK Z0g = (0, 1) := by kernel_rfl
@[go_sem] theorem Y13 : autoK [fI 5 0 2 0, lI 6 5 0, fI 7 0 3 0, lI 8 7 0, oI 9 (.beq true (.t 6) (.t 8)) 0, fI 10 1 2 0, lI 11 10 0, fI 12 1 3 0, lI 13 12 0, oI 14 (.call 121 [.t 11, .t 13]) 0, oI 15 (.callw 100 [.t 9, .t 14]) 0, ⟨none, .st 2 (.t 4) (.t 15), 0, [], [], none⟩] = (0, 1) := Yim
def Yrl:CC := .seq (.rg false Yb0) (.seq (.rg true Z0g) .ret)
abbrev Y0u:Nat:=103
theorem Yvw:fnOk Tryz.prog 103=some (16,Yrl,[.cell 4 (some 2)]):=by kernel_rfl
def Ydn:List IOp := [oI 2 (.box (.t 0)) 0,oI 3 (.box (.t 1)) 1,oI 4 (.mv (cI 0)) 2]
def Yco:List IOp := [lJ 5 2 2 0,lJ 6 2 3 0,oI 7 (.call 123 [.t 5,.t 6]) 0,oI 8 (.call 111 [.t 7]) 0,mI 4 8 0]
def Yqq:CC := .seq (.rg false Ydn) (.seq (.rg false Yco) .ret)
abbrev Yz7:Nat:=102
theorem Ys8:fnOk Tryz.prog 102=some (9,Yqq,[.tmp 4]):=by kernel_rfl
def Ybp:List IOp := [oI 2 (.box (.t 0)) 0,oI 3 (.box (.t 1)) 1,oI 4 (.alloc [.bool false,.nils]) 2]
def Zz8:List IOp := [fI 9 1 2 0,lI 10 9 0,fI 11 1 3 0,lI 12 11 0,mI 5 10 0,mI 6 12 0]
@[go_sem ↓] theorem Yhp : autoK Zz8 = (0, 0) := by kernel_rfl
@[go_sem] theorem Y1w : autoK [fI 9 1 2 0, lI 10 9 0, fI 11 1 3 0, lI 12 11 0, mI 5 10 0, mI 6 12 0] = (0, 0) := Yhp
def Z07:List IOp := [mI 13 6 0,oI 14 (.len (.t 13)) 0,oI 15 (.bin .gtr (.t 14) (cI 0)) 0]
def Ybw:List IOp := [mI 17 5 0,mI 18 6 0,oI 19 (.call 122 [.t 17,.t 18]) 0,mI 16 19 0,eI 20 0 16 0,eI 21 1 16 0,mI 7 20 0,mI 8 21 0]
def Yan:List IOp := [mI 22 6 0,mI 23 8 0,mI 5 22 0,mI 6 23 0]
def Yb8:CC := .seq (.seq (.rg false Z07) (.cond (.t 15) .skip (.exit 0))) (.block 1 (.seq (.rg false Ybw) (.rg false Yan)))
def Ybj:List IOp := [mI 24 5 0,oI 25 (.call 100 [.c (.bool false),.t 24]) 0,⟨none,.st 2 (.t 4) (.t 25),0,[],[],none⟩]
def Ypw:CC := .seq (.rg false Ybp) (.seq (.rg true Zz8) (.seq (.block 0 (.loop Yb8)) (.seq (.rg false Ybj) .ret)))
abbrev Yy8:Nat:=101
theorem Yvm:fnOk Tryz.prog 101=some (26,Ypw,[.cell 4 (some 2)]):=by kernel_rfl
def Yaf:List IOp := [oI 2 (.box (.t 0)) 0,oI 3 (.box (.t 1)) 1,oI 4 (.alloc [.bool false,.nils]) 2,oI 5 (.alloc [.bool false,.nils]) 3]
def Ybl:List IOp := [fI 11 1 2 0,lI 12 11 0,fI 13 1 3 0,lI 14 13 0,oI 15 (.call 122 [.t 12,.t 14]) 0,mI 10 15 0,eI 16 0 10 0,eI 17 1 10 0,mI 6 16 0,mI 7 17 0]
def Zz5:List IOp := [fI 18 0 2 0,lI 19 18 0,fI 20 0 3 0,lI 21 20 0,oI 22 (.beq true (.t 19) (.t 21)) 0,mI 23 6 0,oI 24 (.call 100 [.t 22,.t 23]) 0,fI 25 0 2 0,lI 26 25 0,mI 27 7 0,oI 28 (.call 100 [.t 26,.t 27]) 0,oI 8 (.alloc [.bool false,.nils]) 0,oI 9 (.alloc [.bool false,.nils]) 1,⟨none,.st 2 (.t 8) (.t 24),2,[0,1],[],none⟩,⟨none,.st 2 (.t 9) (.t 28),2,[0,1],[],none⟩]
@[go_sem ↓] theorem Yg5 : autoK Zz5 = (2, 1) := by kernel_rfl
@[go_sem] theorem Y18 : autoK [fI 18 0 2 0, lI 19 18 0, fI 20 0 3 0, lI 21 20 0, oI 22 (.beq true (.t 19) (.t 21)) 0, mI 23 6 0, oI 24 (.call 100 [.t 22, .t 23]) 0, fI 25 0 2 0, lI 26 25 0, mI 27 7 0, oI 28 (.call 100 [.t 26, .t 27]) 0, oI 8 (.alloc [.bool false, .nils]) 0, oI 9 (.alloc [.bool false, .nils]) 1, ⟨none, .st 2 (.t 8) (.t 24), 2, [0, 1], [], none⟩, ⟨none, .st 2 (.t 9) (.t 28), 2, [0, 1], [], none⟩] = (2, 1) := Yg5
def Zpx:List IOp := [mI 29 7 0,oI 30 (.len (.t 29)) 0,oI 31 (.bin .gtr (.t 30) (cI 0)) 0,mI 32 31 0,gI 33 (.fa 0 (.t 2)) 0 32 true,gI 34 (.ld none (.t 33)) 0 32 true,gI 35 (.fa 0 (.t 3)) 0 32 true,gI 36 (.ld none (.t 35)) 0 32 true,gI 37 (.beq true (.t 34) (.t 36)) 0 32 true,oI 38 (.pick (.t 32) (.t 37) (.c (.bool false))) 0]
def Z0x:List IOp := [lJ 39 2 8 0,oI 40 (.call 83 [cI 1]) 0,oI 41 (.call 123 [.t 39,.t 40]) 0,lJ 42 2 9 0,lJ 43 2 3 0,oI 44 (.callw 115 [.t 42,.t 43]) 0,⟨none,.st 2 (.t 8) (.t 41),0,[],[],none⟩,⟨none,.st 2 (.t 9) (.t 44),0,[],[],none⟩]
@[go_sem ↓] theorem Yhz : autoK Z0x = (0, 1) := by kernel_rfl
@[go_sem] theorem Y12 : autoK [lJ 39 2 8 0, oI 40 (.call 83 [cI 1]) 0, oI 41 (.call 123 [.t 39, .t 40]) 0, lJ 42 2 9 0, lJ 43 2 3 0, oI 44 (.callw 115 [.t 42, .t 43]) 0, ⟨none, .st 2 (.t 8) (.t 41), 0, [], [], none⟩, ⟨none, .st 2 (.t 9) (.t 44), 0, [], [], none⟩] = (0, 1) := Yhz
def Zkq:List IOp := [lJ 45 2 8 0,⟨some 46,.ld (some 2) (.t 9),0,[],[0],none⟩,⟨none,.st 2 (.t 4) (.t 45),0,[],[],none⟩,⟨none,.st 2 (.t 5) (.t 46),0,[],[],none⟩]
@[go_sem ↓] theorem Yig : autoK Zkq = (0, 2) := by kernel_rfl
@[go_sem] theorem Y11 : autoK [lJ 45 2 8 0, ⟨some 46, .ld (some 2) (.t 9), 0, [], [0], none⟩, ⟨none, .st 2 (.t 4) (.t 45), 0, [], [], none⟩, ⟨none, .st 2 (.t 5) (.t 46), 0, [], [], none⟩] = (0, 2) := Yig
def Yrn:CC := .seq (.rg false Yaf) (.seq (.rg false Ybl) (.seq (.rg true Zz5) (.seq (.seq (.rg false Zpx) (.cond (.t 38) (.rg true Z0x) .skip)) (.seq (.rg true Zkq) .ret))))
abbrev Y0o:Nat:=134
theorem Ytw:fnOk Tryz.prog 134=some (47,Yrn,[.cell 4 (some 2),.cell 5 (some 2)]):=by kernel_rfl
end GoAbs
namespace GoAbs
open Go Go.Proofs
theorem mixed:Tryz.prog.follows .mixedOrders=true:=by kernel_rfl
attribute [go_sem] mixed Zhn
theorem Zc5 (l:List Nat) (hl:l.length≤1099511627776):SpecV Tryz.prog Yva [.sl (u32c l)] (.sl (u32c (trimL l))):=by
 refine Zad Ypv (by simp) ?_
 unfold Yj9
 simp only [go_sem,Z82]
 refine Ykm (fun n:Nat=>⟨envL [(0,.sl (u32c (l.take n)))],[]⟩) (fun n=>n≤l.length∧trimL (l.take n)=trimL l) id l.length ⟨Nat.le_refl _,by simp⟩ ?_ (fun n hn=>?_)
 ·exact Zab _ (by simp [go_sem])
 ·obtain ⟨h1,h2⟩:=hn
  apply T_W
  have e1:(u32c (l.take n)).length=n:=by simp [Zae]; omega
  cases n with
  | zero =>
   unfold Zws
   simp only [go_sem,Ztc,Zvc,Zwi,e1]
   simp only [List.take_zero] at h2
   simp [← h2,Z4x,Zhn]
  | succ m =>
   have e2:IntKind.i64.wrap (((m+1:Nat):Int) - 1)=(m:Int):=by rw [Zac (by omega) (by omega)]; omega
   have hm:l[m]? = some l[m]:=List.getElem?_eq_getElem (by omega)
   have e3:(u32c (l.take (m+1)))[m]? = some (.int .u32 (l[m]:Nat)):=Zal (by rw [List.getElem?_take_of_lt (by omega)]; exact hm)
   have e4:l.take (m+1)=l.take m ++ [l[m]]:=by simp
   have e5:trimL l=if l[m]=0 then trimL (l.take m) else l.take (m+1):=by rw [← h2,e4,Z5x]
   have hpos:(0:Int)<((m+1:Nat):Int):=by omega
   have hnn:(0:Int)≤(m:Int):=by omega
   unfold Zws
   simp only [go_sem,Ztc,Zvc,Zwi,e1,e2,e3,hpos,hnn]
   refine ⟨fun h0=>⟨by omega,by omega,Yi5,m,⟨by omega,?_⟩,by simp,?_⟩,fun h0=>?_⟩
   ·rw [e5,if_pos (by omega)]
   ·exact Zab _ (by simp [go_sem,Ykj,List.take_take])
   ·rw [e5,if_neg (by omega)]
theorem Y0m (neg:Bool) (l:List Nat):SpecV Tryz.prog Yga [.agg [.bool neg,.sl (u32c l)]] (.int .i64 (if l = [] then 0 else if neg then -1 else 1)):=by
 refine Zad Ync (by simp) ?_
 unfold Yks
 cases neg <;>
 simp only [go_sem,Z7a,Z83,Z7w,Z7q,Z7x,Z66,Zae] <;>
 cases l <;> simp <;> omega
def cmpTop:Nat→List Nat→List Nat→Int
 | 0,_,_=>0
 | n+1,a,b=>if a.getD n 0<b.getD n 0 then -1 else if b.getD n 0<a.getD n 0 then 1 else cmpTop n a b
def cmpL (a b:List Nat):Int:=if a.length<b.length then -1 else if b.length<a.length then 1 else cmpTop a.length a b
theorem Ylc (a b:List Nat) (ha:a.length≤1099511627776) (hb:b.length≤1099511627776):SpecV Tryz.prog Z42 [.sl (u32c a),.sl (u32c b)] (.int .i64 (cmpL a b)):=by
 refine Zad Yep (by simp) ?_
 unfold Z6m
 simp only [go_sem,Zt0,Zuu,Zu8,Zu2,Zut,Zuy,Zae]
 refine ⟨fun h=>⟨fun h1=>(by unfold cmpL; rw [if_pos (by omega)]),fun h1=>(by unfold cmpL; rw [if_neg (by omega),if_pos (by omega)])⟩,fun h=>?_⟩
 have hab:a.length=b.length:=by omega
 refine Ykm (fun n:Nat=>⟨envL [(0,.sl (u32c a)),(1,.sl (u32c b)),(5,.int .i64 ((n:Int) - 1))],[]⟩) (fun n=>n≤a.length∧cmpTop n a b=cmpL a b) id a.length
  ⟨Nat.le_refl _,by unfold cmpL; rw [if_neg (by omega),if_neg (by omega)]⟩ (Zab _ (by simp only [go_sem]; rw [Zac (by omega) (by omega)])) (fun n hn=>T_W ?_)
 obtain ⟨h1,h2⟩:=hn
 cases n with
 | zero =>
  unfold Zkw
  simp only [go_sem,Zk5,Zrg]
  refine ⟨fun h=>by omega,fun _=>?_⟩
  rw [← h2]; rfl
 | succ m =>
  have e0:(((m+1:Nat):Int) - 1)=(m:Int):=by omega
  have e2:IntKind.i64.wrap ((m:Int) - 1)=(m:Int) - 1:=Zac (by omega) (by omega)
  have hnn:(0:Int)≤(m:Int):=by omega
  have ga:a[m]? = some (a.getD m 0):=by rw [List.getD_eq_getElem?_getD,List.getElem?_eq_getElem (show m<a.length by omega)]; rfl
  have gb:b[m]? = some (b.getD m 0):=by rw [List.getD_eq_getElem?_getD,List.getElem?_eq_getElem (show m<b.length by omega)]; rfl
  unfold Zkw
  simp only [go_sem,Zk5,Zla,Zk3,Zrb,Zq6,Zru,e0,e2,hnn,Zal ga,Zal gb]
  unfold cmpTop at h2
  refine ⟨fun h3=>⟨fun h4=>?_,fun h4=>?_⟩,fun h3=>⟨m,⟨by omega,?_⟩,by simp,Zab _ (by simp [go_sem])⟩⟩
  ·rw [← h2,if_pos (by omega)]
  ·rw [← h2,if_neg (by omega),if_pos (by omega)]
  ·rw [← h2,if_neg (by omega),if_neg (by omega)]
theorem Yfi (x y c:Nat) (hx:x<4294967296) (hy:y<4294967296) (hc:c≤1):SpecV Tryz.prog Z8s [.int .u32 x,.int .u32 y,.int .u32 c] (.tup [.int .u32 ((x+y+c) % 4294967296:Nat),.int .u32 ((x+y+c) / 4294967296:Nat)]):=by
 refine Zad Yid (by simp) ?_
 unfold Ya8
 have e1:IntKind.u64.wrap (x:Int)=x:=Za5 (by omega) (by omega)
 have e2:IntKind.u64.wrap (y:Int)=y:=Za5 (by omega) (by omega)
 have e3:IntKind.u64.wrap (c:Int)=c:=Za5 (by omega) (by omega)
 have e4:IntKind.u64.wrap ((x:Int)+y)=(x+y:Nat):=by rw [Za5 (by omega) (by omega)]; omega
 have e5:IntKind.u64.wrap (((x+y:Nat):Int)+c)=(x+y+c:Nat):=by rw [Za5 (by omega) (by omega)]; omega
 simp only [go_sem,Zy1,Zxe,Zzl,Zy6,e1,e2,e3,e4,e5]
 have h32:(32:Int)=((32:Nat):Int):=rfl
 refine ⟨?_,?_⟩
 ·rw [Z0v]
 ·rw [h32,Ze7 _ _ _ (by decide),Zf9 (by omega) (by omega)]
theorem Yor {x y d c:Nat}(hx:x<4294967296) (hy:y<4294967296) (hc:c≤1) (hd:d=(x+4294967296+4294967296 - y - c) % 4294967296) :
  (((4294967295 - x) &&& y) ||| ((4294967295 - (x ^^^ y)) &&& d)) / 2147483648=if x<y+c then 1 else 0:=by
 have hdl:d<4294967296:=by omega
 have tx:(BitVec.ofNat 32 x).toNat=x:=by rw [BitVec.toNat_ofNat,Nat.mod_eq_of_lt hx]
 have ty:(BitVec.ofNat 32 y).toNat=y:=by rw [BitVec.toNat_ofNat,Nat.mod_eq_of_lt hy]
 have td:(BitVec.ofNat 32 d).toNat=d:=by rw [BitVec.toNat_ofNat,Nat.mod_eq_of_lt hdl]
 have hv:((~~~ BitVec.ofNat 32 x &&& BitVec.ofNat 32 y) ||| (~~~ (BitVec.ofNat 32 x ^^^ BitVec.ofNat 32 y) &&& BitVec.ofNat 32 d)).toNat=((4294967295 - x) &&& y) ||| ((4294967295 - (x ^^^ y)) &&& d):=by
  rw [BitVec.toNat_or,BitVec.toNat_and,BitVec.toNat_and,BitVec.toNat_not,BitVec.toNat_not,BitVec.toNat_xor,tx,ty,td]
 rw [← hv]
 have h1:=BitVec.msb_eq_decide ((~~~ BitVec.ofNat 32 x &&& BitVec.ofNat 32 y) ||| (~~~ (BitVec.ofNat 32 x ^^^ BitVec.ofNat 32 y) &&& BitVec.ofNat 32 d))
 have hlt:=((~~~ BitVec.ofNat 32 x &&& BitVec.ofNat 32 y) ||| (~~~ (BitVec.ofNat 32 x ^^^ BitVec.ofNat 32 y) &&& BitVec.ofNat 32 d)).isLt
 have mx:(BitVec.ofNat 32 x).msb=decide (2147483648≤x):=by rw [BitVec.msb_eq_decide,tx]
 have my:(BitVec.ofNat 32 y).msb=decide (2147483648≤y):=by rw [BitVec.msb_eq_decide,ty]
 have md:(BitVec.ofNat 32 d).msb=decide (2147483648≤d):=by rw [BitVec.msb_eq_decide,td]
 rw [BitVec.msb_or,BitVec.msb_and,BitVec.msb_and,BitVec.msb_not,BitVec.msb_not,BitVec.msb_xor,mx,my,md] at h1
 generalize ((~~~ BitVec.ofNat 32 x &&& BitVec.ofNat 32 y) ||| (~~~ (BitVec.ofNat 32 x ^^^ BitVec.ofNat 32 y) &&& BitVec.ofNat 32 d)).toNat=v at h1 hlt
 have hb:v / 2147483648=if 2147483648≤v then 1 else 0:=by split <;> omega
 rw [hb]
 have h2:(2147483648≤v)↔(decide (2 ^ (32 - 1)≤v)=true):=by simp
 have h3:(2147483648≤v)↔x<y+c:=by
  rw [h2, ← h1]
  by_cases a1:2147483648≤x <;> by_cases a2:2147483648≤y <;> by_cases a3:2147483648≤d <;> simp [a1,a2,a3] <;> omega
 by_cases h4:x<y+c
 ·rw [if_pos h4,if_pos (h3.2 h4)]
 ·rw [if_neg h4,if_neg (fun h=>h4 (h3.1 h))]
theorem Yus (x y c:Nat) (hx:x<4294967296) (hy:y<4294967296) (hc:c≤1):SpecV Tryz.prog Z9a [.int .u32 x,.int .u32 y,.int .u32 c]
  (.tup [.int .u32 ((x+4294967296+4294967296 - y - c) % 4294967296:Nat),.int .u32 ((if x<y+c then 1 else 0:Nat):Int)]):=by
 refine Zad Yic (by simp) ?_
 unfold Yck
 have e1:IntKind.u32.wrap (IntKind.u32.wrap ((x:Int) - y) - c)=((x+4294967296+4294967296 - y - c) % 4294967296:Nat):=by
  rw [IntKind.wrap_u32,IntKind.wrap_u32]; omega
 generalize hd:(x+4294967296+4294967296 - y - c) % 4294967296=d at e1 ⊢
 have hdl:d<4294967296:=by omega
 have hxy:x ^^^ y<2 ^ 32:=Nat.xor_lt_two_pow (by omega) (by omega)
 have e2:notI .u32 (x:Int)=_:=not32 hx
 have e3:andI .u32 ((4294967295 - x:Nat):Int) (y:Int)=_:=and32 (by omega) hy
 have e4:xorI .u32 (x:Int) (y:Int)=_:=xor32 hx hy
 have e5:notI .u32 ((x ^^^ y:Nat):Int)=_:=not32 (by omega)
 have e6:andI .u32 ((4294967295 - (x ^^^ y):Nat):Int) (d:Int)=_:=and32 (by omega) hdl
 have h7:(4294967295 - x) &&& y<2 ^ 32:=Nat.and_lt_two_pow _ (by omega)
 have h8:(4294967295 - (x ^^^ y)) &&& d<2 ^ 32:=Nat.and_lt_two_pow _ (by omega)
 have e7:=or32 (a:=(4294967295 - x) &&& y) (b:=(4294967295 - (x ^^^ y)) &&& d) (by omega) (by omega)
 have h31:(31:Int)=((31:Nat):Int):=rfl
 simp only [go_sem,Zxg,Zxm,Zyt,e1,e2,e3,e4,e5,e6,e7]
 rw [← Yor hx hy hc hd.symm,h31,Ze7 _ _ _ (by decide)]
end GoAbs
namespace GoAbs
open Go Go.Proofs
def row (s:List Nat) (n:Nat):List Nat:=s++List.replicate (n - s.length) 0
theorem Ybc {s:List Nat}{n:Nat}(h:s.length≤n):(row s n).length=n:=by simp [row]; omega
theorem Yhe {s:List Nat}{n:Nat}(h:s.length=n):row s n=s:=by simp [row,h]
theorem Yhr {s:List Nat}{n x:Nat}(h:s.length<n):(row s n).set s.length x=row (s ++ [x]) n:=by
 unfold row
 rw [List.set_append_right _ _ (Nat.le_refl _),Nat.sub_self]
 obtain ⟨k,hk⟩:∃ k,n - s.length=k+1:=⟨n - s.length - 1,by omega⟩
 rw [hk,List.replicate_succ,List.set_cons_zero,List.append_assoc,List.length_append]
 have:n - (s.length + [x].length)=k:=by simp; omega
 rw [this]; rfl
theorem Zaq {l:List Nat}{n x:Nat}(h:l[n]? = some x):val (l.take (n+1))=val (l.take n)+4294967296 ^ n*x:=by
 have hn:n<l.length:=(List.getElem?_eq_some_iff.1 h).1
 have h2:l.take (n+1)=l.take n ++ [x]:=by rw [List.take_add_one,h]; rfl
 rw [h2,Zbw,List.length_take,Nat.min_eq_left (by omega)]
 simp [val]
theorem Zby {l:List Nat}{n:Nat}(h:l.length≤n):val (l.take n)=val l:=by rw [List.take_of_length_le h]
theorem Za6 {α:Type}{l:List α}{i:Nat}{x:α}(h:i<l.length):l.take i ++ [x]++l.drop (i+1)=l.set i x:=by
 simp [List.set_eq_take_append_cons_drop,h]
theorem getElem?_getD {l:List Nat}{n:Nat}(h:n<l.length):l[n]? = some (l.getD n 0):=by
 rw [List.getD_eq_getElem?_getD,List.getElem?_eq_getElem h]; rfl
theorem Ymj {a b:List Nat}(ha:Ok32 a) (hb:Ok32 b) (hla:a.length≤1099511627775) (hba:b.length≤a.length) :
  T Tryz.prog 54 0 (.seq (.rg false Zu3) (.seq (.rg false Zwl) (.seq (.seq (.rg false Zt7) (.block 0 (.loop Zvj))) (.seq (.rg false Zo3) (.seq (.rg false Zpe) .ret)))))
   ⟨envL [(0,.sl (u32c a)),(1,.sl (u32c b))],[]⟩ (retQ [.tmp 4] (.sl (u32c (limbs (val a+val b))))):=by
 apply T_W
 have e1:IntKind.i64.wrap ((a.length:Int)+1)=(a.length+1:Nat):=by rw [Zac (by omega) (by omega)]; omega
 simp only [go_sem,Zu3,Zwl,Zt7,Zae,e1,Zp1]
 refine ⟨by omega,by omega,by omega,?_⟩
 refine Zaf (fun x:List Nat×Nat=>⟨envL [(0,.sl (u32c a)),(1,.sl (u32c b)),(5,.osl none 0 0 (a.length+1)),(6,.int .u32 (x.2:Int)),(21,.int .i64 (a.length:Int)),(22,.int .i64 (x.1.length:Int))],[.cells (u32c (row x.1 (a.length+1)))]⟩)
  (fun x=>x.1.length≤a.length∧x.2≤1∧Ok32 x.1∧val x.1+4294967296 ^ x.1.length*x.2=val (a.take x.1.length)+val (b.take x.1.length)) (fun x=>a.length - x.1.length) ([],0)
  ⟨by simp,by simp,by intro x hx; simp at hx,by simp [val]⟩ (by
   have:List.replicate (a.length+1) 0=row [] (a.length+1):=by simp [row]
   rw [this]; exact Zab _ (by simp [go_sem])) (fun x hx N hN=>?_)
 obtain ⟨s,c⟩:=x
 obtain ⟨h1,h2,h3,h4⟩:=hx
 simp only at h1 h2 h3 h4 ⊢
 unfold Zvj
 by_cases hn:s.length<a.length
 ·have ga:=getElem?_getD hn
  have hga:=ha.get ga
  have e2:IntKind.i64.wrap ((s.length:Int)+1)=(s.length+1:Nat):=by rw [Zac (by omega) (by omega)]; omega
  have hp:(s.length:Int)<(a.length:Int):=by omega
  have hnn:(0:Int)≤(s.length:Int):=by omega
  
  have step:∀ y:Nat,y<4294967296→val (b.take (s.length+1))=val (b.take s.length)+4294967296 ^ s.length*y →
    (val (s ++ [(a.getD s.length 0+y+c) % 4294967296])+4294967296 ^ (s.length+1)*((a.getD s.length 0+y+c) / 4294967296)=val (a.take (s.length+1))+val (b.take (s.length+1))):=fun y hy hby=>by
   rw [Zbw,Zaq ga,hby]
   simp only [val,Nat.mul_zero,Nat.add_zero]
   have e:4294967296 ^ s.length*((a.getD s.length 0+y+c) % 4294967296)+4294967296 ^ (s.length+1)*((a.getD s.length 0+y+c) / 4294967296)=4294967296 ^ s.length*(a.getD s.length 0+y+c):=by
    rw [Nat.pow_succ,Nat.mul_assoc, ← Nat.mul_add,Nat.mod_add_div]
   rw [Nat.add_assoc,e,Nat.mul_add,Nat.mul_add]
   omega
  have rset:(u32c (row s (a.length+1))).length=a.length+1:=by rw [Zae,Ybc (by omega)]
  have fin:∀ y:Nat,y<4294967296→val (b.take (s.length+1))=val (b.take s.length)+4294967296 ^ s.length*y→∀ (e:Nat→AV),
    e 0 = .sl (u32c a)→e 1 = .sl (u32c b)→e 5 = .osl none 0 0 (a.length+1)→e 6 = .int .u32 (((a.getD s.length 0+y+c) / 4294967296:Nat):Int)→e 21 = .int .i64 (a.length:Int)→e 22 = .int .i64 ((s.length+1:Nat):Int) →
    N ⟨e,[.cells ((u32c (row s (a.length+1))).set s.length (.int .u32 (((a.getD s.length 0+y+c) % 4294967296:Nat):Int)))]⟩:=fun y hy hby e q1 q2 q3 q4 q5 q6=>by
   refine hN (s ++ [(a.getD s.length 0+y+c) % 4294967296],(a.getD s.length 0+y+c) / 4294967296) _ ⟨by simp; omega,by simp only; omega,?_,?_⟩ (by simp; omega) ?_
   ·exact h3.append (fun z hz=>by simp at hz; omega)
   ·simpa using step y hy hby
   ·rw [Zcx,Yhr (by omega)]
    exact Zab _ (by simp only [Has,q1,q2,q3,q4,q5,q6]; simp)
  have call:∀ {C:AV→Heap→Prop} {H:Heap} (y:Nat),y<4294967296→C (.tup [.int .u32 ((a.getD s.length 0+y+c) % 4294967296:Nat),.int .u32 ((a.getD s.length 0+y+c) / 4294967296:Nat)]) H →
    callC Tryz.prog none 137 H [.int .u32 (a.getD s.length 0:Nat),.int .u32 (y:Nat),.int .u32 (c:Nat)] C:=fun y hy h =>
   Zus (Yfi _ y c hga hy h2) (ids := []) (by simp only [go_sem]) (.inl rfl) (fun b hb=>by simp at hb) h
  simp only [go_sem,Zv4,Z8k,Z7v,Z4y,Z2e,Z1l,Z3u,Zae,hp,hnn,Zal ga]
  refine ⟨fun hb1=>?_,fun hb1=>?_⟩
  ·have gb:=getElem?_getD (show s.length<b.length by omega)
   simp only [go_sem,hnn,hp,Zal ga,Zal gb]
   refine call _ (hb.get gb) ?_
   simp only [go_sem,e2]
   rw [Za6 (by rw [rset]; omega)]
   exact ⟨hnn,by omega,by rw [rset]; omega,fin _ (hb.get gb) (Zaq gb) _ (by simp only [go_sem]) (by simp only [go_sem]) (by simp only [go_sem]) (by simp only [go_sem]) (by simp only [go_sem]) (by simp only [go_sem])⟩
  ·refine call 0 (by omega) ?_
   simp only [go_sem,e2]
   rw [Za6 (by rw [rset]; omega)]
   have hb0:val (b.take (s.length+1))=val (b.take s.length)+4294967296 ^ s.length*0:=by
    rw [Zby (by omega),Zby (by omega)]; omega
   exact ⟨hnn,by omega,by rw [rset]; omega,fin 0 (by omega) hb0 _ (by simp only [go_sem]) (by simp only [go_sem]) (by simp only [go_sem]) (by simp only [go_sem]) (by simp only [go_sem]) (by simp only [go_sem])⟩
 ·have hsa:s.length=a.length:=by omega
  have hp:¬ (s.length:Int)<(a.length:Int):=by omega
  have hnn:(0:Int)≤(a.length:Int):=by omega
  have rset:(u32c (row s (a.length+1))).length=a.length+1:=by rw [Zae,Ybc (by omega)]
  simp only [go_sem,Zv4,hp,Zo3,Zpe,Zae,hnn]
  have hset:(u32c (row s (a.length+1))).set a.length (.int .u32 (c:Int))=u32c (s ++ [c]):=by
   rw [Zcx, ← hsa,Yhr (by omega),Yhe (by simp)]
  rw [Za6 (by rw [rset]; omega),hset]
  refine ⟨by omega,by rw [Ybc (by omega)]; omega,?_⟩
  have hok:Ok32 (s ++ [c]):=h3.append (fun z hz=>by simp at hz; omega)
  refine Zjb (ids := [0]) (Zc5 (s ++ [c]) (by simp; omega)) ?_ ?_
  ·simp only [go_sem]
   exact Zdq rfl (by simp) (by simp; omega) (by rw [List.drop_zero,List.take_of_length_le (by rw [Zae]; simp; omega)])
  ·simp only [go_sem]
   have hv:val (s ++ [c])=val a+val b:=by
    rw [Zbw]
    simp only [val,Nat.mul_zero,Nat.add_zero]
    rw [h4,Zby (by omega),Zby (by omega)]
   rw [← hv,Zc3 hok]
theorem Yz9 {a b:List Nat}(ha:Ok32 a) (hb:Ok32 b) (hla:a.length≤1099511627775) (hlb:b.length≤1099511627775) :
  SpecV Tryz.prog Ygl [.sl (u32c a),.sl (u32c b)] (.sl (u32c (limbs (val a+val b)))):=by
 refine Zba Yoo (by simp) ?_
 unfold Yk4
 refine Zbc (T_W ?_)
 simp only [go_sem,Z63]
 refine Zbc (T_W ?_)
 simp only [go_sem,Z8b,Z7o,Zae]
 refine ⟨fun h=>?_,fun h=>?_⟩
 ·rw [Nat.add_comm]
  exact Zar [(0,.sl (u32c b)),(1,.sl (u32c a))] (by simp only [go_sem]) (Ymj hb ha hlb (by omega))
 ·exact Zar [(0,.sl (u32c a)),(1,.sl (u32c b))] (by simp only [go_sem]) (Ymj ha hb hla (by omega))
end GoAbs
namespace GoAbs
open Go Go.Proofs
theorem Y3y (x y c:Nat) (hx:x<4294967296) (hy:y<4294967296) (hc:c≤1) :
  x+4294967296*(if x<y+c then 1 else 0)=(x+4294967296+4294967296 - y - c) % 4294967296+y+c:=by
 split <;> omega
theorem Yaa (x y c:Nat) (hx:x<4294967296) (hy:y<4294967296) (hc:c≤1) :
  ∃ d c':Nat,d<4294967296∧c'≤1∧x+4294967296*c'=d+y+c∧SpecV Tryz.prog Z9a [.int .u32 x,.int .u32 y,.int .u32 c] (.tup [.int .u32 (d:Nat),.int .u32 (c':Nat)]) :=
 ⟨_,_,by omega,by split <;> omega,Y3y x y c hx hy hc,Yus x y c hx hy hc⟩
theorem Yu1 {a b:List Nat}(ha:Ok32 a) (hb:Ok32 b) (hla:a.length≤1099511627775) (hba:b.length≤a.length) (hle:val b≤val a) :
  SpecV Tryz.prog Yb7 [.sl (u32c a),.sl (u32c b)] (.sl (u32c (limbs (val a - val b)))):=by
 refine Zad Yli (by simp) ?_
 unfold Yg0
 simp only [go_sem,Z1y,Z15,Z3b,Z3p,Zae,Zp1]
 refine ⟨by omega,by omega,by omega,?_⟩
 refine Zaf (fun x:List Nat×Nat=>⟨envL [(0,.sl (u32c a)),(1,.sl (u32c b)),(5,.osl none 0 0 a.length),(6,.int .u32 (x.2:Int)),(13,.int .i64 (a.length:Int)),(14,.int .i64 (x.1.length:Int))],[.cells (u32c (row x.1 a.length))]⟩)
  (fun x=>x.1.length≤a.length∧x.2≤1∧Ok32 x.1∧val (a.take x.1.length)+4294967296 ^ x.1.length*x.2=val x.1+val (b.take x.1.length)) (fun x=>a.length - x.1.length) ([],0)
  ⟨by simp,by simp,by intro x hx; simp at hx,by simp [val]⟩ (by
   have:List.replicate a.length 0=row [] a.length:=by simp [row]
   rw [this]; exact Zab _ (by simp [go_sem])) (fun x hx N hN=>?_)
 obtain ⟨s,c⟩:=x
 obtain ⟨h1,h2,h3,h4⟩:=hx
 simp only at h1 h2 h3 h4 ⊢
 unfold Z1q
 by_cases hn:s.length<a.length
 ·have ga:=getElem?_getD hn
  have hga:=ha.get ga
  have e2:IntKind.i64.wrap ((s.length:Int)+1)=(s.length+1:Nat):=by rw [Zac (by omega) (by omega)]; omega
  have hp:(s.length:Int)<(a.length:Int):=by omega
  have hnn:(0:Int)≤(s.length:Int):=by omega
  generalize hx:a.getD s.length 0=x at ga hga
  have rset:(u32c (row s a.length)).length=a.length:=by rw [Zae,Ybc (by omega)]
  have fin:∀ y d c':Nat,d<4294967296→c'≤1→x+4294967296*c'=d+y+c→val (b.take (s.length+1))=val (b.take s.length)+4294967296 ^ s.length*y→∀ (e:Nat→AV),
    e 0 = .sl (u32c a)→e 1 = .sl (u32c b)→e 5 = .osl none 0 0 a.length→e 6 = .int .u32 (c':Int)→e 13 = .int .i64 (a.length:Int)→e 14 = .int .i64 ((s.length+1:Nat):Int) →
    N ⟨e,[.cells ((u32c (row s a.length)).set s.length (.int .u32 (d:Int)))]⟩:=fun y d c' hd hc' hw hby e q1 q2 q3 q4 q5 q6=>by
   refine hN (s ++ [d],c') _ ⟨by simp; omega,hc',?_,?_⟩ (by simp; omega) ?_
   ·exact h3.append (fun z hz=>by simp at hz; omega)
   ·have hlen:(s ++ [d]).length=s.length+1:=by simp
    rw [hlen,Zbw,Zaq ga,hby]
    simp only [val,Nat.mul_zero,Nat.add_zero]
    have e:4294967296 ^ s.length*x+4294967296 ^ (s.length+1)*c'=4294967296 ^ s.length*d+4294967296 ^ s.length*y+4294967296 ^ s.length*c:=by
     rw [Nat.pow_succ,Nat.mul_assoc, ← Nat.mul_add,hw,Nat.mul_add,Nat.mul_add]
    omega
   ·rw [Zcx,Yhr (by omega)]
    exact Zab _ (by simp only [Has,q1,q2,q3,q4,q5,q6]; simp)
  simp only [go_sem,Zo8,Z2f,Z41,Z4c,Z26,Zxt,Zz3,Zae,hp,hnn,Zal ga]
  refine ⟨fun hb1=>?_,fun hb1=>?_⟩
  ·have gb:=getElem?_getD (show s.length<b.length by omega)
   simp only [go_sem,hnn,hp,Zal ga,Zal gb]
   obtain ⟨d,c',hd,hc',hw,hs⟩:=Yaa x (b.getD s.length 0) c hga (hb.get gb) h2
   refine Zus hs (ids := []) (by simp only [go_sem]) (.inl rfl) (fun b hb=>by simp at hb) ?_
   simp only [go_sem,e2]
   rw [Za6 (by rw [rset]; omega)]
   exact ⟨hnn,by omega,by rw [rset]; omega,fin _ d c' hd hc' hw (Zaq gb) _ (by simp only [go_sem]) (by simp only [go_sem]) (by simp only [go_sem]) (by simp only [go_sem]) (by simp only [go_sem]) (by simp only [go_sem])⟩
  ·obtain ⟨d,c',hd,hc',hw,hs⟩:=Yaa x 0 c hga (by omega) h2
   refine Zus hs (ids := []) (by simp only [go_sem]; rfl) (.inl rfl) (fun b hb=>by simp at hb) ?_
   simp only [go_sem,e2]
   rw [Za6 (by rw [rset]; omega)]
   have hb0:val (b.take (s.length+1))=val (b.take s.length)+4294967296 ^ s.length*0:=by
    rw [Zby (by omega),Zby (by omega)]; omega
   exact ⟨hnn,by omega,by rw [rset]; omega,fin 0 d c' hd hc' hw hb0 _ (by simp only [go_sem]) (by simp only [go_sem]) (by simp only [go_sem]) (by simp only [go_sem]) (by simp only [go_sem]) (by simp only [go_sem])⟩
 ·have hsa:s.length=a.length:=by omega
  have hp:¬ (s.length:Int)<(a.length:Int):=by omega
  simp only [go_sem,Zo8,hp,Zx6]
  rw [← hsa,Yhe rfl]
  refine Zjb (ids := [0]) (Zc5 s (by omega)) ?_ ?_
  ·simp only [go_sem]
   exact Zdq rfl (by simp) rfl (by rw [List.drop_zero,List.take_of_length_le (by rw [Zae]; omega)])
  ·simp only [go_sem]
   rw [hsa,Zby (by omega),Zby (by omega)] at h4
   have hlt:=Zz2 h3
   rw [hsa] at hlt
   have hc0:c=0:=by
    rcases Nat.eq_zero_or_pos c with h | h
    ·exact h
    ·have:c=1:=by omega
     subst this
     omega
   subst hc0
   have hv:val s=val a - val b:=by omega
   rw [← hv,Zc3 h3]
end GoAbs
namespace GoAbs
open Go Go.Proofs
theorem Ybt:∀ {l:List Nat}{i x v:Nat},l[i]? = some x→val (l.set i v)+4294967296 ^ i*x=val l+4294967296 ^ i*v
 | [],i,x,v,h=>by simp at h
 | y::l,0,x,v,h=>by
  simp at h; subst h
  simp only [List.set_cons_zero,val,Nat.pow_zero,Nat.one_mul]; omega
 | y::l,i+1,x,v,h=>by
  have ih:=Ybt (l:=l) (i:=i) (x:=x) (v:=v) (by simpa using h)
  simp only [List.set_cons_succ,val,Nat.pow_succ]
  rw [Nat.mul_comm (4294967296 ^ i) 4294967296,Nat.mul_assoc,Nat.mul_assoc]
  omega
theorem Ok32.set {l:List Nat}(h:Ok32 l) {i v:Nat}(hv:v<4294967296):Ok32 (l.set i v):=fun x hx=>by
 rcases List.mem_or_eq_of_mem_set hx with h1 | rfl
 ·exact h x h1
 ·exact hv
def Zer (l:List Nat) (k:Nat):Prop:=∀ i x,k≤i→l[i]? = some x→x=0
theorem Y4f {x y o c:Nat}(hx:x<4294967296) (hy:y<4294967296) (ho:o<4294967296) (hc:c<4294967296) :
  ∃ t d c':Nat,t=x*y+o+c∧x*y<18446744073709551616∧x*y+o<18446744073709551616∧t<18446744073709551616∧d=t % 4294967296∧c'=t / 4294967296∧d<4294967296∧c'<4294967296∧d+4294967296*c'=x*y+o+c:=by
 have h:x*y≤4294967295*4294967295:=Nat.mul_le_mul (by omega) (by omega)
 exact ⟨_,_,_,rfl,by omega,by omega,by omega,rfl,rfl,by omega,by omega,by omega⟩
theorem Yoc {a b o:List Nat}{n x:Nat}(hb:Ok32 b) (ho:Ok32 o) (hlen:o.length=a.length+b.length) (hla:a.length≤549755813888) (hlb:b.length≤549755813888) (hn:n<a.length)
  (hx:a[n]? = some x) (hx32:x<4294967296) (hz:Zer o (n+b.length)) {K:Ex→St→Prop}
  (hK:∀ o' c,o'.length=o.length→Ok32 o'→c<4294967296→Zer o' (n+b.length)→val o'+4294967296 ^ (n+b.length)*c=val o+4294967296 ^ n*(x*val b) →
   ∀ e:Nat→AV,e 0 = .sl (u32c a)→e 1 = .sl (u32c b)→e 5 = .osl none 0 0 (a.length+b.length)→e 6 = .int .i64 (n:Int)→e 8 = .int .u64 (c:Int)→e 18 = .sl (u32c a)→e 19 = .int .i64 (a.length:Int)→e 20 = .int .i64 (n:Int) →
   K (.exit 2) ⟨e,[.cells (u32c o')]⟩) :
  T Tryz.prog 68 0 (.loop Zpf) ⟨envL [(0,.sl (u32c a)),(1,.sl (u32c b)),(5,.osl none 0 0 (a.length+b.length)),(6,.int .i64 (n:Int)),(7,.int .u32 (x:Int)),(8,.int .u64 0),(18,.sl (u32c a)),(19,.int .i64 (a.length:Int)),(20,.int .i64 (n:Int)),(25,.sl (u32c b)),(26,.int .i64 (b.length:Int)),(27,.int .i64 0)],[.cells (u32c o)]⟩ K:=by
 refine Zaf (fun z:Nat×List Nat×Nat=>⟨envL [(0,.sl (u32c a)),(1,.sl (u32c b)),(5,.osl none 0 0 (a.length+b.length)),(6,.int .i64 (n:Int)),(7,.int .u32 (x:Int)),(8,.int .u64 (z.2.2:Int)),(18,.sl (u32c a)),(19,.int .i64 (a.length:Int)),(20,.int .i64 (n:Int)),(25,.sl (u32c b)),(26,.int .i64 (b.length:Int)),(27,.int .i64 (z.1:Int))],[.cells (u32c z.2.1)]⟩)
  (fun z=>z.1≤b.length∧z.2.1.length=o.length∧Ok32 z.2.1∧z.2.2<4294967296∧Zer z.2.1 (n+b.length)∧val z.2.1+4294967296 ^ (n+z.1)*z.2.2=val o+4294967296 ^ n*(x*val (b.take z.1))) (fun z=>b.length - z.1) (0,o,0)
  ⟨by simp,rfl,ho,by simp,hz,by simp [val]⟩ (Zab _ (by simp [go_sem])) (fun z hI N hN=>?_)
 obtain ⟨j,o1,c⟩:=z
 obtain ⟨h1,h2,h3,h4,h5,h6⟩:=hI
 simp only at h1 h2 h3 h4 h5 h6 ⊢
 unfold Zpf
 have hnn:(0:Int)≤(n:Int):=by omega
 by_cases hj:j<b.length
 ·have gb:=getElem?_getD hj
  have hgb:=hb.get gb
  generalize hy:b.getD j 0=y at gb hgb
  have go:=getElem?_getD (show n+j<o1.length by omega)
  have hgo:=h3.get go
  generalize hw:o1.getD (n+j) 0=w at go hgo
  obtain ⟨t,d,c',ht,k1,k2,k3,hd,hc',k4,k5,k6⟩:=Y4f hx32 hgb hgo h4
  have hp:(j:Int)<(b.length:Int):=by omega
  have hjj:(0:Int)≤(j:Int):=by omega
  have e1:IntKind.u64.wrap (x:Int)=x:=Za5 (by omega) (by omega)
  have e2:IntKind.u64.wrap (y:Int)=y:=Za5 (by omega) (by omega)
  have e3:IntKind.u64.wrap ((x:Int)*y)=(x*y:Nat):=by rw [← Int.natCast_mul,Za5 (by omega) (by omega)]
  have e4:IntKind.i64.wrap ((n:Int)+j)=(n+j:Nat):=by rw [Zac (by omega) (by omega)]; omega
  have e5:IntKind.u64.wrap (w:Int)=w:=Za5 (by omega) (by omega)
  have e6:IntKind.u64.wrap (((x*y:Nat):Int)+w)=(x*y+w:Nat):=by rw [← Int.natCast_add,Za5 (by omega) (by omega)]
  have e7:IntKind.u64.wrap (((x*y+w:Nat):Int)+c)=(t:Nat):=by rw [← Int.natCast_add, ← ht,Za5 (by omega) (by omega)]
  have e8:IntKind.u32.wrap (t:Int)=(d:Nat):=by rw [Z0v,hd]
  have e9:shrI .u64 (t:Int) 32=(c':Nat):=by
   have h32:(32:Int)=((32:Nat):Int):=rfl
   rw [h32,Ze7 _ _ _ (by decide),hc']
  have e10:IntKind.i64.wrap ((j:Int)+1)=(j+1:Nat):=by rw [Zac (by omega) (by omega)]; omega
  have hnj:(0:Int)≤((n+j:Nat):Int):=by omega
  have hnj2:((n+j:Nat):Int)<((a.length+b.length:Nat):Int):=by omega
  have hl1:n+j+1≤(u32c o1).length:=by rw [Zae]; omega
  simp only [go_sem,Zph,Z12,Zyx,Zzq,Zx7,hp,hjj,Zal gb,e1,e2,e3,e4,hnj,hnj2,List.getElem?_drop,Zal go,e5,e6,e7,e8,e9,e10,hl1]
  rw [Za6 (by omega),Zcx]
  refine hN (j+1,o1.set (n+j) d,c') _ ⟨hj,by simp [h2],h3.set k4,k5,?_,?_⟩ (by show b.length - (j+1)<b.length - j; omega) ?_
  rotate_left 2
  ·exact Zab _ (by simp only [go_sem])
  ·intro i v hi hv
   rw [List.getElem?_set_ne (by omega)] at hv
   exact h5 i v hi hv
  ·have hs:=Ybt (v:=d) go
   have ht2:=Zaq gb
   simp only
   rw [ht2]
   have p1:4294967296 ^ (n+(j+1))*c'=4294967296 ^ (n+j)*(4294967296*c'):=by rw [← Nat.add_assoc,Nat.pow_succ,Nat.mul_assoc]
   have p2:4294967296 ^ (n+j)*(d+4294967296*c')=4294967296 ^ (n+j)*(x*y)+4294967296 ^ (n+j)*w+4294967296 ^ (n+j)*c:=by rw [k6,Nat.mul_add,Nat.mul_add]
   have p3:4294967296 ^ n*(x*(val (b.take j)+4294967296 ^ j*y))=4294967296 ^ n*(x*val (b.take j))+4294967296 ^ (n+j)*(x*y):=by
    rw [Nat.mul_add,Nat.mul_add,Nat.pow_add]
    congr 1
    rw [Nat.mul_assoc,Nat.mul_left_comm x]
   rw [Nat.mul_add] at p2
   rw [p1,p3]
   omega
 ·have hjb:j=b.length:=by omega
  subst hjb
  have hp:¬ ((b.length:Nat):Int)<(b.length:Int):=by omega
  simp only [go_sem,Zph,hp]
  rw [List.take_length] at h6
  exact hK o1 c h2 h3 h4 h5 h6 _ (by simp only [go_sem]) (by simp only [go_sem]) (by simp only [go_sem]) (by simp only [go_sem]) (by simp only [go_sem]) (by simp only [go_sem]) (by simp only [go_sem]) (by simp only [go_sem])
theorem Yfl {a b:List Nat}(ha:Ok32 a) (hb:Ok32 b) (hla:a.length≤549755813888) (hlb:b.length≤549755813888) :
  SpecV Tryz.prog Yar [.sl (u32c a),.sl (u32c b)] (.sl (u32c (limbs (val a*val b)))):=by
 refine Zad Ym1 (by simp) ?_
 unfold Ygv
 have e1:IntKind.i64.wrap ((a.length:Int)+b.length)=(a.length+b.length:Nat):=by rw [Zac (by omega) (by omega)]; omega
 simp only [go_sem,Z2l,Z4s,Z34,Zae,Zp1,e1]
 refine ⟨by omega,by omega,by omega,?_⟩
 refine Zaf (fun z:Nat×List Nat=>⟨envL [(0,.sl (u32c a)),(1,.sl (u32c b)),(5,.osl none 0 0 (a.length+b.length)),(18,.sl (u32c a)),(19,.int .i64 (a.length:Int)),(20,.int .i64 (z.1:Int))],[.cells (u32c z.2)]⟩)
  (fun z=>z.1≤a.length∧z.2.length=a.length+b.length∧Ok32 z.2∧Zer z.2 (z.1+b.length)∧val z.2=val (a.take z.1)*val b) (fun z=>a.length - z.1) (0,List.replicate (a.length+b.length) 0)
  ⟨by simp,by simp,Ok32.rep,fun i x _ hx=>(List.mem_replicate.1 (List.mem_of_getElem? hx)).2,by simp [val,Ymq]⟩ (Zab _ (by simp [go_sem])) (fun z hI N hN=>?_)
 obtain ⟨n,o⟩:=z
 obtain ⟨h1,h2,h3,h4,h5⟩:=hI
 simp only at h1 h2 h3 h4 h5 ⊢
 unfold Z1u
 by_cases hn:n<a.length
 ·have ga:=getElem?_getD hn
  have hga:=ha.get ga
  generalize hx:a.getD n 0=x at ga hga
  have hp:(n:Int)<(a.length:Int):=by omega
  have hnn:(0:Int)≤(n:Int):=by omega
  simp only [go_sem,Zpo,Z3r,Z4a,Z4m,Zae,hp,hnn,Zal ga]
  refine Zar [(0,.sl (u32c a)),(1,.sl (u32c b)),(5,.osl none 0 0 (a.length+b.length)),(6,.int .i64 (n:Int)),(7,.int .u32 (x:Int)),(8,.int .u64 0),(18,.sl (u32c a)),(19,.int .i64 (a.length:Int)),(20,.int .i64 (n:Int)),(25,.sl (u32c b)),(26,.int .i64 (b.length:Int)),(27,.int .i64 0)]
   (by simp only [go_sem]) (Yoc hb h3 h2 hla hlb hn ga hga h4 (fun o' c g1 g2 g3 g4 g5 e q1 q2 q3 q4 q5 q6 q7 q8=>?_))
  have e2:IntKind.i64.wrap ((n:Int)+b.length)=(n+b.length:Nat):=by rw [Zac (by omega) (by omega)]; omega
  have e3:IntKind.u32.wrap (c:Int)=c:=Zf9 (by omega) (by omega)
  have e4:IntKind.i64.wrap ((n:Int)+1)=(n+1:Nat):=by rw [Zac (by omega) (by omega)]; omega
  have hnb:(0:Int)≤((n+b.length:Nat):Int):=by omega
  have hnb2:((n+b.length:Nat):Int)<((a.length+b.length:Nat):Int):=by omega
  have hl1:n+b.length+1≤(u32c o').length:=by rw [Zae]; omega
  simp only [go_sem,Zza,Zy2,q1,q2,q3,q4,q5,q6,q7,q8,Zae,e2,e3,e4,hnb,hnb2]
  rw [Za6 (by omega),Zcx]
  refine ⟨by omega,hN (n+1,o'.set (n+b.length) c) _ ⟨hn,by simp [g1,h2],g2.set g3,?_,?_⟩ (by show a.length - (n+1)<a.length - n; omega) ?_⟩
  rotate_left 2
  ·exact Zab _ (by simp only [go_sem,q1,q2,q3,q4,q5,q6,q7,q8])
  ·intro i v hi hv
   rw [List.getElem?_set_ne (by omega)] at hv
   exact g4 i v (by omega) hv
  ·have go:=getElem?_getD (show n+b.length<o'.length by omega)
   have hz:=g4 _ _ (Nat.le_refl _) go
   rw [hz] at go
   have hs:=Ybt (v:=c) go
   have ht2:=Zaq ga
   simp only
   rw [ht2,Nat.add_mul, ← h5]
   have p:4294967296 ^ n*x*val b=4294967296 ^ n*(x*val b):=Nat.mul_assoc _ _ _
   omega
 ·have hna:n=a.length:=by omega
  subst hna
  have hp:¬ ((a.length:Nat):Int)<(a.length:Int):=by omega
  simp only [go_sem,Zpo,hp,Zzh]
  refine Zjb (ids := [0]) (Zc5 o (by omega)) ?_ ?_
  ·simp only [go_sem]
   exact Zdq rfl (by simp) (by omega) (by rw [List.drop_zero,List.take_of_length_le (by rw [Zae]; omega)])
  ·simp only [go_sem]
   rw [List.take_length] at h5
   rw [← h5,Zc3 h3]
end GoAbs
namespace GoAbs
open Go Go.Proofs
theorem Yq3 {x y:Nat}(hy:y<4294967296):x*4294967296 ||| y=x*4294967296+y:=by
 have:=Nat.two_pow_add_eq_or_of_lt (b:=y) (i:=32) (by omega) x
 rw [Nat.mul_comm (2 ^ 32) x] at this
 exact this.symm
theorem Z16 {l:List Nat}{m x:Nat}(h:l[m]? = some x):val (l.drop m)=x+4294967296*val (l.drop (m+1)):=by
 have hm:m<l.length:=(List.getElem?_eq_some_iff.1 h).1
 rw [List.drop_eq_getElem_cons hm,val]
 have:l[m]=x:=(List.getElem?_eq_some_iff.1 h).2
 rw [this]
theorem Z7g {l:List Nat}{m v:Nat}(h:m<l.length):val ((l.set m v).drop m)=v+4294967296*val (l.drop (m+1)):=by
 rw [Z16 (x:=v) (by simp [h])]
 congr 2
 rw [List.drop_set_of_lt (by omega)]
theorem Y3i {r w v:Nat}(hr:r<w) (hw:w<4294967296) (hv:v<4294967296) :
  ∃ t q r':Nat,t=r*4294967296+v∧t<18446744073709551616∧q=t / w∧r'=t % w∧q<4294967296∧r'<w∧q*w+r'=r*4294967296+v:=by
 have h1:r*4294967296+v<w*4294967296:=by
  have:(r+1)*4294967296≤w*4294967296:=Nat.mul_le_mul_right _ hr
  omega
 refine ⟨_,_,_,rfl,?_,rfl,rfl,?_,Nat.mod_lt _ (by omega),by rw [Nat.mul_comm]; exact Nat.div_add_mod _ _⟩
 ·have:w*4294967296≤4294967295*4294967296:=Nat.mul_le_mul_right _ (by omega)
  omega
 ·rw [Nat.div_lt_iff_lt_mul (by omega)]; omega
theorem Ycs {a:List Nat}{w:Nat}(ha:Ok32 a) (hla:a.length≤549755813888) (hw0:0<w) (hw:w<4294967296) :
  SpecV Tryz.prog Ymo [.sl (u32c a),.int .u32 (w:Int)] (.tup [.sl (u32c (limbs (val a / w))),.int .u32 ((val a % w:Nat):Int)]):=by
 refine Zad Yja (by simp) ?_
 unfold Ydc
 simp only [go_sem,Zxf,Zxp,Zyi,Zzw,Zae,Zp1]
 refine ⟨by omega,by omega,by omega,?_⟩
 refine Zaf (fun z:Nat×List Nat×Nat=>⟨envL [(0,.sl (u32c a)),(1,.int .u32 (w:Int)),(6,.osl none 0 0 a.length),(7,.int .u64 (z.2.2:Int)),(8,.int .i64 ((z.1:Int) - 1))],[.cells (u32c z.2.1)]⟩)
  (fun z=>z.1≤a.length∧z.2.1.length=a.length∧Ok32 z.2.1∧z.2.2<w∧val (z.2.1.drop z.1)*w+z.2.2=val (a.drop z.1)) (fun z=>z.1) (a.length,List.replicate a.length 0,0)
  ⟨Nat.le_refl _,by simp,Ok32.rep,hw0,by simp [val]⟩ (Zab _ (by simp only [go_sem]; rw [Zac (by omega) (by omega)]; exact ⟨rfl,rfl⟩)) (fun z hI N hN=>?_)
 obtain ⟨n,o,r⟩:=z
 obtain ⟨h1,h2,h3,h4,h5⟩:=hI
 simp only at h1 h2 h3 h4 h5 ⊢
 unfold Zy4
 cases n with
 | zero =>
  have hp:¬ (0:Int)≤((0:Nat):Int) - 1:=by omega
  have e1:IntKind.u32.wrap (r:Int)=r:=Zf9 (by omega) (by omega)
  simp only [go_sem,Zm3,hp,Zxq,e1]
  refine Zjb (ids := [0]) (Zc5 o (by omega)) ?_ ?_
  ·simp only [go_sem]
   exact Zdq rfl (by simp) (by omega) (by rw [List.drop_zero,List.take_of_length_le (by rw [Zae]; omega)])
  ·simp only [go_sem,e1]
   rw [List.drop_zero,List.drop_zero] at h5
   have hq:val a / w=val o:=by rw [← h5,Nat.mul_comm,Nat.mul_add_div hw0,Nat.div_eq_of_lt h4,Nat.add_zero]
   have hr:val a % w=r:=by rw [← h5,Nat.mul_comm,Nat.mul_add_mod,Nat.mod_eq_of_lt h4]
   rw [hq,hr,Zc3 h3]
   exact ⟨rfl,rfl⟩
 | succ m =>
  have ga:=getElem?_getD (show m<a.length by omega)
  have hga:=ha.get ga
  generalize hv:a.getD m 0=v at ga hga
  obtain ⟨t,q,r',ht,k1,hq,hr',k2,k3,k4⟩:=Y3i h4 hw hga
  have e0:(((m+1:Nat):Int) - 1)=(m:Int):=by omega
  have hnn:(0:Int)≤(m:Int):=by omega
  have hmo:(m:Int)<(a.length:Int):=by omega
  have h32:(32:Int)=((32:Nat):Int):=rfl
  have e1:shlI .u64 (r:Int) 32=(r*4294967296:Nat):=by
   rw [h32,Ztl _ _ (by omega),Nat.mod_eq_of_lt (by omega)]
  have e2:IntKind.u64.wrap (v:Int)=v:=Za5 (by omega) (by omega)
  have e3:orI .u64 ((r*4294967296:Nat):Int) (v:Int)=(t:Nat):=by rw [or64 (by omega) (by omega),Yq3 hga,ht]
  have e4:IntKind.u64.wrap (w:Int)=w:=Za5 (by omega) (by omega)
  have e5:IntKind.u64.wrap ((t:Int).tdiv (w:Int))=(q:Nat):=by
   rw [Int.tdiv_eq_ediv_of_nonneg (by omega), ← Int.natCast_ediv, ← hq,Za5 (by omega) (by omega)]
  have e6:IntKind.u32.wrap (q:Int)=q:=Zf9 (by omega) (by omega)
  have e7:(t:Int).tmod (w:Int)=(r':Nat):=by rw [Int.tmod_eq_emod_of_nonneg (by omega), ← Int.natCast_emod, ← hr']
  have e8:IntKind.i64.wrap ((m:Int) - 1)=(m:Int) - 1:=Zac (by omega) (by omega)
  have hw1:¬ (w:Int)=0:=by omega
  have hl:m+1≤(u32c o).length:=by rw [Zae]; omega
  simp only [go_sem,Zm3,Zyz,Zm9,Zzn,e0,hnn,hmo,Zal ga,e1,e2,e3,e4,e5,e6,e7,e8,hw1,hl]
  rw [Za6 (by omega),Zcx]
  refine hN (m,o.set m q,r') _ ⟨by omega,by simp [h2],h3.set k2,k3,?_⟩ (by show m<m+1; omega) ?_
  rotate_left 1
  ·exact Zab _ (by simp only [go_sem])
  ·simp only
   rw [Z7g (by omega),Z16 ga]
   rw [Nat.add_mul,Nat.mul_assoc]
   omega
end GoAbs
namespace GoAbs
open Go Go.Proofs
def fixL:Nat→Nat→List Nat
 | 0,_ => []
 | k+1,n=>n % 4294967296::fixL k (n / 4294967296)
theorem Zpj:∀ (k n:Nat),(fixL k n).length=k
 | 0,_=>rfl
 | k+1,n=>by simp [fixL,Zpj k]
theorem Yc4:∀ (k n:Nat),Ok32 (fixL k n)
 | 0,_=>fun x hx=>by simp [fixL] at hx
 | k+1,n=>fun x hx=>by
  rcases List.mem_cons.1 hx with rfl | hx
  ·omega
  ·exact Yc4 k _ x hx
theorem Yhu:∀ {l:List Nat},Ok32 l→fixL l.length (val l)=l
 | [],_=>rfl
 | x::l,h=>by
  have hx:=h x (by simp)
  have ih:=Yhu (l:=l) (fun y hy=>h y (by simp [hy]))
  simp only [List.length_cons,fixL,val]
  have h1:(x+4294967296*val l) % 4294967296=x:=by omega
  have h2:(x+4294967296*val l) / 4294967296=val l:=by omega
  rw [h1,h2,ih]
theorem Z92:∀ (k n:Nat),val (fixL k n)=n % 4294967296 ^ k
 | 0,n=>by simp [fixL,val,Nat.mod_one]
 | k+1,n=>by
  rw [fixL,val,Z92 k,Nat.pow_succ,Nat.mul_comm (4294967296 ^ k),Nat.mod_mul]
theorem Xa6 {v n c:Nat}(hv:v<4294967296) (hn:n<32) (hc:c<2 ^ n) :
  ∃ t lo hi:Nat,t=v*2 ^ n∧t<18446744073709551616∧lo=t % 4294967296∧hi=t / 4294967296∧hi<2 ^ n∧(c ||| lo)=c+lo∧c+lo<4294967296∧lo<4294967296∧hi<4294967296∧c<4294967296∧lo+4294967296*hi=v*2 ^ n:=by
 have hp:(2:Nat) ^ n≤2 ^ 31:=Nat.pow_le_pow_right (by omega) (by omega)
 have hp0:0<(2:Nat) ^ n:=Nat.pow_pos (by omega)
 have h1:v*2 ^ n<4294967296*2 ^ n:=Nat.mul_lt_mul_of_pos_right hv hp0
 have h2:v*2 ^ n / 4294967296<2 ^ n:=by rw [Nat.div_lt_iff_lt_mul (by omega)]; omega
 have h32:(4294967296:Nat)=2 ^ n*2 ^ (32 - n):=by rw [← Nat.pow_add]; rw [show n+(32 - n)=32 by omega]
 have hlo:v*2 ^ n % 4294967296=2 ^ n*(v % 2 ^ (32 - n)):=by
  rw [h32,Nat.mul_comm v,Nat.mul_mod_mul_left]
 have hor:c ||| (v*2 ^ n % 4294967296)=c+v*2 ^ n % 4294967296:=by
  rw [hlo,Nat.or_comm, ← Nat.two_pow_add_eq_or_of_lt hc,Nat.add_comm]
 have hlt:c+v*2 ^ n % 4294967296<4294967296:=by
  rw [hlo]
  have h3:v % 2 ^ (32 - n)+1≤2 ^ (32 - n):=Nat.mod_lt _ (Nat.pow_pos (by omega))
  have h4:2 ^ n*(v % 2 ^ (32 - n)+1)≤2 ^ n*2 ^ (32 - n):=Nat.mul_le_mul_left _ h3
  rw [← h32,Nat.mul_add] at h4
  omega
 exact ⟨_,_,_,rfl,by omega,rfl,rfl,h2,hor,hlt,by omega,by omega,by omega,by omega⟩
theorem Y4z {p V0 V1 V2 B c lo hh:Nat}(h1:V1+p*c=V0+p*(c+lo)) (h2:V2+p*B*0=V1+p*B*hh):V2=V0+p*(lo+B*hh):=by
 rw [Nat.mul_add] at h1
 rw [Nat.mul_assoc p B hh] at h2
 rw [Nat.mul_add]
 omega
theorem Yxh {a:List Nat}{n:Nat}(ha:Ok32 a) (hla:a.length≤549755813888) (hn:n<32) {Q:Ex→St→Prop}
  (hQ:∀ e:Nat→AV,e 4 = .osl none 0 0 (a.length+1)→Q .ret ⟨e,[.cells (u32c (fixL (a.length+1) (val a*2 ^ n)))]⟩) :
  W Tryz.prog 41 0 Yo8 ⟨argE [.sl (u32c a),.int .i64 (n:Int)],[]⟩ Q:=by
 unfold Yo8
 have e1:IntKind.i64.wrap ((a.length:Int)+1)=(a.length+1:Nat):=by rw [Zac (by omega) (by omega)]; omega
 simp only [go_sem,Yg2,Yg1,Yf2,Zae,Zp1,e1]
 refine ⟨by omega,by omega,by omega,?_⟩
 have hp:(2:Nat) ^ n≤2 ^ 31:=Nat.pow_le_pow_right (by omega) (by omega)
 have hp0:0<(2:Nat) ^ n:=Nat.pow_pos (by omega)
 refine Zaf (fun z:Nat×List Nat=>⟨envL [(0,.sl (u32c a)),(1,.int .i64 (n:Int)),(5,.osl none 0 0 (a.length+1)),(13,.sl (u32c a)),(14,.int .i64 (a.length:Int)),(15,.int .i64 (z.1:Int))],[.cells (u32c z.2)]⟩)
  (fun z=>z.1≤a.length∧z.2.length=a.length+1∧Ok32 z.2∧Zer z.2 (z.1+1)∧z.2.getD z.1 0<2 ^ n∧val z.2=val (a.take z.1)*2 ^ n) (fun z=>a.length - z.1) (0,List.replicate (a.length+1) 0)
  ⟨by simp,by simp,Ok32.rep,fun i x _ hx=>(List.mem_replicate.1 (List.mem_of_getElem? hx)).2,by simp [List.replicate_succ]; exact hp0,by simp [val,Ymq]⟩ (Zab _ (by simp only [go_sem]; rfl)) (fun z hI N hN=>?_)
 obtain ⟨i,o⟩:=z
 obtain ⟨h1,h2,h3,h4,h5,h6⟩:=hI
 simp only at h1 h2 h3 h4 h5 h6 ⊢
 unfold Ygo
 by_cases hi:i<a.length
 ·have ga:=getElem?_getD hi
  have hga:=ha.get ga
  generalize hv:a.getD i 0=v at ga hga
  have go:=getElem?_getD (show i<o.length by omega)
  generalize hc:o.getD i 0=c at go h5
  obtain ⟨t,lo,hh,ht,k1,hlo,hhh,k2,k3,k4,k5,k6,k7,k8⟩:=Xa6 hga hn h5
  have hpi:(i:Int)<(a.length:Int):=by omega
  have hnn:(0:Int)≤(i:Int):=by omega
  have hn0:(0:Int)≤(n:Int):=by omega
  have e2:IntKind.u64.wrap (v:Int)=v:=Za5 (by omega) (by omega)
  have e3:shlI .u64 (v:Int) (n:Int)=(t:Nat):=by rw [Ztl _ _ (by omega), ← ht,Nat.mod_eq_of_lt k1]
  have e4:IntKind.u32.wrap (t:Int)=(lo:Nat):=by rw [Z0v,hlo]
  have e5:orI .u32 (c:Int) (lo:Int)=(c+lo:Nat):=by rw [or32 (by omega) (by omega),k3]
  have e6:IntKind.i64.wrap ((i:Int)+1)=(i+1:Nat):=by rw [Zac (by omega) (by omega)]; omega
  have e7:shrI .u64 (t:Int) 32=(hh:Nat):=by
   have h32:(32:Int)=((32:Nat):Int):=rfl
   rw [h32,Ze7 _ _ _ (by decide),hhh]
  have e8:IntKind.u32.wrap (hh:Int)=(hh:Nat):=Zf9 (by omega) (by omega)
  have hb1:(i:Int)<((a.length+1:Nat):Int):=by omega
  have hb2:((i+1:Nat):Int)<((a.length+1:Nat):Int):=by omega
  have hb3:(0:Int)≤((i+1:Nat):Int):=by omega
  have hl1:i+1≤(u32c o).length:=by rw [Zae]; omega
  simp only [go_sem,Z5l,Yfv,Ye6,Yfh,Yf3,Yfu,hpi,hnn,hn0,Zal ga,List.getElem?_drop,Zal go,e2,e3,e4,e5,e6,e7,e8,hb1,hb2,hb3,hl1]
  rw [Za6 (by omega),Zcx,Za6 (by rw [Zae,List.length_set]; omega),Zcx]
  refine ⟨by rw [Zae,List.length_set]; omega,hN (i+1,(o.set i (c+lo)).set (i+1) hh) _ ⟨hi,by simp [h2],(h3.set k4).set k6,?_,?_,?_⟩ (by show a.length - (i+1)<a.length - i; omega) ?_⟩
  rotate_left 3
  ·exact Zab _ (by simp only [go_sem])
  ·intro j x hj hx
   rw [List.getElem?_set_ne (by omega),List.getElem?_set_ne (by omega)] at hx
   exact h4 j x (by omega) hx
  ·simp only
   rw [List.getD_eq_getElem?_getD,List.getElem?_set_self (by rw [List.length_set]; omega)]
   exact k2
  ·have go2:=getElem?_getD (show i+1<o.length by omega)
   have hz:=h4 _ _ (Nat.le_refl _) go2
   rw [hz] at go2
   have s1:=Ybt (v:=c+lo) go
   have s2:=Ybt (l:=o.set i (c+lo)) (i:=i+1) (x:=0) (v:=hh) (by rw [List.getElem?_set_ne (by omega)]; exact go2)
   rw [Nat.pow_succ] at s2
   have s3:=Y4z s1 s2
   have ht2:=Zaq ga
   simp only
   rw [s3,ht2,Nat.add_mul,h6,k8,Nat.mul_assoc]
 ·have hia:i=a.length:=by omega
  subst hia
  have hp:¬ ((a.length:Nat):Int)<(a.length:Int):=by omega
  simp only [go_sem,Z5l,hp,Ycf]
  rw [List.take_length] at h6
  have hf:o=fixL (a.length+1) (val a*2 ^ n):=by rw [← h6, ← h2,Yhu h3]
  rw [hf]
  exact hQ _ (by simp only [go_sem])
theorem Y7w {a:List Nat}{n:Nat}(ha:Ok32 a) (hla:a.length≤549755813888) (hn:n<32) :
  SpecV Tryz.prog Yp2 [.sl (u32c a),.int .i64 (n:Int)] (.sl (u32c (fixL (a.length+1) (val a*2 ^ n)))):=by
 refine Zad Yld (by simp) (Yxh ha hla hn (fun e he=>?_))
 simp only [go_sem,he]
 exact Zdq rfl (by simp [allOf]) (Zpj _ _) (by rw [List.drop_zero,List.take_of_length_le (by rw [Zae,Zpj]; omega)])
theorem Xet {a:List Nat}{n:Nat}(ha:Ok32 a) (hla:a.length≤549755813888) (hn:n<32) :
  SpecR Tryz.prog Yp2 [] [.sl (u32c a),.int .i64 (n:Int)] (.osl none 0 0 (a.length+1)) [.cells (u32c (fixL (a.length+1) (val a*2 ^ n)))]:=by
 refine Z05 Yld (by simp) (Yxh ha hla hn (fun e he=>?_))
 simp only [go_sem,he]
theorem Ywq {v y n:Nat}(hv:v<4294967296) (hy:y<4294967296) (hn:n<32) :
  ∃ t d:Nat,t=y*4294967296+v∧t<18446744073709551616∧(v ||| y*4294967296)=t∧d=t / 2 ^ n % 4294967296∧d<4294967296:=by
 refine ⟨_,_,rfl,by omega,?_,rfl,by omega⟩
 rw [Nat.or_comm,Yq3 hv]
theorem Yyo {l:List Nat}{i v n:Nat}(h:l[i]? = some v) (hok:Ok32 l) (hn:n<32) :
  val (l.drop i) / 2 ^ n=(l.getD (i+1) 0*4294967296+v) / 2 ^ n % 4294967296+4294967296*(val (l.drop (i+1)) / 2 ^ n):=by
 have hv:=hok.get h
 rw [Z16 h]
 have hrest:val (l.drop (i+1))=l.getD (i+1) 0+4294967296*val (l.drop (i+2)):=by
  by_cases h2:i+1<l.length
  ·exact Z16 (getElem?_getD h2)
  ·rw [List.drop_eq_nil_of_le (by omega),List.drop_eq_nil_of_le (by omega)]
   simp [List.getD_eq_getElem?_getD,List.getElem?_eq_none (show l.length≤i+1 by omega),val]
 generalize l.getD (i+1) 0=y at hrest ⊢
 generalize val (l.drop (i+1))=V at hrest ⊢
 generalize val (l.drop (i+2))=U at hrest
 have hp0:0<(2:Nat) ^ n:=Nat.pow_pos (by omega)
 have h32:(4294967296:Nat)=2 ^ n*2 ^ (32 - n):=by rw [← Nat.pow_add]; rw [show n+(32 - n)=32 by omega]
 have e1:(v+4294967296*V) / 2 ^ n=(v+4294967296*V) / 2 ^ n % 4294967296+4294967296*((v+4294967296*V) / 2 ^ n / 4294967296):=(Nat.mod_add_div _ _).symm
 have e2:(v+4294967296*V) / 2 ^ n / 4294967296=V / 2 ^ n:=by
  rw [Nat.div_div_eq_div_mul,Nat.mul_comm (2 ^ n), ← Nat.div_div_eq_div_mul]
  congr 1
  omega
 have e3:(v+4294967296*V) / 2 ^ n=(y*4294967296+v) / 2 ^ n+4294967296*(2 ^ (32 - n)*U):=by
  have:v+4294967296*V=(y*4294967296+v)+2 ^ n*(4294967296*(2 ^ (32 - n)*U)):=by
   have:2 ^ n*(4294967296*(2 ^ (32 - n)*U))=4294967296*(4294967296*U):=by
    rw [Nat.mul_left_comm, ← Nat.mul_assoc (2 ^ n), ← h32]
   rw [this,hrest]; omega
  rw [this,Nat.add_mul_div_left _ _ hp0]
 have e4:(v+4294967296*V) / 2 ^ n % 4294967296=(y*4294967296+v) / 2 ^ n % 4294967296:=by
  rw [e3,Nat.add_mul_mod_self_left]
 rw [e1,e2,e4]
end GoAbs
