/- Lemmas for the claim (contracts of the functions that it reaches, and what they compute), without conditions. -/
import Derived.Test.YtiapneoakbealaaGreatK27
import Derived.Test.YtiapneoakbealaaGreatProg
import Derived.KernelRfl
set_option linter.unusedVariables false
set_option linter.unusedSimpArgs false
set_option maxRecDepth 10000
set_option maxHeartbeats 2000000
namespace GoAbs
open Go Go.Proofs
def Zch:List IOp := [oI 2 (.alloc [.bool false,.nils]) 0,oI 3 (.mv (.c (.bool false))) 1]
def Zcp:List IOp := [mI 8 0 0,oI 9 (.slen (.t 8)) 0,oI 10 (.bin .lss (.t 9) (cI 1)) 0,mI 11 10 0,gI 12 (.mv (.t 0)) 0 11 false,gI 13 (.slen (.t 12)) 0 11 false,gI 14 (.bin .gtr (.t 13) (cI 4000)) 0 11 false,oI 15 (.pick (.t 11) (.c (.bool true)) (.t 14)) 0,mI 16 15 0,gI 17 (.mv (.t 0)) 0 16 false,gI 18 (.sidx (.t 17) (cI 0)) 0 16 false,gI 19 (.bin .eql (.t 18) (.c (.int .u8 48))) 0 16 false,gI 20 (.mv (.t 19)) 0 16 false,gI 21 (.mv (.t 0)) 0 20 true,gI 22 (.slen (.t 21)) 0 20 true,gI 23 (.bin .gtr (.t 22) (cI 1)) 0 20 true,gI 24 (.pick (.t 20) (.t 23) (.c (.bool false))) 0 16 false,oI 25 (.pick (.t 16) (.c (.bool true)) (.t 24)) 0]
def Zgv:List IOp := [oI 26 (.build [.bool false,.nils] []) 0,⟨none,.st 2 (.t 2) (.t 26),0,[],[],none⟩,oI 3 (.mv (.c (.bool false))) 0]
def Zmk:List IOp := [oI 27 (.build [.bool false,.nils] []) 0,oI 4 (.alloc [.bool false,.nils]) 0,⟨none,.st 2 (.t 4) (.t 27),1,[],[],none⟩]
def Zms:List IOp := [mI 28 0 0,oI 29 (.slen (.t 28)) 0,mI 5 29 0]
def Zm2:List IOp := [mI 30 5 0,oI 31 (.bin .gtr (.t 30) (cI 0)) 0]
def Zz3:List IOp := [oI 6 (.mv (cI 0)) 0]
def Zyo:List IOp := [mI 34 5 0,oI 35 (.bin .sub (.t 34) (cI 4)) 0,oI 36 (.mx (cI 0) (.t 35)) 0,mI 7 36 0]
def Zdw:List IOp := [mI 37 7 0,mI 38 5 0,oI 39 (.bin .lss (.t 37) (.t 38)) 0]
def Zfy:List IOp := [mI 42 0 0,mI 43 7 0,oI 44 (.sidx (.t 42) (.t 43)) 0,oI 45 (.bin .lss (.t 44) (.c (.int .u8 48))) 0,mI 46 45 0,gI 47 (.mv (.t 0)) 0 46 false,gI 48 (.mv (.t 7)) 0 46 false,gI 49 (.sidx (.t 47) (.t 48)) 0 46 false,gI 50 (.bin .gtr (.t 49) (.c (.int .u8 57))) 0 46 false,oI 51 (.pick (.t 46) (.c (.bool true)) (.t 50)) 0]
def Zj2:List IOp := [oI 52 (.build [.bool false,.nils] []) 0,⟨none,.st 2 (.t 2) (.t 52),0,[],[],none⟩,oI 3 (.mv (.c (.bool false))) 0]
def Zvp:List IOp := [mI 53 6 0,oI 54 (.bin .mul (cI 10) (.t 53)) 0,mI 55 0 0,mI 56 7 0,oI 57 (.sidx (.t 55) (.t 56)) 0,oI 58 (.bin .sub (.t 57) (.c (.int .u8 48))) 0,oI 59 (.cvi .i64 (.t 58)) 0,oI 60 (.bin .add (.t 54) (.t 59)) 0,mI 6 60 0]
def Zth:List IOp := [mI 40 7 0,oI 41 (.bin .add (.t 40) (cI 1)) 0,mI 7 41 0]
def Zmt:CC := .seq (.seq (.rg false Zdw) (.cond (.t 39) .skip (.exit 2))) (.seq (.block 3 (.seq (.seq (.rg false Zfy) (.cond (.t 51) (.seq (.rg false Zj2) .ret) .skip)) (.rg false Zvp))) (.rg false Zth))
def Zvs:List IOp := [fI 61 1 4 0,lI 62 61 0,mI 63 6 0,oI 64 (.bsl none 1 [.int .i64 0] [(0,.t 63)]) 0,oI 65 (.app none 8 (.t 62) (.t 64)) 1,fI 66 1 4 2,⟨none,.st 1 (.t 66) (.t 65),2,[],[],none⟩]
def Zvr:List IOp := [mI 32 5 0,oI 33 (.bin .sub (.t 32) (cI 4)) 0,mI 5 33 0]
def Zhd:CC := .seq (.seq (.rg false Zm2) (.cond (.t 31) .skip (.exit 0))) (.seq (.block 1 (.seq (.rg false Zz3) (.seq (.seq (.rg false Zyo) (.block 2 (.loop Zmt))) (.rg false Zvs)))) (.rg false Zvr))
def Zju:List IOp := [lJ 67 2 4 0,oI 68 (.call 90 [.t 67]) 0,⟨none,.st 2 (.t 2) (.t 68),0,[],[],none⟩,oI 3 (.mv (.c (.bool true))) 0]
def Yco:CC := .seq (.rg false Zch) (.seq (.seq (.rg false Zcp) (.cond (.t 25) (.seq (.rg false Zgv) .ret) .skip)) (.seq (.rg false Zmk) (.seq (.seq (.rg false Zms) (.block 0 (.loop Zhd))) (.seq (.rg false Zju) .ret))))
abbrev Ync:Nat:=86
theorem Yjr:fnOk Tryz.prog 86=some (69,Yco,[.cell 2 (some 2),.tmp 3]):=by kernel_rfl
def Zfn:List IOp := [oI 2 (.alloc [.bool false,.nils,.bool false,.nils]) 0,oI 3 (.mv (.c (.bool false))) 1]
def Zf9:List IOp := [mI 13 0 0,mI 4 13 0,oI 5 (.mv (.c (.bool false))) 0]
def Zfg:List IOp := [mI 14 4 0,oI 15 (.slen (.t 14)) 0,oI 16 (.bin .gtr (.t 15) (cI 8002)) 0]
def Z5m:List IOp := [oI 17 (.build [.bool false,.nils,.bool false,.nils] []) 0,⟨none,.st 4 (.t 2) (.t 17),0,[],[],none⟩,oI 3 (.mv (.c (.bool false))) 0]
def Zjg:List IOp := [mI 18 4 0,oI 19 (.slen (.t 18)) 0,oI 20 (.bin .gtr (.t 19) (cI 0)) 0,mI 21 20 0,gI 22 (.mv (.t 4)) 0 21 true,gI 23 (.sidx (.t 22) (cI 0)) 0 21 true,gI 24 (.bin .eql (.t 23) (.c (.int .u8 45))) 0 21 true,oI 25 (.pick (.t 21) (.t 24) (.c (.bool false))) 0]
def Z5v:List IOp := [mI 26 4 0,oI 27 (.sslc (.t 26) (some (cI 1)) none) 0,mI 4 27 0,oI 5 (.mv (.c (.bool true))) 0]
def Zi5:List IOp := [mI 28 4 0,oI 29 (.slen (.t 28)) 0,mI 6 29 0]
def Zn7:List IOp := [mI 30 4 0,oI 31 (.slen (.t 30)) 0,oI 32 (.bin .sub (.t 31) (cI 1)) 0,mI 7 32 0]
def Zjc:List IOp := [mI 33 7 0,oI 34 (.bin .geq (.t 33) (cI 0)) 0]
def Zl5:List IOp := [mI 37 4 0,mI 38 7 0,oI 39 (.sidx (.t 37) (.t 38)) 0,oI 40 (.bin .eql (.t 39) (.c (.int .u8 47))) 0]
def Zzt:List IOp := [mI 41 7 0,mI 6 41 0]
def Zl6:List IOp := [mI 35 7 0,oI 36 (.bin .sub (.t 35) (cI 1)) 0,mI 7 36 0]
def Ziz:CC := .seq (.seq (.rg false Zjc) (.cond (.t 34) .skip (.exit 0))) (.seq (.block 1 (.seq (.rg false Zl5) (.cond (.t 40) (.rg false Zzt) .skip))) (.rg false Zl6))
def Zgx:List IOp := [mI 43 4 0,mI 44 6 0,oI 45 (.sslc (.t 43) none (some (.t 44))) 0,oI 46 (.call 86 [.t 45]) 0,mI 42 46 0,eI 47 0 42 0,eI 48 1 42 0,oI 8 (.alloc [.bool false,.nils]) 0,⟨none,.st 2 (.t 8) (.t 47),1,[],[],none⟩,mI 9 48 1]
def Zgw:List IOp := [oI 49 (.call 64 [cI 1]) 0,oI 10 (.alloc [.bool false,.nils]) 0,⟨none,.st 2 (.t 10) (.t 49),1,[],[],none⟩]
def Zhf:List IOp := [mI 50 6 0,mI 51 4 0,oI 52 (.slen (.t 51)) 0,oI 53 (.bin .lss (.t 50) (.t 52)) 0]
def Zhc:List IOp := [mI 55 4 0,mI 56 6 0,oI 57 (.bin .add (.t 56) (cI 1)) 0,oI 58 (.sslc (.t 55) (some (.t 57)) none) 0,oI 59 (.call 86 [.t 58]) 0,mI 54 59 0,eI 60 0 54 0,eI 61 1 54 0,oI 11 (.alloc [.bool false,.nils]) 0,⟨none,.st 2 (.t 11) (.t 60),1,[],[],none⟩,mI 12 61 1]
def Zck:List IOp := [mI 62 12 0,oI 63 (.un .not (.t 62)) 0,mI 64 63 0,gI 65 (.ld (some 2) (.t 11)) 0 64 false,gI 66 (.call 64 [cI 2]) 0 64 false,gI 67 (.callw 61 [.t 65,.t 66]) 0 64 false,gI 68 (.bin .lss (.t 67) (cI 0)) 0 64 false,oI 69 (.pick (.t 64) (.c (.bool true)) (.t 68)) 0,mI 70 69 0,gI 71 (.ld (some 2) (.t 8)) 0 70 false,gI 72 (.ld (some 2) (.t 11)) 0 70 false,gI 73 (.callw 87 [.t 71,.t 72]) 0 70 false,gI 74 (.callw 64 [cI 1]) 0 70 false,gI 75 (.callw 61 [.t 73,.t 74]) 0 70 false,gI 76 (.bin .neq (.t 75) (cI 0)) 0 70 false,oI 77 (.pick (.t 70) (.c (.bool true)) (.t 76)) 0]
@[go_sem ↓] theorem Ya0 : autoK Zck = (0, 0) := by kernel_rfl
@[go_sem] theorem Yvw : autoK [mI 62 12 0, oI 63 (.un .not (.t 62)) 0, mI 64 63 0, gI 65 (.ld (some 2) (.t 11)) 0 64 false, gI 66 (.call 64 [cI 2]) 0 64 false, gI 67 (.callw 61 [.t 65, .t 66]) 0 64 false, gI 68 (.bin .lss (.t 67) (cI 0)) 0 64 false, oI 69 (.pick (.t 64) (.c (.bool true)) (.t 68)) 0, mI 70 69 0, gI 71 (.ld (some 2) (.t 8)) 0 70 false, gI 72 (.ld (some 2) (.t 11)) 0 70 false, gI 73 (.callw 87 [.t 71, .t 72]) 0 70 false, gI 74 (.callw 64 [cI 1]) 0 70 false, gI 75 (.callw 61 [.t 73, .t 74]) 0 70 false, gI 76 (.bin .neq (.t 75) (cI 0)) 0 70 false, oI 77 (.pick (.t 70) (.c (.bool true)) (.t 76)) 0] = (0, 0) := Ya0
def Zcm:List IOp := [oI 78 (.build [.bool false,.nils,.bool false,.nils] []) 0,⟨none,.st 4 (.t 2) (.t 78),0,[],[],none⟩,oI 3 (.mv (.c (.bool false))) 0]
def Zgo:List IOp := [lJ 79 2 11 0,⟨none,.st 2 (.t 10) (.t 79),0,[],[],none⟩]
def Zbe:List IOp := [mI 80 9 0,oI 81 (.un .not (.t 80)) 0,mI 82 81 0,gI 83 (.mv (.t 5)) 0 82 false,gI 84 (.mv (.t 83)) 0 82 false,gI 85 (.fa 1 (.t 8)) 0 84 true,gI 86 (.ld none (.t 85)) 0 84 true,gI 87 (.len (.t 86)) 0 84 true,gI 88 (.bin .eql (.t 87) (cI 0)) 0 84 true,gI 89 (.pick (.t 84) (.t 88) (.c (.bool false))) 0 82 false,oI 90 (.pick (.t 82) (.c (.bool true)) (.t 89)) 0]
def Zcl:List IOp := [oI 91 (.build [.bool false,.nils,.bool false,.nils] []) 0,⟨none,.st 4 (.t 2) (.t 91),0,[],[],none⟩,oI 3 (.mv (.c (.bool false))) 0]
def Zcq:List IOp := [mI 92 5 0]
def Zdo:List IOp := [lJ 93 2 8 0,oI 94 (.call 88 [.t 93]) 0,⟨none,.st 2 (.t 8) (.t 94),0,[],[],none⟩]
def Zcg:List IOp := [lJ 95 2 8 0,lJ 96 2 10 0,oI 97 (.build [.bool false,.nils,.bool false,.nils] [(0,2,.t 95),(2,2,.t 96)]) 0,⟨none,.st 4 (.t 2) (.t 97),0,[],[],none⟩,oI 3 (.mv (.c (.bool true))) 0]
def Ygq:CC := .seq (.rg false Zfn) (.seq (.rg false Zf9) (.seq (.seq (.rg false Zfg) (.cond (.t 16) (.seq (.rg false Z5m) .ret) .skip)) (.seq (.seq (.rg false Zjg) (.cond (.t 25) (.rg false Z5v) .skip)) (.seq (.rg false Zi5) (.seq (.seq (.rg false Zn7) (.block 0 (.loop Ziz))) (.seq (.rg false Zgx) (.seq (.rg false Zgw) (.seq (.seq (.rg false Zhf) (.cond (.t 53) (.seq (.rg false Zhc) (.seq (.seq (.rg true Zck) (.cond (.t 77) (.seq (.rg false Zcm) .ret) .skip)) (.rg false Zgo))) .skip)) (.seq (.seq (.rg false Zbe) (.cond (.t 90) (.seq (.rg false Zcl) .ret) .skip)) (.seq (.seq (.rg false Zcq) (.cond (.t 92) (.rg false Zdo) .skip)) (.seq (.rg false Zcg) .ret)))))))))))
abbrev Yb1:Nat:=59
theorem Yny:fnOk Tryz.prog 59=some (98,Ygq,[.cell 2 (some 4),.tmp 3]):=by kernel_rfl
def Zoa:List IOp := [oI 2 (.mv (.c (.bool false))) 0]
def Zpz:List IOp := [mI 6 0 0,oI 7 (.call 59 [.t 6]) 0,mI 5 7 0,eI 8 0 5 0,eI 9 1 5 0,oI 3 (.alloc [.bool false,.nils,.bool false,.nils]) 0,⟨none,.st 4 (.t 3) (.t 8),1,[],[],none⟩,mI 4 9 1]
def Zp4:List IOp := [mI 10 4 0,mI 2 10 0]
def Yh7:CC := .seq (.rg false Zoa) (.seq (.rg false Zpz) (.seq (.rg false Zp4) .ret))
abbrev Ydg:Nat:=42
theorem Ynh:fnOk Tryz.prog 42=some (11,Yh7,[.tmp 2]):=by kernel_rfl
def Yhc:List IOp := [oI 2 (.alloc [.bool false,.nils,.bool false,.nils]) 0]
def Ygz:List IOp := [mI 6 0 0,oI 7 (.call 59 [.t 6]) 0,mI 5 7 0,eI 8 0 5 0,eI 9 1 5 0,oI 3 (.alloc [.bool false,.nils,.bool false,.nils]) 0,⟨none,.st 4 (.t 3) (.t 8),1,[],[],none⟩,mI 4 9 1]
def Yhb:List IOp := [lJ 10 4 3 0,⟨none,.st 4 (.t 2) (.t 10),0,[],[],none⟩]
def Y0l:CC := .seq (.rg false Yhc) (.seq (.rg false Ygz) (.seq (.rg false Yhb) .ret))
abbrev Zxg:Nat:=21
theorem Y2a:fnOk Tryz.prog 21=some (11,Y0l,[.cell 2 (some 4)]):=by kernel_rfl
def Yae:List IOp := [oI 2 (.mv (cI 0)) 0]
def Z9a:List IOp := [oI 3 (.mv (cI 0)) 0]
def Zux:List IOp := [mI 4 3 0,mI 5 0 0,oI 6 (.len (.t 5)) 0,oI 7 (.bin .lss (.t 4) (.t 6)) 0]
def Z9x:List IOp := [mI 10 0 0,mI 11 3 0,xI 12 1 10 11 0,lI 13 12 0,oI 14 (.call 42 [.t 13]) 0,oI 15 (.un .not (.t 14)) 0]
def Z7j:List IOp := [oI 2 (.mv (cI 2)) 0]
def Z92:List IOp := [mI 8 3 0,oI 9 (.bin .add (.t 8) (cI 1)) 0,mI 3 9 0]
def Z7z:CC := .seq (.seq (.rg false Zux) (.cond (.t 7) .skip (.exit 0))) (.seq (.block 1 (.seq (.rg false Z9x) (.cond (.t 15) (.seq (.rg false Z7j) .ret) .skip))) (.rg false Z92))
def Z9i:List IOp := [oI 2 (.mv (cI 0)) 0]
def Ynb:CC := .seq (.rg false Yae) (.seq (.seq (.rg false Z9a) (.block 0 (.loop Z7z))) (.seq (.rg false Z9i) .ret))
abbrev Yuo:Nat:=24
theorem Yo6:fnOk Tryz.prog 24=some (16,Ynb,[.tmp 2]):=by kernel_rfl
def Z32:List IOp := [oI 4 (.mv (.c (.bool false))) 0]
def Z4y:List IOp := [oI 5 (.mv (cI 0)) 0]
def Z19:List IOp := [oI 6 (.mv (cI 0)) 0]
def Zb6:List IOp := [mI 7 6 0,mI 8 0 0,oI 9 (.slen (.t 8)) 0,oI 10 (.bin .lss (.t 7) (.t 9)) 0]
def Zdd:List IOp := [mI 13 0 0,mI 14 6 0,oI 15 (.sidx (.t 13) (.t 14)) 0,oI 16 (.bin .eql (.t 15) (.c (.int .u8 47))) 0]
def Z14:List IOp := [oI 5 (.mv (cI 0)) 0]
def Zfp:List IOp := [mI 17 0 0,mI 18 6 0,oI 19 (.sidx (.t 17) (.t 18)) 0,oI 20 (.bin .neq (.t 19) (.c (.int .u8 45))) 0]
def Zqg:List IOp := [mI 21 5 0,oI 22 (.bin .add (.t 21) (cI 1)) 0,mI 5 22 0]
def Zc9:List IOp := [mI 23 5 0,mI 24 1 0,oI 25 (.bin .gtr (.t 23) (.t 24)) 0]
def Zmo:List IOp := [oI 4 (.mv (.c (.bool false))) 0]
def Zg9:List IOp := [mI 11 6 0,oI 12 (.bin .add (.t 11) (cI 1)) 0,mI 6 12 0]
def Z2p:CC := .seq (.seq (.rg false Zb6) (.cond (.t 10) .skip (.exit 0))) (.seq (.block 1 (.seq (.seq (.rg false Zdd) (.cond (.t 16) (.rg false Z14) (.seq (.rg false Zfp) (.cond (.t 20) (.rg false Zqg) .skip)))) (.seq (.rg false Zc9) (.cond (.t 25) (.seq (.rg false Zmo) .ret) .skip)))) (.rg false Zg9))
def Zyp:List IOp := [oI 4 (.mv (.c (.bool true))) 0]
def Ygs:CC := .seq (.rg false Z32) (.seq (.rg false Z4y) (.seq (.seq (.rg false Z19) (.block 0 (.loop Z2p))) (.seq (.rg false Zyp) .ret)))
abbrev Yp7:Nat:=53
theorem Ymt:fnOk Tryz.prog 53=some (26,Ygs,[.tmp 4]):=by kernel_rfl
end GoAbs
namespace GoAbs
open Go Go.Proofs
def AllD (l:List UInt8):Prop:=∀ c,c∈l→isDig c
theorem Ya6:numL []=0:=rfl
theorem Ymu {l:List UInt8}(h:AllD l) (h0:l ≠ []) (hh:l.head? ≠ some 48):decL (numL l)=l:=by
 have main:∀ k (l:List UInt8),l.length=k→AllD l→l.head? ≠ some 48→(l ≠ []→numL l≠0)∧(digs (numL l)).reverse=l:=by
  intro k
  induction k with
  | zero =>
   intro l hl _ _
   have:l = []:=List.length_eq_zero_iff.1 hl
   subst this
   exact ⟨fun h=>absurd rfl h,by rw [Ya6,Zf1]; rfl⟩
  | succ k ih =>
   intro l hl hd hh
   obtain ⟨r,c,rfl⟩:∃ r c,l=r ++ [c]:=by
    cases h:l.getLast? with
    | none=>rw [List.getLast?_eq_none_iff] at h; subst h; simp at hl
    | some c=>obtain ⟨r,rfl⟩:=List.getLast?_eq_some_iff.1 h; exact ⟨r,c,rfl⟩
   have hc:=hd c (by simp)
   have hrd:AllD r:=fun x hx=>hd x (by simp [hx])
   unfold isDig at hc
   rw [Zw5]
   have hn:10*numL r+(c.toNat - 48)≠0:=by
    by_cases hr:r = []
    ·subst hr
     simp only [List.nil_append,List.head?_cons] at hh
     have:c.toNat≠48:=fun e=>hh (by congr 1; exact UInt8.toNat_inj.1 e)
     omega
    ·have hrh:r.head? ≠ some 48:=fun e=>hh (by
      cases r with
      | nil=>exact absurd rfl hr
      | cons x r=>simpa using e)
     have:=(ih r (by simp at hl; exact hl) hrd hrh).1 hr
     omega
   refine ⟨fun _=>hn,?_⟩
   rw [Zf3 hn]
   have e1:(10*numL r+(c.toNat - 48)) / 10=numL r:=by omega
   have e2:UInt8.ofNat (48+(10*numL r+(c.toNat - 48)) % 10)=c:=by
    have:48+(10*numL r+(c.toNat - 48)) % 10=c.toNat:=by omega
    rw [this]; exact UInt8.ofNat_toNat
   rw [e1,e2,List.reverse_cons]
   congr 1
   by_cases hr:r = []
   ·subst hr; rw [Ya6,Zf1]; rfl
   ·exact (ih r (by simp at hl; exact hl) hrd (fun e=>hh (by
     cases r with
     | nil=>exact absurd rfl hr
     | cons x r=>simpa using e))).2
 obtain ⟨m1,m2⟩:=main l.length l rfl h hh
 unfold decL
 rw [if_neg (m1 h0)]
 exact m2
theorem Z34 {x:Nat}(h:x<10):(UInt8.ofNat (48+x)).toNat=48+x:=by rw [UInt8.toNat_ofNat']; exact Nat.mod_eq_of_lt (by omega)
end GoAbs
namespace GoAbs
open Go Go.Proofs
theorem Y7g {n:Nat}:decL n = [49]↔n=1:=by
 constructor
 ·intro h
  have h1:n<10:=by have:=Z50 (n:=n) (k:=1) (by rw [h]; simp); omega
  unfold decL at h
  split at h
  ·cases h
  ·rename_i h0
   rw [Zf3 h0,show n / 10=0 by omega,Zf1] at h
   simp only [List.reverse_cons,List.reverse_nil,List.nil_append,List.cons.injEq,and_true] at h
   have:=congrArg UInt8.toNat h
   rw [Z34 (by omega)] at this
   have h49:(49:UInt8).toNat=49:=rfl
   omega
 ·intro h
  subst h
  exact Ymu (l := [49]) (fun c hc=>by simp at hc; subst hc; decide) (by simp) (by simp)
end GoAbs
namespace GoAbs
open Go Go.Proofs
end GoAbs
namespace GoAbs
open Go Go.Proofs
theorem rsubq {n1 d1 n2 d2:Int}{k:Nat}(h1:Ib k n1) (h2:Ib k d1) (h3:Ib k n2) (h4:Ib k d2) (hk:k≤1000000):SpecV Tryz.prog Yul [avR n1 d1,avR n2 d2] (avR (n1*d2 - n2*d1) (d1*d2)):=by
 have hm:Tryz.prog.follows .mixedOrders=true:=by kernel_rfl
 refine Zaf Yqd (by simp) ?_
 unfold Ynx
 have z1:=h1.zs (by omega)
 have z2:=h2.zs (by omega)
 have z3:=h3.zs (by omega)
 have z4:=h4.zs (by omega)
 have m1:=Zty z1 z4
 have m2:=Zty z3 z2
 have m3:=Zty z2 z4
 have m4:=Ysf ((h1.mul h4).zs (by omega)) ((h3.mul h2).zs (by omega))
 rw [Zaj,Zaj,Zaj] at m1 m2 m3 m4
 rw [Zbi,Zbi,Zbi]
 simp only [go_sem,Z98,Zvl,hm]
 refine Zaa m1 (by simp only [go_sem]) ?_
 simp only [go_sem]
 refine Zaa m2 (by simp only [go_sem]) ?_
 simp only [go_sem]
 refine Zaa m4 (by simp only [go_sem]) ?_
 simp only [go_sem]
 refine Zaa m3 (by simp only [go_sem]) ?_
 simp only [go_sem]
theorem rcmpq {n1 d1 n2 d2:Int}{k:Nat}(h1:Ib k n1) (h2:Ib k d1) (h3:Ib k n2) (h4:Ib k d2) (hk:k≤1000000):SpecV Tryz.prog Ygk [avR n1 d1,avR n2 d2] (.int .i64 (if n1*d2=n2*d1 then 0 else if n1*d2<n2*d1 then -1 else 1)):=by
 have hm:Tryz.prog.follows .mixedOrders=true:=by kernel_rfl
 refine Zaf Yo4 (by simp) ?_
 unfold Yma
 have z1:=h1.zs (by omega)
 have z2:=h2.zs (by omega)
 have z3:=h3.zs (by omega)
 have z4:=h4.zs (by omega)
 have m1:=Zty z1 z4
 have m2:=Zty z3 z2
 have m4:=Y01 ((h1.mul h4).zs (by omega)) ((h3.mul h2).zs (by omega))
 rw [Zaj,Zaj,Zaj] at m1 m2
 rw [Zaj,Zaj] at m4
 rw [Zbi,Zbi]
 simp only [go_sem,Z99,Zw4,hm]
 refine Zaa m1 (by simp only [go_sem]) ?_
 simp only [go_sem]
 refine Zaa m2 (by simp only [go_sem]) ?_
 simp only [go_sem]
 refine Zaa m4 (by simp only [go_sem]) ?_
 simp only [go_sem]
end GoAbs
namespace GoAbs
open Go Go.Proofs
theorem Y9m {l:List UInt8}{lo hi n0:Nat}{b1 b2:Blk}(hlo:lo≤hi) (hh:hi≤lo+4) (hl:hi≤l.length) (hll:l.length≤4000) {K:Ex→St→Prop}
  (hbad:∀ e:Nat→AV,¬ AllD l→e 2 = .ptr 0 0→e 3 = .bool false→K .ret ⟨e,[.cells [.bool false,.nils],b1,b2]⟩)
  (hK:∀ e:Nat→AV,AllD ((l.take hi).drop lo)→e 0 = .str (bs l)→e 2 = .ptr 0 0→e 4 = .ptr 1 0→e 5 = .int .i64 (hi:Int)→e 6 = .int .i64 (numL ((l.take hi).drop lo):Int)→K (.exit 2) ⟨e,[.cells [.bool false,.nils],b1,b2]⟩) :
  T Tryz.prog 69 n0 (.loop Zmt) ⟨envL [(0,.str (bs l)),(2,.ptr 0 0),(4,.ptr 1 0),(5,.int .i64 (hi:Int)),(6,.int .i64 0),(7,.int .i64 (lo:Int))],[.cells [.bool false,.nils],b1,b2]⟩ K:=by
 refine Zae (fun i:Nat=>⟨envL [(0,.str (bs l)),(2,.ptr 0 0),(4,.ptr 1 0),(5,.int .i64 (hi:Int)),(6,.int .i64 (numL ((l.take i).drop lo):Int)),(7,.int .i64 (i:Int))],[.cells [.bool false,.nils],b1,b2]⟩)
  (fun i=>lo≤i∧i≤hi∧AllD ((l.take i).drop lo)) (fun i=>hi - i) lo
  ⟨Nat.le_refl _,hlo,fun c hc=>by rw [List.drop_eq_nil_of_le (by simp; omega)] at hc; simp at hc⟩ (Zab _ (by
   have:(l.take lo).drop lo = []:=List.drop_eq_nil_of_le (by simp; omega)
   simp only [go_sem,this,Ya6]; simp)) (fun i hI N hN=>?_)
 obtain ⟨h1,h2,h3⟩:=hI
 unfold Zmt
 by_cases hi':i<hi
 ·obtain ⟨c,gi⟩:∃ c,l[i]? = some c:=⟨_,List.getElem?_eq_getElem (show i<l.length by omega)⟩
  have p1:(i:Int)<(hi:Int):=by omega
  have p2:(0:Int)≤(i:Int):=by omega
  have e6:IntKind.i64.wrap ((i:Int)+1)=((i+1:Nat):Int):=by rw [Zac (by omega) (by omega)]; omega
  have hst:(l.take (i+1)).drop lo=(l.take i).drop lo ++ [c]:=by
   rw [List.take_add_one,gi]
   rw [List.drop_append_of_le_length (by simp; omega)]; rfl
  have hlt:numL ((l.take i).drop lo)<10 ^ 4:=by
   refine Nat.lt_of_lt_of_le (Zwo h3) (Nat.pow_le_pow_right (by omega) ?_)
   simp; omega
  by_cases c1:c.toNat<48
  ·have q1:(c.toNat:Int)<48:=by omega
   have hnd:¬ AllD l:=fun h=>by have:=h c (List.mem_of_getElem? gi); unfold isDig at this; omega
   simp only [go_sem,Zdw,Zfy,Zj2,p1,p2,Zcx,gi,q1]
   exact hbad _ hnd (by simp only [go_sem]) (by simp only [go_sem])
  ·have q1:¬ (c.toNat:Int)<48:=by omega
   by_cases c2:57<c.toNat
   ·have q2:(57:Int)<(c.toNat:Int):=by omega
    have hnd:¬ AllD l:=fun h=>by have:=h c (List.mem_of_getElem? gi); unfold isDig at this; omega
    simp only [go_sem,Zdw,Zfy,Zj2,p1,p2,Zcx,gi,q1,q2]
    exact hbad _ hnd (by simp only [go_sem]) (by simp only [go_sem])
   ·have q2:¬ (57:Int)<(c.toNat:Int):=by omega
    have e1:IntKind.u8.wrap ((c.toNat:Int) - 48)=((c.toNat - 48:Nat):Int):=by rw [Xcl (by omega) (by omega)]; omega
    have e2:IntKind.i64.wrap ((c.toNat - 48:Nat):Int)=((c.toNat - 48:Nat):Int):=Zac (by omega) (by omega)
    have e3:IntKind.i64.wrap (10*((numL ((l.take i).drop lo):Nat):Int))=((10*numL ((l.take i).drop lo):Nat):Int):=by rw [Zac (by omega) (by omega)]; omega
    have e4:IntKind.i64.wrap (((10*numL ((l.take i).drop lo):Nat):Int)+((c.toNat - 48:Nat):Int))=((numL ((l.take (i+1)).drop lo):Nat):Int):=by
     rw [hst,Zw5,Zac (by omega) (by omega)]; omega
    simp only [go_sem,Zdw,Zfy,Zvp,Zth,p1,p2,Zcx,gi,q1,q2,e1,e2,e3,e4,e6]
    refine hN (i+1) _ ⟨by omega,by omega,fun x hx=>?_⟩ (by omega) (Zab _ (by simp only [go_sem]))
    rw [hst] at hx
    rcases List.mem_append.1 hx with hx | hx
    ·exact h3 x hx
    ·simp at hx; subst hx; unfold isDig; omega
 ·have he:i=hi:=by omega
  subst he
  have p1:¬ (i:Int)<(i:Int):=by omega
  simp only [go_sem,Zdw,p1]
  exact hK _ h3 (by simp only [go_sem]) (by simp only [go_sem]) (by simp only [go_sem]) (by simp only [go_sem]) (by simp only [go_sem])
theorem Xcd {l:List UInt8}(hl0:l ≠ []) (hll:l.length≤4000) {K:Ex→St→Prop}
  (hbad:∀ (e:Nat→AV) (b1 b2:Blk),¬ AllD l→e 2 = .ptr 0 0→e 3 = .bool false→K .ret ⟨e,[.cells [.bool false,.nils],b1,b2]⟩)
  (hK:∀ (e:Nat→AV) (s:List Nat),AllD l→Od s→vd s=numL l→s.length≤4001→e 2 = .ptr 0 0→e 4 = .ptr 1 0→K (.exit 0) ⟨e,[.cells [.bool false,.nils],.cells [.bool false,.osl none 2 0 s.length],.cells (ic s)]⟩) :
  T Tryz.prog 69 0 (.loop Zhd) ⟨envL [(0,.str (bs l)),(2,.ptr 0 0),(4,.ptr 1 0),(5,.int .i64 (l.length:Int))],[.cells [.bool false,.nils],.cells [.bool false,.osl none 2 0 0],.cells []]⟩ K:=by
 refine Zae (fun s:List Nat=>⟨envL [(0,.str (bs l)),(2,.ptr 0 0),(4,.ptr 1 0),(5,.int .i64 ((l.length:Int) - 4*s.length))],[.cells [.bool false,.nils],.cells [.bool false,.osl none 2 0 s.length],.cells (ic s)]⟩)
  (fun s=>Od s∧4*s.length<l.length+4∧AllD (l.drop (l.length - 4*s.length))∧vd s=numL (l.drop (l.length - 4*s.length))) (fun s=>l.length+4 - 4*s.length) []
  ⟨fun x hx=>by simp at hx,by simp,fun c hc=>by simp at hc,by simp [vd,Ya6]⟩ (Zab _ (by simp only [go_sem]; simp)) (fun s hI N hN=>?_)
 obtain ⟨h1,h2,h3,h4⟩:=hI
 unfold Zhd
 by_cases hgo:4*s.length<l.length
 ·obtain ⟨hi,hhi⟩:∃ hi,hi=l.length - 4*s.length:=⟨_,rfl⟩
  obtain ⟨lo,hlo⟩:∃ lo,lo=hi - 4:=⟨_,rfl⟩
  have ehi:(l.length:Int) - 4*(s.length:Int)=(hi:Int):=by omega
  have p1:(0:Int)<(hi:Int):=by omega
  have e1:IntKind.i64.wrap ((hi:Int) - 4)=(hi:Int) - 4:=Zac (by omega) (by omega)
  have e2:(if (hi:Int) - 4 > 0 then (hi:Int) - 4 else 0)=(lo:Int):=by split <;> omega
  simp only [go_sem,Zm2,Zz3,Zyo,ehi,p1,e1]
  rw [← hhi] at h3 h4
  have hlo2:l.length - 4*(s.length+1)=lo:=by omega
  refine Zas [(0,.str (bs l)),(2,.ptr 0 0),(4,.ptr 1 0),(5,.int .i64 (hi:Int)),(6,.int .i64 0),(7,.int .i64 (lo:Int))] (by simp only [go_sem,e2])
   (Y9m (by omega) (by omega) (by omega) hll (fun e hn k2 k3=>by simp only [go_sem]; exact hbad e _ _ hn k2 k3) (fun e g1 k0 k2 k4 k5 k6=>?_))
  have hsz:(s.length+1)*8≤1099511627776:=by omega
  have hfit:s.length≤(ic s).length:=by rw [Zao]; omega
  have htake:(ic s).take s.length=ic s:=List.take_of_length_le (by rw [Zao]; omega)
  have e3:(hi:Int) - 4=(l.length:Int) - 4*((s.length+1:Nat):Int):=by omega
  have hgl:((l.take hi).drop lo).length≤4:=by simp; omega
  have hsplit:l.drop lo=(l.take hi).drop lo++l.drop hi:=by
   have h:=List.take_append_drop hi l
   conv=>lhs; rw [← h]
   rw [List.drop_append_of_le_length (by simp; omega)]
  have hnum:numL (l.drop lo)=numL ((l.take hi).drop lo)*10000 ^ s.length+numL (l.drop hi):=by
   rw [hsplit,Zpm]
   have:(l.drop hi).length=4*s.length:=by rw [List.length_drop]; omega
   rw [this,Nat.pow_mul]
  have hd4:numL ((l.take hi).drop lo)<10000:=by
   have h1:=Zwo g1
   have h2:10 ^ ((l.take hi).drop lo).length≤10 ^ 4:=Nat.pow_le_pow_right (by omega) hgl
   exact Nat.lt_of_lt_of_le h1 h2
  generalize numL ((l.take hi).drop lo)=d at *
  simp only [go_sem,Zvs,Zvr,k4,k5,k6,hsz,hfit,htake,e1]
  refine hN (s ++ [d]) _ ⟨h1.append (fun x hx=>by simp at hx; omega),by rw [List.length_append,List.length_singleton]; omega,?_,?_⟩ (by show _<_; rw [List.length_append,List.length_singleton]; omega) ?_
  ·rw [List.length_append,List.length_singleton,hlo2,hsplit]
   intro x hx
   rcases List.mem_append.1 hx with hx | hx
   ·exact g1 x hx
   ·exact h3 x hx
  ·rw [List.length_append,List.length_singleton,hlo2,hnum,Zjx,h4]
   simp only [vd,Nat.mul_zero,Nat.add_zero]
   rw [Nat.mul_comm d]; omega
  ·refine Zb0 (Zh0 [0,1,4] (by decide) (fun i hi=>by omega) [(0,.str (bs l)),(2,.ptr 0 0),(4,.ptr 1 0),(5,.int .i64 ((l.length:Int) - 4*((s.length+1:Nat):Int)))] (by simp only [go_sem,k0,k2,k4,e3])) ?_
   have h1:ic s ++ [AV.int .i64 (d:Int)]=ic (s ++ [d]):=by rw [Yd9]; rfl
   simp only [List.length_append,List.length_singleton]
   congr 1
   show [Blk.cells [.bool false,.nils],Blk.cells [.bool false,.osl none 2 0 (s.length+1)],Blk.cells (gcL _ (ic s ++ [AV.int .i64 (d:Int)]))]=_
   rw [h1,Y4y]
 ·have p1:¬ (0:Int)<(l.length:Int) - 4*(s.length:Int):=by omega
  have hz:l.length - 4*s.length=0:=by omega
  rw [hz,List.drop_zero] at h3 h4
  simp only [go_sem,Zm2,p1]
  exact hK _ s h3 h1 h4 (by omega) (by simp only [go_sem]) (by simp only [go_sem])
end GoAbs
namespace GoAbs
open Go Go.Proofs
def digR (l:List UInt8):AV:=if digOk l then .tup [avZ (numL l),.bool true] else .tup [.agg [.bool false,.nils],.bool false]
theorem rdigits {l:List UInt8}(hlen:l.length≤1000000000):SpecV Tryz.prog Ync [.str (bs l)] (digR l):=by
 refine Zat Yjr (by simp) (Za0 1 rfl ?_)
 unfold Yco
 have tail:∀ (e:Nat→AV),l ≠ []→l.length≤4000→¬ (l.head? = some 48∧1<l.length)→e 0 = .str (bs l)→e 2 = .ptr 0 0 →
   T Tryz.prog 69 0 (.seq (.rg false Zmk) (.seq (.seq (.rg false Zms) (.block 0 (.loop Zhd))) (.seq (.rg false Zju) .ret))) ⟨e,[.cells [.bool false,.nils]]⟩ (retQ [.cell 2 (some 2),.tmp 3] (digR l)):=fun e h0 hl h48 k0 k2=>by
  refine Zav (T_W ?_)
  simp only [go_sem,Zmk]
  refine Zas [(0,.str (bs l)),(2,.ptr 0 0),(4,.ptr 1 0)] (by simp only [go_sem,k0,k2]) ?_
  refine T_le (Ya9 (b:=1) (l := [.bool false,.nils]) (l' := [.bool false,.osl none 2 0 0]) rfl rfl (fun j x y hx hy=>?_)) (T_le Ynj ?_)
  ·match j,hx,hy with
   | 0,hx,hy=>simp at hx hy; subst hx; subst hy; exact .inl rfl
   | 1,hx,hy=>simp at hx hy; subst hx; subst hy; exact .inr ⟨rfl,_,_,_,rfl⟩
   | j+2,hx,hy=>simp at hx
  refine Zav (Zav (T_W ?_))
  simp only [go_sem,Zms,Zal]
  refine Zaw ?_
  refine Zas [(0,.str (bs l)),(2,.ptr 0 0),(4,.ptr 1 0),(5,.int .i64 (l.length:Int))] (by simp only [go_sem]) ?_
  refine Xcd h0 hl (fun e2 b1 b2 hn j2 j3=>?_) (fun e2 s g1 g2 g3 g4 j2 j4=>?_)
  ·have hr:digR l = .tup [.agg [.bool false,.nils],.bool false]:=by unfold digR; rw [if_neg (fun h=>hn h.1)]
   rw [hr]
   simp only [go_sem,j2,j3]
  ·have hr:digR l = .tup [avZ (numL l),.bool true]:=by unfold digR; rw [if_pos ⟨g1,h0,h48,hl⟩]
   rw [hr]
   have hln:=Zm9 (m:=false) g2 (by omega)
   rw [g3] at hln
   simp only [Bool.false_eq_true,if_false] at hln
   rw [Zax] at hln ⊢
   simp only [go_sem]
   refine T_W ?_
   simp only [go_sem,Zju,j2,j4]
   refine Zio (ids := [2]) hln ?_ ?_
   ·simp only [go_sem]
    exact Yn2 (r:=s) rfl (by simp) rfl (by rw [List.drop_zero]; exact List.take_of_length_le (by simp [Zao]))
   simp only [go_sem,j2]
 have bad:¬ digOk l→digR l = .tup [.agg [.bool false,.nils],.bool false]:=fun h=>by unfold digR; rw [if_neg h]
 by_cases h0:l = []
 ·have q1:(l.length:Int)<1:=by rw [h0]; simp
  rw [bad (fun h=>h.2.1 h0)]
  simp only [go_sem,Zch,Zcp,Zgv,Zal,q1]
 ·have hpos:0<l.length:=List.length_pos_iff.2 h0
  have q1:¬ (l.length:Int)<1:=by omega
  obtain ⟨c,gi⟩:∃ c,l[0]? = some c:=⟨_,List.getElem?_eq_getElem hpos⟩
  have hhd:l.head? = some c:=by rw [List.head?_eq_getElem?]; exact gi
  by_cases h4:l.length≤4000
  ·have q2:¬ (4000:Int)<(l.length:Int):=by omega
   by_cases hc:c=48
   ·have hci:(c.toNat:Int)=48:=by rw [hc]; rfl
    by_cases h1:1<l.length
    ·have q3:(1:Int)<(l.length:Int):=by omega
     rw [bad (fun h=>h.2.2.1 ⟨by rw [hhd,hc],h1⟩)]
     simp only [go_sem,Zch,Zcp,Zgv,Zal,Zcx,gi,q1,q2,q3,hci]
    ·have q3:¬ (1:Int)<(l.length:Int):=by omega
     simp only [go_sem,Zch,Zcp,Zal,Zcx,gi,q1,q2,q3,hci]
     exact tail _ h0 h4 (fun h=>h1 h.2) (by simp only [go_sem]) (by simp only [go_sem])
   ·have hci:¬ (c.toNat:Int)=48:=fun h=>hc (UInt8.toNat_inj.1 (by have:(48:UInt8).toNat=48:=rfl; omega))
    simp only [go_sem,Zch,Zcp,Zal,Zcx,gi,q1,q2,hci]
    exact tail _ h0 h4 (fun h=>hc (by rw [hhd] at h; simpa using h.1)) (by simp only [go_sem]) (by simp only [go_sem])
  ·have q2:(4000:Int)<(l.length:Int):=by omega
   rw [bad (fun h=>h4 h.2.2.2)]
   simp only [go_sem,Zch,Zcp,Zgv,Zal,q1,q2]
end GoAbs
namespace GoAbs
open Go Go.Proofs
def befL (o:List UInt8):List UInt8:=o.takeWhile (· != 47)
def aftL (o:List UInt8):List UInt8:=(o.dropWhile (· != 47)).tail
theorem Yz9 {o:List UInt8}{i:Nat}{c:UInt8}(h:o[i]? = some c):(befL (o.drop i))=if c=47 then [] else c::befL (o.drop (i+1)):=by
 obtain ⟨hi,he⟩:=List.getElem?_eq_some_iff.1 h
 rw [List.drop_eq_getElem_cons hi,he]
 unfold befL
 rw [List.takeWhile_cons]
 by_cases hc:c=47 <;> simp [hc]
theorem Yz4 {o:List UInt8}{m:Bool}{n0:Nat}{H:Heap}(ho:o.length≤1000000000) {K:Ex→St→Prop}
  (hK:∀ e:Nat→AV,e 2 = .ptr 0 0→e 4 = .str (bs o)→e 5 = .bool m→e 6 = .int .i64 ((befL o).length:Int)→K (.exit 0) ⟨e,H⟩) :
  T Tryz.prog 98 n0 (.loop Ziz) ⟨envL [(2,.ptr 0 0),(4,.str (bs o)),(5,.bool m),(6,.int .i64 (o.length:Int)),(7,.int .i64 ((o.length:Int) - 1))],H⟩ K:=by
 refine Zae (fun i:Nat=>⟨envL [(2,.ptr 0 0),(4,.str (bs o)),(5,.bool m),(6,.int .i64 ((i+(befL (o.drop i)).length:Nat):Int)),(7,.int .i64 ((i:Int) - 1))],H⟩)
  (fun i=>i≤o.length) (fun i=>i) o.length (Nat.le_refl _) (Zab _ (by simp only [go_sem,List.drop_length]; simp [befL])) (fun i hi N hN=>?_)
 unfold Ziz
 cases i with
 | zero =>
  have q1:¬ (0:Int)≤((0:Nat):Int) - 1:=by omega
  simp only [go_sem,Zjc,q1]
  exact hK _ (by simp only [go_sem]) (by simp only [go_sem]) (by simp only [go_sem]) (by simp only [go_sem,List.drop_zero,Nat.zero_add])
 | succ j =>
  have e0:((j+1:Nat):Int) - 1=(j:Int):=by omega
  have q1:(0:Int)≤(j:Int):=by omega
  have e1:IntKind.i64.wrap ((j:Int) - 1)=(j:Int) - 1:=Zac (by omega) (by omega)
  obtain ⟨c,gi⟩:∃ c,o[j]? = some c:=⟨_,List.getElem?_eq_getElem (show j<o.length by omega)⟩
  have hb:=Yz9 gi
  by_cases hc:c=47
  ·have hci:(c.toNat:Int)=47:=by rw [hc]; rfl
   rw [if_pos hc] at hb
   simp only [go_sem,Zjc,Zl5,Zzt,Zl6,e0,q1,Zcx,gi,hci,e1]
   refine hN j _ (by omega) (by omega) (Zab _ (by simp only [go_sem,hb]; try simp))
  ·have hci:¬ (c.toNat:Int)=47:=fun h=>hc (UInt8.toNat_inj.1 (by have:(47:UInt8).toNat=47:=rfl; omega))
   rw [if_neg hc] at hb
   simp only [go_sem,Zjc,Zl5,Zl6,e0,q1,Zcx,gi,hci,e1]
   refine hN j _ (by omega) (by omega) (Zab _ (by simp only [go_sem,hb,List.length_cons]; simp; try omega))
theorem Yi9 (o:List UInt8):o.take (befL o).length=befL o:=by
 have h:=List.takeWhile_append_dropWhile (p:=(· != 47)) (l:=o)
 have h2:(o.takeWhile (· != 47)++o.dropWhile (· != 47)).take (befL o).length=befL o:=List.take_left' rfl
 rwa [h] at h2
theorem Ytn (o:List UInt8):(befL o).length<o.length↔47∈o:=by
 have h:=List.takeWhile_append_dropWhile (p:=(· != 47)) (l:=o)
 have hl:=congrArg List.length h
 rw [List.length_append] at hl
 have key:(o.dropWhile (· != 47)) = []↔¬ 47∈o:=by
  clear h hl
  induction o with
  | nil=>simp
  | cons x o ih =>
   rw [List.dropWhile_cons]
   by_cases hx:x=47
   ·subst hx; simp
   ·have hx':¬ 47=x:=fun e=>hx e.symm
    simp [hx,hx',ih]
 unfold befL
 constructor
 ·intro h1
  by_cases h2:47∈o
  ·exact h2
  ·rw [key.2 h2] at hl; simp at hl; omega
 ·intro h1
  have:(o.dropWhile (· != 47)) ≠ []:=fun e=>key.1 e h1
  have:=List.length_pos_iff.2 this
  omega
theorem Yij (o:List UInt8):o.drop ((befL o).length+1)=aftL o:=by
 have h:=List.takeWhile_append_dropWhile (p:=(· != 47)) (l:=o)
 rw [← List.drop_drop]
 have:o.drop (befL o).length=o.dropWhile (· != 47):=by
  have h2:(o.takeWhile (· != 47)++o.dropWhile (· != 47)).drop (befL o).length=o.dropWhile (· != 47):=List.drop_left' rfl
  rwa [h] at h2
 rw [this]
 unfold aftL
 rw [List.drop_one]
end GoAbs
namespace GoAbs
open Go Go.Proofs
def badR:AV := .tup [.agg [.bool false,.nils,.bool false,.nils],.bool false]
def digC (l:List UInt8):List AV:=if digOk l then [.bool false,.sl (ic (dg (numL l)))] else [.bool false,.nils]
theorem Yzj (l:List UInt8):digR l = .tup [.agg (digC l),.bool (decide (digOk l))]:=by
 unfold digR digC
 by_cases h:digOk l
 ·rw [if_pos h,if_pos h,Zax]; simp [h]
 ·rw [if_neg h,if_neg h]; simp [h]
theorem Yhq {e:Nat→AV}{a:List UInt8}{m:Bool}{D:Nat}{rest:Heap}(e2:e 2 = .ptr 0 0) (e5:e 5 = .bool m) (e8:e 8 = .ptr 1 0) (e9:e 9 = .bool (decide (digOk a))) (e10:e 10 = .ptr 2 0) :
  T Tryz.prog 98 0 (.seq (.seq (.rg false Zbe) (.cond (.t 90) (.seq (.rg false Zcl) .ret) .skip)) (.seq (.seq (.rg false Zcq) (.cond (.t 92) (.rg false Zdo) .skip)) (.seq (.rg false Zcg) .ret)))
   ⟨e,.cells [.bool false,.nils,.bool false,.nils] :: .cells (digC a) :: .cells [.bool false,.sl (ic (dg D))]::rest⟩
   (retQ [.cell 2 (some 4),.tmp 3] (if digOk a∧¬ (m=true∧numL a=0) then .tup [avR (if m then -(numL a:Int) else numL a) (D:Int),.bool true] else badR)):=by
 refine T_W ?_
 have hz2:([AV.bool false,.nils]:List AV).length=2:=rfl
 by_cases hA:digOk a
 ·have hc:digC a = [.bool false,.sl (ic (dg (numL a)))]:=by unfold digC; rw [if_pos hA]
  have hd:decide (digOk a)=true:=by simp [hA]
  rw [hc]
  cases m with
  | false =>
   have hr:(if digOk a∧¬ (false=true∧numL a=0) then AV.tup [avR (if false=true then -(numL a:Int) else numL a) (D:Int),.bool true] else badR) = .tup [.agg [.bool false,.sl (ic (dg (numL a))),.bool false,.sl (ic (dg D))],.bool true]:=by
    rw [if_pos ⟨hA,by simp⟩,Zbi]; simp
   rw [hr]
   simp only [go_sem,Zbe,Zcq,Zcg,e2,e5,e8,e9,e10,hd,Bool.not_true,Bool.not_false]
  | true =>
   by_cases h0:numL a=0
   ·have hr:(if digOk a∧¬ (true=true∧numL a=0) then AV.tup [avR (if true=true then -(numL a:Int) else numL a) (D:Int),.bool true] else badR)=badR:=if_neg (fun h=>h.2 ⟨rfl,h0⟩)
    rw [hr]
    have hl:(((dg (numL a)).length:Nat):Int)=0:=by rw [h0,Zcr]; rfl
    unfold badR
    simp only [go_sem,Zbe,Zcl,e2,e5,e8,e9,e10,hd,Bool.not_true,Bool.not_false,Zao,hl]
   ·have hr:(if digOk a∧¬ (true=true∧numL a=0) then AV.tup [avR (if true=true then -(numL a:Int) else numL a) (D:Int),.bool true] else badR) = .tup [.agg [.bool (decide (-(numL a:Int)<0)),.sl (ic (dg (-(numL a:Int)).natAbs)),.bool false,.sl (ic (dg D))],.bool true]:=by
     rw [if_pos ⟨hA,fun h=>h0 h.2⟩,Zbi]; simp
    rw [hr]
    have hl:¬ (((dg (numL a)).length:Nat):Int)=0:=by have:=(Zjm (n:=numL a)).2 h0; omega
    have hn:=Y75 (z:=(numL a:Int))
    rw [Zax,Zaj] at hn
    simp only [go_sem,Zbe,Zcq,Zdo,e2,e5,e8,e9,e10,hd,Bool.not_true,Bool.not_false,Zao,hl]
    refine Zaa hn (by simp only [go_sem]) ?_
    simp only [go_sem,Zcg,e2,e8,e10]
 ·have hc:digC a = [.bool false,.nils]:=by unfold digC; rw [if_neg hA]
  have hd:decide (digOk a)=false:=by simp [hA]
  rw [hc,if_neg (fun h=>hA h.1)]
  unfold badR
  simp only [go_sem,Zbe,Zcl,e2,e5,e8,e9,e10,hd,Bool.not_true,Bool.not_false]
end GoAbs
namespace GoAbs
open Go Go.Proofs
def slashOk (o:List UInt8):Prop:=digOk (aftL o)∧2≤numL (aftL o)∧Nat.gcd (if digOk (befL o) then numL (befL o) else 0) (numL (aftL o))=1
instance (o:List UInt8):Decidable (slashOk o):=by unfold slashOk; infer_instance
def midR (o:List UInt8) (m:Bool):AV :=
 if 47∈o→slashOk o then (if digOk (befL o)∧¬ (m=true∧numL (befL o)=0) then .tup [avR (if m then -(numL (befL o):Int) else numL (befL o)) ((if 47∈o then numL (aftL o) else 1:Nat):Int),.bool true] else badR) else badR
theorem Y6i {H:Heap}{a:List UInt8}:BVs H [] (digC a) [.bool false,.sl (ic (dg (if digOk a then numL a else 0)))]:=by
 unfold digC
 by_cases h:digOk a
 ·rw [if_pos h,if_pos h]; simp only [go_sem]
 ·rw [if_neg h,if_neg h,Zcr,Y06]; simp only [go_sem]
theorem Yi8 {a:List UInt8}:(digC a).length=2:=by unfold digC; split <;> rfl
theorem Ytj {l:List UInt8}(h:digOk l):lenD (numL l)≤4000:=by
 refine Zpk (Nat.lt_of_lt_of_le (Zwo h.1) ?_)
 exact Nat.le_trans (Nat.pow_le_pow_right (by omega) h.2.2.2) (Nat.pow_le_pow_left (show 10≤10000 by decide) 4000)
theorem Yt1 {e:Nat→AV}{o:List UInt8}{m:Bool}(ho:o.length≤1000000000) (e2:e 2 = .ptr 0 0) (e4:e 4 = .str (bs o)) (e5:e 5 = .bool m) (e6:e 6 = .int .i64 ((befL o).length:Int)) :
  T Tryz.prog 98 0 (.seq (.rg false Zgx) (.seq (.rg false Zgw) (.seq (.seq (.rg false Zhf) (.cond (.t 53) (.seq (.rg false Zhc) (.seq (.seq (.rg true Zck) (.cond (.t 77) (.seq (.rg false Zcm) .ret) .skip)) (.rg false Zgo))) .skip))
   (.seq (.seq (.rg false Zbe) (.cond (.t 90) (.seq (.rg false Zcl) .ret) .skip)) (.seq (.seq (.rg false Zcq) (.cond (.t 92) (.rg false Zdo) .skip)) (.seq (.rg false Zcg) .ret))))))
   ⟨e,[.cells [.bool false,.nils,.bool false,.nils]]⟩ (retQ [.cell 2 (some 4),.tmp 3] (midR o m)):=by
 have hm:Tryz.prog.follows .mixedOrders=true:=by kernel_rfl
 refine Za0 2 rfl ?_
 have hbl:(befL o).length≤o.length:=by
  have:=congrArg List.length (Yi9 o)
  rw [List.length_take] at this
  omega
 have p0:(0:Int)≤((befL o).length:Int):=by omega
 have hdA:=rdigits (l:=befL o) (by omega)
 rw [Yzj] at hdA
 have hdB:=rdigits (l:=aftL o) (by rw [← Yij,List.length_drop]; omega)
 rw [Yzj] at hdB
 have i1:SpecV Tryz.prog Yc7 [.int .i64 1] (.agg [.bool false,.sl (ic (dg 1))]):=by
  have:=Yhd (v:=1) (by decide)
  rwa [show avZ 1 = .agg [.bool false,.sl (ic (dg 1))] from Zax (m:=1)] at this
 have i2:SpecV Tryz.prog Yc7 [.int .i64 2] (.agg [.bool false,.sl (ic (dg 2))]):=by
  have:=Yhd (v:=2) (by decide)
  rwa [show avZ 2 = .agg [.bool false,.sl (ic (dg 2))] from Zax (m:=2)] at this
 have htk:o.take (befL o).length=befL o:=Yi9 o
 have d2:(digC (befL o)).drop 2 = []:=List.drop_eq_nil_of_le (by rw [Yi8]; omega)
 have dl:=Yi8 (a:=befL o)
 simp only [go_sem,Zgx,Zgw,Zhf,e2,e4,e5,e6,Zal,Zc8,htk,p0,hbl,List.drop_zero]
 refine ⟨by omega,?_⟩
 refine Zaa hdA (by simp only [go_sem]) ?_
 simp only [go_sem,dl,d2]
 refine Zaa i1 (by simp only [go_sem]) ?_
 by_cases h47:47∈o
 ·have q1:((befL o).length:Int)<(o.length:Int):=by have:=(Ytn o).2 h47; omega
  have e1:IntKind.i64.wrap (((befL o).length:Int)+1)=(((befL o).length+1:Nat):Int):=by rw [Zac (by omega) (by omega)]; omega
  have p1:(0:Int)≤(((befL o).length+1:Nat):Int):=by omega
  have hle:(befL o).length+1≤o.length:=by omega
  have hdr:(o.take o.length).drop ((befL o).length+1)=aftL o:=by rw [List.take_length]; exact Yij o
  have hmid:midR o m=if slashOk o then (if digOk (befL o)∧¬ (m=true∧numL (befL o)=0) then .tup [avR (if m then -(numL (befL o):Int) else numL (befL o)) (numL (aftL o):Int),.bool true] else badR) else badR:=by
   unfold midR
   simp only [h47,if_true,true_implies]
  have db:=Yi8 (a:=aftL o)
  have d2b:(digC (aftL o)).drop 2 = []:=List.drop_eq_nil_of_le (by omega)
  have t2b:(digC (aftL o)).take 2=digC (aftL o):=List.take_of_length_le (by omega)
  have t2a:(digC (befL o)).take 2=digC (befL o):=List.take_of_length_le (by omega)
  have l2a:2≤(digC (befL o)).length:=by omega
  have l2b:2≤(digC (aftL o)).length:=by omega
  simp only [go_sem,e2,e4,e5,e6,Zal,Zc8,q1,Zhc,e1,p1,hle,hdr]
  refine ⟨Nat.le_refl _,?_⟩
  refine Zaa hdB (by simp only [go_sem]) ?_
  by_cases hB:digOk (aftL o)
  ·have hd:decide (digOk (aftL o))=true:=by simp [hB]
   have hcB:digC (aftL o) = [.bool false,.sl (ic (dg (numL (aftL o))))]:=by unfold digC; rw [if_pos hB]
   have lB:=Ytj hB
   rw [hcB] at db d2b t2b l2b ⊢
   rw [hd]
   simp only [go_sem,db,d2b,Zck,hm,Bool.not_true]
   refine Zaa i2 (by simp only [go_sem]) ?_
   simp only [go_sem]
   have hc2:=Y01 (a:=(numL (aftL o):Int)) (b:=2) (by rw [Int.natAbs_natCast]; unfold Zs; omega) (by have:lenD 2≤1:=Zw8 (by omega); show lenD 2≤_; omega)
   rw [Zax,show avZ 2 = .agg [.bool false,.sl (ic (dg 2))] from Zax (m:=2)] at hc2
   refine Zaa hc2 (by simp only [go_sem]) ?_
   by_cases hD2:2≤numL (aftL o)
   ·have hlt:¬ (if (numL (aftL o):Int)=2 then (0:Int) else if (numL (aftL o):Int)<2 then -1 else 1)<0:=by split <;> (try split) <;> omega
    obtain ⟨N',hN'⟩:∃ N',N'=(if digOk (befL o) then numL (befL o) else 0):=⟨_,rfl⟩
    have lN:lenD N'≤10000000:=by
     rw [hN']; split
     ·rename_i h; have:=Ytj h; omega
     ·show (dg 0).length≤_; rw [Zcr]; simp
    have hgcd:=Y8k (a:=(N':Int)) (b:=(numL (aftL o):Int)) (by rw [Int.natAbs_natCast]; exact lN) (by rw [Int.natAbs_natCast]; omega)
    have hgn:Int.gcd (N':Int) (numL (aftL o):Int)=Nat.gcd N' (numL (aftL o)):=rfl
    rw [hgn,Zax,Zax,Zax] at hgcd
    have lg:lenD (Nat.gcd N' (numL (aftL o)))≤4000:=Nat.le_trans (Za7 (Nat.le_of_dvd (by omega) (Nat.gcd_dvd_right _ _))) lB
    have hc1:=Y01 (a:=(Nat.gcd N' (numL (aftL o)):Int)) (b:=1) (by rw [Int.natAbs_natCast]; unfold Zs; omega) (by have:lenD 1≤1:=Zw8 (by omega); show lenD 1≤_; omega)
    rw [Zax,show avZ 1 = .agg [.bool false,.sl (ic (dg 1))] from Zax (m:=1)] at hc1
    have bvA:=fun (H:Heap)=>Y6i (H:=H) (a:=befL o)
    rw [← hN'] at bvA
    simp only [go_sem,hlt,l2a,t2a]
    refine Zlk (ids := []) hgcd (by simp only [go_sem]; exact bvA _) (.inl rfl) (fun b hb=>by simp at hb) ?_
    simp only [go_sem]
    refine Zaa i1 (by simp only [go_sem]) ?_
    simp only [go_sem]
    refine Zaa hc1 (by simp only [go_sem]) ?_
    by_cases hg:Nat.gcd N' (numL (aftL o))=1
    ·have hne:(if ((Nat.gcd N' (numL (aftL o)):Nat):Int)=1 then (0:Int) else if ((Nat.gcd N' (numL (aftL o)):Nat):Int)<1 then -1 else 1)=0:=if_pos (by omega)
     have hso:slashOk o:=⟨hB,hD2,by rw [← hN']; exact hg⟩
     rw [hmid,if_pos hso]
     simp only [go_sem,hne,Zgo]
     exact Yhq (by simp only [go_sem,e2]) (by simp only [go_sem,e5]) (by simp only [go_sem]) (by simp only [go_sem]) (by simp only [go_sem])
    ·have hne:¬ (if ((Nat.gcd N' (numL (aftL o)):Nat):Int)=1 then (0:Int) else if ((Nat.gcd N' (numL (aftL o)):Nat):Int)<1 then -1 else 1)=0:=by
      rw [if_neg (by omega)]; split <;> omega
     have hso:¬ slashOk o:=fun h=>hg (by rw [hN']; exact h.2.2)
     rw [hmid,if_neg hso]
     unfold badR
     simp only [go_sem,hne,Zcm,e2]
   ·have hlt:(if (numL (aftL o):Int)=2 then (0:Int) else if (numL (aftL o):Int)<2 then -1 else 1)<0:=by rw [if_neg (by omega),if_pos (by omega)]; omega
    have hso:¬ slashOk o:=fun h=>hD2 h.2.1
    rw [hmid,if_neg hso]
    unfold badR
    simp only [go_sem,hlt,Zcm,e2]
  ·have hd:decide (digOk (aftL o))=false:=by simp [hB]
   have hso:¬ slashOk o:=fun h=>hB h.1
   rw [hd,hmid,if_neg hso]
   unfold badR
   simp only [go_sem,db,d2b,Zck,Zcm,hm,Bool.not_false,e2]
 ·have q1:¬ ((befL o).length:Int)<(o.length:Int):=fun h=>h47 ((Ytn o).1 (by omega))
  have hmid:midR o m=if digOk (befL o)∧¬ (m=true∧numL (befL o)=0) then .tup [avR (if m then -(numL (befL o):Int) else numL (befL o)) ((1:Nat):Int),.bool true] else badR:=by
   unfold midR
   simp only [h47,if_false,false_implies,if_true]
  rw [hmid]
  simp only [go_sem,e2,e4,e5,e6,Zal,q1]
  exact Yhq (D:=1) (rest := []) (by simp only [go_sem,e2]) (by simp only [go_sem,e5]) (by simp only [go_sem]) (by simp only [go_sem]) (by simp only [go_sem])
end GoAbs
namespace GoAbs
open Go Go.Proofs
def refP (l:List UInt8):AV:=if 8002<l.length then badR else midR (signL l).1 (signL l).2
theorem Yvk {l:List UInt8}(hlen:l.length≤1000000000):SpecV Tryz.prog Yb1 [.str (bs l)] (refP l):=by
 refine Zat Yny (by simp) (Za0 4 rfl ?_)
 unfold Ygq
 by_cases hbig:8002<l.length
 ·have q1:(8002:Int)<(l.length:Int):=by omega
  unfold refP
  rw [if_pos hbig]
  unfold badR
  simp only [go_sem,Zfn,Zf9,Zfg,Z5m,Zal,q1]
 ·have q1:¬ (8002:Int)<(l.length:Int):=by omega
  unfold refP
  rw [if_neg hbig]
  have tail:∀ (e:Nat→AV) (o:List UInt8) (m:Bool),o.length≤1000000000→e 2 = .ptr 0 0→e 4 = .str (bs o)→e 5 = .bool m→e 6 = .int .i64 (o.length:Int) →
    T Tryz.prog 98 0 (.seq (.seq (.rg false Zn7) (.block 0 (.loop Ziz))) (.seq (.rg false Zgx) (.seq (.rg false Zgw) (.seq (.seq (.rg false Zhf) (.cond (.t 53) (.seq (.rg false Zhc) (.seq (.seq (.rg true Zck) (.cond (.t 77) (.seq (.rg false Zcm) .ret) .skip)) (.rg false Zgo))) .skip))
     (.seq (.seq (.rg false Zbe) (.cond (.t 90) (.seq (.rg false Zcl) .ret) .skip)) (.seq (.seq (.rg false Zcq) (.cond (.t 92) (.rg false Zdo) .skip)) (.seq (.rg false Zcg) .ret)))))))
     ⟨e,[.cells [.bool false,.nils,.bool false,.nils]]⟩ (retQ [.cell 2 (some 4),.tmp 3] (midR o m)):=fun e o m ho k2 k4 k5 k6=>by
   have e1:IntKind.i64.wrap ((o.length:Int) - 1)=(o.length:Int) - 1:=Zac (by omega) (by omega)
   refine Zav (Zav (T_W ?_))
   simp only [go_sem,Zn7,k4,Zal,e1]
   refine Zaw ?_
   refine Zas [(2,.ptr 0 0),(4,.str (bs o)),(5,.bool m),(6,.int .i64 (o.length:Int)),(7,.int .i64 ((o.length:Int) - 1))] (by simp only [go_sem,k2,k4,k5,k6]) ?_
   refine Yz4 ho (fun e2 j2 j4 j5 j6=>?_)
   simp only [go_sem]
   exact Yt1 ho j2 j4 j5 j6
  by_cases hpos:0<l.length
  ·have q2:(0:Int)<(l.length:Int):=by omega
   obtain ⟨c,gi⟩:∃ c,l[0]? = some c:=⟨_,List.getElem?_eq_getElem hpos⟩
   have hhd:l.head? = some c:=by rw [List.head?_eq_getElem?]; exact gi
   by_cases hc:c=45
   ·have hci:(c.toNat:Int)=45:=by rw [hc]; rfl
    have hs:signL l=(l.tail,true):=by unfold signL; rw [if_pos (by rw [hhd,hc])]
    have h1:1≤l.length:=hpos
    have hdr:(l.take l.length).drop 1=l.tail:=by rw [List.take_length,List.drop_one]
    rw [hs]
    simp only [go_sem,Zfn,Zf9,Zfg,Zjg,Z5v,Zi5,Zal,Zcx,Zc8,q1,q2,gi,hci,h1,hdr]
    refine ⟨Nat.le_refl _,?_⟩
    exact tail _ l.tail true (by rw [List.length_tail]; omega) (by simp only [go_sem]) (by simp only [go_sem]) (by simp only [go_sem]) (by simp only [go_sem])
   ·have hci:¬ (c.toNat:Int)=45:=fun h=>hc (UInt8.toNat_inj.1 (by have:(45:UInt8).toNat=45:=rfl; omega))
    have hs:signL l=(l,false):=by unfold signL; rw [if_neg (by rw [hhd]; simpa using hc)]
    rw [hs]
    simp only [go_sem,Zfn,Zf9,Zfg,Zjg,Zi5,Zal,Zcx,q1,q2,gi,hci]
    exact tail _ l false hlen (by simp only [go_sem]) (by simp only [go_sem]) (by simp only [go_sem]) (by simp only [go_sem])
  ·have q2:¬ (0:Int)<(l.length:Int):=by omega
   have hs:signL l=(l,false):=by
    have:l = []:=List.length_eq_zero_iff.1 (by omega)
    subst this; rfl
   rw [hs]
   simp only [go_sem,Zfn,Zf9,Zfg,Zjg,Zi5,Zal,q1,q2]
   exact tail _ l false hlen (by simp only [go_sem]) (by simp only [go_sem]) (by simp only [go_sem]) (by simp only [go_sem])
end GoAbs
namespace GoAbs
open Go Go.Proofs
theorem Yos {o:List UInt8}(h:47 ∉ o):befL o=o:=by
 have h1:=Yi9 o
 have h2:¬ (befL o).length<o.length:=fun h3=>h ((Ytn o).1 h3)
 rw [List.take_of_length_le (by omega)] at h1
 exact h1.symm
theorem Y07 (l:List UInt8):(cutL l).1=befL l:=by
 unfold cutL
 split
 ·rfl
 ·rename_i h; exact (Yos h).symm
theorem Yiq (l:List UInt8):(cutL l).2.2=decide (47∈l):=by
 unfold cutL
 split
 ·rename_i h; simp [h]
 ·rename_i h; simp [h]
theorem Yx6 {l:List UInt8}(h:47∈l):(cutL l).2.1=aftL l:=by
 unfold cutL
 rw [if_pos h]; rfl
theorem Y6n (l:List UInt8):signL (befL l)=(befL (signL l).1,(signL l).2)∧(47∈l↔47∈(signL l).1)∧aftL l=aftL (signL l).1:=by
 cases l with
 | nil=>exact ⟨rfl,Iff.rfl,rfl⟩
 | cons c r =>
  by_cases hc:c=45
  ·subst hc
   have hs:signL (45::r)=(r,true):=rfl
   have hb:befL (45::r)=45::befL r:=by unfold befL; rw [List.takeWhile_cons]; rfl
   rw [hs,hb]
   refine ⟨rfl,by simp,?_⟩
   unfold aftL
   rw [List.dropWhile_cons]; rfl
  ·have hs:signL (c::r)=(c::r,false):=by unfold signL; rw [if_neg (by simpa using hc)]
   rw [hs]
   refine ⟨?_,Iff.rfl,rfl⟩
   by_cases h47:c=47
   ·subst h47; rfl
   ·have hb:befL (c::r)=c::befL r:=by unfold befL; rw [List.takeWhile_cons]; simp [h47]
    rw [hb]
    unfold signL
    rw [if_neg (by simpa using hc)]
theorem Yk3 {n:Int}{d:Nat}(hd:0<d) (hg:Int.gcd n d=1):(Rat.divInt n d).num=n∧(Rat.divInt n d).den=d:=by
 have hg':Int.gcd (d:Int) n=1:=by rw [Int.gcd_comm]; exact hg
 refine ⟨?_,?_⟩
 ·rw [Rat.num_divInt,hg',Int.sign_eq_one_of_pos (by omega)]; simp
 ·rw [Rat.den_divInt,if_neg (by omega),hg']; simp
theorem Y1l {o:List UInt8}(h:47∈o):o.length=(befL o).length+1+(aftL o).length:=by
 have h1:=(Ytn o).2 h
 have h2:=congrArg List.length (Yij o)
 rw [List.length_drop] at h2
 omega
theorem Yyr (l:List UInt8):refP l=match parseL l with | some q => .tup [avR q.num q.den,.bool true] | none=>badR:=by
 obtain ⟨s1,s2,s3⟩:=Y6n l
 have hll:l.length≤(signL l).1.length+1:=by unfold signL; split <;> simp <;> omega
 have hp1:(partsL l).1=if (signL l).2 then -(numL (befL (signL l).1):Int) else numL (befL (signL l).1):=by unfold partsL; rw [Y07,s1]
 have hp2:(partsL l).2.1=if 47∈(signL l).1 then numL (aftL (signL l).1) else 1:=by
  unfold partsL
  simp only [Yiq,decide_eq_true_eq,s2]
  by_cases h:47∈(signL l).1
  ·rw [if_pos h,if_pos h,Yx6 (s2.2 h),s3]
  ·rw [if_neg h,if_neg h]
 have hp3:((partsL l).2.2=true)↔47∈(signL l).1:=by unfold partsL; simp only [Yiq,decide_eq_true_eq,s2]
 have hform:formL l↔(digOk (befL (signL l).1)∧(47∈(signL l).1→digOk (aftL (signL l).1)∧1<numL (aftL (signL l).1))∧¬ ((signL l).2=true∧numL (befL (signL l).1)=0)):=by
  unfold formL
  rw [Y07,s1,Yiq]
  simp only [decide_eq_true_eq,s2]
  by_cases h:47∈(signL l).1
  ·rw [Yx6 (s2.2 h),s3]
  ·simp [h]
 unfold parseL
 rw [hp1,hp2]
 simp only [hform,hp3]
 unfold refP midR
 have hs':(signL l).1=(signL l).1:=rfl
 by_cases hA:digOk (befL (signL l).1)
 ·by_cases hM:(signL l).2=true∧numL (befL (signL l).1)=0
  ·simp only [hM,and_true,not_true,and_false,false_and,if_false,ite_self]
  ·have hcond:(digOk (befL (signL l).1)∧¬ ((signL l).2=true∧numL (befL (signL l).1)=0)):=⟨hA,hM⟩
   generalize hz:(if (signL l).2=true then -(numL (befL (signL l).1):Int) else (numL (befL (signL l).1):Int))=z at *
   have hgz:∀ D:Nat,Int.gcd z (D:Int)=Nat.gcd (numL (befL (signL l).1)) D:=fun D=>by
    rw [← hz]; split
    ·rw [Int.neg_gcd]; rfl
    ·rfl
   by_cases h47:47∈(signL l).1
   ·simp only [h47,if_true,true_implies]
    by_cases hS:slashOk (signL l).1
    ·obtain ⟨g1,g2,g3⟩:=hS
     rw [if_pos hA] at g3
     have hg:=hgz (numL (aftL (signL l).1))
     rw [g3] at hg
     have hlen:=Y1l h47
     have hb1:=hA.2.2.2
     have hb2:=g1.2.2.2
     rw [if_neg (show ¬ 8002<l.length by omega),if_pos (show slashOk (signL l).1 from ⟨g1,g2,by rw [if_pos hA]; exact g3⟩),if_pos hcond,if_pos ⟨⟨hA,⟨g1,by omega⟩,hM⟩,hg⟩]
     obtain ⟨q1,q2⟩:=Yk3 (n:=z) (d:=numL (aftL (signL l).1)) (by omega) hg
     simp only [q1,q2]
    ·have hno:¬ ((digOk (befL (signL l).1)∧(digOk (aftL (signL l).1)∧1<numL (aftL (signL l).1))∧¬ ((signL l).2=true∧numL (befL (signL l).1)=0))∧Int.gcd z (numL (aftL (signL l).1):Int)=1):=fun h=>hS ⟨h.1.2.1.1,by have:=h.1.2.1.2; omega,by rw [if_pos hA, ← hgz]; exact h.2⟩
     rw [if_neg hS,if_neg hno,ite_self]
   ·simp only [h47,if_false,false_implies,if_true,true_and]
    have hb1:=hA.2.2.2
    rw [Yos h47] at hb1
    rw [if_neg (show ¬ 8002<l.length by omega),if_pos hcond,if_pos ⟨hcond,trivial⟩]
    obtain ⟨q1,q2⟩:=Yk3 (n:=z) (d:=1) (by omega) (by rw [hgz]; simp)
    simp only [q1,q2]
 ·simp only [hA,false_and,if_false,ite_self]
end GoAbs
namespace GoAbs
open Go Go.Proofs
theorem rparse {l:List UInt8}(hlen:l.length≤1000000000):SpecV Tryz.prog Yb1 [.str (bs l)] (match parseL l with | some q => .tup [avR q.num q.den,.bool true] | none=>badR):=by
 have:=Yvk hlen
 rwa [Yyr] at this
theorem rvalid {l:List UInt8}(hlen:l.length≤1000000000):SpecV Tryz.prog Ydg [.str (bs l)] (.bool (parseL l).isSome):=by
 have hp:=rparse hlen
 refine Zaf Ynh (by simp) ?_
 unfold Yh7
 cases h:parseL l with
 | some q =>
  rw [h] at hp
  simp only [Zbi] at hp
  simp only [go_sem,Zoa,Zpz]
  refine Zaa hp (by simp only [go_sem]) ?_
  simp only [go_sem,Zp4,Option.isSome_some]
 | none =>
  rw [h] at hp
  unfold badR at hp
  simp only [go_sem,Zoa,Zpz]
  refine Zaa hp (by simp only [go_sem]) ?_
  simp only [go_sem,Zp4,Option.isSome_none]
theorem rof {l:List UInt8}{q:Rat}(hlen:l.length≤1000000000) (h:parseL l=some q):SpecV Tryz.prog Zxg [.str (bs l)] (avR q.num q.den):=by
 have hp:=rparse hlen
 rw [h] at hp
 simp only [Zbi] at hp
 refine Zaf Y2a (by simp) ?_
 unfold Y0l
 rw [Zbi]
 simp only [go_sem,Yhc,Ygz]
 refine Zaa hp (by simp only [go_sem]) ?_
 simp only [go_sem,Yhb]
end GoAbs
namespace GoAbs
open Go Go.Proofs
def Zxf:List IOp := [oI 6 (.mv (.c (.bool false))) 0]
def Zxb:List IOp := [mI 7 0 0,mI 8 1 0,oI 9 (.bin .geq (.t 7) (.t 8)) 0,mI 10 9 0,gI 11 (.mv (.t 0)) 0 10 true,gI 12 (.mv (.t 2)) 0 10 true,gI 13 (.bin .leq (.t 11) (.t 12)) 0 10 true,oI 14 (.pick (.t 10) (.t 13) (.c (.bool false))) 0,mI 6 14 0]
def Yyc:CC := .seq (.rg false Zxf) (.seq (.rg false Zxb) .ret)
abbrev Yik:Nat:=52
theorem Yzm:fnOk Tryz.prog 52=some (15,Yyc,[.tmp 6]):=by kernel_rfl
def Z3w:List IOp := [oI 6 (.mv (cI 0)) 0]
def Z4e:List IOp := [mI 12 1 0,oI 13 (.call 42 [.t 12]) 0,mI 14 13 0,gI 15 (.mv (.t 2)) 0 14 true,gI 16 (.call 24 [.t 15]) 0 14 true,gI 17 (.bin .eql (.t 16) (cI 0)) 0 14 true,oI 18 (.pick (.t 14) (.t 17) (.c (.bool false))) 0,mI 7 18 0]
def Zo1:List IOp := [oI 8 (.mv (cI 0)) 0]
def Zjl:List IOp := [mI 19 8 0,mI 20 0 0,oI 21 (.len (.t 20)) 0,oI 22 (.bin .lss (.t 19) (.t 21)) 0]
def Zqu:List IOp := [mI 25 7 0,mI 26 25 0,gI 27 (.mv (.t 0)) 0 26 true,gI 28 (.mv (.t 8)) 0 26 true,gI 29 (.idx 3 (.t 27) (.t 28)) 0 26 true,gI 30 (.fa 1 (.t 29)) 0 26 true,gI 31 (.ld none (.t 30)) 0 26 true,gI 32 (.call 42 [.t 31]) 0 26 true,oI 33 (.pick (.t 26) (.t 32) (.c (.bool false))) 0,mI 7 33 0]
def Zql:List IOp := [oI 9 (.mv (cI 0)) 0]
def Zfw:List IOp := [mI 34 9 0,mI 35 0 0,mI 36 8 0,xI 37 3 35 36 0,fI 38 2 37 0,lI 39 38 0,oI 40 (.len (.t 39)) 0,oI 41 (.bin .lss (.t 34) (.t 40)) 0]
def Zje:List IOp := [mI 44 7 0,mI 45 44 0,gI 46 (.mv (.t 0)) 0 45 true,gI 47 (.mv (.t 8)) 0 45 true,gI 48 (.idx 3 (.t 46) (.t 47)) 0 45 true,gI 49 (.fa 2 (.t 48)) 0 45 true,gI 50 (.ld none (.t 49)) 0 45 true,gI 51 (.mv (.t 9)) 0 45 true,gI 52 (.idx 2 (.t 50) (.t 51)) 0 45 true,gI 53 (.fa 1 (.t 52)) 0 45 true,gI 54 (.ld none (.t 53)) 0 45 true,⟨some 55,.bin .eql (.t 54) (.c (.str ⟨#[]⟩)),0,[],[],some (45,true)⟩,gI 56 (.mv (.t 55)) 0 45 true,gI 57 (.mv (.t 0)) 0 56 false,gI 58 (.mv (.t 8)) 0 56 false,gI 59 (.idx 3 (.t 57) (.t 58)) 0 56 false,gI 60 (.fa 2 (.t 59)) 0 56 false,gI 61 (.ld none (.t 60)) 0 56 false,gI 62 (.mv (.t 9)) 0 56 false,gI 63 (.idx 2 (.t 61) (.t 62)) 0 56 false,gI 64 (.fa 1 (.t 63)) 0 56 false,gI 65 (.ld none (.t 64)) 0 56 false,gI 66 (.call 42 [.t 65]) 0 56 false,gI 67 (.pick (.t 56) (.c (.bool true)) (.t 66)) 0 45 true,oI 68 (.pick (.t 45) (.t 67) (.c (.bool false))) 0,mI 7 68 0]
def Zi4:List IOp := [mI 42 9 0,oI 43 (.bin .add (.t 42) (cI 1)) 0,mI 9 43 0]
def Ziw:CC := .seq (.seq (.rg false Zfw) (.cond (.t 41) .skip (.exit 2))) (.seq (.block 3 (.rg false Zje)) (.rg false Zi4))
def Zgz:List IOp := [mI 23 8 0,oI 24 (.bin .add (.t 23) (cI 1)) 0,mI 8 24 0]
def Zja:CC := .seq (.seq (.rg false Zjl) (.cond (.t 22) .skip (.exit 0))) (.seq (.block 1 (.seq (.rg false Zqu) (.seq (.rg false Zql) (.block 2 (.loop Ziw))))) (.rg false Zgz))
def Zd0:List IOp := [mI 69 7 0,oI 70 (.un .not (.t 69)) 0]
def Zgn:List IOp := [oI 6 (.mv (cI 2)) 0]
def Zgm:List IOp := [mI 71 0 0,oI 72 (.len (.t 71)) 0,oI 73 (.call 52 [.t 72,cI 1,cI 10]) 0,mI 74 73 0,gI 75 (.mv (.t 1)) 0 74 true,gI 76 (.call 53 [.t 75,cI 12]) 0 74 true,oI 77 (.pick (.t 74) (.t 76) (.c (.bool false))) 0,mI 78 77 0,gI 79 (.mv (.t 1)) 0 78 true,gI 80 (.call 21 [.t 79]) 0 78 true,gI 81 (.fld (some 2) 0 (.t 80)) 0 78 true,gI 82 (.call 54 [.t 81]) 0 78 true,gI 83 (.bin .geq (.t 82) (cI 0)) 0 78 true,oI 84 (.pick (.t 78) (.t 83) (.c (.bool false))) 0,mI 85 84 0,gI 86 (.mv (.t 1)) 0 85 true,gI 87 (.call 21 [.t 86]) 0 85 true,gI 88 (.call 31 [cI 1]) 0 85 true,gI 89 (.call 25 [.t 87,.t 88]) 0 85 true,gI 90 (.bin .lss (.t 89) (cI 0)) 0 85 true,oI 91 (.pick (.t 85) (.t 90) (.c (.bool false))) 0,mI 10 91 0]
def Zd9:List IOp := [oI 11 (.mv (cI 0)) 0]
def Zg7:List IOp := [mI 92 11 0,mI 93 0 0,oI 94 (.len (.t 93)) 0,oI 95 (.bin .lss (.t 92) (.t 94)) 0]
def Znc:List IOp := [mI 98 10 0,mI 99 98 0,gI 100 (.mv (.t 0)) 0 99 true,gI 101 (.mv (.t 0)) 0 99 true,gI 102 (.mv (.t 11)) 0 99 true,gI 103 (.idx 3 (.t 101) (.t 102)) 0 99 true,gI 104 (.ld (some 3) (.t 103)) 0 99 true,gI 105 (.call 55 [.t 100,.t 104]) 0 99 true,oI 106 (.pick (.t 99) (.t 105) (.c (.bool false))) 0,mI 10 106 0]
def Zl2:List IOp := [mI 96 11 0,oI 97 (.bin .add (.t 96) (cI 1)) 0,mI 11 97 0]
def Zda:CC := .seq (.seq (.rg false Zg7) (.cond (.t 95) .skip (.exit 4))) (.seq (.block 5 (.rg false Znc)) (.rg false Zl2))
def Zbv:List IOp := [mI 107 10 0,oI 108 (.un .not (.t 107)) 0]
def Zcn:List IOp := [oI 6 (.mv (cI 1)) 0]
def Zcf:List IOp := [oI 6 (.mv (cI 0)) 0]
def Yh2:CC := .seq (.rg false Z3w) (.seq (.rg false Z4e) (.seq (.seq (.rg false Zo1) (.block 0 (.loop Zja))) (.seq (.seq (.rg false Zd0) (.cond (.t 70) (.seq (.rg false Zgn) .ret) .skip)) (.seq (.rg false Zgm) (.seq (.seq (.rg false Zd9) (.block 4 (.loop Zda))) (.seq (.seq (.rg false Zbv) (.cond (.t 108) (.seq (.rg false Zcn) .ret) .skip)) (.seq (.rg false Zcf) .ret)))))))
abbrev Yci:Nat:=16
theorem Yn0:fnOk Tryz.prog 16=some (109,Yh2,[.tmp 6]):=by kernel_rfl
def Z1c:List IOp := [oI 2 (.mv (.c .nils)) 0]
def Z02:List IOp := [oI 3 (.mv (cI 5)) 0]
def Z1r:List IOp := [mI 8 0 0,oI 9 (.len (.t 8)) 0,oI 10 (.bin .gtr (.t 9) (cI 10)) 0]
def Yd3:List IOp := [oI 3 (.mv (cI 11)) 0]
def Z1i:List IOp := [oI 11 (.bsl (some 3) 0 [.int .i64 0,.str ⟨#[]⟩,.nils] []) 0,mI 4 11 1]
def Z1s:List IOp := [oI 5 (.mv (cI 0)) 0]
def Zqj:List IOp := [mI 12 5 0,mI 13 0 0,oI 14 (.len (.t 13)) 0,oI 15 (.bin .lss (.t 12) (.t 14)) 0,mI 16 15 0,gI 17 (.mv (.t 5)) 0 16 true,gI 18 (.mv (.t 3)) 0 16 true,gI 19 (.bin .lss (.t 17) (.t 18)) 0 16 true,oI 20 (.pick (.t 16) (.t 19) (.c (.bool false))) 0]
def Z03:List IOp := [mI 23 0 0,mI 24 5 0,xI 25 3 23 24 0,fI 26 0 25 0,lI 27 26 0,mI 28 0 0,mI 29 5 0,xI 30 3 28 29 0,fI 31 1 30 0,lI 32 31 0,oI 33 (.call 14 [.t 32]) 0,oI 34 (.build [.int .i64 0,.str ⟨#[]⟩,.nils] [(0,1,.t 27),(1,1,.t 33)]) 0,oI 6 (.alloc [.int .i64 0,.str ⟨#[]⟩,.nils]) 0,⟨none,.st 3 (.t 6) (.t 34),1,[0],[],none⟩]
@[go_sem ↓] theorem Yjh : autoK Z03 = (1, 1) := by kernel_rfl
@[go_sem] theorem Y2z : autoK [mI 23 0 0, mI 24 5 0, xI 25 3 23 24 0, fI 26 0 25 0, lI 27 26 0, mI 28 0 0, mI 29 5 0, xI 30 3 28 29 0, fI 31 1 30 0, lI 32 31 0, oI 33 (.call 14 [.t 32]) 0, oI 34 (.build [.int .i64 0, .str ⟨#[]⟩, .nils] [(0, 1, .t 27), (1, 1, .t 33)]) 0, oI 6 (.alloc [.int .i64 0, .str ⟨#[]⟩, .nils]) 0, ⟨none, .st 3 (.t 6) (.t 34), 1, [0], [], none⟩] = (1, 1) := Yjh
def Ycr:List IOp := [oI 7 (.mv (cI 0)) 0]
def Zlj:List IOp := [mI 35 7 0,mI 36 0 0,mI 37 5 0,xI 38 3 36 37 0,fI 39 2 38 0,lI 40 39 0,oI 41 (.len (.t 40)) 0,oI 42 (.bin .lss (.t 35) (.t 41)) 0,mI 43 42 0,gI 44 (.mv (.t 7)) 0 43 true,gI 45 (.bin .leq (.t 44) (cI 6)) 0 43 true,oI 46 (.pick (.t 43) (.t 45) (.c (.bool false))) 0]
def Zv4:List IOp := [fI 49 2 6 0,lI 50 49 0,mI 51 0 0,mI 52 5 0,xI 53 3 51 52 0,fI 54 2 53 0,lI 55 54 0,mI 56 7 0,xI 57 2 55 56 0,fI 58 0 57 0,lI 59 58 0,mI 60 0 0,mI 61 5 0,xI 62 3 60 61 0,fI 63 2 62 0,lI 64 63 0,mI 65 7 0,xI 66 2 64 65 0,fI 67 1 66 0,lI 68 67 0,oI 69 (.call 14 [.t 68]) 0,oI 70 (.build [.int .i64 0,.str ⟨#[]⟩] [(0,1,.t 59),(1,1,.t 69)]) 0,oI 71 (.bsl (some 2) 1 [.int .i64 0,.str ⟨#[]⟩] [(0,.t 70)]) 0,⟨some 72,.app (some 2) 24 (.t 50) (.t 71),1,[0],[],none⟩,⟨some 73,.fa 2 (.t 6),2,[0,1],[],none⟩,⟨none,.st 1 (.t 73) (.t 72),2,[0,1],[],none⟩]
@[go_sem ↓] theorem Yfh : autoK Zv4 = (2, 1) := by kernel_rfl
@[go_sem] theorem Yxt : autoK [fI 49 2 6 0, lI 50 49 0, mI 51 0 0, mI 52 5 0, xI 53 3 51 52 0, fI 54 2 53 0, lI 55 54 0, mI 56 7 0, xI 57 2 55 56 0, fI 58 0 57 0, lI 59 58 0, mI 60 0 0, mI 61 5 0, xI 62 3 60 61 0, fI 63 2 62 0, lI 64 63 0, mI 65 7 0, xI 66 2 64 65 0, fI 67 1 66 0, lI 68 67 0, oI 69 (.call 14 [.t 68]) 0, oI 70 (.build [.int .i64 0, .str ⟨#[]⟩] [(0, 1, .t 59), (1, 1, .t 69)]) 0, oI 71 (.bsl (some 2) 1 [.int .i64 0, .str ⟨#[]⟩] [(0, .t 70)]) 0, ⟨some 72, .app (some 2) 24 (.t 50) (.t 71), 1, [0], [], none⟩, ⟨some 73, .fa 2 (.t 6), 2, [0, 1], [], none⟩, ⟨none, .st 1 (.t 73) (.t 72), 2, [0, 1], [], none⟩] = (2, 1) := Yfh
def Yal:List IOp := [mI 47 7 0,oI 48 (.bin .add (.t 47) (cI 1)) 0,mI 7 48 0]
def Z1l:CC := .seq (.seq (.rg false Zlj) (.cond (.t 46) .skip (.exit 2))) (.seq (.block 3 (.rg true Zv4)) (.rg false Yal))
def Zlm:List IOp := [mI 74 4 0,lJ 75 3 6 0,oI 76 (.bsl (some 3) 1 [.int .i64 0,.str ⟨#[]⟩,.nils] [(0,.t 75)]) 0,oI 77 (.app (some 3) 48 (.t 74) (.t 76)) 1,mI 4 77 2]
def Zv8:List IOp := [mI 21 5 0,oI 22 (.bin .add (.t 21) (cI 1)) 0,mI 5 22 0]
def Zoc:CC := .seq (.seq (.rg false Zqj) (.cond (.t 20) .skip (.exit 0))) (.seq (.block 1 (.seq (.rg true Z03) (.seq (.seq (.rg false Ycr) (.block 2 (.loop Z1l))) (.rg false Zlm)))) (.rg false Zv8))
def Zlx:List IOp := [mI 78 4 0,mI 2 78 0]
def Yr3:CC := .seq (.rg false Z1c) (.seq (.rg false Z02) (.seq (.seq (.rg false Z1r) (.cond (.t 10) (.rg false Yd3) .skip)) (.seq (.rg false Z1i) (.seq (.seq (.rg false Z1s) (.block 0 (.loop Zoc))) (.seq (.rg false Zlx) .ret)))))
abbrev Y0x:Nat:=13
theorem Yux:fnOk Tryz.prog 13=some (79,Yr3,[.tmp 2]):=by kernel_rfl
def Zqo:List IOp := [oI 2 (.mv (.c (.str ⟨#[]⟩))) 0]
def Zqf:List IOp := [mI 3 0 0,oI 4 (.slen (.t 3)) 0,oI 5 (.bin .gtr (.t 4) (cI 12)) 0]
def Z3h:List IOp := [mI 6 0 0,mI 7 0 0,oI 8 (.slen (.t 7)) 0,oI 9 (.mn (.t 8) (cI 14)) 0,oI 10 (.sslc (.t 6) none (some (.t 9))) 0,mI 2 10 0]
def Z3d:List IOp := [mI 11 0 0,mI 12 0 0,oI 13 (.slen (.t 12)) 0,oI 14 (.mn (.t 13) (cI 3)) 0,oI 15 (.sslc (.t 11) none (some (.t 14))) 0,mI 2 15 0]
def Yg9:CC := .seq (.rg false Zqo) (.seq (.seq (.rg false Zqf) (.cond (.t 5) (.seq (.rg false Z3h) .ret) .skip)) (.seq (.rg false Z3d) .ret))
abbrev Yqe:Nat:=14
theorem Ymr:fnOk Tryz.prog 14=some (16,Yg9,[.tmp 2]):=by kernel_rfl
def Zqr:List IOp := [oI 4 (.mv (.c (.bool false))) 0]
def Zpy:List IOp := [mI 8 1 0,oI 9 (.slen (.t 8)) 0,oI 10 (.bin .leq (.t 9) (cI 3)) 0,mI 5 10 0]
def Zpx:List IOp := [oI 6 (.mv (cI 0)) 0]
def Zfh:List IOp := [mI 11 6 0,mI 12 0 0,oI 13 (.len (.t 12)) 0,oI 14 (.bin .lss (.t 11) (.t 13)) 0]
def Zi2:List IOp := [mI 17 5 0,mI 18 17 0,gI 19 (.mv (.t 0)) 0 18 true,gI 20 (.mv (.t 6)) 0 18 true,gI 21 (.idx 3 (.t 19) (.t 20)) 0 18 true,gI 22 (.fa 1 (.t 21)) 0 18 true,gI 23 (.ld none (.t 22)) 0 18 true,gI 24 (.slen (.t 23)) 0 18 true,gI 25 (.bin .leq (.t 24) (cI 3)) 0 18 true,oI 26 (.pick (.t 18) (.t 25) (.c (.bool false))) 0,mI 5 26 0]
def Zjj:List IOp := [oI 7 (.mv (cI 0)) 0]
def Zf4:List IOp := [mI 27 7 0,mI 28 0 0,mI 29 6 0,xI 30 3 28 29 0,fI 31 2 30 0,lI 32 31 0,oI 33 (.len (.t 32)) 0,oI 34 (.bin .lss (.t 27) (.t 33)) 0]
def Zi6:List IOp := [mI 37 5 0,mI 38 37 0,gI 39 (.mv (.t 0)) 0 38 true,gI 40 (.mv (.t 6)) 0 38 true,gI 41 (.idx 3 (.t 39) (.t 40)) 0 38 true,gI 42 (.fa 2 (.t 41)) 0 38 true,gI 43 (.ld none (.t 42)) 0 38 true,gI 44 (.mv (.t 7)) 0 38 true,gI 45 (.idx 2 (.t 43) (.t 44)) 0 38 true,gI 46 (.fa 1 (.t 45)) 0 38 true,gI 47 (.ld none (.t 46)) 0 38 true,gI 48 (.slen (.t 47)) 0 38 true,gI 49 (.bin .leq (.t 48) (cI 3)) 0 38 true,oI 50 (.pick (.t 38) (.t 49) (.c (.bool false))) 0,mI 5 50 0]
def Zjb:List IOp := [mI 35 7 0,oI 36 (.bin .add (.t 35) (cI 1)) 0,mI 7 36 0]
def Zi1:CC := .seq (.seq (.rg false Zf4) (.cond (.t 34) .skip (.exit 2))) (.seq (.block 3 (.rg false Zi6)) (.rg false Zjb))
def Zhe:List IOp := [mI 15 6 0,oI 16 (.bin .add (.t 15) (cI 1)) 0,mI 6 16 0]
def Zjh:CC := .seq (.seq (.rg false Zfh) (.cond (.t 14) .skip (.exit 0))) (.seq (.block 1 (.seq (.rg false Zi2) (.seq (.rg false Zjj) (.block 2 (.loop Zi1))))) (.rg false Zhe))
def Zgt:List IOp := [mI 51 5 0,mI 4 51 0]
def Yhn:CC := .seq (.rg false Zqr) (.seq (.rg false Zpy) (.seq (.seq (.rg false Zpx) (.block 0 (.loop Zjh))) (.seq (.rg false Zgt) .ret)))
abbrev Yon:Nat:=18
theorem Ylb:fnOk Tryz.prog 18=some (52,Yhn,[.tmp 4]):=by kernel_rfl
def Z5k:List IOp := [oI 0 (.mv (.c (.bool false))) 0]
def Z3n:List IOp := [oI 6 (.build [.int .i64 0,.str ⟨#[]⟩] []) 0,oI 7 (.bsl (some 2) 1 [.int .i64 0,.str ⟨#[]⟩] [(0,.t 6)]) 0,oI 8 (.build [.int .i64 0,.str ⟨#[]⟩,.nils] [(0,1,cI 1),(1,1,.c (.str ⟨#[49]⟩)),(2,1,.t 7)]) 1,oI 9 (.bsl (some 3) 1 [.int .i64 0,.str ⟨#[]⟩,.nils] [(0,.t 8)]) 1,oI 10 (.call 43 [.t 9,.c (.str ⟨#[49,47,50]⟩)]) 2,mI 5 10 2,eI 11 0 5 2,eI 12 1 5 2,mI 1 11 2,mI 2 12 2]
def Z2i:List IOp := [oI 14 (.build [.int .i64 0,.str ⟨#[]⟩] []) 0,oI 15 (.bsl (some 2) 1 [.int .i64 0,.str ⟨#[]⟩] [(0,.t 14)]) 0,oI 16 (.build [.int .i64 0,.str ⟨#[]⟩,.nils] [(0,1,cI 1),(1,1,.c (.str ⟨#[49]⟩)),(2,1,.t 15)]) 1,oI 17 (.bsl (some 3) 1 [.int .i64 0,.str ⟨#[]⟩,.nils] [(0,.t 16)]) 1,oI 18 (.call 15 [.t 17,.c (.str ⟨#[49,47,50]⟩),cI 3]) 2,mI 13 18 2,eI 19 0 13 2,eI 20 1 13 2,mI 3 19 2,mI 4 20 2]
def Z4a:List IOp := [mI 21 2 0,oI 22 (.bin .eql (.t 21) (cI 0)) 0,mI 23 22 0,gI 24 (.mv (.t 1)) 0 23 true,⟨some 25,.bsl none 1 [.str ⟨#[]⟩] [(0,.c (.str ⟨#[50]⟩))],0,[],[],some (23,true)⟩,gI 26 (.call 56 [.t 24,.t 25]) 1 23 true,oI 27 (.pick (.t 23) (.t 26) (.c (.bool false))) 1,mI 28 27 1,gI 29 (.mv (.t 4)) 1 28 true,gI 30 (.bin .eql (.t 29) (cI 0)) 1 28 true,oI 31 (.pick (.t 28) (.t 30) (.c (.bool false))) 1,mI 32 31 1,gI 33 (.mv (.t 3)) 1 32 true,⟨some 34,.bsl none 1 [.str ⟨#[]⟩] [(0,.c (.str ⟨#[55,47,52]⟩))],1,[],[],some (32,true)⟩,gI 35 (.call 56 [.t 33,.t 34]) 2 32 true,oI 36 (.pick (.t 32) (.t 35) (.c (.bool false))) 2,mI 0 36 2]
def Yhv:CC := .seq (.rg false Z5k) (.seq (.rg false Z3n) (.seq (.rg false Z2i) (.seq (.rg false Z4a) .ret)))
abbrev Ypw:Nat:=17
theorem Yoc:fnOk Tryz.prog 17=some (37,Yhv,[.tmp 0]):=by kernel_rfl
end GoAbs
namespace GoAbs
open Go Go.Proofs
theorem rin {v a b:Int}:SpecV Tryz.prog Yik [.int .i64 v,.int .i64 a,.int .i64 b] (.bool (decide (a≤v∧v≤b))):=by
 refine Zaf Yzm (by simp) ?_
 unfold Yyc
 by_cases h1:a≤v
 ·by_cases h2:v≤b
  ·have hd:decide (a≤v∧v≤b)=true:=by simp [h1,h2]
   rw [hd]; simp only [go_sem,Zxf,Zxb,h1,h2]
  ·have hd:decide (a≤v∧v≤b)=false:=by simp [h2]
   rw [hd]; simp only [go_sem,Zxf,Zxb,h1,h2]
 ·have hd:decide (a≤v∧v≤b)=false:=by simp [h1]
  rw [hd]; simp only [go_sem,Zxf,Zxb,h1]
end GoAbs
namespace GoAbs
open Go Go.Proofs
def stepS (k:Nat) (c:UInt8):Nat:=if c=47 then 0 else if c=45 then k else k+1
def shortL (n:Nat):Nat→List UInt8→Bool
 | _,[]=>true
 | k,c::r=>if n<stepS k c then false else shortL n (stepS k c) r
theorem Zoe {n k:Nat}{c:UInt8}{r:List UInt8}:shortL n k (c::r)=if n<stepS k c then false else shortL n (stepS k c) r:=rfl
theorem rshort {l:List UInt8}{n:Nat}(hlen:l.length≤1000000000) (hn:n≤1000000000):SpecV Tryz.prog Yp7 [.str (bs l),.int .i64 (n:Int)] (.bool (shortL n 0 l)):=by
 refine Zaf Ymt (by simp) ?_
 unfold Ygs
 simp only [go_sem,Z32,Z4y,Z19]
 refine Zae (fun z:Nat×Nat=>⟨envL [(0,.str (bs l)),(1,.int .i64 (n:Int)),(5,.int .i64 (z.2:Int)),(6,.int .i64 (z.1:Int))],[]⟩) (fun z=>z.1≤l.length∧z.2≤z.1∧shortL n z.2 (l.drop z.1)=shortL n 0 l) (fun z=>l.length - z.1) (0,0) ⟨by simp,by simp,by simp⟩ (Zab _ (by simp only [go_sem]; simp)) (fun z hI N hN=>?_)
 obtain ⟨i,k⟩:=z
 obtain ⟨h1,h2,h3⟩:=hI
 simp only at h1 h2 h3 ⊢
 unfold Z2p
 by_cases hi:i<l.length
 ·obtain ⟨c,gi⟩:∃ c,l[i]? = some c:=⟨_,List.getElem?_eq_getElem hi⟩
  have hdr:l.drop i=c::l.drop (i+1):=by
   rw [List.drop_eq_getElem_cons hi]
   congr 1
   have:=List.getElem?_eq_getElem hi
   rw [gi] at this
   exact (Option.some.inj this).symm
  have q0:(0:Int)≤(i:Int):=by omega
  have q1:(i:Int)<(l.length:Int):=by omega
  have e1:IntKind.i64.wrap ((i:Int)+1)=((i+1:Nat):Int):=by rw [Zac (by omega) (by omega)]; omega
  have e2:IntKind.i64.wrap ((k:Int)+1)=((k+1:Nat):Int):=by rw [Zac (by omega) (by omega)]; omega
  rw [hdr,Zoe] at h3
  by_cases hc:c=47
  ·have hci:(c.toNat:Int)=47:=by rw [hc]; rfl
   have hst:stepS k c=0:=by unfold stepS; rw [if_pos hc]
   have q2:¬ (n:Int)<0:=by omega
   rw [hst,if_neg (by omega)] at h3
   simp only [go_sem,Zb6,Zdd,Z14,Zc9,Zg9,Zcx,Zal,gi,q0,q1,q2,hci,e1]
   exact hN (i+1,0) _ ⟨hi,by simp,h3⟩ (by show l.length - (i+1)<l.length - i; omega) (Zab _ (by simp only [go_sem]; simp))
  ·have hci:¬ (c.toNat:Int)=47:=fun h=>hc (UInt8.toNat_inj.1 (by have:(47:UInt8).toNat=47:=rfl; omega))
   by_cases hc5:c=45
   ·have hci5:(c.toNat:Int)=45:=by rw [hc5]; rfl
    have hst:stepS k c=k:=by unfold stepS; rw [if_neg hc,if_pos hc5]
    rw [hst] at h3
    by_cases hk:n<k
    ·have q2:(n:Int)<(k:Int):=by omega
     rw [if_pos hk] at h3
     rw [← h3]
     simp only [go_sem,Zb6,Zdd,Zfp,Zc9,Zmo,Zcx,Zal,gi,q0,q1,q2,hci,hci5]
    ·have q2:¬ (n:Int)<(k:Int):=by omega
     rw [if_neg hk] at h3
     simp only [go_sem,Zb6,Zdd,Zfp,Zc9,Zg9,Zcx,Zal,gi,q0,q1,q2,hci,hci5,e1]
     exact hN (i+1,k) _ ⟨hi,by simp only; omega,h3⟩ (by show l.length - (i+1)<l.length - i; omega) (Zab _ (by simp only [go_sem]))
   ·have hci5:¬ (c.toNat:Int)=45:=fun h=>hc5 (UInt8.toNat_inj.1 (by have:(45:UInt8).toNat=45:=rfl; omega))
    have hst:stepS k c=k+1:=by unfold stepS; rw [if_neg hc,if_neg hc5]
    rw [hst] at h3
    by_cases hk:n<k+1
    ·have q2:(n:Int)<((k+1:Nat):Int):=by omega
     rw [if_pos hk] at h3
     rw [← h3]
     simp only [go_sem,Zb6,Zdd,Zfp,Zqg,Zc9,Zmo,Zcx,Zal,gi,q0,q1,q2,hci,hci5,e2]
    ·have q2:¬ (n:Int)<((k+1:Nat):Int):=by omega
     rw [if_neg hk] at h3
     simp only [go_sem,Zb6,Zdd,Zfp,Zqg,Zc9,Zg9,Zcx,Zal,gi,q0,q1,q2,hci,hci5,e1,e2]
     exact hN (i+1,k+1) _ ⟨hi,by simp only; omega,h3⟩ (by show l.length - (i+1)<l.length - i; omega) (Zab _ (by simp only [go_sem]))
 ·have hie:i=l.length:=by omega
  subst hie
  have q1:¬ ((l.length:Nat):Int)<(l.length:Int):=by omega
  rw [List.drop_length] at h3
  rw [← h3]
  simp only [go_sem,Zb6,Zyp,Zal,q1]
  rfl
end GoAbs
namespace GoAbs
open Go Go.Proofs
def numsE (L:List (List UInt8)):Int:=if (L.all fun s=>(parseL s).isSome) then 0 else 2
def strAV (s:List UInt8):AV := .str (bs s)
theorem rnums {L:List (List UInt8)}(hL:L.length≤1000000000) (hl:∀ s,s∈L→s.length≤1000000000):SpecV Tryz.prog Yuo [.sl (L.map strAV)] (.int .i64 (numsE L)):=by
 obtain ⟨ls,hls⟩:∃ ls,ls=L.map strAV:=⟨_,rfl⟩
 have hlsl:ls.length=L.length:=by rw [hls,List.length_map]
 rw [← hls]
 refine Zaf Yo6 (by simp) ?_
 unfold Ynb
 simp only [go_sem,Yae,Z9a]
 refine Zae (fun i:Nat=>⟨envL [(0,.sl ls),(3,.int .i64 (i:Int))],[]⟩) (fun i=>i≤L.length∧((L.take i).all fun s=>(parseL s).isSome)=true) (fun i=>L.length - i) 0 ⟨by simp,by simp⟩ (Zab _ (by simp only [go_sem]; simp)) (fun i hI N hN=>?_)
 obtain ⟨h1,h2⟩:=hI
 unfold Z7z
 by_cases hi:i<L.length
 ·obtain ⟨l,he⟩:∃ s,L[i]? = some s:=⟨_,List.getElem?_eq_getElem hi⟩
  have hll:=hl _ (List.mem_of_getElem? he)
  have hlsi:ls[i]? = some (.str (bs l)):=by
   rw [hls,List.getElem?_map,he]; rfl
  have q0:(0:Int)≤(i:Int):=by omega
  have q1:(i:Int)<(L.length:Int):=by omega
  have e1:IntKind.i64.wrap ((i:Int)+1)=((i+1:Nat):Int):=by rw [Zac (by omega) (by omega)]; omega
  have tk:((L.take (i+1)).all fun s=>(parseL s).isSome)=(((L.take i).all fun s=>(parseL s).isSome) && (parseL l).isSome):=by
   rw [List.take_add_one,he]; simp [List.all_append]
  simp only [go_sem,Zux,Z9x,hlsl,q0,q1,hlsi]
  refine Zaa (rvalid hll) (by simp only [go_sem]) ?_
  cases hp:(parseL l).isSome with
  | true =>
   simp only [go_sem,Bool.not_true,Z92,e1]
   exact hN (i+1) _ ⟨by omega,by rw [tk,h2,hp]; rfl⟩ (by omega) (Zab _ (by simp only [go_sem]))
  | false =>
   have hf:numsE L=2:=by
    unfold numsE
    rw [if_neg]
    intro hall
    have:=List.all_eq_true.1 hall _ (List.mem_of_getElem? he)
    rw [hp] at this; cases this
   rw [hf]
   simp only [go_sem,Bool.not_false,Z7j]
 ·have hie:i=L.length:=by omega
  subst hie
  have q1:¬ ((L.length:Nat):Int)<(L.length:Int):=by omega
  rw [List.take_length] at h2
  have hf:numsE L=0:=by unfold numsE; rw [if_pos h2]
  rw [hf]
  simp only [go_sem,Zux,Z9i,hlsl,q1]
theorem Zp2 {n:Nat}:∀ {l r:List UInt8}{k:Nat},AllD l→k≤n→shortL n k (l++r)=(decide (k+l.length≤n) && shortL n (k+l.length) r)
 | [],r,k,_,hk=>by simp [hk]
 | c::l,r,k,hd,hk=>by
  have hc:=hd c (by simp)
  unfold isDig at hc
  have h1:c≠47:=fun e=>by rw [e] at hc; have:(47:UInt8).toNat=47:=rfl; omega
  have h2:c≠45:=fun e=>by rw [e] at hc; have:(45:UInt8).toNat=45:=rfl; omega
  have hst:stepS k c=k+1:=by unfold stepS; rw [if_neg h1,if_neg h2]
  rw [List.cons_append,Zoe,hst]
  by_cases hn:n<k+1
  ·rw [if_pos hn]
   have:decide (k+(c::l).length≤n)=false:=by simp; omega
   rw [this]; rfl
  ·rw [if_neg hn,Zp2 (fun x hx=>hd x (by simp [hx])) (by omega),List.length_cons]
   have e:k+1+l.length=k+(l.length+1):=by omega
   rw [e]
end GoAbs
namespace GoAbs
open Go Go.Proofs
theorem Yh9 {a:List UInt8}(h:digOk a):decL (numL a)=a:=by
 obtain ⟨h1,h2,h3,_⟩:=h
 by_cases hh:a.head? = some 48
 ·have hl:¬ 1<a.length:=fun hl=>h3 ⟨hh,hl⟩
  cases a with
  | nil=>exact absurd rfl h2
  | cons c r =>
   have hr:r = []:=List.length_eq_zero_iff.1 (by rw [List.length_cons] at hl; omega)
   subst hr
   simp at hh
   subst hh
   rfl
 ·exact Ymu h1 h2 hh
theorem Y8n:∀ {a b:List Nat},ic a=ic b→a=b
 | [],[],_=>rfl
 | [],y::b,h=>by simp [ic] at h
 | x::a,[],h=>by simp [ic] at h
 | x::a,y::b,h=>by
  rw [Ypp,Ypp] at h
  injection h with h1 h2
  injection h1 with _ h3
  have h4:x=y:=by omega
  rw [h4,Y8n h2]
theorem Y7w {m n:Nat}(h:ic (dg m)=ic (dg n)):m=n:=by
 have:=congrArg vd (Y8n h)
 rwa [Zov,Zov] at this
theorem Xau {n d n' d':Int}(h:AV.tup [avR n d,.bool true] = .tup [avR n' d',.bool true]):n.natAbs=n'.natAbs∧d.natAbs=d'.natAbs:=by
 rw [Zbi,Zbi] at h
 injection h with h
 injection h with h _
 injection h with h
 injection h with _ h
 injection h with h1 h
 injection h with _ h
 injection h with h2 _
 injection h1 with h1
 injection h2 with h2
 exact ⟨Y7w h1,Y7w h2⟩
theorem Z6k {l:List UInt8}{q:Rat}(h:parseL l=some q):digOk (befL (signL l).1)∧decL q.num.natAbs=befL (signL l).1∧(47∈(signL l).1→digOk (aftL (signL l).1)∧decL q.den=aftL (signL l).1)∧(47 ∉ (signL l).1→q.den=1):=by
 have hr:=Yyr l
 rw [h] at hr
 simp only at hr
 unfold refP midR at hr
 have hb:badR ≠ .tup [avR q.num q.den,.bool true]:=by unfold badR; intro e; simp at e
 split at hr
 ·exact absurd hr hb
 ·split at hr
  ·rename_i hs
   split at hr
   ·rename_i hc
    have hA:=hc.1
    obtain ⟨e1,e2⟩:=Xau hr
    have e1':numL (befL (signL l).1)=q.num.natAbs:=by rw [← e1]; split <;> simp
    rw [Int.natAbs_natCast,Int.natAbs_natCast] at e2
    refine ⟨hA,by rw [← e1']; exact Yh9 hA,fun h47=>?_,fun h47=>?_⟩
    ·have:=hs h47
     rw [if_pos h47] at e2
     exact ⟨this.1,by rw [← e2]; exact Yh9 this.1⟩
    ·rw [if_neg h47] at e2
     exact e2.symm
   ·exact absurd hr hb
  ·exact absurd hr hb
theorem Yeq {o:List UInt8}(h:47∈o):o=befL o++47::aftL o:=by
 have h1:=List.takeWhile_append_dropWhile (p:=(· != 47)) (l:=o)
 have h2:∀ l:List UInt8,47∈l→l.dropWhile (· != 47)=47::(l.dropWhile (· != 47)).tail:=by
  intro l
  induction l with
  | nil=>intro h; simp at h
  | cons x l ih =>
   intro h
   rw [List.dropWhile_cons]
   by_cases hx:x=47
   ·subst hx; rfl
   ·have hx':(x != 47)=true:=by simpa using hx
    rw [if_pos hx']
    exact ih (by rcases List.mem_cons.1 h with h | h; exact absurd h.symm hx; exact h)
 rw [h2 o h] at h1
 exact h1.symm
end GoAbs
namespace GoAbs
theorem Ys9:∀ {n:Nat}{c:UInt8},c∈digs n→isDig c:=by
 intro n
 induction n using Nat.strongRecOn with
 | ind n ih =>
  intro c hc
  by_cases h:n=0
  ·subst h; rw [Zf1] at hc; simp at hc
  ·rw [Zf3 h] at hc
   rcases List.mem_cons.1 hc with rfl | hc
   ·unfold isDig; rw [Z34 (Nat.mod_lt n (by omega))]; omega
   ·exact ih (n / 10) (by omega) hc
theorem Yyp:∀ {n:Nat},numL (digs n).reverse=n:=by
 intro n
 induction n using Nat.strongRecOn with
 | ind n ih =>
  by_cases h:n=0
  ·subst h; rw [Zf1]; rfl
  ·rw [Zf3 h,List.reverse_cons,Zw5,ih (n / 10) (by omega),Z34 (Nat.mod_lt n (by omega))]
   omega
theorem Y2k:∀ {n:Nat},n≠0→∃ l c,digs n=l ++ [c]∧c.toNat≠48:=by
 intro n
 induction n using Nat.strongRecOn with
 | ind n ih =>
  intro h
  rw [Zf3 h]
  by_cases h2:n / 10=0
  ·rw [h2,Zf1]
   refine ⟨[],_,rfl,?_⟩
   rw [Z34 (Nat.mod_lt n (by omega))]; omega
  ·obtain ⟨l,c,e,hc⟩:=ih (n / 10) (by omega) h2
   exact ⟨_::l,c,by rw [e]; rfl,hc⟩
theorem Z2s {n:Nat}:numL (decL n)=n:=by
 unfold decL
 split
 ·rename_i h; rw [h]; rfl
 ·exact Yyp
theorem Yg1 {n:Nat}(h:(decL n).length≤4000):digOk (decL n):=by
 refine ⟨fun c hc=>?_,fun e=>by have:=Y4o n; rw [e] at this; simp at this,fun ⟨h1,h2⟩=>?_,h⟩
 ·unfold decL at hc
  split at hc
  ·simp at hc; subst hc; unfold isDig; decide
  ·exact Ys9 (List.mem_reverse.1 hc)
 ·unfold decL at h1 h2
  split at h1
  ·rename_i h0; rw [if_pos h0] at h2; simp at h2
  ·rename_i h0
   obtain ⟨l,c,e,hc⟩:=Y2k h0
   rw [e,List.reverse_append] at h1
   simp at h1
   rw [h1] at hc
   exact hc (by decide)
theorem Ypu {n:Nat}{b:UInt8}(hb:¬ isDig b):b ∉ decL n:=fun h=>by
 unfold decL at h
 split at h
 ·simp at h; subst h; exact hb (by unfold isDig; decide)
 ·exact hb (Ys9 (List.mem_reverse.1 h))
theorem Yhe {q:Rat}(h:NumOk q):parseL (numS q)=some q:=by
 have h47:¬ isDig 47:=by unfold isDig; decide
 have h45:¬ isDig 45:=by unfold isDig; decide
 obtain ⟨h1,h2⟩:=h
 have hd1:=Yg1 h1
 have hs:∀ (sg:List UInt8),sg=(if q.num<0 then [45] else [])→47 ∉ sg:=fun sg e hh=>by
  rw [e] at hh; split at hh <;> simp at hh
 have hsign:∀ (sg:List UInt8),sg=(if q.num<0 then [45] else [])→signL (sg++decL q.num.natAbs)=(decL q.num.natAbs,decide (q.num<0)):=fun sg e=>by
  unfold signL
  by_cases hn:q.num<0
  ·rw [if_pos hn] at e
   subst e
   rw [if_pos (by rfl)]
   simp [hn]
  ·rw [if_neg hn] at e
   subst e
   rw [if_neg (fun hh=>?_)]
   ·simp [hn]
   ·have:(45:UInt8)∈decL q.num.natAbs:=List.mem_of_head? hh
    exact Ypu h45 this
 have hcut:cutL (numS q)=((if q.num<0 then [45] else [])++decL q.num.natAbs,if q.den=1 then [] else decL q.den, !decide (q.den=1)):=by
  unfold numS
  by_cases hd:q.den=1
  ·rw [if_pos hd,if_pos hd,List.append_nil]
   unfold cutL
   rw [if_neg (fun hh=>?_)]
   ·simp [hd]
   ·rcases List.mem_append.1 hh with hh | hh
    ·exact hs _ rfl hh
    ·exact Ypu h47 hh
  ·rw [if_neg hd,if_neg hd]
   unfold cutL
   have hx:∀ x,x∈(if q.num<0 then [45] else [])++decL q.num.natAbs→(x != 47)=true:=fun x hx=>by
    have:x≠47:=fun e=>by
     subst e
     rcases List.mem_append.1 hx with hh | hh
     ·exact hs _ rfl hh
     ·exact Ypu h47 hh
    simpa using this
   rw [if_pos (by simp),List.takeWhile_append_of_pos hx,List.dropWhile_append_of_pos hx]
   simp [hd]
 have hP:partsL (numS q)=(q.num,q.den, !decide (q.den=1)):=by
  unfold partsL
  rw [hcut]
  simp only [hsign _ rfl,Z2s]
  refine Prod.ext ?_ (Prod.ext ?_ rfl)
  ·by_cases hn:q.num<0
   ·simp [hn]; omega
   ·simp [hn]; omega
  ·by_cases hd:q.den=1
   ·simp [hd]
   ·simp [hd,Z2s]
 have hF:formL (numS q):=by
  unfold formL
  rw [hcut]
  simp only [hsign _ rfl,Z2s]
  refine ⟨hd1,fun hh=>?_,fun ⟨a,b⟩=>?_⟩
  ·have hd:q.den≠1:=by simpa using hh
   rw [if_neg hd,Z2s]
   have:=q.den_pos
   exact ⟨Yg1 (h2.resolve_left hd),by omega⟩
  ·have:q.num<0:=by simpa using a
   omega
 unfold parseL
 rw [hP]
 rw [if_pos ⟨hF,fun _=>by
  have:=q.reduced
  show Int.gcd q.num (q.den:Int)=1
  rw [Int.gcd,Int.natAbs_natCast]; exact this⟩,Rat.num_divInt_den]
theorem Y3k {q:Rat}(h:NumOk q):(numS q).length≤8002:=by
 obtain ⟨h1,h2⟩:=h
 have e1:(if q.num<0 then [(45:UInt8)] else []).length≤1:=by split <;> simp
 have e2:(if q.den=1 then [] else 47::decL q.den).length≤4001:=by
  split
  ·simp
  ·rename_i hd
   rw [List.length_cons]; have:=h2.resolve_left hd; omega
 unfold numS
 rw [List.length_append,List.length_append]
 omega
end GoAbs
