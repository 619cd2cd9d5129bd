/- Lemmas for the claim (contracts of the functions that it reaches, and what they compute), without conditions. -/
import Derived.Test.YtnpgooaiiboanaaGreatK31
import Derived.Test.YtnpgooaiiboanaaGreatProg
import Derived.KernelRfl
set_option linter.unusedVariables false
set_option linter.unusedSimpArgs false
set_option maxRecDepth 10000
set_option maxHeartbeats 2000000
namespace GoAbs
open Go Go.Proofs
def cref_digits_r1 : List IOp := [oI 2 (.alloc [.bool false, .nils]) 0, oI 3 (.mv (.c (.bool false))) 1]
def cref_digits_r2 : List IOp := [oI 8 (.mv (.t 0)) 0, oI 9 (.slen (.t 8)) 0, oI 10 (.bin .lss (.t 9) (cI 1)) 0, oI 11 (.mv (.t 10)) 0, ⟨some 12, .mv (.t 0), 0, [], [], some (11, false)⟩, ⟨some 13, .slen (.t 12), 0, [], [], some (11, false)⟩, ⟨some 14, .bin .gtr (.t 13) (cI 4000), 0, [], [], some (11, false)⟩, oI 15 (.pick (.t 11) (.c (.bool true)) (.t 14)) 0, oI 16 (.mv (.t 15)) 0, ⟨some 17, .mv (.t 0), 0, [], [], some (16, false)⟩, ⟨some 18, .sidx (.t 17) (cI 0), 0, [], [], some (16, false)⟩, ⟨some 19, .bin .eql (.t 18) (.c (.int .u8 48)), 0, [], [], some (16, false)⟩, ⟨some 20, .mv (.t 19), 0, [], [], some (16, false)⟩, ⟨some 21, .mv (.t 0), 0, [], [], some (20, true)⟩, ⟨some 22, .slen (.t 21), 0, [], [], some (20, true)⟩, ⟨some 23, .bin .gtr (.t 22) (cI 1), 0, [], [], some (20, true)⟩, ⟨some 24, .pick (.t 20) (.t 23) (.c (.bool false)), 0, [], [], some (16, false)⟩, oI 25 (.pick (.t 16) (.c (.bool true)) (.t 24)) 0]
def cref_digits_r3 : List IOp := [oI 26 (.build [.bool false, .nils] []) 0, ⟨none, .st 2 (.t 2) (.t 26), 0, [], [], none⟩, oI 3 (.mv (.c (.bool false))) 0]
def cref_digits_r4 : List IOp := [oI 27 (.build [.bool false, .nils] []) 0, oI 4 (.alloc [.bool false, .nils]) 0, ⟨none, .st 2 (.t 4) (.t 27), 1, [], [], none⟩]
def cref_digits_r5 : List IOp := [oI 28 (.mv (.t 0)) 0, oI 29 (.slen (.t 28)) 0, oI 5 (.mv (.t 29)) 0]
def cref_digits_r6 : List IOp := [oI 30 (.mv (.t 5)) 0, oI 31 (.bin .gtr (.t 30) (cI 0)) 0]
def cref_digits_r7 : List IOp := [oI 6 (.mv (cI 0)) 0]
def cref_digits_r8 : List IOp := [oI 34 (.mv (.t 5)) 0, oI 35 (.bin .sub (.t 34) (cI 4)) 0, oI 36 (.mx (cI 0) (.t 35)) 0, oI 7 (.mv (.t 36)) 0]
def cref_digits_r9 : List IOp := [oI 37 (.mv (.t 7)) 0, oI 38 (.mv (.t 5)) 0, oI 39 (.bin .lss (.t 37) (.t 38)) 0]
def cref_digits_r10 : List IOp := [oI 42 (.mv (.t 0)) 0, oI 43 (.mv (.t 7)) 0, oI 44 (.sidx (.t 42) (.t 43)) 0, oI 45 (.bin .lss (.t 44) (.c (.int .u8 48))) 0, oI 46 (.mv (.t 45)) 0, ⟨some 47, .mv (.t 0), 0, [], [], some (46, false)⟩, ⟨some 48, .mv (.t 7), 0, [], [], some (46, false)⟩, ⟨some 49, .sidx (.t 47) (.t 48), 0, [], [], some (46, false)⟩, ⟨some 50, .bin .gtr (.t 49) (.c (.int .u8 57)), 0, [], [], some (46, false)⟩, oI 51 (.pick (.t 46) (.c (.bool true)) (.t 50)) 0]
def cref_digits_r11 : List IOp := [oI 52 (.build [.bool false, .nils] []) 0, ⟨none, .st 2 (.t 2) (.t 52), 0, [], [], none⟩, oI 3 (.mv (.c (.bool false))) 0]
def cref_digits_r12 : List IOp := [oI 53 (.mv (.t 6)) 0, oI 54 (.bin .mul (cI 10) (.t 53)) 0, oI 55 (.mv (.t 0)) 0, oI 56 (.mv (.t 7)) 0, oI 57 (.sidx (.t 55) (.t 56)) 0, oI 58 (.bin .sub (.t 57) (.c (.int .u8 48))) 0, oI 59 (.cvi .i64 (.t 58)) 0, oI 60 (.bin .add (.t 54) (.t 59)) 0, oI 6 (.mv (.t 60)) 0]
def cref_digits_r13 : List IOp := [oI 40 (.mv (.t 7)) 0, oI 41 (.bin .add (.t 40) (cI 1)) 0, oI 7 (.mv (.t 41)) 0]
def cref_digits_L1 : CC := .seq (.seq (.rg false cref_digits_r9) (.cond (.t 39) .skip (.exit 2))) (.seq (.block 3 (.seq (.seq (.rg false cref_digits_r10) (.cond (.t 51) (.seq (.rg false cref_digits_r11) .ret) .skip)) (.rg false cref_digits_r12))) (.rg false cref_digits_r13))
def cref_digits_r14 : List IOp := [oI 61 (.fa 1 (.t 4)) 0, oI 62 (.ld none (.t 61)) 0, oI 63 (.mv (.t 6)) 0, oI 64 (.bsl none 1 [.int .i64 0] [(0, .t 63)]) 0, oI 65 (.app none 8 (.t 62) (.t 64)) 1, oI 66 (.fa 1 (.t 4)) 2, ⟨none, .st 1 (.t 66) (.t 65), 2, [], [], none⟩]
def cref_digits_r15 : List IOp := [oI 32 (.mv (.t 5)) 0, oI 33 (.bin .sub (.t 32) (cI 4)) 0, oI 5 (.mv (.t 33)) 0]
def cref_digits_L2 : CC := .seq (.seq (.rg false cref_digits_r6) (.cond (.t 31) .skip (.exit 0))) (.seq (.block 1 (.seq (.rg false cref_digits_r7) (.seq (.seq (.rg false cref_digits_r8) (.block 2 (.loop cref_digits_L1))) (.rg false cref_digits_r14)))) (.rg false cref_digits_r15))
def cref_digits_r16 : List IOp := [oI 67 (.ld (some 2) (.t 4)) 0, oI 68 (.call 117 [.t 67]) 0, ⟨none, .st 2 (.t 2) (.t 68), 0, [], [], none⟩, oI 3 (.mv (.c (.bool true))) 0]
def cref_digits : CC := .seq (.rg false cref_digits_r1) (.seq (.seq (.rg false cref_digits_r2) (.cond (.t 25) (.seq (.rg false cref_digits_r3) .ret) .skip)) (.seq (.rg false cref_digits_r4) (.seq (.seq (.rg false cref_digits_r5) (.block 0 (.loop cref_digits_L2))) (.seq (.rg false cref_digits_r16) .ret))))
abbrev n_ref_digits : Nat := 121
theorem ok_ref_digits : fnOk Tryz.prog 121 = some (69, cref_digits, [.cell 2 (some 2), .tmp 3]) := by kernel_rfl
def cref_Parse_r1 : List IOp := [oI 2 (.alloc [.bool false, .nils, .bool false, .nils]) 0, oI 3 (.mv (.c (.bool false))) 1]
def cref_Parse_r2 : List IOp := [oI 13 (.mv (.t 0)) 0, oI 4 (.mv (.t 13)) 0, oI 5 (.mv (.c (.bool false))) 0]
def cref_Parse_r3 : List IOp := [oI 14 (.mv (.t 4)) 0, oI 15 (.slen (.t 14)) 0, oI 16 (.bin .gtr (.t 15) (cI 8002)) 0]
def cref_Parse_r4 : List IOp := [oI 17 (.build [.bool false, .nils, .bool false, .nils] []) 0, ⟨none, .st 4 (.t 2) (.t 17), 0, [], [], none⟩, oI 3 (.mv (.c (.bool false))) 0]
def cref_Parse_r5 : List IOp := [oI 18 (.mv (.t 4)) 0, oI 19 (.slen (.t 18)) 0, oI 20 (.bin .gtr (.t 19) (cI 0)) 0, oI 21 (.mv (.t 20)) 0, ⟨some 22, .mv (.t 4), 0, [], [], some (21, true)⟩, ⟨some 23, .sidx (.t 22) (cI 0), 0, [], [], some (21, true)⟩, ⟨some 24, .bin .eql (.t 23) (.c (.int .u8 45)), 0, [], [], some (21, true)⟩, oI 25 (.pick (.t 21) (.t 24) (.c (.bool false))) 0]
def cref_Parse_r6 : List IOp := [oI 26 (.mv (.t 4)) 0, oI 27 (.sslc (.t 26) (some (cI 1)) none) 0, oI 4 (.mv (.t 27)) 0, oI 5 (.mv (.c (.bool true))) 0]
def cref_Parse_r7 : List IOp := [oI 28 (.mv (.t 4)) 0, oI 29 (.slen (.t 28)) 0, oI 6 (.mv (.t 29)) 0]
def cref_Parse_r8 : List IOp := [oI 30 (.mv (.t 4)) 0, oI 31 (.slen (.t 30)) 0, oI 32 (.bin .sub (.t 31) (cI 1)) 0, oI 7 (.mv (.t 32)) 0]
def cref_Parse_r9 : List IOp := [oI 33 (.mv (.t 7)) 0, oI 34 (.bin .geq (.t 33) (cI 0)) 0]
def cref_Parse_r10 : List IOp := [oI 37 (.mv (.t 4)) 0, oI 38 (.mv (.t 7)) 0, oI 39 (.sidx (.t 37) (.t 38)) 0, oI 40 (.bin .eql (.t 39) (.c (.int .u8 47))) 0]
def cref_Parse_r11 : List IOp := [oI 41 (.mv (.t 7)) 0, oI 6 (.mv (.t 41)) 0]
def cref_Parse_r12 : List IOp := [oI 35 (.mv (.t 7)) 0, oI 36 (.bin .sub (.t 35) (cI 1)) 0, oI 7 (.mv (.t 36)) 0]
def cref_Parse_L1 : CC := .seq (.seq (.rg false cref_Parse_r9) (.cond (.t 34) .skip (.exit 0))) (.seq (.block 1 (.seq (.rg false cref_Parse_r10) (.cond (.t 40) (.rg false cref_Parse_r11) .skip))) (.rg false cref_Parse_r12))
def cref_Parse_r13 : List IOp := [oI 43 (.mv (.t 4)) 0, oI 44 (.mv (.t 6)) 0, oI 45 (.sslc (.t 43) none (some (.t 44))) 0, oI 46 (.call 121 [.t 45]) 0, oI 42 (.mv (.t 46)) 0, oI 47 (.ext 0 (.t 42)) 0, oI 48 (.ext 1 (.t 42)) 0, oI 8 (.alloc [.bool false, .nils]) 0, ⟨none, .st 2 (.t 8) (.t 47), 1, [], [], none⟩, oI 9 (.mv (.t 48)) 1]
def cref_Parse_r14 : List IOp := [oI 49 (.call 81 [cI 1]) 0, oI 10 (.alloc [.bool false, .nils]) 0, ⟨none, .st 2 (.t 10) (.t 49), 1, [], [], none⟩]
def cref_Parse_r15 : List IOp := [oI 50 (.mv (.t 6)) 0, oI 51 (.mv (.t 4)) 0, oI 52 (.slen (.t 51)) 0, oI 53 (.bin .lss (.t 50) (.t 52)) 0]
def cref_Parse_r16 : List IOp := [oI 55 (.mv (.t 4)) 0, oI 56 (.mv (.t 6)) 0, oI 57 (.bin .add (.t 56) (cI 1)) 0, oI 58 (.sslc (.t 55) (some (.t 57)) none) 0, oI 59 (.call 121 [.t 58]) 0, oI 54 (.mv (.t 59)) 0, oI 60 (.ext 0 (.t 54)) 0, oI 61 (.ext 1 (.t 54)) 0, oI 11 (.alloc [.bool false, .nils]) 0, ⟨none, .st 2 (.t 11) (.t 60), 1, [], [], none⟩, oI 12 (.mv (.t 61)) 1]
def cref_Parse_r17 : List IOp := [oI 62 (.mv (.t 12)) 0, oI 63 (.un .not (.t 62)) 0, oI 64 (.mv (.t 63)) 0, ⟨some 65, .ld (some 2) (.t 11), 0, [], [], some (64, false)⟩, ⟨some 66, .call 81 [cI 2], 0, [], [], some (64, false)⟩, ⟨some 67, .callw 72 [.t 65, .t 66], 0, [], [], some (64, false)⟩, ⟨some 68, .bin .lss (.t 67) (cI 0), 0, [], [], some (64, false)⟩, oI 69 (.pick (.t 64) (.c (.bool true)) (.t 68)) 0, oI 70 (.mv (.t 69)) 0, ⟨some 71, .ld (some 2) (.t 8), 0, [], [], some (70, false)⟩, ⟨some 72, .ld (some 2) (.t 11), 0, [], [], some (70, false)⟩, ⟨some 73, .callw 82 [.t 71, .t 72], 0, [], [], some (70, false)⟩, ⟨some 74, .callw 81 [cI 1], 0, [], [], some (70, false)⟩, ⟨some 75, .callw 72 [.t 73, .t 74], 0, [], [], some (70, false)⟩, ⟨some 76, .bin .neq (.t 75) (cI 0), 0, [], [], some (70, false)⟩, oI 77 (.pick (.t 70) (.c (.bool true)) (.t 76)) 0]
@[go_sem ↓] theorem cref_Parse_r17_k : autoK cref_Parse_r17 = (0, 0) := by kernel_rfl
@[go_sem] theorem cref_Parse_r17_k1 : autoK [oI 62 (.mv (.t 12)) 0, oI 63 (.un .not (.t 62)) 0, oI 64 (.mv (.t 63)) 0, ⟨some 65, .ld (some 2) (.t 11), 0, [], [], some (64, false)⟩, ⟨some 66, .call 81 [cI 2], 0, [], [], some (64, false)⟩, ⟨some 67, .callw 72 [.t 65, .t 66], 0, [], [], some (64, false)⟩, ⟨some 68, .bin .lss (.t 67) (cI 0), 0, [], [], some (64, false)⟩, oI 69 (.pick (.t 64) (.c (.bool true)) (.t 68)) 0, oI 70 (.mv (.t 69)) 0, ⟨some 71, .ld (some 2) (.t 8), 0, [], [], some (70, false)⟩, ⟨some 72, .ld (some 2) (.t 11), 0, [], [], some (70, false)⟩, ⟨some 73, .callw 82 [.t 71, .t 72], 0, [], [], some (70, false)⟩, ⟨some 74, .callw 81 [cI 1], 0, [], [], some (70, false)⟩, ⟨some 75, .callw 72 [.t 73, .t 74], 0, [], [], some (70, false)⟩, ⟨some 76, .bin .neq (.t 75) (cI 0), 0, [], [], some (70, false)⟩, oI 77 (.pick (.t 70) (.c (.bool true)) (.t 76)) 0] = (0, 0) := cref_Parse_r17_k
def cref_Parse_r18 : List IOp := [oI 78 (.build [.bool false, .nils, .bool false, .nils] []) 0, ⟨none, .st 4 (.t 2) (.t 78), 0, [], [], none⟩, oI 3 (.mv (.c (.bool false))) 0]
def cref_Parse_r19 : List IOp := [oI 79 (.ld (some 2) (.t 11)) 0, ⟨none, .st 2 (.t 10) (.t 79), 0, [], [], none⟩]
def cref_Parse_r20 : List IOp := [oI 80 (.mv (.t 9)) 0, oI 81 (.un .not (.t 80)) 0, oI 82 (.mv (.t 81)) 0, ⟨some 83, .mv (.t 5), 0, [], [], some (82, false)⟩, ⟨some 84, .mv (.t 83), 0, [], [], some (82, false)⟩, ⟨some 85, .fa 1 (.t 8), 0, [], [], some (84, true)⟩, ⟨some 86, .ld none (.t 85), 0, [], [], some (84, true)⟩, ⟨some 87, .len (.t 86), 0, [], [], some (84, true)⟩, ⟨some 88, .bin .eql (.t 87) (cI 0), 0, [], [], some (84, true)⟩, ⟨some 89, .pick (.t 84) (.t 88) (.c (.bool false)), 0, [], [], some (82, false)⟩, oI 90 (.pick (.t 82) (.c (.bool true)) (.t 89)) 0]
def cref_Parse_r21 : List IOp := [oI 91 (.build [.bool false, .nils, .bool false, .nils] []) 0, ⟨none, .st 4 (.t 2) (.t 91), 0, [], [], none⟩, oI 3 (.mv (.c (.bool false))) 0]
def cref_Parse_r22 : List IOp := [oI 92 (.mv (.t 5)) 0]
def cref_Parse_r23 : List IOp := [oI 93 (.ld (some 2) (.t 8)) 0, oI 94 (.call 122 [.t 93]) 0, ⟨none, .st 2 (.t 8) (.t 94), 0, [], [], none⟩]
def cref_Parse_r24 : List IOp := [oI 95 (.ld (some 2) (.t 8)) 0, oI 96 (.ld (some 2) (.t 10)) 0, oI 97 (.build [.bool false, .nils, .bool false, .nils] [(0, 2, .t 95), (2, 2, .t 96)]) 0, ⟨none, .st 4 (.t 2) (.t 97), 0, [], [], none⟩, oI 3 (.mv (.c (.bool true))) 0]
def cref_Parse : CC := .seq (.rg false cref_Parse_r1) (.seq (.rg false cref_Parse_r2) (.seq (.seq (.rg false cref_Parse_r3) (.cond (.t 16) (.seq (.rg false cref_Parse_r4) .ret) .skip)) (.seq (.seq (.rg false cref_Parse_r5) (.cond (.t 25) (.rg false cref_Parse_r6) .skip)) (.seq (.rg false cref_Parse_r7) (.seq (.seq (.rg false cref_Parse_r8) (.block 0 (.loop cref_Parse_L1))) (.seq (.rg false cref_Parse_r13) (.seq (.rg false cref_Parse_r14) (.seq (.seq (.rg false cref_Parse_r15) (.cond (.t 53) (.seq (.rg false cref_Parse_r16) (.seq (.seq (.rg true cref_Parse_r17) (.cond (.t 77) (.seq (.rg false cref_Parse_r18) .ret) .skip)) (.rg false cref_Parse_r19))) .skip)) (.seq (.seq (.rg false cref_Parse_r20) (.cond (.t 90) (.seq (.rg false cref_Parse_r21) .ret) .skip)) (.seq (.seq (.rg false cref_Parse_r22) (.cond (.t 92) (.rg false cref_Parse_r23) .skip)) (.seq (.rg false cref_Parse_r24) .ret)))))))))))
abbrev n_ref_Parse : Nat := 75
theorem ok_ref_Parse : fnOk Tryz.prog 75 = some (98, cref_Parse, [.cell 2 (some 4), .tmp 3]) := by kernel_rfl
def cref_Valid_r1 : List IOp := [oI 2 (.mv (.c (.bool false))) 0]
def cref_Valid_r2 : List IOp := [oI 6 (.mv (.t 0)) 0, oI 7 (.call 75 [.t 6]) 0, oI 5 (.mv (.t 7)) 0, oI 8 (.ext 0 (.t 5)) 0, oI 9 (.ext 1 (.t 5)) 0, oI 3 (.alloc [.bool false, .nils, .bool false, .nils]) 0, ⟨none, .st 4 (.t 3) (.t 8), 1, [], [], none⟩, oI 4 (.mv (.t 9)) 1]
def cref_Valid_r3 : List IOp := [oI 10 (.mv (.t 4)) 0, oI 2 (.mv (.t 10)) 0]
def cref_Valid : CC := .seq (.rg false cref_Valid_r1) (.seq (.rg false cref_Valid_r2) (.seq (.rg false cref_Valid_r3) .ret))
abbrev n_ref_Valid : Nat := 34
theorem ok_ref_Valid : fnOk Tryz.prog 34 = some (11, cref_Valid, [.tmp 2]) := by kernel_rfl
def cref_Of_r1 : List IOp := [oI 2 (.alloc [.bool false, .nils, .bool false, .nils]) 0]
def cref_Of_r2 : List IOp := [oI 6 (.mv (.t 0)) 0, oI 7 (.call 75 [.t 6]) 0, oI 5 (.mv (.t 7)) 0, oI 8 (.ext 0 (.t 5)) 0, oI 9 (.ext 1 (.t 5)) 0, oI 3 (.alloc [.bool false, .nils, .bool false, .nils]) 0, ⟨none, .st 4 (.t 3) (.t 8), 1, [], [], none⟩, oI 4 (.mv (.t 9)) 1]
def cref_Of_r3 : List IOp := [oI 10 (.ld (some 4) (.t 3)) 0, ⟨none, .st 4 (.t 2) (.t 10), 0, [], [], none⟩]
def cref_Of : CC := .seq (.rg false cref_Of_r1) (.seq (.rg false cref_Of_r2) (.seq (.rg false cref_Of_r3) .ret))
abbrev n_ref_Of : Nat := 29
theorem ok_ref_Of : fnOk Tryz.prog 29 = some (11, cref_Of, [.cell 2 (some 4)]) := by kernel_rfl
def cref_figures_r1 : List IOp := [oI 1 (.box (.t 0)) 0, oI 2 (.mv (.c (.str ⟨#[]⟩))) 1]
def cref_figures_r2 : List IOp := [oI 7 (.fa 1 (.t 1)) 0, oI 8 (.ld none (.t 7)) 0, oI 9 (.len (.t 8)) 0, oI 10 (.bin .eql (.t 9) (cI 0)) 0]
def cref_figures_r3 : List IOp := [oI 2 (.mv (.c (.str ⟨#[48]⟩))) 0]
def cref_figures_r4 : List IOp := [oI 3 (.mv (.c (.str ⟨#[]⟩))) 0]
def cref_figures_r5 : List IOp := [oI 11 (.fa 1 (.t 1)) 0, oI 12 (.ld none (.t 11)) 0, oI 13 (.len (.t 12)) 0, oI 14 (.bin .sub (.t 13) (cI 1)) 0, oI 4 (.mv (.t 14)) 0]
def cref_figures_r6 : List IOp := [oI 15 (.mv (.t 4)) 0, oI 16 (.bin .geq (.t 15) (cI 0)) 0]
def cref_figures_r7 : List IOp := [oI 19 (.fa 1 (.t 1)) 0, oI 20 (.ld none (.t 19)) 0, oI 21 (.mv (.t 4)) 0, oI 22 (.idx 1 (.t 20) (.t 21)) 0, oI 23 (.ld none (.t 22)) 0, oI 5 (.mv (.t 23)) 0]
def cref_figures_r8 : List IOp := [oI 24 (.mv (.t 5)) 0, oI 25 (.bin .quo (.t 24) (cI 1000)) 0, oI 26 (.bin .add (cI 48) (.t 25)) 0, oI 27 (.cvi .u8 (.t 26)) 0, oI 28 (.mv (.t 5)) 0, oI 29 (.bin .quo (.t 28) (cI 100)) 0, oI 30 (.bin .rem (.t 29) (cI 10)) 0, oI 31 (.bin .add (cI 48) (.t 30)) 0, oI 32 (.cvi .u8 (.t 31)) 0, oI 33 (.mv (.t 5)) 0, oI 34 (.bin .quo (.t 33) (cI 10)) 0, oI 35 (.bin .rem (.t 34) (cI 10)) 0, oI 36 (.bin .add (cI 48) (.t 35)) 0, oI 37 (.cvi .u8 (.t 36)) 0, oI 38 (.mv (.t 5)) 0, oI 39 (.bin .rem (.t 38) (cI 10)) 0, oI 40 (.bin .add (cI 48) (.t 39)) 0, oI 41 (.cvi .u8 (.t 40)) 0, oI 42 (.bsl none 4 [.int .u8 0] [(0, .t 27), (1, .t 32), (2, .t 37), (3, .t 41)]) 0, oI 43 (.b2s (.t 42)) 1, oI 6 (.mv (.t 43)) 1]
def cref_figures_r9 : List IOp := [oI 44 (.mv (.t 3)) 0, oI 45 (.mv (.t 6)) 0, oI 46 (.bin .add (.t 44) (.t 45)) 0, oI 3 (.mv (.t 46)) 0]
def cref_figures_r10 : List IOp := [oI 17 (.mv (.t 4)) 0, oI 18 (.bin .sub (.t 17) (cI 1)) 0, oI 4 (.mv (.t 18)) 0]
def cref_figures_L1 : CC := .seq (.seq (.rg false cref_figures_r6) (.cond (.t 16) .skip (.exit 0))) (.seq (.block 1 (.seq (.rg false cref_figures_r7) (.seq (.rg false cref_figures_r8) (.rg false cref_figures_r9)))) (.rg false cref_figures_r10))
def cref_figures_r11 : List IOp := [oI 47 (.mv (.t 3)) 0, oI 48 (.sidx (.t 47) (cI 0)) 0, oI 49 (.bin .eql (.t 48) (.c (.int .u8 48))) 0]
def cref_figures_r12 : List IOp := [oI 50 (.mv (.t 3)) 0, oI 51 (.sslc (.t 50) (some (cI 1)) none) 0, oI 3 (.mv (.t 51)) 0]
def cref_figures_L2 : CC := .seq (.seq (.rg false cref_figures_r11) (.cond (.t 49) .skip (.exit 2))) (.block 3 (.rg false cref_figures_r12))
def cref_figures_r13 : List IOp := [oI 52 (.mv (.t 3)) 0, oI 2 (.mv (.t 52)) 0]
def cref_figures : CC := .seq (.rg false cref_figures_r1) (.seq (.seq (.rg false cref_figures_r2) (.cond (.t 10) (.seq (.rg false cref_figures_r3) .ret) .skip)) (.seq (.rg false cref_figures_r4) (.seq (.seq (.rg false cref_figures_r5) (.block 0 (.loop cref_figures_L1))) (.seq (.block 2 (.loop cref_figures_L2)) (.seq (.rg false cref_figures_r13) .ret)))))
abbrev n_ref_figures : Nat := 85
theorem ok_ref_figures : fnOk Tryz.prog 85 = some (53, cref_figures, [.tmp 2]) := by kernel_rfl
def cref_Num_r1 : List IOp := [oI 1 (.box (.t 0)) 0, oI 2 (.mv (.c (.str ⟨#[]⟩))) 1, oI 3 (.mv (.c (.bool false))) 1]
def cref_Num_r2 : List IOp := [oI 6 (.ld (some 4) (.t 1)) 0, oI 7 (.call 36 [.t 6]) 0, ⟨none, .st 4 (.t 1) (.t 7), 0, [], [], none⟩]
def cref_Num_r3 : List IOp := [oI 8 (.fa 0 (.t 1)) 0, oI 9 (.ld (some 2) (.t 8)) 0, oI 10 (.call 86 [.t 9]) 0, oI 11 (.call 85 [.t 10]) 0, oI 12 (.fa 2 (.t 1)) 0, oI 13 (.ld (some 2) (.t 12)) 0, oI 14 (.callw 85 [.t 13]) 0, oI 4 (.mv (.t 11)) 0, oI 5 (.mv (.t 14)) 0]
@[go_sem ↓] theorem cref_Num_r3_k : autoK cref_Num_r3 = (0, 0) := by kernel_rfl
@[go_sem] theorem cref_Num_r3_k1 : autoK [oI 8 (.fa 0 (.t 1)) 0, oI 9 (.ld (some 2) (.t 8)) 0, oI 10 (.call 86 [.t 9]) 0, oI 11 (.call 85 [.t 10]) 0, oI 12 (.fa 2 (.t 1)) 0, oI 13 (.ld (some 2) (.t 12)) 0, oI 14 (.callw 85 [.t 13]) 0, oI 4 (.mv (.t 11)) 0, oI 5 (.mv (.t 14)) 0] = (0, 0) := cref_Num_r3_k
def cref_Num_r4 : List IOp := [oI 15 (.mv (.t 4)) 0, oI 16 (.slen (.t 15)) 0, oI 17 (.bin .gtr (.t 16) (cI 4000)) 0, oI 18 (.mv (.t 17)) 0, ⟨some 19, .mv (.t 5), 0, [], [], some (18, false)⟩, ⟨some 20, .slen (.t 19), 0, [], [], some (18, false)⟩, ⟨some 21, .bin .gtr (.t 20) (cI 4000), 0, [], [], some (18, false)⟩, oI 22 (.pick (.t 18) (.c (.bool true)) (.t 21)) 0]
def cref_Num_r5 : List IOp := [oI 2 (.mv (.c (.str ⟨#[]⟩))) 0, oI 3 (.mv (.c (.bool false))) 0]
def cref_Num_r6 : List IOp := [oI 23 (.fa 0 (.t 1)) 0, oI 24 (.fa 0 (.t 23)) 0, oI 25 (.ld none (.t 24)) 0]
def cref_Num_r7 : List IOp := [oI 26 (.mv (.t 4)) 0, oI 27 (.bin .add (.c (.str ⟨#[45]⟩)) (.t 26)) 0, oI 4 (.mv (.t 27)) 0]
def cref_Num_r8 : List IOp := [oI 28 (.mv (.t 5)) 0, oI 29 (.bin .neq (.t 28) (.c (.str ⟨#[49]⟩))) 0]
def cref_Num_r9 : List IOp := [oI 30 (.mv (.t 4)) 0, oI 31 (.mv (.t 5)) 0, oI 32 (.bin .add (.c (.str ⟨#[47]⟩)) (.t 31)) 0, oI 33 (.bin .add (.t 30) (.t 32)) 0, oI 4 (.mv (.t 33)) 0]
def cref_Num_r10 : List IOp := [oI 34 (.mv (.t 4)) 0, oI 2 (.mv (.t 34)) 0, oI 3 (.mv (.c (.bool true))) 0]
def cref_Num : CC := .seq (.rg false cref_Num_r1) (.seq (.rg false cref_Num_r2) (.seq (.rg true cref_Num_r3) (.seq (.seq (.rg false cref_Num_r4) (.cond (.t 22) (.seq (.rg false cref_Num_r5) .ret) .skip)) (.seq (.seq (.rg false cref_Num_r6) (.cond (.t 25) (.rg false cref_Num_r7) .skip)) (.seq (.seq (.rg false cref_Num_r8) (.cond (.t 29) (.rg false cref_Num_r9) .skip)) (.seq (.rg false cref_Num_r10) .ret))))))
abbrev n_ref_Num : Nat := 39
theorem ok_ref_Num : fnOk Tryz.prog 39 = some (35, cref_Num, [.tmp 2, .tmp 3]) := by kernel_rfl
def cref_Is_r1 : List IOp := [oI 3 (.box (.t 1)) 0, oI 4 (.mv (.c (.bool false))) 1]
def cref_Is_r2 : List IOp := [oI 8 (.ld (some 4) (.t 3)) 0, oI 9 (.call 39 [.t 8]) 0, oI 7 (.mv (.t 9)) 0, oI 10 (.ext 0 (.t 7)) 0, oI 11 (.ext 1 (.t 7)) 0, oI 5 (.mv (.t 10)) 0, oI 6 (.mv (.t 11)) 0]
def cref_Is_r3 : List IOp := [oI 12 (.mv (.t 6)) 0, oI 13 (.mv (.t 12)) 0, ⟨some 14, .mv (.t 0), 0, [], [], some (13, true)⟩, ⟨some 15, .mv (.t 5), 0, [], [], some (13, true)⟩, ⟨some 16, .bin .eql (.t 14) (.t 15), 0, [], [], some (13, true)⟩, oI 17 (.pick (.t 13) (.t 16) (.c (.bool false))) 0, oI 4 (.mv (.t 17)) 0]
def cref_Is : CC := .seq (.rg false cref_Is_r1) (.seq (.rg false cref_Is_r2) (.seq (.rg false cref_Is_r3) .ret))
abbrev n_ref_Is : Nat := 20
theorem ok_ref_Is : fnOk Tryz.prog 20 = some (18, cref_Is, [.tmp 4]) := by kernel_rfl
def cref_Nums_r1 : List IOp := [oI 2 (.mv (cI 0)) 0]
def cref_Nums_r2 : List IOp := [oI 3 (.mv (cI 0)) 0]
def cref_Nums_r3 : List IOp := [oI 4 (.mv (.t 3)) 0, oI 5 (.mv (.t 0)) 0, oI 6 (.len (.t 5)) 0, oI 7 (.bin .lss (.t 4) (.t 6)) 0]
def cref_Nums_r4 : List IOp := [oI 10 (.mv (.t 0)) 0, oI 11 (.mv (.t 3)) 0, oI 12 (.idx 1 (.t 10) (.t 11)) 0, oI 13 (.ld none (.t 12)) 0, oI 14 (.call 34 [.t 13]) 0, oI 15 (.un .not (.t 14)) 0]
def cref_Nums_r5 : List IOp := [oI 2 (.mv (cI 2)) 0]
def cref_Nums_r6 : List IOp := [oI 8 (.mv (.t 3)) 0, oI 9 (.bin .add (.t 8) (cI 1)) 0, oI 3 (.mv (.t 9)) 0]
def cref_Nums_L1 : CC := .seq (.seq (.rg false cref_Nums_r3) (.cond (.t 7) .skip (.exit 0))) (.seq (.block 1 (.seq (.rg false cref_Nums_r4) (.cond (.t 15) (.seq (.rg false cref_Nums_r5) .ret) .skip))) (.rg false cref_Nums_r6))
def cref_Nums_r7 : List IOp := [oI 2 (.mv (cI 0)) 0]
def cref_Nums : CC := .seq (.rg false cref_Nums_r1) (.seq (.seq (.rg false cref_Nums_r2) (.block 0 (.loop cref_Nums_L1))) (.seq (.rg false cref_Nums_r7) .ret))
abbrev n_ref_Nums : Nat := 51
theorem ok_ref_Nums : fnOk Tryz.prog 51 = some (16, cref_Nums, [.tmp 2]) := by kernel_rfl
def cref_Short_r1 : List IOp := [oI 4 (.mv (.c (.bool false))) 0]
def cref_Short_r2 : List IOp := [oI 5 (.mv (cI 0)) 0]
def cref_Short_r3 : List IOp := [oI 6 (.mv (cI 0)) 0]
def cref_Short_r4 : List IOp := [oI 7 (.mv (.t 6)) 0, oI 8 (.mv (.t 0)) 0, oI 9 (.slen (.t 8)) 0, oI 10 (.bin .lss (.t 7) (.t 9)) 0]
def cref_Short_r5 : List IOp := [oI 13 (.mv (.t 0)) 0, oI 14 (.mv (.t 6)) 0, oI 15 (.sidx (.t 13) (.t 14)) 0, oI 16 (.bin .eql (.t 15) (.c (.int .u8 47))) 0]
def cref_Short_r6 : List IOp := [oI 5 (.mv (cI 0)) 0]
def cref_Short_r7 : List IOp := [oI 17 (.mv (.t 0)) 0, oI 18 (.mv (.t 6)) 0, oI 19 (.sidx (.t 17) (.t 18)) 0, oI 20 (.bin .neq (.t 19) (.c (.int .u8 45))) 0]
def cref_Short_r8 : List IOp := [oI 21 (.mv (.t 5)) 0, oI 22 (.bin .add (.t 21) (cI 1)) 0, oI 5 (.mv (.t 22)) 0]
def cref_Short_r9 : List IOp := [oI 23 (.mv (.t 5)) 0, oI 24 (.mv (.t 1)) 0, oI 25 (.bin .gtr (.t 23) (.t 24)) 0]
def cref_Short_r10 : List IOp := [oI 4 (.mv (.c (.bool false))) 0]
def cref_Short_r11 : List IOp := [oI 11 (.mv (.t 6)) 0, oI 12 (.bin .add (.t 11) (cI 1)) 0, oI 6 (.mv (.t 12)) 0]
def cref_Short_L1 : CC := .seq (.seq (.rg false cref_Short_r4) (.cond (.t 10) .skip (.exit 0))) (.seq (.block 1 (.seq (.seq (.rg false cref_Short_r5) (.cond (.t 16) (.rg false cref_Short_r6) (.seq (.rg false cref_Short_r7) (.cond (.t 20) (.rg false cref_Short_r8) .skip)))) (.seq (.rg false cref_Short_r9) (.cond (.t 25) (.seq (.rg false cref_Short_r10) .ret) .skip)))) (.rg false cref_Short_r11))
def cref_Short_r12 : List IOp := [oI 4 (.mv (.c (.bool true))) 0]
def cref_Short : CC := .seq (.rg false cref_Short_r1) (.seq (.rg false cref_Short_r2) (.seq (.seq (.rg false cref_Short_r3) (.block 0 (.loop cref_Short_L1))) (.seq (.rg false cref_Short_r12) .ret)))
abbrev n_ref_Short : Nat := 69
theorem ok_ref_Short : fnOk Tryz.prog 69 = some (26, cref_Short, [.tmp 4]) := by kernel_rfl
end GoAbs
namespace GoAbs
open Go Go.Proofs
def AllD (l : List UInt8) : Prop := ∀ c, c ∈ l → isDig c
theorem numL_nil : numL [] = 0 := rfl
theorem decL_numL {l : List UInt8} (h : AllD l) (h0 : l ≠ []) (hh : l.head? ≠ some 48) : decL (numL l) = l := by
  have main : ∀ k (l : List UInt8), l.length = k → AllD l → l.head? ≠ some 48 → (l ≠ [] → numL l ≠ 0) ∧ (digs (numL l)).reverse = l := by
    intro k
    induction k with
    | zero =>
      intro l hl _ _
      have : l = [] := List.length_eq_zero_iff.1 hl
      subst this
      exact ⟨fun h => absurd rfl h, by rw [numL_nil, digs_zero]; rfl⟩
    | succ k ih =>
      intro l hl hd hh
      obtain ⟨r, c, rfl⟩ : ∃ r c, l = r ++ [c] := by
        cases h : l.getLast? with
        | none => rw [List.getLast?_eq_none_iff] at h; subst h; simp at hl
        | some c => obtain ⟨r, rfl⟩ := List.getLast?_eq_some_iff.1 h; exact ⟨r, c, rfl⟩
      have hc := hd c (by simp)
      have hrd : AllD r := fun x hx => hd x (by simp [hx])
      unfold isDig at hc
      rw [numL_snoc]
      have hn : 10 * numL r + (c.toNat - 48) ≠ 0 := by
        by_cases hr : r = []
        · subst hr
          simp only [List.nil_append, List.head?_cons] at hh
          have : c.toNat ≠ 48 := fun e => hh (by congr 1; exact UInt8.toNat_inj.1 e)
          omega
        · have hrh : r.head? ≠ some 48 := fun e => hh (by
            cases r with
            | nil => exact absurd rfl hr
            | cons x r => simpa using e)
          have := (ih r (by simp at hl; exact hl) hrd hrh).1 hr
          omega
      refine ⟨fun _ => hn, ?_⟩
      rw [digs_pos hn]
      have e1 : (10 * numL r + (c.toNat - 48)) / 10 = numL r := by omega
      have e2 : UInt8.ofNat (48 + (10 * numL r + (c.toNat - 48)) % 10) = c := by
        have : 48 + (10 * numL r + (c.toNat - 48)) % 10 = c.toNat := by omega
        rw [this]; exact UInt8.ofNat_toNat
      rw [e1, e2, List.reverse_cons]
      congr 1
      by_cases hr : r = []
      · subst hr; rw [numL_nil, digs_zero]; rfl
      · exact (ih r (by simp at hl; exact hl) hrd (fun e => hh (by
          cases r with
          | nil => exact absurd rfl hr
          | cons x r => simpa using e))).2
  obtain ⟨m1, m2⟩ := main l.length l rfl h hh
  unfold decL
  rw [if_neg (m1 h0)]
  exact m2
def four (d : Nat) : List UInt8 := [UInt8.ofNat (48 + d / 1000), UInt8.ofNat (48 + d / 100 % 10), UInt8.ofNat (48 + d / 10 % 10), UInt8.ofNat (48 + d % 10)]
theorem ofNat_dig {x : Nat} (h : x < 10) : (UInt8.ofNat (48 + x)).toNat = 48 + x := by rw [UInt8.toNat_ofNat']; exact Nat.mod_eq_of_lt (by omega)
theorem four_num {d : Nat} (h : d < 10000) : numL (four d) = d := by
  unfold four numL
  simp only [List.foldl_cons, List.foldl_nil]
  rw [ofNat_dig (by omega), ofNat_dig (by omega), ofNat_dig (by omega), ofNat_dig (by omega)]
  omega
theorem four_dig {d : Nat} (h : d < 10000) : AllD (four d) := fun c hc => by
  unfold four at hc
  unfold isDig
  simp only [List.mem_cons, List.not_mem_nil, or_false] at hc
  rcases hc with rfl | rfl | rfl | rfl
  · rw [ofNat_dig (by omega)]; omega
  · rw [ofNat_dig (by omega)]; omega
  · rw [ofNat_dig (by omega)]; omega
  · rw [ofNat_dig (by omega)]; omega
theorem rfig_L1 {m : Bool} {A : List Nat} (hA : Od A) (hla : A.length ≤ 100000000) {K : Ex → St → Prop}
    (hK : ∀ (e : Nat → AV) (F : List UInt8) (H : Heap), AllD F → numL F = vd A → F.length = 4 * A.length → e 3 = .str (bs F) → K (.exit 0) ⟨e, H⟩) :
    T Tryz.prog 53 0 (.loop cref_figures_L1) ⟨envL [(1, .ptr 0 0), (3, .str (bs [])), (4, .int .i64 ((A.length : Int) - 1))], [.cells [.bool m, .sl (ic A)]]⟩ K := by
  refine T_rounds (fun z : Nat × List UInt8 => ⟨envL [(1, .ptr 0 0), (3, .str (bs z.2)), (4, .int .i64 ((z.1 : Int) - 1))], [.cells [.bool m, .sl (ic A)]]⟩)
    (fun z => z.1 ≤ A.length ∧ AllD z.2 ∧ numL z.2 = vd (A.drop z.1) ∧ z.2.length = 4 * (A.length - z.1)) (fun z => z.1) (A.length, [])
    ⟨Nat.le_refl _, fun c hc => by simp at hc, by simp [numL_nil, vd], by simp⟩ (Le_keep _ (by simp only [go_sem])) (fun z hI N hN => ?_)
  obtain ⟨i, F⟩ := z
  obtain ⟨h1, h2, h3, h4⟩ := hI
  simp only at h1 h2 h3 h4 ⊢
  unfold cref_figures_L1
  cases i with
  | zero =>
    have q1 : ¬ (0 : Int) ≤ ((0 : Nat) : Int) - 1 := by omega
    simp only [go_sem, cref_figures_r6, q1]
    rw [List.drop_zero] at h3
    exact hK _ F _ h2 h3 (by omega) (by simp only [go_sem])
  | succ j =>
    have e0 : ((j + 1 : Nat) : Int) - 1 = (j : Int) := by omega
    have q1 : (0 : Int) ≤ (j : Int) := by omega
    have e1 : IntKind.i64.wrap ((j : Int) - 1) = (j : Int) - 1 := i64_id (by omega) (by omega)
    have hx : A[j]? = some (A.getD j 0) := getElem?_getD (by omega)
    have hxl := hA.get hx
    have hdA := drop_vd (l := A) (j := j) (by omega)
    generalize A.getD j 0 = x at *
    have p1 : ¬ (1000 : Int) = 0 := by omega
    have p2 : ¬ (100 : Int) = 0 := by omega
    have p3 : ¬ (10 : Int) = 0 := by omega
    have dv : ∀ (y k : Nat), y < 10000 → 0 < k → IntKind.i64.wrap (((y : Nat) : Int).tdiv (k : Int)) = ((y / k : Nat) : Int) := fun y k hy hk => by
      have : ((y : Nat) : Int).tdiv (k : Int) = ((y / k : Nat) : Int) := (Int.ofNat_tdiv y k).symm
      rw [this]
      have hle := Nat.div_le_self y k
      generalize y / k = w at *
      exact i64_id (by omega) (by omega)
    have d1 : IntKind.i64.wrap ((x : Int).tdiv 1000) = ((x / 1000 : Nat) : Int) := dv x 1000 hxl (by omega)
    have d2 : IntKind.i64.wrap ((x : Int).tdiv 100) = ((x / 100 : Nat) : Int) := dv x 100 hxl (by omega)
    have d3 : IntKind.i64.wrap ((x : Int).tdiv 10) = ((x / 10 : Nat) : Int) := dv x 10 hxl (by omega)
    have em : ∀ t : Nat, ((t : Nat) : Int).tmod 10 = ((t % 10 : Nat) : Int) := fun t => tmod_nat (b := 10)
    have ea : ∀ t : Nat, t < 10 → IntKind.i64.wrap (48 + ((t : Nat) : Int)) = ((48 + t : Nat) : Int) := fun t ht => by rw [i64_id (by omega) (by omega)]; omega
    have eu : ∀ t : Nat, t < 10 → IntKind.u8.wrap (((48 + t : Nat) : Int)) = (((UInt8.ofNat (48 + t)).toNat : Nat) : Int) := fun t ht => by rw [ofNat_dig ht, u8_id (by omega) (by omega)]
    have hsz : F.length + 4 ≤ 4 * 100000000 := by omega
    simp only [go_sem, cref_figures_r6, cref_figures_r7, cref_figures_r8, cref_figures_r9, cref_figures_r10, e0, q1, ic_get hx, p1, p2, p3, d1, d2, d3, em, ea (x / 1000) (by omega), ea (x / 100 % 10) (by omega), ea (x / 10 % 10) (by omega), ea (x % 10) (by omega), eu (x / 1000) (by omega), eu (x / 100 % 10) (by omega), eu (x / 10 % 10) (by omega), eu (x % 10) (by omega), e1]
    refine ⟨four x, rfl, ?_⟩
    have hb : (⟨(four x).toArray⟩ : ByteArray) = bs (four x) := rfl
    have h4l : (four x).length = 4 := rfl
    have hmax : (((bs F).size + (bs (four x)).size : Nat) : Int) ≤ IntKind.i64.max := by
      rw [bs_size, bs_size, h4l]
      have : IntKind.i64.max = 9223372036854775807 := by decide
      rw [this]; omega
    simp only [go_sem, hb, bs_append]
    refine ⟨hmax, ?_⟩
    refine hN (j, F ++ four x) _ ⟨by simp only; omega, fun c hc => ?_, ?_, ?_⟩ (by show j < j + 1; omega) ?_
    · rcases List.mem_append.1 hc with hc | hc
      · exact h2 c hc
      · exact four_dig hxl c hc
    · simp only
      rw [numL_append, four_num hxl, h4l, h3, hdA]
      omega
    · simp only [List.length_append, h4l]; omega
    · exact Le_eq (Le_gc [0] (by decide) (fun i hi => by omega) [(1, .ptr 0 0), (3, .str (bs (F ++ four x))), (4, .int .i64 ((j : Int) - 1))] (by simp only [go_sem])) rfl
theorem rfig_L2 {F : List UInt8} {n0 : Nat} {H : Heap} (hF : AllD F) (h0 : numL F ≠ 0) {K : Ex → St → Prop}
    (hK : ∀ (e : Nat → AV), e 3 = .str (bs (decL (numL F))) → K (.exit 2) ⟨e, H⟩) :
    T Tryz.prog 53 n0 (.loop cref_figures_L2) ⟨envL [(3, .str (bs F))], H⟩ K := by
  refine T_rounds (fun z : List UInt8 => ⟨envL [(3, .str (bs z))], H⟩) (fun z => AllD z ∧ numL z = numL F) (fun z => z.length) F ⟨hF, rfl⟩ (Le_keep _ (by simp only [go_sem])) (fun z hI N hN => ?_)
  obtain ⟨h1, h2⟩ := hI
  unfold cref_figures_L2
  cases z with
  | nil => rw [numL_nil] at h2; exact absurd h2.symm h0
  | cons c z =>
    have gi : (c :: z)[0]? = some c := rfl
    by_cases hc : c.toNat = 48
    · have hci : (c.toNat : Int) = 48 := by omega
      have q0 : (1 : Nat) ≤ (c :: z).length := by simp
      simp only [go_sem, cref_figures_r11, cref_figures_r12, bs_get, bs_size, gi, hci, bs_extract]
      refine ⟨Nat.le_refl _, ?_⟩
      rw [List.take_length]
      refine hN z _ ⟨fun x hx => h1 x (by simp [hx]), ?_⟩ (by simp) (Le_keep _ (by simp only [go_sem]))
      rw [← h2]
      have := numL_append [c] z
      have hc1 : numL [c] = 0 := by simp [numL, hc]
      rw [hc1, Nat.zero_mul, Nat.zero_add] at this
      exact this.symm
    · have hci : ¬ (c.toNat : Int) = 48 := by omega
      simp only [go_sem, cref_figures_r11, bs_get, gi, hci]
      have hd := decL_numL h1 (by simp) (by simp only [List.head?_cons]; intro e; apply hc; cases e; rfl)
      rw [h2] at hd
      exact hK _ (by simp only [go_sem, hd])
theorem rfig_nat {n : Nat} (hn : Zs n) {m : Bool} : SpecV Tryz.prog n_ref_figures [.agg [.bool m, .sl (ic (dg n))]] (.str (bs (decL n))) := by
  have hlen := hn.len
  by_cases h0 : n = 0
  · subst h0
    refine specV_W ok_ref_figures (by simp) ?_
    unfold cref_figures
    simp only [go_sem, cref_figures_r1, cref_figures_r2, cref_figures_r3, dg_zero, ic_nil]
    exact ⟨fun _ => rfl, fun h => absurd rfl h⟩
  · refine specV_T ok_ref_figures (by simp) (T_cut 1 rfl ?_)
    unfold cref_figures
    have hp : ¬ ((dg n).length : Int) = 0 := by have := (dg_len_pos (n := n)).2 h0; omega
    have e0 : IntKind.i64.wrap (((dg n).length : Int) - 1) = ((dg n).length : Int) - 1 := i64_id (by omega) (by omega)
    simp only [go_sem, cref_figures_r1, cref_figures_r2, ic_len, hp]
    refine T_W ?_
    simp only [go_sem, cref_figures_r4, cref_figures_r5, ic_len, e0]
    refine T_keep [(1, .ptr 0 0), (3, .str (bs [])), (4, .int .i64 (((dg n).length : Int) - 1))] (by simp only [go_sem]; rfl) (rfig_L1 (dg_ok n) hlen (fun e F H g1 g2 g3 k3 => ?_))
    rw [vd_dg] at g2
    simp only [go_sem]
    refine T_keep [(3, .str (bs F))] (by simp only [go_sem, k3]) (rfig_L2 g1 (by omega) (fun e2 j3 => ?_))
    rw [g2] at j3
    simp only [go_sem, cref_figures_r13, j3]
end GoAbs
namespace GoAbs
open Go Go.Proofs
theorem decL_one {n : Nat} : decL n = [49] ↔ n = 1 := by
  constructor
  · intro h
    have h1 : n < 10 := by have := decL_lt (n := n) (k := 1) (by rw [h]; simp); omega
    unfold decL at h
    split at h
    · cases h
    · rename_i h0
      rw [digs_pos h0, show n / 10 = 0 by omega, digs_zero] at h
      simp only [List.reverse_cons, List.reverse_nil, List.nil_append, List.cons.injEq, and_true] at h
      have := congrArg UInt8.toNat h
      rw [ofNat_dig (by omega)] at this
      have h49 : (49 : UInt8).toNat = 49 := rfl
      omega
  · intro h
    subst h
    exact decL_numL (l := [49]) (fun c hc => by simp at hc; subst hc; decide) (by simp) (by simp)
theorem rnum {n d : Int} {k : Nat} {q : Rat} (h1 : Ib k n) (h2 : Ib k d) (hd : 0 < d) (hk : k ≤ 10000000) (hq : Rat.divInt n d = q) :
    SpecV Tryz.prog n_ref_Num [avR n d] (if NumOk q then .tup [.str (bs (numS q)), .bool true] else .tup [.str (bs []), .bool false]) := by
  have hm : Tryz.prog.follows .mixedOrders = true := by kernel_rfl
  refine specV_W ok_ref_Num (by simp) ?_
  unfold cref_Num
  have hl := rlow h1 h2 hd hk
  rw [hq] at hl
  obtain ⟨g1, g2⟩ := divInt_le (n := n) (d := d) (by omega)
  rw [hq] at g1 g2
  have zn : Zs q.num.natAbs := (h1.zs hk).mono g1
  have zd : Zs q.den := (h2.zs hk).mono g2
  have ha := rabs_z (z := q.num)
  rw [avZ_nat, avZ_agg] at ha
  have f1 := rfig_nat zn (m := false)
  have f2 := rfig_nat zd (m := decide ((q.den : Int) < 0))
  rw [avR_agg, avR_agg] at hl
  rw [avR_agg]
  rw [Int.natAbs_natCast] at hl
  have hmax : IntKind.i64.max = 9223372036854775807 := rfl
  have c45 : (⟨#[45]⟩ : ByteArray) = bs [45] := rfl
  have c47 : (⟨#[47]⟩ : ByteArray) = bs [47] := rfl
  have c49 : (⟨#[49]⟩ : ByteArray) = bs [49] := rfl
  have hok : NumOk q ↔ ((decL q.num.natAbs).length ≤ 4000 ∧ (decL q.den).length ≤ 4000) := by
    unfold NumOk
    constructor
    · rintro ⟨h1, h2 | h2⟩
      · exact ⟨h1, by rw [decL_one.2 h2]; simp⟩
      · exact ⟨h1, h2⟩
    · rintro ⟨h1, h2⟩; exact ⟨h1, .inr h2⟩
  have hden : (bs (decL q.den) = bs [49]) = (q.den = 1) := propext (bs_inj.trans decL_one)
  simp only [go_sem, cref_Num_r1, cref_Num_r2]
  refine call_P hl (by simp only [go_sem]) ?_
  simp only [go_sem, cref_Num_r3, hm]
  refine call_P ha (by simp only [go_sem]) ?_
  simp only [go_sem]
  refine call_P f1 (by simp only [go_sem]) ?_
  simp only [go_sem]
  refine call_P f2 (by simp only [go_sem]) ?_
  by_cases hA : (decL q.num.natAbs).length ≤ 4000
  · have q1 : ¬ (4000 : Int) < ((decL q.num.natAbs).length : Int) := by omega
    by_cases hB : (decL q.den).length ≤ 4000
    · have q2 : ¬ (4000 : Int) < ((decL q.den).length : Int) := by omega
      rw [if_pos (hok.2 ⟨hA, hB⟩)]
      have m1 : ((1 + (decL q.num.natAbs).length : Nat) : Int) ≤ IntKind.i64.max := by rw [hmax]; omega
      have m2 : ((1 + (decL q.den).length : Nat) : Int) ≤ IntKind.i64.max := by rw [hmax]; omega
      have m3 : ∀ S : List UInt8, S.length ≤ 4001 → ((S.length + (1 + (decL q.den).length) : Nat) : Int) ≤ IntKind.i64.max := fun S hS => by rw [hmax]; omega
      by_cases hs : q.num < 0
      · by_cases h1 : q.den = 1
        · have hden' : (bs (decL q.den) = bs [49]) = True := by rw [hden]; simp [h1]
          have hS : numS q = [45] ++ decL q.num.natAbs ++ [] := by unfold numS; simp [hs, h1]
          rw [hS]
          simp only [go_sem, cref_Num_r4, cref_Num_r6, cref_Num_r7, cref_Num_r8, cref_Num_r10, bs_size, q1, q2, decide_eq_true hs, c45, c47, c49, bs_append, m1, m2, hden', List.length_cons, List.length_append, List.length_nil]
        · have hden' : (bs (decL q.den) = bs [49]) = False := by rw [hden]; simp [h1]
          have hS : numS q = [45] ++ decL q.num.natAbs ++ (47 :: decL q.den) := by unfold numS; simp [hs, h1]
          rw [hS]
          simp only [go_sem, cref_Num_r4, cref_Num_r6, cref_Num_r7, cref_Num_r8, cref_Num_r9, cref_Num_r10, bs_size, q1, q2, decide_eq_true hs, c45, c47, c49, bs_append, m1, m2, hden', List.length_cons, List.length_append, List.length_nil]
          rw [hmax]; omega
      · by_cases h1 : q.den = 1
        · have hden' : (bs (decL q.den) = bs [49]) = True := by rw [hden]; simp [h1]
          have hS : numS q = [] ++ decL q.num.natAbs ++ [] := by unfold numS; simp [hs, h1]
          rw [hS]
          simp only [go_sem, cref_Num_r4, cref_Num_r6, cref_Num_r8, cref_Num_r10, bs_size, q1, q2, decide_eq_false hs, c45, c47, c49, bs_append, m1, m2, hden', List.length_cons, List.length_append, List.length_nil]
        · have hden' : (bs (decL q.den) = bs [49]) = False := by rw [hden]; simp [h1]
          have hS : numS q = [] ++ decL q.num.natAbs ++ (47 :: decL q.den) := by unfold numS; simp [hs, h1]
          rw [hS]
          simp only [go_sem, cref_Num_r4, cref_Num_r6, cref_Num_r8, cref_Num_r9, cref_Num_r10, bs_size, q1, q2, decide_eq_false hs, c45, c47, c49, bs_append, m1, m2, hden', List.length_cons, List.length_append, List.length_nil]
          rw [hmax]; omega
    · have q2 : (4000 : Int) < ((decL q.den).length : Int) := by omega
      rw [if_neg (fun h => hB (hok.1 h).2)]
      simp only [go_sem, cref_Num_r4, cref_Num_r5, bs_size, q1, q2]
      rfl
  · have q1 : (4000 : Int) < ((decL q.num.natAbs).length : Int) := by omega
    rw [if_neg (fun h => hA (hok.1 h).1)]
    simp only [go_sem, cref_Num_r4, cref_Num_r5, bs_size, q1]
    rfl
theorem ris {n d : Int} {k : Nat} {q : Rat} {s : ByteArray} (h1 : Ib k n) (h2 : Ib k d) (hd : 0 < d) (hk : k ≤ 10000000) (hq : Rat.divInt n d = q) :
    SpecV Tryz.prog n_ref_Is [.str s, avR n d] (.bool (decide (NumOk q ∧ s = bs (numS q)))) := by
  refine specV_W ok_ref_Is (by simp) ?_
  unfold cref_Is
  have hn := rnum h1 h2 hd hk hq
  rw [avR_agg] at hn ⊢
  simp only [go_sem, cref_Is_r1, cref_Is_r2]
  refine call_P hn (by simp only [go_sem]) ?_
  by_cases ho : NumOk q
  · rw [if_pos ho]
    by_cases hs : s = bs (numS q)
    · have : decide (NumOk q ∧ s = bs (numS q)) = true := by simp [ho, hs]
      rw [this]
      simp only [go_sem, cref_Is_r3, hs]
    · have : decide (NumOk q ∧ s = bs (numS q)) = false := by simp [hs]
      rw [this]
      simp only [go_sem, cref_Is_r3, hs]
  · have : decide (NumOk q ∧ s = bs (numS q)) = false := by simp [ho]
    rw [if_neg ho, this]
    simp only [go_sem, cref_Is_r3]
end GoAbs
namespace GoAbs
open Go Go.Proofs
theorem rdig_L1 {l : List UInt8} {lo hi n0 : Nat} {b1 b2 : Blk} (hlo : lo ≤ hi) (hh : hi ≤ lo + 4) (hl : hi ≤ l.length) (hll : l.length ≤ 4000) {K : Ex → St → Prop}
    (hbad : ∀ e : Nat → AV, ¬ AllD l → e 2 = .ptr 0 0 → e 3 = .bool false → K .ret ⟨e, [.cells [.bool false, .nils], b1, b2]⟩)
    (hK : ∀ e : Nat → AV, AllD ((l.take hi).drop lo) → e 0 = .str (bs l) → e 2 = .ptr 0 0 → e 4 = .ptr 1 0 → e 5 = .int .i64 (hi : Int) → e 6 = .int .i64 (numL ((l.take hi).drop lo) : Int) → K (.exit 2) ⟨e, [.cells [.bool false, .nils], b1, b2]⟩) :
    T Tryz.prog 69 n0 (.loop cref_digits_L1) ⟨envL [(0, .str (bs l)), (2, .ptr 0 0), (4, .ptr 1 0), (5, .int .i64 (hi : Int)), (6, .int .i64 0), (7, .int .i64 (lo : Int))], [.cells [.bool false, .nils], b1, b2]⟩ K := by
  refine T_rounds (fun i : Nat => ⟨envL [(0, .str (bs l)), (2, .ptr 0 0), (4, .ptr 1 0), (5, .int .i64 (hi : Int)), (6, .int .i64 (numL ((l.take i).drop lo) : Int)), (7, .int .i64 (i : Int))], [.cells [.bool false, .nils], b1, b2]⟩)
    (fun i => lo ≤ i ∧ i ≤ hi ∧ AllD ((l.take i).drop lo)) (fun i => hi - i) lo
    ⟨Nat.le_refl _, hlo, fun c hc => by rw [List.drop_eq_nil_of_le (by simp; omega)] at hc; simp at hc⟩ (Le_keep _ (by
      have : (l.take lo).drop lo = [] := List.drop_eq_nil_of_le (by simp; omega)
      simp only [go_sem, this, numL_nil]; simp)) (fun i hI N hN => ?_)
  obtain ⟨h1, h2, h3⟩ := hI
  unfold cref_digits_L1
  by_cases hi' : i < hi
  · obtain ⟨c, gi⟩ : ∃ c, l[i]? = some c := ⟨_, List.getElem?_eq_getElem (show i < l.length by omega)⟩
    have p1 : (i : Int) < (hi : Int) := by omega
    have p2 : (0 : Int) ≤ (i : Int) := by omega
    have e6 : IntKind.i64.wrap ((i : Int) + 1) = ((i + 1 : Nat) : Int) := by rw [i64_id (by omega) (by omega)]; omega
    have hst : (l.take (i + 1)).drop lo = (l.take i).drop lo ++ [c] := by
      rw [List.take_add_one, gi]
      rw [List.drop_append_of_le_length (by simp; omega)]; rfl
    have hlt : numL ((l.take i).drop lo) < 10 ^ 4 := by
      refine Nat.lt_of_lt_of_le (numL_lt h3) (Nat.pow_le_pow_right (by omega) ?_)
      simp; omega
    by_cases c1 : c.toNat < 48
    · have q1 : (c.toNat : Int) < 48 := by omega
      have hnd : ¬ AllD l := fun h => by have := h c (List.mem_of_getElem? gi); unfold isDig at this; omega
      simp only [go_sem, cref_digits_r9, cref_digits_r10, cref_digits_r11, p1, p2, bs_get, gi, q1]
      exact hbad _ hnd (by simp only [go_sem]) (by simp only [go_sem])
    · have q1 : ¬ (c.toNat : Int) < 48 := by omega
      by_cases c2 : 57 < c.toNat
      · have q2 : (57 : Int) < (c.toNat : Int) := by omega
        have hnd : ¬ AllD l := fun h => by have := h c (List.mem_of_getElem? gi); unfold isDig at this; omega
        simp only [go_sem, cref_digits_r9, cref_digits_r10, cref_digits_r11, p1, p2, bs_get, gi, q1, q2]
        exact hbad _ hnd (by simp only [go_sem]) (by simp only [go_sem])
      · have q2 : ¬ (57 : Int) < (c.toNat : Int) := by omega
        have e1 : IntKind.u8.wrap ((c.toNat : Int) - 48) = ((c.toNat - 48 : Nat) : Int) := by rw [u8_id (by omega) (by omega)]; omega
        have e2 : IntKind.i64.wrap ((c.toNat - 48 : Nat) : Int) = ((c.toNat - 48 : Nat) : Int) := i64_id (by omega) (by omega)
        have e3 : IntKind.i64.wrap (10 * ((numL ((l.take i).drop lo) : Nat) : Int)) = ((10 * numL ((l.take i).drop lo) : Nat) : Int) := by rw [i64_id (by omega) (by omega)]; omega
        have e4 : IntKind.i64.wrap (((10 * numL ((l.take i).drop lo) : Nat) : Int) + ((c.toNat - 48 : Nat) : Int)) = ((numL ((l.take (i + 1)).drop lo) : Nat) : Int) := by
          rw [hst, numL_snoc, i64_id (by omega) (by omega)]; omega
        simp only [go_sem, cref_digits_r9, cref_digits_r10, cref_digits_r12, cref_digits_r13, p1, p2, bs_get, gi, q1, q2, e1, e2, e3, e4, e6]
        refine hN (i + 1) _ ⟨by omega, by omega, fun x hx => ?_⟩ (by omega) (Le_keep _ (by simp only [go_sem]))
        rw [hst] at hx
        rcases List.mem_append.1 hx with hx | hx
        · exact h3 x hx
        · simp at hx; subst hx; unfold isDig; omega
  · have he : i = hi := by omega
    subst he
    have p1 : ¬ (i : Int) < (i : Int) := by omega
    simp only [go_sem, cref_digits_r9, p1]
    exact hK _ h3 (by simp only [go_sem]) (by simp only [go_sem]) (by simp only [go_sem]) (by simp only [go_sem]) (by simp only [go_sem])
theorem rdig_L2 {l : List UInt8} (hl0 : l ≠ []) (hll : l.length ≤ 4000) {K : Ex → St → Prop}
    (hbad : ∀ (e : Nat → AV) (b1 b2 : Blk), ¬ AllD l → e 2 = .ptr 0 0 → e 3 = .bool false → K .ret ⟨e, [.cells [.bool false, .nils], b1, b2]⟩)
    (hK : ∀ (e : Nat → AV) (s : List Nat), AllD l → Od s → vd s = numL l → s.length ≤ 4001 → e 2 = .ptr 0 0 → e 4 = .ptr 1 0 → K (.exit 0) ⟨e, [.cells [.bool false, .nils], .cells [.bool false, .osl none 2 0 s.length], .cells (ic s)]⟩) :
    T Tryz.prog 69 0 (.loop cref_digits_L2) ⟨envL [(0, .str (bs l)), (2, .ptr 0 0), (4, .ptr 1 0), (5, .int .i64 (l.length : Int))], [.cells [.bool false, .nils], .cells [.bool false, .osl none 2 0 0], .cells []]⟩ K := by
  refine T_rounds (fun s : List Nat => ⟨envL [(0, .str (bs l)), (2, .ptr 0 0), (4, .ptr 1 0), (5, .int .i64 ((l.length : Int) - 4 * s.length))], [.cells [.bool false, .nils], .cells [.bool false, .osl none 2 0 s.length], .cells (ic s)]⟩)
    (fun s => Od s ∧ 4 * s.length < l.length + 4 ∧ AllD (l.drop (l.length - 4 * s.length)) ∧ vd s = numL (l.drop (l.length - 4 * s.length))) (fun s => l.length + 4 - 4 * s.length) []
    ⟨fun x hx => by simp at hx, by simp, fun c hc => by simp at hc, by simp [vd, numL_nil]⟩ (Le_keep _ (by simp only [go_sem]; simp)) (fun s hI N hN => ?_)
  obtain ⟨h1, h2, h3, h4⟩ := hI
  unfold cref_digits_L2
  by_cases hgo : 4 * s.length < l.length
  · obtain ⟨hi, hhi⟩ : ∃ hi, hi = l.length - 4 * s.length := ⟨_, rfl⟩
    obtain ⟨lo, hlo⟩ : ∃ lo, lo = hi - 4 := ⟨_, rfl⟩
    have ehi : (l.length : Int) - 4 * (s.length : Int) = (hi : Int) := by omega
    have p1 : (0 : Int) < (hi : Int) := by omega
    have e1 : IntKind.i64.wrap ((hi : Int) - 4) = (hi : Int) - 4 := i64_id (by omega) (by omega)
    have e2 : (if (hi : Int) - 4 > 0 then (hi : Int) - 4 else 0) = (lo : Int) := by split <;> omega
    simp only [go_sem, cref_digits_r6, cref_digits_r7, cref_digits_r8, ehi, p1, e1]
    rw [← hhi] at h3 h4
    have hlo2 : l.length - 4 * (s.length + 1) = lo := by omega
    refine T_keep [(0, .str (bs l)), (2, .ptr 0 0), (4, .ptr 1 0), (5, .int .i64 (hi : Int)), (6, .int .i64 0), (7, .int .i64 (lo : Int))] (by simp only [go_sem, e2])
      (rdig_L1 (by omega) (by omega) (by omega) hll (fun e hn k2 k3 => by simp only [go_sem]; exact hbad e _ _ hn k2 k3) (fun e g1 k0 k2 k4 k5 k6 => ?_))
    have hsz : (s.length + 1) * 8 ≤ 1099511627776 := by omega
    have hfit : s.length ≤ (ic s).length := by rw [ic_len]; omega
    have htake : (ic s).take s.length = ic s := List.take_of_length_le (by rw [ic_len]; omega)
    have e3 : (hi : Int) - 4 = (l.length : Int) - 4 * ((s.length + 1 : Nat) : Int) := by omega
    have hgl : ((l.take hi).drop lo).length ≤ 4 := by simp; omega
    have hsplit : l.drop lo = (l.take hi).drop lo ++ l.drop hi := by
      have h := List.take_append_drop hi l
      conv => lhs; rw [← h]
      rw [List.drop_append_of_le_length (by simp; omega)]
    have hnum : numL (l.drop lo) = numL ((l.take hi).drop lo) * 10000 ^ s.length + numL (l.drop hi) := by
      rw [hsplit, numL_append]
      have : (l.drop hi).length = 4 * s.length := by rw [List.length_drop]; omega
      rw [this, Nat.pow_mul]
    have hd4 : numL ((l.take hi).drop lo) < 10000 := by
      have h1 := numL_lt g1
      have h2 : 10 ^ ((l.take hi).drop lo).length ≤ 10 ^ 4 := Nat.pow_le_pow_right (by omega) hgl
      exact Nat.lt_of_lt_of_le h1 h2
    generalize numL ((l.take hi).drop lo) = d at *
    simp only [go_sem, cref_digits_r14, cref_digits_r15, k4, k5, k6, hsz, hfit, htake, e1]
    refine hN (s ++ [d]) _ ⟨h1.append (fun x hx => by simp at hx; omega), by rw [List.length_append, List.length_singleton]; omega, ?_, ?_⟩ (by show _ < _; rw [List.length_append, List.length_singleton]; omega) ?_
    · rw [List.length_append, List.length_singleton, hlo2, hsplit]
      intro x hx
      rcases List.mem_append.1 hx with hx | hx
      · exact g1 x hx
      · exact h3 x hx
    · rw [List.length_append, List.length_singleton, hlo2, hnum, vd_append, h4]
      simp only [vd, Nat.mul_zero, Nat.add_zero]
      rw [Nat.mul_comm d]; omega
    · refine Le_eq (Le_gc [0, 1, 4] (by decide) (fun i hi => by omega) [(0, .str (bs l)), (2, .ptr 0 0), (4, .ptr 1 0), (5, .int .i64 ((l.length : Int) - 4 * ((s.length + 1 : Nat) : Int)))] (by simp only [go_sem, k0, k2, k4, e3])) ?_
      have h1 : ic s ++ [AV.int .i64 (d : Int)] = ic (s ++ [d]) := by rw [ic_append]; rfl
      simp only [List.length_append, List.length_singleton]
      congr 1
      show [Blk.cells [.bool false, .nils], Blk.cells [.bool false, .osl none 2 0 (s.length + 1)], Blk.cells (gcL _ (ic s ++ [AV.int .i64 (d : Int)]))] = _
      rw [h1, gc_ic]
  · have p1 : ¬ (0 : Int) < (l.length : Int) - 4 * (s.length : Int) := by omega
    have hz : l.length - 4 * s.length = 0 := by omega
    rw [hz, List.drop_zero] at h3 h4
    simp only [go_sem, cref_digits_r6, p1]
    exact hK _ s h3 h1 h4 (by omega) (by simp only [go_sem]) (by simp only [go_sem])
end GoAbs
namespace GoAbs
open Go Go.Proofs
def digR (l : List UInt8) : AV := if digOk l then .tup [avZ (numL l), .bool true] else .tup [.agg [.bool false, .nils], .bool false]
theorem rdigits {l : List UInt8} (hlen : l.length ≤ 1000000000) : SpecV Tryz.prog n_ref_digits [.str (bs l)] (digR l) := by
  refine specV_T ok_ref_digits (by simp) (T_cut 1 rfl ?_)
  unfold cref_digits
  have tail : ∀ (e : Nat → AV), l ≠ [] → l.length ≤ 4000 → ¬ (l.head? = some 48 ∧ 1 < l.length) → e 0 = .str (bs l) → e 2 = .ptr 0 0 →
      T Tryz.prog 69 0 (.seq (.rg false cref_digits_r4) (.seq (.seq (.rg false cref_digits_r5) (.block 0 (.loop cref_digits_L2))) (.seq (.rg false cref_digits_r16) .ret))) ⟨e, [.cells [.bool false, .nils]]⟩ (retQ [.cell 2 (some 2), .tmp 3] (digR l)) := fun e h0 hl h48 k0 k2 => by
    refine T_seq (T_W ?_)
    simp only [go_sem, cref_digits_r4]
    refine T_keep [(0, .str (bs l)), (2, .ptr 0 0), (4, .ptr 1 0)] (by simp only [go_sem, k0, k2]) ?_
    refine T_le (Le_cells (b := 1) (l := [.bool false, .nils]) (l' := [.bool false, .osl none 2 0 0]) rfl rfl (fun j x y hx hy => ?_)) (T_le Le_pad ?_)
    · match j, hx, hy with
      | 0, hx, hy => simp at hx hy; subst hx; subst hy; exact .inl rfl
      | 1, hx, hy => simp at hx hy; subst hx; subst hy; exact .inr ⟨rfl, _, _, _, rfl⟩
      | j + 2, hx, hy => simp at hx
    refine T_seq (T_seq (T_W ?_))
    simp only [go_sem, cref_digits_r5, bs_size]
    refine T_block ?_
    refine T_keep [(0, .str (bs l)), (2, .ptr 0 0), (4, .ptr 1 0), (5, .int .i64 (l.length : Int))] (by simp only [go_sem]) ?_
    refine rdig_L2 h0 hl (fun e2 b1 b2 hn j2 j3 => ?_) (fun e2 s g1 g2 g3 g4 j2 j4 => ?_)
    · have hr : digR l = .tup [.agg [.bool false, .nils], .bool false] := by unfold digR; rw [if_neg (fun h => hn h.1)]
      rw [hr]
      simp only [go_sem, j2, j3]
    · have hr : digR l = .tup [avZ (numL l), .bool true] := by unfold digR; rw [if_pos ⟨g1, h0, h48, hl⟩]
      rw [hr]
      have hln := rlean_z (m := false) g2 (by omega)
      rw [g3] at hln
      simp only [Bool.false_eq_true, if_false] at hln
      rw [avZ_nat] at hln ⊢
      simp only [go_sem]
      refine T_W ?_
      simp only [go_sem, cref_digits_r16, j2, j4]
      refine call_F (ids := [2]) hln ?_ ?_
      · simp only [go_sem]
        exact bv_ic (r := s) rfl (by simp) rfl (by rw [List.drop_zero]; exact List.take_of_length_le (by simp [ic_len]))
      simp only [go_sem, j2]
  have bad : ¬ digOk l → digR l = .tup [.agg [.bool false, .nils], .bool false] := fun h => by unfold digR; rw [if_neg h]
  by_cases h0 : l = []
  · have q1 : (l.length : Int) < 1 := by rw [h0]; simp
    rw [bad (fun h => h.2.1 h0)]
    simp only [go_sem, cref_digits_r1, cref_digits_r2, cref_digits_r3, bs_size, q1]
  · have hpos : 0 < l.length := List.length_pos_iff.2 h0
    have q1 : ¬ (l.length : Int) < 1 := by omega
    obtain ⟨c, gi⟩ : ∃ c, l[0]? = some c := ⟨_, List.getElem?_eq_getElem hpos⟩
    have hhd : l.head? = some c := by rw [List.head?_eq_getElem?]; exact gi
    by_cases h4 : l.length ≤ 4000
    · have q2 : ¬ (4000 : Int) < (l.length : Int) := by omega
      by_cases hc : c = 48
      · have hci : (c.toNat : Int) = 48 := by rw [hc]; rfl
        by_cases h1 : 1 < l.length
        · have q3 : (1 : Int) < (l.length : Int) := by omega
          rw [bad (fun h => h.2.2.1 ⟨by rw [hhd, hc], h1⟩)]
          simp only [go_sem, cref_digits_r1, cref_digits_r2, cref_digits_r3, bs_size, bs_get, gi, q1, q2, q3, hci]
        · have q3 : ¬ (1 : Int) < (l.length : Int) := by omega
          simp only [go_sem, cref_digits_r1, cref_digits_r2, bs_size, bs_get, gi, q1, q2, q3, hci]
          exact tail _ h0 h4 (fun h => h1 h.2) (by simp only [go_sem]) (by simp only [go_sem])
      · have hci : ¬ (c.toNat : Int) = 48 := fun h => hc (UInt8.toNat_inj.1 (by have : (48 : UInt8).toNat = 48 := rfl; omega))
        simp only [go_sem, cref_digits_r1, cref_digits_r2, bs_size, bs_get, gi, q1, q2, hci]
        exact tail _ h0 h4 (fun h => hc (by rw [hhd] at h; simpa using h.1)) (by simp only [go_sem]) (by simp only [go_sem])
    · have q2 : (4000 : Int) < (l.length : Int) := by omega
      rw [bad (fun h => h4 h.2.2.2)]
      simp only [go_sem, cref_digits_r1, cref_digits_r2, cref_digits_r3, bs_size, q1, q2]
end GoAbs
namespace GoAbs
open Go Go.Proofs
def befL (o : List UInt8) : List UInt8 := o.takeWhile (· != 47)
def aftL (o : List UInt8) : List UInt8 := (o.dropWhile (· != 47)).tail
theorem befL_drop {o : List UInt8} {i : Nat} {c : UInt8} (h : o[i]? = some c) : (befL (o.drop i)) = if c = 47 then [] else c :: befL (o.drop (i + 1)) := by
  obtain ⟨hi, he⟩ := List.getElem?_eq_some_iff.1 h
  rw [List.drop_eq_getElem_cons hi, he]
  unfold befL
  rw [List.takeWhile_cons]
  by_cases hc : c = 47 <;> simp [hc]
theorem rparse_L1 {o : List UInt8} {m : Bool} {n0 : Nat} {H : Heap} (ho : o.length ≤ 1000000000) {K : Ex → St → Prop}
    (hK : ∀ e : Nat → AV, e 2 = .ptr 0 0 → e 4 = .str (bs o) → e 5 = .bool m → e 6 = .int .i64 ((befL o).length : Int) → K (.exit 0) ⟨e, H⟩) :
    T Tryz.prog 98 n0 (.loop cref_Parse_L1) ⟨envL [(2, .ptr 0 0), (4, .str (bs o)), (5, .bool m), (6, .int .i64 (o.length : Int)), (7, .int .i64 ((o.length : Int) - 1))], H⟩ K := by
  refine T_rounds (fun i : Nat => ⟨envL [(2, .ptr 0 0), (4, .str (bs o)), (5, .bool m), (6, .int .i64 ((i + (befL (o.drop i)).length : Nat) : Int)), (7, .int .i64 ((i : Int) - 1))], H⟩)
    (fun i => i ≤ o.length) (fun i => i) o.length (Nat.le_refl _) (Le_keep _ (by simp only [go_sem, List.drop_length]; simp [befL])) (fun i hi N hN => ?_)
  unfold cref_Parse_L1
  cases i with
  | zero =>
    have q1 : ¬ (0 : Int) ≤ ((0 : Nat) : Int) - 1 := by omega
    simp only [go_sem, cref_Parse_r9, q1]
    exact hK _ (by simp only [go_sem]) (by simp only [go_sem]) (by simp only [go_sem]) (by simp only [go_sem, List.drop_zero, Nat.zero_add])
  | succ j =>
    have e0 : ((j + 1 : Nat) : Int) - 1 = (j : Int) := by omega
    have q1 : (0 : Int) ≤ (j : Int) := by omega
    have e1 : IntKind.i64.wrap ((j : Int) - 1) = (j : Int) - 1 := i64_id (by omega) (by omega)
    obtain ⟨c, gi⟩ : ∃ c, o[j]? = some c := ⟨_, List.getElem?_eq_getElem (show j < o.length by omega)⟩
    have hb := befL_drop gi
    by_cases hc : c = 47
    · have hci : (c.toNat : Int) = 47 := by rw [hc]; rfl
      rw [if_pos hc] at hb
      simp only [go_sem, cref_Parse_r9, cref_Parse_r10, cref_Parse_r11, cref_Parse_r12, e0, q1, bs_get, gi, hci, e1]
      refine hN j _ (by omega) (by omega) (Le_keep _ (by simp only [go_sem, hb]; try simp))
    · have hci : ¬ (c.toNat : Int) = 47 := fun h => hc (UInt8.toNat_inj.1 (by have : (47 : UInt8).toNat = 47 := rfl; omega))
      rw [if_neg hc] at hb
      simp only [go_sem, cref_Parse_r9, cref_Parse_r10, cref_Parse_r12, e0, q1, bs_get, gi, hci, e1]
      refine hN j _ (by omega) (by omega) (Le_keep _ (by simp only [go_sem, hb, List.length_cons]; simp; try omega))
theorem bef_take (o : List UInt8) : o.take (befL o).length = befL o := by
  have h := List.takeWhile_append_dropWhile (p := (· != 47)) (l := o)
  have h2 : (o.takeWhile (· != 47) ++ o.dropWhile (· != 47)).take (befL o).length = befL o := List.take_left' rfl
  rwa [h] at h2
theorem bef_lt (o : List UInt8) : (befL o).length < o.length ↔ 47 ∈ o := by
  have h := List.takeWhile_append_dropWhile (p := (· != 47)) (l := o)
  have hl := congrArg List.length h
  rw [List.length_append] at hl
  have key : (o.dropWhile (· != 47)) = [] ↔ ¬ 47 ∈ o := by
    clear h hl
    induction o with
    | nil => simp
    | cons x o ih =>
      rw [List.dropWhile_cons]
      by_cases hx : x = 47
      · subst hx; simp
      · have hx' : ¬ 47 = x := fun e => hx e.symm
        simp [hx, hx', ih]
  unfold befL
  constructor
  · intro h1
    by_cases h2 : 47 ∈ o
    · exact h2
    · rw [key.2 h2] at hl; simp at hl; omega
  · intro h1
    have : (o.dropWhile (· != 47)) ≠ [] := fun e => key.1 e h1
    have := List.length_pos_iff.2 this
    omega
theorem aft_drop (o : List UInt8) : o.drop ((befL o).length + 1) = aftL o := by
  have h := List.takeWhile_append_dropWhile (p := (· != 47)) (l := o)
  rw [← List.drop_drop]
  have : o.drop (befL o).length = o.dropWhile (· != 47) := by
    have h2 : (o.takeWhile (· != 47) ++ o.dropWhile (· != 47)).drop (befL o).length = o.dropWhile (· != 47) := List.drop_left' rfl
    rwa [h] at h2
  rw [this]
  unfold aftL
  rw [List.drop_one]
end GoAbs
namespace GoAbs
open Go Go.Proofs
def badR : AV := .tup [.agg [.bool false, .nils, .bool false, .nils], .bool false]
def digC (l : List UInt8) : List AV := if digOk l then [.bool false, .sl (ic (dg (numL l)))] else [.bool false, .nils]
theorem digR_eq (l : List UInt8) : digR l = .tup [.agg (digC l), .bool (decide (digOk l))] := by
  unfold digR digC
  by_cases h : digOk l
  · rw [if_pos h, if_pos h, avZ_nat]; simp [h]
  · rw [if_neg h, if_neg h]; simp [h]
theorem rparse_end {e : Nat → AV} {a : List UInt8} {m : Bool} {D : Nat} {rest : Heap} (e2 : e 2 = .ptr 0 0) (e5 : e 5 = .bool m) (e8 : e 8 = .ptr 1 0) (e9 : e 9 = .bool (decide (digOk a))) (e10 : e 10 = .ptr 2 0) :
    T Tryz.prog 98 0 (.seq (.seq (.rg false cref_Parse_r20) (.cond (.t 90) (.seq (.rg false cref_Parse_r21) .ret) .skip)) (.seq (.seq (.rg false cref_Parse_r22) (.cond (.t 92) (.rg false cref_Parse_r23) .skip)) (.seq (.rg false cref_Parse_r24) .ret)))
      ⟨e, .cells [.bool false, .nils, .bool false, .nils] :: .cells (digC a) :: .cells [.bool false, .sl (ic (dg D))] :: rest⟩
      (retQ [.cell 2 (some 4), .tmp 3] (if digOk a ∧ ¬ (m = true ∧ numL a = 0) then .tup [avR (if m then -(numL a : Int) else numL a) (D : Int), .bool true] else badR)) := by
  refine T_W ?_
  have hz2 : ([AV.bool false, .nils] : List AV).length = 2 := rfl
  by_cases hA : digOk a
  · have hc : digC a = [.bool false, .sl (ic (dg (numL a)))] := by unfold digC; rw [if_pos hA]
    have hd : decide (digOk a) = true := by simp [hA]
    rw [hc]
    cases m with
    | false =>
      have hr : (if digOk a ∧ ¬ (false = true ∧ numL a = 0) then AV.tup [avR (if false = true then -(numL a : Int) else numL a) (D : Int), .bool true] else badR) = .tup [.agg [.bool false, .sl (ic (dg (numL a))), .bool false, .sl (ic (dg D))], .bool true] := by
        rw [if_pos ⟨hA, by simp⟩, avR_agg]; simp
      rw [hr]
      simp only [go_sem, cref_Parse_r20, cref_Parse_r22, cref_Parse_r24, e2, e5, e8, e9, e10, hd, Bool.not_true, Bool.not_false]
    | true =>
      by_cases h0 : numL a = 0
      · have hr : (if digOk a ∧ ¬ (true = true ∧ numL a = 0) then AV.tup [avR (if true = true then -(numL a : Int) else numL a) (D : Int), .bool true] else badR) = badR := if_neg (fun h => h.2 ⟨rfl, h0⟩)
        rw [hr]
        have hl : (((dg (numL a)).length : Nat) : Int) = 0 := by rw [h0, dg_zero]; rfl
        unfold badR
        simp only [go_sem, cref_Parse_r20, cref_Parse_r21, e2, e5, e8, e9, e10, hd, Bool.not_true, Bool.not_false, ic_len, hl]
      · have hr : (if digOk a ∧ ¬ (true = true ∧ numL a = 0) then AV.tup [avR (if true = true then -(numL a : Int) else numL a) (D : Int), .bool true] else badR) = .tup [.agg [.bool (decide (-(numL a : Int) < 0)), .sl (ic (dg (-(numL a : Int)).natAbs)), .bool false, .sl (ic (dg D))], .bool true] := by
          rw [if_pos ⟨hA, fun h => h0 h.2⟩, avR_agg]; simp
        rw [hr]
        have hl : ¬ (((dg (numL a)).length : Nat) : Int) = 0 := by have := (dg_len_pos (n := numL a)).2 h0; omega
        have hn := rneg_z (z := (numL a : Int))
        rw [avZ_nat, avZ_agg] at hn
        simp only [go_sem, cref_Parse_r20, cref_Parse_r22, cref_Parse_r23, e2, e5, e8, e9, e10, hd, Bool.not_true, Bool.not_false, ic_len, hl]
        refine call_P hn (by simp only [go_sem]) ?_
        simp only [go_sem, cref_Parse_r24, e2, e8, e10]
  · have hc : digC a = [.bool false, .nils] := by unfold digC; rw [if_neg hA]
    have hd : decide (digOk a) = false := by simp [hA]
    rw [hc, if_neg (fun h => hA h.1)]
    unfold badR
    simp only [go_sem, cref_Parse_r20, cref_Parse_r21, e2, e5, e8, e9, e10, hd, Bool.not_true, Bool.not_false]
end GoAbs
namespace GoAbs
open Go Go.Proofs
def slashOk (o : List UInt8) : Prop := digOk (aftL o) ∧ 2 ≤ numL (aftL o) ∧ Nat.gcd (if digOk (befL o) then numL (befL o) else 0) (numL (aftL o)) = 1
instance (o : List UInt8) : Decidable (slashOk o) := by unfold slashOk; infer_instance
def midR (o : List UInt8) (m : Bool) : AV :=
  if 47 ∈ o → slashOk o then (if digOk (befL o) ∧ ¬ (m = true ∧ numL (befL o) = 0) then .tup [avR (if m then -(numL (befL o) : Int) else numL (befL o)) ((if 47 ∈ o then numL (aftL o) else 1 : Nat) : Int), .bool true] else badR) else badR
theorem digC_bvs {H : Heap} {a : List UInt8} : BVs H [] (digC a) [.bool false, .sl (ic (dg (if digOk a then numL a else 0)))] := by
  unfold digC
  by_cases h : digOk a
  · rw [if_pos h, if_pos h]; simp only [go_sem]
  · rw [if_neg h, if_neg h, dg_zero, ic_nil]; simp only [go_sem]
theorem digC_len {a : List UInt8} : (digC a).length = 2 := by unfold digC; split <;> rfl
theorem numL_len {l : List UInt8} (h : digOk l) : lenD (numL l) ≤ 4000 := by
  refine lenD_le (Nat.lt_of_lt_of_le (numL_lt h.1) ?_)
  exact Nat.le_trans (Nat.pow_le_pow_right (by omega) h.2.2.2) (Nat.pow_le_pow_left (show 10 ≤ 10000 by decide) 4000)
theorem rparse_mid {e : Nat → AV} {o : List UInt8} {m : Bool} (ho : o.length ≤ 1000000000) (e2 : e 2 = .ptr 0 0) (e4 : e 4 = .str (bs o)) (e5 : e 5 = .bool m) (e6 : e 6 = .int .i64 ((befL o).length : Int)) :
    T Tryz.prog 98 0 (.seq (.rg false cref_Parse_r13) (.seq (.rg false cref_Parse_r14) (.seq (.seq (.rg false cref_Parse_r15) (.cond (.t 53) (.seq (.rg false cref_Parse_r16) (.seq (.seq (.rg true cref_Parse_r17) (.cond (.t 77) (.seq (.rg false cref_Parse_r18) .ret) .skip)) (.rg false cref_Parse_r19))) .skip))
      (.seq (.seq (.rg false cref_Parse_r20) (.cond (.t 90) (.seq (.rg false cref_Parse_r21) .ret) .skip)) (.seq (.seq (.rg false cref_Parse_r22) (.cond (.t 92) (.rg false cref_Parse_r23) .skip)) (.seq (.rg false cref_Parse_r24) .ret))))))
      ⟨e, [.cells [.bool false, .nils, .bool false, .nils]]⟩ (retQ [.cell 2 (some 4), .tmp 3] (midR o m)) := by
  have hm : Tryz.prog.follows .mixedOrders = true := by kernel_rfl
  refine T_cut 2 rfl ?_
  have hbl : (befL o).length ≤ o.length := by
    have := congrArg List.length (bef_take o)
    rw [List.length_take] at this
    omega
  have p0 : (0 : Int) ≤ ((befL o).length : Int) := by omega
  have hdA := rdigits (l := befL o) (by omega)
  rw [digR_eq] at hdA
  have hdB := rdigits (l := aftL o) (by rw [← aft_drop, List.length_drop]; omega)
  rw [digR_eq] at hdB
  have i1 : SpecV Tryz.prog n_ref_Int [.int .i64 1] (.agg [.bool false, .sl (ic (dg 1))]) := by
    have := rint_z (v := 1) (by decide)
    rwa [show avZ 1 = .agg [.bool false, .sl (ic (dg 1))] from avZ_nat (m := 1)] at this
  have i2 : SpecV Tryz.prog n_ref_Int [.int .i64 2] (.agg [.bool false, .sl (ic (dg 2))]) := by
    have := rint_z (v := 2) (by decide)
    rwa [show avZ 2 = .agg [.bool false, .sl (ic (dg 2))] from avZ_nat (m := 2)] at this
  have htk : o.take (befL o).length = befL o := bef_take o
  have d2 : (digC (befL o)).drop 2 = [] := List.drop_eq_nil_of_le (by rw [digC_len]; omega)
  have dl := digC_len (a := befL o)
  simp only [go_sem, cref_Parse_r13, cref_Parse_r14, cref_Parse_r15, e2, e4, e5, e6, bs_size, bs_extract, htk, p0, hbl, List.drop_zero]
  refine ⟨by omega, ?_⟩
  refine call_P hdA (by simp only [go_sem]) ?_
  simp only [go_sem, dl, d2]
  refine call_P i1 (by simp only [go_sem]) ?_
  by_cases h47 : 47 ∈ o
  · have q1 : ((befL o).length : Int) < (o.length : Int) := by have := (bef_lt o).2 h47; omega
    have e1 : IntKind.i64.wrap (((befL o).length : Int) + 1) = (((befL o).length + 1 : Nat) : Int) := by rw [i64_id (by omega) (by omega)]; omega
    have p1 : (0 : Int) ≤ (((befL o).length + 1 : Nat) : Int) := by omega
    have hle : (befL o).length + 1 ≤ o.length := by omega
    have hdr : (o.take o.length).drop ((befL o).length + 1) = aftL o := by rw [List.take_length]; exact aft_drop o
    have hmid : midR o m = if slashOk o then (if digOk (befL o) ∧ ¬ (m = true ∧ numL (befL o) = 0) then .tup [avR (if m then -(numL (befL o) : Int) else numL (befL o)) (numL (aftL o) : Int), .bool true] else badR) else badR := by
      unfold midR
      simp only [h47, if_true, true_implies]
    have db := digC_len (a := aftL o)
    have d2b : (digC (aftL o)).drop 2 = [] := List.drop_eq_nil_of_le (by omega)
    have t2b : (digC (aftL o)).take 2 = digC (aftL o) := List.take_of_length_le (by omega)
    have t2a : (digC (befL o)).take 2 = digC (befL o) := List.take_of_length_le (by omega)
    have l2a : 2 ≤ (digC (befL o)).length := by omega
    have l2b : 2 ≤ (digC (aftL o)).length := by omega
    simp only [go_sem, e2, e4, e5, e6, bs_size, bs_extract, q1, cref_Parse_r16, e1, p1, hle, hdr]
    refine ⟨Nat.le_refl _, ?_⟩
    refine call_P hdB (by simp only [go_sem]) ?_
    by_cases hB : digOk (aftL o)
    · have hd : decide (digOk (aftL o)) = true := by simp [hB]
      have hcB : digC (aftL o) = [.bool false, .sl (ic (dg (numL (aftL o))))] := by unfold digC; rw [if_pos hB]
      have lB := numL_len hB
      rw [hcB] at db d2b t2b l2b ⊢
      rw [hd]
      simp only [go_sem, db, d2b, cref_Parse_r17, hm, Bool.not_true]
      refine call_P i2 (by simp only [go_sem]) ?_
      simp only [go_sem]
      have hc2 := rcmp_z (a := (numL (aftL o) : Int)) (b := 2) (by rw [Int.natAbs_natCast]; unfold Zs; omega) (by have : lenD 2 ≤ 1 := lenD_dig (by omega); show lenD 2 ≤ _; omega)
      rw [avZ_nat, show avZ 2 = .agg [.bool false, .sl (ic (dg 2))] from avZ_nat (m := 2)] at hc2
      refine call_P hc2 (by simp only [go_sem]) ?_
      by_cases hD2 : 2 ≤ numL (aftL o)
      · have hlt : ¬ (if (numL (aftL o) : Int) = 2 then (0 : Int) else if (numL (aftL o) : Int) < 2 then -1 else 1) < 0 := by split <;> (try split) <;> omega
        obtain ⟨N', hN'⟩ : ∃ N', N' = (if digOk (befL o) then numL (befL o) else 0) := ⟨_, rfl⟩
        have lN : lenD N' ≤ 10000000 := by
          rw [hN']; split
          · rename_i h; have := numL_len h; omega
          · show (dg 0).length ≤ _; rw [dg_zero]; simp
        have hgcd := rgcd_z (a := (N' : Int)) (b := (numL (aftL o) : Int)) (by rw [Int.natAbs_natCast]; exact lN) (by rw [Int.natAbs_natCast]; omega)
        have hgn : Int.gcd (N' : Int) (numL (aftL o) : Int) = Nat.gcd N' (numL (aftL o)) := rfl
        rw [hgn, avZ_nat, avZ_nat, avZ_nat] at hgcd
        have lg : lenD (Nat.gcd N' (numL (aftL o))) ≤ 4000 := Nat.le_trans (lenD_mono (Nat.le_of_dvd (by omega) (Nat.gcd_dvd_right _ _))) lB
        have hc1 := rcmp_z (a := (Nat.gcd N' (numL (aftL o)) : Int)) (b := 1) (by rw [Int.natAbs_natCast]; unfold Zs; omega) (by have : lenD 1 ≤ 1 := lenD_dig (by omega); show lenD 1 ≤ _; omega)
        rw [avZ_nat, show avZ 1 = .agg [.bool false, .sl (ic (dg 1))] from avZ_nat (m := 1)] at hc1
        have bvA := fun (H : Heap) => digC_bvs (H := H) (a := befL o)
        rw [← hN'] at bvA
        simp only [go_sem, hlt, l2a, t2a]
        refine call_V (ids := []) hgcd (by simp only [go_sem]; exact bvA _) (.inl rfl) (fun b hb => by simp at hb) ?_
        simp only [go_sem]
        refine call_P i1 (by simp only [go_sem]) ?_
        simp only [go_sem]
        refine call_P hc1 (by simp only [go_sem]) ?_
        by_cases hg : Nat.gcd N' (numL (aftL o)) = 1
        · have hne : (if ((Nat.gcd N' (numL (aftL o)) : Nat) : Int) = 1 then (0 : Int) else if ((Nat.gcd N' (numL (aftL o)) : Nat) : Int) < 1 then -1 else 1) = 0 := if_pos (by omega)
          have hso : slashOk o := ⟨hB, hD2, by rw [← hN']; exact hg⟩
          rw [hmid, if_pos hso]
          simp only [go_sem, hne, cref_Parse_r19]
          exact rparse_end (by simp only [go_sem, e2]) (by simp only [go_sem, e5]) (by simp only [go_sem]) (by simp only [go_sem]) (by simp only [go_sem])
        · have hne : ¬ (if ((Nat.gcd N' (numL (aftL o)) : Nat) : Int) = 1 then (0 : Int) else if ((Nat.gcd N' (numL (aftL o)) : Nat) : Int) < 1 then -1 else 1) = 0 := by
            rw [if_neg (by omega)]; split <;> omega
          have hso : ¬ slashOk o := fun h => hg (by rw [hN']; exact h.2.2)
          rw [hmid, if_neg hso]
          unfold badR
          simp only [go_sem, hne, cref_Parse_r18, e2]
      · have hlt : (if (numL (aftL o) : Int) = 2 then (0 : Int) else if (numL (aftL o) : Int) < 2 then -1 else 1) < 0 := by rw [if_neg (by omega), if_pos (by omega)]; omega
        have hso : ¬ slashOk o := fun h => hD2 h.2.1
        rw [hmid, if_neg hso]
        unfold badR
        simp only [go_sem, hlt, cref_Parse_r18, e2]
    · have hd : decide (digOk (aftL o)) = false := by simp [hB]
      have hso : ¬ slashOk o := fun h => hB h.1
      rw [hd, hmid, if_neg hso]
      unfold badR
      simp only [go_sem, db, d2b, cref_Parse_r17, cref_Parse_r18, hm, Bool.not_false, e2]
  · have q1 : ¬ ((befL o).length : Int) < (o.length : Int) := fun h => h47 ((bef_lt o).1 (by omega))
    have hmid : midR o m = if digOk (befL o) ∧ ¬ (m = true ∧ numL (befL o) = 0) then .tup [avR (if m then -(numL (befL o) : Int) else numL (befL o)) ((1 : Nat) : Int), .bool true] else badR := by
      unfold midR
      simp only [h47, if_false, false_implies, if_true]
    rw [hmid]
    simp only [go_sem, e2, e4, e5, e6, bs_size, q1]
    exact rparse_end (D := 1) (rest := []) (by simp only [go_sem, e2]) (by simp only [go_sem, e5]) (by simp only [go_sem]) (by simp only [go_sem]) (by simp only [go_sem])
end GoAbs
namespace GoAbs
open Go Go.Proofs
def refP (l : List UInt8) : AV := if 8002 < l.length then badR else midR (signL l).1 (signL l).2
theorem rparse_raw {l : List UInt8} (hlen : l.length ≤ 1000000000) : SpecV Tryz.prog n_ref_Parse [.str (bs l)] (refP l) := by
  refine specV_T ok_ref_Parse (by simp) (T_cut 4 rfl ?_)
  unfold cref_Parse
  by_cases hbig : 8002 < l.length
  · have q1 : (8002 : Int) < (l.length : Int) := by omega
    unfold refP
    rw [if_pos hbig]
    unfold badR
    simp only [go_sem, cref_Parse_r1, cref_Parse_r2, cref_Parse_r3, cref_Parse_r4, bs_size, q1]
  · have q1 : ¬ (8002 : Int) < (l.length : Int) := by omega
    unfold refP
    rw [if_neg hbig]
    have tail : ∀ (e : Nat → AV) (o : List UInt8) (m : Bool), o.length ≤ 1000000000 → e 2 = .ptr 0 0 → e 4 = .str (bs o) → e 5 = .bool m → e 6 = .int .i64 (o.length : Int) →
        T Tryz.prog 98 0 (.seq (.seq (.rg false cref_Parse_r8) (.block 0 (.loop cref_Parse_L1))) (.seq (.rg false cref_Parse_r13) (.seq (.rg false cref_Parse_r14) (.seq (.seq (.rg false cref_Parse_r15) (.cond (.t 53) (.seq (.rg false cref_Parse_r16) (.seq (.seq (.rg true cref_Parse_r17) (.cond (.t 77) (.seq (.rg false cref_Parse_r18) .ret) .skip)) (.rg false cref_Parse_r19))) .skip))
          (.seq (.seq (.rg false cref_Parse_r20) (.cond (.t 90) (.seq (.rg false cref_Parse_r21) .ret) .skip)) (.seq (.seq (.rg false cref_Parse_r22) (.cond (.t 92) (.rg false cref_Parse_r23) .skip)) (.seq (.rg false cref_Parse_r24) .ret)))))))
          ⟨e, [.cells [.bool false, .nils, .bool false, .nils]]⟩ (retQ [.cell 2 (some 4), .tmp 3] (midR o m)) := fun e o m ho k2 k4 k5 k6 => by
      have e1 : IntKind.i64.wrap ((o.length : Int) - 1) = (o.length : Int) - 1 := i64_id (by omega) (by omega)
      refine T_seq (T_seq (T_W ?_))
      simp only [go_sem, cref_Parse_r8, k4, bs_size, e1]
      refine T_block ?_
      refine T_keep [(2, .ptr 0 0), (4, .str (bs o)), (5, .bool m), (6, .int .i64 (o.length : Int)), (7, .int .i64 ((o.length : Int) - 1))] (by simp only [go_sem, k2, k4, k5, k6]) ?_
      refine rparse_L1 ho (fun e2 j2 j4 j5 j6 => ?_)
      simp only [go_sem]
      exact rparse_mid ho j2 j4 j5 j6
    by_cases hpos : 0 < l.length
    · have q2 : (0 : Int) < (l.length : Int) := by omega
      obtain ⟨c, gi⟩ : ∃ c, l[0]? = some c := ⟨_, List.getElem?_eq_getElem hpos⟩
      have hhd : l.head? = some c := by rw [List.head?_eq_getElem?]; exact gi
      by_cases hc : c = 45
      · have hci : (c.toNat : Int) = 45 := by rw [hc]; rfl
        have hs : signL l = (l.tail, true) := by unfold signL; rw [if_pos (by rw [hhd, hc])]
        have h1 : 1 ≤ l.length := hpos
        have hdr : (l.take l.length).drop 1 = l.tail := by rw [List.take_length, List.drop_one]
        rw [hs]
        simp only [go_sem, cref_Parse_r1, cref_Parse_r2, cref_Parse_r3, cref_Parse_r5, cref_Parse_r6, cref_Parse_r7, bs_size, bs_get, bs_extract, q1, q2, gi, hci, h1, hdr]
        refine ⟨Nat.le_refl _, ?_⟩
        exact tail _ l.tail true (by rw [List.length_tail]; omega) (by simp only [go_sem]) (by simp only [go_sem]) (by simp only [go_sem]) (by simp only [go_sem])
      · have hci : ¬ (c.toNat : Int) = 45 := fun h => hc (UInt8.toNat_inj.1 (by have : (45 : UInt8).toNat = 45 := rfl; omega))
        have hs : signL l = (l, false) := by unfold signL; rw [if_neg (by rw [hhd]; simpa using hc)]
        rw [hs]
        simp only [go_sem, cref_Parse_r1, cref_Parse_r2, cref_Parse_r3, cref_Parse_r5, cref_Parse_r7, bs_size, bs_get, q1, q2, gi, hci]
        exact tail _ l false hlen (by simp only [go_sem]) (by simp only [go_sem]) (by simp only [go_sem]) (by simp only [go_sem])
    · have q2 : ¬ (0 : Int) < (l.length : Int) := by omega
      have hs : signL l = (l, false) := by
        have : l = [] := List.length_eq_zero_iff.1 (by omega)
        subst this; rfl
      rw [hs]
      simp only [go_sem, cref_Parse_r1, cref_Parse_r2, cref_Parse_r3, cref_Parse_r5, cref_Parse_r7, bs_size, q1, q2]
      exact tail _ l false hlen (by simp only [go_sem]) (by simp only [go_sem]) (by simp only [go_sem]) (by simp only [go_sem])
end GoAbs
namespace GoAbs
open Go Go.Proofs
theorem bef_all {o : List UInt8} (h : 47 ∉ o) : befL o = o := by
  have h1 := bef_take o
  have h2 : ¬ (befL o).length < o.length := fun h3 => h ((bef_lt o).1 h3)
  rw [List.take_of_length_le (by omega)] at h1
  exact h1.symm
theorem cut_one (l : List UInt8) : (cutL l).1 = befL l := by
  unfold cutL
  split
  · rfl
  · rename_i h; exact (bef_all h).symm
theorem cut_flag (l : List UInt8) : (cutL l).2.2 = decide (47 ∈ l) := by
  unfold cutL
  split
  · rename_i h; simp [h]
  · rename_i h; simp [h]
theorem cut_aft {l : List UInt8} (h : 47 ∈ l) : (cutL l).2.1 = aftL l := by
  unfold cutL
  rw [if_pos h]; rfl
theorem sign_cut (l : List UInt8) : signL (befL l) = (befL (signL l).1, (signL l).2) ∧ (47 ∈ l ↔ 47 ∈ (signL l).1) ∧ aftL l = aftL (signL l).1 := by
  cases l with
  | nil => exact ⟨rfl, Iff.rfl, rfl⟩
  | cons c r =>
    by_cases hc : c = 45
    · subst hc
      have hs : signL (45 :: r) = (r, true) := rfl
      have hb : befL (45 :: r) = 45 :: befL r := by unfold befL; rw [List.takeWhile_cons]; rfl
      rw [hs, hb]
      refine ⟨rfl, by simp, ?_⟩
      unfold aftL
      rw [List.dropWhile_cons]; rfl
    · have hs : signL (c :: r) = (c :: r, false) := by unfold signL; rw [if_neg (by simpa using hc)]
      rw [hs]
      refine ⟨?_, Iff.rfl, rfl⟩
      by_cases h47 : c = 47
      · subst h47; rfl
      · have hb : befL (c :: r) = c :: befL r := by unfold befL; rw [List.takeWhile_cons]; simp [h47]
        rw [hb]
        unfold signL
        rw [if_neg (by simpa using hc)]
theorem divInt_co {n : Int} {d : Nat} (hd : 0 < d) (hg : Int.gcd n d = 1) : (Rat.divInt n d).num = n ∧ (Rat.divInt n d).den = d := by
  have hg' : Int.gcd (d : Int) n = 1 := by rw [Int.gcd_comm]; exact hg
  refine ⟨?_, ?_⟩
  · rw [Rat.num_divInt, hg', Int.sign_eq_one_of_pos (by omega)]; simp
  · rw [Rat.den_divInt, if_neg (by omega), hg']; simp
theorem len_parts {o : List UInt8} (h : 47 ∈ o) : o.length = (befL o).length + 1 + (aftL o).length := by
  have h1 := (bef_lt o).2 h
  have h2 := congrArg List.length (aft_drop o)
  rw [List.length_drop] at h2
  omega
theorem refP_eq (l : List UInt8) : refP l = match parseL l with | some q => .tup [avR q.num q.den, .bool true] | none => badR := by
  obtain ⟨s1, s2, s3⟩ := sign_cut l
  have hll : l.length ≤ (signL l).1.length + 1 := by unfold signL; split <;> simp <;> omega
  have hp1 : (partsL l).1 = if (signL l).2 then -(numL (befL (signL l).1) : Int) else numL (befL (signL l).1) := by unfold partsL; rw [cut_one, s1]
  have hp2 : (partsL l).2.1 = if 47 ∈ (signL l).1 then numL (aftL (signL l).1) else 1 := by
    unfold partsL
    simp only [cut_flag, decide_eq_true_eq, s2]
    by_cases h : 47 ∈ (signL l).1
    · rw [if_pos h, if_pos h, cut_aft (s2.2 h), s3]
    · rw [if_neg h, if_neg h]
  have hp3 : ((partsL l).2.2 = true) ↔ 47 ∈ (signL l).1 := by unfold partsL; simp only [cut_flag, decide_eq_true_eq, s2]
  have hform : formL l ↔ (digOk (befL (signL l).1) ∧ (47 ∈ (signL l).1 → digOk (aftL (signL l).1) ∧ 1 < numL (aftL (signL l).1)) ∧ ¬ ((signL l).2 = true ∧ numL (befL (signL l).1) = 0)) := by
    unfold formL
    rw [cut_one, s1, cut_flag]
    simp only [decide_eq_true_eq, s2]
    by_cases h : 47 ∈ (signL l).1
    · rw [cut_aft (s2.2 h), s3]
    · simp [h]
  unfold parseL
  rw [hp1, hp2]
  simp only [hform, hp3]
  unfold refP midR
  have hs' : (signL l).1 = (signL l).1 := rfl
  by_cases hA : digOk (befL (signL l).1)
  · by_cases hM : (signL l).2 = true ∧ numL (befL (signL l).1) = 0
    · simp only [hM, and_true, not_true, and_false, false_and, if_false, ite_self]
    · have hcond : (digOk (befL (signL l).1) ∧ ¬ ((signL l).2 = true ∧ numL (befL (signL l).1) = 0)) := ⟨hA, hM⟩
      generalize hz : (if (signL l).2 = true then -(numL (befL (signL l).1) : Int) else (numL (befL (signL l).1) : Int)) = z at *
      have hgz : ∀ D : Nat, Int.gcd z (D : Int) = Nat.gcd (numL (befL (signL l).1)) D := fun D => by
        rw [← hz]; split
        · rw [Int.neg_gcd]; rfl
        · rfl
      by_cases h47 : 47 ∈ (signL l).1
      · simp only [h47, if_true, true_implies]
        by_cases hS : slashOk (signL l).1
        · obtain ⟨g1, g2, g3⟩ := hS
          rw [if_pos hA] at g3
          have hg := hgz (numL (aftL (signL l).1))
          rw [g3] at hg
          have hlen := len_parts h47
          have hb1 := hA.2.2.2
          have hb2 := g1.2.2.2
          rw [if_neg (show ¬ 8002 < l.length by omega), if_pos (show slashOk (signL l).1 from ⟨g1, g2, by rw [if_pos hA]; exact g3⟩), if_pos hcond, if_pos ⟨⟨hA, ⟨g1, by omega⟩, hM⟩, hg⟩]
          obtain ⟨q1, q2⟩ := divInt_co (n := z) (d := numL (aftL (signL l).1)) (by omega) hg
          simp only [q1, q2]
        · have hno : ¬ ((digOk (befL (signL l).1) ∧ (digOk (aftL (signL l).1) ∧ 1 < numL (aftL (signL l).1)) ∧ ¬ ((signL l).2 = true ∧ numL (befL (signL l).1) = 0)) ∧ Int.gcd z (numL (aftL (signL l).1) : Int) = 1) := fun h => hS ⟨h.1.2.1.1, by have := h.1.2.1.2; omega, by rw [if_pos hA, ← hgz]; exact h.2⟩
          rw [if_neg hS, if_neg hno, ite_self]
      · simp only [h47, if_false, false_implies, if_true, true_and]
        have hb1 := hA.2.2.2
        rw [bef_all h47] at hb1
        rw [if_neg (show ¬ 8002 < l.length by omega), if_pos hcond, if_pos ⟨hcond, trivial⟩]
        obtain ⟨q1, q2⟩ := divInt_co (n := z) (d := 1) (by omega) (by rw [hgz]; simp)
        simp only [q1, q2]
  · simp only [hA, false_and, if_false, ite_self]
end GoAbs
namespace GoAbs
open Go Go.Proofs
theorem rparse {l : List UInt8} (hlen : l.length ≤ 1000000000) : SpecV Tryz.prog n_ref_Parse [.str (bs l)] (match parseL l with | some q => .tup [avR q.num q.den, .bool true] | none => badR) := by
  have := rparse_raw hlen
  rwa [refP_eq] at this
theorem rvalid {l : List UInt8} (hlen : l.length ≤ 1000000000) : SpecV Tryz.prog n_ref_Valid [.str (bs l)] (.bool (parseL l).isSome) := by
  have hp := rparse hlen
  refine specV_W ok_ref_Valid (by simp) ?_
  unfold cref_Valid
  cases h : parseL l with
  | some q =>
    rw [h] at hp
    simp only [avR_agg] at hp
    simp only [go_sem, cref_Valid_r1, cref_Valid_r2]
    refine call_P hp (by simp only [go_sem]) ?_
    simp only [go_sem, cref_Valid_r3, Option.isSome_some]
  | none =>
    rw [h] at hp
    unfold badR at hp
    simp only [go_sem, cref_Valid_r1, cref_Valid_r2]
    refine call_P hp (by simp only [go_sem]) ?_
    simp only [go_sem, cref_Valid_r3, Option.isSome_none]
theorem rof {l : List UInt8} {q : Rat} (hlen : l.length ≤ 1000000000) (h : parseL l = some q) : SpecV Tryz.prog n_ref_Of [.str (bs l)] (avR q.num q.den) := by
  have hp := rparse hlen
  rw [h] at hp
  simp only [avR_agg] at hp
  refine specV_W ok_ref_Of (by simp) ?_
  unfold cref_Of
  rw [avR_agg]
  simp only [go_sem, cref_Of_r1, cref_Of_r2]
  refine call_P hp (by simp only [go_sem]) ?_
  simp only [go_sem, cref_Of_r3]
end GoAbs
namespace GoAbs
open Go Go.Proofs
def cref_in_r1 : List IOp := [oI 6 (.mv (.c (.bool false))) 0]
def cref_in_r2 : List IOp := [oI 7 (.mv (.t 0)) 0, oI 8 (.mv (.t 1)) 0, oI 9 (.bin .geq (.t 7) (.t 8)) 0, oI 10 (.mv (.t 9)) 0, ⟨some 11, .mv (.t 0), 0, [], [], some (10, true)⟩, ⟨some 12, .mv (.t 2), 0, [], [], some (10, true)⟩, ⟨some 13, .bin .leq (.t 11) (.t 12), 0, [], [], some (10, true)⟩, oI 14 (.pick (.t 10) (.t 13) (.c (.bool false))) 0, oI 6 (.mv (.t 14)) 0]
def cref_in : CC := .seq (.rg false cref_in_r1) (.seq (.rg false cref_in_r2) .ret)
abbrev n_ref_in : Nat := 67
theorem ok_ref_in : fnOk Tryz.prog 67 = some (15, cref_in, [.tmp 6]) := by kernel_rfl
def cref_Forms_r1 : List IOp := [oI 2 (.mv (cI 0)) 0]
def cref_Forms_r2 : List IOp := [oI 3 (.mv (cI 0)) 0]
def cref_Forms_r3 : List IOp := [oI 4 (.mv (.t 3)) 0, oI 5 (.mv (.t 0)) 0, oI 6 (.len (.t 5)) 0, oI 7 (.bin .lss (.t 4) (.t 6)) 0]
def cref_Forms_r4 : List IOp := [oI 10 (.mv (.t 0)) 0, oI 11 (.mv (.t 3)) 0, oI 12 (.idx 3 (.t 10) (.t 11)) 0, oI 13 (.fa 2 (.t 12)) 0, oI 14 (.ld none (.t 13)) 0, oI 15 (.call 34 [.t 14]) 0, oI 16 (.un .not (.t 15)) 0]
def cref_Forms_r5 : List IOp := [oI 2 (.mv (cI 2)) 0]
def cref_Forms_r6 : List IOp := [oI 8 (.mv (.t 3)) 0, oI 9 (.bin .add (.t 8) (cI 1)) 0, oI 3 (.mv (.t 9)) 0]
def cref_Forms_L1 : CC := .seq (.seq (.rg false cref_Forms_r3) (.cond (.t 7) .skip (.exit 0))) (.seq (.block 1 (.seq (.rg false cref_Forms_r4) (.cond (.t 16) (.seq (.rg false cref_Forms_r5) .ret) .skip))) (.rg false cref_Forms_r6))
def cref_Forms_r7 : List IOp := [oI 2 (.mv (cI 0)) 0]
def cref_Forms : CC := .seq (.rg false cref_Forms_r1) (.seq (.seq (.rg false cref_Forms_r2) (.block 0 (.loop cref_Forms_L1))) (.seq (.rg false cref_Forms_r7) .ret))
abbrev n_ref_Forms : Nat := 66
theorem ok_ref_Forms : fnOk Tryz.prog 66 = some (17, cref_Forms, [.tmp 2]) := by kernel_rfl
def cref_Check_r1 : List IOp := [oI 6 (.mv (cI 0)) 0]
def cref_Check_r2 : List IOp := [oI 11 (.mv (.t 1)) 0, oI 12 (.call 66 [.t 11]) 0, oI 7 (.mv (.t 12)) 0]
def cref_Check_r3 : List IOp := [oI 13 (.mv (.t 7)) 0, oI 14 (.bin .neq (.t 13) (cI 0)) 0]
def cref_Check_r4 : List IOp := [oI 15 (.mv (.t 7)) 0, oI 6 (.mv (.t 15)) 0]
def cref_Check_r5 : List IOp := [oI 16 (.mv (.t 2)) 0, oI 17 (.call 51 [.t 16]) 0, oI 8 (.mv (.t 17)) 0]
def cref_Check_r6 : List IOp := [oI 18 (.mv (.t 8)) 0, oI 19 (.bin .neq (.t 18) (cI 0)) 0]
def cref_Check_r7 : List IOp := [oI 20 (.mv (.t 8)) 0, oI 6 (.mv (.t 20)) 0]
def cref_Check_r8 : List IOp := [oI 21 (.mv (.t 0)) 0, oI 22 (.call 67 [.t 21, cI 2, cI 10]) 0, oI 23 (.un .not (.t 22)) 0, oI 24 (.mv (.t 23)) 0, ⟨some 25, .mv (.t 1), 0, [], [], some (24, false)⟩, ⟨some 26, .len (.t 25), 0, [], [], some (24, false)⟩, ⟨some 27, .bin .gtr (.t 26) (cI 40), 0, [], [], some (24, false)⟩, oI 28 (.pick (.t 24) (.c (.bool true)) (.t 27)) 0, oI 9 (.mv (.t 28)) 0]
def cref_Check_r9 : List IOp := [oI 10 (.mv (cI 0)) 0]
def cref_Check_r10 : List IOp := [oI 29 (.mv (.t 10)) 0, oI 30 (.mv (.t 1)) 0, oI 31 (.len (.t 30)) 0, oI 32 (.bin .lss (.t 29) (.t 31)) 0]
def cref_Check_r11 : List IOp := [oI 35 (.mv (.t 9)) 0, oI 36 (.mv (.t 35)) 0, ⟨some 37, .mv (.t 1), 0, [], [], some (36, false)⟩, ⟨some 38, .mv (.t 10), 0, [], [], some (36, false)⟩, ⟨some 39, .idx 3 (.t 37) (.t 38), 0, [], [], some (36, false)⟩, ⟨some 40, .fa 0 (.t 39), 0, [], [], some (36, false)⟩, ⟨some 41, .ld none (.t 40), 0, [], [], some (36, false)⟩, ⟨some 42, .mv (.t 0), 0, [], [], some (36, false)⟩, ⟨some 43, .bin .sub (.t 42) (cI 1), 0, [], [], some (36, false)⟩, ⟨some 44, .callw 67 [.t 41, cI 0, .t 43], 0, [], [], some (36, false)⟩, ⟨some 45, .un .not (.t 44), 0, [], [], some (36, false)⟩, oI 46 (.pick (.t 36) (.c (.bool true)) (.t 45)) 0, oI 47 (.mv (.t 46)) 0, ⟨some 48, .mv (.t 1), 0, [], [], some (47, false)⟩, ⟨some 49, .mv (.t 10), 0, [], [], some (47, false)⟩, ⟨some 50, .idx 3 (.t 48) (.t 49), 0, [], [], some (47, false)⟩, ⟨some 51, .fa 1 (.t 50), 0, [], [], some (47, false)⟩, ⟨some 52, .ld none (.t 51), 0, [], [], some (47, false)⟩, ⟨some 53, .mv (.t 0), 0, [], [], some (47, false)⟩, ⟨some 54, .bin .sub (.t 53) (cI 1), 0, [], [], some (47, false)⟩, ⟨some 55, .callw 67 [.t 52, cI 0, .t 54], 0, [], [], some (47, false)⟩, ⟨some 56, .un .not (.t 55), 0, [], [], some (47, false)⟩, oI 57 (.pick (.t 47) (.c (.bool true)) (.t 56)) 0, oI 58 (.mv (.t 57)) 0, ⟨some 59, .mv (.t 1), 0, [], [], some (58, false)⟩, ⟨some 60, .mv (.t 10), 0, [], [], some (58, false)⟩, ⟨some 61, .idx 3 (.t 59) (.t 60), 0, [], [], some (58, false)⟩, ⟨some 62, .fa 0 (.t 61), 0, [], [], some (58, false)⟩, ⟨some 63, .ld none (.t 62), 0, [], [], some (58, false)⟩, ⟨some 64, .mv (.t 1), 0, [], [], some (58, false)⟩, ⟨some 65, .mv (.t 10), 0, [], [], some (58, false)⟩, ⟨some 66, .idx 3 (.t 64) (.t 65), 0, [], [], some (58, false)⟩, ⟨some 67, .fa 1 (.t 66), 0, [], [], some (58, false)⟩, ⟨some 68, .ld none (.t 67), 0, [], [], some (58, false)⟩, ⟨some 69, .bin .eql (.t 63) (.t 68), 0, [], [], some (58, false)⟩, oI 70 (.pick (.t 58) (.c (.bool true)) (.t 69)) 0, oI 71 (.mv (.t 70)) 0, ⟨some 72, .mv (.t 1), 0, [], [], some (71, false)⟩, ⟨some 73, .mv (.t 10), 0, [], [], some (71, false)⟩, ⟨some 74, .idx 3 (.t 72) (.t 73), 0, [], [], some (71, false)⟩, ⟨some 75, .fa 2 (.t 74), 0, [], [], some (71, false)⟩, ⟨some 76, .ld none (.t 75), 0, [], [], some (71, false)⟩, ⟨some 77, .callw 29 [.t 76], 0, [], [], some (71, false)⟩, ⟨some 78, .fld (some 2) 0 (.t 77), 0, [], [], some (71, false)⟩, ⟨some 79, .callw 68 [.t 78], 0, [], [], some (71, false)⟩, ⟨some 80, .bin .leq (.t 79) (cI 0), 0, [], [], some (71, false)⟩, oI 81 (.pick (.t 71) (.c (.bool true)) (.t 80)) 0, oI 82 (.mv (.t 81)) 0, ⟨some 83, .mv (.t 1), 0, [], [], some (82, false)⟩, ⟨some 84, .mv (.t 10), 0, [], [], some (82, false)⟩, ⟨some 85, .idx 3 (.t 83) (.t 84), 0, [], [], some (82, false)⟩, ⟨some 86, .fa 2 (.t 85), 0, [], [], some (82, false)⟩, ⟨some 87, .ld none (.t 86), 0, [], [], some (82, false)⟩, ⟨some 88, .callw 69 [.t 87, cI 20], 0, [], [], some (82, false)⟩, ⟨some 89, .un .not (.t 88), 0, [], [], some (82, false)⟩, oI 90 (.pick (.t 82) (.c (.bool true)) (.t 89)) 0, oI 9 (.mv (.t 90)) 0]
@[go_sem ↓] theorem cref_Check_r11_k : autoK cref_Check_r11 = (0, 0) := by kernel_rfl
@[go_sem] theorem cref_Check_r11_k1 : autoK [oI 35 (.mv (.t 9)) 0, oI 36 (.mv (.t 35)) 0, ⟨some 37, .mv (.t 1), 0, [], [], some (36, false)⟩, ⟨some 38, .mv (.t 10), 0, [], [], some (36, false)⟩, ⟨some 39, .idx 3 (.t 37) (.t 38), 0, [], [], some (36, false)⟩, ⟨some 40, .fa 0 (.t 39), 0, [], [], some (36, false)⟩, ⟨some 41, .ld none (.t 40), 0, [], [], some (36, false)⟩, ⟨some 42, .mv (.t 0), 0, [], [], some (36, false)⟩, ⟨some 43, .bin .sub (.t 42) (cI 1), 0, [], [], some (36, false)⟩, ⟨some 44, .callw 67 [.t 41, cI 0, .t 43], 0, [], [], some (36, false)⟩, ⟨some 45, .un .not (.t 44), 0, [], [], some (36, false)⟩, oI 46 (.pick (.t 36) (.c (.bool true)) (.t 45)) 0, oI 47 (.mv (.t 46)) 0, ⟨some 48, .mv (.t 1), 0, [], [], some (47, false)⟩, ⟨some 49, .mv (.t 10), 0, [], [], some (47, false)⟩, ⟨some 50, .idx 3 (.t 48) (.t 49), 0, [], [], some (47, false)⟩, ⟨some 51, .fa 1 (.t 50), 0, [], [], some (47, false)⟩, ⟨some 52, .ld none (.t 51), 0, [], [], some (47, false)⟩, ⟨some 53, .mv (.t 0), 0, [], [], some (47, false)⟩, ⟨some 54, .bin .sub (.t 53) (cI 1), 0, [], [], some (47, false)⟩, ⟨some 55, .callw 67 [.t 52, cI 0, .t 54], 0, [], [], some (47, false)⟩, ⟨some 56, .un .not (.t 55), 0, [], [], some (47, false)⟩, oI 57 (.pick (.t 47) (.c (.bool true)) (.t 56)) 0, oI 58 (.mv (.t 57)) 0, ⟨some 59, .mv (.t 1), 0, [], [], some (58, false)⟩, ⟨some 60, .mv (.t 10), 0, [], [], some (58, false)⟩, ⟨some 61, .idx 3 (.t 59) (.t 60), 0, [], [], some (58, false)⟩, ⟨some 62, .fa 0 (.t 61), 0, [], [], some (58, false)⟩, ⟨some 63, .ld none (.t 62), 0, [], [], some (58, false)⟩, ⟨some 64, .mv (.t 1), 0, [], [], some (58, false)⟩, ⟨some 65, .mv (.t 10), 0, [], [], some (58, false)⟩, ⟨some 66, .idx 3 (.t 64) (.t 65), 0, [], [], some (58, false)⟩, ⟨some 67, .fa 1 (.t 66), 0, [], [], some (58, false)⟩, ⟨some 68, .ld none (.t 67), 0, [], [], some (58, false)⟩, ⟨some 69, .bin .eql (.t 63) (.t 68), 0, [], [], some (58, false)⟩, oI 70 (.pick (.t 58) (.c (.bool true)) (.t 69)) 0, oI 71 (.mv (.t 70)) 0, ⟨some 72, .mv (.t 1), 0, [], [], some (71, false)⟩, ⟨some 73, .mv (.t 10), 0, [], [], some (71, false)⟩, ⟨some 74, .idx 3 (.t 72) (.t 73), 0, [], [], some (71, false)⟩, ⟨some 75, .fa 2 (.t 74), 0, [], [], some (71, false)⟩, ⟨some 76, .ld none (.t 75), 0, [], [], some (71, false)⟩, ⟨some 77, .callw 29 [.t 76], 0, [], [], some (71, false)⟩, ⟨some 78, .fld (some 2) 0 (.t 77), 0, [], [], some (71, false)⟩, ⟨some 79, .callw 68 [.t 78], 0, [], [], some (71, false)⟩, ⟨some 80, .bin .leq (.t 79) (cI 0), 0, [], [], some (71, false)⟩, oI 81 (.pick (.t 71) (.c (.bool true)) (.t 80)) 0, oI 82 (.mv (.t 81)) 0, ⟨some 83, .mv (.t 1), 0, [], [], some (82, false)⟩, ⟨some 84, .mv (.t 10), 0, [], [], some (82, false)⟩, ⟨some 85, .idx 3 (.t 83) (.t 84), 0, [], [], some (82, false)⟩, ⟨some 86, .fa 2 (.t 85), 0, [], [], some (82, false)⟩, ⟨some 87, .ld none (.t 86), 0, [], [], some (82, false)⟩, ⟨some 88, .callw 69 [.t 87, cI 20], 0, [], [], some (82, false)⟩, ⟨some 89, .un .not (.t 88), 0, [], [], some (82, false)⟩, oI 90 (.pick (.t 82) (.c (.bool true)) (.t 89)) 0, oI 9 (.mv (.t 90)) 0] = (0, 0) := cref_Check_r11_k
def cref_Check_r12 : List IOp := [oI 33 (.mv (.t 10)) 0, oI 34 (.bin .add (.t 33) (cI 1)) 0, oI 10 (.mv (.t 34)) 0]
def cref_Check_L1 : CC := .seq (.seq (.rg false cref_Check_r10) (.cond (.t 32) .skip (.exit 0))) (.seq (.block 1 (.rg true cref_Check_r11)) (.rg false cref_Check_r12))
def cref_Check_r13 : List IOp := [oI 91 (.mv (.t 9)) 0]
def cref_Check_r14 : List IOp := [oI 6 (.mv (cI 1)) 0]
def cref_Check_r15 : List IOp := [oI 6 (.mv (cI 0)) 0]
def cref_Check : CC := .seq (.rg false cref_Check_r1) (.seq (.seq (.rg false cref_Check_r2) (.seq (.rg false cref_Check_r3) (.cond (.t 14) (.seq (.rg false cref_Check_r4) .ret) .skip))) (.seq (.seq (.rg false cref_Check_r5) (.seq (.rg false cref_Check_r6) (.cond (.t 19) (.seq (.rg false cref_Check_r7) .ret) .skip))) (.seq (.rg false cref_Check_r8) (.seq (.seq (.rg false cref_Check_r9) (.block 0 (.loop cref_Check_L1))) (.seq (.seq (.rg false cref_Check_r13) (.cond (.t 91) (.seq (.rg false cref_Check_r14) .ret) .skip)) (.seq (.rg false cref_Check_r15) .ret))))))
abbrev n_ref_Check : Nat := 17
theorem ok_ref_Check : fnOk Tryz.prog 17 = some (92, cref_Check, [.tmp 6]) := by kernel_rfl
def cref_Parts_r1 : List IOp := [oI 4 (.mv (.c .nils)) 0]
def cref_Parts_r2 : List IOp := [oI 11 (.bsl none 0 [.int .i64 0] []) 0, oI 5 (.mv (.t 11)) 1]
def cref_Parts_r3 : List IOp := [oI 6 (.mv (cI 0)) 0]
def cref_Parts_r4 : List IOp := [oI 12 (.mv (.t 6)) 0, oI 13 (.mv (.t 0)) 0, oI 14 (.bin .lss (.t 12) (.t 13)) 0]
def cref_Parts_r5 : List IOp := [oI 17 (.mv (.t 5)) 0, oI 18 (.mv (.t 6)) 0, oI 19 (.bsl none 1 [.int .i64 0] [(0, .t 18)]) 0, oI 20 (.app none 8 (.t 17) (.t 19)) 1, oI 5 (.mv (.t 20)) 2]
def cref_Parts_r6 : List IOp := [oI 15 (.mv (.t 6)) 0, oI 16 (.bin .add (.t 15) (cI 1)) 0, oI 6 (.mv (.t 16)) 0]
def cref_Parts_L1 : CC := .seq (.seq (.rg false cref_Parts_r4) (.cond (.t 14) .skip (.exit 0))) (.seq (.block 1 (.rg false cref_Parts_r5)) (.rg false cref_Parts_r6))
def cref_Parts_r7 : List IOp := [oI 7 (.mv (cI 0)) 0]
def cref_Parts_r8 : List IOp := [oI 21 (.mv (.t 7)) 0, oI 22 (.mv (.t 1)) 0, oI 23 (.len (.t 22)) 0, oI 24 (.bin .lss (.t 21) (.t 23)) 0]
def cref_Parts_r9 : List IOp := [oI 27 (.mv (.t 5)) 0, oI 28 (.mv (.t 1)) 0, oI 29 (.mv (.t 7)) 0, oI 30 (.idx 3 (.t 28) (.t 29)) 0, oI 31 (.fa 0 (.t 30)) 0, oI 32 (.ld none (.t 31)) 0, oI 33 (.idx 1 (.t 27) (.t 32)) 0, oI 34 (.ld none (.t 33)) 0, oI 35 (.mv (.t 5)) 0, oI 36 (.mv (.t 1)) 0, oI 37 (.mv (.t 7)) 0, oI 38 (.idx 3 (.t 36) (.t 37)) 0, oI 39 (.fa 1 (.t 38)) 0, oI 40 (.ld none (.t 39)) 0, oI 41 (.idx 1 (.t 35) (.t 40)) 0, oI 42 (.ld none (.t 41)) 0, oI 8 (.mv (.t 34)) 0, oI 9 (.mv (.t 42)) 0]
@[go_sem ↓] theorem cref_Parts_r9_k : autoK cref_Parts_r9 = (0, 0) := by kernel_rfl
@[go_sem] theorem cref_Parts_r9_k1 : autoK [oI 27 (.mv (.t 5)) 0, oI 28 (.mv (.t 1)) 0, oI 29 (.mv (.t 7)) 0, oI 30 (.idx 3 (.t 28) (.t 29)) 0, oI 31 (.fa 0 (.t 30)) 0, oI 32 (.ld none (.t 31)) 0, oI 33 (.idx 1 (.t 27) (.t 32)) 0, oI 34 (.ld none (.t 33)) 0, oI 35 (.mv (.t 5)) 0, oI 36 (.mv (.t 1)) 0, oI 37 (.mv (.t 7)) 0, oI 38 (.idx 3 (.t 36) (.t 37)) 0, oI 39 (.fa 1 (.t 38)) 0, oI 40 (.ld none (.t 39)) 0, oI 41 (.idx 1 (.t 35) (.t 40)) 0, oI 42 (.ld none (.t 41)) 0, oI 8 (.mv (.t 34)) 0, oI 9 (.mv (.t 42)) 0] = (0, 0) := cref_Parts_r9_k
def cref_Parts_r10 : List IOp := [oI 10 (.mv (cI 0)) 0]
def cref_Parts_r11 : List IOp := [oI 43 (.mv (.t 10)) 0, oI 44 (.mv (.t 0)) 0, oI 45 (.bin .lss (.t 43) (.t 44)) 0]
def cref_Parts_r12 : List IOp := [oI 48 (.mv (.t 5)) 0, oI 49 (.mv (.t 10)) 0, oI 50 (.idx 1 (.t 48) (.t 49)) 0, oI 51 (.ld none (.t 50)) 0, oI 52 (.mv (.t 8)) 0, oI 53 (.bin .eql (.t 51) (.t 52)) 0]
def cref_Parts_r13 : List IOp := [oI 54 (.mv (.t 5)) 0, oI 55 (.mv (.t 10)) 0, oI 56 (.mv (.t 9)) 0, oI 57 (.idx 1 (.t 54) (.t 55)) 0, ⟨none, .st 1 (.t 57) (.t 56), 0, [], [], none⟩]
def cref_Parts_r14 : List IOp := [oI 46 (.mv (.t 10)) 0, oI 47 (.bin .add (.t 46) (cI 1)) 0, oI 10 (.mv (.t 47)) 0]
def cref_Parts_L2 : CC := .seq (.seq (.rg false cref_Parts_r11) (.cond (.t 45) .skip (.exit 4))) (.seq (.block 5 (.seq (.rg false cref_Parts_r12) (.cond (.t 53) (.rg false cref_Parts_r13) .skip))) (.rg false cref_Parts_r14))
def cref_Parts_r15 : List IOp := [oI 25 (.mv (.t 7)) 0, oI 26 (.bin .add (.t 25) (cI 1)) 0, oI 7 (.mv (.t 26)) 0]
def cref_Parts_L3 : CC := .seq (.seq (.rg false cref_Parts_r8) (.cond (.t 24) .skip (.exit 2))) (.seq (.block 3 (.seq (.rg true cref_Parts_r9) (.seq (.rg false cref_Parts_r10) (.block 4 (.loop cref_Parts_L2))))) (.rg false cref_Parts_r15))
def cref_Parts_r16 : List IOp := [oI 58 (.mv (.t 5)) 0, oI 4 (.mv (.t 58)) 0]
def cref_Parts : CC := .seq (.rg false cref_Parts_r1) (.seq (.rg false cref_Parts_r2) (.seq (.seq (.rg false cref_Parts_r3) (.block 0 (.loop cref_Parts_L1))) (.seq (.seq (.rg false cref_Parts_r7) (.block 2 (.loop cref_Parts_L3))) (.seq (.rg false cref_Parts_r16) .ret))))
abbrev n_ref_Parts : Nat := 89
theorem ok_ref_Parts : fnOk Tryz.prog 89 = some (59, cref_Parts, [.tmp 4]) := by kernel_rfl
def cref_Connected_r1 : List IOp := [oI 4 (.mv (.c (.bool false))) 0]
def cref_Connected_r2 : List IOp := [oI 7 (.mv (.t 0)) 0, oI 8 (.mv (.t 1)) 0, oI 9 (.call 89 [.t 7, .t 8]) 0, oI 5 (.mv (.t 9)) 0]
def cref_Connected_r3 : List IOp := [oI 6 (.mv (cI 0)) 0]
def cref_Connected_r4 : List IOp := [oI 10 (.mv (.t 6)) 0, oI 11 (.mv (.t 0)) 0, oI 12 (.bin .lss (.t 10) (.t 11)) 0]
def cref_Connected_r5 : List IOp := [oI 15 (.mv (.t 5)) 0, oI 16 (.mv (.t 6)) 0, oI 17 (.idx 1 (.t 15) (.t 16)) 0, oI 18 (.ld none (.t 17)) 0, oI 19 (.mv (.t 5)) 0, oI 20 (.idx 1 (.t 19) (cI 0)) 0, oI 21 (.ld none (.t 20)) 0, oI 22 (.bin .neq (.t 18) (.t 21)) 0]
@[go_sem ↓] theorem cref_Connected_r5_k : autoK cref_Connected_r5 = (0, 0) := by kernel_rfl
@[go_sem] theorem cref_Connected_r5_k1 : autoK [oI 15 (.mv (.t 5)) 0, oI 16 (.mv (.t 6)) 0, oI 17 (.idx 1 (.t 15) (.t 16)) 0, oI 18 (.ld none (.t 17)) 0, oI 19 (.mv (.t 5)) 0, oI 20 (.idx 1 (.t 19) (cI 0)) 0, oI 21 (.ld none (.t 20)) 0, oI 22 (.bin .neq (.t 18) (.t 21)) 0] = (0, 0) := cref_Connected_r5_k
def cref_Connected_r6 : List IOp := [oI 4 (.mv (.c (.bool false))) 0]
def cref_Connected_r7 : List IOp := [oI 13 (.mv (.t 6)) 0, oI 14 (.bin .add (.t 13) (cI 1)) 0, oI 6 (.mv (.t 14)) 0]
def cref_Connected_L1 : CC := .seq (.seq (.rg false cref_Connected_r4) (.cond (.t 12) .skip (.exit 0))) (.seq (.block 1 (.seq (.rg true cref_Connected_r5) (.cond (.t 22) (.seq (.rg false cref_Connected_r6) .ret) .skip))) (.rg false cref_Connected_r7))
def cref_Connected_r8 : List IOp := [oI 4 (.mv (.c (.bool true))) 0]
def cref_Connected : CC := .seq (.rg false cref_Connected_r1) (.seq (.rg false cref_Connected_r2) (.seq (.seq (.rg false cref_Connected_r3) (.block 0 (.loop cref_Connected_L1))) (.seq (.rg false cref_Connected_r8) .ret)))
abbrev n_ref_Connected : Nat := 42
theorem ok_ref_Connected : fnOk Tryz.prog 42 = some (23, cref_Connected, [.tmp 4]) := by kernel_rfl
def cref_choices_r1 : List IOp := [oI 4 (.mv (.c .nils)) 0]
def cref_choices_r2 : List IOp := [oI 9 (.mv (.t 1)) 0, oI 10 (.bin .eql (.t 9) (cI 0)) 0]
def cref_choices_r3 : List IOp := [oI 11 (.bsl none 0 [.int .i64 0] []) 0, oI 12 (.bsl none 1 [.nils] [(0, .t 11)]) 1, oI 4 (.mv (.t 12)) 2]
def cref_choices_r4 : List IOp := [oI 13 (.bsl none 0 [.nils] []) 0, oI 5 (.mv (.t 13)) 1]
def cref_choices_r5 : List IOp := [oI 14 (.mv (.t 1)) 0, oI 15 (.bin .sub (.t 14) (cI 1)) 0, oI 6 (.mv (.t 15)) 0]
def cref_choices_r6 : List IOp := [oI 16 (.mv (.t 6)) 0, oI 17 (.mv (.t 0)) 0, oI 18 (.bin .lss (.t 16) (.t 17)) 0]
def cref_choices_r7 : List IOp := [oI 21 (.mv (.t 6)) 0, oI 22 (.mv (.t 1)) 0, oI 23 (.bin .sub (.t 22) (cI 1)) 0, oI 24 (.call 70 [.t 21, .t 23]) 0, oI 7 (.mv (.t 24)) 0]
def cref_choices_r8 : List IOp := [oI 8 (.mv (cI 0)) 0]
def cref_choices_r9 : List IOp := [oI 25 (.mv (.t 8)) 0, oI 26 (.mv (.t 7)) 0, oI 27 (.len (.t 26)) 0, oI 28 (.bin .lss (.t 25) (.t 27)) 0]
def cref_choices_r10 : List IOp := [oI 31 (.mv (.t 5)) 0, oI 32 (.bsl none 0 [.int .i64 0] []) 0, oI 33 (.mv (.t 7)) 1, oI 34 (.mv (.t 8)) 1, oI 35 (.idx 1 (.t 33) (.t 34)) 1, oI 36 (.ld none (.t 35)) 1, oI 37 (.app none 8 (.t 32) (.t 36)) 1, oI 38 (.mv (.t 6)) 2, oI 39 (.bsl none 1 [.int .i64 0] [(0, .t 38)]) 2, oI 40 (.app none 8 (.t 37) (.t 39)) 3, oI 41 (.bsl none 1 [.nils] [(0, .t 40)]) 4, oI 42 (.app none 24 (.t 31) (.t 41)) 5, oI 5 (.mv (.t 42)) 6]
def cref_choices_r11 : List IOp := [oI 29 (.mv (.t 8)) 0, oI 30 (.bin .add (.t 29) (cI 1)) 0, oI 8 (.mv (.t 30)) 0]
def cref_choices_L1 : CC := .seq (.seq (.rg false cref_choices_r9) (.cond (.t 28) .skip (.exit 2))) (.seq (.block 3 (.rg false cref_choices_r10)) (.rg false cref_choices_r11))
def cref_choices_r12 : List IOp := [oI 19 (.mv (.t 6)) 0, oI 20 (.bin .add (.t 19) (cI 1)) 0, oI 6 (.mv (.t 20)) 0]
def cref_choices_L2 : CC := .seq (.seq (.rg false cref_choices_r6) (.cond (.t 18) .skip (.exit 0))) (.seq (.block 1 (.seq (.rg false cref_choices_r7) (.seq (.rg false cref_choices_r8) (.block 2 (.loop cref_choices_L1))))) (.rg false cref_choices_r12))
def cref_choices_r13 : List IOp := [oI 43 (.mv (.t 5)) 0, oI 4 (.mv (.t 43)) 0]
def cref_choices : CC := .seq (.rg false cref_choices_r1) (.seq (.seq (.rg false cref_choices_r2) (.cond (.t 10) (.seq (.rg false cref_choices_r3) .ret) .skip)) (.seq (.rg false cref_choices_r4) (.seq (.seq (.rg false cref_choices_r5) (.block 0 (.loop cref_choices_L2))) (.seq (.rg false cref_choices_r13) .ret))))
abbrev n_ref_choices : Nat := 70
theorem ok_ref_choices : fnOk Tryz.prog 70 = some (44, cref_choices, [.tmp 4]) := by kernel_rfl
def cref_Trees_r1 : List IOp := [oI 4 (.alloc [.bool false, .nils, .bool false, .nils]) 0]
def cref_Trees_r2 : List IOp := [oI 11 (.call 33 [cI 0]) 0, oI 12 (.mv (.t 1)) 0, oI 13 (.len (.t 12)) 0, oI 14 (.mv (.t 0)) 0, oI 15 (.bin .sub (.t 14) (cI 1)) 0, oI 16 (.call 70 [.t 13, .t 15]) 0, oI 5 (.alloc [.bool false, .nils, .bool false, .nils]) 0, ⟨none, .st 4 (.t 5) (.t 11), 1, [], [], none⟩, oI 6 (.mv (.t 16)) 1]
def cref_Trees_r3 : List IOp := [oI 7 (.mv (cI 0)) 0]
def cref_Trees_r4 : List IOp := [oI 17 (.mv (.t 7)) 0, oI 18 (.mv (.t 6)) 0, oI 19 (.len (.t 18)) 0, oI 20 (.bin .lss (.t 17) (.t 19)) 0]
def cref_Trees_r5 : List IOp := [oI 23 (.bsl (some 3) 0 [.int .i64 0, .int .i64 0, .str ⟨#[]⟩] []) 0, oI 24 (.call 33 [cI 1]) 1, oI 9 (.alloc [.bool false, .nils, .bool false, .nils]) 1, oI 8 (.mv (.t 23)) 2, ⟨none, .st 4 (.t 9) (.t 24), 2, [], [], none⟩]
def cref_Trees_r6 : List IOp := [oI 10 (.mv (cI 0)) 0]
def cref_Trees_r7 : List IOp := [oI 25 (.mv (.t 10)) 0, oI 26 (.mv (.t 6)) 0, oI 27 (.mv (.t 7)) 0, oI 28 (.idx 1 (.t 26) (.t 27)) 0, oI 29 (.ld none (.t 28)) 0, oI 30 (.len (.t 29)) 0, oI 31 (.bin .lss (.t 25) (.t 30)) 0]
def cref_Trees_r8 : List IOp := [oI 34 (.mv (.t 8)) 0, oI 35 (.mv (.t 1)) 0, oI 36 (.mv (.t 6)) 0, oI 37 (.mv (.t 7)) 0, oI 38 (.idx 1 (.t 36) (.t 37)) 0, oI 39 (.ld none (.t 38)) 0, oI 40 (.mv (.t 10)) 0, oI 41 (.idx 1 (.t 39) (.t 40)) 0, oI 42 (.ld none (.t 41)) 0, oI 43 (.idx 3 (.t 35) (.t 42)) 0, oI 44 (.ld (some 3) (.t 43)) 0, oI 45 (.bsl (some 3) 1 [.int .i64 0, .int .i64 0, .str ⟨#[]⟩] [(0, .t 44)]) 0, oI 46 (.app (some 3) 32 (.t 34) (.t 45)) 1, oI 8 (.mv (.t 46)) 2]
def cref_Trees_r9 : List IOp := [oI 47 (.ld (some 4) (.t 9)) 0, oI 48 (.mv (.t 1)) 0, oI 49 (.mv (.t 6)) 0, oI 50 (.mv (.t 7)) 0, oI 51 (.idx 1 (.t 49) (.t 50)) 0, oI 52 (.ld none (.t 51)) 0, oI 53 (.mv (.t 10)) 0, oI 54 (.idx 1 (.t 52) (.t 53)) 0, oI 55 (.ld none (.t 54)) 0, oI 56 (.idx 3 (.t 48) (.t 55)) 0, oI 57 (.fa 2 (.t 56)) 0, oI 58 (.ld none (.t 57)) 0, oI 59 (.call 29 [.t 58]) 0, oI 60 (.callw 28 [.t 47, .t 59]) 0, ⟨none, .st 4 (.t 9) (.t 60), 0, [], [], none⟩]
@[go_sem ↓] theorem cref_Trees_r9_k : autoK cref_Trees_r9 = (0, 1) := by kernel_rfl
@[go_sem] theorem cref_Trees_r9_k1 : autoK [oI 47 (.ld (some 4) (.t 9)) 0, oI 48 (.mv (.t 1)) 0, oI 49 (.mv (.t 6)) 0, oI 50 (.mv (.t 7)) 0, oI 51 (.idx 1 (.t 49) (.t 50)) 0, oI 52 (.ld none (.t 51)) 0, oI 53 (.mv (.t 10)) 0, oI 54 (.idx 1 (.t 52) (.t 53)) 0, oI 55 (.ld none (.t 54)) 0, oI 56 (.idx 3 (.t 48) (.t 55)) 0, oI 57 (.fa 2 (.t 56)) 0, oI 58 (.ld none (.t 57)) 0, oI 59 (.call 29 [.t 58]) 0, oI 60 (.callw 28 [.t 47, .t 59]) 0, ⟨none, .st 4 (.t 9) (.t 60), 0, [], [], none⟩] = (0, 1) := cref_Trees_r9_k
def cref_Trees_r10 : List IOp := [oI 32 (.mv (.t 10)) 0, oI 33 (.bin .add (.t 32) (cI 1)) 0, oI 10 (.mv (.t 33)) 0]
def cref_Trees_L1 : CC := .seq (.seq (.rg false cref_Trees_r7) (.cond (.t 31) .skip (.exit 2))) (.seq (.block 3 (.seq (.rg false cref_Trees_r8) (.rg true cref_Trees_r9))) (.rg false cref_Trees_r10))
def cref_Trees_r11 : List IOp := [oI 61 (.mv (.t 0)) 0, oI 62 (.mv (.t 8)) 0, oI 63 (.call 42 [.t 61, .t 62]) 0]
def cref_Trees_r12 : List IOp := [oI 64 (.ld (some 4) (.t 5)) 0, oI 65 (.ld (some 4) (.t 9)) 0, oI 66 (.call 27 [.t 64, .t 65]) 0, oI 67 (.call 36 [.t 66]) 0, ⟨none, .st 4 (.t 5) (.t 67), 0, [], [], none⟩]
def cref_Trees_r13 : List IOp := [oI 21 (.mv (.t 7)) 0, oI 22 (.bin .add (.t 21) (cI 1)) 0, oI 7 (.mv (.t 22)) 0]
def cref_Trees_L2 : CC := .seq (.seq (.rg false cref_Trees_r4) (.cond (.t 20) .skip (.exit 0))) (.seq (.block 1 (.seq (.rg false cref_Trees_r5) (.seq (.seq (.rg false cref_Trees_r6) (.block 2 (.loop cref_Trees_L1))) (.seq (.rg false cref_Trees_r11) (.cond (.t 63) (.rg false cref_Trees_r12) .skip))))) (.rg false cref_Trees_r13))
def cref_Trees_r14 : List IOp := [oI 68 (.ld (some 4) (.t 5)) 0, ⟨none, .st 4 (.t 4) (.t 68), 0, [], [], none⟩]
def cref_Trees : CC := .seq (.rg false cref_Trees_r1) (.seq (.rg false cref_Trees_r2) (.seq (.seq (.rg false cref_Trees_r3) (.block 0 (.loop cref_Trees_L2))) (.seq (.rg false cref_Trees_r14) .ret)))
abbrev n_ref_Trees : Nat := 21
theorem ok_ref_Trees : fnOk Tryz.prog 21 = some (69, cref_Trees, [.cell 4 (some 4)]) := by kernel_rfl
def claw_few_r1 : List IOp := [oI 1 (.box (.t 0)) 0, oI 2 (.alloc [.int .i64 0, .nils]) 1]
def claw_few_r2 : List IOp := [oI 3 (.mv (cI 9)) 0]
def claw_few_r3 : List IOp := [oI 7 (.fa 1 (.t 1)) 0, oI 8 (.ld none (.t 7)) 0, oI 9 (.len (.t 8)) 0, oI 10 (.bin .gtr (.t 9) (cI 40)) 0]
def claw_few_r4 : List IOp := [oI 3 (.mv (cI 41)) 0]
def claw_few_r5 : List IOp := [oI 11 (.fa 0 (.t 1)) 0, oI 12 (.ld none (.t 11)) 0, oI 13 (.build [.int .i64 0, .nils] [(0, 1, .t 12)]) 0, oI 4 (.alloc [.int .i64 0, .nils]) 0, ⟨none, .st 2 (.t 4) (.t 13), 1, [], [], none⟩]
def claw_few_r6 : List IOp := [oI 14 (.fa 0 (.t 4)) 0, oI 15 (.ld none (.t 14)) 0, oI 16 (.bin .gtr (.t 15) (cI 6)) 0, oI 17 (.mv (.t 16)) 0, ⟨some 18, .fa 0 (.t 4), 0, [], [], some (17, true)⟩, ⟨some 19, .ld none (.t 18), 0, [], [], some (17, true)⟩, ⟨some 20, .bin .leq (.t 19) (cI 10), 0, [], [], some (17, true)⟩, oI 21 (.pick (.t 17) (.t 20) (.c (.bool false))) 0]
def claw_few_r7 : List IOp := [oI 22 (.fa 0 (.t 4)) 0, ⟨none, .st 1 (.t 22) (cI 6), 0, [], [], none⟩]
def claw_few_r8 : List IOp := [oI 5 (.mv (cI 0)) 0]
def claw_few_r9 : List IOp := [oI 23 (.mv (.t 5)) 0, oI 24 (.fa 1 (.t 1)) 0, oI 25 (.ld none (.t 24)) 0, oI 26 (.len (.t 25)) 0, oI 27 (.bin .lss (.t 23) (.t 26)) 0, oI 28 (.mv (.t 27)) 0, ⟨some 29, .mv (.t 5), 0, [], [], some (28, true)⟩, ⟨some 30, .mv (.t 3), 0, [], [], some (28, true)⟩, ⟨some 31, .bin .lss (.t 29) (.t 30), 0, [], [], some (28, true)⟩, oI 32 (.pick (.t 28) (.t 31) (.c (.bool false))) 0]
def claw_few_r10 : List IOp := [oI 35 (.fa 1 (.t 1)) 0, oI 36 (.ld none (.t 35)) 0, oI 37 (.mv (.t 5)) 0, oI 38 (.idx 3 (.t 36) (.t 37)) 0, oI 39 (.ld (some 3) (.t 38)) 0, oI 6 (.alloc [.int .i64 0, .int .i64 0, .str ⟨#[]⟩]) 0, ⟨none, .st 3 (.t 6) (.t 39), 1, [], [], none⟩]
def claw_few_r11 : List IOp := [oI 40 (.fa 1 (.t 4)) 0, oI 41 (.ld none (.t 40)) 0, oI 42 (.fa 0 (.t 6)) 0, oI 43 (.ld none (.t 42)) 0, oI 44 (.fa 1 (.t 6)) 0, oI 45 (.ld none (.t 44)) 0, oI 46 (.fa 2 (.t 6)) 0, oI 47 (.ld none (.t 46)) 0, oI 48 (.call 61 [.t 47]) 0, oI 49 (.build [.int .i64 0, .int .i64 0, .str ⟨#[]⟩] [(0, 1, .t 43), (1, 1, .t 45), (2, 1, .t 48)]) 0, oI 50 (.bsl (some 3) 1 [.int .i64 0, .int .i64 0, .str ⟨#[]⟩] [(0, .t 49)]) 0, ⟨some 51, .app (some 3) 32 (.t 41) (.t 50), 1, [0], [], none⟩, ⟨some 52, .fa 1 (.t 4), 2, [0, 1], [], none⟩, ⟨none, .st 1 (.t 52) (.t 51), 2, [0, 1], [], none⟩]
@[go_sem ↓] theorem claw_few_r11_k : autoK claw_few_r11 = (2, 1) := by kernel_rfl
@[go_sem] theorem claw_few_r11_k1 : autoK [oI 40 (.fa 1 (.t 4)) 0, oI 41 (.ld none (.t 40)) 0, oI 42 (.fa 0 (.t 6)) 0, oI 43 (.ld none (.t 42)) 0, oI 44 (.fa 1 (.t 6)) 0, oI 45 (.ld none (.t 44)) 0, oI 46 (.fa 2 (.t 6)) 0, oI 47 (.ld none (.t 46)) 0, oI 48 (.call 61 [.t 47]) 0, oI 49 (.build [.int .i64 0, .int .i64 0, .str ⟨#[]⟩] [(0, 1, .t 43), (1, 1, .t 45), (2, 1, .t 48)]) 0, oI 50 (.bsl (some 3) 1 [.int .i64 0, .int .i64 0, .str ⟨#[]⟩] [(0, .t 49)]) 0, ⟨some 51, .app (some 3) 32 (.t 41) (.t 50), 1, [0], [], none⟩, ⟨some 52, .fa 1 (.t 4), 2, [0, 1], [], none⟩, ⟨none, .st 1 (.t 52) (.t 51), 2, [0, 1], [], none⟩] = (2, 1) := claw_few_r11_k
def claw_few_r12 : List IOp := [oI 33 (.mv (.t 5)) 0, oI 34 (.bin .add (.t 33) (cI 1)) 0, oI 5 (.mv (.t 34)) 0]
def claw_few_L1 : CC := .seq (.seq (.rg false claw_few_r9) (.cond (.t 32) .skip (.exit 0))) (.seq (.block 1 (.seq (.rg false claw_few_r10) (.rg true claw_few_r11))) (.rg false claw_few_r12))
def claw_few_r13 : List IOp := [oI 53 (.ld (some 2) (.t 4)) 0, ⟨none, .st 2 (.t 2) (.t 53), 0, [], [], none⟩]
def claw_few : CC := .seq (.rg false claw_few_r1) (.seq (.rg false claw_few_r2) (.seq (.seq (.rg false claw_few_r3) (.cond (.t 10) (.rg false claw_few_r4) .skip)) (.seq (.rg false claw_few_r5) (.seq (.seq (.rg false claw_few_r6) (.cond (.t 21) (.rg false claw_few_r7) .skip)) (.seq (.seq (.rg false claw_few_r8) (.block 0 (.loop claw_few_L1))) (.seq (.rg false claw_few_r13) .ret))))))
abbrev n_law_few : Nat := 15
theorem ok_law_few : fnOk Tryz.prog 15 = some (54, claw_few, [.cell 2 (some 2)]) := by kernel_rfl
def claw_short_r1 : List IOp := [oI 2 (.mv (.c (.str ⟨#[]⟩))) 0]
def claw_short_r2 : List IOp := [oI 3 (.mv (.t 0)) 0, oI 4 (.slen (.t 3)) 0, oI 5 (.bin .gtr (.t 4) (cI 20)) 0]
def claw_short_r3 : List IOp := [oI 6 (.mv (.t 0)) 0, oI 7 (.mv (.t 0)) 0, oI 8 (.slen (.t 7)) 0, oI 9 (.mn (.t 8) (cI 23)) 0, oI 10 (.sslc (.t 6) none (some (.t 9))) 0, oI 2 (.mv (.t 10)) 0]
def claw_short_r4 : List IOp := [oI 11 (.mv (.t 0)) 0, oI 12 (.mv (.t 0)) 0, oI 13 (.slen (.t 12)) 0, oI 14 (.mn (.t 13) (cI 6)) 0, oI 15 (.sslc (.t 11) none (some (.t 14))) 0, oI 2 (.mv (.t 15)) 0]
def claw_short : CC := .seq (.rg false claw_short_r1) (.seq (.seq (.rg false claw_short_r2) (.cond (.t 5) (.seq (.rg false claw_short_r3) .ret) .skip)) (.seq (.rg false claw_short_r4) .ret))
abbrev n_law_short : Nat := 61
theorem ok_law_short : fnOk Tryz.prog 61 = some (16, claw_short, [.tmp 2]) := by kernel_rfl
def claw_light_r1 : List IOp := [oI 1 (.box (.t 0)) 0, oI 2 (.mv (.c (.bool false))) 1]
def claw_light_r2 : List IOp := [oI 3 (.mv (cI 0)) 0]
def claw_light_r3 : List IOp := [oI 4 (.mv (.t 3)) 0, oI 5 (.fa 1 (.t 1)) 0, oI 6 (.ld none (.t 5)) 0, oI 7 (.len (.t 6)) 0, oI 8 (.bin .lss (.t 4) (.t 7)) 0]
def claw_light_r4 : List IOp := [oI 11 (.fa 1 (.t 1)) 0, oI 12 (.ld none (.t 11)) 0, oI 13 (.mv (.t 3)) 0, oI 14 (.idx 3 (.t 12) (.t 13)) 0, oI 15 (.fa 2 (.t 14)) 0, oI 16 (.ld none (.t 15)) 0, oI 17 (.slen (.t 16)) 0, oI 18 (.bin .gtr (.t 17) (cI 6)) 0]
def claw_light_r5 : List IOp := [oI 2 (.mv (.c (.bool false))) 0]
def claw_light_r6 : List IOp := [oI 9 (.mv (.t 3)) 0, oI 10 (.bin .add (.t 9) (cI 1)) 0, oI 3 (.mv (.t 10)) 0]
def claw_light_L1 : CC := .seq (.seq (.rg false claw_light_r3) (.cond (.t 8) .skip (.exit 0))) (.seq (.block 1 (.seq (.rg false claw_light_r4) (.cond (.t 18) (.seq (.rg false claw_light_r5) .ret) .skip))) (.rg false claw_light_r6))
def claw_light_r7 : List IOp := [oI 19 (.fa 1 (.t 1)) 0, oI 20 (.ld none (.t 19)) 0, oI 21 (.len (.t 20)) 0, oI 22 (.bin .leq (.t 21) (cI 9)) 0, oI 2 (.mv (.t 22)) 0]
def claw_light : CC := .seq (.rg false claw_light_r1) (.seq (.seq (.rg false claw_light_r2) (.block 0 (.loop claw_light_L1))) (.seq (.rg false claw_light_r7) .ret))
abbrev n_law_light : Nat := 19
theorem ok_law_light : fnOk Tryz.prog 19 = some (23, claw_light, [.tmp 2]) := by kernel_rfl
def claw_lives_r1 : List IOp := [oI 0 (.mv (.c (.bool false))) 0]
def claw_lives_r2 : List IOp := [oI 6 (.build [.int .i64 0, .int .i64 0, .str ⟨#[]⟩] [(0, 1, cI 0), (1, 1, cI 1), (2, 1, .c (.str ⟨#[49]⟩))]) 0, oI 7 (.build [.int .i64 0, .int .i64 0, .str ⟨#[]⟩] [(0, 1, cI 1), (1, 1, cI 2), (2, 1, .c (.str ⟨#[49]⟩))]) 0, oI 8 (.build [.int .i64 0, .int .i64 0, .str ⟨#[]⟩] [(0, 1, cI 0), (1, 1, cI 2), (2, 1, .c (.str ⟨#[49]⟩))]) 0, oI 9 (.bsl (some 3) 3 [.int .i64 0, .int .i64 0, .str ⟨#[]⟩] [(0, .t 6), (1, .t 7), (2, .t 8)]) 0, oI 1 (.mv (.t 9)) 1]
def claw_lives_r3 : List IOp := [oI 11 (.mv (.t 1)) 0, oI 12 (.call 16 [cI 3, .t 11]) 0, oI 10 (.mv (.t 12)) 0, oI 13 (.ext 0 (.t 10)) 0, oI 14 (.ext 1 (.t 10)) 0, oI 2 (.mv (.t 13)) 0, oI 3 (.mv (.t 14)) 0]
def claw_lives_r4 : List IOp := [oI 16 (.mv (.t 1)) 0, oI 17 (.call 31 [cI 3, .t 16, cI 0, cI 1]) 0, oI 15 (.mv (.t 17)) 0, oI 18 (.ext 0 (.t 15)) 0, oI 19 (.ext 1 (.t 15)) 0, oI 4 (.mv (.t 18)) 0, oI 5 (.mv (.t 19)) 0]
def claw_lives_r5 : List IOp := [oI 20 (.mv (.t 2)) 0, oI 21 (.bin .eql (.t 20) (.c (.str ⟨#[51]⟩))) 0, oI 22 (.mv (.t 21)) 0, ⟨some 23, .mv (.t 3), 0, [], [], some (22, true)⟩, ⟨some 24, .bin .eql (.t 23) (cI 0), 0, [], [], some (22, true)⟩, oI 25 (.pick (.t 22) (.t 24) (.c (.bool false))) 0, oI 26 (.mv (.t 25)) 0, ⟨some 27, .mv (.t 4), 0, [], [], some (26, true)⟩, ⟨some 28, .bin .eql (.t 27) (.c (.str ⟨#[51, 47, 50]⟩)), 0, [], [], some (26, true)⟩, oI 29 (.pick (.t 26) (.t 28) (.c (.bool false))) 0, oI 30 (.mv (.t 29)) 0, ⟨some 31, .mv (.t 5), 0, [], [], some (30, true)⟩, ⟨some 32, .bin .eql (.t 31) (cI 0), 0, [], [], some (30, true)⟩, oI 33 (.pick (.t 30) (.t 32) (.c (.bool false))) 0, oI 0 (.mv (.t 33)) 0]
def claw_lives : CC := .seq (.rg false claw_lives_r1) (.seq (.rg false claw_lives_r2) (.seq (.rg false claw_lives_r3) (.seq (.rg false claw_lives_r4) (.seq (.rg false claw_lives_r5) .ret))))
abbrev n_law_lives : Nat := 18
theorem ok_law_lives : fnOk Tryz.prog 18 = some (34, claw_lives, [.tmp 0]) := by kernel_rfl
def claw_SpringTrees_r1 : List IOp := [oI 1 (.box (.t 0)) 0, oI 2 (.mv (.c (.bool false))) 1]
def claw_SpringTrees_r2 : List IOp := [oI 7 (.ld (some 2) (.t 1)) 0, oI 8 (.call 15 [.t 7]) 0, oI 3 (.alloc [.int .i64 0, .nils]) 0, ⟨none, .st 2 (.t 3) (.t 8), 1, [], [], none⟩]
def claw_SpringTrees_r3 : List IOp := [oI 10 (.fa 0 (.t 3)) 0, oI 11 (.ld none (.t 10)) 0, oI 12 (.fa 1 (.t 3)) 0, oI 13 (.ld none (.t 12)) 0, oI 14 (.call 16 [.t 11, .t 13]) 0, oI 9 (.mv (.t 14)) 0, oI 15 (.ext 0 (.t 9)) 0, oI 16 (.ext 1 (.t 9)) 0, oI 4 (.mv (.t 15)) 0, oI 5 (.mv (.t 16)) 0]
def claw_SpringTrees_r4 : List IOp := [oI 17 (.fa 0 (.t 3)) 0, oI 18 (.ld none (.t 17)) 0, oI 19 (.fa 1 (.t 3)) 0, oI 20 (.ld none (.t 19)) 0, oI 21 (.call 17 [.t 18, .t 20, .c .nils]) 0, oI 6 (.mv (.t 21)) 0]
def claw_SpringTrees_r5 : List IOp := [oI 22 (.mv (.t 6)) 0, oI 23 (.bin .neq (.t 22) (cI 0)) 0]
def claw_SpringTrees_r6 : List IOp := [oI 24 (.mv (.t 4)) 0, oI 25 (.bin .eql (.t 24) (.c (.str ⟨#[]⟩))) 0, oI 26 (.mv (.t 25)) 0, ⟨some 27, .mv (.t 5), 0, [], [], some (26, true)⟩, ⟨some 28, .mv (.t 6), 0, [], [], some (26, true)⟩, ⟨some 29, .bin .eql (.t 27) (.t 28), 0, [], [], some (26, true)⟩, oI 30 (.pick (.t 26) (.t 29) (.c (.bool false))) 0, oI 31 (.mv (.t 30)) 0, ⟨some 32, .call 18 [], 0, [], [], some (31, true)⟩, oI 33 (.pick (.t 31) (.t 32) (.c (.bool false))) 0, oI 2 (.mv (.t 33)) 0]
def claw_SpringTrees_r7 : List IOp := [oI 34 (.ld (some 2) (.t 3)) 0, oI 35 (.call 19 [.t 34]) 0, oI 36 (.un .not (.t 35)) 0]
def claw_SpringTrees_r8 : List IOp := [oI 37 (.call 18 []) 0, oI 2 (.mv (.t 37)) 0]
def claw_SpringTrees_r9 : List IOp := [oI 38 (.mv (.t 4)) 0, oI 39 (.fa 0 (.t 3)) 0, oI 40 (.ld none (.t 39)) 0, oI 41 (.fa 1 (.t 3)) 0, oI 42 (.ld none (.t 41)) 0, oI 43 (.call 21 [.t 40, .t 42]) 0, oI 44 (.call 20 [.t 38, .t 43]) 0, oI 45 (.mv (.t 44)) 0, ⟨some 46, .mv (.t 5), 0, [], [], some (45, true)⟩, ⟨some 47, .bin .eql (.t 46) (cI 0), 0, [], [], some (45, true)⟩, oI 48 (.pick (.t 45) (.t 47) (.c (.bool false))) 0, oI 49 (.mv (.t 48)) 0, ⟨some 50, .call 18 [], 0, [], [], some (49, true)⟩, oI 51 (.pick (.t 49) (.t 50) (.c (.bool false))) 0, oI 2 (.mv (.t 51)) 0]
def claw_SpringTrees : CC := .seq (.rg false claw_SpringTrees_r1) (.seq (.rg false claw_SpringTrees_r2) (.seq (.rg false claw_SpringTrees_r3) (.seq (.seq (.rg false claw_SpringTrees_r4) (.seq (.rg false claw_SpringTrees_r5) (.cond (.t 23) (.seq (.rg false claw_SpringTrees_r6) .ret) .skip))) (.seq (.seq (.rg false claw_SpringTrees_r7) (.cond (.t 36) (.seq (.rg false claw_SpringTrees_r8) .ret) .skip)) (.seq (.rg false claw_SpringTrees_r9) .ret)))))
abbrev n_law_SpringTrees : Nat := 3
theorem ok_law_SpringTrees : fnOk Tryz.prog 3 = some (52, claw_SpringTrees, [.tmp 2]) := by kernel_rfl
end GoAbs
namespace GoAbs
open Go Go.Proofs
theorem rin {v a b : Int} : SpecV Tryz.prog n_ref_in [.int .i64 v, .int .i64 a, .int .i64 b] (.bool (decide (a ≤ v ∧ v ≤ b))) := by
  refine specV_W ok_ref_in (by simp) ?_
  unfold cref_in
  by_cases h1 : a ≤ v
  · by_cases h2 : v ≤ b
    · have hd : decide (a ≤ v ∧ v ≤ b) = true := by simp [h1, h2]
      rw [hd]; simp only [go_sem, cref_in_r1, cref_in_r2, h1, h2]
    · have hd : decide (a ≤ v ∧ v ≤ b) = false := by simp [h2]
      rw [hd]; simp only [go_sem, cref_in_r1, cref_in_r2, h1, h2]
  · have hd : decide (a ≤ v ∧ v ≤ b) = false := by simp [h1]
    rw [hd]; simp only [go_sem, cref_in_r1, cref_in_r2, h1]
def formsE (L : List Spr) : Int := if (L.all fun s => (parseL s.2.2).isSome) then 0 else 2
theorem rforms {L : List Spr} (hL : L.length ≤ 1000000000) (hl : ∀ s, s ∈ L → s.2.2.length ≤ 1000000000) : SpecV Tryz.prog n_ref_Forms [.sl (L.map sprAV)] (.int .i64 (formsE L)) := by
  obtain ⟨ls, hls⟩ : ∃ ls, ls = L.map sprAV := ⟨_, rfl⟩
  have hlsl : ls.length = L.length := by rw [hls, List.length_map]
  rw [← hls]
  refine specV_W ok_ref_Forms (by simp) ?_
  unfold cref_Forms
  simp only [go_sem, cref_Forms_r1, cref_Forms_r2]
  refine T_rounds (fun i : Nat => ⟨envL [(0, .sl ls), (3, .int .i64 (i : Int))], []⟩) (fun i => i ≤ L.length ∧ ((L.take i).all fun s => (parseL s.2.2).isSome) = true) (fun i => L.length - i) 0 ⟨by simp, by simp⟩ (Le_keep _ (by simp only [go_sem]; simp)) (fun i hI N hN => ?_)
  obtain ⟨h1, h2⟩ := hI
  unfold cref_Forms_L1
  by_cases hi : i < L.length
  · obtain ⟨⟨a, b, l⟩, he⟩ : ∃ s : Spr, L[i]? = some s := ⟨_, List.getElem?_eq_getElem hi⟩
    have hll := hl _ (List.mem_of_getElem? he)
    simp only at hll
    have hlsi : ls[i]? = some (.agg [.int .i64 a, .int .i64 b, .str (bs l)]) := by
      rw [hls, List.getElem?_map, he]; rfl
    have q0 : (0 : Int) ≤ (i : Int) := by omega
    have q1 : (i : Int) < (L.length : Int) := by omega
    have e1 : IntKind.i64.wrap ((i : Int) + 1) = ((i + 1 : Nat) : Int) := by rw [i64_id (by omega) (by omega)]; omega
    have tk : ((L.take (i + 1)).all fun s => (parseL s.2.2).isSome) = (((L.take i).all fun s => (parseL s.2.2).isSome) && (parseL l).isSome) := by
      rw [List.take_add_one, he]; simp [List.all_append]
    simp only [go_sem, cref_Forms_r3, cref_Forms_r4, hlsl, q0, q1, hlsi]
    refine call_P (rvalid hll) (by simp only [go_sem]) ?_
    cases hp : (parseL l).isSome with
    | true =>
      simp only [go_sem, Bool.not_true, cref_Forms_r6, e1]
      exact hN (i + 1) _ ⟨by omega, by rw [tk, h2, hp]; rfl⟩ (by omega) (Le_keep _ (by simp only [go_sem]))
    | false =>
      have hf : formsE L = 2 := by
        unfold formsE
        rw [if_neg]
        intro hall
        have := List.all_eq_true.1 hall _ (List.mem_of_getElem? he)
        simp only at this
        rw [hp] at this; cases this
      rw [hf]
      simp only [go_sem, Bool.not_false, cref_Forms_r5]
  · have hie : i = L.length := by omega
    subst hie
    have q1 : ¬ ((L.length : Nat) : Int) < (L.length : Int) := by omega
    rw [List.take_length] at h2
    have hf : formsE L = 0 := by unfold formsE; rw [if_pos h2]
    rw [hf]
    simp only [go_sem, cref_Forms_r3, cref_Forms_r7, hlsl, q1]
end GoAbs
namespace GoAbs
open Go Go.Proofs
def stepS (k : Nat) (c : UInt8) : Nat := if c = 47 then 0 else if c = 45 then k else k + 1
def shortL (n : Nat) : Nat → List UInt8 → Bool
  | _, [] => true
  | k, c :: r => if n < stepS k c then false else shortL n (stepS k c) r
theorem shortL_cons {n k : Nat} {c : UInt8} {r : List UInt8} : shortL n k (c :: r) = if n < stepS k c then false else shortL n (stepS k c) r := rfl
theorem rshort {l : List UInt8} {n : Nat} (hlen : l.length ≤ 1000000000) (hn : n ≤ 1000000000) : SpecV Tryz.prog n_ref_Short [.str (bs l), .int .i64 (n : Int)] (.bool (shortL n 0 l)) := by
  refine specV_W ok_ref_Short (by simp) ?_
  unfold cref_Short
  simp only [go_sem, cref_Short_r1, cref_Short_r2, cref_Short_r3]
  refine T_rounds (fun z : Nat × Nat => ⟨envL [(0, .str (bs l)), (1, .int .i64 (n : Int)), (5, .int .i64 (z.2 : Int)), (6, .int .i64 (z.1 : Int))], []⟩) (fun z => z.1 ≤ l.length ∧ z.2 ≤ z.1 ∧ shortL n z.2 (l.drop z.1) = shortL n 0 l) (fun z => l.length - z.1) (0, 0) ⟨by simp, by simp, by simp⟩ (Le_keep _ (by simp only [go_sem]; simp)) (fun z hI N hN => ?_)
  obtain ⟨i, k⟩ := z
  obtain ⟨h1, h2, h3⟩ := hI
  simp only at h1 h2 h3 ⊢
  unfold cref_Short_L1
  by_cases hi : i < l.length
  · obtain ⟨c, gi⟩ : ∃ c, l[i]? = some c := ⟨_, List.getElem?_eq_getElem hi⟩
    have hdr : l.drop i = c :: l.drop (i + 1) := by
      rw [List.drop_eq_getElem_cons hi]
      congr 1
      have := List.getElem?_eq_getElem hi
      rw [gi] at this
      exact (Option.some.inj this).symm
    have q0 : (0 : Int) ≤ (i : Int) := by omega
    have q1 : (i : Int) < (l.length : Int) := by omega
    have e1 : IntKind.i64.wrap ((i : Int) + 1) = ((i + 1 : Nat) : Int) := by rw [i64_id (by omega) (by omega)]; omega
    have e2 : IntKind.i64.wrap ((k : Int) + 1) = ((k + 1 : Nat) : Int) := by rw [i64_id (by omega) (by omega)]; omega
    rw [hdr, shortL_cons] at h3
    by_cases hc : c = 47
    · have hci : (c.toNat : Int) = 47 := by rw [hc]; rfl
      have hst : stepS k c = 0 := by unfold stepS; rw [if_pos hc]
      have q2 : ¬ (n : Int) < 0 := by omega
      rw [hst, if_neg (by omega)] at h3
      simp only [go_sem, cref_Short_r4, cref_Short_r5, cref_Short_r6, cref_Short_r9, cref_Short_r11, bs_get, bs_size, gi, q0, q1, q2, hci, e1]
      exact hN (i + 1, 0) _ ⟨hi, by simp, h3⟩ (by show l.length - (i + 1) < l.length - i; omega) (Le_keep _ (by simp only [go_sem]; simp))
    · have hci : ¬ (c.toNat : Int) = 47 := fun h => hc (UInt8.toNat_inj.1 (by have : (47 : UInt8).toNat = 47 := rfl; omega))
      by_cases hc5 : c = 45
      · have hci5 : (c.toNat : Int) = 45 := by rw [hc5]; rfl
        have hst : stepS k c = k := by unfold stepS; rw [if_neg hc, if_pos hc5]
        rw [hst] at h3
        by_cases hk : n < k
        · have q2 : (n : Int) < (k : Int) := by omega
          rw [if_pos hk] at h3
          rw [← h3]
          simp only [go_sem, cref_Short_r4, cref_Short_r5, cref_Short_r7, cref_Short_r9, cref_Short_r10, bs_get, bs_size, gi, q0, q1, q2, hci, hci5]
        · have q2 : ¬ (n : Int) < (k : Int) := by omega
          rw [if_neg hk] at h3
          simp only [go_sem, cref_Short_r4, cref_Short_r5, cref_Short_r7, cref_Short_r9, cref_Short_r11, bs_get, bs_size, gi, q0, q1, q2, hci, hci5, e1]
          exact hN (i + 1, k) _ ⟨hi, by simp only; omega, h3⟩ (by show l.length - (i + 1) < l.length - i; omega) (Le_keep _ (by simp only [go_sem]))
      · have hci5 : ¬ (c.toNat : Int) = 45 := fun h => hc5 (UInt8.toNat_inj.1 (by have : (45 : UInt8).toNat = 45 := rfl; omega))
        have hst : stepS k c = k + 1 := by unfold stepS; rw [if_neg hc, if_neg hc5]
        rw [hst] at h3
        by_cases hk : n < k + 1
        · have q2 : (n : Int) < ((k + 1 : Nat) : Int) := by omega
          rw [if_pos hk] at h3
          rw [← h3]
          simp only [go_sem, cref_Short_r4, cref_Short_r5, cref_Short_r7, cref_Short_r8, cref_Short_r9, cref_Short_r10, bs_get, bs_size, gi, q0, q1, q2, hci, hci5, e2]
        · have q2 : ¬ (n : Int) < ((k + 1 : Nat) : Int) := by omega
          rw [if_neg hk] at h3
          simp only [go_sem, cref_Short_r4, cref_Short_r5, cref_Short_r7, cref_Short_r8, cref_Short_r9, cref_Short_r11, bs_get, bs_size, gi, q0, q1, q2, hci, hci5, e1, e2]
          exact hN (i + 1, k + 1) _ ⟨hi, by simp only; omega, h3⟩ (by show l.length - (i + 1) < l.length - i; omega) (Le_keep _ (by simp only [go_sem]))
  · have hie : i = l.length := by omega
    subst hie
    have q1 : ¬ ((l.length : Nat) : Int) < (l.length : Int) := by omega
    rw [List.drop_length] at h3
    rw [← h3]
    simp only [go_sem, cref_Short_r4, cref_Short_r12, bs_size, q1]
    rfl
end GoAbs
namespace GoAbs
open Go Go.Proofs
def numsE (L : List (List UInt8)) : Int := if (L.all fun s => (parseL s).isSome) then 0 else 2
def strAV (s : List UInt8) : AV := .str (bs s)
theorem rnums {L : List (List UInt8)} (hL : L.length ≤ 1000000000) (hl : ∀ s, s ∈ L → s.length ≤ 1000000000) : SpecV Tryz.prog n_ref_Nums [.sl (L.map strAV)] (.int .i64 (numsE L)) := by
  obtain ⟨ls, hls⟩ : ∃ ls, ls = L.map strAV := ⟨_, rfl⟩
  have hlsl : ls.length = L.length := by rw [hls, List.length_map]
  rw [← hls]
  refine specV_W ok_ref_Nums (by simp) ?_
  unfold cref_Nums
  simp only [go_sem, cref_Nums_r1, cref_Nums_r2]
  refine T_rounds (fun i : Nat => ⟨envL [(0, .sl ls), (3, .int .i64 (i : Int))], []⟩) (fun i => i ≤ L.length ∧ ((L.take i).all fun s => (parseL s).isSome) = true) (fun i => L.length - i) 0 ⟨by simp, by simp⟩ (Le_keep _ (by simp only [go_sem]; simp)) (fun i hI N hN => ?_)
  obtain ⟨h1, h2⟩ := hI
  unfold cref_Nums_L1
  by_cases hi : i < L.length
  · obtain ⟨l, he⟩ : ∃ s, L[i]? = some s := ⟨_, List.getElem?_eq_getElem hi⟩
    have hll := hl _ (List.mem_of_getElem? he)
    have hlsi : ls[i]? = some (.str (bs l)) := by
      rw [hls, List.getElem?_map, he]; rfl
    have q0 : (0 : Int) ≤ (i : Int) := by omega
    have q1 : (i : Int) < (L.length : Int) := by omega
    have e1 : IntKind.i64.wrap ((i : Int) + 1) = ((i + 1 : Nat) : Int) := by rw [i64_id (by omega) (by omega)]; omega
    have tk : ((L.take (i + 1)).all fun s => (parseL s).isSome) = (((L.take i).all fun s => (parseL s).isSome) && (parseL l).isSome) := by
      rw [List.take_add_one, he]; simp [List.all_append]
    simp only [go_sem, cref_Nums_r3, cref_Nums_r4, hlsl, q0, q1, hlsi]
    refine call_P (rvalid hll) (by simp only [go_sem]) ?_
    cases hp : (parseL l).isSome with
    | true =>
      simp only [go_sem, Bool.not_true, cref_Nums_r6, e1]
      exact hN (i + 1) _ ⟨by omega, by rw [tk, h2, hp]; rfl⟩ (by omega) (Le_keep _ (by simp only [go_sem]))
    | false =>
      have hf : numsE L = 2 := by
        unfold numsE
        rw [if_neg]
        intro hall
        have := List.all_eq_true.1 hall _ (List.mem_of_getElem? he)
        rw [hp] at this; cases this
      rw [hf]
      simp only [go_sem, Bool.not_false, cref_Nums_r5]
  · have hie : i = L.length := by omega
    subst hie
    have q1 : ¬ ((L.length : Nat) : Int) < (L.length : Int) := by omega
    rw [List.take_length] at h2
    have hf : numsE L = 0 := by unfold numsE; rw [if_pos h2]
    rw [hf]
    simp only [go_sem, cref_Nums_r3, cref_Nums_r7, hlsl, q1]
theorem shortL_digs {n : Nat} : ∀ {l r : List UInt8} {k : Nat}, AllD l → k ≤ n → shortL n k (l ++ r) = (decide (k + l.length ≤ n) && shortL n (k + l.length) r)
  | [], r, k, _, hk => by simp [hk]
  | c :: l, r, k, hd, hk => by
    have hc := hd c (by simp)
    unfold isDig at hc
    have h1 : c ≠ 47 := fun e => by rw [e] at hc; have : (47 : UInt8).toNat = 47 := rfl; omega
    have h2 : c ≠ 45 := fun e => by rw [e] at hc; have : (45 : UInt8).toNat = 45 := rfl; omega
    have hst : stepS k c = k + 1 := by unfold stepS; rw [if_neg h1, if_neg h2]
    rw [List.cons_append, shortL_cons, hst]
    by_cases hn : n < k + 1
    · rw [if_pos hn]
      have : decide (k + (c :: l).length ≤ n) = false := by simp; omega
      rw [this]; rfl
    · rw [if_neg hn, shortL_digs (fun x hx => hd x (by simp [hx])) (by omega), List.length_cons]
      have e : k + 1 + l.length = k + (l.length + 1) := by omega
      rw [e]
end GoAbs
