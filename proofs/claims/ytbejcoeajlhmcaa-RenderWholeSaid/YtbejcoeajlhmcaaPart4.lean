/- Walks and plain facts for the laws of this seat: what each function answers, for every input. -/
import Derived.Test.YtbejcoeajlhmcaaPart3
import Derived.Test.YtbejcoeajlhmcaaProg
import Derived.DeepKeys5
set_option linter.unusedVariables false
set_option linter.unusedSimpArgs false
set_option linter.unusedSectionVars false

namespace Go.Proofs
open Go.SL
set_option maxRecDepth 100000
def Try.pc8 : PC :=
 (.seq (.ops [⟨some 2, none, .mov (.v (.bool false))⟩])
 (.seq (.seq (.ops [⟨some 14, none, .mov (.t 0)⟩, ⟨some 15, none, .call 30 [(.t 14)]⟩, ⟨some 16, none, .not (.t 15)⟩])
 (.cond (.t 16) (.seq (.ops [⟨some 17, none, .call 31 []⟩, ⟨some 2, none, .mov (.t 17)⟩])
 .ret) .skip))
 (.seq (.ops [⟨some 19, none, .mov (.t 0)⟩, ⟨some 20, none, .call 32 [(.t 19)]⟩, ⟨some 18, none, .mov (.t 20)⟩, ⟨some 21, none, .ext 0 (.t 18)⟩, ⟨some 22, none, .ext 1 (.t 18)⟩, ⟨some 3, none, .mov (.t 21)⟩, ⟨some 4, none, .mov (.t 22)⟩])
 (.seq (.ops [⟨some 23, none, .mov (.t 3)⟩, ⟨some 24, none, .call 17 [(.t 23)]⟩, ⟨some 5, none, .mov (.t 24)⟩])
 (.seq (.ops [⟨some 6, none, .mov (.v (.slice none 0 0))⟩])
 (.seq (.seq (.ops [⟨some 7, none, .mov (.v (.int .i64 0))⟩])
 (.block 0 (.loop (.seq (.seq (.ops [⟨some 25, none, .mov (.t 7)⟩, ⟨some 26, none, .mov (.t 5)⟩, ⟨some 27, none, .lenS (.t 26)⟩, ⟨some 28, none, .bin .lss (.t 25) (.t 27)⟩])
 (.cond (.t 28) .skip (.exit 0)))
 (.seq (.block 1 (.seq (.ops [⟨some 31, none, .mov (.t 5)⟩, ⟨some 32, none, .mov (.t 7)⟩, ⟨some 33, none, .ixS 35 (.t 31) (.t 32)⟩, ⟨some 34, none, .fa 34 (.t 33)⟩, ⟨some 35, none, .ld (.t 34)⟩])
 (.cond (.t 35) (.ops [⟨some 36, none, .mov (.t 6)⟩, ⟨some 37, none, .mov (.t 5)⟩, ⟨some 38, none, .mov (.t 7)⟩, ⟨some 39, none, .ixS 35 (.t 37) (.t 38)⟩, ⟨some 40, none, .ldA 35 (.t 39)⟩, ⟨some 41, none, .bsl 43 [zz, zz, zz, zz, zz, zz, zz, zz, zz, zz, zz, zz, zz, zz, zz, zz, zz, zz, zz, zz, zz, zz, zz, zz, zz, zz, zz, zz, zz, zz, zz, zz, .int .i64 0, .string ⟨#[]⟩, .bool false] 1 [(0, 35, (.t 40))]⟩, ⟨some 42, none, .app 39 43 35 64 (.agg #[zz, zz, zz, zz, zz, zz, zz, zz, zz, zz, zz, zz, zz, zz, zz, zz, zz, zz, zz, zz, zz, zz, zz, zz, zz, zz, zz, zz, zz, zz, zz, zz, .int .i64 0, .string ⟨#[]⟩, .bool false]) (.t 36) (.t 41)⟩, ⟨some 6, none, .mov (.t 42)⟩]) .skip)))
 (.ops [⟨some 29, none, .mov (.t 7)⟩, ⟨some 30, none, .bin .add (.t 29) (.v (.int .i64 1))⟩, ⟨some 7, none, .mov (.t 30)⟩]))))))
 (.seq (.ops [⟨some 43, none, .mov (.t 3)⟩, ⟨some 44, none, .call 33 [(.t 43)]⟩, ⟨some 8, none, .mov (.t 44)⟩])
 (.seq (.ops [⟨some 9, none, .mov (.v (.int .i64 0))⟩])
 (.seq (.ops [⟨some 10, none, .mov (.v (.bool false))⟩])
 (.seq (.seq (.ops [⟨some 11, none, .mov (.v (.int .i64 0))⟩])
 (.block 2 (.loop (.seq (.seq (.ops [⟨some 45, none, .mov (.t 11)⟩, ⟨some 46, none, .mov (.t 8)⟩, ⟨some 47, none, .lenS (.t 46)⟩, ⟨some 48, none, .bin .lss (.t 45) (.t 47)⟩])
 (.cond (.t 48) .skip (.exit 2)))
 (.seq (.block 3 (.seq (.ops [⟨some 51, none, .mov (.t 8)⟩, ⟨some 52, none, .mov (.t 11)⟩, ⟨some 53, none, .ixS 3 (.t 51) (.t 52)⟩, ⟨some 54, none, .ldA 3 (.t 53)⟩, ⟨some 12, none, .al 73 [.slice none 0 0, .bool false, .slice none 0 0]⟩, ⟨none, none, .st 3 (.t 12) (.t 54)⟩])
 (.seq (.seq (.ops [⟨some 55, none, .fa 1 (.t 12)⟩, ⟨some 56, none, .ld (.t 55)⟩, ⟨some 57, none, .mov (.t 56)⟩, ⟨some 58, (some (57, true)), .mov (.t 10)⟩, ⟨some 59, (some (57, true)), .mov (.t 58)⟩, ⟨some 60, (some (59, false)), .fa 0 (.t 12)⟩, ⟨some 61, (some (59, false)), .ld (.t 60)⟩, ⟨some 62, (some (59, false)), .lenS (.t 61)⟩, ⟨some 63, (some (59, false)), .bin .lss (.t 62) (.v (.int .i64 2))⟩, ⟨some 64, (some (57, true)), .pick (.t 59) (.v (.bool true)) (.t 63)⟩, ⟨some 65, none, .pick (.t 57) (.t 64) (.v (.bool false))⟩, ⟨some 66, none, .mov (.t 65)⟩, ⟨some 67, (some (66, false)), .fa 1 (.t 12)⟩, ⟨some 68, (some (66, false)), .ld (.t 67)⟩, ⟨some 69, (some (66, false)), .not (.t 68)⟩, ⟨some 70, (some (66, false)), .mov (.t 69)⟩, ⟨some 71, (some (70, true)), .fa 0 (.t 12)⟩, ⟨some 72, (some (70, true)), .ld (.t 71)⟩, ⟨some 73, (some (70, true)), .lenS (.t 72)⟩, ⟨some 74, (some (70, true)), .bin .neq (.t 73) (.v (.int .i64 1))⟩, ⟨some 75, (some (66, false)), .pick (.t 70) (.t 74) (.v (.bool false))⟩, ⟨some 76, none, .pick (.t 66) (.v (.bool true)) (.t 75)⟩])
 (.cond (.t 76) (.seq (.ops [⟨some 2, none, .mov (.v (.bool false))⟩])
 .ret) .skip))
 (.seq (.ops [⟨some 77, none, .fa 1 (.t 12)⟩, ⟨some 78, none, .ld (.t 77)⟩, ⟨some 10, none, .mov (.t 78)⟩])
 (.seq (.ops [⟨some 13, none, .mov (.v (.int .i64 0))⟩])
 (.block 4 (.loop (.seq (.seq (.ops [⟨some 79, none, .mov (.t 13)⟩, ⟨some 80, none, .fa 0 (.t 12)⟩, ⟨some 81, none, .ld (.t 80)⟩, ⟨some 82, none, .lenS (.t 81)⟩, ⟨some 83, none, .bin .lss (.t 79) (.t 82)⟩])
 (.cond (.t 83) .skip (.exit 4)))
 (.seq (.block 5 (.seq (.seq (.quiet 23 [⟨some 86, none, .mov (.t 9)⟩, ⟨some 87, none, .mov (.t 6)⟩, ⟨some 88, none, .lenS (.t 87)⟩, ⟨some 89, none, .bin .geq (.t 86) (.t 88)⟩, ⟨some 90, none, .mov (.t 89)⟩, ⟨some 91, (some (90, false)), .fa 0 (.t 12)⟩, ⟨some 92, (some (90, false)), .ld (.t 91)⟩, ⟨some 93, (some (90, false)), .mov (.t 13)⟩, ⟨some 94, (some (90, false)), .ixS 35 (.t 92) (.t 93)⟩, ⟨some 95, (some (90, false)), .ldA 35 (.t 94)⟩, ⟨some 96, (some (90, false)), .mov (.t 6)⟩, ⟨some 97, (some (90, false)), .mov (.t 9)⟩, ⟨some 98, (some (90, false)), .ixS 35 (.t 96) (.t 97)⟩, ⟨some 99, (some (90, false)), .ldA 35 (.t 98)⟩, ⟨some 100, (some (90, false)), .more (.eqD true 43 [yy, yy, yy, yy, yy, yy, yy, yy, yy, yy, yy, yy, yy, yy, yy, yy, yy, yy, yy, yy, yy, yy, yy, yy, yy, yy, yy, yy, yy, yy, yy, yy, .int .i64, .str, .bool] (.t 95) (.t 99))⟩, ⟨some 101, none, .pick (.t 90) (.v (.bool true)) (.t 100)⟩, ⟨some 102, none, .mov (.t 101)⟩, ⟨some 103, (some (102, false)), .mov (.t 3)⟩, ⟨some 104, (some (102, false)), .mov (.t 6)⟩, ⟨some 105, (some (102, false)), .mov (.t 9)⟩, ⟨some 106, (some (102, false)), .call 40 [(.t 103), (.t 104), (.t 105)]⟩, ⟨some 107, (some (102, false)), .fa 1 (.t 12)⟩, ⟨some 108, (some (102, false)), .ld (.t 107)⟩, ⟨some 109, (some (102, false)), .binB .eql (.t 106) (.t 108)⟩, ⟨some 110, none, .pick (.t 102) (.v (.bool true)) (.t 109)⟩])
 (.cond (.t 110) (.seq (.ops [⟨some 2, none, .mov (.v (.bool false))⟩])
 .ret) .skip))
 (.ops [⟨some 111, none, .mov (.t 9)⟩, ⟨some 112, none, .bin .add (.t 111) (.v (.int .i64 1))⟩, ⟨some 9, none, .mov (.t 112)⟩])))
 (.ops [⟨some 84, none, .mov (.t 13)⟩, ⟨some 85, none, .bin .add (.t 84) (.v (.int .i64 1))⟩, ⟨some 13, none, .mov (.t 85)⟩]))))))))))
 (.ops [⟨some 49, none, .mov (.t 11)⟩, ⟨some 50, none, .bin .add (.t 49) (.v (.int .i64 1))⟩, ⟨some 11, none, .mov (.t 50)⟩]))))))
 (.seq (.ops [⟨some 113, none, .mov (.t 9)⟩, ⟨some 114, none, .mov (.t 6)⟩, ⟨some 115, none, .lenS (.t 114)⟩, ⟨some 116, none, .bin .eql (.t 113) (.t 115)⟩, ⟨some 117, none, .mov (.t 116)⟩, ⟨some 118, (some (117, true)), .call 31 []⟩, ⟨some 119, none, .pick (.t 117) (.t 118) (.v (.bool false))⟩, ⟨some 2, none, .mov (.t 119)⟩])
 .ret)))))))))))
theorem Try.known8 : Known Try.prog 8 Try.pc8 120 [2] := ⟨Try.f8, _, Try.func8, rfl, by kernel_rfl, rfl, rfl⟩
def Try.pc30 : PC :=
 (.seq (.ops [⟨some 2, none, .mov (.v (.bool false))⟩])
 (.seq (.seq (.ops [⟨some 3, none, .mov (.v (.int .i64 0))⟩])
 (.block 0 (.loop (.seq (.seq (.ops [⟨some 4, none, .mov (.t 3)⟩, ⟨some 5, none, .mov (.t 0)⟩, ⟨some 6, none, .lenS (.t 5)⟩, ⟨some 7, none, .bin .lss (.t 4) (.t 6)⟩, ⟨some 8, none, .mov (.t 7)⟩, ⟨some 9, (some (8, true)), .mov (.t 3)⟩, ⟨some 10, (some (8, true)), .bin .lss (.t 9) (.v (.int .i64 15))⟩, ⟨some 11, none, .pick (.t 8) (.t 10) (.v (.bool false))⟩])
 (.cond (.t 11) .skip (.exit 0)))
 (.seq (.block 1 (.seq (.ops [⟨some 14, none, .mov (.t 0)⟩, ⟨some 15, none, .mov (.t 3)⟩, ⟨some 16, none, .ixS 102 (.t 14) (.t 15)⟩, ⟨some 17, none, .fa 100 (.t 16)⟩, ⟨some 18, none, .ld (.t 17)⟩, ⟨some 19, none, .lenS (.t 18)⟩, ⟨some 20, none, .bin .gtr (.t 19) (.v (.int .i64 8))⟩, ⟨some 21, none, .mov (.t 20)⟩, ⟨some 22, (some (21, false)), .mov (.t 0)⟩, ⟨some 23, (some (21, false)), .mov (.t 3)⟩, ⟨some 24, (some (21, false)), .ixS 102 (.t 22) (.t 23)⟩, ⟨some 25, (some (21, false)), .fa 101 (.t 24)⟩, ⟨some 26, (some (21, false)), .ld (.t 25)⟩, ⟨some 27, (some (21, false)), .lenS (.t 26)⟩, ⟨some 28, (some (21, false)), .bin .gtr (.t 27) (.v (.int .i64 8))⟩, ⟨some 29, none, .pick (.t 21) (.v (.bool true)) (.t 28)⟩, ⟨some 30, none, .mov (.t 29)⟩, ⟨some 31, (some (30, false)), .mov (.t 0)⟩, ⟨some 32, (some (30, false)), .mov (.t 3)⟩, ⟨some 33, (some (30, false)), .ixS 102 (.t 31) (.t 32)⟩, ⟨some 34, (some (30, false)), .fa 33 (.t 33)⟩, ⟨some 35, (some (30, false)), .ld (.t 34)⟩, ⟨some 36, (some (30, false)), .bin .gtr (.t 35) (.v (.int .i64 1000))⟩, ⟨some 37, none, .pick (.t 30) (.v (.bool true)) (.t 36)⟩])
 (.cond (.t 37) (.seq (.ops [⟨some 2, none, .mov (.v (.bool false))⟩])
 .ret) .skip)))
 (.ops [⟨some 12, none, .mov (.t 3)⟩, ⟨some 13, none, .bin .add (.t 12) (.v (.int .i64 1))⟩, ⟨some 3, none, .mov (.t 13)⟩]))))))
 (.seq (.ops [⟨some 38, none, .mov (.t 0)⟩, ⟨some 39, none, .lenS (.t 38)⟩, ⟨some 40, none, .bin .leq (.t 39) (.v (.int .i64 14))⟩, ⟨some 2, none, .mov (.t 40)⟩])
 .ret)))
theorem Try.known30 : Known Try.prog 30 Try.pc30 41 [2] := ⟨Try.f30, _, Try.func30, rfl, by kernel_rfl, rfl, rfl⟩
def Try.pc31 : PC :=
 (.seq (.ops [⟨some 0, none, .mov (.v (.bool false))⟩])
 (.seq (.ops [⟨some 8, none, .call 41 []⟩, ⟨some 7, none, .mov (.t 8)⟩, ⟨some 9, none, .ext 0 (.t 7)⟩, ⟨some 10, none, .ext 1 (.t 7)⟩, ⟨some 11, none, .ext 2 (.t 7)⟩, ⟨some 2, none, .al 32 [zz, zz, zz, zz, zz, zz, zz, zz, zz, zz, zz, zz, zz, zz, zz, zz, zz, zz, zz, zz, zz, zz, zz, zz, zz, zz, zz, zz, zz, zz, zz, zz, .int .i64 0]⟩, ⟨some 3, none, .al 32 [zz, zz, zz, zz, zz, zz, zz, zz, zz, zz, zz, zz, zz, zz, zz, zz, zz, zz, zz, zz, zz, zz, zz, zz, zz, zz, zz, zz, zz, zz, zz, zz, .int .i64 0]⟩, ⟨some 1, none, .mov (.t 9)⟩, ⟨none, none, .st 33 (.t 2) (.t 10)⟩, ⟨none, none, .st 33 (.t 3) (.t 11)⟩])
 (.seq (.ops [⟨some 12, none, .mov (.t 1)⟩, ⟨some 13, none, .ldA 33 (.t 2)⟩, ⟨some 14, none, .ldA 33 (.t 3)⟩, ⟨some 15, none, .bsl 9 [.string ⟨#[]⟩] 1 [(0, 1, (.v (.string ⟨#[120]⟩)))]⟩, ⟨some 16, none, .call 42 [(.v (.int .u8 2)), (.t 13), (.t 14), (.t 15)]⟩, ⟨some 17, none, .call 16 [(.t 12), (.t 16)]⟩, ⟨some 4, none, .mov (.t 17)⟩])
 (.seq (.ops [⟨some 18, none, .mov (.t 1)⟩, ⟨some 19, none, .ldA 33 (.t 2)⟩, ⟨some 20, none, .ldA 33 (.t 3)⟩, ⟨some 21, none, .bsl 9 [.string ⟨#[]⟩] 1 [(0, 1, (.v (.string ⟨#[121]⟩)))]⟩, ⟨some 22, none, .call 42 [(.v (.int .u8 3)), (.t 19), (.t 20), (.t 21)]⟩, ⟨some 23, none, .call 16 [(.t 18), (.t 22)]⟩, ⟨some 5, none, .mov (.t 23)⟩])
 (.seq (.ops [⟨some 24, none, .mov (.t 1)⟩, ⟨some 25, none, .call 33 [(.t 24)]⟩, ⟨some 6, none, .mov (.t 25)⟩])
 (.seq (.ops [⟨some 26, none, .mov (.t 4)⟩, ⟨some 27, none, .bin .eql (.t 26) (.v (.int .i64 0))⟩, ⟨some 28, none, .mov (.t 27)⟩, ⟨some 29, (some (28, true)), .mov (.t 5)⟩, ⟨some 30, (some (28, true)), .bin .eql (.t 29) (.v (.int .i64 0))⟩, ⟨some 31, none, .pick (.t 28) (.t 30) (.v (.bool false))⟩, ⟨some 32, none, .mov (.t 31)⟩, ⟨some 33, (some (32, true)), .mov (.t 6)⟩, ⟨some 34, (some (32, true)), .lenS (.t 33)⟩, ⟨some 35, (some (32, true)), .bin .eql (.t 34) (.v (.int .i64 3))⟩, ⟨some 36, none, .pick (.t 32) (.t 35) (.v (.bool false))⟩, ⟨some 37, none, .mov (.t 36)⟩, ⟨some 38, (some (37, true)), .mov (.t 6)⟩, ⟨some 39, (some (37, true)), .ixS 3 (.t 38) (.v (.int .i64 1))⟩, ⟨some 40, (some (37, true)), .fa 1 (.t 39)⟩, ⟨some 41, (some (37, true)), .ld (.t 40)⟩, ⟨some 42, none, .pick (.t 37) (.t 41) (.v (.bool false))⟩, ⟨some 43, none, .mov (.t 42)⟩, ⟨some 44, (some (43, true)), .mov (.t 6)⟩, ⟨some 45, (some (43, true)), .call 39 [(.t 44)]⟩, ⟨some 46, none, .pick (.t 43) (.t 45) (.v (.bool false))⟩, ⟨some 47, none, .mov (.t 46)⟩, ⟨some 48, (some (47, true)), .mov (.t 6)⟩, ⟨some 49, (some (47, true)), .call 36 [(.t 48)]⟩, ⟨some 50, (some (47, true)), .bsl 9 [.string ⟨#[]⟩, .string ⟨#[]⟩, .string ⟨#[]⟩, .string ⟨#[]⟩, .string ⟨#[]⟩, .string ⟨#[]⟩, .string ⟨#[]⟩] 7 [(0, 1, (.v (.string ⟨#[97]⟩))), (1, 1, (.v (.string ⟨#[62, 62, 62, 62, 62, 62, 62]⟩))), (2, 1, (.v (.string ⟨#[120]⟩))), (3, 1, (.v (.string ⟨#[61, 61, 61, 61, 61, 61, 61]⟩))), (4, 1, (.v (.string ⟨#[121]⟩))), (5, 1, (.v (.string ⟨#[60, 60, 60, 60, 60, 60, 60]⟩))), (6, 1, (.v (.string ⟨#[98]⟩)))]⟩, ⟨some 51, (some (47, true)), .call 35 [(.t 49), (.t 50)]⟩, ⟨some 52, none, .pick (.t 47) (.t 51) (.v (.bool false))⟩, ⟨some 0, none, .mov (.t 52)⟩])
 .ret))))))
theorem Try.known31 : Known Try.prog 31 Try.pc31 53 [0] := ⟨Try.f31, _, Try.func31, rfl, by kernel_rfl, rfl, rfl⟩
def Try.pc32 : PC :=
 (.seq (.ops [⟨some 2, none, .mov (.v (.pointer none))⟩, ⟨some 3, none, .mov (.v (.slice none 0 0))⟩])
 (.seq (.ops [⟨some 8, none, .call 14 []⟩, ⟨some 4, none, .mov (.t 8)⟩])
 (.seq (.ops [⟨some 5, none, .mov (.v (.slice none 0 0))⟩])
 (.seq (.seq (.ops [⟨some 6, none, .mov (.v (.int .i64 0))⟩])
 (.block 0 (.loop (.seq (.seq (.ops [⟨some 9, none, .mov (.t 6)⟩, ⟨some 10, none, .mov (.t 0)⟩, ⟨some 11, none, .lenS (.t 10)⟩, ⟨some 12, none, .bin .lss (.t 9) (.t 11)⟩])
 (.cond (.t 12) .skip (.exit 0)))
 (.seq (.block 1 (.seq (.ops [⟨some 15, none, .mov (.t 0)⟩, ⟨some 16, none, .mov (.t 6)⟩, ⟨some 17, none, .ixS 102 (.t 15) (.t 16)⟩, ⟨some 18, none, .ldA 102 (.t 17)⟩, ⟨some 7, none, .al 36 [zz, zz, zz, zz, zz, zz, zz, zz, zz, zz, zz, zz, zz, zz, zz, zz, zz, zz, zz, zz, zz, zz, zz, zz, zz, zz, zz, zz, zz, zz, zz, zz, .int .i64 0, .int .i64 0, zz, zz, zz, zz, zz, zz, zz, zz, zz, zz, zz, zz, zz, zz, zz, zz, zz, zz, zz, zz, zz, zz, zz, zz, zz, zz, zz, zz, zz, zz, zz, zz, .int .i64 0, zz, zz, zz, zz, zz, zz, zz, zz, zz, zz, zz, zz, zz, zz, zz, zz, zz, zz, zz, zz, zz, zz, zz, zz, zz, zz, zz, zz, zz, zz, zz, zz, .int .i64 0, .slice none 0 0, .slice none 0 0]⟩, ⟨none, none, .st 102 (.t 7) (.t 18)⟩])
 (.seq (.seq (.ops [⟨some 19, none, .mov (.t 4)⟩, ⟨some 20, none, .ldA 102 (.t 7)⟩, ⟨some 21, none, .call 16 [(.t 19), (.t 20)]⟩, ⟨some 22, none, .bin .neq (.t 21) (.v (.int .i64 0))⟩])
 (.cond (.t 22) (.exit 1) .skip))
 (.ops [⟨some 24, none, .mov (.t 5)⟩, ⟨some 25, none, .fa 0 (.t 7)⟩, ⟨some 26, none, .ldA 32 (.t 25)⟩, ⟨some 27, none, .fa 32 (.t 7)⟩, ⟨some 28, none, .ld (.t 27)⟩, ⟨some 29, none, .fa 33 (.t 7)⟩, ⟨some 30, none, .ld (.t 29)⟩, ⟨some 31, none, .fa 34 (.t 7)⟩, ⟨some 32, none, .ldA 33 (.t 31)⟩, ⟨some 33, none, .fa 67 (.t 7)⟩, ⟨some 34, none, .ldA 33 (.t 33)⟩, ⟨some 35, none, .fa 100 (.t 7)⟩, ⟨some 36, none, .ld (.t 35)⟩, ⟨some 37, none, .fa 101 (.t 7)⟩, ⟨some 38, none, .ld (.t 37)⟩, ⟨some 39, none, .build [zz, zz, zz, zz, zz, zz, zz, zz, zz, zz, zz, zz, zz, zz, zz, zz, zz, zz, zz, zz, zz, zz, zz, zz, zz, zz, zz, zz, zz, zz, zz, zz, .int .i64 0, .int .i64 0, zz, zz, zz, zz, zz, zz, zz, zz, zz, zz, zz, zz, zz, zz, zz, zz, zz, zz, zz, zz, zz, zz, zz, zz, zz, zz, zz, zz, zz, zz, zz, zz, .int .i64 0, zz, zz, zz, zz, zz, zz, zz, zz, zz, zz, zz, zz, zz, zz, zz, zz, zz, zz, zz, zz, zz, zz, zz, zz, zz, zz, zz, zz, zz, zz, zz, zz, .int .i64 0, .slice none 0 0, .slice none 0 0] [(0, 32, (.t 26)), (32, 1, (.t 28)), (33, 1, (.t 30)), (34, 33, (.t 32)), (67, 33, (.t 34)), (100, 1, (.t 36)), (101, 1, (.t 38))]⟩, ⟨some 40, none, .call 68 [(.t 24), (.t 39)]⟩, ⟨some 23, none, .mov (.t 40)⟩, ⟨some 41, none, .ext 0 (.t 23)⟩, ⟨some 42, none, .ext 1 (.t 23)⟩, ⟨some 5, none, .mov (.t 41)⟩]))))
 (.ops [⟨some 13, none, .mov (.t 6)⟩, ⟨some 14, none, .bin .add (.t 13) (.v (.int .i64 1))⟩, ⟨some 6, none, .mov (.t 14)⟩]))))))
 (.seq (.ops [⟨some 43, none, .mov (.t 4)⟩, ⟨some 44, none, .mov (.t 5)⟩, ⟨some 2, none, .mov (.t 43)⟩, ⟨some 3, none, .mov (.t 44)⟩])
 .ret)))))
theorem Try.known32 : Known Try.prog 32 Try.pc32 45 [2, 3] := ⟨Try.f32, _, Try.func32, rfl, by kernel_rfl, rfl, rfl⟩
def Try.pc33 : PC :=
 (.seq (.ops [⟨some 2, none, .mov (.v (.slice none 0 0))⟩])
 (.scope (.seq (.ops [⟨some 10, none, .mov (.t 0)⟩, ⟨some 11, none, .call 17 [(.t 10)]⟩, ⟨some 12, none, .call 69 [(.t 11), (.v (.func (.func 70) #[] #[]))]⟩, ⟨some 3, none, .mov (.t 12)⟩])
 (.seq (.ops [⟨some 4, none, .mov (.v (.slice none 0 0))⟩])
 (.seq (.ops [⟨some 5, none, .mov (.v (.slice none 0 0))⟩])
 (.seq .label
 (.seq (.seq (.ops [⟨some 13, none, .mov (.t 3)⟩, ⟨some 14, none, .lenS (.t 13)⟩, ⟨some 15, none, .mov (.v (.int .i64 0))⟩])
 (.block 0 (.loop (.seq (.ops [⟨some 16, none, .bin .lss (.t 15) (.t 14)⟩])
 (.seq (.cond (.t 16) .skip (.exit 0))
 (.seq (.block 1 (.seq (.ops [⟨some 17, none, .ixS 35 (.t 13) (.t 15)⟩, ⟨some 18, none, .ldA 35 (.t 17)⟩, ⟨some 7, none, .al 43 [zz, zz, zz, zz, zz, zz, zz, zz, zz, zz, zz, zz, zz, zz, zz, zz, zz, zz, zz, zz, zz, zz, zz, zz, zz, zz, zz, zz, zz, zz, zz, zz, .int .i64 0, .string ⟨#[]⟩, .bool false]⟩, ⟨none, none, .st 35 (.t 7) (.t 18)⟩])
 (.seq (.seq (.ops [⟨some 19, none, .mov (.t 3)⟩, ⟨some 20, none, .lenS (.t 19)⟩, ⟨some 21, none, .mov (.v (.int .i64 0))⟩])
 (.block 2 (.loop (.seq (.ops [⟨some 22, none, .bin .lss (.t 21) (.t 20)⟩])
 (.seq (.cond (.t 22) .skip (.exit 2))
 (.seq (.block 3 (.seq (.ops [⟨some 23, none, .ixS 35 (.t 19) (.t 21)⟩, ⟨some 24, none, .ldA 35 (.t 23)⟩, ⟨some 9, none, .al 43 [zz, zz, zz, zz, zz, zz, zz, zz, zz, zz, zz, zz, zz, zz, zz, zz, zz, zz, zz, zz, zz, zz, zz, zz, zz, zz, zz, zz, zz, zz, zz, zz, .int .i64 0, .string ⟨#[]⟩, .bool false]⟩, ⟨none, none, .st 35 (.t 9) (.t 24)⟩])
 (.seq (.ops [⟨some 25, none, .fa 0 (.t 7)⟩, ⟨some 26, none, .ldA 33 (.t 25)⟩, ⟨some 27, none, .fa 0 (.t 9)⟩, ⟨some 28, none, .ldA 33 (.t 27)⟩, ⟨some 29, none, .more (.eqD true 32 [yy, yy, yy, yy, yy, yy, yy, yy, yy, yy, yy, yy, yy, yy, yy, yy, yy, yy, yy, yy, yy, yy, yy, yy, yy, yy, yy, yy, yy, yy, yy, yy, .int .i64] (.t 26) (.t 28))⟩, ⟨some 30, none, .mov (.t 29)⟩, ⟨some 31, (some (30, true)), .mov (.t 0)⟩, ⟨some 32, (some (30, true)), .ldA 35 (.t 7)⟩, ⟨some 33, (some (30, true)), .ldA 35 (.t 9)⟩, ⟨some 34, (some (30, true)), .call 71 [(.t 31), (.t 32), (.t 33)]⟩, ⟨some 35, (some (30, true)), .not (.t 34)⟩, ⟨some 36, none, .pick (.t 30) (.t 35) (.v (.bool false))⟩])
 (.cond (.t 36) (.seq (.ops [⟨some 37, none, .mov (.t 5)⟩, ⟨some 38, none, .ldA 35 (.t 7)⟩, ⟨some 39, none, .bsl 43 [zz, zz, zz, zz, zz, zz, zz, zz, zz, zz, zz, zz, zz, zz, zz, zz, zz, zz, zz, zz, zz, zz, zz, zz, zz, zz, zz, zz, zz, zz, zz, zz, .int .i64 0, .string ⟨#[]⟩, .bool false] 1 [(0, 35, (.t 38))]⟩, ⟨some 40, none, .app 39 43 35 64 (.agg #[zz, zz, zz, zz, zz, zz, zz, zz, zz, zz, zz, zz, zz, zz, zz, zz, zz, zz, zz, zz, zz, zz, zz, zz, zz, zz, zz, zz, zz, zz, zz, zz, .int .i64 0, .string ⟨#[]⟩, .bool false]) (.t 37) (.t 39)⟩, ⟨some 5, none, .mov (.t 40)⟩])
 (.exit 1)) .skip))))
 (.ops [⟨some 41, none, .bin .add (.t 21) (.v (.int .i64 1))⟩, ⟨some 21, none, .mov (.t 41)⟩])))))))
 (.seq (.seq (.ops [⟨some 42, none, .mov (.t 5)⟩, ⟨some 43, none, .lenS (.t 42)⟩, ⟨some 44, none, .bin .gtr (.t 43) (.v (.int .i64 0))⟩])
 (.cond (.t 44) (.seq (.ops [⟨some 45, none, .mov (.t 4)⟩, ⟨some 46, none, .mov (.t 0)⟩, ⟨some 47, none, .mov (.t 5)⟩, ⟨some 48, none, .call 72 [(.t 46), (.t 47)]⟩, ⟨some 49, none, .bsl 73 [.slice none 0 0, .bool false, .slice none 0 0] 1 [(0, 3, (.t 48))]⟩, ⟨some 50, none, .app 64 73 3 56 (.agg #[.slice none 0 0, .bool false, .slice none 0 0]) (.t 45) (.t 49)⟩, ⟨some 4, none, .mov (.t 50)⟩])
 (.ops [⟨some 5, none, .mov (.v (.slice none 0 0))⟩])) .skip))
 (.ops [⟨some 51, none, .mov (.t 4)⟩, ⟨some 52, none, .ldA 35 (.t 7)⟩, ⟨some 53, none, .bsl 43 [zz, zz, zz, zz, zz, zz, zz, zz, zz, zz, zz, zz, zz, zz, zz, zz, zz, zz, zz, zz, zz, zz, zz, zz, zz, zz, zz, zz, zz, zz, zz, zz, .int .i64 0, .string ⟨#[]⟩, .bool false] 1 [(0, 35, (.t 52))]⟩, ⟨some 54, none, .build [.slice none 0 0, .bool false, .slice none 0 0] [(0, 1, (.t 53))]⟩, ⟨some 55, none, .bsl 73 [.slice none 0 0, .bool false, .slice none 0 0] 1 [(0, 3, (.t 54))]⟩, ⟨some 56, none, .app 64 73 3 56 (.agg #[.slice none 0 0, .bool false, .slice none 0 0]) (.t 51) (.t 55)⟩, ⟨some 4, none, .mov (.t 56)⟩])))))
 (.ops [⟨some 57, none, .bin .add (.t 15) (.v (.int .i64 1))⟩, ⟨some 15, none, .mov (.t 57)⟩])))))))
 (.seq (.seq (.ops [⟨some 58, none, .mov (.t 5)⟩, ⟨some 59, none, .lenS (.t 58)⟩, ⟨some 60, none, .bin .gtr (.t 59) (.v (.int .i64 0))⟩])
 (.cond (.t 60) (.ops [⟨some 61, none, .mov (.t 4)⟩, ⟨some 62, none, .mov (.t 0)⟩, ⟨some 63, none, .mov (.t 5)⟩, ⟨some 64, none, .call 72 [(.t 62), (.t 63)]⟩, ⟨some 65, none, .bsl 73 [.slice none 0 0, .bool false, .slice none 0 0] 1 [(0, 3, (.t 64))]⟩, ⟨some 66, none, .app 64 73 3 56 (.agg #[.slice none 0 0, .bool false, .slice none 0 0]) (.t 61) (.t 65)⟩, ⟨some 4, none, .mov (.t 66)⟩]) .skip))
 (.seq (.ops [⟨some 67, none, .mov (.t 4)⟩, ⟨some 2, none, .mov (.t 67)⟩])
 .ret)))))))))
theorem Try.known33 : Known Try.prog 33 Try.pc33 68 [2] := ⟨Try.f33, _, Try.func33, rfl, by kernel_rfl, rfl, rfl⟩
def Try.pc35 : PC :=
 (.seq (.ops [⟨some 4, none, .mov (.v (.bool false))⟩])
 (.seq (.seq (.ops [⟨some 6, none, .mov (.t 0)⟩, ⟨some 7, none, .lenS (.t 6)⟩, ⟨some 8, none, .mov (.t 1)⟩, ⟨some 9, none, .lenS (.t 8)⟩, ⟨some 10, none, .bin .neq (.t 7) (.t 9)⟩])
 (.cond (.t 10) (.seq (.ops [⟨some 4, none, .mov (.v (.bool false))⟩])
 .ret) .skip))
 (.seq (.seq (.ops [⟨some 5, none, .mov (.v (.int .i64 0))⟩])
 (.block 0 (.loop (.seq (.seq (.ops [⟨some 11, none, .mov (.t 5)⟩, ⟨some 12, none, .mov (.t 0)⟩, ⟨some 13, none, .lenS (.t 12)⟩, ⟨some 14, none, .bin .lss (.t 11) (.t 13)⟩])
 (.cond (.t 14) .skip (.exit 0)))
 (.seq (.block 1 (.seq (.quiet 8 [⟨some 17, none, .mov (.t 0)⟩, ⟨some 18, none, .mov (.t 5)⟩, ⟨some 19, none, .ixS 1 (.t 17) (.t 18)⟩, ⟨some 20, none, .ld (.t 19)⟩, ⟨some 21, none, .mov (.t 1)⟩, ⟨some 22, none, .mov (.t 5)⟩, ⟨some 23, none, .ixS 1 (.t 21) (.t 22)⟩, ⟨some 24, none, .ld (.t 23)⟩, ⟨some 25, none, .bin .neq (.t 20) (.t 24)⟩])
 (.cond (.t 25) (.seq (.ops [⟨some 4, none, .mov (.v (.bool false))⟩])
 .ret) .skip)))
 (.ops [⟨some 15, none, .mov (.t 5)⟩, ⟨some 16, none, .bin .add (.t 15) (.v (.int .i64 1))⟩, ⟨some 5, none, .mov (.t 16)⟩]))))))
 (.seq (.ops [⟨some 4, none, .mov (.v (.bool true))⟩])
 .ret))))
theorem Try.known35 : Known Try.prog 35 Try.pc35 26 [4] := ⟨Try.f35, _, Try.func35, rfl, by kernel_rfl, rfl, rfl⟩
def Try.pc36 : PC :=
 (.seq (.ops [⟨some 2, none, .mov (.v (.slice none 0 0))⟩])
 (.seq (.ops [⟨some 3, none, .mov (.v (.slice none 0 0))⟩])
 (.seq (.seq (.ops [⟨some 8, none, .mov (.t 0)⟩, ⟨some 9, none, .lenS (.t 8)⟩, ⟨some 10, none, .mov (.v (.int .i64 0))⟩])
 (.block 0 (.loop (.seq (.ops [⟨some 11, none, .bin .lss (.t 10) (.t 9)⟩])
 (.seq (.cond (.t 11) .skip (.exit 0))
 (.seq (.block 1 (.seq (.ops [⟨some 12, none, .ixS 3 (.t 8) (.t 10)⟩, ⟨some 13, none, .ldA 3 (.t 12)⟩, ⟨some 5, none, .al 73 [.slice none 0 0, .bool false, .slice none 0 0]⟩, ⟨none, none, .st 3 (.t 5) (.t 13)⟩])
 (.seq (.seq (.ops [⟨some 14, none, .fa 1 (.t 5)⟩, ⟨some 15, none, .ld (.t 14)⟩])
 (.cond (.t 15) (.ops [⟨some 16, none, .mov (.t 3)⟩, ⟨some 17, none, .bsl 9 [.string ⟨#[]⟩] 1 [(0, 1, (.v (.string ⟨#[62, 62, 62, 62, 62, 62, 62]⟩)))]⟩, ⟨some 18, none, .app 33 9 1 16 (.string ⟨#[]⟩) (.t 16) (.t 17)⟩, ⟨some 3, none, .mov (.t 18)⟩]) .skip))
 (.seq (.seq (.ops [⟨some 19, none, .fa 0 (.t 5)⟩, ⟨some 20, none, .ld (.t 19)⟩, ⟨some 21, none, .lenS (.t 20)⟩, ⟨some 22, none, .mov (.v (.int .i64 0))⟩])
 (.block 2 (.loop (.seq (.ops [⟨some 23, none, .bin .lss (.t 22) (.t 21)⟩])
 (.seq (.cond (.t 23) .skip (.exit 2))
 (.seq (.block 3 (.seq (.ops [⟨some 24, none, .mov (.t 22)⟩, ⟨some 25, none, .ixS 35 (.t 20) (.t 22)⟩, ⟨some 26, none, .ldA 35 (.t 25)⟩, ⟨some 7, none, .al 43 [zz, zz, zz, zz, zz, zz, zz, zz, zz, zz, zz, zz, zz, zz, zz, zz, zz, zz, zz, zz, zz, zz, zz, zz, zz, zz, zz, zz, zz, zz, zz, zz, .int .i64 0, .string ⟨#[]⟩, .bool false]⟩, ⟨some 6, none, .mov (.t 24)⟩, ⟨none, none, .st 35 (.t 7) (.t 26)⟩])
 (.seq (.seq (.ops [⟨some 27, none, .fa 1 (.t 5)⟩, ⟨some 28, none, .ld (.t 27)⟩, ⟨some 29, none, .mov (.t 28)⟩, ⟨some 30, (some (29, true)), .fa 2 (.t 5)⟩, ⟨some 31, (some (29, true)), .ld (.t 30)⟩, ⟨some 32, (some (29, true)), .mov (.t 6)⟩, ⟨some 33, (some (29, true)), .call 76 [(.t 31), (.t 32)]⟩, ⟨some 34, none, .pick (.t 29) (.t 33) (.v (.bool false))⟩])
 (.cond (.t 34) (.ops [⟨some 35, none, .mov (.t 3)⟩, ⟨some 36, none, .bsl 9 [.string ⟨#[]⟩] 1 [(0, 1, (.v (.string ⟨#[61, 61, 61, 61, 61, 61, 61]⟩)))]⟩, ⟨some 37, none, .app 33 9 1 16 (.string ⟨#[]⟩) (.t 35) (.t 36)⟩, ⟨some 3, none, .mov (.t 37)⟩]) .skip))
 (.ops [⟨some 38, none, .mov (.t 3)⟩, ⟨some 39, none, .fa 33 (.t 7)⟩, ⟨some 40, none, .ld (.t 39)⟩, ⟨some 41, none, .bsl 9 [.string ⟨#[]⟩] 1 [(0, 1, (.t 40))]⟩, ⟨some 42, none, .app 33 9 1 16 (.string ⟨#[]⟩) (.t 38) (.t 41)⟩, ⟨some 3, none, .mov (.t 42)⟩]))))
 (.ops [⟨some 43, none, .bin .add (.t 22) (.v (.int .i64 1))⟩, ⟨some 22, none, .mov (.t 43)⟩])))))))
 (.seq (.ops [⟨some 44, none, .fa 1 (.t 5)⟩, ⟨some 45, none, .ld (.t 44)⟩])
 (.cond (.t 45) (.ops [⟨some 46, none, .mov (.t 3)⟩, ⟨some 47, none, .bsl 9 [.string ⟨#[]⟩] 1 [(0, 1, (.v (.string ⟨#[60, 60, 60, 60, 60, 60, 60]⟩)))]⟩, ⟨some 48, none, .app 33 9 1 16 (.string ⟨#[]⟩) (.t 46) (.t 47)⟩, ⟨some 3, none, .mov (.t 48)⟩]) .skip))))))
 (.ops [⟨some 49, none, .bin .add (.t 10) (.v (.int .i64 1))⟩, ⟨some 10, none, .mov (.t 49)⟩])))))))
 (.seq (.ops [⟨some 50, none, .mov (.t 3)⟩, ⟨some 2, none, .mov (.t 50)⟩])
 .ret))))
theorem Try.known36 : Known Try.prog 36 Try.pc36 51 [2] := ⟨Try.f36, _, Try.func36, rfl, by kernel_rfl, rfl, rfl⟩
def Try.pc39 : PC :=
 (.seq (.ops [⟨some 2, none, .mov (.v (.bool false))⟩])
 (.seq (.ops [⟨some 3, none, .mov (.t 0)⟩, ⟨some 4, none, .call 78 [(.t 3), (.v (.func (.func 79) #[] #[]))]⟩, ⟨some 2, none, .mov (.t 4)⟩])
 .ret))
theorem Try.known39 : Known Try.prog 39 Try.pc39 5 [2] := ⟨Try.f39, _, Try.func39, rfl, by kernel_rfl, rfl, rfl⟩
def Try.pc40 : PC :=
 (.seq (.ops [⟨some 6, none, .mov (.v (.bool false))⟩])
 (.seq (.seq (.ops [⟨some 7, none, .mov (.v (.int .i64 0))⟩])
 (.block 0 (.loop (.seq (.seq (.ops [⟨some 8, none, .mov (.t 7)⟩, ⟨some 9, none, .mov (.t 1)⟩, ⟨some 10, none, .lenS (.t 9)⟩, ⟨some 11, none, .bin .lss (.t 8) (.t 10)⟩])
 (.cond (.t 11) .skip (.exit 0)))
 (.seq (.block 1 (.seq (.quiet2 15 30 [⟨some 14, none, .mov (.t 7)⟩, ⟨some 15, none, .mov (.t 2)⟩, ⟨some 16, none, .bin .neq (.t 14) (.t 15)⟩, ⟨some 17, none, .mov (.t 16)⟩, ⟨some 18, (some (17, true)), .mov (.t 0)⟩, ⟨some 19, (some (17, true)), .mov (.t 1)⟩, ⟨some 20, (some (17, true)), .mov (.t 2)⟩, ⟨some 21, (some (17, true)), .ixS 35 (.t 19) (.t 20)⟩, ⟨some 22, (some (17, true)), .fa 0 (.t 21)⟩, ⟨some 23, (some (17, true)), .ldA 33 (.t 22)⟩, ⟨some 24, (some (17, true)), .mov (.t 1)⟩, ⟨some 25, (some (17, true)), .mov (.t 7)⟩, ⟨some 26, (some (17, true)), .ixS 35 (.t 24) (.t 25)⟩, ⟨some 27, (some (17, true)), .fa 0 (.t 26)⟩, ⟨some 28, (some (17, true)), .ldA 33 (.t 27)⟩, ⟨some 29, (some (17, true)), .call 18 [(.t 18), (.t 23), (.t 28)]⟩, ⟨some 30, (some (17, true)), .not (.t 29)⟩, ⟨some 31, none, .pick (.t 17) (.t 30) (.v (.bool false))⟩, ⟨some 32, none, .mov (.t 31)⟩, ⟨some 33, (some (32, true)), .mov (.t 0)⟩, ⟨some 34, (some (32, true)), .mov (.t 1)⟩, ⟨some 35, (some (32, true)), .mov (.t 7)⟩, ⟨some 36, (some (32, true)), .ixS 35 (.t 34) (.t 35)⟩, ⟨some 37, (some (32, true)), .fa 0 (.t 36)⟩, ⟨some 38, (some (32, true)), .ldA 33 (.t 37)⟩, ⟨some 39, (some (32, true)), .mov (.t 1)⟩, ⟨some 40, (some (32, true)), .mov (.t 2)⟩, ⟨some 41, (some (32, true)), .ixS 35 (.t 39) (.t 40)⟩, ⟨some 42, (some (32, true)), .fa 0 (.t 41)⟩, ⟨some 43, (some (32, true)), .ldA 33 (.t 42)⟩, ⟨some 44, (some (32, true)), .call 18 [(.t 33), (.t 38), (.t 43)]⟩, ⟨some 45, (some (32, true)), .not (.t 44)⟩, ⟨some 46, none, .pick (.t 32) (.t 45) (.v (.bool false))⟩])
 (.cond (.t 46) (.seq (.ops [⟨some 6, none, .mov (.v (.bool false))⟩])
 .ret) .skip)))
 (.ops [⟨some 12, none, .mov (.t 7)⟩, ⟨some 13, none, .bin .add (.t 12) (.v (.int .i64 1))⟩, ⟨some 7, none, .mov (.t 13)⟩]))))))
 (.seq (.ops [⟨some 6, none, .mov (.v (.bool true))⟩])
 .ret)))
theorem Try.known40 : Known Try.prog 40 Try.pc40 47 [6] := ⟨Try.f40, _, Try.func40, rfl, by kernel_rfl, rfl, rfl⟩
def Try.pc41 : PC :=
 (.seq (.ops [⟨some 0, none, .mov (.v (.pointer none))⟩, ⟨some 1, none, .al 32 [zz, zz, zz, zz, zz, zz, zz, zz, zz, zz, zz, zz, zz, zz, zz, zz, zz, zz, zz, zz, zz, zz, zz, zz, zz, zz, zz, zz, zz, zz, zz, zz, .int .i64 0]⟩, ⟨some 2, none, .al 32 [zz, zz, zz, zz, zz, zz, zz, zz, zz, zz, zz, zz, zz, zz, zz, zz, zz, zz, zz, zz, zz, zz, zz, zz, zz, zz, zz, zz, zz, zz, zz, zz, .int .i64 0]⟩])
 (.seq (.ops [⟨some 4, none, .call 14 []⟩, ⟨some 3, none, .mov (.t 4)⟩])
 (.seq (.ops [⟨some 5, none, .mov (.t 3)⟩, ⟨some 6, none, .build [zz, zz, zz, zz, zz, zz, zz, zz, zz, zz, zz, zz, zz, zz, zz, zz, zz, zz, zz, zz, zz, zz, zz, zz, zz, zz, zz, zz, zz, zz, zz, zz, .int .i64 0] [(32, 1, (.v (.int .i64 (-1))))]⟩, ⟨some 7, none, .build [zz, zz, zz, zz, zz, zz, zz, zz, zz, zz, zz, zz, zz, zz, zz, zz, zz, zz, zz, zz, zz, zz, zz, zz, zz, zz, zz, zz, zz, zz, zz, zz, .int .i64 0] [(32, 1, (.v (.int .i64 (-2))))]⟩, ⟨some 8, none, .bsl 9 [.string ⟨#[]⟩, .string ⟨#[]⟩] 2 [(0, 1, (.v (.string ⟨#[97]⟩))), (1, 1, (.v (.string ⟨#[98]⟩)))]⟩, ⟨some 9, none, .call 42 [(.v (.int .u8 1)), (.t 6), (.t 7), (.t 8)]⟩, ⟨some 10, none, .call 16 [(.t 5), (.t 9)]⟩])
 (.seq (.ops [⟨some 11, none, .mov (.t 3)⟩, ⟨some 12, none, .more (.bldA [zz, zz, zz, zz, zz, zz, zz, zz, zz, zz, zz, zz, zz, zz, zz, zz, zz, zz, zz, zz, zz, zz, zz, zz, zz, zz, zz, zz, zz, zz, zz, .int .u8 0] [(0, 1, (.v (.int .u8 1)))])⟩, ⟨some 13, none, .build [zz, zz, zz, zz, zz, zz, zz, zz, zz, zz, zz, zz, zz, zz, zz, zz, zz, zz, zz, zz, zz, zz, zz, zz, zz, zz, zz, zz, zz, zz, zz, zz, .int .i64 0] [(0, 32, (.t 12))]⟩, ⟨some 14, none, .more (.bldA [zz, zz, zz, zz, zz, zz, zz, zz, zz, zz, zz, zz, zz, zz, zz, zz, zz, zz, zz, zz, zz, zz, zz, zz, zz, zz, zz, zz, zz, zz, zz, .int .u8 0] [(0, 1, (.v (.int .u8 1)))])⟩, ⟨some 15, none, .build [zz, zz, zz, zz, zz, zz, zz, zz, zz, zz, zz, zz, zz, zz, zz, zz, zz, zz, zz, zz, zz, zz, zz, zz, zz, zz, zz, zz, zz, zz, zz, zz, .int .i64 0] [(0, 32, (.t 14)), (32, 1, (.v (.int .i64 1)))]⟩, ⟨some 0, none, .mov (.t 11)⟩, ⟨none, none, .st 33 (.t 1) (.t 13)⟩, ⟨none, none, .st 33 (.t 2) (.t 15)⟩])
 .ret))))
theorem Try.known41 : KnownTCC Try.prog 41 Try.pc41 16 0 1 2 (some 33) (some 33) := ⟨Try.f41, _, _, _, Try.func41, rfl, by kernel_rfl, rfl, rfl, by kernel_rfl, by kernel_rfl⟩
def Try.pc42 : PC :=
 (.seq (.ops [⟨some 5, none, .bx 32 (.t 1)⟩, ⟨some 6, none, .bx 32 (.t 2)⟩, ⟨some 8, none, .al 36 [zz, zz, zz, zz, zz, zz, zz, zz, zz, zz, zz, zz, zz, zz, zz, zz, zz, zz, zz, zz, zz, zz, zz, zz, zz, zz, zz, zz, zz, zz, zz, zz, .int .i64 0, .int .i64 0, zz, zz, zz, zz, zz, zz, zz, zz, zz, zz, zz, zz, zz, zz, zz, zz, zz, zz, zz, zz, zz, zz, zz, zz, zz, zz, zz, zz, zz, zz, zz, zz, .int .i64 0, zz, zz, zz, zz, zz, zz, zz, zz, zz, zz, zz, zz, zz, zz, zz, zz, zz, zz, zz, zz, zz, zz, zz, zz, zz, zz, zz, zz, zz, zz, zz, zz, .int .i64 0, .slice none 0 0, .slice none 0 0]⟩])
 (.seq (.ops [⟨some 9, none, .mov (.t 0)⟩, ⟨some 10, none, .more (.bldA [zz, zz, zz, zz, zz, zz, zz, zz, zz, zz, zz, zz, zz, zz, zz, zz, zz, zz, zz, zz, zz, zz, zz, zz, zz, zz, zz, zz, zz, zz, zz, .int .u8 0] [(0, 1, (.t 9))])⟩, ⟨some 11, none, .ldA 33 (.t 5)⟩, ⟨some 12, none, .ldA 33 (.t 6)⟩, ⟨some 13, none, .mov (.t 3)⟩, ⟨some 14, none, .build [zz, zz, zz, zz, zz, zz, zz, zz, zz, zz, zz, zz, zz, zz, zz, zz, zz, zz, zz, zz, zz, zz, zz, zz, zz, zz, zz, zz, zz, zz, zz, zz, .int .i64 0, .int .i64 0, zz, zz, zz, zz, zz, zz, zz, zz, zz, zz, zz, zz, zz, zz, zz, zz, zz, zz, zz, zz, zz, zz, zz, zz, zz, zz, zz, zz, zz, zz, zz, zz, .int .i64 0, zz, zz, zz, zz, zz, zz, zz, zz, zz, zz, zz, zz, zz, zz, zz, zz, zz, zz, zz, zz, zz, zz, zz, zz, zz, zz, zz, zz, zz, zz, zz, zz, .int .i64 0, .slice none 0 0, .slice none 0 0] [(0, 32, (.t 10)), (34, 33, (.t 11)), (67, 33, (.t 12)), (100, 1, (.t 13))]⟩, ⟨none, none, .st 102 (.t 8) (.t 14)⟩])
 .ret))
theorem Try.known42 : KnownC Try.prog 42 Try.pc42 15 8 (some 102) := ⟨Try.f42, _, _, Try.func42, rfl, by kernel_rfl, rfl, rfl, by kernel_rfl⟩
def Try.pc68 : PC :=
 (.seq (.ops [⟨some 3, none, .bx 123 (.t 1)⟩, ⟨some 4, none, .mov (.v (.slice none 0 0))⟩, ⟨some 5, none, .mov (.v (.int .i64 0))⟩])
 (.seq (.ops [⟨some 13, none, .mov (.t 0)⟩, ⟨some 14, none, .call 90 [(.t 13)]⟩, ⟨some 6, none, .mov (.t 14)⟩])
 (.seq (.ops [⟨some 15, none, .ldA 102 (.t 3)⟩, ⟨some 16, none, .call 91 [(.t 15)]⟩, ⟨some 7, none, .mov (.t 16)⟩])
 (.seq (.seq (.ops [⟨some 8, none, .mov (.v (.int .i64 0))⟩])
 (.block 0 (.loop (.seq (.seq (.ops [⟨some 17, none, .mov (.t 8)⟩, ⟨some 18, none, .mov (.t 0)⟩, ⟨some 19, none, .lenS (.t 18)⟩, ⟨some 20, none, .bin .lss (.t 17) (.t 19)⟩])
 (.cond (.t 20) .skip (.exit 0)))
 (.seq (.block 1 (.seq (.quiet 16 [⟨some 23, none, .mov (.t 0)⟩, ⟨some 24, none, .mov (.t 8)⟩, ⟨some 25, none, .ixS 102 (.t 23) (.t 24)⟩, ⟨some 26, none, .fa 0 (.t 25)⟩, ⟨some 27, none, .ldA 32 (.t 26)⟩, ⟨some 28, none, .fa 0 (.t 3)⟩, ⟨some 29, none, .ldA 32 (.t 28)⟩, ⟨some 30, none, .more (.eqD false 30 [yy, yy, yy, yy, yy, yy, yy, yy, yy, yy, yy, yy, yy, yy, yy, yy, yy, yy, yy, yy, yy, yy, yy, yy, yy, yy, yy, yy, yy, yy, yy, .int .u8] (.t 27) (.t 29))⟩, ⟨some 31, none, .mov (.t 30)⟩, ⟨some 32, (some (31, true)), .mov (.t 0)⟩, ⟨some 33, (some (31, true)), .mov (.t 8)⟩, ⟨some 34, (some (31, true)), .ixS 102 (.t 32) (.t 33)⟩, ⟨some 35, (some (31, true)), .fa 32 (.t 34)⟩, ⟨some 36, (some (31, true)), .ld (.t 35)⟩, ⟨some 37, (some (31, true)), .fa 32 (.t 3)⟩, ⟨some 38, (some (31, true)), .ld (.t 37)⟩, ⟨some 39, (some (31, true)), .bin .eql (.t 36) (.t 38)⟩, ⟨some 40, none, .pick (.t 31) (.t 39) (.v (.bool false))⟩])
 (.cond (.t 40) (.seq (.ops [⟨some 41, none, .mov (.t 0)⟩, ⟨some 4, none, .mov (.t 41)⟩, ⟨some 5, none, .mov (.v (.int .i64 6))⟩])
 .ret) .skip)))
 (.ops [⟨some 21, none, .mov (.t 8)⟩, ⟨some 22, none, .bin .add (.t 21) (.v (.int .i64 1))⟩, ⟨some 8, none, .mov (.t 22)⟩]))))))
 (.seq (.seq (.ops [⟨some 9, none, .mov (.v (.int .i64 0))⟩])
 (.block 2 (.loop (.seq (.seq (.ops [⟨some 42, none, .mov (.t 9)⟩, ⟨some 43, none, .mov (.t 7)⟩, ⟨some 44, none, .lenS (.t 43)⟩, ⟨some 45, none, .bin .lss (.t 42) (.t 44)⟩])
 (.cond (.t 45) .skip (.exit 2)))
 (.seq (.block 3 (.seq (.ops [⟨some 48, none, .mov (.t 6)⟩, ⟨some 49, none, .mov (.t 7)⟩, ⟨some 50, none, .mov (.t 9)⟩, ⟨some 51, none, .ixS 33 (.t 49) (.t 50)⟩, ⟨some 52, none, .ldA 33 (.t 51)⟩, ⟨some 53, none, .call 92 [(.t 48), (.t 52)]⟩])
 (.cond (.t 53) (.seq (.ops [⟨some 54, none, .mov (.t 0)⟩, ⟨some 4, none, .mov (.t 54)⟩, ⟨some 5, none, .mov (.v (.int .i64 6))⟩])
 .ret) .skip)))
 (.ops [⟨some 46, none, .mov (.t 9)⟩, ⟨some 47, none, .bin .add (.t 46) (.v (.int .i64 1))⟩, ⟨some 9, none, .mov (.t 47)⟩]))))))
 (.seq (.seq (.quiet2 6 13 [⟨some 55, none, .fa 33 (.t 3)⟩, ⟨some 56, none, .ld (.t 55)⟩, ⟨some 57, none, .bin .lss (.t 56) (.v (.int .i64 0))⟩, ⟨some 58, none, .mov (.t 57)⟩, ⟨some 59, (some (58, false)), .fa 34 (.t 3)⟩, ⟨some 60, (some (58, false)), .ldA 33 (.t 59)⟩, ⟨some 61, (some (58, false)), .call 93 []⟩, ⟨some 62, (some (58, false)), .more (.eqD false 32 [yy, yy, yy, yy, yy, yy, yy, yy, yy, yy, yy, yy, yy, yy, yy, yy, yy, yy, yy, yy, yy, yy, yy, yy, yy, yy, yy, yy, yy, yy, yy, yy, .int .i64] (.t 60) (.t 61))⟩, ⟨some 63, none, .pick (.t 58) (.v (.bool true)) (.t 62)⟩, ⟨some 64, none, .mov (.t 63)⟩, ⟨some 65, (some (64, false)), .fa 67 (.t 3)⟩, ⟨some 66, (some (64, false)), .ldA 33 (.t 65)⟩, ⟨some 67, (some (64, false)), .call 94 []⟩, ⟨some 68, (some (64, false)), .more (.eqD false 32 [yy, yy, yy, yy, yy, yy, yy, yy, yy, yy, yy, yy, yy, yy, yy, yy, yy, yy, yy, yy, yy, yy, yy, yy, yy, yy, yy, yy, yy, yy, yy, yy, .int .i64] (.t 66) (.t 67))⟩, ⟨some 69, none, .pick (.t 64) (.v (.bool true)) (.t 68)⟩])
 (.cond (.t 69) (.seq (.ops [⟨some 70, none, .mov (.t 0)⟩, ⟨some 4, none, .mov (.t 70)⟩, ⟨some 5, none, .mov (.v (.int .i64 4))⟩])
 .ret) .skip))
 (.seq (.seq (.ops [⟨some 10, none, .mov (.v (.int .i64 0))⟩])
 (.block 4 (.loop (.seq (.seq (.ops [⟨some 71, none, .mov (.t 10)⟩, ⟨some 72, none, .fa 101 (.t 3)⟩, ⟨some 73, none, .ld (.t 72)⟩, ⟨some 74, none, .lenS (.t 73)⟩, ⟨some 75, none, .bin .lss (.t 71) (.t 74)⟩])
 (.cond (.t 75) .skip (.exit 4)))
 (.seq (.block 5 (.seq (.quiet2 5 26 [⟨some 78, none, .fa 101 (.t 3)⟩, ⟨some 79, none, .ld (.t 78)⟩, ⟨some 80, none, .mov (.t 10)⟩, ⟨some 81, none, .ixS 33 (.t 79) (.t 80)⟩, ⟨some 82, none, .ldA 33 (.t 81)⟩, ⟨some 83, none, .call 94 []⟩, ⟨some 84, none, .more (.eqD false 32 [yy, yy, yy, yy, yy, yy, yy, yy, yy, yy, yy, yy, yy, yy, yy, yy, yy, yy, yy, yy, yy, yy, yy, yy, yy, yy, yy, yy, yy, yy, yy, yy, .int .i64] (.t 82) (.t 83))⟩, ⟨some 85, none, .mov (.t 84)⟩, ⟨some 86, (some (85, false)), .fa 101 (.t 3)⟩, ⟨some 87, (some (85, false)), .ld (.t 86)⟩, ⟨some 88, (some (85, false)), .mov (.t 10)⟩, ⟨some 89, (some (85, false)), .ixS 33 (.t 87) (.t 88)⟩, ⟨some 90, (some (85, false)), .ldA 33 (.t 89)⟩, ⟨some 91, (some (85, false)), .call 93 []⟩, ⟨some 92, (some (85, false)), .more (.eqD false 32 [yy, yy, yy, yy, yy, yy, yy, yy, yy, yy, yy, yy, yy, yy, yy, yy, yy, yy, yy, yy, yy, yy, yy, yy, yy, yy, yy, yy, yy, yy, yy, yy, .int .i64] (.t 90) (.t 91))⟩, ⟨some 93, none, .pick (.t 85) (.v (.bool true)) (.t 92)⟩, ⟨some 94, none, .mov (.t 93)⟩, ⟨some 95, (some (94, false)), .fa 101 (.t 3)⟩, ⟨some 96, (some (94, false)), .ld (.t 95)⟩, ⟨some 97, (some (94, false)), .mov (.t 10)⟩, ⟨some 98, (some (94, false)), .slS 33 (.t 96) none (some (.t 97))⟩, ⟨some 99, (some (94, false)), .fa 101 (.t 3)⟩, ⟨some 100, (some (94, false)), .ld (.t 99)⟩, ⟨some 101, (some (94, false)), .mov (.t 10)⟩, ⟨some 102, (some (94, false)), .ixS 33 (.t 100) (.t 101)⟩, ⟨some 103, (some (94, false)), .ldA 33 (.t 102)⟩, ⟨some 104, (some (94, false)), .call 92 [(.t 98), (.t 103)]⟩, ⟨some 105, none, .pick (.t 94) (.v (.bool true)) (.t 104)⟩])
 (.cond (.t 105) (.seq (.ops [⟨some 106, none, .mov (.t 0)⟩, ⟨some 4, none, .mov (.t 106)⟩, ⟨some 5, none, .mov (.v (.int .i64 4))⟩])
 .ret) .skip)))
 (.ops [⟨some 76, none, .mov (.t 10)⟩, ⟨some 77, none, .bin .add (.t 76) (.v (.int .i64 1))⟩, ⟨some 10, none, .mov (.t 77)⟩]))))))
 (.seq (.seq (.quiet2 2 20 [⟨some 107, none, .fa 34 (.t 3)⟩, ⟨some 108, none, .ldA 33 (.t 107)⟩, ⟨some 109, none, .call 94 []⟩, ⟨some 110, none, .more (.eqD true 32 [yy, yy, yy, yy, yy, yy, yy, yy, yy, yy, yy, yy, yy, yy, yy, yy, yy, yy, yy, yy, yy, yy, yy, yy, yy, yy, yy, yy, yy, yy, yy, yy, .int .i64] (.t 108) (.t 109))⟩, ⟨some 111, none, .mov (.t 110)⟩, ⟨some 112, (some (111, true)), .mov (.t 6)⟩, ⟨some 113, (some (111, true)), .fa 34 (.t 3)⟩, ⟨some 114, (some (111, true)), .ldA 33 (.t 113)⟩, ⟨some 115, (some (111, true)), .call 92 [(.t 112), (.t 114)]⟩, ⟨some 116, (some (111, true)), .not (.t 115)⟩, ⟨some 117, none, .pick (.t 111) (.t 116) (.v (.bool false))⟩, ⟨some 118, none, .mov (.t 117)⟩, ⟨some 119, (some (118, false)), .fa 67 (.t 3)⟩, ⟨some 120, (some (118, false)), .ldA 33 (.t 119)⟩, ⟨some 121, (some (118, false)), .call 93 []⟩, ⟨some 122, (some (118, false)), .more (.eqD true 32 [yy, yy, yy, yy, yy, yy, yy, yy, yy, yy, yy, yy, yy, yy, yy, yy, yy, yy, yy, yy, yy, yy, yy, yy, yy, yy, yy, yy, yy, yy, yy, yy, .int .i64] (.t 120) (.t 121))⟩, ⟨some 123, (some (118, false)), .mov (.t 122)⟩, ⟨some 124, (some (123, true)), .mov (.t 6)⟩, ⟨some 125, (some (123, true)), .fa 67 (.t 3)⟩, ⟨some 126, (some (123, true)), .ldA 33 (.t 125)⟩, ⟨some 127, (some (123, true)), .call 92 [(.t 124), (.t 126)]⟩, ⟨some 128, (some (123, true)), .not (.t 127)⟩, ⟨some 129, (some (118, false)), .pick (.t 123) (.t 128) (.v (.bool false))⟩, ⟨some 130, none, .pick (.t 118) (.v (.bool true)) (.t 129)⟩])
 (.cond (.t 130) (.seq (.ops [⟨some 131, none, .mov (.t 0)⟩, ⟨some 4, none, .mov (.t 131)⟩, ⟨some 5, none, .mov (.v (.int .i64 10))⟩])
 .ret) .skip))
 (.seq (.seq (.ops [⟨some 11, none, .mov (.v (.int .i64 0))⟩])
 (.block 6 (.loop (.seq (.seq (.ops [⟨some 132, none, .mov (.t 11)⟩, ⟨some 133, none, .fa 101 (.t 3)⟩, ⟨some 134, none, .ld (.t 133)⟩, ⟨some 135, none, .lenS (.t 134)⟩, ⟨some 136, none, .bin .lss (.t 132) (.t 135)⟩])
 (.cond (.t 136) .skip (.exit 6)))
 (.seq (.block 7 (.seq (.ops [⟨some 139, none, .mov (.t 6)⟩, ⟨some 140, none, .fa 101 (.t 3)⟩, ⟨some 141, none, .ld (.t 140)⟩, ⟨some 142, none, .mov (.t 11)⟩, ⟨some 143, none, .ixS 33 (.t 141) (.t 142)⟩, ⟨some 144, none, .ldA 33 (.t 143)⟩, ⟨some 145, none, .call 92 [(.t 139), (.t 144)]⟩, ⟨some 146, none, .not (.t 145)⟩])
 (.cond (.t 146) (.seq (.ops [⟨some 147, none, .mov (.t 0)⟩, ⟨some 4, none, .mov (.t 147)⟩, ⟨some 5, none, .mov (.v (.int .i64 10))⟩])
 .ret) .skip)))
 (.ops [⟨some 137, none, .mov (.t 11)⟩, ⟨some 138, none, .bin .add (.t 137) (.v (.int .i64 1))⟩, ⟨some 11, none, .mov (.t 138)⟩]))))))
 (.seq (.seq (.ops [⟨some 148, none, .mov (.t 0)⟩, ⟨some 149, none, .fa 34 (.t 3)⟩, ⟨some 150, none, .ldA 33 (.t 149)⟩, ⟨some 151, none, .fa 67 (.t 3)⟩, ⟨some 152, none, .ldA 33 (.t 151)⟩, ⟨some 153, none, .call 95 [(.t 148), (.t 150), (.t 152)]⟩, ⟨some 154, none, .not (.t 153)⟩])
 (.cond (.t 154) (.seq (.ops [⟨some 155, none, .mov (.t 0)⟩, ⟨some 4, none, .mov (.t 155)⟩, ⟨some 5, none, .mov (.v (.int .i64 4))⟩])
 .ret) .skip))
 (.seq (.ops [⟨some 12, none, .mov (.v (.slice none 0 0))⟩])
 (.seq (.ops [⟨some 156, none, .mov (.t 12)⟩, ⟨some 157, none, .mov (.t 0)⟩, ⟨some 158, none, .app 61 123 102 176 (.agg #[zz, zz, zz, zz, zz, zz, zz, zz, zz, zz, zz, zz, zz, zz, zz, zz, zz, zz, zz, zz, zz, zz, zz, zz, zz, zz, zz, zz, zz, zz, zz, zz, .int .i64 0, .int .i64 0, zz, zz, zz, zz, zz, zz, zz, zz, zz, zz, zz, zz, zz, zz, zz, zz, zz, zz, zz, zz, zz, zz, zz, zz, zz, zz, zz, zz, zz, zz, zz, zz, .int .i64 0, zz, zz, zz, zz, zz, zz, zz, zz, zz, zz, zz, zz, zz, zz, zz, zz, zz, zz, zz, zz, zz, zz, zz, zz, zz, zz, zz, zz, zz, zz, zz, zz, .int .i64 0, .slice none 0 0, .slice none 0 0]) (.t 156) (.t 157)⟩, ⟨some 12, none, .mov (.t 158)⟩])
 (.seq (.ops [⟨some 159, none, .mov (.t 12)⟩, ⟨some 160, none, .ldA 102 (.t 3)⟩, ⟨some 161, none, .bsl 123 [zz, zz, zz, zz, zz, zz, zz, zz, zz, zz, zz, zz, zz, zz, zz, zz, zz, zz, zz, zz, zz, zz, zz, zz, zz, zz, zz, zz, zz, zz, zz, zz, .int .i64 0, .int .i64 0, zz, zz, zz, zz, zz, zz, zz, zz, zz, zz, zz, zz, zz, zz, zz, zz, zz, zz, zz, zz, zz, zz, zz, zz, zz, zz, zz, zz, zz, zz, zz, zz, .int .i64 0, zz, zz, zz, zz, zz, zz, zz, zz, zz, zz, zz, zz, zz, zz, zz, zz, zz, zz, zz, zz, zz, zz, zz, zz, zz, zz, zz, zz, zz, zz, zz, zz, .int .i64 0, .slice none 0 0, .slice none 0 0] 1 [(0, 102, (.t 160))]⟩, ⟨some 162, none, .app 61 123 102 176 (.agg #[zz, zz, zz, zz, zz, zz, zz, zz, zz, zz, zz, zz, zz, zz, zz, zz, zz, zz, zz, zz, zz, zz, zz, zz, zz, zz, zz, zz, zz, zz, zz, zz, .int .i64 0, .int .i64 0, zz, zz, zz, zz, zz, zz, zz, zz, zz, zz, zz, zz, zz, zz, zz, zz, zz, zz, zz, zz, zz, zz, zz, zz, zz, zz, zz, zz, zz, zz, zz, zz, .int .i64 0, zz, zz, zz, zz, zz, zz, zz, zz, zz, zz, zz, zz, zz, zz, zz, zz, zz, zz, zz, zz, zz, zz, zz, zz, zz, zz, zz, zz, zz, zz, zz, zz, .int .i64 0, .slice none 0 0, .slice none 0 0]) (.t 159) (.t 161)⟩, ⟨some 4, none, .mov (.t 162)⟩, ⟨some 5, none, .mov (.v (.int .i64 0))⟩])
 .ret)))))))))))))
theorem Try.known68 : Known Try.prog 68 Try.pc68 163 [4, 5] := ⟨Try.f68, _, Try.func68, rfl, by kernel_rfl, rfl, rfl⟩
def Try.pc69 : PC :=
 (.seq (.ops [⟨some 4, none, .mov (.v (.slice none 0 0))⟩])
 (.seq (.ops [⟨some 8, none, .mov (.t 0)⟩, ⟨some 9, none, .mov (.t 1)⟩, ⟨some 10, none, .call 96 [(.t 8), (.t 9)]⟩, ⟨some 5, none, .mov (.t 10)⟩])
 (.seq (.seq (.ops [⟨some 11, none, .mov (.t 5)⟩, ⟨some 12, none, .bin .eql (.t 11) (.v (.int .i64 (-1)))⟩])
 (.cond (.t 12) (.seq (.ops [⟨some 13, none, .mov (.t 0)⟩, ⟨some 4, none, .mov (.t 13)⟩])
 .ret) .skip))
 (.seq (.seq (.ops [⟨some 14, none, .mov (.t 5)⟩, ⟨some 15, none, .bin .add (.t 14) (.v (.int .i64 1))⟩, ⟨some 6, none, .mov (.t 15)⟩])
 (.block 0 (.loop (.seq (.seq (.ops [⟨some 16, none, .mov (.t 6)⟩, ⟨some 17, none, .mov (.t 0)⟩, ⟨some 18, none, .lenS (.t 17)⟩, ⟨some 19, none, .bin .lss (.t 16) (.t 18)⟩])
 (.cond (.t 19) .skip (.exit 0)))
 (.seq (.block 1 (.seq (.ops [⟨some 22, none, .mov (.t 0)⟩, ⟨some 23, none, .mov (.t 6)⟩, ⟨some 24, none, .ixS 35 (.t 22) (.t 23)⟩, ⟨some 25, none, .ldA 35 (.t 24)⟩, ⟨some 7, none, .al 43 [zz, zz, zz, zz, zz, zz, zz, zz, zz, zz, zz, zz, zz, zz, zz, zz, zz, zz, zz, zz, zz, zz, zz, zz, zz, zz, zz, zz, zz, zz, zz, zz, .int .i64 0, .string ⟨#[]⟩, .bool false]⟩, ⟨none, none, .st 35 (.t 7) (.t 25)⟩])
 (.seq (.ops [⟨some 26, none, .mov (.t 1)⟩, ⟨some 27, none, .ldA 35 (.t 7)⟩, ⟨some 28, none, .callv (.t 26) [(.t 27)]⟩, ⟨some 29, none, .not (.t 28)⟩])
 (.cond (.t 29) (.seq (.ops [⟨some 30, none, .mov (.t 0)⟩, ⟨some 31, none, .mov (.t 5)⟩, ⟨some 32, none, .ldA 35 (.t 7)⟩, ⟨some 33, none, .ixS 35 (.t 30) (.t 31)⟩, ⟨none, none, .st 35 (.t 33) (.t 32)⟩])
 (.ops [⟨some 34, none, .mov (.t 5)⟩, ⟨some 35, none, .bin .add (.t 34) (.v (.int .i64 1))⟩, ⟨some 5, none, .mov (.t 35)⟩])) .skip))))
 (.ops [⟨some 20, none, .mov (.t 6)⟩, ⟨some 21, none, .bin .add (.t 20) (.v (.int .i64 1))⟩, ⟨some 6, none, .mov (.t 21)⟩]))))))
 (.seq (.ops [⟨some 36, none, .mov (.t 0)⟩, ⟨some 37, none, .mov (.t 5)⟩, ⟨some 38, none, .slS 35 (.t 36) (some (.t 37)) none⟩, ⟨none, none, .more (.clr 43 35 (.agg #[zz, zz, zz, zz, zz, zz, zz, zz, zz, zz, zz, zz, zz, zz, zz, zz, zz, zz, zz, zz, zz, zz, zz, zz, zz, zz, zz, zz, zz, zz, zz, zz, .int .i64 0, .string ⟨#[]⟩, .bool false]) (.t 38))⟩])
 (.seq (.ops [⟨some 39, none, .mov (.t 0)⟩, ⟨some 40, none, .mov (.t 5)⟩, ⟨some 41, none, .slS 35 (.t 39) none (some (.t 40))⟩, ⟨some 4, none, .mov (.t 41)⟩])
 .ret))))))
theorem Try.known69 : Known Try.prog 69 Try.pc69 42 [4] := ⟨Try.f69, _, Try.func69, rfl, by kernel_rfl, rfl, rfl⟩
def Try.pc70 : PC :=
 (.seq (.ops [⟨some 1, none, .bx 43 (.t 0)⟩, ⟨some 2, none, .mov (.v (.bool false))⟩])
 (.seq (.ops [⟨some 3, none, .fa 34 (.t 1)⟩, ⟨some 4, none, .ld (.t 3)⟩, ⟨some 5, none, .not (.t 4)⟩, ⟨some 2, none, .mov (.t 5)⟩])
 .ret))
theorem Try.known70 : Known Try.prog 70 Try.pc70 6 [2] := ⟨Try.f70, _, Try.func70, rfl, by kernel_rfl, rfl, rfl⟩
def Try.pc71 : PC :=
 (.seq (.ops [⟨some 4, none, .bx 43 (.t 1)⟩, ⟨some 5, none, .bx 43 (.t 2)⟩, ⟨some 6, none, .mov (.v (.bool false))⟩])
 (.seq (.ops [⟨some 7, none, .mov (.t 0)⟩, ⟨some 8, none, .fa 0 (.t 4)⟩, ⟨some 9, none, .ldA 33 (.t 8)⟩, ⟨some 10, none, .fa 0 (.t 5)⟩, ⟨some 11, none, .ldA 33 (.t 10)⟩, ⟨some 12, none, .call 18 [(.t 7), (.t 9), (.t 11)]⟩, ⟨some 13, none, .mov (.t 12)⟩, ⟨some 14, (some (13, false)), .mov (.t 0)⟩, ⟨some 15, (some (13, false)), .fa 0 (.t 5)⟩, ⟨some 16, (some (13, false)), .ldA 33 (.t 15)⟩, ⟨some 17, (some (13, false)), .fa 0 (.t 4)⟩, ⟨some 18, (some (13, false)), .ldA 33 (.t 17)⟩, ⟨some 19, (some (13, false)), .call 18 [(.t 14), (.t 16), (.t 18)]⟩, ⟨some 20, none, .pick (.t 13) (.v (.bool true)) (.t 19)⟩, ⟨some 6, none, .mov (.t 20)⟩])
 .ret))
theorem Try.known71 : Known Try.prog 71 Try.pc71 21 [6] := ⟨Try.f71, _, Try.func71, rfl, by kernel_rfl, rfl, rfl⟩
def Try.pc72 : PC :=
 (.seq (.ops [⟨some 4, none, .al 73 [.slice none 0 0, .bool false, .slice none 0 0]⟩])
 (.seq (.ops [⟨some 7, none, .mov (.t 1)⟩, ⟨some 8, none, .build [.slice none 0 0, .bool false, .slice none 0 0] [(0, 1, (.t 7)), (1, 1, (.v (.bool true)))]⟩, ⟨some 5, none, .al 73 [.slice none 0 0, .bool false, .slice none 0 0]⟩, ⟨none, none, .st 3 (.t 5) (.t 8)⟩])
 (.seq (.seq (.ops [⟨some 6, none, .mov (.v (.int .i64 1))⟩])
 (.block 0 (.loop (.seq (.seq (.ops [⟨some 9, none, .mov (.t 6)⟩, ⟨some 10, none, .mov (.t 1)⟩, ⟨some 11, none, .lenS (.t 10)⟩, ⟨some 12, none, .bin .lss (.t 9) (.t 11)⟩])
 (.cond (.t 12) .skip (.exit 0)))
 (.seq (.block 1 (.seq (.quiet 10 [⟨some 15, none, .mov (.t 0)⟩, ⟨some 16, none, .mov (.t 1)⟩, ⟨some 17, none, .mov (.t 6)⟩, ⟨some 18, none, .bin .sub (.t 17) (.v (.int .i64 1))⟩, ⟨some 19, none, .ixS 35 (.t 16) (.t 18)⟩, ⟨some 20, none, .ldA 35 (.t 19)⟩, ⟨some 21, none, .mov (.t 1)⟩, ⟨some 22, none, .mov (.t 6)⟩, ⟨some 23, none, .ixS 35 (.t 21) (.t 22)⟩, ⟨some 24, none, .ldA 35 (.t 23)⟩, ⟨some 25, none, .call 71 [(.t 15), (.t 20), (.t 24)]⟩, ⟨some 26, none, .not (.t 25)⟩])
 (.cond (.t 26) (.ops [⟨some 27, none, .fa 2 (.t 5)⟩, ⟨some 28, none, .ld (.t 27)⟩, ⟨some 29, none, .mov (.t 6)⟩, ⟨some 30, none, .bsl 3 [.int .i64 0] 1 [(0, 1, (.t 29))]⟩, ⟨some 31, none, .app 71 3 1 8 (.int .i64 0) (.t 28) (.t 30)⟩, ⟨some 32, none, .fa 2 (.t 5)⟩, ⟨none, none, .st 1 (.t 32) (.t 31)⟩]) .skip)))
 (.ops [⟨some 13, none, .mov (.t 6)⟩, ⟨some 14, none, .bin .add (.t 13) (.v (.int .i64 1))⟩, ⟨some 6, none, .mov (.t 14)⟩]))))))
 (.seq (.ops [⟨some 33, none, .ldA 3 (.t 5)⟩, ⟨none, none, .st 3 (.t 4) (.t 33)⟩])
 .ret))))
theorem Try.known72 : KnownC Try.prog 72 Try.pc72 34 4 (some 3) := ⟨Try.f72, _, _, Try.func72, rfl, by kernel_rfl, rfl, rfl, by kernel_rfl⟩
def Try.pc76 : PC :=
 (.seq (.ops [⟨some 4, none, .mov (.v (.bool false))⟩])
 (.seq (.ops [⟨some 5, none, .mov (.t 0)⟩, ⟨some 6, none, .mov (.t 1)⟩, ⟨some 7, none, .call 98 [(.t 5), (.t 6)]⟩, ⟨some 8, none, .bin .geq (.t 7) (.v (.int .i64 0))⟩, ⟨some 4, none, .mov (.t 8)⟩])
 .ret))
theorem Try.known76 : Known Try.prog 76 Try.pc76 9 [4] := ⟨Try.f76, _, Try.func76, rfl, by kernel_rfl, rfl, rfl⟩
def Try.pc78 : PC :=
 (.seq (.ops [⟨some 4, none, .mov (.v (.bool false))⟩])
 (.seq (.ops [⟨some 5, none, .mov (.t 0)⟩, ⟨some 6, none, .mov (.t 1)⟩, ⟨some 7, none, .call 99 [(.t 5), (.t 6)]⟩, ⟨some 8, none, .bin .geq (.t 7) (.v (.int .i64 0))⟩, ⟨some 4, none, .mov (.t 8)⟩])
 .ret))
theorem Try.known78 : Known Try.prog 78 Try.pc78 9 [4] := ⟨Try.f78, _, Try.func78, rfl, by kernel_rfl, rfl, rfl⟩
def Try.pc79 : PC :=
 (.seq (.ops [⟨some 1, none, .bx 73 (.t 0)⟩, ⟨some 2, none, .mov (.v (.bool false))⟩])
 (.seq (.ops [⟨some 3, none, .fa 1 (.t 1)⟩, ⟨some 4, none, .ld (.t 3)⟩, ⟨some 2, none, .mov (.t 4)⟩])
 .ret))
theorem Try.known79 : Known Try.prog 79 Try.pc79 5 [2] := ⟨Try.f79, _, Try.func79, rfl, by kernel_rfl, rfl, rfl⟩
def Try.pc90 : PC :=
 (.seq (.ops [⟨some 2, none, .mov (.v (.slice none 0 0))⟩])
 (.seq (.ops [⟨some 3, none, .mov (.v (.slice none 0 0))⟩])
 (.seq (.seq (.ops [⟨some 4, none, .mov (.v (.int .i64 0))⟩])
 (.block 0 (.loop (.seq (.seq (.ops [⟨some 5, none, .mov (.t 4)⟩, ⟨some 6, none, .mov (.t 0)⟩, ⟨some 7, none, .lenS (.t 6)⟩, ⟨some 8, none, .bin .lss (.t 5) (.t 7)⟩])
 (.cond (.t 8) .skip (.exit 0)))
 (.seq (.block 1 (.ops [⟨some 11, none, .mov (.t 3)⟩, ⟨some 12, none, .mov (.t 0)⟩, ⟨some 13, none, .mov (.t 4)⟩, ⟨some 14, none, .ixS 102 (.t 12) (.t 13)⟩, ⟨some 15, none, .ldA 102 (.t 14)⟩, ⟨some 16, none, .call 91 [(.t 15)]⟩, ⟨some 17, none, .app 34 32 33 40 (.agg #[zz, zz, zz, zz, zz, zz, zz, zz, zz, zz, zz, zz, zz, zz, zz, zz, zz, zz, zz, zz, zz, zz, zz, zz, zz, zz, zz, zz, zz, zz, zz, zz, .int .i64 0]) (.t 11) (.t 16)⟩, ⟨some 3, none, .mov (.t 17)⟩]))
 (.ops [⟨some 9, none, .mov (.t 4)⟩, ⟨some 10, none, .bin .add (.t 9) (.v (.int .i64 1))⟩, ⟨some 4, none, .mov (.t 10)⟩]))))))
 (.seq (.ops [⟨some 18, none, .mov (.t 3)⟩, ⟨some 2, none, .mov (.t 18)⟩])
 .ret))))
theorem Try.known90 : Known Try.prog 90 Try.pc90 19 [2] := ⟨Try.f90, _, Try.func90, rfl, by kernel_rfl, rfl, rfl⟩
def Try.pc91 : PC :=
 (.seq (.ops [⟨some 1, none, .bx 123 (.t 0)⟩, ⟨some 2, none, .mov (.v (.slice none 0 0))⟩])
 (.seq (.ops [⟨some 3, none, .mov (.v (.slice none 0 0))⟩])
 (.seq (.seq (.ops [⟨some 4, none, .mov (.v (.int .i64 0))⟩])
 (.block 0 (.loop (.seq (.seq (.ops [⟨some 5, none, .mov (.t 4)⟩, ⟨some 6, none, .fa 100 (.t 1)⟩, ⟨some 7, none, .ld (.t 6)⟩, ⟨some 8, none, .lenS (.t 7)⟩, ⟨some 9, none, .bin .lss (.t 5) (.t 8)⟩])
 (.cond (.t 9) .skip (.exit 0)))
 (.seq (.block 1 (.ops [⟨some 12, none, .mov (.t 3)⟩, ⟨some 13, none, .fa 0 (.t 1)⟩, ⟨some 14, none, .ldA 32 (.t 13)⟩, ⟨some 15, none, .fa 33 (.t 1)⟩, ⟨some 16, none, .ld (.t 15)⟩, ⟨some 17, none, .mov (.t 4)⟩, ⟨some 18, none, .bin .add (.t 16) (.t 17)⟩, ⟨some 19, none, .build [zz, zz, zz, zz, zz, zz, zz, zz, zz, zz, zz, zz, zz, zz, zz, zz, zz, zz, zz, zz, zz, zz, zz, zz, zz, zz, zz, zz, zz, zz, zz, zz, .int .i64 0] [(0, 32, (.t 14)), (32, 1, (.t 18))]⟩, ⟨some 20, none, .bsl 32 [zz, zz, zz, zz, zz, zz, zz, zz, zz, zz, zz, zz, zz, zz, zz, zz, zz, zz, zz, zz, zz, zz, zz, zz, zz, zz, zz, zz, zz, zz, zz, zz, .int .i64 0] 1 [(0, 33, (.t 19))]⟩, ⟨some 21, none, .app 34 32 33 40 (.agg #[zz, zz, zz, zz, zz, zz, zz, zz, zz, zz, zz, zz, zz, zz, zz, zz, zz, zz, zz, zz, zz, zz, zz, zz, zz, zz, zz, zz, zz, zz, zz, zz, .int .i64 0]) (.t 12) (.t 20)⟩, ⟨some 3, none, .mov (.t 21)⟩]))
 (.ops [⟨some 10, none, .mov (.t 4)⟩, ⟨some 11, none, .bin .add (.t 10) (.v (.int .i64 1))⟩, ⟨some 4, none, .mov (.t 11)⟩]))))))
 (.seq (.ops [⟨some 22, none, .mov (.t 3)⟩, ⟨some 2, none, .mov (.t 22)⟩])
 .ret))))
theorem Try.known91 : Known Try.prog 91 Try.pc91 23 [2] := ⟨Try.f91, _, Try.func91, rfl, by kernel_rfl, rfl, rfl⟩
def Try.pc92 : PC :=
 (.seq (.ops [⟨some 3, none, .bx 32 (.t 1)⟩, ⟨some 4, none, .mov (.v (.bool false))⟩])
 (.seq (.seq (.ops [⟨some 5, none, .mov (.v (.int .i64 0))⟩])
 (.block 0 (.loop (.seq (.seq (.ops [⟨some 6, none, .mov (.t 5)⟩, ⟨some 7, none, .mov (.t 0)⟩, ⟨some 8, none, .lenS (.t 7)⟩, ⟨some 9, none, .bin .lss (.t 6) (.t 8)⟩])
 (.cond (.t 9) .skip (.exit 0)))
 (.seq (.block 1 (.seq (.quiet 5 [⟨some 12, none, .mov (.t 0)⟩, ⟨some 13, none, .mov (.t 5)⟩, ⟨some 14, none, .ixS 33 (.t 12) (.t 13)⟩, ⟨some 15, none, .ldA 33 (.t 14)⟩, ⟨some 16, none, .ldA 33 (.t 3)⟩, ⟨some 17, none, .more (.eqD false 32 [yy, yy, yy, yy, yy, yy, yy, yy, yy, yy, yy, yy, yy, yy, yy, yy, yy, yy, yy, yy, yy, yy, yy, yy, yy, yy, yy, yy, yy, yy, yy, yy, .int .i64] (.t 15) (.t 16))⟩])
 (.cond (.t 17) (.seq (.ops [⟨some 4, none, .mov (.v (.bool true))⟩])
 .ret) .skip)))
 (.ops [⟨some 10, none, .mov (.t 5)⟩, ⟨some 11, none, .bin .add (.t 10) (.v (.int .i64 1))⟩, ⟨some 5, none, .mov (.t 11)⟩]))))))
 (.seq (.ops [⟨some 4, none, .mov (.v (.bool false))⟩])
 .ret)))
theorem Try.known92 : Known Try.prog 92 Try.pc92 18 [4] := ⟨Try.f92, _, Try.func92, rfl, by kernel_rfl, rfl, rfl⟩
def Try.pc93 : PC :=
 (.seq (.ops [⟨some 0, none, .al 32 [zz, zz, zz, zz, zz, zz, zz, zz, zz, zz, zz, zz, zz, zz, zz, zz, zz, zz, zz, zz, zz, zz, zz, zz, zz, zz, zz, zz, zz, zz, zz, zz, .int .i64 0]⟩])
 (.seq (.ops [⟨some 1, none, .build [zz, zz, zz, zz, zz, zz, zz, zz, zz, zz, zz, zz, zz, zz, zz, zz, zz, zz, zz, zz, zz, zz, zz, zz, zz, zz, zz, zz, zz, zz, zz, zz, .int .i64 0] [(32, 1, (.v (.int .i64 (-2))))]⟩, ⟨none, none, .st 33 (.t 0) (.t 1)⟩])
 .ret))
theorem Try.known93 : KnownC Try.prog 93 Try.pc93 2 0 (some 33) := ⟨Try.f93, _, _, Try.func93, rfl, by kernel_rfl, rfl, rfl, by kernel_rfl⟩
def Try.pc94 : PC :=
 (.seq (.ops [⟨some 0, none, .al 32 [zz, zz, zz, zz, zz, zz, zz, zz, zz, zz, zz, zz, zz, zz, zz, zz, zz, zz, zz, zz, zz, zz, zz, zz, zz, zz, zz, zz, zz, zz, zz, zz, .int .i64 0]⟩])
 (.seq (.ops [⟨some 1, none, .build [zz, zz, zz, zz, zz, zz, zz, zz, zz, zz, zz, zz, zz, zz, zz, zz, zz, zz, zz, zz, zz, zz, zz, zz, zz, zz, zz, zz, zz, zz, zz, zz, .int .i64 0] [(32, 1, (.v (.int .i64 (-1))))]⟩, ⟨none, none, .st 33 (.t 0) (.t 1)⟩])
 .ret))
theorem Try.known94 : KnownC Try.prog 94 Try.pc94 2 0 (some 33) := ⟨Try.f94, _, _, Try.func94, rfl, by kernel_rfl, rfl, rfl, by kernel_rfl⟩
def Try.pc95 : PC :=
 (.seq (.ops [⟨some 4, none, .bx 32 (.t 1)⟩, ⟨some 5, none, .bx 32 (.t 2)⟩, ⟨some 6, none, .mov (.v (.bool false))⟩])
 (.seq (.ops [⟨some 12, none, .mov (.t 0)⟩, ⟨some 13, none, .call 90 [(.t 12)]⟩, ⟨some 7, none, .mov (.t 13)⟩])
 (.seq (.seq (.quiet2 2 43 [⟨some 14, none, .mov (.t 7)⟩, ⟨some 15, none, .ldA 33 (.t 4)⟩, ⟨some 16, none, .call 92 [(.t 14), (.t 15)]⟩, ⟨some 17, none, .not (.t 16)⟩, ⟨some 18, none, .mov (.t 17)⟩, ⟨some 19, (some (18, true)), .ldA 33 (.t 4)⟩, ⟨some 20, (some (18, true)), .call 94 []⟩, ⟨some 21, (some (18, true)), .more (.eqD true 32 [yy, yy, yy, yy, yy, yy, yy, yy, yy, yy, yy, yy, yy, yy, yy, yy, yy, yy, yy, yy, yy, yy, yy, yy, yy, yy, yy, yy, yy, yy, yy, yy, .int .i64] (.t 19) (.t 20))⟩, ⟨some 22, none, .pick (.t 18) (.t 21) (.v (.bool false))⟩, ⟨some 23, none, .mov (.t 22)⟩, ⟨some 24, (some (23, true)), .ldA 33 (.t 4)⟩, ⟨some 25, (some (23, true)), .call 93 []⟩, ⟨some 26, (some (23, true)), .more (.eqD true 32 [yy, yy, yy, yy, yy, yy, yy, yy, yy, yy, yy, yy, yy, yy, yy, yy, yy, yy, yy, yy, yy, yy, yy, yy, yy, yy, yy, yy, yy, yy, yy, yy, .int .i64] (.t 24) (.t 25))⟩, ⟨some 27, none, .pick (.t 23) (.t 26) (.v (.bool false))⟩, ⟨some 28, none, .mov (.t 27)⟩, ⟨some 29, (some (28, false)), .mov (.t 7)⟩, ⟨some 30, (some (28, false)), .ldA 33 (.t 5)⟩, ⟨some 31, (some (28, false)), .call 92 [(.t 29), (.t 30)]⟩, ⟨some 32, (some (28, false)), .not (.t 31)⟩, ⟨some 33, (some (28, false)), .mov (.t 32)⟩, ⟨some 34, (some (33, true)), .ldA 33 (.t 5)⟩, ⟨some 35, (some (33, true)), .call 94 []⟩, ⟨some 36, (some (33, true)), .more (.eqD true 32 [yy, yy, yy, yy, yy, yy, yy, yy, yy, yy, yy, yy, yy, yy, yy, yy, yy, yy, yy, yy, yy, yy, yy, yy, yy, yy, yy, yy, yy, yy, yy, yy, .int .i64] (.t 34) (.t 35))⟩, ⟨some 37, (some (28, false)), .pick (.t 33) (.t 36) (.v (.bool false))⟩, ⟨some 38, (some (28, false)), .mov (.t 37)⟩, ⟨some 39, (some (38, true)), .ldA 33 (.t 5)⟩, ⟨some 40, (some (38, true)), .call 93 []⟩, ⟨some 41, (some (38, true)), .more (.eqD true 32 [yy, yy, yy, yy, yy, yy, yy, yy, yy, yy, yy, yy, yy, yy, yy, yy, yy, yy, yy, yy, yy, yy, yy, yy, yy, yy, yy, yy, yy, yy, yy, yy, .int .i64] (.t 39) (.t 40))⟩, ⟨some 42, (some (28, false)), .pick (.t 38) (.t 41) (.v (.bool false))⟩, ⟨some 43, none, .pick (.t 28) (.v (.bool true)) (.t 42)⟩, ⟨some 44, none, .mov (.t 43)⟩, ⟨some 45, (some (44, false)), .ldA 33 (.t 4)⟩, ⟨some 46, (some (44, false)), .ldA 33 (.t 5)⟩, ⟨some 47, (some (44, false)), .more (.eqD false 32 [yy, yy, yy, yy, yy, yy, yy, yy, yy, yy, yy, yy, yy, yy, yy, yy, yy, yy, yy, yy, yy, yy, yy, yy, yy, yy, yy, yy, yy, yy, yy, yy, .int .i64] (.t 45) (.t 46))⟩, ⟨some 48, none, .pick (.t 44) (.v (.bool true)) (.t 47)⟩, ⟨some 49, none, .mov (.t 48)⟩, ⟨some 50, (some (49, false)), .ldA 33 (.t 4)⟩, ⟨some 51, (some (49, false)), .call 93 []⟩, ⟨some 52, (some (49, false)), .more (.eqD false 32 [yy, yy, yy, yy, yy, yy, yy, yy, yy, yy, yy, yy, yy, yy, yy, yy, yy, yy, yy, yy, yy, yy, yy, yy, yy, yy, yy, yy, yy, yy, yy, yy, .int .i64] (.t 50) (.t 51))⟩, ⟨some 53, none, .pick (.t 49) (.v (.bool true)) (.t 52)⟩, ⟨some 54, none, .mov (.t 53)⟩, ⟨some 55, (some (54, false)), .ldA 33 (.t 5)⟩, ⟨some 56, (some (54, false)), .call 94 []⟩, ⟨some 57, (some (54, false)), .more (.eqD false 32 [yy, yy, yy, yy, yy, yy, yy, yy, yy, yy, yy, yy, yy, yy, yy, yy, yy, yy, yy, yy, yy, yy, yy, yy, yy, yy, yy, yy, yy, yy, yy, yy, .int .i64] (.t 55) (.t 56))⟩, ⟨some 58, none, .pick (.t 54) (.v (.bool true)) (.t 57)⟩])
 (.cond (.t 58) (.seq (.ops [⟨some 6, none, .mov (.v (.bool false))⟩])
 .ret) .skip))
 (.seq (.seq (.quiet2 1 6 [⟨some 59, none, .ldA 33 (.t 4)⟩, ⟨some 60, none, .call 94 []⟩, ⟨some 61, none, .more (.eqD false 32 [yy, yy, yy, yy, yy, yy, yy, yy, yy, yy, yy, yy, yy, yy, yy, yy, yy, yy, yy, yy, yy, yy, yy, yy, yy, yy, yy, yy, yy, yy, yy, yy, .int .i64] (.t 59) (.t 60))⟩, ⟨some 62, none, .mov (.t 61)⟩, ⟨some 63, (some (62, false)), .ldA 33 (.t 5)⟩, ⟨some 64, (some (62, false)), .call 93 []⟩, ⟨some 65, (some (62, false)), .more (.eqD false 32 [yy, yy, yy, yy, yy, yy, yy, yy, yy, yy, yy, yy, yy, yy, yy, yy, yy, yy, yy, yy, yy, yy, yy, yy, yy, yy, yy, yy, yy, yy, yy, yy, .int .i64] (.t 63) (.t 64))⟩, ⟨some 66, none, .pick (.t 62) (.v (.bool true)) (.t 65)⟩])
 (.cond (.t 66) (.seq (.ops [⟨some 6, none, .mov (.v (.bool true))⟩])
 .ret) .skip))
 (.seq (.ops [⟨some 67, none, .mov (.t 0)⟩, ⟨some 68, none, .call 112 [(.t 67)]⟩, ⟨some 8, none, .mov (.t 68)⟩])
 (.seq (.ops [⟨some 69, none, .ldA 33 (.t 4)⟩, ⟨some 70, none, .bsl 32 [zz, zz, zz, zz, zz, zz, zz, zz, zz, zz, zz, zz, zz, zz, zz, zz, zz, zz, zz, zz, zz, zz, zz, zz, zz, zz, zz, zz, zz, zz, zz, zz, .int .i64 0] 1 [(0, 33, (.t 69))]⟩, ⟨some 9, none, .mov (.t 70)⟩])
 (.seq (.seq (.ops [⟨some 10, none, .mov (.v (.int .i64 0))⟩])
 (.block 0 (.loop (.seq (.seq (.ops [⟨some 71, none, .mov (.t 10)⟩, ⟨some 72, none, .mov (.t 9)⟩, ⟨some 73, none, .lenS (.t 72)⟩, ⟨some 74, none, .bin .lss (.t 71) (.t 73)⟩])
 (.cond (.t 74) .skip (.exit 0)))
 (.seq (.block 1 (.seq (.ops [⟨some 11, none, .mov (.v (.int .i64 0))⟩])
 (.block 2 (.loop (.seq (.seq (.ops [⟨some 77, none, .mov (.t 11)⟩, ⟨some 78, none, .bin .add (.t 77) (.v (.int .i64 1))⟩, ⟨some 79, none, .mov (.t 8)⟩, ⟨some 80, none, .lenS (.t 79)⟩, ⟨some 81, none, .bin .lss (.t 78) (.t 80)⟩])
 (.cond (.t 81) .skip (.exit 2)))
 (.seq (.block 3 (.seq (.quiet 16 [⟨some 84, none, .mov (.t 8)⟩, ⟨some 85, none, .mov (.t 11)⟩, ⟨some 86, none, .ixS 33 (.t 84) (.t 85)⟩, ⟨some 87, none, .ldA 33 (.t 86)⟩, ⟨some 88, none, .mov (.t 9)⟩, ⟨some 89, none, .mov (.t 10)⟩, ⟨some 90, none, .ixS 33 (.t 88) (.t 89)⟩, ⟨some 91, none, .ldA 33 (.t 90)⟩, ⟨some 92, none, .more (.eqD false 32 [yy, yy, yy, yy, yy, yy, yy, yy, yy, yy, yy, yy, yy, yy, yy, yy, yy, yy, yy, yy, yy, yy, yy, yy, yy, yy, yy, yy, yy, yy, yy, yy, .int .i64] (.t 87) (.t 91))⟩, ⟨some 93, none, .mov (.t 92)⟩, ⟨some 94, (some (93, true)), .mov (.t 9)⟩, ⟨some 95, (some (93, true)), .mov (.t 8)⟩, ⟨some 96, (some (93, true)), .mov (.t 11)⟩, ⟨some 97, (some (93, true)), .bin .add (.t 96) (.v (.int .i64 1))⟩, ⟨some 98, (some (93, true)), .ixS 33 (.t 95) (.t 97)⟩, ⟨some 99, (some (93, true)), .ldA 33 (.t 98)⟩, ⟨some 100, (some (93, true)), .call 92 [(.t 94), (.t 99)]⟩, ⟨some 101, (some (93, true)), .not (.t 100)⟩, ⟨some 102, none, .pick (.t 93) (.t 101) (.v (.bool false))⟩])
 (.cond (.t 102) (.ops [⟨some 103, none, .mov (.t 9)⟩, ⟨some 104, none, .mov (.t 8)⟩, ⟨some 105, none, .mov (.t 11)⟩, ⟨some 106, none, .bin .add (.t 105) (.v (.int .i64 1))⟩, ⟨some 107, none, .ixS 33 (.t 104) (.t 106)⟩, ⟨some 108, none, .ldA 33 (.t 107)⟩, ⟨some 109, none, .bsl 32 [zz, zz, zz, zz, zz, zz, zz, zz, zz, zz, zz, zz, zz, zz, zz, zz, zz, zz, zz, zz, zz, zz, zz, zz, zz, zz, zz, zz, zz, zz, zz, zz, .int .i64 0] 1 [(0, 33, (.t 108))]⟩, ⟨some 110, none, .app 34 32 33 40 (.agg #[zz, zz, zz, zz, zz, zz, zz, zz, zz, zz, zz, zz, zz, zz, zz, zz, zz, zz, zz, zz, zz, zz, zz, zz, zz, zz, zz, zz, zz, zz, zz, zz, .int .i64 0]) (.t 103) (.t 109)⟩, ⟨some 9, none, .mov (.t 110)⟩]) .skip)))
 (.ops [⟨some 82, none, .mov (.t 11)⟩, ⟨some 83, none, .bin .add (.t 82) (.v (.int .i64 2))⟩, ⟨some 11, none, .mov (.t 83)⟩])))))))
 (.ops [⟨some 75, none, .mov (.t 10)⟩, ⟨some 76, none, .bin .add (.t 75) (.v (.int .i64 1))⟩, ⟨some 10, none, .mov (.t 76)⟩]))))))
 (.seq (.ops [⟨some 111, none, .mov (.t 9)⟩, ⟨some 112, none, .ldA 33 (.t 5)⟩, ⟨some 113, none, .call 92 [(.t 111), (.t 112)]⟩, ⟨some 6, none, .mov (.t 113)⟩])
 .ret))))))))
theorem Try.known95 : Known Try.prog 95 Try.pc95 114 [6] := ⟨Try.f95, _, Try.func95, rfl, by kernel_rfl, rfl, rfl⟩
def Try.pc96 : PC :=
 (.seq (.ops [⟨some 4, none, .mov (.v (.int .i64 0))⟩])
 (.seq (.seq (.ops [⟨some 6, none, .mov (.t 0)⟩, ⟨some 7, none, .lenS (.t 6)⟩, ⟨some 8, none, .mov (.v (.int .i64 0))⟩])
 (.block 0 (.loop (.seq (.ops [⟨some 9, none, .bin .lss (.t 8) (.t 7)⟩])
 (.seq (.cond (.t 9) .skip (.exit 0))
 (.seq (.block 1 (.seq (.ops [⟨some 10, none, .mov (.t 8)⟩, ⟨some 5, none, .mov (.t 10)⟩])
 (.seq (.ops [⟨some 11, none, .mov (.t 1)⟩, ⟨some 12, none, .mov (.t 0)⟩, ⟨some 13, none, .mov (.t 5)⟩, ⟨some 14, none, .ixS 35 (.t 12) (.t 13)⟩, ⟨some 15, none, .ldA 35 (.t 14)⟩, ⟨some 16, none, .callv (.t 11) [(.t 15)]⟩])
 (.cond (.t 16) (.seq (.ops [⟨some 17, none, .mov (.t 5)⟩, ⟨some 4, none, .mov (.t 17)⟩])
 .ret) .skip))))
 (.ops [⟨some 18, none, .bin .add (.t 8) (.v (.int .i64 1))⟩, ⟨some 8, none, .mov (.t 18)⟩])))))))
 (.seq (.ops [⟨some 4, none, .mov (.v (.int .i64 (-1)))⟩])
 .ret)))
theorem Try.known96 : Known Try.prog 96 Try.pc96 19 [4] := ⟨Try.f96, _, Try.func96, rfl, by kernel_rfl, rfl, rfl⟩
def Try.pc98 : PC :=
 (.seq (.ops [⟨some 4, none, .mov (.v (.int .i64 0))⟩])
 (.seq (.seq (.ops [⟨some 6, none, .mov (.t 0)⟩, ⟨some 7, none, .lenS (.t 6)⟩, ⟨some 8, none, .mov (.v (.int .i64 0))⟩])
 (.block 0 (.loop (.seq (.ops [⟨some 9, none, .bin .lss (.t 8) (.t 7)⟩])
 (.seq (.cond (.t 9) .skip (.exit 0))
 (.seq (.block 1 (.seq (.ops [⟨some 10, none, .mov (.t 8)⟩, ⟨some 5, none, .mov (.t 10)⟩])
 (.seq (.ops [⟨some 11, none, .mov (.t 1)⟩, ⟨some 12, none, .mov (.t 0)⟩, ⟨some 13, none, .mov (.t 5)⟩, ⟨some 14, none, .ixS 1 (.t 12) (.t 13)⟩, ⟨some 15, none, .ld (.t 14)⟩, ⟨some 16, none, .bin .eql (.t 11) (.t 15)⟩])
 (.cond (.t 16) (.seq (.ops [⟨some 17, none, .mov (.t 5)⟩, ⟨some 4, none, .mov (.t 17)⟩])
 .ret) .skip))))
 (.ops [⟨some 18, none, .bin .add (.t 8) (.v (.int .i64 1))⟩, ⟨some 8, none, .mov (.t 18)⟩])))))))
 (.seq (.ops [⟨some 4, none, .mov (.v (.int .i64 (-1)))⟩])
 .ret)))
theorem Try.known98 : Known Try.prog 98 Try.pc98 19 [4] := ⟨Try.f98, _, Try.func98, rfl, by kernel_rfl, rfl, rfl⟩
def Try.pc99 : PC :=
 (.seq (.ops [⟨some 4, none, .mov (.v (.int .i64 0))⟩])
 (.seq (.seq (.ops [⟨some 6, none, .mov (.t 0)⟩, ⟨some 7, none, .lenS (.t 6)⟩, ⟨some 8, none, .mov (.v (.int .i64 0))⟩])
 (.block 0 (.loop (.seq (.ops [⟨some 9, none, .bin .lss (.t 8) (.t 7)⟩])
 (.seq (.cond (.t 9) .skip (.exit 0))
 (.seq (.block 1 (.seq (.ops [⟨some 10, none, .mov (.t 8)⟩, ⟨some 5, none, .mov (.t 10)⟩])
 (.seq (.ops [⟨some 11, none, .mov (.t 1)⟩, ⟨some 12, none, .mov (.t 0)⟩, ⟨some 13, none, .mov (.t 5)⟩, ⟨some 14, none, .ixS 3 (.t 12) (.t 13)⟩, ⟨some 15, none, .ldA 3 (.t 14)⟩, ⟨some 16, none, .callv (.t 11) [(.t 15)]⟩])
 (.cond (.t 16) (.seq (.ops [⟨some 17, none, .mov (.t 5)⟩, ⟨some 4, none, .mov (.t 17)⟩])
 .ret) .skip))))
 (.ops [⟨some 18, none, .bin .add (.t 8) (.v (.int .i64 1))⟩, ⟨some 8, none, .mov (.t 18)⟩])))))))
 (.seq (.ops [⟨some 4, none, .mov (.v (.int .i64 (-1)))⟩])
 .ret)))
theorem Try.known99 : Known Try.prog 99 Try.pc99 19 [4] := ⟨Try.f99, _, Try.func99, rfl, by kernel_rfl, rfl, rfl⟩
def Try.pc112 : PC :=
 (.seq (.ops [⟨some 2, none, .mov (.v (.slice none 0 0))⟩])
 (.seq (.ops [⟨some 3, none, .mov (.v (.slice none 0 0))⟩])
 (.seq (.seq (.ops [⟨some 4, none, .mov (.v (.int .i64 0))⟩])
 (.block 0 (.loop (.seq (.seq (.ops [⟨some 7, none, .mov (.t 4)⟩, ⟨some 8, none, .mov (.t 0)⟩, ⟨some 9, none, .lenS (.t 8)⟩, ⟨some 10, none, .bin .lss (.t 7) (.t 9)⟩])
 (.cond (.t 10) .skip (.exit 0)))
 (.seq (.block 1 (.seq (.ops [⟨some 13, none, .mov (.t 0)⟩, ⟨some 14, none, .mov (.t 4)⟩, ⟨some 15, none, .ixS 102 (.t 13) (.t 14)⟩, ⟨some 16, none, .ldA 102 (.t 15)⟩, ⟨some 17, none, .call 91 [(.t 16)]⟩, ⟨some 5, none, .mov (.t 17)⟩])
 (.seq (.seq (.ops [⟨some 6, none, .mov (.v (.int .i64 0))⟩])
 (.block 2 (.loop (.seq (.seq (.ops [⟨some 18, none, .mov (.t 6)⟩, ⟨some 19, none, .mov (.t 5)⟩, ⟨some 20, none, .lenS (.t 19)⟩, ⟨some 21, none, .bin .lss (.t 18) (.t 20)⟩])
 (.cond (.t 21) .skip (.exit 2)))
 (.seq (.block 3 (.seq (.ops [⟨some 24, none, .mov (.t 6)⟩, ⟨some 25, none, .bin .eql (.t 24) (.v (.int .i64 0))⟩])
 (.cond (.t 25) (.quiet 9 [⟨some 26, none, .mov (.t 3)⟩, ⟨some 27, none, .mov (.t 0)⟩, ⟨some 28, none, .mov (.t 4)⟩, ⟨some 29, none, .ixS 102 (.t 27) (.t 28)⟩, ⟨some 30, none, .fa 34 (.t 29)⟩, ⟨some 31, none, .ldA 33 (.t 30)⟩, ⟨some 32, none, .mov (.t 5)⟩, ⟨some 33, none, .ixS 33 (.t 32) (.v (.int .i64 0))⟩, ⟨some 34, none, .ldA 33 (.t 33)⟩, ⟨some 35, none, .bsl 32 [zz, zz, zz, zz, zz, zz, zz, zz, zz, zz, zz, zz, zz, zz, zz, zz, zz, zz, zz, zz, zz, zz, zz, zz, zz, zz, zz, zz, zz, zz, zz, zz, .int .i64 0, zz, zz, zz, zz, zz, zz, zz, zz, zz, zz, zz, zz, zz, zz, zz, zz, zz, zz, zz, zz, zz, zz, zz, zz, zz, zz, zz, zz, zz, zz, zz, zz, .int .i64 0] 2 [(0, 33, (.t 31)), (33, 33, (.t 34))]⟩, ⟨some 36, none, .app 34 32 33 40 (.agg #[zz, zz, zz, zz, zz, zz, zz, zz, zz, zz, zz, zz, zz, zz, zz, zz, zz, zz, zz, zz, zz, zz, zz, zz, zz, zz, zz, zz, zz, zz, zz, zz, .int .i64 0]) (.t 26) (.t 35)⟩, ⟨some 3, none, .mov (.t 36)⟩]) (.quiet 10 [⟨some 37, none, .mov (.t 3)⟩, ⟨some 38, none, .mov (.t 5)⟩, ⟨some 39, none, .mov (.t 6)⟩, ⟨some 40, none, .bin .sub (.t 39) (.v (.int .i64 1))⟩, ⟨some 41, none, .ixS 33 (.t 38) (.t 40)⟩, ⟨some 42, none, .ldA 33 (.t 41)⟩, ⟨some 43, none, .mov (.t 5)⟩, ⟨some 44, none, .mov (.t 6)⟩, ⟨some 45, none, .ixS 33 (.t 43) (.t 44)⟩, ⟨some 46, none, .ldA 33 (.t 45)⟩, ⟨some 47, none, .bsl 32 [zz, zz, zz, zz, zz, zz, zz, zz, zz, zz, zz, zz, zz, zz, zz, zz, zz, zz, zz, zz, zz, zz, zz, zz, zz, zz, zz, zz, zz, zz, zz, zz, .int .i64 0, zz, zz, zz, zz, zz, zz, zz, zz, zz, zz, zz, zz, zz, zz, zz, zz, zz, zz, zz, zz, zz, zz, zz, zz, zz, zz, zz, zz, zz, zz, zz, zz, .int .i64 0] 2 [(0, 33, (.t 42)), (33, 33, (.t 46))]⟩, ⟨some 48, none, .app 34 32 33 40 (.agg #[zz, zz, zz, zz, zz, zz, zz, zz, zz, zz, zz, zz, zz, zz, zz, zz, zz, zz, zz, zz, zz, zz, zz, zz, zz, zz, zz, zz, zz, zz, zz, zz, .int .i64 0]) (.t 37) (.t 47)⟩, ⟨some 3, none, .mov (.t 48)⟩]))))
 (.ops [⟨some 22, none, .mov (.t 6)⟩, ⟨some 23, none, .bin .add (.t 22) (.v (.int .i64 1))⟩, ⟨some 6, none, .mov (.t 23)⟩]))))))
 (.seq (.ops [⟨some 49, none, .mov (.t 5)⟩, ⟨some 50, none, .lenS (.t 49)⟩, ⟨some 51, none, .bin .gtr (.t 50) (.v (.int .i64 0))⟩])
 (.cond (.t 51) (.quiet 12 [⟨some 52, none, .mov (.t 3)⟩, ⟨some 53, none, .mov (.t 5)⟩, ⟨some 54, none, .mov (.t 5)⟩, ⟨some 55, none, .lenS (.t 54)⟩, ⟨some 56, none, .bin .sub (.t 55) (.v (.int .i64 1))⟩, ⟨some 57, none, .ixS 33 (.t 53) (.t 56)⟩, ⟨some 58, none, .ldA 33 (.t 57)⟩, ⟨some 59, none, .mov (.t 0)⟩, ⟨some 60, none, .mov (.t 4)⟩, ⟨some 61, none, .ixS 102 (.t 59) (.t 60)⟩, ⟨some 62, none, .fa 67 (.t 61)⟩, ⟨some 63, none, .ldA 33 (.t 62)⟩, ⟨some 64, none, .bsl 32 [zz, zz, zz, zz, zz, zz, zz, zz, zz, zz, zz, zz, zz, zz, zz, zz, zz, zz, zz, zz, zz, zz, zz, zz, zz, zz, zz, zz, zz, zz, zz, zz, .int .i64 0, zz, zz, zz, zz, zz, zz, zz, zz, zz, zz, zz, zz, zz, zz, zz, zz, zz, zz, zz, zz, zz, zz, zz, zz, zz, zz, zz, zz, zz, zz, zz, zz, .int .i64 0] 2 [(0, 33, (.t 58)), (33, 33, (.t 63))]⟩, ⟨some 65, none, .app 34 32 33 40 (.agg #[zz, zz, zz, zz, zz, zz, zz, zz, zz, zz, zz, zz, zz, zz, zz, zz, zz, zz, zz, zz, zz, zz, zz, zz, zz, zz, zz, zz, zz, zz, zz, zz, .int .i64 0]) (.t 52) (.t 64)⟩, ⟨some 3, none, .mov (.t 65)⟩]) .skip)))))
 (.ops [⟨some 11, none, .mov (.t 4)⟩, ⟨some 12, none, .bin .add (.t 11) (.v (.int .i64 1))⟩, ⟨some 4, none, .mov (.t 12)⟩]))))))
 (.seq (.ops [⟨some 66, none, .mov (.t 3)⟩, ⟨some 2, none, .mov (.t 66)⟩])
 .ret))))
theorem Try.known112 : Known Try.prog 112 Try.pc112 67 [2] := ⟨Try.f112, _, Try.func112, rfl, by kernel_rfl, rfl, rfl⟩
end Go.Proofs

namespace Go.HP
variable {α : Type} [Inhabited α]
def swapL (l : List α) (i j : Nat) : List α := (l.set i l[j]!).set j l[i]!
theorem swapL_len (l : List α) (i j : Nat) : (swapL l i j).length = l.length := by simp [swapL]
theorem swapL_get {l : List α} {i j : Nat} (hi : i < l.length) (hj : j < l.length) (k : Nat) : (swapL l i j)[k]! = if k = j then l[i]! else if k = i then l[j]! else l[k]! := by
 unfold swapL
 simp only [List.getElem!_eq_getElem?_getD]
 by_cases h1 : k = j
 ·subst h1
  rw [if_pos rfl, List.getElem?_set_self (by simpa using hj)]
  rfl
 ·rw [if_neg h1, List.getElem?_set_ne (fun e => h1 e.symm)]
  by_cases h2 : k = i
  ·subst h2
   rw [if_pos rfl, List.getElem?_set_self hi]
   rfl
  ·rw [if_neg h2, List.getElem?_set_ne (fun e => h2 e.symm)]
theorem swapL_perm {l : List α} {i j : Nat} (hi : i < l.length) (hj : j < l.length) : (swapL l i j).Perm l := by
 unfold swapL
 rw [getElem!_pos l i hi, getElem!_pos l j hj]
 exact List.set_set_perm hi hj
variable (lt : α → α → Bool)
def upL : Nat → List α → Nat → List α
 | 0, l, _ => l
 | f + 1, l, j => if j = 0 then l else if lt l[j]! l[(j - 1) / 2]! then upL f (swapL l ((j - 1) / 2) j) ((j - 1) / 2) else l
def downJ (l : List α) (i n : Nat) : Nat := if 2 * i + 2 < n ∧ lt l[2 * i + 2]! l[2 * i + 1]! = true then 2 * i + 2 else 2 * i + 1
def downL : Nat → List α → Nat → Nat → List α
 | 0, l, _, _ => l
 | f + 1, l, i, n => if n ≤ 2 * i + 1 then l else if lt l[downJ lt l i n]! l[i]! then downL f (swapL l i (downJ lt l i n)) (downJ lt l i n) n else l
structure Ord : Prop where
 asymm : ∀ a b, lt a b = true → lt b a = false
 trans : ∀ a b c, lt b a = false → lt c b = false → lt c a = false
variable {lt}
def Hp (lt : α → α → Bool) (l : List α) (n : Nat) : Prop := ∀ k, 0 < k → k < n → lt l[k]! l[(k - 1) / 2]! = false
theorem upL_spec (O : Ord lt) : ∀ (f : Nat) (l : List α) (j : Nat), j ≤ f → j < l.length → (∀ k, 0 < k → k < l.length → k ≠ j → lt l[k]! l[(k - 1) / 2]! = false) →
  (∀ k, 0 < k → k < l.length → 0 < j → (k - 1) / 2 = j → lt l[k]! l[(j - 1) / 2]! = false) → Hp lt (upL lt f l j) l.length ∧ (upL lt f l j).Perm l
 | 0, l, j, hf, hj, h1, h2 => by
  refine ⟨fun k h0 hk => ?_, List.Perm.refl _⟩
  exact h1 k h0 hk (by omega)
 | f + 1, l, j, hf, hj, h1, h2 => by
  unfold upL
  by_cases hj0 : j = 0
  ·rw [if_pos hj0]
   exact ⟨fun k h0 hk => h1 k h0 hk (by omega), List.Perm.refl _⟩
  rw [if_neg hj0]
  by_cases hl : lt l[j]! l[(j - 1) / 2]! = true
  ·rw [if_pos hl]
   have hi : (j - 1) / 2 < j := by omega
   generalize hp : (j - 1) / 2 = i at hi hl ⊢
   have hil : i < l.length := by omega
   have hg := swapL_get hil hj
   have key := upL_spec O f (swapL l i j) i (by omega) (by rw [swapL_len]; exact hil) ?_ ?_
   ·rw [swapL_len] at key
    exact ⟨key.1, key.2.trans (swapL_perm hil hj)⟩
   ·intro k h0 hk hki
    rw [swapL_len] at hk
    rw [hg, hg]
    by_cases hkj : k = j
    ·subst hkj
     rw [if_pos rfl, hp, if_neg (by omega), if_pos rfl]
     exact O.asymm _ _ hl
    ·rw [if_neg hkj, if_neg hki]
     by_cases hpj : (k - 1) / 2 = j
     ·rw [if_pos hpj]
      have := h2 k h0 hk (by omega) hpj
      rwa [hp] at this
     ·rw [if_neg hpj]
      by_cases hpi : (k - 1) / 2 = i
      ·rw [if_pos hpi]
       have := h1 k h0 hk hkj
       rw [hpi] at this
       exact O.trans _ _ _ (O.asymm _ _ hl) this
      ·rw [if_neg hpi]
       exact h1 k h0 hk hkj
   ·intro k h0 hk hi0 hki
    rw [swapL_len] at hk
    rw [hg, hg]
    have hii : (i - 1) / 2 ≠ j := by omega
    have hii2 : (i - 1) / 2 ≠ i := by omega
    rw [if_neg hii, if_neg hii2]
    by_cases hkj : k = j
    ·subst hkj
     rw [if_pos rfl]
     exact h1 i hi0 hil (by omega)
    ·rw [if_neg hkj, if_neg (by omega)]
     have a := h1 k h0 hk hkj
     rw [hki] at a
     exact O.trans _ _ _ (h1 i hi0 hil (by omega)) a
  ·rw [if_neg hl]
   refine ⟨fun k h0 hk => ?_, List.Perm.refl _⟩
   by_cases hkj : k = j
   ·subst hkj; simpa using hl
   ·exact h1 k h0 hk hkj
theorem downL_spec (O : Ord lt) : ∀ (f : Nat) (l : List α) (i n : Nat), n ≤ f + i → i < n → n ≤ l.length → (∀ k, 0 < k → k < n → (k - 1) / 2 ≠ i → lt l[k]! l[(k - 1) / 2]! = false) →
  (∀ k, 0 < k → k < n → 0 < i → (k - 1) / 2 = i → lt l[k]! l[(i - 1) / 2]! = false) → Hp lt (downL lt f l i n) n ∧ (downL lt f l i n).Perm l ∧ ∀ k, n ≤ k → (downL lt f l i n)[k]! = l[k]!
 | 0, l, i, n, hf, hi, hn, h1, h2 => by omega
 | f + 1, l, i, n, hf, hi, hn, h1, h2 => by
  unfold downL
  by_cases hc : n ≤ 2 * i + 1
  ·rw [if_pos hc]
   exact ⟨fun k h0 hk => h1 k h0 hk (by omega), List.Perm.refl _, fun _ _ => rfl⟩
  rw [if_neg hc]
  have hj : downJ lt l i n < n ∧ (downJ lt l i n - 1) / 2 = i ∧ 0 < downJ lt l i n ∧ i < downJ lt l i n ∧ ∀ k, 0 < k → k < n → (k - 1) / 2 = i → lt l[k]! l[downJ lt l i n]! = false := by
   unfold downJ
   split
   ·rename_i h
    refine ⟨h.1, by omega, by omega, by omega, fun k h0 hk hp => ?_⟩
    have : k = 2 * i + 1 ∨ k = 2 * i + 2 := by omega
    rcases this with rfl | rfl
    ·exact O.asymm _ _ h.2
    ·cases hx : lt l[2 * i + 2]! l[2 * i + 2]! with
     | false => rfl
     | true => have := O.asymm _ _ hx; rw [hx] at this; cases this
   ·rename_i h
    refine ⟨by omega, by omega, by omega, by omega, fun k h0 hk hp => ?_⟩
    have : k = 2 * i + 1 ∨ k = 2 * i + 2 := by omega
    rcases this with rfl | rfl
    ·cases hx : lt l[2 * i + 1]! l[2 * i + 1]! with
     | false => rfl
     | true => have := O.asymm _ _ hx; rw [hx] at this; cases this
    ·cases hx : lt l[2 * i + 2]! l[2 * i + 1]! with
     | false => rfl
     | true => exact absurd ⟨hk, hx⟩ h
  generalize downJ lt l i n = j at hj ⊢
  obtain ⟨hjn, hjp, hj0, hij, hjm⟩ := hj
  by_cases hl : lt l[j]! l[i]! = true
  ·rw [if_pos hl]
   have hil : i < l.length := by omega
   have hjl : j < l.length := by omega
   have hg := swapL_get hil hjl
   have key := downL_spec O f (swapL l i j) j n (by omega) hjn (by rw [swapL_len]; exact hn) ?_ ?_
   ·refine ⟨key.1, key.2.1.trans (swapL_perm hil hjl), fun k hk => ?_⟩
    rw [key.2.2 k hk, hg, if_neg (by omega), if_neg (by omega)]
   ·intro k h0 hk hkj
    rw [hg, hg, if_neg hkj]
    by_cases hk1 : k = j
    ·subst hk1
     rw [if_pos rfl, hjp, if_pos rfl]
     exact O.asymm _ _ hl
    ·rw [if_neg hk1]
     by_cases hpi : (k - 1) / 2 = i
     ·rw [if_pos hpi, if_neg (by omega)]
      exact hjm k h0 hk hpi
     ·rw [if_neg hpi]
      by_cases hki : k = i
      ·subst hki
       rw [if_pos rfl]
       exact h2 j hj0 hjn h0 hjp
      ·rw [if_neg hki]
       exact h1 k h0 hk hpi
   ·intro k h0 hk _ hkj
    rw [hg, hg, hjp]
    rw [if_neg (by omega), if_neg (by omega), if_neg (by omega), if_pos rfl]
    have a := h1 k h0 hk (by omega)
    rw [hkj] at a
    exact a
  ·rw [if_neg hl]
   refine ⟨fun k h0 hk => ?_, List.Perm.refl _, fun _ _ => rfl⟩
   by_cases hpi : (k - 1) / 2 = i
   ·have hl' : lt l[j]! l[i]! = false := by simpa using hl
    rw [hpi]
    exact O.trans _ _ _ hl' (hjm k h0 hk hpi)
   ·exact h1 k h0 hk hpi
def pushL (lt : α → α → Bool) (l : List α) (x : α) : List α := upL lt l.length (l ++ [x]) l.length
theorem get_app {l : List α} {x : α} {k : Nat} (h : k < l.length) : (l ++ [x])[k]! = l[k]! := by
 rw [getElem!_pos _ k (by simp; omega), getElem!_pos l k h, List.getElem_append_left h]
theorem pushL_spec (O : Ord lt) {l : List α} (h : Hp lt l l.length) (x : α) : Hp lt (pushL lt l x) (pushL lt l x).length ∧ (pushL lt l x).Perm (x :: l) := by
 have := upL_spec O l.length (l ++ [x]) l.length (Nat.le_refl _) (by simp) (fun k h0 hk hne => ?_) (fun k h0 hk h1 hp => ?_)
 ·unfold pushL
  refine ⟨?_, this.2.trans (List.perm_append_singleton x l)⟩
  rw [this.2.length_eq]
  exact this.1
 ·simp only [List.length_append, List.length_singleton] at hk
  rw [get_app (by omega), get_app (by omega)]
  exact h k h0 (by omega)
 ·simp only [List.length_append, List.length_singleton] at hk
  omega
def popL (lt : α → α → Bool) (l : List α) : List α := (downL lt l.length (swapL l 0 (l.length - 1)) 0 (l.length - 1)).take (l.length - 1)
theorem heap_min (O : Ord lt) {l : List α} {n : Nat} (h : Hp lt l n) : ∀ k, k < n → lt l[k]! l[0]! = false
 | 0, hk => by
  cases hx : lt l[0]! l[0]! with
  | false => rfl
  | true => have := O.asymm _ _ hx; rw [hx] at this; cases this
 | k + 1, hk => O.trans _ _ _ (heap_min O h ((k + 1 - 1) / 2) (by omega)) (h (k + 1) (by omega) hk)
theorem popL_spec (O : Ord lt) {l : List α} (h : Hp lt l l.length) (h0 : 0 < l.length) :
  Hp lt (popL lt l) (popL lt l).length ∧ (l[0]! :: popL lt l).Perm l ∧ (downL lt l.length (swapL l 0 (l.length - 1)) 0 (l.length - 1))[l.length - 1]! = l[0]! ∧ (popL lt l).length = l.length - 1 ∧ ∀ x ∈ popL lt l, lt x l[0]! = false := by
 by_cases h1 : l.length = 1
 ·match l, h1 with
  | [a], _ =>
   have e : downL lt 1 (swapL [a] 0 0) 0 0 = [a] := by simp [downL, swapL]
   refine ⟨?_, ?_, ?_, ?_, ?_⟩
   ·intro k hk hk2; simp [popL] at hk2
   ·simp [popL]
   ·simp [downL, swapL]
   ·simp [popL]
   ·simp [popL]
 ·have hl : l.length - 1 < l.length := by omega
  have hg := swapL_get h0 hl
  have key := downL_spec O l.length (swapL l 0 (l.length - 1)) 0 (l.length - 1) (by omega) (by omega) (by rw [swapL_len]; omega) ?_ ?_
  ·obtain ⟨k1, k2, k3⟩ := key
   have hlast : (downL lt l.length (swapL l 0 (l.length - 1)) 0 (l.length - 1))[l.length - 1]! = l[0]! := by
    rw [k3 _ (Nat.le_refl _), hg, if_pos rfl]
   unfold popL
   generalize downL lt l.length (swapL l 0 (l.length - 1)) 0 (l.length - 1) = d at k1 k2 k3 hlast
   have hd : d.length = l.length := by rw [k2.length_eq, swapL_len]
   have hp2 : d.Perm l := k2.trans (swapL_perm h0 hl)
   have hsplit : d = d.take (l.length - 1) ++ [l[0]!] := by
    have : d = d.take (l.length - 1) ++ d.drop (l.length - 1) := (List.take_append_drop _ _).symm
    rw [getElem!_pos d _ (by omega)] at hlast
    rw [List.drop_eq_getElem_cons (by omega), hlast, List.drop_of_length_le (by omega)] at this
    exact this
   have hperm : (l[0]! :: d.take (l.length - 1)).Perm l := by
    refine List.Perm.trans ?_ hp2
    conv => rhs; rw [hsplit]
    exact (List.perm_append_singleton _ _).symm
   refine ⟨?_, hperm, hlast, by simp; omega, fun x hx => ?_⟩
   ·intro k hk hk2
    simp only [List.length_take] at hk2
    have a1 : (d.take (l.length - 1))[k]! = d[k]! := by
     rw [getElem!_pos _ k (by simp; omega), getElem!_pos d k (by omega), List.getElem_take]
    have a2 : (d.take (l.length - 1))[(k - 1) / 2]! = d[(k - 1) / 2]! := by
     rw [getElem!_pos _ _ (by simp; omega), getElem!_pos d _ (by omega), List.getElem_take]
    rw [a1, a2]
    exact k1 k hk (by omega)
   ·have hx2 : x ∈ l := hperm.mem_iff.1 (List.mem_cons_of_mem _ hx)
    obtain ⟨k, hk, rfl⟩ := List.mem_iff_getElem.1 hx2
    have := heap_min O h k hk
    rwa [getElem!_pos l k hk] at this
  ·intro k hk0 hk hp
   rw [hg, hg, if_neg (by omega), if_neg (by omega), if_neg (by omega), if_neg hp]
   exact h k hk0 (by omega)
  ·intro k hk0 hk hi0 hp
   omega
end Go.HP

namespace Go.GP
section
variable {V : Type} [DecidableEq V]
def Free (E : List (V × V)) (left : List V) (v : V) : Prop := ∀ e ∈ E, e.2 = v → e.1 ∉ left
inductive Topo (lt : V → V → Bool) (E : List (V × V)) : List V → List V → Prop
 | nil {left : List V} (h : ∀ v ∈ left, ¬ Free E left v) : Topo lt E left []
 | cons {left : List V} {v : V} {L : List V} (h1 : v ∈ left) (h2 : Free E left v) (h3 : ∀ u ∈ left, Free E left u → lt u v = false) (h4 : Topo lt E (left.erase v) L) : Topo lt E left (v :: L)
variable {lt : V → V → Bool}
theorem Free.congr {E E' : List (V × V)} {left left' : List V} {v : V} (hE : ∀ e, e ∈ E ↔ e ∈ E') (hl : ∀ u, u ∈ left ↔ u ∈ left') (h : Free E left v) : Free E' left' v :=
 fun e he hv hm => h e ((hE e).2 he) hv ((hl _).2 hm)
theorem Topo.unique (tot : ∀ a b, lt a b = false → lt b a = false → a = b) {E : List (V × V)} {left L : List V} (h : Topo lt E left L) : ∀ {E' : List (V × V)} {left' L' : List V}, (∀ e, e ∈ E ↔ e ∈ E') → left.Perm left' → Topo lt E' left' L' → L = L' := by
 induction h with
 | nil h =>
  intro E' left' L' hE hp h'
  cases h' with
  | nil _ => rfl
  | cons h1 h2 h3 h4 => exact absurd (h2.congr (fun e => (hE e).symm) (fun u => hp.symm.mem_iff)) (h _ (hp.mem_iff.2 h1))
 | cons h1 h2 h3 h4 ih =>
  intro E' left' L' hE hp h'
  cases h' with
  | nil h => exact absurd (h2.congr hE (fun u => hp.mem_iff)) (h _ (hp.mem_iff.1 h1))
  | cons g1 g2 g3 g4 =>
   have e := tot _ _ (g3 _ (hp.mem_iff.1 h1) (h2.congr hE (fun u => hp.mem_iff))) (h3 _ (hp.mem_iff.2 g1) (g2.congr (fun e => (hE e).symm) (fun u => hp.symm.mem_iff)))
   subst e
   rw [ih hE (hp.erase _) g4]
theorem Topo.perm {E : List (V × V)} {left L : List V} (h : Topo lt E left L) (r : V → Nat) (hr : ∀ e ∈ E, e.1 ∈ left → e.2 ∈ left → r e.1 < r e.2) : L.Perm left := by
 induction h with
 | @nil left h =>
  cases left with
  | nil => exact List.Perm.refl _
  | cons x l =>
   exfalso
   have key : ∀ n (v : V), r v ≤ n → v ∈ x :: l → False := by
    intro n
    induction n with
    | zero =>
     intro v hv hm
     exact h v hm fun e he hev hmem => by have := hr e he hmem (by rw [hev]; exact hm); rw [hev] at this; omega
    | succ n ih =>
     intro v hv hm
     refine h v hm fun e he hev hmem => ?_
     have := hr e he hmem (by rw [hev]; exact hm)
     rw [hev] at this
     exact ih e.1 (by omega) hmem
   exact key _ x (Nat.le_refl _) (by simp)
 | cons h1 h2 h3 h4 ih =>
  refine List.Perm.trans (List.Perm.cons _ (ih fun e he ha hb => hr e he (List.mem_of_mem_erase ha) (List.mem_of_mem_erase hb))) ?_
  exact (List.perm_cons_erase h1).symm
theorem Topo.sub {E : List (V × V)} {left L : List V} (h : Topo lt E left L) : ∀ v ∈ L, v ∈ left := by
 induction h with
 | nil h => intro v hv; cases hv
 | cons h1 h2 h3 h4 ih =>
  intro u hu
  rcases List.mem_cons.1 hu with rfl | hu
  ·exact h1
  ·exact List.mem_of_mem_erase (ih u hu)
theorem Topo.order {E : List (V × V)} {left L : List V} (h : Topo lt E left L) (hn : left.Nodup) : L.Pairwise (fun x y => (y, x) ∉ E) ∧ L.Nodup := by
 induction h with
 | nil h => exact ⟨List.Pairwise.nil, List.nodup_nil⟩
 | @cons left v L h1 h2 h3 h4 ih =>
  obtain ⟨i1, i2⟩ := ih (hn.erase v)
  refine ⟨List.pairwise_cons.2 ⟨fun y hy he => h2 _ he rfl (List.mem_of_mem_erase (h4.sub y hy)), i1⟩, List.nodup_cons.2 ⟨fun hm => ?_, i2⟩⟩
  have := h4.sub v hm
  rw [hn.mem_erase_iff] at this
  exact this.1 rfl
inductive Rch (E : List (V × V)) : V → V → Prop
 | one {a b : V} (h : (a, b) ∈ E) : Rch E a b
 | cons {a c b : V} (h : (a, c) ∈ E) (t : Rch E c b) : Rch E a b
theorem Rch.mono {E E' : List (V × V)} {a b : V} (h : Rch E a b) (hE : ∀ e ∈ E, e ∈ E') : Rch E' a b := by
 induction h with
 | one h => exact .one (hE _ h)
 | cons h t ih => exact .cons (hE _ h) ih
theorem Rch.trans {E : List (V × V)} {a b c : V} (h : Rch E a b) (k : Rch E b c) : Rch E a c := by
 induction h with
 | one h => exact .cons h k
 | cons h t ih => exact .cons h (ih k)
theorem Rch.snoc {E : List (V × V)} {a b c : V} (h : Rch E a b) (k : (b, c) ∈ E) : Rch E a c := h.trans (.one k)
theorem Rch.rank {E : List (V × V)} {a b : V} (h : Rch E a b) (r : V → Nat) (hr : ∀ e ∈ E, r e.1 < r e.2) : r a < r b := by
 induction h with
 | one h => exact hr _ h
 | cons h t ih => exact Nat.lt_trans (hr _ h) ih
theorem Rch.src {E : List (V × V)} {a b : V} (h : Rch E a b) : ∃ c, (a, c) ∈ E := by
 cases h with
 | one h => exact ⟨_, h⟩
 | cons h t => exact ⟨_, h⟩
theorem Rch.tgt {E : List (V × V)} {a b : V} (h : Rch E a b) : ∃ c, (c, b) ∈ E := by
 induction h with
 | one h => exact ⟨_, h⟩
 | cons h t ih => exact ih
theorem Rch.last {E : List (V × V)} {a b : V} (h : Rch E a b) : (a, b) ∈ E ∨ ∃ c, Rch E a c ∧ (c, b) ∈ E := by
 induction h with
 | one h => exact .inl h
 | cons h t ih =>
  rcases ih with h2 | ⟨c, h2, h3⟩
  ·exact .inr ⟨_, .one h, h2⟩
  ·exact .inr ⟨c, .cons h h2, h3⟩
end
end Go.GP

namespace Go.GP
abbrev HashB := { l : List UInt8 // l.length = 32 }
abbrev Vtx := HashB × Int
def h0 : HashB := ⟨List.replicate 32 0, by simp⟩
instance : Inhabited HashB := ⟨h0⟩
def rootV : Vtx := (h0, -1)
def endV : Vtx := (h0, -2)
theorem root_ne_end : rootV ≠ endV := by decide
structure PartP where
 patch : HashB
 at_ : Int
 first : Int
 up : Vtx
 down : Vtx
 lines : List ByteArray
 gone : List Vtx
def PartP.vtx (p : PartP) (i : Nat) : Vtx := (p.patch, p.first + (i : Int))
def PartP.name (p : PartP) : HashB × Int := (p.patch, p.at_)
def own (p : PartP) : List Vtx := (List.range p.lines.length).map p.vtx
def edgeL {V : Type} : List V → List (V × V)
 | a :: b :: r => (a, b) :: edgeL (b :: r)
 | _ => []
def way (p : PartP) : List Vtx := p.up :: (own p ++ [p.down])
def edges (p : PartP) : List (Vtx × Vtx) := if p.lines.length = 0 then [] else edgeL (way p)
def names (p : PartP) : List Vtx := p.up :: p.down :: p.gone
def allV (ps : List PartP) : List Vtx := ps.flatMap own
def allE (ps : List PartP) : List (Vtx × Vtx) := ps.flatMap edges
def HasV (ps : List PartP) (v : Vtx) : Prop := v = rootV ∨ v = endV ∨ v ∈ allV ps
def Bef (ps : List PartP) (a b : Vtx) : Prop := HasV ps a ∧ HasV ps b ∧ a ≠ b ∧ a ≠ endV ∧ b ≠ rootV ∧ (a = rootV ∨ b = endV ∨ Rch (allE ps) a b)
theorem mem_own {p : PartP} {v : Vtx} : v ∈ own p ↔ ∃ i, i < p.lines.length ∧ p.vtx i = v := by
 unfold own; simp [List.mem_map]
theorem vtx_inj {p : PartP} {i j : Nat} (h : p.vtx i = p.vtx j) : i = j := by
 have := congrArg Prod.snd h
 simp only [PartP.vtx] at this
 omega
theorem own_nodup (p : PartP) : (own p).Nodup := by
 unfold own List.Nodup
 rw [List.pairwise_map]
 exact List.Pairwise.imp (fun h e => h (vtx_inj e)) List.nodup_range
theorem own_len (p : PartP) : (own p).length = p.lines.length := by simp [own]
theorem edgeL_mem {V : Type} {l : List V} {e : V × V} : e ∈ edgeL l ↔ ∃ i, l[i]? = some e.1 ∧ l[i + 1]? = some e.2 := by
 induction l with
 | nil => simp [edgeL]
 | cons a l ih =>
  cases l with
  | nil => simp [edgeL]
  | cons b r =>
   simp only [edgeL, List.mem_cons, ih]
   constructor
   ·rintro (rfl | ⟨i, h1, h2⟩)
    ·exact ⟨0, rfl, rfl⟩
    ·exact ⟨i + 1, by simpa using h1, by simpa using h2⟩
   ·rintro ⟨i, h1, h2⟩
    cases i with
    | zero =>
     simp at h1 h2
     left
     exact Prod.ext h1.symm h2.symm
    | succ i => exact .inr ⟨i, by simpa using h1, by simpa using h2⟩
theorem way_get (p : PartP) (i : Nat) : (way p)[i]? = if i = 0 then some p.up else if i ≤ p.lines.length then some (p.vtx (i - 1)) else if i = p.lines.length + 1 then some p.down else none := by
 unfold way
 cases i with
 | zero => simp
 | succ i =>
  rw [List.getElem?_cons_succ, if_neg (by omega), List.getElem?_append, own_len]
  by_cases h : i < p.lines.length
  ·rw [if_pos h, if_pos (by omega)]
   simp [own, h]
  ·rw [if_neg h, if_neg (by omega)]
   by_cases h2 : i = p.lines.length
   ·subst h2; simp
   ·rw [if_neg (by omega), List.getElem?_eq_none (by simp; omega)]
theorem mem_edges {p : PartP} {e : Vtx × Vtx} : e ∈ edges p ↔ ∃ i, i ≤ p.lines.length ∧ 0 < p.lines.length ∧ e.1 = (if i = 0 then p.up else p.vtx (i - 1)) ∧ e.2 = (if i < p.lines.length then p.vtx i else p.down) := by
 unfold edges
 by_cases h : p.lines.length = 0
 ·rw [if_pos h]
  constructor
  ·intro h; cases h
  ·rintro ⟨i, h1, h2, _⟩; omega
 rw [if_neg h, edgeL_mem]
 constructor
 ·rintro ⟨i, h1, h2⟩
  rw [way_get] at h1 h2
  have hi : i ≤ p.lines.length := by
   by_cases h3 : i ≤ p.lines.length
   ·exact h3
   ·rw [if_neg (by omega), if_neg (by omega), if_neg (by omega)] at h2
    cases h2
  refine ⟨i, hi, by omega, ?_, ?_⟩
  ·split at h1
   ·rename_i h0; rw [if_pos h0]; exact (Option.some.inj h1).symm
   ·rename_i h0; rw [if_neg h0]; exact (Option.some.inj h1).symm
  ·rw [if_neg (by omega)] at h2
   by_cases h3 : i < p.lines.length
   ·rw [if_pos h3]; rw [if_pos (by omega)] at h2; exact (Option.some.inj h2).symm
   ·rw [if_neg h3]; rw [if_neg (by omega), if_pos (by omega)] at h2; exact (Option.some.inj h2).symm
 ·rintro ⟨i, h1, h2, h3, h4⟩
  refine ⟨i, ?_, ?_⟩
  ·rw [way_get, h3]
   split <;> rfl
  ·rw [way_get, h4, if_neg (by omega)]
   by_cases h5 : i < p.lines.length
   ·rw [if_pos (by omega), if_pos h5]; rfl
   ·rw [if_neg (by omega), if_pos (by omega), if_neg h5]
theorem edge_src {p : PartP} {e : Vtx × Vtx} (h : e ∈ edges p) : e.1 = p.up ∨ e.1 ∈ own p := by
 obtain ⟨i, h1, h2, h3, h4⟩ := mem_edges.1 h
 by_cases h0 : i = 0
 ·rw [if_pos h0] at h3; exact .inl h3
 ·rw [if_neg h0] at h3; exact .inr (mem_own.2 ⟨i - 1, by omega, h3.symm⟩)
theorem edge_tgt {p : PartP} {e : Vtx × Vtx} (h : e ∈ edges p) : e.2 = p.down ∨ e.2 ∈ own p := by
 obtain ⟨i, h1, h2, h3, h4⟩ := mem_edges.1 h
 by_cases h0 : i < p.lines.length
 ·rw [if_pos h0] at h4; exact .inr (mem_own.2 ⟨i, h0, h4.symm⟩)
 ·rw [if_neg h0] at h4; exact .inl h4
theorem edge_own {p : PartP} {e : Vtx × Vtx} (h : e ∈ edges p) : e.1 ∈ own p ∨ e.2 ∈ own p := by
 obtain ⟨i, h1, h2, h3, h4⟩ := mem_edges.1 h
 by_cases h0 : i < p.lines.length
 ·rw [if_pos h0] at h4; exact .inr (mem_own.2 ⟨i, h0, h4.symm⟩)
 ·by_cases h5 : i = 0
  ·omega
  ·rw [if_neg h5] at h3; exact .inl (mem_own.2 ⟨i - 1, by omega, h3.symm⟩)
theorem mem_allV {ps : List PartP} {v : Vtx} : v ∈ allV ps ↔ ∃ p ∈ ps, v ∈ own p := List.mem_flatMap
theorem mem_allE {ps : List PartP} {e : Vtx × Vtx} : e ∈ allE ps ↔ ∃ p ∈ ps, e ∈ edges p := List.mem_flatMap
structure New (ps : List PartP) (p : PartP) : Prop where
 name : ∀ q ∈ ps, q.name ≠ p.name
 own : ∀ v ∈ own p, v ∉ allV ps
 first : 0 ≤ p.first
 upE : p.up ≠ endV
 downR : p.down ≠ rootV
 gone0 : p.gone.Nodup
 goneR : ∀ v ∈ p.gone, v ≠ rootV ∧ v ≠ endV
 up : HasV ps p.up
 down : HasV ps p.down
 gone : ∀ v ∈ p.gone, v ∈ allV ps
 bef : Bef ps p.up p.down
inductive Sq : List PartP → Prop
 | nil : Sq []
 | cons {p : PartP} {ps : List PartP} (h : New ps p) (t : Sq ps) : Sq (p :: ps)
theorem own_ge {p : PartP} (h : 0 ≤ p.first) {v : Vtx} (hv : v ∈ own p) : 0 ≤ v.2 := by
 obtain ⟨i, _, rfl⟩ := mem_own.1 hv
 simp only [PartP.vtx]
 omega
theorem Sq.ge {ps : List PartP} (h : Sq ps) {v : Vtx} (hv : v ∈ allV ps) : 0 ≤ v.2 := by
 induction h with
 | nil => simp [allV] at hv
 | cons h t ih =>
  obtain ⟨q, hq, hv2⟩ := mem_allV.1 hv
  rcases List.mem_cons.1 hq with rfl | hq
  ·exact own_ge h.first hv2
  ·exact ih (mem_allV.2 ⟨q, hq, hv2⟩)
theorem ge_ne {v : Vtx} (h : 0 ≤ v.2) : v ≠ rootV ∧ v ≠ endV := by
 constructor
 ·rintro rfl; revert h; decide
 ·rintro rfl; revert h; decide
theorem Sq.line {ps : List PartP} (h : Sq ps) {v : Vtx} (hv : v ∈ allV ps) : v ≠ rootV ∧ v ≠ endV := ge_ne (h.ge hv)
theorem Sq.edge {ps : List PartP} (h : Sq ps) {e : Vtx × Vtx} (he : e ∈ allE ps) : (e.1 = rootV ∨ e.1 ∈ allV ps) ∧ (e.2 = endV ∨ e.2 ∈ allV ps) := by
 induction h with
 | nil => simp [allE] at he
 | @cons p ps h t ih =>
  obtain ⟨q, hq, he2⟩ := mem_allE.1 he
  have up : ∀ v, v ∈ allV ps → v ∈ allV (p :: ps) := fun v hv => by
   obtain ⟨r, hr, hv⟩ := mem_allV.1 hv
   exact mem_allV.2 ⟨r, List.mem_cons_of_mem _ hr, hv⟩
  rcases List.mem_cons.1 hq with rfl | hq
  ·constructor
   ·rcases edge_src he2 with h1 | h1
    ·rcases h.up with h2 | h2 | h2
     ·exact .inl (h1.trans h2)
     ·exact absurd h2 h.upE
     ·exact .inr (by rw [h1]; exact up _ h2)
    ·exact .inr (mem_allV.2 ⟨q, hq, h1⟩)
   ·rcases edge_tgt he2 with h1 | h1
    ·rcases h.down with h2 | h2 | h2
     ·exact absurd h2 h.downR
     ·exact .inl (h1.trans h2)
     ·exact .inr (by rw [h1]; exact up _ h2)
    ·exact .inr (mem_allV.2 ⟨q, hq, h1⟩)
  ·obtain ⟨i1, i2⟩ := ih (mem_allE.2 ⟨q, hq, he2⟩)
   exact ⟨i1.imp_right (up _), i2.imp_right (up _)⟩
theorem Sq.noEnd {ps : List PartP} (h : Sq ps) {b : Vtx} : ¬ Rch (allE ps) endV b := by
 intro hr
 obtain ⟨c, hc⟩ := hr.src
 rcases (h.edge hc).1 with h1 | h1
 ·exact root_ne_end h1.symm
 ·exact (h.line h1).2 rfl
theorem Sq.noRoot {ps : List PartP} (h : Sq ps) {a : Vtx} : ¬ Rch (allE ps) a rootV := by
 intro hr
 obtain ⟨c, hc⟩ := hr.tgt
 rcases (h.edge hc).2 with h1 | h1
 ·exact root_ne_end h1
 ·exact (h.line h1).1 rfl
theorem Sq.rank {ps : List PartP} (h : Sq ps) : ∃ r : Vtx → Nat, (∀ e ∈ allE ps, r e.1 < r e.2) ∧ (∀ v ∈ allV ps, r rootV < r v ∧ r v < r endV) ∧ r rootV < r endV := by
 induction h with
 | nil => exact ⟨fun v => if v = endV then 1 else 0, by simp [allE], by simp [allV], by decide⟩
 | @cons p ps h t ih =>
  obtain ⟨r, h1, h2, h3⟩ := ih
  have hb : r p.up < r p.down := by
   obtain ⟨b1, b2, b3, b4, b5, b6⟩ := h.bef
   rcases b6 with b6 | b6 | b6
   ·rw [b6]
    rcases b2 with b2 | b2 | b2
    ·exact absurd b2 b5
    ·rw [b2]; exact h3
    ·exact (h2 _ b2).1
   ·rw [b6]
    rcases b1 with b1 | b1 | b1
    ·rw [b1]; exact h3
    ·exact absurd b1 b4
    ·exact (h2 _ b1).2
   ·exact b6.rank r h1
  let K := p.lines.length + 1
  let r' : Vtx → Nat := fun v => if v ∈ own p then K * r p.up + ((v.2 - p.first).toNat + 1) else K * r v
  have hown : ∀ i, i < p.lines.length → r' (p.vtx i) = K * r p.up + (i + 1) := by
   intro i hi
   have : p.vtx i ∈ own p := mem_own.2 ⟨i, hi, rfl⟩
   show (if p.vtx i ∈ own p then K * r p.up + (((p.vtx i).2 - p.first).toNat + 1) else K * r (p.vtx i)) = _
   rw [if_pos this]
   simp only [PartP.vtx]
   omega
  have hold : ∀ v, v ∉ own p → r' v = K * r v := fun v hv => by simp only [r', if_neg hv]
  have hvold : ∀ v, HasV ps v → v ∉ own p := by
   intro v hv hm
   have := ge_ne (own_ge h.first hm)
   rcases hv with hv | hv | hv
   ·exact this.1 hv
   ·exact this.2 hv
   ·exact h.own v hm hv
  have hK : ∀ a b, a < b → K * a + p.lines.length < K * b := by
   intro a b hab
   have : K * (a + 1) ≤ K * b := Nat.mul_le_mul_left _ hab
   rw [Nat.mul_add, Nat.mul_one] at this
   omega
  have hK0 : ∀ a b, a < b → K * a < K * b := fun a b hab => by have := hK a b hab; omega
  have hr0 : rootV ∉ own p := hvold _ (.inl rfl)
  have he0 : endV ∉ own p := hvold _ (.inr (.inl rfl))
  refine ⟨r', ?_, ?_, ?_⟩
  ·intro e he
   obtain ⟨q, hq, he2⟩ := mem_allE.1 he
   rcases List.mem_cons.1 hq with rfl | hq
   ·obtain ⟨i, i1, i2, i3, i4⟩ := mem_edges.1 he2
    have s1 : r' e.1 = K * r q.up + i := by
     rw [i3]
     split
     ·rename_i h0; rw [hold _ (hvold _ h.up), h0]; rfl
     ·rename_i h0; rw [hown _ (by omega)]; omega
    have s2 : K * r q.up + i < r' e.2 := by
     rw [i4]
     split
     ·rename_i h0; rw [hown _ h0]; omega
     ·rw [hold _ (hvold _ h.down)]
      have := hK _ _ hb
      omega
    omega
   ·have he' : e ∈ allE ps := mem_allE.2 ⟨q, hq, he2⟩
    obtain ⟨e1, e2⟩ := t.edge he'
    rw [hold _ (hvold _ (e1.imp_right .inr)), hold _ (hvold _ (.inr e2))]
    exact hK0 _ _ (h1 e he')
  ·intro v hv
   rw [hold _ hr0, hold _ he0]
   obtain ⟨q, hq, hv2⟩ := mem_allV.1 hv
   rcases List.mem_cons.1 hq with rfl | hq
   ·obtain ⟨i, hi, rfl⟩ := mem_own.1 hv2
    rw [hown i hi]
    have hup : r rootV ≤ r q.up := by
     rcases h.up with h4 | h4 | h4
     ·rw [h4]; exact Nat.le_refl _
     ·exact absurd h4 h.upE
     ·exact Nat.le_of_lt (h2 _ h4).1
    have hdn : r q.down ≤ r endV := by
     rcases h.down with h4 | h4 | h4
     ·exact absurd h4 h.downR
     ·rw [h4]; exact Nat.le_refl _
     ·exact Nat.le_of_lt (h2 _ h4).2
    have a1 : K * r rootV ≤ K * r q.up := Nat.mul_le_mul_left _ hup
    have a2 := hK _ _ (Nat.lt_of_lt_of_le hb hdn)
    omega
   ·have hv' : v ∈ allV ps := mem_allV.2 ⟨q, hq, hv2⟩
    rw [hold _ (hvold _ (.inr (.inr hv')))]
    exact ⟨hK0 _ _ (h2 v hv').1, hK0 _ _ (h2 v hv').2⟩
  ·rw [hold _ hr0, hold _ he0]
   exact hK0 _ _ h3
theorem Sq.irrefl {ps : List PartP} (h : Sq ps) {v : Vtx} : ¬ Rch (allE ps) v v := by
 intro hr
 obtain ⟨r, h1, _⟩ := h.rank
 have := hr.rank r h1
 omega
theorem HasV.mono {ps qs : List PartP} {v : Vtx} (h : HasV ps v) (hs : ∀ p ∈ ps, p ∈ qs) : HasV qs v := by
 rcases h with h | h | h
 ·exact .inl h
 ·exact .inr (.inl h)
 ·obtain ⟨p, hp, hv⟩ := mem_allV.1 h
  exact .inr (.inr (mem_allV.2 ⟨p, hs p hp, hv⟩))
theorem allE_mono {ps qs : List PartP} (hs : ∀ p ∈ ps, p ∈ qs) : ∀ e ∈ allE ps, e ∈ allE qs := fun e he => by
 obtain ⟨p, hp, he⟩ := mem_allE.1 he
 exact mem_allE.2 ⟨p, hs p hp, he⟩
theorem Bef.mono {ps qs : List PartP} {a b : Vtx} (h : Bef ps a b) (hs : ∀ p ∈ ps, p ∈ qs) : Bef qs a b :=
 ⟨h.1.mono hs, h.2.1.mono hs, h.2.2.1, h.2.2.2.1, h.2.2.2.2.1, h.2.2.2.2.2.imp_right fun h => h.imp_right fun h => h.mono (allE_mono hs)⟩
theorem rch_back {p : PartP} {ps : List PartP} (hown : ∀ v ∈ own p, ∀ e ∈ allE ps, e.1 ≠ v ∧ e.2 ≠ v) (hnu : p.up ∉ own p) (hnd : p.down ∉ own p) (hb : p.up = rootV ∨ p.down = endV ∨ Rch (allE ps) p.up p.down)
  (hnr : ∀ e ∈ allE (p :: ps), e.2 ≠ rootV) (hne : ∀ e ∈ allE (p :: ps), e.1 ≠ endV) {u y : Vtx} (h : Rch (allE (p :: ps)) u y) (hy : y ∉ own p) (hye : y ≠ endV) :
  (u ∉ own p → u ≠ rootV → Rch (allE ps) u y) ∧ (u ∈ own p → p.down = y ∨ Rch (allE ps) p.down y) := by
 have split : ∀ e, e ∈ allE (p :: ps) → e ∈ edges p ∨ e ∈ allE ps := fun e he => by
  obtain ⟨q, hq, he2⟩ := mem_allE.1 he
  rcases List.mem_cons.1 hq with rfl | hq
  ·exact .inl he2
  ·exact .inr (mem_allE.2 ⟨q, hq, he2⟩)
 have nodown : ∀ {c : Vtx}, (p.down = c ∨ Rch (allE ps) p.down c) → c ≠ endV → p.down ≠ endV := by
  intro c h hc e
  rcases h with h | h
  ·exact hc (h ▸ e)
  ·rw [e] at h
   obtain ⟨d, hd⟩ := h.src
   exact hne _ (allE_mono (fun q hq => List.mem_cons_of_mem _ hq) _ hd) rfl
 induction h with
 | @one u y h =>
  rcases split _ h with h1 | h1
  ·constructor
   ·intro hu _
    rcases edge_own h1 with h2 | h2
    ·exact absurd h2 hu
    ·exact absurd h2 hy
   ·intro hu
    rcases edge_tgt h1 with h2 | h2
    ·exact .inl h2.symm
    ·exact absurd h2 hy
  ·exact ⟨fun _ _ => .one h1, fun hu => absurd rfl (hown _ hu _ h1).1⟩
 | @cons u c y h t ih =>
  obtain ⟨i1, i2⟩ := ih hy hye
  have hcr : c ≠ rootV := hnr _ h
  rcases split _ h with h1 | h1
  ·constructor
   ·intro hu hur
    have hc : c ∈ own p := (edge_own h1).resolve_left hu
    have hup : u = p.up := (edge_src h1).resolve_right hu
    have h3 := i2 hc
    have hde := nodown h3 hye
    have hrch : Rch (allE ps) p.up p.down := by
     rcases hb with hb | hb | hb
     ·exact absurd (hup.trans hb) hur
     ·exact absurd hb hde
     ·exact hb
    rw [hup]
    rcases h3 with h3 | h3
    ·rw [← h3]; exact hrch
    ·exact hrch.trans h3
   ·intro hu
    rcases edge_tgt h1 with h2 | h2
    ·by_cases hc : c ∈ own p
     ·exact i2 hc
     ·right
      have h2' : c = p.down := h2
      rw [← h2']
      exact i1 hc hcr
    ·exact i2 h2
  ·constructor
   ·intro hu hur
    have hc : c ∉ own p := fun hc => (hown _ hc _ h1).2 rfl
    exact .cons h1 (i1 hc hcr)
   ·intro hu; exact absurd rfl (hown _ hu _ h1).1
theorem New.fresh {ps : List PartP} {p : PartP} (h : New ps p) (t : Sq ps) : (∀ v ∈ GP.own p, ∀ e ∈ allE ps, e.1 ≠ v ∧ e.2 ≠ v) ∧ (∀ v, HasV ps v → v ∉ GP.own p) := by
 have hvold : ∀ v, HasV ps v → v ∉ GP.own p := by
  intro v hv hm
  have := ge_ne (own_ge h.first hm)
  rcases hv with hv | hv | hv
  ·exact this.1 hv
  ·exact this.2 hv
  ·exact h.own v hm hv
 refine ⟨fun v hv e he => ⟨?_, ?_⟩, hvold⟩
 ·rintro rfl; exact hvold _ ((t.edge he).1.imp_right .inr) hv
 ·rintro rfl; exact hvold _ (.inr (t.edge he).2) hv
theorem New.names_has {ps : List PartP} {p : PartP} (h : New ps p) {v : Vtx} (hv : v ∈ names p) : HasV ps v := by
 unfold names at hv
 rcases List.mem_cons.1 hv with rfl | hv
 ·exact h.up
 rcases List.mem_cons.1 hv with rfl | hv
 ·exact h.down
 ·exact .inr (.inr (h.gone v hv))
theorem Sq.names_has {ps : List PartP} (h : Sq ps) {q : PartP} (hq : q ∈ ps) {v : Vtx} (hv : v ∈ names q) : HasV ps v := by
 induction h with
 | nil => cases hq
 | @cons p ps h t ih =>
  rcases List.mem_cons.1 hq with rfl | hq
  ·exact (h.names_has hv).mono fun r hr => List.mem_cons_of_mem _ hr
  ·exact (ih hq).mono fun r hr => List.mem_cons_of_mem _ hr
theorem Sq.gone_has {ps : List PartP} (h : Sq ps) {q : PartP} (hq : q ∈ ps) {v : Vtx} (hv : v ∈ q.gone) : HasV ps v := h.names_has hq (List.mem_cons_of_mem _ (List.mem_cons_of_mem _ hv))
theorem Bef.trans {ps : List PartP} (hs : Sq ps) {a b c : Vtx} (h : Bef ps a b) (k : Bef ps b c) : Bef ps a c := by
 obtain ⟨a1, a2, a3, a4, a5, a6⟩ := h
 obtain ⟨b1, b2, b3, b4, b5, b6⟩ := k
 have hbr : b ≠ rootV := a5
 have hbe : b ≠ endV := b4
 have h6 := b6.resolve_left hbr
 by_cases har : a = rootV
 ·exact ⟨a1, b2, by rw [har]; exact fun e => b5 e.symm, a4, b5, .inl har⟩
 by_cases hce : c = endV
 ·exact ⟨a1, b2, by rw [hce]; exact a4, a4, b5, .inr (.inl hce)⟩
 have r1 := (a6.resolve_left har).resolve_left hbe
 have r2 := h6.resolve_left hce
 have r3 := r1.trans r2
 exact ⟨a1, b2, fun e => hs.irrefl (e ▸ r3), a4, b5, .inr (.inr r3)⟩
theorem Bef.asymm {ps : List PartP} (hs : Sq ps) {a b : Vtx} (h : Bef ps a b) (k : Bef ps b a) : False := (h.trans hs k).2.2.1 rfl
end Go.GP

namespace Go.GP
open Go.SL
structure NodeP where
 text : ByteArray
 gone : Int
 named : Int
 next : List Vtx
def zN : NodeP := ⟨⟨#[]⟩, 0, 0, []⟩
instance : Inhabited NodeP := ⟨zN⟩
structure Gr where
 parts : List ((HashB × Int) × PartP)
 nodes : List (Vtx × NodeP)
 first : List Vtx
def nd (N : List (Vtx × NodeP)) (v : Vtx) : NodeP := (mgt N v).getD zN
def behindG (G : Gr) (v : Vtx) : List Vtx := if v = rootV then G.first else (nd G.nodes v).next
def linkG (there : Bool) (G : Gr) (e : Vtx × Vtx) : Gr :=
 if e.1 = rootV then { G with first := if there then behindG G e.1 ++ [e.2] else (behindG G e.1).erase e.2 }
 else { G with nodes := mpt G.nodes e.1 { nd G.nodes e.1 with next := if there then behindG G e.1 ++ [e.2] else (behindG G e.1).erase e.2 } }
def linksG (there : Bool) (G : Gr) (es : List (Vtx × Vtx)) : Gr := es.foldl (linkG there) G
def name1 (d : Int) (N : List (Vtx × NodeP)) (v : Vtx) : List (Vtx × NodeP) := match mgt N v with | some n => mpt N v { n with named := n.named + d } | none => N
def gone1 (d : Int) (N : List (Vtx × NodeP)) (v : Vtx) : List (Vtx × NodeP) := mpt N v { nd N v with gone := (nd N v).gone + d }
def countG (d : Int) (N : List (Vtx × NodeP)) (p : PartP) : List (Vtx × NodeP) := p.gone.foldl (gone1 d) ((names p).foldl (name1 d) N)
def laidN (N : List (Vtx × NodeP)) (p : PartP) (k : Nat) : List (Vtx × NodeP) := (List.range k).foldl (fun N i => mpt N (p.vtx i) ⟨p.lines[i]!, 0, 0, []⟩) N
def addG (G : Gr) (p : PartP) : Gr :=
 let G1 := linksG true { parts := mpt G.parts p.name p, nodes := laidN G.nodes p p.lines.length, first := G.first } (edges p)
 { G1 with nodes := countG 1 G1.nodes p }
def HasG (G : Gr) (v : Vtx) : Prop := v = rootV ∨ v = endV ∨ v ∈ mks G.nodes
def EG (N : List (Vtx × NodeP)) : List (Vtx × Vtx) := N.flatMap fun p => p.2.next.map fun w => (p.1, w)
def BefG (G : Gr) (a b : Vtx) : Prop := HasG G a ∧ HasG G b ∧ a ≠ b ∧ a ≠ endV ∧ b ≠ rootV ∧ (a = rootV ∨ b = endV ∨ Rch (EG G.nodes) a b)
def ThereG (G : Gr) (p : PartP) : Prop := p.name ∈ mks G.parts ∨ ∃ v ∈ own p, v ∈ mks G.nodes
structure Formed (p : PartP) : Prop where
 gone0 : p.gone.Nodup
 goneR : ∀ v ∈ p.gone, v ≠ rootV ∧ v ≠ endV
 first : 0 ≤ p.first
 upE : p.up ≠ endV
 downR : p.down ≠ rootV
def outE (ps : List PartP) (v : Vtx) : List Vtx := ((allE ps).filter fun e => decide (e.1 = v)).map (·.2)
def cntV (v : Vtx) (l : List Vtx) : Int := (l.count v : Nat)
structure NodeOk (ps : List PartP) (v : Vtx) (n : NodeP) : Prop where
 gone : n.gone = cntV v (ps.flatMap (·.gone))
 named : n.named = cntV v (ps.flatMap names)
 next : n.next.Perm (outE ps v)
structure Inv (ps : List PartP) (G : Gr) : Prop where
 pk : (mks G.parts).Nodup
 part : ∀ q, (q.name, q) ∈ G.parts ↔ q ∈ ps
 pname : ∀ q ∈ G.parts, q.1 = q.2.name
 nk : (mks G.nodes).Nodup
 keys : ∀ v, v ∈ mks G.nodes ↔ v ∈ allV ps
 node : ∀ v n, mgt G.nodes v = some n → NodeOk ps v n
 text : ∀ p ∈ ps, ∀ i s, p.lines[i]? = some s → (nd G.nodes (p.vtx i)).text = s
 first : G.first.Perm (outE ps rootV)
theorem Inv.nil : Inv [] ⟨[], [], []⟩ := ⟨by simp [mks], by simp, by simp, by simp [mks], by simp [mks, allV], by simp [mgt_nil], by simp, by simp [outE, allE]⟩
theorem mks_mpt_mem {α β : Type} [DecidableEq α] (l : List (α × β)) (a c : α) (b : β) : c ∈ mks (mpt l a b) ↔ c = a ∨ c ∈ mks l := by
 rw [mks_mpt]
 split
 ·rename_i h
  constructor
  ·exact .inr
  ·rintro (rfl | h2)
   ·exact h
   ·exact h2
 ·simp; exact or_comm
theorem mem_mks {α β : Type} [DecidableEq α] {l : List (α × β)} {a : α} : a ∈ mks l ↔ ∃ b, mgt l a = some b := by
 constructor
 ·intro h
  cases e : mgt l a with
  | none => exact absurd h (mgt_none.1 e)
  | some b => exact ⟨b, rfl⟩
 ·rintro ⟨b, h⟩
  exact List.mem_map.2 ⟨_, mgt_some_mem h, rfl⟩
theorem nd_some {N : List (Vtx × NodeP)} {v : Vtx} (h : v ∈ mks N) : mgt N v = some (nd N v) := by
 obtain ⟨b, hb⟩ := mem_mks.1 h
 unfold nd
 rw [hb]; rfl
theorem nd_mpt (N : List (Vtx × NodeP)) (a c : Vtx) (n : NodeP) : nd (mpt N a n) c = if c = a then n else nd N c := by
 unfold nd
 rw [mgt_mpt]
 split <;> rfl
theorem laidN_spec {N : List (Vtx × NodeP)} {p : PartP} : ∀ k, k ≤ p.lines.length → (∀ v, v ∈ mks (laidN N p k) ↔ v ∈ mks N ∨ ∃ i, i < k ∧ p.vtx i = v) ∧ ((mks N).Nodup → (mks (laidN N p k)).Nodup) ∧
  (∀ v, (∀ i, i < k → p.vtx i ≠ v) → nd (laidN N p k) v = nd N v) ∧ ∀ i, i < k → nd (laidN N p k) (p.vtx i) = ⟨p.lines[i]!, 0, 0, []⟩
 | 0, _ => by simp [laidN]
 | k + 1, h => by
  obtain ⟨h1, h2, h3, h4⟩ := laidN_spec (N := N) (p := p) k (by omega)
  have e : laidN N p (k + 1) = mpt (laidN N p k) (p.vtx k) ⟨p.lines[k]!, 0, 0, []⟩ := by
   unfold laidN
   rw [List.range_succ, List.foldl_append]
   rfl
  rw [e]
  refine ⟨fun v => ?_, fun hn => mpt_nodup (h2 hn) _ _, fun v hv => ?_, fun i hi => ?_⟩
  ·rw [mks_mpt_mem, h1]
   constructor
   ·rintro (rfl | h | ⟨i, hi, rfl⟩)
    ·exact .inr ⟨k, by omega, rfl⟩
    ·exact .inl h
    ·exact .inr ⟨i, by omega, rfl⟩
   ·rintro (h | ⟨i, hi, rfl⟩)
    ·exact .inr (.inl h)
    ·by_cases hk : i = k
     ·subst hk; exact .inl rfl
     ·exact .inr (.inr ⟨i, by omega, rfl⟩)
  ·rw [nd_mpt, if_neg (fun e => hv k (by omega) e.symm)]
   exact h3 v fun i hi => hv i (by omega)
  ·rw [nd_mpt]
   by_cases hk : i = k
   ·subst hk; rw [if_pos rfl]
   ·rw [if_neg (fun e => hk (vtx_inj e))]
    exact h4 i (by omega)
theorem name1_spec (d : Int) (N : List (Vtx × NodeP)) (v : Vtx) : mks (name1 d N v) = mks N ∧ ∀ c, nd (name1 d N v) c = if c = v ∧ c ∈ mks N then { nd N c with named := (nd N c).named + d } else nd N c := by
 unfold name1
 cases e : mgt N v with
 | none =>
  refine ⟨rfl, fun c => ?_⟩
  have := mgt_none.1 e
  by_cases hc : c = v ∧ c ∈ mks N
  ·exact absurd (hc.1 ▸ hc.2) this
  ·rw [if_neg hc]
 | some n =>
  have hm : v ∈ mks N := mem_mks.2 ⟨n, e⟩
  have hn : nd N v = n := by unfold nd; rw [e]; rfl
  refine ⟨by simp only; rw [mks_mpt, if_pos hm], fun c => ?_⟩
  simp only
  rw [nd_mpt]
  by_cases hc : c = v
  ·subst hc
   rw [if_pos rfl, if_pos ⟨rfl, hm⟩, hn]
  ·rw [if_neg hc, if_neg (fun h => hc h.1)]
theorem cntV_cons (v a : Vtx) (l : List Vtx) : cntV v (a :: l) = cntV v l + if a = v then 1 else 0 := by
 unfold cntV
 rw [List.count_cons]
 by_cases h : a = v
 ·simp [h]
 ·simp [h]
theorem cntV_app (v : Vtx) (a b : List Vtx) : cntV v (a ++ b) = cntV v a + cntV v b := by
 unfold cntV
 rw [List.count_append]
 omega
theorem names_spec (d : Int) : ∀ (l : List Vtx) (N : List (Vtx × NodeP)), mks (l.foldl (name1 d) N) = mks N ∧ ∀ c ∈ mks N, nd (l.foldl (name1 d) N) c = { nd N c with named := (nd N c).named + d * cntV c l }
 | [], N => by simp [cntV]
 | a :: l, N => by
  obtain ⟨h1, h2⟩ := name1_spec d N a
  obtain ⟨i1, i2⟩ := names_spec d l (name1 d N a)
  simp only [List.foldl_cons]
  refine ⟨i1.trans h1, fun c hc => ?_⟩
  rw [i2 c (by rw [h1]; exact hc), h2, cntV_cons]
  by_cases hca : c = a
  ·subst hca
   rw [if_pos ⟨rfl, hc⟩, if_pos rfl]
   simp only [NodeP.mk.injEq, true_and, and_true]
   rw [Int.mul_add]; omega
  ·rw [if_neg (fun h => hca h.1), if_neg (fun h => hca h.symm)]
   simp
theorem gone1_spec (d : Int) (N : List (Vtx × NodeP)) (v : Vtx) : (∀ c, c ∈ mks (gone1 d N v) ↔ c = v ∨ c ∈ mks N) ∧ ((mks N).Nodup → (mks (gone1 d N v)).Nodup) ∧ ∀ c, nd (gone1 d N v) c = if c = v then { nd N c with gone := (nd N c).gone + d } else nd N c := by
 unfold gone1
 refine ⟨fun c => mks_mpt_mem _ _ _ _, fun h => mpt_nodup h _ _, fun c => ?_⟩
 rw [nd_mpt]
 split
 ·rename_i h; subst h; rfl
 ·rfl
theorem gones_spec (d : Int) : ∀ (l : List Vtx) (N : List (Vtx × NodeP)), (∀ v ∈ l, v ∈ mks N) → (∀ c, c ∈ mks (l.foldl (gone1 d) N) ↔ c ∈ mks N) ∧ ((mks N).Nodup → (mks (l.foldl (gone1 d) N)).Nodup) ∧
  ∀ c, nd (l.foldl (gone1 d) N) c = { nd N c with gone := (nd N c).gone + d * cntV c l }
 | [], N, _ => by simp [cntV]
 | a :: l, N, h => by
  obtain ⟨h1, h2, h3⟩ := gone1_spec d N a
  have ha := h a (by simp)
  obtain ⟨i1, i2, i3⟩ := gones_spec d l (gone1 d N a) (fun v hv => (h1 v).2 (.inr (h v (by simp [hv]))))
  simp only [List.foldl_cons]
  refine ⟨fun c => ?_, fun hn => i2 (h2 hn), fun c => ?_⟩
  ·rw [i1, h1]
   constructor
   ·rintro (rfl | h)
    ·exact ha
    ·exact h
   ·exact .inr
  ·rw [i3, h3, cntV_cons]
   by_cases hca : c = a
   ·subst hca
    rw [if_pos rfl, if_pos rfl]
    simp only [NodeP.mk.injEq, true_and, and_true]
    rw [Int.mul_add]; omega
   ·rw [if_neg hca, if_neg (fun h => hca h.symm)]
    simp
theorem countG_spec {d : Int} {N : List (Vtx × NodeP)} {p : PartP} (hg : ∀ v ∈ p.gone, v ∈ mks N) : (∀ c, c ∈ mks (countG d N p) ↔ c ∈ mks N) ∧ ((mks N).Nodup → (mks (countG d N p)).Nodup) ∧
  ∀ c ∈ mks N, nd (countG d N p) c = ⟨(nd N c).text, (nd N c).gone + d * cntV c p.gone, (nd N c).named + d * cntV c (names p), (nd N c).next⟩ := by
 obtain ⟨h1, h2⟩ := names_spec d (names p) N
 obtain ⟨i1, i2, i3⟩ := gones_spec d p.gone ((names p).foldl (name1 d) N) (fun v hv => by rw [h1]; exact hg v hv)
 unfold countG
 refine ⟨fun c => by rw [i1, h1], fun hn => i2 (by rw [h1]; exact hn), fun c hc => ?_⟩
 rw [i3, h2 c hc]
def outL (es : List (Vtx × Vtx)) (v : Vtx) : List Vtx := (es.filter fun e => decide (e.1 = v)).map (·.2)
theorem outL_cons (e : Vtx × Vtx) (es : List (Vtx × Vtx)) (v : Vtx) : outL (e :: es) v = (if e.1 = v then [e.2] else []) ++ outL es v := by
 unfold outL
 rw [List.filter_cons]
 by_cases h : e.1 = v <;> simp [h]
def undo (there : Bool) (l es : List Vtx) : List Vtx := es.foldl (fun l w => if there then l ++ [w] else l.erase w) l
theorem linkG_spec (there : Bool) (G : Gr) (e : Vtx × Vtx) (he : e.1 = rootV ∨ e.1 ∈ mks G.nodes) (hr : rootV ∉ mks G.nodes) : (linkG there G e).parts = G.parts ∧ mks (linkG there G e).nodes = mks G.nodes ∧
  (∀ c ∈ mks G.nodes, nd (linkG there G e).nodes c = { nd G.nodes c with next := undo there (nd G.nodes c).next (outL [e] c) }) ∧ (linkG there G e).first = undo there G.first (outL [e] rootV) := by
 unfold linkG
 by_cases h : e.1 = rootV
 ·rw [if_pos h]
  refine ⟨rfl, rfl, fun c hc => ?_, ?_⟩
  ·have : e.1 ≠ c := fun e2 => hr (by rw [← h, e2]; exact hc)
   rw [outL_cons, if_neg this]
   simp [outL, undo]
  ·rw [outL_cons, if_pos h]
   simp [outL, undo, behindG, h]
 ·have hm := he.resolve_left h
  rw [if_neg h]
  refine ⟨rfl, ?_, fun c hc => ?_, ?_⟩
  ·rw [mks_mpt, if_pos hm]
  ·rw [nd_mpt, outL_cons]
   by_cases hc2 : c = e.1
   ·subst hc2
    rw [if_pos rfl, if_pos rfl]
    simp [outL, undo, behindG, h]
   ·rw [if_neg hc2, if_neg (fun e => hc2 e.symm)]
    simp [outL, undo]
  ·rw [outL_cons, if_neg h]
   simp [outL, undo]
theorem undo_app (there : Bool) (l a b : List Vtx) : undo there l (a ++ b) = undo there (undo there l a) b := by unfold undo; rw [List.foldl_append]
theorem linksG_spec (there : Bool) : ∀ (es : List (Vtx × Vtx)) (G : Gr), (∀ e ∈ es, e.1 = rootV ∨ e.1 ∈ mks G.nodes) → rootV ∉ mks G.nodes → (linksG there G es).parts = G.parts ∧ mks (linksG there G es).nodes = mks G.nodes ∧
  (∀ c ∈ mks G.nodes, nd (linksG there G es).nodes c = { nd G.nodes c with next := undo there (nd G.nodes c).next (outL es c) }) ∧ (linksG there G es).first = undo there G.first (outL es rootV)
 | [], G, _, _ => by simp [linksG, outL, undo]
 | e :: es, G, h, hr => by
  obtain ⟨h1, h2, h3, h4⟩ := linkG_spec there G e (h e (by simp)) hr
  obtain ⟨i1, i2, i3, i4⟩ := linksG_spec there es (linkG there G e) (fun x hx => by rw [h2]; exact h x (by simp [hx])) (by rw [h2]; exact hr)
  have hun : linksG there G (e :: es) = linksG there (linkG there G e) es := rfl
  rw [hun]
  have hout : ∀ v, outL (e :: es) v = outL [e] v ++ outL es v := fun v => by rw [outL_cons, outL_cons]; simp [outL]
  refine ⟨i1.trans h1, i2.trans h2, fun c hc => ?_, ?_⟩
  ·rw [i3 c (by rw [h2]; exact hc), h3 c hc, hout, undo_app]
  ·rw [i4, h4, hout, undo_app]
theorem undo_true (l a : List Vtx) : undo true l a = l ++ a := by
 induction a generalizing l with
 | nil => simp [undo]
 | cons x a ih =>
  have : undo true l (x :: a) = undo true (l ++ [x]) a := rfl
  rw [this, ih]; simp
theorem outE_cons (p : PartP) (ps : List PartP) (v : Vtx) : outE (p :: ps) v = outL (edges p) v ++ outE ps v := by
 unfold outE outL allE
 rw [List.flatMap_cons, List.filter_append, List.map_append]
theorem allV_cons (p : PartP) (ps : List PartP) : allV (p :: ps) = own p ++ allV ps := by unfold allV; rw [List.flatMap_cons]
theorem outL_nil {es : List (Vtx × Vtx)} {v : Vtx} (h : ∀ e ∈ es, e.1 ≠ v) : outL es v = [] := by
 unfold outL
 rw [List.filter_eq_nil_iff.2 (fun e he => by simpa using h e he)]
 rfl
theorem cntV_zero {v : Vtx} {l : List Vtx} (h : v ∉ l) : cntV v l = 0 := by
 unfold cntV
 rw [List.count_eq_zero.2 h]; rfl
theorem Inv.root {ps : List PartP} {G : Gr} (h : Inv ps G) (hs : Sq ps) : rootV ∉ mks G.nodes := fun hm => (hs.line ((h.keys _).1 hm)).1 rfl
theorem Inv.add {ps : List PartP} {G : Gr} {p : PartP} (h : Inv ps G) (hs : Sq ps) (hn : New ps p) : Inv (p :: ps) (addG G p) := by
 have hs' : Sq (p :: ps) := .cons hn hs
 obtain ⟨l1, l2, l3, l4⟩ := laidN_spec (N := G.nodes) (p := p) p.lines.length (Nat.le_refl _)
 have hkeys1 : ∀ v, v ∈ mks (laidN G.nodes p p.lines.length) ↔ v ∈ allV (p :: ps) := fun v => by
  rw [l1, allV_cons, List.mem_append, h.keys, mem_own]; exact or_comm
 generalize hN : laidN G.nodes p p.lines.length = N1 at *
 have hroot1 : rootV ∉ mks N1 := fun hm => (hs'.line ((hkeys1 _).1 hm)).1 rfl
 have hsrc : ∀ e ∈ edges p, e.1 = rootV ∨ e.1 ∈ mks N1 := fun e he => by
  rcases (hs'.edge (mem_allE.2 ⟨p, by simp, he⟩)).1 with h1 | h1
  ·exact .inl h1
  ·exact .inr ((hkeys1 _).2 h1)
 obtain ⟨k1, k2, k3, k4⟩ := linksG_spec true (edges p) { parts := mpt G.parts p.name p, nodes := N1, first := G.first } hsrc hroot1
 have hgo : ∀ v ∈ p.gone, v ∈ mks (linksG true { parts := mpt G.parts p.name p, nodes := N1, first := G.first } (edges p)).nodes := fun v hv => by
  rw [k2]; exact (hkeys1 v).2 (by rw [allV_cons]; exact List.mem_append_right _ (hn.gone v hv))
 obtain ⟨c1, c2, c3⟩ := countG_spec (d := 1) hgo
 have hA : addG G p = { parts := (linksG true { parts := mpt G.parts p.name p, nodes := N1, first := G.first } (edges p)).parts, nodes := countG 1 (linksG true { parts := mpt G.parts p.name p, nodes := N1, first := G.first } (edges p)).nodes p, first := (linksG true { parts := mpt G.parts p.name p, nodes := N1, first := G.first } (edges p)).first } := by
  unfold addG
  rw [hN]
 rw [hA]
 have hnew : p.name ∉ mks G.parts := fun hm => by
  obtain ⟨q, hq⟩ := mem_mks.1 hm
  have hq' := mgt_some_mem hq
  have hnm := h.pname _ hq'
  simp only at hnm
  exact hn.name q ((h.part q).1 (by rw [← hnm]; exact hq')) hnm.symm
 obtain ⟨f1, f2⟩ := hn.fresh hs
 refine ⟨?_, ?_, ?_, ?_, ?_, ?_, ?_, ?_⟩
 ·simp only; rw [k1]; exact mpt_nodup h.pk _ _
 ·intro q
  simp only; rw [k1]
  simp only
  rw [mpt_new (a := p.name) (fun b hb => hnew (List.mem_map.2 ⟨_, hb, rfl⟩)), List.mem_append, h.part, List.mem_singleton, List.mem_cons]
  constructor
  ·rintro (h1 | h1)
   ·exact .inr h1
   ·exact .inl (Prod.mk.inj h1).2
  ·rintro (rfl | h1)
   ·exact .inr rfl
   ·exact .inl h1
 ·intro q
  simp only; rw [k1]
  simp only
  rw [mpt_new (a := p.name) (fun b hb => hnew (List.mem_map.2 ⟨_, hb, rfl⟩)), List.mem_append, List.mem_singleton]
  rintro (h1 | rfl)
  ·exact h.pname q h1
  ·rfl
 ·simp only; exact c2 (by rw [k2]; exact l2 h.nk)
 ·intro v; simp only; rw [c1, k2, hkeys1]
 ·intro v n hv
  simp only at hv
  have hm0 := mem_mks.2 ⟨n, hv⟩
  have hm1 : v ∈ mks N1 := by rw [c1, k2] at hm0; exact hm0
  have hm2 : v ∈ mks (linksG true { parts := mpt G.parts p.name p, nodes := N1, first := G.first } (edges p)).nodes := by rw [k2]; exact hm1
  have hnd := nd_some hm0
  rw [hv] at hnd
  obtain rfl := Option.some.inj hnd
  rw [c3 v hm2, k3 v hm1, undo_true]
  simp only
  by_cases hown : v ∈ own p
  ·obtain ⟨i, hi, rfl⟩ := mem_own.1 hown
   rw [l4 i hi]
   simp only
   have hnv : p.vtx i ∉ allV ps := hn.own _ hown
   refine ⟨?_, ?_, ?_⟩
   ·rw [List.flatMap_cons, cntV_app]
    rw [cntV_zero (v := p.vtx i) (l := p.gone) (fun hm => hnv (hn.gone _ hm)), cntV_zero (v := p.vtx i) (l := ps.flatMap (·.gone)) (fun hm => ?_)]
    ·simp
    ·obtain ⟨q, hq, hm⟩ := List.mem_flatMap.1 hm
     exact (f2 _ (Sq.gone_has hs hq hm)) hown
   ·rw [List.flatMap_cons, cntV_app]
    have a1 : cntV (p.vtx i) (names p) = 0 := cntV_zero fun hm => f2 _ (New.names_has hn hm) hown
    have a2 : cntV (p.vtx i) (ps.flatMap names) = 0 := cntV_zero fun hm => by
     obtain ⟨q, hq, hm⟩ := List.mem_flatMap.1 hm
     exact f2 _ (Sq.names_has hs hq hm) hown
    simp only [a1, a2]
    simp
   ·rw [outE_cons]
    have : outE ps (p.vtx i) = [] := outL_nil fun e he => (f1 _ hown e he).1
    rw [this, List.append_nil, List.nil_append]
  ·have hold : v ∈ mks G.nodes := by
    rw [l1] at hm1
    rcases hm1 with h1 | ⟨i, hi, rfl⟩
    ·exact h1
    ·exact absurd (mem_own.2 ⟨i, hi, rfl⟩) hown
   rw [l3 v (fun i hi e => hown (mem_own.2 ⟨i, hi, e⟩))]
   obtain ⟨o1, o2, o3⟩ := h.node v _ (nd_some hold)
   refine ⟨?_, ?_, ?_⟩
   ·rw [List.flatMap_cons, cntV_app, o1]; simp only; omega
   ·rw [List.flatMap_cons, cntV_app, o2]; simp only; omega
   ·rw [outE_cons]
    exact (List.Perm.append_right _ o3).trans List.perm_append_comm
 ·intro q hq i s hi
  simp only
  have hil : i < q.lines.length := (List.getElem?_eq_some_iff.1 hi).1
  have hm1 : q.vtx i ∈ mks N1 := (hkeys1 _).2 (mem_allV.2 ⟨q, hq, mem_own.2 ⟨i, hil, rfl⟩⟩)
  rw [c3 _ (by rw [k2]; exact hm1), k3 _ hm1]
  simp only
  rcases List.mem_cons.1 hq with rfl | hq
  ·rw [l4 i hil]
   simp only
   rw [getElem!_pos q.lines i hil]
   have := (List.getElem?_eq_some_iff.1 hi).2
   exact this
  ·have : q.vtx i ∈ allV ps := mem_allV.2 ⟨q, hq, mem_own.2 ⟨i, hil, rfl⟩⟩
   rw [l3 _ (fun j hj e => hn.own _ (mem_own.2 ⟨j, hj, e⟩) this)]
   exact h.text q hq i s hi
 ·simp only
  rw [k4, undo_true, outE_cons]
  exact (List.Perm.append_right _ h.first).trans List.perm_append_comm
end Go.GP

namespace Go.Proofs.Gr
open Go.SL Go.RowKit Go.Proofs Go.GP
set_option maxHeartbeats 1000000
def vtxL (v : Vtx) : List Value := bytesC v.1.1 ++ [.int .i64 v.2]
def vtxV (v : Vtx) : Value := .agg (vtxL v).toArray
def vtxs (l : List Vtx) : List Value := l.flatMap vtxL
def okV (v : Vtx) : Prop := -9223372036854775808 ≤ v.2 ∧ v.2 ≤ 9223372036854775807
def v0 : Vtx := (h0, 0)
def z33 : List Value := List.replicate 32 (.int .u8 0) ++ [.int .i64 0]
theorem hb_len (h : HashB) : (bytesC h.1).length = 32 := by rw [bytesC_length]; exact h.2
theorem vtxL_len (v : Vtx) : (vtxL v).length = 33 := by simp [vtxL, hb_len]
theorem vtxs_len (l : List Vtx) : (vtxs l).length = l.length * 33 := by unfold vtxs; rw [List.length_flatMap]; simp [vtxL_len, List.map_const']
theorem vtxs_app (a b : List Vtx) : vtxs (a ++ b) = vtxs a ++ vtxs b := by unfold vtxs; rw [List.flatMap_append]
theorem vtxs_cons (a : Vtx) (b : List Vtx) : vtxs (a :: b) = vtxL a ++ vtxs b := rfl
theorem vtxs_one1 (a : Vtx) : vtxs [a] = vtxL a := by simp [vtxs]
theorem vtxL_one (v : Vtx) : (vtxL v).all (·.oneCell') = true := by rw [vtxL, List.all_append, bytesC_all]; rfl
theorem vtxs_one (l : List Vtx) : (vtxs l).all (·.oneCell') = true := by
 rw [List.all_eq_true]
 intro v hv
 obtain ⟨a, _, h⟩ := List.mem_flatMap.1 hv
 exact List.all_eq_true.1 (vtxL_one a) v h
theorem flat_get {α : Type} [Inhabited α] {enc : α → List Value} {k : Nat} (hk : ∀ x, (enc x).length = k) : ∀ (l : List α) (t : Nat), t < l.length * k → (l.flatMap enc)[t]? = (enc l[t / k]!)[t % k]?
 | [], t, h => by simp at h
 | x :: l, t, h => by
  have h' : t < l.length * k + k := by simpa [Nat.add_mul] using h
  have k0 : 0 < k := by exact Nat.pos_of_ne_zero fun e => by subst e; simp at h
  rw [List.flatMap_cons]
  rcases Nat.lt_or_ge t k with a | a
  ·rw [List.getElem?_append_left (by rw [hk]; exact a), Nat.div_eq_of_lt a, Nat.mod_eq_of_lt a]; simp
  ·obtain ⟨u, rfl⟩ : ∃ u, t = u + k := ⟨t - k, by omega⟩
   rw [List.getElem?_append_right (by rw [hk]; omega), hk, Nat.add_sub_cancel, flat_get hk l u (by omega), Nat.add_div_right _ k0, Nat.add_mod_right]
   simp
theorem vtxs_get {l : List Vtx} {k : Nat} (hk : k < l.length) {j : Nat} (hj : j < 33) : (vtxs l)[k * 33 + j]? = (vtxL l[k])[j]? := by
 unfold vtxs
 rw [flat_get vtxL_len l (k * 33 + j) (by omega), show (k * 33 + j) / 33 = k from by omega, show (k * 33 + j) % 33 = j from by omega, getElem!_pos l k hk]
theorem vtxs_some {w0 : World} {S : SS} {A : Option Addr} {l : List Vtx} (h : Rd w0 S A (vtxs l)) (hk : 0 < l.length) : ∃ a, A = some a :=
 h.some (fun e => by have := vtxs_len l; rw [e] at this; simp at this; omega)
theorem vtx_at {w0 : World} {S : SS} {a : Addr} {l : List Vtx} (h : Rd w0 S (some a) (vtxs l)) {k : Nat} (hk : k < l.length) :
  ∀ (j : Nat) (v : Value), (vtxL l[k])[j]? = some v → Cell w0 S ((a.add (k * 33)).add j) v := by
 intro j v hj
 have hj2 : j < 33 := by have := (List.getElem?_eq_some_iff.1 hj).1; rwa [vtxL_len] at this
 rw [addr_add_add]
 exact h.at (by rw [vtxs_get hk hj2]; exact hj)
theorem bytesC_inj : ∀ {a b : List UInt8}, bytesC a = bytesC b → a = b
 | [], [], _ => rfl
 | [], _ :: _, h => by simp [bytesC] at h
 | _ :: _, [], h => by simp [bytesC] at h
 | a :: l, b :: r, h => by
  simp only [bytesC, List.map_cons, List.cons.injEq, Value.int.injEq, true_and] at h
  obtain ⟨h1, h2⟩ := h
  have h3 : a = b := UInt8.toNat_inj.1 (by omega)
  rw [h3, bytesC_inj h2]
theorem vtxL_inj {a b : Vtx} (h : vtxL a = vtxL b) : a = b := by
 unfold vtxL at h
 obtain ⟨h1, h2⟩ := List.append_inj h (by rw [hb_len, hb_len])
 simp only [List.cons.injEq, Value.int.injEq, true_and, and_true] at h2
 exact Prod.ext (Subtype.ext (bytesC_inj h1)) h2
theorem vtx_inj' {a b : Vtx} (h : vtxV a = vtxV b) : a = b := by
 unfold vtxV at h
 exact vtxL_inj (by simpa using h)
def KV : List CK := [.int .u8, .int .u8, .int .u8, .int .u8, .int .u8, .int .u8, .int .u8, .int .u8, .int .u8, .int .u8, .int .u8, .int .u8, .int .u8, .int .u8, .int .u8, .int .u8, .int .u8, .int .u8, .int .u8, .int .u8, .int .u8, .int .u8, .int .u8, .int .u8, .int .u8, .int .u8, .int .u8, .int .u8, .int .u8, .int .u8, .int .u8, .int .u8, .int .i64]
theorem eqL_bytes : ∀ {x y : List UInt8}, x.length = y.length → eqL (List.replicate x.length (.int .u8)) (bytesC x) (bytesC y) = some (decide (x = y))
 | [], [], _ => rfl
 | a :: l, b :: r, h => by
  have ih := eqL_bytes (x := l) (y := r) (by simpa using h)
  unfold bytesC at ih ⊢
  simp only [List.length_cons, List.replicate_succ, List.map_cons, eqL, eqCell, and_self, if_true, ih, Option.some.injEq]
  by_cases h1 : a = b
  ·subst h1; simp
  ·have : ¬ (a.toNat : Int) = (b.toNat : Int) := fun e => h1 (UInt8.toNat_inj.1 (by omega))
   simp [h1, this]
theorem eqL_app : ∀ {s t : List CK} {a b a' b' : List Value} {p q : Bool}, eqL s a a' = some p → eqL t b b' = some q → eqL (s ++ t) (a ++ b) (a' ++ b') = some (p && q)
 | [], t, a, b, a', b', p, q, h, k => by
  obtain ⟨l1, l2⟩ := eqL_len h
  have e1 : a = [] := List.eq_nil_of_length_eq_zero l1
  have e2 : a' = [] := List.eq_nil_of_length_eq_zero l2
  subst e1; subst e2
  have : p = true := by simpa [eqL] using h.symm
  subst this
  simpa using k
 | c :: s, t, a, b, a', b', p, q, h, k => by
  obtain ⟨x, xs, y, ys, p1, q1, rfl, rfl, h1, h2, rfl⟩ := eqL_cons h
  have := eqL_app h2 k
  simp only [List.cons_append, eqL, h1, this]
  rw [Bool.and_assoc]
theorem eqL_vtx (a b : Vtx) : eqL KV (vtxL a) (vtxL b) = some (decide (a = b)) := by
 have h1 := eqL_bytes (x := a.1.1) (y := b.1.1) (a.1.2.trans b.1.2.symm)
 rw [a.1.2] at h1
 have := eqL_app h1 (show eqL [.int .i64] [.int .i64 a.2] [.int .i64 b.2] = some (decide (a.2 = b.2)) by simp only [eqL, eqCell, and_self, if_true]; rw [Bool.and_true]; congr 1)
 refine (Eq.trans (by rfl) this).trans ?_
 congr 1
 rw [← Bool.decide_and]
 congr 1
 apply propext
 constructor
 ·rintro ⟨h1, h2⟩; exact Prod.ext (Subtype.ext h1) h2
 ·rintro rfl; exact ⟨rfl, rfl⟩
theorem sub_at {w0 : World} {S : SS} {r E tot off : Nat} {c A B C : List Value} (hm : (r, AO.cells c E tot) ∈ S.flatten) (hc : c = A ++ B ++ C) (hA : A.length = off) : ∀ (j : Nat) (v : Value), B[j]? = some v → Cell w0 S ((⟨r, off, none⟩ : Addr).add j) v := by
 intro j v hj
 have hl : j < B.length := (List.getElem?_eq_some_iff.1 hj).1
 have := own_at (w0 := w0) (j := off + j) hm (show c[off + j]? = some v by
  rw [hc, List.append_assoc, List.getElem?_append_right (by omega), List.getElem?_append_left (by omega), show off + j - A.length = j from by omega, hj])
 rw [Addr.add_lit]
 exact this
theorem all_at {w0 : World} {S : SS} {r E tot : Nat} {c : List Value} (hm : (r, AO.cells c E tot) ∈ S.flatten) : ∀ (j : Nat) (v : Value), c[j]? = some v → Cell w0 S ((⟨r, 0, none⟩ : Addr).add j) v := fun j v hj => (Rd.own hm).at hj
theorem vtx_read {w0 : World} {S : SS} {r E tot : Nat} {v : Vtx} (hm : (r, AO.cells (vtxL v) E tot) ∈ S.flatten) : ReadsAs w0 S (some 33) ⟨r, 0, none⟩ (vtxV v) := ⟨vtxL v, rfl, vtxL_len v, all_at hm⟩
theorem setAll {c d : List Value} (h : c.length = d.length) : setAt c 0 d = d := by
 rw [setAt_eq _ _ _ (by omega), Nat.zero_add, h.symm, List.drop_length]; simp
theorem vset (h : HashB) (z : Int) : setAt (bytesC h.1 ++ [.int .i64 0]) 32 [.int .i64 z] = vtxL (h, z) := by
 have hh := hb_len h
 rw [setAt_eq _ _ _ (by simp [hh])]
 rw [List.take_append_of_le_length (by omega), List.take_of_length_le (by omega), List.drop_eq_nil_of_le (by simp [hh]), List.append_nil]
 rfl
theorem z33_hash (h : HashB) : setAt z33 0 (bytesC h.1) = bytesC h.1 ++ [.int .i64 0] := by
 have hh := hb_len h
 rw [setAt_eq _ _ _ (by rw [hh]; decide), hh]
 rfl
theorem fill_vtx {T : TT} {h : HashB} {z : Int} {a b : Nat} (h1 : Go.SL.look T a = some (.agg (bytesC h.1).toArray)) (h2 : Go.SL.look T b = some (.int .i64 z)) : fillP T z33 [(0, 32, .t a), (32, 1, .t b)] = some (vtxL (h, z)) := by
 have hh := hb_len h
 have e1 : (Value.agg (bytesC h.1).toArray).cells.size = 32 := by simp [Value.cells, hh]
 have e2 : (Value.agg (bytesC h.1).toArray).cells.toList = bytesC h.1 := rfl
 simp only [fillP, PV.val, h1, h2]
 rw [if_pos ⟨e1, by decide⟩, e2, z33_hash, if_pos ⟨rfl, by simp [hh]⟩]
 exact congrArg some (vset h z)
theorem vtxL_take (v : Vtx) : (vtxL v).take 32 = bytesC v.1.1 := by
 unfold vtxL
 rw [List.take_append_of_le_length (by rw [hb_len]; decide), List.take_of_length_le (by rw [hb_len]; decide)]
theorem vtxL_last (v : Vtx) : (vtxL v)[32]? = some (.int .i64 v.2) := by
 unfold vtxL
 rw [List.getElem?_append_right (by rw [hb_len]; decide), hb_len]; rfl
theorem mapM_some {α β : Type} {f : α → Option β} : ∀ {l : List α}, (∀ a ∈ l, ∃ b, f a = some b) → ∃ r, l.mapM f = some r
 | [], _ => ⟨[], rfl⟩
 | a :: l, h => by
  obtain ⟨b, hb⟩ := h a (by simp)
  obtain ⟨r, hr⟩ := mapM_some (l := l) fun x hx => h x (by simp [hx])
  exact ⟨b :: r, by simp [hb, hr]⟩
theorem lits_byte {e : TypeId} (he : Try.prog.underlying e = some (.int .u8)) (d : Nat) (b : UInt8) : ∃ l, Try.prog.keyLits (d + 1) e [.int .u8 (b.toNat : Int)] = some l := by
 have hw : (Lit.int .u8 (b.toNat : Int)).wf = true := by
  have := b.toNat_lt
  simp only [Lit.wf, Bool.and_eq_true, decide_eq_true_eq]
  constructor
  ·show (0 : Int) ≤ _; omega
  ·show _ ≤ (255 : Int); omega
 exact ⟨[.int .u8 (b.toNat : Int)], by simp only [Program.keyLits, he, hw]; rfl⟩
theorem lits_int {e : TypeId} (he : Try.prog.underlying e = some (.int .i64)) (d : Nat) (z : Int) (h1 : -9223372036854775808 ≤ z) (h2 : z ≤ 9223372036854775807) : ∃ l, Try.prog.keyLits (d + 1) e [.int .i64 z] = some l := by
 have hw : (Lit.int .i64 z).wf = true := by
  simp only [Lit.wf, Bool.and_eq_true, decide_eq_true_eq]
  exact ⟨h1, h2⟩
 exact ⟨[.int .i64 z], by simp only [Program.keyLits, he, hw]; rfl⟩
theorem lits_hash (d : Nat) (h : HashB) : ∃ l, Try.prog.keyLits (d + 1 + 1) 30 (bytesC h.1) = some l := by
 have c30 : Try.prog.cellsOf 30 = 32 := by kernel_rfl
 have c5 : Try.prog.cellsOf 5 = 1 := by kernel_rfl
 have u5 : Try.prog.underlying 5 = some (.int .u8) := Try.underlying5
 have hm : ∀ i ∈ List.range 32, ∃ b, Try.prog.keyLits (d + 1) 5 (((bytesC h.1).drop (i * 1)).take 1) = some b := by
  intro i hi
  have hi' : i < h.1.length := by rw [h.2]; exact List.mem_range.1 hi
  have e : ((bytesC h.1).drop (i * 1)).take 1 = [.int .u8 (h.1[i].toNat : Int)] := by
   unfold bytesC
   rw [Nat.mul_one, List.drop_eq_getElem_cons (by simpa using hi')]
   simp
  rw [e]
  exact lits_byte u5 d _
 obtain ⟨r, hr⟩ := mapM_some hm
 refine ⟨r.flatten, ?_⟩
 unfold Program.keyLits
 simp only [Try.underlying30, c30, c5, hb_len, if_true, hr, Option.map_some]
theorem lits_vtx (d : Nat) (v : Vtx) (hv : okV v) {t : TypeId} {f1 f2 : Field} (hu : Try.prog.underlying t = some (.struct #[f1, f2])) (ht : Try.prog.cellsOf t = 33) (h1 : f1.type = 30) (h2 : f1.offset = 0) (h3 : f2.type = 3) (h4 : f2.offset = 32) (h5 : f1.name ≠ "_") (h6 : f2.name ≠ "_") :
  ∃ l, Try.prog.keyLits (d + 1 + 1 + 1) t (vtxL v) = some l := by
 have c30 : Try.prog.cellsOf 30 = 32 := by kernel_rfl
 have c3 : Try.prog.cellsOf 3 = 1 := by kernel_rfl
 obtain ⟨a, ha⟩ := lits_hash d v.1
 obtain ⟨b, hb⟩ := lits_int (e := 3) Try.underlying3 (d + 1) v.2 hv.1 hv.2
 have e1 : ((vtxL v).drop 0).take 32 = bytesC v.1.1 := vtxL_take v
 have e2 : ((vtxL v).drop 32).take 1 = [.int .i64 v.2] := by
  unfold vtxL
  rw [List.drop_append_of_le_length (by rw [hb_len]; decide), List.drop_eq_nil_of_le (by rw [hb_len]; decide)]; rfl
 refine ⟨[a, b].flatten, ?_⟩
 unfold Program.keyLits
 simp only [hu, ht, vtxL_len]
 rw [if_pos ⟨trivial, by simp [h5, h6]⟩]
 simp [h1, h2, h3, h4, c30, c3, ha, hb, e2, vtxL_take]
theorem vtx_key {t : TypeId} (hk : Try.prog.keyType t = true) {f1 f2 : Field} (hu : Try.prog.underlying t = some (.struct #[f1, f2])) (ht : Try.prog.cellsOf t = 33) (h1 : f1.type = 30) (h2 : f1.offset = 0) (h3 : f2.type = 3) (h4 : f2.offset = 32) (h5 : f1.name ≠ "_") (h6 : f2.name ≠ "_") (v : Vtx) (hv : okV v) :
  ∃ l, keyOf Try.prog t (vtxV v) = some l := by
 have hs : Try.prog.types.size + 1 = 229 + 1 + 1 + 1 := by kernel_rfl
 obtain ⟨l, hl⟩ := lits_vtx 229 v hv hu ht h1 h2 h3 h4 h5 h6
 have hf : (vtxV v).formed Try.prog t = true := by
  unfold vtxV Value.formed
  simp only [hu, List.size_toArray, vtxL_len, ht]
  rfl
 refine ⟨.string (keyBytes l), ?_⟩
 unfold keyOf
 simp only [hu, hk, hf, Bool.and_self, if_true, hs]
 rw [show (vtxV v).cells.toList = vtxL v from rfl, hl]
 rfl
theorem tsize : Try.prog.types.size = 231 := by kernel_rfl
theorem laidOut : laidOutB Try.prog = true := by kernel_rfl
theorem keys32 : Keys Try.prog 32 vtxV okV :=
 ⟨deep_law_gate laidOut (by rw [tsize]; decide) (by rw [tsize]; decide) (by kernel_rfl) (by rw [Try.underlying32]), vtx_key (by kernel_rfl) Try.underlying32 (by kernel_rfl) rfl rfl rfl rfl (by decide) (by decide), fun a b => vtx_inj'⟩
theorem keys97 : Keys Try.prog 97 vtxV okV :=
 ⟨deep_law_gate laidOut (by rw [tsize]; decide) (by rw [tsize]; decide) (by kernel_rfl) (by rw [Try.underlying97]), vtx_key (by kernel_rfl) Try.underlying97 (by kernel_rfl) rfl rfl rfl rfl (by decide) (by decide), fun a b => vtx_inj'⟩
end Go.Proofs.Gr

namespace Go.Proofs.Gr
open Go.SL Go.RowKit Go.Proofs Go.GP
def strs (l : List ByteArray) : List Value := l.map .string
structure NodeM where
 text : ByteArray
 gone : Int
 named : Int
 A : Option Addr
 c : Nat
 next : List Vtx
def zM : NodeM := ⟨⟨#[]⟩, 0, 0, none, 0, []⟩
instance : Inhabited NodeM := ⟨zM⟩
def nodeC (n : NodeM) : List Value := [.string n.text, .int .i64 n.gone, .int .i64 n.named, .slice n.A n.next.length n.c]
def nodeV (n : NodeM) : Value := .agg (nodeC n).toArray
def NodeM.pl (n : NodeM) : NodeP := ⟨n.text, n.gone, n.named, n.next⟩
structure PartM where
 patch : HashB
 at_ : Int
 first : Int
 up : Vtx
 down : Vtx
 LA : Option Addr
 lc : Nat
 lines : List ByteArray
 GA : Option Addr
 gc : Nat
 gone : List Vtx
def PartM.pl (p : PartM) : PartP := ⟨p.patch, p.at_, p.first, p.up, p.down, p.lines, p.gone⟩
def partC (p : PartM) : List Value := bytesC p.patch.1 ++ [.int .i64 p.at_, .int .i64 p.first] ++ vtxL p.up ++ vtxL p.down ++ [.slice p.LA p.lines.length p.lc, .slice p.GA p.gone.length p.gc]
def partV (p : PartM) : Value := .agg (partC p).toArray
def zPart : PartM := ⟨h0, 0, 0, v0, v0, none, 0, [], none, 0, []⟩
instance : Inhabited PartM := ⟨zPart⟩
theorem partC_len (p : PartM) : (partC p).length = 102 := by simp [partC, hb_len, vtxL_len]
theorem partC_one (p : PartM) : (partC p).all (·.oneCell') = true := by
 unfold partC
 simp only [List.all_append, bytesC_all, vtxL_one, Bool.and_true, Bool.true_and]
 rfl
theorem partC_split (p : PartM) : partC p = bytesC p.patch.1 ++ ([.int .i64 p.at_] ++ ([.int .i64 p.first] ++ (vtxL p.up ++ (vtxL p.down ++ ([.slice p.LA p.lines.length p.lc] ++ [.slice p.GA p.gone.length p.gc]))))) := by simp [partC]
theorem partC_at (p : PartM) : (partC p)[32]? = some (.int .i64 p.at_) ∧ (partC p)[33]? = some (.int .i64 p.first) ∧ (partC p)[100]? = some (.slice p.LA p.lines.length p.lc) ∧ (partC p)[101]? = some (.slice p.GA p.gone.length p.gc) := by
 rw [partC_split]
 have h1 := hb_len p.patch
 have h2 := vtxL_len p.up
 have h3 := vtxL_len p.down
 refine ⟨?_, ?_, ?_, ?_⟩
 ·rw [List.getElem?_append_right (by omega), h1]; rfl
 ·rw [List.getElem?_append_right (by omega), h1]; rfl
 ·rw [List.getElem?_append_right (by omega), h1, List.getElem?_append_right (by simp), List.getElem?_append_right (by simp), List.getElem?_append_right (by rw [h2]; simp), h2, List.getElem?_append_right (by rw [h3]; simp), h3]; rfl
 ·rw [List.getElem?_append_right (by omega), h1, List.getElem?_append_right (by simp), List.getElem?_append_right (by simp), List.getElem?_append_right (by rw [h2]; simp), h2, List.getElem?_append_right (by rw [h3]; simp), h3]; rfl
section
variable {w0 : World} {S : SS} {r E tot : Nat} {p : PartM}
theorem part_patch (hm : (r, AO.cells (partC p) E tot) ∈ S.flatten) : ∀ (j : Nat) (v : Value), (bytesC p.patch.1)[j]? = some v → Cell w0 S ((⟨r, 0, none⟩ : Addr).add j) v :=
 sub_at (A := []) (B := bytesC p.patch.1) hm (by rw [partC_split]; simp; rfl) rfl
theorem part_up (hm : (r, AO.cells (partC p) E tot) ∈ S.flatten) : ∀ (j : Nat) (v : Value), (vtxL p.up)[j]? = some v → Cell w0 S ((⟨r, 34, none⟩ : Addr).add j) v :=
 sub_at (A := bytesC p.patch.1 ++ [.int .i64 p.at_, .int .i64 p.first]) (B := vtxL p.up) hm (by rw [partC_split]; simp; rfl) (by simp [hb_len])
theorem part_down (hm : (r, AO.cells (partC p) E tot) ∈ S.flatten) : ∀ (j : Nat) (v : Value), (vtxL p.down)[j]? = some v → Cell w0 S ((⟨r, 67, none⟩ : Addr).add j) v :=
 sub_at (A := bytesC p.patch.1 ++ [.int .i64 p.at_, .int .i64 p.first] ++ vtxL p.up) (B := vtxL p.down) hm (by rw [partC_split]; simp; rfl) (by simp [hb_len, vtxL_len])
theorem part_at (hm : (r, AO.cells (partC p) E tot) ∈ S.flatten) : Cell w0 S ⟨r, 32, none⟩ (.int .i64 p.at_) := own_at hm (partC_at p).1
theorem part_first (hm : (r, AO.cells (partC p) E tot) ∈ S.flatten) : Cell w0 S ⟨r, 33, none⟩ (.int .i64 p.first) := own_at hm (partC_at p).2.1
theorem part_lines (hm : (r, AO.cells (partC p) E tot) ∈ S.flatten) : Cell w0 S ⟨r, 100, none⟩ (.slice p.LA p.lines.length p.lc) := own_at hm (partC_at p).2.2.1
theorem part_gone (hm : (r, AO.cells (partC p) E tot) ∈ S.flatten) : Cell w0 S ⟨r, 101, none⟩ (.slice p.GA p.gone.length p.gc) := own_at hm (partC_at p).2.2.2
end
structure GrM where
 r : Nat
 pb : Nat
 nb : Nat
 FA : Option Addr
 fc : Nat
 parts : List (Vtx × PartM)
 nodes : List (Vtx × NodeM)
 first : List Vtx
 junk : Seg
 lim : Nat
def plP (l : List (Vtx × PartM)) : List ((HashB × Int) × PartP) := l.map fun q => (q.1, q.2.pl)
def plN (l : List (Vtx × NodeM)) : List (Vtx × NodeP) := l.map fun q => (q.1, q.2.pl)
def GrM.gr (m : GrM) : Gr := ⟨plP m.parts, plN m.nodes, m.first⟩
def GrM.cells (m : GrM) : List Value := [.bool true, .map (some m.pb), .map (some m.nb), .slice m.FA m.first.length m.fc]
def GrM.ptr (m : GrM) : Value := .pointer (some ⟨m.r, 0, none⟩)
def GS (m : GrM) : SS := [[(m.r, .cells m.cells 57 4)], [(m.pb, .gm (gmL vtxV partV m.parts))], [(m.nb, .gm (gmL vtxV nodeV m.nodes))], m.junk]
structure NodeOk' (w0 : World) (B : SS) (lim : Nat) (n : NodeM) : Prop where
 rd : Rd w0 B n.A (vtxs n.next)
 ok : ∀ v ∈ n.next, okV v
 len : n.next.length ≤ lim
 gone : -(lim : Int) ≤ n.gone ∧ n.gone ≤ lim
 named : -(lim : Int) ≤ n.named ∧ n.named ≤ lim
structure PartR (p : PartM) : Prop where
 at_ : -9223372036854775808 ≤ p.at_ ∧ p.at_ ≤ 9223372036854775807
 first : -9223372036854775808 ≤ p.first ∧ p.first ≤ 4611686018427387904
 lines : p.lines.length ≤ 1000000000
 gones : p.gone.length ≤ 1000000000
 gcap : p.gone.length ≤ p.gc
 gnil : p.GA = none → p.gc = 0
 up : okV p.up
 down : okV p.down
 gone : ∀ v ∈ p.gone, okV v
structure PartOk' (w0 : World) (S : SS) (p : PartM) : Prop where
 rdL : Rd w0 S p.LA (strs p.lines)
 rdG : Rd w0 S p.GA (vtxs p.gone)
 rng : PartR p
structure GOk (w0 : World) (X : SS) (m : GrM) : Prop where
 pk : ∀ q ∈ m.parts, okV q.1
 part : ∀ q ∈ m.parts, PartOk' w0 (m.junk :: X) q.2
 nk : ∀ q ∈ m.nodes, okV q.1
 node : ∀ q ∈ m.nodes, NodeOk' w0 (m.junk :: X) m.lim q.2
 first : Rd w0 (m.junk :: X) m.FA (vtxs m.first)
 firstOk : ∀ v ∈ m.first, okV v
 firstLen : m.first.length ≤ m.lim
 lim : m.lim ≤ 1000000000000
 pkd : (mks m.parts).Nodup
 nkd : (mks m.nodes).Nodup
theorem GS_mem {m : GrM} {S X : SS} (h : Over (GS m ++ X) S) : (m.r, AO.cells m.cells 57 4) ∈ S.flatten ∧ (m.pb, AO.gm (gmL vtxV partV m.parts)) ∈ S.flatten ∧ (m.nb, AO.gm (gmL vtxV nodeV m.nodes)) ∈ S.flatten ∧ ∀ p ∈ m.junk, p ∈ S.flatten := by
 unfold Over GS at h
 exact ⟨h _ (by simp), h _ (by simp), h _ (by simp), fun p hp => h p (by simp [hp])⟩
theorem _root_.Go.SL.Rd.junk {w0 : World} {m : GrM} {S : SS} {X : SS} {A : Option Addr} {l : List Value} (h : Rd w0 (m.junk :: X) A l) (hS : Over (GS m ++ X) S) : Rd w0 S A l := h.mono fun p hp => by
 rw [List.flatten_cons, List.mem_append] at hp
 rcases hp with hp | hp
 ·exact (GS_mem hS).2.2.2 p hp
 ·exact hS p (by rw [List.flatten_append, List.mem_append]; exact .inr hp)
theorem _root_.Go.SL.Over.app {a b : SS} : Over a (a ++ b) := fun q h => by simp only [List.flatten_append, List.mem_append]; exact .inl h
theorem _root_.Go.SL.Over.appR {a b c : SS} (h : Over a c) : Over a (b ++ c) := fun q hq => by simp only [List.flatten_append, List.mem_append]; exact .inr (h q hq)
theorem _root_.Go.SL.Over.both {a b c : SS} (h : Over b c) : Over (a ++ b) (a ++ c) := fun q hq => by
 rw [List.flatten_append, List.mem_append] at hq ⊢
 exact hq.imp_right (h q)
theorem _root_.Go.SL.Over.trans {a b c : SS} (h : Over a b) (k : Over b c) : Over a c := fun q hq => k q (h q hq)
section
variable {w0 : World} {S X : SS} {m : GrM}
theorem g_made (h : Over (GS m ++ X) S) : Cell w0 S ⟨m.r, 0, none⟩ (.bool true) := own_at (c := m.cells) (GS_mem h).1 rfl
theorem g_parts (h : Over (GS m ++ X) S) : Cell w0 S ⟨m.r, 1, none⟩ (.map (some m.pb)) := own_at (c := m.cells) (GS_mem h).1 rfl
theorem g_nodes (h : Over (GS m ++ X) S) : Cell w0 S ⟨m.r, 2, none⟩ (.map (some m.nb)) := own_at (c := m.cells) (GS_mem h).1 rfl
theorem g_first (h : Over (GS m ++ X) S) : Cell w0 S ⟨m.r, 3, none⟩ (.slice m.FA m.first.length m.fc) := own_at (c := m.cells) (GS_mem h).1 rfl
end
theorem mks_plN (l : List (Vtx × NodeM)) : mks (plN l) = mks l := by unfold mks plN; simp [List.map_map, Function.comp_def]
theorem mgt_map {α β γ : Type} [DecidableEq α] (h : β → γ) (l : List (α × β)) (a : α) : mgt (l.map fun q => (q.1, h q.2)) a = (mgt l a).map h := by
 induction l with
 | nil => rfl
 | cons p l ih =>
  rw [List.map_cons, mgt_cons, mgt_cons, ih]
  split <;> rfl
theorem mpt_map {α β γ : Type} [DecidableEq α] (h : β → γ) (l : List (α × β)) (a : α) (b : β) : (mpt l a b).map (fun q => (q.1, h q.2)) = mpt (l.map fun q => (q.1, h q.2)) a (h b) := by
 induction l with
 | nil => rfl
 | cons p l ih =>
  rw [List.map_cons]
  unfold mpt
  simp only
  split
  ·rfl
  ·rw [List.map_cons, ih]
theorem mgt_plN (l : List (Vtx × NodeM)) (v : Vtx) : mgt (plN l) v = (mgt l v).map NodeM.pl := mgt_map _ l v
theorem mpt_plN (l : List (Vtx × NodeM)) (v : Vtx) (n : NodeM) : plN (mpt l v n) = mpt (plN l) v n.pl := mpt_map _ l v n
theorem mpt_plP (l : List (Vtx × PartM)) (v : Vtx) (n : PartM) : plP (mpt l v n) = mpt (plP l) v n.pl := mpt_map _ l v n
theorem nd_plN (l : List (Vtx × NodeM)) (v : Vtx) : nd (plN l) v = ((mgt l v).getD zM).pl := by
 unfold nd
 rw [mgt_plN]
 cases mgt l v <;> rfl
instance {G : Gr} {v : Vtx} : Decidable (HasG G v) := by unfold HasG; infer_instance
theorem mks_plP (l : List (Vtx × PartM)) : mks (plP l) = mks l := by unfold mks plP; simp [List.map_map, Function.comp_def]
theorem isSome_mks {α β : Type} [DecidableEq α] {l : List (α × β)} {a : α} [Decidable (a ∈ mks l)] : (mgt l a).isSome = decide (a ∈ mks l) := by
 cases h : mgt l a with
 | none => simp [mgt_none.1 h]
 | some b => simp [mem_mks.2 ⟨b, h⟩]
end Go.Proofs.Gr

namespace Go.Proofs.Gr
open Go.SL Go.RowKit Go.Proofs Go.GP
set_option maxHeartbeats 1000000
abbrev vseg (r : Nat) (v : Vtx) : Seg := [(r, .cells (vtxL v) 32 33)]
theorem vtx_box (v : Vtx) : (vtxV v).cells.toList = vtxL v := rfl
theorem part_box (p : PartM) : (partV p).cells.toList = partC p := rfl
theorem zero100 : ∃ i, Try.prog.info? 100 = some i ∧ i.zero = some (nodeV zM) := Option.bind_eq_some_iff.1 (show (Try.prog.info? 100).bind (·.zero) = some (nodeV zM) by kernel_rfl)
theorem zero36 : ∃ i, Try.prog.info? 36 = some i ∧ i.zero = some (partV zPart) := Option.bind_eq_some_iff.1 (show (Try.prog.info? 36).bind (·.zero) = some (partV zPart) by kernel_rfl)
theorem root_fc {w0 : World} {S : SS} : FC Try.prog w0 66 [] S (fun v S' => v = vtxV rootV ∧ S' = S) := by
 refine FC.ofC Try.known66 (by simp) ?_
 unfold Try.pc66
 simp only [argT]
 refine PW.seqOps ?_
 refine OL.cons trivial OW.al ?_
 rintro _ _ ⟨r0, rfl, rfl⟩
 refine OL.nil ?_
 refine PW.keep (T' := [(0, _)]) ⟨rfl, trivial⟩ ?_
 refine PW.seqOps ?_
 refine OL.det trivial (Yields.build rfl) ?_
 refine OL.cons trivial (OW.st (k := 0) rfl rfl rfl rfl (by first | decide | (simp; done) | (simp; omega)) (by first | rfl | simp)) ?_
 rintro _ _ rfl
 refine OL.nil ?_
 refine PW.keep (T' := [(0, _)]) ⟨rfl, trivial⟩ ?_
 refine PW.ret ?_
 change (Exit.ret = Exit.normal ∨ Exit.ret = Exit.ret) ∧ ∃ a v, Go.SL.look _ _ = some (.pointer (some a)) ∧ ReadsAs _ _ _ _ _ ∧ _
 exact ⟨.inr rfl, _, _, rfl, vtx_read (r := r0) (v := rootV) (E := 32) (tot := 33) (List.Mem.head _), _, Sub.drop (Sub.refl _), rfl, rfl⟩
theorem end_fc {w0 : World} {S : SS} : FC Try.prog w0 65 [] S (fun v S' => v = vtxV endV ∧ S' = S) := by
 refine FC.ofC Try.known65 (by simp) ?_
 unfold Try.pc65
 simp only [argT]
 refine PW.seqOps ?_
 refine OL.cons trivial OW.al ?_
 rintro _ _ ⟨r0, rfl, rfl⟩
 refine OL.nil ?_
 refine PW.keep (T' := [(0, _)]) ⟨rfl, trivial⟩ ?_
 refine PW.seqOps ?_
 refine OL.det trivial (Yields.build rfl) ?_
 refine OL.cons trivial (OW.st (k := 0) rfl rfl rfl rfl (by first | decide | (simp; done) | (simp; omega)) (by first | rfl | simp)) ?_
 rintro _ _ rfl
 refine OL.nil ?_
 refine PW.keep (T' := [(0, _)]) ⟨rfl, trivial⟩ ?_
 refine PW.ret ?_
 change (Exit.ret = Exit.normal ∨ Exit.ret = Exit.ret) ∧ ∃ a v, Go.SL.look _ _ = some (.pointer (some a)) ∧ ReadsAs _ _ _ _ _ ∧ _
 exact ⟨.inr rfl, _, _, rfl, vtx_read (r := r0) (v := endV) (E := 32) (tot := 33) (List.Mem.head _), _, Sub.drop (Sub.refl _), rfl, rfl⟩
theorem node_st {w0 : World} {S : SS} {P : Program} {n r : Nat} {T : TT} {x v : PV} {u : NodeM} (hx : x.val T = some (.pointer (some ⟨r, 0, none⟩))) (hv : v.val T = some (nodeV u)) (a b c d : Value) :
  OW P w0 n (.st 4 x v) T ([(r, .cells [a, b, c, d] 100 4)] :: S) (fun _ S' => S' = [(r, .cells (nodeC u) 100 4)] :: S) :=
 OW.st (k := 0) (c := [a, b, c, d]) (u := nodeV u) hx hv rfl rfl (Nat.le_refl 4) rfl
theorem is_fc {w0 : World} {S X : SS} {m : GrM} (hS : Over (GS m ++ X) S) : FC Try.prog w0 48 [m.ptr] S (fun v S' => v = .bool true ∧ S' = S) := by
 refine FC.of Try.known48 (by simp) ?_
 unfold Try.pc48
 simp only [argT]
 refine PW.seqOps ?_
 refine OL.dp rfl ?_
 refine OL.nil ?_
 refine PW.keep (T' := [(0, _)]) ⟨rfl, trivial⟩ ?_
 refine PW.seqOps ?_
 refine OL.dp rfl ?_
 refine OL.det trivial (Yields.eqPn rfl rfl) ?_
 refine OL.dp rfl ?_
 refine OL.det rfl (Yields.pure rfl) ?_
 refine OL.det rfl (Yields.nilc rfl) ?_
 refine OL.det rfl (Yields.pure rfl) ?_
 refine OL.det rfl (Yields.ld rfl (g_made hS)) ?_
 refine OL.dp rfl ?_
 refine OL.dp rfl ?_
 refine OL.nil ?_
 refine PW.keep (T' := [(2, _)]) ⟨rfl, trivial⟩ ?_
 refine PW.ret ?_
 change (Exit.ret = Exit.normal ∨ Exit.ret = Exit.ret) ∧ ∃ v, resV _ _ = some v ∧ _
 exact ⟨.inr rfl, _, rfl, rfl, rfl⟩
theorem vertex_fc {w0 : World} {S : SS} {p : PartM} {i : Nat} (hr : PartR p) (hi : (i : Int) ≤ 4611686018427387903) : FC Try.prog w0 58 [partV p, .int .i64 (i : Int)] S (fun v S' => v = vtxV (p.pl.vtx i) ∧ S' = S) := by
 have h1 := hr.first
 refine FC.ofC Try.known58 (by simp) ?_
 unfold Try.pc58
 simp only [argT]
 refine PW.seqOps ?_
 refine OL.cons trivial (OW.bx rfl) ?_
 rintro _ _ ⟨r2, rfl, rfl⟩
 rw [part_box, partC_len]
 refine OL.cons trivial OW.al ?_
 rintro _ _ ⟨r4, rfl, rfl⟩
 refine OL.nil ?_
 refine PW.keep (T' := [(1, _), (2, _), (4, _)]) ⟨rfl, rfl, rfl, trivial⟩ ?_
 refine PW.seqOps ?_
 refine OL.dp rfl ?_
 refine OL.det trivial (Yields.ldA rfl (hb_len _) (part_patch (p := p) (E := 36) (tot := 102) (List.mem_flatten.2 ⟨_, .tail _ (.head _), List.mem_singleton.2 rfl⟩))) ?_
 refine OL.dp rfl ?_
 refine OL.det trivial (Yields.ld rfl (part_first (p := p) (E := 36) (tot := 102) (List.mem_flatten.2 ⟨_, .tail _ (.head _), List.mem_singleton.2 rfl⟩))) ?_
 refine OL.dp rfl ?_
 refine OL.det trivial (Yields.add64 rfl rfl (by omega) (by omega)) ?_
 refine OL.det trivial (Yields.build (fill_vtx rfl rfl)) ?_
 refine OL.cons trivial (OW.st (k := 0) (u := vtxV (p.patch, p.first + (i : Int))) rfl rfl rfl (by rw [vtxV]; exact (List.size_toArray).trans (vtxL_len _)) (by decide) (vtxL_one _)) ?_
 rintro _ _ rfl
 rw [vtx_box, setAll (by rw [vtxL_len]; rfl)]
 refine OL.nil ?_
 refine PW.keep (T' := [(4, _)]) ⟨rfl, trivial⟩ ?_
 refine PW.ret ?_
 change (Exit.ret = Exit.normal ∨ Exit.ret = Exit.ret) ∧ ∃ a v, Go.SL.look _ _ = some (.pointer (some a)) ∧ ReadsAs _ _ _ _ _ ∧ _
 exact ⟨.inr rfl, _, _, rfl, vtx_read (r := r4) (v := (p.patch, p.first + (i : Int))) (E := 32) (tot := 33) (List.Mem.head _), _, Sub.drop (Sub.drop (Sub.refl _)), rfl, rfl⟩
theorem line_fc {w0 : World} {S X : SS} {m : GrM} (hm : GOk w0 X m) (hS : Over (GS m ++ X) S) {v : Vtx} (hv : okV v) : FC Try.prog w0 56 [m.ptr, vtxV v] S (fun u S' => u = .bool (decide (v ∈ mks m.nodes)) ∧ S' = S) := by
 obtain ⟨z, hz1, hz2⟩ := zero100
 refine FC.ofD Try.known56 (by simp) ?_
 unfold Try.pc56
 simp only [argT]
 refine PW.seqOps ?_
 refine OL.cons trivial (OW.bx rfl) ?_
 rintro _ _ ⟨r3, rfl, rfl⟩
 rw [vtx_box, vtxL_len]
 refine OL.dp rfl ?_
 refine OL.nil ?_
 refine PW.keep (T' := [(0, _), (3, _)]) ⟨rfl, rfl, trivial⟩ ?_
 refine PW.seq fun K1 hK1 => ?_
 have hS1 : Over (GS m ++ X) (vseg r3 v :: S) := hS.cons
 refine PW.quietRNK (base := vseg r3 v :: S) Try.mixed (Over.refl _) ?_
 refine QN.det trivial (fun Sx hSx => Yields.pure rfl) ?_
 refine QN.det trivial (fun Sx hSx => Yields.nilc rfl) ?_
 refine QN.det trivial (fun Sx hSx => Yields.pure rfl) ?_
 refine QN.det trivial (fun Sx hSx => Yields.ld rfl (g_nodes (hS1.trans hSx))) ?_
 refine QN.det trivial (fun Sx hSx => Yields.ldA rfl (vtxL_len _) (all_at (c := vtxL v) (E := 32) (tot := 33) (hSx _ (List.mem_flatten.2 ⟨_, .head _, List.mem_singleton.2 rfl⟩)))) ?_
 refine QN.det trivial (fun Sx hSx => Yields.lookG (okc := true) Try.underlying55 hz1 hz2 keys32 hm.nk hv rfl rfl (GS_mem (hS1.trans hSx)).2.2.1) ?_
 refine QN.det trivial (fun Sx hSx => Yields.pure rfl) ?_
 refine QN.det trivial (fun Sx hSx => Yields.pure rfl) ?_
 refine QN.det trivial (fun Sx hSx => Yields.pure rfl) ?_
 refine QN.hole ?_
 refine QN.hole ?_
 refine QN.nil ⟨rfl, rfl, ordB_of (hp := [9, 10]) rfl (by decide), ?_⟩
 refine ⟨rfl, OW.mono (OW.al) ?_⟩
 rintro _ _ ⟨r5, rfl, rfl⟩
 refine ⟨(Over.refl _).cons, ?_⟩
 refine ⟨rfl, OW.mono (node_st rfl rfl _ _ _ _) ?_⟩
 rintro _ _ rfl
 refine ⟨(Over.refl _).cons, ?_⟩
 change OL _ _ _ [_] _ _ _
 refine OL.dp rfl ?_
 refine OL.nil ?_
 refine hK1 _ _ ?_
 refine PW.keep (T' := [(6, _)]) ⟨rfl, trivial⟩ ?_
 refine PW.seqOps ?_
 refine OL.dp rfl ?_
 refine OL.dp rfl ?_
 refine OL.nil ?_
 refine PW.keep (T' := [(4, _)]) ⟨rfl, trivial⟩ ?_
 refine PW.ret ?_
 change (Exit.ret = Exit.normal ∨ Exit.ret = Exit.ret) ∧ ∃ v, resV _ _ = some v ∧ _
 exact ⟨.inr rfl, _, rfl, _, Sub.drop (Sub.drop (Sub.refl _)), congrArg Value.bool isSome_mks, rfl⟩
end Go.Proofs.Gr

namespace Go.Proofs.Gr
open Go.SL Go.RowKit Go.Proofs Go.GP
set_option maxHeartbeats 1000000
theorem hasG_iff {m : GrM} {v : Vtx} : HasG m.gr v ↔ v = rootV ∨ v = endV ∨ v ∈ mks m.nodes := by
 unfold HasG
 show _ ∨ _ ∨ v ∈ mks (plN m.nodes) ↔ _
 rw [mks_plN]
def idxZ (q : Vtx → Bool) (l : List Vtx) : Int := match l.findIdx? q with | some k => (k : Int) | none => -1
theorem idx_take {q : Vtx → Bool} {l : List Vtx} {k : Nat} (hk : k < l.length) (h : ∀ x ∈ l.take k, q x = false) (hq : q l[k] = true) : idxZ q l = (k : Int) := by
 unfold idxZ
 have : l.findIdx? q = some k := by
  rw [List.findIdx?_eq_some_iff_getElem]
  refine ⟨hk, hq, fun j hj => ?_⟩
  have := h l[j] (List.mem_take_iff_getElem.2 ⟨j, by omega, rfl⟩)
  simp [this]
 rw [this]
theorem idx_no {q : Vtx → Bool} {l : List Vtx} (h : ∀ x ∈ l, q x = false) : idxZ q l = -1 := by
 unfold idxZ
 have : l.findIdx? q = none := by rw [List.findIdx?_eq_none_iff]; exact h
 rw [this]
theorem idx_any {q : Vtx → Bool} {l : List Vtx} : (idxZ q l ≥ 0) = (l.any q = true) := by
 unfold idxZ
 apply propext
 cases h : l.findIdx? q with
 | none =>
  have := List.findIdx?_eq_none_iff.1 h
  simp only [List.any_eq_true]
  constructor
  ·intro h; omega
  ·rintro ⟨x, hx, hq⟩; rw [this x hx] at hq; cases hq
 | some k =>
  obtain ⟨h1, h2, _⟩ := List.findIdx?_eq_some_iff_getElem.1 h
  simp only [List.any_eq_true]
  exact ⟨fun _ => ⟨_, List.getElem_mem h1, h2⟩, fun _ => by omega⟩
theorem vtake_snoc {l : List Vtx} {k : Nat} (hk : k < l.length) : l.take (k + 1) = l.take k ++ [l[k]] := by
 rw [List.take_add_one, List.getElem?_eq_getElem hk]; rfl
def behA (m : GrM) (v : Vtx) : Option Addr × Nat × List Vtx := if v = rootV then (m.FA, m.fc, m.first) else (((mgt m.nodes v).getD zM).A, ((mgt m.nodes v).getD zM).c, ((mgt m.nodes v).getD zM).next)
def behV (m : GrM) (v : Vtx) : Value := .slice (behA m v).1 (behA m v).2.2.length (behA m v).2.1
theorem getD_ok {w0 : World} {X : SS} {m : GrM} (hm : GOk w0 X m) (v : Vtx) : NodeOk' w0 (m.junk :: X) m.lim ((mgt m.nodes v).getD zM) := by
 cases h : mgt m.nodes v with
 | none => exact ⟨Rd.nil, by simp [zM], by simp [zM], by simp [zM], by simp [zM]⟩
 | some n => exact hm.node _ (mgt_some_mem h)
theorem behA_ok {w0 : World} {X : SS} {m : GrM} (hm : GOk w0 X m) (v : Vtx) : Rd w0 (m.junk :: X) (behA m v).1 (vtxs (behA m v).2.2) ∧ (∀ w ∈ (behA m v).2.2, okV w) ∧ (behA m v).2.2.length ≤ m.lim := by
 unfold behA
 split
 ·exact ⟨hm.first, hm.firstOk, hm.firstLen⟩
 ·exact ⟨(getD_ok hm v).rd, (getD_ok hm v).ok, (getD_ok hm v).len⟩
theorem behA_gr {m : GrM} {v : Vtx} : (behA m v).2.2 = behindG m.gr v := by
 unfold behA behindG
 split
 ·rfl
 ·show _ = (nd (plN m.nodes) v).next
  rw [nd_plN]
  rfl
theorem has_fc {w0 : World} {S X : SS} {m : GrM} (hm : GOk w0 X m) (hS : Over (GS m ++ X) S) {v : Vtx} (hv : okV v) : FC Try.prog w0 29 [m.ptr, vtxV v] S (fun u S' => u = .bool (decide (HasG m.gr v)) ∧ S' = S) := by
 refine FC.ofD Try.known29 (by simp) ?_
 unfold Try.pc29
 simp only [argT]
 refine PW.seqOps ?_
 refine OL.cons trivial (OW.bx rfl) ?_
 rintro _ _ ⟨r3, rfl, rfl⟩
 rw [vtx_box, vtxL_len]
 refine OL.dp rfl ?_
 refine OL.nil ?_
 refine PW.keep (T' := [(0, _), (3, _)]) ⟨rfl, rfl, trivial⟩ ?_
 refine PW.seq fun K1 hK1 => ?_
 refine PW.quiet2QK Try.mixed ?_
 refine QK.dp rfl ?_
 refine QK.call trivial rfl (is_fc hS.cons) ?_
 refine QK.dp rfl ?_
 refine QK.det rfl (Yields.ldA rfl (vtxL_len _) (all_at (List.mem_flatten.2 ⟨_, .head _, List.mem_singleton.2 rfl⟩))) ?_
 refine QK.call rfl rfl (root_fc) ?_
 refine QK.det rfl (Yields.eqD (neg := false) rfl rfl (eqL_vtx _ _)) ?_
 refine QK.bool rfl (Yields.pure rfl) (fun g11 => ?_) (fun g11 => ?_)
 ·try simp only [cvS, Bool.false_eq_true, if_false, if_true] at g11
  refine QK.off rfl rfl ?_
  refine QK.off rfl rfl ?_
  refine QK.off rfl rfl ?_
  refine QK.det rfl (Yields.pure rfl) ?_
  refine QK.det rfl (Yields.pure rfl) ?_
  refine QK.off rfl rfl ?_
  refine QK.off rfl rfl ?_
  refine QK.nil ?_
  change OL _ _ _ [_, _, _, _] _ _ _
  refine OL.off rfl rfl ?_
  refine OL.det rfl (Yields.pure rfl) ?_
  refine OL.dp rfl ?_
  refine OL.dp rfl ?_
  refine OL.nil ?_
  refine hK1 _ _ ?_
  refine PW.keep (T' := [(4, _)]) ⟨rfl, trivial⟩ ?_
  refine PW.ret ?_
  change (Exit.ret = Exit.normal ∨ Exit.ret = Exit.ret) ∧ ∃ v, resV _ _ = some v ∧ _
  refine ⟨.inr rfl, _, rfl, _, Sub.drop (Sub.refl _), ?_, rfl⟩
  first
   | exact congrArg Value.bool (decide_eq_true (show HasG m.gr v from hasG_iff.2 (.inl g11))).symm
   | exact congrArg Value.bool (decide_eq_true (show HasG m.gr v from hasG_iff.2 (.inr (.inl g16)))).symm
   | exact congrArg Value.bool (decide_eq_decide.2 ⟨fun h => hasG_iff.2 (.inr (.inr h)), fun h => ((hasG_iff.1 h).resolve_left g11).resolve_left g16⟩)
 ·try simp only [cvS, Bool.false_eq_true, if_false, if_true] at g11
  refine QK.det rfl (Yields.ldA rfl (vtxL_len _) (all_at (List.mem_flatten.2 ⟨_, .head _, List.mem_singleton.2 rfl⟩))) ?_
  refine QK.call rfl rfl (end_fc) ?_
  refine QK.det rfl (Yields.eqD (neg := false) rfl rfl (eqL_vtx _ _)) ?_
  refine QK.det rfl (Yields.pure rfl) ?_
  refine QK.bool rfl (Yields.pure rfl) (fun g16 => ?_) (fun g16 => ?_)
  ·try simp only [cvS, Bool.false_eq_true, if_false, if_true] at g16
   refine QK.off rfl rfl ?_
   refine QK.off rfl rfl ?_
   refine QK.nil ?_
   change OL _ _ _ [_, _, _, _] _ _ _
   refine OL.off rfl rfl ?_
   refine OL.det rfl (Yields.pure rfl) ?_
   refine OL.dp rfl ?_
   refine OL.dp rfl ?_
   refine OL.nil ?_
   refine hK1 _ _ ?_
   refine PW.keep (T' := [(4, _)]) ⟨rfl, trivial⟩ ?_
   refine PW.ret ?_
   change (Exit.ret = Exit.normal ∨ Exit.ret = Exit.ret) ∧ ∃ v, resV _ _ = some v ∧ _
   refine ⟨.inr rfl, _, rfl, _, Sub.drop (Sub.refl _), ?_, rfl⟩
   first
    | exact congrArg Value.bool (decide_eq_true (show HasG m.gr v from hasG_iff.2 (.inl g11))).symm
    | exact congrArg Value.bool (decide_eq_true (show HasG m.gr v from hasG_iff.2 (.inr (.inl g16)))).symm
    | exact congrArg Value.bool (decide_eq_decide.2 ⟨fun h => hasG_iff.2 (.inr (.inr h)), fun h => ((hasG_iff.1 h).resolve_left g11).resolve_left g16⟩)
  ·try simp only [cvS, Bool.false_eq_true, if_false, if_true] at g16
   refine QK.det rfl (Yields.pure rfl) ?_
   refine QK.det rfl (Yields.ldA rfl (vtxL_len _) (all_at (List.mem_flatten.2 ⟨_, .head _, List.mem_singleton.2 rfl⟩))) ?_
   refine QK.nil ?_
   change OL _ _ _ [_, _, _, _] _ _ _
   refine OL.call rfl rfl (line_fc hm hS.cons hv) ?_
   rintro _ Sx ⟨rfl, hSx⟩
   rw [hSx]
   clear hSx
   refine OL.det rfl (Yields.pure rfl) ?_
   refine OL.dp rfl ?_
   refine OL.dp rfl ?_
   refine OL.nil ?_
   refine hK1 _ _ ?_
   refine PW.keep (T' := [(4, _)]) ⟨rfl, trivial⟩ ?_
   refine PW.ret ?_
   change (Exit.ret = Exit.normal ∨ Exit.ret = Exit.ret) ∧ ∃ v, resV _ _ = some v ∧ _
   refine ⟨.inr rfl, _, rfl, _, Sub.drop (Sub.refl _), ?_, rfl⟩
   first
    | exact congrArg Value.bool (decide_eq_true (show HasG m.gr v from hasG_iff.2 (.inl g11))).symm
    | exact congrArg Value.bool (decide_eq_true (show HasG m.gr v from hasG_iff.2 (.inr (.inl g16)))).symm
    | exact congrArg Value.bool (decide_eq_decide.2 ⟨fun h => hasG_iff.2 (.inr (.inr h)), fun h => ((hasG_iff.1 h).resolve_left g11).resolve_left g16⟩)
theorem behind_fc {w0 : World} {S X : SS} {m : GrM} (hm : GOk w0 X m) (hS : Over (GS m ++ X) S) {v : Vtx} (hv : okV v) : FC Try.prog w0 67 [m.ptr, vtxV v] S (fun u S' => u = behV m v ∧ S' = S) := by
 obtain ⟨z, hz1, hz2⟩ := zero100
 refine FC.ofD Try.known67 (by simp) ?_
 unfold Try.pc67
 simp only [argT]
 refine PW.seqOps ?_
 refine OL.cons trivial (OW.bx rfl) ?_
 rintro _ _ ⟨r3, rfl, rfl⟩
 rw [vtx_box, vtxL_len]
 refine OL.dp rfl ?_
 refine OL.nil ?_
 refine PW.keep (T' := [(0, _), (3, _)]) ⟨rfl, rfl, trivial⟩ ?_
 refine PW.seq fun K1 hK1 => ?_
 refine PW.seq fun K2 hK2 => ?_
 refine PW.quietK Try.mixed ?_
 refine QK.det trivial (Yields.ldA rfl (vtxL_len _) (all_at (List.mem_flatten.2 ⟨_, .head _, List.mem_singleton.2 rfl⟩))) ?_
 refine QK.call trivial rfl (root_fc) ?_
 refine QK.nil ?_
 change OL _ _ _ [_] _ _ _
 refine OL.det trivial (Yields.eqD (neg := false) rfl rfl (eqL_vtx _ _)) ?_
 refine OL.nil ?_
 refine hK2 _ _ ?_
 refine PW.keep (T' := [(0, _), (3, _), (7, _)]) ⟨rfl, rfl, rfl, trivial⟩ ?_
 refine PW.cond rfl (fun c7 => ?_) (fun c7 => ?_)
 ·try simp only [cvS, Bool.false_eq_true, if_false, if_true] at c7
  refine PW.seqOps ?_
  refine OL.dp rfl ?_
  refine OL.det trivial (Yields.nilc rfl) ?_
  refine OL.dp rfl ?_
  refine OL.det trivial (Yields.ld rfl (g_first hS.cons)) ?_
  refine OL.dp rfl ?_
  refine OL.nil ?_
  refine PW.keep (T' := [(4, _)]) ⟨rfl, trivial⟩ ?_
  refine PW.ret ?_
  change (Exit.ret = Exit.normal ∨ Exit.ret = Exit.ret) ∧ ∃ v, resV _ _ = some v ∧ _
  exact ⟨.inr rfl, _, rfl, _, Sub.drop (Sub.refl _), by unfold behV behA; rw [if_pos c7], rfl⟩
 ·try simp only [cvS, Bool.false_eq_true, if_false, if_true] at c7
  refine PW.skip ?_
  refine hK1 _ _ ?_
  refine PW.keep (T' := [(0, _), (3, _)]) ⟨rfl, rfl, trivial⟩ ?_
  refine PW.seq fun K3 hK3 => ?_
  refine PW.quietK Try.mixed ?_
  refine QK.dp rfl ?_
  refine QK.det trivial (Yields.nilc rfl) ?_
  refine QK.dp rfl ?_
  refine QK.det trivial (Yields.ld rfl (g_nodes hS.cons)) ?_
  refine QK.det trivial (Yields.ldA rfl (vtxL_len _) (all_at (List.mem_flatten.2 ⟨_, .head _, List.mem_singleton.2 rfl⟩))) ?_
  refine QK.nil ?_
  change OL _ _ _ [_, _, _] _ _ _
  refine OL.det trivial (Yields.lookG (okc := false) Try.underlying55 hz1 hz2 keys32 hm.nk hv rfl rfl (GS_mem hS.cons).2.2.1) ?_
  refine OL.det trivial (Yields.fld rfl rfl) ?_
  refine OL.dp rfl ?_
  refine OL.nil ?_
  refine hK3 _ _ ?_
  refine PW.keep (T' := [(4, _)]) ⟨rfl, trivial⟩ ?_
  refine PW.ret ?_
  change (Exit.ret = Exit.normal ∨ Exit.ret = Exit.ret) ∧ ∃ v, resV _ _ = some v ∧ _
  exact ⟨.inr rfl, _, rfl, _, Sub.drop (Sub.refl _), by unfold behV behA; rw [if_neg c7]; rfl, rfl⟩
theorem index_fc {w0 : World} {S : SS} {A : Option Addr} {c : Nat} {l : List Vtx} {v : Vtx} (hx : Rd w0 S A (vtxs l)) (hb : l.length ≤ 1000000000000) :
  FC Try.prog w0 110 [.slice A l.length c, vtxV v] S (fun u S' => u = .int .i64 (idxZ (fun x => decide (v = x)) l) ∧ S' = S) := by
 obtain ⟨q, hq⟩ : ∃ q : Vtx → Bool, q = fun x => decide (v = x) := ⟨_, rfl⟩
 rw [← hq]
 refine FC.ofD Try.known110 (by simp) ?_
 unfold Try.pc110
 simp only [argT]
 refine PW.seqOps ?_
 refine OL.cons trivial (OW.bx rfl) ?_
 rintro _ _ ⟨r3, rfl, rfl⟩
 rw [vtx_box, vtxL_len]
 refine OL.dp rfl ?_
 refine OL.nil ?_
 refine PW.keep (T' := [(0, _), (3, _)]) ⟨rfl, rfl, trivial⟩ ?_
 refine PW.seq fun K1 hK1 => ?_
 refine PW.seqOps ?_
 refine OL.dp rfl ?_
 refine OL.dp rfl ?_
 refine OL.dp rfl ?_
 refine OL.nil ?_
 refine PW.keep (T' := [(0, _), (3, _), (7, _), (8, _)]) ⟨rfl, rfl, rfl, rfl, trivial⟩ ?_
 refine PW.block ?_
 refine PW.keep (T' := [(0, _), (3, _), (7, _), (8, _)]) ⟨rfl, rfl, rfl, rfl, trivial⟩ ?_
 refine PW.loopK (I := fun m T S' => ∃ (k : Nat), (k ≤ l.length ∧ m = l.length - k ∧ ∀ x ∈ l.take k, q x = false) ∧ T = ([(0, .slice A l.length c), (3, .pointer (some ⟨r3, 0, none⟩)), (7, .int .i64 (l.length : Int)), (8, .int .i64 k)] : TT) ∧ S' = vseg r3 v :: S) (m := l.length) ⟨0, ⟨by omega, by omega, by simp⟩, rfl, rfl⟩ ?_
 rintro m _ _ ⟨k, ⟨hk, hm, hall⟩, rfl, rfl⟩
 refine PW.seqOps ?_
 refine OL.dp rfl ?_
 refine OL.nil ?_
 refine PW.keep (T' := [(0, _), (3, _), (7, _), (8, _), (9, _)]) ⟨rfl, rfl, rfl, rfl, rfl, trivial⟩ ?_
 refine PW.seq fun K2 hK2 => ?_
 refine PW.cond rfl (fun c9 => ?_) (fun c9 => ?_)
 ·try simp only [cvS, Bool.false_eq_true, if_false, if_true] at c9
  have hkl : k < l.length := by omega
  obtain ⟨a0, rfl⟩ := vtxs_some hx (by omega)
  refine PW.skip ?_
  refine hK2 _ _ ?_
  refine PW.keep (T' := [(0, _), (3, _), (7, _), (8, _)]) ⟨rfl, rfl, rfl, rfl, trivial⟩ ?_
  refine PW.seq fun K3 hK3 => ?_
  refine PW.block ?_
  refine PW.seqOps ?_
  refine OL.dp rfl ?_
  refine OL.dp rfl ?_
  refine OL.nil ?_
  refine PW.keep (T' := [(0, _), (3, _), (5, _), (7, _), (8, _)]) ⟨rfl, rfl, rfl, rfl, rfl, trivial⟩ ?_
  refine PW.seq fun K4 hK4 => ?_
  refine PW.quietK Try.mixed ?_
  refine QK.det trivial (Yields.ldA rfl (vtxL_len _) (all_at (List.mem_flatten.2 ⟨_, .head _, List.mem_singleton.2 rfl⟩))) ?_
  refine QK.dp rfl ?_
  refine QK.dp rfl ?_
  refine QK.det trivial (Yields.ixN rfl rfl rfl (by omega)) ?_
  refine QK.det trivial (Yields.ldA rfl (vtxL_len _) (vtx_at hx.cons hkl)) ?_
  refine QK.nil ?_
  change OL _ _ _ [_] _ _ _
  refine OL.det trivial (Yields.eqD (neg := false) rfl rfl (eqL_vtx _ _)) ?_
  refine OL.nil ?_
  refine hK4 _ _ ?_
  refine PW.keep (T' := [(0, _), (3, _), (5, _), (7, _), (8, _), (16, _)]) ⟨rfl, rfl, rfl, rfl, rfl, rfl, trivial⟩ ?_
  refine PW.cond rfl (fun c16 => ?_) (fun c16 => ?_)
  ·try simp only [cvS, Bool.false_eq_true, if_false, if_true] at c16
   have hqt : q l[k] = true := by rw [hq]; simpa using c16
   refine PW.seqOps ?_
   refine OL.dp rfl ?_
   refine OL.dp rfl ?_
   refine OL.nil ?_
   refine PW.keep (T' := [(4, _)]) ⟨rfl, trivial⟩ ?_
   refine PW.ret ?_
   change (Exit.ret = Exit.normal ∨ Exit.ret = Exit.ret) ∧ ∃ v, resV _ _ = some v ∧ _
   exact ⟨.inr rfl, _, rfl, _, Sub.drop (Sub.refl _), by rw [idx_take hkl hall hqt], rfl⟩
  ·try simp only [cvS, Bool.false_eq_true, if_false, if_true] at c16
   have hqf : q l[k] = false := by rw [hq]; simpa using c16
   refine PW.skip ?_
   refine hK3 _ _ ?_
   refine PW.keep (T' := [(0, _), (3, _), (7, _), (8, _)]) ⟨rfl, rfl, rfl, rfl, trivial⟩ ?_
   refine PW.ops ?_
   refine OL.det trivial (Yields.add64 rfl rfl (by omega) (by omega)) ?_
   refine OL.dp rfl ?_
   refine OL.nil ?_
   repeat rw [inBlk_n]
   try rw [thenK_n]
   refine LoopEnd.mk (T'' := [(0, _), (3, _), (7, _), (8, _)]) ⟨rfl, rfl, rfl, rfl, trivial⟩ ?_
   refine ⟨l.length - (k + 1), by omega, k + 1, ⟨by omega, rfl, fun x hx => ?_⟩, rfl, rfl⟩
   rw [vtake_snoc hkl, List.mem_append, List.mem_singleton] at hx
   rcases hx with hx | rfl
   ·exact hall x hx
   ·exact hqf
 ·try simp only [cvS, Bool.false_eq_true, if_false, if_true] at c9
  refine PW.exit ?_
  refine hK1 _ _ ?_
  refine PW.keep (T' := []) trivial ?_
  refine PW.seqOps ?_
  refine OL.dp rfl ?_
  refine OL.nil ?_
  refine PW.keep (T' := [(4, _)]) ⟨rfl, trivial⟩ ?_
  refine PW.ret ?_
  change (Exit.ret = Exit.normal ∨ Exit.ret = Exit.ret) ∧ ∃ v, resV _ _ = some v ∧ _
  exact ⟨.inr rfl, _, rfl, _, Sub.drop (Sub.refl _), by rw [idx_no (fun x hx => hall x (by rw [List.take_of_length_le (by omega)]; exact hx))], rfl⟩
theorem indexFunc_fc {w0 : World} {S : SS} {A : Option Addr} {c : Nat} {l : List Vtx} {g : FuncId} {ca : List Value} {q : Vtx → Bool} (hx : Rd w0 S A (vtxs l)) (hb : l.length ≤ 1000000000000) (hok : fnOk Try.prog g = true)
  (hq : ∀ x ∈ l, FC Try.prog w0 g ([] ++ [vtxV x] ++ ca) S (fun u S' => u = .bool (q x) ∧ S' = S)) :
  FC Try.prog w0 86 [.slice A l.length c, .func (.func g) #[] ca.toArray] S (fun u S' => u = .int .i64 (idxZ q l) ∧ S' = S) := by
 refine FC.of Try.known86 (by simp) ?_
 unfold Try.pc86
 simp only [argT]
 refine PW.seqOps ?_
 refine OL.dp rfl ?_
 refine OL.nil ?_
 refine PW.keep (T' := [(0, _), (1, _)]) ⟨rfl, rfl, trivial⟩ ?_
 refine PW.seq fun K1 hK1 => ?_
 refine PW.seqOps ?_
 refine OL.dp rfl ?_
 refine OL.dp rfl ?_
 refine OL.dp rfl ?_
 refine OL.nil ?_
 refine PW.keep (T' := [(0, _), (1, _), (7, _), (8, _)]) ⟨rfl, rfl, rfl, rfl, trivial⟩ ?_
 refine PW.block ?_
 refine PW.keep (T' := [(0, _), (1, _), (7, _), (8, _)]) ⟨rfl, rfl, rfl, rfl, trivial⟩ ?_
 refine PW.loopK (I := fun m T S' => ∃ (k : Nat), (k ≤ l.length ∧ m = l.length - k ∧ ∀ x ∈ l.take k, q x = false) ∧ T = ([(0, .slice A l.length c), (1, .func (.func g) #[] ca.toArray), (7, .int .i64 (l.length : Int)), (8, .int .i64 k)] : TT) ∧ S' = S) (m := l.length) ⟨0, ⟨by omega, by omega, by simp⟩, rfl, rfl⟩ ?_
 rintro m _ _ ⟨k, ⟨hk, hm, hall⟩, rfl, rfl⟩
 refine PW.seqOps ?_
 refine OL.dp rfl ?_
 refine OL.nil ?_
 refine PW.keep (T' := [(0, _), (1, _), (7, _), (8, _), (9, _)]) ⟨rfl, rfl, rfl, rfl, rfl, trivial⟩ ?_
 refine PW.seq fun K2 hK2 => ?_
 refine PW.cond rfl (fun c9 => ?_) (fun c9 => ?_)
 ·try simp only [cvS, Bool.false_eq_true, if_false, if_true] at c9
  have hkl : k < l.length := by omega
  obtain ⟨a0, rfl⟩ := vtxs_some hx (by omega)
  refine PW.skip ?_
  refine hK2 _ _ ?_
  refine PW.keep (T' := [(0, _), (1, _), (7, _), (8, _)]) ⟨rfl, rfl, rfl, rfl, trivial⟩ ?_
  refine PW.seq fun K3 hK3 => ?_
  refine PW.block ?_
  refine PW.seqOps ?_
  refine OL.dp rfl ?_
  refine OL.dp rfl ?_
  refine OL.nil ?_
  refine PW.keep (T' := [(0, _), (1, _), (5, _), (7, _), (8, _)]) ⟨rfl, rfl, rfl, rfl, rfl, trivial⟩ ?_
  refine PW.seqOps ?_
  refine OL.dp rfl ?_
  refine OL.dp rfl ?_
  refine OL.dp rfl ?_
  refine OL.det trivial (Yields.ixN rfl rfl rfl (by omega)) ?_
  refine OL.det trivial (Yields.ldA rfl (vtxL_len _) (vtx_at hx hkl)) ?_
  refine OL.cons trivial (OW.callv (fi := []) (ca := ca) rfl hok rfl (hq _ (List.getElem_mem hkl))) ?_
  rintro _ Sx ⟨rfl, hSx⟩
  rw [hSx]
  clear hSx
  refine OL.nil ?_
  refine PW.keep (T' := [(0, _), (1, _), (5, _), (7, _), (8, _), (16, _)]) ⟨rfl, rfl, rfl, rfl, rfl, rfl, trivial⟩ ?_
  refine PW.cond rfl (fun c16 => ?_) (fun c16 => ?_)
  ·try simp only [cvS, Bool.false_eq_true, if_false, if_true] at c16
   have hqt : q l[k] = true := by simpa using c16
   refine PW.seqOps ?_
   refine OL.dp rfl ?_
   refine OL.dp rfl ?_
   refine OL.nil ?_
   refine PW.keep (T' := [(4, _)]) ⟨rfl, trivial⟩ ?_
   refine PW.ret ?_
   change (Exit.ret = Exit.normal ∨ Exit.ret = Exit.ret) ∧ ∃ v, resV _ _ = some v ∧ _
   exact ⟨.inr rfl, _, rfl, by rw [idx_take hkl hall hqt], rfl⟩
  ·try simp only [cvS, Bool.false_eq_true, if_false, if_true] at c16
   have hqf : q l[k] = false := by simpa using c16
   refine PW.skip ?_
   refine hK3 _ _ ?_
   refine PW.keep (T' := [(0, _), (1, _), (7, _), (8, _)]) ⟨rfl, rfl, rfl, rfl, trivial⟩ ?_
   refine PW.ops ?_
   refine OL.det trivial (Yields.add64 rfl rfl (by omega) (by omega)) ?_
   refine OL.dp rfl ?_
   refine OL.nil ?_
   repeat rw [inBlk_n]
   try rw [thenK_n]
   refine LoopEnd.mk (T'' := [(0, _), (1, _), (7, _), (8, _)]) ⟨rfl, rfl, rfl, rfl, trivial⟩ ?_
   refine ⟨l.length - (k + 1), by omega, k + 1, ⟨by omega, rfl, fun x hx => ?_⟩, rfl, rfl⟩
   rw [vtake_snoc hkl, List.mem_append, List.mem_singleton] at hx
   rcases hx with hx | rfl
   ·exact hall x hx
   ·exact hqf
 ·try simp only [cvS, Bool.false_eq_true, if_false, if_true] at c9
  refine PW.exit ?_
  refine hK1 _ _ ?_
  refine PW.keep (T' := []) trivial ?_
  refine PW.seqOps ?_
  refine OL.dp rfl ?_
  refine OL.nil ?_
  refine PW.keep (T' := [(4, _)]) ⟨rfl, trivial⟩ ?_
  refine PW.ret ?_
  change (Exit.ret = Exit.normal ∨ Exit.ret = Exit.ret) ∧ ∃ v, resV _ _ = some v ∧ _
  exact ⟨.inr rfl, _, rfl, by rw [idx_no (fun x hx => hall x (by rw [List.take_of_length_le (by omega)]; exact hx))], rfl⟩
theorem contains_fc {w0 : World} {S : SS} {A : Option Addr} {c : Nat} {l : List Vtx} {v : Vtx} (hx : Rd w0 S A (vtxs l)) (hb : l.length ≤ 1000000000000) :
  FC Try.prog w0 85 [.slice A l.length c, vtxV v] S (fun u S' => u = .bool (l.any fun x => decide (v = x)) ∧ S' = S) := by
 refine FC.ofD Try.known85 (by simp) ?_
 unfold Try.pc85
 simp only [argT]
 refine PW.seqOps ?_
 refine OL.cons trivial (OW.bx rfl) ?_
 rintro _ _ ⟨r3, rfl, rfl⟩
 rw [vtx_box, vtxL_len]
 refine OL.dp rfl ?_
 refine OL.nil ?_
 refine PW.keep (T' := [(0, _), (3, _)]) ⟨rfl, rfl, trivial⟩ ?_
 refine PW.seqOps ?_
 refine OL.dp rfl ?_
 refine OL.det trivial (Yields.ldA rfl (vtxL_len _) (all_at (List.mem_flatten.2 ⟨_, .head _, List.mem_singleton.2 rfl⟩))) ?_
 refine OL.call trivial rfl (index_fc hx.cons hb) ?_
 rintro _ Sx ⟨rfl, hSx⟩
 rw [hSx]
 clear hSx
 refine OL.dp rfl ?_
 refine OL.dp rfl ?_
 refine OL.nil ?_
 refine PW.keep (T' := [(4, _)]) ⟨rfl, trivial⟩ ?_
 refine PW.ret ?_
 change (Exit.ret = Exit.normal ∨ Exit.ret = Exit.ret) ∧ ∃ v, resV _ _ = some v ∧ _
 exact ⟨.inr rfl, _, rfl, _, Sub.drop (Sub.refl _), congrArg Value.bool (by rw [Bool.eq_iff_iff, decide_eq_true_eq]; exact iff_of_eq idx_any), rfl⟩
theorem containsFunc_fc {w0 : World} {S : SS} {A : Option Addr} {c : Nat} {l : List Vtx} {g : FuncId} {ca : List Value} {q : Vtx → Bool} (hx : Rd w0 S A (vtxs l)) (hb : l.length ≤ 1000000000000) (hok : fnOk Try.prog g = true)
  (hq : ∀ x ∈ l, FC Try.prog w0 g ([] ++ [vtxV x] ++ ca) S (fun u S' => u = .bool (q x) ∧ S' = S)) :
  FC Try.prog w0 54 [.slice A l.length c, .func (.func g) #[] ca.toArray] S (fun u S' => u = .bool (l.any q) ∧ S' = S) := by
 refine FC.of Try.known54 (by simp) ?_
 unfold Try.pc54
 simp only [argT]
 refine PW.seqOps ?_
 refine OL.dp rfl ?_
 refine OL.nil ?_
 refine PW.keep (T' := [(0, _), (1, _)]) ⟨rfl, rfl, trivial⟩ ?_
 refine PW.seqOps ?_
 refine OL.dp rfl ?_
 refine OL.dp rfl ?_
 refine OL.call trivial rfl (indexFunc_fc hx hb hok hq) ?_
 rintro _ Sx ⟨rfl, hSx⟩
 rw [hSx]
 clear hSx
 refine OL.dp rfl ?_
 refine OL.dp rfl ?_
 refine OL.nil ?_
 refine PW.keep (T' := [(4, _)]) ⟨rfl, trivial⟩ ?_
 refine PW.ret ?_
 change (Exit.ret = Exit.normal ∨ Exit.ret = Exit.ret) ∧ ∃ v, resV _ _ = some v ∧ _
 exact ⟨.inr rfl, _, rfl, congrArg Value.bool (by rw [Bool.eq_iff_iff, decide_eq_true_eq]; exact iff_of_eq idx_any), rfl⟩
theorem add1_fc {w0 : World} {S X : SS} {m : GrM} {b : Nat} (hm : GOk w0 X m) (hS : Over (GS m ++ X) S) {v : Vtx} (hv : okV v) (hb : Cell w0 S ⟨b, 0, none⟩ m.ptr) : FC Try.prog w0 55 [vtxV v, .pointer (some ⟨b, 0, none⟩)] S (fun u S' => u = .bool (!decide (v ∈ mks m.nodes)) ∧ S' = S) := by
 refine FC.ofD Try.known55 (by simp) ?_
 unfold Try.pc55
 simp only [argT]
 refine PW.seqOps ?_
 refine OL.cons trivial (OW.bx rfl) ?_
 rintro _ _ ⟨r2, rfl, rfl⟩
 rw [vtx_box, vtxL_len]
 refine OL.dp rfl ?_
 refine OL.nil ?_
 refine PW.keep (T' := [(1, _), (2, _)]) ⟨rfl, rfl, trivial⟩ ?_
 refine PW.seqOps ?_
 refine OL.det trivial (Yields.ld rfl (hb.mono fun p hp => by simp [hp])) ?_
 refine OL.det trivial (Yields.ldA rfl (vtxL_len _) (all_at (List.mem_flatten.2 ⟨_, .head _, List.mem_singleton.2 rfl⟩))) ?_
 refine OL.call trivial rfl (line_fc hm hS.cons hv) ?_
 rintro _ Sx ⟨rfl, hSx⟩
 rw [hSx]
 clear hSx
 refine OL.dp rfl ?_
 refine OL.dp rfl ?_
 refine OL.nil ?_
 refine PW.keep (T' := [(3, _)]) ⟨rfl, trivial⟩ ?_
 refine PW.ret ?_
 change (Exit.ret = Exit.normal ∨ Exit.ret = Exit.ret) ∧ ∃ v, resV _ _ = some v ∧ _
 exact ⟨.inr rfl, _, rfl, _, Sub.drop (Sub.refl _), rfl, rfl⟩
end Go.Proofs.Gr

namespace Go.SL
open Go.RowKit
section
variable {P : Program} {w0 : World} {n : Nat} {T : TT} {S : SS}
theorem OW.appIn {t E sz bytes i q cap cp r tot k : Nat} {z : Value} {s x : PV} {a : Addr} {c news : List Value} (hs' : s.val T = some (.slice (some ⟨r, 0, none⟩) i cap)) (hk : S[k]? = some [(r, .cells c E tot)])
  (hx : x.val T = some (.slice (some a) q cp)) (hl : news.length = q * sz) (hc : ∀ j u, news[j]? = some u → Cell w0 S (a.add j) u) (h1 : news.all (·.oneCell') = true)
  (hroom : i + q ≤ cap) (hfit : i * sz + news.length ≤ c.length) :
  OW P w0 n (.app t E sz bytes z s x) T S (fun v' S' => v' = .slice (some ⟨r, 0, none⟩) (i + q) cap ∧ S' = S.set k [(r, .cells (setAt c (i * sz) news) E tot)]) := by
 intro op ac w Q hco hs hr
 obtain ⟨y, y', cl, ti, ho, hca, hat, har, rfl, rfl, hu, hi, hz, rfl, rfl, hzs, hsz⟩ := cOp_spec P hco
 obtain ⟨hge, C, hC, htot, hpre⟩ := hr.own (r, .cells c E tot) (List.mem_flatten.2 ⟨_, List.mem_of_getElem? hk, by simp⟩)
 simp only at hge hC
 have hlen : c.length ≤ C.size := by
  have := congrArg List.length hpre
  simp at this
  omega
 have hrun := run_append_room (P := P) w t op.type E ti hu hi r i cap C hC a q cp news hl (fun j u hj => hr.cell (hc j u hj)) (oneCells h1) hroom (by omega)
 unfold Oper.wp
 have hrun' : (execOp ac.eval op).run P w = .ok (.value (.slice (some ⟨r, 0, none⟩) (i + q) cap)) (w.setRow r (C.toList.take (i * ti.size) ++ news ++ C.toList.drop (i * ti.size + news.length)).toArray) := by
  simp only [execOp, ho, resolve, hca, invoke, builtin, hat, har]
  simp [hs.eval hs', hs.eval hx, hrun]
 rw [hrun']
 refine ⟨_, _, rfl, ?_, rfl, rfl⟩
 have hheap := setRow_heap w r C (C.toList.take (i * ti.size) ++ news ++ C.toList.drop (i * ti.size + news.length)).toArray E (0, 0) hC
 refine hr.replace hk (below_setRow w r _ hge) (fun i _ hne => setRow_heap_other w r i _ (by simpa using hne)) (by simp) ?_
 intro p hp
 simp only [List.mem_singleton] at hp
 subst hp
 refine ⟨hge, ⟨_, hheap, ?_, ?_⟩, .inl (by simp)⟩
 ·simp only [List.size_toArray, List.length_append, List.length_take, List.length_drop, Array.length_toList]; omega
 ·rw [setAt_length, setAt_eq c _ _ (by omega)]
  have := take_lay C.toList (i * ti.size) news c.length (by omega) (by simp; omega)
  rw [hpre] at this
  simpa using this
theorem Yields.sl3 {sz : Nat} {x lo hi mx : Operand} {A : Option Addr} {len cap l h m : Nat} {t E : TypeId} {i : TypeInfo} (hu : P.underlying t = some (.slice E)) (hi' : P.info? E = some i) (hsz : i.size = sz)
  (hx : (cV x).val T = some (.slice A len cap)) (hl : (cV lo).val T = some (.int .i64 (l : Int))) (hh : (cV hi).val T = some (.int .i64 (h : Int))) (hm : (cV mx).val T = some (.int .i64 (m : Int))) (h1 : l ≤ h) (h2 : h ≤ m) (h3 : m ≤ cap) :
  Yields P w0 n (.more (.other (.gen (.slice t x (some lo) (some hi) (some mx))))) T S (.slice (if m = l then A else A.map (·.add (l * sz))) (h - l) (m - l)) := by
 intro o a w hco hs hr
 have ho : o.op = .slice t x (some lo) (some hi) (some mx) := cOp_spec P hco
 subst hsz
 have b1 : ¬ ((cap : Int) < (m : Int)) := by omega
 simp only [execOp, ho, hs.eval hx, hs.eval hl, hs.eval hh, hs.eval hm, Instr.sliceAt, Option.map_some]
 simp [run_underlying hu, Instr.slice, Instr.sliceBounds, Instr.sliceBound, asIntOf, sizeOf, typeInfo, program, hi', Sem.run, h1, h2, h3]
theorem FC.perm {k : FuncId} {args : List Value} {S' : SS} {post : Value → SS → Prop} (hp : S.Perm S') (h : FC P w0 k args S' post) : FC P w0 k args S post := fun w hw => h w (hw.permS hp)
def QP (P : Program) (w0 : World) (n : Nat) (Ss : SS → Prop) (i : Nat) (l : List PI) (T : TT) (K : TT → HL → Prop) : Prop := ∃ T' vals hs, QM P w0 n Ss i l T T' vals hs ∧ K T' hs
theorem QP.nil {Ss : SS → Prop} {i : Nat} {K : TT → HL → Prop} (h : K T []) : QP P w0 n Ss i [] T K := ⟨T, [], [], .nil, h⟩
theorem QP.det {Ss : SS → Prop} {i : Nat} {po : PO} {d : Option Nat} {g : Option (Nat × Bool)} {v : Value} {r : List PI} {K : TT → HL → Prop} (hg : gOk T g) (h : ∀ S, Ss S → Yields P w0 n po T S v) (k : QP P w0 n Ss (i + 1) r (put d v T) K) : QP P w0 n Ss i (⟨d, g, po⟩ :: r) T K :=
 let ⟨T', vs, hs, h1, h2⟩ := k; ⟨T', _, hs, .step hg (fun S hS => OW.of_yields (h S hS)) h1, h2⟩
theorem QP.hole {Ss : SS → Prop} {i : Nat} {c : PI} {r : List PI} {K : TT → HL → Prop} (k : QP P w0 n Ss (i + 1) r (SL.del c.d T) (fun T' hs => K T' ((i, c, T) :: hs))) : QP P w0 n Ss i (c :: r) T K :=
 let ⟨T', vs, hs, h1, h2⟩ := k; ⟨T', _, _, .hole h1, h2⟩
theorem PW.quietRPK {b : List Nat} {k : Nat} {l : List PI} {Ss : SS → Prop} {Q : Exit → TT → SS → Prop} (hm : P.follows .mixedOrders = true) (hS : Ss S)
  (h : QP P w0 n Ss 0 (l.take k) T (fun T2 hs => distB (l.take k) hs = true ∧ noMovB hs = true ∧ ordB b hs = true ∧ LCh P w0 n Ss (fun Tl S' => OL P w0 n (l.drop k) (Tl ++ T2) S' (Q .normal)) hs [] S)) : PW P w0 n (.quietR b k l) T S Q :=
 let ⟨_, _, _, h1, h2, h3, h4, h5⟩ := h; PW.quietRN hm h1 h2 h3 h4 hS h5
end
end Go.SL

namespace Go.SL
open Go.RowKit
def ownB : Nat := 1099511627776
abbrev Rho := List (Nat × Nat)
def capOf (t o e : Nat) : Nat := match e % 4 with | 0 => (t - o) / (e / 4) | 1 => e / 4 | _ => t - o
def capFit (t e : Nat) : Prop := e % 4 ≠ 3 ∧ (e % 4 = 0 → (e = 0 ∧ t = 0) ∨ (0 < e / 4 ∧ t = t / (e / 4) * (e / 4) ∧ t / (e / 4) ≤ maxLen))
def flatV : Value → Bool
 | .bool _ | .int _ _ | .string _ | .pointer none | .slice none 0 0 | .map none | .nilFunc | .nilIface => true
 | .pointer (some a) => Nat.blt a.block ownB && a.spot.isNone
 | _ => false
inductive VR (ρ : Rho) : Value → Value → Prop
 | flat {v : Value} (h : flatV v = true) : VR ρ v v
 | ptr {i o b t : Nat} (h : ρ[i]? = some (b, t)) : VR ρ (.pointer (some ⟨ownB + i, o, none⟩)) (.pointer (some ⟨b, o, none⟩))
 | slice {i o b t l e : Nat} (h : ρ[i]? = some (b, t)) (hf : capFit t e) (hc : l ≤ capOf t o e) : VR ρ (.slice (some ⟨ownB + i, o, none⟩) l e) (.slice (some ⟨b, o, none⟩) l (capOf t o e))
 | empty {a : Addr} {c : Nat} : VR ρ (.slice (some ⟨0, 0, none⟩) 0 3) (.slice (some a) 0 c)
 | map {i b t : Nat} (h : ρ[i]? = some (b, t)) : VR ρ (.map (some (ownB + i))) (.map (some b))
 | func {f : Fn} {fi ca fi' ca' : List Value} (h1 : fi.length = fi'.length) (h2 : ∀ (j : Nat) (v u : Value), fi[j]? = some v → fi'[j]? = some u → VR ρ v u)
   (h3 : ca.length = ca'.length) (h4 : ∀ (j : Nat) (v u : Value), ca[j]? = some v → ca'[j]? = some u → VR ρ v u) : VR ρ (.func f fi.toArray ca.toArray) (.func f fi'.toArray ca'.toArray)
 | agg {cs cs' : List Value} (h1 : cs.length = cs'.length) (h2 : ∀ (j : Nat) (v u : Value), cs[j]? = some v → cs'[j]? = some u → VR ρ v u) : VR ρ (.agg cs.toArray) (.agg cs'.toArray)
 | tuple {cs cs' : List Value} (h1 : cs.length = cs'.length) (h2 : ∀ (j : Nat) (v u : Value), cs[j]? = some v → cs'[j]? = some u → VR ρ v u) : VR ρ (.tuple cs.toArray) (.tuple cs'.toArray)
 | iface {t : TypeId} {v v' : Value} (h : VR ρ v v') : VR ρ (.iface t v) (.iface t v')
 | opq {k : Option Nat} {a : Addr} : VR ρ (.chan k) (.pointer (some a))
def VRL (ρ : Rho) (cs cs' : List Value) : Prop := cs.length = cs'.length ∧ ∀ (j : Nat) (v u : Value), cs[j]? = some v → cs'[j]? = some u → VR ρ v u
theorem VRL.nil {ρ : Rho} : VRL ρ [] [] := ⟨rfl, fun j v u h => by simp at h⟩
theorem VRL.cons {ρ : Rho} {v u : Value} {cs cs' : List Value} (h : VR ρ v u) (k : VRL ρ cs cs') : VRL ρ (v :: cs) (u :: cs') :=
 ⟨by simp [k.1], fun j a b h1 h2 => by
  cases j with
  | zero => simp at h1 h2; subst h1; subst h2; exact h
  | succ j => exact k.2 j a b (by simpa using h1) (by simpa using h2)⟩
theorem VRL.tail {ρ : Rho} {v u : Value} {cs cs' : List Value} (h : VRL ρ (v :: cs) (u :: cs')) : VR ρ v u ∧ VRL ρ cs cs' :=
 ⟨h.2 0 v u rfl rfl, by simpa using h.1, fun j a b h1 h2 => h.2 (j + 1) a b (by simpa using h1) (by simpa using h2)⟩
theorem VRL.cons_left {ρ : Rho} {v : Value} {cs us : List Value} (h : VRL ρ (v :: cs) us) : ∃ u cs', us = u :: cs' ∧ VR ρ v u ∧ VRL ρ cs cs' := by
 cases us with
 | nil => exact absurd h.1 (by simp)
 | cons u cs' => exact ⟨u, cs', rfl, h.tail.1, h.tail.2⟩
theorem VRL.nil_left {ρ : Rho} {us : List Value} (h : VRL ρ [] us) : us = [] := List.eq_nil_of_length_eq_zero (by have := h.1; simp at this; omega)
theorem VRL.get {ρ : Rho} {cs cs' : List Value} (h : VRL ρ cs cs') {j : Nat} {v : Value} (hj : cs[j]? = some v) : ∃ u, cs'[j]? = some u ∧ VR ρ v u := by
 have hl : j < cs'.length := by rw [← h.1]; exact (List.getElem?_eq_some_iff.1 hj).1
 exact ⟨cs'[j], by simp [hl], h.2 j v _ hj (by simp [hl])⟩
theorem VRL.take {ρ : Rho} {a a' : List Value} (h : VRL ρ a a') (k : Nat) : VRL ρ (a.take k) (a'.take k) :=
 ⟨by simp [h.1], fun j v u h1 h2 => by
  rw [List.getElem?_take] at h1 h2
  split at h1
  ·rename_i hj; rw [if_pos hj] at h2; exact h.2 j v u h1 h2
  ·cases h1⟩
theorem VRL.drop {ρ : Rho} {a a' : List Value} (h : VRL ρ a a') (k : Nat) : VRL ρ (a.drop k) (a'.drop k) :=
 ⟨by simp [h.1], fun j v u h1 h2 => by rw [List.getElem?_drop] at h1 h2; exact h.2 _ v u h1 h2⟩
theorem VRL.setAt {ρ : Rho} : ∀ {a a' : List Value} (k : Nat) {b b' : List Value}, VRL ρ a a' → VRL ρ b b' → VRL ρ (setAt a k b) (setAt a' k b')
 | [], a', k, b, b', h, hb => by
  obtain rfl := h.nil_left
  rcases b with _ | ⟨v, b⟩ <;> rcases b' with _ | ⟨u, b'⟩ <;> cases k <;> simp [SL.setAt] <;> exact h
 | c :: a, a', k, b, b', h, hb => by
  obtain ⟨c', a', rfl, hc, ha⟩ := h.cons_left
  cases k with
  | zero =>
   cases b with
   | nil => obtain rfl := hb.nil_left; simpa [SL.setAt] using h
   | cons v b => obtain ⟨u, b', rfl, hv, hb'⟩ := hb.cons_left; simpa [SL.setAt] using VRL.cons hv (VRL.setAt 0 ha hb')
  | succ k => simpa [SL.setAt] using VRL.cons hc (VRL.setAt k ha hb)
theorem VRL.flat {ρ : Rho} {cs : List Value} (h : cs.all flatV = true) : VRL ρ cs cs :=
 ⟨rfl, fun j v u h1 h2 => by rw [h1] at h2; obtain rfl := Option.some.inj h2; exact .flat (List.all_eq_true.1 h v (List.mem_of_getElem? h1))⟩
inductive EO where
 | cells (c : List Value) (E : TypeId)
 | ro (c : List Value)
 | map (es : List (ByteArray × Value))
 | iter (s : ByteArray) (pos : Nat)
 | ext (c : List Value)
inductive Tr where
 | leaf
 | node (v : Option EO) (l r : Tr)
def Tr.get : Tr → Nat → Option EO
 | .leaf, _ => none
 | .node v l r, n => bif Nat.beq n 0 then v else bif Nat.beq (n % 2) 1 then l.get (n / 2) else r.get (n / 2 - 1)
def Tr.set : Nat → Tr → Nat → Option EO → Tr
 | 0, t, _, _ => t
 | f + 1, .leaf, n, o => bif Nat.beq n 0 then .node o .leaf .leaf else bif Nat.beq (n % 2) 1 then .node none (Tr.set f .leaf (n / 2) o) .leaf else .node none .leaf (Tr.set f .leaf (n / 2 - 1) o)
 | f + 1, .node v l r, n, o => bif Nat.beq n 0 then .node o l r else bif Nat.beq (n % 2) 1 then .node v (Tr.set f l (n / 2) o) r else .node v l (Tr.set f r (n / 2 - 1) o)
theorem beq_cases (n m : Nat) : (n = m ∧ Nat.beq n m = true) ∨ (n ≠ m ∧ Nat.beq n m = false) := by
 by_cases h : n = m
 ·exact .inl ⟨h, by subst h; exact Nat.beq_refl n⟩
 ·refine .inr ⟨h, ?_⟩
  cases e : Nat.beq n m with
  | false => rfl
  | true => exact absurd (Nat.eq_of_beq_eq_true e) h
theorem Tr.get_leaf (n : Nat) : Tr.leaf.get n = none := by cases n <;> rfl
theorem Tr.get_set (f : Nat) : ∀ (t : Tr) (n m : Nat) (o : Option EO), n + 1 < 2 ^ f → (Tr.set f t n o).get m = if m = n then o else t.get m := by
 induction f with
 | zero => intro t n m o h; simp at h
 | succ f ih =>
  intro t n m o h
  have hp : 2 ^ (f + 1) = 2 * 2 ^ f := by rw [Nat.pow_succ, Nat.mul_comm]
  cases t with
  | leaf =>
   simp only [Tr.set]
   rcases beq_cases n 0 with ⟨rfl, e⟩ | ⟨hn, e⟩
   ·rw [e]; simp only [cond_true, Tr.get]
    rcases beq_cases m 0 with ⟨rfl, e2⟩ | ⟨hm, e2⟩ <;> rw [e2] <;> simp [Tr.get_leaf, *]
   ·rw [e]; simp only [cond_false]
    rcases beq_cases (n % 2) 1 with ⟨h1, e1⟩ | ⟨h1, e1⟩
    ·rw [e1]; simp only [cond_true, Tr.get]
     rcases beq_cases m 0 with ⟨rfl, e2⟩ | ⟨hm, e2⟩ <;> rw [e2] <;> simp only [cond_true, cond_false]
     ·rw [if_neg (by omega)]
     ·rcases beq_cases (m % 2) 1 with ⟨h3, e3⟩ | ⟨h3, e3⟩ <;> rw [e3] <;> simp only [cond_true, cond_false]
      ·rw [ih _ _ _ _ (by omega)]
       by_cases hc : m = n
       ·rw [if_pos hc, if_pos (by omega)]
       ·rw [if_neg hc, if_neg (by omega)]; try simp [Tr.get_leaf]
      ·rw [if_neg (by omega)]; try simp [Tr.get_leaf]
    ·rw [e1]; simp only [cond_false, Tr.get]
     rcases beq_cases m 0 with ⟨rfl, e2⟩ | ⟨hm, e2⟩ <;> rw [e2] <;> simp only [cond_true, cond_false]
     ·rw [if_neg (by omega)]
     ·rcases beq_cases (m % 2) 1 with ⟨h3, e3⟩ | ⟨h3, e3⟩ <;> rw [e3] <;> simp only [cond_true, cond_false]
      ·rw [if_neg (by omega)]; try simp [Tr.get_leaf]
      ·rw [ih _ _ _ _ (by omega)]
       by_cases hc : m = n
       ·rw [if_pos hc, if_pos (by omega)]
       ·rw [if_neg hc, if_neg (by omega)]; try simp [Tr.get_leaf]
  | node v l r =>
   simp only [Tr.set]
   rcases beq_cases n 0 with ⟨rfl, e⟩ | ⟨hn, e⟩
   ·rw [e]; simp only [cond_true, Tr.get]
    rcases beq_cases m 0 with ⟨rfl, e2⟩ | ⟨hm, e2⟩ <;> rw [e2] <;> simp [*]
   ·rw [e]; simp only [cond_false]
    rcases beq_cases (n % 2) 1 with ⟨h1, e1⟩ | ⟨h1, e1⟩
    ·rw [e1]; simp only [cond_true, Tr.get]
     rcases beq_cases m 0 with ⟨rfl, e2⟩ | ⟨hm, e2⟩ <;> rw [e2] <;> simp only [cond_true, cond_false]
     ·rw [if_neg (by omega)]
     ·rcases beq_cases (m % 2) 1 with ⟨h3, e3⟩ | ⟨h3, e3⟩ <;> rw [e3] <;> simp only [cond_true, cond_false]
      ·rw [ih _ _ _ _ (by omega)]
       by_cases hc : m = n
       ·rw [if_pos hc, if_pos (by omega)]
       ·rw [if_neg hc, if_neg (by omega)]
      ·rw [if_neg (by omega)]
    ·rw [e1]; simp only [cond_false, Tr.get]
     rcases beq_cases m 0 with ⟨rfl, e2⟩ | ⟨hm, e2⟩ <;> rw [e2] <;> simp only [cond_true, cond_false]
     ·rw [if_neg (by omega)]
     ·rcases beq_cases (m % 2) 1 with ⟨h3, e3⟩ | ⟨h3, e3⟩ <;> rw [e3] <;> simp only [cond_true, cond_false]
      ·rw [if_neg (by omega)]
      ·rw [ih _ _ _ _ (by omega)]
       by_cases hc : m = n
       ·rw [if_pos hc, if_pos (by omega)]
       ·rw [if_neg hc, if_neg (by omega)]
structure EH where
 nx : Nat
 tr : Tr
 g : List (Nat × List Value)
def bigN : Nat := 1000000000000
def EH.del (H : EH) (i : Nat) : EH := ⟨H.nx, Tr.set 50 H.tr i none, H.g⟩
def mapR (ρ : Rho) (es : List (ByteArray × Value)) (es' : List (ByteArray × Value)) : Prop := es.map Prod.fst = es'.map Prod.fst ∧ VRL ρ (es.map Prod.snd) (es'.map Prod.snd)
def OR (ρ : Rho) (t : Nat) : EO → AO → Prop
 | .cells c E, o => ∃ c', VRL ρ c c' ∧ o = .cells c' E t
 | .ro c, o => ∃ c', VRL ρ c c' ∧ o = .ro c'
 | .map es, o => ∃ es', mapR ρ es es' ∧ o = .map (skey es')
 | .iter s p, o => o = .obj (.stringIter s p)
 | .ext _, _ => False
abbrev LL := List (Nat × Seg)
def cs (L : LL) (S : SS) : SS := L.map Prod.snd ++ S
def extR (w0 : World) (ρ : Rho) (b : Nat) (c : List Value) : Prop := ∀ (j : Nat) (v : Value), c[j]? = some v → ∃ u, w0.cell? ⟨b, j, none⟩ = some u ∧ VR ρ v u
structure HR (w0 : World) (ρ : Rho) (H : EH) (L : LL) : Prop where
 nx : H.nx = ρ.length
 big : H.nx ≤ bigN
 nodup : (L.map Prod.fst).Nodup
 lt : ∀ p ∈ L, p.1 < H.nx
 at_ : ∀ i o, H.tr.get i = some o → i < H.nx ∧ ∃ b t, ρ[i]? = some (b, t) ∧ ((∃ c, o = .ext c ∧ extR w0 ρ b c) ∨ ∃ o', OR ρ t o o' ∧ (i, [(b, o')]) ∈ L)
 glob : ∀ p ∈ H.g, extR w0 ρ p.1 p.2
section
variable {w0 : World} {ρ : Rho} {H : EH} {L : LL}
theorem HR.own (h : HR w0 ρ H L) {i : Nat} {o : EO} (hi : H.tr.get i = some o) (he : ∀ c, o ≠ .ext c) (S : SS) : ∃ (b t : Nat) (o' : AO) (k : Nat), ρ[i]? = some (b, t) ∧ OR ρ t o o' ∧ L[k]? = some (i, [(b, o')]) ∧ (cs L S)[k]? = some [(b, o')] := by
 obtain ⟨_, b, t, h1, ⟨c, h2, _⟩ | ⟨o', h2, h3⟩⟩ := h.at_ i o hi
 ·exact absurd h2 (he c)
 ·obtain ⟨k, hk⟩ := List.getElem?_of_mem h3
  refine ⟨b, t, o', k, h1, h2, hk, ?_⟩
  have hl : k < L.length := (List.getElem?_eq_some_iff.1 hk).1
  unfold cs
  rw [List.getElem?_append_left (by simpa using hl), List.getElem?_map, hk]
  rfl
theorem HR.del (h : HR w0 ρ H L) {i : Nat} (hi : i < H.nx) : HR w0 ρ (H.del i) L := by
 refine ⟨h.nx, h.big, h.nodup, h.lt, fun j x hj => ?_, h.glob⟩
 have hb : bigN = 1000000000000 := rfl
 have := h.big
 simp only [EH.del] at hj ⊢
 rw [Tr.get_set 50 _ _ _ _ (by omega)] at hj
 split at hj
 ·cases hj
 ·exact h.at_ j x hj
theorem HR.drop (h : HR w0 ρ H L) {i k : Nat} {seg : Seg} (hk : L[k]? = some (i, seg)) : HR w0 ρ (H.del i) (L.set k (i, [])) := by
 have hkl : k < L.length := (List.getElem?_eq_some_iff.1 hk).1
 have hfst : (L.set k (i, [])).map Prod.fst = L.map Prod.fst := by
  rw [List.map_set]
  apply List.ext_getElem? 
  intro j
  by_cases e : k = j
  ·subst e; rw [List.getElem?_set_self (by simpa using hkl)]; simp [hk]
  ·rw [List.getElem?_set_ne e]
 have hil : i < H.nx := by have := h.lt _ (List.mem_of_getElem? hk); exact this
 refine ⟨h.nx, h.big, by rw [hfst]; exact h.nodup, ?_, ?_, h.glob⟩
 ·intro p hp
  rcases List.mem_or_eq_of_mem_set hp with hp | rfl
  ·exact h.lt p hp
  ·exact hil
 ·intro j x hj
  simp only [EH.del] at hj ⊢
  have hb : bigN = 1000000000000 := rfl
  have := h.big
  rw [Tr.get_set 50 _ _ _ _ (by omega)] at hj
  split at hj
  ·cases hj
  ·rename_i he
   obtain ⟨hlt, b', t', h1, h2⟩ := h.at_ j x hj
   refine ⟨hlt, b', t', h1, ?_⟩
   rcases h2 with h2 | ⟨o'', h2, h3⟩
   ·exact .inl h2
   ·refine .inr ⟨o'', h2, ?_⟩
    obtain ⟨q, hq⟩ := List.getElem?_of_mem h3
    have : k ≠ q := fun e => by subst e; rw [hk] at hq; simp only [Option.some.injEq, Prod.mk.injEq] at hq; omega
    exact List.mem_of_getElem? (by rw [List.getElem?_set_ne this]; exact hq)
end
end Go.SL
