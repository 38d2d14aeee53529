/- Walks. -/
import Derived.Test.YtbejcoeajlhmcaaPart3
import Derived.Test.YtbejcoeajlhmcaaProg
import Derived.DeepKeys5
import Derived.Lib.UnsafeStr
set_option linter.unusedVariables false
set_option linter.unusedSimpArgs false
set_option linter.unusedSectionVars false

namespace Go.Proofs
open Go.SL
set_option maxRecDepth 100000
def Try.pc6 : PC :=
 (.seq (.ops [zo 2 (.mov (.v (.bool false)))])
 (.seq (.seq (.ops [zm 11 0, zo 12 (.call 30 [(.t 11)]), zo 13 (.not (.t 12))])
 (.cond (.t 13) (.seq (.ops [zo 14 (.call 31 []), zm 2 14])
 .ret) .skip))
 (.seq (.ops [zm 16 0, zo 17 (.call 32 [(.t 16)]), zm 15 17, zo 18 (.ext 0 (.t 15)), zo 19 (.ext 1 (.t 15)), zm 3 18, zm 4 19])
 (.seq (.ops [zm 20 3, zo 21 (.call 33 [(.t 20)]), zm 22 4, zo 23 (.call 34 [(.t 22)]), zm 5 21, zm 6 23])
 (.seq (.seq (.ops [zm 24 5, zo 25 (.lenS (.t 24)), zm 26 6, zo 27 (.lenS (.t 26)), zo 28 (.bin .neq (.t 25) (.t 27)), zm 29 28, zg 30 29 false (.mov (.t 5)), zg 31 29 false (.call 36 [(.t 30)]), zg 32 29 false (.mov (.t 6)), zg 33 29 false (.call 37 [(.t 32)]), zg 34 29 false (.call 35 [(.t 31), (.t 33)]), zg 35 29 false (.not (.t 34)), zo 36 (.pick (.t 29) (.v (.bool true)) (.t 35))])
 (.cond (.t 36) (.seq (.ops [zo 2 (.mov (.v (.bool false)))])
 .ret) .skip))
 (.seq (.seq (.ops [zo 7 (.mov (.v (.int .i64 0)))])
 (.block 0 (.loop (.seq (.seq (.ops [zm 37 7, zm 38 5, zo 39 (.lenS (.t 38)), zo 40 (.bin .lss (.t 37) (.t 39))])
 (.cond (.t 40) .skip (.exit 0)))
 (.seq (.block 1 (.seq (.seq (.quiet 37 [zm 43 5, zm 44 7, zo 45 (.ixS 3 (.t 43) (.t 44)), zo 46 (.fa 1 (.t 45)), zo 47 (.ld (.t 46)), zm 48 6, zm 49 7, zo 50 (.ixS 3 (.t 48) (.t 49)), zo 51 (.fa 1 (.t 50)), zo 52 (.ld (.t 51)), zo 53 (.binB .neq (.t 47) (.t 52)), zm 54 53, zg 55 54 false (.mov (.t 5)), zg 56 54 false (.mov (.t 7)), zg 57 54 false (.ixS 3 (.t 55) (.t 56)), zg 58 54 false (.fa 0 (.t 57)), zg 59 54 false (.ld (.t 58)), zg 60 54 false (.lenS (.t 59)), zg 61 54 false (.mov (.t 6)), zg 62 54 false (.mov (.t 7)), zg 63 54 false (.ixS 3 (.t 61) (.t 62)), zg 64 54 false (.fa 0 (.t 63)), zg 65 54 false (.ld (.t 64)), zg 66 54 false (.lenS (.t 65)), zg 67 54 false (.bin .neq (.t 60) (.t 66)), zo 68 (.pick (.t 54) (.v (.bool true)) (.t 67)), zm 69 68, zg 70 69 false (.mov (.t 5)), zg 71 69 false (.mov (.t 7)), zg 72 69 false (.ixS 3 (.t 70) (.t 71)), zg 73 69 false (.fa 2 (.t 72)), zg 74 69 false (.ld (.t 73)), zg 75 69 false (.mov (.t 6)), zg 76 69 false (.mov (.t 7)), zg 77 69 false (.ixS 3 (.t 75) (.t 76)), zg 78 69 false (.fa 2 (.t 77)), zg 79 69 false (.ld (.t 78)), zg 80 69 false (.call 38 [(.t 74), (.t 79)]), zg 81 69 false (.not (.t 80)), zo 82 (.pick (.t 69) (.v (.bool true)) (.t 81))])
 (.cond (.t 82) (.seq (.ops [zo 2 (.mov (.v (.bool false)))])
 .ret) .skip))
 (.seq (.ops [zo 8 (.mov (.v (.int .i64 0)))])
 (.block 2 (.loop (.seq (.seq (.ops [zm 83 8, zm 84 5, zm 85 7, zo 86 (.ixS 3 (.t 84) (.t 85)), zo 87 (.fa 0 (.t 86)), zo 88 (.ld (.t 87)), zo 89 (.lenS (.t 88)), zo 90 (.bin .lss (.t 83) (.t 89))])
 (.cond (.t 90) .skip (.exit 2)))
 (.seq (.block 3 (.seq (.quietR [0, 0, 3, 7, 15, 0, 63, 127, 0, 0, 768, 1792, 3840, 0, 16128, 32512, 0, 0, 196863] 19 [zm 93 5, zm 94 7, zo 95 (.ixS 3 (.t 93) (.t 94)), zo 96 (.fa 0 (.t 95)), zo 97 (.ld (.t 96)), zm 98 8, zo 99 (.ixS 35 (.t 97) (.t 98)), zo 100 (.ldA 35 (.t 99)), zm 101 6, zm 102 7, zo 103 (.ixS 3 (.t 101) (.t 102)), zo 104 (.fa 0 (.t 103)), zo 105 (.ld (.t 104)), zm 106 8, zo 107 (.ixS 35 (.t 105) (.t 106)), zo 108 (.ldA 35 (.t 107)), zo 9 (.al 43 [zz, zz, zz, zz, zz, zz, zz, zz, zz, zz, zz, zz, zz, zz, zz, zz, zz, zz, zz, zz, zz, zz, zz, zz, zz, zz, zz, zz, zz, zz, zz, zz, .int .i64 0, .string ⟨#[]⟩, .bool false]), zo 10 (.al 78 [zz, zz, zz, zz, zz, zz, zz, zz, zz, zz, zz, zz, zz, zz, zz, zz, zz, zz, zz, zz, zz, zz, zz, zz, zz, zz, zz, zz, zz, zz, zz, zz, .int .i64 0, .string ⟨#[]⟩, .bool false]), ⟨none, none, .st 35 (.t 9) (.t 100)⟩, ⟨none, none, .st 35 (.t 10) (.t 108)⟩])
 (.seq (.ops [zo 109 (.fa 0 (.t 9)), zo 110 (.ldA 33 (.t 109)), zo 111 (.fa 0 (.t 10)), zo 112 (.ldA 33 (.t 111)), zo 113 (.more (.eqD true 32 [yy, yy, yy, yy, yy, yy, yy, yy, yy, yy, yy, yy, yy, yy, yy, yy, yy, yy, yy, yy, yy, yy, yy, yy, yy, yy, yy, yy, yy, yy, yy, yy, .int .i64] (.t 110) (.t 112))), zm 114 113, zg 115 114 false (.fa 33 (.t 9)), zg 116 114 false (.ld (.t 115)), zg 117 114 false (.fa 33 (.t 10)), zg 118 114 false (.ld (.t 117)), zg 119 114 false (.bin .neq (.t 116) (.t 118)), zo 120 (.pick (.t 114) (.v (.bool true)) (.t 119)), zm 121 120, zg 122 121 false (.fa 34 (.t 9)), zg 123 121 false (.ld (.t 122)), zg 124 121 false (.not (.t 123)), zo 125 (.pick (.t 121) (.v (.bool true)) (.t 124))])
 (.cond (.t 125) (.seq (.ops [zo 2 (.mov (.v (.bool false)))])
 .ret) .skip))))
 (.ops [zm 91 8, zo 92 (.bin .add (.t 91) (.v (.int .i64 1))), zm 8 92]))))))))
 (.ops [zm 41 7, zo 42 (.bin .add (.t 41) (.v (.int .i64 1))), zm 7 42]))))))
 (.seq (.ops [zo 126 (.call 31 []), zm 2 126])
 .ret)))))))
theorem Try.known6 : Known Try.prog 6 Try.pc6 127 [2] := ⟨Try.f6, _, Try.func6, rfl, by kernel_rfl, rfl, rfl⟩
def Try.pc30 : PC :=
 (.seq (.ops [zo 2 (.mov (.v (.bool false)))])
 (.seq (.seq (.ops [zo 3 (.mov (.v (.int .i64 0)))])
 (.block 0 (.loop (.seq (.seq (.ops [zm 4 3, zm 5 0, zo 6 (.lenS (.t 5)), zo 7 (.bin .lss (.t 4) (.t 6)), zm 8 7, zg 9 8 true (.mov (.t 3)), zg 10 8 true (.bin .lss (.t 9) (.v (.int .i64 15))), zo 11 (.pick (.t 8) (.t 10) (.v (.bool false)))])
 (.cond (.t 11) .skip (.exit 0)))
 (.seq (.block 1 (.seq (.ops [zm 14 0, zm 15 3, zo 16 (.ixS 102 (.t 14) (.t 15)), zo 17 (.fa 100 (.t 16)), zo 18 (.ld (.t 17)), zo 19 (.lenS (.t 18)), zo 20 (.bin .gtr (.t 19) (.v (.int .i64 8))), zm 21 20, zg 22 21 false (.mov (.t 0)), zg 23 21 false (.mov (.t 3)), zg 24 21 false (.ixS 102 (.t 22) (.t 23)), zg 25 21 false (.fa 101 (.t 24)), zg 26 21 false (.ld (.t 25)), zg 27 21 false (.lenS (.t 26)), zg 28 21 false (.bin .gtr (.t 27) (.v (.int .i64 8))), zo 29 (.pick (.t 21) (.v (.bool true)) (.t 28)), zm 30 29, zg 31 30 false (.mov (.t 0)), zg 32 30 false (.mov (.t 3)), zg 33 30 false (.ixS 102 (.t 31) (.t 32)), zg 34 30 false (.fa 33 (.t 33)), zg 35 30 false (.ld (.t 34)), zg 36 30 false (.bin .gtr (.t 35) (.v (.int .i64 1000))), zo 37 (.pick (.t 30) (.v (.bool true)) (.t 36))])
 (.cond (.t 37) (.seq (.ops [zo 2 (.mov (.v (.bool false)))])
 .ret) .skip)))
 (.ops [zm 12 3, zo 13 (.bin .add (.t 12) (.v (.int .i64 1))), zm 3 13]))))))
 (.seq (.ops [zm 38 0, zo 39 (.lenS (.t 38)), zo 40 (.bin .leq (.t 39) (.v (.int .i64 14))), zm 2 40])
 .ret)))
theorem Try.known30 : Known Try.prog 30 Try.pc30 41 [2] := ⟨Try.f30, _, Try.func30, rfl, by kernel_rfl, rfl, rfl⟩
def Try.pc31 : PC :=
 (.seq (.ops [zo 0 (.mov (.v (.bool false)))])
 (.seq (.ops [zo 8 (.call 41 []), zm 7 8, zo 9 (.ext 0 (.t 7)), zo 10 (.ext 1 (.t 7)), zo 11 (.ext 2 (.t 7)), zo 2 (.al 32 [zz, zz, zz, zz, zz, zz, zz, zz, zz, zz, zz, zz, zz, zz, zz, zz, zz, zz, zz, zz, zz, zz, zz, zz, zz, zz, zz, zz, zz, zz, zz, zz, .int .i64 0]), zo 3 (.al 32 [zz, zz, zz, zz, zz, zz, zz, zz, zz, zz, zz, zz, zz, zz, zz, zz, zz, zz, zz, zz, zz, zz, zz, zz, zz, zz, zz, zz, zz, zz, zz, zz, .int .i64 0]), zm 1 9, ⟨none, none, .st 33 (.t 2) (.t 10)⟩, ⟨none, none, .st 33 (.t 3) (.t 11)⟩])
 (.seq (.ops [zm 12 1, zo 13 (.ldA 33 (.t 2)), zo 14 (.ldA 33 (.t 3)), zo 15 (.bsl 9 [.string ⟨#[]⟩] 1 [(0, 1, (.v (.string ⟨#[120]⟩)))]), zo 16 (.call 42 [(.v (.int .u8 2)), (.t 13), (.t 14), (.t 15)]), zo 17 (.call 16 [(.t 12), (.t 16)]), zm 4 17])
 (.seq (.ops [zm 18 1, zo 19 (.ldA 33 (.t 2)), zo 20 (.ldA 33 (.t 3)), zo 21 (.bsl 9 [.string ⟨#[]⟩] 1 [(0, 1, (.v (.string ⟨#[121]⟩)))]), zo 22 (.call 42 [(.v (.int .u8 3)), (.t 19), (.t 20), (.t 21)]), zo 23 (.call 16 [(.t 18), (.t 22)]), zm 5 23])
 (.seq (.ops [zm 24 1, zo 25 (.call 33 [(.t 24)]), zm 6 25])
 (.seq (.ops [zm 26 4, zo 27 (.bin .eql (.t 26) (.v (.int .i64 0))), zm 28 27, zg 29 28 true (.mov (.t 5)), zg 30 28 true (.bin .eql (.t 29) (.v (.int .i64 0))), zo 31 (.pick (.t 28) (.t 30) (.v (.bool false))), zm 32 31, zg 33 32 true (.mov (.t 6)), zg 34 32 true (.lenS (.t 33)), zg 35 32 true (.bin .eql (.t 34) (.v (.int .i64 3))), zo 36 (.pick (.t 32) (.t 35) (.v (.bool false))), zm 37 36, zg 38 37 true (.mov (.t 6)), zg 39 37 true (.ixS 3 (.t 38) (.v (.int .i64 1))), zg 40 37 true (.fa 1 (.t 39)), zg 41 37 true (.ld (.t 40)), zo 42 (.pick (.t 37) (.t 41) (.v (.bool false))), zm 43 42, zg 44 43 true (.mov (.t 6)), zg 45 43 true (.call 39 [(.t 44)]), zo 46 (.pick (.t 43) (.t 45) (.v (.bool false))), zm 47 46, zg 48 47 true (.mov (.t 6)), zg 49 47 true (.call 36 [(.t 48)]), zg 50 47 true (.bsl 9 [.string ⟨#[]⟩, .string ⟨#[]⟩, .string ⟨#[]⟩, .string ⟨#[]⟩, .string ⟨#[]⟩, .string ⟨#[]⟩, .string ⟨#[]⟩] 7 [(0, 1, (.v (.string ⟨#[97]⟩))), (1, 1, (.v (.string ⟨#[62, 62, 62, 62, 62, 62, 62]⟩))), (2, 1, (.v (.string ⟨#[120]⟩))), (3, 1, (.v (.string ⟨#[61, 61, 61, 61, 61, 61, 61]⟩))), (4, 1, (.v (.string ⟨#[121]⟩))), (5, 1, (.v (.string ⟨#[60, 60, 60, 60, 60, 60, 60]⟩))), (6, 1, (.v (.string ⟨#[98]⟩)))]), zg 51 47 true (.call 35 [(.t 49), (.t 50)]), zo 52 (.pick (.t 47) (.t 51) (.v (.bool false))), zm 0 52])
 .ret))))))
theorem Try.known31 : Known Try.prog 31 Try.pc31 53 [0] := ⟨Try.f31, _, Try.func31, rfl, by kernel_rfl, rfl, rfl⟩
def Try.pc32 : PC :=
 (.seq (.ops [zo 2 (.mov (.v (.pointer none))), zo 3 (.mov (.v (.slice none 0 0)))])
 (.seq (.ops [zo 8 (.call 14 []), zm 4 8])
 (.seq (.ops [zo 5 (.mov (.v (.slice none 0 0)))])
 (.seq (.seq (.ops [zo 6 (.mov (.v (.int .i64 0)))])
 (.block 0 (.loop (.seq (.seq (.ops [zm 9 6, zm 10 0, zo 11 (.lenS (.t 10)), zo 12 (.bin .lss (.t 9) (.t 11))])
 (.cond (.t 12) .skip (.exit 0)))
 (.seq (.block 1 (.seq (.ops [zm 15 0, zm 16 6, zo 17 (.ixS 102 (.t 15) (.t 16)), zo 18 (.ldA 102 (.t 17)), zo 7 (.al 36 [zz, zz, zz, zz, zz, zz, zz, zz, zz, zz, zz, zz, zz, zz, zz, zz, zz, zz, zz, zz, zz, zz, zz, zz, zz, zz, zz, zz, zz, zz, zz, zz, .int .i64 0, .int .i64 0, zz, zz, zz, zz, zz, zz, zz, zz, zz, zz, zz, zz, zz, zz, zz, zz, zz, zz, zz, zz, zz, zz, zz, zz, zz, zz, zz, zz, zz, zz, zz, zz, .int .i64 0, zz, zz, zz, zz, zz, zz, zz, zz, zz, zz, zz, zz, zz, zz, zz, zz, zz, zz, zz, zz, zz, zz, zz, zz, zz, zz, zz, zz, zz, zz, zz, zz, .int .i64 0, .slice none 0 0, .slice none 0 0]), ⟨none, none, .st 102 (.t 7) (.t 18)⟩])
 (.seq (.seq (.ops [zm 19 4, zo 20 (.ldA 102 (.t 7)), zo 21 (.call 16 [(.t 19), (.t 20)]), zo 22 (.bin .neq (.t 21) (.v (.int .i64 0)))])
 (.cond (.t 22) (.exit 1) .skip))
 (.ops [zm 24 5, zo 25 (.fa 0 (.t 7)), zo 26 (.ldA 32 (.t 25)), zo 27 (.fa 32 (.t 7)), zo 28 (.ld (.t 27)), zo 29 (.fa 33 (.t 7)), zo 30 (.ld (.t 29)), zo 31 (.fa 34 (.t 7)), zo 32 (.ldA 33 (.t 31)), zo 33 (.fa 67 (.t 7)), zo 34 (.ldA 33 (.t 33)), zo 35 (.fa 100 (.t 7)), zo 36 (.ld (.t 35)), zo 37 (.fa 101 (.t 7)), zo 38 (.ld (.t 37)), zo 39 (.build [zz, zz, zz, zz, zz, zz, zz, zz, zz, zz, zz, zz, zz, zz, zz, zz, zz, zz, zz, zz, zz, zz, zz, zz, zz, zz, zz, zz, zz, zz, zz, zz, .int .i64 0, .int .i64 0, zz, zz, zz, zz, zz, zz, zz, zz, zz, zz, zz, zz, zz, zz, zz, zz, zz, zz, zz, zz, zz, zz, zz, zz, zz, zz, zz, zz, zz, zz, zz, zz, .int .i64 0, zz, zz, zz, zz, zz, zz, zz, zz, zz, zz, zz, zz, zz, zz, zz, zz, zz, zz, zz, zz, zz, zz, zz, zz, zz, zz, zz, zz, zz, zz, zz, zz, .int .i64 0, .slice none 0 0, .slice none 0 0] [(0, 32, (.t 26)), (32, 1, (.t 28)), (33, 1, (.t 30)), (34, 33, (.t 32)), (67, 33, (.t 34)), (100, 1, (.t 36)), (101, 1, (.t 38))]), zo 40 (.call 68 [(.t 24), (.t 39)]), zm 23 40, zo 41 (.ext 0 (.t 23)), zo 42 (.ext 1 (.t 23)), zm 5 41]))))
 (.ops [zm 13 6, zo 14 (.bin .add (.t 13) (.v (.int .i64 1))), zm 6 14]))))))
 (.seq (.ops [zm 43 4, zm 44 5, zm 2 43, zm 3 44])
 .ret)))))
theorem Try.known32 : Known Try.prog 32 Try.pc32 45 [2, 3] := ⟨Try.f32, _, Try.func32, rfl, by kernel_rfl, rfl, rfl⟩
def Try.pc33 : PC :=
 (.seq (.ops [zo 2 (.mov (.v (.slice none 0 0)))])
 (.scope (.seq (.ops [zm 10 0, zo 11 (.call 17 [(.t 10)]), zo 12 (.call 69 [(.t 11), (.v (.func (.func 70) #[] #[]))]), zm 3 12])
 (.seq (.ops [zo 4 (.mov (.v (.slice none 0 0)))])
 (.seq (.ops [zo 5 (.mov (.v (.slice none 0 0)))])
 (.seq .label
 (.seq (.seq (.ops [zm 13 3, zo 14 (.lenS (.t 13)), zo 15 (.mov (.v (.int .i64 0)))])
 (.block 0 (.loop (.seq (.ops [zo 16 (.bin .lss (.t 15) (.t 14))])
 (.seq (.cond (.t 16) .skip (.exit 0))
 (.seq (.block 1 (.seq (.ops [zo 17 (.ixS 35 (.t 13) (.t 15)), zo 18 (.ldA 35 (.t 17)), zo 7 (.al 43 [zz, zz, zz, zz, zz, zz, zz, zz, zz, zz, zz, zz, zz, zz, zz, zz, zz, zz, zz, zz, zz, zz, zz, zz, zz, zz, zz, zz, zz, zz, zz, zz, .int .i64 0, .string ⟨#[]⟩, .bool false]), ⟨none, none, .st 35 (.t 7) (.t 18)⟩])
 (.seq (.seq (.ops [zm 19 3, zo 20 (.lenS (.t 19)), zo 21 (.mov (.v (.int .i64 0)))])
 (.block 2 (.loop (.seq (.ops [zo 22 (.bin .lss (.t 21) (.t 20))])
 (.seq (.cond (.t 22) .skip (.exit 2))
 (.seq (.block 3 (.seq (.ops [zo 23 (.ixS 35 (.t 19) (.t 21)), zo 24 (.ldA 35 (.t 23)), zo 9 (.al 43 [zz, zz, zz, zz, zz, zz, zz, zz, zz, zz, zz, zz, zz, zz, zz, zz, zz, zz, zz, zz, zz, zz, zz, zz, zz, zz, zz, zz, zz, zz, zz, zz, .int .i64 0, .string ⟨#[]⟩, .bool false]), ⟨none, none, .st 35 (.t 9) (.t 24)⟩])
 (.seq (.ops [zo 25 (.fa 0 (.t 7)), zo 26 (.ldA 33 (.t 25)), zo 27 (.fa 0 (.t 9)), zo 28 (.ldA 33 (.t 27)), zo 29 (.more (.eqD true 32 [yy, yy, yy, yy, yy, yy, yy, yy, yy, yy, yy, yy, yy, yy, yy, yy, yy, yy, yy, yy, yy, yy, yy, yy, yy, yy, yy, yy, yy, yy, yy, yy, .int .i64] (.t 26) (.t 28))), zm 30 29, zg 31 30 true (.mov (.t 0)), zg 32 30 true (.ldA 35 (.t 7)), zg 33 30 true (.ldA 35 (.t 9)), zg 34 30 true (.call 71 [(.t 31), (.t 32), (.t 33)]), zg 35 30 true (.not (.t 34)), zo 36 (.pick (.t 30) (.t 35) (.v (.bool false)))])
 (.cond (.t 36) (.seq (.ops [zm 37 5, zo 38 (.ldA 35 (.t 7)), zo 39 (.bsl 43 [zz, zz, zz, zz, zz, zz, zz, zz, zz, zz, zz, zz, zz, zz, zz, zz, zz, zz, zz, zz, zz, zz, zz, zz, zz, zz, zz, zz, zz, zz, zz, zz, .int .i64 0, .string ⟨#[]⟩, .bool false] 1 [(0, 35, (.t 38))]), zo 40 (.app 39 43 35 64 (.agg #[zz, zz, zz, zz, zz, zz, zz, zz, zz, zz, zz, zz, zz, zz, zz, zz, zz, zz, zz, zz, zz, zz, zz, zz, zz, zz, zz, zz, zz, zz, zz, zz, .int .i64 0, .string ⟨#[]⟩, .bool false]) (.t 37) (.t 39)), zm 5 40])
 (.exit 1)) .skip))))
 (.ops [zo 41 (.bin .add (.t 21) (.v (.int .i64 1))), zm 21 41])))))))
 (.seq (.seq (.ops [zm 42 5, zo 43 (.lenS (.t 42)), zo 44 (.bin .gtr (.t 43) (.v (.int .i64 0)))])
 (.cond (.t 44) (.seq (.ops [zm 45 4, zm 46 0, zm 47 5, zo 48 (.call 72 [(.t 46), (.t 47)]), zo 49 (.bsl 73 [.slice none 0 0, .bool false, .slice none 0 0] 1 [(0, 3, (.t 48))]), zo 50 (.app 64 73 3 56 (.agg #[.slice none 0 0, .bool false, .slice none 0 0]) (.t 45) (.t 49)), zm 4 50])
 (.ops [zo 5 (.mov (.v (.slice none 0 0)))])) .skip))
 (.ops [zm 51 4, zo 52 (.ldA 35 (.t 7)), zo 53 (.bsl 43 [zz, zz, zz, zz, zz, zz, zz, zz, zz, zz, zz, zz, zz, zz, zz, zz, zz, zz, zz, zz, zz, zz, zz, zz, zz, zz, zz, zz, zz, zz, zz, zz, .int .i64 0, .string ⟨#[]⟩, .bool false] 1 [(0, 35, (.t 52))]), zo 54 (.build [.slice none 0 0, .bool false, .slice none 0 0] [(0, 1, (.t 53))]), zo 55 (.bsl 73 [.slice none 0 0, .bool false, .slice none 0 0] 1 [(0, 3, (.t 54))]), zo 56 (.app 64 73 3 56 (.agg #[.slice none 0 0, .bool false, .slice none 0 0]) (.t 51) (.t 55)), zm 4 56])))))
 (.ops [zo 57 (.bin .add (.t 15) (.v (.int .i64 1))), zm 15 57])))))))
 (.seq (.seq (.ops [zm 58 5, zo 59 (.lenS (.t 58)), zo 60 (.bin .gtr (.t 59) (.v (.int .i64 0)))])
 (.cond (.t 60) (.ops [zm 61 4, zm 62 0, zm 63 5, zo 64 (.call 72 [(.t 62), (.t 63)]), zo 65 (.bsl 73 [.slice none 0 0, .bool false, .slice none 0 0] 1 [(0, 3, (.t 64))]), zo 66 (.app 64 73 3 56 (.agg #[.slice none 0 0, .bool false, .slice none 0 0]) (.t 61) (.t 65)), zm 4 66]) .skip))
 (.seq (.ops [zm 67 4, zm 2 67])
 .ret)))))))))
theorem Try.known33 : Known Try.prog 33 Try.pc33 68 [2] := ⟨Try.f33, _, Try.func33, rfl, by kernel_rfl, rfl, rfl⟩
def Try.pc34 : PC :=
 (.seq (.ops [zo 2 (.mov (.v (.slice none 0 0)))])
 (.seq (.ops [zm 7 0, zo 8 (.call 73 [(.t 7)]), zm 3 8])
 (.seq (.ops [zo 4 (.mov (.v (.slice none 0 0)))])
 (.seq (.seq (.ops [zo 5 (.mov (.v (.int .i64 0)))])
 (.block 0 (.loop (.seq (.seq (.ops [zm 9 5, zm 10 3, zo 11 (.lenS (.t 10)), zo 12 (.bin .lss (.t 9) (.t 11))])
 (.cond (.t 12) .skip (.exit 0)))
 (.seq (.block 1 (.seq (.seq (.ops [zm 15 0, zm 16 3, zm 17 5, zo 18 (.call 74 [(.t 15), (.t 16), (.t 17)])])
 (.cond (.t 18) (.seq (.ops [zm 19 4, zm 20 3, zm 21 5, zo 22 (.ixS 35 (.t 20) (.t 21)), zo 23 (.ldA 35 (.t 22)), zo 24 (.bsl 78 [zz, zz, zz, zz, zz, zz, zz, zz, zz, zz, zz, zz, zz, zz, zz, zz, zz, zz, zz, zz, zz, zz, zz, zz, zz, zz, zz, zz, zz, zz, zz, zz, .int .i64 0, .string ⟨#[]⟩, .bool false] 1 [(0, 35, (.t 23))]), zo 25 (.build [.slice none 0 0, .bool false, .slice none 0 0] [(0, 1, (.t 24))]), zo 26 (.bsl 76 [.slice none 0 0, .bool false, .slice none 0 0] 1 [(0, 3, (.t 25))]), zo 27 (.app 66 76 3 56 (.agg #[.slice none 0 0, .bool false, .slice none 0 0]) (.t 19) (.t 26)), zm 4 27])
 (.exit 1)) .skip))
 (.seq (.ops [zm 28 4, zo 29 (.lenS (.t 28)), zm 6 29])
 (.seq (.seq (.ops [zm 30 6, zo 31 (.bin .gtr (.t 30) (.v (.int .i64 0))), zm 32 31, zg 33 32 true (.mov (.t 4)), zg 34 32 true (.mov (.t 6)), zg 35 32 true (.bin .sub (.t 34) (.v (.int .i64 1))), zg 36 32 true (.ixS 3 (.t 33) (.t 35)), zg 37 32 true (.fa 1 (.t 36)), zg 38 32 true (.ld (.t 37)), zo 39 (.pick (.t 32) (.t 38) (.v (.bool false)))])
 (.cond (.t 39) (.seq (.seq (.quiet 12 [zm 40 0, zm 41 3, zm 42 5, zo 43 (.bin .sub (.t 42) (.v (.int .i64 1))), zo 44 (.ixS 35 (.t 41) (.t 43)), zo 45 (.fa 0 (.t 44)), zo 46 (.ldA 33 (.t 45)), zm 47 3, zm 48 5, zo 49 (.ixS 35 (.t 47) (.t 48)), zo 50 (.fa 0 (.t 49)), zo 51 (.ldA 33 (.t 50)), zo 52 (.call 75 [(.t 40), (.t 46), (.t 51)]), zo 53 (.not (.t 52))])
 (.cond (.t 53) (.quietR [0, 0, 2, 0, 0, 16, 56, 120, 248, 0, 0, 1024, 3584, 7680, 15872, 32256, 65024, 131064] 18 [zm 54 4, zm 55 6, zo 56 (.bin .sub (.t 55) (.v (.int .i64 1))), zm 57 4, zm 58 6, zo 59 (.bin .sub (.t 58) (.v (.int .i64 1))), zo 60 (.ixS 3 (.t 57) (.t 59)), zo 61 (.fa 2 (.t 60)), zo 62 (.ld (.t 61)), zm 63 4, zm 64 6, zo 65 (.bin .sub (.t 64) (.v (.int .i64 1))), zo 66 (.ixS 3 (.t 63) (.t 65)), zo 67 (.fa 0 (.t 66)), zo 68 (.ld (.t 67)), zo 69 (.lenS (.t 68)), zo 70 (.bsl 3 [.int .i64 0] 1 [(0, 1, (.t 69))]), zo 71 (.app 71 3 1 8 (.int .i64 0) (.t 62) (.t 70)), zo 72 (.ixS 3 (.t 54) (.t 56)), zo 73 (.fa 2 (.t 72)), ⟨none, none, .st 1 (.t 73) (.t 71)⟩]) .skip))
 (.seq (.quietR [0, 0, 2, 0, 0, 16, 56, 120, 248, 0, 0, 1536, 3584, 7680, 16376] 15 [zm 74 4, zm 75 6, zo 76 (.bin .sub (.t 75) (.v (.int .i64 1))), zm 77 4, zm 78 6, zo 79 (.bin .sub (.t 78) (.v (.int .i64 1))), zo 80 (.ixS 3 (.t 77) (.t 79)), zo 81 (.fa 0 (.t 80)), zo 82 (.ld (.t 81)), zm 83 3, zm 84 5, zo 85 (.ixS 35 (.t 83) (.t 84)), zo 86 (.ldA 35 (.t 85)), zo 87 (.bsl 78 [zz, zz, zz, zz, zz, zz, zz, zz, zz, zz, zz, zz, zz, zz, zz, zz, zz, zz, zz, zz, zz, zz, zz, zz, zz, zz, zz, zz, zz, zz, zz, zz, .int .i64 0, .string ⟨#[]⟩, .bool false] 1 [(0, 35, (.t 86))]), zo 88 (.app 74 78 35 64 (.agg #[zz, zz, zz, zz, zz, zz, zz, zz, zz, zz, zz, zz, zz, zz, zz, zz, zz, zz, zz, zz, zz, zz, zz, zz, zz, zz, zz, zz, zz, zz, zz, zz, .int .i64 0, .string ⟨#[]⟩, .bool false]) (.t 82) (.t 87)), zo 89 (.ixS 3 (.t 74) (.t 76)), zo 90 (.fa 0 (.t 89)), ⟨none, none, .st 1 (.t 90) (.t 88)⟩])
 (.exit 1))) .skip))
 (.ops [zm 91 4, zm 92 3, zm 93 5, zo 94 (.ixS 35 (.t 92) (.t 93)), zo 95 (.ldA 35 (.t 94)), zo 96 (.bsl 78 [zz, zz, zz, zz, zz, zz, zz, zz, zz, zz, zz, zz, zz, zz, zz, zz, zz, zz, zz, zz, zz, zz, zz, zz, zz, zz, zz, zz, zz, zz, zz, zz, .int .i64 0, .string ⟨#[]⟩, .bool false] 1 [(0, 35, (.t 95))]), zo 97 (.build [.slice none 0 0, .bool false, .slice none 0 0] [(0, 1, (.t 96)), (1, 1, (.v (.bool true)))]), zo 98 (.bsl 76 [.slice none 0 0, .bool false, .slice none 0 0] 1 [(0, 3, (.t 97))]), zo 99 (.app 66 76 3 56 (.agg #[.slice none 0 0, .bool false, .slice none 0 0]) (.t 91) (.t 98)), zm 4 99])))))
 (.ops [zm 13 5, zo 14 (.bin .add (.t 13) (.v (.int .i64 1))), zm 5 14]))))))
 (.seq (.ops [zm 100 4, zm 2 100])
 .ret)))))
theorem Try.known34 : Known Try.prog 34 Try.pc34 101 [2] := ⟨Try.f34, _, Try.func34, rfl, by kernel_rfl, rfl, rfl⟩
def Try.pc35 : PC :=
 (.seq (.ops [zo 4 (.mov (.v (.bool false)))])
 (.seq (.seq (.ops [zm 6 0, zo 7 (.lenS (.t 6)), zm 8 1, zo 9 (.lenS (.t 8)), zo 10 (.bin .neq (.t 7) (.t 9))])
 (.cond (.t 10) (.seq (.ops [zo 4 (.mov (.v (.bool false)))])
 .ret) .skip))
 (.seq (.seq (.ops [zo 5 (.mov (.v (.int .i64 0)))])
 (.block 0 (.loop (.seq (.seq (.ops [zm 11 5, zm 12 0, zo 13 (.lenS (.t 12)), zo 14 (.bin .lss (.t 11) (.t 13))])
 (.cond (.t 14) .skip (.exit 0)))
 (.seq (.block 1 (.seq (.quiet 8 [zm 17 0, zm 18 5, zo 19 (.ixS 1 (.t 17) (.t 18)), zo 20 (.ld (.t 19)), zm 21 1, zm 22 5, zo 23 (.ixS 1 (.t 21) (.t 22)), zo 24 (.ld (.t 23)), zo 25 (.bin .neq (.t 20) (.t 24))])
 (.cond (.t 25) (.seq (.ops [zo 4 (.mov (.v (.bool false)))])
 .ret) .skip)))
 (.ops [zm 15 5, zo 16 (.bin .add (.t 15) (.v (.int .i64 1))), zm 5 16]))))))
 (.seq (.ops [zo 4 (.mov (.v (.bool true)))])
 .ret))))
theorem Try.known35 : Known Try.prog 35 Try.pc35 26 [4] := ⟨Try.f35, _, Try.func35, rfl, by kernel_rfl, rfl, rfl⟩
def Try.pc36 : PC :=
 (.seq (.ops [zo 2 (.mov (.v (.slice none 0 0)))])
 (.seq (.ops [zo 3 (.mov (.v (.slice none 0 0)))])
 (.seq (.seq (.ops [zm 8 0, zo 9 (.lenS (.t 8)), zo 10 (.mov (.v (.int .i64 0)))])
 (.block 0 (.loop (.seq (.ops [zo 11 (.bin .lss (.t 10) (.t 9))])
 (.seq (.cond (.t 11) .skip (.exit 0))
 (.seq (.block 1 (.seq (.ops [zo 12 (.ixS 3 (.t 8) (.t 10)), zo 13 (.ldA 3 (.t 12)), zo 5 (.al 73 [.slice none 0 0, .bool false, .slice none 0 0]), ⟨none, none, .st 3 (.t 5) (.t 13)⟩])
 (.seq (.seq (.ops [zo 14 (.fa 1 (.t 5)), zo 15 (.ld (.t 14))])
 (.cond (.t 15) (.ops [zm 16 3, zo 17 (.bsl 9 [.string ⟨#[]⟩] 1 [(0, 1, (.v (.string ⟨#[62, 62, 62, 62, 62, 62, 62]⟩)))]), zo 18 (.app 33 9 1 16 (.string ⟨#[]⟩) (.t 16) (.t 17)), zm 3 18]) .skip))
 (.seq (.seq (.ops [zo 19 (.fa 0 (.t 5)), zo 20 (.ld (.t 19)), zo 21 (.lenS (.t 20)), zo 22 (.mov (.v (.int .i64 0)))])
 (.block 2 (.loop (.seq (.ops [zo 23 (.bin .lss (.t 22) (.t 21))])
 (.seq (.cond (.t 23) .skip (.exit 2))
 (.seq (.block 3 (.seq (.ops [zm 24 22, zo 25 (.ixS 35 (.t 20) (.t 22)), zo 26 (.ldA 35 (.t 25)), zo 7 (.al 43 [zz, zz, zz, zz, zz, zz, zz, zz, zz, zz, zz, zz, zz, zz, zz, zz, zz, zz, zz, zz, zz, zz, zz, zz, zz, zz, zz, zz, zz, zz, zz, zz, .int .i64 0, .string ⟨#[]⟩, .bool false]), zm 6 24, ⟨none, none, .st 35 (.t 7) (.t 26)⟩])
 (.seq (.seq (.ops [zo 27 (.fa 1 (.t 5)), zo 28 (.ld (.t 27)), zm 29 28, zg 30 29 true (.fa 2 (.t 5)), zg 31 29 true (.ld (.t 30)), zg 32 29 true (.mov (.t 6)), zg 33 29 true (.call 76 [(.t 31), (.t 32)]), zo 34 (.pick (.t 29) (.t 33) (.v (.bool false)))])
 (.cond (.t 34) (.ops [zm 35 3, zo 36 (.bsl 9 [.string ⟨#[]⟩] 1 [(0, 1, (.v (.string ⟨#[61, 61, 61, 61, 61, 61, 61]⟩)))]), zo 37 (.app 33 9 1 16 (.string ⟨#[]⟩) (.t 35) (.t 36)), zm 3 37]) .skip))
 (.ops [zm 38 3, zo 39 (.fa 33 (.t 7)), zo 40 (.ld (.t 39)), zo 41 (.bsl 9 [.string ⟨#[]⟩] 1 [(0, 1, (.t 40))]), zo 42 (.app 33 9 1 16 (.string ⟨#[]⟩) (.t 38) (.t 41)), zm 3 42]))))
 (.ops [zo 43 (.bin .add (.t 22) (.v (.int .i64 1))), zm 22 43])))))))
 (.seq (.ops [zo 44 (.fa 1 (.t 5)), zo 45 (.ld (.t 44))])
 (.cond (.t 45) (.ops [zm 46 3, zo 47 (.bsl 9 [.string ⟨#[]⟩] 1 [(0, 1, (.v (.string ⟨#[60, 60, 60, 60, 60, 60, 60]⟩)))]), zo 48 (.app 33 9 1 16 (.string ⟨#[]⟩) (.t 46) (.t 47)), zm 3 48]) .skip))))))
 (.ops [zo 49 (.bin .add (.t 10) (.v (.int .i64 1))), zm 10 49])))))))
 (.seq (.ops [zm 50 3, zm 2 50])
 .ret))))
theorem Try.known36 : Known Try.prog 36 Try.pc36 51 [2] := ⟨Try.f36, _, Try.func36, rfl, by kernel_rfl, rfl, rfl⟩
def Try.pc37 : PC :=
 (.seq (.ops [zo 2 (.mov (.v (.slice none 0 0)))])
 (.seq (.ops [zo 3 (.mov (.v (.slice none 0 0)))])
 (.seq (.seq (.ops [zo 4 (.mov (.v (.int .i64 0)))])
 (.block 0 (.loop (.seq (.seq (.ops [zm 6 4, zm 7 0, zo 8 (.lenS (.t 7)), zo 9 (.bin .lss (.t 6) (.t 8))])
 (.cond (.t 9) .skip (.exit 0)))
 (.seq (.block 1 (.seq (.seq (.ops [zm 12 0, zm 13 4, zo 14 (.ixS 3 (.t 12) (.t 13)), zo 15 (.fa 1 (.t 14)), zo 16 (.ld (.t 15))])
 (.cond (.t 16) (.ops [zm 17 3, zo 18 (.bsl 9 [.string ⟨#[]⟩] 1 [(0, 1, (.v (.string ⟨#[62, 62, 62, 62, 62, 62, 62]⟩)))]), zo 19 (.app 33 9 1 16 (.string ⟨#[]⟩) (.t 17) (.t 18)), zm 3 19]) .skip))
 (.seq (.seq (.ops [zo 5 (.mov (.v (.int .i64 0)))])
 (.block 2 (.loop (.seq (.seq (.ops [zm 20 5, zm 21 0, zm 22 4, zo 23 (.ixS 3 (.t 21) (.t 22)), zo 24 (.fa 0 (.t 23)), zo 25 (.ld (.t 24)), zo 26 (.lenS (.t 25)), zo 27 (.bin .lss (.t 20) (.t 26))])
 (.cond (.t 27) .skip (.exit 2)))
 (.seq (.block 3 (.seq (.seq (.ops [zm 30 0, zm 31 4, zo 32 (.ixS 3 (.t 30) (.t 31)), zo 33 (.fa 1 (.t 32)), zo 34 (.ld (.t 33)), zm 35 34, zg 36 35 true (.mov (.t 0)), zg 37 35 true (.mov (.t 4)), zg 38 35 true (.ixS 3 (.t 36) (.t 37)), zg 39 35 true (.fa 2 (.t 38)), zg 40 35 true (.ld (.t 39)), zg 41 35 true (.mov (.t 5)), zg 42 35 true (.call 77 [(.t 40), (.t 41)]), zo 43 (.pick (.t 35) (.t 42) (.v (.bool false)))])
 (.cond (.t 43) (.ops [zm 44 3, zo 45 (.bsl 9 [.string ⟨#[]⟩] 1 [(0, 1, (.v (.string ⟨#[61, 61, 61, 61, 61, 61, 61]⟩)))]), zo 46 (.app 33 9 1 16 (.string ⟨#[]⟩) (.t 44) (.t 45)), zm 3 46]) .skip))
 (.ops [zm 47 3, zm 48 0, zm 49 4, zo 50 (.ixS 3 (.t 48) (.t 49)), zo 51 (.fa 0 (.t 50)), zo 52 (.ld (.t 51)), zm 53 5, zo 54 (.ixS 35 (.t 52) (.t 53)), zo 55 (.fa 33 (.t 54)), zo 56 (.ld (.t 55)), zo 57 (.bsl 9 [.string ⟨#[]⟩] 1 [(0, 1, (.t 56))]), zo 58 (.app 33 9 1 16 (.string ⟨#[]⟩) (.t 47) (.t 57)), zm 3 58])))
 (.ops [zm 28 5, zo 29 (.bin .add (.t 28) (.v (.int .i64 1))), zm 5 29]))))))
 (.seq (.ops [zm 59 0, zm 60 4, zo 61 (.ixS 3 (.t 59) (.t 60)), zo 62 (.fa 1 (.t 61)), zo 63 (.ld (.t 62))])
 (.cond (.t 63) (.ops [zm 64 3, zo 65 (.bsl 9 [.string ⟨#[]⟩] 1 [(0, 1, (.v (.string ⟨#[60, 60, 60, 60, 60, 60, 60]⟩)))]), zo 66 (.app 33 9 1 16 (.string ⟨#[]⟩) (.t 64) (.t 65)), zm 3 66]) .skip)))))
 (.ops [zm 10 4, zo 11 (.bin .add (.t 10) (.v (.int .i64 1))), zm 4 11]))))))
 (.seq (.ops [zm 67 3, zm 2 67])
 .ret))))
theorem Try.known37 : Known Try.prog 37 Try.pc37 68 [2] := ⟨Try.f37, _, Try.func37, rfl, by kernel_rfl, rfl, rfl⟩
def Try.pc38 : PC :=
 (.seq (.ops [zo 4 (.mov (.v (.bool false)))])
 (.seq (.seq (.ops [zm 6 0, zo 7 (.lenS (.t 6)), zm 8 1, zo 9 (.lenS (.t 8)), zo 10 (.bin .neq (.t 7) (.t 9))])
 (.cond (.t 10) (.seq (.ops [zo 4 (.mov (.v (.bool false)))])
 .ret) .skip))
 (.seq (.seq (.ops [zo 5 (.mov (.v (.int .i64 0)))])
 (.block 0 (.loop (.seq (.seq (.ops [zm 11 5, zm 12 0, zo 13 (.lenS (.t 12)), zo 14 (.bin .lss (.t 11) (.t 13))])
 (.cond (.t 14) .skip (.exit 0)))
 (.seq (.block 1 (.seq (.quiet 8 [zm 17 0, zm 18 5, zo 19 (.ixS 1 (.t 17) (.t 18)), zo 20 (.ld (.t 19)), zm 21 1, zm 22 5, zo 23 (.ixS 1 (.t 21) (.t 22)), zo 24 (.ld (.t 23)), zo 25 (.bin .neq (.t 20) (.t 24))])
 (.cond (.t 25) (.seq (.ops [zo 4 (.mov (.v (.bool false)))])
 .ret) .skip)))
 (.ops [zm 15 5, zo 16 (.bin .add (.t 15) (.v (.int .i64 1))), zm 5 16]))))))
 (.seq (.ops [zo 4 (.mov (.v (.bool true)))])
 .ret))))
theorem Try.known38 : Known Try.prog 38 Try.pc38 26 [4] := ⟨Try.f38, _, Try.func38, rfl, by kernel_rfl, rfl, rfl⟩
def Try.pc39 : PC :=
 (.seq (.ops [zo 2 (.mov (.v (.bool false)))])
 (.seq (.ops [zm 3 0, zo 4 (.call 78 [(.t 3), (.v (.func (.func 79) #[] #[]))]), zm 2 4])
 .ret))
theorem Try.known39 : Known Try.prog 39 Try.pc39 5 [2] := ⟨Try.f39, _, Try.func39, rfl, by kernel_rfl, rfl, rfl⟩
def Try.pc41 : PC :=
 (.seq (.ops [zo 0 (.mov (.v (.pointer none))), zo 1 (.al 32 [zz, zz, zz, zz, zz, zz, zz, zz, zz, zz, zz, zz, zz, zz, zz, zz, zz, zz, zz, zz, zz, zz, zz, zz, zz, zz, zz, zz, zz, zz, zz, zz, .int .i64 0]), zo 2 (.al 32 [zz, zz, zz, zz, zz, zz, zz, zz, zz, zz, zz, zz, zz, zz, zz, zz, zz, zz, zz, zz, zz, zz, zz, zz, zz, zz, zz, zz, zz, zz, zz, zz, .int .i64 0])])
 (.seq (.ops [zo 4 (.call 14 []), zm 3 4])
 (.seq (.ops [zm 5 3, zo 6 (.build [zz, zz, zz, zz, zz, zz, zz, zz, zz, zz, zz, zz, zz, zz, zz, zz, zz, zz, zz, zz, zz, zz, zz, zz, zz, zz, zz, zz, zz, zz, zz, zz, .int .i64 0] [(32, 1, (.v (.int .i64 (-1))))]), zo 7 (.build [zz, zz, zz, zz, zz, zz, zz, zz, zz, zz, zz, zz, zz, zz, zz, zz, zz, zz, zz, zz, zz, zz, zz, zz, zz, zz, zz, zz, zz, zz, zz, zz, .int .i64 0] [(32, 1, (.v (.int .i64 (-2))))]), zo 8 (.bsl 9 [.string ⟨#[]⟩, .string ⟨#[]⟩] 2 [(0, 1, (.v (.string ⟨#[97]⟩))), (1, 1, (.v (.string ⟨#[98]⟩)))]), zo 9 (.call 42 [(.v (.int .u8 1)), (.t 6), (.t 7), (.t 8)]), zo 10 (.call 16 [(.t 5), (.t 9)])])
 (.seq (.ops [zm 11 3, zo 12 (.more (.bldA [zz, zz, zz, zz, zz, zz, zz, zz, zz, zz, zz, zz, zz, zz, zz, zz, zz, zz, zz, zz, zz, zz, zz, zz, zz, zz, zz, zz, zz, zz, zz, .int .u8 0] [(0, 1, (.v (.int .u8 1)))])), zo 13 (.build [zz, zz, zz, zz, zz, zz, zz, zz, zz, zz, zz, zz, zz, zz, zz, zz, zz, zz, zz, zz, zz, zz, zz, zz, zz, zz, zz, zz, zz, zz, zz, zz, .int .i64 0] [(0, 32, (.t 12))]), zo 14 (.more (.bldA [zz, zz, zz, zz, zz, zz, zz, zz, zz, zz, zz, zz, zz, zz, zz, zz, zz, zz, zz, zz, zz, zz, zz, zz, zz, zz, zz, zz, zz, zz, zz, .int .u8 0] [(0, 1, (.v (.int .u8 1)))])), zo 15 (.build [zz, zz, zz, zz, zz, zz, zz, zz, zz, zz, zz, zz, zz, zz, zz, zz, zz, zz, zz, zz, zz, zz, zz, zz, zz, zz, zz, zz, zz, zz, zz, zz, .int .i64 0] [(0, 32, (.t 14)), (32, 1, (.v (.int .i64 1)))]), zm 0 11, ⟨none, none, .st 33 (.t 1) (.t 13)⟩, ⟨none, none, .st 33 (.t 2) (.t 15)⟩])
 .ret))))
theorem Try.known41 : KnownTCC Try.prog 41 Try.pc41 16 0 1 2 (some 33) (some 33) := ⟨Try.f41, _, _, _, Try.func41, rfl, by kernel_rfl, rfl, rfl, by kernel_rfl, by kernel_rfl⟩
def Try.pc42 : PC :=
 (.seq (.ops [zo 5 (.bx 32 (.t 1)), zo 6 (.bx 32 (.t 2)), zo 8 (.al 36 [zz, zz, zz, zz, zz, zz, zz, zz, zz, zz, zz, zz, zz, zz, zz, zz, zz, zz, zz, zz, zz, zz, zz, zz, zz, zz, zz, zz, zz, zz, zz, zz, .int .i64 0, .int .i64 0, zz, zz, zz, zz, zz, zz, zz, zz, zz, zz, zz, zz, zz, zz, zz, zz, zz, zz, zz, zz, zz, zz, zz, zz, zz, zz, zz, zz, zz, zz, zz, zz, .int .i64 0, zz, zz, zz, zz, zz, zz, zz, zz, zz, zz, zz, zz, zz, zz, zz, zz, zz, zz, zz, zz, zz, zz, zz, zz, zz, zz, zz, zz, zz, zz, zz, zz, .int .i64 0, .slice none 0 0, .slice none 0 0])])
 (.seq (.ops [zm 9 0, zo 10 (.more (.bldA [zz, zz, zz, zz, zz, zz, zz, zz, zz, zz, zz, zz, zz, zz, zz, zz, zz, zz, zz, zz, zz, zz, zz, zz, zz, zz, zz, zz, zz, zz, zz, .int .u8 0] [(0, 1, (.t 9))])), zo 11 (.ldA 33 (.t 5)), zo 12 (.ldA 33 (.t 6)), zm 13 3, zo 14 (.build [zz, zz, zz, zz, zz, zz, zz, zz, zz, zz, zz, zz, zz, zz, zz, zz, zz, zz, zz, zz, zz, zz, zz, zz, zz, zz, zz, zz, zz, zz, zz, zz, .int .i64 0, .int .i64 0, zz, zz, zz, zz, zz, zz, zz, zz, zz, zz, zz, zz, zz, zz, zz, zz, zz, zz, zz, zz, zz, zz, zz, zz, zz, zz, zz, zz, zz, zz, zz, zz, .int .i64 0, zz, zz, zz, zz, zz, zz, zz, zz, zz, zz, zz, zz, zz, zz, zz, zz, zz, zz, zz, zz, zz, zz, zz, zz, zz, zz, zz, zz, zz, zz, zz, zz, .int .i64 0, .slice none 0 0, .slice none 0 0] [(0, 32, (.t 10)), (34, 33, (.t 11)), (67, 33, (.t 12)), (100, 1, (.t 13))]), ⟨none, none, .st 102 (.t 8) (.t 14)⟩])
 .ret))
theorem Try.known42 : KnownC Try.prog 42 Try.pc42 15 8 (some 102) := ⟨Try.f42, _, _, Try.func42, rfl, by kernel_rfl, rfl, rfl, by kernel_rfl⟩
def Try.pc68 : PC :=
 (.seq (.ops [zo 3 (.bx 123 (.t 1)), zo 4 (.mov (.v (.slice none 0 0))), zo 5 (.mov (.v (.int .i64 0)))])
 (.seq (.ops [zm 13 0, zo 14 (.call 90 [(.t 13)]), zm 6 14])
 (.seq (.ops [zo 15 (.ldA 102 (.t 3)), zo 16 (.call 91 [(.t 15)]), zm 7 16])
 (.seq (.seq (.ops [zo 8 (.mov (.v (.int .i64 0)))])
 (.block 0 (.loop (.seq (.seq (.ops [zm 17 8, zm 18 0, zo 19 (.lenS (.t 18)), zo 20 (.bin .lss (.t 17) (.t 19))])
 (.cond (.t 20) .skip (.exit 0)))
 (.seq (.block 1 (.seq (.quiet 16 [zm 23 0, zm 24 8, zo 25 (.ixS 102 (.t 23) (.t 24)), zo 26 (.fa 0 (.t 25)), zo 27 (.ldA 32 (.t 26)), zo 28 (.fa 0 (.t 3)), zo 29 (.ldA 32 (.t 28)), zo 30 (.more (.eqD false 30 [yy, yy, yy, yy, yy, yy, yy, yy, yy, yy, yy, yy, yy, yy, yy, yy, yy, yy, yy, yy, yy, yy, yy, yy, yy, yy, yy, yy, yy, yy, yy, .int .u8] (.t 27) (.t 29))), zm 31 30, zg 32 31 true (.mov (.t 0)), zg 33 31 true (.mov (.t 8)), zg 34 31 true (.ixS 102 (.t 32) (.t 33)), zg 35 31 true (.fa 32 (.t 34)), zg 36 31 true (.ld (.t 35)), zg 37 31 true (.fa 32 (.t 3)), zg 38 31 true (.ld (.t 37)), zg 39 31 true (.bin .eql (.t 36) (.t 38)), zo 40 (.pick (.t 31) (.t 39) (.v (.bool false)))])
 (.cond (.t 40) (.seq (.ops [zm 41 0, zm 4 41, zo 5 (.mov (.v (.int .i64 6)))])
 .ret) .skip)))
 (.ops [zm 21 8, zo 22 (.bin .add (.t 21) (.v (.int .i64 1))), zm 8 22]))))))
 (.seq (.seq (.ops [zo 9 (.mov (.v (.int .i64 0)))])
 (.block 2 (.loop (.seq (.seq (.ops [zm 42 9, zm 43 7, zo 44 (.lenS (.t 43)), zo 45 (.bin .lss (.t 42) (.t 44))])
 (.cond (.t 45) .skip (.exit 2)))
 (.seq (.block 3 (.seq (.ops [zm 48 6, zm 49 7, zm 50 9, zo 51 (.ixS 33 (.t 49) (.t 50)), zo 52 (.ldA 33 (.t 51)), zo 53 (.call 92 [(.t 48), (.t 52)])])
 (.cond (.t 53) (.seq (.ops [zm 54 0, zm 4 54, zo 5 (.mov (.v (.int .i64 6)))])
 .ret) .skip)))
 (.ops [zm 46 9, zo 47 (.bin .add (.t 46) (.v (.int .i64 1))), zm 9 47]))))))
 (.seq (.seq (.quiet2 6 13 [zo 55 (.fa 33 (.t 3)), zo 56 (.ld (.t 55)), zo 57 (.bin .lss (.t 56) (.v (.int .i64 0))), zm 58 57, zg 59 58 false (.fa 34 (.t 3)), zg 60 58 false (.ldA 33 (.t 59)), zg 61 58 false (.call 93 []), zg 62 58 false (.more (.eqD false 32 [yy, yy, yy, yy, yy, yy, yy, yy, yy, yy, yy, yy, yy, yy, yy, yy, yy, yy, yy, yy, yy, yy, yy, yy, yy, yy, yy, yy, yy, yy, yy, yy, .int .i64] (.t 60) (.t 61))), zo 63 (.pick (.t 58) (.v (.bool true)) (.t 62)), zm 64 63, zg 65 64 false (.fa 67 (.t 3)), zg 66 64 false (.ldA 33 (.t 65)), zg 67 64 false (.call 94 []), zg 68 64 false (.more (.eqD false 32 [yy, yy, yy, yy, yy, yy, yy, yy, yy, yy, yy, yy, yy, yy, yy, yy, yy, yy, yy, yy, yy, yy, yy, yy, yy, yy, yy, yy, yy, yy, yy, yy, .int .i64] (.t 66) (.t 67))), zo 69 (.pick (.t 64) (.v (.bool true)) (.t 68))])
 (.cond (.t 69) (.seq (.ops [zm 70 0, zm 4 70, zo 5 (.mov (.v (.int .i64 4)))])
 .ret) .skip))
 (.seq (.seq (.ops [zo 10 (.mov (.v (.int .i64 0)))])
 (.block 4 (.loop (.seq (.seq (.ops [zm 71 10, zo 72 (.fa 101 (.t 3)), zo 73 (.ld (.t 72)), zo 74 (.lenS (.t 73)), zo 75 (.bin .lss (.t 71) (.t 74))])
 (.cond (.t 75) .skip (.exit 4)))
 (.seq (.block 5 (.seq (.quiet2 5 26 [zo 78 (.fa 101 (.t 3)), zo 79 (.ld (.t 78)), zm 80 10, zo 81 (.ixS 33 (.t 79) (.t 80)), zo 82 (.ldA 33 (.t 81)), zo 83 (.call 94 []), zo 84 (.more (.eqD false 32 [yy, yy, yy, yy, yy, yy, yy, yy, yy, yy, yy, yy, yy, yy, yy, yy, yy, yy, yy, yy, yy, yy, yy, yy, yy, yy, yy, yy, yy, yy, yy, yy, .int .i64] (.t 82) (.t 83))), zm 85 84, zg 86 85 false (.fa 101 (.t 3)), zg 87 85 false (.ld (.t 86)), zg 88 85 false (.mov (.t 10)), zg 89 85 false (.ixS 33 (.t 87) (.t 88)), zg 90 85 false (.ldA 33 (.t 89)), zg 91 85 false (.call 93 []), zg 92 85 false (.more (.eqD false 32 [yy, yy, yy, yy, yy, yy, yy, yy, yy, yy, yy, yy, yy, yy, yy, yy, yy, yy, yy, yy, yy, yy, yy, yy, yy, yy, yy, yy, yy, yy, yy, yy, .int .i64] (.t 90) (.t 91))), zo 93 (.pick (.t 85) (.v (.bool true)) (.t 92)), zm 94 93, zg 95 94 false (.fa 101 (.t 3)), zg 96 94 false (.ld (.t 95)), zg 97 94 false (.mov (.t 10)), zg 98 94 false (.slS 33 (.t 96) none (some (.t 97))), zg 99 94 false (.fa 101 (.t 3)), zg 100 94 false (.ld (.t 99)), zg 101 94 false (.mov (.t 10)), zg 102 94 false (.ixS 33 (.t 100) (.t 101)), zg 103 94 false (.ldA 33 (.t 102)), zg 104 94 false (.call 92 [(.t 98), (.t 103)]), zo 105 (.pick (.t 94) (.v (.bool true)) (.t 104))])
 (.cond (.t 105) (.seq (.ops [zm 106 0, zm 4 106, zo 5 (.mov (.v (.int .i64 4)))])
 .ret) .skip)))
 (.ops [zm 76 10, zo 77 (.bin .add (.t 76) (.v (.int .i64 1))), zm 10 77]))))))
 (.seq (.seq (.quiet2 2 20 [zo 107 (.fa 34 (.t 3)), zo 108 (.ldA 33 (.t 107)), zo 109 (.call 94 []), zo 110 (.more (.eqD true 32 [yy, yy, yy, yy, yy, yy, yy, yy, yy, yy, yy, yy, yy, yy, yy, yy, yy, yy, yy, yy, yy, yy, yy, yy, yy, yy, yy, yy, yy, yy, yy, yy, .int .i64] (.t 108) (.t 109))), zm 111 110, zg 112 111 true (.mov (.t 6)), zg 113 111 true (.fa 34 (.t 3)), zg 114 111 true (.ldA 33 (.t 113)), zg 115 111 true (.call 92 [(.t 112), (.t 114)]), zg 116 111 true (.not (.t 115)), zo 117 (.pick (.t 111) (.t 116) (.v (.bool false))), zm 118 117, zg 119 118 false (.fa 67 (.t 3)), zg 120 118 false (.ldA 33 (.t 119)), zg 121 118 false (.call 93 []), zg 122 118 false (.more (.eqD true 32 [yy, yy, yy, yy, yy, yy, yy, yy, yy, yy, yy, yy, yy, yy, yy, yy, yy, yy, yy, yy, yy, yy, yy, yy, yy, yy, yy, yy, yy, yy, yy, yy, .int .i64] (.t 120) (.t 121))), zg 123 118 false (.mov (.t 122)), zg 124 123 true (.mov (.t 6)), zg 125 123 true (.fa 67 (.t 3)), zg 126 123 true (.ldA 33 (.t 125)), zg 127 123 true (.call 92 [(.t 124), (.t 126)]), zg 128 123 true (.not (.t 127)), zg 129 118 false (.pick (.t 123) (.t 128) (.v (.bool false))), zo 130 (.pick (.t 118) (.v (.bool true)) (.t 129))])
 (.cond (.t 130) (.seq (.ops [zm 131 0, zm 4 131, zo 5 (.mov (.v (.int .i64 10)))])
 .ret) .skip))
 (.seq (.seq (.ops [zo 11 (.mov (.v (.int .i64 0)))])
 (.block 6 (.loop (.seq (.seq (.ops [zm 132 11, zo 133 (.fa 101 (.t 3)), zo 134 (.ld (.t 133)), zo 135 (.lenS (.t 134)), zo 136 (.bin .lss (.t 132) (.t 135))])
 (.cond (.t 136) .skip (.exit 6)))
 (.seq (.block 7 (.seq (.ops [zm 139 6, zo 140 (.fa 101 (.t 3)), zo 141 (.ld (.t 140)), zm 142 11, zo 143 (.ixS 33 (.t 141) (.t 142)), zo 144 (.ldA 33 (.t 143)), zo 145 (.call 92 [(.t 139), (.t 144)]), zo 146 (.not (.t 145))])
 (.cond (.t 146) (.seq (.ops [zm 147 0, zm 4 147, zo 5 (.mov (.v (.int .i64 10)))])
 .ret) .skip)))
 (.ops [zm 137 11, zo 138 (.bin .add (.t 137) (.v (.int .i64 1))), zm 11 138]))))))
 (.seq (.seq (.ops [zm 148 0, zo 149 (.fa 34 (.t 3)), zo 150 (.ldA 33 (.t 149)), zo 151 (.fa 67 (.t 3)), zo 152 (.ldA 33 (.t 151)), zo 153 (.call 95 [(.t 148), (.t 150), (.t 152)]), zo 154 (.not (.t 153))])
 (.cond (.t 154) (.seq (.ops [zm 155 0, zm 4 155, zo 5 (.mov (.v (.int .i64 4)))])
 .ret) .skip))
 (.seq (.ops [zo 12 (.mov (.v (.slice none 0 0)))])
 (.seq (.ops [zm 156 12, zm 157 0, zo 158 (.app 61 123 102 176 (.agg #[zz, zz, zz, zz, zz, zz, zz, zz, zz, zz, zz, zz, zz, zz, zz, zz, zz, zz, zz, zz, zz, zz, zz, zz, zz, zz, zz, zz, zz, zz, zz, zz, .int .i64 0, .int .i64 0, zz, zz, zz, zz, zz, zz, zz, zz, zz, zz, zz, zz, zz, zz, zz, zz, zz, zz, zz, zz, zz, zz, zz, zz, zz, zz, zz, zz, zz, zz, zz, zz, .int .i64 0, zz, zz, zz, zz, zz, zz, zz, zz, zz, zz, zz, zz, zz, zz, zz, zz, zz, zz, zz, zz, zz, zz, zz, zz, zz, zz, zz, zz, zz, zz, zz, zz, .int .i64 0, .slice none 0 0, .slice none 0 0]) (.t 156) (.t 157)), zm 12 158])
 (.seq (.ops [zm 159 12, zo 160 (.ldA 102 (.t 3)), zo 161 (.bsl 123 [zz, zz, zz, zz, zz, zz, zz, zz, zz, zz, zz, zz, zz, zz, zz, zz, zz, zz, zz, zz, zz, zz, zz, zz, zz, zz, zz, zz, zz, zz, zz, zz, .int .i64 0, .int .i64 0, zz, zz, zz, zz, zz, zz, zz, zz, zz, zz, zz, zz, zz, zz, zz, zz, zz, zz, zz, zz, zz, zz, zz, zz, zz, zz, zz, zz, zz, zz, zz, zz, .int .i64 0, zz, zz, zz, zz, zz, zz, zz, zz, zz, zz, zz, zz, zz, zz, zz, zz, zz, zz, zz, zz, zz, zz, zz, zz, zz, zz, zz, zz, zz, zz, zz, zz, .int .i64 0, .slice none 0 0, .slice none 0 0] 1 [(0, 102, (.t 160))]), zo 162 (.app 61 123 102 176 (.agg #[zz, zz, zz, zz, zz, zz, zz, zz, zz, zz, zz, zz, zz, zz, zz, zz, zz, zz, zz, zz, zz, zz, zz, zz, zz, zz, zz, zz, zz, zz, zz, zz, .int .i64 0, .int .i64 0, zz, zz, zz, zz, zz, zz, zz, zz, zz, zz, zz, zz, zz, zz, zz, zz, zz, zz, zz, zz, zz, zz, zz, zz, zz, zz, zz, zz, zz, zz, zz, zz, .int .i64 0, zz, zz, zz, zz, zz, zz, zz, zz, zz, zz, zz, zz, zz, zz, zz, zz, zz, zz, zz, zz, zz, zz, zz, zz, zz, zz, zz, zz, zz, zz, zz, zz, .int .i64 0, .slice none 0 0, .slice none 0 0]) (.t 159) (.t 161)), zm 4 162, zo 5 (.mov (.v (.int .i64 0)))])
 .ret)))))))))))))
theorem Try.known68 : Known Try.prog 68 Try.pc68 163 [4, 5] := ⟨Try.f68, _, Try.func68, rfl, by kernel_rfl, rfl, rfl⟩
def Try.pc69 : PC :=
 (.seq (.ops [zo 4 (.mov (.v (.slice none 0 0)))])
 (.seq (.ops [zm 8 0, zm 9 1, zo 10 (.call 96 [(.t 8), (.t 9)]), zm 5 10])
 (.seq (.seq (.ops [zm 11 5, zo 12 (.bin .eql (.t 11) (.v (.int .i64 (-1))))])
 (.cond (.t 12) (.seq (.ops [zm 13 0, zm 4 13])
 .ret) .skip))
 (.seq (.seq (.ops [zm 14 5, zo 15 (.bin .add (.t 14) (.v (.int .i64 1))), zm 6 15])
 (.block 0 (.loop (.seq (.seq (.ops [zm 16 6, zm 17 0, zo 18 (.lenS (.t 17)), zo 19 (.bin .lss (.t 16) (.t 18))])
 (.cond (.t 19) .skip (.exit 0)))
 (.seq (.block 1 (.seq (.ops [zm 22 0, zm 23 6, zo 24 (.ixS 35 (.t 22) (.t 23)), zo 25 (.ldA 35 (.t 24)), zo 7 (.al 43 [zz, zz, zz, zz, zz, zz, zz, zz, zz, zz, zz, zz, zz, zz, zz, zz, zz, zz, zz, zz, zz, zz, zz, zz, zz, zz, zz, zz, zz, zz, zz, zz, .int .i64 0, .string ⟨#[]⟩, .bool false]), ⟨none, none, .st 35 (.t 7) (.t 25)⟩])
 (.seq (.ops [zm 26 1, zo 27 (.ldA 35 (.t 7)), zo 28 (.callv (.t 26) [(.t 27)]), zo 29 (.not (.t 28))])
 (.cond (.t 29) (.seq (.ops [zm 30 0, zm 31 5, zo 32 (.ldA 35 (.t 7)), zo 33 (.ixS 35 (.t 30) (.t 31)), ⟨none, none, .st 35 (.t 33) (.t 32)⟩])
 (.ops [zm 34 5, zo 35 (.bin .add (.t 34) (.v (.int .i64 1))), zm 5 35])) .skip))))
 (.ops [zm 20 6, zo 21 (.bin .add (.t 20) (.v (.int .i64 1))), zm 6 21]))))))
 (.seq (.ops [zm 36 0, zm 37 5, zo 38 (.slS 35 (.t 36) (some (.t 37)) none), ⟨none, none, .more (.clr 43 35 (.agg #[zz, zz, zz, zz, zz, zz, zz, zz, zz, zz, zz, zz, zz, zz, zz, zz, zz, zz, zz, zz, zz, zz, zz, zz, zz, zz, zz, zz, zz, zz, zz, zz, .int .i64 0, .string ⟨#[]⟩, .bool false]) (.t 38))⟩])
 (.seq (.ops [zm 39 0, zm 40 5, zo 41 (.slS 35 (.t 39) none (some (.t 40))), zm 4 41])
 .ret))))))
theorem Try.known69 : Known Try.prog 69 Try.pc69 42 [4] := ⟨Try.f69, _, Try.func69, rfl, by kernel_rfl, rfl, rfl⟩
def Try.pc70 : PC :=
 (.seq (.ops [zo 1 (.bx 43 (.t 0)), zo 2 (.mov (.v (.bool false)))])
 (.seq (.ops [zo 3 (.fa 34 (.t 1)), zo 4 (.ld (.t 3)), zo 5 (.not (.t 4)), zm 2 5])
 .ret))
theorem Try.known70 : Known Try.prog 70 Try.pc70 6 [2] := ⟨Try.f70, _, Try.func70, rfl, by kernel_rfl, rfl, rfl⟩
def Try.pc71 : PC :=
 (.seq (.ops [zo 4 (.bx 43 (.t 1)), zo 5 (.bx 43 (.t 2)), zo 6 (.mov (.v (.bool false)))])
 (.seq (.ops [zm 7 0, zo 8 (.fa 0 (.t 4)), zo 9 (.ldA 33 (.t 8)), zo 10 (.fa 0 (.t 5)), zo 11 (.ldA 33 (.t 10)), zo 12 (.call 18 [(.t 7), (.t 9), (.t 11)]), zm 13 12, zg 14 13 false (.mov (.t 0)), zg 15 13 false (.fa 0 (.t 5)), zg 16 13 false (.ldA 33 (.t 15)), zg 17 13 false (.fa 0 (.t 4)), zg 18 13 false (.ldA 33 (.t 17)), zg 19 13 false (.call 18 [(.t 14), (.t 16), (.t 18)]), zo 20 (.pick (.t 13) (.v (.bool true)) (.t 19)), zm 6 20])
 .ret))
theorem Try.known71 : Known Try.prog 71 Try.pc71 21 [6] := ⟨Try.f71, _, Try.func71, rfl, by kernel_rfl, rfl, rfl⟩
def Try.pc72 : PC :=
 (.seq (.ops [zo 4 (.al 73 [.slice none 0 0, .bool false, .slice none 0 0])])
 (.seq (.ops [zm 7 1, zo 8 (.build [.slice none 0 0, .bool false, .slice none 0 0] [(0, 1, (.t 7)), (1, 1, (.v (.bool true)))]), zo 5 (.al 73 [.slice none 0 0, .bool false, .slice none 0 0]), ⟨none, none, .st 3 (.t 5) (.t 8)⟩])
 (.seq (.seq (.ops [zo 6 (.mov (.v (.int .i64 1)))])
 (.block 0 (.loop (.seq (.seq (.ops [zm 9 6, zm 10 1, zo 11 (.lenS (.t 10)), zo 12 (.bin .lss (.t 9) (.t 11))])
 (.cond (.t 12) .skip (.exit 0)))
 (.seq (.block 1 (.seq (.quiet 10 [zm 15 0, zm 16 1, zm 17 6, zo 18 (.bin .sub (.t 17) (.v (.int .i64 1))), zo 19 (.ixS 35 (.t 16) (.t 18)), zo 20 (.ldA 35 (.t 19)), zm 21 1, zm 22 6, zo 23 (.ixS 35 (.t 21) (.t 22)), zo 24 (.ldA 35 (.t 23)), zo 25 (.call 71 [(.t 15), (.t 20), (.t 24)]), zo 26 (.not (.t 25))])
 (.cond (.t 26) (.ops [zo 27 (.fa 2 (.t 5)), zo 28 (.ld (.t 27)), zm 29 6, zo 30 (.bsl 3 [.int .i64 0] 1 [(0, 1, (.t 29))]), zo 31 (.app 71 3 1 8 (.int .i64 0) (.t 28) (.t 30)), zo 32 (.fa 2 (.t 5)), ⟨none, none, .st 1 (.t 32) (.t 31)⟩]) .skip)))
 (.ops [zm 13 6, zo 14 (.bin .add (.t 13) (.v (.int .i64 1))), zm 6 14]))))))
 (.seq (.ops [zo 33 (.ldA 3 (.t 5)), ⟨none, none, .st 3 (.t 4) (.t 33)⟩])
 .ret))))
theorem Try.known72 : KnownC Try.prog 72 Try.pc72 34 4 (some 3) := ⟨Try.f72, _, _, Try.func72, rfl, by kernel_rfl, rfl, rfl, by kernel_rfl⟩
def Try.pc73 : PC :=
 (.seq (.ops [zo 2 (.mov (.v (.slice none 0 0)))])
 (.seq (.ops [zm 6 0, zo 7 (.call 97 [(.t 6)]), zm 3 7])
 (.seq (.ops [zo 4 (.mov (.v (.slice none 0 0)))])
 (.seq (.seq (.ops [zo 5 (.mov (.v (.int .i64 0)))])
 (.block 0 (.loop (.seq (.seq (.ops [zm 8 5, zm 9 3, zo 10 (.lenS (.t 9)), zo 11 (.bin .lss (.t 8) (.t 10))])
 (.cond (.t 11) .skip (.exit 0)))
 (.seq (.block 1 (.seq (.ops [zm 14 3, zm 15 5, zo 16 (.ixS 35 (.t 14) (.t 15)), zo 17 (.fa 34 (.t 16)), zo 18 (.ld (.t 17))])
 (.cond (.t 18) (.ops [zm 19 4, zm 20 3, zm 21 5, zo 22 (.ixS 35 (.t 20) (.t 21)), zo 23 (.ldA 35 (.t 22)), zo 24 (.bsl 78 [zz, zz, zz, zz, zz, zz, zz, zz, zz, zz, zz, zz, zz, zz, zz, zz, zz, zz, zz, zz, zz, zz, zz, zz, zz, zz, zz, zz, zz, zz, zz, zz, .int .i64 0, .string ⟨#[]⟩, .bool false] 1 [(0, 35, (.t 23))]), zo 25 (.app 74 78 35 64 (.agg #[zz, zz, zz, zz, zz, zz, zz, zz, zz, zz, zz, zz, zz, zz, zz, zz, zz, zz, zz, zz, zz, zz, zz, zz, zz, zz, zz, zz, zz, zz, zz, zz, .int .i64 0, .string ⟨#[]⟩, .bool false]) (.t 19) (.t 24)), zm 4 25]) .skip)))
 (.ops [zm 12 5, zo 13 (.bin .add (.t 12) (.v (.int .i64 1))), zm 5 13]))))))
 (.seq (.ops [zm 26 4, zm 2 26])
 .ret)))))
theorem Try.known73 : Known Try.prog 73 Try.pc73 27 [2] := ⟨Try.f73, _, Try.func73, rfl, by kernel_rfl, rfl, rfl⟩
def Try.pc74 : PC :=
 (.seq (.ops [zo 6 (.mov (.v (.bool false)))])
 (.seq (.seq (.ops [zo 7 (.mov (.v (.int .i64 0)))])
 (.block 0 (.loop (.seq (.seq (.ops [zm 8 7, zm 9 1, zo 10 (.lenS (.t 9)), zo 11 (.bin .lss (.t 8) (.t 10))])
 (.cond (.t 11) .skip (.exit 0)))
 (.seq (.block 1 (.seq (.quiet 15 [zm 14 7, zm 15 2, zo 16 (.bin .neq (.t 14) (.t 15)), zm 17 16, zg 18 17 true (.mov (.t 0)), zg 19 17 true (.mov (.t 1)), zg 20 17 true (.mov (.t 2)), zg 21 17 true (.ixS 35 (.t 19) (.t 20)), zg 22 17 true (.fa 0 (.t 21)), zg 23 17 true (.ldA 33 (.t 22)), zg 24 17 true (.mov (.t 1)), zg 25 17 true (.mov (.t 7)), zg 26 17 true (.ixS 35 (.t 24) (.t 25)), zg 27 17 true (.fa 0 (.t 26)), zg 28 17 true (.ldA 33 (.t 27)), zg 29 17 true (.call 75 [(.t 18), (.t 23), (.t 28)]), zg 30 17 true (.not (.t 29)), zo 31 (.pick (.t 17) (.t 30) (.v (.bool false)))])
 (.cond (.t 31) (.seq (.ops [zo 6 (.mov (.v (.bool false)))])
 .ret) .skip)))
 (.ops [zm 12 7, zo 13 (.bin .add (.t 12) (.v (.int .i64 1))), zm 7 13]))))))
 (.seq (.ops [zo 6 (.mov (.v (.bool true)))])
 .ret)))
theorem Try.known74 : Known Try.prog 74 Try.pc74 32 [6] := ⟨Try.f74, _, Try.func74, rfl, by kernel_rfl, rfl, rfl⟩
def Try.pc75 : PC :=
 (.seq (.ops [zo 4 (.bx 32 (.t 1)), zo 5 (.bx 32 (.t 2)), zo 6 (.mov (.v (.bool false)))])
 (.seq (.ops [zm 7 0, zo 8 (.ldA 33 (.t 4)), zo 9 (.ldA 33 (.t 5)), zo 10 (.call 95 [(.t 7), (.t 8), (.t 9)]), zm 11 10, zg 12 11 false (.mov (.t 0)), zg 13 11 false (.ldA 33 (.t 5)), zg 14 11 false (.ldA 33 (.t 4)), zg 15 11 false (.call 95 [(.t 12), (.t 13), (.t 14)]), zo 16 (.pick (.t 11) (.v (.bool true)) (.t 15)), zm 6 16])
 .ret))
theorem Try.known75 : Known Try.prog 75 Try.pc75 17 [6] := ⟨Try.f75, _, Try.func75, rfl, by kernel_rfl, rfl, rfl⟩
def Try.pc76 : PC :=
 (.seq (.ops [zo 4 (.mov (.v (.bool false)))])
 (.seq (.ops [zm 5 0, zm 6 1, zo 7 (.call 98 [(.t 5), (.t 6)]), zo 8 (.bin .geq (.t 7) (.v (.int .i64 0))), zm 4 8])
 .ret))
theorem Try.known76 : Known Try.prog 76 Try.pc76 9 [4] := ⟨Try.f76, _, Try.func76, rfl, by kernel_rfl, rfl, rfl⟩
def Try.pc77 : PC :=
 (.seq (.ops [zo 4 (.mov (.v (.bool false)))])
 (.seq (.seq (.ops [zo 5 (.mov (.v (.int .i64 0)))])
 (.block 0 (.loop (.seq (.seq (.ops [zm 6 5, zm 7 0, zo 8 (.lenS (.t 7)), zo 9 (.bin .lss (.t 6) (.t 8))])
 (.cond (.t 9) .skip (.exit 0)))
 (.seq (.block 1 (.seq (.ops [zm 12 0, zm 13 5, zo 14 (.ixS 1 (.t 12) (.t 13)), zo 15 (.ld (.t 14)), zm 16 1, zo 17 (.bin .eql (.t 15) (.t 16))])
 (.cond (.t 17) (.seq (.ops [zo 4 (.mov (.v (.bool true)))])
 .ret) .skip)))
 (.ops [zm 10 5, zo 11 (.bin .add (.t 10) (.v (.int .i64 1))), zm 5 11]))))))
 (.seq (.ops [zo 4 (.mov (.v (.bool false)))])
 .ret)))
theorem Try.known77 : Known Try.prog 77 Try.pc77 18 [4] := ⟨Try.f77, _, Try.func77, rfl, by kernel_rfl, rfl, rfl⟩
def Try.pc78 : PC :=
 (.seq (.ops [zo 4 (.mov (.v (.bool false)))])
 (.seq (.ops [zm 5 0, zm 6 1, zo 7 (.call 99 [(.t 5), (.t 6)]), zo 8 (.bin .geq (.t 7) (.v (.int .i64 0))), zm 4 8])
 .ret))
theorem Try.known78 : Known Try.prog 78 Try.pc78 9 [4] := ⟨Try.f78, _, Try.func78, rfl, by kernel_rfl, rfl, rfl⟩
def Try.pc79 : PC :=
 (.seq (.ops [zo 1 (.bx 73 (.t 0)), zo 2 (.mov (.v (.bool false)))])
 (.seq (.ops [zo 3 (.fa 1 (.t 1)), zo 4 (.ld (.t 3)), zm 2 4])
 .ret))
theorem Try.known79 : Known Try.prog 79 Try.pc79 5 [2] := ⟨Try.f79, _, Try.func79, rfl, by kernel_rfl, rfl, rfl⟩
def Try.pc90 : PC :=
 (.seq (.ops [zo 2 (.mov (.v (.slice none 0 0)))])
 (.seq (.ops [zo 3 (.mov (.v (.slice none 0 0)))])
 (.seq (.seq (.ops [zo 4 (.mov (.v (.int .i64 0)))])
 (.block 0 (.loop (.seq (.seq (.ops [zm 5 4, zm 6 0, zo 7 (.lenS (.t 6)), zo 8 (.bin .lss (.t 5) (.t 7))])
 (.cond (.t 8) .skip (.exit 0)))
 (.seq (.block 1 (.ops [zm 11 3, zm 12 0, zm 13 4, zo 14 (.ixS 102 (.t 12) (.t 13)), zo 15 (.ldA 102 (.t 14)), zo 16 (.call 91 [(.t 15)]), zo 17 (.app 34 32 33 40 (.agg #[zz, zz, zz, zz, zz, zz, zz, zz, zz, zz, zz, zz, zz, zz, zz, zz, zz, zz, zz, zz, zz, zz, zz, zz, zz, zz, zz, zz, zz, zz, zz, zz, .int .i64 0]) (.t 11) (.t 16)), zm 3 17]))
 (.ops [zm 9 4, zo 10 (.bin .add (.t 9) (.v (.int .i64 1))), zm 4 10]))))))
 (.seq (.ops [zm 18 3, zm 2 18])
 .ret))))
theorem Try.known90 : Known Try.prog 90 Try.pc90 19 [2] := ⟨Try.f90, _, Try.func90, rfl, by kernel_rfl, rfl, rfl⟩
def Try.pc91 : PC :=
 (.seq (.ops [zo 1 (.bx 123 (.t 0)), zo 2 (.mov (.v (.slice none 0 0)))])
 (.seq (.ops [zo 3 (.mov (.v (.slice none 0 0)))])
 (.seq (.seq (.ops [zo 4 (.mov (.v (.int .i64 0)))])
 (.block 0 (.loop (.seq (.seq (.ops [zm 5 4, zo 6 (.fa 100 (.t 1)), zo 7 (.ld (.t 6)), zo 8 (.lenS (.t 7)), zo 9 (.bin .lss (.t 5) (.t 8))])
 (.cond (.t 9) .skip (.exit 0)))
 (.seq (.block 1 (.ops [zm 12 3, zo 13 (.fa 0 (.t 1)), zo 14 (.ldA 32 (.t 13)), zo 15 (.fa 33 (.t 1)), zo 16 (.ld (.t 15)), zm 17 4, zo 18 (.bin .add (.t 16) (.t 17)), zo 19 (.build [zz, zz, zz, zz, zz, zz, zz, zz, zz, zz, zz, zz, zz, zz, zz, zz, zz, zz, zz, zz, zz, zz, zz, zz, zz, zz, zz, zz, zz, zz, zz, zz, .int .i64 0] [(0, 32, (.t 14)), (32, 1, (.t 18))]), zo 20 (.bsl 32 [zz, zz, zz, zz, zz, zz, zz, zz, zz, zz, zz, zz, zz, zz, zz, zz, zz, zz, zz, zz, zz, zz, zz, zz, zz, zz, zz, zz, zz, zz, zz, zz, .int .i64 0] 1 [(0, 33, (.t 19))]), zo 21 (.app 34 32 33 40 (.agg #[zz, zz, zz, zz, zz, zz, zz, zz, zz, zz, zz, zz, zz, zz, zz, zz, zz, zz, zz, zz, zz, zz, zz, zz, zz, zz, zz, zz, zz, zz, zz, zz, .int .i64 0]) (.t 12) (.t 20)), zm 3 21]))
 (.ops [zm 10 4, zo 11 (.bin .add (.t 10) (.v (.int .i64 1))), zm 4 11]))))))
 (.seq (.ops [zm 22 3, zm 2 22])
 .ret))))
theorem Try.known91 : Known Try.prog 91 Try.pc91 23 [2] := ⟨Try.f91, _, Try.func91, rfl, by kernel_rfl, rfl, rfl⟩
def Try.pc92 : PC :=
 (.seq (.ops [zo 3 (.bx 32 (.t 1)), zo 4 (.mov (.v (.bool false)))])
 (.seq (.seq (.ops [zo 5 (.mov (.v (.int .i64 0)))])
 (.block 0 (.loop (.seq (.seq (.ops [zm 6 5, zm 7 0, zo 8 (.lenS (.t 7)), zo 9 (.bin .lss (.t 6) (.t 8))])
 (.cond (.t 9) .skip (.exit 0)))
 (.seq (.block 1 (.seq (.quiet 5 [zm 12 0, zm 13 5, zo 14 (.ixS 33 (.t 12) (.t 13)), zo 15 (.ldA 33 (.t 14)), zo 16 (.ldA 33 (.t 3)), zo 17 (.more (.eqD false 32 [yy, yy, yy, yy, yy, yy, yy, yy, yy, yy, yy, yy, yy, yy, yy, yy, yy, yy, yy, yy, yy, yy, yy, yy, yy, yy, yy, yy, yy, yy, yy, yy, .int .i64] (.t 15) (.t 16)))])
 (.cond (.t 17) (.seq (.ops [zo 4 (.mov (.v (.bool true)))])
 .ret) .skip)))
 (.ops [zm 10 5, zo 11 (.bin .add (.t 10) (.v (.int .i64 1))), zm 5 11]))))))
 (.seq (.ops [zo 4 (.mov (.v (.bool false)))])
 .ret)))
theorem Try.known92 : Known Try.prog 92 Try.pc92 18 [4] := ⟨Try.f92, _, Try.func92, rfl, by kernel_rfl, rfl, rfl⟩
def Try.pc93 : PC :=
 (.seq (.ops [zo 0 (.al 32 [zz, zz, zz, zz, zz, zz, zz, zz, zz, zz, zz, zz, zz, zz, zz, zz, zz, zz, zz, zz, zz, zz, zz, zz, zz, zz, zz, zz, zz, zz, zz, zz, .int .i64 0])])
 (.seq (.ops [zo 1 (.build [zz, zz, zz, zz, zz, zz, zz, zz, zz, zz, zz, zz, zz, zz, zz, zz, zz, zz, zz, zz, zz, zz, zz, zz, zz, zz, zz, zz, zz, zz, zz, zz, .int .i64 0] [(32, 1, (.v (.int .i64 (-2))))]), ⟨none, none, .st 33 (.t 0) (.t 1)⟩])
 .ret))
theorem Try.known93 : KnownC Try.prog 93 Try.pc93 2 0 (some 33) := ⟨Try.f93, _, _, Try.func93, rfl, by kernel_rfl, rfl, rfl, by kernel_rfl⟩
def Try.pc94 : PC :=
 (.seq (.ops [zo 0 (.al 32 [zz, zz, zz, zz, zz, zz, zz, zz, zz, zz, zz, zz, zz, zz, zz, zz, zz, zz, zz, zz, zz, zz, zz, zz, zz, zz, zz, zz, zz, zz, zz, zz, .int .i64 0])])
 (.seq (.ops [zo 1 (.build [zz, zz, zz, zz, zz, zz, zz, zz, zz, zz, zz, zz, zz, zz, zz, zz, zz, zz, zz, zz, zz, zz, zz, zz, zz, zz, zz, zz, zz, zz, zz, zz, .int .i64 0] [(32, 1, (.v (.int .i64 (-1))))]), ⟨none, none, .st 33 (.t 0) (.t 1)⟩])
 .ret))
theorem Try.known94 : KnownC Try.prog 94 Try.pc94 2 0 (some 33) := ⟨Try.f94, _, _, Try.func94, rfl, by kernel_rfl, rfl, rfl, by kernel_rfl⟩
def Try.pc95 : PC :=
 (.seq (.ops [zo 4 (.bx 32 (.t 1)), zo 5 (.bx 32 (.t 2)), zo 6 (.mov (.v (.bool false)))])
 (.seq (.ops [zm 12 0, zo 13 (.call 90 [(.t 12)]), zm 7 13])
 (.seq (.seq (.quiet2 2 43 [zm 14 7, zo 15 (.ldA 33 (.t 4)), zo 16 (.call 92 [(.t 14), (.t 15)]), zo 17 (.not (.t 16)), zm 18 17, zg 19 18 true (.ldA 33 (.t 4)), zg 20 18 true (.call 94 []), zg 21 18 true (.more (.eqD true 32 [yy, yy, yy, yy, yy, yy, yy, yy, yy, yy, yy, yy, yy, yy, yy, yy, yy, yy, yy, yy, yy, yy, yy, yy, yy, yy, yy, yy, yy, yy, yy, yy, .int .i64] (.t 19) (.t 20))), zo 22 (.pick (.t 18) (.t 21) (.v (.bool false))), zm 23 22, zg 24 23 true (.ldA 33 (.t 4)), zg 25 23 true (.call 93 []), zg 26 23 true (.more (.eqD true 32 [yy, yy, yy, yy, yy, yy, yy, yy, yy, yy, yy, yy, yy, yy, yy, yy, yy, yy, yy, yy, yy, yy, yy, yy, yy, yy, yy, yy, yy, yy, yy, yy, .int .i64] (.t 24) (.t 25))), zo 27 (.pick (.t 23) (.t 26) (.v (.bool false))), zm 28 27, zg 29 28 false (.mov (.t 7)), zg 30 28 false (.ldA 33 (.t 5)), zg 31 28 false (.call 92 [(.t 29), (.t 30)]), zg 32 28 false (.not (.t 31)), zg 33 28 false (.mov (.t 32)), zg 34 33 true (.ldA 33 (.t 5)), zg 35 33 true (.call 94 []), zg 36 33 true (.more (.eqD true 32 [yy, yy, yy, yy, yy, yy, yy, yy, yy, yy, yy, yy, yy, yy, yy, yy, yy, yy, yy, yy, yy, yy, yy, yy, yy, yy, yy, yy, yy, yy, yy, yy, .int .i64] (.t 34) (.t 35))), zg 37 28 false (.pick (.t 33) (.t 36) (.v (.bool false))), zg 38 28 false (.mov (.t 37)), zg 39 38 true (.ldA 33 (.t 5)), zg 40 38 true (.call 93 []), zg 41 38 true (.more (.eqD true 32 [yy, yy, yy, yy, yy, yy, yy, yy, yy, yy, yy, yy, yy, yy, yy, yy, yy, yy, yy, yy, yy, yy, yy, yy, yy, yy, yy, yy, yy, yy, yy, yy, .int .i64] (.t 39) (.t 40))), zg 42 28 false (.pick (.t 38) (.t 41) (.v (.bool false))), zo 43 (.pick (.t 28) (.v (.bool true)) (.t 42)), zm 44 43, zg 45 44 false (.ldA 33 (.t 4)), zg 46 44 false (.ldA 33 (.t 5)), zg 47 44 false (.more (.eqD false 32 [yy, yy, yy, yy, yy, yy, yy, yy, yy, yy, yy, yy, yy, yy, yy, yy, yy, yy, yy, yy, yy, yy, yy, yy, yy, yy, yy, yy, yy, yy, yy, yy, .int .i64] (.t 45) (.t 46))), zo 48 (.pick (.t 44) (.v (.bool true)) (.t 47)), zm 49 48, zg 50 49 false (.ldA 33 (.t 4)), zg 51 49 false (.call 93 []), zg 52 49 false (.more (.eqD false 32 [yy, yy, yy, yy, yy, yy, yy, yy, yy, yy, yy, yy, yy, yy, yy, yy, yy, yy, yy, yy, yy, yy, yy, yy, yy, yy, yy, yy, yy, yy, yy, yy, .int .i64] (.t 50) (.t 51))), zo 53 (.pick (.t 49) (.v (.bool true)) (.t 52)), zm 54 53, zg 55 54 false (.ldA 33 (.t 5)), zg 56 54 false (.call 94 []), zg 57 54 false (.more (.eqD false 32 [yy, yy, yy, yy, yy, yy, yy, yy, yy, yy, yy, yy, yy, yy, yy, yy, yy, yy, yy, yy, yy, yy, yy, yy, yy, yy, yy, yy, yy, yy, yy, yy, .int .i64] (.t 55) (.t 56))), zo 58 (.pick (.t 54) (.v (.bool true)) (.t 57))])
 (.cond (.t 58) (.seq (.ops [zo 6 (.mov (.v (.bool false)))])
 .ret) .skip))
 (.seq (.seq (.quiet2 1 6 [zo 59 (.ldA 33 (.t 4)), zo 60 (.call 94 []), zo 61 (.more (.eqD false 32 [yy, yy, yy, yy, yy, yy, yy, yy, yy, yy, yy, yy, yy, yy, yy, yy, yy, yy, yy, yy, yy, yy, yy, yy, yy, yy, yy, yy, yy, yy, yy, yy, .int .i64] (.t 59) (.t 60))), zm 62 61, zg 63 62 false (.ldA 33 (.t 5)), zg 64 62 false (.call 93 []), zg 65 62 false (.more (.eqD false 32 [yy, yy, yy, yy, yy, yy, yy, yy, yy, yy, yy, yy, yy, yy, yy, yy, yy, yy, yy, yy, yy, yy, yy, yy, yy, yy, yy, yy, yy, yy, yy, yy, .int .i64] (.t 63) (.t 64))), zo 66 (.pick (.t 62) (.v (.bool true)) (.t 65))])
 (.cond (.t 66) (.seq (.ops [zo 6 (.mov (.v (.bool true)))])
 .ret) .skip))
 (.seq (.ops [zm 67 0, zo 68 (.call 112 [(.t 67)]), zm 8 68])
 (.seq (.ops [zo 69 (.ldA 33 (.t 4)), zo 70 (.bsl 32 [zz, zz, zz, zz, zz, zz, zz, zz, zz, zz, zz, zz, zz, zz, zz, zz, zz, zz, zz, zz, zz, zz, zz, zz, zz, zz, zz, zz, zz, zz, zz, zz, .int .i64 0] 1 [(0, 33, (.t 69))]), zm 9 70])
 (.seq (.seq (.ops [zo 10 (.mov (.v (.int .i64 0)))])
 (.block 0 (.loop (.seq (.seq (.ops [zm 71 10, zm 72 9, zo 73 (.lenS (.t 72)), zo 74 (.bin .lss (.t 71) (.t 73))])
 (.cond (.t 74) .skip (.exit 0)))
 (.seq (.block 1 (.seq (.ops [zo 11 (.mov (.v (.int .i64 0)))])
 (.block 2 (.loop (.seq (.seq (.ops [zm 77 11, zo 78 (.bin .add (.t 77) (.v (.int .i64 1))), zm 79 8, zo 80 (.lenS (.t 79)), zo 81 (.bin .lss (.t 78) (.t 80))])
 (.cond (.t 81) .skip (.exit 2)))
 (.seq (.block 3 (.seq (.quiet 16 [zm 84 8, zm 85 11, zo 86 (.ixS 33 (.t 84) (.t 85)), zo 87 (.ldA 33 (.t 86)), zm 88 9, zm 89 10, zo 90 (.ixS 33 (.t 88) (.t 89)), zo 91 (.ldA 33 (.t 90)), zo 92 (.more (.eqD false 32 [yy, yy, yy, yy, yy, yy, yy, yy, yy, yy, yy, yy, yy, yy, yy, yy, yy, yy, yy, yy, yy, yy, yy, yy, yy, yy, yy, yy, yy, yy, yy, yy, .int .i64] (.t 87) (.t 91))), zm 93 92, zg 94 93 true (.mov (.t 9)), zg 95 93 true (.mov (.t 8)), zg 96 93 true (.mov (.t 11)), zg 97 93 true (.bin .add (.t 96) (.v (.int .i64 1))), zg 98 93 true (.ixS 33 (.t 95) (.t 97)), zg 99 93 true (.ldA 33 (.t 98)), zg 100 93 true (.call 92 [(.t 94), (.t 99)]), zg 101 93 true (.not (.t 100)), zo 102 (.pick (.t 93) (.t 101) (.v (.bool false)))])
 (.cond (.t 102) (.ops [zm 103 9, zm 104 8, zm 105 11, zo 106 (.bin .add (.t 105) (.v (.int .i64 1))), zo 107 (.ixS 33 (.t 104) (.t 106)), zo 108 (.ldA 33 (.t 107)), zo 109 (.bsl 32 [zz, zz, zz, zz, zz, zz, zz, zz, zz, zz, zz, zz, zz, zz, zz, zz, zz, zz, zz, zz, zz, zz, zz, zz, zz, zz, zz, zz, zz, zz, zz, zz, .int .i64 0] 1 [(0, 33, (.t 108))]), zo 110 (.app 34 32 33 40 (.agg #[zz, zz, zz, zz, zz, zz, zz, zz, zz, zz, zz, zz, zz, zz, zz, zz, zz, zz, zz, zz, zz, zz, zz, zz, zz, zz, zz, zz, zz, zz, zz, zz, .int .i64 0]) (.t 103) (.t 109)), zm 9 110]) .skip)))
 (.ops [zm 82 11, zo 83 (.bin .add (.t 82) (.v (.int .i64 2))), zm 11 83])))))))
 (.ops [zm 75 10, zo 76 (.bin .add (.t 75) (.v (.int .i64 1))), zm 10 76]))))))
 (.seq (.ops [zm 111 9, zo 112 (.ldA 33 (.t 5)), zo 113 (.call 92 [(.t 111), (.t 112)]), zm 6 113])
 .ret))))))))
theorem Try.known95 : Known Try.prog 95 Try.pc95 114 [6] := ⟨Try.f95, _, Try.func95, rfl, by kernel_rfl, rfl, rfl⟩
def Try.pc96 : PC :=
 (.seq (.ops [zo 4 (.mov (.v (.int .i64 0)))])
 (.seq (.seq (.ops [zm 6 0, zo 7 (.lenS (.t 6)), zo 8 (.mov (.v (.int .i64 0)))])
 (.block 0 (.loop (.seq (.ops [zo 9 (.bin .lss (.t 8) (.t 7))])
 (.seq (.cond (.t 9) .skip (.exit 0))
 (.seq (.block 1 (.seq (.ops [zm 10 8, zm 5 10])
 (.seq (.ops [zm 11 1, zm 12 0, zm 13 5, zo 14 (.ixS 35 (.t 12) (.t 13)), zo 15 (.ldA 35 (.t 14)), zo 16 (.callv (.t 11) [(.t 15)])])
 (.cond (.t 16) (.seq (.ops [zm 17 5, zm 4 17])
 .ret) .skip))))
 (.ops [zo 18 (.bin .add (.t 8) (.v (.int .i64 1))), zm 8 18])))))))
 (.seq (.ops [zo 4 (.mov (.v (.int .i64 (-1))))])
 .ret)))
theorem Try.known96 : Known Try.prog 96 Try.pc96 19 [4] := ⟨Try.f96, _, Try.func96, rfl, by kernel_rfl, rfl, rfl⟩
def Try.pc97 : PC :=
 (.seq (.ops [zo 2 (.mov (.v (.slice none 0 0)))])
 (.seq (.ops [zm 12 0, zo 13 (.call 90 [(.t 12)]), zm 3 13])
 (.seq (.ops [zm 14 0, zo 15 (.call 112 [(.t 14)]), zm 4 15])
 (.seq (.ops [zo 5 (.mov (.v (.slice none 0 0)))])
 (.seq (.block 0 (.loop (.seq (.seq (.ops [zm 16 3, zo 17 (.lenS (.t 16)), zo 18 (.bin .gtr (.t 17) (.v (.int .i64 0)))])
 (.cond (.t 18) .skip (.exit 0)))
 (.block 1 (.seq (.ops [zo 6 (.mov (.v (.int .i64 (-1))))])
 (.seq (.seq (.ops [zo 7 (.mov (.v (.int .i64 0)))])
 (.block 2 (.loop (.seq (.seq (.ops [zm 19 7, zm 20 3, zo 21 (.lenS (.t 20)), zo 22 (.bin .lss (.t 19) (.t 21))])
 (.cond (.t 22) .skip (.exit 2)))
 (.seq (.block 3 (.seq (.ops [zo 8 (.mov (.v (.bool true)))])
 (.seq (.seq (.ops [zo 9 (.mov (.v (.int .i64 0)))])
 (.block 4 (.loop (.seq (.seq (.ops [zm 25 9, zo 26 (.bin .add (.t 25) (.v (.int .i64 1))), zm 27 4, zo 28 (.lenS (.t 27)), zo 29 (.bin .lss (.t 26) (.t 28))])
 (.cond (.t 29) .skip (.exit 4)))
 (.seq (.block 5 (.seq (.quiet 16 [zm 32 4, zm 33 9, zo 34 (.bin .add (.t 33) (.v (.int .i64 1))), zo 35 (.ixS 33 (.t 32) (.t 34)), zo 36 (.ldA 33 (.t 35)), zm 37 3, zm 38 7, zo 39 (.ixS 33 (.t 37) (.t 38)), zo 40 (.ldA 33 (.t 39)), zo 41 (.more (.eqD false 32 [yy, yy, yy, yy, yy, yy, yy, yy, yy, yy, yy, yy, yy, yy, yy, yy, yy, yy, yy, yy, yy, yy, yy, yy, yy, yy, yy, yy, yy, yy, yy, yy, .int .i64] (.t 36) (.t 40))), zm 42 41, zg 43 42 true (.mov (.t 3)), zg 44 42 true (.mov (.t 4)), zg 45 42 true (.mov (.t 9)), zg 46 42 true (.ixS 33 (.t 44) (.t 45)), zg 47 42 true (.ldA 33 (.t 46)), zg 48 42 true (.call 92 [(.t 43), (.t 47)]), zo 49 (.pick (.t 42) (.t 48) (.v (.bool false)))])
 (.cond (.t 49) (.ops [zo 8 (.mov (.v (.bool false)))]) .skip)))
 (.ops [zm 30 9, zo 31 (.bin .add (.t 30) (.v (.int .i64 2))), zm 9 31]))))))
 (.seq (.quiet 13 [zm 50 8, zm 51 50, zg 52 51 true (.mov (.t 6)), zg 53 51 true (.bin .lss (.t 52) (.v (.int .i64 0))), zg 54 51 true (.mov (.t 53)), zg 55 54 false (.mov (.t 3)), zg 56 54 false (.mov (.t 7)), zg 57 54 false (.ixS 33 (.t 55) (.t 56)), zg 58 54 false (.ldA 33 (.t 57)), zg 59 54 false (.mov (.t 3)), zg 60 54 false (.mov (.t 6)), zg 61 54 false (.ixS 33 (.t 59) (.t 60)), zg 62 54 false (.ldA 33 (.t 61)), zg 63 54 false (.call 113 [(.t 58), (.t 62)]), zg 64 51 true (.pick (.t 54) (.v (.bool true)) (.t 63)), zo 65 (.pick (.t 51) (.t 64) (.v (.bool false)))])
 (.cond (.t 65) (.ops [zm 66 7, zm 6 66]) .skip)))))
 (.ops [zm 23 7, zo 24 (.bin .add (.t 23) (.v (.int .i64 1))), zm 7 24]))))))
 (.seq (.seq (.ops [zm 67 6, zo 68 (.bin .lss (.t 67) (.v (.int .i64 0)))])
 (.cond (.t 68) (.seq (.ops [zm 69 5, zm 2 69])
 .ret) .skip))
 (.seq (.ops [zm 70 5, zm 71 0, zm 72 3, zm 73 6, zo 74 (.ixS 33 (.t 72) (.t 73)), zo 75 (.ldA 33 (.t 74)), zo 76 (.call 114 [(.t 71), (.t 75)]), zo 77 (.bsl 78 [zz, zz, zz, zz, zz, zz, zz, zz, zz, zz, zz, zz, zz, zz, zz, zz, zz, zz, zz, zz, zz, zz, zz, zz, zz, zz, zz, zz, zz, zz, zz, zz, .int .i64 0, .string ⟨#[]⟩, .bool false] 1 [(0, 35, (.t 76))]), zo 78 (.app 74 78 35 64 (.agg #[zz, zz, zz, zz, zz, zz, zz, zz, zz, zz, zz, zz, zz, zz, zz, zz, zz, zz, zz, zz, zz, zz, zz, zz, zz, zz, zz, zz, zz, zz, zz, zz, .int .i64 0, .string ⟨#[]⟩, .bool false]) (.t 70) (.t 77)), zm 5 78])
 (.seq (.ops [zo 10 (.mov (.v (.slice none 0 0)))])
 (.seq (.seq (.ops [zo 11 (.mov (.v (.int .i64 0)))])
 (.block 6 (.loop (.seq (.seq (.ops [zm 79 11, zm 80 3, zo 81 (.lenS (.t 80)), zo 82 (.bin .lss (.t 79) (.t 81))])
 (.cond (.t 82) .skip (.exit 6)))
 (.seq (.block 7 (.seq (.ops [zm 85 11, zm 86 6, zo 87 (.bin .neq (.t 85) (.t 86))])
 (.cond (.t 87) (.ops [zm 88 10, zm 89 3, zm 90 11, zo 91 (.ixS 33 (.t 89) (.t 90)), zo 92 (.ldA 33 (.t 91)), zo 93 (.bsl 32 [zz, zz, zz, zz, zz, zz, zz, zz, zz, zz, zz, zz, zz, zz, zz, zz, zz, zz, zz, zz, zz, zz, zz, zz, zz, zz, zz, zz, zz, zz, zz, zz, .int .i64 0] 1 [(0, 33, (.t 92))]), zo 94 (.app 34 32 33 40 (.agg #[zz, zz, zz, zz, zz, zz, zz, zz, zz, zz, zz, zz, zz, zz, zz, zz, zz, zz, zz, zz, zz, zz, zz, zz, zz, zz, zz, zz, zz, zz, zz, zz, .int .i64 0]) (.t 88) (.t 93)), zm 10 94]) .skip)))
 (.ops [zm 83 11, zo 84 (.bin .add (.t 83) (.v (.int .i64 1))), zm 11 84]))))))
 (.ops [zm 95 10, zm 3 95])))))))))))
 (.seq (.ops [zm 96 5, zm 2 96])
 .ret))))))
theorem Try.known97 : Known Try.prog 97 Try.pc97 97 [2] := ⟨Try.f97, _, Try.func97, rfl, by kernel_rfl, rfl, rfl⟩
def Try.pc98 : PC :=
 (.seq (.ops [zo 4 (.mov (.v (.int .i64 0)))])
 (.seq (.seq (.ops [zm 6 0, zo 7 (.lenS (.t 6)), zo 8 (.mov (.v (.int .i64 0)))])
 (.block 0 (.loop (.seq (.ops [zo 9 (.bin .lss (.t 8) (.t 7))])
 (.seq (.cond (.t 9) .skip (.exit 0))
 (.seq (.block 1 (.seq (.ops [zm 10 8, zm 5 10])
 (.seq (.ops [zm 11 1, zm 12 0, zm 13 5, zo 14 (.ixS 1 (.t 12) (.t 13)), zo 15 (.ld (.t 14)), zo 16 (.bin .eql (.t 11) (.t 15))])
 (.cond (.t 16) (.seq (.ops [zm 17 5, zm 4 17])
 .ret) .skip))))
 (.ops [zo 18 (.bin .add (.t 8) (.v (.int .i64 1))), zm 8 18])))))))
 (.seq (.ops [zo 4 (.mov (.v (.int .i64 (-1))))])
 .ret)))
theorem Try.known98 : Known Try.prog 98 Try.pc98 19 [4] := ⟨Try.f98, _, Try.func98, rfl, by kernel_rfl, rfl, rfl⟩
def Try.pc99 : PC :=
 (.seq (.ops [zo 4 (.mov (.v (.int .i64 0)))])
 (.seq (.seq (.ops [zm 6 0, zo 7 (.lenS (.t 6)), zo 8 (.mov (.v (.int .i64 0)))])
 (.block 0 (.loop (.seq (.ops [zo 9 (.bin .lss (.t 8) (.t 7))])
 (.seq (.cond (.t 9) .skip (.exit 0))
 (.seq (.block 1 (.seq (.ops [zm 10 8, zm 5 10])
 (.seq (.ops [zm 11 1, zm 12 0, zm 13 5, zo 14 (.ixS 3 (.t 12) (.t 13)), zo 15 (.ldA 3 (.t 14)), zo 16 (.callv (.t 11) [(.t 15)])])
 (.cond (.t 16) (.seq (.ops [zm 17 5, zm 4 17])
 .ret) .skip))))
 (.ops [zo 18 (.bin .add (.t 8) (.v (.int .i64 1))), zm 8 18])))))))
 (.seq (.ops [zo 4 (.mov (.v (.int .i64 (-1))))])
 .ret)))
theorem Try.known99 : Known Try.prog 99 Try.pc99 19 [4] := ⟨Try.f99, _, Try.func99, rfl, by kernel_rfl, rfl, rfl⟩
def Try.pc112 : PC :=
 (.seq (.ops [zo 2 (.mov (.v (.slice none 0 0)))])
 (.seq (.ops [zo 3 (.mov (.v (.slice none 0 0)))])
 (.seq (.seq (.ops [zo 4 (.mov (.v (.int .i64 0)))])
 (.block 0 (.loop (.seq (.seq (.ops [zm 7 4, zm 8 0, zo 9 (.lenS (.t 8)), zo 10 (.bin .lss (.t 7) (.t 9))])
 (.cond (.t 10) .skip (.exit 0)))
 (.seq (.block 1 (.seq (.ops [zm 13 0, zm 14 4, zo 15 (.ixS 102 (.t 13) (.t 14)), zo 16 (.ldA 102 (.t 15)), zo 17 (.call 91 [(.t 16)]), zm 5 17])
 (.seq (.seq (.ops [zo 6 (.mov (.v (.int .i64 0)))])
 (.block 2 (.loop (.seq (.seq (.ops [zm 18 6, zm 19 5, zo 20 (.lenS (.t 19)), zo 21 (.bin .lss (.t 18) (.t 20))])
 (.cond (.t 21) .skip (.exit 2)))
 (.seq (.block 3 (.seq (.ops [zm 24 6, zo 25 (.bin .eql (.t 24) (.v (.int .i64 0)))])
 (.cond (.t 25) (.quiet 9 [zm 26 3, zm 27 0, zm 28 4, zo 29 (.ixS 102 (.t 27) (.t 28)), zo 30 (.fa 34 (.t 29)), zo 31 (.ldA 33 (.t 30)), zm 32 5, zo 33 (.ixS 33 (.t 32) (.v (.int .i64 0))), zo 34 (.ldA 33 (.t 33)), zo 35 (.bsl 32 [zz, zz, zz, zz, zz, zz, zz, zz, zz, zz, zz, zz, zz, zz, zz, zz, zz, zz, zz, zz, zz, zz, zz, zz, zz, zz, zz, zz, zz, zz, zz, zz, .int .i64 0, zz, zz, zz, zz, zz, zz, zz, zz, zz, zz, zz, zz, zz, zz, zz, zz, zz, zz, zz, zz, zz, zz, zz, zz, zz, zz, zz, zz, zz, zz, zz, zz, .int .i64 0] 2 [(0, 33, (.t 31)), (33, 33, (.t 34))]), zo 36 (.app 34 32 33 40 (.agg #[zz, zz, zz, zz, zz, zz, zz, zz, zz, zz, zz, zz, zz, zz, zz, zz, zz, zz, zz, zz, zz, zz, zz, zz, zz, zz, zz, zz, zz, zz, zz, zz, .int .i64 0]) (.t 26) (.t 35)), zm 3 36]) (.quiet 10 [zm 37 3, zm 38 5, zm 39 6, zo 40 (.bin .sub (.t 39) (.v (.int .i64 1))), zo 41 (.ixS 33 (.t 38) (.t 40)), zo 42 (.ldA 33 (.t 41)), zm 43 5, zm 44 6, zo 45 (.ixS 33 (.t 43) (.t 44)), zo 46 (.ldA 33 (.t 45)), zo 47 (.bsl 32 [zz, zz, zz, zz, zz, zz, zz, zz, zz, zz, zz, zz, zz, zz, zz, zz, zz, zz, zz, zz, zz, zz, zz, zz, zz, zz, zz, zz, zz, zz, zz, zz, .int .i64 0, zz, zz, zz, zz, zz, zz, zz, zz, zz, zz, zz, zz, zz, zz, zz, zz, zz, zz, zz, zz, zz, zz, zz, zz, zz, zz, zz, zz, zz, zz, zz, zz, .int .i64 0] 2 [(0, 33, (.t 42)), (33, 33, (.t 46))]), zo 48 (.app 34 32 33 40 (.agg #[zz, zz, zz, zz, zz, zz, zz, zz, zz, zz, zz, zz, zz, zz, zz, zz, zz, zz, zz, zz, zz, zz, zz, zz, zz, zz, zz, zz, zz, zz, zz, zz, .int .i64 0]) (.t 37) (.t 47)), zm 3 48]))))
 (.ops [zm 22 6, zo 23 (.bin .add (.t 22) (.v (.int .i64 1))), zm 6 23]))))))
 (.seq (.ops [zm 49 5, zo 50 (.lenS (.t 49)), zo 51 (.bin .gtr (.t 50) (.v (.int .i64 0)))])
 (.cond (.t 51) (.quiet 12 [zm 52 3, zm 53 5, zm 54 5, zo 55 (.lenS (.t 54)), zo 56 (.bin .sub (.t 55) (.v (.int .i64 1))), zo 57 (.ixS 33 (.t 53) (.t 56)), zo 58 (.ldA 33 (.t 57)), zm 59 0, zm 60 4, zo 61 (.ixS 102 (.t 59) (.t 60)), zo 62 (.fa 67 (.t 61)), zo 63 (.ldA 33 (.t 62)), zo 64 (.bsl 32 [zz, zz, zz, zz, zz, zz, zz, zz, zz, zz, zz, zz, zz, zz, zz, zz, zz, zz, zz, zz, zz, zz, zz, zz, zz, zz, zz, zz, zz, zz, zz, zz, .int .i64 0, zz, zz, zz, zz, zz, zz, zz, zz, zz, zz, zz, zz, zz, zz, zz, zz, zz, zz, zz, zz, zz, zz, zz, zz, zz, zz, zz, zz, zz, zz, zz, zz, .int .i64 0] 2 [(0, 33, (.t 58)), (33, 33, (.t 63))]), zo 65 (.app 34 32 33 40 (.agg #[zz, zz, zz, zz, zz, zz, zz, zz, zz, zz, zz, zz, zz, zz, zz, zz, zz, zz, zz, zz, zz, zz, zz, zz, zz, zz, zz, zz, zz, zz, zz, zz, .int .i64 0]) (.t 52) (.t 64)), zm 3 65]) .skip)))))
 (.ops [zm 11 4, zo 12 (.bin .add (.t 11) (.v (.int .i64 1))), zm 4 12]))))))
 (.seq (.ops [zm 66 3, zm 2 66])
 .ret))))
theorem Try.known112 : Known Try.prog 112 Try.pc112 67 [2] := ⟨Try.f112, _, Try.func112, rfl, by kernel_rfl, rfl, rfl⟩
def Try.pc113 : PC :=
 (.seq (.ops [zo 2 (.bx 32 (.t 0)), zo 3 (.bx 32 (.t 1)), zo 4 (.mov (.v (.bool false)))])
 (.seq (.seq (.ops [zo 5 (.mov (.v (.int .i64 0)))])
 (.block 0 (.loop (.seq (.seq (.ops [zm 6 5, zo 7 (.bin .lss (.t 6) (.v (.int .i64 32)))])
 (.cond (.t 7) .skip (.exit 0)))
 (.seq (.block 1 (.seq (.quiet 8 [zm 10 5, zo 11 (.fa 0 (.t 2)), zo 12 (.ixA 32 1 (.t 11) (.t 10)), zo 13 (.ld (.t 12)), zm 14 5, zo 15 (.fa 0 (.t 3)), zo 16 (.ixA 32 1 (.t 15) (.t 14)), zo 17 (.ld (.t 16)), zo 18 (.bin .neq (.t 13) (.t 17))])
 (.cond (.t 18) (.seq (.quiet 8 [zm 19 5, zo 20 (.fa 0 (.t 2)), zo 21 (.ixA 32 1 (.t 20) (.t 19)), zo 22 (.ld (.t 21)), zm 23 5, zo 24 (.fa 0 (.t 3)), zo 25 (.ixA 32 1 (.t 24) (.t 23)), zo 26 (.ld (.t 25)), zo 27 (.bin .lss (.t 22) (.t 26)), zm 4 27])
 .ret) .skip)))
 (.ops [zm 8 5, zo 9 (.bin .add (.t 8) (.v (.int .i64 1))), zm 5 9]))))))
 (.seq (.ops [zo 28 (.fa 32 (.t 2)), zo 29 (.ld (.t 28)), zo 30 (.fa 32 (.t 3)), zo 31 (.ld (.t 30)), zo 32 (.bin .lss (.t 29) (.t 31)), zm 4 32])
 .ret)))
theorem Try.known113 : Known Try.prog 113 Try.pc113 33 [4] := ⟨Try.f113, _, Try.func113, rfl, by kernel_rfl, rfl, rfl⟩
def Try.pc114 : PC :=
 (.seq (.ops [zo 3 (.bx 32 (.t 1)), zo 4 (.al 78 [zz, zz, zz, zz, zz, zz, zz, zz, zz, zz, zz, zz, zz, zz, zz, zz, zz, zz, zz, zz, zz, zz, zz, zz, zz, zz, zz, zz, zz, zz, zz, zz, .int .i64 0, .string ⟨#[]⟩, .bool false])])
 (.seq (.ops [zo 9 (.ldA 33 (.t 3)), zo 10 (.build [zz, zz, zz, zz, zz, zz, zz, zz, zz, zz, zz, zz, zz, zz, zz, zz, zz, zz, zz, zz, zz, zz, zz, zz, zz, zz, zz, zz, zz, zz, zz, zz, .int .i64 0, .string ⟨#[]⟩, .bool false] [(0, 33, (.t 9)), (34, 1, (.v (.bool true)))]), zo 5 (.al 78 [zz, zz, zz, zz, zz, zz, zz, zz, zz, zz, zz, zz, zz, zz, zz, zz, zz, zz, zz, zz, zz, zz, zz, zz, zz, zz, zz, zz, zz, zz, zz, zz, .int .i64 0, .string ⟨#[]⟩, .bool false]), ⟨none, none, .st 35 (.t 5) (.t 10)⟩])
 (.seq (.seq (.ops [zo 6 (.mov (.v (.int .i64 0)))])
 (.block 0 (.loop (.seq (.seq (.ops [zm 11 6, zm 12 0, zo 13 (.lenS (.t 12)), zo 14 (.bin .lss (.t 11) (.t 13))])
 (.cond (.t 14) .skip (.exit 0)))
 (.seq (.block 1 (.seq (.ops [zm 17 0, zm 18 6, zo 19 (.ixS 102 (.t 17) (.t 18)), zo 20 (.ldA 102 (.t 19)), zo 21 (.call 91 [(.t 20)]), zm 7 21])
 (.seq (.seq (.ops [zo 8 (.mov (.v (.int .i64 0)))])
 (.block 2 (.loop (.seq (.seq (.ops [zm 22 8, zm 23 7, zo 24 (.lenS (.t 23)), zo 25 (.bin .lss (.t 22) (.t 24))])
 (.cond (.t 25) .skip (.exit 2)))
 (.seq (.block 3 (.seq (.quiet 5 [zm 28 7, zm 29 8, zo 30 (.ixS 33 (.t 28) (.t 29)), zo 31 (.ldA 33 (.t 30)), zo 32 (.ldA 33 (.t 3)), zo 33 (.more (.eqD false 32 [yy, yy, yy, yy, yy, yy, yy, yy, yy, yy, yy, yy, yy, yy, yy, yy, yy, yy, yy, yy, yy, yy, yy, yy, yy, yy, yy, yy, yy, yy, yy, yy, .int .i64] (.t 31) (.t 32)))])
 (.cond (.t 33) (.ops [zm 34 0, zm 35 6, zo 36 (.ixS 102 (.t 34) (.t 35)), zo 37 (.fa 100 (.t 36)), zo 38 (.ld (.t 37)), zm 39 8, zo 40 (.ixS 1 (.t 38) (.t 39)), zo 41 (.ld (.t 40)), zo 42 (.fa 33 (.t 5)), ⟨none, none, .st 1 (.t 42) (.t 41)⟩]) .skip)))
 (.ops [zm 26 8, zo 27 (.bin .add (.t 26) (.v (.int .i64 1))), zm 8 27]))))))
 (.seq (.quiet 6 [zm 43 0, zm 44 6, zo 45 (.ixS 102 (.t 43) (.t 44)), zo 46 (.fa 101 (.t 45)), zo 47 (.ld (.t 46)), zo 48 (.ldA 33 (.t 3)), zo 49 (.call 92 [(.t 47), (.t 48)])])
 (.cond (.t 49) (.ops [zo 50 (.fa 34 (.t 5)), ⟨none, none, .st 1 (.t 50) (.v (.bool false))⟩]) .skip)))))
 (.ops [zm 15 6, zo 16 (.bin .add (.t 15) (.v (.int .i64 1))), zm 6 16]))))))
 (.seq (.ops [zo 51 (.ldA 35 (.t 5)), ⟨none, none, .st 35 (.t 4) (.t 51)⟩])
 .ret))))
theorem Try.known114 : KnownC Try.prog 114 Try.pc114 52 4 (some 35) := ⟨Try.f114, _, _, Try.func114, rfl, by kernel_rfl, rfl, rfl, by kernel_rfl⟩
end Go.Proofs

namespace Go.HP
variable {α : Type} [Inhabited α]
def swapL (l : List α) (i j : Nat) : List α := (l.set i l[j]!).set j l[i]!
theorem swapL_len (l : List α) (i j : Nat) : (swapL l i j).length = l.length := by simp [swapL]
theorem swapL_get {l : List α} {i j : Nat} (hi : i < l.length) (hj : j < l.length) (k : Nat) : (swapL l i j)[k]! = if k = j then l[i]! else if k = i then l[j]! else l[k]! := by
 unfold swapL
 simp only [List.getElem!_eq_getElem?_getD]
 by_cases h1 : k = j
 ·subst h1
  rw [if_pos rfl, List.getElem?_set_self (by simpa using hj)]
  rfl
 rw [if_neg h1, List.getElem?_set_ne (fun e => h1 e.symm)]
 by_cases h2 : k = i
 ·subst h2
  rw [if_pos rfl, List.getElem?_set_self hi]
  rfl
 rw [if_neg h2, List.getElem?_set_ne (fun e => h2 e.symm)]
theorem swapL_perm {l : List α} {i j : Nat} (hi : i < l.length) (hj : j < l.length) : (swapL l i j).Perm l := by
 unfold swapL
 rw [getElem!_pos l i hi, getElem!_pos l j hj]
 exact List.set_set_perm hi hj
variable (lt : α -> α -> Bool)
def upL : Nat -> List α -> Nat -> List α
 | 0, l, _ => l
 | f + 1, l, j => if j = 0 then l else if lt l[j]! l[(j - 1) / 2]! then upL f (swapL l ((j - 1) / 2) j) ((j - 1) / 2) else l
def downJ (l : List α) (i n : Nat) : Nat := if 2 * i + 2 < n /\ lt l[2 * i + 2]! l[2 * i + 1]! = true then 2 * i + 2 else 2 * i + 1
def downL : Nat -> List α -> Nat -> Nat -> List α
 | 0, l, _, _ => l
 | f + 1, l, i, n => if n <= 2 * i + 1 then l else if lt l[downJ lt l i n]! l[i]! then downL f (swapL l i (downJ lt l i n)) (downJ lt l i n) n else l
structure Ord : Prop where
 asymm : ∀ a b, lt a b = true -> lt b a = false
 trans : ∀ a b c, lt b a = false -> lt c b = false -> lt c a = false
variable {lt}
def Hp (lt : α -> α -> Bool) (l : List α) (n : Nat) : Prop := ∀ k, 0 < k -> k < n -> lt l[k]! l[(k - 1) / 2]! = false
theorem upL_spec (O : Ord lt) : ∀ (f : Nat) (l : List α) (j : Nat), j <= f -> j < l.length -> (∀ k, 0 < k -> k < l.length -> k ≠ j -> lt l[k]! l[(k - 1) / 2]! = false) ->
  (∀ k, 0 < k -> k < l.length -> 0 < j -> (k - 1) / 2 = j -> lt l[k]! l[(j - 1) / 2]! = false) -> Hp lt (upL lt f l j) l.length /\ (upL lt f l j).Perm l
 | 0, l, j, hf, hj, h1, h2 => by
  refine ⟨fun k h0 hk => ?_, List.Perm.refl _⟩
  exact h1 k h0 hk (by omega)
 | f + 1, l, j, hf, hj, h1, h2 => by
  unfold upL
  by_cases hj0 : j = 0
  ·rw [if_pos hj0]
   exact ⟨fun k h0 hk => h1 k h0 hk (by omega), List.Perm.refl _⟩
  rw [if_neg hj0]
  by_cases hl : lt l[j]! l[(j - 1) / 2]! = true
  ·rw [if_pos hl]
   have hi : (j - 1) / 2 < j := by omega
   generalize hp : (j - 1) / 2 = i at hi hl ⊢
   have hil : i < l.length := by omega
   have hg := swapL_get hil hj
   have key := upL_spec O f (swapL l i j) i (by omega) (by rw [swapL_len]; exact hil) ?_ ?_
   ·rw [swapL_len] at key
    exact ⟨key.1, key.2.trans (swapL_perm hil hj)⟩
   ·intro k h0 hk hki
    rw [swapL_len] at hk
    rw [hg, hg]
    by_cases hkj : k = j
    ·subst hkj
     rw [if_pos rfl, hp, if_neg (by omega), if_pos rfl]
     exact O.asymm _ _ hl
    rw [if_neg hkj, if_neg hki]
    by_cases hpj : (k - 1) / 2 = j
    ·rw [if_pos hpj]
     have := h2 k h0 hk (by omega) hpj
     rwa [hp] at this
    rw [if_neg hpj]
    by_cases hpi : (k - 1) / 2 = i
    ·rw [if_pos hpi]
     have := h1 k h0 hk hkj
     rw [hpi] at this
     exact O.trans _ _ _ (O.asymm _ _ hl) this
    rw [if_neg hpi]
    exact h1 k h0 hk hkj
   intro k h0 hk hi0 hki
   rw [swapL_len] at hk
   rw [hg, hg]
   have hii : (i - 1) / 2 ≠ j := by omega
   have hii2 : (i - 1) / 2 ≠ i := by omega
   rw [if_neg hii, if_neg hii2]
   by_cases hkj : k = j
   ·subst hkj
    rw [if_pos rfl]
    exact h1 i hi0 hil (by omega)
   rw [if_neg hkj, if_neg (by omega)]
   have a := h1 k h0 hk hkj
   rw [hki] at a
   exact O.trans _ _ _ (h1 i hi0 hil (by omega)) a
  rw [if_neg hl]
  refine ⟨fun k h0 hk => ?_, List.Perm.refl _⟩
  by_cases hkj : k = j
  ·subst hkj; simpa using hl
  exact h1 k h0 hk hkj
theorem downL_spec (O : Ord lt) : ∀ (f : Nat) (l : List α) (i n : Nat), n <= f + i -> i < n -> n <= l.length -> (∀ k, 0 < k -> k < n -> (k - 1) / 2 ≠ i -> lt l[k]! l[(k - 1) / 2]! = false) ->
  (∀ k, 0 < k -> k < n -> 0 < i -> (k - 1) / 2 = i -> lt l[k]! l[(i - 1) / 2]! = false) -> Hp lt (downL lt f l i n) n /\ (downL lt f l i n).Perm l /\ ∀ k, n <= k -> (downL lt f l i n)[k]! = l[k]!
 | 0, l, i, n, hf, hi, hn, h1, h2 => by omega
 | f + 1, l, i, n, hf, hi, hn, h1, h2 => by
  unfold downL
  by_cases hc : n <= 2 * i + 1
  ·rw [if_pos hc]
   exact ⟨fun k h0 hk => h1 k h0 hk (by omega), List.Perm.refl _, fun _ _ => rfl⟩
  rw [if_neg hc]
  have hj : downJ lt l i n < n /\ (downJ lt l i n - 1) / 2 = i /\ 0 < downJ lt l i n /\ i < downJ lt l i n /\ ∀ k, 0 < k -> k < n -> (k - 1) / 2 = i -> lt l[k]! l[downJ lt l i n]! = false := by
   unfold downJ
   split
   ·rename_i h
    refine ⟨h.1, by omega, by omega, by omega, fun k h0 hk hp => ?_⟩
    have : k = 2 * i + 1 ∨ k = 2 * i + 2 := by omega
    rcases this with rfl | rfl
    ·exact O.asymm _ _ h.2
    cases hx : lt l[2 * i + 2]! l[2 * i + 2]! with
    | false => rfl
    | true => have := O.asymm _ _ hx; rw [hx] at this; cases this
   rename_i h
   refine ⟨by omega, by omega, by omega, by omega, fun k h0 hk hp => ?_⟩
   have : k = 2 * i + 1 ∨ k = 2 * i + 2 := by omega
   rcases this with rfl | rfl
   ·cases hx : lt l[2 * i + 1]! l[2 * i + 1]! with
    | false => rfl
    | true => have := O.asymm _ _ hx; rw [hx] at this; cases this
   cases hx : lt l[2 * i + 2]! l[2 * i + 1]! with
   | false => rfl
   | true => exact absurd ⟨hk, hx⟩ h
  generalize downJ lt l i n = j at hj ⊢
  obtain ⟨hjn, hjp, hj0, hij, hjm⟩ := hj
  by_cases hl : lt l[j]! l[i]! = true
  ·rw [if_pos hl]
   have hil : i < l.length := by omega
   have hjl : j < l.length := by omega
   have hg := swapL_get hil hjl
   have key := downL_spec O f (swapL l i j) j n (by omega) hjn (by rw [swapL_len]; exact hn) ?_ ?_
   ·refine ⟨key.1, key.2.1.trans (swapL_perm hil hjl), fun k hk => ?_⟩
    rw [key.2.2 k hk, hg, if_neg (by omega), if_neg (by omega)]
   ·intro k h0 hk hkj
    rw [hg, hg, if_neg hkj]
    by_cases hk1 : k = j
    ·subst hk1
     rw [if_pos rfl, hjp, if_pos rfl]
     exact O.asymm _ _ hl
    rw [if_neg hk1]
    by_cases hpi : (k - 1) / 2 = i
    ·rw [if_pos hpi, if_neg (by omega)]
     exact hjm k h0 hk hpi
    rw [if_neg hpi]
    by_cases hki : k = i
    ·subst hki
     rw [if_pos rfl]
     exact h2 j hj0 hjn h0 hjp
    rw [if_neg hki]
    exact h1 k h0 hk hpi
   intro k h0 hk _ hkj
   rw [hg, hg, hjp]
   rw [if_neg (by omega), if_neg (by omega), if_neg (by omega), if_pos rfl]
   have a := h1 k h0 hk (by omega)
   rw [hkj] at a
   exact a
  rw [if_neg hl]
  refine ⟨fun k h0 hk => ?_, List.Perm.refl _, fun _ _ => rfl⟩
  by_cases hpi : (k - 1) / 2 = i
  ·have hl' : lt l[j]! l[i]! = false := by simpa using hl
   rw [hpi]
   exact O.trans _ _ _ hl' (hjm k h0 hk hpi)
  exact h1 k h0 hk hpi
def pushL (lt : α -> α -> Bool) (l : List α) (x : α) : List α := upL lt l.length (l ++ [x]) l.length
theorem get_app {l : List α} {x : α} {k : Nat} (h : k < l.length) : (l ++ [x])[k]! = l[k]! := by
 rw [getElem!_pos _ k (by simp; omega), getElem!_pos l k h, List.getElem_append_left h]
theorem pushL_spec (O : Ord lt) {l : List α} (h : Hp lt l l.length) (x : α) : Hp lt (pushL lt l x) (pushL lt l x).length /\ (pushL lt l x).Perm (x :: l) := by
 have := upL_spec O l.length (l ++ [x]) l.length (Nat.le_refl _) (by simp) (fun k h0 hk hne => ?_) (fun k h0 hk h1 hp => ?_)
 ·unfold pushL
  refine ⟨?_, this.2.trans (List.perm_append_singleton x l)⟩
  rw [this.2.length_eq]
  exact this.1
 ·simp only [List.length_append, List.length_singleton] at hk
  rw [get_app (by omega), get_app (by omega)]
  exact h k h0 (by omega)
 simp only [List.length_append, List.length_singleton] at hk
 omega
def popL (lt : α -> α -> Bool) (l : List α) : List α := (downL lt l.length (swapL l 0 (l.length - 1)) 0 (l.length - 1)).take (l.length - 1)
theorem heap_min (O : Ord lt) {l : List α} {n : Nat} (h : Hp lt l n) : ∀ k, k < n -> lt l[k]! l[0]! = false
 | 0, hk => by
  cases hx : lt l[0]! l[0]! with
  | false => rfl
  | true => have := O.asymm _ _ hx; rw [hx] at this; cases this
 | k + 1, hk => O.trans _ _ _ (heap_min O h ((k + 1 - 1) / 2) (by omega)) (h (k + 1) (by omega) hk)
theorem popL_spec (O : Ord lt) {l : List α} (h : Hp lt l l.length) (h0 : 0 < l.length) :
  Hp lt (popL lt l) (popL lt l).length /\ (l[0]! :: popL lt l).Perm l /\ (downL lt l.length (swapL l 0 (l.length - 1)) 0 (l.length - 1))[l.length - 1]! = l[0]! /\ (popL lt l).length = l.length - 1 /\ ∀ x ∈ popL lt l, lt x l[0]! = false := by
 by_cases h1 : l.length = 1
 ·match l, h1 with
  | [a], _ =>
   have e : downL lt 1 (swapL [a] 0 0) 0 0 = [a] := by simp [downL, swapL]
   refine ⟨?_, ?_, ?_, ?_, ?_⟩
   ·intro k hk hk2; simp [popL] at hk2
   ·simp [popL]
   ·simp [downL, swapL]
   ·simp [popL]
   simp [popL]
 have hl : l.length - 1 < l.length := by omega
 have hg := swapL_get h0 hl
 have key := downL_spec O l.length (swapL l 0 (l.length - 1)) 0 (l.length - 1) (by omega) (by omega) (by rw [swapL_len]; omega) ?_ ?_
 ·obtain ⟨k1, k2, k3⟩ := key
  have hlast : (downL lt l.length (swapL l 0 (l.length - 1)) 0 (l.length - 1))[l.length - 1]! = l[0]! := by
   rw [k3 _ (Nat.le_refl _), hg, if_pos rfl]
  unfold popL
  generalize downL lt l.length (swapL l 0 (l.length - 1)) 0 (l.length - 1) = d at k1 k2 k3 hlast
  have hd : d.length = l.length := by rw [k2.length_eq, swapL_len]
  have hp2 : d.Perm l := k2.trans (swapL_perm h0 hl)
  have hsplit : d = d.take (l.length - 1) ++ [l[0]!] := by
   have : d = d.take (l.length - 1) ++ d.drop (l.length - 1) := (List.take_append_drop _ _).symm
   rw [getElem!_pos d _ (by omega)] at hlast
   rw [List.drop_eq_getElem_cons (by omega), hlast, List.drop_of_length_le (by omega)] at this
   exact this
  have hperm : (l[0]! :: d.take (l.length - 1)).Perm l := by
   refine List.Perm.trans ?_ hp2
   conv => rhs; rw [hsplit]
   exact (List.perm_append_singleton _ _).symm
  refine ⟨?_, hperm, hlast, by simp; omega, fun x hx => ?_⟩
  ·intro k hk hk2
   simp only [List.length_take] at hk2
   have a1 : (d.take (l.length - 1))[k]! = d[k]! := by
    rw [getElem!_pos _ k (by simp; omega), getElem!_pos d k (by omega), List.getElem_take]
   have a2 : (d.take (l.length - 1))[(k - 1) / 2]! = d[(k - 1) / 2]! := by
    rw [getElem!_pos _ _ (by simp; omega), getElem!_pos d _ (by omega), List.getElem_take]
   rw [a1, a2]
   exact k1 k hk (by omega)
  have hx2 : x ∈ l := hperm.mem_iff.1 (List.mem_cons_of_mem _ hx)
  obtain ⟨k, hk, rfl⟩ := List.mem_iff_getElem.1 hx2
  have := heap_min O h k hk
  rwa [getElem!_pos l k hk] at this
 ·intro k hk0 hk hp
  rw [hg, hg, if_neg (by omega), if_neg (by omega), if_neg (by omega), if_neg hp]
  exact h k hk0 (by omega)
 intro k hk0 hk hi0 hp
 omega
end Go.HP

namespace Go.GP
section
variable {V : Type} [DecidableEq V]
def Free (E : List (V × V)) (left : List V) (v : V) : Prop := ∀ e ∈ E, e.2 = v -> e.1 ∉ left
inductive Topo (lt : V -> V -> Bool) (E : List (V × V)) : List V -> List V -> Prop
 | nil {left : List V} (h : ∀ v ∈ left, ¬ Free E left v) : Topo lt E left []
 | cons {left : List V} {v : V} {L : List V} (h1 : v ∈ left) (h2 : Free E left v) (h3 : ∀ u ∈ left, Free E left u -> lt u v = false) (h4 : Topo lt E (left.erase v) L) : Topo lt E left (v :: L)
variable {lt : V -> V -> Bool}
theorem Free.congr {E E' : List (V × V)} {left left' : List V} {v : V} (hE : ∀ e, e ∈ E ↔ e ∈ E') (hl : ∀ u, u ∈ left ↔ u ∈ left') (h : Free E left v) : Free E' left' v :=
 fun e he hv hm => h e ((hE e).2 he) hv ((hl _).2 hm)
theorem Topo.unique (tot : ∀ a b, lt a b = false -> lt b a = false -> a = b) {E : List (V × V)} {left L : List V} (h : Topo lt E left L) : ∀ {E' : List (V × V)} {left' L' : List V}, (∀ e, e ∈ E ↔ e ∈ E') -> left.Perm left' -> Topo lt E' left' L' -> L = L' := by
 induction h with
 | nil h =>
  intro E' left' L' hE hp h'
  cases h' with
  | nil _ => rfl
  | cons h1 h2 h3 h4 => exact absurd (h2.congr (fun e => (hE e).symm) (fun u => hp.symm.mem_iff)) (h _ (hp.mem_iff.2 h1))
 | cons h1 h2 h3 h4 ih =>
  intro E' left' L' hE hp h'
  cases h' with
  | nil h => exact absurd (h2.congr hE (fun u => hp.mem_iff)) (h _ (hp.mem_iff.1 h1))
  | cons g1 g2 g3 g4 =>
   have e := tot _ _ (g3 _ (hp.mem_iff.1 h1) (h2.congr hE (fun u => hp.mem_iff))) (h3 _ (hp.mem_iff.2 g1) (g2.congr (fun e => (hE e).symm) (fun u => hp.symm.mem_iff)))
   subst e
   rw [ih hE (hp.erase _) g4]
theorem Topo.perm {E : List (V × V)} {left L : List V} (h : Topo lt E left L) (r : V -> Nat) (hr : ∀ e ∈ E, e.1 ∈ left -> e.2 ∈ left -> r e.1 < r e.2) : L.Perm left := by
 induction h with
 | @nil left h =>
  cases left with
  | nil => exact List.Perm.refl _
  | cons x l =>
   exfalso
   have key : ∀ n (v : V), r v <= n -> v ∈ x :: l -> False := by
    intro n
    induction n with
    | zero =>
     intro v hv hm
     exact h v hm fun e he hev hmem => by have := hr e he hmem (by rw [hev]; exact hm); rw [hev] at this; omega
    | succ n ih =>
     intro v hv hm
     refine h v hm fun e he hev hmem => ?_
     have := hr e he hmem (by rw [hev]; exact hm)
     rw [hev] at this
     exact ih e.1 (by omega) hmem
   exact key _ x (Nat.le_refl _) (by simp)
 | cons h1 h2 h3 h4 ih =>
  refine List.Perm.trans (List.Perm.cons _ (ih fun e he ha hb => hr e he (List.mem_of_mem_erase ha) (List.mem_of_mem_erase hb))) ?_
  exact (List.perm_cons_erase h1).symm
theorem Topo.sub {E : List (V × V)} {left L : List V} (h : Topo lt E left L) : ∀ v ∈ L, v ∈ left := by
 induction h with
 | nil h => intro v hv; cases hv
 | cons h1 h2 h3 h4 ih =>
  intro u hu
  rcases List.mem_cons.1 hu with rfl | hu
  ·exact h1
  exact List.mem_of_mem_erase (ih u hu)
theorem Topo.order {E : List (V × V)} {left L : List V} (h : Topo lt E left L) (hn : left.Nodup) : L.Pairwise (fun x y => (y, x) ∉ E) /\ L.Nodup := by
 induction h with
 | nil h => exact ⟨List.Pairwise.nil, List.nodup_nil⟩
 | @cons left v L h1 h2 h3 h4 ih =>
  obtain ⟨i1, i2⟩ := ih (hn.erase v)
  refine ⟨List.pairwise_cons.2 ⟨fun y hy he => h2 _ he rfl (List.mem_of_mem_erase (h4.sub y hy)), i1⟩, List.nodup_cons.2 ⟨fun hm => ?_, i2⟩⟩
  have := h4.sub v hm
  rw [hn.mem_erase_iff] at this
  exact this.1 rfl
inductive Rch (E : List (V × V)) : V -> V -> Prop
 | one {a b : V} (h : (a, b) ∈ E) : Rch E a b
 | cons {a c b : V} (h : (a, c) ∈ E) (t : Rch E c b) : Rch E a b
theorem Rch.mono {E E' : List (V × V)} {a b : V} (h : Rch E a b) (hE : ∀ e ∈ E, e ∈ E') : Rch E' a b := by
 induction h with
 | one h => exact .one (hE _ h)
 | cons h t ih => exact .cons (hE _ h) ih
theorem Rch.trans {E : List (V × V)} {a b c : V} (h : Rch E a b) (k : Rch E b c) : Rch E a c := by
 induction h with
 | one h => exact .cons h k
 | cons h t ih => exact .cons h (ih k)
theorem Rch.snoc {E : List (V × V)} {a b c : V} (h : Rch E a b) (k : (b, c) ∈ E) : Rch E a c := h.trans (.one k)
theorem Rch.rank {E : List (V × V)} {a b : V} (h : Rch E a b) (r : V -> Nat) (hr : ∀ e ∈ E, r e.1 < r e.2) : r a < r b := by
 induction h with
 | one h => exact hr _ h
 | cons h t ih => exact Nat.lt_trans (hr _ h) ih
theorem Rch.src {E : List (V × V)} {a b : V} (h : Rch E a b) : ∃ c, (a, c) ∈ E := by
 cases h with
 | one h => exact ⟨_, h⟩
 | cons h t => exact ⟨_, h⟩
theorem Rch.tgt {E : List (V × V)} {a b : V} (h : Rch E a b) : ∃ c, (c, b) ∈ E := by
 induction h with
 | one h => exact ⟨_, h⟩
 | cons h t ih => exact ih
end
end Go.GP

namespace Go.GP
abbrev HashB := { l : List UInt8 // l.length = 32 }
abbrev Vtx := HashB × Int
def h0 : HashB := ⟨List.replicate 32 0, by simp⟩
instance : Inhabited HashB := ⟨h0⟩
def rootV : Vtx := (h0, -1)
def endV : Vtx := (h0, -2)
theorem root_ne_end : rootV ≠ endV := by decide
structure PartP where
 patch : HashB
 at_ : Int
 first : Int
 up : Vtx
 down : Vtx
 lines : List ByteArray
 gone : List Vtx
def PartP.vtx (p : PartP) (i : Nat) : Vtx := (p.patch, p.first + (i : Int))
def PartP.name (p : PartP) : HashB × Int := (p.patch, p.at_)
def own (p : PartP) : List Vtx := (List.range p.lines.length).map p.vtx
def edgeL {V : Type} : List V -> List (V × V)
 | a :: b :: r => (a, b) :: edgeL (b :: r)
 | _ => []
def way (p : PartP) : List Vtx := p.up :: (own p ++ [p.down])
def edges (p : PartP) : List (Vtx × Vtx) := if p.lines.length = 0 then [] else edgeL (way p)
def names (p : PartP) : List Vtx := p.up :: p.down :: p.gone
def allV (ps : List PartP) : List Vtx := ps.flatMap own
def allE (ps : List PartP) : List (Vtx × Vtx) := ps.flatMap edges
def HasV (ps : List PartP) (v : Vtx) : Prop := v = rootV ∨ v = endV ∨ v ∈ allV ps
def Bef (ps : List PartP) (a b : Vtx) : Prop := HasV ps a /\ HasV ps b /\ a ≠ b /\ a ≠ endV /\ b ≠ rootV /\ (a = rootV ∨ b = endV ∨ Rch (allE ps) a b)
theorem mem_own {p : PartP} {v : Vtx} : v ∈ own p ↔ ∃ i, i < p.lines.length /\ p.vtx i = v := by
 unfold own; simp [List.mem_map]
theorem vtx_inj {p : PartP} {i j : Nat} (h : p.vtx i = p.vtx j) : i = j := by
 have := congrArg Prod.snd h
 simp only [PartP.vtx] at this
 omega
theorem own_nodup (p : PartP) : (own p).Nodup := by
 unfold own List.Nodup
 rw [List.pairwise_map]
 exact List.Pairwise.imp (fun h e => h (vtx_inj e)) List.nodup_range
theorem own_len (p : PartP) : (own p).length = p.lines.length := by simp [own]
theorem edgeL_mem {V : Type} {l : List V} {e : V × V} : e ∈ edgeL l ↔ ∃ i, l[i]? = some e.1 /\ l[i + 1]? = some e.2 := by
 induction l with
 | nil => simp [edgeL]
 | cons a l ih =>
  cases l with
  | nil => simp [edgeL]
  | cons b r =>
   simp only [edgeL, List.mem_cons, ih]
   constructor
   ·rintro (rfl | ⟨i, h1, h2⟩)
    ·exact ⟨0, rfl, rfl⟩
    exact ⟨i + 1, by simpa using h1, by simpa using h2⟩
   rintro ⟨i, h1, h2⟩
   cases i with
   | zero =>
    simp at h1 h2
    left
    exact Prod.ext h1.symm h2.symm
   | succ i => exact .inr ⟨i, by simpa using h1, by simpa using h2⟩
theorem way_get (p : PartP) (i : Nat) : (way p)[i]? = if i = 0 then some p.up else if i <= p.lines.length then some (p.vtx (i - 1)) else if i = p.lines.length + 1 then some p.down else none := by
 unfold way
 cases i with
 | zero => simp
 | succ i =>
  rw [List.getElem?_cons_succ, if_neg (by omega), List.getElem?_append, own_len]
  by_cases h : i < p.lines.length
  ·rw [if_pos h, if_pos (by omega)]
   simp [own, h]
  rw [if_neg h, if_neg (by omega)]
  by_cases h2 : i = p.lines.length
  ·subst h2; simp
  rw [if_neg (by omega), List.getElem?_eq_none (by simp; omega)]
theorem mem_edges {p : PartP} {e : Vtx × Vtx} : e ∈ edges p ↔ ∃ i, i <= p.lines.length /\ 0 < p.lines.length /\ e.1 = (if i = 0 then p.up else p.vtx (i - 1)) /\ e.2 = (if i < p.lines.length then p.vtx i else p.down) := by
 unfold edges
 by_cases h : p.lines.length = 0
 ·rw [if_pos h]
  constructor
  ·intro h; cases h
  rintro ⟨i, h1, h2, _⟩; omega
 rw [if_neg h, edgeL_mem]
 constructor
 ·rintro ⟨i, h1, h2⟩
  rw [way_get] at h1 h2
  have hi : i <= p.lines.length := by
   by_cases h3 : i <= p.lines.length
   ·exact h3
   rw [if_neg (by omega), if_neg (by omega), if_neg (by omega)] at h2
   cases h2
  refine ⟨i, hi, by omega, ?_, ?_⟩
  ·split at h1
   ·rename_i h0; rw [if_pos h0]; exact (Option.some.inj h1).symm
   rename_i h0; rw [if_neg h0]; exact (Option.some.inj h1).symm
  rw [if_neg (by omega)] at h2
  by_cases h3 : i < p.lines.length
  ·rw [if_pos h3]; rw [if_pos (by omega)] at h2; exact (Option.some.inj h2).symm
  rw [if_neg h3]; rw [if_neg (by omega), if_pos (by omega)] at h2; exact (Option.some.inj h2).symm
 rintro ⟨i, h1, h2, h3, h4⟩
 refine ⟨i, ?_, ?_⟩
 ·rw [way_get, h3]
  split <;> rfl
 rw [way_get, h4, if_neg (by omega)]
 by_cases h5 : i < p.lines.length
 ·rw [if_pos (by omega), if_pos h5]; rfl
 rw [if_neg (by omega), if_pos (by omega), if_neg h5]
theorem edge_src {p : PartP} {e : Vtx × Vtx} (h : e ∈ edges p) : e.1 = p.up ∨ e.1 ∈ own p := by
 obtain ⟨i, h1, h2, h3, h4⟩ := mem_edges.1 h
 by_cases h0 : i = 0
 ·rw [if_pos h0] at h3; exact .inl h3
 rw [if_neg h0] at h3; exact .inr (mem_own.2 ⟨i - 1, by omega, h3.symm⟩)
theorem edge_tgt {p : PartP} {e : Vtx × Vtx} (h : e ∈ edges p) : e.2 = p.down ∨ e.2 ∈ own p := by
 obtain ⟨i, h1, h2, h3, h4⟩ := mem_edges.1 h
 by_cases h0 : i < p.lines.length
 ·rw [if_pos h0] at h4; exact .inr (mem_own.2 ⟨i, h0, h4.symm⟩)
 rw [if_neg h0] at h4; exact .inl h4
theorem mem_allV {ps : List PartP} {v : Vtx} : v ∈ allV ps ↔ ∃ p ∈ ps, v ∈ own p := List.mem_flatMap
theorem mem_allE {ps : List PartP} {e : Vtx × Vtx} : e ∈ allE ps ↔ ∃ p ∈ ps, e ∈ edges p := List.mem_flatMap
structure New (ps : List PartP) (p : PartP) : Prop where
 name : ∀ q ∈ ps, q.name ≠ p.name
 own : ∀ v ∈ own p, v ∉ allV ps
 first : 0 <= p.first
 upE : p.up ≠ endV
 downR : p.down ≠ rootV
 gone0 : p.gone.Nodup
 goneR : ∀ v ∈ p.gone, v ≠ rootV /\ v ≠ endV
 up : HasV ps p.up
 down : HasV ps p.down
 gone : ∀ v ∈ p.gone, v ∈ allV ps
 bef : Bef ps p.up p.down
inductive Sq : List PartP -> Prop
 | nil : Sq []
 | cons {p : PartP} {ps : List PartP} (h : New ps p) (t : Sq ps) : Sq (p :: ps)
theorem own_ge {p : PartP} (h : 0 <= p.first) {v : Vtx} (hv : v ∈ own p) : 0 <= v.2 := by
 obtain ⟨i, _, rfl⟩ := mem_own.1 hv
 simp only [PartP.vtx]
 omega
theorem Sq.ge {ps : List PartP} (h : Sq ps) {v : Vtx} (hv : v ∈ allV ps) : 0 <= v.2 := by
 induction h with
 | nil => simp [allV] at hv
 | cons h t ih =>
  obtain ⟨q, hq, hv2⟩ := mem_allV.1 hv
  rcases List.mem_cons.1 hq with rfl | hq
  ·exact own_ge h.first hv2
  exact ih (mem_allV.2 ⟨q, hq, hv2⟩)
theorem ge_ne {v : Vtx} (h : 0 <= v.2) : v ≠ rootV /\ v ≠ endV := by
 constructor
 ·rintro rfl; revert h; decide
 rintro rfl; revert h; decide
theorem Sq.line {ps : List PartP} (h : Sq ps) {v : Vtx} (hv : v ∈ allV ps) : v ≠ rootV /\ v ≠ endV := ge_ne (h.ge hv)
theorem Sq.edge {ps : List PartP} (h : Sq ps) {e : Vtx × Vtx} (he : e ∈ allE ps) : (e.1 = rootV ∨ e.1 ∈ allV ps) /\ (e.2 = endV ∨ e.2 ∈ allV ps) := by
 induction h with
 | nil => simp [allE] at he
 | @cons p ps h t ih =>
  obtain ⟨q, hq, he2⟩ := mem_allE.1 he
  have up : ∀ v, v ∈ allV ps -> v ∈ allV (p :: ps) := fun v hv => by
   obtain ⟨r, hr, hv⟩ := mem_allV.1 hv
   exact mem_allV.2 ⟨r, List.mem_cons_of_mem _ hr, hv⟩
  rcases List.mem_cons.1 hq with rfl | hq
  ·constructor
   ·rcases edge_src he2 with h1 | h1
    ·rcases h.up with h2 | h2 | h2
     ·exact .inl (h1.trans h2)
     ·exact absurd h2 h.upE
     exact .inr (by rw [h1]; exact up _ h2)
    exact .inr (mem_allV.2 ⟨q, hq, h1⟩)
   rcases edge_tgt he2 with h1 | h1
   ·rcases h.down with h2 | h2 | h2
    ·exact absurd h2 h.downR
    ·exact .inl (h1.trans h2)
    exact .inr (by rw [h1]; exact up _ h2)
   exact .inr (mem_allV.2 ⟨q, hq, h1⟩)
  obtain ⟨i1, i2⟩ := ih (mem_allE.2 ⟨q, hq, he2⟩)
  exact ⟨i1.imp_right (up _), i2.imp_right (up _)⟩
theorem Sq.noEnd {ps : List PartP} (h : Sq ps) {b : Vtx} : ¬ Rch (allE ps) endV b := by
 intro hr
 obtain ⟨c, hc⟩ := hr.src
 rcases (h.edge hc).1 with h1 | h1
 ·exact root_ne_end h1.symm
 exact (h.line h1).2 rfl
theorem Sq.rank {ps : List PartP} (h : Sq ps) : ∃ r : Vtx -> Nat, (∀ e ∈ allE ps, r e.1 < r e.2) /\ (∀ v ∈ allV ps, r rootV < r v /\ r v < r endV) /\ r rootV < r endV := by
 induction h with
 | nil => exact ⟨fun v => if v = endV then 1 else 0, by simp [allE], by simp [allV], by decide⟩
 | @cons p ps h t ih =>
  obtain ⟨r, h1, h2, h3⟩ := ih
  have hb : r p.up < r p.down := by
   obtain ⟨b1, b2, b3, b4, b5, b6⟩ := h.bef
   rcases b6 with b6 | b6 | b6
   ·rw [b6]
    rcases b2 with b2 | b2 | b2
    ·exact absurd b2 b5
    ·rw [b2]; exact h3
    exact (h2 _ b2).1
   ·rw [b6]
    rcases b1 with b1 | b1 | b1
    ·rw [b1]; exact h3
    ·exact absurd b1 b4
    exact (h2 _ b1).2
   exact b6.rank r h1
  let K := p.lines.length + 1
  let r' : Vtx -> Nat := fun v => if v ∈ own p then K * r p.up + ((v.2 - p.first).toNat + 1) else K * r v
  have hown : ∀ i, i < p.lines.length -> r' (p.vtx i) = K * r p.up + (i + 1) := by
   intro i hi
   have : p.vtx i ∈ own p := mem_own.2 ⟨i, hi, rfl⟩
   show (if p.vtx i ∈ own p then K * r p.up + (((p.vtx i).2 - p.first).toNat + 1) else K * r (p.vtx i)) = _
   rw [if_pos this]
   simp only [PartP.vtx]
   omega
  have hold : ∀ v, v ∉ own p -> r' v = K * r v := fun v hv => by simp only [r', if_neg hv]
  have hvold : ∀ v, HasV ps v -> v ∉ own p := by
   intro v hv hm
   have := ge_ne (own_ge h.first hm)
   rcases hv with hv | hv | hv
   ·exact this.1 hv
   ·exact this.2 hv
   exact h.own v hm hv
  have hK : ∀ a b, a < b -> K * a + p.lines.length < K * b := by
   intro a b hab
   have : K * (a + 1) <= K * b := Nat.mul_le_mul_left _ hab
   rw [Nat.mul_add, Nat.mul_one] at this
   omega
  have hK0 : ∀ a b, a < b -> K * a < K * b := fun a b hab => by have := hK a b hab; omega
  have hr0 : rootV ∉ own p := hvold _ (.inl rfl)
  have he0 : endV ∉ own p := hvold _ (.inr (.inl rfl))
  refine ⟨r', ?_, ?_, ?_⟩
  ·intro e he
   obtain ⟨q, hq, he2⟩ := mem_allE.1 he
   rcases List.mem_cons.1 hq with rfl | hq
   ·obtain ⟨i, i1, i2, i3, i4⟩ := mem_edges.1 he2
    have s1 : r' e.1 = K * r q.up + i := by
     rw [i3]
     split
     ·rename_i h0; rw [hold _ (hvold _ h.up), h0]; rfl
     rename_i h0; rw [hown _ (by omega)]; omega
    have s2 : K * r q.up + i < r' e.2 := by
     rw [i4]
     split
     ·rename_i h0; rw [hown _ h0]; omega
     rw [hold _ (hvold _ h.down)]
     have := hK _ _ hb
     omega
    omega
   have he' : e ∈ allE ps := mem_allE.2 ⟨q, hq, he2⟩
   obtain ⟨e1, e2⟩ := t.edge he'
   rw [hold _ (hvold _ (e1.imp_right .inr)), hold _ (hvold _ (.inr e2))]
   exact hK0 _ _ (h1 e he')
  ·intro v hv
   rw [hold _ hr0, hold _ he0]
   obtain ⟨q, hq, hv2⟩ := mem_allV.1 hv
   rcases List.mem_cons.1 hq with rfl | hq
   ·obtain ⟨i, hi, rfl⟩ := mem_own.1 hv2
    rw [hown i hi]
    have hup : r rootV <= r q.up := by
     rcases h.up with h4 | h4 | h4
     ·rw [h4]; exact Nat.le_refl _
     ·exact absurd h4 h.upE
     exact Nat.le_of_lt (h2 _ h4).1
    have hdn : r q.down <= r endV := by
     rcases h.down with h4 | h4 | h4
     ·exact absurd h4 h.downR
     ·rw [h4]; exact Nat.le_refl _
     exact Nat.le_of_lt (h2 _ h4).2
    have a1 : K * r rootV <= K * r q.up := Nat.mul_le_mul_left _ hup
    have a2 := hK _ _ (Nat.lt_of_lt_of_le hb hdn)
    omega
   have hv' : v ∈ allV ps := mem_allV.2 ⟨q, hq, hv2⟩
   rw [hold _ (hvold _ (.inr (.inr hv')))]
   exact ⟨hK0 _ _ (h2 v hv').1, hK0 _ _ (h2 v hv').2⟩
  rw [hold _ hr0, hold _ he0]
  exact hK0 _ _ h3
theorem Sq.irrefl {ps : List PartP} (h : Sq ps) {v : Vtx} : ¬ Rch (allE ps) v v := by
 intro hr
 obtain ⟨r, h1, _⟩ := h.rank
 have := hr.rank r h1
 omega
theorem HasV.mono {ps qs : List PartP} {v : Vtx} (h : HasV ps v) (hs : ∀ p ∈ ps, p ∈ qs) : HasV qs v := by
 rcases h with h | h | h
 ·exact .inl h
 ·exact .inr (.inl h)
 obtain ⟨p, hp, hv⟩ := mem_allV.1 h
 exact .inr (.inr (mem_allV.2 ⟨p, hs p hp, hv⟩))
theorem allE_mono {ps qs : List PartP} (hs : ∀ p ∈ ps, p ∈ qs) : ∀ e ∈ allE ps, e ∈ allE qs := fun e he => by
 obtain ⟨p, hp, he⟩ := mem_allE.1 he
 exact mem_allE.2 ⟨p, hs p hp, he⟩
theorem Bef.mono {ps qs : List PartP} {a b : Vtx} (h : Bef ps a b) (hs : ∀ p ∈ ps, p ∈ qs) : Bef qs a b :=
 ⟨h.1.mono hs, h.2.1.mono hs, h.2.2.1, h.2.2.2.1, h.2.2.2.2.1, h.2.2.2.2.2.imp_right fun h => h.imp_right fun h => h.mono (allE_mono hs)⟩
theorem New.fresh {ps : List PartP} {p : PartP} (h : New ps p) (t : Sq ps) : (∀ v ∈ GP.own p, ∀ e ∈ allE ps, e.1 ≠ v /\ e.2 ≠ v) /\ (∀ v, HasV ps v -> v ∉ GP.own p) := by
 have hvold : ∀ v, HasV ps v -> v ∉ GP.own p := by
  intro v hv hm
  have := ge_ne (own_ge h.first hm)
  rcases hv with hv | hv | hv
  ·exact this.1 hv
  ·exact this.2 hv
  exact h.own v hm hv
 refine ⟨fun v hv e he => ⟨?_, ?_⟩, hvold⟩
 ·rintro rfl; exact hvold _ ((t.edge he).1.imp_right .inr) hv
 rintro rfl; exact hvold _ (.inr (t.edge he).2) hv
theorem New.names_has {ps : List PartP} {p : PartP} (h : New ps p) {v : Vtx} (hv : v ∈ names p) : HasV ps v := by
 unfold names at hv
 rcases List.mem_cons.1 hv with rfl | hv
 ·exact h.up
 rcases List.mem_cons.1 hv with rfl | hv
 ·exact h.down
 exact .inr (.inr (h.gone v hv))
theorem Sq.names_has {ps : List PartP} (h : Sq ps) {q : PartP} (hq : q ∈ ps) {v : Vtx} (hv : v ∈ names q) : HasV ps v := by
 induction h with
 | nil => cases hq
 | @cons p ps h t ih =>
  rcases List.mem_cons.1 hq with rfl | hq
  ·exact (h.names_has hv).mono fun r hr => List.mem_cons_of_mem _ hr
  exact (ih hq).mono fun r hr => List.mem_cons_of_mem _ hr
theorem Sq.gone_has {ps : List PartP} (h : Sq ps) {q : PartP} (hq : q ∈ ps) {v : Vtx} (hv : v ∈ q.gone) : HasV ps v := h.names_has hq (List.mem_cons_of_mem _ (List.mem_cons_of_mem _ hv))
theorem Bef.trans {ps : List PartP} (hs : Sq ps) {a b c : Vtx} (h : Bef ps a b) (k : Bef ps b c) : Bef ps a c := by
 obtain ⟨a1, a2, a3, a4, a5, a6⟩ := h
 obtain ⟨b1, b2, b3, b4, b5, b6⟩ := k
 have hbr : b ≠ rootV := a5
 have hbe : b ≠ endV := b4
 have h6 := b6.resolve_left hbr
 by_cases har : a = rootV
 ·exact ⟨a1, b2, by rw [har]; exact fun e => b5 e.symm, a4, b5, .inl har⟩
 by_cases hce : c = endV
 ·exact ⟨a1, b2, by rw [hce]; exact a4, a4, b5, .inr (.inl hce)⟩
 have r1 := (a6.resolve_left har).resolve_left hbe
 have r2 := h6.resolve_left hce
 have r3 := r1.trans r2
 exact ⟨a1, b2, fun e => hs.irrefl (e ▸ r3), a4, b5, .inr (.inr r3)⟩
end Go.GP

namespace Go.GP
open Go.SL
structure NodeP where
 text : ByteArray
 gone : Int
 named : Int
 next : List Vtx
def zN : NodeP := ⟨⟨#[]⟩, 0, 0, []⟩
instance : Inhabited NodeP := ⟨zN⟩
structure Gr where
 parts : List ((HashB × Int) × PartP)
 nodes : List (Vtx × NodeP)
 first : List Vtx
def nd (N : List (Vtx × NodeP)) (v : Vtx) : NodeP := (mgt N v).getD zN
def behindG (G : Gr) (v : Vtx) : List Vtx := if v = rootV then G.first else (nd G.nodes v).next
def linkG (there : Bool) (G : Gr) (e : Vtx × Vtx) : Gr :=
 if e.1 = rootV then { G with first := if there then behindG G e.1 ++ [e.2] else (behindG G e.1).erase e.2 }
 else { G with nodes := mpt G.nodes e.1 { nd G.nodes e.1 with next := if there then behindG G e.1 ++ [e.2] else (behindG G e.1).erase e.2 } }
def linksG (there : Bool) (G : Gr) (es : List (Vtx × Vtx)) : Gr := es.foldl (linkG there) G
def name1 (d : Int) (N : List (Vtx × NodeP)) (v : Vtx) : List (Vtx × NodeP) := match mgt N v with | some n => mpt N v { n with named := n.named + d } | none => N
def gone1 (d : Int) (N : List (Vtx × NodeP)) (v : Vtx) : List (Vtx × NodeP) := mpt N v { nd N v with gone := (nd N v).gone + d }
def countG (d : Int) (N : List (Vtx × NodeP)) (p : PartP) : List (Vtx × NodeP) := p.gone.foldl (gone1 d) ((names p).foldl (name1 d) N)
def laidN (N : List (Vtx × NodeP)) (p : PartP) (k : Nat) : List (Vtx × NodeP) := (List.range k).foldl (fun N i => mpt N (p.vtx i) ⟨p.lines[i]!, 0, 0, []⟩) N
def addG (G : Gr) (p : PartP) : Gr :=
 let G1 := linksG true { parts := mpt G.parts p.name p, nodes := laidN G.nodes p p.lines.length, first := G.first } (edges p)
 { G1 with nodes := countG 1 G1.nodes p }
def HasG (G : Gr) (v : Vtx) : Prop := v = rootV ∨ v = endV ∨ v ∈ mks G.nodes
def EG (N : List (Vtx × NodeP)) : List (Vtx × Vtx) := N.flatMap fun p => p.2.next.map fun w => (p.1, w)
def BefG (G : Gr) (a b : Vtx) : Prop := HasG G a /\ HasG G b /\ a ≠ b /\ a ≠ endV /\ b ≠ rootV /\ (a = rootV ∨ b = endV ∨ Rch (EG G.nodes) a b)
def ThereG (G : Gr) (p : PartP) : Prop := p.name ∈ mks G.parts ∨ ∃ v ∈ own p, v ∈ mks G.nodes
structure Formed (p : PartP) : Prop where
 gone0 : p.gone.Nodup
 goneR : ∀ v ∈ p.gone, v ≠ rootV /\ v ≠ endV
 first : 0 <= p.first
 upE : p.up ≠ endV
 downR : p.down ≠ rootV
def outE (ps : List PartP) (v : Vtx) : List Vtx := ((allE ps).filter fun e => decide (e.1 = v)).map (·.2)
def cntV (v : Vtx) (l : List Vtx) : Int := (l.count v : Nat)
structure NodeOk (ps : List PartP) (v : Vtx) (n : NodeP) : Prop where
 gone : n.gone = cntV v (ps.flatMap (·.gone))
 named : n.named = cntV v (ps.flatMap names)
 next : n.next.Perm (outE ps v)
structure Inv (ps : List PartP) (G : Gr) : Prop where
 pk : (mks G.parts).Nodup
 part : ∀ q, (q.name, q) ∈ G.parts ↔ q ∈ ps
 pname : ∀ q ∈ G.parts, q.1 = q.2.name
 nk : (mks G.nodes).Nodup
 keys : ∀ v, v ∈ mks G.nodes ↔ v ∈ allV ps
 node : ∀ v n, mgt G.nodes v = some n -> NodeOk ps v n
 text : ∀ p ∈ ps, ∀ i s, p.lines[i]? = some s -> (nd G.nodes (p.vtx i)).text = s
 first : G.first.Perm (outE ps rootV)
theorem Inv.nil : Inv [] ⟨[], [], []⟩ := ⟨by simp [mks], by simp, by simp, by simp [mks], by simp [mks, allV], by simp [mgt_nil], by simp, by simp [outE, allE]⟩
theorem mks_mpt_mem {α β : Type} [DecidableEq α] (l : List (α × β)) (a c : α) (b : β) : c ∈ mks (mpt l a b) ↔ c = a ∨ c ∈ mks l := by
 rw [mks_mpt]
 split
 ·rename_i h
  constructor
  ·exact .inr
  rintro (rfl | h2)
  ·exact h
  exact h2
 simp; exact or_comm
theorem mem_mks {α β : Type} [DecidableEq α] {l : List (α × β)} {a : α} : a ∈ mks l ↔ ∃ b, mgt l a = some b := by
 constructor
 ·intro h
  cases e : mgt l a with
  | none => exact absurd h (mgt_none.1 e)
  | some b => exact ⟨b, rfl⟩
 rintro ⟨b, h⟩
 exact List.mem_map.2 ⟨_, mgt_some_mem h, rfl⟩
theorem nd_some {N : List (Vtx × NodeP)} {v : Vtx} (h : v ∈ mks N) : mgt N v = some (nd N v) := by
 obtain ⟨b, hb⟩ := mem_mks.1 h
 unfold nd
 rw [hb]; rfl
theorem nd_mpt (N : List (Vtx × NodeP)) (a c : Vtx) (n : NodeP) : nd (mpt N a n) c = if c = a then n else nd N c := by
 unfold nd
 rw [mgt_mpt]
 split <;> rfl
theorem laidN_spec {N : List (Vtx × NodeP)} {p : PartP} : ∀ k, k <= p.lines.length -> (∀ v, v ∈ mks (laidN N p k) ↔ v ∈ mks N ∨ ∃ i, i < k /\ p.vtx i = v) /\ ((mks N).Nodup -> (mks (laidN N p k)).Nodup) /\
  (∀ v, (∀ i, i < k -> p.vtx i ≠ v) -> nd (laidN N p k) v = nd N v) /\ ∀ i, i < k -> nd (laidN N p k) (p.vtx i) = ⟨p.lines[i]!, 0, 0, []⟩
 | 0, _ => by simp [laidN]
 | k + 1, h => by
  obtain ⟨h1, h2, h3, h4⟩ := laidN_spec (N := N) (p := p) k (by omega)
  have e : laidN N p (k + 1) = mpt (laidN N p k) (p.vtx k) ⟨p.lines[k]!, 0, 0, []⟩ := by
   unfold laidN
   rw [List.range_succ, List.foldl_append]
   rfl
  rw [e]
  refine ⟨fun v => ?_, fun hn => mpt_nodup (h2 hn) _ _, fun v hv => ?_, fun i hi => ?_⟩
  ·rw [mks_mpt_mem, h1]
   constructor
   ·rintro (rfl | h | ⟨i, hi, rfl⟩)
    ·exact .inr ⟨k, by omega, rfl⟩
    ·exact .inl h
    exact .inr ⟨i, by omega, rfl⟩
   rintro (h | ⟨i, hi, rfl⟩)
   ·exact .inr (.inl h)
   by_cases hk : i = k
   ·subst hk; exact .inl rfl
   exact .inr (.inr ⟨i, by omega, rfl⟩)
  ·rw [nd_mpt, if_neg (fun e => hv k (by omega) e.symm)]
   exact h3 v fun i hi => hv i (by omega)
  rw [nd_mpt]
  by_cases hk : i = k
  ·subst hk; rw [if_pos rfl]
  rw [if_neg (fun e => hk (vtx_inj e))]
  exact h4 i (by omega)
theorem name1_spec (d : Int) (N : List (Vtx × NodeP)) (v : Vtx) : mks (name1 d N v) = mks N /\ ∀ c, nd (name1 d N v) c = if c = v /\ c ∈ mks N then { nd N c with named := (nd N c).named + d } else nd N c := by
 unfold name1
 cases e : mgt N v with
 | none =>
  refine ⟨rfl, fun c => ?_⟩
  have := mgt_none.1 e
  by_cases hc : c = v /\ c ∈ mks N
  ·exact absurd (hc.1 ▸ hc.2) this
  rw [if_neg hc]
 | some n =>
  have hm : v ∈ mks N := mem_mks.2 ⟨n, e⟩
  have hn : nd N v = n := by unfold nd; rw [e]; rfl
  refine ⟨by simp only; rw [mks_mpt, if_pos hm], fun c => ?_⟩
  simp only
  rw [nd_mpt]
  by_cases hc : c = v
  ·subst hc
   rw [if_pos rfl, if_pos ⟨rfl, hm⟩, hn]
  rw [if_neg hc, if_neg (fun h => hc h.1)]
theorem cntV_cons (v a : Vtx) (l : List Vtx) : cntV v (a :: l) = cntV v l + if a = v then 1 else 0 := by
 unfold cntV
 rw [List.count_cons]
 by_cases h : a = v
 ·simp [h]
 simp [h]
theorem cntV_app (v : Vtx) (a b : List Vtx) : cntV v (a ++ b) = cntV v a + cntV v b := by
 unfold cntV
 rw [List.count_append]
 omega
theorem names_spec (d : Int) : ∀ (l : List Vtx) (N : List (Vtx × NodeP)), mks (l.foldl (name1 d) N) = mks N /\ ∀ c ∈ mks N, nd (l.foldl (name1 d) N) c = { nd N c with named := (nd N c).named + d * cntV c l }
 | [], N => by simp [cntV]
 | a :: l, N => by
  obtain ⟨h1, h2⟩ := name1_spec d N a
  obtain ⟨i1, i2⟩ := names_spec d l (name1 d N a)
  simp only [List.foldl_cons]
  refine ⟨i1.trans h1, fun c hc => ?_⟩
  rw [i2 c (by rw [h1]; exact hc), h2, cntV_cons]
  by_cases hca : c = a
  ·subst hca
   rw [if_pos ⟨rfl, hc⟩, if_pos rfl]
   simp only [NodeP.mk.injEq, true_and, and_true]
   rw [Int.mul_add]; omega
  rw [if_neg (fun h => hca h.1), if_neg (fun h => hca h.symm)]
  simp
theorem gone1_spec (d : Int) (N : List (Vtx × NodeP)) (v : Vtx) : (∀ c, c ∈ mks (gone1 d N v) ↔ c = v ∨ c ∈ mks N) /\ ((mks N).Nodup -> (mks (gone1 d N v)).Nodup) /\ ∀ c, nd (gone1 d N v) c = if c = v then { nd N c with gone := (nd N c).gone + d } else nd N c := by
 unfold gone1
 refine ⟨fun c => mks_mpt_mem _ _ _ _, fun h => mpt_nodup h _ _, fun c => ?_⟩
 rw [nd_mpt]
 split
 ·rename_i h; subst h; rfl
 rfl
theorem gones_spec (d : Int) : ∀ (l : List Vtx) (N : List (Vtx × NodeP)), (∀ v ∈ l, v ∈ mks N) -> (∀ c, c ∈ mks (l.foldl (gone1 d) N) ↔ c ∈ mks N) /\ ((mks N).Nodup -> (mks (l.foldl (gone1 d) N)).Nodup) /\
  ∀ c, nd (l.foldl (gone1 d) N) c = { nd N c with gone := (nd N c).gone + d * cntV c l }
 | [], N, _ => by simp [cntV]
 | a :: l, N, h => by
  obtain ⟨h1, h2, h3⟩ := gone1_spec d N a
  have ha := h a (by simp)
  obtain ⟨i1, i2, i3⟩ := gones_spec d l (gone1 d N a) (fun v hv => (h1 v).2 (.inr (h v (by simp [hv]))))
  simp only [List.foldl_cons]
  refine ⟨fun c => ?_, fun hn => i2 (h2 hn), fun c => ?_⟩
  ·rw [i1, h1]
   constructor
   ·rintro (rfl | h)
    ·exact ha
    exact h
   exact .inr
  rw [i3, h3, cntV_cons]
  by_cases hca : c = a
  ·subst hca
   rw [if_pos rfl, if_pos rfl]
   simp only [NodeP.mk.injEq, true_and, and_true]
   rw [Int.mul_add]; omega
  rw [if_neg hca, if_neg (fun h => hca h.symm)]
  simp
theorem countG_spec {d : Int} {N : List (Vtx × NodeP)} {p : PartP} (hg : ∀ v ∈ p.gone, v ∈ mks N) : (∀ c, c ∈ mks (countG d N p) ↔ c ∈ mks N) /\ ((mks N).Nodup -> (mks (countG d N p)).Nodup) /\
  ∀ c ∈ mks N, nd (countG d N p) c = ⟨(nd N c).text, (nd N c).gone + d * cntV c p.gone, (nd N c).named + d * cntV c (names p), (nd N c).next⟩ := by
 obtain ⟨h1, h2⟩ := names_spec d (names p) N
 obtain ⟨i1, i2, i3⟩ := gones_spec d p.gone ((names p).foldl (name1 d) N) (fun v hv => by rw [h1]; exact hg v hv)
 unfold countG
 refine ⟨fun c => by rw [i1, h1], fun hn => i2 (by rw [h1]; exact hn), fun c hc => ?_⟩
 rw [i3, h2 c hc]
def outL (es : List (Vtx × Vtx)) (v : Vtx) : List Vtx := (es.filter fun e => decide (e.1 = v)).map (·.2)
theorem outL_cons (e : Vtx × Vtx) (es : List (Vtx × Vtx)) (v : Vtx) : outL (e :: es) v = (if e.1 = v then [e.2] else []) ++ outL es v := by
 unfold outL
 rw [List.filter_cons]
 by_cases h : e.1 = v <;> simp [h]
def undo (there : Bool) (l es : List Vtx) : List Vtx := es.foldl (fun l w => if there then l ++ [w] else l.erase w) l
theorem linkG_spec (there : Bool) (G : Gr) (e : Vtx × Vtx) (he : e.1 = rootV ∨ e.1 ∈ mks G.nodes) (hr : rootV ∉ mks G.nodes) : (linkG there G e).parts = G.parts /\ mks (linkG there G e).nodes = mks G.nodes /\
  (∀ c ∈ mks G.nodes, nd (linkG there G e).nodes c = { nd G.nodes c with next := undo there (nd G.nodes c).next (outL [e] c) }) /\ (linkG there G e).first = undo there G.first (outL [e] rootV) := by
 unfold linkG
 by_cases h : e.1 = rootV
 ·rw [if_pos h]
  refine ⟨rfl, rfl, fun c hc => ?_, ?_⟩
  ·have : e.1 ≠ c := fun e2 => hr (by rw [<- h, e2]; exact hc)
   rw [outL_cons, if_neg this]
   simp [outL, undo]
  rw [outL_cons, if_pos h]
  simp [outL, undo, behindG, h]
 have hm := he.resolve_left h
 rw [if_neg h]
 refine ⟨rfl, ?_, fun c hc => ?_, ?_⟩
 ·rw [mks_mpt, if_pos hm]
 ·rw [nd_mpt, outL_cons]
  by_cases hc2 : c = e.1
  ·subst hc2
   rw [if_pos rfl, if_pos rfl]
   simp [outL, undo, behindG, h]
  rw [if_neg hc2, if_neg (fun e => hc2 e.symm)]
  simp [outL, undo]
 rw [outL_cons, if_neg h]
 simp [outL, undo]
theorem undo_app (there : Bool) (l a b : List Vtx) : undo there l (a ++ b) = undo there (undo there l a) b := by unfold undo; rw [List.foldl_append]
theorem linksG_spec (there : Bool) : ∀ (es : List (Vtx × Vtx)) (G : Gr), (∀ e ∈ es, e.1 = rootV ∨ e.1 ∈ mks G.nodes) -> rootV ∉ mks G.nodes -> (linksG there G es).parts = G.parts /\ mks (linksG there G es).nodes = mks G.nodes /\
  (∀ c ∈ mks G.nodes, nd (linksG there G es).nodes c = { nd G.nodes c with next := undo there (nd G.nodes c).next (outL es c) }) /\ (linksG there G es).first = undo there G.first (outL es rootV)
 | [], G, _, _ => by simp [linksG, outL, undo]
 | e :: es, G, h, hr => by
  obtain ⟨h1, h2, h3, h4⟩ := linkG_spec there G e (h e (by simp)) hr
  obtain ⟨i1, i2, i3, i4⟩ := linksG_spec there es (linkG there G e) (fun x hx => by rw [h2]; exact h x (by simp [hx])) (by rw [h2]; exact hr)
  have hun : linksG there G (e :: es) = linksG there (linkG there G e) es := rfl
  rw [hun]
  have hout : ∀ v, outL (e :: es) v = outL [e] v ++ outL es v := fun v => by rw [outL_cons, outL_cons]; simp [outL]
  refine ⟨i1.trans h1, i2.trans h2, fun c hc => ?_, ?_⟩
  ·rw [i3 c (by rw [h2]; exact hc), h3 c hc, hout, undo_app]
  rw [i4, h4, hout, undo_app]
theorem undo_true (l a : List Vtx) : undo true l a = l ++ a := by
 induction a generalizing l with
 | nil => simp [undo]
 | cons x a ih =>
  have : undo true l (x :: a) = undo true (l ++ [x]) a := rfl
  rw [this, ih]; simp
theorem outE_cons (p : PartP) (ps : List PartP) (v : Vtx) : outE (p :: ps) v = outL (edges p) v ++ outE ps v := by
 unfold outE outL allE
 rw [List.flatMap_cons, List.filter_append, List.map_append]
theorem allV_cons (p : PartP) (ps : List PartP) : allV (p :: ps) = own p ++ allV ps := by unfold allV; rw [List.flatMap_cons]
theorem outL_nil {es : List (Vtx × Vtx)} {v : Vtx} (h : ∀ e ∈ es, e.1 ≠ v) : outL es v = [] := by
 unfold outL
 rw [List.filter_eq_nil_iff.2 (fun e he => by simpa using h e he)]
 rfl
theorem cntV_zero {v : Vtx} {l : List Vtx} (h : v ∉ l) : cntV v l = 0 := by
 unfold cntV
 rw [List.count_eq_zero.2 h]; rfl
theorem Inv.root {ps : List PartP} {G : Gr} (h : Inv ps G) (hs : Sq ps) : rootV ∉ mks G.nodes := fun hm => (hs.line ((h.keys _).1 hm)).1 rfl
theorem Inv.add {ps : List PartP} {G : Gr} {p : PartP} (h : Inv ps G) (hs : Sq ps) (hn : New ps p) : Inv (p :: ps) (addG G p) := by
 have hs' : Sq (p :: ps) := .cons hn hs
 obtain ⟨l1, l2, l3, l4⟩ := laidN_spec (N := G.nodes) (p := p) p.lines.length (Nat.le_refl _)
 have hkeys1 : ∀ v, v ∈ mks (laidN G.nodes p p.lines.length) ↔ v ∈ allV (p :: ps) := fun v => by
  rw [l1, allV_cons, List.mem_append, h.keys, mem_own]; exact or_comm
 generalize hN : laidN G.nodes p p.lines.length = N1 at *
 have hroot1 : rootV ∉ mks N1 := fun hm => (hs'.line ((hkeys1 _).1 hm)).1 rfl
 have hsrc : ∀ e ∈ edges p, e.1 = rootV ∨ e.1 ∈ mks N1 := fun e he => by
  rcases (hs'.edge (mem_allE.2 ⟨p, by simp, he⟩)).1 with h1 | h1
  ·exact .inl h1
  exact .inr ((hkeys1 _).2 h1)
 obtain ⟨k1, k2, k3, k4⟩ := linksG_spec true (edges p) { parts := mpt G.parts p.name p, nodes := N1, first := G.first } hsrc hroot1
 have hgo : ∀ v ∈ p.gone, v ∈ mks (linksG true { parts := mpt G.parts p.name p, nodes := N1, first := G.first } (edges p)).nodes := fun v hv => by
  rw [k2]; exact (hkeys1 v).2 (by rw [allV_cons]; exact List.mem_append_right _ (hn.gone v hv))
 obtain ⟨c1, c2, c3⟩ := countG_spec (d := 1) hgo
 have hA : addG G p = { parts := (linksG true { parts := mpt G.parts p.name p, nodes := N1, first := G.first } (edges p)).parts, nodes := countG 1 (linksG true { parts := mpt G.parts p.name p, nodes := N1, first := G.first } (edges p)).nodes p, first := (linksG true { parts := mpt G.parts p.name p, nodes := N1, first := G.first } (edges p)).first } := by
  unfold addG
  rw [hN]
 rw [hA]
 have hnew : p.name ∉ mks G.parts := fun hm => by
  obtain ⟨q, hq⟩ := mem_mks.1 hm
  have hq' := mgt_some_mem hq
  have hnm := h.pname _ hq'
  simp only at hnm
  exact hn.name q ((h.part q).1 (by rw [<- hnm]; exact hq')) hnm.symm
 obtain ⟨f1, f2⟩ := hn.fresh hs
 refine ⟨?_, ?_, ?_, ?_, ?_, ?_, ?_, ?_⟩
 ·simp only; rw [k1]; exact mpt_nodup h.pk _ _
 ·intro q
  simp only; rw [k1]
  simp only
  rw [mpt_new (a := p.name) (fun b hb => hnew (List.mem_map.2 ⟨_, hb, rfl⟩)), List.mem_append, h.part, List.mem_singleton, List.mem_cons]
  constructor
  ·rintro (h1 | h1)
   ·exact .inr h1
   exact .inl (Prod.mk.inj h1).2
  rintro (rfl | h1)
  ·exact .inr rfl
  exact .inl h1
 ·intro q
  simp only; rw [k1]
  simp only
  rw [mpt_new (a := p.name) (fun b hb => hnew (List.mem_map.2 ⟨_, hb, rfl⟩)), List.mem_append, List.mem_singleton]
  rintro (h1 | rfl)
  ·exact h.pname q h1
  rfl
 ·simp only; exact c2 (by rw [k2]; exact l2 h.nk)
 ·intro v; simp only; rw [c1, k2, hkeys1]
 ·intro v n hv
  simp only at hv
  have hm0 := mem_mks.2 ⟨n, hv⟩
  have hm1 : v ∈ mks N1 := by rw [c1, k2] at hm0; exact hm0
  have hm2 : v ∈ mks (linksG true { parts := mpt G.parts p.name p, nodes := N1, first := G.first } (edges p)).nodes := by rw [k2]; exact hm1
  have hnd := nd_some hm0
  rw [hv] at hnd
  obtain rfl := Option.some.inj hnd
  rw [c3 v hm2, k3 v hm1, undo_true]
  simp only
  by_cases hown : v ∈ own p
  ·obtain ⟨i, hi, rfl⟩ := mem_own.1 hown
   rw [l4 i hi]
   simp only
   have hnv : p.vtx i ∉ allV ps := hn.own _ hown
   refine ⟨?_, ?_, ?_⟩
   ·rw [List.flatMap_cons, cntV_app]
    rw [cntV_zero (v := p.vtx i) (l := p.gone) (fun hm => hnv (hn.gone _ hm)), cntV_zero (v := p.vtx i) (l := ps.flatMap (·.gone)) (fun hm => ?_)]
    ·simp
    obtain ⟨q, hq, hm⟩ := List.mem_flatMap.1 hm
    exact (f2 _ (Sq.gone_has hs hq hm)) hown
   ·rw [List.flatMap_cons, cntV_app]
    have a1 : cntV (p.vtx i) (names p) = 0 := cntV_zero fun hm => f2 _ (New.names_has hn hm) hown
    have a2 : cntV (p.vtx i) (ps.flatMap names) = 0 := cntV_zero fun hm => by
     obtain ⟨q, hq, hm⟩ := List.mem_flatMap.1 hm
     exact f2 _ (Sq.names_has hs hq hm) hown
    simp only [a1, a2]
    simp
   rw [outE_cons]
   have : outE ps (p.vtx i) = [] := outL_nil fun e he => (f1 _ hown e he).1
   rw [this, List.append_nil, List.nil_append]
  have hold : v ∈ mks G.nodes := by
   rw [l1] at hm1
   rcases hm1 with h1 | ⟨i, hi, rfl⟩
   ·exact h1
   exact absurd (mem_own.2 ⟨i, hi, rfl⟩) hown
  rw [l3 v (fun i hi e => hown (mem_own.2 ⟨i, hi, e⟩))]
  obtain ⟨o1, o2, o3⟩ := h.node v _ (nd_some hold)
  refine ⟨?_, ?_, ?_⟩
  ·rw [List.flatMap_cons, cntV_app, o1]; simp only; omega
  ·rw [List.flatMap_cons, cntV_app, o2]; simp only; omega
  rw [outE_cons]
  exact (List.Perm.append_right _ o3).trans List.perm_append_comm
 ·intro q hq i s hi
  simp only
  have hil : i < q.lines.length := (List.getElem?_eq_some_iff.1 hi).1
  have hm1 : q.vtx i ∈ mks N1 := (hkeys1 _).2 (mem_allV.2 ⟨q, hq, mem_own.2 ⟨i, hil, rfl⟩⟩)
  rw [c3 _ (by rw [k2]; exact hm1), k3 _ hm1]
  simp only
  rcases List.mem_cons.1 hq with rfl | hq
  ·rw [l4 i hil]
   simp only
   rw [getElem!_pos q.lines i hil]
   have := (List.getElem?_eq_some_iff.1 hi).2
   exact this
  have : q.vtx i ∈ allV ps := mem_allV.2 ⟨q, hq, mem_own.2 ⟨i, hil, rfl⟩⟩
  rw [l3 _ (fun j hj e => hn.own _ (mem_own.2 ⟨j, hj, e⟩) this)]
  exact h.text q hq i s hi
 simp only
 rw [k4, undo_true, outE_cons]
 exact (List.Perm.append_right _ h.first).trans List.perm_append_comm
end Go.GP

namespace Go.Proofs.Gr
open Go.SL Go.RowKit Go.Proofs Go.GP
set_option maxHeartbeats 1000000
def vtxL (v : Vtx) : List Value := bytesC v.1.1 ++ [.int .i64 v.2]
def vtxV (v : Vtx) : Value := .agg (vtxL v).toArray
def vtxs (l : List Vtx) : List Value := l.flatMap vtxL
def okV (v : Vtx) : Prop := -9223372036854775808 <= v.2 /\ v.2 <= 9223372036854775807
def v0 : Vtx := (h0, 0)
def z33 : List Value := List.replicate 32 (.int .u8 0) ++ [.int .i64 0]
theorem hb_len (h : HashB) : (bytesC h.1).length = 32 := by rw [bytesC_length]; exact h.2
theorem vtxL_len (v : Vtx) : (vtxL v).length = 33 := by simp [vtxL, hb_len]
theorem vtxs_len (l : List Vtx) : (vtxs l).length = l.length * 33 := by unfold vtxs; rw [List.length_flatMap]; simp [vtxL_len, List.map_const']
theorem vtxs_app (a b : List Vtx) : vtxs (a ++ b) = vtxs a ++ vtxs b := by unfold vtxs; rw [List.flatMap_append]
theorem vtxs_cons (a : Vtx) (b : List Vtx) : vtxs (a :: b) = vtxL a ++ vtxs b := rfl
theorem vtxs_one1 (a : Vtx) : vtxs [a] = vtxL a := by simp [vtxs]
theorem vtxL_one (v : Vtx) : (vtxL v).all (·.oneCell') = true := by rw [vtxL, List.all_append, bytesC_all]; rfl
theorem vtxs_one (l : List Vtx) : (vtxs l).all (·.oneCell') = true := by
 rw [List.all_eq_true]
 intro v hv
 obtain ⟨a, _, h⟩ := List.mem_flatMap.1 hv
 exact List.all_eq_true.1 (vtxL_one a) v h
theorem flat_get {α : Type} [Inhabited α] {enc : α -> List Value} {k : Nat} (hk : ∀ x, (enc x).length = k) : ∀ (l : List α) (t : Nat), t < l.length * k -> (l.flatMap enc)[t]? = (enc l[t / k]!)[t % k]?
 | [], t, h => by simp at h
 | x :: l, t, h => by
  have h' : t < l.length * k + k := by simpa [Nat.add_mul] using h
  have k0 : 0 < k := by exact Nat.pos_of_ne_zero fun e => by subst e; simp at h
  rw [List.flatMap_cons]
  rcases Nat.lt_or_ge t k with a | a
  ·rw [List.getElem?_append_left (by rw [hk]; exact a), Nat.div_eq_of_lt a, Nat.mod_eq_of_lt a]; simp
  obtain ⟨u, rfl⟩ : ∃ u, t = u + k := ⟨t - k, by omega⟩
  rw [List.getElem?_append_right (by rw [hk]; omega), hk, Nat.add_sub_cancel, flat_get hk l u (by omega), Nat.add_div_right _ k0, Nat.add_mod_right]
  simp
theorem vtxs_get {l : List Vtx} {k : Nat} (hk : k < l.length) {j : Nat} (hj : j < 33) : (vtxs l)[k * 33 + j]? = (vtxL l[k])[j]? := by
 unfold vtxs
 rw [flat_get vtxL_len l (k * 33 + j) (by omega), show (k * 33 + j) / 33 = k from by omega, show (k * 33 + j) % 33 = j from by omega, getElem!_pos l k hk]
theorem vtxs_some {w0 : World} {S : SS} {A : Option Addr} {l : List Vtx} (h : Rd w0 S A (vtxs l)) (hk : 0 < l.length) : ∃ a, A = some a :=
 h.some (fun e => by have := vtxs_len l; rw [e] at this; simp at this; omega)
theorem vtx_at {w0 : World} {S : SS} {a : Addr} {l : List Vtx} (h : Rd w0 S (some a) (vtxs l)) {k : Nat} (hk : k < l.length) :
  ∀ (j : Nat) (v : Value), (vtxL l[k])[j]? = some v -> Cell w0 S ((a.add (k * 33)).add j) v := by
 intro j v hj
 have hj2 : j < 33 := by have := (List.getElem?_eq_some_iff.1 hj).1; rwa [vtxL_len] at this
 rw [addr_add_add]
 exact h.at (by rw [vtxs_get hk hj2]; exact hj)
theorem bytesC_inj : ∀ {a b : List UInt8}, bytesC a = bytesC b -> a = b
 | [], [], _ => rfl
 | [], _ :: _, h => by simp [bytesC] at h
 | _ :: _, [], h => by simp [bytesC] at h
 | a :: l, b :: r, h => by
  simp only [bytesC, List.map_cons, List.cons.injEq, Value.int.injEq, true_and] at h
  obtain ⟨h1, h2⟩ := h
  have h3 : a = b := UInt8.toNat_inj.1 (by omega)
  rw [h3, bytesC_inj h2]
theorem vtxL_inj {a b : Vtx} (h : vtxL a = vtxL b) : a = b := by
 unfold vtxL at h
 obtain ⟨h1, h2⟩ := List.append_inj h (by rw [hb_len, hb_len])
 simp only [List.cons.injEq, Value.int.injEq, true_and, and_true] at h2
 exact Prod.ext (Subtype.ext (bytesC_inj h1)) h2
theorem vtx_inj' {a b : Vtx} (h : vtxV a = vtxV b) : a = b := by
 unfold vtxV at h
 exact vtxL_inj (by simpa using h)
def KV : List CK := [.int .u8, .int .u8, .int .u8, .int .u8, .int .u8, .int .u8, .int .u8, .int .u8, .int .u8, .int .u8, .int .u8, .int .u8, .int .u8, .int .u8, .int .u8, .int .u8, .int .u8, .int .u8, .int .u8, .int .u8, .int .u8, .int .u8, .int .u8, .int .u8, .int .u8, .int .u8, .int .u8, .int .u8, .int .u8, .int .u8, .int .u8, .int .u8, .int .i64]
theorem eqL_bytes : ∀ {x y : List UInt8}, x.length = y.length -> eqL (List.replicate x.length (.int .u8)) (bytesC x) (bytesC y) = some (decide (x = y))
 | [], [], _ => rfl
 | a :: l, b :: r, h => by
  have ih := eqL_bytes (x := l) (y := r) (by simpa using h)
  unfold bytesC at ih ⊢
  simp only [List.length_cons, List.replicate_succ, List.map_cons, eqL, eqCell, and_self, if_true, ih, Option.some.injEq]
  by_cases h1 : a = b
  ·subst h1; simp
  have : ¬ (a.toNat : Int) = (b.toNat : Int) := fun e => h1 (UInt8.toNat_inj.1 (by omega))
  simp [h1, this]
theorem eqL_app : ∀ {s t : List CK} {a b a' b' : List Value} {p q : Bool}, eqL s a a' = some p -> eqL t b b' = some q -> eqL (s ++ t) (a ++ b) (a' ++ b') = some (p && q)
 | [], t, a, b, a', b', p, q, h, k => by
  obtain ⟨l1, l2⟩ := eqL_len h
  have e1 : a = [] := List.eq_nil_of_length_eq_zero l1
  have e2 : a' = [] := List.eq_nil_of_length_eq_zero l2
  subst e1; subst e2
  have : p = true := by simpa [eqL] using h.symm
  subst this
  simpa using k
 | c :: s, t, a, b, a', b', p, q, h, k => by
  obtain ⟨x, xs, y, ys, p1, q1, rfl, rfl, h1, h2, rfl⟩ := eqL_cons h
  have := eqL_app h2 k
  simp only [List.cons_append, eqL, h1, this]
  rw [Bool.and_assoc]
theorem eqL_vtx (a b : Vtx) : eqL KV (vtxL a) (vtxL b) = some (decide (a = b)) := by
 have h1 := eqL_bytes (x := a.1.1) (y := b.1.1) (a.1.2.trans b.1.2.symm)
 rw [a.1.2] at h1
 have := eqL_app h1 (show eqL [.int .i64] [.int .i64 a.2] [.int .i64 b.2] = some (decide (a.2 = b.2)) by simp only [eqL, eqCell, and_self, if_true]; rw [Bool.and_true]; congr 1)
 refine (Eq.trans (by rfl) this).trans ?_
 congr 1
 rw [<- Bool.decide_and]
 congr 1
 apply propext
 constructor
 ·rintro ⟨h1, h2⟩; exact Prod.ext (Subtype.ext h1) h2
 rintro rfl; exact ⟨rfl, rfl⟩
theorem sub_at {w0 : World} {S : SS} {r E tot off : Nat} {c A B C : List Value} (hm : (r, AO.cells c E tot) ∈ S.flatten) (hc : c = A ++ B ++ C) (hA : A.length = off) : ∀ (j : Nat) (v : Value), B[j]? = some v -> Cell w0 S ((⟨r, off, none⟩ : Addr).add j) v := by
 intro j v hj
 have hl : j < B.length := (List.getElem?_eq_some_iff.1 hj).1
 have := own_at (w0 := w0) (j := off + j) hm (show c[off + j]? = some v by
  rw [hc, List.append_assoc, List.getElem?_append_right (by omega), List.getElem?_append_left (by omega), show off + j - A.length = j from by omega, hj])
 rw [Addr.add_lit]
 exact this
theorem all_at {w0 : World} {S : SS} {r E tot : Nat} {c : List Value} (hm : (r, AO.cells c E tot) ∈ S.flatten) : ∀ (j : Nat) (v : Value), c[j]? = some v -> Cell w0 S ((⟨r, 0, none⟩ : Addr).add j) v := fun j v hj => (Rd.own hm).at hj
theorem vtx_read {w0 : World} {S : SS} {r E tot : Nat} {v : Vtx} (hm : (r, AO.cells (vtxL v) E tot) ∈ S.flatten) : ReadsAs w0 S (some 33) ⟨r, 0, none⟩ (vtxV v) := ⟨vtxL v, rfl, vtxL_len v, all_at hm⟩
theorem setAll {c d : List Value} (h : c.length = d.length) : setAt c 0 d = d := by
 rw [setAt_eq _ _ _ (by omega), Nat.zero_add, h.symm, List.drop_length]; simp
theorem vset (h : HashB) (z : Int) : setAt (bytesC h.1 ++ [.int .i64 0]) 32 [.int .i64 z] = vtxL (h, z) := by
 have hh := hb_len h
 rw [setAt_eq _ _ _ (by simp [hh])]
 rw [List.take_append_of_le_length (by omega), List.take_of_length_le (by omega), List.drop_eq_nil_of_le (by simp [hh]), List.append_nil]
 rfl
theorem z33_hash (h : HashB) : setAt z33 0 (bytesC h.1) = bytesC h.1 ++ [.int .i64 0] := by
 have hh := hb_len h
 rw [setAt_eq _ _ _ (by rw [hh]; decide), hh]
 rfl
theorem fill_vtx {T : TT} {h : HashB} {z : Int} {a b : Nat} (h1 : Go.SL.look T a = some (.agg (bytesC h.1).toArray)) (h2 : Go.SL.look T b = some (.int .i64 z)) : fillP T z33 [(0, 32, .t a), (32, 1, .t b)] = some (vtxL (h, z)) := by
 have hh := hb_len h
 have e1 : (Value.agg (bytesC h.1).toArray).cells.size = 32 := by simp [Value.cells, hh]
 have e2 : (Value.agg (bytesC h.1).toArray).cells.toList = bytesC h.1 := rfl
 simp only [fillP, PV.val, h1, h2]
 rw [if_pos ⟨e1, by decide⟩, e2, z33_hash, if_pos ⟨rfl, by simp [hh]⟩]
 exact congrArg some (vset h z)
theorem vtxL_take (v : Vtx) : (vtxL v).take 32 = bytesC v.1.1 := by
 unfold vtxL
 rw [List.take_append_of_le_length (by rw [hb_len]; decide), List.take_of_length_le (by rw [hb_len]; decide)]
theorem vtxL_last (v : Vtx) : (vtxL v)[32]? = some (.int .i64 v.2) := by
 unfold vtxL
 rw [List.getElem?_append_right (by rw [hb_len]; decide), hb_len]; rfl
theorem mapM_some {α β : Type} {f : α -> Option β} : ∀ {l : List α}, (∀ a ∈ l, ∃ b, f a = some b) -> ∃ r, l.mapM f = some r
 | [], _ => ⟨[], rfl⟩
 | a :: l, h => by
  obtain ⟨b, hb⟩ := h a (by simp)
  obtain ⟨r, hr⟩ := mapM_some (l := l) fun x hx => h x (by simp [hx])
  exact ⟨b :: r, by simp [hb, hr]⟩
theorem lits_byte {e : TypeId} (he : Try.prog.underlying e = some (.int .u8)) (d : Nat) (b : UInt8) : ∃ l, Try.prog.keyLits (d + 1) e [.int .u8 (b.toNat : Int)] = some l := by
 have hw : (Lit.int .u8 (b.toNat : Int)).wf = true := by
  have := b.toNat_lt
  simp only [Lit.wf, Bool.and_eq_true, decide_eq_true_eq]
  constructor
  ·show (0 : Int) <= _; omega
  show _ <= (255 : Int); omega
 exact ⟨[.int .u8 (b.toNat : Int)], by simp only [Program.keyLits, he, hw]; rfl⟩
theorem lits_int {e : TypeId} (he : Try.prog.underlying e = some (.int .i64)) (d : Nat) (z : Int) (h1 : -9223372036854775808 <= z) (h2 : z <= 9223372036854775807) : ∃ l, Try.prog.keyLits (d + 1) e [.int .i64 z] = some l := by
 have hw : (Lit.int .i64 z).wf = true := by
  simp only [Lit.wf, Bool.and_eq_true, decide_eq_true_eq]
  exact ⟨h1, h2⟩
 exact ⟨[.int .i64 z], by simp only [Program.keyLits, he, hw]; rfl⟩
theorem lits_hash (d : Nat) (h : HashB) : ∃ l, Try.prog.keyLits (d + 1 + 1) 30 (bytesC h.1) = some l := by
 have c30 : Try.prog.cellsOf 30 = 32 := by kernel_rfl
 have c5 : Try.prog.cellsOf 5 = 1 := by kernel_rfl
 have u5 : Try.prog.underlying 5 = some (.int .u8) := Try.underlying5
 have hm : ∀ i ∈ List.range 32, ∃ b, Try.prog.keyLits (d + 1) 5 (((bytesC h.1).drop (i * 1)).take 1) = some b := by
  intro i hi
  have hi' : i < h.1.length := by rw [h.2]; exact List.mem_range.1 hi
  have e : ((bytesC h.1).drop (i * 1)).take 1 = [.int .u8 (h.1[i].toNat : Int)] := by
   unfold bytesC
   rw [Nat.mul_one, List.drop_eq_getElem_cons (by simpa using hi')]
   simp
  rw [e]
  exact lits_byte u5 d _
 obtain ⟨r, hr⟩ := mapM_some hm
 refine ⟨r.flatten, ?_⟩
 unfold Program.keyLits
 simp only [Try.underlying30, c30, c5, hb_len, if_true, hr, Option.map_some]
theorem lits_vtx (d : Nat) (v : Vtx) (hv : okV v) {t : TypeId} {f1 f2 : Field} (hu : Try.prog.underlying t = some (.struct #[f1, f2])) (ht : Try.prog.cellsOf t = 33) (h1 : f1.type = 30) (h2 : f1.offset = 0) (h3 : f2.type = 3) (h4 : f2.offset = 32) (h5 : f1.name ≠ "_") (h6 : f2.name ≠ "_") :
  ∃ l, Try.prog.keyLits (d + 1 + 1 + 1) t (vtxL v) = some l := by
 have c30 : Try.prog.cellsOf 30 = 32 := by kernel_rfl
 have c3 : Try.prog.cellsOf 3 = 1 := by kernel_rfl
 obtain ⟨a, ha⟩ := lits_hash d v.1
 obtain ⟨b, hb⟩ := lits_int (e := 3) Try.underlying3 (d + 1) v.2 hv.1 hv.2
 have e1 : ((vtxL v).drop 0).take 32 = bytesC v.1.1 := vtxL_take v
 have e2 : ((vtxL v).drop 32).take 1 = [.int .i64 v.2] := by
  unfold vtxL
  rw [List.drop_append_of_le_length (by rw [hb_len]; decide), List.drop_eq_nil_of_le (by rw [hb_len]; decide)]; rfl
 refine ⟨[a, b].flatten, ?_⟩
 unfold Program.keyLits
 simp only [hu, ht, vtxL_len]
 rw [if_pos ⟨trivial, by simp [h5, h6]⟩]
 simp [h1, h2, h3, h4, c30, c3, ha, hb, e2, vtxL_take]
theorem vtx_key {t : TypeId} (hk : Try.prog.keyType t = true) {f1 f2 : Field} (hu : Try.prog.underlying t = some (.struct #[f1, f2])) (ht : Try.prog.cellsOf t = 33) (h1 : f1.type = 30) (h2 : f1.offset = 0) (h3 : f2.type = 3) (h4 : f2.offset = 32) (h5 : f1.name ≠ "_") (h6 : f2.name ≠ "_") (v : Vtx) (hv : okV v) :
  ∃ l, keyOf Try.prog t (vtxV v) = some l := by
 have hs : Try.prog.types.size + 1 = 229 + 1 + 1 + 1 := by kernel_rfl
 obtain ⟨l, hl⟩ := lits_vtx 229 v hv hu ht h1 h2 h3 h4 h5 h6
 have hf : (vtxV v).formed Try.prog t = true := by
  unfold vtxV Value.formed
  simp only [hu, List.size_toArray, vtxL_len, ht]
  rfl
 refine ⟨.string (keyBytes l), ?_⟩
 unfold keyOf
 simp only [hu, hk, hf, Bool.and_self, if_true, hs]
 rw [show (vtxV v).cells.toList = vtxL v from rfl, hl]
 rfl
theorem tsize : Try.prog.types.size = 231 := by kernel_rfl
theorem laidOut : laidOutB Try.prog = true := by kernel_rfl
theorem keys32 : Keys Try.prog 32 vtxV okV :=
 ⟨deep_law_gate laidOut (by rw [tsize]; decide) (by rw [tsize]; decide) (by kernel_rfl) (by rw [Try.underlying32]), vtx_key (by kernel_rfl) Try.underlying32 (by kernel_rfl) rfl rfl rfl rfl (by decide) (by decide), fun a b => vtx_inj'⟩
theorem keys97 : Keys Try.prog 97 vtxV okV :=
 ⟨deep_law_gate laidOut (by rw [tsize]; decide) (by rw [tsize]; decide) (by kernel_rfl) (by rw [Try.underlying97]), vtx_key (by kernel_rfl) Try.underlying97 (by kernel_rfl) rfl rfl rfl rfl (by decide) (by decide), fun a b => vtx_inj'⟩
end Go.Proofs.Gr

namespace Go.Proofs.Gr
open Go.SL Go.RowKit Go.Proofs Go.GP
def strs (l : List ByteArray) : List Value := l.map .string
structure NodeM where
 text : ByteArray
 gone : Int
 named : Int
 A : Option Addr
 c : Nat
 next : List Vtx
def zM : NodeM := ⟨⟨#[]⟩, 0, 0, none, 0, []⟩
instance : Inhabited NodeM := ⟨zM⟩
def nodeC (n : NodeM) : List Value := [.string n.text, .int .i64 n.gone, .int .i64 n.named, .slice n.A n.next.length n.c]
def nodeV (n : NodeM) : Value := .agg (nodeC n).toArray
def NodeM.pl (n : NodeM) : NodeP := ⟨n.text, n.gone, n.named, n.next⟩
structure PartM where
 patch : HashB
 at_ : Int
 first : Int
 up : Vtx
 down : Vtx
 LA : Option Addr
 lc : Nat
 lines : List ByteArray
 GA : Option Addr
 gc : Nat
 gone : List Vtx
def PartM.pl (p : PartM) : PartP := ⟨p.patch, p.at_, p.first, p.up, p.down, p.lines, p.gone⟩
def partC (p : PartM) : List Value := bytesC p.patch.1 ++ [.int .i64 p.at_, .int .i64 p.first] ++ vtxL p.up ++ vtxL p.down ++ [.slice p.LA p.lines.length p.lc, .slice p.GA p.gone.length p.gc]
def partV (p : PartM) : Value := .agg (partC p).toArray
def zPart : PartM := ⟨h0, 0, 0, v0, v0, none, 0, [], none, 0, []⟩
instance : Inhabited PartM := ⟨zPart⟩
theorem partC_len (p : PartM) : (partC p).length = 102 := by simp [partC, hb_len, vtxL_len]
theorem partC_one (p : PartM) : (partC p).all (·.oneCell') = true := by
 unfold partC
 simp only [List.all_append, bytesC_all, vtxL_one, Bool.and_true, Bool.true_and]
 rfl
theorem partC_split (p : PartM) : partC p = bytesC p.patch.1 ++ ([.int .i64 p.at_] ++ ([.int .i64 p.first] ++ (vtxL p.up ++ (vtxL p.down ++ ([.slice p.LA p.lines.length p.lc] ++ [.slice p.GA p.gone.length p.gc]))))) := by simp [partC]
theorem partC_at (p : PartM) : (partC p)[32]? = some (.int .i64 p.at_) /\ (partC p)[33]? = some (.int .i64 p.first) /\ (partC p)[100]? = some (.slice p.LA p.lines.length p.lc) /\ (partC p)[101]? = some (.slice p.GA p.gone.length p.gc) := by
 rw [partC_split]
 have h1 := hb_len p.patch
 have h2 := vtxL_len p.up
 have h3 := vtxL_len p.down
 refine ⟨?_, ?_, ?_, ?_⟩
 ·rw [List.getElem?_append_right (by omega), h1]; rfl
 ·rw [List.getElem?_append_right (by omega), h1]; rfl
 ·rw [List.getElem?_append_right (by omega), h1, List.getElem?_append_right (by simp), List.getElem?_append_right (by simp), List.getElem?_append_right (by rw [h2]; simp), h2, List.getElem?_append_right (by rw [h3]; simp), h3]; rfl
 rw [List.getElem?_append_right (by omega), h1, List.getElem?_append_right (by simp), List.getElem?_append_right (by simp), List.getElem?_append_right (by rw [h2]; simp), h2, List.getElem?_append_right (by rw [h3]; simp), h3]; rfl
section
variable {w0 : World} {S : SS} {r E tot : Nat} {p : PartM}
theorem part_patch (hm : (r, AO.cells (partC p) E tot) ∈ S.flatten) : ∀ (j : Nat) (v : Value), (bytesC p.patch.1)[j]? = some v -> Cell w0 S ((⟨r, 0, none⟩ : Addr).add j) v :=
 sub_at (A := []) (B := bytesC p.patch.1) hm (by rw [partC_split]; simp; rfl) rfl
theorem part_up (hm : (r, AO.cells (partC p) E tot) ∈ S.flatten) : ∀ (j : Nat) (v : Value), (vtxL p.up)[j]? = some v -> Cell w0 S ((⟨r, 34, none⟩ : Addr).add j) v :=
 sub_at (A := bytesC p.patch.1 ++ [.int .i64 p.at_, .int .i64 p.first]) (B := vtxL p.up) hm (by rw [partC_split]; simp; rfl) (by simp [hb_len])
theorem part_down (hm : (r, AO.cells (partC p) E tot) ∈ S.flatten) : ∀ (j : Nat) (v : Value), (vtxL p.down)[j]? = some v -> Cell w0 S ((⟨r, 67, none⟩ : Addr).add j) v :=
 sub_at (A := bytesC p.patch.1 ++ [.int .i64 p.at_, .int .i64 p.first] ++ vtxL p.up) (B := vtxL p.down) hm (by rw [partC_split]; simp; rfl) (by simp [hb_len, vtxL_len])
theorem part_at (hm : (r, AO.cells (partC p) E tot) ∈ S.flatten) : Cell w0 S ⟨r, 32, none⟩ (.int .i64 p.at_) := own_at hm (partC_at p).1
theorem part_first (hm : (r, AO.cells (partC p) E tot) ∈ S.flatten) : Cell w0 S ⟨r, 33, none⟩ (.int .i64 p.first) := own_at hm (partC_at p).2.1
theorem part_lines (hm : (r, AO.cells (partC p) E tot) ∈ S.flatten) : Cell w0 S ⟨r, 100, none⟩ (.slice p.LA p.lines.length p.lc) := own_at hm (partC_at p).2.2.1
theorem part_gone (hm : (r, AO.cells (partC p) E tot) ∈ S.flatten) : Cell w0 S ⟨r, 101, none⟩ (.slice p.GA p.gone.length p.gc) := own_at hm (partC_at p).2.2.2
end
structure GrM where
 r : Nat
 pb : Nat
 nb : Nat
 FA : Option Addr
 fc : Nat
 parts : List (Vtx × PartM)
 nodes : List (Vtx × NodeM)
 first : List Vtx
 junk : Seg
 lim : Nat
def plP (l : List (Vtx × PartM)) : List ((HashB × Int) × PartP) := l.map fun q => (q.1, q.2.pl)
def plN (l : List (Vtx × NodeM)) : List (Vtx × NodeP) := l.map fun q => (q.1, q.2.pl)
def GrM.gr (m : GrM) : Gr := ⟨plP m.parts, plN m.nodes, m.first⟩
def GrM.cells (m : GrM) : List Value := [.bool true, .map (some m.pb), .map (some m.nb), .slice m.FA m.first.length m.fc]
def GrM.ptr (m : GrM) : Value := .pointer (some ⟨m.r, 0, none⟩)
def GS (m : GrM) : SS := [[(m.r, .cells m.cells 57 4)], [(m.pb, .gm (gmL vtxV partV m.parts))], [(m.nb, .gm (gmL vtxV nodeV m.nodes))], m.junk]
structure NodeOk' (w0 : World) (B : SS) (lim : Nat) (n : NodeM) : Prop where
 rd : Rd w0 B n.A (vtxs n.next)
 ok : ∀ v ∈ n.next, okV v
 len : n.next.length <= lim
 gone : -(lim : Int) <= n.gone /\ n.gone <= lim
 named : -(lim : Int) <= n.named /\ n.named <= lim
structure PartR (p : PartM) : Prop where
 at_ : -9223372036854775808 <= p.at_ /\ p.at_ <= 9223372036854775807
 first : -9223372036854775808 <= p.first /\ p.first <= 4611686018427387904
 lines : p.lines.length <= 1000000000
 gones : p.gone.length <= 1000000000
 gcap : p.gone.length <= p.gc
 gnil : p.GA = none -> p.gc = 0
 up : okV p.up
 down : okV p.down
 gone : ∀ v ∈ p.gone, okV v
structure PartOk' (w0 : World) (S : SS) (p : PartM) : Prop where
 rdL : Rd w0 S p.LA (strs p.lines)
 rdG : Rd w0 S p.GA (vtxs p.gone)
 rng : PartR p
structure GOk (w0 : World) (X : SS) (m : GrM) : Prop where
 pk : ∀ q ∈ m.parts, okV q.1
 part : ∀ q ∈ m.parts, PartOk' w0 (m.junk :: X) q.2
 nk : ∀ q ∈ m.nodes, okV q.1
 node : ∀ q ∈ m.nodes, NodeOk' w0 (m.junk :: X) m.lim q.2
 first : Rd w0 (m.junk :: X) m.FA (vtxs m.first)
 firstOk : ∀ v ∈ m.first, okV v
 firstLen : m.first.length <= m.lim
 lim : m.lim <= 1000000000000
 pkd : (mks m.parts).Nodup
 nkd : (mks m.nodes).Nodup
theorem GS_mem {m : GrM} {S X : SS} (h : Over (GS m ++ X) S) : (m.r, AO.cells m.cells 57 4) ∈ S.flatten /\ (m.pb, AO.gm (gmL vtxV partV m.parts)) ∈ S.flatten /\ (m.nb, AO.gm (gmL vtxV nodeV m.nodes)) ∈ S.flatten /\ ∀ p ∈ m.junk, p ∈ S.flatten := by
 unfold Over GS at h
 exact ⟨h _ (by simp), h _ (by simp), h _ (by simp), fun p hp => h p (by simp [hp])⟩
theorem _root_.Go.SL.Rd.junk {w0 : World} {m : GrM} {S : SS} {X : SS} {A : Option Addr} {l : List Value} (h : Rd w0 (m.junk :: X) A l) (hS : Over (GS m ++ X) S) : Rd w0 S A l := h.mono fun p hp => by
 rw [List.flatten_cons, List.mem_append] at hp
 rcases hp with hp | hp
 ·exact (GS_mem hS).2.2.2 p hp
 exact hS p (by rw [List.flatten_append, List.mem_append]; exact .inr hp)
theorem _root_.Go.SL.Over.app {a b : SS} : Over a (a ++ b) := fun q h => by simp only [List.flatten_append, List.mem_append]; exact .inl h
theorem _root_.Go.SL.Over.appR {a b c : SS} (h : Over a c) : Over a (b ++ c) := fun q hq => by simp only [List.flatten_append, List.mem_append]; exact .inr (h q hq)
theorem _root_.Go.SL.Over.both {a b c : SS} (h : Over b c) : Over (a ++ b) (a ++ c) := fun q hq => by
 rw [List.flatten_append, List.mem_append] at hq ⊢
 exact hq.imp_right (h q)
theorem _root_.Go.SL.Over.trans {a b c : SS} (h : Over a b) (k : Over b c) : Over a c := fun q hq => k q (h q hq)
section
variable {w0 : World} {S X : SS} {m : GrM}
theorem g_made (h : Over (GS m ++ X) S) : Cell w0 S ⟨m.r, 0, none⟩ (.bool true) := own_at (c := m.cells) (GS_mem h).1 rfl
theorem g_parts (h : Over (GS m ++ X) S) : Cell w0 S ⟨m.r, 1, none⟩ (.map (some m.pb)) := own_at (c := m.cells) (GS_mem h).1 rfl
theorem g_nodes (h : Over (GS m ++ X) S) : Cell w0 S ⟨m.r, 2, none⟩ (.map (some m.nb)) := own_at (c := m.cells) (GS_mem h).1 rfl
theorem g_first (h : Over (GS m ++ X) S) : Cell w0 S ⟨m.r, 3, none⟩ (.slice m.FA m.first.length m.fc) := own_at (c := m.cells) (GS_mem h).1 rfl
end
theorem mks_plN (l : List (Vtx × NodeM)) : mks (plN l) = mks l := by unfold mks plN; simp [List.map_map, Function.comp_def]
theorem mgt_map {α β γ : Type} [DecidableEq α] (h : β -> γ) (l : List (α × β)) (a : α) : mgt (l.map fun q => (q.1, h q.2)) a = (mgt l a).map h := by
 induction l with
 | nil => rfl
 | cons p l ih =>
  rw [List.map_cons, mgt_cons, mgt_cons, ih]
  split <;> rfl
theorem mpt_map {α β γ : Type} [DecidableEq α] (h : β -> γ) (l : List (α × β)) (a : α) (b : β) : (mpt l a b).map (fun q => (q.1, h q.2)) = mpt (l.map fun q => (q.1, h q.2)) a (h b) := by
 induction l with
 | nil => rfl
 | cons p l ih =>
  rw [List.map_cons]
  unfold mpt
  simp only
  split
  ·rfl
  rw [List.map_cons, ih]
theorem mgt_plN (l : List (Vtx × NodeM)) (v : Vtx) : mgt (plN l) v = (mgt l v).map NodeM.pl := mgt_map _ l v
theorem mpt_plN (l : List (Vtx × NodeM)) (v : Vtx) (n : NodeM) : plN (mpt l v n) = mpt (plN l) v n.pl := mpt_map _ l v n
theorem mpt_plP (l : List (Vtx × PartM)) (v : Vtx) (n : PartM) : plP (mpt l v n) = mpt (plP l) v n.pl := mpt_map _ l v n
theorem nd_plN (l : List (Vtx × NodeM)) (v : Vtx) : nd (plN l) v = ((mgt l v).getD zM).pl := by
 unfold nd
 rw [mgt_plN]
 cases mgt l v <;> rfl
instance {G : Gr} {v : Vtx} : Decidable (HasG G v) := by unfold HasG; infer_instance
theorem mks_plP (l : List (Vtx × PartM)) : mks (plP l) = mks l := by unfold mks plP; simp [List.map_map, Function.comp_def]
theorem isSome_mks {α β : Type} [DecidableEq α] {l : List (α × β)} {a : α} [Decidable (a ∈ mks l)] : (mgt l a).isSome = decide (a ∈ mks l) := by
 cases h : mgt l a with
 | none => simp [mgt_none.1 h]
 | some b => simp [mem_mks.2 ⟨b, h⟩]
end Go.Proofs.Gr

namespace Go.Proofs.Gr
open Go.SL Go.RowKit Go.Proofs Go.GP
set_option maxHeartbeats 1000000
abbrev vseg (r : Nat) (v : Vtx) : Seg := [(r, .cells (vtxL v) 32 33)]
theorem vtx_box (v : Vtx) : (vtxV v).cells.toList = vtxL v := rfl
theorem part_box (p : PartM) : (partV p).cells.toList = partC p := rfl
theorem zero100 : ∃ i, Try.prog.info? 100 = some i /\ i.zero = some (nodeV zM) := Option.bind_eq_some_iff.1 (show (Try.prog.info? 100).bind (·.zero) = some (nodeV zM) by kernel_rfl)
theorem zero36 : ∃ i, Try.prog.info? 36 = some i /\ i.zero = some (partV zPart) := Option.bind_eq_some_iff.1 (show (Try.prog.info? 36).bind (·.zero) = some (partV zPart) by kernel_rfl)
theorem root_fc {w0 : World} {S : SS} : FC Try.prog w0 66 [] S (fun v S' => v = vtxV rootV /\ S' = S) := by
 refine FC.ofC Try.known66 (by simp) ?_
 unfold Try.pc66
 simp only [argT]
 refine PW.seqOps ?_
 refine OL.cons trivial OW.al ?_
 rintro _ _ ⟨r0, rfl, rfl⟩
 refine OL.nil ?_
 refine PW.k1 0 rfl ?_
 refine PW.seqOps ?_
 refine OL.det trivial (.build rfl) ?_
 refine OL.cons trivial (OW.st (k := 0) rfl rfl rfl rfl (by first | decide | (simp; done) | (simp; omega)) (by first | rfl | simp)) ?_
 rintro _ _ rfl
 refine OL.nil ?_
 refine PW.k1 0 rfl ?_
 refine PW.ret ?_
 change (Exit.ret = Exit.normal ∨ Exit.ret = Exit.ret) /\ ∃ a v, Go.SL.look _ _ = some (.pointer (some a)) /\ ReadsAs _ _ _ _ _ /\ _
 exact ⟨.inr rfl, _, _, rfl, vtx_read (r := r0) (v := rootV) (E := 32) (tot := 33) (List.Mem.head _), _, Sub.drop (Sub.refl _), rfl, rfl⟩
theorem end_fc {w0 : World} {S : SS} : FC Try.prog w0 65 [] S (fun v S' => v = vtxV endV /\ S' = S) := by
 refine FC.ofC Try.known65 (by simp) ?_
 unfold Try.pc65
 simp only [argT]
 refine PW.seqOps ?_
 refine OL.cons trivial OW.al ?_
 rintro _ _ ⟨r0, rfl, rfl⟩
 refine OL.nil ?_
 refine PW.k1 0 rfl ?_
 refine PW.seqOps ?_
 refine OL.det trivial (.build rfl) ?_
 refine OL.cons trivial (OW.st (k := 0) rfl rfl rfl rfl (by first | decide | (simp; done) | (simp; omega)) (by first | rfl | simp)) ?_
 rintro _ _ rfl
 refine OL.nil ?_
 refine PW.k1 0 rfl ?_
 refine PW.ret ?_
 change (Exit.ret = Exit.normal ∨ Exit.ret = Exit.ret) /\ ∃ a v, Go.SL.look _ _ = some (.pointer (some a)) /\ ReadsAs _ _ _ _ _ /\ _
 exact ⟨.inr rfl, _, _, rfl, vtx_read (r := r0) (v := endV) (E := 32) (tot := 33) (List.Mem.head _), _, Sub.drop (Sub.refl _), rfl, rfl⟩
theorem node_st {w0 : World} {S : SS} {P : Program} {n r : Nat} {T : TT} {x v : PV} {u : NodeM} (hx : x.val T = some (.pointer (some ⟨r, 0, none⟩))) (hv : v.val T = some (nodeV u)) (a b c d : Value) :
  OW P w0 n (.st 4 x v) T ([(r, .cells [a, b, c, d] 100 4)] :: S) (fun _ S' => S' = [(r, .cells (nodeC u) 100 4)] :: S) :=
 OW.st (k := 0) (c := [a, b, c, d]) (u := nodeV u) hx hv rfl rfl (Nat.le_refl 4) rfl
theorem is_fc {w0 : World} {S X : SS} {m : GrM} (hS : Over (GS m ++ X) S) : FC Try.prog w0 48 [m.ptr] S (fun v S' => v = .bool true /\ S' = S) := by
 refine FC.of Try.known48 (by simp) ?_
 unfold Try.pc48
 simp only [argT]
 refine PW.seqOps ?_
 refine OL.dp rfl ?_
 refine OL.nil ?_
 refine PW.k1 0 rfl ?_
 refine PW.seqOps ?_
 refine OL.dp rfl ?_
 refine OL.det trivial (Yields.eqPn rfl rfl) ?_
 refine OL.dp rfl ?_
 refine OL.det rfl (.pure rfl) ?_
 refine OL.det rfl (Yields.nilc rfl) ?_
 refine OL.det rfl (.pure rfl) ?_
 refine OL.det rfl (.ld rfl (g_made hS)) ?_
 refine OL.dp rfl ?_
 refine OL.dp rfl ?_
 refine OL.nil ?_
 refine PW.k1 2 rfl ?_
 refine PW.ret ?_
 change (Exit.ret = Exit.normal ∨ Exit.ret = Exit.ret) /\ ∃ v, resV _ _ = some v /\ _
 exact ⟨.inr rfl, _, rfl, rfl, rfl⟩
theorem vertex_fc {w0 : World} {S : SS} {p : PartM} {i : Nat} (hr : PartR p) (hi : (i : Int) <= 4611686018427387903) : FC Try.prog w0 58 [partV p, .int .i64 (i : Int)] S (fun v S' => v = vtxV (p.pl.vtx i) /\ S' = S) := by
 have h1 := hr.first
 refine FC.ofC Try.known58 (by simp) ?_
 unfold Try.pc58
 simp only [argT]
 refine PW.seqOps ?_
 refine OL.cons trivial (OW.bx rfl) ?_
 rintro _ _ ⟨r2, rfl, rfl⟩
 rw [part_box, partC_len]
 refine OL.cons trivial OW.al ?_
 rintro _ _ ⟨r4, rfl, rfl⟩
 refine OL.nil ?_
 refine PW.k3 1 2 4 rfl rfl rfl ?_
 refine PW.seqOps ?_
 refine OL.dp rfl ?_
 refine OL.det trivial (.ldA rfl (hb_len _) (part_patch (p := p) (E := 36) (tot := 102) (List.mem_flatten.2 ⟨_, .tail _ (.head _), List.mem_singleton.2 rfl⟩))) ?_
 refine OL.dp rfl ?_
 refine OL.det trivial (.ld rfl (part_first (p := p) (E := 36) (tot := 102) (List.mem_flatten.2 ⟨_, .tail _ (.head _), List.mem_singleton.2 rfl⟩))) ?_
 refine OL.dp rfl ?_
 refine OL.det trivial (.add64 rfl rfl (by omega) (by omega)) ?_
 refine OL.det trivial (.build (fill_vtx rfl rfl)) ?_
 refine OL.cons trivial (OW.st (k := 0) (u := vtxV (p.patch, p.first + (i : Int))) rfl rfl rfl (by rw [vtxV]; exact (List.size_toArray).trans (vtxL_len _)) (by decide) (vtxL_one _)) ?_
 rintro _ _ rfl
 rw [vtx_box, setAll (by rw [vtxL_len]; rfl)]
 refine OL.nil ?_
 refine PW.k1 4 rfl ?_
 refine PW.ret ?_
 change (Exit.ret = Exit.normal ∨ Exit.ret = Exit.ret) /\ ∃ a v, Go.SL.look _ _ = some (.pointer (some a)) /\ ReadsAs _ _ _ _ _ /\ _
 exact ⟨.inr rfl, _, _, rfl, vtx_read (r := r4) (v := (p.patch, p.first + (i : Int))) (E := 32) (tot := 33) (List.Mem.head _), _, Sub.drop (Sub.drop (Sub.refl _)), rfl, rfl⟩
theorem line_fc {w0 : World} {S X : SS} {m : GrM} (hm : GOk w0 X m) (hS : Over (GS m ++ X) S) {v : Vtx} (hv : okV v) : FC Try.prog w0 56 [m.ptr, vtxV v] S (fun u S' => u = .bool (decide (v ∈ mks m.nodes)) /\ S' = S) := by
 obtain ⟨z, hz1, hz2⟩ := zero100
 refine FC.ofD Try.known56 (by simp) ?_
 unfold Try.pc56
 simp only [argT]
 refine PW.seqOps ?_
 refine OL.cons trivial (OW.bx rfl) ?_
 rintro _ _ ⟨r3, rfl, rfl⟩
 rw [vtx_box, vtxL_len]
 refine OL.dp rfl ?_
 refine OL.nil ?_
 refine PW.k2 0 3 rfl rfl ?_
 refine PW.seq fun K1 hK1 => ?_
 have hS1 : Over (GS m ++ X) (vseg r3 v :: S) := hS.cons
 refine PW.quietRNK (base := vseg r3 v :: S) Try.mixed (Over.refl _) ?_
 refine QN.det trivial (fun Sx hSx => Yields.pure rfl) ?_
 refine QN.det trivial (fun Sx hSx => Yields.nilc rfl) ?_
 refine QN.det trivial (fun Sx hSx => Yields.pure rfl) ?_
 refine QN.det trivial (fun Sx hSx => Yields.ld rfl (g_nodes (hS1.trans hSx))) ?_
 refine QN.det trivial (fun Sx hSx => Yields.ldA rfl (vtxL_len _) (all_at (c := vtxL v) (E := 32) (tot := 33) (hSx _ (List.mem_flatten.2 ⟨_, .head _, List.mem_singleton.2 rfl⟩)))) ?_
 refine QN.det trivial (fun Sx hSx => Yields.lookG (okc := true) Try.underlying55 hz1 hz2 keys32 hm.nk hv rfl rfl (GS_mem (hS1.trans hSx)).2.2.1) ?_
 refine QN.det trivial (fun Sx hSx => Yields.pure rfl) ?_
 refine QN.det trivial (fun Sx hSx => Yields.pure rfl) ?_
 refine QN.det trivial (fun Sx hSx => Yields.pure rfl) ?_
 refine QN.hole ?_
 refine QN.hole ?_
 refine QN.nil ⟨rfl, rfl, ordB_of (hp := [9, 10]) rfl (by decide), ?_⟩
 refine ⟨rfl, OW.mono (OW.al) ?_⟩
 rintro _ _ ⟨r5, rfl, rfl⟩
 refine ⟨(Over.refl _).cons, ?_⟩
 refine ⟨rfl, OW.mono (node_st rfl rfl _ _ _ _) ?_⟩
 rintro _ _ rfl
 refine ⟨(Over.refl _).cons, ?_⟩
 change OL _ _ _ [_] _ _ _
 refine OL.dp rfl ?_
 refine OL.nil ?_
 refine hK1 _ _ ?_
 refine PW.k1 6 rfl ?_
 refine PW.seqOps ?_
 refine OL.dp rfl ?_
 refine OL.dp rfl ?_
 refine OL.nil ?_
 refine PW.k1 4 rfl ?_
 refine PW.ret ?_
 change (Exit.ret = Exit.normal ∨ Exit.ret = Exit.ret) /\ ∃ v, resV _ _ = some v /\ _
 exact ⟨.inr rfl, _, rfl, _, Sub.drop (Sub.drop (Sub.refl _)), congrArg Value.bool isSome_mks, rfl⟩
end Go.Proofs.Gr

namespace Go.Proofs.Gr
open Go.SL Go.RowKit Go.Proofs Go.GP
set_option maxHeartbeats 1000000
theorem hasG_iff {m : GrM} {v : Vtx} : HasG m.gr v ↔ v = rootV ∨ v = endV ∨ v ∈ mks m.nodes := by
 unfold HasG
 show _ ∨ _ ∨ v ∈ mks (plN m.nodes) ↔ _
 rw [mks_plN]
def idxZ (q : Vtx -> Bool) (l : List Vtx) : Int := match l.findIdx? q with | some k => (k : Int) | none => -1
theorem idx_take {q : Vtx -> Bool} {l : List Vtx} {k : Nat} (hk : k < l.length) (h : ∀ x ∈ l.take k, q x = false) (hq : q l[k] = true) : idxZ q l = (k : Int) := by
 unfold idxZ
 have : l.findIdx? q = some k := by
  rw [List.findIdx?_eq_some_iff_getElem]
  refine ⟨hk, hq, fun j hj => ?_⟩
  have := h l[j] (List.mem_take_iff_getElem.2 ⟨j, by omega, rfl⟩)
  simp [this]
 rw [this]
theorem idx_no {q : Vtx -> Bool} {l : List Vtx} (h : ∀ x ∈ l, q x = false) : idxZ q l = -1 := by
 unfold idxZ
 have : l.findIdx? q = none := by rw [List.findIdx?_eq_none_iff]; exact h
 rw [this]
theorem idx_any {q : Vtx -> Bool} {l : List Vtx} : (idxZ q l ≥ 0) = (l.any q = true) := by
 unfold idxZ
 apply propext
 cases h : l.findIdx? q with
 | none =>
  have := List.findIdx?_eq_none_iff.1 h
  simp only [List.any_eq_true]
  constructor
  ·intro h; omega
  rintro ⟨x, hx, hq⟩; rw [this x hx] at hq; cases hq
 | some k =>
  obtain ⟨h1, h2, _⟩ := List.findIdx?_eq_some_iff_getElem.1 h
  simp only [List.any_eq_true]
  exact ⟨fun _ => ⟨_, List.getElem_mem h1, h2⟩, fun _ => by omega⟩
theorem vtake_snoc {l : List Vtx} {k : Nat} (hk : k < l.length) : l.take (k + 1) = l.take k ++ [l[k]] := by
 rw [List.take_add_one, List.getElem?_eq_getElem hk]; rfl
def behA (m : GrM) (v : Vtx) : Option Addr × Nat × List Vtx := if v = rootV then (m.FA, m.fc, m.first) else (((mgt m.nodes v).getD zM).A, ((mgt m.nodes v).getD zM).c, ((mgt m.nodes v).getD zM).next)
def behV (m : GrM) (v : Vtx) : Value := .slice (behA m v).1 (behA m v).2.2.length (behA m v).2.1
theorem getD_ok {w0 : World} {X : SS} {m : GrM} (hm : GOk w0 X m) (v : Vtx) : NodeOk' w0 (m.junk :: X) m.lim ((mgt m.nodes v).getD zM) := by
 cases h : mgt m.nodes v with
 | none => exact ⟨Rd.nil, by simp [zM], by simp [zM], by simp [zM], by simp [zM]⟩
 | some n => exact hm.node _ (mgt_some_mem h)
theorem behA_ok {w0 : World} {X : SS} {m : GrM} (hm : GOk w0 X m) (v : Vtx) : Rd w0 (m.junk :: X) (behA m v).1 (vtxs (behA m v).2.2) /\ (∀ w ∈ (behA m v).2.2, okV w) /\ (behA m v).2.2.length <= m.lim := by
 unfold behA
 split
 ·exact ⟨hm.first, hm.firstOk, hm.firstLen⟩
 exact ⟨(getD_ok hm v).rd, (getD_ok hm v).ok, (getD_ok hm v).len⟩
theorem behA_gr {m : GrM} {v : Vtx} : (behA m v).2.2 = behindG m.gr v := by
 unfold behA behindG
 split
 ·rfl
 show _ = (nd (plN m.nodes) v).next
 rw [nd_plN]
 rfl
theorem has_fc {w0 : World} {S X : SS} {m : GrM} (hm : GOk w0 X m) (hS : Over (GS m ++ X) S) {v : Vtx} (hv : okV v) : FC Try.prog w0 29 [m.ptr, vtxV v] S (fun u S' => u = .bool (decide (HasG m.gr v)) /\ S' = S) := by
 refine FC.ofD Try.known29 (by simp) ?_
 unfold Try.pc29
 simp only [argT]
 refine PW.seqOps ?_
 refine OL.cons trivial (OW.bx rfl) ?_
 rintro _ _ ⟨r3, rfl, rfl⟩
 rw [vtx_box, vtxL_len]
 refine OL.dp rfl ?_
 refine OL.nil ?_
 refine PW.k2 0 3 rfl rfl ?_
 refine PW.seq fun K1 hK1 => ?_
 refine PW.quiet2QK Try.mixed ?_
 refine QK.dp rfl ?_
 refine QK.call trivial rfl (is_fc hS.cons) ?_
 refine QK.dp rfl ?_
 refine QK.det rfl (.ldA rfl (vtxL_len _) (all_at (List.mem_flatten.2 ⟨_, .head _, List.mem_singleton.2 rfl⟩))) ?_
 refine QK.call rfl rfl (root_fc) ?_
 refine QK.det rfl (.eqD (neg := false) rfl rfl (eqL_vtx _ _)) ?_
 refine QK.bool rfl (Yields.pure rfl) (fun g11 => ?_) (fun g11 => ?_)
 ·try simp only [cvS] at g11
  refine QK.off rfl rfl ?_
  refine QK.off rfl rfl ?_
  refine QK.off rfl rfl ?_
  refine QK.det rfl (.pure rfl) ?_
  refine QK.det rfl (.pure rfl) ?_
  refine QK.off rfl rfl ?_
  refine QK.off rfl rfl ?_
  refine QK.nil ?_
  change OL _ _ _ [_, _, _, _] _ _ _
  refine OL.off rfl rfl ?_
  refine OL.det rfl (.pure rfl) ?_
  refine OL.dp rfl ?_
  refine OL.dp rfl ?_
  refine OL.nil ?_
  refine hK1 _ _ ?_
  refine PW.k1 4 rfl ?_
  refine PW.ret ?_
  change (Exit.ret = Exit.normal ∨ Exit.ret = Exit.ret) /\ ∃ v, resV _ _ = some v /\ _
  refine ⟨.inr rfl, _, rfl, _, Sub.drop (Sub.refl _), ?_, rfl⟩
  first
   | exact congrArg Value.bool (decide_eq_true (show HasG m.gr v from hasG_iff.2 (.inl g11))).symm
   | exact congrArg Value.bool (decide_eq_true (show HasG m.gr v from hasG_iff.2 (.inr (.inl g16)))).symm
   | exact congrArg Value.bool (decide_eq_decide.2 ⟨fun h => hasG_iff.2 (.inr (.inr h)), fun h => ((hasG_iff.1 h).resolve_left g11).resolve_left g16⟩)
 try simp only [cvS] at g11
 refine QK.det rfl (.ldA rfl (vtxL_len _) (all_at (List.mem_flatten.2 ⟨_, .head _, List.mem_singleton.2 rfl⟩))) ?_
 refine QK.call rfl rfl (end_fc) ?_
 refine QK.det rfl (.eqD (neg := false) rfl rfl (eqL_vtx _ _)) ?_
 refine QK.det rfl (.pure rfl) ?_
 refine QK.bool rfl (Yields.pure rfl) (fun g16 => ?_) (fun g16 => ?_)
 ·try simp only [cvS] at g16
  refine QK.off rfl rfl ?_
  refine QK.off rfl rfl ?_
  refine QK.nil ?_
  change OL _ _ _ [_, _, _, _] _ _ _
  refine OL.off rfl rfl ?_
  refine OL.det rfl (.pure rfl) ?_
  refine OL.dp rfl ?_
  refine OL.dp rfl ?_
  refine OL.nil ?_
  refine hK1 _ _ ?_
  refine PW.k1 4 rfl ?_
  refine PW.ret ?_
  change (Exit.ret = Exit.normal ∨ Exit.ret = Exit.ret) /\ ∃ v, resV _ _ = some v /\ _
  refine ⟨.inr rfl, _, rfl, _, Sub.drop (Sub.refl _), ?_, rfl⟩
  first
   | exact congrArg Value.bool (decide_eq_true (show HasG m.gr v from hasG_iff.2 (.inl g11))).symm
   | exact congrArg Value.bool (decide_eq_true (show HasG m.gr v from hasG_iff.2 (.inr (.inl g16)))).symm
   | exact congrArg Value.bool (decide_eq_decide.2 ⟨fun h => hasG_iff.2 (.inr (.inr h)), fun h => ((hasG_iff.1 h).resolve_left g11).resolve_left g16⟩)
 try simp only [cvS] at g16
 refine QK.det rfl (.pure rfl) ?_
 refine QK.det rfl (.ldA rfl (vtxL_len _) (all_at (List.mem_flatten.2 ⟨_, .head _, List.mem_singleton.2 rfl⟩))) ?_
 refine QK.nil ?_
 change OL _ _ _ [_, _, _, _] _ _ _
 refine OL.call rfl rfl (line_fc hm hS.cons hv) ?_
 rintro _ Sx ⟨rfl, hSx⟩
 rw [hSx]
 clear hSx
 refine OL.det rfl (.pure rfl) ?_
 refine OL.dp rfl ?_
 refine OL.dp rfl ?_
 refine OL.nil ?_
 refine hK1 _ _ ?_
 refine PW.k1 4 rfl ?_
 refine PW.ret ?_
 change (Exit.ret = Exit.normal ∨ Exit.ret = Exit.ret) /\ ∃ v, resV _ _ = some v /\ _
 refine ⟨.inr rfl, _, rfl, _, Sub.drop (Sub.refl _), ?_, rfl⟩
 first
  | exact congrArg Value.bool (decide_eq_true (show HasG m.gr v from hasG_iff.2 (.inl g11))).symm
  | exact congrArg Value.bool (decide_eq_true (show HasG m.gr v from hasG_iff.2 (.inr (.inl g16)))).symm
  | exact congrArg Value.bool (decide_eq_decide.2 ⟨fun h => hasG_iff.2 (.inr (.inr h)), fun h => ((hasG_iff.1 h).resolve_left g11).resolve_left g16⟩)
theorem behind_fc {w0 : World} {S X : SS} {m : GrM} (hm : GOk w0 X m) (hS : Over (GS m ++ X) S) {v : Vtx} (hv : okV v) : FC Try.prog w0 67 [m.ptr, vtxV v] S (fun u S' => u = behV m v /\ S' = S) := by
 obtain ⟨z, hz1, hz2⟩ := zero100
 refine FC.ofD Try.known67 (by simp) ?_
 unfold Try.pc67
 simp only [argT]
 refine PW.seqOps ?_
 refine OL.cons trivial (OW.bx rfl) ?_
 rintro _ _ ⟨r3, rfl, rfl⟩
 rw [vtx_box, vtxL_len]
 refine OL.dp rfl ?_
 refine OL.nil ?_
 refine PW.k2 0 3 rfl rfl ?_
 refine PW.seq fun K1 hK1 => ?_
 refine PW.seq fun K2 hK2 => ?_
 refine PW.quietK Try.mixed ?_
 refine QK.det trivial (.ldA rfl (vtxL_len _) (all_at (List.mem_flatten.2 ⟨_, .head _, List.mem_singleton.2 rfl⟩))) ?_
 refine QK.call trivial rfl (root_fc) ?_
 refine QK.nil ?_
 change OL _ _ _ [_] _ _ _
 refine OL.det trivial (.eqD (neg := false) rfl rfl (eqL_vtx _ _)) ?_
 refine OL.nil ?_
 refine hK2 _ _ ?_
 refine PW.k3 0 3 7 rfl rfl rfl ?_
 refine PW.cond rfl (fun c7 => ?_) (fun c7 => ?_)
 ·try simp only [cvS] at c7
  refine PW.seqOps ?_
  refine OL.dp rfl ?_
  refine OL.det trivial (Yields.nilc rfl) ?_
  refine OL.dp rfl ?_
  refine OL.det trivial (.ld rfl (g_first hS.cons)) ?_
  refine OL.dp rfl ?_
  refine OL.nil ?_
  refine PW.k1 4 rfl ?_
  refine PW.ret ?_
  change (Exit.ret = Exit.normal ∨ Exit.ret = Exit.ret) /\ ∃ v, resV _ _ = some v /\ _
  exact ⟨.inr rfl, _, rfl, _, Sub.drop (Sub.refl _), by unfold behV behA; rw [if_pos c7], rfl⟩
 try simp only [cvS] at c7
 refine PW.skip ?_
 refine hK1 _ _ ?_
 refine PW.k2 0 3 rfl rfl ?_
 refine PW.seq fun K3 hK3 => ?_
 refine PW.quietK Try.mixed ?_
 refine QK.dp rfl ?_
 refine QK.det trivial (Yields.nilc rfl) ?_
 refine QK.dp rfl ?_
 refine QK.det trivial (.ld rfl (g_nodes hS.cons)) ?_
 refine QK.det trivial (.ldA rfl (vtxL_len _) (all_at (List.mem_flatten.2 ⟨_, .head _, List.mem_singleton.2 rfl⟩))) ?_
 refine QK.nil ?_
 change OL _ _ _ [_, _, _] _ _ _
 refine OL.det trivial (.lookG (okc := false) Try.underlying55 hz1 hz2 keys32 hm.nk hv rfl rfl (GS_mem hS.cons).2.2.1) ?_
 refine OL.det trivial (Yields.fld rfl rfl) ?_
 refine OL.dp rfl ?_
 refine OL.nil ?_
 refine hK3 _ _ ?_
 refine PW.k1 4 rfl ?_
 refine PW.ret ?_
 change (Exit.ret = Exit.normal ∨ Exit.ret = Exit.ret) /\ ∃ v, resV _ _ = some v /\ _
 exact ⟨.inr rfl, _, rfl, _, Sub.drop (Sub.refl _), by unfold behV behA; rw [if_neg c7]; rfl, rfl⟩
theorem index_fc {w0 : World} {S : SS} {A : Option Addr} {c : Nat} {l : List Vtx} {v : Vtx} (hx : Rd w0 S A (vtxs l)) (hb : l.length <= 1000000000000) :
  FC Try.prog w0 110 [.slice A l.length c, vtxV v] S (fun u S' => u = .int .i64 (idxZ (fun x => decide (v = x)) l) /\ S' = S) := by
 obtain ⟨q, hq⟩ : ∃ q : Vtx -> Bool, q = fun x => decide (v = x) := ⟨_, rfl⟩
 rw [<- hq]
 refine FC.ofD Try.known110 (by simp) ?_
 unfold Try.pc110
 simp only [argT]
 refine PW.seqOps ?_
 refine OL.cons trivial (OW.bx rfl) ?_
 rintro _ _ ⟨r3, rfl, rfl⟩
 rw [vtx_box, vtxL_len]
 refine OL.dp rfl ?_
 refine OL.nil ?_
 refine PW.k2 0 3 rfl rfl ?_
 refine PW.seq fun K1 hK1 => ?_
 refine PW.seqOps ?_
 refine OL.dp rfl ?_
 refine OL.dp rfl ?_
 refine OL.dp rfl ?_
 refine OL.nil ?_
 refine PW.k4 0 3 7 8 rfl rfl rfl rfl ?_
 refine PW.block ?_
 refine PW.k4 0 3 7 8 rfl rfl rfl rfl ?_
 refine PW.loopK (I := fun m T S' => ∃ (k : Nat), (k <= l.length /\ m = l.length - k /\ ∀ x ∈ l.take k, q x = false) /\ T = ([(0, .slice A l.length c), (3, .pointer (some ⟨r3, 0, none⟩)), (7, .int .i64 (l.length : Int)), (8, .int .i64 k)] : TT) /\ S' = vseg r3 v :: S) (m := l.length) ⟨0, ⟨by omega, by omega, by simp⟩, rfl, rfl⟩ ?_
 rintro m _ _ ⟨k, ⟨hk, hm, hall⟩, rfl, rfl⟩
 refine PW.seqOps ?_
 refine OL.dp rfl ?_
 refine OL.nil ?_
 refine PW.k5 0 3 7 8 9 rfl rfl rfl rfl rfl ?_
 refine PW.seq fun K2 hK2 => ?_
 refine PW.cond rfl (fun c9 => ?_) (fun c9 => ?_)
 ·try simp only [cvS] at c9
  have hkl : k < l.length := by omega
  obtain ⟨a0, rfl⟩ := vtxs_some hx (by omega)
  refine PW.skip ?_
  refine hK2 _ _ ?_
  refine PW.k4 0 3 7 8 rfl rfl rfl rfl ?_
  refine PW.seq fun K3 hK3 => ?_
  refine PW.block ?_
  refine PW.seqOps ?_
  refine OL.dp rfl ?_
  refine OL.dp rfl ?_
  refine OL.nil ?_
  refine PW.k5 0 3 5 7 8 rfl rfl rfl rfl rfl ?_
  refine PW.seq fun K4 hK4 => ?_
  refine PW.quietK Try.mixed ?_
  refine QK.det trivial (.ldA rfl (vtxL_len _) (all_at (List.mem_flatten.2 ⟨_, .head _, List.mem_singleton.2 rfl⟩))) ?_
  refine QK.dp rfl ?_
  refine QK.dp rfl ?_
  refine QK.det trivial (.ixN rfl rfl rfl (by omega)) ?_
  refine QK.det trivial (.ldA rfl (vtxL_len _) (vtx_at hx.cons hkl)) ?_
  refine QK.nil ?_
  change OL _ _ _ [_] _ _ _
  refine OL.det trivial (.eqD (neg := false) rfl rfl (eqL_vtx _ _)) ?_
  refine OL.nil ?_
  refine hK4 _ _ ?_
  refine PW.k6 0 3 5 7 8 16 rfl rfl rfl rfl rfl rfl ?_
  refine PW.cond rfl (fun c16 => ?_) (fun c16 => ?_)
  ·try simp only [cvS] at c16
   have hqt : q l[k] = true := by rw [hq]; simpa using c16
   refine PW.seqOps ?_
   refine OL.dp rfl ?_
   refine OL.dp rfl ?_
   refine OL.nil ?_
   refine PW.k1 4 rfl ?_
   refine PW.ret ?_
   change (Exit.ret = Exit.normal ∨ Exit.ret = Exit.ret) /\ ∃ v, resV _ _ = some v /\ _
   exact ⟨.inr rfl, _, rfl, _, Sub.drop (Sub.refl _), by rw [idx_take hkl hall hqt], rfl⟩
  try simp only [cvS] at c16
  have hqf : q l[k] = false := by rw [hq]; simpa using c16
  refine PW.skip ?_
  refine hK3 _ _ ?_
  refine PW.k4 0 3 7 8 rfl rfl rfl rfl ?_
  refine PW.ops ?_
  refine OL.det trivial (.add64 rfl rfl (by omega) (by omega)) ?_
  refine OL.dp rfl ?_
  refine OL.nil ?_
  repeat rw [inBlk_n]
  try rw [thenK_n]
  refine LoopEnd.mk (T'' := [(0, _), (3, _), (7, _), (8, _)]) ⟨rfl, rfl, rfl, rfl, trivial⟩ ?_
  refine ⟨l.length - (k + 1), by omega, k + 1, ⟨by omega, rfl, fun x hx => ?_⟩, rfl, rfl⟩
  rw [vtake_snoc hkl, List.mem_append, List.mem_singleton] at hx
  rcases hx with hx | rfl
  ·exact hall x hx
  exact hqf
 try simp only [cvS] at c9
 refine PW.exit ?_
 refine hK1 _ _ ?_
 refine PW.keep (T' := []) trivial ?_
 refine PW.seqOps ?_
 refine OL.dp rfl ?_
 refine OL.nil ?_
 refine PW.k1 4 rfl ?_
 refine PW.ret ?_
 change (Exit.ret = Exit.normal ∨ Exit.ret = Exit.ret) /\ ∃ v, resV _ _ = some v /\ _
 exact ⟨.inr rfl, _, rfl, _, Sub.drop (Sub.refl _), by rw [idx_no (fun x hx => hall x (by rw [List.take_of_length_le (by omega)]; exact hx))], rfl⟩
theorem indexFunc_fc {w0 : World} {S : SS} {A : Option Addr} {c : Nat} {l : List Vtx} {g : FuncId} {ca : List Value} {q : Vtx -> Bool} (hx : Rd w0 S A (vtxs l)) (hb : l.length <= 1000000000000) (hok : fnOk Try.prog g = true)
  (hq : ∀ x ∈ l, FC Try.prog w0 g ([] ++ [vtxV x] ++ ca) S (fun u S' => u = .bool (q x) /\ S' = S)) :
  FC Try.prog w0 86 [.slice A l.length c, .func (.func g) #[] ca.toArray] S (fun u S' => u = .int .i64 (idxZ q l) /\ S' = S) := by
 refine FC.of Try.known86 (by simp) ?_
 unfold Try.pc86
 simp only [argT]
 refine PW.seqOps ?_
 refine OL.dp rfl ?_
 refine OL.nil ?_
 refine PW.k2 0 1 rfl rfl ?_
 refine PW.seq fun K1 hK1 => ?_
 refine PW.seqOps ?_
 refine OL.dp rfl ?_
 refine OL.dp rfl ?_
 refine OL.dp rfl ?_
 refine OL.nil ?_
 refine PW.k4 0 1 7 8 rfl rfl rfl rfl ?_
 refine PW.block ?_
 refine PW.k4 0 1 7 8 rfl rfl rfl rfl ?_
 refine PW.loopK (I := fun m T S' => ∃ (k : Nat), (k <= l.length /\ m = l.length - k /\ ∀ x ∈ l.take k, q x = false) /\ T = ([(0, .slice A l.length c), (1, .func (.func g) #[] ca.toArray), (7, .int .i64 (l.length : Int)), (8, .int .i64 k)] : TT) /\ S' = S) (m := l.length) ⟨0, ⟨by omega, by omega, by simp⟩, rfl, rfl⟩ ?_
 rintro m _ _ ⟨k, ⟨hk, hm, hall⟩, rfl, rfl⟩
 refine PW.seqOps ?_
 refine OL.dp rfl ?_
 refine OL.nil ?_
 refine PW.k5 0 1 7 8 9 rfl rfl rfl rfl rfl ?_
 refine PW.seq fun K2 hK2 => ?_
 refine PW.cond rfl (fun c9 => ?_) (fun c9 => ?_)
 ·try simp only [cvS] at c9
  have hkl : k < l.length := by omega
  obtain ⟨a0, rfl⟩ := vtxs_some hx (by omega)
  refine PW.skip ?_
  refine hK2 _ _ ?_
  refine PW.k4 0 1 7 8 rfl rfl rfl rfl ?_
  refine PW.seq fun K3 hK3 => ?_
  refine PW.block ?_
  refine PW.seqOps ?_
  refine OL.dp rfl ?_
  refine OL.dp rfl ?_
  refine OL.nil ?_
  refine PW.k5 0 1 5 7 8 rfl rfl rfl rfl rfl ?_
  refine PW.seqOps ?_
  refine OL.dp rfl ?_
  refine OL.dp rfl ?_
  refine OL.dp rfl ?_
  refine OL.det trivial (.ixN rfl rfl rfl (by omega)) ?_
  refine OL.det trivial (.ldA rfl (vtxL_len _) (vtx_at hx hkl)) ?_
  refine OL.cons trivial (OW.callv (fi := []) (ca := ca) rfl hok rfl (hq _ (List.getElem_mem hkl))) ?_
  rintro _ Sx ⟨rfl, hSx⟩
  rw [hSx]
  clear hSx
  refine OL.nil ?_
  refine PW.k6 0 1 5 7 8 16 rfl rfl rfl rfl rfl rfl ?_
  refine PW.cond rfl (fun c16 => ?_) (fun c16 => ?_)
  ·try simp only [cvS] at c16
   have hqt : q l[k] = true := by simpa using c16
   refine PW.seqOps ?_
   refine OL.dp rfl ?_
   refine OL.dp rfl ?_
   refine OL.nil ?_
   refine PW.k1 4 rfl ?_
   refine PW.ret ?_
   change (Exit.ret = Exit.normal ∨ Exit.ret = Exit.ret) /\ ∃ v, resV _ _ = some v /\ _
   exact ⟨.inr rfl, _, rfl, by rw [idx_take hkl hall hqt], rfl⟩
  try simp only [cvS] at c16
  have hqf : q l[k] = false := by simpa using c16
  refine PW.skip ?_
  refine hK3 _ _ ?_
  refine PW.k4 0 1 7 8 rfl rfl rfl rfl ?_
  refine PW.ops ?_
  refine OL.det trivial (.add64 rfl rfl (by omega) (by omega)) ?_
  refine OL.dp rfl ?_
  refine OL.nil ?_
  repeat rw [inBlk_n]
  try rw [thenK_n]
  refine LoopEnd.mk (T'' := [(0, _), (1, _), (7, _), (8, _)]) ⟨rfl, rfl, rfl, rfl, trivial⟩ ?_
  refine ⟨l.length - (k + 1), by omega, k + 1, ⟨by omega, rfl, fun x hx => ?_⟩, rfl, rfl⟩
  rw [vtake_snoc hkl, List.mem_append, List.mem_singleton] at hx
  rcases hx with hx | rfl
  ·exact hall x hx
  exact hqf
 try simp only [cvS] at c9
 refine PW.exit ?_
 refine hK1 _ _ ?_
 refine PW.keep (T' := []) trivial ?_
 refine PW.seqOps ?_
 refine OL.dp rfl ?_
 refine OL.nil ?_
 refine PW.k1 4 rfl ?_
 refine PW.ret ?_
 change (Exit.ret = Exit.normal ∨ Exit.ret = Exit.ret) /\ ∃ v, resV _ _ = some v /\ _
 exact ⟨.inr rfl, _, rfl, by rw [idx_no (fun x hx => hall x (by rw [List.take_of_length_le (by omega)]; exact hx))], rfl⟩
theorem contains_fc {w0 : World} {S : SS} {A : Option Addr} {c : Nat} {l : List Vtx} {v : Vtx} (hx : Rd w0 S A (vtxs l)) (hb : l.length <= 1000000000000) :
  FC Try.prog w0 85 [.slice A l.length c, vtxV v] S (fun u S' => u = .bool (l.any fun x => decide (v = x)) /\ S' = S) := by
 refine FC.ofD Try.known85 (by simp) ?_
 unfold Try.pc85
 simp only [argT]
 refine PW.seqOps ?_
 refine OL.cons trivial (OW.bx rfl) ?_
 rintro _ _ ⟨r3, rfl, rfl⟩
 rw [vtx_box, vtxL_len]
 refine OL.dp rfl ?_
 refine OL.nil ?_
 refine PW.k2 0 3 rfl rfl ?_
 refine PW.seqOps ?_
 refine OL.dp rfl ?_
 refine OL.det trivial (.ldA rfl (vtxL_len _) (all_at (List.mem_flatten.2 ⟨_, .head _, List.mem_singleton.2 rfl⟩))) ?_
 refine OL.call trivial rfl (index_fc hx.cons hb) ?_
 rintro _ Sx ⟨rfl, hSx⟩
 rw [hSx]
 clear hSx
 refine OL.dp rfl ?_
 refine OL.dp rfl ?_
 refine OL.nil ?_
 refine PW.k1 4 rfl ?_
 refine PW.ret ?_
 change (Exit.ret = Exit.normal ∨ Exit.ret = Exit.ret) /\ ∃ v, resV _ _ = some v /\ _
 exact ⟨.inr rfl, _, rfl, _, Sub.drop (Sub.refl _), congrArg Value.bool (by rw [Bool.eq_iff_iff, decide_eq_true_eq]; exact iff_of_eq idx_any), rfl⟩
theorem containsFunc_fc {w0 : World} {S : SS} {A : Option Addr} {c : Nat} {l : List Vtx} {g : FuncId} {ca : List Value} {q : Vtx -> Bool} (hx : Rd w0 S A (vtxs l)) (hb : l.length <= 1000000000000) (hok : fnOk Try.prog g = true)
  (hq : ∀ x ∈ l, FC Try.prog w0 g ([] ++ [vtxV x] ++ ca) S (fun u S' => u = .bool (q x) /\ S' = S)) :
  FC Try.prog w0 54 [.slice A l.length c, .func (.func g) #[] ca.toArray] S (fun u S' => u = .bool (l.any q) /\ S' = S) := by
 refine FC.of Try.known54 (by simp) ?_
 unfold Try.pc54
 simp only [argT]
 refine PW.seqOps ?_
 refine OL.dp rfl ?_
 refine OL.nil ?_
 refine PW.k2 0 1 rfl rfl ?_
 refine PW.seqOps ?_
 refine OL.dp rfl ?_
 refine OL.dp rfl ?_
 refine OL.call trivial rfl (indexFunc_fc hx hb hok hq) ?_
 rintro _ Sx ⟨rfl, hSx⟩
 rw [hSx]
 clear hSx
 refine OL.dp rfl ?_
 refine OL.dp rfl ?_
 refine OL.nil ?_
 refine PW.k1 4 rfl ?_
 refine PW.ret ?_
 change (Exit.ret = Exit.normal ∨ Exit.ret = Exit.ret) /\ ∃ v, resV _ _ = some v /\ _
 exact ⟨.inr rfl, _, rfl, congrArg Value.bool (by rw [Bool.eq_iff_iff, decide_eq_true_eq]; exact iff_of_eq idx_any), rfl⟩
theorem add1_fc {w0 : World} {S X : SS} {m : GrM} {b : Nat} (hm : GOk w0 X m) (hS : Over (GS m ++ X) S) {v : Vtx} (hv : okV v) (hb : Cell w0 S ⟨b, 0, none⟩ m.ptr) : FC Try.prog w0 55 [vtxV v, .pointer (some ⟨b, 0, none⟩)] S (fun u S' => u = .bool (!decide (v ∈ mks m.nodes)) /\ S' = S) := by
 refine FC.ofD Try.known55 (by simp) ?_
 unfold Try.pc55
 simp only [argT]
 refine PW.seqOps ?_
 refine OL.cons trivial (OW.bx rfl) ?_
 rintro _ _ ⟨r2, rfl, rfl⟩
 rw [vtx_box, vtxL_len]
 refine OL.dp rfl ?_
 refine OL.nil ?_
 refine PW.k2 1 2 rfl rfl ?_
 refine PW.seqOps ?_
 refine OL.det trivial (.ld rfl (hb.mono fun p hp => by simp [hp])) ?_
 refine OL.det trivial (.ldA rfl (vtxL_len _) (all_at (List.mem_flatten.2 ⟨_, .head _, List.mem_singleton.2 rfl⟩))) ?_
 refine OL.call trivial rfl (line_fc hm hS.cons hv) ?_
 rintro _ Sx ⟨rfl, hSx⟩
 rw [hSx]
 clear hSx
 refine OL.dp rfl ?_
 refine OL.dp rfl ?_
 refine OL.nil ?_
 refine PW.k1 3 rfl ?_
 refine PW.ret ?_
 change (Exit.ret = Exit.normal ∨ Exit.ret = Exit.ret) /\ ∃ v, resV _ _ = some v /\ _
 exact ⟨.inr rfl, _, rfl, _, Sub.drop (Sub.refl _), rfl, rfl⟩
end Go.Proofs.Gr

namespace Go.SL
open Go.RowKit
section
variable {P : Program} {w0 : World} {n : Nat} {T : TT} {S : SS}
theorem OW.appIn {t E sz bytes i q cap cp r tot k : Nat} {z : Value} {s x : PV} {a : Addr} {c news : List Value} (hs' : s.val T = some (.slice (some ⟨r, 0, none⟩) i cap)) (hk : S[k]? = some [(r, .cells c E tot)])
  (hx : x.val T = some (.slice (some a) q cp)) (hl : news.length = q * sz) (hc : ∀ j u, news[j]? = some u -> Cell w0 S (a.add j) u) (h1 : news.all (·.oneCell') = true)
  (hroom : i + q <= cap) (hfit : i * sz + news.length <= c.length) :
  OW P w0 n (.app t E sz bytes z s x) T S (fun v' S' => v' = .slice (some ⟨r, 0, none⟩) (i + q) cap /\ S' = S.set k [(r, .cells (setAt c (i * sz) news) E tot)]) := by
 intro op ac w Q hco hs hr
 obtain ⟨y, y', cl, ti, ho, hca, hat, har, rfl, rfl, hu, hi, hz, rfl, rfl, hzs, hsz⟩ := cOp_spec P hco
 obtain ⟨hge, C, hC, htot, hpre⟩ := hr.own (r, .cells c E tot) (List.mem_flatten.2 ⟨_, List.mem_of_getElem? hk, by simp⟩)
 simp only at hge hC
 have hlen : c.length <= C.size := by
  have := congrArg List.length hpre
  simp at this
  omega
 have hrun := run_append_room (P := P) w t op.type E ti hu hi r i cap C hC a q cp news hl (fun j u hj => hr.cell (hc j u hj)) (oneCells h1) hroom (by omega)
 unfold Oper.wp
 have hrun' : (execOp ac.eval op).run P w = .ok (.value (.slice (some ⟨r, 0, none⟩) (i + q) cap)) (w.setRow r (C.toList.take (i * ti.size) ++ news ++ C.toList.drop (i * ti.size + news.length)).toArray) := by
  simp only [execOp, ho, resolve, hca, invoke, builtin, hat, har]
  simp [hs.eval hs', hs.eval hx, hrun]
 rw [hrun']
 refine ⟨_, _, rfl, ?_, rfl, rfl⟩
 have hheap := setRow_heap w r C (C.toList.take (i * ti.size) ++ news ++ C.toList.drop (i * ti.size + news.length)).toArray E (0, 0) hC
 refine hr.replace hk (below_setRow w r _ hge) (fun i _ hne => setRow_heap_other w r i _ (by simpa using hne)) (by simp) ?_
 intro p hp
 simp only [List.mem_singleton] at hp
 subst hp
 refine ⟨hge, ⟨_, hheap, ?_, ?_⟩, .inl (by simp)⟩
 ·simp only [List.size_toArray, List.length_append, List.length_take, List.length_drop, Array.length_toList]; omega
 rw [setAt_length, setAt_eq c _ _ (by omega)]
 have := take_lay C.toList (i * ti.size) news c.length (by omega) (by simp; omega)
 rw [hpre] at this
 simpa using this
theorem Yields.sl3 {sz : Nat} {x lo hi mx : Operand} {A : Option Addr} {len cap l h m : Nat} {t E : TypeId} {i : TypeInfo} (hu : P.underlying t = some (.slice E)) (hi' : P.info? E = some i) (hsz : i.size = sz)
  (hx : (cV x).val T = some (.slice A len cap)) (hl : (cV lo).val T = some (.int .i64 (l : Int))) (hh : (cV hi).val T = some (.int .i64 (h : Int))) (hm : (cV mx).val T = some (.int .i64 (m : Int))) (h1 : l <= h) (h2 : h <= m) (h3 : m <= cap) :
  Yields P w0 n (.more (.other (.gen (.slice t x (some lo) (some hi) (some mx))))) T S (.slice (if m = l then A else A.map (·.add (l * sz))) (h - l) (m - l)) := by
 intro o a w hco hs hr
 have ho : o.op = .slice t x (some lo) (some hi) (some mx) := cOp_spec P hco
 subst hsz
 have b1 : ¬ ((cap : Int) < (m : Int)) := by omega
 simp only [execOp, ho, hs.eval hx, hs.eval hl, hs.eval hh, hs.eval hm, Instr.sliceAt, Option.map_some]
 simp [run_underlying hu, Instr.slice, Instr.sliceBounds, Instr.sliceBound, asIntOf, sizeOf, typeInfo, program, hi', Sem.run, h1, h2, h3]
def QP (P : Program) (w0 : World) (n : Nat) (Ss : SS -> Prop) (i : Nat) (l : List PI) (T : TT) (K : TT -> HL -> Prop) : Prop := ∃ T' vals hs, QM P w0 n Ss i l T T' vals hs /\ K T' hs
theorem QP.nil {Ss : SS -> Prop} {i : Nat} {K : TT -> HL -> Prop} (h : K T []) : QP P w0 n Ss i [] T K := ⟨T, [], [], .nil, h⟩
theorem QP.det {Ss : SS -> Prop} {i : Nat} {po : PO} {d : Option Nat} {g : Option (Nat × Bool)} {v : Value} {r : List PI} {K : TT -> HL -> Prop} (hg : gOk T g) (h : ∀ S, Ss S -> Yields P w0 n po T S v) (k : QP P w0 n Ss (i + 1) r (put d v T) K) : QP P w0 n Ss i (⟨d, g, po⟩ :: r) T K :=
 let ⟨T', vs, hs, h1, h2⟩ := k; ⟨T', _, hs, .step hg (fun S hS => OW.of_yields (h S hS)) h1, h2⟩
theorem QP.hole {Ss : SS -> Prop} {i : Nat} {c : PI} {r : List PI} {K : TT -> HL -> Prop} (k : QP P w0 n Ss (i + 1) r (SL.del c.d T) (fun T' hs => K T' ((i, c, T) :: hs))) : QP P w0 n Ss i (c :: r) T K :=
 let ⟨T', vs, hs, h1, h2⟩ := k; ⟨T', _, _, .hole h1, h2⟩
theorem PW.quietRPK {b : List Nat} {k : Nat} {l : List PI} {Ss : SS -> Prop} {Q : Exit -> TT -> SS -> Prop} (hm : P.follows .mixedOrders = true) (hS : Ss S)
  (h : QP P w0 n Ss 0 (l.take k) T (fun T2 hs => distB (l.take k) hs = true /\ noMovB hs = true /\ ordB b hs = true /\ LCh P w0 n Ss (fun Tl S' => OL P w0 n (l.drop k) (Tl ++ T2) S' (Q .normal)) hs [] S)) : PW P w0 n (.quietR b k l) T S Q :=
 let ⟨_, _, _, h1, h2, h3, h4, h5⟩ := h; PW.quietRN hm h1 h2 h3 h4 hS h5
end
end Go.SL









namespace Go.SL
open Go.RowKit
def madeL (z : List Value) (n : Nat) : List Value := (List.range n).map fun i => z.getD (i % z.length) undef
end Go.SL





namespace Go.SL
open Go.RowKit
section
variable {P : Program} {w0 : World} {n : Nat} {T Tc : TT} {S : SS}
theorem zeroCells_eq {z : Array Value} (h : 0 < z.size) (k : Nat) : (Builtin.zeroCells z k).toList = madeL z.toList (k * z.size) := by
 simp only [Builtin.zeroCells, madeL, Array.toList_map, Array.toList_range]
 apply List.map_congr_left
 intro i _
 have : i % z.size < z.size := Nat.mod_lt _ h
 rw [getElem!_pos z (i % z.size) this]
 simp [List.getD_eq_getElem?_getD, this]
theorem OW.clr {E E' sz b o l cp tot k : Nat} {z : Value} {x : PV} {c news : List Value} (hx : x.val T = some (.slice (some ⟨b, o, none⟩) l cp)) (hk : S[k]? = some [(b, .cells c E' tot)]) (hl : 0 < l) (hz : 0 < z.cells.size)
  (hn : news = madeL z.cells.toList (l * z.cells.size)) (hb : o + news.length <= c.length) (h1 : news.all (·.oneCell') = true) :
  OW P w0 n (.more (.clr E sz z x)) T S (fun v S' => v = .tuple #[] /\ S' = S.set k [(b, .cells (setAt c o news) E' tot)]) := by
 intro op a w Q hco hs hr
 obtain ⟨t, y, cl, i, ho, hca, hat, har, rfl, hu, hi, hiz, hsz, hzs, hs0⟩ := cOp_spec P hco
 obtain ⟨hge, C, hC, htot, hpre⟩ := hr.own (b, .cells c E' tot) (List.mem_flatten.2 ⟨_, List.mem_of_getElem? hk, by simp⟩)
 simp only at hge hC
 have hlen : c.length <= C.size := by
  have := congrArg List.length hpre
  simp at this
  omega
 have hst := run_storeCells_at P b o E' news 0 C w hC (by omega) (fun v hv => (List.all_eq_true.1 h1) v hv)
 simp only [Nat.add_zero] at hst
 unfold Oper.wp
 have hrun : (execOp a.eval op).run P w = .ok (.value (.tuple #[])) (w.setRow b (C.toList.take o ++ news ++ C.toList.drop (o + news.length)).toArray) := by
  simp only [execOp, ho, resolve, hca, invoke, builtin, hat, har]
  obtain ⟨l', rfl⟩ : ∃ l', l = l' + 1 := ⟨l - 1, by omega⟩
  simp [Builtin.clear_, hs.eval hx, run_underlying hu, zeroValue, typeInfo, program, Sem.run, hi, hiz, zeroCells_eq hz, <- hn, hst]
 rw [hrun]
 refine ⟨_, _, rfl, ?_, rfl, rfl⟩
 have hheap := setRow_heap w b C (C.toList.take o ++ news ++ C.toList.drop (o + news.length)).toArray E' (0, 0) hC
 refine hr.replace hk (below_setRow w b _ hge) (fun i _ hne => setRow_heap_other w b i _ (by simpa using hne)) (by simp) ?_
 intro p hp
 simp only [List.mem_singleton] at hp
 subst hp
 refine ⟨hge, ⟨_, hheap, ?_, ?_⟩, .inl (by simp)⟩
 ·simp only [List.size_toArray, List.length_append, List.length_take, List.length_drop, Array.length_toList]; omega
 rw [setAt_length, setAt_eq c o _ (by omega)]
 have := take_lay C.toList o news c.length (by omega) (by simp; omega)
 simp only at this ⊢
 rw [hpre] at this
 simpa using this
end
end Go.SL
