/- Walks. -/
import Derived.Test.YtbejcoeajlhmcaaGreatPart2
import Derived.Test.YtbejcoeajlhmcaaGreatProg
import Derived.Maps.RangeRun
import Derived.DeepKeys4
set_option linter.unusedVariables false
set_option linter.unusedSimpArgs false
set_option linter.unusedSectionVars false

abbrev Go.SL.zo (d : Nat) (x : Go.SL.PO) : Go.SL.PI := ⟨some d, none, x⟩
abbrev Go.SL.zm (d a : Nat) : Go.SL.PI := ⟨some d, none, .mov (.t a)⟩
abbrev Go.SL.zg (d g : Nat) (b : Bool) (x : Go.SL.PO) : Go.SL.PI := ⟨some d, some (g, b), x⟩
abbrev Go.SL.zz : Go.Value := .int .u8 0
abbrev Go.SL.yy : Go.SL.CK := .int .u8
abbrev Go.SL.zC0 : List Go.Value := [.int .i64 0, Go.SL.zz, Go.SL.zz, Go.SL.zz, Go.SL.zz, Go.SL.zz, Go.SL.zz, Go.SL.zz, Go.SL.zz, Go.SL.zz, Go.SL.zz, Go.SL.zz, Go.SL.zz, Go.SL.zz, Go.SL.zz, Go.SL.zz, Go.SL.zz, Go.SL.zz, Go.SL.zz, Go.SL.zz, Go.SL.zz, Go.SL.zz, Go.SL.zz, Go.SL.zz, Go.SL.zz, Go.SL.zz, Go.SL.zz, Go.SL.zz, Go.SL.zz, Go.SL.zz, Go.SL.zz, Go.SL.zz, Go.SL.zz, .int .i64 0, .string ⟨#[]⟩, .int .i64 0, .int .u64 0, Go.SL.zz, Go.SL.zz, Go.SL.zz, Go.SL.zz, Go.SL.zz, Go.SL.zz, Go.SL.zz, Go.SL.zz, Go.SL.zz, Go.SL.zz, Go.SL.zz, Go.SL.zz, Go.SL.zz, Go.SL.zz, Go.SL.zz, Go.SL.zz, Go.SL.zz, Go.SL.zz, Go.SL.zz, Go.SL.zz, Go.SL.zz, Go.SL.zz, Go.SL.zz, Go.SL.zz, Go.SL.zz, Go.SL.zz, Go.SL.zz, Go.SL.zz, Go.SL.zz, Go.SL.zz, Go.SL.zz, Go.SL.zz, .int .i64 0, Go.SL.zz, Go.SL.zz, Go.SL.zz, Go.SL.zz, Go.SL.zz, Go.SL.zz, Go.SL.zz, Go.SL.zz, Go.SL.zz, Go.SL.zz, Go.SL.zz, Go.SL.zz, Go.SL.zz, Go.SL.zz, Go.SL.zz, Go.SL.zz, Go.SL.zz, Go.SL.zz, Go.SL.zz, Go.SL.zz, Go.SL.zz, Go.SL.zz, Go.SL.zz, Go.SL.zz, Go.SL.zz, Go.SL.zz, Go.SL.zz, Go.SL.zz, Go.SL.zz, Go.SL.zz, Go.SL.zz, Go.SL.zz, .int .i64 0, .slice none 0 0, .slice none 0 0]
abbrev Go.SL.zC1 : List Go.Value := [Go.SL.zz, Go.SL.zz, Go.SL.zz, Go.SL.zz, Go.SL.zz, Go.SL.zz, Go.SL.zz, Go.SL.zz, Go.SL.zz, Go.SL.zz, Go.SL.zz, Go.SL.zz, Go.SL.zz, Go.SL.zz, Go.SL.zz, Go.SL.zz, Go.SL.zz, Go.SL.zz, Go.SL.zz, Go.SL.zz, Go.SL.zz, Go.SL.zz, Go.SL.zz, Go.SL.zz, Go.SL.zz, Go.SL.zz, Go.SL.zz, Go.SL.zz, Go.SL.zz, Go.SL.zz, Go.SL.zz, Go.SL.zz, .int .i64 0, .int .i64 0, Go.SL.zz, Go.SL.zz, Go.SL.zz, Go.SL.zz, Go.SL.zz, Go.SL.zz, Go.SL.zz, Go.SL.zz, Go.SL.zz, Go.SL.zz, Go.SL.zz, Go.SL.zz, Go.SL.zz, Go.SL.zz, Go.SL.zz, Go.SL.zz, Go.SL.zz, Go.SL.zz, Go.SL.zz, Go.SL.zz, Go.SL.zz, Go.SL.zz, Go.SL.zz, Go.SL.zz, Go.SL.zz, Go.SL.zz, Go.SL.zz, Go.SL.zz, Go.SL.zz, Go.SL.zz, Go.SL.zz, Go.SL.zz, .int .i64 0, Go.SL.zz, Go.SL.zz, Go.SL.zz, Go.SL.zz, Go.SL.zz, Go.SL.zz, Go.SL.zz, Go.SL.zz, Go.SL.zz, Go.SL.zz, Go.SL.zz, Go.SL.zz, Go.SL.zz, Go.SL.zz, Go.SL.zz, Go.SL.zz, Go.SL.zz, Go.SL.zz, Go.SL.zz, Go.SL.zz, Go.SL.zz, Go.SL.zz, Go.SL.zz, Go.SL.zz, Go.SL.zz, Go.SL.zz, Go.SL.zz, Go.SL.zz, Go.SL.zz, Go.SL.zz, Go.SL.zz, Go.SL.zz, .int .i64 0, .slice none 0 0, .slice none 0 0]
abbrev Go.SL.zC2 : List Go.Value := [Go.SL.zz, Go.SL.zz, Go.SL.zz, Go.SL.zz, Go.SL.zz, Go.SL.zz, Go.SL.zz, Go.SL.zz, Go.SL.zz, Go.SL.zz, Go.SL.zz, Go.SL.zz, Go.SL.zz, Go.SL.zz, Go.SL.zz, Go.SL.zz, Go.SL.zz, Go.SL.zz, Go.SL.zz, Go.SL.zz, Go.SL.zz, Go.SL.zz, Go.SL.zz, Go.SL.zz, Go.SL.zz, Go.SL.zz, Go.SL.zz, Go.SL.zz, Go.SL.zz, Go.SL.zz, Go.SL.zz, Go.SL.zz, .int .i64 0, Go.SL.zz, Go.SL.zz, Go.SL.zz, Go.SL.zz, Go.SL.zz, Go.SL.zz, Go.SL.zz, Go.SL.zz, Go.SL.zz, Go.SL.zz, Go.SL.zz, Go.SL.zz, Go.SL.zz, Go.SL.zz, Go.SL.zz, Go.SL.zz, Go.SL.zz, Go.SL.zz, Go.SL.zz, Go.SL.zz, Go.SL.zz, Go.SL.zz, Go.SL.zz, Go.SL.zz, Go.SL.zz, Go.SL.zz, Go.SL.zz, Go.SL.zz, Go.SL.zz, Go.SL.zz, Go.SL.zz, Go.SL.zz, .int .i64 0]
abbrev Go.SL.zC3 : List Go.Value := [Go.SL.zz, Go.SL.zz, Go.SL.zz, Go.SL.zz, Go.SL.zz, Go.SL.zz, Go.SL.zz, Go.SL.zz, Go.SL.zz, Go.SL.zz, Go.SL.zz, Go.SL.zz, Go.SL.zz, Go.SL.zz, Go.SL.zz, Go.SL.zz, Go.SL.zz, Go.SL.zz, Go.SL.zz, Go.SL.zz, Go.SL.zz, Go.SL.zz, Go.SL.zz, Go.SL.zz, Go.SL.zz, Go.SL.zz, Go.SL.zz, Go.SL.zz, Go.SL.zz, Go.SL.zz, Go.SL.zz, Go.SL.zz, .int .i64 0, .string ⟨#[]⟩, .bool false]
abbrev Go.SL.zC4 : List Go.Value := [Go.SL.zz, Go.SL.zz, Go.SL.zz, Go.SL.zz, Go.SL.zz, Go.SL.zz, Go.SL.zz, Go.SL.zz, Go.SL.zz, Go.SL.zz, Go.SL.zz, Go.SL.zz, Go.SL.zz, Go.SL.zz, Go.SL.zz, Go.SL.zz, Go.SL.zz, Go.SL.zz, Go.SL.zz, Go.SL.zz, Go.SL.zz, Go.SL.zz, Go.SL.zz, Go.SL.zz, Go.SL.zz, Go.SL.zz, Go.SL.zz, Go.SL.zz, Go.SL.zz, Go.SL.zz, Go.SL.zz, Go.SL.zz, .int .i64 0]
abbrev Go.SL.zC5 : List Go.SL.CK := [Go.SL.yy, Go.SL.yy, Go.SL.yy, Go.SL.yy, Go.SL.yy, Go.SL.yy, Go.SL.yy, Go.SL.yy, Go.SL.yy, Go.SL.yy, Go.SL.yy, Go.SL.yy, Go.SL.yy, Go.SL.yy, Go.SL.yy, Go.SL.yy, Go.SL.yy, Go.SL.yy, Go.SL.yy, Go.SL.yy, Go.SL.yy, Go.SL.yy, Go.SL.yy, Go.SL.yy, Go.SL.yy, Go.SL.yy, Go.SL.yy, Go.SL.yy, Go.SL.yy, Go.SL.yy, Go.SL.yy, Go.SL.yy, .int .i64]
abbrev Go.SL.zC6 : List Go.Value := [Go.SL.zz, Go.SL.zz, Go.SL.zz, Go.SL.zz, Go.SL.zz, Go.SL.zz, Go.SL.zz, Go.SL.zz, Go.SL.zz, Go.SL.zz, Go.SL.zz, Go.SL.zz, Go.SL.zz, Go.SL.zz, Go.SL.zz, Go.SL.zz, Go.SL.zz, Go.SL.zz, Go.SL.zz, Go.SL.zz, Go.SL.zz, Go.SL.zz, Go.SL.zz, Go.SL.zz, Go.SL.zz, Go.SL.zz, Go.SL.zz, Go.SL.zz, Go.SL.zz, Go.SL.zz, Go.SL.zz, .int .u8 0]
abbrev Go.SL.zC7 : List Go.Value := [.string ⟨#[]⟩, .int .i64 0, .int .i64 0, .slice none 0 0]
abbrev Go.SL.zC8 : List Go.Value := [.slice none 0 0, .bool false, .slice none 0 0]
abbrev Go.SL.zC9 : List Go.Value := [.int .i64 0, .int .i64 0, .slice none 0 0]
abbrev Go.SL.zC10 : List Go.Value := [.int .i64 0, .int .i64 0, .int .i64 0]
abbrev Go.SL.zC11 : List Go.Value := [.string ⟨#[]⟩]
abbrev Go.SL.zi : Go.SL.PV := .v (.int .i64 0)
abbrev Go.SL.zj : Go.SL.PV := .v (.int .i64 1)
abbrev Go.SL.zf : Go.SL.PV := .v (.bool false)
abbrev Go.SL.zt : Go.SL.PV := .v (.bool true)
namespace Go.Proofs
open Go.SL
set_option maxRecDepth 100000
theorem Tryz.mixed : Tryz.prog.follows .mixedOrders = true := by kernel_rfl
def Tryz.pc5 : PC :=
 (.seq (.ops [zo 6 (.mov zf)])
 (.seq (.seq (.ops [zm 18 0, zo 19 (.call 6 [(.t 18), (.v (.slice none 0 0))]), zm 20 19, zg 21 20 false (.mov (.t 2)), zg 22 20 false (.lenStr (.t 21)), zg 23 20 false (.bin .gtr (.t 22) (.v (.int .i64 100))), zo 24 (.pick (.t 20) zt (.t 23)), zm 25 24, zg 26 25 false (.mov (.t 2)), zg 27 25 false (.call 20 [(.t 26)]), zg 28 25 false (.not (.t 27)), zo 29 (.pick (.t 25) zt (.t 28)), zm 30 29, zg 31 30 false (.mov (.t 0)), zg 32 30 false (.call 14 [(.t 31)]), zg 33 30 false (.not (.t 32)), zo 34 (.pick (.t 30) zt (.t 33))])
 (.cond (.t 34) (.seq (.ops [zo 35 (.call 7 []), zm 6 35])
 .ret) .skip))
 (.seq (.ops [zm 37 0, zo 38 (.call 8 [(.t 37)]), zm 36 38, zo 39 (.ext 0 (.t 36)), zo 40 (.ext 1 (.t 36)), zm 7 39, zm 8 40])
 (.seq (.ops [zm 41 7, zo 42 (.call 16 [(.t 41)]), zm 9 42])
 (.seq (.ops [zm 43 9, zo 44 (.call 15 [(.t 43)]), zm 10 44])
 (.seq (.seq (.ops [zm 45 9, zo 46 (.call 19 [(.t 45)]), zm 47 46, zg 48 47 false (.mov (.t 10)), zg 49 47 false (.lenS (.t 48)), zg 50 47 false (.bin .gtr (.t 49) (.v (.int .i64 100))), zo 51 (.pick (.t 47) zt (.t 50))])
 (.cond (.t 51) (.seq (.ops [zo 52 (.call 7 []), zm 6 52])
 .ret) .skip))
 (.seq (.ops [zm 53 1, zo 54 (.cvt .i64 (.t 53)), zm 55 10, zo 56 (.lenS (.t 55)), zo 57 (.bin .add (.t 56) zj), zo 58 (.bin .rem (.t 54) (.t 57)), zm 11 58])
 (.seq (.quietR [0, 0, 0, 6, 15, 0, 32, 127, 0, 0, 768] 11 [zo 59 (.bsl0 9), zm 60 10, zm 61 11, zo 62 (.slS 1 (.t 60) none (some (.t 61))), zo 63 (.app 23 9 1 16 (.string ⟨#[]⟩) (.t 59) (.t 62)), zm 64 2, zo 65 (.bsl 9 zC11 1 [(0, 1, (.t 64))]), zo 66 (.app 23 9 1 16 (.string ⟨#[]⟩) (.t 63) (.t 65)), zm 67 10, zm 68 11, zo 69 (.slS 1 (.t 67) (some (.t 68)) none), zo 70 (.app 23 9 1 16 (.string ⟨#[]⟩) (.t 66) (.t 69)), zm 12 70])
 (.seq (.ops [zo 72 (.build zC4 []), zm 73 7, zm 74 12, zo 75 (.call 9 [(.t 72), (.t 73), (.t 74)]), zm 71 75, zo 76 (.ext 0 (.t 71)), zo 77 (.ext 1 (.t 71)), zm 13 76, zm 14 77])
 (.seq (.seq (.ops [zm 78 14, zo 79 (.bin .neq (.t 78) zi), zm 80 79, zg 81 80 false (.mov (.t 13)), zg 82 80 false (.lenS (.t 81)), zg 83 80 false (.bin .neq (.t 82) zj), zo 84 (.pick (.t 80) zt (.t 83)), zm 85 84, zg 86 85 false (.mov (.t 13)), zg 87 85 false (.ixS 105 (.t 86) zi), zg 88 85 false (.fa 103 (.t 87)), zg 89 85 false (.ld (.t 88)), zg 90 85 false (.lenS (.t 89)), zg 91 85 false (.bin .neq (.t 90) zi), zo 92 (.pick (.t 85) zt (.t 91)), zm 93 92, zg 94 93 false (.mov (.t 13)), zg 95 93 false (.ixS 105 (.t 94) zi), zg 96 93 false (.fa 104 (.t 95)), zg 97 93 false (.ld (.t 96)), zg 98 93 false (.lenS (.t 97)), zg 99 93 false (.bin .neq (.t 98) zj), zo 100 (.pick (.t 93) zt (.t 99)), zm 101 100, zg 102 101 false (.mov (.t 13)), zg 103 101 false (.ixS 105 (.t 102) zi), zg 104 101 false (.fa 104 (.t 103)), zg 105 101 false (.ld (.t 104)), zg 106 101 false (.ixS 1 (.t 105) zi), zg 107 101 false (.ld (.t 106)), zg 108 101 false (.mov (.t 2)), zg 109 101 false (.bin .neq (.t 107) (.t 108)), zo 110 (.pick (.t 101) zt (.t 109))])
 (.cond (.t 110) (.seq (.ops [zo 6 (.mov zf)])
 .ret) .skip))
 (.seq (.seq (.ops [zm 111 11, zm 112 10, zo 113 (.lenS (.t 112)), zo 114 (.bin .eql (.t 111) (.t 113))])
 (.cond (.t 114) (.seq (.ops [zo 115 (.call 7 []), zm 6 115])
 .ret) .skip))
 (.seq (.quietR [0, 0, 0, 6, 15, 0, 0, 64, 224] 9 [zo 116 (.bsl0 9), zm 117 10, zm 118 11, zo 119 (.slS 1 (.t 117) none (some (.t 118))), zo 120 (.app 23 9 1 16 (.string ⟨#[]⟩) (.t 116) (.t 119)), zm 121 10, zm 122 11, zo 123 (.bin .add (.t 122) zj), zo 124 (.slS 1 (.t 121) (some (.t 123)) none), zo 125 (.app 23 9 1 16 (.string ⟨#[]⟩) (.t 120) (.t 124)), zm 15 125])
 (.seq (.ops [zo 127 (.build zC4 []), zm 128 7, zm 129 15, zo 130 (.call 9 [(.t 127), (.t 128), (.t 129)]), zm 126 130, zo 131 (.ext 0 (.t 126)), zo 132 (.ext 1 (.t 126)), zm 16 131, zm 17 132])
 (.seq (.ops [zm 133 17, zo 134 (.bin .eql (.t 133) zi), zm 135 134, zg 136 135 true (.mov (.t 16)), zg 137 135 true (.lenS (.t 136)), zg 138 135 true (.bin .eql (.t 137) zj), zo 139 (.pick (.t 135) (.t 138) zf), zm 140 139, zg 141 140 true (.mov (.t 16)), zg 142 140 true (.ixS 105 (.t 141) zi), zg 143 140 true (.fa 104 (.t 142)), zg 144 140 true (.ld (.t 143)), zg 145 140 true (.lenS (.t 144)), zg 146 140 true (.bin .eql (.t 145) zi), zo 147 (.pick (.t 140) (.t 146) zf), zm 148 147, zg 149 148 true (.mov (.t 16)), zg 150 148 true (.ixS 105 (.t 149) zi), zg 151 148 true (.fa 103 (.t 150)), zg 152 148 true (.ld (.t 151)), zg 153 148 true (.lenS (.t 152)), zg 154 148 true (.bin .eql (.t 153) zj), zo 155 (.pick (.t 148) (.t 154) zf), zm 156 155, zg 157 156 true (.call 7 []), zo 158 (.pick (.t 156) (.t 157) zf), zm 6 158])
 .ret))))))))))))))
theorem Tryz.known5 : Known Tryz.prog 5 Tryz.pc5 159 [6] := ⟨Tryz.f5, _, Tryz.func5, rfl, by kernel_rfl, rfl, rfl⟩
def Tryz.pc6 : PC :=
 (.seq (.ops [zo 4 (.mov zf)])
 (.seq (.ops [zo 5 (.mov zi)])
 (.seq (.seq (.ops [zo 6 (.mov zi)])
 (.block 0 (.loop (.seq (.seq (.ops [zm 8 6, zm 9 0, zo 10 (.lenS (.t 9)), zo 11 (.bin .lss (.t 8) (.t 10)), zm 12 11, zg 13 12 true (.mov (.t 6)), zg 14 12 true (.bin .lss (.t 13) (.v (.int .i64 20))), zo 15 (.pick (.t 12) (.t 14) zf)])
 (.cond (.t 15) .skip (.exit 0)))
 (.seq (.block 1 (.seq (.ops [zm 18 0, zm 19 6, zo 20 (.ixS 102 (.t 18) (.t 19)), zo 21 (.fa 100 (.t 20)), zo 22 (.ld (.t 21)), zo 23 (.lenS (.t 22)), zo 24 (.bin .gtr (.t 23) (.v (.int .i64 10))), zm 25 24, zg 26 25 false (.mov (.t 0)), zg 27 25 false (.mov (.t 6)), zg 28 25 false (.ixS 102 (.t 26) (.t 27)), zg 29 25 false (.fa 101 (.t 28)), zg 30 25 false (.ld (.t 29)), zg 31 25 false (.lenS (.t 30)), zg 32 25 false (.bin .gtr (.t 31) (.v (.int .i64 12))), zo 33 (.pick (.t 25) zt (.t 32)), zm 34 33, zg 35 34 false (.mov (.t 0)), zg 36 34 false (.mov (.t 6)), zg 37 34 false (.ixS 102 (.t 35) (.t 36)), zg 38 34 false (.fa 33 (.t 37)), zg 39 34 false (.ld (.t 38)), zg 40 34 false (.bin .gtr (.t 39) (.v (.int .i64 1000000))), zo 41 (.pick (.t 34) zt (.t 40))])
 (.cond (.t 41) (.seq (.ops [zo 4 (.mov zt)])
 .ret) .skip)))
 (.ops [zm 16 6, zo 17 (.bin .add (.t 16) zj), zm 6 17]))))))
 (.seq (.seq (.ops [zo 7 (.mov zi)])
 (.block 2 (.loop (.seq (.seq (.ops [zm 42 7, zm 43 1, zo 44 (.lenS (.t 43)), zo 45 (.bin .lss (.t 42) (.t 44)), zm 46 45, zg 47 46 true (.mov (.t 7)), zg 48 46 true (.bin .lss (.t 47) (.v (.int .i64 300))), zo 49 (.pick (.t 46) (.t 48) zf)])
 (.cond (.t 49) .skip (.exit 2)))
 (.seq (.block 3 (.ops [zm 52 5, zm 53 1, zm 54 7, zo 55 (.ixS 1 (.t 53) (.t 54)), zo 56 (.ld (.t 55)), zo 57 (.lenStr (.t 56)), zo 58 (.bin .add (.t 52) (.t 57)), zm 5 58]))
 (.ops [zm 50 7, zo 51 (.bin .add (.t 50) zj), zm 7 51]))))))
 (.seq (.ops [zm 59 0, zo 60 (.lenS (.t 59)), zo 61 (.bin .gtr (.t 60) (.v (.int .i64 12))), zm 62 61, zg 63 62 false (.mov (.t 5)), zg 64 62 false (.bin .gtr (.t 63) (.v (.int .i64 20000))), zo 65 (.pick (.t 62) zt (.t 64)), zm 66 65, zg 67 66 false (.mov (.t 1)), zg 68 66 false (.lenS (.t 67)), zg 69 66 false (.bin .gtr (.t 68) (.v (.int .i64 120))), zg 70 66 false (.mov (.t 69)), zg 71 70 true (.mov (.t 1)), zg 72 70 true (.lenS (.t 71)), zg 73 70 true (.bin .leq (.t 72) (.v (.int .i64 256))), zg 74 66 false (.pick (.t 70) (.t 73) zf), zo 75 (.pick (.t 66) zt (.t 74)), zm 76 75, zg 77 76 false (.mov (.t 1)), zg 78 76 false (.lenS (.t 77)), zg 79 76 false (.bin .gtr (.t 78) (.v (.int .i64 300))), zo 80 (.pick (.t 76) zt (.t 79)), zm 4 80])
 .ret)))))
theorem Tryz.known6 : Known Tryz.prog 6 Tryz.pc6 81 [4] := ⟨Tryz.f6, _, Tryz.func6, rfl, by kernel_rfl, rfl, rfl⟩
def Tryz.pc7 : PC :=
 (.seq (.ops [zo 0 (.mov zf)])
 (.seq (.ops [zo 4 (.bsl 9 [.string ⟨#[]⟩, .string ⟨#[]⟩, .string ⟨#[]⟩, .string ⟨#[]⟩] 4 [(0, 1, (.v (.string ⟨#[97]⟩))), (1, 1, (.v (.string ⟨#[120]⟩))), (2, 1, (.v (.string ⟨#[98]⟩))), (3, 1, (.v (.string ⟨#[99]⟩)))]), zo 5 (.call 21 [(.t 4)]), zo 1 (.al 46 zC0), ⟨none, none, .st 105 (.t 1) (.t 5)⟩])
 (.seq (.ops [zo 7 (.build zC4 []), zo 8 (.call 22 []), zo 9 (.bsl 9 [.string ⟨#[]⟩, .string ⟨#[]⟩, .string ⟨#[]⟩] 3 [(0, 1, (.v (.string ⟨#[97]⟩))), (1, 1, (.v (.string ⟨#[98]⟩))), (2, 1, (.v (.string ⟨#[99]⟩)))]), zo 10 (.call 9 [(.t 7), (.t 8), (.t 9)]), zm 6 10, zo 11 (.ext 0 (.t 6)), zo 12 (.ext 1 (.t 6)), zm 2 11, zm 3 12])
 (.seq (.quietR [0, 1, 3, 7, 15, 31, 15, 127, 255, 511, 1023, 2047, 1023] 13 [zo 13 (.fa 0 (.t 1)), zo 14 (.ld (.t 13)), zo 15 (.bin .eql (.t 14) (.v (.int .i64 5))), zm 16 15, zg 17 16 true (.fa 37 (.t 1)), zg 18 16 true (.ldA 33 (.t 17)), zg 19 16 true (.call 23 [zj]), zg 20 16 true (.more (.eqD false 27 zC5 (.t 18) (.t 19))), zo 21 (.pick (.t 16) (.t 20) zf), zm 22 21, zg 23 22 true (.fa 70 (.t 1)), zg 24 22 true (.ldA 33 (.t 23)), zg 25 22 true (.call 23 [(.v (.int .i64 2))]), zg 26 22 true (.more (.eqD false 27 zC5 (.t 24) (.t 25))), zo 27 (.pick (.t 22) (.t 26) zf), zm 28 27, zg 29 28 true (.fa 104 (.t 1)), zg 30 28 true (.ld (.t 29)), zg 31 28 true (.lenS (.t 30)), zg 32 28 true (.bin .eql (.t 31) zj), zo 33 (.pick (.t 28) (.t 32) zf), zm 34 33, zg 35 34 true (.fa 104 (.t 1)), zg 36 34 true (.ld (.t 35)), zg 37 34 true (.ixS 1 (.t 36) zi), zg 38 34 true (.ld (.t 37)), zg 39 34 true (.bin .eql (.t 38) (.v (.string ⟨#[120]⟩))), zo 40 (.pick (.t 34) (.t 39) zf), zm 41 40, zg 42 41 true (.fa 103 (.t 1)), zg 43 41 true (.ld (.t 42)), zg 44 41 true (.lenS (.t 43)), zg 45 41 true (.bin .eql (.t 44) zi), zo 46 (.pick (.t 41) (.t 45) zf), zm 47 46, zg 48 47 true (.mov (.t 3)), zg 49 47 true (.bin .eql (.t 48) zi), zo 50 (.pick (.t 47) (.t 49) zf), zm 51 50, zg 52 51 true (.mov (.t 2)), zg 53 51 true (.lenS (.t 52)), zg 54 51 true (.bin .eql (.t 53) zi), zo 55 (.pick (.t 51) (.t 54) zf), zm 0 55])
 .ret))))
theorem Tryz.known7 : Known Tryz.prog 7 Tryz.pc7 56 [0] := ⟨Tryz.f7, _, Tryz.func7, rfl, by kernel_rfl, rfl, rfl⟩
def Tryz.pc8 : PC :=
 (.seq (.ops [zo 2 (.mov (.v (.pointer none))), zo 3 (.mov (.v (.slice none 0 0)))])
 (.seq (.ops [zo 8 (.call 24 []), zm 4 8])
 (.seq (.ops [zo 5 (.mov (.v (.slice none 0 0)))])
 (.seq (.seq (.ops [zo 6 (.mov zi)])
 (.block 0 (.loop (.seq (.seq (.ops [zm 9 6, zm 10 0, zo 11 (.lenS (.t 10)), zo 12 (.bin .lss (.t 9) (.t 11))])
 (.cond (.t 12) .skip (.exit 0)))
 (.seq (.block 1 (.seq (.ops [zm 15 0, zm 16 6, zo 17 (.ixS 102 (.t 15) (.t 16)), zo 18 (.ldA 102 (.t 17)), zo 7 (.al 59 zC1), ⟨none, none, .st 102 (.t 7) (.t 18)⟩])
 (.seq (.ops [zm 19 4, zo 20 (.ldA 102 (.t 7)), zo 21 (.call 25 [(.t 19), (.t 20)]), zo 22 (.bin .eql (.t 21) zi)])
 (.cond (.t 22) (.ops [zm 24 5, zo 25 (.fa 0 (.t 7)), zo 26 (.ldA 32 (.t 25)), zo 27 (.fa 32 (.t 7)), zo 28 (.ld (.t 27)), zo 29 (.fa 33 (.t 7)), zo 30 (.ld (.t 29)), zo 31 (.fa 34 (.t 7)), zo 32 (.ldA 33 (.t 31)), zo 33 (.fa 67 (.t 7)), zo 34 (.ldA 33 (.t 33)), zo 35 (.fa 100 (.t 7)), zo 36 (.ld (.t 35)), zo 37 (.fa 101 (.t 7)), zo 38 (.ld (.t 37)), zo 39 (.build zC1 [(0, 32, (.t 26)), (32, 1, (.t 28)), (33, 1, (.t 30)), (34, 33, (.t 32)), (67, 33, (.t 34)), (100, 1, (.t 36)), (101, 1, (.t 38))]), zo 40 (.call 26 [(.t 24), (.t 39)]), zm 23 40, zo 41 (.ext 0 (.t 23)), zo 42 (.ext 1 (.t 23)), zm 5 41]) .skip))))
 (.ops [zm 13 6, zo 14 (.bin .add (.t 13) zj), zm 6 14]))))))
 (.seq (.ops [zm 43 4, zm 44 5, zm 2 43, zm 3 44])
 .ret)))))
theorem Tryz.known8 : Known Tryz.prog 8 Tryz.pc8 45 [2, 3] := ⟨Tryz.f8, _, Tryz.func8, rfl, by kernel_rfl, rfl, rfl⟩
def Tryz.pc9 : PC :=
 (.seq (.ops [zo 3 (.bx 27 (.t 0)), zo 6 (.mov (.v (.slice none 0 0))), zo 7 (.mov zi)])
 (.seq (.ops [zm 20 1, zo 21 (.call 16 [(.t 20)]), zo 22 (.build [.slice none 0 0, .slice none 0 0, .slice none 0 0] [(0, 1, (.t 21))]), zo 23 (.bx 71 (.t 22)), zm 8 23])
 (.seq (.ops [zm 24 8, zm 25 8, zo 26 (.nilc (.t 25)), zo 27 (.fa 0 (.t 26)), zo 28 (.ld (.t 27)), zo 29 (.lenS (.t 28)), zo 30 (.mkS 69 4 1 1 (.bool false) (.t 29) (.t 29)), zo 31 (.nilc (.t 24)), zo 32 (.fa 2 (.t 31)), ⟨none, none, .st 1 (.t 32) (.t 30)⟩])
 (.seq (.seq (.ops [zm 33 8, zo 34 (.nilc (.t 33)), zo 35 (.fa 0 (.t 34)), zo 36 (.ld (.t 35)), zo 37 (.lenS (.t 36)), zo 38 (.mov zi)])
 (.block 0 (.loop (.seq (.ops [zo 39 (.bin .lss (.t 38) (.t 37))])
 (.seq (.cond (.t 39) .skip (.exit 0))
 (.seq (.block 1 (.seq (.ops [zo 40 (.ixS 3 (.t 36) (.t 38)), zo 41 (.ldA 3 (.t 40)), zo 10 (.al 75 zC8), ⟨none, none, .st 3 (.t 10) (.t 41)⟩])
 (.quietR [0, 0, 2, 6, 14, 0, 32, 96, 224] 9 [zm 42 8, zm 43 8, zo 44 (.nilc (.t 43)), zo 45 (.fa 1 (.t 44)), zo 46 (.ld (.t 45)), zo 47 (.ldA 3 (.t 10)), zo 48 (.bsl 75 zC8 1 [(0, 3, (.t 47))]), zo 49 (.call 15 [(.t 48)]), zo 50 (.bsl 23 [.slice none 0 0] 1 [(0, 1, (.t 49))]), zo 51 (.app 68 23 1 24 (.slice none 0 0) (.t 46) (.t 50)), zo 52 (.nilc (.t 42)), zo 53 (.fa 1 (.t 52)), ⟨none, none, .st 1 (.t 53) (.t 51)⟩])))
 (.ops [zo 54 (.bin .add (.t 38) zj), zm 38 54])))))))
 (.seq (.ops [zm 55 8, zm 56 2, zo 57 (.call 27 [(.t 55), (.t 56)]), zm 11 57])
 (.seq (.seq (.ops [zm 58 11, zo 59 (.call 28 [(.t 58)]), zm 12 59])
 (.seq (.ops [zm 60 12, zo 61 (.bin .neq (.t 60) zi)])
 (.cond (.t 61) (.seq (.ops [zm 62 12, zo 6 (.mov (.v (.slice none 0 0))), zm 7 62])
 .ret) .skip)))
 (.seq (.ops [zo 13 (.mov (.v (.slice none 0 0)))])
 (.seq (.seq (.ops [zm 63 11, zo 64 (.lenS (.t 63)), zo 65 (.mov zi)])
 (.block 2 (.loop (.seq (.ops [zo 66 (.bin .lss (.t 65) (.t 64))])
 (.seq (.cond (.t 66) .skip (.exit 2))
 (.seq (.block 3 (.seq (.ops [zo 67 (.ixS 3 (.t 63) (.t 65)), zo 68 (.ldA 3 (.t 67)), zo 15 (.al 81 zC9), ⟨none, none, .st 3 (.t 15) (.t 68)⟩])
 (.seq (.ops [zm 70 8, zo 71 (.ldA 3 (.t 15)), zo 72 (.call 29 [(.t 70), (.t 71)]), zm 69 72, zo 73 (.ext 0 (.t 69)), zo 74 (.ext 1 (.t 69)), zm 16 73, zm 17 74])
 (.seq (.seq (.ops [zm 75 17, zo 76 (.bin .neq (.t 75) zi)])
 (.cond (.t 76) (.seq (.ops [zm 77 17, zo 6 (.mov (.v (.slice none 0 0))), zm 7 77])
 .ret) .skip))
 (.ops [zm 78 13, zm 79 16, zo 80 (.app 79 84 3 40 (.agg #[.int .i64 0, .int .i64 0, .slice none 0 0]) (.t 78) (.t 79)), zm 13 80])))))
 (.ops [zo 81 (.bin .add (.t 65) zj), zm 65 81])))))))
 (.seq (.seq (.ops [zm 82 13, zo 83 (.lenS (.t 82)), zo 84 (.mov zi)])
 (.block 4 (.loop (.seq (.ops [zo 85 (.bin .lss (.t 84) (.t 83))])
 (.seq (.cond (.t 85) .skip (.exit 4))
 (.seq (.block 5 (.seq (.ops [zo 86 (.ixS 3 (.t 82) (.t 84)), zo 87 (.ldA 3 (.t 86)), zo 19 (.al 84 zC9), ⟨none, none, .st 3 (.t 19) (.t 87)⟩])
 (.ops [zm 88 6, zm 89 8, zo 90 (.ldA 33 (.t 3)), zo 91 (.ldA 3 (.t 19)), zo 92 (.call 30 [(.t 89), (.t 90), (.t 91)]), zo 93 (.bsl 46 zC0 1 [(0, 105, (.t 92))]), zo 94 (.app 34 46 105 208 (.agg #[.int .i64 0, zz, zz, zz, zz, zz, zz, zz, zz, zz, zz, zz, zz, zz, zz, zz, zz, zz, zz, zz, zz, zz, zz, zz, zz, zz, zz, zz, zz, zz, zz, zz, zz, .int .i64 0, .string ⟨#[]⟩, .int .i64 0, .int .u64 0, zz, zz, zz, zz, zz, zz, zz, zz, zz, zz, zz, zz, zz, zz, zz, zz, zz, zz, zz, zz, zz, zz, zz, zz, zz, zz, zz, zz, zz, zz, zz, zz, .int .i64 0, zz, zz, zz, zz, zz, zz, zz, zz, zz, zz, zz, zz, zz, zz, zz, zz, zz, zz, zz, zz, zz, zz, zz, zz, zz, zz, zz, zz, zz, zz, zz, zz, .int .i64 0, .slice none 0 0, .slice none 0 0]) (.t 88) (.t 93)), zm 6 94])))
 (.ops [zo 95 (.bin .add (.t 84) zj), zm 84 95])))))))
 (.seq (.ops [zm 96 6, zm 6 96, zo 7 (.mov zi)])
 .ret))))))))))
theorem Tryz.known9 : Known Tryz.prog 9 Tryz.pc9 97 [6, 7] := ⟨Tryz.f9, _, Tryz.func9, rfl, by kernel_rfl, rfl, rfl⟩
def Tryz.pc11 : PC :=
 (.seq (.ops [zo 4 (.mov zf)])
 (.seq (.seq (.ops [zm 6 0, zo 7 (.lenS (.t 6)), zm 8 1, zo 9 (.lenS (.t 8)), zo 10 (.bin .neq (.t 7) (.t 9))])
 (.cond (.t 10) (.seq (.ops [zo 4 (.mov zf)])
 .ret) .skip))
 (.seq (.seq (.ops [zo 5 (.mov zi)])
 (.block 0 (.loop (.seq (.seq (.ops [zm 11 5, zm 12 0, zo 13 (.lenS (.t 12)), zo 14 (.bin .lss (.t 11) (.t 13))])
 (.cond (.t 14) .skip (.exit 0)))
 (.seq (.block 1 (.seq (.quietR [] 8 [zm 17 0, zm 18 5, zo 19 (.ixS 1 (.t 17) (.t 18)), zo 20 (.ld (.t 19)), zm 21 1, zm 22 5, zo 23 (.ixS 1 (.t 21) (.t 22)), zo 24 (.ld (.t 23)), zo 25 (.bin .neq (.t 20) (.t 24))])
 (.cond (.t 25) (.seq (.ops [zo 4 (.mov zf)])
 .ret) .skip)))
 (.ops [zm 15 5, zo 16 (.bin .add (.t 15) zj), zm 5 16]))))))
 (.seq (.ops [zo 4 (.mov zt)])
 .ret))))
theorem Tryz.known11 : Known Tryz.prog 11 Tryz.pc11 26 [4] := ⟨Tryz.f11, _, Tryz.func11, rfl, by kernel_rfl, rfl, rfl⟩
def Tryz.pc14 : PC :=
 (.seq (.ops [zo 2 (.mov zf)])
 (.seq (.seq (.ops [zo 3 (.mov zi)])
 (.block 0 (.loop (.seq (.seq (.ops [zm 5 3, zm 6 0, zo 7 (.lenS (.t 6)), zo 8 (.bin .lss (.t 5) (.t 7))])
 (.cond (.t 8) .skip (.exit 0)))
 (.seq (.block 1 (.seq (.ops [zo 4 (.mov zi)])
 (.block 2 (.loop (.seq (.seq (.ops [zm 11 4, zm 12 0, zm 13 3, zo 14 (.ixS 102 (.t 12) (.t 13)), zo 15 (.fa 100 (.t 14)), zo 16 (.ld (.t 15)), zo 17 (.lenS (.t 16)), zo 18 (.bin .lss (.t 11) (.t 17))])
 (.cond (.t 18) .skip (.exit 2)))
 (.seq (.block 3 (.seq (.ops [zm 21 0, zm 22 3, zo 23 (.ixS 102 (.t 21) (.t 22)), zo 24 (.fa 100 (.t 23)), zo 25 (.ld (.t 24)), zm 26 4, zo 27 (.ixS 1 (.t 25) (.t 26)), zo 28 (.ld (.t 27)), zo 29 (.call 20 [(.t 28)]), zo 30 (.not (.t 29))])
 (.cond (.t 30) (.seq (.ops [zo 2 (.mov zf)])
 .ret) .skip)))
 (.ops [zm 19 4, zo 20 (.bin .add (.t 19) zj), zm 4 20])))))))
 (.ops [zm 9 3, zo 10 (.bin .add (.t 9) zj), zm 3 10]))))))
 (.seq (.ops [zo 2 (.mov zt)])
 .ret)))
theorem Tryz.known14 : Known Tryz.prog 14 Tryz.pc14 31 [2] := ⟨Tryz.f14, _, Tryz.func14, rfl, by kernel_rfl, rfl, rfl⟩
def Tryz.pc15 : PC :=
 (.seq (.ops [zo 2 (.mov (.v (.slice none 0 0)))])
 (.seq (.ops [zo 3 (.mov (.v (.slice none 0 0)))])
 (.seq (.seq (.ops [zm 8 0, zo 9 (.lenS (.t 8)), zo 10 (.mov zi)])
 (.block 0 (.loop (.seq (.ops [zo 11 (.bin .lss (.t 10) (.t 9))])
 (.seq (.cond (.t 11) .skip (.exit 0))
 (.seq (.block 1 (.seq (.ops [zo 12 (.ixS 3 (.t 8) (.t 10)), zo 13 (.ldA 3 (.t 12)), zo 5 (.al 75 zC8), ⟨none, none, .st 3 (.t 5) (.t 13)⟩])
 (.seq (.seq (.ops [zo 14 (.fa 1 (.t 5)), zo 15 (.ld (.t 14))])
 (.cond (.t 15) (.ops [zm 16 3, zo 17 (.bsl 9 zC11 1 [(0, 1, (.v (.string ⟨#[62, 62, 62, 62, 62, 62, 62]⟩)))]), zo 18 (.app 23 9 1 16 (.string ⟨#[]⟩) (.t 16) (.t 17)), zm 3 18]) .skip))
 (.seq (.seq (.ops [zo 19 (.fa 0 (.t 5)), zo 20 (.ld (.t 19)), zo 21 (.lenS (.t 20)), zo 22 (.mov zi)])
 (.block 2 (.loop (.seq (.ops [zo 23 (.bin .lss (.t 22) (.t 21))])
 (.seq (.cond (.t 23) .skip (.exit 2))
 (.seq (.block 3 (.seq (.ops [zm 24 22, zo 25 (.ixS 35 (.t 20) (.t 22)), zo 26 (.ldA 35 (.t 25)), zo 7 (.al 99 zC3), zm 6 24, ⟨none, none, .st 35 (.t 7) (.t 26)⟩])
 (.seq (.seq (.ops [zo 27 (.fa 1 (.t 5)), zo 28 (.ld (.t 27)), zm 29 28, zg 30 29 true (.fa 2 (.t 5)), zg 31 29 true (.ld (.t 30)), zg 32 29 true (.mov (.t 6)), zg 33 29 true (.call 36 [(.t 31), (.t 32)]), zo 34 (.pick (.t 29) (.t 33) zf)])
 (.cond (.t 34) (.ops [zm 35 3, zo 36 (.bsl 9 zC11 1 [(0, 1, (.v (.string ⟨#[61, 61, 61, 61, 61, 61, 61]⟩)))]), zo 37 (.app 23 9 1 16 (.string ⟨#[]⟩) (.t 35) (.t 36)), zm 3 37]) .skip))
 (.ops [zm 38 3, zo 39 (.fa 33 (.t 7)), zo 40 (.ld (.t 39)), zo 41 (.bsl 9 zC11 1 [(0, 1, (.t 40))]), zo 42 (.app 23 9 1 16 (.string ⟨#[]⟩) (.t 38) (.t 41)), zm 3 42]))))
 (.ops [zo 43 (.bin .add (.t 22) zj), zm 22 43])))))))
 (.seq (.ops [zo 44 (.fa 1 (.t 5)), zo 45 (.ld (.t 44))])
 (.cond (.t 45) (.ops [zm 46 3, zo 47 (.bsl 9 zC11 1 [(0, 1, (.v (.string ⟨#[60, 60, 60, 60, 60, 60, 60]⟩)))]), zo 48 (.app 23 9 1 16 (.string ⟨#[]⟩) (.t 46) (.t 47)), zm 3 48]) .skip))))))
 (.ops [zo 49 (.bin .add (.t 10) zj), zm 10 49])))))))
 (.seq (.ops [zm 50 3, zm 2 50])
 .ret))))
theorem Tryz.known15 : Known Tryz.prog 15 Tryz.pc15 51 [2] := ⟨Tryz.f15, _, Tryz.func15, rfl, by kernel_rfl, rfl, rfl⟩
def Tryz.pc16 : PC :=
 (.seq (.ops [zo 2 (.mov (.v (.slice none 0 0)))])
 (.scope (.seq (.ops [zm 10 0, zo 11 (.call 38 [(.t 10)]), zo 12 (.call 37 [(.t 11), (.v (.func (.func 39) #[] #[]))]), zm 3 12])
 (.seq (.ops [zo 4 (.mov (.v (.slice none 0 0)))])
 (.seq (.ops [zo 5 (.mov (.v (.slice none 0 0)))])
 (.seq .label
 (.seq (.seq (.ops [zm 13 3, zo 14 (.lenS (.t 13)), zo 15 (.mov zi)])
 (.block 0 (.loop (.seq (.ops [zo 16 (.bin .lss (.t 15) (.t 14))])
 (.seq (.cond (.t 16) .skip (.exit 0))
 (.seq (.block 1 (.seq (.ops [zo 17 (.ixS 35 (.t 13) (.t 15)), zo 18 (.ldA 35 (.t 17)), zo 7 (.al 99 zC3), ⟨none, none, .st 35 (.t 7) (.t 18)⟩])
 (.seq (.seq (.ops [zm 19 3, zo 20 (.lenS (.t 19)), zo 21 (.mov zi)])
 (.block 2 (.loop (.seq (.ops [zo 22 (.bin .lss (.t 21) (.t 20))])
 (.seq (.cond (.t 22) .skip (.exit 2))
 (.seq (.block 3 (.seq (.ops [zo 23 (.ixS 35 (.t 19) (.t 21)), zo 24 (.ldA 35 (.t 23)), zo 9 (.al 99 zC3), ⟨none, none, .st 35 (.t 9) (.t 24)⟩])
 (.seq (.ops [zo 25 (.fa 0 (.t 7)), zo 26 (.ldA 33 (.t 25)), zo 27 (.fa 0 (.t 9)), zo 28 (.ldA 33 (.t 27)), zo 29 (.more (.eqD true 27 zC5 (.t 26) (.t 28))), zm 30 29, zg 31 30 true (.mov (.t 0)), zg 32 30 true (.ldA 35 (.t 7)), zg 33 30 true (.ldA 35 (.t 9)), zg 34 30 true (.call 40 [(.t 31), (.t 32), (.t 33)]), zg 35 30 true (.not (.t 34)), zo 36 (.pick (.t 30) (.t 35) zf)])
 (.cond (.t 36) (.seq (.ops [zm 37 5, zo 38 (.ldA 35 (.t 7)), zo 39 (.bsl 99 zC3 1 [(0, 35, (.t 38))]), zo 40 (.app 72 99 35 64 (.agg #[zz, zz, zz, zz, zz, zz, zz, zz, zz, zz, zz, zz, zz, zz, zz, zz, zz, zz, zz, zz, zz, zz, zz, zz, zz, zz, zz, zz, zz, zz, zz, zz, .int .i64 0, .string ⟨#[]⟩, .bool false]) (.t 37) (.t 39)), zm 5 40])
 (.exit 1)) .skip))))
 (.ops [zo 41 (.bin .add (.t 21) zj), zm 21 41])))))))
 (.seq (.seq (.ops [zm 42 5, zo 43 (.lenS (.t 42)), zo 44 (.bin .gtr (.t 43) zi)])
 (.cond (.t 44) (.seq (.ops [zm 45 4, zm 46 0, zm 47 5, zo 48 (.call 41 [(.t 46), (.t 47)]), zo 49 (.bsl 75 zC8 1 [(0, 3, (.t 48))]), zo 50 (.app 51 75 3 56 (.agg #[.slice none 0 0, .bool false, .slice none 0 0]) (.t 45) (.t 49)), zm 4 50])
 (.ops [zo 5 (.mov (.v (.slice none 0 0)))])) .skip))
 (.ops [zm 51 4, zo 52 (.ldA 35 (.t 7)), zo 53 (.bsl 99 zC3 1 [(0, 35, (.t 52))]), zo 54 (.build zC8 [(0, 1, (.t 53))]), zo 55 (.bsl 75 zC8 1 [(0, 3, (.t 54))]), zo 56 (.app 51 75 3 56 (.agg #[.slice none 0 0, .bool false, .slice none 0 0]) (.t 51) (.t 55)), zm 4 56])))))
 (.ops [zo 57 (.bin .add (.t 15) zj), zm 15 57])))))))
 (.seq (.seq (.ops [zm 58 5, zo 59 (.lenS (.t 58)), zo 60 (.bin .gtr (.t 59) zi)])
 (.cond (.t 60) (.ops [zm 61 4, zm 62 0, zm 63 5, zo 64 (.call 41 [(.t 62), (.t 63)]), zo 65 (.bsl 75 zC8 1 [(0, 3, (.t 64))]), zo 66 (.app 51 75 3 56 (.agg #[.slice none 0 0, .bool false, .slice none 0 0]) (.t 61) (.t 65)), zm 4 66]) .skip))
 (.seq (.ops [zm 67 4, zm 2 67])
 .ret)))))))))
theorem Tryz.known16 : Known Tryz.prog 16 Tryz.pc16 68 [2] := ⟨Tryz.f16, _, Tryz.func16, rfl, by kernel_rfl, rfl, rfl⟩
def Tryz.pc18 : PC :=
 (.seq (.ops [zo 2 (.mov zf)])
 (.seq (.ops [zm 3 0, zo 4 (.bin .eql (.t 3) (.v (.string ⟨#[62, 62, 62, 62, 62, 62, 62]⟩))), zm 5 4, zg 6 5 false (.mov (.t 0)), zg 7 5 false (.bin .eql (.t 6) (.v (.string ⟨#[61, 61, 61, 61, 61, 61, 61]⟩))), zo 8 (.pick (.t 5) zt (.t 7)), zm 9 8, zg 10 9 false (.mov (.t 0)), zg 11 9 false (.bin .eql (.t 10) (.v (.string ⟨#[60, 60, 60, 60, 60, 60, 60]⟩))), zo 12 (.pick (.t 9) zt (.t 11)), zm 2 12])
 .ret))
theorem Tryz.known18 : Known Tryz.prog 18 Tryz.pc18 13 [2] := ⟨Tryz.f18, _, Tryz.func18, rfl, by kernel_rfl, rfl, rfl⟩
def Tryz.pc19 : PC :=
 (.seq (.ops [zo 2 (.mov zf)])
 (.seq (.ops [zm 3 0, zo 4 (.call 42 [(.t 3), (.v (.func (.func 43) #[] #[]))]), zm 2 4])
 .ret))
theorem Tryz.known19 : Known Tryz.prog 19 Tryz.pc19 5 [2] := ⟨Tryz.f19, _, Tryz.func19, rfl, by kernel_rfl, rfl, rfl⟩
def Tryz.pc20 : PC :=
 (.seq (.ops [zo 2 (.mov zf)])
 (.seq (.ops [zm 3 0, zo 4 (.call 44 [(.t 3)]), zm 5 4, zg 6 5 true (.mov (.t 0)), zg 7 5 true (.call 18 [(.t 6)]), zg 8 5 true (.not (.t 7)), zo 9 (.pick (.t 5) (.t 8) zf), zm 2 9])
 .ret))
theorem Tryz.known20 : Known Tryz.prog 20 Tryz.pc20 10 [2] := ⟨Tryz.f20, _, Tryz.func20, rfl, by kernel_rfl, rfl, rfl⟩
def Tryz.pc21 : PC :=
 (.seq (.ops [zo 2 (.al 46 zC0)])
 (.seq (.ops [zo 6 (.build zC4 []), zo 7 (.call 22 []), zm 8 0, zo 9 (.call 9 [(.t 6), (.t 7), (.t 8)]), zm 5 9, zo 10 (.ext 0 (.t 5)), zo 11 (.ext 1 (.t 5)), zm 3 10, zm 4 11])
 (.seq (.seq (.ops [zm 12 4, zo 13 (.bin .neq (.t 12) zi), zm 14 13, zg 15 14 false (.mov (.t 3)), zg 16 14 false (.lenS (.t 15)), zg 17 14 false (.bin .neq (.t 16) zj), zo 18 (.pick (.t 14) zt (.t 17))])
 (.cond (.t 18) (.seq (.ops [zo 19 (.build zC0 []), ⟨none, none, .st 105 (.t 2) (.t 19)⟩])
 .ret) .skip))
 (.seq (.ops [zm 20 3, zo 21 (.ixS 105 (.t 20) zi), zo 22 (.ldA 105 (.t 21)), ⟨none, none, .st 105 (.t 2) (.t 22)⟩])
 .ret))))
theorem Tryz.known21 : KnownC Tryz.prog 21 Tryz.pc21 23 2 (some 105) := ⟨Tryz.f21, _, _, Tryz.func21, rfl, by kernel_rfl, rfl, rfl, by kernel_rfl⟩
def Tryz.pc22 : PC :=
 (.seq (.ops [zo 0 (.mov (.v (.pointer none)))])
 (.seq (.ops [zo 2 (.call 24 []), zm 1 2])
 (.seq (.ops [zm 3 1, zo 4 (.more (.bldA zC6 [(0, 1, (.v (.int .u8 1)))])), zo 5 (.build zC4 [(32, 1, (.v (.int .i64 (-1))))]), zo 6 (.build zC4 [(32, 1, (.v (.int .i64 (-2))))]), zo 7 (.bsl 9 [.string ⟨#[]⟩, .string ⟨#[]⟩, .string ⟨#[]⟩] 3 [(0, 1, (.v (.string ⟨#[97]⟩))), (1, 1, (.v (.string ⟨#[98]⟩))), (2, 1, (.v (.string ⟨#[99]⟩)))]), zo 8 (.build zC1 [(0, 32, (.t 4)), (33, 1, zj), (34, 33, (.t 5)), (67, 33, (.t 6)), (100, 1, (.t 7))]), zo 9 (.call 25 [(.t 3), (.t 8)])])
 (.seq (.ops [zm 10 1, zm 0 10])
 .ret))))
theorem Tryz.known22 : Known Tryz.prog 22 Tryz.pc22 11 [0] := ⟨Tryz.f22, _, Tryz.func22, rfl, by kernel_rfl, rfl, rfl⟩
def Tryz.pc23 : PC :=
 (.seq (.ops [zo 2 (.al 27 zC4)])
 (.seq (.ops [zo 3 (.more (.bldA zC6 [(0, 1, (.v (.int .u8 1)))])), zm 4 0, zo 5 (.build zC4 [(0, 32, (.t 3)), (32, 1, (.t 4))]), ⟨none, none, .st 33 (.t 2) (.t 5)⟩])
 .ret))
theorem Tryz.known23 : KnownC Tryz.prog 23 Tryz.pc23 6 2 (some 33) := ⟨Tryz.f23, _, _, Tryz.func23, rfl, by kernel_rfl, rfl, rfl, by kernel_rfl⟩
def Tryz.pc24 : PC :=
 (.seq (.ops [zo 0 (.mov (.v (.pointer none)))])
 (.seq (.ops [zo 1 (.mkM), zo 2 (.mkM), zo 3 (.build [.bool false, .map none, .map none, .slice none 0 0] [(0, 1, zt), (1, 1, (.t 1)), (2, 1, (.t 2))]), zo 4 (.bx 111 (.t 3)), zm 0 4])
 .ret))
theorem Tryz.known24 : Known Tryz.prog 24 Tryz.pc24 5 [0] := ⟨Tryz.f24, _, Tryz.func24, rfl, by kernel_rfl, rfl, rfl⟩
def Tryz.pc25 : PC :=
 (.seq (.ops [zo 2 (.bx 30 (.t 0)), zo 3 (.bx 59 (.t 1)), zo 4 (.mov zi)])
 (.seq (.block 0 (.seq (.ops [zo 8 (.ld (.t 2)), zo 9 (.call 45 [(.t 8)]), zo 10 (.not (.t 9)), zm 7 10])
 (.cond (.t 7) (.seq (.ops [zo 4 (.mov zj)])
 .ret) (.seq (.ops [zo 12 (.ld (.t 2)), zo 13 (.ldA 102 (.t 3)), zo 14 (.call 46 [(.t 12), (.t 13)]), zm 11 14])
 (.cond (.t 11) (.seq (.ops [zo 4 (.mov (.v (.int .i64 6)))])
 .ret) (.seq (.ops [zo 16 (.ldA 102 (.t 3)), zo 17 (.call 47 [(.t 16)]), zo 18 (.not (.t 17)), zm 15 18])
 (.cond (.t 15) (.seq (.ops [zo 4 (.mov (.v (.int .i64 4)))])
 .ret) (.seq (.ops [zo 20 (.ld (.t 2)), zo 21 (.fa 34 (.t 3)), zo 22 (.ldA 33 (.t 21)), zo 23 (.call 48 [(.t 20), (.t 22)]), zo 24 (.not (.t 23)), zm 25 24, zg 26 25 false (.ld (.t 2)), zg 27 25 false (.fa 67 (.t 3)), zg 28 25 false (.ldA 33 (.t 27)), zg 29 25 false (.call 48 [(.t 26), (.t 28)]), zg 30 25 false (.not (.t 29)), zo 31 (.pick (.t 25) zt (.t 30)), zm 32 31, zg 33 32 false (.fa 101 (.t 3)), zg 34 32 false (.ld (.t 33)), zg 35 32 false (.mkF 50 [(.t 2)]), zg 36 32 false (.call 49 [(.t 34), (.t 35)]), zo 37 (.pick (.t 32) zt (.t 36)), zm 19 37])
 (.cond (.t 19) (.seq (.ops [zo 4 (.mov (.v (.int .i64 10)))])
 .ret) (.seq (.ops [zo 39 (.ld (.t 2)), zo 40 (.fa 34 (.t 3)), zo 41 (.ldA 33 (.t 40)), zo 42 (.fa 67 (.t 3)), zo 43 (.ldA 33 (.t 42)), zo 44 (.call 52 [(.t 39), (.t 41), (.t 43)]), zo 45 (.not (.t 44)), zm 38 45])
 (.cond (.t 38) (.seq (.ops [zo 4 (.mov (.v (.int .i64 4)))])
 .ret) .skip)))))))))))
 (.seq (.quietR [0, 1, 3, 0, 8, 31, 31] 7 [zo 46 (.fa 100 (.t 3)), zo 47 (.ld (.t 46)), zo 48 (.call 53 [(.t 47)]), zo 49 (.fa 101 (.t 3)), zo 50 (.ld (.t 49)), zo 51 (.call 54 [(.t 50)]), zo 52 (.fa 100 (.t 3)), ⟨none, none, .st 1 (.t 52) (.t 48)⟩, zo 53 (.fa 101 (.t 3)), ⟨none, none, .st 1 (.t 53) (.t 51)⟩])
 (.seq (.quietR [] 10 [zo 54 (.ld (.t 2)), zo 55 (.nilc (.t 54)), zo 56 (.fa 1 (.t 55)), zo 57 (.ld (.t 56)), zo 58 (.fa 0 (.t 3)), zo 59 (.ldA 32 (.t 58)), zo 60 (.fa 32 (.t 3)), zo 61 (.ld (.t 60)), zo 62 (.build zC4 [(0, 32, (.t 59)), (32, 1, (.t 61))]), zo 63 (.ldA 102 (.t 3)), ⟨none, none, .more (.other (.gen (.mapUpdate 108 (.tmp 57) (.tmp 62) (.tmp 63))))⟩])
 (.seq (.seq (.ops [zo 64 (.fa 100 (.t 3)), zo 65 (.ld (.t 64)), zo 66 (.lenS (.t 65)), zo 67 (.mov zi)])
 (.block 1 (.loop (.seq (.ops [zo 68 (.bin .lss (.t 67) (.t 66))])
 (.seq (.cond (.t 68) .skip (.exit 1))
 (.seq (.block 2 (.seq (.ops [zm 69 67, zo 70 (.ixS 1 (.t 65) (.t 67)), zo 71 (.ld (.t 70)), zm 5 69, zm 6 71])
 (.quietR [0, 1, 3, 7, 0, 0, 48, 0, 128] 9 [zo 72 (.ld (.t 2)), zo 73 (.nilc (.t 72)), zo 74 (.fa 2 (.t 73)), zo 75 (.ld (.t 74)), zo 76 (.ldA 102 (.t 3)), zm 77 5, zo 78 (.call 55 [(.t 76), (.t 77)]), zm 79 6, zo 80 (.build zC7 [(0, 1, (.t 79))]), ⟨none, none, .more (.other (.gen (.mapUpdate 109 (.tmp 75) (.tmp 78) (.tmp 80))))⟩])))
 (.ops [zo 81 (.bin .add (.t 67) zj), zm 67 81])))))))
 (.seq (.ops [zo 82 (.ld (.t 2)), zo 83 (.ldA 102 (.t 3)), zo 84 (.call 56 [(.t 82), (.t 83), zt])])
 (.seq (.ops [zo 85 (.ld (.t 2)), zo 86 (.ldA 102 (.t 3)), zo 87 (.call 57 [(.t 85), (.t 86), zj])])
 (.seq (.ops [zo 4 (.mov zi)])
 .ret))))))))
theorem Tryz.known25 : Known Tryz.prog 25 Tryz.pc25 88 [4] := ⟨Tryz.f25, _, Tryz.func25, rfl, by kernel_rfl, rfl, rfl⟩
def Tryz.pc26 : PC :=
 (.seq (.ops [zo 3 (.bx 66 (.t 1)), zo 4 (.mov (.v (.slice none 0 0))), zo 5 (.mov zi)])
 (.seq (.ops [zm 13 0, zo 14 (.call 58 [(.t 13)]), zm 6 14])
 (.seq (.ops [zo 15 (.ldA 102 (.t 3)), zo 16 (.call 59 [(.t 15)]), zm 7 16])
 (.seq (.seq (.ops [zo 8 (.mov zi)])
 (.block 0 (.loop (.seq (.seq (.ops [zm 17 8, zm 18 0, zo 19 (.lenS (.t 18)), zo 20 (.bin .lss (.t 17) (.t 19))])
 (.cond (.t 20) .skip (.exit 0)))
 (.seq (.block 1 (.seq (.quietR [] 16 [zm 23 0, zm 24 8, zo 25 (.ixS 102 (.t 23) (.t 24)), zo 26 (.fa 0 (.t 25)), zo 27 (.ldA 32 (.t 26)), zo 28 (.fa 0 (.t 3)), zo 29 (.ldA 32 (.t 28)), zo 30 (.more (.eqD false 25 [yy, yy, yy, yy, yy, yy, yy, yy, yy, yy, yy, yy, yy, yy, yy, yy, yy, yy, yy, yy, yy, yy, yy, yy, yy, yy, yy, yy, yy, yy, yy, .int .u8] (.t 27) (.t 29))), zm 31 30, zg 32 31 true (.mov (.t 0)), zg 33 31 true (.mov (.t 8)), zg 34 31 true (.ixS 102 (.t 32) (.t 33)), zg 35 31 true (.fa 32 (.t 34)), zg 36 31 true (.ld (.t 35)), zg 37 31 true (.fa 32 (.t 3)), zg 38 31 true (.ld (.t 37)), zg 39 31 true (.bin .eql (.t 36) (.t 38)), zo 40 (.pick (.t 31) (.t 39) zf)])
 (.cond (.t 40) (.seq (.ops [zm 41 0, zm 4 41, zo 5 (.mov (.v (.int .i64 6)))])
 .ret) .skip)))
 (.ops [zm 21 8, zo 22 (.bin .add (.t 21) zj), zm 8 22]))))))
 (.seq (.seq (.ops [zo 9 (.mov zi)])
 (.block 2 (.loop (.seq (.seq (.ops [zm 42 9, zm 43 7, zo 44 (.lenS (.t 43)), zo 45 (.bin .lss (.t 42) (.t 44))])
 (.cond (.t 45) .skip (.exit 2)))
 (.seq (.block 3 (.seq (.ops [zm 48 6, zm 49 7, zm 50 9, zo 51 (.ixS 33 (.t 49) (.t 50)), zo 52 (.ldA 33 (.t 51)), zo 53 (.call 60 [(.t 48), (.t 52)])])
 (.cond (.t 53) (.seq (.ops [zm 54 0, zm 4 54, zo 5 (.mov (.v (.int .i64 6)))])
 .ret) .skip)))
 (.ops [zm 46 9, zo 47 (.bin .add (.t 46) zj), zm 9 47]))))))
 (.seq (.seq (.quietR [0, 1, 3, 7, 15, 31, 15, 127, 255, 511, 1023, 2047, 1023] 13 [zo 55 (.fa 33 (.t 3)), zo 56 (.ld (.t 55)), zo 57 (.bin .lss (.t 56) zi), zm 58 57, zg 59 58 false (.fa 34 (.t 3)), zg 60 58 false (.ldA 33 (.t 59)), zg 61 58 false (.call 61 []), zg 62 58 false (.more (.eqD false 27 zC5 (.t 60) (.t 61))), zo 63 (.pick (.t 58) zt (.t 62)), zm 64 63, zg 65 64 false (.fa 67 (.t 3)), zg 66 64 false (.ldA 33 (.t 65)), zg 67 64 false (.call 62 []), zg 68 64 false (.more (.eqD false 27 zC5 (.t 66) (.t 67))), zo 69 (.pick (.t 64) zt (.t 68))])
 (.cond (.t 69) (.seq (.ops [zm 70 0, zm 4 70, zo 5 (.mov (.v (.int .i64 4)))])
 .ret) .skip))
 (.seq (.seq (.ops [zo 10 (.mov zi)])
 (.block 4 (.loop (.seq (.seq (.ops [zm 71 10, zo 72 (.fa 101 (.t 3)), zo 73 (.ld (.t 72)), zo 74 (.lenS (.t 73)), zo 75 (.bin .lss (.t 71) (.t 74))])
 (.cond (.t 75) .skip (.exit 4)))
 (.seq (.block 5 (.seq (.quietR [0, 1, 0, 7, 15, 0, 63, 127, 255, 511, 255, 2047, 4095, 255, 16383, 32767, 65535, 131071, 262143, 131071, 1048575, 131071, 2228223, 131071, 14811135, 31588351] 26 [zo 78 (.fa 101 (.t 3)), zo 79 (.ld (.t 78)), zm 80 10, zo 81 (.ixS 33 (.t 79) (.t 80)), zo 82 (.ldA 33 (.t 81)), zo 83 (.call 62 []), zo 84 (.more (.eqD false 27 zC5 (.t 82) (.t 83))), zm 85 84, zg 86 85 false (.fa 101 (.t 3)), zg 87 85 false (.ld (.t 86)), zg 88 85 false (.mov (.t 10)), zg 89 85 false (.ixS 33 (.t 87) (.t 88)), zg 90 85 false (.ldA 33 (.t 89)), zg 91 85 false (.call 61 []), zg 92 85 false (.more (.eqD false 27 zC5 (.t 90) (.t 91))), zo 93 (.pick (.t 85) zt (.t 92)), zm 94 93, zg 95 94 false (.fa 101 (.t 3)), zg 96 94 false (.ld (.t 95)), zg 97 94 false (.mov (.t 10)), zg 98 94 false (.slS 33 (.t 96) none (some (.t 97))), zg 99 94 false (.fa 101 (.t 3)), zg 100 94 false (.ld (.t 99)), zg 101 94 false (.mov (.t 10)), zg 102 94 false (.ixS 33 (.t 100) (.t 101)), zg 103 94 false (.ldA 33 (.t 102)), zg 104 94 false (.call 60 [(.t 98), (.t 103)]), zo 105 (.pick (.t 94) zt (.t 104))])
 (.cond (.t 105) (.seq (.ops [zm 106 0, zm 4 106, zo 5 (.mov (.v (.int .i64 4)))])
 .ret) .skip)))
 (.ops [zm 76 10, zo 77 (.bin .add (.t 76) zj), zm 10 77]))))))
 (.seq (.seq (.quietR [0, 1, 0, 7, 15, 31, 31, 95, 255, 511, 1023, 2047, 4095, 8191, 4095, 32767, 65535, 131071, 131071, 393215] 20 [zo 107 (.fa 34 (.t 3)), zo 108 (.ldA 33 (.t 107)), zo 109 (.call 62 []), zo 110 (.more (.eqD true 27 zC5 (.t 108) (.t 109))), zm 111 110, zg 112 111 true (.mov (.t 6)), zg 113 111 true (.fa 34 (.t 3)), zg 114 111 true (.ldA 33 (.t 113)), zg 115 111 true (.call 60 [(.t 112), (.t 114)]), zg 116 111 true (.not (.t 115)), zo 117 (.pick (.t 111) (.t 116) zf), zm 118 117, zg 119 118 false (.fa 67 (.t 3)), zg 120 118 false (.ldA 33 (.t 119)), zg 121 118 false (.call 61 []), zg 122 118 false (.more (.eqD true 27 zC5 (.t 120) (.t 121))), zg 123 118 false (.mov (.t 122)), zg 124 123 true (.mov (.t 6)), zg 125 123 true (.fa 67 (.t 3)), zg 126 123 true (.ldA 33 (.t 125)), zg 127 123 true (.call 60 [(.t 124), (.t 126)]), zg 128 123 true (.not (.t 127)), zg 129 118 false (.pick (.t 123) (.t 128) zf), zo 130 (.pick (.t 118) zt (.t 129))])
 (.cond (.t 130) (.seq (.ops [zm 131 0, zm 4 131, zo 5 (.mov (.v (.int .i64 10)))])
 .ret) .skip))
 (.seq (.seq (.ops [zo 11 (.mov zi)])
 (.block 6 (.loop (.seq (.seq (.ops [zm 132 11, zo 133 (.fa 101 (.t 3)), zo 134 (.ld (.t 133)), zo 135 (.lenS (.t 134)), zo 136 (.bin .lss (.t 132) (.t 135))])
 (.cond (.t 136) .skip (.exit 6)))
 (.seq (.block 7 (.seq (.ops [zm 139 6, zo 140 (.fa 101 (.t 3)), zo 141 (.ld (.t 140)), zm 142 11, zo 143 (.ixS 33 (.t 141) (.t 142)), zo 144 (.ldA 33 (.t 143)), zo 145 (.call 60 [(.t 139), (.t 144)]), zo 146 (.not (.t 145))])
 (.cond (.t 146) (.seq (.ops [zm 147 0, zm 4 147, zo 5 (.mov (.v (.int .i64 10)))])
 .ret) .skip)))
 (.ops [zm 137 11, zo 138 (.bin .add (.t 137) zj), zm 11 138]))))))
 (.seq (.seq (.ops [zm 148 0, zo 149 (.fa 34 (.t 3)), zo 150 (.ldA 33 (.t 149)), zo 151 (.fa 67 (.t 3)), zo 152 (.ldA 33 (.t 151)), zo 153 (.call 63 [(.t 148), (.t 150), (.t 152)]), zo 154 (.not (.t 153))])
 (.cond (.t 154) (.seq (.ops [zm 155 0, zm 4 155, zo 5 (.mov (.v (.int .i64 4)))])
 .ret) .skip))
 (.seq (.ops [zo 12 (.mov (.v (.slice none 0 0)))])
 (.seq (.ops [zm 156 12, zm 157 0, zo 158 (.app 31 66 102 176 (.agg #[zz, zz, zz, zz, zz, zz, zz, zz, zz, zz, zz, zz, zz, zz, zz, zz, zz, zz, zz, zz, zz, zz, zz, zz, zz, zz, zz, zz, zz, zz, zz, zz, .int .i64 0, .int .i64 0, zz, zz, zz, zz, zz, zz, zz, zz, zz, zz, zz, zz, zz, zz, zz, zz, zz, zz, zz, zz, zz, zz, zz, zz, zz, zz, zz, zz, zz, zz, zz, zz, .int .i64 0, zz, zz, zz, zz, zz, zz, zz, zz, zz, zz, zz, zz, zz, zz, zz, zz, zz, zz, zz, zz, zz, zz, zz, zz, zz, zz, zz, zz, zz, zz, zz, zz, .int .i64 0, .slice none 0 0, .slice none 0 0]) (.t 156) (.t 157)), zm 12 158])
 (.seq (.ops [zm 159 12, zo 160 (.ldA 102 (.t 3)), zo 161 (.bsl 66 zC1 1 [(0, 102, (.t 160))]), zo 162 (.app 31 66 102 176 (.agg #[zz, zz, zz, zz, zz, zz, zz, zz, zz, zz, zz, zz, zz, zz, zz, zz, zz, zz, zz, zz, zz, zz, zz, zz, zz, zz, zz, zz, zz, zz, zz, zz, .int .i64 0, .int .i64 0, zz, zz, zz, zz, zz, zz, zz, zz, zz, zz, zz, zz, zz, zz, zz, zz, zz, zz, zz, zz, zz, zz, zz, zz, zz, zz, zz, zz, zz, zz, zz, zz, .int .i64 0, zz, zz, zz, zz, zz, zz, zz, zz, zz, zz, zz, zz, zz, zz, zz, zz, zz, zz, zz, zz, zz, zz, zz, zz, zz, zz, zz, zz, zz, zz, zz, zz, .int .i64 0, .slice none 0 0, .slice none 0 0]) (.t 159) (.t 161)), zm 4 162, zo 5 (.mov zi)])
 .ret)))))))))))))
theorem Tryz.known26 : Known Tryz.prog 26 Tryz.pc26 163 [4, 5] := ⟨Tryz.f26, _, Tryz.func26, rfl, by kernel_rfl, rfl, rfl⟩
def Tryz.pc27 : PC :=
 (.seq (.ops [zo 4 (.mov (.v (.slice none 0 0)))])
 (.seq (.ops [zo 7 (.build zC9 []), zo 5 (.al 81 zC9), ⟨none, none, .st 3 (.t 5) (.t 7)⟩])
 (.seq (.block 0 (.loop (.seq (.seq (.ops [zm 8 1, zo 9 (.lenS (.t 8)), zo 10 (.bin .gtr (.t 9) zi)])
 (.cond (.t 10) .skip (.exit 0)))
 (.block 1 (.seq (.ops [zm 11 0, zo 12 (.fa 0 (.t 5)), zo 13 (.ld (.t 12)), zm 14 1, zo 15 (.call 64 [(.t 11), (.t 13), (.t 14)]), zm 6 15])
 (.seq (.seq (.ops [zm 16 6, zo 17 (.bin .lss (.t 16) zi)])
 (.cond (.t 17) (.seq (.quietR [0, 1, 0, 4, 12, 28] 6 [zo 18 (.fa 2 (.t 5)), zo 19 (.ld (.t 18)), zm 20 1, zo 21 (.ixS 1 (.t 20) zi), zo 22 (.ld (.t 21)), zo 23 (.bsl 9 zC11 1 [(0, 1, (.t 22))]), zo 24 (.app 23 9 1 16 (.string ⟨#[]⟩) (.t 19) (.t 23)), zo 25 (.fa 2 (.t 5)), ⟨none, none, .st 1 (.t 25) (.t 24)⟩])
 (.seq (.ops [zm 26 1, zo 27 (.slS 1 (.t 26) (some zj) none), zm 1 27])
 (.exit 1))) .skip))
 (.seq (.ops [zm 28 6, zo 29 (.fa 1 (.t 5)), ⟨none, none, .st 1 (.t 29) (.t 28)⟩])
 (.seq (.ops [zm 30 4, zo 31 (.ldA 3 (.t 5)), zo 32 (.bsl 81 zC9 1 [(0, 3, (.t 31))]), zo 33 (.app 76 81 3 40 (.agg #[.int .i64 0, .int .i64 0, .slice none 0 0]) (.t 30) (.t 32)), zm 4 33])
 (.seq (.ops [zm 34 0, zo 35 (.nilc (.t 34)), zo 36 (.fa 2 (.t 35)), zo 37 (.ld (.t 36)), zm 38 6, zo 39 (.ixS 1 (.t 37) (.t 38)), ⟨none, none, .st 1 (.t 39) zt⟩])
 (.seq (.ops [zm 40 1, zm 41 0, zo 42 (.nilc (.t 41)), zo 43 (.fa 1 (.t 42)), zo 44 (.ld (.t 43)), zm 45 6, zo 46 (.ixS 1 (.t 44) (.t 45)), zo 47 (.ld (.t 46)), zo 48 (.lenS (.t 47)), zo 49 (.slS 1 (.t 40) (some (.t 48)) none), zm 1 49])
 (.ops [zm 50 6, zo 51 (.bin .add (.t 50) zj), zo 52 (.build zC9 [(0, 1, (.t 51))]), ⟨none, none, .st 3 (.t 5) (.t 52)⟩])))))))))))
 (.seq (.ops [zm 53 0, zo 54 (.nilc (.t 53)), zo 55 (.fa 0 (.t 54)), zo 56 (.ld (.t 55)), zo 57 (.lenS (.t 56)), zo 58 (.fa 1 (.t 5)), ⟨none, none, .st 1 (.t 58) (.t 57)⟩])
 (.seq (.ops [zm 59 4, zo 60 (.ldA 3 (.t 5)), zo 61 (.bsl 81 zC9 1 [(0, 3, (.t 60))]), zo 62 (.app 76 81 3 40 (.agg #[.int .i64 0, .int .i64 0, .slice none 0 0]) (.t 59) (.t 61)), zm 4 62])
 .ret)))))
theorem Tryz.known27 : Known Tryz.prog 27 Tryz.pc27 63 [4] := ⟨Tryz.f27, _, Tryz.func27, rfl, by kernel_rfl, rfl, rfl⟩
def Tryz.pc28 : PC :=
 (.seq (.ops [zo 2 (.mov zi)])
 (.seq (.ops [zo 3 (.mov zi), zo 4 (.mov zi)])
 (.seq (.seq (.ops [zm 7 0, zo 8 (.lenS (.t 7)), zo 9 (.mov zi)])
 (.block 0 (.loop (.seq (.ops [zo 10 (.bin .lss (.t 9) (.t 8))])
 (.seq (.cond (.t 10) .skip (.exit 0))
 (.seq (.block 1 (.seq (.ops [zo 11 (.ixS 3 (.t 7) (.t 9)), zo 12 (.ldA 3 (.t 11)), zo 6 (.al 81 zC9), ⟨none, none, .st 3 (.t 6) (.t 12)⟩])
 (.seq (.ops [zm 13 3, zo 14 (.fa 2 (.t 6)), zo 15 (.ld (.t 14)), zo 16 (.lenS (.t 15)), zo 17 (.bin .add (.t 13) (.t 16)), zm 3 17])
 (.seq (.ops [zo 18 (.fa 2 (.t 6)), zo 19 (.ld (.t 18)), zo 20 (.call 65 [(.t 19), (.v (.func (.func 66) #[] #[]))])])
 (.cond (.t 20) (.ops [zo 4 (.mov (.v (.int .i64 4)))]) .skip)))))
 (.ops [zo 21 (.bin .add (.t 9) zj), zm 9 21])))))))
 (.seq (.seq (.ops [zm 22 3, zo 23 (.bin .gtr (.t 22) (.v (.int .i64 256)))])
 (.cond (.t 23) (.seq (.ops [zo 2 (.mov (.v (.int .i64 3)))])
 .ret) .skip))
 (.seq (.ops [zm 24 4, zm 2 24])
 .ret)))))
theorem Tryz.known28 : Known Tryz.prog 28 Tryz.pc28 25 [2] := ⟨Tryz.f28, _, Tryz.func28, rfl, by kernel_rfl, rfl, rfl⟩
def Tryz.pc29 : PC :=
 (.seq (.ops [zo 3 (.bx 81 (.t 1)), zo 4 (.al 79 [.slice none 0 0]), zo 5 (.mov zi)])
 (.seq (.quietR [0, 0, 3, 0, 8, 31, 63, 127, 127, 255] 10 [zm 15 0, zo 16 (.ldA 3 (.t 3)), zo 17 (.call 68 [(.t 15), (.t 16)]), zo 18 (.fa 2 (.t 3)), zo 19 (.ld (.t 18)), zo 20 (.call 67 [(.t 17), (.t 19)]), zm 14 20, zo 21 (.ext 0 (.t 14)), zo 22 (.ext 1 (.t 14)), zm 6 21, zm 5 22])
 (.seq (.seq (.ops [zm 23 5, zo 24 (.bin .neq (.t 23) zi)])
 (.cond (.t 24) (.seq (.ops [zm 25 5, ⟨none, none, .st 1 (.t 4) (.v (.slice none 0 0))⟩, zm 5 25])
 .ret) .skip))
 (.seq (.ops [zo 26 (.fa 0 (.t 3)), zo 27 (.ld (.t 26)), zo 7 (.al 3 [.int .i64 0]), ⟨none, none, .st 1 (.t 7) (.t 27)⟩])
 (.seq (.ops [zo 8 (.al 4 [.bool false]), ⟨none, none, .st 1 (.t 8) zf⟩])
 (.seq (.ops [zo 28 (.mkF 69 [(.t 8), (.t 4), (.t 7)]), zm 9 28])
 (.seq (.seq (.ops [zm 29 6, zo 30 (.lenS (.t 29)), zo 31 (.mov zi)])
 (.block 0 (.loop (.seq (.ops [zo 32 (.bin .lss (.t 31) (.t 30))])
 (.seq (.cond (.t 32) .skip (.exit 0))
 (.seq (.block 1 (.seq (.ops [zo 33 (.ixS 3 (.t 29) (.t 31)), zo 34 (.ldA 3 (.t 33)), zo 11 (.al 138 zC10), ⟨none, none, .st 3 (.t 11) (.t 34)⟩])
 (.seq (.ops [zo 35 (.fa 0 (.t 11)), zo 36 (.ld (.t 35))])
 (.block 2 (.seq (.ops [zo 38 (.bin .eql (.t 36) zi), zm 37 38])
 (.cond (.t 37) (.seq (.quietR [] 5 [zm 39 0, zo 40 (.nilc (.t 39)), zo 41 (.fa 2 (.t 40)), zo 42 (.ld (.t 41)), zo 43 (.ld (.t 7)), zo 44 (.ixS 1 (.t 42) (.t 43)), ⟨none, none, .st 1 (.t 44) zt⟩])
 (.seq (.ops [zo 45 (.ld (.t 7)), zo 46 (.bin .add (.t 45) zj), ⟨none, none, .st 1 (.t 7) (.t 46)⟩])
 (.ops [⟨none, none, .st 1 (.t 8) zf⟩]))) (.seq (.ops [zo 48 (.bin .eql (.t 36) zj), zm 47 48])
 (.cond (.t 47) (.seq (.ops [zm 49 9, zo 50 (.callv (.t 49) []), zm 12 50])
 (.seq (.ops [zo 51 (.ld (.t 7)), zo 52 (.bin .add (.t 51) zj), ⟨none, none, .st 1 (.t 7) (.t 52)⟩])
 (.ops [zm 53 12, zo 54 (.ld (.t 7)), zo 55 (.nilc (.t 53)), zo 56 (.fa 1 (.t 55)), ⟨none, none, .st 1 (.t 56) (.t 54)⟩]))) (.seq (.ops [zo 58 (.bin .eql (.t 36) (.v (.int .i64 2))), zm 57 58])
 (.cond (.t 57) (.seq (.ops [zm 59 9, zo 60 (.callv (.t 59) []), zm 13 60])
 (.quietR [0, 0, 2, 6, 14, 0, 32, 0, 128, 480, 992, 2016] 12 [zm 61 13, zm 62 13, zo 63 (.nilc (.t 62)), zo 64 (.fa 2 (.t 63)), zo 65 (.ld (.t 64)), zo 66 (.fa 2 (.t 3)), zo 67 (.ld (.t 66)), zo 68 (.fa 2 (.t 11)), zo 69 (.ld (.t 68)), zo 70 (.ixS 1 (.t 67) (.t 69)), zo 71 (.ld (.t 70)), zo 72 (.bsl 9 zC11 1 [(0, 1, (.t 71))]), zo 73 (.app 23 9 1 16 (.string ⟨#[]⟩) (.t 65) (.t 72)), zo 74 (.nilc (.t 61)), zo 75 (.fa 2 (.t 74)), ⟨none, none, .st 1 (.t 75) (.t 73)⟩])) .skip))))))))))
 (.ops [zo 76 (.bin .add (.t 31) zj), zm 31 76])))))))
 (.seq (.ops [zo 77 (.ld (.t 4)), ⟨none, none, .st 1 (.t 4) (.t 77)⟩, zo 5 (.mov zi)])
 .ret))))))))
theorem Tryz.known29 : KnownCT Tryz.prog 29 Tryz.pc29 78 4 5 none := ⟨Tryz.f29, _, _, Tryz.func29, rfl, by kernel_rfl, rfl, rfl, by kernel_rfl⟩
def Tryz.pc30 : PC :=
 (.seq (.ops [zo 4 (.bx 27 (.t 1)), zo 5 (.bx 84 (.t 2)), zo 6 (.al 46 zC0)])
 (.seq (.ops [zo 13 (.ldA 33 (.t 4)), zo 14 (.build zC4 [(32, 1, (.v (.int .i64 (-1))))]), zo 15 (.build zC4 [(32, 1, (.v (.int .i64 (-2))))]), zo 16 (.fa 2 (.t 5)), zo 17 (.ld (.t 16)), zo 18 (.build zC0 [(0, 1, (.v (.int .i64 5))), (1, 33, (.t 13)), (37, 33, (.t 14)), (70, 33, (.t 15)), (104, 1, (.t 17))]), zo 7 (.al 46 zC0), ⟨none, none, .st 105 (.t 7) (.t 18)⟩])
 (.seq (.seq (.ops [zm 19 0, zo 20 (.nilc (.t 19)), zo 21 (.fa 0 (.t 20)), zo 22 (.ld (.t 21)), zo 23 (.lenS (.t 22)), zo 24 (.mov zi)])
 (.block 0 (.loop (.seq (.ops [zo 25 (.bin .lss (.t 24) (.t 23))])
 (.seq (.cond (.t 25) .skip (.exit 0))
 (.seq (.block 1 (.seq (.ops [zm 26 24, zm 8 26])
 (.seq (.seq (.ops [zm 27 8, zo 28 (.fa 0 (.t 5)), zo 29 (.ld (.t 28)), zo 30 (.bin .lss (.t 27) (.t 29)), zm 31 30, zg 32 31 true (.mov (.t 0)), zg 33 31 true (.mov (.t 8)), zg 34 31 true (.call 70 [(.t 32), (.t 33)]), zo 35 (.pick (.t 31) (.t 34) zf)])
 (.cond (.t 35) (.ops [zm 36 0, zo 37 (.nilc (.t 36)), zo 38 (.fa 0 (.t 37)), zo 39 (.ld (.t 38)), zm 40 8, zo 41 (.ixS 3 (.t 39) (.t 40)), zo 42 (.fa 0 (.t 41)), zo 43 (.ld (.t 42)), zo 44 (.ixS 35 (.t 43) zi), zo 45 (.fa 0 (.t 44)), zo 46 (.ldA 33 (.t 45)), zo 47 (.fa 37 (.t 7)), ⟨none, none, .st 33 (.t 47) (.t 46)⟩]) .skip))
 (.seq (.ops [zm 48 8, zo 49 (.fa 1 (.t 5)), zo 50 (.ld (.t 49)), zo 51 (.bin .geq (.t 48) (.t 50)), zm 52 51, zg 53 52 true (.mov (.t 0)), zg 54 52 true (.mov (.t 8)), zg 55 52 true (.call 70 [(.t 53), (.t 54)]), zo 56 (.pick (.t 52) (.t 55) zf)])
 (.cond (.t 56) (.seq (.ops [zm 57 0, zo 58 (.nilc (.t 57)), zo 59 (.fa 0 (.t 58)), zo 60 (.ld (.t 59)), zm 61 8, zo 62 (.ixS 3 (.t 60) (.t 61)), zo 63 (.fa 0 (.t 62)), zo 64 (.ld (.t 63)), zo 65 (.ixS 35 (.t 64) zi), zo 66 (.fa 0 (.t 65)), zo 67 (.ldA 33 (.t 66)), zo 68 (.fa 70 (.t 7)), ⟨none, none, .st 33 (.t 68) (.t 67)⟩])
 (.exit 0)) .skip)))))
 (.ops [zo 69 (.bin .add (.t 24) zj), zm 24 69])))))))
 (.seq (.seq (.quietR [] 11 [zm 70 0, zo 71 (.nilc (.t 70)), zo 72 (.fa 0 (.t 71)), zo 73 (.ld (.t 72)), zo 74 (.fa 0 (.t 5)), zo 75 (.ld (.t 74)), zo 76 (.fa 1 (.t 5)), zo 77 (.ld (.t 76)), zo 78 (.slS 3 (.t 73) (some (.t 75)) (some (.t 77))), zo 79 (.lenS (.t 78)), zo 80 (.mov zi)])
 (.block 2 (.loop (.seq (.ops [zo 81 (.bin .lss (.t 80) (.t 79))])
 (.seq (.cond (.t 81) .skip (.exit 2))
 (.seq (.block 3 (.seq (.ops [zo 82 (.ixS 3 (.t 78) (.t 80)), zo 83 (.ldA 3 (.t 82)), zo 10 (.al 75 zC8), ⟨none, none, .st 3 (.t 10) (.t 83)⟩])
 (.seq (.ops [zo 84 (.fa 0 (.t 10)), zo 85 (.ld (.t 84)), zo 86 (.lenS (.t 85)), zo 87 (.mov zi)])
 (.block 4 (.loop (.seq (.ops [zo 88 (.bin .lss (.t 87) (.t 86))])
 (.seq (.cond (.t 88) .skip (.exit 4))
 (.seq (.block 5 (.seq (.ops [zo 89 (.ixS 35 (.t 85) (.t 87)), zo 90 (.ldA 35 (.t 89)), zo 12 (.al 99 zC3), ⟨none, none, .st 35 (.t 12) (.t 90)⟩])
 (.ops [zo 91 (.fa 103 (.t 7)), zo 92 (.ld (.t 91)), zo 93 (.fa 0 (.t 12)), zo 94 (.ldA 33 (.t 93)), zo 95 (.bsl 27 zC4 1 [(0, 33, (.t 94))]), zo 96 (.app 44 27 33 40 (.agg #[zz, zz, zz, zz, zz, zz, zz, zz, zz, zz, zz, zz, zz, zz, zz, zz, zz, zz, zz, zz, zz, zz, zz, zz, zz, zz, zz, zz, zz, zz, zz, zz, .int .i64 0]) (.t 92) (.t 95)), zo 97 (.fa 103 (.t 7)), ⟨none, none, .st 1 (.t 97) (.t 96)⟩])))
 (.ops [zo 98 (.bin .add (.t 87) zj), zm 87 98])))))))))
 (.ops [zo 99 (.bin .add (.t 80) zj), zm 80 99])))))))
 (.seq (.ops [zo 100 (.fa 103 (.t 7)), zo 101 (.ld (.t 100)), zo 102 (.call 71 [(.t 101), (.v (.func (.func 72) #[] #[]))])])
 (.seq (.ops [zo 103 (.ldA 105 (.t 7)), ⟨none, none, .st 105 (.t 6) (.t 103)⟩])
 .ret))))))
theorem Tryz.known30 : KnownC Tryz.prog 30 Tryz.pc30 104 6 (some 105) := ⟨Tryz.f30, _, _, Tryz.func30, rfl, by kernel_rfl, rfl, rfl, by kernel_rfl⟩
def Tryz.pc36 : PC :=
 (.seq (.ops [zo 4 (.mov zf)])
 (.seq (.ops [zm 5 0, zm 6 1, zo 7 (.call 82 [(.t 5), (.t 6)]), zo 8 (.bin .geq (.t 7) zi), zm 4 8])
 .ret))
theorem Tryz.known36 : Known Tryz.prog 36 Tryz.pc36 9 [4] := ⟨Tryz.f36, _, Tryz.func36, rfl, by kernel_rfl, rfl, rfl⟩
def Tryz.pc37 : PC :=
 (.seq (.ops [zo 4 (.mov (.v (.slice none 0 0)))])
 (.seq (.ops [zm 8 0, zm 9 1, zo 10 (.call 83 [(.t 8), (.t 9)]), zm 5 10])
 (.seq (.seq (.ops [zm 11 5, zo 12 (.bin .eql (.t 11) (.v (.int .i64 (-1))))])
 (.cond (.t 12) (.seq (.ops [zm 13 0, zm 4 13])
 .ret) .skip))
 (.seq (.seq (.ops [zm 14 5, zo 15 (.bin .add (.t 14) zj), zm 6 15])
 (.block 0 (.loop (.seq (.seq (.ops [zm 16 6, zm 17 0, zo 18 (.lenS (.t 17)), zo 19 (.bin .lss (.t 16) (.t 18))])
 (.cond (.t 19) .skip (.exit 0)))
 (.seq (.block 1 (.seq (.ops [zm 22 0, zm 23 6, zo 24 (.ixS 35 (.t 22) (.t 23)), zo 25 (.ldA 35 (.t 24)), zo 7 (.al 99 zC3), ⟨none, none, .st 35 (.t 7) (.t 25)⟩])
 (.seq (.ops [zm 26 1, zo 27 (.ldA 35 (.t 7)), zo 28 (.callv (.t 26) [(.t 27)]), zo 29 (.not (.t 28))])
 (.cond (.t 29) (.seq (.ops [zm 30 0, zm 31 5, zo 32 (.ldA 35 (.t 7)), zo 33 (.ixS 35 (.t 30) (.t 31)), ⟨none, none, .st 35 (.t 33) (.t 32)⟩])
 (.ops [zm 34 5, zo 35 (.bin .add (.t 34) zj), zm 5 35])) .skip))))
 (.ops [zm 20 6, zo 21 (.bin .add (.t 20) zj), zm 6 21]))))))
 (.seq (.ops [zm 36 0, zm 37 5, zo 38 (.slS 35 (.t 36) (some (.t 37)) none), ⟨none, none, .more (.clr 99 35 (.agg #[zz, zz, zz, zz, zz, zz, zz, zz, zz, zz, zz, zz, zz, zz, zz, zz, zz, zz, zz, zz, zz, zz, zz, zz, zz, zz, zz, zz, zz, zz, zz, zz, .int .i64 0, .string ⟨#[]⟩, .bool false]) (.t 38))⟩])
 (.seq (.ops [zm 39 0, zm 40 5, zo 41 (.slS 35 (.t 39) none (some (.t 40))), zm 4 41])
 .ret))))))
theorem Tryz.known37 : Known Tryz.prog 37 Tryz.pc37 42 [4] := ⟨Tryz.f37, _, Tryz.func37, rfl, by kernel_rfl, rfl, rfl⟩
def Tryz.pc38 : PC :=
 (.seq (.ops [zo 2 (.mov (.v (.slice none 0 0)))])
 (.seq (.seq (.ops [zm 11 0, zo 12 (.call 45 [(.t 11)]), zo 13 (.not (.t 12))])
 (.cond (.t 13) (.seq (.ops [zo 2 (.mov (.v (.slice none 0 0)))])
 .ret) .skip))
 (.seq (.ops [zm 14 0, zo 15 (.call 84 [(.t 14)]), zm 3 15])
 (.seq (.ops [zo 16 (.bsl0 27), zo 17 (.bx 156 (.t 16)), zm 4 17])
 (.seq (.seq (.ops [zm 18 0, zo 19 (.nilc (.t 18)), zo 20 (.fa 2 (.t 19)), zo 21 (.ld (.t 20)), zo 22 (.more (.other (.gen (.range 109 (.tmp 21)))))])
 (.block 0 (.loop (.seq (.ops [zo 23 (.more (.other (.gen (.next (.tmp 22) false)))), zo 24 (.ext 0 (.t 23))])
 (.seq (.cond (.t 24) .skip (.exit 0))
 (.block 1 (.seq (.ops [zo 25 (.more (.other (.gen (.entry (.tmp 22))))), zo 26 (.ext 0 (.t 25)), zo 5 (.al 27 zC4), ⟨none, none, .st 33 (.t 5) (.t 26)⟩])
 (.seq (.ops [zm 27 3, zo 28 (.ldA 33 (.t 5)), zo 29 (.more (.other (.gen (.lookup 153 (.tmp 27) (.tmp 28) false)))), zo 30 (.bin .eql (.t 29) zi)])
 (.cond (.t 30) (.ops [zm 31 4, zo 32 (.more (.mkI 155 (.t 31))), zo 33 (.ldA 33 (.t 5)), zo 34 (.more (.mkI 27 (.t 33))), zo 35 (.call 85 [(.t 32), (.t 34)])]) .skip)))))))))
 (.seq (.block 2 (.loop (.seq (.seq (.ops [zm 36 4, zo 37 (.nilc (.t 36)), zo 38 (.ld (.t 37)), zo 39 (.call 86 [(.t 38)]), zo 40 (.bin .gtr (.t 39) zi)])
 (.cond (.t 40) .skip (.exit 2)))
 (.block 3 (.seq (.ops [zm 42 4, zo 43 (.more (.mkI 155 (.t 42))), zo 44 (.call 87 [(.t 43)]), zo 45 (.more (.other (.gen (.typeAssert (.tmp 44) 20 27 true)))), zm 41 45, zo 46 (.ext 0 (.t 41)), zo 47 (.ext 1 (.t 41)), zo 6 (.al 27 zC4), ⟨none, none, .st 33 (.t 6) (.t 46)⟩, zm 7 47])
 (.seq (.seq (.ops [zm 48 7, zo 49 (.not (.t 48))])
 (.cond (.t 49) (.exit 3) .skip))
 (.seq (.quietR [0, 1, 3, 7, 0, 31, 0] 7 [zm 50 0, zo 51 (.nilc (.t 50)), zo 52 (.fa 2 (.t 51)), zo 53 (.ld (.t 52)), zo 54 (.ldA 33 (.t 6)), zo 55 (.more (.other (.gen (.lookup 109 (.tmp 53) (.tmp 54) false)))), zo 8 (.al 121 zC7), ⟨none, none, .st 4 (.t 8) (.t 55)⟩])
 (.seq (.ops [zm 56 2, zo 57 (.ldA 33 (.t 6)), zo 58 (.fa 0 (.t 8)), zo 59 (.ld (.t 58)), zo 60 (.fa 1 (.t 8)), zo 61 (.ld (.t 60)), zo 62 (.bin .eql (.t 61) zi), zo 63 (.build zC3 [(0, 33, (.t 57)), (33, 1, (.t 59)), (34, 1, (.t 62))]), zo 64 (.bsl 99 zC3 1 [(0, 35, (.t 63))]), zo 65 (.app 72 99 35 64 (.agg #[zz, zz, zz, zz, zz, zz, zz, zz, zz, zz, zz, zz, zz, zz, zz, zz, zz, zz, zz, zz, zz, zz, zz, zz, zz, zz, zz, zz, zz, zz, zz, zz, .int .i64 0, .string ⟨#[]⟩, .bool false]) (.t 56) (.t 64)), zm 2 65])
 (.seq (.ops [zo 66 (.fa 3 (.t 8)), zo 67 (.ld (.t 66)), zo 68 (.lenS (.t 67)), zo 69 (.mov zi)])
 (.block 4 (.loop (.seq (.ops [zo 70 (.bin .lss (.t 69) (.t 68))])
 (.seq (.cond (.t 70) .skip (.exit 4))
 (.seq (.block 5 (.seq (.ops [zo 71 (.ixS 33 (.t 67) (.t 69)), zo 72 (.ldA 33 (.t 71)), zo 10 (.al 27 zC4), ⟨none, none, .st 33 (.t 10) (.t 72)⟩])
 (.seq (.quietR [0, 0, 3, 7, 3, 19] 6 [zm 73 3, zo 74 (.ldA 33 (.t 10)), zo 75 (.more (.other (.gen (.lookup 153 (.tmp 73) (.tmp 74) false)))), zo 76 (.bin .sub (.t 75) zj), zo 77 (.more (.other (.gen (.mapEntry 153 (.tmp 73) (.tmp 74))))), zo 78 (.ext 1 (.t 77)), ⟨none, none, .more (.other (.gen (.entryStore 153 (.tmp 73) (.tmp 78) (.tmp 76))))⟩])
 (.seq (.quietR [0, 0, 3, 7, 15, 15] 6 [zo 79 (.ldA 33 (.t 10)), zo 80 (.call 88 []), zo 81 (.more (.eqD true 27 zC5 (.t 79) (.t 80))), zm 82 81, zg 83 82 true (.mov (.t 3)), zg 84 82 true (.ldA 33 (.t 10)), zg 85 82 true (.more (.other (.gen (.lookup 153 (.tmp 83) (.tmp 84) false)))), zg 86 82 true (.bin .eql (.t 85) zi), zo 87 (.pick (.t 82) (.t 86) zf)])
 (.cond (.t 87) (.ops [zm 88 4, zo 89 (.more (.mkI 155 (.t 88))), zo 90 (.ldA 33 (.t 10)), zo 91 (.more (.mkI 27 (.t 90))), zo 92 (.call 85 [(.t 89), (.t 91)])]) .skip)))))
 (.ops [zo 93 (.bin .add (.t 69) zj), zm 69 93])))))))))))))))
 (.seq (.ops [zm 94 2, zm 2 94])
 .ret)))))))
theorem Tryz.known38 : Known Tryz.prog 38 Tryz.pc38 95 [2] := ⟨Tryz.f38, _, Tryz.func38, rfl, by kernel_rfl, rfl, rfl⟩
def Tryz.pc39 : PC :=
 (.seq (.ops [zo 1 (.bx 99 (.t 0)), zo 2 (.mov zf)])
 (.seq (.ops [zo 3 (.fa 34 (.t 1)), zo 4 (.ld (.t 3)), zo 5 (.not (.t 4)), zm 2 5])
 .ret))
theorem Tryz.known39 : Known Tryz.prog 39 Tryz.pc39 6 [2] := ⟨Tryz.f39, _, Tryz.func39, rfl, by kernel_rfl, rfl, rfl⟩
def Tryz.pc40 : PC :=
 (.seq (.ops [zo 4 (.bx 99 (.t 1)), zo 5 (.bx 99 (.t 2)), zo 6 (.mov zf)])
 (.seq (.ops [zm 7 0, zo 8 (.fa 0 (.t 4)), zo 9 (.ldA 33 (.t 8)), zo 10 (.fa 0 (.t 5)), zo 11 (.ldA 33 (.t 10)), zo 12 (.call 52 [(.t 7), (.t 9), (.t 11)]), zm 13 12, zg 14 13 false (.mov (.t 0)), zg 15 13 false (.fa 0 (.t 5)), zg 16 13 false (.ldA 33 (.t 15)), zg 17 13 false (.fa 0 (.t 4)), zg 18 13 false (.ldA 33 (.t 17)), zg 19 13 false (.call 52 [(.t 14), (.t 16), (.t 18)]), zo 20 (.pick (.t 13) zt (.t 19)), zm 6 20])
 .ret))
theorem Tryz.known40 : Known Tryz.prog 40 Tryz.pc40 21 [6] := ⟨Tryz.f40, _, Tryz.func40, rfl, by kernel_rfl, rfl, rfl⟩
def Tryz.pc41 : PC :=
 (.seq (.ops [zo 4 (.al 75 zC8)])
 (.seq (.ops [zm 7 1, zo 8 (.build zC8 [(0, 1, (.t 7)), (1, 1, zt)]), zo 5 (.al 75 zC8), ⟨none, none, .st 3 (.t 5) (.t 8)⟩])
 (.seq (.seq (.ops [zo 6 (.mov zj)])
 (.block 0 (.loop (.seq (.seq (.ops [zm 9 6, zm 10 1, zo 11 (.lenS (.t 10)), zo 12 (.bin .lss (.t 9) (.t 11))])
 (.cond (.t 12) .skip (.exit 0)))
 (.seq (.block 1 (.seq (.quietR [] 10 [zm 15 0, zm 16 1, zm 17 6, zo 18 (.bin .sub (.t 17) zj), zo 19 (.ixS 35 (.t 16) (.t 18)), zo 20 (.ldA 35 (.t 19)), zm 21 1, zm 22 6, zo 23 (.ixS 35 (.t 21) (.t 22)), zo 24 (.ldA 35 (.t 23)), zo 25 (.call 40 [(.t 15), (.t 20), (.t 24)]), zo 26 (.not (.t 25))])
 (.cond (.t 26) (.ops [zo 27 (.fa 2 (.t 5)), zo 28 (.ld (.t 27)), zm 29 6, zo 30 (.bsl 3 [.int .i64 0] 1 [(0, 1, (.t 29))]), zo 31 (.app 73 3 1 8 (.int .i64 0) (.t 28) (.t 30)), zo 32 (.fa 2 (.t 5)), ⟨none, none, .st 1 (.t 32) (.t 31)⟩]) .skip)))
 (.ops [zm 13 6, zo 14 (.bin .add (.t 13) zj), zm 6 14]))))))
 (.seq (.ops [zo 33 (.ldA 3 (.t 5)), ⟨none, none, .st 3 (.t 4) (.t 33)⟩])
 .ret))))
theorem Tryz.known41 : KnownC Tryz.prog 41 Tryz.pc41 34 4 (some 3) := ⟨Tryz.f41, _, _, Tryz.func41, rfl, by kernel_rfl, rfl, rfl, by kernel_rfl⟩
def Tryz.pc42 : PC :=
 (.seq (.ops [zo 4 (.mov zf)])
 (.seq (.ops [zm 5 0, zm 6 1, zo 7 (.call 89 [(.t 5), (.t 6)]), zo 8 (.bin .geq (.t 7) zi), zm 4 8])
 .ret))
theorem Tryz.known42 : Known Tryz.prog 42 Tryz.pc42 9 [4] := ⟨Tryz.f42, _, Tryz.func42, rfl, by kernel_rfl, rfl, rfl⟩
def Tryz.pc43 : PC :=
 (.seq (.ops [zo 1 (.bx 75 (.t 0)), zo 2 (.mov zf)])
 (.seq (.ops [zo 3 (.fa 1 (.t 1)), zo 4 (.ld (.t 3)), zm 2 4])
 .ret))
theorem Tryz.known43 : Known Tryz.prog 43 Tryz.pc43 5 [2] := ⟨Tryz.f43, _, Tryz.func43, rfl, by kernel_rfl, rfl, rfl⟩
def Tryz.pc44 : PC :=
 (.seq (.ops [zo 2 (.mov zf)])
 (.seq (.seq (.ops [zm 5 0, zo 6 (.more (.rngS (.t 5)))])
 (.block 0 (.loop (.seq (.ops [zo 7 (.more (.nxtS (.t 6))), zo 8 (.ext 0 (.t 7))])
 (.seq (.cond (.t 8) .skip (.exit 0))
 (.block 1 (.seq (.ops [zo 9 (.ext 2 (.t 7)), zm 4 9])
 (.seq (.ops [zm 10 4, zo 11 (.bin .neq (.t 10) (.v (.int .i32 9))), zm 12 11, zg 13 12 true (.mov (.t 4)), zg 14 12 true (.bin .lss (.t 13) (.v (.int .i32 32))), zg 15 12 true (.mov (.t 14)), zg 16 15 false (.mov (.t 4)), zg 17 15 false (.bin .gtr (.t 16) (.v (.int .i32 126))), zg 18 12 true (.pick (.t 15) zt (.t 17)), zo 19 (.pick (.t 12) (.t 18) zf)])
 (.cond (.t 19) (.seq (.ops [zo 2 (.mov zf)])
 .ret) .skip)))))))))
 (.seq (.ops [zm 20 0, zo 21 (.lenStr (.t 20)), zo 22 (.bin .leq (.t 21) (.v (.int .i64 80))), zm 2 22])
 .ret)))
theorem Tryz.known44 : Known Tryz.prog 44 Tryz.pc44 23 [2] := ⟨Tryz.f44, _, Tryz.func44, rfl, by kernel_rfl, rfl, rfl⟩
def Tryz.pc45 : PC :=
 (.seq (.ops [zo 2 (.mov zf)])
 (.seq (.ops [zm 3 0, zo 4 (.eqP true (.t 3) (.v (.pointer none))), zm 5 4, zg 6 5 true (.mov (.t 0)), zg 7 5 true (.nilc (.t 6)), zg 8 5 true (.fa 0 (.t 7)), zg 9 5 true (.ld (.t 8)), zo 10 (.pick (.t 5) (.t 9) zf), zm 2 10])
 .ret))
theorem Tryz.known45 : Known Tryz.prog 45 Tryz.pc45 11 [2] := ⟨Tryz.f45, _, Tryz.func45, rfl, by kernel_rfl, rfl, rfl⟩
def Tryz.pc46 : PC :=
 (.seq (.ops [zo 3 (.bx 59 (.t 1)), zo 4 (.mov zf)])
 (.seq (.seq (.quietR [0, 1, 3, 7, 0, 16, 0, 64, 240, 511, 1023, 2047, 2047, 0, 12287] 15 [zm 9 0, zo 10 (.nilc (.t 9)), zo 11 (.fa 1 (.t 10)), zo 12 (.ld (.t 11)), zo 13 (.fa 0 (.t 3)), zo 14 (.ldA 32 (.t 13)), zo 15 (.fa 32 (.t 3)), zo 16 (.ld (.t 15)), zo 17 (.build zC4 [(0, 32, (.t 14)), (32, 1, (.t 16))]), zo 18 (.more (.other (.gen (.lookup 108 (.tmp 12) (.tmp 17) true)))), zm 8 18, zo 19 (.ext 0 (.t 8)), zo 20 (.ext 1 (.t 8)), zo 5 (.al 59 zC1), ⟨none, none, .st 102 (.t 5) (.t 19)⟩, zm 6 20])
 (.seq (.ops [zm 21 6])
 (.cond (.t 21) (.seq (.ops [zo 4 (.mov zt)])
 .ret) .skip)))
 (.seq (.seq (.ops [zo 22 (.fa 100 (.t 3)), zo 23 (.ld (.t 22)), zo 24 (.lenS (.t 23)), zo 25 (.mov zi)])
 (.block 0 (.loop (.seq (.ops [zo 26 (.bin .lss (.t 25) (.t 24))])
 (.seq (.cond (.t 26) .skip (.exit 0))
 (.seq (.block 1 (.seq (.ops [zm 27 25, zm 7 27])
 (.seq (.ops [zm 28 0, zo 29 (.ldA 102 (.t 3)), zm 30 7, zo 31 (.call 55 [(.t 29), (.t 30)]), zo 32 (.call 51 [(.t 28), (.t 31)])])
 (.cond (.t 32) (.seq (.ops [zo 4 (.mov zt)])
 .ret) .skip))))
 (.ops [zo 33 (.bin .add (.t 25) zj), zm 25 33])))))))
 (.seq (.ops [zo 4 (.mov zf)])
 .ret))))
theorem Tryz.known46 : Known Tryz.prog 46 Tryz.pc46 34 [4] := ⟨Tryz.f46, _, Tryz.func46, rfl, by kernel_rfl, rfl, rfl⟩
def Tryz.pc47 : PC :=
 (.seq (.ops [zo 1 (.bx 59 (.t 0)), zo 2 (.mov zf)])
 (.seq (.seq (.ops [zo 5 (.fa 101 (.t 1)), zo 6 (.ld (.t 5)), zo 7 (.lenS (.t 6)), zo 8 (.mov zi)])
 (.block 0 (.loop (.seq (.ops [zo 9 (.bin .lss (.t 8) (.t 7))])
 (.seq (.cond (.t 9) .skip (.exit 0))
 (.seq (.block 1 (.seq (.ops [zm 10 8, zo 11 (.ixS 33 (.t 6) (.t 8)), zo 12 (.ldA 33 (.t 11)), zo 4 (.al 27 zC4), zm 3 10, ⟨none, none, .st 33 (.t 4) (.t 12)⟩])
 (.seq (.quietR [0, 0, 3, 7, 15, 15, 63, 127, 255, 511, 1023, 511, 4095, 511] 14 [zo 13 (.ldA 33 (.t 4)), zo 14 (.call 90 []), zo 15 (.more (.eqD false 27 zC5 (.t 13) (.t 14))), zm 16 15, zg 17 16 false (.ldA 33 (.t 4)), zg 18 16 false (.call 88 []), zg 19 16 false (.more (.eqD false 27 zC5 (.t 17) (.t 18))), zo 20 (.pick (.t 16) zt (.t 19)), zm 21 20, zg 22 21 false (.fa 101 (.t 1)), zg 23 21 false (.ld (.t 22)), zg 24 21 false (.mov (.t 3)), zg 25 21 false (.slS 33 (.t 23) none (some (.t 24))), zg 26 21 false (.ldA 33 (.t 4)), zg 27 21 false (.call 91 [(.t 25), (.t 26)]), zo 28 (.pick (.t 21) zt (.t 27))])
 (.cond (.t 28) (.seq (.ops [zo 2 (.mov zf)])
 .ret) .skip))))
 (.ops [zo 29 (.bin .add (.t 8) zj), zm 8 29])))))))
 (.seq (.quietR [0, 1, 3, 7, 15, 31, 15, 127, 255, 511, 1023, 2047, 1023] 13 [zo 30 (.fa 33 (.t 1)), zo 31 (.ld (.t 30)), zo 32 (.bin .geq (.t 31) zi), zm 33 32, zg 34 33 true (.fa 34 (.t 1)), zg 35 33 true (.ldA 33 (.t 34)), zg 36 33 true (.call 88 []), zg 37 33 true (.more (.eqD true 27 zC5 (.t 35) (.t 36))), zo 38 (.pick (.t 33) (.t 37) zf), zm 39 38, zg 40 39 true (.fa 67 (.t 1)), zg 41 39 true (.ldA 33 (.t 40)), zg 42 39 true (.call 90 []), zg 43 39 true (.more (.eqD true 27 zC5 (.t 41) (.t 42))), zo 44 (.pick (.t 39) (.t 43) zf), zm 2 44])
 .ret)))
theorem Tryz.known47 : Known Tryz.prog 47 Tryz.pc47 45 [2] := ⟨Tryz.f47, _, Tryz.func47, rfl, by kernel_rfl, rfl, rfl⟩
def Tryz.pc48 : PC :=
 (.seq (.ops [zo 3 (.bx 27 (.t 1)), zo 4 (.mov zf)])
 (.seq (.quietR [0, 1, 3, 7, 7, 31, 63, 127, 127, 511, 1023, 2047, 4095, 4095] 14 [zm 5 0, zo 6 (.call 45 [(.t 5)]), zm 7 6, zg 8 7 true (.ldA 33 (.t 3)), zg 9 7 true (.call 90 []), zg 10 7 true (.more (.eqD false 27 zC5 (.t 8) (.t 9))), zg 11 7 true (.mov (.t 10)), zg 12 11 false (.ldA 33 (.t 3)), zg 13 11 false (.call 88 []), zg 14 11 false (.more (.eqD false 27 zC5 (.t 12) (.t 13))), zg 15 7 true (.pick (.t 11) zt (.t 14)), zg 16 7 true (.mov (.t 15)), zg 17 16 false (.mov (.t 0)), zg 18 16 false (.ldA 33 (.t 3)), zg 19 16 false (.call 51 [(.t 17), (.t 18)]), zg 20 7 true (.pick (.t 16) zt (.t 19)), zo 21 (.pick (.t 7) (.t 20) zf), zm 4 21])
 .ret))
theorem Tryz.known48 : Known Tryz.prog 48 Tryz.pc48 22 [4] := ⟨Tryz.f48, _, Tryz.func48, rfl, by kernel_rfl, rfl, rfl⟩
def Tryz.pc49 : PC :=
 (.seq (.ops [zo 4 (.mov zf)])
 (.seq (.ops [zm 5 0, zm 6 1, zo 7 (.call 92 [(.t 5), (.t 6)]), zo 8 (.bin .geq (.t 7) zi), zm 4 8])
 .ret))
theorem Tryz.known49 : Known Tryz.prog 49 Tryz.pc49 9 [4] := ⟨Tryz.f49, _, Tryz.func49, rfl, by kernel_rfl, rfl, rfl⟩
def Tryz.pc50 : PC :=
 (.seq (.ops [zo 2 (.bx 27 (.t 0)), zo 3 (.mov zf)])
 (.seq (.ops [zo 4 (.ld (.t 1)), zo 5 (.ldA 33 (.t 2)), zo 6 (.call 51 [(.t 4), (.t 5)]), zo 7 (.not (.t 6)), zm 3 7])
 .ret))
theorem Tryz.known50 : Known Tryz.prog 50 Tryz.pc50 8 [3] := ⟨Tryz.f50, _, Tryz.func50, rfl, by kernel_rfl, rfl, rfl⟩
def Tryz.pc51 : PC :=
 (.seq (.ops [zo 3 (.bx 27 (.t 1)), zo 4 (.mov zf)])
 (.seq (.quietR [0, 1, 3, 7, 0, 31, 63, 127, 127, 0, 767] 11 [zm 8 0, zo 9 (.nilc (.t 8)), zo 10 (.fa 2 (.t 9)), zo 11 (.ld (.t 10)), zo 12 (.ldA 33 (.t 3)), zo 13 (.more (.other (.gen (.lookup 109 (.tmp 11) (.tmp 12) true)))), zm 7 13, zo 14 (.ext 0 (.t 7)), zo 15 (.ext 1 (.t 7)), zo 5 (.al 121 zC7), ⟨none, none, .st 4 (.t 5) (.t 14)⟩, zm 6 15])
 (.seq (.ops [zm 16 6, zm 4 16])
 .ret)))
theorem Tryz.known51 : Known Tryz.prog 51 Tryz.pc51 17 [4] := ⟨Tryz.f51, _, Tryz.func51, rfl, by kernel_rfl, rfl, rfl⟩
def Tryz.pc52 : PC :=
 (.seq (.ops [zo 4 (.bx 27 (.t 1)), zo 5 (.bx 27 (.t 2)), zo 6 (.mov zf)])
 (.seq (.block 0 (.seq (.quietR [0, 0, 3, 7, 15, 31, 31, 127, 255, 511, 1023, 2047, 2047, 8191, 16383, 32767, 65535, 65535, 262143, 524287, 1048575, 2097151, 2097151] 23 [zm 15 0, zo 16 (.ldA 33 (.t 4)), zo 17 (.call 48 [(.t 15), (.t 16)]), zo 18 (.not (.t 17)), zm 19 18, zg 20 19 false (.mov (.t 0)), zg 21 19 false (.ldA 33 (.t 5)), zg 22 19 false (.call 48 [(.t 20), (.t 21)]), zg 23 19 false (.not (.t 22)), zo 24 (.pick (.t 19) zt (.t 23)), zm 25 24, zg 26 25 false (.ldA 33 (.t 4)), zg 27 25 false (.ldA 33 (.t 5)), zg 28 25 false (.more (.eqD false 27 zC5 (.t 26) (.t 27))), zo 29 (.pick (.t 25) zt (.t 28)), zm 30 29, zg 31 30 false (.ldA 33 (.t 4)), zg 32 30 false (.call 88 []), zg 33 30 false (.more (.eqD false 27 zC5 (.t 31) (.t 32))), zo 34 (.pick (.t 30) zt (.t 33)), zm 35 34, zg 36 35 false (.ldA 33 (.t 5)), zg 37 35 false (.call 90 []), zg 38 35 false (.more (.eqD false 27 zC5 (.t 36) (.t 37))), zo 39 (.pick (.t 35) zt (.t 38)), zm 14 39])
 (.cond (.t 14) (.seq (.ops [zo 6 (.mov zf)])
 .ret) (.seq (.quietR [0, 0, 3, 7, 15, 15] 6 [zo 41 (.ldA 33 (.t 4)), zo 42 (.call 90 []), zo 43 (.more (.eqD false 27 zC5 (.t 41) (.t 42))), zm 44 43, zg 45 44 false (.ldA 33 (.t 5)), zg 46 44 false (.call 88 []), zg 47 44 false (.more (.eqD false 27 zC5 (.t 45) (.t 46))), zo 48 (.pick (.t 44) zt (.t 47)), zm 40 48])
 (.cond (.t 40) (.seq (.ops [zo 6 (.mov zt)])
 .ret) .skip)))))
 (.seq (.ops [zo 49 (.mkM), zo 50 (.ldA 33 (.t 4)), zo 51 (.build [] []), ⟨none, none, .more (.other (.gen (.insert 167 (.tmp 49) (.tmp 50) (.tmp 51))))⟩, zm 52 49, zm 7 52])
 (.seq (.ops [zo 53 (.ldA 33 (.t 4)), zo 54 (.bsl 27 zC4 1 [(0, 33, (.t 53))]), zm 8 54])
 (.seq (.block 1 (.loop (.seq (.seq (.ops [zm 55 8, zo 56 (.lenS (.t 55)), zo 57 (.bin .gtr (.t 56) zi)])
 (.cond (.t 57) .skip (.exit 1)))
 (.block 2 (.seq (.ops [zm 58 8, zm 59 8, zo 60 (.lenS (.t 59)), zo 61 (.bin .sub (.t 60) zj), zo 62 (.ixS 33 (.t 58) (.t 61)), zo 63 (.ldA 33 (.t 62)), zo 9 (.al 27 zC4), ⟨none, none, .st 33 (.t 9) (.t 63)⟩])
 (.seq (.ops [zm 64 8, zm 65 8, zo 66 (.lenS (.t 65)), zo 67 (.bin .sub (.t 66) zj), zo 68 (.slS 33 (.t 64) none (some (.t 67))), zm 8 68])
 (.seq (.ops [zm 69 0, zo 70 (.ldA 33 (.t 9)), zo 71 (.call 93 [(.t 69), (.t 70)]), zo 72 (.lenS (.t 71)), zo 73 (.mov zi)])
 (.block 3 (.loop (.seq (.ops [zo 74 (.bin .lss (.t 73) (.t 72))])
 (.seq (.cond (.t 74) .skip (.exit 3))
 (.seq (.block 4 (.seq (.ops [zo 75 (.ixS 33 (.t 71) (.t 73)), zo 76 (.ldA 33 (.t 75)), zo 11 (.al 27 zC4), ⟨none, none, .st 33 (.t 11) (.t 76)⟩])
 (.seq (.seq (.ops [zo 77 (.ldA 33 (.t 11)), zo 78 (.ldA 33 (.t 5)), zo 79 (.more (.eqD false 27 zC5 (.t 77) (.t 78)))])
 (.cond (.t 79) (.seq (.ops [zo 6 (.mov zt)])
 .ret) .skip))
 (.seq (.ops [zm 81 7, zo 82 (.ldA 33 (.t 11)), zo 83 (.more (.other (.gen (.lookup 167 (.tmp 81) (.tmp 82) true)))), zm 80 83, zo 84 (.ext 0 (.t 80)), zo 85 (.ext 1 (.t 80)), zo 12 (.al 166 []), ⟨none, none, .st 0 (.t 12) (.t 84)⟩, zm 13 85])
 (.seq (.ops [zm 86 13, zo 87 (.not (.t 86))])
 (.cond (.t 87) (.seq (.ops [zm 88 7, zo 89 (.ldA 33 (.t 11)), zo 90 (.build [] []), ⟨none, none, .more (.other (.gen (.mapUpdate 167 (.tmp 88) (.tmp 89) (.tmp 90))))⟩])
 (.ops [zm 91 8, zo 92 (.ldA 33 (.t 11)), zo 93 (.bsl 27 zC4 1 [(0, 33, (.t 92))]), zo 94 (.app 44 27 33 40 (.agg #[zz, zz, zz, zz, zz, zz, zz, zz, zz, zz, zz, zz, zz, zz, zz, zz, zz, zz, zz, zz, zz, zz, zz, zz, zz, zz, zz, zz, zz, zz, zz, zz, .int .i64 0]) (.t 91) (.t 93)), zm 8 94])) .skip))))))
 (.ops [zo 95 (.bin .add (.t 73) zj), zm 73 95])))))))))))))
 (.seq (.ops [zo 6 (.mov zf)])
 .ret))))))
theorem Tryz.known52 : Known Tryz.prog 52 Tryz.pc52 96 [6] := ⟨Tryz.f52, _, Tryz.func52, rfl, by kernel_rfl, rfl, rfl⟩
def Tryz.pc53 : PC :=
 (.seq (.ops [zo 2 (.mov (.v (.slice none 0 0)))])
 (.seq (.seq (.ops [zm 3 0, zo 4 (.more (.slNil false (.t 3)))])
 (.cond (.t 4) (.seq (.ops [zo 2 (.mov (.v (.slice none 0 0)))])
 .ret) .skip))
 (.seq (.ops [zo 5 (.bsl0 9), zm 6 0, zo 7 (.app 23 9 1 16 (.string ⟨#[]⟩) (.t 5) (.t 6)), zm 2 7])
 .ret)))
theorem Tryz.known53 : Known Tryz.prog 53 Tryz.pc53 8 [2] := ⟨Tryz.f53, _, Tryz.func53, rfl, by kernel_rfl, rfl, rfl⟩
def Tryz.pc54 : PC :=
 (.seq (.ops [zo 2 (.mov (.v (.slice none 0 0)))])
 (.seq (.seq (.ops [zm 3 0, zo 4 (.more (.slNil false (.t 3)))])
 (.cond (.t 4) (.seq (.ops [zo 2 (.mov (.v (.slice none 0 0)))])
 .ret) .skip))
 (.seq (.ops [zo 5 (.bsl0 27), zm 6 0, zo 7 (.app 44 27 33 40 (.agg #[zz, zz, zz, zz, zz, zz, zz, zz, zz, zz, zz, zz, zz, zz, zz, zz, zz, zz, zz, zz, zz, zz, zz, zz, zz, zz, zz, zz, zz, zz, zz, zz, .int .i64 0]) (.t 5) (.t 6)), zm 2 7])
 .ret)))
theorem Tryz.known54 : Known Tryz.prog 54 Tryz.pc54 8 [2] := ⟨Tryz.f54, _, Tryz.func54, rfl, by kernel_rfl, rfl, rfl⟩
def Tryz.pc55 : PC :=
 (.seq (.ops [zo 2 (.bx 59 (.t 0)), zo 4 (.al 27 zC4)])
 (.seq (.ops [zo 5 (.fa 0 (.t 2)), zo 6 (.ldA 32 (.t 5)), zo 7 (.fa 33 (.t 2)), zo 8 (.ld (.t 7)), zm 9 1, zo 10 (.bin .add (.t 8) (.t 9)), zo 11 (.build zC4 [(0, 32, (.t 6)), (32, 1, (.t 10))]), ⟨none, none, .st 33 (.t 4) (.t 11)⟩])
 .ret))
theorem Tryz.known55 : KnownC Tryz.prog 55 Tryz.pc55 12 4 (some 33) := ⟨Tryz.f55, _, _, Tryz.func55, rfl, by kernel_rfl, rfl, rfl, by kernel_rfl⟩
def Tryz.pc56 : PC :=
 (.seq (.ops [zo 4 (.bx 59 (.t 1))])
 (.seq (.seq (.ops [zo 9 (.fa 100 (.t 4)), zo 10 (.ld (.t 9)), zo 11 (.lenS (.t 10)), zo 12 (.bin .eql (.t 11) zi)])
 (.cond (.t 12) .ret .skip))
 (.seq (.ops [zo 13 (.fa 34 (.t 4)), zo 14 (.ldA 33 (.t 13)), zo 15 (.bsl 27 zC4 1 [(0, 33, (.t 14))]), zm 6 15])
 (.seq (.seq (.ops [zo 16 (.fa 100 (.t 4)), zo 17 (.ld (.t 16)), zo 18 (.lenS (.t 17)), zo 19 (.mov zi)])
 (.block 0 (.loop (.seq (.ops [zo 20 (.bin .lss (.t 19) (.t 18))])
 (.seq (.cond (.t 20) .skip (.exit 0))
 (.seq (.block 1 (.seq (.ops [zm 21 19, zm 7 21])
 (.ops [zm 22 6, zo 23 (.ldA 102 (.t 4)), zm 24 7, zo 25 (.call 55 [(.t 23), (.t 24)]), zo 26 (.bsl 27 zC4 1 [(0, 33, (.t 25))]), zo 27 (.app 44 27 33 40 (.agg #[zz, zz, zz, zz, zz, zz, zz, zz, zz, zz, zz, zz, zz, zz, zz, zz, zz, zz, zz, zz, zz, zz, zz, zz, zz, zz, zz, zz, zz, zz, zz, zz, .int .i64 0]) (.t 22) (.t 26)), zm 6 27])))
 (.ops [zo 28 (.bin .add (.t 19) zj), zm 19 28])))))))
 (.seq (.ops [zm 29 6, zo 30 (.fa 67 (.t 4)), zo 31 (.ldA 33 (.t 30)), zo 32 (.bsl 27 zC4 1 [(0, 33, (.t 31))]), zo 33 (.app 44 27 33 40 (.agg #[zz, zz, zz, zz, zz, zz, zz, zz, zz, zz, zz, zz, zz, zz, zz, zz, zz, zz, zz, zz, zz, zz, zz, zz, zz, zz, zz, zz, zz, zz, zz, zz, .int .i64 0]) (.t 29) (.t 32)), zm 6 33])
 (.seq (.ops [zo 8 (.mov zj)])
 (.block 2 (.loop (.seq (.seq (.ops [zm 34 8, zm 35 6, zo 36 (.lenS (.t 35)), zo 37 (.bin .lss (.t 34) (.t 36))])
 (.cond (.t 37) .skip (.exit 2)))
 (.seq (.block 3 (.quietR [] 11 [zm 40 0, zm 41 6, zm 42 8, zo 43 (.bin .sub (.t 42) zj), zo 44 (.ixS 33 (.t 41) (.t 43)), zo 45 (.ldA 33 (.t 44)), zm 46 6, zm 47 8, zo 48 (.ixS 33 (.t 46) (.t 47)), zo 49 (.ldA 33 (.t 48)), zm 50 2, zo 51 (.call 94 [(.t 40), (.t 45), (.t 49), (.t 50)])]))
 (.ops [zm 38 8, zo 39 (.bin .add (.t 38) zj), zm 8 39])))))))))))
theorem Tryz.known56 : Known Tryz.prog 56 Tryz.pc56 52 [] := ⟨Tryz.f56, _, Tryz.func56, rfl, by kernel_rfl, rfl, rfl⟩
def Tryz.pc57 : PC :=
 (.seq (.ops [zo 4 (.bx 59 (.t 1))])
 (.seq (.seq (.ops [zo 13 (.fa 34 (.t 4)), zo 14 (.ldA 33 (.t 13)), zo 15 (.fa 67 (.t 4)), zo 16 (.ldA 33 (.t 15)), zo 17 (.bsl 27 zC2 2 [(0, 33, (.t 14)), (33, 33, (.t 16))]), zo 18 (.fa 101 (.t 4)), zo 19 (.ld (.t 18)), zo 20 (.app 44 27 33 40 (.agg #[zz, zz, zz, zz, zz, zz, zz, zz, zz, zz, zz, zz, zz, zz, zz, zz, zz, zz, zz, zz, zz, zz, zz, zz, zz, zz, zz, zz, zz, zz, zz, zz, .int .i64 0]) (.t 17) (.t 19)), zo 21 (.lenS (.t 20)), zo 22 (.mov zi)])
 (.block 0 (.loop (.seq (.ops [zo 23 (.bin .lss (.t 22) (.t 21))])
 (.seq (.cond (.t 23) .skip (.exit 0))
 (.seq (.block 1 (.seq (.ops [zo 24 (.ixS 33 (.t 20) (.t 22)), zo 25 (.ldA 33 (.t 24)), zo 7 (.al 27 zC4), ⟨none, none, .st 33 (.t 7) (.t 25)⟩])
 (.seq (.quietR [0, 1, 3, 7, 0, 31, 63, 127, 127, 0, 767] 11 [zm 27 0, zo 28 (.nilc (.t 27)), zo 29 (.fa 2 (.t 28)), zo 30 (.ld (.t 29)), zo 31 (.ldA 33 (.t 7)), zo 32 (.more (.other (.gen (.lookup 109 (.tmp 30) (.tmp 31) true)))), zm 26 32, zo 33 (.ext 0 (.t 26)), zo 34 (.ext 1 (.t 26)), zo 8 (.al 121 zC7), ⟨none, none, .st 4 (.t 8) (.t 33)⟩, zm 9 34])
 (.seq (.ops [zm 35 9])
 (.cond (.t 35) (.seq (.ops [zo 36 (.fa 2 (.t 8)), zo 37 (.ld (.t 36)), zm 38 2, zo 39 (.bin .add (.t 37) (.t 38)), zo 40 (.fa 2 (.t 8)), ⟨none, none, .st 1 (.t 40) (.t 39)⟩])
 (.quietR [] 6 [zm 41 0, zo 42 (.nilc (.t 41)), zo 43 (.fa 2 (.t 42)), zo 44 (.ld (.t 43)), zo 45 (.ldA 33 (.t 7)), zo 46 (.ldA 4 (.t 8)), ⟨none, none, .more (.other (.gen (.mapUpdate 109 (.tmp 44) (.tmp 45) (.tmp 46))))⟩])) .skip)))))
 (.ops [zo 47 (.bin .add (.t 22) zj), zm 22 47])))))))
 (.seq (.ops [zo 48 (.fa 101 (.t 4)), zo 49 (.ld (.t 48)), zo 50 (.lenS (.t 49)), zo 51 (.mov zi)])
 (.block 2 (.loop (.seq (.ops [zo 52 (.bin .lss (.t 51) (.t 50))])
 (.seq (.cond (.t 52) .skip (.exit 2))
 (.seq (.block 3 (.seq (.ops [zo 53 (.ixS 33 (.t 49) (.t 51)), zo 54 (.ldA 33 (.t 53)), zo 11 (.al 27 zC4), ⟨none, none, .st 33 (.t 11) (.t 54)⟩])
 (.seq (.quietR [0, 1, 3, 7, 0, 31, 0] 7 [zm 55 0, zo 56 (.nilc (.t 55)), zo 57 (.fa 2 (.t 56)), zo 58 (.ld (.t 57)), zo 59 (.ldA 33 (.t 11)), zo 60 (.more (.other (.gen (.lookup 109 (.tmp 58) (.tmp 59) false)))), zo 12 (.al 121 zC7), ⟨none, none, .st 4 (.t 12) (.t 60)⟩])
 (.seq (.ops [zo 61 (.fa 1 (.t 12)), zo 62 (.ld (.t 61)), zm 63 2, zo 64 (.bin .add (.t 62) (.t 63)), zo 65 (.fa 1 (.t 12)), ⟨none, none, .st 1 (.t 65) (.t 64)⟩])
 (.quietR [] 6 [zm 66 0, zo 67 (.nilc (.t 66)), zo 68 (.fa 2 (.t 67)), zo 69 (.ld (.t 68)), zo 70 (.ldA 33 (.t 11)), zo 71 (.ldA 4 (.t 12)), ⟨none, none, .more (.other (.gen (.mapUpdate 109 (.tmp 69) (.tmp 70) (.tmp 71))))⟩])))))
 (.ops [zo 72 (.bin .add (.t 51) zj), zm 51 72])))))))))
theorem Tryz.known57 : Known Tryz.prog 57 Tryz.pc57 73 [] := ⟨Tryz.f57, _, Tryz.func57, rfl, by kernel_rfl, rfl, rfl⟩
def Tryz.pc58 : PC :=
 (.seq (.ops [zo 2 (.mov (.v (.slice none 0 0)))])
 (.seq (.ops [zo 3 (.mov (.v (.slice none 0 0)))])
 (.seq (.seq (.ops [zo 4 (.mov zi)])
 (.block 0 (.loop (.seq (.seq (.ops [zm 5 4, zm 6 0, zo 7 (.lenS (.t 6)), zo 8 (.bin .lss (.t 5) (.t 7))])
 (.cond (.t 8) .skip (.exit 0)))
 (.seq (.block 1 (.ops [zm 11 3, zm 12 0, zm 13 4, zo 14 (.ixS 102 (.t 12) (.t 13)), zo 15 (.ldA 102 (.t 14)), zo 16 (.call 59 [(.t 15)]), zo 17 (.app 44 27 33 40 (.agg #[zz, zz, zz, zz, zz, zz, zz, zz, zz, zz, zz, zz, zz, zz, zz, zz, zz, zz, zz, zz, zz, zz, zz, zz, zz, zz, zz, zz, zz, zz, zz, zz, .int .i64 0]) (.t 11) (.t 16)), zm 3 17]))
 (.ops [zm 9 4, zo 10 (.bin .add (.t 9) zj), zm 4 10]))))))
 (.seq (.ops [zm 18 3, zm 2 18])
 .ret))))
theorem Tryz.known58 : Known Tryz.prog 58 Tryz.pc58 19 [2] := ⟨Tryz.f58, _, Tryz.func58, rfl, by kernel_rfl, rfl, rfl⟩
def Tryz.pc59 : PC :=
 (.seq (.ops [zo 1 (.bx 66 (.t 0)), zo 2 (.mov (.v (.slice none 0 0)))])
 (.seq (.ops [zo 3 (.mov (.v (.slice none 0 0)))])
 (.seq (.seq (.ops [zo 4 (.mov zi)])
 (.block 0 (.loop (.seq (.seq (.ops [zm 5 4, zo 6 (.fa 100 (.t 1)), zo 7 (.ld (.t 6)), zo 8 (.lenS (.t 7)), zo 9 (.bin .lss (.t 5) (.t 8))])
 (.cond (.t 9) .skip (.exit 0)))
 (.seq (.block 1 (.ops [zm 12 3, zo 13 (.fa 0 (.t 1)), zo 14 (.ldA 32 (.t 13)), zo 15 (.fa 33 (.t 1)), zo 16 (.ld (.t 15)), zm 17 4, zo 18 (.bin .add (.t 16) (.t 17)), zo 19 (.build zC4 [(0, 32, (.t 14)), (32, 1, (.t 18))]), zo 20 (.bsl 27 zC4 1 [(0, 33, (.t 19))]), zo 21 (.app 44 27 33 40 (.agg #[zz, zz, zz, zz, zz, zz, zz, zz, zz, zz, zz, zz, zz, zz, zz, zz, zz, zz, zz, zz, zz, zz, zz, zz, zz, zz, zz, zz, zz, zz, zz, zz, .int .i64 0]) (.t 12) (.t 20)), zm 3 21]))
 (.ops [zm 10 4, zo 11 (.bin .add (.t 10) zj), zm 4 11]))))))
 (.seq (.ops [zm 22 3, zm 2 22])
 .ret))))
theorem Tryz.known59 : Known Tryz.prog 59 Tryz.pc59 23 [2] := ⟨Tryz.f59, _, Tryz.func59, rfl, by kernel_rfl, rfl, rfl⟩
def Tryz.pc60 : PC :=
 (.seq (.ops [zo 3 (.bx 27 (.t 1)), zo 4 (.mov zf)])
 (.seq (.seq (.ops [zo 5 (.mov zi)])
 (.block 0 (.loop (.seq (.seq (.ops [zm 6 5, zm 7 0, zo 8 (.lenS (.t 7)), zo 9 (.bin .lss (.t 6) (.t 8))])
 (.cond (.t 9) .skip (.exit 0)))
 (.seq (.block 1 (.seq (.quietR [] 5 [zm 12 0, zm 13 5, zo 14 (.ixS 33 (.t 12) (.t 13)), zo 15 (.ldA 33 (.t 14)), zo 16 (.ldA 33 (.t 3)), zo 17 (.more (.eqD false 27 zC5 (.t 15) (.t 16)))])
 (.cond (.t 17) (.seq (.ops [zo 4 (.mov zt)])
 .ret) .skip)))
 (.ops [zm 10 5, zo 11 (.bin .add (.t 10) zj), zm 5 11]))))))
 (.seq (.ops [zo 4 (.mov zf)])
 .ret)))
theorem Tryz.known60 : Known Tryz.prog 60 Tryz.pc60 18 [4] := ⟨Tryz.f60, _, Tryz.func60, rfl, by kernel_rfl, rfl, rfl⟩
def Tryz.pc61 : PC :=
 (.seq (.ops [zo 0 (.al 27 zC4)])
 (.seq (.ops [zo 1 (.build zC4 [(32, 1, (.v (.int .i64 (-2))))]), ⟨none, none, .st 33 (.t 0) (.t 1)⟩])
 .ret))
theorem Tryz.known61 : KnownC Tryz.prog 61 Tryz.pc61 2 0 (some 33) := ⟨Tryz.f61, _, _, Tryz.func61, rfl, by kernel_rfl, rfl, rfl, by kernel_rfl⟩
def Tryz.pc62 : PC :=
 (.seq (.ops [zo 0 (.al 27 zC4)])
 (.seq (.ops [zo 1 (.build zC4 [(32, 1, (.v (.int .i64 (-1))))]), ⟨none, none, .st 33 (.t 0) (.t 1)⟩])
 .ret))
theorem Tryz.known62 : KnownC Tryz.prog 62 Tryz.pc62 2 0 (some 33) := ⟨Tryz.f62, _, _, Tryz.func62, rfl, by kernel_rfl, rfl, rfl, by kernel_rfl⟩
def Tryz.pc63 : PC :=
 (.seq (.ops [zo 4 (.bx 27 (.t 1)), zo 5 (.bx 27 (.t 2)), zo 6 (.mov zf)])
 (.seq (.ops [zm 12 0, zo 13 (.call 58 [(.t 12)]), zm 7 13])
 (.seq (.seq (.quietR [0, 0, 3, 7, 15, 31, 31, 127, 255, 511, 1023, 1023, 4095, 8191, 16383, 32767, 32767, 131071, 262143, 524287, 1048575, 1048575, 4194303, 8388607, 16777215, 33554431, 33554431, 134217727, 268435455, 536870911, 1073741823, 2147483647, 2147483647, 8589934591, 17179869183, 34359738367, 68719476735, 68719476735, 274877906943, 549755813887, 1099511627775, 2199023255551, 2199023255551] 43 [zm 14 7, zo 15 (.ldA 33 (.t 4)), zo 16 (.call 60 [(.t 14), (.t 15)]), zo 17 (.not (.t 16)), zm 18 17, zg 19 18 true (.ldA 33 (.t 4)), zg 20 18 true (.call 62 []), zg 21 18 true (.more (.eqD true 27 zC5 (.t 19) (.t 20))), zo 22 (.pick (.t 18) (.t 21) zf), zm 23 22, zg 24 23 true (.ldA 33 (.t 4)), zg 25 23 true (.call 61 []), zg 26 23 true (.more (.eqD true 27 zC5 (.t 24) (.t 25))), zo 27 (.pick (.t 23) (.t 26) zf), zm 28 27, zg 29 28 false (.mov (.t 7)), zg 30 28 false (.ldA 33 (.t 5)), zg 31 28 false (.call 60 [(.t 29), (.t 30)]), zg 32 28 false (.not (.t 31)), zg 33 28 false (.mov (.t 32)), zg 34 33 true (.ldA 33 (.t 5)), zg 35 33 true (.call 62 []), zg 36 33 true (.more (.eqD true 27 zC5 (.t 34) (.t 35))), zg 37 28 false (.pick (.t 33) (.t 36) zf), zg 38 28 false (.mov (.t 37)), zg 39 38 true (.ldA 33 (.t 5)), zg 40 38 true (.call 61 []), zg 41 38 true (.more (.eqD true 27 zC5 (.t 39) (.t 40))), zg 42 28 false (.pick (.t 38) (.t 41) zf), zo 43 (.pick (.t 28) zt (.t 42)), zm 44 43, zg 45 44 false (.ldA 33 (.t 4)), zg 46 44 false (.ldA 33 (.t 5)), zg 47 44 false (.more (.eqD false 27 zC5 (.t 45) (.t 46))), zo 48 (.pick (.t 44) zt (.t 47)), zm 49 48, zg 50 49 false (.ldA 33 (.t 4)), zg 51 49 false (.call 61 []), zg 52 49 false (.more (.eqD false 27 zC5 (.t 50) (.t 51))), zo 53 (.pick (.t 49) zt (.t 52)), zm 54 53, zg 55 54 false (.ldA 33 (.t 5)), zg 56 54 false (.call 62 []), zg 57 54 false (.more (.eqD false 27 zC5 (.t 55) (.t 56))), zo 58 (.pick (.t 54) zt (.t 57))])
 (.cond (.t 58) (.seq (.ops [zo 6 (.mov zf)])
 .ret) .skip))
 (.seq (.seq (.quietR [0, 0, 3, 7, 15, 15] 6 [zo 59 (.ldA 33 (.t 4)), zo 60 (.call 62 []), zo 61 (.more (.eqD false 27 zC5 (.t 59) (.t 60))), zm 62 61, zg 63 62 false (.ldA 33 (.t 5)), zg 64 62 false (.call 61 []), zg 65 62 false (.more (.eqD false 27 zC5 (.t 63) (.t 64))), zo 66 (.pick (.t 62) zt (.t 65))])
 (.cond (.t 66) (.seq (.ops [zo 6 (.mov zt)])
 .ret) .skip))
 (.seq (.ops [zm 67 0, zo 68 (.call 95 [(.t 67)]), zm 8 68])
 (.seq (.ops [zo 69 (.ldA 33 (.t 4)), zo 70 (.bsl 27 zC4 1 [(0, 33, (.t 69))]), zm 9 70])
 (.seq (.seq (.ops [zo 10 (.mov zi)])
 (.block 0 (.loop (.seq (.seq (.ops [zm 71 10, zm 72 9, zo 73 (.lenS (.t 72)), zo 74 (.bin .lss (.t 71) (.t 73))])
 (.cond (.t 74) .skip (.exit 0)))
 (.seq (.block 1 (.seq (.ops [zo 11 (.mov zi)])
 (.block 2 (.loop (.seq (.seq (.ops [zm 77 11, zo 78 (.bin .add (.t 77) zj), zm 79 8, zo 80 (.lenS (.t 79)), zo 81 (.bin .lss (.t 78) (.t 80))])
 (.cond (.t 81) .skip (.exit 2)))
 (.seq (.block 3 (.seq (.quietR [] 16 [zm 84 8, zm 85 11, zo 86 (.ixS 33 (.t 84) (.t 85)), zo 87 (.ldA 33 (.t 86)), zm 88 9, zm 89 10, zo 90 (.ixS 33 (.t 88) (.t 89)), zo 91 (.ldA 33 (.t 90)), zo 92 (.more (.eqD false 27 zC5 (.t 87) (.t 91))), zm 93 92, zg 94 93 true (.mov (.t 9)), zg 95 93 true (.mov (.t 8)), zg 96 93 true (.mov (.t 11)), zg 97 93 true (.bin .add (.t 96) zj), zg 98 93 true (.ixS 33 (.t 95) (.t 97)), zg 99 93 true (.ldA 33 (.t 98)), zg 100 93 true (.call 60 [(.t 94), (.t 99)]), zg 101 93 true (.not (.t 100)), zo 102 (.pick (.t 93) (.t 101) zf)])
 (.cond (.t 102) (.ops [zm 103 9, zm 104 8, zm 105 11, zo 106 (.bin .add (.t 105) zj), zo 107 (.ixS 33 (.t 104) (.t 106)), zo 108 (.ldA 33 (.t 107)), zo 109 (.bsl 27 zC4 1 [(0, 33, (.t 108))]), zo 110 (.app 44 27 33 40 (.agg #[zz, zz, zz, zz, zz, zz, zz, zz, zz, zz, zz, zz, zz, zz, zz, zz, zz, zz, zz, zz, zz, zz, zz, zz, zz, zz, zz, zz, zz, zz, zz, zz, .int .i64 0]) (.t 103) (.t 109)), zm 9 110]) .skip)))
 (.ops [zm 82 11, zo 83 (.bin .add (.t 82) (.v (.int .i64 2))), zm 11 83])))))))
 (.ops [zm 75 10, zo 76 (.bin .add (.t 75) zj), zm 10 76]))))))
 (.seq (.ops [zm 111 9, zo 112 (.ldA 33 (.t 5)), zo 113 (.call 60 [(.t 111), (.t 112)]), zm 6 113])
 .ret))))))))
theorem Tryz.known63 : Known Tryz.prog 63 Tryz.pc63 114 [6] := ⟨Tryz.f63, _, Tryz.func63, rfl, by kernel_rfl, rfl, rfl⟩
def Tryz.pc64 : PC :=
 (.seq (.ops [zo 6 (.mov zi)])
 (.seq (.seq (.ops [zm 8 1, zm 7 8])
 (.block 0 (.loop (.seq (.seq (.ops [zm 9 7, zm 10 0, zo 11 (.nilc (.t 10)), zo 12 (.fa 0 (.t 11)), zo 13 (.ld (.t 12)), zo 14 (.lenS (.t 13)), zo 15 (.bin .lss (.t 9) (.t 14))])
 (.cond (.t 15) .skip (.exit 0)))
 (.seq (.block 1 (.seq (.ops [zm 18 0, zo 19 (.nilc (.t 18)), zo 20 (.fa 0 (.t 19)), zo 21 (.ld (.t 20)), zm 22 7, zo 23 (.ixS 3 (.t 21) (.t 22)), zo 24 (.fa 1 (.t 23)), zo 25 (.ld (.t 24)), zm 26 25, zg 27 26 true (.mov (.t 2)), zg 28 26 true (.mov (.t 0)), zg 29 26 true (.nilc (.t 28)), zg 30 26 true (.fa 1 (.t 29)), zg 31 26 true (.ld (.t 30)), zg 32 26 true (.mov (.t 7)), zg 33 26 true (.ixS 1 (.t 31) (.t 32)), zg 34 26 true (.ld (.t 33)), zg 35 26 true (.call 96 [(.t 27), (.t 34)]), zo 36 (.pick (.t 26) (.t 35) zf)])
 (.cond (.t 36) (.seq (.ops [zm 37 7, zm 6 37])
 .ret) .skip)))
 (.ops [zm 16 7, zo 17 (.bin .add (.t 16) zj), zm 7 17]))))))
 (.seq (.ops [zo 6 (.mov (.v (.int .i64 (-1))))])
 .ret)))
theorem Tryz.known64 : Known Tryz.prog 64 Tryz.pc64 38 [6] := ⟨Tryz.f64, _, Tryz.func64, rfl, by kernel_rfl, rfl, rfl⟩
def Tryz.pc65 : PC :=
 (.seq (.ops [zo 4 (.mov zf)])
 (.seq (.ops [zm 5 0, zm 6 1, zo 7 (.call 97 [(.t 5), (.t 6)]), zo 8 (.bin .geq (.t 7) zi), zm 4 8])
 .ret))
theorem Tryz.known65 : Known Tryz.prog 65 Tryz.pc65 9 [4] := ⟨Tryz.f65, _, Tryz.func65, rfl, by kernel_rfl, rfl, rfl⟩
def Tryz.pc66 : PC :=
 (.seq (.ops [zo 2 (.mov zf)])
 (.seq (.ops [zm 3 0, zo 4 (.call 20 [(.t 3)]), zo 5 (.not (.t 4)), zm 2 5])
 .ret))
theorem Tryz.known66 : Known Tryz.prog 66 Tryz.pc66 6 [2] := ⟨Tryz.f66, _, Tryz.func66, rfl, by kernel_rfl, rfl, rfl⟩
def Tryz.pc67 : PC :=
 (.seq (.ops [zo 4 (.mov (.v (.slice none 0 0))), zo 5 (.mov zi)])
 (.seq (.seq (.ops [zm 13 0, zo 14 (.lenS (.t 13)), zo 15 (.bin .gtr (.t 14) (.v (.int .i64 1024))), zm 16 15, zg 17 16 false (.mov (.t 1)), zg 18 16 false (.lenS (.t 17)), zg 19 16 false (.bin .gtr (.t 18) (.v (.int .i64 1024))), zo 20 (.pick (.t 16) zt (.t 19))])
 (.cond (.t 20) (.seq (.ops [zo 4 (.mov (.v (.slice none 0 0))), zo 5 (.mov (.v (.int .i64 3)))])
 .ret) .skip))
 (.seq (.ops [zo 21 (.mkM), zm 6 21])
 (.seq (.ops [zm 22 6, zm 23 0, zo 24 (.call 98 [(.t 22), (.t 23)]), zm 25 6, zm 26 1, zo 27 (.call 98 [(.t 25), (.t 26)]), zm 7 24, zm 8 27])
 (.seq (.ops [zm 28 7, zm 29 8, zo 30 (.call 99 [(.t 28), (.t 29)]), zm 9 30])
 (.seq (.ops [zo 10 (.mov (.v (.slice none 0 0)))])
 (.seq (.seq (.ops [zo 11 (.mov zi), zo 12 (.mov zi)])
 (.block 0 (.loop (.seq (.seq (.ops [zm 31 11, zm 32 7, zo 33 (.lenS (.t 32)), zo 34 (.bin .lss (.t 31) (.t 33)), zm 35 34, zg 36 35 false (.mov (.t 12)), zg 37 35 false (.mov (.t 8)), zg 38 35 false (.lenS (.t 37)), zg 39 35 false (.bin .lss (.t 36) (.t 38)), zo 40 (.pick (.t 35) zt (.t 39))])
 (.cond (.t 40) .skip (.exit 0)))
 (.block 1 (.block 2 (.seq (.quietR [] 19 [zm 49 11, zm 50 7, zo 51 (.lenS (.t 50)), zo 52 (.bin .lss (.t 49) (.t 51)), zm 53 52, zg 54 53 true (.mov (.t 12)), zg 55 53 true (.mov (.t 8)), zg 56 53 true (.lenS (.t 55)), zg 57 53 true (.bin .lss (.t 54) (.t 56)), zo 58 (.pick (.t 53) (.t 57) zf), zm 59 58, zg 60 59 true (.mov (.t 7)), zg 61 59 true (.mov (.t 11)), zg 62 59 true (.ixS 1 (.t 60) (.t 61)), zg 63 59 true (.ld (.t 62)), zg 64 59 true (.mov (.t 8)), zg 65 59 true (.mov (.t 12)), zg 66 59 true (.ixS 1 (.t 64) (.t 65)), zg 67 59 true (.ld (.t 66)), zg 68 59 true (.bin .eql (.t 63) (.t 67)), zo 69 (.pick (.t 59) (.t 68) zf), zm 48 69])
 (.cond (.t 48) (.seq (.ops [zm 70 10, zm 71 11, zm 72 12, zo 73 (.build zC10 [(0, 1, zi), (1, 1, (.t 71)), (2, 1, (.t 72))]), zo 74 (.bsl 138 zC10 1 [(0, 3, (.t 73))]), zo 75 (.app 131 138 3 24 (.agg #[.int .i64 0, .int .i64 0, .int .i64 0]) (.t 70) (.t 74)), zm 10 75])
 (.seq (.ops [zm 76 11, zo 77 (.bin .add (.t 76) zj), zm 11 77])
 (.ops [zm 78 12, zo 79 (.bin .add (.t 78) zj), zm 12 79]))) (.seq (.quietR [] 26 [zm 81 11, zm 82 7, zo 83 (.lenS (.t 82)), zo 84 (.bin .lss (.t 81) (.t 83)), zm 85 84, zg 86 85 true (.mov (.t 12)), zg 87 85 true (.mov (.t 8)), zg 88 85 true (.lenS (.t 87)), zg 89 85 true (.bin .eql (.t 86) (.t 88)), zg 90 85 true (.mov (.t 89)), zg 91 90 false (.mov (.t 9)), zg 92 90 false (.mov (.t 11)), zg 93 90 false (.bin .add (.t 92) zj), zg 94 90 false (.ixS 1 (.t 91) (.t 93)), zg 95 90 false (.ld (.t 94)), zg 96 90 false (.mov (.t 12)), zg 97 90 false (.ixS 1 (.t 95) (.t 96)), zg 98 90 false (.ld (.t 97)), zg 99 90 false (.mov (.t 9)), zg 100 90 false (.mov (.t 11)), zg 101 90 false (.ixS 1 (.t 99) (.t 100)), zg 102 90 false (.ld (.t 101)), zg 103 90 false (.mov (.t 12)), zg 104 90 false (.bin .add (.t 103) zj), zg 105 90 false (.ixS 1 (.t 102) (.t 104)), zg 106 90 false (.ld (.t 105)), zg 107 90 false (.bin .geq (.t 98) (.t 106)), zg 108 85 true (.pick (.t 90) zt (.t 107)), zo 109 (.pick (.t 85) (.t 108) zf), zm 80 109])
 (.cond (.t 80) (.seq (.ops [zm 110 10, zm 111 11, zo 112 (.build zC10 [(0, 1, zj), (1, 1, (.t 111))]), zo 113 (.bsl 138 zC10 1 [(0, 3, (.t 112))]), zo 114 (.app 131 138 3 24 (.agg #[.int .i64 0, .int .i64 0, .int .i64 0]) (.t 110) (.t 113)), zm 10 114])
 (.ops [zm 115 11, zo 116 (.bin .add (.t 115) zj), zm 11 116])) (.seq (.ops [zm 41 10, zm 42 12, zo 43 (.build zC10 [(0, 1, (.v (.int .i64 2))), (2, 1, (.t 42))]), zo 44 (.bsl 138 zC10 1 [(0, 3, (.t 43))]), zo 45 (.app 131 138 3 24 (.agg #[.int .i64 0, .int .i64 0, .int .i64 0]) (.t 41) (.t 44)), zm 10 45])
 (.ops [zm 46 12, zo 47 (.bin .add (.t 46) zj), zm 12 47]))))))))))))
 (.seq (.ops [zm 117 10, zm 4 117, zo 5 (.mov zi)])
 .ret))))))))
theorem Tryz.known67 : Known Tryz.prog 67 Tryz.pc67 118 [4, 5] := ⟨Tryz.f67, _, Tryz.func67, rfl, by kernel_rfl, rfl, rfl⟩
def Tryz.pc68 : PC :=
 (.seq (.ops [zo 3 (.bx 81 (.t 1)), zo 4 (.mov (.v (.slice none 0 0)))])
 (.seq (.seq (.quietR [] 11 [zm 7 0, zo 8 (.nilc (.t 7)), zo 9 (.fa 0 (.t 8)), zo 10 (.ld (.t 9)), zo 11 (.fa 0 (.t 3)), zo 12 (.ld (.t 11)), zo 13 (.fa 1 (.t 3)), zo 14 (.ld (.t 13)), zo 15 (.slS 3 (.t 10) (some (.t 12)) (some (.t 14))), zo 16 (.lenS (.t 15)), zo 17 (.mov zi)])
 (.block 0 (.loop (.seq (.ops [zo 18 (.bin .lss (.t 17) (.t 16))])
 (.seq (.cond (.t 18) .skip (.exit 0))
 (.seq (.block 1 (.seq (.ops [zo 19 (.ixS 3 (.t 15) (.t 17)), zo 20 (.ldA 3 (.t 19)), zo 6 (.al 75 zC8), ⟨none, none, .st 3 (.t 6) (.t 20)⟩])
 (.seq (.ops [zo 21 (.fa 1 (.t 6)), zo 22 (.ld (.t 21))])
 (.cond (.t 22) (.ops [zm 23 4, zo 24 (.bsl 9 zC11 1 [(0, 1, (.v (.string ⟨#[10]⟩)))]), zo 25 (.app 23 9 1 16 (.string ⟨#[]⟩) (.t 23) (.t 24)), zm 4 25]) (.ops [zm 26 4, zo 27 (.fa 0 (.t 6)), zo 28 (.ld (.t 27)), zo 29 (.ixS 35 (.t 28) zi), zo 30 (.fa 33 (.t 29)), zo 31 (.ld (.t 30)), zo 32 (.bsl 9 zC11 1 [(0, 1, (.t 31))]), zo 33 (.app 23 9 1 16 (.string ⟨#[]⟩) (.t 26) (.t 32)), zm 4 33])))))
 (.ops [zo 34 (.bin .add (.t 17) zj), zm 17 34])))))))
 (.seq (.ops [zm 35 4, zm 4 35])
 .ret)))
theorem Tryz.known68 : Known Tryz.prog 68 Tryz.pc68 36 [4] := ⟨Tryz.f68, _, Tryz.func68, rfl, by kernel_rfl, rfl, rfl⟩
def Tryz.pc69 : PC :=
 (.seq (.ops [zo 3 (.mov (.v (.pointer none)))])
 (.seq (.seq (.ops [zo 4 (.ld (.t 0)), zo 5 (.not (.t 4))])
 (.cond (.t 5) (.seq (.ops [zo 6 (.ld (.t 1)), zo 7 (.ld (.t 2)), zo 8 (.ld (.t 2)), zo 9 (.build zC9 [(0, 1, (.t 7)), (1, 1, (.t 8))]), zo 10 (.bsl 84 zC9 1 [(0, 3, (.t 9))]), zo 11 (.app 79 84 3 40 (.agg #[.int .i64 0, .int .i64 0, .slice none 0 0]) (.t 6) (.t 10)), ⟨none, none, .st 1 (.t 1) (.t 11)⟩])
 (.ops [⟨none, none, .st 1 (.t 0) zt⟩])) .skip))
 (.seq (.ops [zo 12 (.ld (.t 1)), zo 13 (.ld (.t 1)), zo 14 (.lenS (.t 13)), zo 15 (.bin .sub (.t 14) zj), zo 16 (.ixS 3 (.t 12) (.t 15)), zm 3 16])
 .ret)))
theorem Tryz.known69 : Known Tryz.prog 69 Tryz.pc69 17 [3] := ⟨Tryz.f69, _, Tryz.func69, rfl, by kernel_rfl, rfl, rfl⟩
def Tryz.pc70 : PC :=
 (.seq (.ops [zo 4 (.mov zf)])
 (.seq (.ops [zm 5 0, zo 6 (.nilc (.t 5)), zo 7 (.fa 2 (.t 6)), zo 8 (.ld (.t 7)), zm 9 1, zo 10 (.ixS 1 (.t 8) (.t 9)), zo 11 (.ld (.t 10)), zm 12 11, zg 13 12 true (.mov (.t 0)), zg 14 12 true (.nilc (.t 13)), zg 15 12 true (.fa 0 (.t 14)), zg 16 12 true (.ld (.t 15)), zg 17 12 true (.mov (.t 1)), zg 18 12 true (.ixS 3 (.t 16) (.t 17)), zg 19 12 true (.fa 1 (.t 18)), zg 20 12 true (.ld (.t 19)), zg 21 12 true (.not (.t 20)), zo 22 (.pick (.t 12) (.t 21) zf), zm 4 22])
 .ret))
theorem Tryz.known70 : Known Tryz.prog 70 Tryz.pc70 23 [4] := ⟨Tryz.f70, _, Tryz.func70, rfl, by kernel_rfl, rfl, rfl⟩
def Tryz.pc72 : PC :=
 (.seq (.ops [zo 2 (.bx 27 (.t 0)), zo 3 (.bx 27 (.t 1)), zo 4 (.mov zi)])
 (.seq (.quietR [0, 1, 0, 4, 15, 0, 32, 0, 128] 9 [zo 5 (.fa 0 (.t 2)), zo 6 (.slA 32 (.t 5)), zo 7 (.fa 0 (.t 3)), zo 8 (.slA 32 (.t 7)), zo 9 (.call 103 [(.t 6), (.t 8)]), zo 10 (.fa 32 (.t 2)), zo 11 (.ld (.t 10)), zo 12 (.fa 32 (.t 3)), zo 13 (.ld (.t 12)), zo 14 (.call 104 [(.t 11), (.t 13)]), zo 15 (.bsl 3 [.int .i64 0, .int .i64 0] 2 [(0, 1, (.t 9)), (1, 1, (.t 14))]), zo 16 (.call 102 [(.t 15)]), zm 4 16])
 .ret))
theorem Tryz.known72 : Known Tryz.prog 72 Tryz.pc72 17 [4] := ⟨Tryz.f72, _, Tryz.func72, rfl, by kernel_rfl, rfl, rfl⟩
def Tryz.pc78 : PC :=
 (.seq (.ops [zo 2 (.mov zf)])
 (.seq (.seq (.ops [zo 3 (.mov zi)])
 (.block 0 (.loop (.seq (.seq (.ops [zm 4 3, zm 5 0, zo 6 (.lenStr (.t 5)), zo 7 (.bin .lss (.t 4) (.t 6))])
 (.cond (.t 7) .skip (.exit 0)))
 (.seq (.block 1 (.seq (.ops [zm 10 0, zm 11 3, zo 12 (.ixStr (.t 10) (.t 11)), zo 13 (.bin .neq (.t 12) (.v (.int .u8 9))), zm 14 13, zg 15 14 true (.mov (.t 0)), zg 16 14 true (.mov (.t 3)), zg 17 14 true (.ixStr (.t 15) (.t 16)), zg 18 14 true (.bin .lss (.t 17) (.v (.int .u8 32))), zg 19 14 true (.mov (.t 18)), zg 20 19 false (.mov (.t 0)), zg 21 19 false (.mov (.t 3)), zg 22 19 false (.ixStr (.t 20) (.t 21)), zg 23 19 false (.bin .gtr (.t 22) (.v (.int .u8 126))), zg 24 14 true (.pick (.t 19) zt (.t 23)), zo 25 (.pick (.t 14) (.t 24) zf)])
 (.cond (.t 25) (.seq (.ops [zo 2 (.mov zf)])
 .ret) .skip)))
 (.ops [zm 8 3, zo 9 (.bin .add (.t 8) zj), zm 3 9]))))))
 (.seq (.ops [zm 26 0, zo 27 (.lenStr (.t 26)), zo 28 (.bin .leq (.t 27) (.v (.int .i64 80))), zm 2 28])
 .ret)))
theorem Tryz.known78 : Known Tryz.prog 78 Tryz.pc78 29 [2] := ⟨Tryz.f78, _, Tryz.func78, rfl, by kernel_rfl, rfl, rfl⟩
def Tryz.pc82 : PC :=
 (.seq (.ops [zo 4 (.mov zi)])
 (.seq (.seq (.ops [zm 6 0, zo 7 (.lenS (.t 6)), zo 8 (.mov zi)])
 (.block 0 (.loop (.seq (.ops [zo 9 (.bin .lss (.t 8) (.t 7))])
 (.seq (.cond (.t 9) .skip (.exit 0))
 (.seq (.block 1 (.seq (.ops [zm 10 8, zm 5 10])
 (.seq (.ops [zm 11 1, zm 12 0, zm 13 5, zo 14 (.ixS 1 (.t 12) (.t 13)), zo 15 (.ld (.t 14)), zo 16 (.bin .eql (.t 11) (.t 15))])
 (.cond (.t 16) (.seq (.ops [zm 17 5, zm 4 17])
 .ret) .skip))))
 (.ops [zo 18 (.bin .add (.t 8) zj), zm 8 18])))))))
 (.seq (.ops [zo 4 (.mov (.v (.int .i64 (-1))))])
 .ret)))
theorem Tryz.known82 : Known Tryz.prog 82 Tryz.pc82 19 [4] := ⟨Tryz.f82, _, Tryz.func82, rfl, by kernel_rfl, rfl, rfl⟩
def Tryz.pc83 : PC :=
 (.seq (.ops [zo 4 (.mov zi)])
 (.seq (.seq (.ops [zm 6 0, zo 7 (.lenS (.t 6)), zo 8 (.mov zi)])
 (.block 0 (.loop (.seq (.ops [zo 9 (.bin .lss (.t 8) (.t 7))])
 (.seq (.cond (.t 9) .skip (.exit 0))
 (.seq (.block 1 (.seq (.ops [zm 10 8, zm 5 10])
 (.seq (.ops [zm 11 1, zm 12 0, zm 13 5, zo 14 (.ixS 35 (.t 12) (.t 13)), zo 15 (.ldA 35 (.t 14)), zo 16 (.callv (.t 11) [(.t 15)])])
 (.cond (.t 16) (.seq (.ops [zm 17 5, zm 4 17])
 .ret) .skip))))
 (.ops [zo 18 (.bin .add (.t 8) zj), zm 8 18])))))))
 (.seq (.ops [zo 4 (.mov (.v (.int .i64 (-1))))])
 .ret)))
theorem Tryz.known83 : Known Tryz.prog 83 Tryz.pc83 19 [4] := ⟨Tryz.f83, _, Tryz.func83, rfl, by kernel_rfl, rfl, rfl⟩
def Tryz.pc84 : PC :=
 (.seq (.ops [zo 2 (.mov (.v (.map none)))])
 (.seq (.ops [zm 9 0, zo 10 (.nilc (.t 9)), zo 11 (.fa 2 (.t 10)), zo 12 (.ld (.t 11)), zo 13 (.lenM (.t 12)), zo 14 (.more (.other (.gen (.makeMap 153 (some (.tmp 13)))))), zm 3 14])
 (.seq (.seq (.ops [zm 15 0, zo 16 (.nilc (.t 15)), zo 17 (.fa 2 (.t 16)), zo 18 (.ld (.t 17)), zo 19 (.more (.other (.gen (.range 109 (.tmp 18)))))])
 (.block 0 (.loop (.seq (.ops [zo 20 (.more (.other (.gen (.next (.tmp 19) false)))), zo 21 (.ext 0 (.t 20))])
 (.seq (.cond (.t 21) .skip (.exit 0))
 (.block 1 (.seq (.ops [zo 22 (.more (.other (.gen (.entry (.tmp 19))))), zo 23 (.ext 0 (.t 22)), zo 4 (.al 27 zC4), ⟨none, none, .st 33 (.t 4) (.t 23)⟩])
 (.quietR [0, 0, 3, 7, 3, 19] 6 [zm 24 3, zo 25 (.ldA 33 (.t 4)), zo 26 (.more (.other (.gen (.lookup 153 (.tmp 24) (.tmp 25) false)))), zo 27 (.bin .add (.t 26) zi), zo 28 (.more (.other (.gen (.mapEntry 153 (.tmp 24) (.tmp 25))))), zo 29 (.ext 1 (.t 28)), ⟨none, none, .more (.other (.gen (.entryStore 153 (.tmp 24) (.tmp 29) (.tmp 27))))⟩]))))))))
 (.seq (.seq (.ops [zm 30 0, zo 31 (.nilc (.t 30)), zo 32 (.fa 2 (.t 31)), zo 33 (.ld (.t 32)), zo 34 (.more (.other (.gen (.range 109 (.tmp 33)))))])
 (.block 2 (.loop (.seq (.ops [zo 35 (.more (.other (.gen (.next (.tmp 34) false)))), zo 36 (.ext 0 (.t 35))])
 (.seq (.cond (.t 36) .skip (.exit 2))
 (.block 3 (.seq (.ops [zo 37 (.more (.other (.gen (.entry (.tmp 34))))), zo 38 (.ext 1 (.t 37)), zo 6 (.al 121 zC7), ⟨none, none, .st 4 (.t 6) (.t 38)⟩])
 (.seq (.ops [zo 39 (.fa 3 (.t 6)), zo 40 (.ld (.t 39)), zo 41 (.lenS (.t 40)), zo 42 (.mov zi)])
 (.block 4 (.loop (.seq (.ops [zo 43 (.bin .lss (.t 42) (.t 41))])
 (.seq (.cond (.t 43) .skip (.exit 4))
 (.seq (.block 5 (.seq (.ops [zo 44 (.ixS 33 (.t 40) (.t 42)), zo 45 (.ldA 33 (.t 44)), zo 8 (.al 27 zC4), ⟨none, none, .st 33 (.t 8) (.t 45)⟩])
 (.quietR [0, 0, 3, 7, 3, 19] 6 [zm 46 3, zo 47 (.ldA 33 (.t 8)), zo 48 (.more (.other (.gen (.lookup 153 (.tmp 46) (.tmp 47) false)))), zo 49 (.bin .add (.t 48) zj), zo 50 (.more (.other (.gen (.mapEntry 153 (.tmp 46) (.tmp 47))))), zo 51 (.ext 1 (.t 50)), ⟨none, none, .more (.other (.gen (.entryStore 153 (.tmp 46) (.tmp 51) (.tmp 49))))⟩])))
 (.ops [zo 52 (.bin .add (.t 42) zj), zm 42 52]))))))))))))))
 (.seq (.ops [zm 53 3, zm 2 53])
 .ret)))))
theorem Tryz.known84 : Known Tryz.prog 84 Tryz.pc84 54 [2] := ⟨Tryz.f84, _, Tryz.func84, rfl, by kernel_rfl, rfl, rfl⟩
def Tryz.pc85 : PC :=
 (.seq (.ops [zm 4 0, zm 5 1, zo 6 (.more (.other (.gen (.call { callee := (.invoke (.tmp 4) "Push"), args := #[(.tmp 5)], argTypes := #[20] }))))])
 (.ops [zm 7 0, zm 8 0, zo 9 (.more (.other (.gen (.call { callee := (.invoke (.tmp 8) "Len"), args := #[], argTypes := #[] })))), zo 10 (.bin .sub (.t 9) zj), zo 11 (.call 109 [(.t 7), (.t 10)])]))
theorem Tryz.known85 : Known Tryz.prog 85 Tryz.pc85 12 [] := ⟨Tryz.f85, _, Tryz.func85, rfl, by kernel_rfl, rfl, rfl⟩
def Tryz.pc86 : PC :=
 (.seq (.ops [zo 2 (.mov zi)])
 (.seq (.ops [zm 3 0, zo 4 (.lenS (.t 3)), zm 2 4])
 .ret))
theorem Tryz.known86 : Known Tryz.prog 86 Tryz.pc86 5 [2] := ⟨Tryz.f86, _, Tryz.func86, rfl, by kernel_rfl, rfl, rfl⟩
def Tryz.pc87 : PC :=
 (.seq (.ops [zo 2 (.mov (.v .nilIface))])
 (.seq (.ops [zm 4 0, zo 5 (.more (.other (.gen (.call { callee := (.invoke (.tmp 4) "Len"), args := #[], argTypes := #[] })))), zo 6 (.bin .sub (.t 5) zj), zm 3 6])
 (.seq (.ops [zm 7 0, zm 8 3, zo 9 (.more (.other (.gen (.call { callee := (.invoke (.tmp 7) "Swap"), args := #[(.const (.int .i64 0)), (.tmp 8)], argTypes := #[3, 3] }))))])
 (.seq (.ops [zm 10 0, zm 11 3, zo 12 (.call 110 [(.t 10), zi, (.t 11)])])
 (.seq (.ops [zm 13 0, zo 14 (.more (.other (.gen (.call { callee := (.invoke (.tmp 13) "Pop"), args := #[], argTypes := #[] })))), zm 2 14])
 .ret)))))
theorem Tryz.known87 : Known Tryz.prog 87 Tryz.pc87 15 [2] := ⟨Tryz.f87, _, Tryz.func87, rfl, by kernel_rfl, rfl, rfl⟩
def Tryz.pc88 : PC :=
 (.seq (.ops [zo 0 (.al 27 zC4)])
 (.seq (.ops [zo 1 (.build zC4 [(32, 1, (.v (.int .i64 (-2))))]), ⟨none, none, .st 33 (.t 0) (.t 1)⟩])
 .ret))
theorem Tryz.known88 : KnownC Tryz.prog 88 Tryz.pc88 2 0 (some 33) := ⟨Tryz.f88, _, _, Tryz.func88, rfl, by kernel_rfl, rfl, rfl, by kernel_rfl⟩
def Tryz.pc89 : PC :=
 (.seq (.ops [zo 4 (.mov zi)])
 (.seq (.seq (.ops [zm 6 0, zo 7 (.lenS (.t 6)), zo 8 (.mov zi)])
 (.block 0 (.loop (.seq (.ops [zo 9 (.bin .lss (.t 8) (.t 7))])
 (.seq (.cond (.t 9) .skip (.exit 0))
 (.seq (.block 1 (.seq (.ops [zm 10 8, zm 5 10])
 (.seq (.ops [zm 11 1, zm 12 0, zm 13 5, zo 14 (.ixS 3 (.t 12) (.t 13)), zo 15 (.ldA 3 (.t 14)), zo 16 (.callv (.t 11) [(.t 15)])])
 (.cond (.t 16) (.seq (.ops [zm 17 5, zm 4 17])
 .ret) .skip))))
 (.ops [zo 18 (.bin .add (.t 8) zj), zm 8 18])))))))
 (.seq (.ops [zo 4 (.mov (.v (.int .i64 (-1))))])
 .ret)))
theorem Tryz.known89 : Known Tryz.prog 89 Tryz.pc89 19 [4] := ⟨Tryz.f89, _, Tryz.func89, rfl, by kernel_rfl, rfl, rfl⟩
def Tryz.pc90 : PC :=
 (.seq (.ops [zo 0 (.al 27 zC4)])
 (.seq (.ops [zo 1 (.build zC4 [(32, 1, (.v (.int .i64 (-1))))]), ⟨none, none, .st 33 (.t 0) (.t 1)⟩])
 .ret))
theorem Tryz.known90 : KnownC Tryz.prog 90 Tryz.pc90 2 0 (some 33) := ⟨Tryz.f90, _, _, Tryz.func90, rfl, by kernel_rfl, rfl, rfl, by kernel_rfl⟩
def Tryz.pc91 : PC :=
 (.seq (.ops [zo 3 (.bx 27 (.t 1)), zo 4 (.mov zf)])
 (.seq (.ops [zm 5 0, zo 6 (.ldA 33 (.t 3)), zo 7 (.call 111 [(.t 5), (.t 6)]), zo 8 (.bin .geq (.t 7) zi), zm 4 8])
 .ret))
theorem Tryz.known91 : Known Tryz.prog 91 Tryz.pc91 9 [4] := ⟨Tryz.f91, _, Tryz.func91, rfl, by kernel_rfl, rfl, rfl⟩
def Tryz.pc92 : PC :=
 (.seq (.ops [zo 4 (.mov zi)])
 (.seq (.seq (.ops [zm 6 0, zo 7 (.lenS (.t 6)), zo 8 (.mov zi)])
 (.block 0 (.loop (.seq (.ops [zo 9 (.bin .lss (.t 8) (.t 7))])
 (.seq (.cond (.t 9) .skip (.exit 0))
 (.seq (.block 1 (.seq (.ops [zm 10 8, zm 5 10])
 (.seq (.ops [zm 11 1, zm 12 0, zm 13 5, zo 14 (.ixS 33 (.t 12) (.t 13)), zo 15 (.ldA 33 (.t 14)), zo 16 (.callv (.t 11) [(.t 15)])])
 (.cond (.t 16) (.seq (.ops [zm 17 5, zm 4 17])
 .ret) .skip))))
 (.ops [zo 18 (.bin .add (.t 8) zj), zm 8 18])))))))
 (.seq (.ops [zo 4 (.mov (.v (.int .i64 (-1))))])
 .ret)))
theorem Tryz.known92 : Known Tryz.prog 92 Tryz.pc92 19 [4] := ⟨Tryz.f92, _, Tryz.func92, rfl, by kernel_rfl, rfl, rfl⟩
def Tryz.pc93 : PC :=
 (.seq (.ops [zo 3 (.bx 27 (.t 1)), zo 4 (.mov (.v (.slice none 0 0)))])
 (.seq (.seq (.quietR [0, 0] 2 [zo 5 (.ldA 33 (.t 3)), zo 6 (.call 90 []), zo 7 (.more (.eqD false 27 zC5 (.t 5) (.t 6)))])
 (.cond (.t 7) (.seq (.ops [zm 8 0, zo 9 (.nilc (.t 8)), zo 10 (.fa 3 (.t 9)), zo 11 (.ld (.t 10)), zm 4 11])
 .ret) .skip))
 (.seq (.quietR [] 5 [zm 12 0, zo 13 (.nilc (.t 12)), zo 14 (.fa 2 (.t 13)), zo 15 (.ld (.t 14)), zo 16 (.ldA 33 (.t 3)), zo 17 (.more (.other (.gen (.lookup 109 (.tmp 15) (.tmp 16) false)))), zo 18 (.fld 3 (.t 17)), zm 4 18])
 .ret)))
theorem Tryz.known93 : Known Tryz.prog 93 Tryz.pc93 19 [4] := ⟨Tryz.f93, _, Tryz.func93, rfl, by kernel_rfl, rfl, rfl⟩
def Tryz.pc94 : PC :=
 (.seq (.ops [zo 5 (.bx 27 (.t 1)), zo 6 (.bx 27 (.t 2))])
 (.seq (.ops [zm 11 0, zo 12 (.ldA 33 (.t 5)), zo 13 (.call 93 [(.t 11), (.t 12)]), zo 14 (.call 54 [(.t 13)]), zm 8 14])
 (.seq (.seq (.ops [zm 15 3])
 (.cond (.t 15) (.ops [zm 16 8, zo 17 (.ldA 33 (.t 6)), zo 18 (.bsl 27 zC4 1 [(0, 33, (.t 17))]), zo 19 (.app 44 27 33 40 (.agg #[zz, zz, zz, zz, zz, zz, zz, zz, zz, zz, zz, zz, zz, zz, zz, zz, zz, zz, zz, zz, zz, zz, zz, zz, zz, zz, zz, zz, zz, zz, zz, zz, .int .i64 0]) (.t 16) (.t 18)), zm 8 19]) (.seq (.ops [zm 20 8, zo 21 (.ldA 33 (.t 6)), zo 22 (.call 111 [(.t 20), (.t 21)]), zm 9 22])
 (.seq (.ops [zm 23 9, zo 24 (.bin .geq (.t 23) zi)])
 (.cond (.t 24) (.ops [zm 25 8, zm 26 9, zm 27 9, zo 28 (.bin .add (.t 27) zj), zo 29 (.call 112 [(.t 25), (.t 26), (.t 28)]), zm 8 29]) .skip)))))
 (.seq (.seq (.quietR [0, 0] 2 [zo 30 (.ldA 33 (.t 5)), zo 31 (.call 90 []), zo 32 (.more (.eqD false 27 zC5 (.t 30) (.t 31)))])
 (.cond (.t 32) (.seq (.ops [zm 33 0, zm 34 8, zo 35 (.nilc (.t 33)), zo 36 (.fa 3 (.t 35)), ⟨none, none, .st 1 (.t 36) (.t 34)⟩])
 .ret) .skip))
 (.seq (.quietR [0, 1, 3, 7, 0, 31, 0] 7 [zm 37 0, zo 38 (.nilc (.t 37)), zo 39 (.fa 2 (.t 38)), zo 40 (.ld (.t 39)), zo 41 (.ldA 33 (.t 5)), zo 42 (.more (.other (.gen (.lookup 109 (.tmp 40) (.tmp 41) false)))), zo 10 (.al 121 zC7), ⟨none, none, .st 4 (.t 10) (.t 42)⟩])
 (.seq (.ops [zm 43 8, zo 44 (.fa 3 (.t 10)), ⟨none, none, .st 1 (.t 44) (.t 43)⟩])
 (.quietR [] 6 [zm 45 0, zo 46 (.nilc (.t 45)), zo 47 (.fa 2 (.t 46)), zo 48 (.ld (.t 47)), zo 49 (.ldA 33 (.t 5)), zo 50 (.ldA 4 (.t 10)), ⟨none, none, .more (.other (.gen (.mapUpdate 109 (.tmp 48) (.tmp 49) (.tmp 50))))⟩])))))))
theorem Tryz.known94 : Known Tryz.prog 94 Tryz.pc94 51 [] := ⟨Tryz.f94, _, Tryz.func94, rfl, by kernel_rfl, rfl, rfl⟩
def Tryz.pc95 : PC :=
 (.seq (.ops [zo 2 (.mov (.v (.slice none 0 0)))])
 (.seq (.ops [zo 3 (.mov (.v (.slice none 0 0)))])
 (.seq (.seq (.ops [zo 4 (.mov zi)])
 (.block 0 (.loop (.seq (.seq (.ops [zm 7 4, zm 8 0, zo 9 (.lenS (.t 8)), zo 10 (.bin .lss (.t 7) (.t 9))])
 (.cond (.t 10) .skip (.exit 0)))
 (.seq (.block 1 (.seq (.ops [zm 13 0, zm 14 4, zo 15 (.ixS 102 (.t 13) (.t 14)), zo 16 (.ldA 102 (.t 15)), zo 17 (.call 59 [(.t 16)]), zm 5 17])
 (.seq (.seq (.ops [zo 6 (.mov zi)])
 (.block 2 (.loop (.seq (.seq (.ops [zm 18 6, zm 19 5, zo 20 (.lenS (.t 19)), zo 21 (.bin .lss (.t 18) (.t 20))])
 (.cond (.t 21) .skip (.exit 2)))
 (.seq (.block 3 (.seq (.ops [zm 24 6, zo 25 (.bin .eql (.t 24) zi)])
 (.cond (.t 25) (.quietR [] 9 [zm 26 3, zm 27 0, zm 28 4, zo 29 (.ixS 102 (.t 27) (.t 28)), zo 30 (.fa 34 (.t 29)), zo 31 (.ldA 33 (.t 30)), zm 32 5, zo 33 (.ixS 33 (.t 32) zi), zo 34 (.ldA 33 (.t 33)), zo 35 (.bsl 27 zC2 2 [(0, 33, (.t 31)), (33, 33, (.t 34))]), zo 36 (.app 44 27 33 40 (.agg #[zz, zz, zz, zz, zz, zz, zz, zz, zz, zz, zz, zz, zz, zz, zz, zz, zz, zz, zz, zz, zz, zz, zz, zz, zz, zz, zz, zz, zz, zz, zz, zz, .int .i64 0]) (.t 26) (.t 35)), zm 3 36]) (.quietR [] 10 [zm 37 3, zm 38 5, zm 39 6, zo 40 (.bin .sub (.t 39) zj), zo 41 (.ixS 33 (.t 38) (.t 40)), zo 42 (.ldA 33 (.t 41)), zm 43 5, zm 44 6, zo 45 (.ixS 33 (.t 43) (.t 44)), zo 46 (.ldA 33 (.t 45)), zo 47 (.bsl 27 zC2 2 [(0, 33, (.t 42)), (33, 33, (.t 46))]), zo 48 (.app 44 27 33 40 (.agg #[zz, zz, zz, zz, zz, zz, zz, zz, zz, zz, zz, zz, zz, zz, zz, zz, zz, zz, zz, zz, zz, zz, zz, zz, zz, zz, zz, zz, zz, zz, zz, zz, .int .i64 0]) (.t 37) (.t 47)), zm 3 48]))))
 (.ops [zm 22 6, zo 23 (.bin .add (.t 22) zj), zm 6 23]))))))
 (.seq (.ops [zm 49 5, zo 50 (.lenS (.t 49)), zo 51 (.bin .gtr (.t 50) zi)])
 (.cond (.t 51) (.quietR [] 12 [zm 52 3, zm 53 5, zm 54 5, zo 55 (.lenS (.t 54)), zo 56 (.bin .sub (.t 55) zj), zo 57 (.ixS 33 (.t 53) (.t 56)), zo 58 (.ldA 33 (.t 57)), zm 59 0, zm 60 4, zo 61 (.ixS 102 (.t 59) (.t 60)), zo 62 (.fa 67 (.t 61)), zo 63 (.ldA 33 (.t 62)), zo 64 (.bsl 27 zC2 2 [(0, 33, (.t 58)), (33, 33, (.t 63))]), zo 65 (.app 44 27 33 40 (.agg #[zz, zz, zz, zz, zz, zz, zz, zz, zz, zz, zz, zz, zz, zz, zz, zz, zz, zz, zz, zz, zz, zz, zz, zz, zz, zz, zz, zz, zz, zz, zz, zz, .int .i64 0]) (.t 52) (.t 64)), zm 3 65]) .skip)))))
 (.ops [zm 11 4, zo 12 (.bin .add (.t 11) zj), zm 4 12]))))))
 (.seq (.ops [zm 66 3, zm 2 66])
 .ret))))
theorem Tryz.known95 : Known Tryz.prog 95 Tryz.pc95 67 [2] := ⟨Tryz.f95, _, Tryz.func95, rfl, by kernel_rfl, rfl, rfl⟩
def Tryz.pc96 : PC :=
 (.seq (.ops [zo 4 (.mov zf)])
 (.seq (.ops [zm 5 0, zo 6 (.lenS (.t 5)), zm 7 1, zo 8 (.lenS (.t 7)), zo 9 (.bin .geq (.t 6) (.t 8)), zm 10 9, zg 11 10 true (.mov (.t 0)), zg 12 10 true (.mov (.t 1)), zg 13 10 true (.lenS (.t 12)), zg 14 10 true (.slS 1 (.t 11) none (some (.t 13))), zg 15 10 true (.mov (.t 1)), zg 16 10 true (.call 113 [(.t 14), (.t 15)]), zo 17 (.pick (.t 10) (.t 16) zf), zm 4 17])
 .ret))
theorem Tryz.known96 : Known Tryz.prog 96 Tryz.pc96 18 [4] := ⟨Tryz.f96, _, Tryz.func96, rfl, by kernel_rfl, rfl, rfl⟩
def Tryz.pc97 : PC :=
 (.seq (.ops [zo 4 (.mov zi)])
 (.seq (.seq (.ops [zm 6 0, zo 7 (.lenS (.t 6)), zo 8 (.mov zi)])
 (.block 0 (.loop (.seq (.ops [zo 9 (.bin .lss (.t 8) (.t 7))])
 (.seq (.cond (.t 9) .skip (.exit 0))
 (.seq (.block 1 (.seq (.ops [zm 10 8, zm 5 10])
 (.seq (.ops [zm 11 1, zm 12 0, zm 13 5, zo 14 (.ixS 1 (.t 12) (.t 13)), zo 15 (.ld (.t 14)), zo 16 (.callv (.t 11) [(.t 15)])])
 (.cond (.t 16) (.seq (.ops [zm 17 5, zm 4 17])
 .ret) .skip))))
 (.ops [zo 18 (.bin .add (.t 8) zj), zm 8 18])))))))
 (.seq (.ops [zo 4 (.mov (.v (.int .i64 (-1))))])
 .ret)))
theorem Tryz.known97 : Known Tryz.prog 97 Tryz.pc97 19 [4] := ⟨Tryz.f97, _, Tryz.func97, rfl, by kernel_rfl, rfl, rfl⟩
def Tryz.pc98 : PC :=
 (.seq (.ops [zo 4 (.mov (.v (.slice none 0 0)))])
 (.seq (.ops [zm 10 1, zo 11 (.lenS (.t 10)), zo 12 (.mkS 73 3 1 8 (.int .i64 0) zi (.t 11)), zm 5 12])
 (.seq (.seq (.ops [zm 13 1, zo 14 (.lenS (.t 13)), zo 15 (.mov zi)])
 (.block 0 (.loop (.seq (.ops [zo 16 (.bin .lss (.t 15) (.t 14))])
 (.seq (.cond (.t 16) .skip (.exit 0))
 (.seq (.block 1 (.seq (.ops [zo 17 (.ixS 1 (.t 13) (.t 15)), zo 18 (.ld (.t 17)), zm 7 18])
 (.seq (.ops [zm 20 0, zm 21 7, zo 22 (.lookS (.int .i64 0) true (.t 20) (.t 21)), zm 19 22, zo 23 (.ext 0 (.t 19)), zo 24 (.ext 1 (.t 19)), zm 8 23, zm 9 24])
 (.seq (.seq (.ops [zm 25 9, zo 26 (.not (.t 25))])
 (.cond (.t 26) (.seq (.ops [zm 27 0, zo 28 (.lenM (.t 27)), zm 8 28])
 (.ops [zm 29 0, zm 30 7, zm 31 8, ⟨none, none, .updS (.t 29) (.t 30) (.t 31)⟩])) .skip))
 (.ops [zm 32 5, zm 33 8, zo 34 (.bsl 3 [.int .i64 0] 1 [(0, 1, (.t 33))]), zo 35 (.app 73 3 1 8 (.int .i64 0) (.t 32) (.t 34)), zm 5 35])))))
 (.ops [zo 36 (.bin .add (.t 15) zj), zm 15 36])))))))
 (.seq (.ops [zm 37 5, zm 4 37])
 .ret))))
theorem Tryz.known98 : Known Tryz.prog 98 Tryz.pc98 38 [4] := ⟨Tryz.f98, _, Tryz.func98, rfl, by kernel_rfl, rfl, rfl⟩
def Tryz.pc99 : PC :=
 (.seq (.ops [zo 4 (.mov (.v (.slice none 0 0)))])
 (.seq (.ops [zm 9 0, zo 10 (.lenS (.t 9)), zo 11 (.bin .add (.t 10) zj), zo 12 (.mkS 174 73 1 24 (.slice none 0 0) (.t 11) (.t 11)), zm 5 12])
 (.seq (.ops [zm 13 5, zm 14 0, zo 15 (.lenS (.t 14)), zm 16 1, zo 17 (.lenS (.t 16)), zo 18 (.bin .add (.t 17) zj), zo 19 (.mkS 73 3 1 8 (.int .i64 0) (.t 18) (.t 18)), zo 20 (.ixS 1 (.t 13) (.t 15)), ⟨none, none, .st 1 (.t 20) (.t 19)⟩])
 (.seq (.seq (.ops [zm 21 0, zo 22 (.lenS (.t 21)), zo 23 (.bin .sub (.t 22) zj), zm 6 23])
 (.block 0 (.loop (.seq (.seq (.ops [zm 24 6, zo 25 (.bin .geq (.t 24) zi)])
 (.cond (.t 25) .skip (.exit 0)))
 (.seq (.block 1 (.seq (.ops [zm 28 1, zo 29 (.lenS (.t 28)), zo 30 (.bin .add (.t 29) zj), zo 31 (.mkS 73 3 1 8 (.int .i64 0) (.t 30) (.t 30)), zm 7 31])
 (.seq (.seq (.ops [zm 32 1, zo 33 (.lenS (.t 32)), zo 34 (.bin .sub (.t 33) zj), zm 8 34])
 (.block 2 (.loop (.seq (.seq (.ops [zm 35 8, zo 36 (.bin .geq (.t 35) zi)])
 (.cond (.t 36) .skip (.exit 2)))
 (.seq (.block 3 (.seq (.quietR [] 15 [zm 39 7, zm 40 8, zm 41 5, zm 42 6, zo 43 (.bin .add (.t 42) zj), zo 44 (.ixS 1 (.t 41) (.t 43)), zo 45 (.ld (.t 44)), zm 46 8, zo 47 (.ixS 1 (.t 45) (.t 46)), zo 48 (.ld (.t 47)), zm 49 7, zm 50 8, zo 51 (.bin .add (.t 50) zj), zo 52 (.ixS 1 (.t 49) (.t 51)), zo 53 (.ld (.t 52)), zo 54 (.mnx true [(.t 48), (.t 53)]), zo 55 (.ixS 1 (.t 39) (.t 40)), ⟨none, none, .st 1 (.t 55) (.t 54)⟩])
 (.seq (.quietR [] 8 [zm 56 0, zm 57 6, zo 58 (.ixS 1 (.t 56) (.t 57)), zo 59 (.ld (.t 58)), zm 60 1, zm 61 8, zo 62 (.ixS 1 (.t 60) (.t 61)), zo 63 (.ld (.t 62)), zo 64 (.bin .eql (.t 59) (.t 63))])
 (.cond (.t 64) (.ops [zm 65 7, zm 66 8, zm 67 5, zm 68 6, zo 69 (.bin .add (.t 68) zj), zo 70 (.ixS 1 (.t 67) (.t 69)), zo 71 (.ld (.t 70)), zm 72 8, zo 73 (.bin .add (.t 72) zj), zo 74 (.ixS 1 (.t 71) (.t 73)), zo 75 (.ld (.t 74)), zo 76 (.bin .add (.t 75) zj), zo 77 (.ixS 1 (.t 65) (.t 66)), ⟨none, none, .st 1 (.t 77) (.t 76)⟩]) .skip))))
 (.ops [zm 37 8, zo 38 (.bin .sub (.t 37) zj), zm 8 38]))))))
 (.ops [zm 78 5, zm 79 6, zm 80 7, zo 81 (.ixS 1 (.t 78) (.t 79)), ⟨none, none, .st 1 (.t 81) (.t 80)⟩]))))
 (.ops [zm 26 6, zo 27 (.bin .sub (.t 26) zj), zm 6 27]))))))
 (.seq (.ops [zm 82 5, zm 4 82])
 .ret)))))
theorem Tryz.known99 : Known Tryz.prog 99 Tryz.pc99 83 [4] := ⟨Tryz.f99, _, Tryz.func99, rfl, by kernel_rfl, rfl, rfl⟩
def Tryz.pc102 : PC :=
 (.seq (.ops [zo 2 (.mov zi)])
 (.seq (.ops [zo 3 (.mov zi)])
 (.seq (.seq (.ops [zm 6 0, zo 7 (.lenS (.t 6)), zo 8 (.mov zi)])
 (.block 0 (.loop (.seq (.ops [zo 9 (.bin .lss (.t 8) (.t 7))])
 (.seq (.cond (.t 9) .skip (.exit 0))
 (.seq (.block 1 (.seq (.ops [zo 10 (.ixS 1 (.t 6) (.t 8)), zo 11 (.ld (.t 10)), zm 5 11])
 (.seq (.ops [zm 12 5, zm 13 3, zo 14 (.bin .neq (.t 12) (.t 13))])
 (.cond (.t 14) (.seq (.ops [zm 15 5, zm 2 15])
 .ret) .skip))))
 (.ops [zo 16 (.bin .add (.t 8) zj), zm 8 16])))))))
 (.seq (.ops [zm 17 3, zm 2 17])
 .ret))))
theorem Tryz.known102 : Known Tryz.prog 102 Tryz.pc102 18 [2] := ⟨Tryz.f102, _, Tryz.func102, rfl, by kernel_rfl, rfl, rfl⟩
def Tryz.pc103 : PC :=
 (.seq (.ops [zo 4 (.mov zi)])
 (.seq (.ops [zm 5 0, zm 6 1, zo 7 (.more (.other (.xf 124 [(.t 5), (.t 6)]))), zm 4 7])
 .ret))
theorem Tryz.known103 : Known Tryz.prog 103 Tryz.pc103 8 [4] := ⟨Tryz.f103, _, Tryz.func103, rfl, by kernel_rfl, rfl, rfl⟩
def Tryz.pc104 : PC :=
 (.seq (.ops [zo 4 (.mov zi)])
 (.seq (.ops [zm 7 0, zo 8 (.call 125 [(.t 7)]), zm 5 8])
 (.seq (.ops [zm 9 1, zo 10 (.call 125 [(.t 9)]), zm 6 10])
 (.seq (.seq (.ops [zm 11 5])
 (.cond (.t 11) (.seq (.seq (.ops [zm 12 6])
 (.cond (.t 12) (.seq (.ops [zo 4 (.mov zi)])
 .ret) .skip))
 (.seq (.ops [zo 4 (.mov (.v (.int .i64 (-1))))])
 .ret)) .skip))
 (.seq (.seq (.ops [zm 13 6])
 (.cond (.t 13) (.seq (.ops [zo 4 (.mov zj)])
 .ret) .skip))
 (.seq (.seq (.ops [zm 14 0, zm 15 1, zo 16 (.bin .lss (.t 14) (.t 15))])
 (.cond (.t 16) (.seq (.ops [zo 4 (.mov (.v (.int .i64 (-1))))])
 .ret) .skip))
 (.seq (.seq (.ops [zm 17 0, zm 18 1, zo 19 (.bin .gtr (.t 17) (.t 18))])
 (.cond (.t 19) (.seq (.ops [zo 4 (.mov zj)])
 .ret) .skip))
 (.seq (.ops [zo 4 (.mov zi)])
 .ret))))))))
theorem Tryz.known104 : Known Tryz.prog 104 Tryz.pc104 20 [4] := ⟨Tryz.f104, _, Tryz.func104, rfl, by kernel_rfl, rfl, rfl⟩
def Tryz.pc109 : PC :=
 (.block 0 (.loop (.block 1 (.seq (.ops [zm 5 1, zo 6 (.bin .sub (.t 5) zj), zo 7 (.bin .quo (.t 6) (.v (.int .i64 2))), zm 4 7])
 (.seq (.seq (.ops [zm 8 4, zm 9 1, zo 10 (.bin .eql (.t 8) (.t 9)), zm 11 10, zg 12 11 false (.mov (.t 0)), zg 13 11 false (.mov (.t 1)), zg 14 11 false (.mov (.t 4)), zg 15 11 false (.more (.other (.gen (.call { callee := (.invoke (.tmp 12) "Less"), args := #[(.tmp 13), (.tmp 14)], argTypes := #[3, 3] })))), zg 16 11 false (.not (.t 15)), zo 17 (.pick (.t 11) zt (.t 16))])
 (.cond (.t 17) (.exit 0) .skip))
 (.seq (.ops [zm 18 0, zm 19 4, zm 20 1, zo 21 (.more (.other (.gen (.call { callee := (.invoke (.tmp 18) "Swap"), args := #[(.tmp 19), (.tmp 20)], argTypes := #[3, 3] }))))])
 (.ops [zm 22 4, zm 1 22])))))))
theorem Tryz.known109 : Known Tryz.prog 109 Tryz.pc109 23 [] := ⟨Tryz.f109, _, Tryz.func109, rfl, by kernel_rfl, rfl, rfl⟩
def Tryz.pc110 : PC :=
 (.seq (.ops [zo 6 (.mov zf)])
 (.seq (.ops [zm 11 1, zm 7 11])
 (.seq (.block 0 (.loop (.block 1 (.seq (.ops [zm 12 7, zo 13 (.bin .mul (.v (.int .i64 2)) (.t 12)), zo 14 (.bin .add (.t 13) zj), zm 8 14])
 (.seq (.seq (.ops [zm 15 8, zm 16 2, zo 17 (.bin .geq (.t 15) (.t 16)), zm 18 17, zg 19 18 false (.mov (.t 8)), zg 20 18 false (.bin .lss (.t 19) zi), zo 21 (.pick (.t 18) zt (.t 20))])
 (.cond (.t 21) (.exit 0) .skip))
 (.seq (.ops [zm 22 8, zm 9 22])
 (.seq (.seq (.ops [zm 23 8, zo 24 (.bin .add (.t 23) zj), zm 10 24])
 (.seq (.ops [zm 25 10, zm 26 2, zo 27 (.bin .lss (.t 25) (.t 26)), zm 28 27, zg 29 28 true (.mov (.t 0)), zg 30 28 true (.mov (.t 10)), zg 31 28 true (.mov (.t 8)), zg 32 28 true (.more (.other (.gen (.call { callee := (.invoke (.tmp 29) "Less"), args := #[(.tmp 30), (.tmp 31)], argTypes := #[3, 3] })))), zo 33 (.pick (.t 28) (.t 32) zf)])
 (.cond (.t 33) (.ops [zm 34 10, zm 9 34]) .skip)))
 (.seq (.seq (.ops [zm 35 0, zm 36 9, zm 37 7, zo 38 (.more (.other (.gen (.call { callee := (.invoke (.tmp 35) "Less"), args := #[(.tmp 36), (.tmp 37)], argTypes := #[3, 3] })))), zo 39 (.not (.t 38))])
 (.cond (.t 39) (.exit 0) .skip))
 (.seq (.ops [zm 40 0, zm 41 7, zm 42 9, zo 43 (.more (.other (.gen (.call { callee := (.invoke (.tmp 40) "Swap"), args := #[(.tmp 41), (.tmp 42)], argTypes := #[3, 3] }))))])
 (.ops [zm 44 9, zm 7 44]))))))))))
 (.seq (.ops [zm 45 7, zm 46 1, zo 47 (.bin .gtr (.t 45) (.t 46)), zm 6 47])
 .ret))))
theorem Tryz.known110 : Known Tryz.prog 110 Tryz.pc110 48 [6] := ⟨Tryz.f110, _, Tryz.func110, rfl, by kernel_rfl, rfl, rfl⟩
def Tryz.pc111 : PC :=
 (.seq (.ops [zo 3 (.bx 27 (.t 1)), zo 4 (.mov zi)])
 (.seq (.seq (.ops [zm 6 0, zo 7 (.lenS (.t 6)), zo 8 (.mov zi)])
 (.block 0 (.loop (.seq (.ops [zo 9 (.bin .lss (.t 8) (.t 7))])
 (.seq (.cond (.t 9) .skip (.exit 0))
 (.seq (.block 1 (.seq (.ops [zm 10 8, zm 5 10])
 (.seq (.quietR [] 5 [zo 11 (.ldA 33 (.t 3)), zm 12 0, zm 13 5, zo 14 (.ixS 33 (.t 12) (.t 13)), zo 15 (.ldA 33 (.t 14)), zo 16 (.more (.eqD false 27 zC5 (.t 11) (.t 15)))])
 (.cond (.t 16) (.seq (.ops [zm 17 5, zm 4 17])
 .ret) .skip))))
 (.ops [zo 18 (.bin .add (.t 8) zj), zm 8 18])))))))
 (.seq (.ops [zo 4 (.mov (.v (.int .i64 (-1))))])
 .ret)))
theorem Tryz.known111 : Known Tryz.prog 111 Tryz.pc111 19 [4] := ⟨Tryz.f111, _, Tryz.func111, rfl, by kernel_rfl, rfl, rfl⟩
def Tryz.pc112 : PC :=
 (.seq (.ops [zo 6 (.mov (.v (.slice none 0 0)))])
 (.seq (.ops [zm 8 0, zm 9 1, zm 10 2, zm 11 0, zo 12 (.lenS (.t 11)), zo 13 (.more (.other (.gen (.slice 44 (.tmp 8) (some (.tmp 9)) (some (.tmp 10)) (some (.tmp 12))))))])
 (.seq (.seq (.ops [zm 14 1, zm 15 2, zo 16 (.bin .eql (.t 14) (.t 15))])
 (.cond (.t 16) (.seq (.ops [zm 17 0, zm 6 17])
 .ret) .skip))
 (.seq (.ops [zm 18 0, zo 19 (.lenS (.t 18)), zm 7 19])
 (.seq (.quietR [] 6 [zm 20 0, zm 21 1, zo 22 (.slS 33 (.t 20) none (some (.t 21))), zm 23 0, zm 24 2, zo 25 (.slS 33 (.t 23) (some (.t 24)) none), zo 26 (.app 44 27 33 40 (.agg #[zz, zz, zz, zz, zz, zz, zz, zz, zz, zz, zz, zz, zz, zz, zz, zz, zz, zz, zz, zz, zz, zz, zz, zz, zz, zz, zz, zz, zz, zz, zz, zz, .int .i64 0]) (.t 22) (.t 25)), zm 0 26])
 (.seq (.ops [zm 27 0, zm 28 0, zo 29 (.lenS (.t 28)), zm 30 7, zo 31 (.slS 33 (.t 27) (some (.t 29)) (some (.t 30))), ⟨none, none, .more (.clr 27 33 (.agg #[zz, zz, zz, zz, zz, zz, zz, zz, zz, zz, zz, zz, zz, zz, zz, zz, zz, zz, zz, zz, zz, zz, zz, zz, zz, zz, zz, zz, zz, zz, zz, zz, .int .i64 0]) (.t 31))⟩])
 (.seq (.ops [zm 32 0, zm 6 32])
 .ret)))))))
theorem Tryz.known112 : Known Tryz.prog 112 Tryz.pc112 33 [6] := ⟨Tryz.f112, _, Tryz.func112, rfl, by kernel_rfl, rfl, rfl⟩
def Tryz.pc113 : PC :=
 (.seq (.ops [zo 4 (.mov zf)])
 (.seq (.seq (.ops [zm 6 0, zo 7 (.lenS (.t 6)), zm 8 1, zo 9 (.lenS (.t 8)), zo 10 (.bin .neq (.t 7) (.t 9))])
 (.cond (.t 10) (.seq (.ops [zo 4 (.mov zf)])
 .ret) .skip))
 (.seq (.seq (.ops [zm 11 0, zo 12 (.lenS (.t 11)), zo 13 (.mov zi)])
 (.block 0 (.loop (.seq (.ops [zo 14 (.bin .lss (.t 13) (.t 12))])
 (.seq (.cond (.t 14) .skip (.exit 0))
 (.seq (.block 1 (.seq (.ops [zm 15 13, zm 5 15])
 (.seq (.quietR [] 8 [zm 16 0, zm 17 5, zo 18 (.ixS 1 (.t 16) (.t 17)), zo 19 (.ld (.t 18)), zm 20 1, zm 21 5, zo 22 (.ixS 1 (.t 20) (.t 21)), zo 23 (.ld (.t 22)), zo 24 (.bin .neq (.t 19) (.t 23))])
 (.cond (.t 24) (.seq (.ops [zo 4 (.mov zf)])
 .ret) .skip))))
 (.ops [zo 25 (.bin .add (.t 13) zj), zm 13 25])))))))
 (.seq (.ops [zo 4 (.mov zt)])
 .ret))))
theorem Tryz.known113 : Known Tryz.prog 113 Tryz.pc113 26 [4] := ⟨Tryz.f113, _, Tryz.func113, rfl, by kernel_rfl, rfl, rfl⟩
def Tryz.pc125 : PC :=
 (.seq (.ops [zo 2 (.mov zf)])
 (.seq (.ops [zm 3 0, zm 4 0, zo 5 (.bin .neq (.t 3) (.t 4)), zm 2 5])
 .ret))
theorem Tryz.known125 : Known Tryz.prog 125 Tryz.pc125 6 [2] := ⟨Tryz.f125, _, Tryz.func125, rfl, by kernel_rfl, rfl, rfl⟩
def Tryz.pc150 : PC :=
 (.seq (.ops [zo 6 (.mov zf)])
 (.seq (.quietR [] 8 [zm 7 0, zm 8 1, zo 9 (.ixS 33 (.t 7) (.t 8)), zo 10 (.ldA 33 (.t 9)), zm 11 0, zm 12 2, zo 13 (.ixS 33 (.t 11) (.t 12)), zo 14 (.ldA 33 (.t 13)), zo 15 (.call 72 [(.t 10), (.t 14)]), zo 16 (.bin .lss (.t 15) zi), zm 6 16])
 .ret))
theorem Tryz.known150 : Known Tryz.prog 150 Tryz.pc150 17 [6] := ⟨Tryz.f150, _, Tryz.func150, rfl, by kernel_rfl, rfl, rfl⟩
def Tryz.pc151 : PC :=
 (.seq (.ops [zo 2 (.mov (.v .nilIface))])
 (.seq (.ops [zm 5 0, zo 6 (.nilc (.t 5)), zo 7 (.ld (.t 6)), zo 8 (.lenS (.t 7)), zo 9 (.bin .sub (.t 8) zj), zm 3 9])
 (.seq (.ops [zm 10 0, zo 11 (.nilc (.t 10)), zo 12 (.ld (.t 11)), zm 13 3, zo 14 (.ixS 33 (.t 12) (.t 13)), zo 15 (.ldA 33 (.t 14)), zo 4 (.al 27 zC4), ⟨none, none, .st 33 (.t 4) (.t 15)⟩])
 (.seq (.ops [zm 16 0, zm 17 0, zo 18 (.nilc (.t 17)), zo 19 (.ld (.t 18)), zm 20 3, zo 21 (.slS 33 (.t 19) none (some (.t 20))), zo 22 (.nilc (.t 16)), ⟨none, none, .st 1 (.t 22) (.t 21)⟩])
 (.seq (.ops [zo 23 (.ldA 33 (.t 4)), zo 24 (.more (.mkI 27 (.t 23))), zm 2 24])
 .ret)))))
theorem Tryz.known151 : Known Tryz.prog 151 Tryz.pc151 25 [2] := ⟨Tryz.f151, _, Tryz.func151, rfl, by kernel_rfl, rfl, rfl⟩
def Tryz.pc152 : PC :=
 (.seq (.ops [zm 7 1, zo 8 (.more (.other (.gen (.typeAssert (.tmp 7) 20 27 true)))), zm 6 8, zo 9 (.ext 0 (.t 6)), zo 10 (.ext 1 (.t 6)), zo 4 (.al 27 zC4), ⟨none, none, .st 33 (.t 4) (.t 9)⟩, zm 5 10])
 (.seq (.ops [zm 11 5])
 (.cond (.t 11) (.quietR [0, 0, 2, 6, 0, 16] 6 [zm 12 0, zm 13 0, zo 14 (.nilc (.t 13)), zo 15 (.ld (.t 14)), zo 16 (.ldA 33 (.t 4)), zo 17 (.bsl 27 zC4 1 [(0, 33, (.t 16))]), zo 18 (.app 156 27 33 40 (.agg #[zz, zz, zz, zz, zz, zz, zz, zz, zz, zz, zz, zz, zz, zz, zz, zz, zz, zz, zz, zz, zz, zz, zz, zz, zz, zz, zz, zz, zz, zz, zz, zz, .int .i64 0]) (.t 15) (.t 17)), zo 19 (.nilc (.t 12)), ⟨none, none, .st 1 (.t 19) (.t 18)⟩]) .skip)))
theorem Tryz.known152 : Known Tryz.prog 152 Tryz.pc152 20 [] := ⟨Tryz.f152, _, Tryz.func152, rfl, by kernel_rfl, rfl, rfl⟩
def Tryz.pc153 : PC :=
 (.quietR [] 12 [zm 6 0, zm 7 1, zm 8 0, zm 9 2, zm 10 0, zm 11 2, zo 12 (.ixS 33 (.t 10) (.t 11)), zo 13 (.ldA 33 (.t 12)), zm 14 0, zm 15 1, zo 16 (.ixS 33 (.t 14) (.t 15)), zo 17 (.ldA 33 (.t 16)), zo 18 (.ixS 33 (.t 6) (.t 7)), ⟨none, none, .st 33 (.t 18) (.t 13)⟩, zo 19 (.ixS 33 (.t 8) (.t 9)), ⟨none, none, .st 33 (.t 19) (.t 17)⟩])
theorem Tryz.known153 : Known Tryz.prog 153 Tryz.pc153 20 [] := ⟨Tryz.f153, _, Tryz.func153, rfl, by kernel_rfl, rfl, rfl⟩
end Go.Proofs

namespace Go.SL
open Go.RowKit Go.ChangeShapes
theorem map_eraseIdx {γ δ : Type} (h : γ -> δ) : ∀ (l : List γ) (i : Nat), (l.eraseIdx i).map h = (l.map h).eraseIdx i
 | [], i => by simp
 | a :: l, 0 => by simp
 | a :: l, i + 1 => by simp [map_eraseIdx h l i]
section plain
variable {α β γ : Type} [DecidableEq α]
def mgt (l : List (α × β)) (a : α) : Option β := (l.find? fun p => decide (a = p.1)).map (·.2)
def mpt : List (α × β) -> α -> β -> List (α × β)
 | [], a, b => [(a, b)]
 | p :: r, a, b => if a = p.1 then (a, b) :: r else p :: mpt r a b
def mdl (l : List (α × β)) (a : α) : List (α × β) := l.filter fun p => !decide (a = p.1)
def mks (l : List (α × β)) : List α := l.map (·.1)
theorem mgt_cons (p : α × β) (l : List (α × β)) (a : α) : mgt (p :: l) a = if a = p.1 then some p.2 else mgt l a := by
 unfold mgt
 rw [List.find?_cons]
 by_cases h : a = p.1
 ·simp [h]
 simp [h]
theorem mgt_nil (a : α) : mgt ([] : List (α × β)) a = none := rfl
theorem mgt_mpt (l : List (α × β)) (a c : α) (b : β) : mgt (mpt l a b) c = if c = a then some b else mgt l c := by
 induction l with
 | nil => simp only [mpt, mgt_cons, mgt_nil]
 | cons p l ih =>
  simp only [mpt]
  split
  ·rename_i h
   simp only [mgt_cons]
   subst h
   split <;> rfl
  rename_i h
  simp only [mgt_cons, ih]
  by_cases h1 : c = p.1
  ·subst h1
   rw [if_pos rfl, if_neg (fun e => h e.symm)]
   simp
  simp [h1]
theorem mgt_none {l : List (α × β)} {a : α} : mgt l a = none ↔ a ∉ mks l := by
 induction l with
 | nil => simp [mgt_nil, mks]
 | cons p l ih =>
  rw [mgt_cons]
  unfold mks at ih ⊢
  by_cases h : a = p.1
  ·simp [h]
  simp [h, ih]
theorem mgt_mem {l : List (α × β)} (hn : (mks l).Nodup) {a : α} {b : β} : mgt l a = some b ↔ (a, b) ∈ l := by
 induction l with
 | nil => simp [mgt_nil]
 | cons p l ih =>
  obtain ⟨c, d⟩ := p
  unfold mks at hn ih
  simp only [List.map_cons, List.nodup_cons] at hn
  rw [mgt_cons]
  simp only [List.mem_cons, Prod.mk.injEq]
  by_cases h : a = c
  ·subst h
   rw [if_pos rfl]
   constructor
   ·intro e; exact .inl ⟨rfl, (Option.some.inj e).symm⟩
   rintro (⟨_, e⟩ | e)
   ·rw [e]
   exact absurd (List.mem_map.2 ⟨_, e, rfl⟩) hn.1
  rw [if_neg h, ih hn.2]
  simp [h]
theorem mgt_some_mem {l : List (α × β)} {a : α} {b : β} (h : mgt l a = some b) : (a, b) ∈ l := by
 unfold mgt at h
 obtain ⟨p, hp, rfl⟩ := Option.map_eq_some_iff.1 h
 have h1 := List.find?_some hp
 have h2 := List.mem_of_find?_eq_some hp
 simp only [decide_eq_true_eq] at h1
 rw [h1]; exact h2
theorem mks_mpt (l : List (α × β)) (a : α) (b : β) : mks (mpt l a b) = if a ∈ mks l then mks l else mks l ++ [a] := by
 induction l with
 | nil => simp [mpt, mks]
 | cons p l ih =>
  simp only [mpt]
  unfold mks at ih ⊢
  by_cases h : a = p.1
  ·simp [h]
  simp only [h, if_false, List.map_cons, ih, List.mem_cons, false_or]
  split <;> simp
theorem mpt_nodup {l : List (α × β)} (h : (mks l).Nodup) (a : α) (b : β) : (mks (mpt l a b)).Nodup := by
 rw [mks_mpt]
 split
 ·exact h
 rename_i hn
 rw [List.nodup_append]
 exact ⟨h, by simp, by simp; rintro c hc rfl; exact hn hc⟩
theorem mdl_nodup {l : List (α × β)} (h : (mks l).Nodup) (a : α) : (mks (mdl l a)).Nodup := by
 unfold mks mdl at *
 exact h.sublist (List.filter_sublist.map _)
theorem mks_mdl (l : List (α × β)) (a : α) : mks (mdl l a) = (mks l).filter fun c => !decide (a = c) := by
 unfold mks mdl
 rw [List.filter_map]
 rfl
theorem mpt_new {l : List (α × β)} {a : α} (h : ∀ b, (a, b) ∉ l) (b : β) : mpt l a b = l ++ [(a, b)] := by
 induction l with
 | nil => rfl
 | cons p l ih =>
  simp only [mpt]
  rw [if_neg (fun e => h p.2 (by rw [e]; simp)), ih (fun b hb => h b (by simp [hb]))]
  rfl
theorem mpt_set {l : List (α × β)} (hn : (mks l).Nodup) {a : α} {c : β} {j : Nat} (h : l[j]? = some (a, c)) (b : β) : mpt l a b = l.set j (a, b) := by
 induction l generalizing j with
 | nil => simp at h
 | cons p l ih =>
  unfold mks at hn ih
  simp only [List.map_cons, List.nodup_cons] at hn
  cases j with
  | zero => simp at h; simp [mpt, h]
  | succ j =>
   simp at h
   have hne : a ≠ p.1 := fun e => hn.1 (by rw [<- e]; exact List.mem_map.2 ⟨_, List.mem_of_getElem? h, rfl⟩)
   simp only [mpt, if_neg hne, List.set_cons_succ, ih hn.2 h]
theorem mdl_new {l : List (α × β)} {a : α} (h : ∀ b, (a, b) ∉ l) : mdl l a = l := by
 unfold mdl
 rw [List.filter_eq_self]
 intro p hp
 simp only [Bool.not_eq_true', decide_eq_false_iff_not]
 intro e
 exact h p.2 (by rw [e]; exact hp)
end plain
section
variable {P : Program} {w0 : World} {n : Nat} {T : TT} {S : SS}
variable {α β : Type} [DecidableEq α] {f : α -> Value} {g : β -> Value} {kt et t : TypeId} {ok : α -> Prop}
def gmL (f : α -> Value) (g : β -> Value) (l : List (α × β)) : List (Value × Value) := l.map fun p => (f p.1, g p.2)
structure Keys (P : Program) (kt : TypeId) (f : α -> Value) (ok : α -> Prop) : Prop where
 law : WideMaps.KeyLaw P kt
 key : ∀ a, ok a -> ∃ l, keyOf P kt (f a) = some l
 inj : ∀ a b, f a = f b -> a = b
theorem mem_at {S : SS} {j b : Nat} {o : AO} (hk : S[j]? = some [(b, o)]) : (b, o) ∈ S.flatten := List.mem_flatten.2 ⟨_, List.mem_of_getElem? hk, List.mem_singleton.2 rfl⟩
theorem Rep.gmAt {w : World} {b : Nat} {es : List (Value × Value)} (h : Rep w0 S w) (hm : (b, AO.gm es) ∈ S.flatten) :
  w0.heap.size <= b /\ ∃ en clk, w.heap[b]? = some (.map en clk) /\ en.toList.map (fun e => (e.key, e.val)) = es /\ (en.toList.map (·.born)).Nodup /\ (∀ e ∈ en.toList, e.born < clk) /\ (en.toList.map (·.key)).Nodup := h.own _ hm
theorem gmL_nodup {en : Array MapEntry} {l : List (α × β)} (he : en.toList.map (fun e => (e.key, e.val)) = gmL f g l) (hn : (en.toList.map (·.key)).Nodup) : (mks l).Nodup := by
 have : en.toList.map (·.key) = (mks l).map f := by
  have := congrArg (List.map Prod.fst) he
  unfold gmL at this
  unfold mks
  simpa [Function.comp_def] using this
 rw [this] at hn
 unfold List.Nodup at hn ⊢
 rw [List.pairwise_map] at hn
 exact hn.imp fun h e => h (by rw [e])
theorem gmL_get {en : Array MapEntry} {l : List (α × β)} (he : en.toList.map (fun e => (e.key, e.val)) = gmL f g l) {j : Nat} {e : MapEntry} (h : en.toList[j]? = some e) : ∃ a b, l[j]? = some (a, b) /\ e.key = f a /\ e.val = g b := by
 have h1 : (en.toList.map (fun e => (e.key, e.val)))[j]? = some (e.key, e.val) := by simp [h]
 rw [he] at h1
 unfold gmL at h1
 rw [List.getElem?_map, Option.map_eq_some_iff] at h1
 obtain ⟨p, h1, h2⟩ := h1
 exact ⟨p.1, p.2, h1, (congrArg Prod.fst h2).symm, (congrArg Prod.snd h2).symm⟩
theorem Keys.find (K : Keys P kt f ok) {en : Array MapEntry} {l : List (α × β)} (hl : ∀ p ∈ l, ok p.1) (he : en.toList.map (fun e => (e.key, e.val)) = gmL f g l) (a : α) (ha : ok a) (w : World) :
  ((Instr.findKey kt (f a) en.toList).run P w = .ok none w /\ ∀ b, (a, b) ∉ l) ∨
  ∃ j e b, (Instr.findKey kt (f a) en.toList).run P w = .ok (some (j, e.val)) w /\ en.toList[j]? = some e /\ e.key = f a /\ e.val = g b /\ l[j]? = some (a, b) := by
 obtain ⟨lx, hx⟩ := K.key a ha
 have hall : ∀ e ∈ en.toList, ∃ l, keyOf P kt e.key = some l := by
  intro e hm
  obtain ⟨j, hj⟩ := List.getElem?_of_mem hm
  obtain ⟨a', _, hq, hk, _⟩ := gmL_get he hj
  rw [hk]
  exact K.key a' (hl _ (List.mem_of_getElem? hq))
 rcases K.law.find w hx en.toList hall with ⟨h1, h2⟩ | ⟨j, e, h1, h2, h3⟩
 ·refine .inl ⟨h1, fun b hb => ?_⟩
  have : (f a, g b) ∈ en.toList.map (fun e => (e.key, e.val)) := by rw [he]; exact List.mem_map.2 ⟨(a, b), hb, rfl⟩
  obtain ⟨e, hm, hk⟩ := List.mem_map.1 this
  exact h2 e hm (congrArg Prod.fst hk)
 obtain ⟨a', b, h4, h5, h6⟩ := gmL_get he h2
 obtain rfl := K.inj a' a (by rw [<- h5, h3])
 exact .inr ⟨j, e, b, h1, h2, h3, h6, h4⟩
theorem Yields.lenG {x : PV} {b : Nat} {l : List (α × β)} (hx : x.val T = some (.map (some b))) (hk : (b, AO.gm (gmL f g l)) ∈ S.flatten) : Yields P w0 n (.lenM x) T S (.int .i64 l.length) := by
 intro o a w hco hs hr
 obtain ⟨t, kt, vt, c, cl, ho, hca, hat, har, rfl, hu⟩ := cOp_spec P hco
 obtain ⟨_, en, clk, hw, he, _⟩ := hr.gmAt hk
 have hlen : en.size = l.length := by have := congrArg List.length he; simpa [gmL] using this
 simp [execOp, ho, resolve, hca, invoke, builtin, Builtin.len_, hat, har, hs.eval hx, run_underlying hu, goInt, getObj, Sem.run, hw, hlen]
theorem Yields.lookG {m k : Operand} {okc : Bool} {i : TypeInfo} {b : Nat} {l : List (α × β)} {a : α} {z : β} (hu : P.underlying t = some (.map kt et)) (hi : P.info? et = some i) (hz : i.zero = some (g z)) (K : Keys P kt f ok) (hl : ∀ p ∈ l, ok p.1) (ha : ok a)
  (hm : (cV m).val T = some (.map (some b))) (hx : (cV k).val T = some (f a)) (hk : (b, AO.gm (gmL f g l)) ∈ S.flatten) :
  Yields P w0 n (.more (.other (.gen (.lookup t m k okc)))) T S (if okc then .tuple #[g ((mgt l a).getD z), .bool (mgt l a).isSome] else g ((mgt l a).getD z)) := by
 intro o ac w hco hs hr
 have ho : o.op = .lookup t m k okc := cOp_spec P hco
 obtain ⟨_, en, clk, hw, he, hb, hlt, hn⟩ := hr.gmAt hk
 obtain ⟨lx, hlx⟩ := K.key a ha
 have hck := fun bb => K.law.check w bb hlx
 have hg : (getObj b).run P w = .ok (.map en clk) w := by simp [getObj, Sem.run, hw]
 simp only [execOp, ho, hs.eval hm, hs.eval hx, Instr.lookup]
 simp only [Sem.run_bind, run_underlying hu, Result.andThen_ok, hg, Sem.run_pure, hck]
 rcases K.find hl he a ha w with ⟨h1, h2⟩ | ⟨j, e, b', h1, h2, h3, h4, h5⟩
 ·have hget : mgt l a = none := mgt_none.2 fun h => by
   unfold mks at h
   obtain ⟨p, hp, rfl⟩ := List.mem_map.1 h
   exact h2 p.2 hp
  simp only [h1, Result.andThen_ok, hget]
  cases okc <;> simp [zeroValue, typeInfo, program, hi, hz, Sem.run]
 have hget : mgt l a = some b' := (mgt_mem (gmL_nodup he hn)).2 (List.mem_of_getElem? h5)
 simp only [h1, Result.andThen_ok, hget, h4]
 cases okc <;> simp
theorem OW.mkG : OW P w0 n .mkM T S (fun v S' => ∃ r, v = .map (some r) /\ S' = [(r, .gm [])] :: S) := by
 intro op a w Q hco hs hr
 obtain ⟨t, ho⟩ := cOp_spec P hco
 have hrun : (execOp a.eval op).run P w = .ok (.value (.map (some w.heap.size))) (w.alloc (.map #[] 0)) := by
  simp [execOp, ho, Instr.makeMap, newObj, Sem.run]
 unfold Oper.wp
 rw [hrun]
 refine ⟨_, _, rfl, ?_, w.heap.size, rfl, rfl⟩
 refine hr.push (below_alloc hr _) (fun i hi => alloc_heap_lt w _ i hi) (by simp) ?_
 intro p hp
 simp only [List.mem_singleton] at hp
 subst hp
 exact ⟨⟨#[], 0, alloc_heap_new w _, by simp⟩, Nat.le_refl _⟩
theorem OW.mkGr {x : Operand} {j : Int} {q : IntKind} (hu : P.underlying t = some (.map kt et)) (hx : (cV x).val T = some (.int q j)) : OW P w0 n (.more (.other (.gen (.makeMap t (some x))))) T S (fun v S' => ∃ r, v = .map (some r) /\ S' = [(r, .gm [])] :: S) := by
 intro op a w Q hco hs hr
 have ho : op.op = .makeMap t (some x) := cOp_spec P hco
 have hrun : (execOp a.eval op).run P w = .ok (.value (.map (some w.heap.size))) (w.alloc (.map #[] 0)) := by
  simp [execOp, ho, Instr.makeMap, newObj, Sem.run, hs.eval hx, run_underlying hu, asInt, asIntOf]
 unfold Oper.wp
 rw [hrun]
 refine ⟨_, _, rfl, ?_, w.heap.size, rfl, rfl⟩
 refine hr.push (below_alloc hr _) (fun i hi => alloc_heap_lt w _ i hi) (by simp) ?_
 intro p hp
 simp only [List.mem_singleton] at hp
 subst hp
 exact ⟨⟨#[], 0, alloc_heap_new w _, by simp⟩, Nat.le_refl _⟩
theorem run_setMap {w : World} {b : Nat} {en : Array MapEntry} {clk : Nat} (hw : w.heap[b]? = some (.map en clk)) (o : Obj) : (setObj b o).run P w = .ok () { w with heap := w.heap.setIfInBounds b o } := by
 simp [setObj, Sem.run, hw]
theorem Rep.setAt {w : World} {k b : Nat} {o : AO} {ob : Obj} {o' : AO} (h : Rep w0 S w) (hk : S[k]? = some [(b, o)]) (ho : Owns { w with heap := w.heap.setIfInBounds b ob } b o') : Rep w0 (S.set k [(b, o')]) { w with heap := w.heap.setIfInBounds b ob } := by
 obtain ⟨hge, how⟩ := h.own (b, o) (mem_at hk)
 simp only at hge
 refine h.replace hk ⟨rfl, rfl, rfl, by simp, fun i hi => ?_⟩ (fun i hi hne => ?_) (by simp) ?_
 ·have : b ≠ i := by omega
  simp [Array.getElem?_setIfInBounds_ne this]
 ·have : b ≠ i := by simp at hne; omega
  simp [Array.getElem?_setIfInBounds_ne this]
 intro p hp
 simp only [List.mem_singleton] at hp
 subst hp
 exact ⟨hge, ho, .inl (by simp)⟩
theorem keys_set {l : List MapEntry} {j : Nat} {e : MapEntry} (h : l[j]? = some e) (e' : MapEntry) (hk : e'.key = e.key) : (l.set j e').map (·.key) = l.map (·.key) := by
 apply List.ext_getElem?
 intro i
 by_cases he : j = i
 ·subst he
  have hlt := (List.getElem?_eq_some_iff.1 h).1
  rw [List.getElem?_map, List.getElem?_map, List.getElem?_set_self hlt, h]; simp [hk]
 simp [List.getElem?_set_ne he]
theorem borns_set {l : List MapEntry} {j : Nat} {e : MapEntry} (h : l[j]? = some e) (e' : MapEntry) (hk : e'.born = e.born) : (l.set j e').map (·.born) = l.map (·.born) := by
 apply List.ext_getElem?
 intro i
 by_cases he : j = i
 ·subst he
  have hlt := (List.getElem?_eq_some_iff.1 h).1
  rw [List.getElem?_map, List.getElem?_map, List.getElem?_set_self hlt, h]; simp [hk]
 simp [List.getElem?_set_ne he]
theorem run_updG {w : World} {b : Nat} {l : List (α × β)} {a : α} {v : β} (hu : P.underlying t = some (.map kt et)) (K : Keys P kt f ok) (hl : ∀ p ∈ l, ok p.1) (ha : ok a) {en : Array MapEntry} {clk : Nat} (hw : w.heap[b]? = some (.map en clk)) (he : en.toList.map (fun e => (e.key, e.val)) = gmL f g l)
  (hb : (en.toList.map (·.born)).Nodup) (hlt : ∀ e ∈ en.toList, e.born < clk) (hn : (en.toList.map (·.key)).Nodup) :
  ∃ en' clk', (Instr.mapUpdate t (.map (some b)) (f a) (g v)).run P w = .ok () { w with heap := w.heap.setIfInBounds b (.map en' clk') } /\ en'.toList.map (fun e => (e.key, e.val)) = gmL f g (mpt l a v) /\
   (en'.toList.map (·.born)).Nodup /\ (∀ e ∈ en'.toList, e.born < clk') /\ (en'.toList.map (·.key)).Nodup := by
 obtain ⟨lx, hlx⟩ := K.key a ha
 have hck := K.law.check w false hlx
 have hst := K.law.stays w hlx
 have hg : (getObj b).run P w = .ok (.map en clk) w := by simp [getObj, Sem.run, hw]
 rcases K.find hl he a ha w with ⟨h1, h2⟩ | ⟨j, e, b', h1, h2, h3, h4, h5⟩
 ·refine ⟨en.push { key := f a, val := g v, born := clk }, clk + 1, ?_, ?_, ?_, ?_, ?_⟩
  ·unfold Instr.mapUpdate
   simp [run_underlying hu, hg, hck, h1, run_setMap hw]
  ·rw [mpt_new h2]; simp [he, gmL]
  ·simp only [Array.toList_push, List.map_append, List.map_cons, List.map_nil]
   rw [List.nodup_append]
   refine ⟨hb, by simp, ?_⟩
   simp only [List.mem_map, List.mem_singleton]
   rintro x ⟨e, he', rfl⟩ y rfl hxy
   have := hlt e he'
   omega
  ·simp only [Array.toList_push, List.mem_append, List.mem_singleton]
   rintro e (h | rfl)
   ·have := hlt e h; omega
   exact Nat.lt_succ_self _
  simp only [Array.toList_push, List.map_append, List.map_cons, List.map_nil]
  rw [List.nodup_append]
  refine ⟨hn, by simp, ?_⟩
  simp only [List.mem_map, List.mem_singleton]
  rintro x ⟨e, he', rfl⟩ y rfl hxy
  obtain ⟨i, hi⟩ := List.getElem?_of_mem he'
  obtain ⟨a', b', q1, q2, q3⟩ := gmL_get he hi
  obtain rfl := K.inj a' a (by rw [<- q2, hxy])
  exact h2 b' (List.mem_of_getElem? q1)
 have hlj : j < en.toList.length := (List.getElem?_eq_some_iff.1 h2).1
 have hmod : (en.modify j fun e => { e with key := f a, val := g v }).toList = en.toList.set j { e with key := f a, val := g v } := by
  apply List.ext_getElem?
  intro i
  by_cases hi : j = i
  ·subst hi
   have hlj' : j < en.size := by simpa using hlj
   have h2' : en[j] = e := by have := h2; simp [hlj'] at this; exact this
   simp [Array.getElem?_modify, List.getElem?_set_self hlj, hlj', h2']
  simp [Array.getElem?_modify, hi, List.getElem?_set_ne hi]
 refine ⟨en.modify j fun e => { e with key := f a, val := g v }, clk, ?_, ?_, ?_, ?_, ?_⟩
 ·have hkey : ((en[j]?).map (·.key)).getD (f a) = f a := by
   have : en[j]? = some e := by simpa using h2
   simp [this, h3]
  unfold Instr.mapUpdate
  simp [run_underlying hu, hg, hck, h1, hkey, hst, run_setMap hw]
 ·rw [hmod, mpt_set (gmL_nodup he hn) h5, List.map_set, he]
  unfold gmL
  rw [List.map_set]
 ·rw [hmod, borns_set h2 _ (by rfl)]; exact hb
 ·rw [hmod]
  intro x hx
  rcases List.mem_or_eq_of_mem_set hx with h | rfl
  ·exact hlt x h
  exact hlt e (List.mem_of_getElem? h2)
 rw [hmod, keys_set h2 _ (by simpa using h3.symm)]; exact hn
theorem OW.updG {m k x : Operand} {b j : Nat} {l : List (α × β)} {a : α} {v : β} (hu : P.underlying t = some (.map kt et)) (K : Keys P kt f ok) (hl : ∀ p ∈ l, ok p.1) (ha : ok a) (hm : (cV m).val T = some (.map (some b))) (hx : (cV k).val T = some (f a)) (hv : (cV x).val T = some (g v))
  (hk : S[j]? = some [(b, AO.gm (gmL f g l))]) : OW P w0 n (.more (.other (.gen (.mapUpdate t m k x)))) T S (fun _ S' => S' = S.set j [(b, .gm (gmL f g (mpt l a v)))]) := by
 intro op ac w Q hco hs hr
 have ho : op.op = .mapUpdate t m k x := cOp_spec P hco
 obtain ⟨hge, en, clk, hw, he, hb, hlt, hn⟩ := hr.gmAt (mem_at hk)
 obtain ⟨en', clk', hrun, h1, h2, h3, h4⟩ := run_updG (a := a) (v := v) hu K hl ha hw he hb hlt hn
 unfold Oper.wp
 have hrun2 : (execOp ac.eval op).run P w = .ok .skip { w with heap := w.heap.setIfInBounds b (.map en' clk') } := by
  simp [execOp, ho, hs.eval hm, hs.eval hx, hs.eval hv, hrun]
 rw [hrun2]
 refine ⟨undef, _, rfl, ?_, rfl⟩
 have hlb : b < w.heap.size := (Array.getElem?_eq_some_iff.1 hw).1
 exact hr.setAt hk ⟨en', clk', by simp [hlb], h1, h2, h3, h4⟩
theorem OW.insG {m k x : Operand} {b j : Nat} {l : List (α × β)} {a : α} {v : β} (hu : P.underlying t = some (.map kt et)) (K : Keys P kt f ok) (hl : ∀ p ∈ l, ok p.1) (ha : ok a) (hm : (cV m).val T = some (.map (some b))) (hx : (cV k).val T = some (f a)) (hv : (cV x).val T = some (g v))
  (hk : S[j]? = some [(b, AO.gm (gmL f g l))]) : OW P w0 n (.more (.other (.gen (.insert t m k x)))) T S (fun _ S' => S' = S.set j [(b, .gm (gmL f g (mpt l a v)))]) := by
 intro op ac w Q hco hs hr
 have ho : op.op = .insert t m k x := cOp_spec P hco
 obtain ⟨hge, en, clk, hw, he, hb, hlt, hn⟩ := hr.gmAt (mem_at hk)
 obtain ⟨en', clk', hrun, h1, h2, h3, h4⟩ := run_updG (a := a) (v := v) hu K hl ha hw he hb hlt hn
 unfold Oper.wp
 have hrun2 : (execOp ac.eval op).run P w = .ok .skip { w with heap := w.heap.setIfInBounds b (.map en' clk') } := by
  simp [execOp, ho, hs.eval hm, hs.eval hx, hs.eval hv, hrun]
 rw [hrun2]
 refine ⟨undef, _, rfl, ?_, rfl⟩
 have hlb : b < w.heap.size := (Array.getElem?_eq_some_iff.1 hw).1
 exact hr.setAt hk ⟨en', clk', by simp [hlb], h1, h2, h3, h4⟩
def It (f : α -> Value) (g : β -> Value) (en : Array MapEntry) (seen : Array Nat) (l done rest : List (α × β)) : Prop :=
 (done ++ rest).Perm l /\ ∃ D R : List MapEntry, seen.toList = D.map (·.born) /\ (D ++ R).Perm en.toList /\ D.map (fun e => (e.key, e.val)) = gmL f g done /\ R.map (fun e => (e.key, e.val)) = gmL f g rest
structure Opened (f : α -> Value) (g : β -> Value) (en : Array MapEntry) (clk : Nat) (l : List (α × β)) : Prop where
 es : en.toList.map (fun e => (e.key, e.val)) = gmL f g l
 born : (en.toList.map (·.born)).Nodup
 lt : ∀ e ∈ en.toList, e.born < clk
 keys : (en.toList.map (·.key)).Nodup
theorem OW.rngG {m : Operand} {b j : Nat} {l : List (α × β)} (hu : P.underlying t = some (.map kt et)) (hm : (cV m).val T = some (.map (some b))) (hk : S[j]? = some [(b, AO.gm (gmL f g l))]) :
  OW P w0 n (.more (.other (.gen (.range t m)))) T S (fun v S' => ∃ r en clk, v = .pointer (some ⟨r, 0, none⟩) /\ Opened f g en clk l /\ It f g en #[] l [] l /\ S' = [(r, .obj (.mapIter (some b) clk #[] clk))] :: S.set j [(b, .obj (.map en clk))]) := by
 intro op ac w Q hco hs hr
 have ho : op.op = .range t m := cOp_spec P hco
 obtain ⟨hge, en, clk, hw, he, hb, hlt, hn⟩ := hr.gmAt (mem_at hk)
 have hg : (getObj b).run P w = .ok (.map en clk) w := by simp [getObj, Sem.run, hw]
 unfold Oper.wp
 have hrun : (execOp ac.eval op).run P w = .ok (.value (.pointer (some ⟨w.heap.size, 0, none⟩))) (w.alloc (.mapIter (some b) clk #[] clk)) := by
  simp [execOp, ho, hs.eval hm, Instr.range, run_underlying hu, hg, newObj, Sem.run]
 rw [hrun]
 have hr2 : Rep w0 (S.set j [(b, .obj (.map en clk))]) w := hr.replace hk (Below.refl _ _) (fun _ _ _ => rfl) (by simp) (by
  intro p hp
  simp only [List.mem_singleton] at hp
  subst hp
  exact ⟨hge, hw, .inl (by simp)⟩)
 refine ⟨_, _, rfl, hr2.allocObj _, w.heap.size, en, clk, rfl, ⟨he, hb, hlt, hn⟩, ⟨by simp, [], en.toList, by simp, by simp, by simp [gmL], he⟩, rfl⟩
theorem perm_take {γ : Type} {D R L : List γ} {i : Nat} {x : γ} (h : R[i]? = some x) (hp : (D ++ R).Perm L) : ((D ++ [x]) ++ R.eraseIdx i).Perm L := by
 refine List.Perm.trans ?_ hp
 rw [List.append_assoc]
 refine List.Perm.append_left D ?_
 have hlt := (List.getElem?_eq_some_iff.1 h).1
 have hx : R[i] = x := by rw [List.getElem?_eq_getElem hlt] at h; exact Option.some.inj h
 have : R = R.take i ++ x :: R.drop (i + 1) := by rw [<- hx]; simp
 have e : R.eraseIdx i = R.take i ++ R.drop (i + 1) := List.eraseIdx_eq_take_drop_succ ..
 rw [e]
 calc [x] ++ (R.take i ++ R.drop (i + 1)) = x :: (R.take i ++ R.drop (i + 1)) := rfl
  List.Perm _ (R.take i ++ x :: R.drop (i + 1)) := (List.perm_middle).symm
  List.Perm _ R := by rw [<- this]
theorem OW.nxtG {it : Operand} {b r j clk : Nat} {en : Array MapEntry} {seen : Array Nat} {l done rest : List (α × β)} (ht : (cV it).val T = some (.pointer (some ⟨r, 0, none⟩))) (hk : S[j]? = some [(r, AO.obj (.mapIter (some b) clk seen clk))])
  (hm : (b, AO.obj (.map en clk)) ∈ S.flatten) (ho : Opened f g en clk l) (hi : It f g en seen l done rest) :
  OW P w0 n (.more (.other (.gen (.next it false)))) T S (fun v S' => (rest = [] /\ v = .tuple #[.bool false] /\ S' = S) ∨
   ∃ (i : Nat) (p : α × β) (q : Nat), rest[i]? = some p /\ v = .tuple #[.bool true, f p.1, g p.2] /\ It f g en (seen.push q) l (done ++ [p]) (rest.eraseIdx i) /\ S' = S.set j [(r, .obj (.mapIter (some b) clk (seen.push q) clk))]) := by
 intro op ac w Q hco hs hr
 have hop : op.op = .next it false := cOp_spec P hco
 obtain ⟨hge, hw⟩ := hr.own _ hm
 obtain ⟨hge2, hw2⟩ := hr.own (r, AO.obj (.mapIter (some b) clk seen clk)) (mem_at hk)
 simp only [Owns] at hw hw2
 obtain ⟨hperm, D, R, hseen, hDR, hD, hR⟩ := hi
 have hbn : ((D ++ R).map (·.born)).Nodup := (hDR.map _).nodup_iff.2 ho.born
 have hleft : ∀ e, e ∈ (leftOf en seen).toList ↔ e ∈ R := by
  intro e
  unfold leftOf
  simp only [Array.toList_filter, List.mem_filter, Bool.not_eq_true', Array.contains_eq_mem, decide_eq_false_iff_not, <- Array.mem_toList_iff, hseen]
  constructor
  ·rintro ⟨h1, h2⟩
   rcases List.mem_append.1 (hDR.mem_iff.2 h1) with h | h
   ·exact absurd (List.mem_map.2 ⟨e, h, rfl⟩) h2
   exact h
  intro h
  refine ⟨hDR.mem_iff.1 (by simp [h]), fun h2 => ?_⟩
  obtain ⟨e', h3, h4⟩ := List.mem_map.1 h2
  rw [List.map_append, List.nodup_append] at hbn
  exact hbn.2.2 _ (List.mem_map.2 ⟨e', h3, rfl⟩) _ (List.mem_map.2 ⟨e, h, rfl⟩) h4
 have hnx := run_next_at (P := P) w op.type r b clk clk seen en clk hw2 hw ho.lt (Nat.le_refl _)
 unfold Oper.wp
 rcases hnx with ⟨h0, hrun⟩ | ⟨e, he, w1, hw1, hrun⟩
 ·have hrun2 : (execOp ac.eval op).run P w = .ok (.value (.tuple #[.bool false])) w := by
   simp [execOp, hop, hs.eval ht, hrun]
  rw [hrun2]
  refine ⟨_, _, rfl, hr, .inl ⟨?_, rfl, rfl⟩⟩
  have hR0 : R = [] := by
   cases hRR : R with
   | nil => rfl
   | cons x R' =>
    exfalso
    have := (hleft x).2 (by rw [hRR]; simp)
    have h2 : (leftOf en seen) = #[] := Array.eq_empty_of_size_eq_zero h0
    rw [h2] at this
    simp at this
  rw [hR0] at hR
  cases rest with
  | nil => rfl
  | cons x r' => simp [gmL] at hR
 have heR := (hleft e).1 he
 obtain ⟨i, hRi⟩ := List.getElem?_of_mem heR
 have h1 : (R.map (fun e => (e.key, e.val)))[i]? = some (e.key, e.val) := by simp [hRi]
 rw [hR] at h1
 unfold gmL at h1
 rw [List.getElem?_map, Option.map_eq_some_iff] at h1
 obtain ⟨p, hp, hkv⟩ := h1
 have hke : e.key = f p.1 := (congrArg Prod.fst hkv).symm
 have hve : e.val = g p.2 := (congrArg Prod.snd hkv).symm
 have hrun2 : (execOp ac.eval op).run P w = .ok (.value (.tuple #[.bool true, f p.1, g p.2])) (ChangeMaps.setBlock w1 r (.mapIter (some b) clk (seen.push e.born) clk)) := by
  simp [execOp, hop, hs.eval ht, hrun, hke, hve]
 rw [hrun2]
 have hr1 : Rep w0 S w1 := by
  rcases hw1 with rfl | rfl
  ·exact hr
  exact hr.same ⟨rfl, rfl, rfl, Nat.le_refl _, fun _ _ => rfl⟩ (fun _ _ => rfl)
 have hlr : r < w1.heap.size := hr1.lt (p := (r, AO.obj (.mapIter (some b) clk seen clk))) (mem_at hk)
 refine ⟨_, _, rfl, hr1.setAt (ob := .mapIter (some b) clk (seen.push e.born) clk) (o' := .obj (.mapIter (some b) clk (seen.push e.born) clk)) hk (by simp [Owns, hlr]), .inr ⟨i, p, e.born, hp, rfl, ?_, rfl⟩⟩
 refine ⟨perm_take hp hperm, D ++ [e], R.eraseIdx i, by simp [hseen], perm_take hRi hDR, ?_, ?_⟩
 ·rw [List.map_append, hD]; simp [gmL, hke, hve]
 rw [map_eraseIdx, hR]; unfold gmL; rw [map_eraseIdx]
theorem Yields.entG {it : Operand} {b r clk q : Nat} {en : Array MapEntry} {seen : Array Nat} {l done rest : List (α × β)} {p : α × β} (ht : (cV it).val T = some (.pointer (some ⟨r, 0, none⟩))) (hk : (r, AO.obj (.mapIter (some b) clk (seen.push q) clk)) ∈ S.flatten)
  (hm : (b, AO.obj (.map en clk)) ∈ S.flatten) (ho : Opened f g en clk l) (hi : It f g en (seen.push q) l (done ++ [p]) rest) :
  Yields P w0 n (.more (.other (.gen (.entry it)))) T S (.tuple #[f p.1, g p.2]) := by
 intro o ac w hco hs hr
 have hop : o.op = .entry it := cOp_spec P hco
 obtain ⟨hge, hw⟩ := hr.own _ hm
 obtain ⟨hge2, hw2⟩ := hr.own _ hk
 simp only [Owns] at hw hw2
 obtain ⟨hperm, D, R, hseen, hDR, hD, hR⟩ := hi
 have hDne : D ≠ [] := by rintro rfl; simp [gmL] at hD
 obtain ⟨D', e, rfl⟩ : ∃ D' e, D = D' ++ [e] := ⟨D.dropLast, D.getLast hDne, (List.dropLast_concat_getLast hDne).symm⟩
 have hDl := hD
 rw [gmL, List.map_append, List.map_append] at hDl
 have hlast := (List.append_inj' hDl rfl).2
 simp only [List.map_cons, List.map_nil, List.cons.injEq, Prod.mk.injEq, and_true] at hlast
 have hq : q = e.born := by
  have := hseen
  simp only [Array.toList_push, List.map_append, List.map_cons, List.map_nil] at this
  have h2 := (List.append_inj' this rfl).2
  simpa using h2
 subst hq
 have hem : e ∈ en.toList := hDR.mem_iff.1 (by simp)
 have := run_entry_at (P := P) w r b clk seen en clk e hw2 hw hem ho.born
 simp [execOp, hop, hs.eval ht, this, hlast.1, hlast.2]
theorem It.perm {en : Array MapEntry} {seen : Array Nat} {l done rest : List (α × β)} (h : It f g en seen l done rest) : (done ++ rest).Perm l := h.1
theorem Rep.tell {w : World} {k b : Nat} {o o' : AO} (h : Rep w0 S w) (hk : S[k]? = some [(b, o)]) (ho : ∀ w, Owns w b o -> Owns w b o') : Rep w0 (S.set k [(b, o')]) w := by
 obtain ⟨hge, how⟩ := h.own (b, o) (mem_at hk)
 refine h.replace hk (Below.refl _ _) (fun _ _ _ => rfl) (by simp) (by
  intro p hp
  simp only [List.mem_singleton] at hp
  subst hp
  exact ⟨hge, ho _ how, .inl (by simp)⟩)
theorem Opened.close {en : Array MapEntry} {clk : Nat} {l : List (α × β)} (h : Opened f g en clk l) (b : Nat) (w : World) (hw : Owns w b (.obj (.map en clk))) : Owns w b (.gm (gmL f g l)) := ⟨en, clk, hw, h.es, h.born, h.lt, h.keys⟩
theorem OL.tell {l : List PI} {k b : Nat} {o o' : AO} {K : TT -> SS -> Prop} (hk : S[k]? = some [(b, o)]) (ho : ∀ w, Owns w b o -> Owns w b o') (h : OL P w0 n l T (S.set k [(b, o')]) K) : OL P w0 n l T S K :=
 fun ops is a w Q hc hs hr hq => h ops is a w Q hc hs (hr.tell hk ho) hq
def entL (l : List (α × β)) (a : α) (z : β) : List (α × β) := mpt l a ((mgt l a).getD z)
theorem mpt_idem {l : List (α × β)} {a : α} {b : β} (h : mgt l a = some b) : mpt l a b = l := by
 induction l with
 | nil => simp [mgt_nil] at h
 | cons p l ih =>
  rw [mgt_cons] at h
  unfold mpt
  split
  ·rename_i e
   rw [if_pos e] at h
   rw [e, <- Option.some.inj h]
  rename_i e
  rw [if_neg e] at h
  rw [ih h]
theorem OW.entry {m k : Operand} {i : TypeInfo} {b j : Nat} {l : List (α × β)} {a : α} {z : β} (hu : P.underlying t = some (.map kt et)) (hi : P.info? et = some i) (hz : i.zero = some (g z)) (K : Keys P kt f ok) (hl : ∀ p ∈ l, ok p.1) (ha : ok a)
  (hm : (cV m).val T = some (.map (some b))) (hx : (cV k).val T = some (f a)) (hk : S[j]? = some [(b, AO.gm (gmL f g l))]) :
  OW P w0 n (.more (.other (.gen (.mapEntry t m k)))) T S (fun v S' => ∃ (en : Array MapEntry) (clk q : Nat) (e : MapEntry), v = .tuple #[g ((mgt l a).getD z), .int .i64 (q : Int)] /\ Opened f g en clk (entL l a z) /\ e ∈ en.toList /\ e.born = q /\ e.key = f a /\ S' = S.set j [(b, .obj (.map en clk))]) := by
 intro op ac w Q hco hs hr
 have ho : op.op = .mapEntry t m k := cOp_spec P hco
 obtain ⟨hge, en, clk, hw, he, hb, hlt, hn⟩ := hr.gmAt (mem_at hk)
 obtain ⟨lx, hlx⟩ := K.key a ha
 have hck := K.law.check w false hlx
 have hst := K.law.stays w hlx
 have hg : (getObj b).run P w = .ok (.map en clk) w := by simp [getObj, Sem.run, hw]
 have hlb : b < w.heap.size := (Array.getElem?_eq_some_iff.1 hw).1
 unfold Oper.wp
 rcases K.find hl he a ha w with ⟨h1, h2⟩ | ⟨i', e, b', h1, h2, h3, h4, h5⟩
 ·have hget : mgt l a = none := mgt_none.2 fun h => by
   unfold mks at h
   obtain ⟨p, hp, rfl⟩ := List.mem_map.1 h
   exact h2 p.2 hp
  have hrun : (execOp ac.eval op).run P w = .ok (.value (.tuple #[g z, .int .i64 (clk : Int)])) { w with heap := w.heap.setIfInBounds b (.map (en.push { key := f a, val := g z, born := clk }) (clk + 1)) } := by
   simp [execOp, ho, hs.eval hm, hs.eval hx, Instr.mapEntry, run_underlying hu, hg, hck, h1, run_setMap hw, zeroValue, typeInfo, program, Sem.run, hi, hz, goInt]
  rw [hrun]
  refine ⟨_, _, rfl, hr.setAt hk (o' := .obj (.map (en.push { key := f a, val := g z, born := clk }) (clk + 1))) (by simp [Owns, hlb]), _, clk + 1, clk, { key := f a, val := g z, born := clk }, by rw [hget]; rfl, ⟨?_, ?_, ?_, ?_⟩, by simp, rfl, rfl, rfl⟩
  ·unfold entL
   rw [hget, mpt_new h2]; simp [he, gmL]
  ·simp only [Array.toList_push, List.map_append, List.map_cons, List.map_nil]
   rw [List.nodup_append]
   refine ⟨hb, by simp, ?_⟩
   simp only [List.mem_map, List.mem_singleton]
   rintro x ⟨e, he', rfl⟩ y rfl hxy
   have := hlt e he'
   omega
  ·simp only [Array.toList_push, List.mem_append, List.mem_singleton]
   rintro e (h | rfl)
   ·have := hlt e h; omega
   exact Nat.lt_succ_self _
  simp only [Array.toList_push, List.map_append, List.map_cons, List.map_nil]
  rw [List.nodup_append]
  refine ⟨hn, by simp, ?_⟩
  simp only [List.mem_map, List.mem_singleton]
  rintro x ⟨e, he', rfl⟩ y rfl hxy
  obtain ⟨i, hi⟩ := List.getElem?_of_mem he'
  obtain ⟨a', b', q1, q2, q3⟩ := gmL_get he hi
  obtain rfl := K.inj a' a (by rw [<- q2, hxy])
  exact h2 b' (List.mem_of_getElem? q1)
 have hget : mgt l a = some b' := (mgt_mem (gmL_nodup he hn)).2 (List.mem_of_getElem? h5)
 have h2' : en[i']? = some e := by simpa using h2
 have hsame : en.modify i' (fun e => { e with key := f a }) = en := by
  apply Array.ext'
  apply List.ext_getElem?
  intro x
  rw [Array.getElem?_toList, Array.getElem?_toList, Array.getElem?_modify]
  split
  ·rename_i hx; subst hx
   rw [h2']
   simp only [Option.map_some]
   rw [<- h3]
  rfl
 have hrun : (execOp ac.eval op).run P w = .ok (.value (.tuple #[e.val, .int .i64 (e.born : Int)])) { w with heap := w.heap.setIfInBounds b (.map en clk) } := by
  simp [execOp, ho, hs.eval hm, hs.eval hx, Instr.mapEntry, run_underlying hu, hg, hck, h1, h2', h3, hst, hsame, run_setMap hw, goInt]
 rw [hrun]
 refine ⟨_, _, rfl, hr.setAt hk (o' := .obj (.map en clk)) (by simp [Owns, hlb]), en, clk, e.born, e, by rw [hget, h4]; rfl, ?_, List.mem_of_getElem? h2, rfl, h3, rfl⟩
 unfold entL
 rw [hget, Option.getD_some, mpt_idem hget]
 exact ⟨he, hb, hlt, hn⟩
theorem OW.store {m k x : Operand} {b j q clk : Nat} {en : Array MapEntry} {e : MapEntry} {l : List (α × β)} {a : α} {v : β} (hinj : ∀ a b, f a = f b -> a = b) (hm : (cV m).val T = some (.map (some b))) (hx : (cV k).val T = some (.int .i64 (q : Int))) (hv : (cV x).val T = some (g v))
  (ho : Opened f g en clk l) (hee : e ∈ en.toList) (heb : e.born = q) (hek : e.key = f a) (hk : S[j]? = some [(b, AO.obj (.map en clk))]) :
  OW P w0 n (.more (.other (.gen (.entryStore t m k x)))) T S (fun _ S' => S' = S.set j [(b, .gm (gmL f g (mpt l a v)))]) := by
 intro op ac w Q hco hs hr
 have hop : op.op = .entryStore t m k x := cOp_spec P hco
 obtain ⟨hge, hw⟩ := hr.own _ (mem_at hk)
 simp only [Owns] at hw
 have hg : (getObj b).run P w = .ok (.map en clk) w := by simp [getObj, Sem.run, hw]
 have hlb : b < w.heap.size := (Array.getElem?_eq_some_iff.1 hw).1
 obtain ⟨i, hi⟩ := List.getElem?_of_mem hee
 have hil := (List.getElem?_eq_some_iff.1 hi).1
 obtain ⟨a', b', q1, q2, q3⟩ := gmL_get ho.es hi
 obtain rfl := hinj a' a (by rw [<- q2, hek])
 have hfi : en.findIdx? (fun e => (e.born : Int) == (q : Int)) = some i := by
  rw [Array.findIdx?_eq_some_iff_getElem]
  obtain ⟨h1, h2⟩ := List.getElem?_eq_some_iff.1 hi
  have h2' : en[i]'(by simpa using h1) = e := by simpa using h2
  refine ⟨by simpa using h1, by rw [h2', heb]; simp, fun x hx => ?_⟩
  have hxl : x < en.toList.length := by omega
  have hne : (en.toList.map (·.born))[x]'(by simpa using hxl) ≠ (en.toList.map (·.born))[i]'(by simpa using h1) := fun e => by
   have := (List.getElem_inj ho.born).1 e
   omega
  have hxe : en[x] = en.toList[x] := by simp
  simp only [List.getElem_map, h2, heb] at hne
  simp only [beq_iff_eq, Bool.not_eq_true, beq_eq_false_iff_ne, ne_eq]
  rw [hxe]
  omega
 have hmod : (en.modify i fun e => { e with val := g v }).toList = en.toList.set i { e with val := g v } := by
  apply List.ext_getElem?
  intro x
  by_cases hx : i = x
  ·subst hx
   have hlj' : i < en.size := by simpa using hil
   have h2' : en[i] = e := by have := hi; simp [hlj'] at this; exact this
   simp [Array.getElem?_modify, List.getElem?_set_self hil, hlj', h2']
  simp [Array.getElem?_modify, hx, List.getElem?_set_ne hx]
 unfold Oper.wp
 have hrun : (execOp ac.eval op).run P w = .ok .skip { w with heap := w.heap.setIfInBounds b (.map (en.modify i fun e => { e with val := g v }) clk) } := by
  simp [execOp, hop, hs.eval hm, hs.eval hx, hs.eval hv, Instr.entryStore, hg, asInt, asIntOf, hfi, run_setMap hw]
 rw [hrun]
 refine ⟨undef, _, rfl, ?_, rfl⟩
 refine hr.setAt hk ⟨_, clk, by simp [hlb]; rfl, ?_, ?_, ?_, ?_⟩
 ·rw [hmod, mpt_set (gmL_nodup ho.es ho.keys) q1, List.map_set, ho.es]
  unfold gmL
  rw [List.map_set, <- q2]
 ·rw [hmod, borns_set hi _ (by rfl)]; exact ho.born
 ·rw [hmod]
  intro x hx
  rcases List.mem_or_eq_of_mem_set hx with h | rfl
  ·exact ho.lt x h
  exact ho.lt e hee
 rw [hmod, keys_set hi _ (by rfl)]; exact ho.keys
theorem Yields.lookO {m k : Operand} {okc : Bool} {i : TypeInfo} {b clk : Nat} {en : Array MapEntry} {l : List (α × β)} {a : α} {z : β} (hu : P.underlying t = some (.map kt et)) (hi : P.info? et = some i) (hz : i.zero = some (g z)) (K : Keys P kt f ok) (hl : ∀ p ∈ l, ok p.1) (ha : ok a)
  (hm : (cV m).val T = some (.map (some b))) (hx : (cV k).val T = some (f a)) (ho : Opened f g en clk l) (hk : (b, AO.obj (.map en clk)) ∈ S.flatten) :
  Yields P w0 n (.more (.other (.gen (.lookup t m k okc)))) T S (if okc then .tuple #[g ((mgt l a).getD z), .bool (mgt l a).isSome] else g ((mgt l a).getD z)) := by
 intro o ac w hco hs hr
 have hop : o.op = .lookup t m k okc := cOp_spec P hco
 obtain ⟨hge, hw⟩ := hr.own _ hk
 simp only [Owns] at hw
 obtain ⟨lx, hlx⟩ := K.key a ha
 have hck := fun bb => K.law.check w bb hlx
 have hg : (getObj b).run P w = .ok (.map en clk) w := by simp [getObj, Sem.run, hw]
 simp only [execOp, hop, hs.eval hm, hs.eval hx, Instr.lookup]
 simp only [Sem.run_bind, run_underlying hu, Result.andThen_ok, hg, Sem.run_pure, hck]
 rcases K.find hl ho.es a ha w with ⟨h1, h2⟩ | ⟨j, e, b', h1, h2, h3, h4, h5⟩
 ·have hget : mgt l a = none := mgt_none.2 fun h => by
   unfold mks at h
   obtain ⟨p, hp, rfl⟩ := List.mem_map.1 h
   exact h2 p.2 hp
  simp only [h1, Result.andThen_ok, hget]
  cases okc <;> simp [zeroValue, typeInfo, program, hi, hz, Sem.run]
 have hget : mgt l a = some b' := (mgt_mem (gmL_nodup ho.es ho.keys)).2 (List.mem_of_getElem? h5)
 simp only [h1, Result.andThen_ok, hget, h4]
 cases okc <;> simp
theorem Yields.tas {x : Operand} {u : TypeId} {d : TypeDesc} {ok : Bool} {v : Value} (hx : (cV x).val T = some (.iface t v)) (hu : P.underlying t = some d) (hd : ∀ ms, d ≠ .interface ms) :
  Yields P w0 n (.more (.other (.gen (.typeAssert x u t ok)))) T S (if ok then .tuple #[v, .bool true] else v) := by
 intro o ac w hco hs hr
 have hop : o.op = .typeAssert x u t ok := cOp_spec P hco
 have : (Instr.typeAssert (.iface t v) u t ok).run P w = .ok (if ok then .tuple #[v, .bool true] else v) w := by
  unfold Instr.typeAssert
  simp only [Sem.run_bind, run_underlying hu, Result.andThen_ok]
  cases d <;> (first | (cases ok <;> simp; done) | exact absurd rfl (hd _))
 simp [execOp, hop, hs.eval hx, this]
theorem OW.inv {recv : Operand} {name : String} {args : Array Operand} {ts : Array TypeId} {k : FuncId} {v rv : Value} {vs : List Value} {post : Value -> SS -> Prop} (hx : (cV recv).val T = some (.iface t v)) (hv : valsP T (args.toList.map cV) = some vs)
  (hm : ∀ w, Rep w0 S w -> (method (P.types.size + Made.depth) t v name).run P w = .ok (k, rv) w) (hok : fnOk P k = true) (h : FC P w0 k (rv :: vs) S post) :
  OW P w0 n (.more (.other (.gen (.call { callee := .invoke recv name, args := args, argTypes := ts })))) T S post := by
 intro op ac w Q hco hs hr
 have hop : op.op = .call { callee := .invoke recv name, args := args, argTypes := ts } := cOp_spec P hco
 have hargs : args.map ac.eval = vs.toArray := by
  have := valsP_spec hs hv
  rw [<- this, <- Array.toArray_toList (xs := args.map ac.eval), Array.toList_map]
 have hrun : (execOp ac.eval op).run P w = .ok (.enter k (rv :: vs).toArray) w := by
  unfold fnOk at hok
  split at hok
  ·rename_i fn hfn
   simp only [Bool.and_eq_true, bne_iff_ne, ne_eq] at hok
   have hb : ¬ fn.body = none := by intro hh; simp [hh] at hok
   have hex : (#[(Value.iface t v)] ++ vs.toArray).extract 1 (#[(Value.iface t v)] ++ vs.toArray).size = vs.toArray := by
    apply Array.toList_inj.1
    simp
   simp only [execOp, hop, resolve, hs.eval hx, hargs]
   simp only [Sem.run_bind, Sem.run_pure, Result.andThen_ok, invoke]
   have h0 : (#[(Value.iface t v)] ++ vs.toArray)[0]? = some (.iface t v) := by simp
   simp only [h0, hex, callMethod, Sem.run_bind, program, Sem.run, Result.andThen_ok, hm w hr]
   simp [callFunc, program, Sem.run, hfn, hok.1, hb]
  simp at hok
 unfold Oper.wp
 rw [hrun]
 refine (h w hr).mono ?_
 rintro e w' ⟨v, S', rfl, hr', hp⟩
 exact ⟨v, S', rfl, hr', hp⟩
end
end Go.SL

namespace Go.HP
variable {α : Type} [Inhabited α]
def swapL (l : List α) (i j : Nat) : List α := (l.set i l[j]!).set j l[i]!
theorem swapL_len (l : List α) (i j : Nat) : (swapL l i j).length = l.length := by simp [swapL]
theorem swapL_get {l : List α} {i j : Nat} (hi : i < l.length) (hj : j < l.length) (k : Nat) : (swapL l i j)[k]! = if k = j then l[i]! else if k = i then l[j]! else l[k]! := by
 unfold swapL
 simp only [List.getElem!_eq_getElem?_getD]
 by_cases h1 : k = j
 ·subst h1
  rw [if_pos rfl, List.getElem?_set_self (by simpa using hj)]
  rfl
 rw [if_neg h1, List.getElem?_set_ne (fun e => h1 e.symm)]
 by_cases h2 : k = i
 ·subst h2
  rw [if_pos rfl, List.getElem?_set_self hi]
  rfl
 rw [if_neg h2, List.getElem?_set_ne (fun e => h2 e.symm)]
theorem swapL_perm {l : List α} {i j : Nat} (hi : i < l.length) (hj : j < l.length) : (swapL l i j).Perm l := by
 unfold swapL
 rw [getElem!_pos l i hi, getElem!_pos l j hj]
 exact List.set_set_perm hi hj
variable (lt : α -> α -> Bool)
def upL : Nat -> List α -> Nat -> List α
 | 0, l, _ => l
 | f + 1, l, j => if j = 0 then l else if lt l[j]! l[(j - 1) / 2]! then upL f (swapL l ((j - 1) / 2) j) ((j - 1) / 2) else l
def downJ (l : List α) (i n : Nat) : Nat := if 2 * i + 2 < n /\ lt l[2 * i + 2]! l[2 * i + 1]! = true then 2 * i + 2 else 2 * i + 1
def downL : Nat -> List α -> Nat -> Nat -> List α
 | 0, l, _, _ => l
 | f + 1, l, i, n => if n <= 2 * i + 1 then l else if lt l[downJ lt l i n]! l[i]! then downL f (swapL l i (downJ lt l i n)) (downJ lt l i n) n else l
structure Ord : Prop where
 asymm : ∀ a b, lt a b = true -> lt b a = false
 trans : ∀ a b c, lt b a = false -> lt c b = false -> lt c a = false
variable {lt}
def Hp (lt : α -> α -> Bool) (l : List α) (n : Nat) : Prop := ∀ k, 0 < k -> k < n -> lt l[k]! l[(k - 1) / 2]! = false
theorem upL_spec (O : Ord lt) : ∀ (f : Nat) (l : List α) (j : Nat), j <= f -> j < l.length -> (∀ k, 0 < k -> k < l.length -> k ≠ j -> lt l[k]! l[(k - 1) / 2]! = false) ->
  (∀ k, 0 < k -> k < l.length -> 0 < j -> (k - 1) / 2 = j -> lt l[k]! l[(j - 1) / 2]! = false) -> Hp lt (upL lt f l j) l.length /\ (upL lt f l j).Perm l
 | 0, l, j, hf, hj, h1, h2 => by
  refine ⟨fun k h0 hk => ?_, List.Perm.refl _⟩
  exact h1 k h0 hk (by omega)
 | f + 1, l, j, hf, hj, h1, h2 => by
  unfold upL
  by_cases hj0 : j = 0
  ·rw [if_pos hj0]
   exact ⟨fun k h0 hk => h1 k h0 hk (by omega), List.Perm.refl _⟩
  rw [if_neg hj0]
  by_cases hl : lt l[j]! l[(j - 1) / 2]! = true
  ·rw [if_pos hl]
   have hi : (j - 1) / 2 < j := by omega
   generalize hp : (j - 1) / 2 = i at hi hl ⊢
   have hil : i < l.length := by omega
   have hg := swapL_get hil hj
   have key := upL_spec O f (swapL l i j) i (by omega) (by rw [swapL_len]; exact hil) ?_ ?_
   ·rw [swapL_len] at key
    exact ⟨key.1, key.2.trans (swapL_perm hil hj)⟩
   ·intro k h0 hk hki
    rw [swapL_len] at hk
    rw [hg, hg]
    by_cases hkj : k = j
    ·subst hkj
     rw [if_pos rfl, hp, if_neg (by omega), if_pos rfl]
     exact O.asymm _ _ hl
    rw [if_neg hkj, if_neg hki]
    by_cases hpj : (k - 1) / 2 = j
    ·rw [if_pos hpj]
     have := h2 k h0 hk (by omega) hpj
     rwa [hp] at this
    rw [if_neg hpj]
    by_cases hpi : (k - 1) / 2 = i
    ·rw [if_pos hpi]
     have := h1 k h0 hk hkj
     rw [hpi] at this
     exact O.trans _ _ _ (O.asymm _ _ hl) this
    rw [if_neg hpi]
    exact h1 k h0 hk hkj
   intro k h0 hk hi0 hki
   rw [swapL_len] at hk
   rw [hg, hg]
   have hii : (i - 1) / 2 ≠ j := by omega
   have hii2 : (i - 1) / 2 ≠ i := by omega
   rw [if_neg hii, if_neg hii2]
   by_cases hkj : k = j
   ·subst hkj
    rw [if_pos rfl]
    exact h1 i hi0 hil (by omega)
   rw [if_neg hkj, if_neg (by omega)]
   have a := h1 k h0 hk hkj
   rw [hki] at a
   exact O.trans _ _ _ (h1 i hi0 hil (by omega)) a
  rw [if_neg hl]
  refine ⟨fun k h0 hk => ?_, List.Perm.refl _⟩
  by_cases hkj : k = j
  ·subst hkj; simpa using hl
  exact h1 k h0 hk hkj
theorem downL_spec (O : Ord lt) : ∀ (f : Nat) (l : List α) (i n : Nat), n <= f + i -> i < n -> n <= l.length -> (∀ k, 0 < k -> k < n -> (k - 1) / 2 ≠ i -> lt l[k]! l[(k - 1) / 2]! = false) ->
  (∀ k, 0 < k -> k < n -> 0 < i -> (k - 1) / 2 = i -> lt l[k]! l[(i - 1) / 2]! = false) -> Hp lt (downL lt f l i n) n /\ (downL lt f l i n).Perm l /\ ∀ k, n <= k -> (downL lt f l i n)[k]! = l[k]!
 | 0, l, i, n, hf, hi, hn, h1, h2 => by omega
 | f + 1, l, i, n, hf, hi, hn, h1, h2 => by
  unfold downL
  by_cases hc : n <= 2 * i + 1
  ·rw [if_pos hc]
   exact ⟨fun k h0 hk => h1 k h0 hk (by omega), List.Perm.refl _, fun _ _ => rfl⟩
  rw [if_neg hc]
  have hj : downJ lt l i n < n /\ (downJ lt l i n - 1) / 2 = i /\ 0 < downJ lt l i n /\ i < downJ lt l i n /\ ∀ k, 0 < k -> k < n -> (k - 1) / 2 = i -> lt l[k]! l[downJ lt l i n]! = false := by
   unfold downJ
   split
   ·rename_i h
    refine ⟨h.1, by omega, by omega, by omega, fun k h0 hk hp => ?_⟩
    have : k = 2 * i + 1 ∨ k = 2 * i + 2 := by omega
    rcases this with rfl | rfl
    ·exact O.asymm _ _ h.2
    cases hx : lt l[2 * i + 2]! l[2 * i + 2]! with
    | false => rfl
    | true => have := O.asymm _ _ hx; rw [hx] at this; cases this
   rename_i h
   refine ⟨by omega, by omega, by omega, by omega, fun k h0 hk hp => ?_⟩
   have : k = 2 * i + 1 ∨ k = 2 * i + 2 := by omega
   rcases this with rfl | rfl
   ·cases hx : lt l[2 * i + 1]! l[2 * i + 1]! with
    | false => rfl
    | true => have := O.asymm _ _ hx; rw [hx] at this; cases this
   cases hx : lt l[2 * i + 2]! l[2 * i + 1]! with
   | false => rfl
   | true => exact absurd ⟨hk, hx⟩ h
  generalize downJ lt l i n = j at hj ⊢
  obtain ⟨hjn, hjp, hj0, hij, hjm⟩ := hj
  by_cases hl : lt l[j]! l[i]! = true
  ·rw [if_pos hl]
   have hil : i < l.length := by omega
   have hjl : j < l.length := by omega
   have hg := swapL_get hil hjl
   have key := downL_spec O f (swapL l i j) j n (by omega) hjn (by rw [swapL_len]; exact hn) ?_ ?_
   ·refine ⟨key.1, key.2.1.trans (swapL_perm hil hjl), fun k hk => ?_⟩
    rw [key.2.2 k hk, hg, if_neg (by omega), if_neg (by omega)]
   ·intro k h0 hk hkj
    rw [hg, hg, if_neg hkj]
    by_cases hk1 : k = j
    ·subst hk1
     rw [if_pos rfl, hjp, if_pos rfl]
     exact O.asymm _ _ hl
    rw [if_neg hk1]
    by_cases hpi : (k - 1) / 2 = i
    ·rw [if_pos hpi, if_neg (by omega)]
     exact hjm k h0 hk hpi
    rw [if_neg hpi]
    by_cases hki : k = i
    ·subst hki
     rw [if_pos rfl]
     exact h2 j hj0 hjn h0 hjp
    rw [if_neg hki]
    exact h1 k h0 hk hpi
   intro k h0 hk _ hkj
   rw [hg, hg, hjp]
   rw [if_neg (by omega), if_neg (by omega), if_neg (by omega), if_pos rfl]
   have a := h1 k h0 hk (by omega)
   rw [hkj] at a
   exact a
  rw [if_neg hl]
  refine ⟨fun k h0 hk => ?_, List.Perm.refl _, fun _ _ => rfl⟩
  by_cases hpi : (k - 1) / 2 = i
  ·have hl' : lt l[j]! l[i]! = false := by simpa using hl
   rw [hpi]
   exact O.trans _ _ _ hl' (hjm k h0 hk hpi)
  exact h1 k h0 hk hpi
def pushL (lt : α -> α -> Bool) (l : List α) (x : α) : List α := upL lt l.length (l ++ [x]) l.length
theorem get_app {l : List α} {x : α} {k : Nat} (h : k < l.length) : (l ++ [x])[k]! = l[k]! := by
 rw [getElem!_pos _ k (by simp; omega), getElem!_pos l k h, List.getElem_append_left h]
theorem pushL_spec (O : Ord lt) {l : List α} (h : Hp lt l l.length) (x : α) : Hp lt (pushL lt l x) (pushL lt l x).length /\ (pushL lt l x).Perm (x :: l) := by
 have := upL_spec O l.length (l ++ [x]) l.length (Nat.le_refl _) (by simp) (fun k h0 hk hne => ?_) (fun k h0 hk h1 hp => ?_)
 ·unfold pushL
  refine ⟨?_, this.2.trans (List.perm_append_singleton x l)⟩
  rw [this.2.length_eq]
  exact this.1
 ·simp only [List.length_append, List.length_singleton] at hk
  rw [get_app (by omega), get_app (by omega)]
  exact h k h0 (by omega)
 simp only [List.length_append, List.length_singleton] at hk
 omega
def popL (lt : α -> α -> Bool) (l : List α) : List α := (downL lt l.length (swapL l 0 (l.length - 1)) 0 (l.length - 1)).take (l.length - 1)
theorem heap_min (O : Ord lt) {l : List α} {n : Nat} (h : Hp lt l n) : ∀ k, k < n -> lt l[k]! l[0]! = false
 | 0, hk => by
  cases hx : lt l[0]! l[0]! with
  | false => rfl
  | true => have := O.asymm _ _ hx; rw [hx] at this; cases this
 | k + 1, hk => O.trans _ _ _ (heap_min O h ((k + 1 - 1) / 2) (by omega)) (h (k + 1) (by omega) hk)
theorem popL_spec (O : Ord lt) {l : List α} (h : Hp lt l l.length) (h0 : 0 < l.length) :
  Hp lt (popL lt l) (popL lt l).length /\ (l[0]! :: popL lt l).Perm l /\ (downL lt l.length (swapL l 0 (l.length - 1)) 0 (l.length - 1))[l.length - 1]! = l[0]! /\ (popL lt l).length = l.length - 1 /\ ∀ x ∈ popL lt l, lt x l[0]! = false := by
 by_cases h1 : l.length = 1
 ·match l, h1 with
  | [a], _ =>
   have e : downL lt 1 (swapL [a] 0 0) 0 0 = [a] := by simp [downL, swapL]
   refine ⟨?_, ?_, ?_, ?_, ?_⟩
   ·intro k hk hk2; simp [popL] at hk2
   ·simp [popL]
   ·simp [downL, swapL]
   ·simp [popL]
   simp [popL]
 have hl : l.length - 1 < l.length := by omega
 have hg := swapL_get h0 hl
 have key := downL_spec O l.length (swapL l 0 (l.length - 1)) 0 (l.length - 1) (by omega) (by omega) (by rw [swapL_len]; omega) ?_ ?_
 ·obtain ⟨k1, k2, k3⟩ := key
  have hlast : (downL lt l.length (swapL l 0 (l.length - 1)) 0 (l.length - 1))[l.length - 1]! = l[0]! := by
   rw [k3 _ (Nat.le_refl _), hg, if_pos rfl]
  unfold popL
  generalize downL lt l.length (swapL l 0 (l.length - 1)) 0 (l.length - 1) = d at k1 k2 k3 hlast
  have hd : d.length = l.length := by rw [k2.length_eq, swapL_len]
  have hp2 : d.Perm l := k2.trans (swapL_perm h0 hl)
  have hsplit : d = d.take (l.length - 1) ++ [l[0]!] := by
   have : d = d.take (l.length - 1) ++ d.drop (l.length - 1) := (List.take_append_drop _ _).symm
   rw [getElem!_pos d _ (by omega)] at hlast
   rw [List.drop_eq_getElem_cons (by omega), hlast, List.drop_of_length_le (by omega)] at this
   exact this
  have hperm : (l[0]! :: d.take (l.length - 1)).Perm l := by
   refine List.Perm.trans ?_ hp2
   conv => rhs; rw [hsplit]
   exact (List.perm_append_singleton _ _).symm
  refine ⟨?_, hperm, hlast, by simp; omega, fun x hx => ?_⟩
  ·intro k hk hk2
   simp only [List.length_take] at hk2
   have a1 : (d.take (l.length - 1))[k]! = d[k]! := by
    rw [getElem!_pos _ k (by simp; omega), getElem!_pos d k (by omega), List.getElem_take]
   have a2 : (d.take (l.length - 1))[(k - 1) / 2]! = d[(k - 1) / 2]! := by
    rw [getElem!_pos _ _ (by simp; omega), getElem!_pos d _ (by omega), List.getElem_take]
   rw [a1, a2]
   exact k1 k hk (by omega)
  have hx2 : x ∈ l := hperm.mem_iff.1 (List.mem_cons_of_mem _ hx)
  obtain ⟨k, hk, rfl⟩ := List.mem_iff_getElem.1 hx2
  have := heap_min O h k hk
  rwa [getElem!_pos l k hk] at this
 ·intro k hk0 hk hp
  rw [hg, hg, if_neg (by omega), if_neg (by omega), if_neg (by omega), if_neg hp]
  exact h k hk0 (by omega)
 intro k hk0 hk hi0 hp
 omega
end Go.HP

namespace Go.GP
section
variable {V : Type} [DecidableEq V]
def Free (E : List (V × V)) (left : List V) (v : V) : Prop := ∀ e ∈ E, e.2 = v -> e.1 ∉ left
inductive Topo (lt : V -> V -> Bool) (E : List (V × V)) : List V -> List V -> Prop
 | nil {left : List V} (h : ∀ v ∈ left, ¬ Free E left v) : Topo lt E left []
 | cons {left : List V} {v : V} {L : List V} (h1 : v ∈ left) (h2 : Free E left v) (h3 : ∀ u ∈ left, Free E left u -> lt u v = false) (h4 : Topo lt E (left.erase v) L) : Topo lt E left (v :: L)
variable {lt : V -> V -> Bool}
theorem Free.congr {E E' : List (V × V)} {left left' : List V} {v : V} (hE : ∀ e, e ∈ E ↔ e ∈ E') (hl : ∀ u, u ∈ left ↔ u ∈ left') (h : Free E left v) : Free E' left' v :=
 fun e he hv hm => h e ((hE e).2 he) hv ((hl _).2 hm)
theorem Topo.unique (tot : ∀ a b, lt a b = false -> lt b a = false -> a = b) {E : List (V × V)} {left L : List V} (h : Topo lt E left L) : ∀ {E' : List (V × V)} {left' L' : List V}, (∀ e, e ∈ E ↔ e ∈ E') -> left.Perm left' -> Topo lt E' left' L' -> L = L' := by
 induction h with
 | nil h =>
  intro E' left' L' hE hp h'
  cases h' with
  | nil _ => rfl
  | cons h1 h2 h3 h4 => exact absurd (h2.congr (fun e => (hE e).symm) (fun u => hp.symm.mem_iff)) (h _ (hp.mem_iff.2 h1))
 | cons h1 h2 h3 h4 ih =>
  intro E' left' L' hE hp h'
  cases h' with
  | nil h => exact absurd (h2.congr hE (fun u => hp.mem_iff)) (h _ (hp.mem_iff.1 h1))
  | cons g1 g2 g3 g4 =>
   have e := tot _ _ (g3 _ (hp.mem_iff.1 h1) (h2.congr hE (fun u => hp.mem_iff))) (h3 _ (hp.mem_iff.2 g1) (g2.congr (fun e => (hE e).symm) (fun u => hp.symm.mem_iff)))
   subst e
   rw [ih hE (hp.erase _) g4]
theorem Topo.perm {E : List (V × V)} {left L : List V} (h : Topo lt E left L) (r : V -> Nat) (hr : ∀ e ∈ E, e.1 ∈ left -> e.2 ∈ left -> r e.1 < r e.2) : L.Perm left := by
 induction h with
 | @nil left h =>
  cases left with
  | nil => exact List.Perm.refl _
  | cons x l =>
   exfalso
   have key : ∀ n (v : V), r v <= n -> v ∈ x :: l -> False := by
    intro n
    induction n with
    | zero =>
     intro v hv hm
     exact h v hm fun e he hev hmem => by have := hr e he hmem (by rw [hev]; exact hm); rw [hev] at this; omega
    | succ n ih =>
     intro v hv hm
     refine h v hm fun e he hev hmem => ?_
     have := hr e he hmem (by rw [hev]; exact hm)
     rw [hev] at this
     exact ih e.1 (by omega) hmem
   exact key _ x (Nat.le_refl _) (by simp)
 | cons h1 h2 h3 h4 ih =>
  refine List.Perm.trans (List.Perm.cons _ (ih fun e he ha hb => hr e he (List.mem_of_mem_erase ha) (List.mem_of_mem_erase hb))) ?_
  exact (List.perm_cons_erase h1).symm
theorem Topo.sub {E : List (V × V)} {left L : List V} (h : Topo lt E left L) : ∀ v ∈ L, v ∈ left := by
 induction h with
 | nil h => intro v hv; cases hv
 | cons h1 h2 h3 h4 ih =>
  intro u hu
  rcases List.mem_cons.1 hu with rfl | hu
  ·exact h1
  exact List.mem_of_mem_erase (ih u hu)
theorem Topo.order {E : List (V × V)} {left L : List V} (h : Topo lt E left L) (hn : left.Nodup) : L.Pairwise (fun x y => (y, x) ∉ E) /\ L.Nodup := by
 induction h with
 | nil h => exact ⟨List.Pairwise.nil, List.nodup_nil⟩
 | @cons left v L h1 h2 h3 h4 ih =>
  obtain ⟨i1, i2⟩ := ih (hn.erase v)
  refine ⟨List.pairwise_cons.2 ⟨fun y hy he => h2 _ he rfl (List.mem_of_mem_erase (h4.sub y hy)), i1⟩, List.nodup_cons.2 ⟨fun hm => ?_, i2⟩⟩
  have := h4.sub v hm
  rw [hn.mem_erase_iff] at this
  exact this.1 rfl
inductive Rch (E : List (V × V)) : V -> V -> Prop
 | one {a b : V} (h : (a, b) ∈ E) : Rch E a b
 | cons {a c b : V} (h : (a, c) ∈ E) (t : Rch E c b) : Rch E a b
theorem Rch.mono {E E' : List (V × V)} {a b : V} (h : Rch E a b) (hE : ∀ e ∈ E, e ∈ E') : Rch E' a b := by
 induction h with
 | one h => exact .one (hE _ h)
 | cons h t ih => exact .cons (hE _ h) ih
theorem Rch.trans {E : List (V × V)} {a b c : V} (h : Rch E a b) (k : Rch E b c) : Rch E a c := by
 induction h with
 | one h => exact .cons h k
 | cons h t ih => exact .cons h (ih k)
theorem Rch.snoc {E : List (V × V)} {a b c : V} (h : Rch E a b) (k : (b, c) ∈ E) : Rch E a c := h.trans (.one k)
theorem Rch.rank {E : List (V × V)} {a b : V} (h : Rch E a b) (r : V -> Nat) (hr : ∀ e ∈ E, r e.1 < r e.2) : r a < r b := by
 induction h with
 | one h => exact hr _ h
 | cons h t ih => exact Nat.lt_trans (hr _ h) ih
theorem Rch.src {E : List (V × V)} {a b : V} (h : Rch E a b) : ∃ c, (a, c) ∈ E := by
 cases h with
 | one h => exact ⟨_, h⟩
 | cons h t => exact ⟨_, h⟩
theorem Rch.tgt {E : List (V × V)} {a b : V} (h : Rch E a b) : ∃ c, (c, b) ∈ E := by
 induction h with
 | one h => exact ⟨_, h⟩
 | cons h t ih => exact ih
end
end Go.GP

namespace Go.GP
abbrev HashB := { l : List UInt8 // l.length = 32 }
abbrev Vtx := HashB × Int
def h0 : HashB := ⟨List.replicate 32 0, by simp⟩
instance : Inhabited HashB := ⟨h0⟩
def rootV : Vtx := (h0, -1)
def endV : Vtx := (h0, -2)
theorem root_ne_end : rootV ≠ endV := by decide
structure PartP where
 patch : HashB
 at_ : Int
 first : Int
 up : Vtx
 down : Vtx
 lines : List ByteArray
 gone : List Vtx
def PartP.vtx (p : PartP) (i : Nat) : Vtx := (p.patch, p.first + (i : Int))
def PartP.name (p : PartP) : HashB × Int := (p.patch, p.at_)
def own (p : PartP) : List Vtx := (List.range p.lines.length).map p.vtx
def edgeL {V : Type} : List V -> List (V × V)
 | a :: b :: r => (a, b) :: edgeL (b :: r)
 | _ => []
def way (p : PartP) : List Vtx := p.up :: (own p ++ [p.down])
def edges (p : PartP) : List (Vtx × Vtx) := if p.lines.length = 0 then [] else edgeL (way p)
def names (p : PartP) : List Vtx := p.up :: p.down :: p.gone
def allV (ps : List PartP) : List Vtx := ps.flatMap own
def allE (ps : List PartP) : List (Vtx × Vtx) := ps.flatMap edges
def HasV (ps : List PartP) (v : Vtx) : Prop := v = rootV ∨ v = endV ∨ v ∈ allV ps
def Bef (ps : List PartP) (a b : Vtx) : Prop := HasV ps a /\ HasV ps b /\ a ≠ b /\ a ≠ endV /\ b ≠ rootV /\ (a = rootV ∨ b = endV ∨ Rch (allE ps) a b)
theorem mem_own {p : PartP} {v : Vtx} : v ∈ own p ↔ ∃ i, i < p.lines.length /\ p.vtx i = v := by
 unfold own; simp [List.mem_map]
theorem vtx_inj {p : PartP} {i j : Nat} (h : p.vtx i = p.vtx j) : i = j := by
 have := congrArg Prod.snd h
 simp only [PartP.vtx] at this
 omega
theorem own_nodup (p : PartP) : (own p).Nodup := by
 unfold own List.Nodup
 rw [List.pairwise_map]
 exact List.Pairwise.imp (fun h e => h (vtx_inj e)) List.nodup_range
theorem own_len (p : PartP) : (own p).length = p.lines.length := by simp [own]
theorem edgeL_mem {V : Type} {l : List V} {e : V × V} : e ∈ edgeL l ↔ ∃ i, l[i]? = some e.1 /\ l[i + 1]? = some e.2 := by
 induction l with
 | nil => simp [edgeL]
 | cons a l ih =>
  cases l with
  | nil => simp [edgeL]
  | cons b r =>
   simp only [edgeL, List.mem_cons, ih]
   constructor
   ·rintro (rfl | ⟨i, h1, h2⟩)
    ·exact ⟨0, rfl, rfl⟩
    exact ⟨i + 1, by simpa using h1, by simpa using h2⟩
   rintro ⟨i, h1, h2⟩
   cases i with
   | zero =>
    simp at h1 h2
    left
    exact Prod.ext h1.symm h2.symm
   | succ i => exact .inr ⟨i, by simpa using h1, by simpa using h2⟩
theorem way_get (p : PartP) (i : Nat) : (way p)[i]? = if i = 0 then some p.up else if i <= p.lines.length then some (p.vtx (i - 1)) else if i = p.lines.length + 1 then some p.down else none := by
 unfold way
 cases i with
 | zero => simp
 | succ i =>
  rw [List.getElem?_cons_succ, if_neg (by omega), List.getElem?_append, own_len]
  by_cases h : i < p.lines.length
  ·rw [if_pos h, if_pos (by omega)]
   simp [own, h]
  rw [if_neg h, if_neg (by omega)]
  by_cases h2 : i = p.lines.length
  ·subst h2; simp
  rw [if_neg (by omega), List.getElem?_eq_none (by simp; omega)]
theorem mem_edges {p : PartP} {e : Vtx × Vtx} : e ∈ edges p ↔ ∃ i, i <= p.lines.length /\ 0 < p.lines.length /\ e.1 = (if i = 0 then p.up else p.vtx (i - 1)) /\ e.2 = (if i < p.lines.length then p.vtx i else p.down) := by
 unfold edges
 by_cases h : p.lines.length = 0
 ·rw [if_pos h]
  constructor
  ·intro h; cases h
  rintro ⟨i, h1, h2, _⟩; omega
 rw [if_neg h, edgeL_mem]
 constructor
 ·rintro ⟨i, h1, h2⟩
  rw [way_get] at h1 h2
  have hi : i <= p.lines.length := by
   by_cases h3 : i <= p.lines.length
   ·exact h3
   rw [if_neg (by omega), if_neg (by omega), if_neg (by omega)] at h2
   cases h2
  refine ⟨i, hi, by omega, ?_, ?_⟩
  ·split at h1
   ·rename_i h0; rw [if_pos h0]; exact (Option.some.inj h1).symm
   rename_i h0; rw [if_neg h0]; exact (Option.some.inj h1).symm
  rw [if_neg (by omega)] at h2
  by_cases h3 : i < p.lines.length
  ·rw [if_pos h3]; rw [if_pos (by omega)] at h2; exact (Option.some.inj h2).symm
  rw [if_neg h3]; rw [if_neg (by omega), if_pos (by omega)] at h2; exact (Option.some.inj h2).symm
 rintro ⟨i, h1, h2, h3, h4⟩
 refine ⟨i, ?_, ?_⟩
 ·rw [way_get, h3]
  split <;> rfl
 rw [way_get, h4, if_neg (by omega)]
 by_cases h5 : i < p.lines.length
 ·rw [if_pos (by omega), if_pos h5]; rfl
 rw [if_neg (by omega), if_pos (by omega), if_neg h5]
theorem edge_src {p : PartP} {e : Vtx × Vtx} (h : e ∈ edges p) : e.1 = p.up ∨ e.1 ∈ own p := by
 obtain ⟨i, h1, h2, h3, h4⟩ := mem_edges.1 h
 by_cases h0 : i = 0
 ·rw [if_pos h0] at h3; exact .inl h3
 rw [if_neg h0] at h3; exact .inr (mem_own.2 ⟨i - 1, by omega, h3.symm⟩)
theorem edge_tgt {p : PartP} {e : Vtx × Vtx} (h : e ∈ edges p) : e.2 = p.down ∨ e.2 ∈ own p := by
 obtain ⟨i, h1, h2, h3, h4⟩ := mem_edges.1 h
 by_cases h0 : i < p.lines.length
 ·rw [if_pos h0] at h4; exact .inr (mem_own.2 ⟨i, h0, h4.symm⟩)
 rw [if_neg h0] at h4; exact .inl h4
theorem mem_allV {ps : List PartP} {v : Vtx} : v ∈ allV ps ↔ ∃ p ∈ ps, v ∈ own p := List.mem_flatMap
theorem mem_allE {ps : List PartP} {e : Vtx × Vtx} : e ∈ allE ps ↔ ∃ p ∈ ps, e ∈ edges p := List.mem_flatMap
structure New (ps : List PartP) (p : PartP) : Prop where
 name : ∀ q ∈ ps, q.name ≠ p.name
 own : ∀ v ∈ own p, v ∉ allV ps
 first : 0 <= p.first
 upE : p.up ≠ endV
 downR : p.down ≠ rootV
 gone0 : p.gone.Nodup
 goneR : ∀ v ∈ p.gone, v ≠ rootV /\ v ≠ endV
 up : HasV ps p.up
 down : HasV ps p.down
 gone : ∀ v ∈ p.gone, v ∈ allV ps
 bef : Bef ps p.up p.down
inductive Sq : List PartP -> Prop
 | nil : Sq []
 | cons {p : PartP} {ps : List PartP} (h : New ps p) (t : Sq ps) : Sq (p :: ps)
theorem own_ge {p : PartP} (h : 0 <= p.first) {v : Vtx} (hv : v ∈ own p) : 0 <= v.2 := by
 obtain ⟨i, _, rfl⟩ := mem_own.1 hv
 simp only [PartP.vtx]
 omega
theorem Sq.ge {ps : List PartP} (h : Sq ps) {v : Vtx} (hv : v ∈ allV ps) : 0 <= v.2 := by
 induction h with
 | nil => simp [allV] at hv
 | cons h t ih =>
  obtain ⟨q, hq, hv2⟩ := mem_allV.1 hv
  rcases List.mem_cons.1 hq with rfl | hq
  ·exact own_ge h.first hv2
  exact ih (mem_allV.2 ⟨q, hq, hv2⟩)
theorem ge_ne {v : Vtx} (h : 0 <= v.2) : v ≠ rootV /\ v ≠ endV := by
 constructor
 ·rintro rfl; revert h; decide
 rintro rfl; revert h; decide
theorem Sq.line {ps : List PartP} (h : Sq ps) {v : Vtx} (hv : v ∈ allV ps) : v ≠ rootV /\ v ≠ endV := ge_ne (h.ge hv)
theorem Sq.edge {ps : List PartP} (h : Sq ps) {e : Vtx × Vtx} (he : e ∈ allE ps) : (e.1 = rootV ∨ e.1 ∈ allV ps) /\ (e.2 = endV ∨ e.2 ∈ allV ps) := by
 induction h with
 | nil => simp [allE] at he
 | @cons p ps h t ih =>
  obtain ⟨q, hq, he2⟩ := mem_allE.1 he
  have up : ∀ v, v ∈ allV ps -> v ∈ allV (p :: ps) := fun v hv => by
   obtain ⟨r, hr, hv⟩ := mem_allV.1 hv
   exact mem_allV.2 ⟨r, List.mem_cons_of_mem _ hr, hv⟩
  rcases List.mem_cons.1 hq with rfl | hq
  ·constructor
   ·rcases edge_src he2 with h1 | h1
    ·rcases h.up with h2 | h2 | h2
     ·exact .inl (h1.trans h2)
     ·exact absurd h2 h.upE
     exact .inr (by rw [h1]; exact up _ h2)
    exact .inr (mem_allV.2 ⟨q, hq, h1⟩)
   rcases edge_tgt he2 with h1 | h1
   ·rcases h.down with h2 | h2 | h2
    ·exact absurd h2 h.downR
    ·exact .inl (h1.trans h2)
    exact .inr (by rw [h1]; exact up _ h2)
   exact .inr (mem_allV.2 ⟨q, hq, h1⟩)
  obtain ⟨i1, i2⟩ := ih (mem_allE.2 ⟨q, hq, he2⟩)
  exact ⟨i1.imp_right (up _), i2.imp_right (up _)⟩
theorem Sq.noEnd {ps : List PartP} (h : Sq ps) {b : Vtx} : ¬ Rch (allE ps) endV b := by
 intro hr
 obtain ⟨c, hc⟩ := hr.src
 rcases (h.edge hc).1 with h1 | h1
 ·exact root_ne_end h1.symm
 exact (h.line h1).2 rfl
theorem Sq.rank {ps : List PartP} (h : Sq ps) : ∃ r : Vtx -> Nat, (∀ e ∈ allE ps, r e.1 < r e.2) /\ (∀ v ∈ allV ps, r rootV < r v /\ r v < r endV) /\ r rootV < r endV := by
 induction h with
 | nil => exact ⟨fun v => if v = endV then 1 else 0, by simp [allE], by simp [allV], by decide⟩
 | @cons p ps h t ih =>
  obtain ⟨r, h1, h2, h3⟩ := ih
  have hb : r p.up < r p.down := by
   obtain ⟨b1, b2, b3, b4, b5, b6⟩ := h.bef
   rcases b6 with b6 | b6 | b6
   ·rw [b6]
    rcases b2 with b2 | b2 | b2
    ·exact absurd b2 b5
    ·rw [b2]; exact h3
    exact (h2 _ b2).1
   ·rw [b6]
    rcases b1 with b1 | b1 | b1
    ·rw [b1]; exact h3
    ·exact absurd b1 b4
    exact (h2 _ b1).2
   exact b6.rank r h1
  let K := p.lines.length + 1
  let r' : Vtx -> Nat := fun v => if v ∈ own p then K * r p.up + ((v.2 - p.first).toNat + 1) else K * r v
  have hown : ∀ i, i < p.lines.length -> r' (p.vtx i) = K * r p.up + (i + 1) := by
   intro i hi
   have : p.vtx i ∈ own p := mem_own.2 ⟨i, hi, rfl⟩
   show (if p.vtx i ∈ own p then K * r p.up + (((p.vtx i).2 - p.first).toNat + 1) else K * r (p.vtx i)) = _
   rw [if_pos this]
   simp only [PartP.vtx]
   omega
  have hold : ∀ v, v ∉ own p -> r' v = K * r v := fun v hv => by simp only [r', if_neg hv]
  have hvold : ∀ v, HasV ps v -> v ∉ own p := by
   intro v hv hm
   have := ge_ne (own_ge h.first hm)
   rcases hv with hv | hv | hv
   ·exact this.1 hv
   ·exact this.2 hv
   exact h.own v hm hv
  have hK : ∀ a b, a < b -> K * a + p.lines.length < K * b := by
   intro a b hab
   have : K * (a + 1) <= K * b := Nat.mul_le_mul_left _ hab
   rw [Nat.mul_add, Nat.mul_one] at this
   omega
  have hK0 : ∀ a b, a < b -> K * a < K * b := fun a b hab => by have := hK a b hab; omega
  have hr0 : rootV ∉ own p := hvold _ (.inl rfl)
  have he0 : endV ∉ own p := hvold _ (.inr (.inl rfl))
  refine ⟨r', ?_, ?_, ?_⟩
  ·intro e he
   obtain ⟨q, hq, he2⟩ := mem_allE.1 he
   rcases List.mem_cons.1 hq with rfl | hq
   ·obtain ⟨i, i1, i2, i3, i4⟩ := mem_edges.1 he2
    have s1 : r' e.1 = K * r q.up + i := by
     rw [i3]
     split
     ·rename_i h0; rw [hold _ (hvold _ h.up), h0]; rfl
     rename_i h0; rw [hown _ (by omega)]; omega
    have s2 : K * r q.up + i < r' e.2 := by
     rw [i4]
     split
     ·rename_i h0; rw [hown _ h0]; omega
     rw [hold _ (hvold _ h.down)]
     have := hK _ _ hb
     omega
    omega
   have he' : e ∈ allE ps := mem_allE.2 ⟨q, hq, he2⟩
   obtain ⟨e1, e2⟩ := t.edge he'
   rw [hold _ (hvold _ (e1.imp_right .inr)), hold _ (hvold _ (.inr e2))]
   exact hK0 _ _ (h1 e he')
  ·intro v hv
   rw [hold _ hr0, hold _ he0]
   obtain ⟨q, hq, hv2⟩ := mem_allV.1 hv
   rcases List.mem_cons.1 hq with rfl | hq
   ·obtain ⟨i, hi, rfl⟩ := mem_own.1 hv2
    rw [hown i hi]
    have hup : r rootV <= r q.up := by
     rcases h.up with h4 | h4 | h4
     ·rw [h4]; exact Nat.le_refl _
     ·exact absurd h4 h.upE
     exact Nat.le_of_lt (h2 _ h4).1
    have hdn : r q.down <= r endV := by
     rcases h.down with h4 | h4 | h4
     ·exact absurd h4 h.downR
     ·rw [h4]; exact Nat.le_refl _
     exact Nat.le_of_lt (h2 _ h4).2
    have a1 : K * r rootV <= K * r q.up := Nat.mul_le_mul_left _ hup
    have a2 := hK _ _ (Nat.lt_of_lt_of_le hb hdn)
    omega
   have hv' : v ∈ allV ps := mem_allV.2 ⟨q, hq, hv2⟩
   rw [hold _ (hvold _ (.inr (.inr hv')))]
   exact ⟨hK0 _ _ (h2 v hv').1, hK0 _ _ (h2 v hv').2⟩
  rw [hold _ hr0, hold _ he0]
  exact hK0 _ _ h3
theorem Sq.irrefl {ps : List PartP} (h : Sq ps) {v : Vtx} : ¬ Rch (allE ps) v v := by
 intro hr
 obtain ⟨r, h1, _⟩ := h.rank
 have := hr.rank r h1
 omega
theorem HasV.mono {ps qs : List PartP} {v : Vtx} (h : HasV ps v) (hs : ∀ p ∈ ps, p ∈ qs) : HasV qs v := by
 rcases h with h | h | h
 ·exact .inl h
 ·exact .inr (.inl h)
 obtain ⟨p, hp, hv⟩ := mem_allV.1 h
 exact .inr (.inr (mem_allV.2 ⟨p, hs p hp, hv⟩))
theorem allE_mono {ps qs : List PartP} (hs : ∀ p ∈ ps, p ∈ qs) : ∀ e ∈ allE ps, e ∈ allE qs := fun e he => by
 obtain ⟨p, hp, he⟩ := mem_allE.1 he
 exact mem_allE.2 ⟨p, hs p hp, he⟩
theorem Bef.mono {ps qs : List PartP} {a b : Vtx} (h : Bef ps a b) (hs : ∀ p ∈ ps, p ∈ qs) : Bef qs a b :=
 ⟨h.1.mono hs, h.2.1.mono hs, h.2.2.1, h.2.2.2.1, h.2.2.2.2.1, h.2.2.2.2.2.imp_right fun h => h.imp_right fun h => h.mono (allE_mono hs)⟩
theorem New.fresh {ps : List PartP} {p : PartP} (h : New ps p) (t : Sq ps) : (∀ v ∈ GP.own p, ∀ e ∈ allE ps, e.1 ≠ v /\ e.2 ≠ v) /\ (∀ v, HasV ps v -> v ∉ GP.own p) := by
 have hvold : ∀ v, HasV ps v -> v ∉ GP.own p := by
  intro v hv hm
  have := ge_ne (own_ge h.first hm)
  rcases hv with hv | hv | hv
  ·exact this.1 hv
  ·exact this.2 hv
  exact h.own v hm hv
 refine ⟨fun v hv e he => ⟨?_, ?_⟩, hvold⟩
 ·rintro rfl; exact hvold _ ((t.edge he).1.imp_right .inr) hv
 rintro rfl; exact hvold _ (.inr (t.edge he).2) hv
theorem New.names_has {ps : List PartP} {p : PartP} (h : New ps p) {v : Vtx} (hv : v ∈ names p) : HasV ps v := by
 unfold names at hv
 rcases List.mem_cons.1 hv with rfl | hv
 ·exact h.up
 rcases List.mem_cons.1 hv with rfl | hv
 ·exact h.down
 exact .inr (.inr (h.gone v hv))
theorem Sq.names_has {ps : List PartP} (h : Sq ps) {q : PartP} (hq : q ∈ ps) {v : Vtx} (hv : v ∈ names q) : HasV ps v := by
 induction h with
 | nil => cases hq
 | @cons p ps h t ih =>
  rcases List.mem_cons.1 hq with rfl | hq
  ·exact (h.names_has hv).mono fun r hr => List.mem_cons_of_mem _ hr
  exact (ih hq).mono fun r hr => List.mem_cons_of_mem _ hr
theorem Sq.gone_has {ps : List PartP} (h : Sq ps) {q : PartP} (hq : q ∈ ps) {v : Vtx} (hv : v ∈ q.gone) : HasV ps v := h.names_has hq (List.mem_cons_of_mem _ (List.mem_cons_of_mem _ hv))
theorem Bef.trans {ps : List PartP} (hs : Sq ps) {a b c : Vtx} (h : Bef ps a b) (k : Bef ps b c) : Bef ps a c := by
 obtain ⟨a1, a2, a3, a4, a5, a6⟩ := h
 obtain ⟨b1, b2, b3, b4, b5, b6⟩ := k
 have hbr : b ≠ rootV := a5
 have hbe : b ≠ endV := b4
 have h6 := b6.resolve_left hbr
 by_cases har : a = rootV
 ·exact ⟨a1, b2, by rw [har]; exact fun e => b5 e.symm, a4, b5, .inl har⟩
 by_cases hce : c = endV
 ·exact ⟨a1, b2, by rw [hce]; exact a4, a4, b5, .inr (.inl hce)⟩
 have r1 := (a6.resolve_left har).resolve_left hbe
 have r2 := h6.resolve_left hce
 have r3 := r1.trans r2
 exact ⟨a1, b2, fun e => hs.irrefl (e ▸ r3), a4, b5, .inr (.inr r3)⟩
end Go.GP
