/- Walks and plain facts for the laws of this seat: what each function answers, for every input. -/
import Derived.Test.YtbejcoeajlhmcaaPart3
import Derived.Test.YtbejcoeajlhmcaaProg

namespace Go.Proofs
open Go.SL
set_option maxRecDepth 100000
theorem Try.mixed : Try.prog.follows .mixedOrders = true := by kernel_rfl
/-- redwax/graph.New -/
def Try.pc14 : PC :=
  (.seq (.ops [⟨some 0, none, .mov (.v (.pointer none))⟩])
  (.seq (.ops [⟨some 1, none, .mkM⟩, ⟨some 2, none, .mkM⟩, ⟨some 3, none, .build [.bool false, .map none, .map none, .slice none 0 0] [(0, 1, (.v (.bool true))), (1, 1, (.t 1)), (2, 1, (.t 2))]⟩, ⟨some 4, none, .bx 57 (.t 3)⟩, ⟨some 0, none, .mov (.t 4)⟩])
  .ret))
theorem Try.known14 : Known Try.prog 14 Try.pc14 5 [0] := ⟨Try.f14, _, Try.func14, rfl, by kernel_rfl, rfl, rfl⟩
/-- (*redwax/graph.Graph).Add -/
def Try.pc16 : PC :=
  (.seq (.ops [⟨some 2, none, .bx 25 (.t 0)⟩, ⟨some 3, none, .bx 36 (.t 1)⟩, ⟨some 4, none, .mov (.v (.int .i64 0))⟩])
  (.seq (.block 0 (.seq (.ops [⟨some 8, none, .ld (.t 2)⟩, ⟨some 9, none, .call 48 [(.t 8)]⟩, ⟨some 10, none, .not (.t 9)⟩, ⟨some 7, none, .mov (.t 10)⟩])
   (.cond (.t 7) (.seq (.ops [⟨some 4, none, .mov (.v (.int .i64 1))⟩])
    .ret) (.seq (.ops [⟨some 12, none, .ld (.t 2)⟩, ⟨some 13, none, .ldA 102 (.t 3)⟩, ⟨some 14, none, .call 52 [(.t 12), (.t 13)]⟩, ⟨some 11, none, .mov (.t 14)⟩])
    (.cond (.t 11) (.seq (.ops [⟨some 4, none, .mov (.v (.int .i64 6))⟩])
     .ret) (.seq (.ops [⟨some 16, none, .ldA 102 (.t 3)⟩, ⟨some 17, none, .call 53 [(.t 16)]⟩, ⟨some 18, none, .not (.t 17)⟩, ⟨some 15, none, .mov (.t 18)⟩])
     (.cond (.t 15) (.seq (.ops [⟨some 4, none, .mov (.v (.int .i64 4))⟩])
      .ret) (.seq (.ops [⟨some 20, none, .ld (.t 2)⟩, ⟨some 21, none, .fa 34 (.t 3)⟩, ⟨some 22, none, .ldA 33 (.t 21)⟩, ⟨some 23, none, .call 29 [(.t 20), (.t 22)]⟩, ⟨some 24, none, .not (.t 23)⟩, ⟨some 25, none, .mov (.t 24)⟩, ⟨some 26, (some (25, false)), .ld (.t 2)⟩, ⟨some 27, (some (25, false)), .fa 67 (.t 3)⟩, ⟨some 28, (some (25, false)), .ldA 33 (.t 27)⟩, ⟨some 29, (some (25, false)), .call 29 [(.t 26), (.t 28)]⟩, ⟨some 30, (some (25, false)), .not (.t 29)⟩, ⟨some 31, none, .pick (.t 25) (.v (.bool true)) (.t 30)⟩, ⟨some 32, none, .mov (.t 31)⟩, ⟨some 33, (some (32, false)), .fa 101 (.t 3)⟩, ⟨some 34, (some (32, false)), .ld (.t 33)⟩, ⟨some 35, (some (32, false)), .mkF 55 [(.t 2)]⟩, ⟨some 36, (some (32, false)), .call 54 [(.t 34), (.t 35)]⟩, ⟨some 37, none, .pick (.t 32) (.v (.bool true)) (.t 36)⟩, ⟨some 19, none, .mov (.t 37)⟩])
      (.cond (.t 19) (.seq (.ops [⟨some 4, none, .mov (.v (.int .i64 10))⟩])
       .ret) (.seq (.ops [⟨some 39, none, .ld (.t 2)⟩, ⟨some 40, none, .fa 34 (.t 3)⟩, ⟨some 41, none, .ldA 33 (.t 40)⟩, ⟨some 42, none, .fa 67 (.t 3)⟩, ⟨some 43, none, .ldA 33 (.t 42)⟩, ⟨some 44, none, .call 18 [(.t 39), (.t 41), (.t 43)]⟩, ⟨some 45, none, .not (.t 44)⟩, ⟨some 38, none, .mov (.t 45)⟩])
       (.cond (.t 38) (.seq (.ops [⟨some 4, none, .mov (.v (.int .i64 4))⟩])
        .ret) .skip)))))))))))
  (.seq (.quietR [0, 1, 3, 0, 8, 31, 31] 7 [⟨some 46, none, .fa 100 (.t 3)⟩, ⟨some 47, none, .ld (.t 46)⟩, ⟨some 48, none, .call 57 [(.t 47)]⟩, ⟨some 49, none, .fa 101 (.t 3)⟩, ⟨some 50, none, .ld (.t 49)⟩, ⟨some 51, none, .call 51 [(.t 50)]⟩, ⟨some 52, none, .fa 100 (.t 3)⟩, ⟨none, none, .st 1 (.t 52) (.t 48)⟩, ⟨some 53, none, .fa 101 (.t 3)⟩, ⟨none, none, .st 1 (.t 53) (.t 51)⟩])
  (.seq (.quiet 10 [⟨some 54, none, .ld (.t 2)⟩, ⟨some 55, none, .nilc (.t 54)⟩, ⟨some 56, none, .fa 1 (.t 55)⟩, ⟨some 57, none, .ld (.t 56)⟩, ⟨some 58, none, .fa 0 (.t 3)⟩, ⟨some 59, none, .ldA 32 (.t 58)⟩, ⟨some 60, none, .fa 32 (.t 3)⟩, ⟨some 61, none, .ld (.t 60)⟩, ⟨some 62, none, .build [.int .u8 0, .int .u8 0, .int .u8 0, .int .u8 0, .int .u8 0, .int .u8 0, .int .u8 0, .int .u8 0, .int .u8 0, .int .u8 0, .int .u8 0, .int .u8 0, .int .u8 0, .int .u8 0, .int .u8 0, .int .u8 0, .int .u8 0, .int .u8 0, .int .u8 0, .int .u8 0, .int .u8 0, .int .u8 0, .int .u8 0, .int .u8 0, .int .u8 0, .int .u8 0, .int .u8 0, .int .u8 0, .int .u8 0, .int .u8 0, .int .u8 0, .int .u8 0, .int .i64 0] [(0, 32, (.t 59)), (32, 1, (.t 61))]⟩, ⟨some 63, none, .ldA 102 (.t 3)⟩, ⟨none, none, .more (.other (.gen (.mapUpdate 54 (.tmp 57) (.tmp 62) (.tmp 63))))⟩])
  (.seq (.seq (.ops [⟨some 64, none, .fa 100 (.t 3)⟩, ⟨some 65, none, .ld (.t 64)⟩, ⟨some 66, none, .lenS (.t 65)⟩, ⟨some 67, none, .mov (.v (.int .i64 0))⟩])
  (.block 1 (.loop (.seq (.ops [⟨some 68, none, .bin .lss (.t 67) (.t 66)⟩])
    (.seq (.cond (.t 68) .skip (.exit 1))
    (.seq (.block 2 (.seq (.ops [⟨some 69, none, .mov (.t 67)⟩, ⟨some 70, none, .ixS 1 (.t 65) (.t 67)⟩, ⟨some 71, none, .ld (.t 70)⟩, ⟨some 5, none, .mov (.t 69)⟩, ⟨some 6, none, .mov (.t 71)⟩])
     (.quiet 9 [⟨some 72, none, .ld (.t 2)⟩, ⟨some 73, none, .nilc (.t 72)⟩, ⟨some 74, none, .fa 2 (.t 73)⟩, ⟨some 75, none, .ld (.t 74)⟩, ⟨some 76, none, .ldA 102 (.t 3)⟩, ⟨some 77, none, .mov (.t 5)⟩, ⟨some 78, none, .call 58 [(.t 76), (.t 77)]⟩, ⟨some 79, none, .mov (.t 6)⟩, ⟨some 80, none, .build [.string ⟨#[]⟩, .int .i64 0, .int .i64 0, .slice none 0 0] [(0, 1, (.t 79))]⟩, ⟨none, none, .more (.other (.gen (.mapUpdate 55 (.tmp 75) (.tmp 78) (.tmp 80))))⟩])))
    (.ops [⟨some 81, none, .bin .add (.t 67) (.v (.int .i64 1))⟩, ⟨some 67, none, .mov (.t 81)⟩])))))))
  (.seq (.ops [⟨some 82, none, .ld (.t 2)⟩, ⟨some 83, none, .ldA 102 (.t 3)⟩, ⟨some 84, none, .call 59 [(.t 82), (.t 83), (.v (.bool true))]⟩])
  (.seq (.ops [⟨some 85, none, .ld (.t 2)⟩, ⟨some 86, none, .ldA 102 (.t 3)⟩, ⟨some 87, none, .call 60 [(.t 85), (.t 86), (.v (.int .i64 1))]⟩])
  (.seq (.ops [⟨some 4, none, .mov (.v (.int .i64 0))⟩])
  .ret))))))))
theorem Try.known16 : Known Try.prog 16 Try.pc16 88 [4] := ⟨Try.f16, _, Try.func16, rfl, by kernel_rfl, rfl, rfl⟩
/-- (*redwax/graph.Graph).Lines -/
def Try.pc17 : PC :=
  (.seq (.ops [⟨some 2, none, .mov (.v (.slice none 0 0))⟩])
  (.seq (.seq (.ops [⟨some 11, none, .mov (.t 0)⟩, ⟨some 12, none, .call 48 [(.t 11)]⟩, ⟨some 13, none, .not (.t 12)⟩])
  (.cond (.t 13) (.seq (.ops [⟨some 2, none, .mov (.v (.slice none 0 0))⟩])
   .ret) .skip))
  (.seq (.ops [⟨some 14, none, .mov (.t 0)⟩, ⟨some 15, none, .call 61 [(.t 14)]⟩, ⟨some 3, none, .mov (.t 15)⟩])
  (.seq (.ops [⟨some 16, none, .bsl0 32⟩, ⟨some 17, none, .bx 110 (.t 16)⟩, ⟨some 4, none, .mov (.t 17)⟩])
  (.seq (.seq (.ops [⟨some 18, none, .mov (.t 0)⟩, ⟨some 19, none, .nilc (.t 18)⟩, ⟨some 20, none, .fa 2 (.t 19)⟩, ⟨some 21, none, .ld (.t 20)⟩, ⟨some 22, none, .more (.other (.gen (.range 55 (.tmp 21))))⟩])
  (.block 0 (.loop (.seq (.ops [⟨some 23, none, .more (.other (.gen (.next (.tmp 22) false)))⟩, ⟨some 24, none, .ext 0 (.t 23)⟩])
    (.seq (.cond (.t 24) .skip (.exit 0))
    (.block 1 (.seq (.ops [⟨some 25, none, .more (.other (.gen (.entry (.tmp 22))))⟩, ⟨some 26, none, .ext 0 (.t 25)⟩, ⟨some 5, none, .al 32 [.int .u8 0, .int .u8 0, .int .u8 0, .int .u8 0, .int .u8 0, .int .u8 0, .int .u8 0, .int .u8 0, .int .u8 0, .int .u8 0, .int .u8 0, .int .u8 0, .int .u8 0, .int .u8 0, .int .u8 0, .int .u8 0, .int .u8 0, .int .u8 0, .int .u8 0, .int .u8 0, .int .u8 0, .int .u8 0, .int .u8 0, .int .u8 0, .int .u8 0, .int .u8 0, .int .u8 0, .int .u8 0, .int .u8 0, .int .u8 0, .int .u8 0, .int .u8 0, .int .i64 0]⟩, ⟨none, none, .st 33 (.t 5) (.t 26)⟩])
     (.seq (.ops [⟨some 27, none, .mov (.t 3)⟩, ⟨some 28, none, .ldA 33 (.t 5)⟩, ⟨some 29, none, .more (.other (.gen (.lookup 107 (.tmp 27) (.tmp 28) false)))⟩, ⟨some 30, none, .bin .eql (.t 29) (.v (.int .i64 0))⟩])
     (.cond (.t 30) (.ops [⟨some 31, none, .mov (.t 4)⟩, ⟨some 32, none, .more (.mkI 109 (.t 31))⟩, ⟨some 33, none, .ldA 33 (.t 5)⟩, ⟨some 34, none, .more (.mkI 32 (.t 33))⟩, ⟨some 35, none, .call 62 [(.t 32), (.t 34)]⟩]) .skip)))))))))
  (.seq (.block 2 (.loop (.seq (.seq (.ops [⟨some 36, none, .mov (.t 4)⟩, ⟨some 37, none, .nilc (.t 36)⟩, ⟨some 38, none, .ld (.t 37)⟩, ⟨some 39, none, .call 63 [(.t 38)]⟩, ⟨some 40, none, .bin .gtr (.t 39) (.v (.int .i64 0))⟩])
    (.cond (.t 40) .skip (.exit 2)))
    (.block 3 (.seq (.ops [⟨some 42, none, .mov (.t 4)⟩, ⟨some 43, none, .more (.mkI 109 (.t 42))⟩, ⟨some 44, none, .call 64 [(.t 43)]⟩, ⟨some 45, none, .more (.other (.gen (.typeAssert (.tmp 44) 20 32 true)))⟩, ⟨some 41, none, .mov (.t 45)⟩, ⟨some 46, none, .ext 0 (.t 41)⟩, ⟨some 47, none, .ext 1 (.t 41)⟩, ⟨some 6, none, .al 32 [.int .u8 0, .int .u8 0, .int .u8 0, .int .u8 0, .int .u8 0, .int .u8 0, .int .u8 0, .int .u8 0, .int .u8 0, .int .u8 0, .int .u8 0, .int .u8 0, .int .u8 0, .int .u8 0, .int .u8 0, .int .u8 0, .int .u8 0, .int .u8 0, .int .u8 0, .int .u8 0, .int .u8 0, .int .u8 0, .int .u8 0, .int .u8 0, .int .u8 0, .int .u8 0, .int .u8 0, .int .u8 0, .int .u8 0, .int .u8 0, .int .u8 0, .int .u8 0, .int .i64 0]⟩, ⟨none, none, .st 33 (.t 6) (.t 46)⟩, ⟨some 7, none, .mov (.t 47)⟩])
     (.seq (.seq (.ops [⟨some 48, none, .mov (.t 7)⟩, ⟨some 49, none, .not (.t 48)⟩])
     (.cond (.t 49) (.exit 3) .skip))
     (.seq (.quiet 7 [⟨some 50, none, .mov (.t 0)⟩, ⟨some 51, none, .nilc (.t 50)⟩, ⟨some 52, none, .fa 2 (.t 51)⟩, ⟨some 53, none, .ld (.t 52)⟩, ⟨some 54, none, .ldA 33 (.t 6)⟩, ⟨some 55, none, .more (.other (.gen (.lookup 55 (.tmp 53) (.tmp 54) false)))⟩, ⟨some 8, none, .al 100 [.string ⟨#[]⟩, .int .i64 0, .int .i64 0, .slice none 0 0]⟩, ⟨none, none, .st 4 (.t 8) (.t 55)⟩])
     (.seq (.ops [⟨some 56, none, .mov (.t 2)⟩, ⟨some 57, none, .ldA 33 (.t 6)⟩, ⟨some 58, none, .fa 0 (.t 8)⟩, ⟨some 59, none, .ld (.t 58)⟩, ⟨some 60, none, .fa 1 (.t 8)⟩, ⟨some 61, none, .ld (.t 60)⟩, ⟨some 62, none, .bin .eql (.t 61) (.v (.int .i64 0))⟩, ⟨some 63, none, .build [.int .u8 0, .int .u8 0, .int .u8 0, .int .u8 0, .int .u8 0, .int .u8 0, .int .u8 0, .int .u8 0, .int .u8 0, .int .u8 0, .int .u8 0, .int .u8 0, .int .u8 0, .int .u8 0, .int .u8 0, .int .u8 0, .int .u8 0, .int .u8 0, .int .u8 0, .int .u8 0, .int .u8 0, .int .u8 0, .int .u8 0, .int .u8 0, .int .u8 0, .int .u8 0, .int .u8 0, .int .u8 0, .int .u8 0, .int .u8 0, .int .u8 0, .int .u8 0, .int .i64 0, .string ⟨#[]⟩, .bool false] [(0, 33, (.t 57)), (33, 1, (.t 59)), (34, 1, (.t 62))]⟩, ⟨some 64, none, .bsl 43 [.int .u8 0, .int .u8 0, .int .u8 0, .int .u8 0, .int .u8 0, .int .u8 0, .int .u8 0, .int .u8 0, .int .u8 0, .int .u8 0, .int .u8 0, .int .u8 0, .int .u8 0, .int .u8 0, .int .u8 0, .int .u8 0, .int .u8 0, .int .u8 0, .int .u8 0, .int .u8 0, .int .u8 0, .int .u8 0, .int .u8 0, .int .u8 0, .int .u8 0, .int .u8 0, .int .u8 0, .int .u8 0, .int .u8 0, .int .u8 0, .int .u8 0, .int .u8 0, .int .i64 0, .string ⟨#[]⟩, .bool false] 1 [(0, 35, (.t 63))]⟩, ⟨some 65, none, .app 39 43 35 64 (.agg #[.int .u8 0, .int .u8 0, .int .u8 0, .int .u8 0, .int .u8 0, .int .u8 0, .int .u8 0, .int .u8 0, .int .u8 0, .int .u8 0, .int .u8 0, .int .u8 0, .int .u8 0, .int .u8 0, .int .u8 0, .int .u8 0, .int .u8 0, .int .u8 0, .int .u8 0, .int .u8 0, .int .u8 0, .int .u8 0, .int .u8 0, .int .u8 0, .int .u8 0, .int .u8 0, .int .u8 0, .int .u8 0, .int .u8 0, .int .u8 0, .int .u8 0, .int .u8 0, .int .i64 0, .string ⟨#[]⟩, .bool false]) (.t 56) (.t 64)⟩, ⟨some 2, none, .mov (.t 65)⟩])
     (.seq (.ops [⟨some 66, none, .fa 3 (.t 8)⟩, ⟨some 67, none, .ld (.t 66)⟩, ⟨some 68, none, .lenS (.t 67)⟩, ⟨some 69, none, .mov (.v (.int .i64 0))⟩])
     (.block 4 (.loop (.seq (.ops [⟨some 70, none, .bin .lss (.t 69) (.t 68)⟩])
       (.seq (.cond (.t 70) .skip (.exit 4))
       (.seq (.block 5 (.seq (.ops [⟨some 71, none, .ixS 33 (.t 67) (.t 69)⟩, ⟨some 72, none, .ldA 33 (.t 71)⟩, ⟨some 10, none, .al 32 [.int .u8 0, .int .u8 0, .int .u8 0, .int .u8 0, .int .u8 0, .int .u8 0, .int .u8 0, .int .u8 0, .int .u8 0, .int .u8 0, .int .u8 0, .int .u8 0, .int .u8 0, .int .u8 0, .int .u8 0, .int .u8 0, .int .u8 0, .int .u8 0, .int .u8 0, .int .u8 0, .int .u8 0, .int .u8 0, .int .u8 0, .int .u8 0, .int .u8 0, .int .u8 0, .int .u8 0, .int .u8 0, .int .u8 0, .int .u8 0, .int .u8 0, .int .u8 0, .int .i64 0]⟩, ⟨none, none, .st 33 (.t 10) (.t 72)⟩])
        (.seq (.quietR [0, 0, 3, 7, 3, 19] 6 [⟨some 73, none, .mov (.t 3)⟩, ⟨some 74, none, .ldA 33 (.t 10)⟩, ⟨some 75, none, .more (.other (.gen (.lookup 107 (.tmp 73) (.tmp 74) false)))⟩, ⟨some 76, none, .bin .sub (.t 75) (.v (.int .i64 1))⟩, ⟨some 77, none, .more (.other (.gen (.mapEntry 107 (.tmp 73) (.tmp 74))))⟩, ⟨some 78, none, .ext 1 (.t 77)⟩, ⟨none, none, .more (.other (.gen (.entryStore 107 (.tmp 73) (.tmp 78) (.tmp 76))))⟩])
        (.seq (.quiet2 1 6 [⟨some 79, none, .ldA 33 (.t 10)⟩, ⟨some 80, none, .call 65 []⟩, ⟨some 81, none, .more (.eqD true 32 [.int .u8, .int .u8, .int .u8, .int .u8, .int .u8, .int .u8, .int .u8, .int .u8, .int .u8, .int .u8, .int .u8, .int .u8, .int .u8, .int .u8, .int .u8, .int .u8, .int .u8, .int .u8, .int .u8, .int .u8, .int .u8, .int .u8, .int .u8, .int .u8, .int .u8, .int .u8, .int .u8, .int .u8, .int .u8, .int .u8, .int .u8, .int .u8, .int .i64] (.t 79) (.t 80))⟩, ⟨some 82, none, .mov (.t 81)⟩, ⟨some 83, (some (82, true)), .mov (.t 3)⟩, ⟨some 84, (some (82, true)), .ldA 33 (.t 10)⟩, ⟨some 85, (some (82, true)), .more (.other (.gen (.lookup 107 (.tmp 83) (.tmp 84) false)))⟩, ⟨some 86, (some (82, true)), .bin .eql (.t 85) (.v (.int .i64 0))⟩, ⟨some 87, none, .pick (.t 82) (.t 86) (.v (.bool false))⟩])
        (.cond (.t 87) (.ops [⟨some 88, none, .mov (.t 4)⟩, ⟨some 89, none, .more (.mkI 109 (.t 88))⟩, ⟨some 90, none, .ldA 33 (.t 10)⟩, ⟨some 91, none, .more (.mkI 32 (.t 90))⟩, ⟨some 92, none, .call 62 [(.t 89), (.t 91)]⟩]) .skip)))))
       (.ops [⟨some 93, none, .bin .add (.t 69) (.v (.int .i64 1))⟩, ⟨some 69, none, .mov (.t 93)⟩])))))))))))))))
  (.seq (.ops [⟨some 94, none, .mov (.t 2)⟩, ⟨some 2, none, .mov (.t 94)⟩])
  .ret)))))))
theorem Try.known17 : Known Try.prog 17 Try.pc17 95 [2] := ⟨Try.f17, _, Try.func17, rfl, by kernel_rfl, rfl, rfl⟩
/-- (*redwax/graph.Graph).Before -/
def Try.pc18 : PC :=
  (.seq (.ops [⟨some 4, none, .bx 32 (.t 1)⟩, ⟨some 5, none, .bx 32 (.t 2)⟩, ⟨some 6, none, .mov (.v (.bool false))⟩])
  (.seq (.block 0 (.seq (.quiet2 2 23 [⟨some 15, none, .mov (.t 0)⟩, ⟨some 16, none, .ldA 33 (.t 4)⟩, ⟨some 17, none, .call 29 [(.t 15), (.t 16)]⟩, ⟨some 18, none, .not (.t 17)⟩, ⟨some 19, none, .mov (.t 18)⟩, ⟨some 20, (some (19, false)), .mov (.t 0)⟩, ⟨some 21, (some (19, false)), .ldA 33 (.t 5)⟩, ⟨some 22, (some (19, false)), .call 29 [(.t 20), (.t 21)]⟩, ⟨some 23, (some (19, false)), .not (.t 22)⟩, ⟨some 24, none, .pick (.t 19) (.v (.bool true)) (.t 23)⟩, ⟨some 25, none, .mov (.t 24)⟩, ⟨some 26, (some (25, false)), .ldA 33 (.t 4)⟩, ⟨some 27, (some (25, false)), .ldA 33 (.t 5)⟩, ⟨some 28, (some (25, false)), .more (.eqD false 32 [.int .u8, .int .u8, .int .u8, .int .u8, .int .u8, .int .u8, .int .u8, .int .u8, .int .u8, .int .u8, .int .u8, .int .u8, .int .u8, .int .u8, .int .u8, .int .u8, .int .u8, .int .u8, .int .u8, .int .u8, .int .u8, .int .u8, .int .u8, .int .u8, .int .u8, .int .u8, .int .u8, .int .u8, .int .u8, .int .u8, .int .u8, .int .u8, .int .i64] (.t 26) (.t 27))⟩, ⟨some 29, none, .pick (.t 25) (.v (.bool true)) (.t 28)⟩, ⟨some 30, none, .mov (.t 29)⟩, ⟨some 31, (some (30, false)), .ldA 33 (.t 4)⟩, ⟨some 32, (some (30, false)), .call 65 []⟩, ⟨some 33, (some (30, false)), .more (.eqD false 32 [.int .u8, .int .u8, .int .u8, .int .u8, .int .u8, .int .u8, .int .u8, .int .u8, .int .u8, .int .u8, .int .u8, .int .u8, .int .u8, .int .u8, .int .u8, .int .u8, .int .u8, .int .u8, .int .u8, .int .u8, .int .u8, .int .u8, .int .u8, .int .u8, .int .u8, .int .u8, .int .u8, .int .u8, .int .u8, .int .u8, .int .u8, .int .u8, .int .i64] (.t 31) (.t 32))⟩, ⟨some 34, none, .pick (.t 30) (.v (.bool true)) (.t 33)⟩, ⟨some 35, none, .mov (.t 34)⟩, ⟨some 36, (some (35, false)), .ldA 33 (.t 5)⟩, ⟨some 37, (some (35, false)), .call 66 []⟩, ⟨some 38, (some (35, false)), .more (.eqD false 32 [.int .u8, .int .u8, .int .u8, .int .u8, .int .u8, .int .u8, .int .u8, .int .u8, .int .u8, .int .u8, .int .u8, .int .u8, .int .u8, .int .u8, .int .u8, .int .u8, .int .u8, .int .u8, .int .u8, .int .u8, .int .u8, .int .u8, .int .u8, .int .u8, .int .u8, .int .u8, .int .u8, .int .u8, .int .u8, .int .u8, .int .u8, .int .u8, .int .i64] (.t 36) (.t 37))⟩, ⟨some 39, none, .pick (.t 35) (.v (.bool true)) (.t 38)⟩, ⟨some 14, none, .mov (.t 39)⟩])
   (.cond (.t 14) (.seq (.ops [⟨some 6, none, .mov (.v (.bool false))⟩])
    .ret) (.seq (.quiet2 1 6 [⟨some 41, none, .ldA 33 (.t 4)⟩, ⟨some 42, none, .call 66 []⟩, ⟨some 43, none, .more (.eqD false 32 [.int .u8, .int .u8, .int .u8, .int .u8, .int .u8, .int .u8, .int .u8, .int .u8, .int .u8, .int .u8, .int .u8, .int .u8, .int .u8, .int .u8, .int .u8, .int .u8, .int .u8, .int .u8, .int .u8, .int .u8, .int .u8, .int .u8, .int .u8, .int .u8, .int .u8, .int .u8, .int .u8, .int .u8, .int .u8, .int .u8, .int .u8, .int .u8, .int .i64] (.t 41) (.t 42))⟩, ⟨some 44, none, .mov (.t 43)⟩, ⟨some 45, (some (44, false)), .ldA 33 (.t 5)⟩, ⟨some 46, (some (44, false)), .call 65 []⟩, ⟨some 47, (some (44, false)), .more (.eqD false 32 [.int .u8, .int .u8, .int .u8, .int .u8, .int .u8, .int .u8, .int .u8, .int .u8, .int .u8, .int .u8, .int .u8, .int .u8, .int .u8, .int .u8, .int .u8, .int .u8, .int .u8, .int .u8, .int .u8, .int .u8, .int .u8, .int .u8, .int .u8, .int .u8, .int .u8, .int .u8, .int .u8, .int .u8, .int .u8, .int .u8, .int .u8, .int .u8, .int .i64] (.t 45) (.t 46))⟩, ⟨some 48, none, .pick (.t 44) (.v (.bool true)) (.t 47)⟩, ⟨some 40, none, .mov (.t 48)⟩])
    (.cond (.t 40) (.seq (.ops [⟨some 6, none, .mov (.v (.bool true))⟩])
     .ret) .skip)))))
  (.seq (.ops [⟨some 49, none, .mkM⟩, ⟨some 50, none, .ldA 33 (.t 4)⟩, ⟨some 51, none, .build [] []⟩, ⟨none, none, .more (.other (.gen (.insert 117 (.tmp 49) (.tmp 50) (.tmp 51))))⟩, ⟨some 52, none, .mov (.t 49)⟩, ⟨some 7, none, .mov (.t 52)⟩])
  (.seq (.ops [⟨some 53, none, .ldA 33 (.t 4)⟩, ⟨some 54, none, .bsl 32 [.int .u8 0, .int .u8 0, .int .u8 0, .int .u8 0, .int .u8 0, .int .u8 0, .int .u8 0, .int .u8 0, .int .u8 0, .int .u8 0, .int .u8 0, .int .u8 0, .int .u8 0, .int .u8 0, .int .u8 0, .int .u8 0, .int .u8 0, .int .u8 0, .int .u8 0, .int .u8 0, .int .u8 0, .int .u8 0, .int .u8 0, .int .u8 0, .int .u8 0, .int .u8 0, .int .u8 0, .int .u8 0, .int .u8 0, .int .u8 0, .int .u8 0, .int .u8 0, .int .i64 0] 1 [(0, 33, (.t 53))]⟩, ⟨some 8, none, .mov (.t 54)⟩])
  (.seq (.block 1 (.loop (.seq (.seq (.ops [⟨some 55, none, .mov (.t 8)⟩, ⟨some 56, none, .lenS (.t 55)⟩, ⟨some 57, none, .bin .gtr (.t 56) (.v (.int .i64 0))⟩])
    (.cond (.t 57) .skip (.exit 1)))
    (.block 2 (.seq (.ops [⟨some 58, none, .mov (.t 8)⟩, ⟨some 59, none, .mov (.t 8)⟩, ⟨some 60, none, .lenS (.t 59)⟩, ⟨some 61, none, .bin .sub (.t 60) (.v (.int .i64 1))⟩, ⟨some 62, none, .ixS 33 (.t 58) (.t 61)⟩, ⟨some 63, none, .ldA 33 (.t 62)⟩, ⟨some 9, none, .al 32 [.int .u8 0, .int .u8 0, .int .u8 0, .int .u8 0, .int .u8 0, .int .u8 0, .int .u8 0, .int .u8 0, .int .u8 0, .int .u8 0, .int .u8 0, .int .u8 0, .int .u8 0, .int .u8 0, .int .u8 0, .int .u8 0, .int .u8 0, .int .u8 0, .int .u8 0, .int .u8 0, .int .u8 0, .int .u8 0, .int .u8 0, .int .u8 0, .int .u8 0, .int .u8 0, .int .u8 0, .int .u8 0, .int .u8 0, .int .u8 0, .int .u8 0, .int .u8 0, .int .i64 0]⟩, ⟨none, none, .st 33 (.t 9) (.t 63)⟩])
     (.seq (.ops [⟨some 64, none, .mov (.t 8)⟩, ⟨some 65, none, .mov (.t 8)⟩, ⟨some 66, none, .lenS (.t 65)⟩, ⟨some 67, none, .bin .sub (.t 66) (.v (.int .i64 1))⟩, ⟨some 68, none, .slS 33 (.t 64) none (some (.t 67))⟩, ⟨some 8, none, .mov (.t 68)⟩])
     (.seq (.ops [⟨some 69, none, .mov (.t 0)⟩, ⟨some 70, none, .ldA 33 (.t 9)⟩, ⟨some 71, none, .call 67 [(.t 69), (.t 70)]⟩, ⟨some 72, none, .lenS (.t 71)⟩, ⟨some 73, none, .mov (.v (.int .i64 0))⟩])
     (.block 3 (.loop (.seq (.ops [⟨some 74, none, .bin .lss (.t 73) (.t 72)⟩])
       (.seq (.cond (.t 74) .skip (.exit 3))
       (.seq (.block 4 (.seq (.ops [⟨some 75, none, .ixS 33 (.t 71) (.t 73)⟩, ⟨some 76, none, .ldA 33 (.t 75)⟩, ⟨some 11, none, .al 32 [.int .u8 0, .int .u8 0, .int .u8 0, .int .u8 0, .int .u8 0, .int .u8 0, .int .u8 0, .int .u8 0, .int .u8 0, .int .u8 0, .int .u8 0, .int .u8 0, .int .u8 0, .int .u8 0, .int .u8 0, .int .u8 0, .int .u8 0, .int .u8 0, .int .u8 0, .int .u8 0, .int .u8 0, .int .u8 0, .int .u8 0, .int .u8 0, .int .u8 0, .int .u8 0, .int .u8 0, .int .u8 0, .int .u8 0, .int .u8 0, .int .u8 0, .int .u8 0, .int .i64 0]⟩, ⟨none, none, .st 33 (.t 11) (.t 76)⟩])
        (.seq (.seq (.ops [⟨some 77, none, .ldA 33 (.t 11)⟩, ⟨some 78, none, .ldA 33 (.t 5)⟩, ⟨some 79, none, .more (.eqD false 32 [.int .u8, .int .u8, .int .u8, .int .u8, .int .u8, .int .u8, .int .u8, .int .u8, .int .u8, .int .u8, .int .u8, .int .u8, .int .u8, .int .u8, .int .u8, .int .u8, .int .u8, .int .u8, .int .u8, .int .u8, .int .u8, .int .u8, .int .u8, .int .u8, .int .u8, .int .u8, .int .u8, .int .u8, .int .u8, .int .u8, .int .u8, .int .u8, .int .i64] (.t 77) (.t 78))⟩])
        (.cond (.t 79) (.seq (.ops [⟨some 6, none, .mov (.v (.bool true))⟩])
         .ret) .skip))
        (.seq (.ops [⟨some 81, none, .mov (.t 7)⟩, ⟨some 82, none, .ldA 33 (.t 11)⟩, ⟨some 83, none, .more (.other (.gen (.lookup 117 (.tmp 81) (.tmp 82) true)))⟩, ⟨some 80, none, .mov (.t 83)⟩, ⟨some 84, none, .ext 0 (.t 80)⟩, ⟨some 85, none, .ext 1 (.t 80)⟩, ⟨some 12, none, .al 116 []⟩, ⟨none, none, .st 0 (.t 12) (.t 84)⟩, ⟨some 13, none, .mov (.t 85)⟩])
        (.seq (.ops [⟨some 86, none, .mov (.t 13)⟩, ⟨some 87, none, .not (.t 86)⟩])
        (.cond (.t 87) (.seq (.ops [⟨some 88, none, .mov (.t 7)⟩, ⟨some 89, none, .ldA 33 (.t 11)⟩, ⟨some 90, none, .build [] []⟩, ⟨none, none, .more (.other (.gen (.mapUpdate 117 (.tmp 88) (.tmp 89) (.tmp 90))))⟩])
         (.ops [⟨some 91, none, .mov (.t 8)⟩, ⟨some 92, none, .ldA 33 (.t 11)⟩, ⟨some 93, none, .bsl 32 [.int .u8 0, .int .u8 0, .int .u8 0, .int .u8 0, .int .u8 0, .int .u8 0, .int .u8 0, .int .u8 0, .int .u8 0, .int .u8 0, .int .u8 0, .int .u8 0, .int .u8 0, .int .u8 0, .int .u8 0, .int .u8 0, .int .u8 0, .int .u8 0, .int .u8 0, .int .u8 0, .int .u8 0, .int .u8 0, .int .u8 0, .int .u8 0, .int .u8 0, .int .u8 0, .int .u8 0, .int .u8 0, .int .u8 0, .int .u8 0, .int .u8 0, .int .u8 0, .int .i64 0] 1 [(0, 33, (.t 92))]⟩, ⟨some 94, none, .app 34 32 33 40 (.agg #[.int .u8 0, .int .u8 0, .int .u8 0, .int .u8 0, .int .u8 0, .int .u8 0, .int .u8 0, .int .u8 0, .int .u8 0, .int .u8 0, .int .u8 0, .int .u8 0, .int .u8 0, .int .u8 0, .int .u8 0, .int .u8 0, .int .u8 0, .int .u8 0, .int .u8 0, .int .u8 0, .int .u8 0, .int .u8 0, .int .u8 0, .int .u8 0, .int .u8 0, .int .u8 0, .int .u8 0, .int .u8 0, .int .u8 0, .int .u8 0, .int .u8 0, .int .u8 0, .int .i64 0]) (.t 91) (.t 93)⟩, ⟨some 8, none, .mov (.t 94)⟩])) .skip))))))
       (.ops [⟨some 95, none, .bin .add (.t 73) (.v (.int .i64 1))⟩, ⟨some 73, none, .mov (.t 95)⟩])))))))))))))
  (.seq (.ops [⟨some 6, none, .mov (.v (.bool false))⟩])
  .ret))))))
theorem Try.known18 : Known Try.prog 18 Try.pc18 96 [6] := ⟨Try.f18, _, Try.func18, rfl, by kernel_rfl, rfl, rfl⟩
/-- (*redwax/graph.Graph).Has -/
def Try.pc29 : PC :=
  (.seq (.ops [⟨some 3, none, .bx 32 (.t 1)⟩, ⟨some 4, none, .mov (.v (.bool false))⟩])
  (.seq (.quiet2 1 14 [⟨some 5, none, .mov (.t 0)⟩, ⟨some 6, none, .call 48 [(.t 5)]⟩, ⟨some 7, none, .mov (.t 6)⟩, ⟨some 8, (some (7, true)), .ldA 33 (.t 3)⟩, ⟨some 9, (some (7, true)), .call 66 []⟩, ⟨some 10, (some (7, true)), .more (.eqD false 32 [.int .u8, .int .u8, .int .u8, .int .u8, .int .u8, .int .u8, .int .u8, .int .u8, .int .u8, .int .u8, .int .u8, .int .u8, .int .u8, .int .u8, .int .u8, .int .u8, .int .u8, .int .u8, .int .u8, .int .u8, .int .u8, .int .u8, .int .u8, .int .u8, .int .u8, .int .u8, .int .u8, .int .u8, .int .u8, .int .u8, .int .u8, .int .u8, .int .i64] (.t 8) (.t 9))⟩, ⟨some 11, (some (7, true)), .mov (.t 10)⟩, ⟨some 12, (some (11, false)), .ldA 33 (.t 3)⟩, ⟨some 13, (some (11, false)), .call 65 []⟩, ⟨some 14, (some (11, false)), .more (.eqD false 32 [.int .u8, .int .u8, .int .u8, .int .u8, .int .u8, .int .u8, .int .u8, .int .u8, .int .u8, .int .u8, .int .u8, .int .u8, .int .u8, .int .u8, .int .u8, .int .u8, .int .u8, .int .u8, .int .u8, .int .u8, .int .u8, .int .u8, .int .u8, .int .u8, .int .u8, .int .u8, .int .u8, .int .u8, .int .u8, .int .u8, .int .u8, .int .u8, .int .i64] (.t 12) (.t 13))⟩, ⟨some 15, (some (7, true)), .pick (.t 11) (.v (.bool true)) (.t 14)⟩, ⟨some 16, (some (7, true)), .mov (.t 15)⟩, ⟨some 17, (some (16, false)), .mov (.t 0)⟩, ⟨some 18, (some (16, false)), .ldA 33 (.t 3)⟩, ⟨some 19, (some (16, false)), .call 56 [(.t 17), (.t 18)]⟩, ⟨some 20, (some (7, true)), .pick (.t 16) (.v (.bool true)) (.t 19)⟩, ⟨some 21, none, .pick (.t 7) (.t 20) (.v (.bool false))⟩, ⟨some 4, none, .mov (.t 21)⟩])
  .ret))
theorem Try.known29 : Known Try.prog 29 Try.pc29 22 [4] := ⟨Try.f29, _, Try.func29, rfl, by kernel_rfl, rfl, rfl⟩
/-- (*redwax/graph.Graph).is -/
def Try.pc48 : PC :=
  (.seq (.ops [⟨some 2, none, .mov (.v (.bool false))⟩])
  (.seq (.ops [⟨some 3, none, .mov (.t 0)⟩, ⟨some 4, none, .eqP true (.t 3) (.v (.pointer none))⟩, ⟨some 5, none, .mov (.t 4)⟩, ⟨some 6, (some (5, true)), .mov (.t 0)⟩, ⟨some 7, (some (5, true)), .nilc (.t 6)⟩, ⟨some 8, (some (5, true)), .fa 0 (.t 7)⟩, ⟨some 9, (some (5, true)), .ld (.t 8)⟩, ⟨some 10, none, .pick (.t 5) (.t 9) (.v (.bool false))⟩, ⟨some 2, none, .mov (.t 10)⟩])
  .ret))
theorem Try.known48 : Known Try.prog 48 Try.pc48 11 [2] := ⟨Try.f48, _, Try.func48, rfl, by kernel_rfl, rfl, rfl⟩
/-- slices.Clone[[]redwax/api.Vertex,redwax/api.Vertex] -/
def Try.pc51 : PC :=
  (.seq (.ops [⟨some 2, none, .mov (.v (.slice none 0 0))⟩])
  (.seq (.seq (.ops [⟨some 3, none, .mov (.t 0)⟩, ⟨some 4, none, .more (.slNil false (.t 3))⟩])
  (.cond (.t 4) (.seq (.ops [⟨some 2, none, .mov (.v (.slice none 0 0))⟩])
   .ret) .skip))
  (.seq (.ops [⟨some 5, none, .bsl0 32⟩, ⟨some 6, none, .mov (.t 0)⟩, ⟨some 7, none, .app 34 32 33 40 (.agg #[.int .u8 0, .int .u8 0, .int .u8 0, .int .u8 0, .int .u8 0, .int .u8 0, .int .u8 0, .int .u8 0, .int .u8 0, .int .u8 0, .int .u8 0, .int .u8 0, .int .u8 0, .int .u8 0, .int .u8 0, .int .u8 0, .int .u8 0, .int .u8 0, .int .u8 0, .int .u8 0, .int .u8 0, .int .u8 0, .int .u8 0, .int .u8 0, .int .u8 0, .int .u8 0, .int .u8 0, .int .u8 0, .int .u8 0, .int .u8 0, .int .u8 0, .int .u8 0, .int .i64 0]) (.t 5) (.t 6)⟩, ⟨some 2, none, .mov (.t 7)⟩])
  .ret)))
theorem Try.known51 : Known Try.prog 51 Try.pc51 8 [2] := ⟨Try.f51, _, Try.func51, rfl, by kernel_rfl, rfl, rfl⟩
/-- (*redwax/graph.Graph).there -/
def Try.pc52 : PC :=
  (.seq (.ops [⟨some 3, none, .bx 36 (.t 1)⟩, ⟨some 4, none, .mov (.v (.bool false))⟩])
  (.seq (.seq (.quietR [0, 1, 3, 7, 0, 16, 0, 64, 240, 511, 1023, 2047, 2047, 0, 12287] 15 [⟨some 9, none, .mov (.t 0)⟩, ⟨some 10, none, .nilc (.t 9)⟩, ⟨some 11, none, .fa 1 (.t 10)⟩, ⟨some 12, none, .ld (.t 11)⟩, ⟨some 13, none, .fa 0 (.t 3)⟩, ⟨some 14, none, .ldA 32 (.t 13)⟩, ⟨some 15, none, .fa 32 (.t 3)⟩, ⟨some 16, none, .ld (.t 15)⟩, ⟨some 17, none, .build [.int .u8 0, .int .u8 0, .int .u8 0, .int .u8 0, .int .u8 0, .int .u8 0, .int .u8 0, .int .u8 0, .int .u8 0, .int .u8 0, .int .u8 0, .int .u8 0, .int .u8 0, .int .u8 0, .int .u8 0, .int .u8 0, .int .u8 0, .int .u8 0, .int .u8 0, .int .u8 0, .int .u8 0, .int .u8 0, .int .u8 0, .int .u8 0, .int .u8 0, .int .u8 0, .int .u8 0, .int .u8 0, .int .u8 0, .int .u8 0, .int .u8 0, .int .u8 0, .int .i64 0] [(0, 32, (.t 14)), (32, 1, (.t 16))]⟩, ⟨some 18, none, .more (.other (.gen (.lookup 54 (.tmp 12) (.tmp 17) true)))⟩, ⟨some 8, none, .mov (.t 18)⟩, ⟨some 19, none, .ext 0 (.t 8)⟩, ⟨some 20, none, .ext 1 (.t 8)⟩, ⟨some 5, none, .al 36 [.int .u8 0, .int .u8 0, .int .u8 0, .int .u8 0, .int .u8 0, .int .u8 0, .int .u8 0, .int .u8 0, .int .u8 0, .int .u8 0, .int .u8 0, .int .u8 0, .int .u8 0, .int .u8 0, .int .u8 0, .int .u8 0, .int .u8 0, .int .u8 0, .int .u8 0, .int .u8 0, .int .u8 0, .int .u8 0, .int .u8 0, .int .u8 0, .int .u8 0, .int .u8 0, .int .u8 0, .int .u8 0, .int .u8 0, .int .u8 0, .int .u8 0, .int .u8 0, .int .i64 0, .int .i64 0, .int .u8 0, .int .u8 0, .int .u8 0, .int .u8 0, .int .u8 0, .int .u8 0, .int .u8 0, .int .u8 0, .int .u8 0, .int .u8 0, .int .u8 0, .int .u8 0, .int .u8 0, .int .u8 0, .int .u8 0, .int .u8 0, .int .u8 0, .int .u8 0, .int .u8 0, .int .u8 0, .int .u8 0, .int .u8 0, .int .u8 0, .int .u8 0, .int .u8 0, .int .u8 0, .int .u8 0, .int .u8 0, .int .u8 0, .int .u8 0, .int .u8 0, .int .u8 0, .int .i64 0, .int .u8 0, .int .u8 0, .int .u8 0, .int .u8 0, .int .u8 0, .int .u8 0, .int .u8 0, .int .u8 0, .int .u8 0, .int .u8 0, .int .u8 0, .int .u8 0, .int .u8 0, .int .u8 0, .int .u8 0, .int .u8 0, .int .u8 0, .int .u8 0, .int .u8 0, .int .u8 0, .int .u8 0, .int .u8 0, .int .u8 0, .int .u8 0, .int .u8 0, .int .u8 0, .int .u8 0, .int .u8 0, .int .u8 0, .int .u8 0, .int .u8 0, .int .u8 0, .int .i64 0, .slice none 0 0, .slice none 0 0]⟩, ⟨none, none, .st 102 (.t 5) (.t 19)⟩, ⟨some 6, none, .mov (.t 20)⟩])
  (.seq (.ops [⟨some 21, none, .mov (.t 6)⟩])
  (.cond (.t 21) (.seq (.ops [⟨some 4, none, .mov (.v (.bool true))⟩])
   .ret) .skip)))
  (.seq (.seq (.ops [⟨some 22, none, .fa 100 (.t 3)⟩, ⟨some 23, none, .ld (.t 22)⟩, ⟨some 24, none, .lenS (.t 23)⟩, ⟨some 25, none, .mov (.v (.int .i64 0))⟩])
  (.block 0 (.loop (.seq (.ops [⟨some 26, none, .bin .lss (.t 25) (.t 24)⟩])
    (.seq (.cond (.t 26) .skip (.exit 0))
    (.seq (.block 1 (.seq (.ops [⟨some 27, none, .mov (.t 25)⟩, ⟨some 7, none, .mov (.t 27)⟩])
     (.seq (.ops [⟨some 28, none, .mov (.t 0)⟩, ⟨some 29, none, .ldA 102 (.t 3)⟩, ⟨some 30, none, .mov (.t 7)⟩, ⟨some 31, none, .call 58 [(.t 29), (.t 30)]⟩, ⟨some 32, none, .call 56 [(.t 28), (.t 31)]⟩])
     (.cond (.t 32) (.seq (.ops [⟨some 4, none, .mov (.v (.bool true))⟩])
      .ret) .skip))))
    (.ops [⟨some 33, none, .bin .add (.t 25) (.v (.int .i64 1))⟩, ⟨some 25, none, .mov (.t 33)⟩])))))))
  (.seq (.ops [⟨some 4, none, .mov (.v (.bool false))⟩])
  .ret))))
theorem Try.known52 : Known Try.prog 52 Try.pc52 34 [4] := ⟨Try.f52, _, Try.func52, rfl, by kernel_rfl, rfl, rfl⟩
/-- (redwax/graph.Part).formed -/
def Try.pc53 : PC :=
  (.seq (.ops [⟨some 1, none, .bx 36 (.t 0)⟩, ⟨some 2, none, .mov (.v (.bool false))⟩])
  (.seq (.seq (.ops [⟨some 5, none, .fa 101 (.t 1)⟩, ⟨some 6, none, .ld (.t 5)⟩, ⟨some 7, none, .lenS (.t 6)⟩, ⟨some 8, none, .mov (.v (.int .i64 0))⟩])
  (.block 0 (.loop (.seq (.ops [⟨some 9, none, .bin .lss (.t 8) (.t 7)⟩])
    (.seq (.cond (.t 9) .skip (.exit 0))
    (.seq (.block 1 (.seq (.ops [⟨some 10, none, .mov (.t 8)⟩, ⟨some 11, none, .ixS 33 (.t 6) (.t 8)⟩, ⟨some 12, none, .ldA 33 (.t 11)⟩, ⟨some 4, none, .al 32 [.int .u8 0, .int .u8 0, .int .u8 0, .int .u8 0, .int .u8 0, .int .u8 0, .int .u8 0, .int .u8 0, .int .u8 0, .int .u8 0, .int .u8 0, .int .u8 0, .int .u8 0, .int .u8 0, .int .u8 0, .int .u8 0, .int .u8 0, .int .u8 0, .int .u8 0, .int .u8 0, .int .u8 0, .int .u8 0, .int .u8 0, .int .u8 0, .int .u8 0, .int .u8 0, .int .u8 0, .int .u8 0, .int .u8 0, .int .u8 0, .int .u8 0, .int .u8 0, .int .i64 0]⟩, ⟨some 3, none, .mov (.t 10)⟩, ⟨none, none, .st 33 (.t 4) (.t 12)⟩])
     (.seq (.quiet2 1 14 [⟨some 13, none, .ldA 33 (.t 4)⟩, ⟨some 14, none, .call 66 []⟩, ⟨some 15, none, .more (.eqD false 32 [.int .u8, .int .u8, .int .u8, .int .u8, .int .u8, .int .u8, .int .u8, .int .u8, .int .u8, .int .u8, .int .u8, .int .u8, .int .u8, .int .u8, .int .u8, .int .u8, .int .u8, .int .u8, .int .u8, .int .u8, .int .u8, .int .u8, .int .u8, .int .u8, .int .u8, .int .u8, .int .u8, .int .u8, .int .u8, .int .u8, .int .u8, .int .u8, .int .i64] (.t 13) (.t 14))⟩, ⟨some 16, none, .mov (.t 15)⟩, ⟨some 17, (some (16, false)), .ldA 33 (.t 4)⟩, ⟨some 18, (some (16, false)), .call 65 []⟩, ⟨some 19, (some (16, false)), .more (.eqD false 32 [.int .u8, .int .u8, .int .u8, .int .u8, .int .u8, .int .u8, .int .u8, .int .u8, .int .u8, .int .u8, .int .u8, .int .u8, .int .u8, .int .u8, .int .u8, .int .u8, .int .u8, .int .u8, .int .u8, .int .u8, .int .u8, .int .u8, .int .u8, .int .u8, .int .u8, .int .u8, .int .u8, .int .u8, .int .u8, .int .u8, .int .u8, .int .u8, .int .i64] (.t 17) (.t 18))⟩, ⟨some 20, none, .pick (.t 16) (.v (.bool true)) (.t 19)⟩, ⟨some 21, none, .mov (.t 20)⟩, ⟨some 22, (some (21, false)), .fa 101 (.t 1)⟩, ⟨some 23, (some (21, false)), .ld (.t 22)⟩, ⟨some 24, (some (21, false)), .mov (.t 3)⟩, ⟨some 25, (some (21, false)), .slS 33 (.t 23) none (some (.t 24))⟩, ⟨some 26, (some (21, false)), .ldA 33 (.t 4)⟩, ⟨some 27, (some (21, false)), .call 85 [(.t 25), (.t 26)]⟩, ⟨some 28, none, .pick (.t 21) (.v (.bool true)) (.t 27)⟩])
     (.cond (.t 28) (.seq (.ops [⟨some 2, none, .mov (.v (.bool false))⟩])
      .ret) .skip))))
    (.ops [⟨some 29, none, .bin .add (.t 8) (.v (.int .i64 1))⟩, ⟨some 8, none, .mov (.t 29)⟩])))))))
  (.seq (.quiet2 6 13 [⟨some 30, none, .fa 33 (.t 1)⟩, ⟨some 31, none, .ld (.t 30)⟩, ⟨some 32, none, .bin .geq (.t 31) (.v (.int .i64 0))⟩, ⟨some 33, none, .mov (.t 32)⟩, ⟨some 34, (some (33, true)), .fa 34 (.t 1)⟩, ⟨some 35, (some (33, true)), .ldA 33 (.t 34)⟩, ⟨some 36, (some (33, true)), .call 65 []⟩, ⟨some 37, (some (33, true)), .more (.eqD true 32 [.int .u8, .int .u8, .int .u8, .int .u8, .int .u8, .int .u8, .int .u8, .int .u8, .int .u8, .int .u8, .int .u8, .int .u8, .int .u8, .int .u8, .int .u8, .int .u8, .int .u8, .int .u8, .int .u8, .int .u8, .int .u8, .int .u8, .int .u8, .int .u8, .int .u8, .int .u8, .int .u8, .int .u8, .int .u8, .int .u8, .int .u8, .int .u8, .int .i64] (.t 35) (.t 36))⟩, ⟨some 38, none, .pick (.t 33) (.t 37) (.v (.bool false))⟩, ⟨some 39, none, .mov (.t 38)⟩, ⟨some 40, (some (39, true)), .fa 67 (.t 1)⟩, ⟨some 41, (some (39, true)), .ldA 33 (.t 40)⟩, ⟨some 42, (some (39, true)), .call 66 []⟩, ⟨some 43, (some (39, true)), .more (.eqD true 32 [.int .u8, .int .u8, .int .u8, .int .u8, .int .u8, .int .u8, .int .u8, .int .u8, .int .u8, .int .u8, .int .u8, .int .u8, .int .u8, .int .u8, .int .u8, .int .u8, .int .u8, .int .u8, .int .u8, .int .u8, .int .u8, .int .u8, .int .u8, .int .u8, .int .u8, .int .u8, .int .u8, .int .u8, .int .u8, .int .u8, .int .u8, .int .u8, .int .i64] (.t 41) (.t 42))⟩, ⟨some 44, none, .pick (.t 39) (.t 43) (.v (.bool false))⟩, ⟨some 2, none, .mov (.t 44)⟩])
  .ret)))
theorem Try.known53 : Known Try.prog 53 Try.pc53 45 [2] := ⟨Try.f53, _, Try.func53, rfl, by kernel_rfl, rfl, rfl⟩
/-- slices.ContainsFunc[[]redwax/api.Vertex,redwax/api.Vertex] -/
def Try.pc54 : PC :=
  (.seq (.ops [⟨some 4, none, .mov (.v (.bool false))⟩])
  (.seq (.ops [⟨some 5, none, .mov (.t 0)⟩, ⟨some 6, none, .mov (.t 1)⟩, ⟨some 7, none, .call 86 [(.t 5), (.t 6)]⟩, ⟨some 8, none, .bin .geq (.t 7) (.v (.int .i64 0))⟩, ⟨some 4, none, .mov (.t 8)⟩])
  .ret))
theorem Try.known54 : Known Try.prog 54 Try.pc54 9 [4] := ⟨Try.f54, _, Try.func54, rfl, by kernel_rfl, rfl, rfl⟩
/-- (*redwax/graph.Graph).Add$1 -/
def Try.pc55 : PC :=
  (.seq (.ops [⟨some 2, none, .bx 32 (.t 0)⟩, ⟨some 3, none, .mov (.v (.bool false))⟩])
  (.seq (.ops [⟨some 4, none, .ld (.t 1)⟩, ⟨some 5, none, .ldA 33 (.t 2)⟩, ⟨some 6, none, .call 56 [(.t 4), (.t 5)]⟩, ⟨some 7, none, .not (.t 6)⟩, ⟨some 3, none, .mov (.t 7)⟩])
  .ret))
theorem Try.known55 : Known Try.prog 55 Try.pc55 8 [3] := ⟨Try.f55, _, Try.func55, rfl, by kernel_rfl, rfl, rfl⟩
/-- (*redwax/graph.Graph).line -/
def Try.pc56 : PC :=
  (.seq (.ops [⟨some 3, none, .bx 32 (.t 1)⟩, ⟨some 4, none, .mov (.v (.bool false))⟩])
  (.seq (.quietR [0, 1, 3, 7, 0, 31, 63, 127, 127, 0, 767] 11 [⟨some 8, none, .mov (.t 0)⟩, ⟨some 9, none, .nilc (.t 8)⟩, ⟨some 10, none, .fa 2 (.t 9)⟩, ⟨some 11, none, .ld (.t 10)⟩, ⟨some 12, none, .ldA 33 (.t 3)⟩, ⟨some 13, none, .more (.other (.gen (.lookup 55 (.tmp 11) (.tmp 12) true)))⟩, ⟨some 7, none, .mov (.t 13)⟩, ⟨some 14, none, .ext 0 (.t 7)⟩, ⟨some 15, none, .ext 1 (.t 7)⟩, ⟨some 5, none, .al 100 [.string ⟨#[]⟩, .int .i64 0, .int .i64 0, .slice none 0 0]⟩, ⟨none, none, .st 4 (.t 5) (.t 14)⟩, ⟨some 6, none, .mov (.t 15)⟩])
  (.seq (.ops [⟨some 16, none, .mov (.t 6)⟩, ⟨some 4, none, .mov (.t 16)⟩])
  .ret)))
theorem Try.known56 : Known Try.prog 56 Try.pc56 17 [4] := ⟨Try.f56, _, Try.func56, rfl, by kernel_rfl, rfl, rfl⟩
/-- slices.Clone[[]string,string] -/
def Try.pc57 : PC :=
  (.seq (.ops [⟨some 2, none, .mov (.v (.slice none 0 0))⟩])
  (.seq (.seq (.ops [⟨some 3, none, .mov (.t 0)⟩, ⟨some 4, none, .more (.slNil false (.t 3))⟩])
  (.cond (.t 4) (.seq (.ops [⟨some 2, none, .mov (.v (.slice none 0 0))⟩])
   .ret) .skip))
  (.seq (.ops [⟨some 5, none, .bsl0 9⟩, ⟨some 6, none, .mov (.t 0)⟩, ⟨some 7, none, .app 33 9 1 16 (.string ⟨#[]⟩) (.t 5) (.t 6)⟩, ⟨some 2, none, .mov (.t 7)⟩])
  .ret)))
theorem Try.known57 : Known Try.prog 57 Try.pc57 8 [2] := ⟨Try.f57, _, Try.func57, rfl, by kernel_rfl, rfl, rfl⟩
/-- (redwax/graph.Part).vertex -/
def Try.pc58 : PC :=
  (.seq (.ops [⟨some 2, none, .bx 36 (.t 0)⟩, ⟨some 4, none, .al 32 [.int .u8 0, .int .u8 0, .int .u8 0, .int .u8 0, .int .u8 0, .int .u8 0, .int .u8 0, .int .u8 0, .int .u8 0, .int .u8 0, .int .u8 0, .int .u8 0, .int .u8 0, .int .u8 0, .int .u8 0, .int .u8 0, .int .u8 0, .int .u8 0, .int .u8 0, .int .u8 0, .int .u8 0, .int .u8 0, .int .u8 0, .int .u8 0, .int .u8 0, .int .u8 0, .int .u8 0, .int .u8 0, .int .u8 0, .int .u8 0, .int .u8 0, .int .u8 0, .int .i64 0]⟩])
  (.seq (.ops [⟨some 5, none, .fa 0 (.t 2)⟩, ⟨some 6, none, .ldA 32 (.t 5)⟩, ⟨some 7, none, .fa 33 (.t 2)⟩, ⟨some 8, none, .ld (.t 7)⟩, ⟨some 9, none, .mov (.t 1)⟩, ⟨some 10, none, .bin .add (.t 8) (.t 9)⟩, ⟨some 11, none, .build [.int .u8 0, .int .u8 0, .int .u8 0, .int .u8 0, .int .u8 0, .int .u8 0, .int .u8 0, .int .u8 0, .int .u8 0, .int .u8 0, .int .u8 0, .int .u8 0, .int .u8 0, .int .u8 0, .int .u8 0, .int .u8 0, .int .u8 0, .int .u8 0, .int .u8 0, .int .u8 0, .int .u8 0, .int .u8 0, .int .u8 0, .int .u8 0, .int .u8 0, .int .u8 0, .int .u8 0, .int .u8 0, .int .u8 0, .int .u8 0, .int .u8 0, .int .u8 0, .int .i64 0] [(0, 32, (.t 6)), (32, 1, (.t 10))]⟩, ⟨none, none, .st 33 (.t 4) (.t 11)⟩])
  .ret))
theorem Try.known58 : KnownC Try.prog 58 Try.pc58 12 4 (some 33) := ⟨Try.f58, _, _, Try.func58, rfl, by kernel_rfl, rfl, rfl, by kernel_rfl⟩
/-- (*redwax/graph.Graph).links -/
def Try.pc59 : PC :=
  (.seq (.ops [⟨some 4, none, .bx 36 (.t 1)⟩])
  (.seq (.seq (.ops [⟨some 9, none, .fa 100 (.t 4)⟩, ⟨some 10, none, .ld (.t 9)⟩, ⟨some 11, none, .lenS (.t 10)⟩, ⟨some 12, none, .bin .eql (.t 11) (.v (.int .i64 0))⟩])
  (.cond (.t 12) .ret .skip))
  (.seq (.ops [⟨some 13, none, .fa 34 (.t 4)⟩, ⟨some 14, none, .ldA 33 (.t 13)⟩, ⟨some 15, none, .bsl 32 [.int .u8 0, .int .u8 0, .int .u8 0, .int .u8 0, .int .u8 0, .int .u8 0, .int .u8 0, .int .u8 0, .int .u8 0, .int .u8 0, .int .u8 0, .int .u8 0, .int .u8 0, .int .u8 0, .int .u8 0, .int .u8 0, .int .u8 0, .int .u8 0, .int .u8 0, .int .u8 0, .int .u8 0, .int .u8 0, .int .u8 0, .int .u8 0, .int .u8 0, .int .u8 0, .int .u8 0, .int .u8 0, .int .u8 0, .int .u8 0, .int .u8 0, .int .u8 0, .int .i64 0] 1 [(0, 33, (.t 14))]⟩, ⟨some 6, none, .mov (.t 15)⟩])
  (.seq (.seq (.ops [⟨some 16, none, .fa 100 (.t 4)⟩, ⟨some 17, none, .ld (.t 16)⟩, ⟨some 18, none, .lenS (.t 17)⟩, ⟨some 19, none, .mov (.v (.int .i64 0))⟩])
  (.block 0 (.loop (.seq (.ops [⟨some 20, none, .bin .lss (.t 19) (.t 18)⟩])
    (.seq (.cond (.t 20) .skip (.exit 0))
    (.seq (.block 1 (.seq (.ops [⟨some 21, none, .mov (.t 19)⟩, ⟨some 7, none, .mov (.t 21)⟩])
     (.ops [⟨some 22, none, .mov (.t 6)⟩, ⟨some 23, none, .ldA 102 (.t 4)⟩, ⟨some 24, none, .mov (.t 7)⟩, ⟨some 25, none, .call 58 [(.t 23), (.t 24)]⟩, ⟨some 26, none, .bsl 32 [.int .u8 0, .int .u8 0, .int .u8 0, .int .u8 0, .int .u8 0, .int .u8 0, .int .u8 0, .int .u8 0, .int .u8 0, .int .u8 0, .int .u8 0, .int .u8 0, .int .u8 0, .int .u8 0, .int .u8 0, .int .u8 0, .int .u8 0, .int .u8 0, .int .u8 0, .int .u8 0, .int .u8 0, .int .u8 0, .int .u8 0, .int .u8 0, .int .u8 0, .int .u8 0, .int .u8 0, .int .u8 0, .int .u8 0, .int .u8 0, .int .u8 0, .int .u8 0, .int .i64 0] 1 [(0, 33, (.t 25))]⟩, ⟨some 27, none, .app 34 32 33 40 (.agg #[.int .u8 0, .int .u8 0, .int .u8 0, .int .u8 0, .int .u8 0, .int .u8 0, .int .u8 0, .int .u8 0, .int .u8 0, .int .u8 0, .int .u8 0, .int .u8 0, .int .u8 0, .int .u8 0, .int .u8 0, .int .u8 0, .int .u8 0, .int .u8 0, .int .u8 0, .int .u8 0, .int .u8 0, .int .u8 0, .int .u8 0, .int .u8 0, .int .u8 0, .int .u8 0, .int .u8 0, .int .u8 0, .int .u8 0, .int .u8 0, .int .u8 0, .int .u8 0, .int .i64 0]) (.t 22) (.t 26)⟩, ⟨some 6, none, .mov (.t 27)⟩])))
    (.ops [⟨some 28, none, .bin .add (.t 19) (.v (.int .i64 1))⟩, ⟨some 19, none, .mov (.t 28)⟩])))))))
  (.seq (.ops [⟨some 29, none, .mov (.t 6)⟩, ⟨some 30, none, .fa 67 (.t 4)⟩, ⟨some 31, none, .ldA 33 (.t 30)⟩, ⟨some 32, none, .bsl 32 [.int .u8 0, .int .u8 0, .int .u8 0, .int .u8 0, .int .u8 0, .int .u8 0, .int .u8 0, .int .u8 0, .int .u8 0, .int .u8 0, .int .u8 0, .int .u8 0, .int .u8 0, .int .u8 0, .int .u8 0, .int .u8 0, .int .u8 0, .int .u8 0, .int .u8 0, .int .u8 0, .int .u8 0, .int .u8 0, .int .u8 0, .int .u8 0, .int .u8 0, .int .u8 0, .int .u8 0, .int .u8 0, .int .u8 0, .int .u8 0, .int .u8 0, .int .u8 0, .int .i64 0] 1 [(0, 33, (.t 31))]⟩, ⟨some 33, none, .app 34 32 33 40 (.agg #[.int .u8 0, .int .u8 0, .int .u8 0, .int .u8 0, .int .u8 0, .int .u8 0, .int .u8 0, .int .u8 0, .int .u8 0, .int .u8 0, .int .u8 0, .int .u8 0, .int .u8 0, .int .u8 0, .int .u8 0, .int .u8 0, .int .u8 0, .int .u8 0, .int .u8 0, .int .u8 0, .int .u8 0, .int .u8 0, .int .u8 0, .int .u8 0, .int .u8 0, .int .u8 0, .int .u8 0, .int .u8 0, .int .u8 0, .int .u8 0, .int .u8 0, .int .u8 0, .int .i64 0]) (.t 29) (.t 32)⟩, ⟨some 6, none, .mov (.t 33)⟩])
  (.seq (.ops [⟨some 8, none, .mov (.v (.int .i64 1))⟩])
  (.block 2 (.loop (.seq (.seq (.ops [⟨some 34, none, .mov (.t 8)⟩, ⟨some 35, none, .mov (.t 6)⟩, ⟨some 36, none, .lenS (.t 35)⟩, ⟨some 37, none, .bin .lss (.t 34) (.t 36)⟩])
    (.cond (.t 37) .skip (.exit 2)))
    (.seq (.block 3 (.quiet 11 [⟨some 40, none, .mov (.t 0)⟩, ⟨some 41, none, .mov (.t 6)⟩, ⟨some 42, none, .mov (.t 8)⟩, ⟨some 43, none, .bin .sub (.t 42) (.v (.int .i64 1))⟩, ⟨some 44, none, .ixS 33 (.t 41) (.t 43)⟩, ⟨some 45, none, .ldA 33 (.t 44)⟩, ⟨some 46, none, .mov (.t 6)⟩, ⟨some 47, none, .mov (.t 8)⟩, ⟨some 48, none, .ixS 33 (.t 46) (.t 47)⟩, ⟨some 49, none, .ldA 33 (.t 48)⟩, ⟨some 50, none, .mov (.t 2)⟩, ⟨some 51, none, .call 87 [(.t 40), (.t 45), (.t 49), (.t 50)]⟩]))
    (.ops [⟨some 38, none, .mov (.t 8)⟩, ⟨some 39, none, .bin .add (.t 38) (.v (.int .i64 1))⟩, ⟨some 8, none, .mov (.t 39)⟩])))))))))))
theorem Try.known59 : Known Try.prog 59 Try.pc59 52 [] := ⟨Try.f59, _, Try.func59, rfl, by kernel_rfl, rfl, rfl⟩
/-- (*redwax/graph.Graph).count -/
def Try.pc60 : PC :=
  (.seq (.ops [⟨some 4, none, .bx 36 (.t 1)⟩])
  (.seq (.seq (.ops [⟨some 13, none, .fa 34 (.t 4)⟩, ⟨some 14, none, .ldA 33 (.t 13)⟩, ⟨some 15, none, .fa 67 (.t 4)⟩, ⟨some 16, none, .ldA 33 (.t 15)⟩, ⟨some 17, none, .bsl 32 [.int .u8 0, .int .u8 0, .int .u8 0, .int .u8 0, .int .u8 0, .int .u8 0, .int .u8 0, .int .u8 0, .int .u8 0, .int .u8 0, .int .u8 0, .int .u8 0, .int .u8 0, .int .u8 0, .int .u8 0, .int .u8 0, .int .u8 0, .int .u8 0, .int .u8 0, .int .u8 0, .int .u8 0, .int .u8 0, .int .u8 0, .int .u8 0, .int .u8 0, .int .u8 0, .int .u8 0, .int .u8 0, .int .u8 0, .int .u8 0, .int .u8 0, .int .u8 0, .int .i64 0, .int .u8 0, .int .u8 0, .int .u8 0, .int .u8 0, .int .u8 0, .int .u8 0, .int .u8 0, .int .u8 0, .int .u8 0, .int .u8 0, .int .u8 0, .int .u8 0, .int .u8 0, .int .u8 0, .int .u8 0, .int .u8 0, .int .u8 0, .int .u8 0, .int .u8 0, .int .u8 0, .int .u8 0, .int .u8 0, .int .u8 0, .int .u8 0, .int .u8 0, .int .u8 0, .int .u8 0, .int .u8 0, .int .u8 0, .int .u8 0, .int .u8 0, .int .u8 0, .int .i64 0] 2 [(0, 33, (.t 14)), (33, 33, (.t 16))]⟩, ⟨some 18, none, .fa 101 (.t 4)⟩, ⟨some 19, none, .ld (.t 18)⟩, ⟨some 20, none, .app 34 32 33 40 (.agg #[.int .u8 0, .int .u8 0, .int .u8 0, .int .u8 0, .int .u8 0, .int .u8 0, .int .u8 0, .int .u8 0, .int .u8 0, .int .u8 0, .int .u8 0, .int .u8 0, .int .u8 0, .int .u8 0, .int .u8 0, .int .u8 0, .int .u8 0, .int .u8 0, .int .u8 0, .int .u8 0, .int .u8 0, .int .u8 0, .int .u8 0, .int .u8 0, .int .u8 0, .int .u8 0, .int .u8 0, .int .u8 0, .int .u8 0, .int .u8 0, .int .u8 0, .int .u8 0, .int .i64 0]) (.t 17) (.t 19)⟩, ⟨some 21, none, .lenS (.t 20)⟩, ⟨some 22, none, .mov (.v (.int .i64 0))⟩])
  (.block 0 (.loop (.seq (.ops [⟨some 23, none, .bin .lss (.t 22) (.t 21)⟩])
    (.seq (.cond (.t 23) .skip (.exit 0))
    (.seq (.block 1 (.seq (.ops [⟨some 24, none, .ixS 33 (.t 20) (.t 22)⟩, ⟨some 25, none, .ldA 33 (.t 24)⟩, ⟨some 7, none, .al 32 [.int .u8 0, .int .u8 0, .int .u8 0, .int .u8 0, .int .u8 0, .int .u8 0, .int .u8 0, .int .u8 0, .int .u8 0, .int .u8 0, .int .u8 0, .int .u8 0, .int .u8 0, .int .u8 0, .int .u8 0, .int .u8 0, .int .u8 0, .int .u8 0, .int .u8 0, .int .u8 0, .int .u8 0, .int .u8 0, .int .u8 0, .int .u8 0, .int .u8 0, .int .u8 0, .int .u8 0, .int .u8 0, .int .u8 0, .int .u8 0, .int .u8 0, .int .u8 0, .int .i64 0]⟩, ⟨none, none, .st 33 (.t 7) (.t 25)⟩])
     (.seq (.quietR [0, 1, 3, 7, 0, 31, 63, 127, 127, 0, 767] 11 [⟨some 27, none, .mov (.t 0)⟩, ⟨some 28, none, .nilc (.t 27)⟩, ⟨some 29, none, .fa 2 (.t 28)⟩, ⟨some 30, none, .ld (.t 29)⟩, ⟨some 31, none, .ldA 33 (.t 7)⟩, ⟨some 32, none, .more (.other (.gen (.lookup 55 (.tmp 30) (.tmp 31) true)))⟩, ⟨some 26, none, .mov (.t 32)⟩, ⟨some 33, none, .ext 0 (.t 26)⟩, ⟨some 34, none, .ext 1 (.t 26)⟩, ⟨some 8, none, .al 100 [.string ⟨#[]⟩, .int .i64 0, .int .i64 0, .slice none 0 0]⟩, ⟨none, none, .st 4 (.t 8) (.t 33)⟩, ⟨some 9, none, .mov (.t 34)⟩])
     (.seq (.ops [⟨some 35, none, .mov (.t 9)⟩])
     (.cond (.t 35) (.seq (.ops [⟨some 36, none, .fa 2 (.t 8)⟩, ⟨some 37, none, .ld (.t 36)⟩, ⟨some 38, none, .mov (.t 2)⟩, ⟨some 39, none, .bin .add (.t 37) (.t 38)⟩, ⟨some 40, none, .fa 2 (.t 8)⟩, ⟨none, none, .st 1 (.t 40) (.t 39)⟩])
      (.quiet 6 [⟨some 41, none, .mov (.t 0)⟩, ⟨some 42, none, .nilc (.t 41)⟩, ⟨some 43, none, .fa 2 (.t 42)⟩, ⟨some 44, none, .ld (.t 43)⟩, ⟨some 45, none, .ldA 33 (.t 7)⟩, ⟨some 46, none, .ldA 4 (.t 8)⟩, ⟨none, none, .more (.other (.gen (.mapUpdate 55 (.tmp 44) (.tmp 45) (.tmp 46))))⟩])) .skip)))))
    (.ops [⟨some 47, none, .bin .add (.t 22) (.v (.int .i64 1))⟩, ⟨some 22, none, .mov (.t 47)⟩])))))))
  (.seq (.ops [⟨some 48, none, .fa 101 (.t 4)⟩, ⟨some 49, none, .ld (.t 48)⟩, ⟨some 50, none, .lenS (.t 49)⟩, ⟨some 51, none, .mov (.v (.int .i64 0))⟩])
  (.block 2 (.loop (.seq (.ops [⟨some 52, none, .bin .lss (.t 51) (.t 50)⟩])
    (.seq (.cond (.t 52) .skip (.exit 2))
    (.seq (.block 3 (.seq (.ops [⟨some 53, none, .ixS 33 (.t 49) (.t 51)⟩, ⟨some 54, none, .ldA 33 (.t 53)⟩, ⟨some 11, none, .al 32 [.int .u8 0, .int .u8 0, .int .u8 0, .int .u8 0, .int .u8 0, .int .u8 0, .int .u8 0, .int .u8 0, .int .u8 0, .int .u8 0, .int .u8 0, .int .u8 0, .int .u8 0, .int .u8 0, .int .u8 0, .int .u8 0, .int .u8 0, .int .u8 0, .int .u8 0, .int .u8 0, .int .u8 0, .int .u8 0, .int .u8 0, .int .u8 0, .int .u8 0, .int .u8 0, .int .u8 0, .int .u8 0, .int .u8 0, .int .u8 0, .int .u8 0, .int .u8 0, .int .i64 0]⟩, ⟨none, none, .st 33 (.t 11) (.t 54)⟩])
     (.seq (.quiet 7 [⟨some 55, none, .mov (.t 0)⟩, ⟨some 56, none, .nilc (.t 55)⟩, ⟨some 57, none, .fa 2 (.t 56)⟩, ⟨some 58, none, .ld (.t 57)⟩, ⟨some 59, none, .ldA 33 (.t 11)⟩, ⟨some 60, none, .more (.other (.gen (.lookup 55 (.tmp 58) (.tmp 59) false)))⟩, ⟨some 12, none, .al 100 [.string ⟨#[]⟩, .int .i64 0, .int .i64 0, .slice none 0 0]⟩, ⟨none, none, .st 4 (.t 12) (.t 60)⟩])
     (.seq (.ops [⟨some 61, none, .fa 1 (.t 12)⟩, ⟨some 62, none, .ld (.t 61)⟩, ⟨some 63, none, .mov (.t 2)⟩, ⟨some 64, none, .bin .add (.t 62) (.t 63)⟩, ⟨some 65, none, .fa 1 (.t 12)⟩, ⟨none, none, .st 1 (.t 65) (.t 64)⟩])
     (.quiet 6 [⟨some 66, none, .mov (.t 0)⟩, ⟨some 67, none, .nilc (.t 66)⟩, ⟨some 68, none, .fa 2 (.t 67)⟩, ⟨some 69, none, .ld (.t 68)⟩, ⟨some 70, none, .ldA 33 (.t 11)⟩, ⟨some 71, none, .ldA 4 (.t 12)⟩, ⟨none, none, .more (.other (.gen (.mapUpdate 55 (.tmp 69) (.tmp 70) (.tmp 71))))⟩])))))
    (.ops [⟨some 72, none, .bin .add (.t 51) (.v (.int .i64 1))⟩, ⟨some 51, none, .mov (.t 72)⟩])))))))))
theorem Try.known60 : Known Try.prog 60 Try.pc60 73 [] := ⟨Try.f60, _, Try.func60, rfl, by kernel_rfl, rfl, rfl⟩
/-- (*redwax/graph.Graph).ahead -/
def Try.pc61 : PC :=
  (.seq (.ops [⟨some 2, none, .mov (.v (.map none))⟩])
  (.seq (.ops [⟨some 9, none, .mov (.t 0)⟩, ⟨some 10, none, .nilc (.t 9)⟩, ⟨some 11, none, .fa 2 (.t 10)⟩, ⟨some 12, none, .ld (.t 11)⟩, ⟨some 13, none, .lenM (.t 12)⟩, ⟨some 14, none, .more (.other (.gen (.makeMap 107 (some (.tmp 13)))))⟩, ⟨some 3, none, .mov (.t 14)⟩])
  (.seq (.seq (.ops [⟨some 15, none, .mov (.t 0)⟩, ⟨some 16, none, .nilc (.t 15)⟩, ⟨some 17, none, .fa 2 (.t 16)⟩, ⟨some 18, none, .ld (.t 17)⟩, ⟨some 19, none, .more (.other (.gen (.range 55 (.tmp 18))))⟩])
  (.block 0 (.loop (.seq (.ops [⟨some 20, none, .more (.other (.gen (.next (.tmp 19) false)))⟩, ⟨some 21, none, .ext 0 (.t 20)⟩])
    (.seq (.cond (.t 21) .skip (.exit 0))
    (.block 1 (.seq (.ops [⟨some 22, none, .more (.other (.gen (.entry (.tmp 19))))⟩, ⟨some 23, none, .ext 0 (.t 22)⟩, ⟨some 4, none, .al 32 [.int .u8 0, .int .u8 0, .int .u8 0, .int .u8 0, .int .u8 0, .int .u8 0, .int .u8 0, .int .u8 0, .int .u8 0, .int .u8 0, .int .u8 0, .int .u8 0, .int .u8 0, .int .u8 0, .int .u8 0, .int .u8 0, .int .u8 0, .int .u8 0, .int .u8 0, .int .u8 0, .int .u8 0, .int .u8 0, .int .u8 0, .int .u8 0, .int .u8 0, .int .u8 0, .int .u8 0, .int .u8 0, .int .u8 0, .int .u8 0, .int .u8 0, .int .u8 0, .int .i64 0]⟩, ⟨none, none, .st 33 (.t 4) (.t 23)⟩])
     (.quietR [0, 0, 3, 7, 3, 19] 6 [⟨some 24, none, .mov (.t 3)⟩, ⟨some 25, none, .ldA 33 (.t 4)⟩, ⟨some 26, none, .more (.other (.gen (.lookup 107 (.tmp 24) (.tmp 25) false)))⟩, ⟨some 27, none, .bin .add (.t 26) (.v (.int .i64 0))⟩, ⟨some 28, none, .more (.other (.gen (.mapEntry 107 (.tmp 24) (.tmp 25))))⟩, ⟨some 29, none, .ext 1 (.t 28)⟩, ⟨none, none, .more (.other (.gen (.entryStore 107 (.tmp 24) (.tmp 29) (.tmp 27))))⟩]))))))))
  (.seq (.seq (.ops [⟨some 30, none, .mov (.t 0)⟩, ⟨some 31, none, .nilc (.t 30)⟩, ⟨some 32, none, .fa 2 (.t 31)⟩, ⟨some 33, none, .ld (.t 32)⟩, ⟨some 34, none, .more (.other (.gen (.range 55 (.tmp 33))))⟩])
  (.block 2 (.loop (.seq (.ops [⟨some 35, none, .more (.other (.gen (.next (.tmp 34) false)))⟩, ⟨some 36, none, .ext 0 (.t 35)⟩])
    (.seq (.cond (.t 36) .skip (.exit 2))
    (.block 3 (.seq (.ops [⟨some 37, none, .more (.other (.gen (.entry (.tmp 34))))⟩, ⟨some 38, none, .ext 1 (.t 37)⟩, ⟨some 6, none, .al 100 [.string ⟨#[]⟩, .int .i64 0, .int .i64 0, .slice none 0 0]⟩, ⟨none, none, .st 4 (.t 6) (.t 38)⟩])
     (.seq (.ops [⟨some 39, none, .fa 3 (.t 6)⟩, ⟨some 40, none, .ld (.t 39)⟩, ⟨some 41, none, .lenS (.t 40)⟩, ⟨some 42, none, .mov (.v (.int .i64 0))⟩])
     (.block 4 (.loop (.seq (.ops [⟨some 43, none, .bin .lss (.t 42) (.t 41)⟩])
       (.seq (.cond (.t 43) .skip (.exit 4))
       (.seq (.block 5 (.seq (.ops [⟨some 44, none, .ixS 33 (.t 40) (.t 42)⟩, ⟨some 45, none, .ldA 33 (.t 44)⟩, ⟨some 8, none, .al 32 [.int .u8 0, .int .u8 0, .int .u8 0, .int .u8 0, .int .u8 0, .int .u8 0, .int .u8 0, .int .u8 0, .int .u8 0, .int .u8 0, .int .u8 0, .int .u8 0, .int .u8 0, .int .u8 0, .int .u8 0, .int .u8 0, .int .u8 0, .int .u8 0, .int .u8 0, .int .u8 0, .int .u8 0, .int .u8 0, .int .u8 0, .int .u8 0, .int .u8 0, .int .u8 0, .int .u8 0, .int .u8 0, .int .u8 0, .int .u8 0, .int .u8 0, .int .u8 0, .int .i64 0]⟩, ⟨none, none, .st 33 (.t 8) (.t 45)⟩])
        (.quietR [0, 0, 3, 7, 3, 19] 6 [⟨some 46, none, .mov (.t 3)⟩, ⟨some 47, none, .ldA 33 (.t 8)⟩, ⟨some 48, none, .more (.other (.gen (.lookup 107 (.tmp 46) (.tmp 47) false)))⟩, ⟨some 49, none, .bin .add (.t 48) (.v (.int .i64 1))⟩, ⟨some 50, none, .more (.other (.gen (.mapEntry 107 (.tmp 46) (.tmp 47))))⟩, ⟨some 51, none, .ext 1 (.t 50)⟩, ⟨none, none, .more (.other (.gen (.entryStore 107 (.tmp 46) (.tmp 51) (.tmp 49))))⟩])))
       (.ops [⟨some 52, none, .bin .add (.t 42) (.v (.int .i64 1))⟩, ⟨some 42, none, .mov (.t 52)⟩]))))))))))))))
  (.seq (.ops [⟨some 53, none, .mov (.t 3)⟩, ⟨some 2, none, .mov (.t 53)⟩])
  .ret)))))
theorem Try.known61 : Known Try.prog 61 Try.pc61 54 [2] := ⟨Try.f61, _, Try.func61, rfl, by kernel_rfl, rfl, rfl⟩
/-- container/heap.Push -/
def Try.pc62 : PC :=
  (.seq (.ops [⟨some 4, none, .mov (.t 0)⟩, ⟨some 5, none, .mov (.t 1)⟩, ⟨some 6, none, .more (.other (.gen (.call { callee := (.invoke (.tmp 4) "Push"), args := #[(.tmp 5)], argTypes := #[20] })))⟩])
  (.ops [⟨some 7, none, .mov (.t 0)⟩, ⟨some 8, none, .mov (.t 0)⟩, ⟨some 9, none, .more (.other (.gen (.call { callee := (.invoke (.tmp 8) "Len"), args := #[], argTypes := #[] })))⟩, ⟨some 10, none, .bin .sub (.t 9) (.v (.int .i64 1))⟩, ⟨some 11, none, .call 88 [(.t 7), (.t 10)]⟩]))
theorem Try.known62 : Known Try.prog 62 Try.pc62 12 [] := ⟨Try.f62, _, Try.func62, rfl, by kernel_rfl, rfl, rfl⟩
/-- (redwax/graph.waiting).Len -/
def Try.pc63 : PC :=
  (.seq (.ops [⟨some 2, none, .mov (.v (.int .i64 0))⟩])
  (.seq (.ops [⟨some 3, none, .mov (.t 0)⟩, ⟨some 4, none, .lenS (.t 3)⟩, ⟨some 2, none, .mov (.t 4)⟩])
  .ret))
theorem Try.known63 : Known Try.prog 63 Try.pc63 5 [2] := ⟨Try.f63, _, Try.func63, rfl, by kernel_rfl, rfl, rfl⟩
/-- container/heap.Pop -/
def Try.pc64 : PC :=
  (.seq (.ops [⟨some 2, none, .mov (.v .nilIface)⟩])
  (.seq (.ops [⟨some 4, none, .mov (.t 0)⟩, ⟨some 5, none, .more (.other (.gen (.call { callee := (.invoke (.tmp 4) "Len"), args := #[], argTypes := #[] })))⟩, ⟨some 6, none, .bin .sub (.t 5) (.v (.int .i64 1))⟩, ⟨some 3, none, .mov (.t 6)⟩])
  (.seq (.ops [⟨some 7, none, .mov (.t 0)⟩, ⟨some 8, none, .mov (.t 3)⟩, ⟨some 9, none, .more (.other (.gen (.call { callee := (.invoke (.tmp 7) "Swap"), args := #[(.const (.int .i64 0)), (.tmp 8)], argTypes := #[3, 3] })))⟩])
  (.seq (.ops [⟨some 10, none, .mov (.t 0)⟩, ⟨some 11, none, .mov (.t 3)⟩, ⟨some 12, none, .call 89 [(.t 10), (.v (.int .i64 0)), (.t 11)]⟩])
  (.seq (.ops [⟨some 13, none, .mov (.t 0)⟩, ⟨some 14, none, .more (.other (.gen (.call { callee := (.invoke (.tmp 13) "Pop"), args := #[], argTypes := #[] })))⟩, ⟨some 2, none, .mov (.t 14)⟩])
  .ret)))))
theorem Try.known64 : Known Try.prog 64 Try.pc64 15 [2] := ⟨Try.f64, _, Try.func64, rfl, by kernel_rfl, rfl, rfl⟩
/-- redwax/graph.end -/
def Try.pc65 : PC :=
  (.seq (.ops [⟨some 0, none, .al 32 [.int .u8 0, .int .u8 0, .int .u8 0, .int .u8 0, .int .u8 0, .int .u8 0, .int .u8 0, .int .u8 0, .int .u8 0, .int .u8 0, .int .u8 0, .int .u8 0, .int .u8 0, .int .u8 0, .int .u8 0, .int .u8 0, .int .u8 0, .int .u8 0, .int .u8 0, .int .u8 0, .int .u8 0, .int .u8 0, .int .u8 0, .int .u8 0, .int .u8 0, .int .u8 0, .int .u8 0, .int .u8 0, .int .u8 0, .int .u8 0, .int .u8 0, .int .u8 0, .int .i64 0]⟩])
  (.seq (.ops [⟨some 1, none, .build [.int .u8 0, .int .u8 0, .int .u8 0, .int .u8 0, .int .u8 0, .int .u8 0, .int .u8 0, .int .u8 0, .int .u8 0, .int .u8 0, .int .u8 0, .int .u8 0, .int .u8 0, .int .u8 0, .int .u8 0, .int .u8 0, .int .u8 0, .int .u8 0, .int .u8 0, .int .u8 0, .int .u8 0, .int .u8 0, .int .u8 0, .int .u8 0, .int .u8 0, .int .u8 0, .int .u8 0, .int .u8 0, .int .u8 0, .int .u8 0, .int .u8 0, .int .u8 0, .int .i64 0] [(32, 1, (.v (.int .i64 (-2))))]⟩, ⟨none, none, .st 33 (.t 0) (.t 1)⟩])
  .ret))
theorem Try.known65 : KnownC Try.prog 65 Try.pc65 2 0 (some 33) := ⟨Try.f65, _, _, Try.func65, rfl, by kernel_rfl, rfl, rfl, by kernel_rfl⟩
/-- redwax/graph.root -/
def Try.pc66 : PC :=
  (.seq (.ops [⟨some 0, none, .al 32 [.int .u8 0, .int .u8 0, .int .u8 0, .int .u8 0, .int .u8 0, .int .u8 0, .int .u8 0, .int .u8 0, .int .u8 0, .int .u8 0, .int .u8 0, .int .u8 0, .int .u8 0, .int .u8 0, .int .u8 0, .int .u8 0, .int .u8 0, .int .u8 0, .int .u8 0, .int .u8 0, .int .u8 0, .int .u8 0, .int .u8 0, .int .u8 0, .int .u8 0, .int .u8 0, .int .u8 0, .int .u8 0, .int .u8 0, .int .u8 0, .int .u8 0, .int .u8 0, .int .i64 0]⟩])
  (.seq (.ops [⟨some 1, none, .build [.int .u8 0, .int .u8 0, .int .u8 0, .int .u8 0, .int .u8 0, .int .u8 0, .int .u8 0, .int .u8 0, .int .u8 0, .int .u8 0, .int .u8 0, .int .u8 0, .int .u8 0, .int .u8 0, .int .u8 0, .int .u8 0, .int .u8 0, .int .u8 0, .int .u8 0, .int .u8 0, .int .u8 0, .int .u8 0, .int .u8 0, .int .u8 0, .int .u8 0, .int .u8 0, .int .u8 0, .int .u8 0, .int .u8 0, .int .u8 0, .int .u8 0, .int .u8 0, .int .i64 0] [(32, 1, (.v (.int .i64 (-1))))]⟩, ⟨none, none, .st 33 (.t 0) (.t 1)⟩])
  .ret))
theorem Try.known66 : KnownC Try.prog 66 Try.pc66 2 0 (some 33) := ⟨Try.f66, _, _, Try.func66, rfl, by kernel_rfl, rfl, rfl, by kernel_rfl⟩
/-- (*redwax/graph.Graph).behind -/
def Try.pc67 : PC :=
  (.seq (.ops [⟨some 3, none, .bx 32 (.t 1)⟩, ⟨some 4, none, .mov (.v (.slice none 0 0))⟩])
  (.seq (.seq (.quiet 2 [⟨some 5, none, .ldA 33 (.t 3)⟩, ⟨some 6, none, .call 66 []⟩, ⟨some 7, none, .more (.eqD false 32 [.int .u8, .int .u8, .int .u8, .int .u8, .int .u8, .int .u8, .int .u8, .int .u8, .int .u8, .int .u8, .int .u8, .int .u8, .int .u8, .int .u8, .int .u8, .int .u8, .int .u8, .int .u8, .int .u8, .int .u8, .int .u8, .int .u8, .int .u8, .int .u8, .int .u8, .int .u8, .int .u8, .int .u8, .int .u8, .int .u8, .int .u8, .int .u8, .int .i64] (.t 5) (.t 6))⟩])
  (.cond (.t 7) (.seq (.ops [⟨some 8, none, .mov (.t 0)⟩, ⟨some 9, none, .nilc (.t 8)⟩, ⟨some 10, none, .fa 3 (.t 9)⟩, ⟨some 11, none, .ld (.t 10)⟩, ⟨some 4, none, .mov (.t 11)⟩])
   .ret) .skip))
  (.seq (.quiet 5 [⟨some 12, none, .mov (.t 0)⟩, ⟨some 13, none, .nilc (.t 12)⟩, ⟨some 14, none, .fa 2 (.t 13)⟩, ⟨some 15, none, .ld (.t 14)⟩, ⟨some 16, none, .ldA 33 (.t 3)⟩, ⟨some 17, none, .more (.other (.gen (.lookup 55 (.tmp 15) (.tmp 16) false)))⟩, ⟨some 18, none, .fld 3 (.t 17)⟩, ⟨some 4, none, .mov (.t 18)⟩])
  .ret)))
theorem Try.known67 : Known Try.prog 67 Try.pc67 19 [4] := ⟨Try.f67, _, Try.func67, rfl, by kernel_rfl, rfl, rfl⟩
/-- slices.Contains[[]redwax/api.Vertex,redwax/api.Vertex] -/
def Try.pc85 : PC :=
  (.seq (.ops [⟨some 3, none, .bx 32 (.t 1)⟩, ⟨some 4, none, .mov (.v (.bool false))⟩])
  (.seq (.ops [⟨some 5, none, .mov (.t 0)⟩, ⟨some 6, none, .ldA 33 (.t 3)⟩, ⟨some 7, none, .call 110 [(.t 5), (.t 6)]⟩, ⟨some 8, none, .bin .geq (.t 7) (.v (.int .i64 0))⟩, ⟨some 4, none, .mov (.t 8)⟩])
  .ret))
theorem Try.known85 : Known Try.prog 85 Try.pc85 9 [4] := ⟨Try.f85, _, Try.func85, rfl, by kernel_rfl, rfl, rfl⟩
/-- slices.IndexFunc[[]redwax/api.Vertex,redwax/api.Vertex] -/
def Try.pc86 : PC :=
  (.seq (.ops [⟨some 4, none, .mov (.v (.int .i64 0))⟩])
  (.seq (.seq (.ops [⟨some 6, none, .mov (.t 0)⟩, ⟨some 7, none, .lenS (.t 6)⟩, ⟨some 8, none, .mov (.v (.int .i64 0))⟩])
  (.block 0 (.loop (.seq (.ops [⟨some 9, none, .bin .lss (.t 8) (.t 7)⟩])
    (.seq (.cond (.t 9) .skip (.exit 0))
    (.seq (.block 1 (.seq (.ops [⟨some 10, none, .mov (.t 8)⟩, ⟨some 5, none, .mov (.t 10)⟩])
     (.seq (.ops [⟨some 11, none, .mov (.t 1)⟩, ⟨some 12, none, .mov (.t 0)⟩, ⟨some 13, none, .mov (.t 5)⟩, ⟨some 14, none, .ixS 33 (.t 12) (.t 13)⟩, ⟨some 15, none, .ldA 33 (.t 14)⟩, ⟨some 16, none, .callv (.t 11) [(.t 15)]⟩])
     (.cond (.t 16) (.seq (.ops [⟨some 17, none, .mov (.t 5)⟩, ⟨some 4, none, .mov (.t 17)⟩])
      .ret) .skip))))
    (.ops [⟨some 18, none, .bin .add (.t 8) (.v (.int .i64 1))⟩, ⟨some 8, none, .mov (.t 18)⟩])))))))
  (.seq (.ops [⟨some 4, none, .mov (.v (.int .i64 (-1)))⟩])
  .ret)))
theorem Try.known86 : Known Try.prog 86 Try.pc86 19 [4] := ⟨Try.f86, _, Try.func86, rfl, by kernel_rfl, rfl, rfl⟩
/-- (*redwax/graph.Graph).link -/
def Try.pc87 : PC :=
  (.seq (.ops [⟨some 5, none, .bx 32 (.t 1)⟩, ⟨some 6, none, .bx 32 (.t 2)⟩])
  (.seq (.ops [⟨some 11, none, .mov (.t 0)⟩, ⟨some 12, none, .ldA 33 (.t 5)⟩, ⟨some 13, none, .call 67 [(.t 11), (.t 12)]⟩, ⟨some 14, none, .call 51 [(.t 13)]⟩, ⟨some 8, none, .mov (.t 14)⟩])
  (.seq (.seq (.ops [⟨some 15, none, .mov (.t 3)⟩])
  (.cond (.t 15) (.ops [⟨some 16, none, .mov (.t 8)⟩, ⟨some 17, none, .ldA 33 (.t 6)⟩, ⟨some 18, none, .bsl 32 [.int .u8 0, .int .u8 0, .int .u8 0, .int .u8 0, .int .u8 0, .int .u8 0, .int .u8 0, .int .u8 0, .int .u8 0, .int .u8 0, .int .u8 0, .int .u8 0, .int .u8 0, .int .u8 0, .int .u8 0, .int .u8 0, .int .u8 0, .int .u8 0, .int .u8 0, .int .u8 0, .int .u8 0, .int .u8 0, .int .u8 0, .int .u8 0, .int .u8 0, .int .u8 0, .int .u8 0, .int .u8 0, .int .u8 0, .int .u8 0, .int .u8 0, .int .u8 0, .int .i64 0] 1 [(0, 33, (.t 17))]⟩, ⟨some 19, none, .app 34 32 33 40 (.agg #[.int .u8 0, .int .u8 0, .int .u8 0, .int .u8 0, .int .u8 0, .int .u8 0, .int .u8 0, .int .u8 0, .int .u8 0, .int .u8 0, .int .u8 0, .int .u8 0, .int .u8 0, .int .u8 0, .int .u8 0, .int .u8 0, .int .u8 0, .int .u8 0, .int .u8 0, .int .u8 0, .int .u8 0, .int .u8 0, .int .u8 0, .int .u8 0, .int .u8 0, .int .u8 0, .int .u8 0, .int .u8 0, .int .u8 0, .int .u8 0, .int .u8 0, .int .u8 0, .int .i64 0]) (.t 16) (.t 18)⟩, ⟨some 8, none, .mov (.t 19)⟩]) (.seq (.ops [⟨some 20, none, .mov (.t 8)⟩, ⟨some 21, none, .ldA 33 (.t 6)⟩, ⟨some 22, none, .call 110 [(.t 20), (.t 21)]⟩, ⟨some 9, none, .mov (.t 22)⟩])
   (.seq (.ops [⟨some 23, none, .mov (.t 9)⟩, ⟨some 24, none, .bin .geq (.t 23) (.v (.int .i64 0))⟩])
   (.cond (.t 24) (.ops [⟨some 25, none, .mov (.t 8)⟩, ⟨some 26, none, .mov (.t 9)⟩, ⟨some 27, none, .mov (.t 9)⟩, ⟨some 28, none, .bin .add (.t 27) (.v (.int .i64 1))⟩, ⟨some 29, none, .call 111 [(.t 25), (.t 26), (.t 28)]⟩, ⟨some 8, none, .mov (.t 29)⟩]) .skip)))))
  (.seq (.seq (.quiet 2 [⟨some 30, none, .ldA 33 (.t 5)⟩, ⟨some 31, none, .call 66 []⟩, ⟨some 32, none, .more (.eqD false 32 [.int .u8, .int .u8, .int .u8, .int .u8, .int .u8, .int .u8, .int .u8, .int .u8, .int .u8, .int .u8, .int .u8, .int .u8, .int .u8, .int .u8, .int .u8, .int .u8, .int .u8, .int .u8, .int .u8, .int .u8, .int .u8, .int .u8, .int .u8, .int .u8, .int .u8, .int .u8, .int .u8, .int .u8, .int .u8, .int .u8, .int .u8, .int .u8, .int .i64] (.t 30) (.t 31))⟩])
  (.cond (.t 32) (.seq (.ops [⟨some 33, none, .mov (.t 0)⟩, ⟨some 34, none, .mov (.t 8)⟩, ⟨some 35, none, .nilc (.t 33)⟩, ⟨some 36, none, .fa 3 (.t 35)⟩, ⟨none, none, .st 1 (.t 36) (.t 34)⟩])
   .ret) .skip))
  (.seq (.quiet 7 [⟨some 37, none, .mov (.t 0)⟩, ⟨some 38, none, .nilc (.t 37)⟩, ⟨some 39, none, .fa 2 (.t 38)⟩, ⟨some 40, none, .ld (.t 39)⟩, ⟨some 41, none, .ldA 33 (.t 5)⟩, ⟨some 42, none, .more (.other (.gen (.lookup 55 (.tmp 40) (.tmp 41) false)))⟩, ⟨some 10, none, .al 100 [.string ⟨#[]⟩, .int .i64 0, .int .i64 0, .slice none 0 0]⟩, ⟨none, none, .st 4 (.t 10) (.t 42)⟩])
  (.seq (.ops [⟨some 43, none, .mov (.t 8)⟩, ⟨some 44, none, .fa 3 (.t 10)⟩, ⟨none, none, .st 1 (.t 44) (.t 43)⟩])
  (.quiet 6 [⟨some 45, none, .mov (.t 0)⟩, ⟨some 46, none, .nilc (.t 45)⟩, ⟨some 47, none, .fa 2 (.t 46)⟩, ⟨some 48, none, .ld (.t 47)⟩, ⟨some 49, none, .ldA 33 (.t 5)⟩, ⟨some 50, none, .ldA 4 (.t 10)⟩, ⟨none, none, .more (.other (.gen (.mapUpdate 55 (.tmp 48) (.tmp 49) (.tmp 50))))⟩])))))))
theorem Try.known87 : Known Try.prog 87 Try.pc87 51 [] := ⟨Try.f87, _, Try.func87, rfl, by kernel_rfl, rfl, rfl⟩
/-- container/heap.up -/
def Try.pc88 : PC :=
  (.block 0 (.loop (.block 1 (.seq (.ops [⟨some 5, none, .mov (.t 1)⟩, ⟨some 6, none, .bin .sub (.t 5) (.v (.int .i64 1))⟩, ⟨some 7, none, .bin .quo (.t 6) (.v (.int .i64 2))⟩, ⟨some 4, none, .mov (.t 7)⟩])
     (.seq (.seq (.ops [⟨some 8, none, .mov (.t 4)⟩, ⟨some 9, none, .mov (.t 1)⟩, ⟨some 10, none, .bin .eql (.t 8) (.t 9)⟩, ⟨some 11, none, .mov (.t 10)⟩, ⟨some 12, (some (11, false)), .mov (.t 0)⟩, ⟨some 13, (some (11, false)), .mov (.t 1)⟩, ⟨some 14, (some (11, false)), .mov (.t 4)⟩, ⟨some 15, (some (11, false)), .more (.other (.gen (.call { callee := (.invoke (.tmp 12) "Less"), args := #[(.tmp 13), (.tmp 14)], argTypes := #[3, 3] })))⟩, ⟨some 16, (some (11, false)), .not (.t 15)⟩, ⟨some 17, none, .pick (.t 11) (.v (.bool true)) (.t 16)⟩])
     (.cond (.t 17) (.exit 0) .skip))
     (.seq (.ops [⟨some 18, none, .mov (.t 0)⟩, ⟨some 19, none, .mov (.t 4)⟩, ⟨some 20, none, .mov (.t 1)⟩, ⟨some 21, none, .more (.other (.gen (.call { callee := (.invoke (.tmp 18) "Swap"), args := #[(.tmp 19), (.tmp 20)], argTypes := #[3, 3] })))⟩])
     (.ops [⟨some 22, none, .mov (.t 4)⟩, ⟨some 1, none, .mov (.t 22)⟩])))))))
theorem Try.known88 : Known Try.prog 88 Try.pc88 23 [] := ⟨Try.f88, _, Try.func88, rfl, by kernel_rfl, rfl, rfl⟩
/-- container/heap.down -/
def Try.pc89 : PC :=
  (.seq (.ops [⟨some 6, none, .mov (.v (.bool false))⟩])
  (.seq (.ops [⟨some 11, none, .mov (.t 1)⟩, ⟨some 7, none, .mov (.t 11)⟩])
  (.seq (.block 0 (.loop (.block 1 (.seq (.ops [⟨some 12, none, .mov (.t 7)⟩, ⟨some 13, none, .bin .mul (.v (.int .i64 2)) (.t 12)⟩, ⟨some 14, none, .bin .add (.t 13) (.v (.int .i64 1))⟩, ⟨some 8, none, .mov (.t 14)⟩])
     (.seq (.seq (.ops [⟨some 15, none, .mov (.t 8)⟩, ⟨some 16, none, .mov (.t 2)⟩, ⟨some 17, none, .bin .geq (.t 15) (.t 16)⟩, ⟨some 18, none, .mov (.t 17)⟩, ⟨some 19, (some (18, false)), .mov (.t 8)⟩, ⟨some 20, (some (18, false)), .bin .lss (.t 19) (.v (.int .i64 0))⟩, ⟨some 21, none, .pick (.t 18) (.v (.bool true)) (.t 20)⟩])
     (.cond (.t 21) (.exit 0) .skip))
     (.seq (.ops [⟨some 22, none, .mov (.t 8)⟩, ⟨some 9, none, .mov (.t 22)⟩])
     (.seq (.seq (.ops [⟨some 23, none, .mov (.t 8)⟩, ⟨some 24, none, .bin .add (.t 23) (.v (.int .i64 1))⟩, ⟨some 10, none, .mov (.t 24)⟩])
     (.seq (.ops [⟨some 25, none, .mov (.t 10)⟩, ⟨some 26, none, .mov (.t 2)⟩, ⟨some 27, none, .bin .lss (.t 25) (.t 26)⟩, ⟨some 28, none, .mov (.t 27)⟩, ⟨some 29, (some (28, true)), .mov (.t 0)⟩, ⟨some 30, (some (28, true)), .mov (.t 10)⟩, ⟨some 31, (some (28, true)), .mov (.t 8)⟩, ⟨some 32, (some (28, true)), .more (.other (.gen (.call { callee := (.invoke (.tmp 29) "Less"), args := #[(.tmp 30), (.tmp 31)], argTypes := #[3, 3] })))⟩, ⟨some 33, none, .pick (.t 28) (.t 32) (.v (.bool false))⟩])
     (.cond (.t 33) (.ops [⟨some 34, none, .mov (.t 10)⟩, ⟨some 9, none, .mov (.t 34)⟩]) .skip)))
     (.seq (.seq (.ops [⟨some 35, none, .mov (.t 0)⟩, ⟨some 36, none, .mov (.t 9)⟩, ⟨some 37, none, .mov (.t 7)⟩, ⟨some 38, none, .more (.other (.gen (.call { callee := (.invoke (.tmp 35) "Less"), args := #[(.tmp 36), (.tmp 37)], argTypes := #[3, 3] })))⟩, ⟨some 39, none, .not (.t 38)⟩])
     (.cond (.t 39) (.exit 0) .skip))
     (.seq (.ops [⟨some 40, none, .mov (.t 0)⟩, ⟨some 41, none, .mov (.t 7)⟩, ⟨some 42, none, .mov (.t 9)⟩, ⟨some 43, none, .more (.other (.gen (.call { callee := (.invoke (.tmp 40) "Swap"), args := #[(.tmp 41), (.tmp 42)], argTypes := #[3, 3] })))⟩])
     (.ops [⟨some 44, none, .mov (.t 9)⟩, ⟨some 7, none, .mov (.t 44)⟩]))))))))))
  (.seq (.ops [⟨some 45, none, .mov (.t 7)⟩, ⟨some 46, none, .mov (.t 1)⟩, ⟨some 47, none, .bin .gtr (.t 45) (.t 46)⟩, ⟨some 6, none, .mov (.t 47)⟩])
  .ret))))
theorem Try.known89 : Known Try.prog 89 Try.pc89 48 [6] := ⟨Try.f89, _, Try.func89, rfl, by kernel_rfl, rfl, rfl⟩
/-- redwax/graph.Order -/
def Try.pc109 : PC :=
  (.seq (.ops [⟨some 2, none, .bx 32 (.t 0)⟩, ⟨some 3, none, .bx 32 (.t 1)⟩, ⟨some 4, none, .mov (.v (.int .i64 0))⟩])
  (.seq (.quiet 9 [⟨some 5, none, .fa 0 (.t 2)⟩, ⟨some 6, none, .slA 32 (.t 5)⟩, ⟨some 7, none, .fa 0 (.t 3)⟩, ⟨some 8, none, .slA 32 (.t 7)⟩, ⟨some 9, none, .call 124 [(.t 6), (.t 8)]⟩, ⟨some 10, none, .fa 32 (.t 2)⟩, ⟨some 11, none, .ld (.t 10)⟩, ⟨some 12, none, .fa 32 (.t 3)⟩, ⟨some 13, none, .ld (.t 12)⟩, ⟨some 14, none, .call 125 [(.t 11), (.t 13)]⟩, ⟨some 15, none, .bsl 3 [.int .i64 0, .int .i64 0] 2 [(0, 1, (.t 9)), (1, 1, (.t 14))]⟩, ⟨some 16, none, .call 123 [(.t 15)]⟩, ⟨some 4, none, .mov (.t 16)⟩])
  .ret))
theorem Try.known109 : Known Try.prog 109 Try.pc109 17 [4] := ⟨Try.f109, _, Try.func109, rfl, by kernel_rfl, rfl, rfl⟩
/-- slices.Index[[]redwax/api.Vertex,redwax/api.Vertex] -/
def Try.pc110 : PC :=
  (.seq (.ops [⟨some 3, none, .bx 32 (.t 1)⟩, ⟨some 4, none, .mov (.v (.int .i64 0))⟩])
  (.seq (.seq (.ops [⟨some 6, none, .mov (.t 0)⟩, ⟨some 7, none, .lenS (.t 6)⟩, ⟨some 8, none, .mov (.v (.int .i64 0))⟩])
  (.block 0 (.loop (.seq (.ops [⟨some 9, none, .bin .lss (.t 8) (.t 7)⟩])
    (.seq (.cond (.t 9) .skip (.exit 0))
    (.seq (.block 1 (.seq (.ops [⟨some 10, none, .mov (.t 8)⟩, ⟨some 5, none, .mov (.t 10)⟩])
     (.seq (.quiet 5 [⟨some 11, none, .ldA 33 (.t 3)⟩, ⟨some 12, none, .mov (.t 0)⟩, ⟨some 13, none, .mov (.t 5)⟩, ⟨some 14, none, .ixS 33 (.t 12) (.t 13)⟩, ⟨some 15, none, .ldA 33 (.t 14)⟩, ⟨some 16, none, .more (.eqD false 32 [.int .u8, .int .u8, .int .u8, .int .u8, .int .u8, .int .u8, .int .u8, .int .u8, .int .u8, .int .u8, .int .u8, .int .u8, .int .u8, .int .u8, .int .u8, .int .u8, .int .u8, .int .u8, .int .u8, .int .u8, .int .u8, .int .u8, .int .u8, .int .u8, .int .u8, .int .u8, .int .u8, .int .u8, .int .u8, .int .u8, .int .u8, .int .u8, .int .i64] (.t 11) (.t 15))⟩])
     (.cond (.t 16) (.seq (.ops [⟨some 17, none, .mov (.t 5)⟩, ⟨some 4, none, .mov (.t 17)⟩])
      .ret) .skip))))
    (.ops [⟨some 18, none, .bin .add (.t 8) (.v (.int .i64 1))⟩, ⟨some 8, none, .mov (.t 18)⟩])))))))
  (.seq (.ops [⟨some 4, none, .mov (.v (.int .i64 (-1)))⟩])
  .ret)))
theorem Try.known110 : Known Try.prog 110 Try.pc110 19 [4] := ⟨Try.f110, _, Try.func110, rfl, by kernel_rfl, rfl, rfl⟩
/-- slices.Delete[[]redwax/api.Vertex,redwax/api.Vertex] -/
def Try.pc111 : PC :=
  (.seq (.ops [⟨some 6, none, .mov (.v (.slice none 0 0))⟩])
  (.seq (.ops [⟨some 8, none, .mov (.t 0)⟩, ⟨some 9, none, .mov (.t 1)⟩, ⟨some 10, none, .mov (.t 2)⟩, ⟨some 11, none, .mov (.t 0)⟩, ⟨some 12, none, .lenS (.t 11)⟩, ⟨some 13, none, .more (.other (.gen (.slice 34 (.tmp 8) (some (.tmp 9)) (some (.tmp 10)) (some (.tmp 12)))))⟩])
  (.seq (.seq (.ops [⟨some 14, none, .mov (.t 1)⟩, ⟨some 15, none, .mov (.t 2)⟩, ⟨some 16, none, .bin .eql (.t 14) (.t 15)⟩])
  (.cond (.t 16) (.seq (.ops [⟨some 17, none, .mov (.t 0)⟩, ⟨some 6, none, .mov (.t 17)⟩])
   .ret) .skip))
  (.seq (.ops [⟨some 18, none, .mov (.t 0)⟩, ⟨some 19, none, .lenS (.t 18)⟩, ⟨some 7, none, .mov (.t 19)⟩])
  (.seq (.quiet 6 [⟨some 20, none, .mov (.t 0)⟩, ⟨some 21, none, .mov (.t 1)⟩, ⟨some 22, none, .slS 33 (.t 20) none (some (.t 21))⟩, ⟨some 23, none, .mov (.t 0)⟩, ⟨some 24, none, .mov (.t 2)⟩, ⟨some 25, none, .slS 33 (.t 23) (some (.t 24)) none⟩, ⟨some 26, none, .app 34 32 33 40 (.agg #[.int .u8 0, .int .u8 0, .int .u8 0, .int .u8 0, .int .u8 0, .int .u8 0, .int .u8 0, .int .u8 0, .int .u8 0, .int .u8 0, .int .u8 0, .int .u8 0, .int .u8 0, .int .u8 0, .int .u8 0, .int .u8 0, .int .u8 0, .int .u8 0, .int .u8 0, .int .u8 0, .int .u8 0, .int .u8 0, .int .u8 0, .int .u8 0, .int .u8 0, .int .u8 0, .int .u8 0, .int .u8 0, .int .u8 0, .int .u8 0, .int .u8 0, .int .u8 0, .int .i64 0]) (.t 22) (.t 25)⟩, ⟨some 0, none, .mov (.t 26)⟩])
  (.seq (.ops [⟨some 27, none, .mov (.t 0)⟩, ⟨some 28, none, .mov (.t 0)⟩, ⟨some 29, none, .lenS (.t 28)⟩, ⟨some 30, none, .mov (.t 7)⟩, ⟨some 31, none, .slS 33 (.t 27) (some (.t 29)) (some (.t 30))⟩, ⟨none, none, .more (.clr 32 33 (.agg #[.int .u8 0, .int .u8 0, .int .u8 0, .int .u8 0, .int .u8 0, .int .u8 0, .int .u8 0, .int .u8 0, .int .u8 0, .int .u8 0, .int .u8 0, .int .u8 0, .int .u8 0, .int .u8 0, .int .u8 0, .int .u8 0, .int .u8 0, .int .u8 0, .int .u8 0, .int .u8 0, .int .u8 0, .int .u8 0, .int .u8 0, .int .u8 0, .int .u8 0, .int .u8 0, .int .u8 0, .int .u8 0, .int .u8 0, .int .u8 0, .int .u8 0, .int .u8 0, .int .i64 0]) (.t 31))⟩])
  (.seq (.ops [⟨some 32, none, .mov (.t 0)⟩, ⟨some 6, none, .mov (.t 32)⟩])
  .ret)))))))
theorem Try.known111 : Known Try.prog 111 Try.pc111 33 [6] := ⟨Try.f111, _, Try.func111, rfl, by kernel_rfl, rfl, rfl⟩
/-- cmp.Or[int] -/
def Try.pc123 : PC :=
  (.seq (.ops [⟨some 2, none, .mov (.v (.int .i64 0))⟩])
  (.seq (.ops [⟨some 3, none, .mov (.v (.int .i64 0))⟩])
  (.seq (.seq (.ops [⟨some 6, none, .mov (.t 0)⟩, ⟨some 7, none, .lenS (.t 6)⟩, ⟨some 8, none, .mov (.v (.int .i64 0))⟩])
  (.block 0 (.loop (.seq (.ops [⟨some 9, none, .bin .lss (.t 8) (.t 7)⟩])
    (.seq (.cond (.t 9) .skip (.exit 0))
    (.seq (.block 1 (.seq (.ops [⟨some 10, none, .ixS 1 (.t 6) (.t 8)⟩, ⟨some 11, none, .ld (.t 10)⟩, ⟨some 5, none, .mov (.t 11)⟩])
     (.seq (.ops [⟨some 12, none, .mov (.t 5)⟩, ⟨some 13, none, .mov (.t 3)⟩, ⟨some 14, none, .bin .neq (.t 12) (.t 13)⟩])
     (.cond (.t 14) (.seq (.ops [⟨some 15, none, .mov (.t 5)⟩, ⟨some 2, none, .mov (.t 15)⟩])
      .ret) .skip))))
    (.ops [⟨some 16, none, .bin .add (.t 8) (.v (.int .i64 1))⟩, ⟨some 8, none, .mov (.t 16)⟩])))))))
  (.seq (.ops [⟨some 17, none, .mov (.t 3)⟩, ⟨some 2, none, .mov (.t 17)⟩])
  .ret))))
theorem Try.known123 : Known Try.prog 123 Try.pc123 18 [2] := ⟨Try.f123, _, Try.func123, rfl, by kernel_rfl, rfl, rfl⟩
/-- bytes.Compare -/
def Try.pc124 : PC :=
  (.seq (.ops [⟨some 4, none, .mov (.v (.int .i64 0))⟩])
  (.seq (.ops [⟨some 5, none, .mov (.t 0)⟩, ⟨some 6, none, .mov (.t 1)⟩, ⟨some 7, none, .more (.other (.xf 137 [(.t 5), (.t 6)]))⟩, ⟨some 4, none, .mov (.t 7)⟩])
  .ret))
theorem Try.known124 : Known Try.prog 124 Try.pc124 8 [4] := ⟨Try.f124, _, Try.func124, rfl, by kernel_rfl, rfl, rfl⟩
/-- cmp.Compare[int] -/
def Try.pc125 : PC :=
  (.seq (.ops [⟨some 4, none, .mov (.v (.int .i64 0))⟩])
  (.seq (.ops [⟨some 7, none, .mov (.t 0)⟩, ⟨some 8, none, .call 138 [(.t 7)]⟩, ⟨some 5, none, .mov (.t 8)⟩])
  (.seq (.ops [⟨some 9, none, .mov (.t 1)⟩, ⟨some 10, none, .call 138 [(.t 9)]⟩, ⟨some 6, none, .mov (.t 10)⟩])
  (.seq (.seq (.ops [⟨some 11, none, .mov (.t 5)⟩])
  (.cond (.t 11) (.seq (.seq (.ops [⟨some 12, none, .mov (.t 6)⟩])
   (.cond (.t 12) (.seq (.ops [⟨some 4, none, .mov (.v (.int .i64 0))⟩])
    .ret) .skip))
   (.seq (.ops [⟨some 4, none, .mov (.v (.int .i64 (-1)))⟩])
   .ret)) .skip))
  (.seq (.seq (.ops [⟨some 13, none, .mov (.t 6)⟩])
  (.cond (.t 13) (.seq (.ops [⟨some 4, none, .mov (.v (.int .i64 1))⟩])
   .ret) .skip))
  (.seq (.seq (.ops [⟨some 14, none, .mov (.t 0)⟩, ⟨some 15, none, .mov (.t 1)⟩, ⟨some 16, none, .bin .lss (.t 14) (.t 15)⟩])
  (.cond (.t 16) (.seq (.ops [⟨some 4, none, .mov (.v (.int .i64 (-1)))⟩])
   .ret) .skip))
  (.seq (.seq (.ops [⟨some 17, none, .mov (.t 0)⟩, ⟨some 18, none, .mov (.t 1)⟩, ⟨some 19, none, .bin .gtr (.t 17) (.t 18)⟩])
  (.cond (.t 19) (.seq (.ops [⟨some 4, none, .mov (.v (.int .i64 1))⟩])
   .ret) .skip))
  (.seq (.ops [⟨some 4, none, .mov (.v (.int .i64 0))⟩])
  .ret))))))))
theorem Try.known125 : Known Try.prog 125 Try.pc125 20 [4] := ⟨Try.f125, _, Try.func125, rfl, by kernel_rfl, rfl, rfl⟩
/-- cmp.isNaN[int] -/
def Try.pc138 : PC :=
  (.seq (.ops [⟨some 2, none, .mov (.v (.bool false))⟩])
  (.seq (.ops [⟨some 3, none, .mov (.t 0)⟩, ⟨some 4, none, .mov (.t 0)⟩, ⟨some 5, none, .bin .neq (.t 3) (.t 4)⟩, ⟨some 2, none, .mov (.t 5)⟩])
  .ret))
theorem Try.known138 : Known Try.prog 138 Try.pc138 6 [2] := ⟨Try.f138, _, Try.func138, rfl, by kernel_rfl, rfl, rfl⟩
/-- (redwax/graph.waiting).Less -/
def Try.pc161 : PC :=
  (.seq (.ops [⟨some 6, none, .mov (.v (.bool false))⟩])
  (.seq (.quiet 8 [⟨some 7, none, .mov (.t 0)⟩, ⟨some 8, none, .mov (.t 1)⟩, ⟨some 9, none, .ixS 33 (.t 7) (.t 8)⟩, ⟨some 10, none, .ldA 33 (.t 9)⟩, ⟨some 11, none, .mov (.t 0)⟩, ⟨some 12, none, .mov (.t 2)⟩, ⟨some 13, none, .ixS 33 (.t 11) (.t 12)⟩, ⟨some 14, none, .ldA 33 (.t 13)⟩, ⟨some 15, none, .call 109 [(.t 10), (.t 14)]⟩, ⟨some 16, none, .bin .lss (.t 15) (.v (.int .i64 0))⟩, ⟨some 6, none, .mov (.t 16)⟩])
  .ret))
theorem Try.known161 : Known Try.prog 161 Try.pc161 17 [6] := ⟨Try.f161, _, Try.func161, rfl, by kernel_rfl, rfl, rfl⟩
/-- (*redwax/graph.waiting).Pop -/
def Try.pc162 : PC :=
  (.seq (.ops [⟨some 2, none, .mov (.v .nilIface)⟩])
  (.seq (.ops [⟨some 5, none, .mov (.t 0)⟩, ⟨some 6, none, .nilc (.t 5)⟩, ⟨some 7, none, .ld (.t 6)⟩, ⟨some 8, none, .lenS (.t 7)⟩, ⟨some 9, none, .bin .sub (.t 8) (.v (.int .i64 1))⟩, ⟨some 3, none, .mov (.t 9)⟩])
  (.seq (.ops [⟨some 10, none, .mov (.t 0)⟩, ⟨some 11, none, .nilc (.t 10)⟩, ⟨some 12, none, .ld (.t 11)⟩, ⟨some 13, none, .mov (.t 3)⟩, ⟨some 14, none, .ixS 33 (.t 12) (.t 13)⟩, ⟨some 15, none, .ldA 33 (.t 14)⟩, ⟨some 4, none, .al 32 [.int .u8 0, .int .u8 0, .int .u8 0, .int .u8 0, .int .u8 0, .int .u8 0, .int .u8 0, .int .u8 0, .int .u8 0, .int .u8 0, .int .u8 0, .int .u8 0, .int .u8 0, .int .u8 0, .int .u8 0, .int .u8 0, .int .u8 0, .int .u8 0, .int .u8 0, .int .u8 0, .int .u8 0, .int .u8 0, .int .u8 0, .int .u8 0, .int .u8 0, .int .u8 0, .int .u8 0, .int .u8 0, .int .u8 0, .int .u8 0, .int .u8 0, .int .u8 0, .int .i64 0]⟩, ⟨none, none, .st 33 (.t 4) (.t 15)⟩])
  (.seq (.ops [⟨some 16, none, .mov (.t 0)⟩, ⟨some 17, none, .mov (.t 0)⟩, ⟨some 18, none, .nilc (.t 17)⟩, ⟨some 19, none, .ld (.t 18)⟩, ⟨some 20, none, .mov (.t 3)⟩, ⟨some 21, none, .slS 33 (.t 19) none (some (.t 20))⟩, ⟨some 22, none, .nilc (.t 16)⟩, ⟨none, none, .st 1 (.t 22) (.t 21)⟩])
  (.seq (.ops [⟨some 23, none, .ldA 33 (.t 4)⟩, ⟨some 24, none, .more (.mkI 32 (.t 23))⟩, ⟨some 2, none, .mov (.t 24)⟩])
  .ret)))))
theorem Try.known162 : Known Try.prog 162 Try.pc162 25 [2] := ⟨Try.f162, _, Try.func162, rfl, by kernel_rfl, rfl, rfl⟩
/-- (*redwax/graph.waiting).Push -/
def Try.pc163 : PC :=
  (.seq (.ops [⟨some 7, none, .mov (.t 1)⟩, ⟨some 8, none, .more (.other (.gen (.typeAssert (.tmp 7) 20 32 true)))⟩, ⟨some 6, none, .mov (.t 8)⟩, ⟨some 9, none, .ext 0 (.t 6)⟩, ⟨some 10, none, .ext 1 (.t 6)⟩, ⟨some 4, none, .al 32 [.int .u8 0, .int .u8 0, .int .u8 0, .int .u8 0, .int .u8 0, .int .u8 0, .int .u8 0, .int .u8 0, .int .u8 0, .int .u8 0, .int .u8 0, .int .u8 0, .int .u8 0, .int .u8 0, .int .u8 0, .int .u8 0, .int .u8 0, .int .u8 0, .int .u8 0, .int .u8 0, .int .u8 0, .int .u8 0, .int .u8 0, .int .u8 0, .int .u8 0, .int .u8 0, .int .u8 0, .int .u8 0, .int .u8 0, .int .u8 0, .int .u8 0, .int .u8 0, .int .i64 0]⟩, ⟨none, none, .st 33 (.t 4) (.t 9)⟩, ⟨some 5, none, .mov (.t 10)⟩])
  (.seq (.ops [⟨some 11, none, .mov (.t 5)⟩])
  (.cond (.t 11) (.quiet 6 [⟨some 12, none, .mov (.t 0)⟩, ⟨some 13, none, .mov (.t 0)⟩, ⟨some 14, none, .nilc (.t 13)⟩, ⟨some 15, none, .ld (.t 14)⟩, ⟨some 16, none, .ldA 33 (.t 4)⟩, ⟨some 17, none, .bsl 32 [.int .u8 0, .int .u8 0, .int .u8 0, .int .u8 0, .int .u8 0, .int .u8 0, .int .u8 0, .int .u8 0, .int .u8 0, .int .u8 0, .int .u8 0, .int .u8 0, .int .u8 0, .int .u8 0, .int .u8 0, .int .u8 0, .int .u8 0, .int .u8 0, .int .u8 0, .int .u8 0, .int .u8 0, .int .u8 0, .int .u8 0, .int .u8 0, .int .u8 0, .int .u8 0, .int .u8 0, .int .u8 0, .int .u8 0, .int .u8 0, .int .u8 0, .int .u8 0, .int .i64 0] 1 [(0, 33, (.t 16))]⟩, ⟨some 18, none, .app 110 32 33 40 (.agg #[.int .u8 0, .int .u8 0, .int .u8 0, .int .u8 0, .int .u8 0, .int .u8 0, .int .u8 0, .int .u8 0, .int .u8 0, .int .u8 0, .int .u8 0, .int .u8 0, .int .u8 0, .int .u8 0, .int .u8 0, .int .u8 0, .int .u8 0, .int .u8 0, .int .u8 0, .int .u8 0, .int .u8 0, .int .u8 0, .int .u8 0, .int .u8 0, .int .u8 0, .int .u8 0, .int .u8 0, .int .u8 0, .int .u8 0, .int .u8 0, .int .u8 0, .int .u8 0, .int .i64 0]) (.t 15) (.t 17)⟩, ⟨some 19, none, .nilc (.t 12)⟩, ⟨none, none, .st 1 (.t 19) (.t 18)⟩]) .skip)))
theorem Try.known163 : Known Try.prog 163 Try.pc163 20 [] := ⟨Try.f163, _, Try.func163, rfl, by kernel_rfl, rfl, rfl⟩
/-- (redwax/graph.waiting).Swap -/
def Try.pc164 : PC :=
  (.quiet 12 [⟨some 6, none, .mov (.t 0)⟩, ⟨some 7, none, .mov (.t 1)⟩, ⟨some 8, none, .mov (.t 0)⟩, ⟨some 9, none, .mov (.t 2)⟩, ⟨some 10, none, .mov (.t 0)⟩, ⟨some 11, none, .mov (.t 2)⟩, ⟨some 12, none, .ixS 33 (.t 10) (.t 11)⟩, ⟨some 13, none, .ldA 33 (.t 12)⟩, ⟨some 14, none, .mov (.t 0)⟩, ⟨some 15, none, .mov (.t 1)⟩, ⟨some 16, none, .ixS 33 (.t 14) (.t 15)⟩, ⟨some 17, none, .ldA 33 (.t 16)⟩, ⟨some 18, none, .ixS 33 (.t 6) (.t 7)⟩, ⟨none, none, .st 33 (.t 18) (.t 13)⟩, ⟨some 19, none, .ixS 33 (.t 8) (.t 9)⟩, ⟨none, none, .st 33 (.t 19) (.t 17)⟩])
theorem Try.known164 : Known Try.prog 164 Try.pc164 20 [] := ⟨Try.f164, _, Try.func164, rfl, by kernel_rfl, rfl, rfl⟩
end Go.Proofs

namespace Go.Proofs
open Go.SL
set_option maxRecDepth 100000
end Go.Proofs

namespace Go.Proofs
open Go.SL
set_option maxRecDepth 100000
/-- redwax/redwaxlaw16.RenderPlain -/
def Try.pc9 : PC :=
  (.seq (.ops [⟨some 6, none, .mov (.v (.bool false))⟩])
  (.seq (.seq (.ops [⟨some 19, none, .mov (.t 0)⟩, ⟨some 20, none, .lenS (.t 19)⟩, ⟨some 21, none, .bin .gtr (.t 20) (.v (.int .i64 40))⟩, ⟨some 22, none, .mov (.t 21)⟩, ⟨some 23, (some (22, false)), .mov (.t 1)⟩, ⟨some 24, (some (22, false)), .lenS (.t 23)⟩, ⟨some 25, (some (22, false)), .bin .gtr (.t 24) (.v (.int .i64 20))⟩, ⟨some 26, none, .pick (.t 22) (.v (.bool true)) (.t 25)⟩])
  (.cond (.t 26) (.seq (.ops [⟨some 27, none, .call 31 []⟩, ⟨some 6, none, .mov (.t 27)⟩])
   .ret) .skip))
  (.seq (.seq (.ops [⟨some 7, none, .mov (.v (.int .i64 0))⟩])
  (.block 0 (.loop (.seq (.seq (.ops [⟨some 28, none, .mov (.t 7)⟩, ⟨some 29, none, .mov (.t 0)⟩, ⟨some 30, none, .lenS (.t 29)⟩, ⟨some 31, none, .bin .lss (.t 28) (.t 30)⟩])
    (.cond (.t 31) .skip (.exit 0)))
    (.seq (.block 1 (.seq (.ops [⟨some 34, none, .mov (.t 0)⟩, ⟨some 35, none, .mov (.t 7)⟩, ⟨some 36, none, .ixS 1 (.t 34) (.t 35)⟩, ⟨some 37, none, .ld (.t 36)⟩, ⟨some 38, none, .lenStr (.t 37)⟩, ⟨some 39, none, .bin .gtr (.t 38) (.v (.int .i64 40))⟩])
     (.cond (.t 39) (.seq (.ops [⟨some 40, none, .call 31 []⟩, ⟨some 6, none, .mov (.t 40)⟩])
      .ret) .skip)))
    (.ops [⟨some 32, none, .mov (.t 7)⟩, ⟨some 33, none, .bin .add (.t 32) (.v (.int .i64 1))⟩, ⟨some 7, none, .mov (.t 33)⟩]))))))
  (.seq (.seq (.ops [⟨some 8, none, .mov (.v (.int .i64 0))⟩])
  (.block 2 (.loop (.seq (.seq (.ops [⟨some 41, none, .mov (.t 8)⟩, ⟨some 42, none, .mov (.t 1)⟩, ⟨some 43, none, .lenS (.t 42)⟩, ⟨some 44, none, .bin .lss (.t 41) (.t 43)⟩])
    (.cond (.t 44) .skip (.exit 2)))
    (.seq (.block 3 (.seq (.ops [⟨some 47, none, .mov (.t 1)⟩, ⟨some 48, none, .mov (.t 8)⟩, ⟨some 49, none, .ixS 1 (.t 47) (.t 48)⟩, ⟨some 50, none, .ld (.t 49)⟩, ⟨some 51, none, .lenStr (.t 50)⟩, ⟨some 52, none, .bin .gtr (.t 51) (.v (.int .i64 40))⟩])
     (.cond (.t 52) (.seq (.ops [⟨some 53, none, .call 31 []⟩, ⟨some 6, none, .mov (.t 53)⟩])
      .ret) .skip)))
    (.ops [⟨some 45, none, .mov (.t 8)⟩, ⟨some 46, none, .bin .add (.t 45) (.v (.int .i64 1))⟩, ⟨some 8, none, .mov (.t 46)⟩]))))))
  (.seq (.ops [⟨some 54, none, .call 14 []⟩, ⟨some 9, none, .mov (.t 54)⟩])
  (.seq (.ops [⟨some 55, none, .build [.int .u8 0, .int .u8 0, .int .u8 0, .int .u8 0, .int .u8 0, .int .u8 0, .int .u8 0, .int .u8 0, .int .u8 0, .int .u8 0, .int .u8 0, .int .u8 0, .int .u8 0, .int .u8 0, .int .u8 0, .int .u8 0, .int .u8 0, .int .u8 0, .int .u8 0, .int .u8 0, .int .u8 0, .int .u8 0, .int .u8 0, .int .u8 0, .int .u8 0, .int .u8 0, .int .u8 0, .int .u8 0, .int .u8 0, .int .u8 0, .int .u8 0, .int .u8 0, .int .i64 0] [(32, 1, (.v (.int .i64 (-1))))]⟩, ⟨some 56, none, .build [.int .u8 0, .int .u8 0, .int .u8 0, .int .u8 0, .int .u8 0, .int .u8 0, .int .u8 0, .int .u8 0, .int .u8 0, .int .u8 0, .int .u8 0, .int .u8 0, .int .u8 0, .int .u8 0, .int .u8 0, .int .u8 0, .int .u8 0, .int .u8 0, .int .u8 0, .int .u8 0, .int .u8 0, .int .u8 0, .int .u8 0, .int .u8 0, .int .u8 0, .int .u8 0, .int .u8 0, .int .u8 0, .int .u8 0, .int .u8 0, .int .u8 0, .int .u8 0, .int .i64 0] [(32, 1, (.v (.int .i64 (-2))))]⟩, ⟨some 10, none, .al 32 [.int .u8 0, .int .u8 0, .int .u8 0, .int .u8 0, .int .u8 0, .int .u8 0, .int .u8 0, .int .u8 0, .int .u8 0, .int .u8 0, .int .u8 0, .int .u8 0, .int .u8 0, .int .u8 0, .int .u8 0, .int .u8 0, .int .u8 0, .int .u8 0, .int .u8 0, .int .u8 0, .int .u8 0, .int .u8 0, .int .u8 0, .int .u8 0, .int .u8 0, .int .u8 0, .int .u8 0, .int .u8 0, .int .u8 0, .int .u8 0, .int .u8 0, .int .u8 0, .int .i64 0]⟩, ⟨some 11, none, .al 32 [.int .u8 0, .int .u8 0, .int .u8 0, .int .u8 0, .int .u8 0, .int .u8 0, .int .u8 0, .int .u8 0, .int .u8 0, .int .u8 0, .int .u8 0, .int .u8 0, .int .u8 0, .int .u8 0, .int .u8 0, .int .u8 0, .int .u8 0, .int .u8 0, .int .u8 0, .int .u8 0, .int .u8 0, .int .u8 0, .int .u8 0, .int .u8 0, .int .u8 0, .int .u8 0, .int .u8 0, .int .u8 0, .int .u8 0, .int .u8 0, .int .u8 0, .int .u8 0, .int .i64 0]⟩, ⟨none, none, .st 33 (.t 10) (.t 55)⟩, ⟨none, none, .st 33 (.t 11) (.t 56)⟩])
  (.seq (.ops [⟨some 57, none, .mov (.t 9)⟩, ⟨some 58, none, .more (.bldA [.int .u8 0, .int .u8 0, .int .u8 0, .int .u8 0, .int .u8 0, .int .u8 0, .int .u8 0, .int .u8 0, .int .u8 0, .int .u8 0, .int .u8 0, .int .u8 0, .int .u8 0, .int .u8 0, .int .u8 0, .int .u8 0, .int .u8 0, .int .u8 0, .int .u8 0, .int .u8 0, .int .u8 0, .int .u8 0, .int .u8 0, .int .u8 0, .int .u8 0, .int .u8 0, .int .u8 0, .int .u8 0, .int .u8 0, .int .u8 0, .int .u8 0, .int .u8 0] [(0, 1, (.v (.int .u8 1)))])⟩, ⟨some 59, none, .ldA 33 (.t 10)⟩, ⟨some 60, none, .ldA 33 (.t 11)⟩, ⟨some 61, none, .mov (.t 0)⟩, ⟨some 62, none, .build [.int .u8 0, .int .u8 0, .int .u8 0, .int .u8 0, .int .u8 0, .int .u8 0, .int .u8 0, .int .u8 0, .int .u8 0, .int .u8 0, .int .u8 0, .int .u8 0, .int .u8 0, .int .u8 0, .int .u8 0, .int .u8 0, .int .u8 0, .int .u8 0, .int .u8 0, .int .u8 0, .int .u8 0, .int .u8 0, .int .u8 0, .int .u8 0, .int .u8 0, .int .u8 0, .int .u8 0, .int .u8 0, .int .u8 0, .int .u8 0, .int .u8 0, .int .u8 0, .int .i64 0, .int .i64 0, .int .u8 0, .int .u8 0, .int .u8 0, .int .u8 0, .int .u8 0, .int .u8 0, .int .u8 0, .int .u8 0, .int .u8 0, .int .u8 0, .int .u8 0, .int .u8 0, .int .u8 0, .int .u8 0, .int .u8 0, .int .u8 0, .int .u8 0, .int .u8 0, .int .u8 0, .int .u8 0, .int .u8 0, .int .u8 0, .int .u8 0, .int .u8 0, .int .u8 0, .int .u8 0, .int .u8 0, .int .u8 0, .int .u8 0, .int .u8 0, .int .u8 0, .int .u8 0, .int .i64 0, .int .u8 0, .int .u8 0, .int .u8 0, .int .u8 0, .int .u8 0, .int .u8 0, .int .u8 0, .int .u8 0, .int .u8 0, .int .u8 0, .int .u8 0, .int .u8 0, .int .u8 0, .int .u8 0, .int .u8 0, .int .u8 0, .int .u8 0, .int .u8 0, .int .u8 0, .int .u8 0, .int .u8 0, .int .u8 0, .int .u8 0, .int .u8 0, .int .u8 0, .int .u8 0, .int .u8 0, .int .u8 0, .int .u8 0, .int .u8 0, .int .u8 0, .int .u8 0, .int .i64 0, .slice none 0 0, .slice none 0 0] [(0, 32, (.t 58)), (34, 33, (.t 59)), (67, 33, (.t 60)), (100, 1, (.t 61))]⟩, ⟨some 63, none, .call 16 [(.t 57), (.t 62)]⟩, ⟨some 12, none, .mov (.t 63)⟩])
  (.seq (.ops [⟨some 64, none, .mov (.t 9)⟩, ⟨some 65, none, .call 33 [(.t 64)]⟩, ⟨some 13, none, .mov (.t 65)⟩])
  (.seq (.seq (.ops [⟨some 66, none, .mov (.t 12)⟩, ⟨some 67, none, .bin .neq (.t 66) (.v (.int .i64 0))⟩, ⟨some 68, none, .mov (.t 67)⟩, ⟨some 69, (some (68, false)), .mov (.t 13)⟩, ⟨some 70, (some (68, false)), .call 36 [(.t 69)]⟩, ⟨some 71, (some (68, false)), .mov (.t 0)⟩, ⟨some 72, (some (68, false)), .call 35 [(.t 70), (.t 71)]⟩, ⟨some 73, (some (68, false)), .not (.t 72)⟩, ⟨some 74, none, .pick (.t 68) (.v (.bool true)) (.t 73)⟩, ⟨some 75, none, .mov (.t 74)⟩, ⟨some 76, (some (75, false)), .mov (.t 13)⟩, ⟨some 77, (some (75, false)), .call 39 [(.t 76)]⟩, ⟨some 78, none, .pick (.t 75) (.v (.bool true)) (.t 77)⟩])
  (.cond (.t 78) (.seq (.ops [⟨some 6, none, .mov (.v (.bool false))⟩])
   .ret) .skip))
  (.seq (.ops [⟨some 79, none, .mov (.t 2)⟩, ⟨some 80, none, .cvt .i64 (.t 79)⟩, ⟨some 81, none, .mov (.t 0)⟩, ⟨some 82, none, .lenS (.t 81)⟩, ⟨some 83, none, .bin .add (.t 82) (.v (.int .i64 1))⟩, ⟨some 84, none, .bin .rem (.t 80) (.t 83)⟩, ⟨some 14, none, .mov (.t 84)⟩])
  (.seq (.quietR [0, 0, 0, 0, 13] 5 [⟨some 85, none, .ldA 33 (.t 10)⟩, ⟨some 86, none, .ldA 33 (.t 11)⟩, ⟨some 15, none, .al 32 [.int .u8 0, .int .u8 0, .int .u8 0, .int .u8 0, .int .u8 0, .int .u8 0, .int .u8 0, .int .u8 0, .int .u8 0, .int .u8 0, .int .u8 0, .int .u8 0, .int .u8 0, .int .u8 0, .int .u8 0, .int .u8 0, .int .u8 0, .int .u8 0, .int .u8 0, .int .u8 0, .int .u8 0, .int .u8 0, .int .u8 0, .int .u8 0, .int .u8 0, .int .u8 0, .int .u8 0, .int .u8 0, .int .u8 0, .int .u8 0, .int .u8 0, .int .u8 0, .int .i64 0]⟩, ⟨some 16, none, .al 32 [.int .u8 0, .int .u8 0, .int .u8 0, .int .u8 0, .int .u8 0, .int .u8 0, .int .u8 0, .int .u8 0, .int .u8 0, .int .u8 0, .int .u8 0, .int .u8 0, .int .u8 0, .int .u8 0, .int .u8 0, .int .u8 0, .int .u8 0, .int .u8 0, .int .u8 0, .int .u8 0, .int .u8 0, .int .u8 0, .int .u8 0, .int .u8 0, .int .u8 0, .int .u8 0, .int .u8 0, .int .u8 0, .int .u8 0, .int .u8 0, .int .u8 0, .int .u8 0, .int .i64 0]⟩, ⟨none, none, .st 33 (.t 15) (.t 85)⟩, ⟨none, none, .st 33 (.t 16) (.t 86)⟩])
  (.seq (.seq (.ops [⟨some 87, none, .mov (.t 14)⟩, ⟨some 88, none, .bin .gtr (.t 87) (.v (.int .i64 0))⟩])
  (.cond (.t 88) (.ops [⟨some 89, none, .more (.bldA [.int .u8 0, .int .u8 0, .int .u8 0, .int .u8 0, .int .u8 0, .int .u8 0, .int .u8 0, .int .u8 0, .int .u8 0, .int .u8 0, .int .u8 0, .int .u8 0, .int .u8 0, .int .u8 0, .int .u8 0, .int .u8 0, .int .u8 0, .int .u8 0, .int .u8 0, .int .u8 0, .int .u8 0, .int .u8 0, .int .u8 0, .int .u8 0, .int .u8 0, .int .u8 0, .int .u8 0, .int .u8 0, .int .u8 0, .int .u8 0, .int .u8 0, .int .u8 0] [(0, 1, (.v (.int .u8 1)))])⟩, ⟨some 90, none, .mov (.t 14)⟩, ⟨some 91, none, .bin .sub (.t 90) (.v (.int .i64 1))⟩, ⟨some 92, none, .build [.int .u8 0, .int .u8 0, .int .u8 0, .int .u8 0, .int .u8 0, .int .u8 0, .int .u8 0, .int .u8 0, .int .u8 0, .int .u8 0, .int .u8 0, .int .u8 0, .int .u8 0, .int .u8 0, .int .u8 0, .int .u8 0, .int .u8 0, .int .u8 0, .int .u8 0, .int .u8 0, .int .u8 0, .int .u8 0, .int .u8 0, .int .u8 0, .int .u8 0, .int .u8 0, .int .u8 0, .int .u8 0, .int .u8 0, .int .u8 0, .int .u8 0, .int .u8 0, .int .i64 0] [(0, 32, (.t 89)), (32, 1, (.t 91))]⟩, ⟨none, none, .st 33 (.t 15) (.t 92)⟩]) .skip))
  (.seq (.seq (.ops [⟨some 93, none, .mov (.t 14)⟩, ⟨some 94, none, .mov (.t 0)⟩, ⟨some 95, none, .lenS (.t 94)⟩, ⟨some 96, none, .bin .lss (.t 93) (.t 95)⟩])
  (.cond (.t 96) (.ops [⟨some 97, none, .more (.bldA [.int .u8 0, .int .u8 0, .int .u8 0, .int .u8 0, .int .u8 0, .int .u8 0, .int .u8 0, .int .u8 0, .int .u8 0, .int .u8 0, .int .u8 0, .int .u8 0, .int .u8 0, .int .u8 0, .int .u8 0, .int .u8 0, .int .u8 0, .int .u8 0, .int .u8 0, .int .u8 0, .int .u8 0, .int .u8 0, .int .u8 0, .int .u8 0, .int .u8 0, .int .u8 0, .int .u8 0, .int .u8 0, .int .u8 0, .int .u8 0, .int .u8 0, .int .u8 0] [(0, 1, (.v (.int .u8 1)))])⟩, ⟨some 98, none, .mov (.t 14)⟩, ⟨some 99, none, .build [.int .u8 0, .int .u8 0, .int .u8 0, .int .u8 0, .int .u8 0, .int .u8 0, .int .u8 0, .int .u8 0, .int .u8 0, .int .u8 0, .int .u8 0, .int .u8 0, .int .u8 0, .int .u8 0, .int .u8 0, .int .u8 0, .int .u8 0, .int .u8 0, .int .u8 0, .int .u8 0, .int .u8 0, .int .u8 0, .int .u8 0, .int .u8 0, .int .u8 0, .int .u8 0, .int .u8 0, .int .u8 0, .int .u8 0, .int .u8 0, .int .u8 0, .int .u8 0, .int .i64 0] [(0, 32, (.t 97)), (32, 1, (.t 98))]⟩, ⟨none, none, .st 33 (.t 16) (.t 99)⟩]) .skip))
  (.seq (.seq (.ops [⟨some 100, none, .mov (.t 9)⟩, ⟨some 101, none, .more (.bldA [.int .u8 0, .int .u8 0, .int .u8 0, .int .u8 0, .int .u8 0, .int .u8 0, .int .u8 0, .int .u8 0, .int .u8 0, .int .u8 0, .int .u8 0, .int .u8 0, .int .u8 0, .int .u8 0, .int .u8 0, .int .u8 0, .int .u8 0, .int .u8 0, .int .u8 0, .int .u8 0, .int .u8 0, .int .u8 0, .int .u8 0, .int .u8 0, .int .u8 0, .int .u8 0, .int .u8 0, .int .u8 0, .int .u8 0, .int .u8 0, .int .u8 0, .int .u8 0] [(0, 1, (.v (.int .u8 2)))])⟩, ⟨some 102, none, .ldA 33 (.t 15)⟩, ⟨some 103, none, .ldA 33 (.t 16)⟩, ⟨some 104, none, .mov (.t 1)⟩, ⟨some 105, none, .build [.int .u8 0, .int .u8 0, .int .u8 0, .int .u8 0, .int .u8 0, .int .u8 0, .int .u8 0, .int .u8 0, .int .u8 0, .int .u8 0, .int .u8 0, .int .u8 0, .int .u8 0, .int .u8 0, .int .u8 0, .int .u8 0, .int .u8 0, .int .u8 0, .int .u8 0, .int .u8 0, .int .u8 0, .int .u8 0, .int .u8 0, .int .u8 0, .int .u8 0, .int .u8 0, .int .u8 0, .int .u8 0, .int .u8 0, .int .u8 0, .int .u8 0, .int .u8 0, .int .i64 0, .int .i64 0, .int .u8 0, .int .u8 0, .int .u8 0, .int .u8 0, .int .u8 0, .int .u8 0, .int .u8 0, .int .u8 0, .int .u8 0, .int .u8 0, .int .u8 0, .int .u8 0, .int .u8 0, .int .u8 0, .int .u8 0, .int .u8 0, .int .u8 0, .int .u8 0, .int .u8 0, .int .u8 0, .int .u8 0, .int .u8 0, .int .u8 0, .int .u8 0, .int .u8 0, .int .u8 0, .int .u8 0, .int .u8 0, .int .u8 0, .int .u8 0, .int .u8 0, .int .u8 0, .int .i64 0, .int .u8 0, .int .u8 0, .int .u8 0, .int .u8 0, .int .u8 0, .int .u8 0, .int .u8 0, .int .u8 0, .int .u8 0, .int .u8 0, .int .u8 0, .int .u8 0, .int .u8 0, .int .u8 0, .int .u8 0, .int .u8 0, .int .u8 0, .int .u8 0, .int .u8 0, .int .u8 0, .int .u8 0, .int .u8 0, .int .u8 0, .int .u8 0, .int .u8 0, .int .u8 0, .int .u8 0, .int .u8 0, .int .u8 0, .int .u8 0, .int .u8 0, .int .u8 0, .int .i64 0, .slice none 0 0, .slice none 0 0] [(0, 32, (.t 101)), (34, 33, (.t 102)), (67, 33, (.t 103)), (100, 1, (.t 104))]⟩, ⟨some 106, none, .call 16 [(.t 100), (.t 105)]⟩, ⟨some 107, none, .bin .neq (.t 106) (.v (.int .i64 0))⟩])
  (.cond (.t 107) (.seq (.ops [⟨some 6, none, .mov (.v (.bool false))⟩])
   .ret) .skip))
  (.seq (.ops [⟨some 108, none, .mov (.t 9)⟩, ⟨some 109, none, .call 33 [(.t 108)]⟩, ⟨some 17, none, .mov (.t 109)⟩])
  (.seq (.quietR [0, 0, 0, 6, 15, 0, 63, 0, 0, 384] 10 [⟨some 110, none, .bsl0 9⟩, ⟨some 111, none, .mov (.t 0)⟩, ⟨some 112, none, .mov (.t 14)⟩, ⟨some 113, none, .slS 1 (.t 111) none (some (.t 112))⟩, ⟨some 114, none, .app 33 9 1 16 (.string ⟨#[]⟩) (.t 110) (.t 113)⟩, ⟨some 115, none, .mov (.t 1)⟩, ⟨some 116, none, .app 33 9 1 16 (.string ⟨#[]⟩) (.t 114) (.t 115)⟩, ⟨some 117, none, .mov (.t 0)⟩, ⟨some 118, none, .mov (.t 14)⟩, ⟨some 119, none, .slS 1 (.t 117) (some (.t 118)) none⟩, ⟨some 120, none, .app 33 9 1 16 (.string ⟨#[]⟩) (.t 116) (.t 119)⟩, ⟨some 18, none, .mov (.t 120)⟩])
  (.seq (.ops [⟨some 121, none, .mov (.t 17)⟩, ⟨some 122, none, .call 36 [(.t 121)]⟩, ⟨some 123, none, .mov (.t 18)⟩, ⟨some 124, none, .call 35 [(.t 122), (.t 123)]⟩, ⟨some 125, none, .mov (.t 124)⟩, ⟨some 126, (some (125, true)), .mov (.t 17)⟩, ⟨some 127, (some (125, true)), .call 39 [(.t 126)]⟩, ⟨some 128, (some (125, true)), .not (.t 127)⟩, ⟨some 129, none, .pick (.t 125) (.t 128) (.v (.bool false))⟩, ⟨some 130, none, .mov (.t 129)⟩, ⟨some 131, (some (130, true)), .call 31 []⟩, ⟨some 132, none, .pick (.t 130) (.t 131) (.v (.bool false))⟩, ⟨some 6, none, .mov (.t 132)⟩])
  .ret)))))))))))))))))
theorem Try.known9 : Known Try.prog 9 Try.pc9 133 [6] := ⟨Try.f9, _, Try.func9, rfl, by kernel_rfl, rfl, rfl⟩
/-- redwax/redwaxlaw16.works -/
def Try.pc31 : PC :=
  (.seq (.ops [⟨some 0, none, .mov (.v (.bool false))⟩])
  (.seq (.ops [⟨some 8, none, .call 41 []⟩, ⟨some 7, none, .mov (.t 8)⟩, ⟨some 9, none, .ext 0 (.t 7)⟩, ⟨some 10, none, .ext 1 (.t 7)⟩, ⟨some 11, none, .ext 2 (.t 7)⟩, ⟨some 2, none, .al 32 [.int .u8 0, .int .u8 0, .int .u8 0, .int .u8 0, .int .u8 0, .int .u8 0, .int .u8 0, .int .u8 0, .int .u8 0, .int .u8 0, .int .u8 0, .int .u8 0, .int .u8 0, .int .u8 0, .int .u8 0, .int .u8 0, .int .u8 0, .int .u8 0, .int .u8 0, .int .u8 0, .int .u8 0, .int .u8 0, .int .u8 0, .int .u8 0, .int .u8 0, .int .u8 0, .int .u8 0, .int .u8 0, .int .u8 0, .int .u8 0, .int .u8 0, .int .u8 0, .int .i64 0]⟩, ⟨some 3, none, .al 32 [.int .u8 0, .int .u8 0, .int .u8 0, .int .u8 0, .int .u8 0, .int .u8 0, .int .u8 0, .int .u8 0, .int .u8 0, .int .u8 0, .int .u8 0, .int .u8 0, .int .u8 0, .int .u8 0, .int .u8 0, .int .u8 0, .int .u8 0, .int .u8 0, .int .u8 0, .int .u8 0, .int .u8 0, .int .u8 0, .int .u8 0, .int .u8 0, .int .u8 0, .int .u8 0, .int .u8 0, .int .u8 0, .int .u8 0, .int .u8 0, .int .u8 0, .int .u8 0, .int .i64 0]⟩, ⟨some 1, none, .mov (.t 9)⟩, ⟨none, none, .st 33 (.t 2) (.t 10)⟩, ⟨none, none, .st 33 (.t 3) (.t 11)⟩])
  (.seq (.ops [⟨some 12, none, .mov (.t 1)⟩, ⟨some 13, none, .ldA 33 (.t 2)⟩, ⟨some 14, none, .ldA 33 (.t 3)⟩, ⟨some 15, none, .bsl 9 [.string ⟨#[]⟩] 1 [(0, 1, (.v (.string ⟨#[120]⟩)))]⟩, ⟨some 16, none, .call 42 [(.v (.int .u8 2)), (.t 13), (.t 14), (.t 15)]⟩, ⟨some 17, none, .call 16 [(.t 12), (.t 16)]⟩, ⟨some 4, none, .mov (.t 17)⟩])
  (.seq (.ops [⟨some 18, none, .mov (.t 1)⟩, ⟨some 19, none, .ldA 33 (.t 2)⟩, ⟨some 20, none, .ldA 33 (.t 3)⟩, ⟨some 21, none, .bsl 9 [.string ⟨#[]⟩] 1 [(0, 1, (.v (.string ⟨#[121]⟩)))]⟩, ⟨some 22, none, .call 42 [(.v (.int .u8 3)), (.t 19), (.t 20), (.t 21)]⟩, ⟨some 23, none, .call 16 [(.t 18), (.t 22)]⟩, ⟨some 5, none, .mov (.t 23)⟩])
  (.seq (.ops [⟨some 24, none, .mov (.t 1)⟩, ⟨some 25, none, .call 33 [(.t 24)]⟩, ⟨some 6, none, .mov (.t 25)⟩])
  (.seq (.ops [⟨some 26, none, .mov (.t 4)⟩, ⟨some 27, none, .bin .eql (.t 26) (.v (.int .i64 0))⟩, ⟨some 28, none, .mov (.t 27)⟩, ⟨some 29, (some (28, true)), .mov (.t 5)⟩, ⟨some 30, (some (28, true)), .bin .eql (.t 29) (.v (.int .i64 0))⟩, ⟨some 31, none, .pick (.t 28) (.t 30) (.v (.bool false))⟩, ⟨some 32, none, .mov (.t 31)⟩, ⟨some 33, (some (32, true)), .mov (.t 6)⟩, ⟨some 34, (some (32, true)), .lenS (.t 33)⟩, ⟨some 35, (some (32, true)), .bin .eql (.t 34) (.v (.int .i64 3))⟩, ⟨some 36, none, .pick (.t 32) (.t 35) (.v (.bool false))⟩, ⟨some 37, none, .mov (.t 36)⟩, ⟨some 38, (some (37, true)), .mov (.t 6)⟩, ⟨some 39, (some (37, true)), .ixS 3 (.t 38) (.v (.int .i64 1))⟩, ⟨some 40, (some (37, true)), .fa 1 (.t 39)⟩, ⟨some 41, (some (37, true)), .ld (.t 40)⟩, ⟨some 42, none, .pick (.t 37) (.t 41) (.v (.bool false))⟩, ⟨some 43, none, .mov (.t 42)⟩, ⟨some 44, (some (43, true)), .mov (.t 6)⟩, ⟨some 45, (some (43, true)), .call 39 [(.t 44)]⟩, ⟨some 46, none, .pick (.t 43) (.t 45) (.v (.bool false))⟩, ⟨some 47, none, .mov (.t 46)⟩, ⟨some 48, (some (47, true)), .mov (.t 6)⟩, ⟨some 49, (some (47, true)), .call 36 [(.t 48)]⟩, ⟨some 50, (some (47, true)), .bsl 9 [.string ⟨#[]⟩, .string ⟨#[]⟩, .string ⟨#[]⟩, .string ⟨#[]⟩, .string ⟨#[]⟩, .string ⟨#[]⟩, .string ⟨#[]⟩] 7 [(0, 1, (.v (.string ⟨#[97]⟩))), (1, 1, (.v (.string ⟨#[62, 62, 62, 62, 62, 62, 62]⟩))), (2, 1, (.v (.string ⟨#[120]⟩))), (3, 1, (.v (.string ⟨#[61, 61, 61, 61, 61, 61, 61]⟩))), (4, 1, (.v (.string ⟨#[121]⟩))), (5, 1, (.v (.string ⟨#[60, 60, 60, 60, 60, 60, 60]⟩))), (6, 1, (.v (.string ⟨#[98]⟩)))]⟩, ⟨some 51, (some (47, true)), .call 35 [(.t 49), (.t 50)]⟩, ⟨some 52, none, .pick (.t 47) (.t 51) (.v (.bool false))⟩, ⟨some 0, none, .mov (.t 52)⟩])
  .ret))))))
theorem Try.known31 : Known Try.prog 31 Try.pc31 53 [0] := ⟨Try.f31, _, Try.func31, rfl, by kernel_rfl, rfl, rfl⟩
/-- redwax/render.Items -/
def Try.pc33 : PC :=
  (.seq (.ops [⟨some 2, none, .mov (.v (.slice none 0 0))⟩])
  (.scope (.seq (.ops [⟨some 10, none, .mov (.t 0)⟩, ⟨some 11, none, .call 17 [(.t 10)]⟩, ⟨some 12, none, .call 69 [(.t 11), (.v (.func (.func 70) #[] #[]))]⟩, ⟨some 3, none, .mov (.t 12)⟩])
   (.seq (.ops [⟨some 4, none, .mov (.v (.slice none 0 0))⟩])
   (.seq (.ops [⟨some 5, none, .mov (.v (.slice none 0 0))⟩])
   (.seq .label
   (.seq (.seq (.ops [⟨some 13, none, .mov (.t 3)⟩, ⟨some 14, none, .lenS (.t 13)⟩, ⟨some 15, none, .mov (.v (.int .i64 0))⟩])
   (.block 0 (.loop (.seq (.ops [⟨some 16, none, .bin .lss (.t 15) (.t 14)⟩])
     (.seq (.cond (.t 16) .skip (.exit 0))
     (.seq (.block 1 (.seq (.ops [⟨some 17, none, .ixS 35 (.t 13) (.t 15)⟩, ⟨some 18, none, .ldA 35 (.t 17)⟩, ⟨some 7, none, .al 43 [.int .u8 0, .int .u8 0, .int .u8 0, .int .u8 0, .int .u8 0, .int .u8 0, .int .u8 0, .int .u8 0, .int .u8 0, .int .u8 0, .int .u8 0, .int .u8 0, .int .u8 0, .int .u8 0, .int .u8 0, .int .u8 0, .int .u8 0, .int .u8 0, .int .u8 0, .int .u8 0, .int .u8 0, .int .u8 0, .int .u8 0, .int .u8 0, .int .u8 0, .int .u8 0, .int .u8 0, .int .u8 0, .int .u8 0, .int .u8 0, .int .u8 0, .int .u8 0, .int .i64 0, .string ⟨#[]⟩, .bool false]⟩, ⟨none, none, .st 35 (.t 7) (.t 18)⟩])
      (.seq (.seq (.ops [⟨some 19, none, .mov (.t 3)⟩, ⟨some 20, none, .lenS (.t 19)⟩, ⟨some 21, none, .mov (.v (.int .i64 0))⟩])
      (.block 2 (.loop (.seq (.ops [⟨some 22, none, .bin .lss (.t 21) (.t 20)⟩])
        (.seq (.cond (.t 22) .skip (.exit 2))
        (.seq (.block 3 (.seq (.ops [⟨some 23, none, .ixS 35 (.t 19) (.t 21)⟩, ⟨some 24, none, .ldA 35 (.t 23)⟩, ⟨some 9, none, .al 43 [.int .u8 0, .int .u8 0, .int .u8 0, .int .u8 0, .int .u8 0, .int .u8 0, .int .u8 0, .int .u8 0, .int .u8 0, .int .u8 0, .int .u8 0, .int .u8 0, .int .u8 0, .int .u8 0, .int .u8 0, .int .u8 0, .int .u8 0, .int .u8 0, .int .u8 0, .int .u8 0, .int .u8 0, .int .u8 0, .int .u8 0, .int .u8 0, .int .u8 0, .int .u8 0, .int .u8 0, .int .u8 0, .int .u8 0, .int .u8 0, .int .u8 0, .int .u8 0, .int .i64 0, .string ⟨#[]⟩, .bool false]⟩, ⟨none, none, .st 35 (.t 9) (.t 24)⟩])
         (.seq (.ops [⟨some 25, none, .fa 0 (.t 7)⟩, ⟨some 26, none, .ldA 33 (.t 25)⟩, ⟨some 27, none, .fa 0 (.t 9)⟩, ⟨some 28, none, .ldA 33 (.t 27)⟩, ⟨some 29, none, .more (.eqD true 32 [.int .u8, .int .u8, .int .u8, .int .u8, .int .u8, .int .u8, .int .u8, .int .u8, .int .u8, .int .u8, .int .u8, .int .u8, .int .u8, .int .u8, .int .u8, .int .u8, .int .u8, .int .u8, .int .u8, .int .u8, .int .u8, .int .u8, .int .u8, .int .u8, .int .u8, .int .u8, .int .u8, .int .u8, .int .u8, .int .u8, .int .u8, .int .u8, .int .i64] (.t 26) (.t 28))⟩, ⟨some 30, none, .mov (.t 29)⟩, ⟨some 31, (some (30, true)), .mov (.t 0)⟩, ⟨some 32, (some (30, true)), .ldA 35 (.t 7)⟩, ⟨some 33, (some (30, true)), .ldA 35 (.t 9)⟩, ⟨some 34, (some (30, true)), .call 71 [(.t 31), (.t 32), (.t 33)]⟩, ⟨some 35, (some (30, true)), .not (.t 34)⟩, ⟨some 36, none, .pick (.t 30) (.t 35) (.v (.bool false))⟩])
         (.cond (.t 36) (.seq (.ops [⟨some 37, none, .mov (.t 5)⟩, ⟨some 38, none, .ldA 35 (.t 7)⟩, ⟨some 39, none, .bsl 43 [.int .u8 0, .int .u8 0, .int .u8 0, .int .u8 0, .int .u8 0, .int .u8 0, .int .u8 0, .int .u8 0, .int .u8 0, .int .u8 0, .int .u8 0, .int .u8 0, .int .u8 0, .int .u8 0, .int .u8 0, .int .u8 0, .int .u8 0, .int .u8 0, .int .u8 0, .int .u8 0, .int .u8 0, .int .u8 0, .int .u8 0, .int .u8 0, .int .u8 0, .int .u8 0, .int .u8 0, .int .u8 0, .int .u8 0, .int .u8 0, .int .u8 0, .int .u8 0, .int .i64 0, .string ⟨#[]⟩, .bool false] 1 [(0, 35, (.t 38))]⟩, ⟨some 40, none, .app 39 43 35 64 (.agg #[.int .u8 0, .int .u8 0, .int .u8 0, .int .u8 0, .int .u8 0, .int .u8 0, .int .u8 0, .int .u8 0, .int .u8 0, .int .u8 0, .int .u8 0, .int .u8 0, .int .u8 0, .int .u8 0, .int .u8 0, .int .u8 0, .int .u8 0, .int .u8 0, .int .u8 0, .int .u8 0, .int .u8 0, .int .u8 0, .int .u8 0, .int .u8 0, .int .u8 0, .int .u8 0, .int .u8 0, .int .u8 0, .int .u8 0, .int .u8 0, .int .u8 0, .int .u8 0, .int .i64 0, .string ⟨#[]⟩, .bool false]) (.t 37) (.t 39)⟩, ⟨some 5, none, .mov (.t 40)⟩])
          (.exit 1)) .skip))))
        (.ops [⟨some 41, none, .bin .add (.t 21) (.v (.int .i64 1))⟩, ⟨some 21, none, .mov (.t 41)⟩])))))))
      (.seq (.seq (.ops [⟨some 42, none, .mov (.t 5)⟩, ⟨some 43, none, .lenS (.t 42)⟩, ⟨some 44, none, .bin .gtr (.t 43) (.v (.int .i64 0))⟩])
      (.cond (.t 44) (.seq (.ops [⟨some 45, none, .mov (.t 4)⟩, ⟨some 46, none, .mov (.t 0)⟩, ⟨some 47, none, .mov (.t 5)⟩, ⟨some 48, none, .call 72 [(.t 46), (.t 47)]⟩, ⟨some 49, none, .bsl 73 [.slice none 0 0, .bool false, .slice none 0 0] 1 [(0, 3, (.t 48))]⟩, ⟨some 50, none, .app 64 73 3 56 (.agg #[.slice none 0 0, .bool false, .slice none 0 0]) (.t 45) (.t 49)⟩, ⟨some 4, none, .mov (.t 50)⟩])
       (.ops [⟨some 5, none, .mov (.v (.slice none 0 0))⟩])) .skip))
      (.ops [⟨some 51, none, .mov (.t 4)⟩, ⟨some 52, none, .ldA 35 (.t 7)⟩, ⟨some 53, none, .bsl 43 [.int .u8 0, .int .u8 0, .int .u8 0, .int .u8 0, .int .u8 0, .int .u8 0, .int .u8 0, .int .u8 0, .int .u8 0, .int .u8 0, .int .u8 0, .int .u8 0, .int .u8 0, .int .u8 0, .int .u8 0, .int .u8 0, .int .u8 0, .int .u8 0, .int .u8 0, .int .u8 0, .int .u8 0, .int .u8 0, .int .u8 0, .int .u8 0, .int .u8 0, .int .u8 0, .int .u8 0, .int .u8 0, .int .u8 0, .int .u8 0, .int .u8 0, .int .u8 0, .int .i64 0, .string ⟨#[]⟩, .bool false] 1 [(0, 35, (.t 52))]⟩, ⟨some 54, none, .build [.slice none 0 0, .bool false, .slice none 0 0] [(0, 1, (.t 53))]⟩, ⟨some 55, none, .bsl 73 [.slice none 0 0, .bool false, .slice none 0 0] 1 [(0, 3, (.t 54))]⟩, ⟨some 56, none, .app 64 73 3 56 (.agg #[.slice none 0 0, .bool false, .slice none 0 0]) (.t 51) (.t 55)⟩, ⟨some 4, none, .mov (.t 56)⟩])))))
     (.ops [⟨some 57, none, .bin .add (.t 15) (.v (.int .i64 1))⟩, ⟨some 15, none, .mov (.t 57)⟩])))))))
   (.seq (.seq (.ops [⟨some 58, none, .mov (.t 5)⟩, ⟨some 59, none, .lenS (.t 58)⟩, ⟨some 60, none, .bin .gtr (.t 59) (.v (.int .i64 0))⟩])
   (.cond (.t 60) (.ops [⟨some 61, none, .mov (.t 4)⟩, ⟨some 62, none, .mov (.t 0)⟩, ⟨some 63, none, .mov (.t 5)⟩, ⟨some 64, none, .call 72 [(.t 62), (.t 63)]⟩, ⟨some 65, none, .bsl 73 [.slice none 0 0, .bool false, .slice none 0 0] 1 [(0, 3, (.t 64))]⟩, ⟨some 66, none, .app 64 73 3 56 (.agg #[.slice none 0 0, .bool false, .slice none 0 0]) (.t 61) (.t 65)⟩, ⟨some 4, none, .mov (.t 66)⟩]) .skip))
   (.seq (.ops [⟨some 67, none, .mov (.t 4)⟩, ⟨some 2, none, .mov (.t 67)⟩])
   .ret)))))))))
theorem Try.known33 : Known Try.prog 33 Try.pc33 68 [2] := ⟨Try.f33, _, Try.func33, rfl, by kernel_rfl, rfl, rfl⟩
/-- redwax/redwaxlaw16.same -/
def Try.pc35 : PC :=
  (.seq (.ops [⟨some 4, none, .mov (.v (.bool false))⟩])
  (.seq (.seq (.ops [⟨some 6, none, .mov (.t 0)⟩, ⟨some 7, none, .lenS (.t 6)⟩, ⟨some 8, none, .mov (.t 1)⟩, ⟨some 9, none, .lenS (.t 8)⟩, ⟨some 10, none, .bin .neq (.t 7) (.t 9)⟩])
  (.cond (.t 10) (.seq (.ops [⟨some 4, none, .mov (.v (.bool false))⟩])
   .ret) .skip))
  (.seq (.seq (.ops [⟨some 5, none, .mov (.v (.int .i64 0))⟩])
  (.block 0 (.loop (.seq (.seq (.ops [⟨some 11, none, .mov (.t 5)⟩, ⟨some 12, none, .mov (.t 0)⟩, ⟨some 13, none, .lenS (.t 12)⟩, ⟨some 14, none, .bin .lss (.t 11) (.t 13)⟩])
    (.cond (.t 14) .skip (.exit 0)))
    (.seq (.block 1 (.seq (.quiet 8 [⟨some 17, none, .mov (.t 0)⟩, ⟨some 18, none, .mov (.t 5)⟩, ⟨some 19, none, .ixS 1 (.t 17) (.t 18)⟩, ⟨some 20, none, .ld (.t 19)⟩, ⟨some 21, none, .mov (.t 1)⟩, ⟨some 22, none, .mov (.t 5)⟩, ⟨some 23, none, .ixS 1 (.t 21) (.t 22)⟩, ⟨some 24, none, .ld (.t 23)⟩, ⟨some 25, none, .bin .neq (.t 20) (.t 24)⟩])
     (.cond (.t 25) (.seq (.ops [⟨some 4, none, .mov (.v (.bool false))⟩])
      .ret) .skip)))
    (.ops [⟨some 15, none, .mov (.t 5)⟩, ⟨some 16, none, .bin .add (.t 15) (.v (.int .i64 1))⟩, ⟨some 5, none, .mov (.t 16)⟩]))))))
  (.seq (.ops [⟨some 4, none, .mov (.v (.bool true))⟩])
  .ret))))
theorem Try.known35 : Known Try.prog 35 Try.pc35 26 [4] := ⟨Try.f35, _, Try.func35, rfl, by kernel_rfl, rfl, rfl⟩
/-- redwax/render.Text -/
def Try.pc36 : PC :=
  (.seq (.ops [⟨some 2, none, .mov (.v (.slice none 0 0))⟩])
  (.seq (.ops [⟨some 3, none, .mov (.v (.slice none 0 0))⟩])
  (.seq (.seq (.ops [⟨some 8, none, .mov (.t 0)⟩, ⟨some 9, none, .lenS (.t 8)⟩, ⟨some 10, none, .mov (.v (.int .i64 0))⟩])
  (.block 0 (.loop (.seq (.ops [⟨some 11, none, .bin .lss (.t 10) (.t 9)⟩])
    (.seq (.cond (.t 11) .skip (.exit 0))
    (.seq (.block 1 (.seq (.ops [⟨some 12, none, .ixS 3 (.t 8) (.t 10)⟩, ⟨some 13, none, .ldA 3 (.t 12)⟩, ⟨some 5, none, .al 73 [.slice none 0 0, .bool false, .slice none 0 0]⟩, ⟨none, none, .st 3 (.t 5) (.t 13)⟩])
     (.seq (.seq (.ops [⟨some 14, none, .fa 1 (.t 5)⟩, ⟨some 15, none, .ld (.t 14)⟩])
     (.cond (.t 15) (.ops [⟨some 16, none, .mov (.t 3)⟩, ⟨some 17, none, .bsl 9 [.string ⟨#[]⟩] 1 [(0, 1, (.v (.string ⟨#[62, 62, 62, 62, 62, 62, 62]⟩)))]⟩, ⟨some 18, none, .app 33 9 1 16 (.string ⟨#[]⟩) (.t 16) (.t 17)⟩, ⟨some 3, none, .mov (.t 18)⟩]) .skip))
     (.seq (.seq (.ops [⟨some 19, none, .fa 0 (.t 5)⟩, ⟨some 20, none, .ld (.t 19)⟩, ⟨some 21, none, .lenS (.t 20)⟩, ⟨some 22, none, .mov (.v (.int .i64 0))⟩])
     (.block 2 (.loop (.seq (.ops [⟨some 23, none, .bin .lss (.t 22) (.t 21)⟩])
       (.seq (.cond (.t 23) .skip (.exit 2))
       (.seq (.block 3 (.seq (.ops [⟨some 24, none, .mov (.t 22)⟩, ⟨some 25, none, .ixS 35 (.t 20) (.t 22)⟩, ⟨some 26, none, .ldA 35 (.t 25)⟩, ⟨some 7, none, .al 43 [.int .u8 0, .int .u8 0, .int .u8 0, .int .u8 0, .int .u8 0, .int .u8 0, .int .u8 0, .int .u8 0, .int .u8 0, .int .u8 0, .int .u8 0, .int .u8 0, .int .u8 0, .int .u8 0, .int .u8 0, .int .u8 0, .int .u8 0, .int .u8 0, .int .u8 0, .int .u8 0, .int .u8 0, .int .u8 0, .int .u8 0, .int .u8 0, .int .u8 0, .int .u8 0, .int .u8 0, .int .u8 0, .int .u8 0, .int .u8 0, .int .u8 0, .int .u8 0, .int .i64 0, .string ⟨#[]⟩, .bool false]⟩, ⟨some 6, none, .mov (.t 24)⟩, ⟨none, none, .st 35 (.t 7) (.t 26)⟩])
        (.seq (.seq (.ops [⟨some 27, none, .fa 1 (.t 5)⟩, ⟨some 28, none, .ld (.t 27)⟩, ⟨some 29, none, .mov (.t 28)⟩, ⟨some 30, (some (29, true)), .fa 2 (.t 5)⟩, ⟨some 31, (some (29, true)), .ld (.t 30)⟩, ⟨some 32, (some (29, true)), .mov (.t 6)⟩, ⟨some 33, (some (29, true)), .call 76 [(.t 31), (.t 32)]⟩, ⟨some 34, none, .pick (.t 29) (.t 33) (.v (.bool false))⟩])
        (.cond (.t 34) (.ops [⟨some 35, none, .mov (.t 3)⟩, ⟨some 36, none, .bsl 9 [.string ⟨#[]⟩] 1 [(0, 1, (.v (.string ⟨#[61, 61, 61, 61, 61, 61, 61]⟩)))]⟩, ⟨some 37, none, .app 33 9 1 16 (.string ⟨#[]⟩) (.t 35) (.t 36)⟩, ⟨some 3, none, .mov (.t 37)⟩]) .skip))
        (.ops [⟨some 38, none, .mov (.t 3)⟩, ⟨some 39, none, .fa 33 (.t 7)⟩, ⟨some 40, none, .ld (.t 39)⟩, ⟨some 41, none, .bsl 9 [.string ⟨#[]⟩] 1 [(0, 1, (.t 40))]⟩, ⟨some 42, none, .app 33 9 1 16 (.string ⟨#[]⟩) (.t 38) (.t 41)⟩, ⟨some 3, none, .mov (.t 42)⟩]))))
       (.ops [⟨some 43, none, .bin .add (.t 22) (.v (.int .i64 1))⟩, ⟨some 22, none, .mov (.t 43)⟩])))))))
     (.seq (.ops [⟨some 44, none, .fa 1 (.t 5)⟩, ⟨some 45, none, .ld (.t 44)⟩])
     (.cond (.t 45) (.ops [⟨some 46, none, .mov (.t 3)⟩, ⟨some 47, none, .bsl 9 [.string ⟨#[]⟩] 1 [(0, 1, (.v (.string ⟨#[60, 60, 60, 60, 60, 60, 60]⟩)))]⟩, ⟨some 48, none, .app 33 9 1 16 (.string ⟨#[]⟩) (.t 46) (.t 47)⟩, ⟨some 3, none, .mov (.t 48)⟩]) .skip))))))
    (.ops [⟨some 49, none, .bin .add (.t 10) (.v (.int .i64 1))⟩, ⟨some 10, none, .mov (.t 49)⟩])))))))
  (.seq (.ops [⟨some 50, none, .mov (.t 3)⟩, ⟨some 2, none, .mov (.t 50)⟩])
  .ret))))
theorem Try.known36 : Known Try.prog 36 Try.pc36 51 [2] := ⟨Try.f36, _, Try.func36, rfl, by kernel_rfl, rfl, rfl⟩
/-- redwax/render.Conflict -/
def Try.pc39 : PC :=
  (.seq (.ops [⟨some 2, none, .mov (.v (.bool false))⟩])
  (.seq (.ops [⟨some 3, none, .mov (.t 0)⟩, ⟨some 4, none, .call 78 [(.t 3), (.v (.func (.func 79) #[] #[]))]⟩, ⟨some 2, none, .mov (.t 4)⟩])
  .ret))
theorem Try.known39 : Known Try.prog 39 Try.pc39 5 [2] := ⟨Try.f39, _, Try.func39, rfl, by kernel_rfl, rfl, rfl⟩
/-- redwax/redwaxlaw16.base -/
def Try.pc41 : PC :=
  (.seq (.ops [⟨some 0, none, .mov (.v (.pointer none))⟩, ⟨some 1, none, .al 32 [.int .u8 0, .int .u8 0, .int .u8 0, .int .u8 0, .int .u8 0, .int .u8 0, .int .u8 0, .int .u8 0, .int .u8 0, .int .u8 0, .int .u8 0, .int .u8 0, .int .u8 0, .int .u8 0, .int .u8 0, .int .u8 0, .int .u8 0, .int .u8 0, .int .u8 0, .int .u8 0, .int .u8 0, .int .u8 0, .int .u8 0, .int .u8 0, .int .u8 0, .int .u8 0, .int .u8 0, .int .u8 0, .int .u8 0, .int .u8 0, .int .u8 0, .int .u8 0, .int .i64 0]⟩, ⟨some 2, none, .al 32 [.int .u8 0, .int .u8 0, .int .u8 0, .int .u8 0, .int .u8 0, .int .u8 0, .int .u8 0, .int .u8 0, .int .u8 0, .int .u8 0, .int .u8 0, .int .u8 0, .int .u8 0, .int .u8 0, .int .u8 0, .int .u8 0, .int .u8 0, .int .u8 0, .int .u8 0, .int .u8 0, .int .u8 0, .int .u8 0, .int .u8 0, .int .u8 0, .int .u8 0, .int .u8 0, .int .u8 0, .int .u8 0, .int .u8 0, .int .u8 0, .int .u8 0, .int .u8 0, .int .i64 0]⟩])
  (.seq (.ops [⟨some 4, none, .call 14 []⟩, ⟨some 3, none, .mov (.t 4)⟩])
  (.seq (.ops [⟨some 5, none, .mov (.t 3)⟩, ⟨some 6, none, .build [.int .u8 0, .int .u8 0, .int .u8 0, .int .u8 0, .int .u8 0, .int .u8 0, .int .u8 0, .int .u8 0, .int .u8 0, .int .u8 0, .int .u8 0, .int .u8 0, .int .u8 0, .int .u8 0, .int .u8 0, .int .u8 0, .int .u8 0, .int .u8 0, .int .u8 0, .int .u8 0, .int .u8 0, .int .u8 0, .int .u8 0, .int .u8 0, .int .u8 0, .int .u8 0, .int .u8 0, .int .u8 0, .int .u8 0, .int .u8 0, .int .u8 0, .int .u8 0, .int .i64 0] [(32, 1, (.v (.int .i64 (-1))))]⟩, ⟨some 7, none, .build [.int .u8 0, .int .u8 0, .int .u8 0, .int .u8 0, .int .u8 0, .int .u8 0, .int .u8 0, .int .u8 0, .int .u8 0, .int .u8 0, .int .u8 0, .int .u8 0, .int .u8 0, .int .u8 0, .int .u8 0, .int .u8 0, .int .u8 0, .int .u8 0, .int .u8 0, .int .u8 0, .int .u8 0, .int .u8 0, .int .u8 0, .int .u8 0, .int .u8 0, .int .u8 0, .int .u8 0, .int .u8 0, .int .u8 0, .int .u8 0, .int .u8 0, .int .u8 0, .int .i64 0] [(32, 1, (.v (.int .i64 (-2))))]⟩, ⟨some 8, none, .bsl 9 [.string ⟨#[]⟩, .string ⟨#[]⟩] 2 [(0, 1, (.v (.string ⟨#[97]⟩))), (1, 1, (.v (.string ⟨#[98]⟩)))]⟩, ⟨some 9, none, .call 42 [(.v (.int .u8 1)), (.t 6), (.t 7), (.t 8)]⟩, ⟨some 10, none, .call 16 [(.t 5), (.t 9)]⟩])
  (.seq (.ops [⟨some 11, none, .mov (.t 3)⟩, ⟨some 12, none, .more (.bldA [.int .u8 0, .int .u8 0, .int .u8 0, .int .u8 0, .int .u8 0, .int .u8 0, .int .u8 0, .int .u8 0, .int .u8 0, .int .u8 0, .int .u8 0, .int .u8 0, .int .u8 0, .int .u8 0, .int .u8 0, .int .u8 0, .int .u8 0, .int .u8 0, .int .u8 0, .int .u8 0, .int .u8 0, .int .u8 0, .int .u8 0, .int .u8 0, .int .u8 0, .int .u8 0, .int .u8 0, .int .u8 0, .int .u8 0, .int .u8 0, .int .u8 0, .int .u8 0] [(0, 1, (.v (.int .u8 1)))])⟩, ⟨some 13, none, .build [.int .u8 0, .int .u8 0, .int .u8 0, .int .u8 0, .int .u8 0, .int .u8 0, .int .u8 0, .int .u8 0, .int .u8 0, .int .u8 0, .int .u8 0, .int .u8 0, .int .u8 0, .int .u8 0, .int .u8 0, .int .u8 0, .int .u8 0, .int .u8 0, .int .u8 0, .int .u8 0, .int .u8 0, .int .u8 0, .int .u8 0, .int .u8 0, .int .u8 0, .int .u8 0, .int .u8 0, .int .u8 0, .int .u8 0, .int .u8 0, .int .u8 0, .int .u8 0, .int .i64 0] [(0, 32, (.t 12))]⟩, ⟨some 14, none, .more (.bldA [.int .u8 0, .int .u8 0, .int .u8 0, .int .u8 0, .int .u8 0, .int .u8 0, .int .u8 0, .int .u8 0, .int .u8 0, .int .u8 0, .int .u8 0, .int .u8 0, .int .u8 0, .int .u8 0, .int .u8 0, .int .u8 0, .int .u8 0, .int .u8 0, .int .u8 0, .int .u8 0, .int .u8 0, .int .u8 0, .int .u8 0, .int .u8 0, .int .u8 0, .int .u8 0, .int .u8 0, .int .u8 0, .int .u8 0, .int .u8 0, .int .u8 0, .int .u8 0] [(0, 1, (.v (.int .u8 1)))])⟩, ⟨some 15, none, .build [.int .u8 0, .int .u8 0, .int .u8 0, .int .u8 0, .int .u8 0, .int .u8 0, .int .u8 0, .int .u8 0, .int .u8 0, .int .u8 0, .int .u8 0, .int .u8 0, .int .u8 0, .int .u8 0, .int .u8 0, .int .u8 0, .int .u8 0, .int .u8 0, .int .u8 0, .int .u8 0, .int .u8 0, .int .u8 0, .int .u8 0, .int .u8 0, .int .u8 0, .int .u8 0, .int .u8 0, .int .u8 0, .int .u8 0, .int .u8 0, .int .u8 0, .int .u8 0, .int .i64 0] [(0, 32, (.t 14)), (32, 1, (.v (.int .i64 1)))]⟩, ⟨some 0, none, .mov (.t 11)⟩, ⟨none, none, .st 33 (.t 1) (.t 13)⟩, ⟨none, none, .st 33 (.t 2) (.t 15)⟩])
  .ret))))
theorem Try.known41 : KnownTCC Try.prog 41 Try.pc41 16 0 1 2 (some 33) (some 33) := ⟨Try.f41, _, _, _, Try.func41, rfl, by kernel_rfl, rfl, rfl, by kernel_rfl, by kernel_rfl⟩
/-- redwax/redwaxlaw16.part -/
def Try.pc42 : PC :=
  (.seq (.ops [⟨some 5, none, .bx 32 (.t 1)⟩, ⟨some 6, none, .bx 32 (.t 2)⟩, ⟨some 8, none, .al 36 [.int .u8 0, .int .u8 0, .int .u8 0, .int .u8 0, .int .u8 0, .int .u8 0, .int .u8 0, .int .u8 0, .int .u8 0, .int .u8 0, .int .u8 0, .int .u8 0, .int .u8 0, .int .u8 0, .int .u8 0, .int .u8 0, .int .u8 0, .int .u8 0, .int .u8 0, .int .u8 0, .int .u8 0, .int .u8 0, .int .u8 0, .int .u8 0, .int .u8 0, .int .u8 0, .int .u8 0, .int .u8 0, .int .u8 0, .int .u8 0, .int .u8 0, .int .u8 0, .int .i64 0, .int .i64 0, .int .u8 0, .int .u8 0, .int .u8 0, .int .u8 0, .int .u8 0, .int .u8 0, .int .u8 0, .int .u8 0, .int .u8 0, .int .u8 0, .int .u8 0, .int .u8 0, .int .u8 0, .int .u8 0, .int .u8 0, .int .u8 0, .int .u8 0, .int .u8 0, .int .u8 0, .int .u8 0, .int .u8 0, .int .u8 0, .int .u8 0, .int .u8 0, .int .u8 0, .int .u8 0, .int .u8 0, .int .u8 0, .int .u8 0, .int .u8 0, .int .u8 0, .int .u8 0, .int .i64 0, .int .u8 0, .int .u8 0, .int .u8 0, .int .u8 0, .int .u8 0, .int .u8 0, .int .u8 0, .int .u8 0, .int .u8 0, .int .u8 0, .int .u8 0, .int .u8 0, .int .u8 0, .int .u8 0, .int .u8 0, .int .u8 0, .int .u8 0, .int .u8 0, .int .u8 0, .int .u8 0, .int .u8 0, .int .u8 0, .int .u8 0, .int .u8 0, .int .u8 0, .int .u8 0, .int .u8 0, .int .u8 0, .int .u8 0, .int .u8 0, .int .u8 0, .int .u8 0, .int .i64 0, .slice none 0 0, .slice none 0 0]⟩])
  (.seq (.ops [⟨some 9, none, .mov (.t 0)⟩, ⟨some 10, none, .more (.bldA [.int .u8 0, .int .u8 0, .int .u8 0, .int .u8 0, .int .u8 0, .int .u8 0, .int .u8 0, .int .u8 0, .int .u8 0, .int .u8 0, .int .u8 0, .int .u8 0, .int .u8 0, .int .u8 0, .int .u8 0, .int .u8 0, .int .u8 0, .int .u8 0, .int .u8 0, .int .u8 0, .int .u8 0, .int .u8 0, .int .u8 0, .int .u8 0, .int .u8 0, .int .u8 0, .int .u8 0, .int .u8 0, .int .u8 0, .int .u8 0, .int .u8 0, .int .u8 0] [(0, 1, (.t 9))])⟩, ⟨some 11, none, .ldA 33 (.t 5)⟩, ⟨some 12, none, .ldA 33 (.t 6)⟩, ⟨some 13, none, .mov (.t 3)⟩, ⟨some 14, none, .build [.int .u8 0, .int .u8 0, .int .u8 0, .int .u8 0, .int .u8 0, .int .u8 0, .int .u8 0, .int .u8 0, .int .u8 0, .int .u8 0, .int .u8 0, .int .u8 0, .int .u8 0, .int .u8 0, .int .u8 0, .int .u8 0, .int .u8 0, .int .u8 0, .int .u8 0, .int .u8 0, .int .u8 0, .int .u8 0, .int .u8 0, .int .u8 0, .int .u8 0, .int .u8 0, .int .u8 0, .int .u8 0, .int .u8 0, .int .u8 0, .int .u8 0, .int .u8 0, .int .i64 0, .int .i64 0, .int .u8 0, .int .u8 0, .int .u8 0, .int .u8 0, .int .u8 0, .int .u8 0, .int .u8 0, .int .u8 0, .int .u8 0, .int .u8 0, .int .u8 0, .int .u8 0, .int .u8 0, .int .u8 0, .int .u8 0, .int .u8 0, .int .u8 0, .int .u8 0, .int .u8 0, .int .u8 0, .int .u8 0, .int .u8 0, .int .u8 0, .int .u8 0, .int .u8 0, .int .u8 0, .int .u8 0, .int .u8 0, .int .u8 0, .int .u8 0, .int .u8 0, .int .u8 0, .int .i64 0, .int .u8 0, .int .u8 0, .int .u8 0, .int .u8 0, .int .u8 0, .int .u8 0, .int .u8 0, .int .u8 0, .int .u8 0, .int .u8 0, .int .u8 0, .int .u8 0, .int .u8 0, .int .u8 0, .int .u8 0, .int .u8 0, .int .u8 0, .int .u8 0, .int .u8 0, .int .u8 0, .int .u8 0, .int .u8 0, .int .u8 0, .int .u8 0, .int .u8 0, .int .u8 0, .int .u8 0, .int .u8 0, .int .u8 0, .int .u8 0, .int .u8 0, .int .u8 0, .int .i64 0, .slice none 0 0, .slice none 0 0] [(0, 32, (.t 10)), (34, 33, (.t 11)), (67, 33, (.t 12)), (100, 1, (.t 13))]⟩, ⟨none, none, .st 102 (.t 8) (.t 14)⟩])
  .ret))
theorem Try.known42 : KnownC Try.prog 42 Try.pc42 15 8 (some 102) := ⟨Try.f42, _, _, Try.func42, rfl, by kernel_rfl, rfl, rfl, by kernel_rfl⟩
/-- slices.DeleteFunc[[]redwax/graph.Line,redwax/graph.Line] -/
def Try.pc69 : PC :=
  (.seq (.ops [⟨some 4, none, .mov (.v (.slice none 0 0))⟩])
  (.seq (.ops [⟨some 8, none, .mov (.t 0)⟩, ⟨some 9, none, .mov (.t 1)⟩, ⟨some 10, none, .call 96 [(.t 8), (.t 9)]⟩, ⟨some 5, none, .mov (.t 10)⟩])
  (.seq (.seq (.ops [⟨some 11, none, .mov (.t 5)⟩, ⟨some 12, none, .bin .eql (.t 11) (.v (.int .i64 (-1)))⟩])
  (.cond (.t 12) (.seq (.ops [⟨some 13, none, .mov (.t 0)⟩, ⟨some 4, none, .mov (.t 13)⟩])
   .ret) .skip))
  (.seq (.seq (.ops [⟨some 14, none, .mov (.t 5)⟩, ⟨some 15, none, .bin .add (.t 14) (.v (.int .i64 1))⟩, ⟨some 6, none, .mov (.t 15)⟩])
  (.block 0 (.loop (.seq (.seq (.ops [⟨some 16, none, .mov (.t 6)⟩, ⟨some 17, none, .mov (.t 0)⟩, ⟨some 18, none, .lenS (.t 17)⟩, ⟨some 19, none, .bin .lss (.t 16) (.t 18)⟩])
    (.cond (.t 19) .skip (.exit 0)))
    (.seq (.block 1 (.seq (.ops [⟨some 22, none, .mov (.t 0)⟩, ⟨some 23, none, .mov (.t 6)⟩, ⟨some 24, none, .ixS 35 (.t 22) (.t 23)⟩, ⟨some 25, none, .ldA 35 (.t 24)⟩, ⟨some 7, none, .al 43 [.int .u8 0, .int .u8 0, .int .u8 0, .int .u8 0, .int .u8 0, .int .u8 0, .int .u8 0, .int .u8 0, .int .u8 0, .int .u8 0, .int .u8 0, .int .u8 0, .int .u8 0, .int .u8 0, .int .u8 0, .int .u8 0, .int .u8 0, .int .u8 0, .int .u8 0, .int .u8 0, .int .u8 0, .int .u8 0, .int .u8 0, .int .u8 0, .int .u8 0, .int .u8 0, .int .u8 0, .int .u8 0, .int .u8 0, .int .u8 0, .int .u8 0, .int .u8 0, .int .i64 0, .string ⟨#[]⟩, .bool false]⟩, ⟨none, none, .st 35 (.t 7) (.t 25)⟩])
     (.seq (.ops [⟨some 26, none, .mov (.t 1)⟩, ⟨some 27, none, .ldA 35 (.t 7)⟩, ⟨some 28, none, .callv (.t 26) [(.t 27)]⟩, ⟨some 29, none, .not (.t 28)⟩])
     (.cond (.t 29) (.seq (.ops [⟨some 30, none, .mov (.t 0)⟩, ⟨some 31, none, .mov (.t 5)⟩, ⟨some 32, none, .ldA 35 (.t 7)⟩, ⟨some 33, none, .ixS 35 (.t 30) (.t 31)⟩, ⟨none, none, .st 35 (.t 33) (.t 32)⟩])
      (.ops [⟨some 34, none, .mov (.t 5)⟩, ⟨some 35, none, .bin .add (.t 34) (.v (.int .i64 1))⟩, ⟨some 5, none, .mov (.t 35)⟩])) .skip))))
    (.ops [⟨some 20, none, .mov (.t 6)⟩, ⟨some 21, none, .bin .add (.t 20) (.v (.int .i64 1))⟩, ⟨some 6, none, .mov (.t 21)⟩]))))))
  (.seq (.ops [⟨some 36, none, .mov (.t 0)⟩, ⟨some 37, none, .mov (.t 5)⟩, ⟨some 38, none, .slS 35 (.t 36) (some (.t 37)) none⟩, ⟨none, none, .more (.clr 43 35 (.agg #[.int .u8 0, .int .u8 0, .int .u8 0, .int .u8 0, .int .u8 0, .int .u8 0, .int .u8 0, .int .u8 0, .int .u8 0, .int .u8 0, .int .u8 0, .int .u8 0, .int .u8 0, .int .u8 0, .int .u8 0, .int .u8 0, .int .u8 0, .int .u8 0, .int .u8 0, .int .u8 0, .int .u8 0, .int .u8 0, .int .u8 0, .int .u8 0, .int .u8 0, .int .u8 0, .int .u8 0, .int .u8 0, .int .u8 0, .int .u8 0, .int .u8 0, .int .u8 0, .int .i64 0, .string ⟨#[]⟩, .bool false]) (.t 38))⟩])
  (.seq (.ops [⟨some 39, none, .mov (.t 0)⟩, ⟨some 40, none, .mov (.t 5)⟩, ⟨some 41, none, .slS 35 (.t 39) none (some (.t 40))⟩, ⟨some 4, none, .mov (.t 41)⟩])
  .ret))))))
theorem Try.known69 : Known Try.prog 69 Try.pc69 42 [4] := ⟨Try.f69, _, Try.func69, rfl, by kernel_rfl, rfl, rfl⟩
/-- redwax/render.Items$1 -/
def Try.pc70 : PC :=
  (.seq (.ops [⟨some 1, none, .bx 43 (.t 0)⟩, ⟨some 2, none, .mov (.v (.bool false))⟩])
  (.seq (.ops [⟨some 3, none, .fa 34 (.t 1)⟩, ⟨some 4, none, .ld (.t 3)⟩, ⟨some 5, none, .not (.t 4)⟩, ⟨some 2, none, .mov (.t 5)⟩])
  .ret))
theorem Try.known70 : Known Try.prog 70 Try.pc70 6 [2] := ⟨Try.f70, _, Try.func70, rfl, by kernel_rfl, rfl, rfl⟩
/-- redwax/render.ordered -/
def Try.pc71 : PC :=
  (.seq (.ops [⟨some 4, none, .bx 43 (.t 1)⟩, ⟨some 5, none, .bx 43 (.t 2)⟩, ⟨some 6, none, .mov (.v (.bool false))⟩])
  (.seq (.ops [⟨some 7, none, .mov (.t 0)⟩, ⟨some 8, none, .fa 0 (.t 4)⟩, ⟨some 9, none, .ldA 33 (.t 8)⟩, ⟨some 10, none, .fa 0 (.t 5)⟩, ⟨some 11, none, .ldA 33 (.t 10)⟩, ⟨some 12, none, .call 18 [(.t 7), (.t 9), (.t 11)]⟩, ⟨some 13, none, .mov (.t 12)⟩, ⟨some 14, (some (13, false)), .mov (.t 0)⟩, ⟨some 15, (some (13, false)), .fa 0 (.t 5)⟩, ⟨some 16, (some (13, false)), .ldA 33 (.t 15)⟩, ⟨some 17, (some (13, false)), .fa 0 (.t 4)⟩, ⟨some 18, (some (13, false)), .ldA 33 (.t 17)⟩, ⟨some 19, (some (13, false)), .call 18 [(.t 14), (.t 16), (.t 18)]⟩, ⟨some 20, none, .pick (.t 13) (.v (.bool true)) (.t 19)⟩, ⟨some 6, none, .mov (.t 20)⟩])
  .ret))
theorem Try.known71 : Known Try.prog 71 Try.pc71 21 [6] := ⟨Try.f71, _, Try.func71, rfl, by kernel_rfl, rfl, rfl⟩
/-- redwax/render.block -/
def Try.pc72 : PC :=
  (.seq (.ops [⟨some 4, none, .al 73 [.slice none 0 0, .bool false, .slice none 0 0]⟩])
  (.seq (.ops [⟨some 7, none, .mov (.t 1)⟩, ⟨some 8, none, .build [.slice none 0 0, .bool false, .slice none 0 0] [(0, 1, (.t 7)), (1, 1, (.v (.bool true)))]⟩, ⟨some 5, none, .al 73 [.slice none 0 0, .bool false, .slice none 0 0]⟩, ⟨none, none, .st 3 (.t 5) (.t 8)⟩])
  (.seq (.seq (.ops [⟨some 6, none, .mov (.v (.int .i64 1))⟩])
  (.block 0 (.loop (.seq (.seq (.ops [⟨some 9, none, .mov (.t 6)⟩, ⟨some 10, none, .mov (.t 1)⟩, ⟨some 11, none, .lenS (.t 10)⟩, ⟨some 12, none, .bin .lss (.t 9) (.t 11)⟩])
    (.cond (.t 12) .skip (.exit 0)))
    (.seq (.block 1 (.seq (.quiet 10 [⟨some 15, none, .mov (.t 0)⟩, ⟨some 16, none, .mov (.t 1)⟩, ⟨some 17, none, .mov (.t 6)⟩, ⟨some 18, none, .bin .sub (.t 17) (.v (.int .i64 1))⟩, ⟨some 19, none, .ixS 35 (.t 16) (.t 18)⟩, ⟨some 20, none, .ldA 35 (.t 19)⟩, ⟨some 21, none, .mov (.t 1)⟩, ⟨some 22, none, .mov (.t 6)⟩, ⟨some 23, none, .ixS 35 (.t 21) (.t 22)⟩, ⟨some 24, none, .ldA 35 (.t 23)⟩, ⟨some 25, none, .call 71 [(.t 15), (.t 20), (.t 24)]⟩, ⟨some 26, none, .not (.t 25)⟩])
     (.cond (.t 26) (.ops [⟨some 27, none, .fa 2 (.t 5)⟩, ⟨some 28, none, .ld (.t 27)⟩, ⟨some 29, none, .mov (.t 6)⟩, ⟨some 30, none, .bsl 3 [.int .i64 0] 1 [(0, 1, (.t 29))]⟩, ⟨some 31, none, .app 71 3 1 8 (.int .i64 0) (.t 28) (.t 30)⟩, ⟨some 32, none, .fa 2 (.t 5)⟩, ⟨none, none, .st 1 (.t 32) (.t 31)⟩]) .skip)))
    (.ops [⟨some 13, none, .mov (.t 6)⟩, ⟨some 14, none, .bin .add (.t 13) (.v (.int .i64 1))⟩, ⟨some 6, none, .mov (.t 14)⟩]))))))
  (.seq (.ops [⟨some 33, none, .ldA 3 (.t 5)⟩, ⟨none, none, .st 3 (.t 4) (.t 33)⟩])
  .ret))))
theorem Try.known72 : KnownC Try.prog 72 Try.pc72 34 4 (some 3) := ⟨Try.f72, _, _, Try.func72, rfl, by kernel_rfl, rfl, rfl, by kernel_rfl⟩
/-- slices.Contains[[]int,int] -/
def Try.pc76 : PC :=
  (.seq (.ops [⟨some 4, none, .mov (.v (.bool false))⟩])
  (.seq (.ops [⟨some 5, none, .mov (.t 0)⟩, ⟨some 6, none, .mov (.t 1)⟩, ⟨some 7, none, .call 98 [(.t 5), (.t 6)]⟩, ⟨some 8, none, .bin .geq (.t 7) (.v (.int .i64 0))⟩, ⟨some 4, none, .mov (.t 8)⟩])
  .ret))
theorem Try.known76 : Known Try.prog 76 Try.pc76 9 [4] := ⟨Try.f76, _, Try.func76, rfl, by kernel_rfl, rfl, rfl⟩
/-- slices.ContainsFunc[[]redwax/render.Item,redwax/render.Item] -/
def Try.pc78 : PC :=
  (.seq (.ops [⟨some 4, none, .mov (.v (.bool false))⟩])
  (.seq (.ops [⟨some 5, none, .mov (.t 0)⟩, ⟨some 6, none, .mov (.t 1)⟩, ⟨some 7, none, .call 99 [(.t 5), (.t 6)]⟩, ⟨some 8, none, .bin .geq (.t 7) (.v (.int .i64 0))⟩, ⟨some 4, none, .mov (.t 8)⟩])
  .ret))
theorem Try.known78 : Known Try.prog 78 Try.pc78 9 [4] := ⟨Try.f78, _, Try.func78, rfl, by kernel_rfl, rfl, rfl⟩
/-- redwax/render.Conflict$1 -/
def Try.pc79 : PC :=
  (.seq (.ops [⟨some 1, none, .bx 73 (.t 0)⟩, ⟨some 2, none, .mov (.v (.bool false))⟩])
  (.seq (.ops [⟨some 3, none, .fa 1 (.t 1)⟩, ⟨some 4, none, .ld (.t 3)⟩, ⟨some 2, none, .mov (.t 4)⟩])
  .ret))
theorem Try.known79 : Known Try.prog 79 Try.pc79 5 [2] := ⟨Try.f79, _, Try.func79, rfl, by kernel_rfl, rfl, rfl⟩
/-- slices.IndexFunc[[]redwax/graph.Line,redwax/graph.Line] -/
def Try.pc96 : PC :=
  (.seq (.ops [⟨some 4, none, .mov (.v (.int .i64 0))⟩])
  (.seq (.seq (.ops [⟨some 6, none, .mov (.t 0)⟩, ⟨some 7, none, .lenS (.t 6)⟩, ⟨some 8, none, .mov (.v (.int .i64 0))⟩])
  (.block 0 (.loop (.seq (.ops [⟨some 9, none, .bin .lss (.t 8) (.t 7)⟩])
    (.seq (.cond (.t 9) .skip (.exit 0))
    (.seq (.block 1 (.seq (.ops [⟨some 10, none, .mov (.t 8)⟩, ⟨some 5, none, .mov (.t 10)⟩])
     (.seq (.ops [⟨some 11, none, .mov (.t 1)⟩, ⟨some 12, none, .mov (.t 0)⟩, ⟨some 13, none, .mov (.t 5)⟩, ⟨some 14, none, .ixS 35 (.t 12) (.t 13)⟩, ⟨some 15, none, .ldA 35 (.t 14)⟩, ⟨some 16, none, .callv (.t 11) [(.t 15)]⟩])
     (.cond (.t 16) (.seq (.ops [⟨some 17, none, .mov (.t 5)⟩, ⟨some 4, none, .mov (.t 17)⟩])
      .ret) .skip))))
    (.ops [⟨some 18, none, .bin .add (.t 8) (.v (.int .i64 1))⟩, ⟨some 8, none, .mov (.t 18)⟩])))))))
  (.seq (.ops [⟨some 4, none, .mov (.v (.int .i64 (-1)))⟩])
  .ret)))
theorem Try.known96 : Known Try.prog 96 Try.pc96 19 [4] := ⟨Try.f96, _, Try.func96, rfl, by kernel_rfl, rfl, rfl⟩
/-- slices.Index[[]int,int] -/
def Try.pc98 : PC :=
  (.seq (.ops [⟨some 4, none, .mov (.v (.int .i64 0))⟩])
  (.seq (.seq (.ops [⟨some 6, none, .mov (.t 0)⟩, ⟨some 7, none, .lenS (.t 6)⟩, ⟨some 8, none, .mov (.v (.int .i64 0))⟩])
  (.block 0 (.loop (.seq (.ops [⟨some 9, none, .bin .lss (.t 8) (.t 7)⟩])
    (.seq (.cond (.t 9) .skip (.exit 0))
    (.seq (.block 1 (.seq (.ops [⟨some 10, none, .mov (.t 8)⟩, ⟨some 5, none, .mov (.t 10)⟩])
     (.seq (.ops [⟨some 11, none, .mov (.t 1)⟩, ⟨some 12, none, .mov (.t 0)⟩, ⟨some 13, none, .mov (.t 5)⟩, ⟨some 14, none, .ixS 1 (.t 12) (.t 13)⟩, ⟨some 15, none, .ld (.t 14)⟩, ⟨some 16, none, .bin .eql (.t 11) (.t 15)⟩])
     (.cond (.t 16) (.seq (.ops [⟨some 17, none, .mov (.t 5)⟩, ⟨some 4, none, .mov (.t 17)⟩])
      .ret) .skip))))
    (.ops [⟨some 18, none, .bin .add (.t 8) (.v (.int .i64 1))⟩, ⟨some 8, none, .mov (.t 18)⟩])))))))
  (.seq (.ops [⟨some 4, none, .mov (.v (.int .i64 (-1)))⟩])
  .ret)))
theorem Try.known98 : Known Try.prog 98 Try.pc98 19 [4] := ⟨Try.f98, _, Try.func98, rfl, by kernel_rfl, rfl, rfl⟩
/-- slices.IndexFunc[[]redwax/render.Item,redwax/render.Item] -/
def Try.pc99 : PC :=
  (.seq (.ops [⟨some 4, none, .mov (.v (.int .i64 0))⟩])
  (.seq (.seq (.ops [⟨some 6, none, .mov (.t 0)⟩, ⟨some 7, none, .lenS (.t 6)⟩, ⟨some 8, none, .mov (.v (.int .i64 0))⟩])
  (.block 0 (.loop (.seq (.ops [⟨some 9, none, .bin .lss (.t 8) (.t 7)⟩])
    (.seq (.cond (.t 9) .skip (.exit 0))
    (.seq (.block 1 (.seq (.ops [⟨some 10, none, .mov (.t 8)⟩, ⟨some 5, none, .mov (.t 10)⟩])
     (.seq (.ops [⟨some 11, none, .mov (.t 1)⟩, ⟨some 12, none, .mov (.t 0)⟩, ⟨some 13, none, .mov (.t 5)⟩, ⟨some 14, none, .ixS 3 (.t 12) (.t 13)⟩, ⟨some 15, none, .ldA 3 (.t 14)⟩, ⟨some 16, none, .callv (.t 11) [(.t 15)]⟩])
     (.cond (.t 16) (.seq (.ops [⟨some 17, none, .mov (.t 5)⟩, ⟨some 4, none, .mov (.t 17)⟩])
      .ret) .skip))))
    (.ops [⟨some 18, none, .bin .add (.t 8) (.v (.int .i64 1))⟩, ⟨some 8, none, .mov (.t 18)⟩])))))))
  (.seq (.ops [⟨some 4, none, .mov (.v (.int .i64 (-1)))⟩])
  .ret)))
theorem Try.known99 : Known Try.prog 99 Try.pc99 19 [4] := ⟨Try.f99, _, Try.func99, rfl, by kernel_rfl, rfl, rfl⟩
end Go.Proofs

namespace Go.HP
variable {α : Type} [Inhabited α]
def swapL (l : List α) (i j : Nat) : List α := (l.set i l[j]!).set j l[i]!
theorem swapL_len (l : List α) (i j : Nat) : (swapL l i j).length = l.length := by simp [swapL]
theorem swapL_get {l : List α} {i j : Nat} (hi : i < l.length) (hj : j < l.length) (k : Nat) : (swapL l i j)[k]! = if k = j then l[i]! else if k = i then l[j]! else l[k]! := by
  unfold swapL
  simp only [List.getElem!_eq_getElem?_getD]
  by_cases h1 : k = j
  · subst h1
    rw [if_pos rfl, List.getElem?_set_self (by simpa using hj)]
    rfl
  · rw [if_neg h1, List.getElem?_set_ne (fun e => h1 e.symm)]
    by_cases h2 : k = i
    · subst h2
      rw [if_pos rfl, List.getElem?_set_self hi]
      rfl
    · rw [if_neg h2, List.getElem?_set_ne (fun e => h2 e.symm)]
theorem swapL_perm {l : List α} {i j : Nat} (hi : i < l.length) (hj : j < l.length) : (swapL l i j).Perm l := by
  unfold swapL
  rw [getElem!_pos l i hi, getElem!_pos l j hj]
  exact List.set_set_perm hi hj
variable (lt : α → α → Bool)
def upL : Nat → List α → Nat → List α
  | 0, l, _ => l
  | f + 1, l, j => if j = 0 then l else if lt l[j]! l[(j - 1) / 2]! then upL f (swapL l ((j - 1) / 2) j) ((j - 1) / 2) else l
def downJ (l : List α) (i n : Nat) : Nat := if 2 * i + 2 < n ∧ lt l[2 * i + 2]! l[2 * i + 1]! = true then 2 * i + 2 else 2 * i + 1
def downL : Nat → List α → Nat → Nat → List α
  | 0, l, _, _ => l
  | f + 1, l, i, n => if n ≤ 2 * i + 1 then l else if lt l[downJ lt l i n]! l[i]! then downL f (swapL l i (downJ lt l i n)) (downJ lt l i n) n else l
structure Ord : Prop where
  asymm : ∀ a b, lt a b = true → lt b a = false
  trans : ∀ a b c, lt b a = false → lt c b = false → lt c a = false
variable {lt}
def Hp (lt : α → α → Bool) (l : List α) (n : Nat) : Prop := ∀ k, 0 < k → k < n → lt l[k]! l[(k - 1) / 2]! = false
theorem upL_spec (O : Ord lt) : ∀ (f : Nat) (l : List α) (j : Nat), j ≤ f → j < l.length → (∀ k, 0 < k → k < l.length → k ≠ j → lt l[k]! l[(k - 1) / 2]! = false) →
    (∀ k, 0 < k → k < l.length → 0 < j → (k - 1) / 2 = j → lt l[k]! l[(j - 1) / 2]! = false) → Hp lt (upL lt f l j) l.length ∧ (upL lt f l j).Perm l
  | 0, l, j, hf, hj, h1, h2 => by
    refine ⟨fun k h0 hk => ?_, List.Perm.refl _⟩
    exact h1 k h0 hk (by omega)
  | f + 1, l, j, hf, hj, h1, h2 => by
    unfold upL
    by_cases hj0 : j = 0
    · rw [if_pos hj0]
      exact ⟨fun k h0 hk => h1 k h0 hk (by omega), List.Perm.refl _⟩
    rw [if_neg hj0]
    by_cases hl : lt l[j]! l[(j - 1) / 2]! = true
    · rw [if_pos hl]
      have hi : (j - 1) / 2 < j := by omega
      generalize hp : (j - 1) / 2 = i at hi hl ⊢
      have hil : i < l.length := by omega
      have hg := swapL_get hil hj
      have key := upL_spec O f (swapL l i j) i (by omega) (by rw [swapL_len]; exact hil) ?_ ?_
      · rw [swapL_len] at key
        exact ⟨key.1, key.2.trans (swapL_perm hil hj)⟩
      · intro k h0 hk hki
        rw [swapL_len] at hk
        rw [hg, hg]
        by_cases hkj : k = j
        · subst hkj
          rw [if_pos rfl, hp, if_neg (by omega), if_pos rfl]
          exact O.asymm _ _ hl
        · rw [if_neg hkj, if_neg hki]
          by_cases hpj : (k - 1) / 2 = j
          · rw [if_pos hpj]
            have := h2 k h0 hk (by omega) hpj
            rwa [hp] at this
          · rw [if_neg hpj]
            by_cases hpi : (k - 1) / 2 = i
            · rw [if_pos hpi]
              have := h1 k h0 hk hkj
              rw [hpi] at this
              exact O.trans _ _ _ (O.asymm _ _ hl) this
            · rw [if_neg hpi]
              exact h1 k h0 hk hkj
      · intro k h0 hk hi0 hki
        rw [swapL_len] at hk
        rw [hg, hg]
        have hii : (i - 1) / 2 ≠ j := by omega
        have hii2 : (i - 1) / 2 ≠ i := by omega
        rw [if_neg hii, if_neg hii2]
        by_cases hkj : k = j
        · subst hkj
          rw [if_pos rfl]
          exact h1 i hi0 hil (by omega)
        · rw [if_neg hkj, if_neg (by omega)]
          have a := h1 k h0 hk hkj
          rw [hki] at a
          exact O.trans _ _ _ (h1 i hi0 hil (by omega)) a
    · rw [if_neg hl]
      refine ⟨fun k h0 hk => ?_, List.Perm.refl _⟩
      by_cases hkj : k = j
      · subst hkj; simpa using hl
      · exact h1 k h0 hk hkj
theorem downL_spec (O : Ord lt) : ∀ (f : Nat) (l : List α) (i n : Nat), n ≤ f + i → i < n → n ≤ l.length → (∀ k, 0 < k → k < n → (k - 1) / 2 ≠ i → lt l[k]! l[(k - 1) / 2]! = false) →
    (∀ k, 0 < k → k < n → 0 < i → (k - 1) / 2 = i → lt l[k]! l[(i - 1) / 2]! = false) → Hp lt (downL lt f l i n) n ∧ (downL lt f l i n).Perm l ∧ ∀ k, n ≤ k → (downL lt f l i n)[k]! = l[k]!
  | 0, l, i, n, hf, hi, hn, h1, h2 => by omega
  | f + 1, l, i, n, hf, hi, hn, h1, h2 => by
    unfold downL
    by_cases hc : n ≤ 2 * i + 1
    · rw [if_pos hc]
      exact ⟨fun k h0 hk => h1 k h0 hk (by omega), List.Perm.refl _, fun _ _ => rfl⟩
    rw [if_neg hc]
    have hj : downJ lt l i n < n ∧ (downJ lt l i n - 1) / 2 = i ∧ 0 < downJ lt l i n ∧ i < downJ lt l i n ∧ ∀ k, 0 < k → k < n → (k - 1) / 2 = i → lt l[k]! l[downJ lt l i n]! = false := by
      unfold downJ
      split
      · rename_i h
        refine ⟨h.1, by omega, by omega, by omega, fun k h0 hk hp => ?_⟩
        have : k = 2 * i + 1 ∨ k = 2 * i + 2 := by omega
        rcases this with rfl | rfl
        · exact O.asymm _ _ h.2
        · cases hx : lt l[2 * i + 2]! l[2 * i + 2]! with
          | false => rfl
          | true => have := O.asymm _ _ hx; rw [hx] at this; cases this
      · rename_i h
        refine ⟨by omega, by omega, by omega, by omega, fun k h0 hk hp => ?_⟩
        have : k = 2 * i + 1 ∨ k = 2 * i + 2 := by omega
        rcases this with rfl | rfl
        · cases hx : lt l[2 * i + 1]! l[2 * i + 1]! with
          | false => rfl
          | true => have := O.asymm _ _ hx; rw [hx] at this; cases this
        · cases hx : lt l[2 * i + 2]! l[2 * i + 1]! with
          | false => rfl
          | true => exact absurd ⟨hk, hx⟩ h
    generalize downJ lt l i n = j at hj ⊢
    obtain ⟨hjn, hjp, hj0, hij, hjm⟩ := hj
    by_cases hl : lt l[j]! l[i]! = true
    · rw [if_pos hl]
      have hil : i < l.length := by omega
      have hjl : j < l.length := by omega
      have hg := swapL_get hil hjl
      have key := downL_spec O f (swapL l i j) j n (by omega) hjn (by rw [swapL_len]; exact hn) ?_ ?_
      · refine ⟨key.1, key.2.1.trans (swapL_perm hil hjl), fun k hk => ?_⟩
        rw [key.2.2 k hk, hg, if_neg (by omega), if_neg (by omega)]
      · intro k h0 hk hkj
        rw [hg, hg, if_neg hkj]
        by_cases hk1 : k = j
        · subst hk1
          rw [if_pos rfl, hjp, if_pos rfl]
          exact O.asymm _ _ hl
        · rw [if_neg hk1]
          by_cases hpi : (k - 1) / 2 = i
          · rw [if_pos hpi, if_neg (by omega)]
            exact hjm k h0 hk hpi
          · rw [if_neg hpi]
            by_cases hki : k = i
            · subst hki
              rw [if_pos rfl]
              exact h2 j hj0 hjn h0 hjp
            · rw [if_neg hki]
              exact h1 k h0 hk hpi
      · intro k h0 hk _ hkj
        rw [hg, hg, hjp]
        rw [if_neg (by omega), if_neg (by omega), if_neg (by omega), if_pos rfl]
        have a := h1 k h0 hk (by omega)
        rw [hkj] at a
        exact a
    · rw [if_neg hl]
      refine ⟨fun k h0 hk => ?_, List.Perm.refl _, fun _ _ => rfl⟩
      by_cases hpi : (k - 1) / 2 = i
      · have hl' : lt l[j]! l[i]! = false := by simpa using hl
        rw [hpi]
        exact O.trans _ _ _ hl' (hjm k h0 hk hpi)
      · exact h1 k h0 hk hpi
def pushL (lt : α → α → Bool) (l : List α) (x : α) : List α := upL lt l.length (l ++ [x]) l.length
theorem get_app {l : List α} {x : α} {k : Nat} (h : k < l.length) : (l ++ [x])[k]! = l[k]! := by
  rw [getElem!_pos _ k (by simp; omega), getElem!_pos l k h, List.getElem_append_left h]
theorem pushL_spec (O : Ord lt) {l : List α} (h : Hp lt l l.length) (x : α) : Hp lt (pushL lt l x) (pushL lt l x).length ∧ (pushL lt l x).Perm (x :: l) := by
  have := upL_spec O l.length (l ++ [x]) l.length (Nat.le_refl _) (by simp) (fun k h0 hk hne => ?_) (fun k h0 hk h1 hp => ?_)
  · unfold pushL
    refine ⟨?_, this.2.trans (List.perm_append_singleton x l)⟩
    rw [this.2.length_eq]
    exact this.1
  · simp only [List.length_append, List.length_singleton] at hk
    rw [get_app (by omega), get_app (by omega)]
    exact h k h0 (by omega)
  · simp only [List.length_append, List.length_singleton] at hk
    omega
/-- what is popped, and what is left -/
def popL (lt : α → α → Bool) (l : List α) : List α := (downL lt l.length (swapL l 0 (l.length - 1)) 0 (l.length - 1)).take (l.length - 1)
theorem heap_min (O : Ord lt) {l : List α} {n : Nat} (h : Hp lt l n) : ∀ k, k < n → lt l[k]! l[0]! = false
  | 0, hk => by
    cases hx : lt l[0]! l[0]! with
    | false => rfl
    | true => have := O.asymm _ _ hx; rw [hx] at this; cases this
  | k + 1, hk => O.trans _ _ _ (heap_min O h ((k + 1 - 1) / 2) (by omega)) (h (k + 1) (by omega) hk)
theorem popL_spec (O : Ord lt) {l : List α} (h : Hp lt l l.length) (h0 : 0 < l.length) :
    Hp lt (popL lt l) (popL lt l).length ∧ (l[0]! :: popL lt l).Perm l ∧ (downL lt l.length (swapL l 0 (l.length - 1)) 0 (l.length - 1))[l.length - 1]! = l[0]! ∧ (popL lt l).length = l.length - 1 ∧ ∀ x ∈ popL lt l, lt x l[0]! = false := by
  by_cases h1 : l.length = 1
  · match l, h1 with
    | [a], _ =>
      have e : downL lt 1 (swapL [a] 0 0) 0 0 = [a] := by simp [downL, swapL]
      refine ⟨?_, ?_, ?_, ?_, ?_⟩
      · intro k hk hk2; simp [popL] at hk2
      · simp [popL]
      · simp [downL, swapL]
      · simp [popL]
      · simp [popL]
  · have hl : l.length - 1 < l.length := by omega
    have hg := swapL_get h0 hl
    have key := downL_spec O l.length (swapL l 0 (l.length - 1)) 0 (l.length - 1) (by omega) (by omega) (by rw [swapL_len]; omega) ?_ ?_
    · obtain ⟨k1, k2, k3⟩ := key
      have hlast : (downL lt l.length (swapL l 0 (l.length - 1)) 0 (l.length - 1))[l.length - 1]! = l[0]! := by
        rw [k3 _ (Nat.le_refl _), hg, if_pos rfl]
      unfold popL
      generalize downL lt l.length (swapL l 0 (l.length - 1)) 0 (l.length - 1) = d at k1 k2 k3 hlast
      have hd : d.length = l.length := by rw [k2.length_eq, swapL_len]
      have hp2 : d.Perm l := k2.trans (swapL_perm h0 hl)
      have hsplit : d = d.take (l.length - 1) ++ [l[0]!] := by
        have : d = d.take (l.length - 1) ++ d.drop (l.length - 1) := (List.take_append_drop _ _).symm
        rw [getElem!_pos d _ (by omega)] at hlast
        rw [List.drop_eq_getElem_cons (by omega), hlast, List.drop_of_length_le (by omega)] at this
        exact this
      have hperm : (l[0]! :: d.take (l.length - 1)).Perm l := by
        refine List.Perm.trans ?_ hp2
        conv => rhs; rw [hsplit]
        exact (List.perm_append_singleton _ _).symm
      refine ⟨?_, hperm, hlast, by simp; omega, fun x hx => ?_⟩
      · intro k hk hk2
        simp only [List.length_take] at hk2
        have a1 : (d.take (l.length - 1))[k]! = d[k]! := by
          rw [getElem!_pos _ k (by simp; omega), getElem!_pos d k (by omega), List.getElem_take]
        have a2 : (d.take (l.length - 1))[(k - 1) / 2]! = d[(k - 1) / 2]! := by
          rw [getElem!_pos _ _ (by simp; omega), getElem!_pos d _ (by omega), List.getElem_take]
        rw [a1, a2]
        exact k1 k hk (by omega)
      · have hx2 : x ∈ l := hperm.mem_iff.1 (List.mem_cons_of_mem _ hx)
        obtain ⟨k, hk, rfl⟩ := List.mem_iff_getElem.1 hx2
        have := heap_min O h k hk
        rwa [getElem!_pos l k hk] at this
    · intro k hk0 hk hp
      rw [hg, hg, if_neg (by omega), if_neg (by omega), if_neg (by omega), if_neg hp]
      exact h k hk0 (by omega)
    · intro k hk0 hk hi0 hp
      omega
end Go.HP

set_option linter.unusedVariables false
set_option linter.unusedSectionVars false
namespace Go.GP
section
variable {V : Type} [DecidableEq V]
def Free (E : List (V × V)) (left : List V) (v : V) : Prop := ∀ e ∈ E, e.2 = v → e.1 ∉ left
inductive Topo (lt : V → V → Bool) (E : List (V × V)) : List V → List V → Prop
  | nil {left : List V} (h : ∀ v ∈ left, ¬ Free E left v) : Topo lt E left []
  | cons {left : List V} {v : V} {L : List V} (h1 : v ∈ left) (h2 : Free E left v) (h3 : ∀ u ∈ left, Free E left u → lt u v = false) (h4 : Topo lt E (left.erase v) L) : Topo lt E left (v :: L)
variable {lt : V → V → Bool}
theorem Free.congr {E E' : List (V × V)} {left left' : List V} {v : V} (hE : ∀ e, e ∈ E ↔ e ∈ E') (hl : ∀ u, u ∈ left ↔ u ∈ left') (h : Free E left v) : Free E' left' v :=
  fun e he hv hm => h e ((hE e).2 he) hv ((hl _).2 hm)
theorem Topo.unique (tot : ∀ a b, lt a b = false → lt b a = false → a = b) {E : List (V × V)} {left L : List V} (h : Topo lt E left L) : ∀ {E' : List (V × V)} {left' L' : List V}, (∀ e, e ∈ E ↔ e ∈ E') → left.Perm left' → Topo lt E' left' L' → L = L' := by
  induction h with
  | nil h =>
    intro E' left' L' hE hp h'
    cases h' with
    | nil _ => rfl
    | cons h1 h2 h3 h4 => exact absurd (h2.congr (fun e => (hE e).symm) (fun u => hp.symm.mem_iff)) (h _ (hp.mem_iff.2 h1))
  | cons h1 h2 h3 h4 ih =>
    intro E' left' L' hE hp h'
    cases h' with
    | nil h => exact absurd (h2.congr hE (fun u => hp.mem_iff)) (h _ (hp.mem_iff.1 h1))
    | cons g1 g2 g3 g4 =>
      have e := tot _ _ (g3 _ (hp.mem_iff.1 h1) (h2.congr hE (fun u => hp.mem_iff))) (h3 _ (hp.mem_iff.2 g1) (g2.congr (fun e => (hE e).symm) (fun u => hp.symm.mem_iff)))
      subst e
      rw [ih hE (hp.erase _) g4]
theorem Topo.perm {E : List (V × V)} {left L : List V} (h : Topo lt E left L) (r : V → Nat) (hr : ∀ e ∈ E, e.1 ∈ left → e.2 ∈ left → r e.1 < r e.2) : L.Perm left := by
  induction h with
  | @nil left h =>
    cases left with
    | nil => exact List.Perm.refl _
    | cons x l =>
      exfalso
      have key : ∀ n (v : V), r v ≤ n → v ∈ x :: l → False := by
        intro n
        induction n with
        | zero =>
          intro v hv hm
          exact h v hm fun e he hev hmem => by have := hr e he hmem (by rw [hev]; exact hm); rw [hev] at this; omega
        | succ n ih =>
          intro v hv hm
          refine h v hm fun e he hev hmem => ?_
          have := hr e he hmem (by rw [hev]; exact hm)
          rw [hev] at this
          exact ih e.1 (by omega) hmem
      exact key _ x (Nat.le_refl _) (by simp)
  | cons h1 h2 h3 h4 ih =>
    refine List.Perm.trans (List.Perm.cons _ (ih fun e he ha hb => hr e he (List.mem_of_mem_erase ha) (List.mem_of_mem_erase hb))) ?_
    exact (List.perm_cons_erase h1).symm
theorem Topo.sub {E : List (V × V)} {left L : List V} (h : Topo lt E left L) : ∀ v ∈ L, v ∈ left := by
  induction h with
  | nil h => intro v hv; cases hv
  | cons h1 h2 h3 h4 ih =>
    intro u hu
    rcases List.mem_cons.1 hu with rfl | hu
    · exact h1
    · exact List.mem_of_mem_erase (ih u hu)
theorem Topo.order {E : List (V × V)} {left L : List V} (h : Topo lt E left L) (hn : left.Nodup) : L.Pairwise (fun x y => (y, x) ∉ E) ∧ L.Nodup := by
  induction h with
  | nil h => exact ⟨List.Pairwise.nil, List.nodup_nil⟩
  | @cons left v L h1 h2 h3 h4 ih =>
    obtain ⟨i1, i2⟩ := ih (hn.erase v)
    refine ⟨List.pairwise_cons.2 ⟨fun y hy he => h2 _ he rfl (List.mem_of_mem_erase (h4.sub y hy)), i1⟩, List.nodup_cons.2 ⟨fun hm => ?_, i2⟩⟩
    have := h4.sub v hm
    rw [hn.mem_erase_iff] at this
    exact this.1 rfl
inductive Rch (E : List (V × V)) : V → V → Prop
  | one {a b : V} (h : (a, b) ∈ E) : Rch E a b
  | cons {a c b : V} (h : (a, c) ∈ E) (t : Rch E c b) : Rch E a b
theorem Rch.mono {E E' : List (V × V)} {a b : V} (h : Rch E a b) (hE : ∀ e ∈ E, e ∈ E') : Rch E' a b := by
  induction h with
  | one h => exact .one (hE _ h)
  | cons h t ih => exact .cons (hE _ h) ih
theorem Rch.trans {E : List (V × V)} {a b c : V} (h : Rch E a b) (k : Rch E b c) : Rch E a c := by
  induction h with
  | one h => exact .cons h k
  | cons h t ih => exact .cons h (ih k)
theorem Rch.snoc {E : List (V × V)} {a b c : V} (h : Rch E a b) (k : (b, c) ∈ E) : Rch E a c := h.trans (.one k)
theorem Rch.rank {E : List (V × V)} {a b : V} (h : Rch E a b) (r : V → Nat) (hr : ∀ e ∈ E, r e.1 < r e.2) : r a < r b := by
  induction h with
  | one h => exact hr _ h
  | cons h t ih => exact Nat.lt_trans (hr _ h) ih
theorem Rch.src {E : List (V × V)} {a b : V} (h : Rch E a b) : ∃ c, (a, c) ∈ E := by
  cases h with
  | one h => exact ⟨_, h⟩
  | cons h t => exact ⟨_, h⟩
theorem Rch.tgt {E : List (V × V)} {a b : V} (h : Rch E a b) : ∃ c, (c, b) ∈ E := by
  induction h with
  | one h => exact ⟨_, h⟩
  | cons h t ih => exact ih
theorem Rch.last {E : List (V × V)} {a b : V} (h : Rch E a b) : (a, b) ∈ E ∨ ∃ c, Rch E a c ∧ (c, b) ∈ E := by
  induction h with
  | one h => exact .inl h
  | cons h t ih =>
    rcases ih with h2 | ⟨c, h2, h3⟩
    · exact .inr ⟨_, .one h, h2⟩
    · exact .inr ⟨c, .cons h h2, h3⟩
end
end Go.GP

set_option linter.unusedVariables false
namespace Go.GP
abbrev HashB := { l : List UInt8 // l.length = 32 }
abbrev Vtx := HashB × Int
def h0 : HashB := ⟨List.replicate 32 0, by simp⟩
instance : Inhabited HashB := ⟨h0⟩
def rootV : Vtx := (h0, -1)
def endV : Vtx := (h0, -2)
theorem root_ne_end : rootV ≠ endV := by decide
structure PartP where
  patch : HashB
  at_ : Int
  first : Int
  up : Vtx
  down : Vtx
  lines : List ByteArray
  gone : List Vtx
def PartP.vtx (p : PartP) (i : Nat) : Vtx := (p.patch, p.first + (i : Int))
def PartP.name (p : PartP) : HashB × Int := (p.patch, p.at_)
def own (p : PartP) : List Vtx := (List.range p.lines.length).map p.vtx
/-- the edges of a way -/
def edgeL {V : Type} : List V → List (V × V)
  | a :: b :: r => (a, b) :: edgeL (b :: r)
  | _ => []
def way (p : PartP) : List Vtx := p.up :: (own p ++ [p.down])
def edges (p : PartP) : List (Vtx × Vtx) := if p.lines.length = 0 then [] else edgeL (way p)
def names (p : PartP) : List Vtx := p.up :: p.down :: p.gone
def allV (ps : List PartP) : List Vtx := ps.flatMap own
def allE (ps : List PartP) : List (Vtx × Vtx) := ps.flatMap edges
def HasV (ps : List PartP) (v : Vtx) : Prop := v = rootV ∨ v = endV ∨ v ∈ allV ps
def Bef (ps : List PartP) (a b : Vtx) : Prop := HasV ps a ∧ HasV ps b ∧ a ≠ b ∧ a ≠ endV ∧ b ≠ rootV ∧ (a = rootV ∨ b = endV ∨ Rch (allE ps) a b)
theorem mem_own {p : PartP} {v : Vtx} : v ∈ own p ↔ ∃ i, i < p.lines.length ∧ p.vtx i = v := by
  unfold own; simp [List.mem_map]
theorem vtx_inj {p : PartP} {i j : Nat} (h : p.vtx i = p.vtx j) : i = j := by
  have := congrArg Prod.snd h
  simp only [PartP.vtx] at this
  omega
theorem own_nodup (p : PartP) : (own p).Nodup := by
  unfold own List.Nodup
  rw [List.pairwise_map]
  exact List.Pairwise.imp (fun h e => h (vtx_inj e)) List.nodup_range
theorem own_len (p : PartP) : (own p).length = p.lines.length := by simp [own]
theorem edgeL_mem {V : Type} {l : List V} {e : V × V} : e ∈ edgeL l ↔ ∃ i, l[i]? = some e.1 ∧ l[i + 1]? = some e.2 := by
  induction l with
  | nil => simp [edgeL]
  | cons a l ih =>
    cases l with
    | nil => simp [edgeL]
    | cons b r =>
      simp only [edgeL, List.mem_cons, ih]
      constructor
      · rintro (rfl | ⟨i, h1, h2⟩)
        · exact ⟨0, rfl, rfl⟩
        · exact ⟨i + 1, by simpa using h1, by simpa using h2⟩
      · rintro ⟨i, h1, h2⟩
        cases i with
        | zero =>
          simp at h1 h2
          left
          exact Prod.ext h1.symm h2.symm
        | succ i => exact .inr ⟨i, by simpa using h1, by simpa using h2⟩
theorem way_get (p : PartP) (i : Nat) : (way p)[i]? = if i = 0 then some p.up else if i ≤ p.lines.length then some (p.vtx (i - 1)) else if i = p.lines.length + 1 then some p.down else none := by
  unfold way
  cases i with
  | zero => simp
  | succ i =>
    rw [List.getElem?_cons_succ, if_neg (by omega), List.getElem?_append, own_len]
    by_cases h : i < p.lines.length
    · rw [if_pos h, if_pos (by omega)]
      simp [own, h]
    · rw [if_neg h, if_neg (by omega)]
      by_cases h2 : i = p.lines.length
      · subst h2; simp
      · rw [if_neg (by omega), List.getElem?_eq_none (by simp; omega)]
/-- an edge of a part -/
theorem mem_edges {p : PartP} {e : Vtx × Vtx} : e ∈ edges p ↔ ∃ i, i ≤ p.lines.length ∧ 0 < p.lines.length ∧ e.1 = (if i = 0 then p.up else p.vtx (i - 1)) ∧ e.2 = (if i < p.lines.length then p.vtx i else p.down) := by
  unfold edges
  by_cases h : p.lines.length = 0
  · rw [if_pos h]
    constructor
    · intro h; cases h
    · rintro ⟨i, h1, h2, _⟩; omega
  rw [if_neg h, edgeL_mem]
  constructor
  · rintro ⟨i, h1, h2⟩
    rw [way_get] at h1 h2
    have hi : i ≤ p.lines.length := by
      by_cases h3 : i ≤ p.lines.length
      · exact h3
      · rw [if_neg (by omega), if_neg (by omega), if_neg (by omega)] at h2
        cases h2
    refine ⟨i, hi, by omega, ?_, ?_⟩
    · split at h1
      · rename_i h0; rw [if_pos h0]; exact (Option.some.inj h1).symm
      · rename_i h0; rw [if_neg h0]; exact (Option.some.inj h1).symm
    · rw [if_neg (by omega)] at h2
      by_cases h3 : i < p.lines.length
      · rw [if_pos h3]; rw [if_pos (by omega)] at h2; exact (Option.some.inj h2).symm
      · rw [if_neg h3]; rw [if_neg (by omega), if_pos (by omega)] at h2; exact (Option.some.inj h2).symm
  · rintro ⟨i, h1, h2, h3, h4⟩
    refine ⟨i, ?_, ?_⟩
    · rw [way_get, h3]
      split <;> rfl
    · rw [way_get, h4, if_neg (by omega)]
      by_cases h5 : i < p.lines.length
      · rw [if_pos (by omega), if_pos h5]; rfl
      · rw [if_neg (by omega), if_pos (by omega), if_neg h5]
theorem edge_src {p : PartP} {e : Vtx × Vtx} (h : e ∈ edges p) : e.1 = p.up ∨ e.1 ∈ own p := by
  obtain ⟨i, h1, h2, h3, h4⟩ := mem_edges.1 h
  by_cases h0 : i = 0
  · rw [if_pos h0] at h3; exact .inl h3
  · rw [if_neg h0] at h3; exact .inr (mem_own.2 ⟨i - 1, by omega, h3.symm⟩)
theorem edge_tgt {p : PartP} {e : Vtx × Vtx} (h : e ∈ edges p) : e.2 = p.down ∨ e.2 ∈ own p := by
  obtain ⟨i, h1, h2, h3, h4⟩ := mem_edges.1 h
  by_cases h0 : i < p.lines.length
  · rw [if_pos h0] at h4; exact .inr (mem_own.2 ⟨i, h0, h4.symm⟩)
  · rw [if_neg h0] at h4; exact .inl h4
/-- an edge of a part has one of its own lines at one end -/
theorem edge_own {p : PartP} {e : Vtx × Vtx} (h : e ∈ edges p) : e.1 ∈ own p ∨ e.2 ∈ own p := by
  obtain ⟨i, h1, h2, h3, h4⟩ := mem_edges.1 h
  by_cases h0 : i < p.lines.length
  · rw [if_pos h0] at h4; exact .inr (mem_own.2 ⟨i, h0, h4.symm⟩)
  · by_cases h5 : i = 0
    · omega
    · rw [if_neg h5] at h3; exact .inl (mem_own.2 ⟨i - 1, by omega, h3.symm⟩)
theorem mem_allV {ps : List PartP} {v : Vtx} : v ∈ allV ps ↔ ∃ p ∈ ps, v ∈ own p := List.mem_flatMap
theorem mem_allE {ps : List PartP} {e : Vtx × Vtx} : e ∈ allE ps ↔ ∃ p ∈ ps, e ∈ edges p := List.mem_flatMap
/-- p may come, where ps are there -/
structure New (ps : List PartP) (p : PartP) : Prop where
  name : ∀ q ∈ ps, q.name ≠ p.name
  own : ∀ v ∈ own p, v ∉ allV ps
  first : 0 ≤ p.first
  upE : p.up ≠ endV
  downR : p.down ≠ rootV
  gone0 : p.gone.Nodup
  goneR : ∀ v ∈ p.gone, v ≠ rootV ∧ v ≠ endV
  up : HasV ps p.up
  down : HasV ps p.down
  gone : ∀ v ∈ p.gone, v ∈ allV ps
  bef : Bef ps p.up p.down
/-- parts that came one behind the other, the last one at the head -/
inductive Sq : List PartP → Prop
  | nil : Sq []
  | cons {p : PartP} {ps : List PartP} (h : New ps p) (t : Sq ps) : Sq (p :: ps)
theorem own_ge {p : PartP} (h : 0 ≤ p.first) {v : Vtx} (hv : v ∈ own p) : 0 ≤ v.2 := by
  obtain ⟨i, _, rfl⟩ := mem_own.1 hv
  simp only [PartP.vtx]
  omega
theorem Sq.ge {ps : List PartP} (h : Sq ps) {v : Vtx} (hv : v ∈ allV ps) : 0 ≤ v.2 := by
  induction h with
  | nil => simp [allV] at hv
  | cons h t ih =>
    obtain ⟨q, hq, hv2⟩ := mem_allV.1 hv
    rcases List.mem_cons.1 hq with rfl | hq
    · exact own_ge h.first hv2
    · exact ih (mem_allV.2 ⟨q, hq, hv2⟩)
theorem ge_ne {v : Vtx} (h : 0 ≤ v.2) : v ≠ rootV ∧ v ≠ endV := by
  constructor
  · rintro rfl; revert h; decide
  · rintro rfl; revert h; decide
theorem Sq.line {ps : List PartP} (h : Sq ps) {v : Vtx} (hv : v ∈ allV ps) : v ≠ rootV ∧ v ≠ endV := ge_ne (h.ge hv)
/-- the ends of an edge -/
theorem Sq.edge {ps : List PartP} (h : Sq ps) {e : Vtx × Vtx} (he : e ∈ allE ps) : (e.1 = rootV ∨ e.1 ∈ allV ps) ∧ (e.2 = endV ∨ e.2 ∈ allV ps) := by
  induction h with
  | nil => simp [allE] at he
  | @cons p ps h t ih =>
    obtain ⟨q, hq, he2⟩ := mem_allE.1 he
    have up : ∀ v, v ∈ allV ps → v ∈ allV (p :: ps) := fun v hv => by
      obtain ⟨r, hr, hv⟩ := mem_allV.1 hv
      exact mem_allV.2 ⟨r, List.mem_cons_of_mem _ hr, hv⟩
    rcases List.mem_cons.1 hq with rfl | hq
    · constructor
      · rcases edge_src he2 with h1 | h1
        · rcases h.up with h2 | h2 | h2
          · exact .inl (h1.trans h2)
          · exact absurd h2 h.upE
          · exact .inr (by rw [h1]; exact up _ h2)
        · exact .inr (mem_allV.2 ⟨q, hq, h1⟩)
      · rcases edge_tgt he2 with h1 | h1
        · rcases h.down with h2 | h2 | h2
          · exact absurd h2 h.downR
          · exact .inl (h1.trans h2)
          · exact .inr (by rw [h1]; exact up _ h2)
        · exact .inr (mem_allV.2 ⟨q, hq, h1⟩)
    · obtain ⟨i1, i2⟩ := ih (mem_allE.2 ⟨q, hq, he2⟩)
      exact ⟨i1.imp_right (up _), i2.imp_right (up _)⟩
theorem Sq.noEnd {ps : List PartP} (h : Sq ps) {b : Vtx} : ¬ Rch (allE ps) endV b := by
  intro hr
  obtain ⟨c, hc⟩ := hr.src
  rcases (h.edge hc).1 with h1 | h1
  · exact root_ne_end h1.symm
  · exact (h.line h1).2 rfl
theorem Sq.noRoot {ps : List PartP} (h : Sq ps) {a : Vtx} : ¬ Rch (allE ps) a rootV := by
  intro hr
  obtain ⟨c, hc⟩ := hr.tgt
  rcases (h.edge hc).2 with h1 | h1
  · exact root_ne_end h1
  · exact (h.line h1).1 rfl
/-- a rank of all vertices that rises along each edge -/
theorem Sq.rank {ps : List PartP} (h : Sq ps) : ∃ r : Vtx → Nat, (∀ e ∈ allE ps, r e.1 < r e.2) ∧ (∀ v ∈ allV ps, r rootV < r v ∧ r v < r endV) ∧ r rootV < r endV := by
  induction h with
  | nil => exact ⟨fun v => if v = endV then 1 else 0, by simp [allE], by simp [allV], by decide⟩
  | @cons p ps h t ih =>
    obtain ⟨r, h1, h2, h3⟩ := ih
    have hb : r p.up < r p.down := by
      obtain ⟨b1, b2, b3, b4, b5, b6⟩ := h.bef
      rcases b6 with b6 | b6 | b6
      · rw [b6]
        rcases b2 with b2 | b2 | b2
        · exact absurd b2 b5
        · rw [b2]; exact h3
        · exact (h2 _ b2).1
      · rw [b6]
        rcases b1 with b1 | b1 | b1
        · rw [b1]; exact h3
        · exact absurd b1 b4
        · exact (h2 _ b1).2
      · exact b6.rank r h1
    let K := p.lines.length + 1
    let r' : Vtx → Nat := fun v => if v ∈ own p then K * r p.up + ((v.2 - p.first).toNat + 1) else K * r v
    have hown : ∀ i, i < p.lines.length → r' (p.vtx i) = K * r p.up + (i + 1) := by
      intro i hi
      have : p.vtx i ∈ own p := mem_own.2 ⟨i, hi, rfl⟩
      show (if p.vtx i ∈ own p then K * r p.up + (((p.vtx i).2 - p.first).toNat + 1) else K * r (p.vtx i)) = _
      rw [if_pos this]
      simp only [PartP.vtx]
      omega
    have hold : ∀ v, v ∉ own p → r' v = K * r v := fun v hv => by simp only [r', if_neg hv]
    have hvold : ∀ v, HasV ps v → v ∉ own p := by
      intro v hv hm
      have := ge_ne (own_ge h.first hm)
      rcases hv with hv | hv | hv
      · exact this.1 hv
      · exact this.2 hv
      · exact h.own v hm hv
    have hK : ∀ a b, a < b → K * a + p.lines.length < K * b := by
      intro a b hab
      have : K * (a + 1) ≤ K * b := Nat.mul_le_mul_left _ hab
      rw [Nat.mul_add, Nat.mul_one] at this
      omega
    have hK0 : ∀ a b, a < b → K * a < K * b := fun a b hab => by have := hK a b hab; omega
    have hr0 : rootV ∉ own p := hvold _ (.inl rfl)
    have he0 : endV ∉ own p := hvold _ (.inr (.inl rfl))
    refine ⟨r', ?_, ?_, ?_⟩
    · intro e he
      obtain ⟨q, hq, he2⟩ := mem_allE.1 he
      rcases List.mem_cons.1 hq with rfl | hq
      · obtain ⟨i, i1, i2, i3, i4⟩ := mem_edges.1 he2
        have s1 : r' e.1 = K * r q.up + i := by
          rw [i3]
          split
          · rename_i h0; rw [hold _ (hvold _ h.up), h0]; rfl
          · rename_i h0; rw [hown _ (by omega)]; omega
        have s2 : K * r q.up + i < r' e.2 := by
          rw [i4]
          split
          · rename_i h0; rw [hown _ h0]; omega
          · rw [hold _ (hvold _ h.down)]
            have := hK _ _ hb
            omega
        omega
      · have he' : e ∈ allE ps := mem_allE.2 ⟨q, hq, he2⟩
        obtain ⟨e1, e2⟩ := t.edge he'
        rw [hold _ (hvold _ (e1.imp_right .inr)), hold _ (hvold _ (.inr e2))]
        exact hK0 _ _ (h1 e he')
    · intro v hv
      rw [hold _ hr0, hold _ he0]
      obtain ⟨q, hq, hv2⟩ := mem_allV.1 hv
      rcases List.mem_cons.1 hq with rfl | hq
      · obtain ⟨i, hi, rfl⟩ := mem_own.1 hv2
        rw [hown i hi]
        have hup : r rootV ≤ r q.up := by
          rcases h.up with h4 | h4 | h4
          · rw [h4]; exact Nat.le_refl _
          · exact absurd h4 h.upE
          · exact Nat.le_of_lt (h2 _ h4).1
        have hdn : r q.down ≤ r endV := by
          rcases h.down with h4 | h4 | h4
          · exact absurd h4 h.downR
          · rw [h4]; exact Nat.le_refl _
          · exact Nat.le_of_lt (h2 _ h4).2
        have a1 : K * r rootV ≤ K * r q.up := Nat.mul_le_mul_left _ hup
        have a2 := hK _ _ (Nat.lt_of_lt_of_le hb hdn)
        omega
      · have hv' : v ∈ allV ps := mem_allV.2 ⟨q, hq, hv2⟩
        rw [hold _ (hvold _ (.inr (.inr hv')))]
        exact ⟨hK0 _ _ (h2 v hv').1, hK0 _ _ (h2 v hv').2⟩
    · rw [hold _ hr0, hold _ he0]
      exact hK0 _ _ h3
theorem Sq.irrefl {ps : List PartP} (h : Sq ps) {v : Vtx} : ¬ Rch (allE ps) v v := by
  intro hr
  obtain ⟨r, h1, _⟩ := h.rank
  have := hr.rank r h1
  omega
theorem HasV.mono {ps qs : List PartP} {v : Vtx} (h : HasV ps v) (hs : ∀ p ∈ ps, p ∈ qs) : HasV qs v := by
  rcases h with h | h | h
  · exact .inl h
  · exact .inr (.inl h)
  · obtain ⟨p, hp, hv⟩ := mem_allV.1 h
    exact .inr (.inr (mem_allV.2 ⟨p, hs p hp, hv⟩))
theorem allE_mono {ps qs : List PartP} (hs : ∀ p ∈ ps, p ∈ qs) : ∀ e ∈ allE ps, e ∈ allE qs := fun e he => by
  obtain ⟨p, hp, he⟩ := mem_allE.1 he
  exact mem_allE.2 ⟨p, hs p hp, he⟩
theorem Bef.mono {ps qs : List PartP} {a b : Vtx} (h : Bef ps a b) (hs : ∀ p ∈ ps, p ∈ qs) : Bef qs a b :=
  ⟨h.1.mono hs, h.2.1.mono hs, h.2.2.1, h.2.2.2.1, h.2.2.2.2.1, h.2.2.2.2.2.imp_right fun h => h.imp_right fun h => h.mono (allE_mono hs)⟩
/-- a part whose lines nobody else's edges touch adds nothing to what was ahead of what, if its upper end was ahead of its lower one -/
theorem rch_back {p : PartP} {ps : List PartP} (hown : ∀ v ∈ own p, ∀ e ∈ allE ps, e.1 ≠ v ∧ e.2 ≠ v) (hnu : p.up ∉ own p) (hnd : p.down ∉ own p) (hb : p.up = rootV ∨ p.down = endV ∨ Rch (allE ps) p.up p.down)
    (hnr : ∀ e ∈ allE (p :: ps), e.2 ≠ rootV) (hne : ∀ e ∈ allE (p :: ps), e.1 ≠ endV) {u y : Vtx} (h : Rch (allE (p :: ps)) u y) (hy : y ∉ own p) (hye : y ≠ endV) :
    (u ∉ own p → u ≠ rootV → Rch (allE ps) u y) ∧ (u ∈ own p → p.down = y ∨ Rch (allE ps) p.down y) := by
  have split : ∀ e, e ∈ allE (p :: ps) → e ∈ edges p ∨ e ∈ allE ps := fun e he => by
    obtain ⟨q, hq, he2⟩ := mem_allE.1 he
    rcases List.mem_cons.1 hq with rfl | hq
    · exact .inl he2
    · exact .inr (mem_allE.2 ⟨q, hq, he2⟩)
  have nodown : ∀ {c : Vtx}, (p.down = c ∨ Rch (allE ps) p.down c) → c ≠ endV → p.down ≠ endV := by
    intro c h hc e
    rcases h with h | h
    · exact hc (h ▸ e)
    · rw [e] at h
      obtain ⟨d, hd⟩ := h.src
      exact hne _ (allE_mono (fun q hq => List.mem_cons_of_mem _ hq) _ hd) rfl
  induction h with
  | @one u y h =>
    rcases split _ h with h1 | h1
    · constructor
      · intro hu _
        rcases edge_own h1 with h2 | h2
        · exact absurd h2 hu
        · exact absurd h2 hy
      · intro hu
        rcases edge_tgt h1 with h2 | h2
        · exact .inl h2.symm
        · exact absurd h2 hy
    · exact ⟨fun _ _ => .one h1, fun hu => absurd rfl (hown _ hu _ h1).1⟩
  | @cons u c y h t ih =>
    obtain ⟨i1, i2⟩ := ih hy hye
    have hcr : c ≠ rootV := hnr _ h
    rcases split _ h with h1 | h1
    · constructor
      · intro hu hur
        have hc : c ∈ own p := (edge_own h1).resolve_left hu
        have hup : u = p.up := (edge_src h1).resolve_right hu
        have h3 := i2 hc
        have hde := nodown h3 hye
        have hrch : Rch (allE ps) p.up p.down := by
          rcases hb with hb | hb | hb
          · exact absurd (hup.trans hb) hur
          · exact absurd hb hde
          · exact hb
        rw [hup]
        rcases h3 with h3 | h3
        · rw [← h3]; exact hrch
        · exact hrch.trans h3
      · intro hu
        rcases edge_tgt h1 with h2 | h2
        · by_cases hc : c ∈ own p
          · exact i2 hc
          · right
            have h2' : c = p.down := h2
            rw [← h2']
            exact i1 hc hcr
        · exact i2 h2
    · constructor
      · intro hu hur
        have hc : c ∉ own p := fun hc => (hown _ hc _ h1).2 rfl
        exact .cons h1 (i1 hc hcr)
      · intro hu; exact absurd rfl (hown _ hu _ h1).1
theorem New.fresh {ps : List PartP} {p : PartP} (h : New ps p) (t : Sq ps) : (∀ v ∈ GP.own p, ∀ e ∈ allE ps, e.1 ≠ v ∧ e.2 ≠ v) ∧ (∀ v, HasV ps v → v ∉ GP.own p) := by
  have hvold : ∀ v, HasV ps v → v ∉ GP.own p := by
    intro v hv hm
    have := ge_ne (own_ge h.first hm)
    rcases hv with hv | hv | hv
    · exact this.1 hv
    · exact this.2 hv
    · exact h.own v hm hv
  refine ⟨fun v hv e he => ⟨?_, ?_⟩, hvold⟩
  · rintro rfl; exact hvold _ ((t.edge he).1.imp_right .inr) hv
  · rintro rfl; exact hvold _ (.inr (t.edge he).2) hv
theorem New.names_has {ps : List PartP} {p : PartP} (h : New ps p) {v : Vtx} (hv : v ∈ names p) : HasV ps v := by
  unfold names at hv
  rcases List.mem_cons.1 hv with rfl | hv
  · exact h.up
  rcases List.mem_cons.1 hv with rfl | hv
  · exact h.down
  · exact .inr (.inr (h.gone v hv))
theorem Sq.names_has {ps : List PartP} (h : Sq ps) {q : PartP} (hq : q ∈ ps) {v : Vtx} (hv : v ∈ names q) : HasV ps v := by
  induction h with
  | nil => cases hq
  | @cons p ps h t ih =>
    rcases List.mem_cons.1 hq with rfl | hq
    · exact (h.names_has hv).mono fun r hr => List.mem_cons_of_mem _ hr
    · exact (ih hq).mono fun r hr => List.mem_cons_of_mem _ hr
theorem Sq.gone_has {ps : List PartP} (h : Sq ps) {q : PartP} (hq : q ∈ ps) {v : Vtx} (hv : v ∈ q.gone) : HasV ps v := h.names_has hq (List.mem_cons_of_mem _ (List.mem_cons_of_mem _ hv))
theorem Bef.trans {ps : List PartP} (hs : Sq ps) {a b c : Vtx} (h : Bef ps a b) (k : Bef ps b c) : Bef ps a c := by
  obtain ⟨a1, a2, a3, a4, a5, a6⟩ := h
  obtain ⟨b1, b2, b3, b4, b5, b6⟩ := k
  have hbr : b ≠ rootV := a5
  have hbe : b ≠ endV := b4
  have h6 := b6.resolve_left hbr
  by_cases har : a = rootV
  · exact ⟨a1, b2, by rw [har]; exact fun e => b5 e.symm, a4, b5, .inl har⟩
  by_cases hce : c = endV
  · exact ⟨a1, b2, by rw [hce]; exact a4, a4, b5, .inr (.inl hce)⟩
  have r1 := (a6.resolve_left har).resolve_left hbe
  have r2 := h6.resolve_left hce
  have r3 := r1.trans r2
  exact ⟨a1, b2, fun e => hs.irrefl (e ▸ r3), a4, b5, .inr (.inr r3)⟩
theorem Bef.asymm {ps : List PartP} (hs : Sq ps) {a b : Vtx} (h : Bef ps a b) (k : Bef ps b a) : False := (h.trans hs k).2.2.1 rfl
end Go.GP

set_option linter.unusedVariables false
namespace Go.GP
open Go.SL
structure NodeP where
  text : ByteArray
  gone : Int
  named : Int
  next : List Vtx
def zN : NodeP := ⟨⟨#[]⟩, 0, 0, []⟩
instance : Inhabited NodeP := ⟨zN⟩
structure Gr where
  parts : List ((HashB × Int) × PartP)
  nodes : List (Vtx × NodeP)
  first : List Vtx
def nd (N : List (Vtx × NodeP)) (v : Vtx) : NodeP := (mgt N v).getD zN
def behindG (G : Gr) (v : Vtx) : List Vtx := if v = rootV then G.first else (nd G.nodes v).next
def linkG (there : Bool) (G : Gr) (e : Vtx × Vtx) : Gr :=
  if e.1 = rootV then { G with first := if there then behindG G e.1 ++ [e.2] else (behindG G e.1).erase e.2 }
  else { G with nodes := mpt G.nodes e.1 { nd G.nodes e.1 with next := if there then behindG G e.1 ++ [e.2] else (behindG G e.1).erase e.2 } }
def linksG (there : Bool) (G : Gr) (es : List (Vtx × Vtx)) : Gr := es.foldl (linkG there) G
def name1 (d : Int) (N : List (Vtx × NodeP)) (v : Vtx) : List (Vtx × NodeP) := match mgt N v with | some n => mpt N v { n with named := n.named + d } | none => N
def gone1 (d : Int) (N : List (Vtx × NodeP)) (v : Vtx) : List (Vtx × NodeP) := mpt N v { nd N v with gone := (nd N v).gone + d }
def countG (d : Int) (N : List (Vtx × NodeP)) (p : PartP) : List (Vtx × NodeP) := p.gone.foldl (gone1 d) ((names p).foldl (name1 d) N)
def laidN (N : List (Vtx × NodeP)) (p : PartP) (k : Nat) : List (Vtx × NodeP) := (List.range k).foldl (fun N i => mpt N (p.vtx i) ⟨p.lines[i]!, 0, 0, []⟩) N
def addG (G : Gr) (p : PartP) : Gr :=
  let G1 := linksG true { parts := mpt G.parts p.name p, nodes := laidN G.nodes p p.lines.length, first := G.first } (edges p)
  { G1 with nodes := countG 1 G1.nodes p }
def HasG (G : Gr) (v : Vtx) : Prop := v = rootV ∨ v = endV ∨ v ∈ mks G.nodes
/-- the edges from lines -/
def EG (N : List (Vtx × NodeP)) : List (Vtx × Vtx) := N.flatMap fun p => p.2.next.map fun w => (p.1, w)
def BefG (G : Gr) (a b : Vtx) : Prop := HasG G a ∧ HasG G b ∧ a ≠ b ∧ a ≠ endV ∧ b ≠ rootV ∧ (a = rootV ∨ b = endV ∨ Rch (EG G.nodes) a b)
def ThereG (G : Gr) (p : PartP) : Prop := p.name ∈ mks G.parts ∨ ∃ v ∈ own p, v ∈ mks G.nodes
structure Formed (p : PartP) : Prop where
  gone0 : p.gone.Nodup
  goneR : ∀ v ∈ p.gone, v ≠ rootV ∧ v ≠ endV
  first : 0 ≤ p.first
  upE : p.up ≠ endV
  downR : p.down ≠ rootV
/-- what comes behind a vertex, by the parts -/
def outE (ps : List PartP) (v : Vtx) : List Vtx := ((allE ps).filter fun e => decide (e.1 = v)).map (·.2)
def cntV (v : Vtx) (l : List Vtx) : Int := (l.count v : Nat)
structure NodeOk (ps : List PartP) (v : Vtx) (n : NodeP) : Prop where
  gone : n.gone = cntV v (ps.flatMap (·.gone))
  named : n.named = cntV v (ps.flatMap names)
  next : n.next.Perm (outE ps v)
structure Inv (ps : List PartP) (G : Gr) : Prop where
  pk : (mks G.parts).Nodup
  part : ∀ q, (q.name, q) ∈ G.parts ↔ q ∈ ps
  pname : ∀ q ∈ G.parts, q.1 = q.2.name
  nk : (mks G.nodes).Nodup
  keys : ∀ v, v ∈ mks G.nodes ↔ v ∈ allV ps
  node : ∀ v n, mgt G.nodes v = some n → NodeOk ps v n
  text : ∀ p ∈ ps, ∀ i s, p.lines[i]? = some s → (nd G.nodes (p.vtx i)).text = s
  first : G.first.Perm (outE ps rootV)
theorem Inv.nil : Inv [] ⟨[], [], []⟩ := ⟨by simp [mks], by simp, by simp, by simp [mks], by simp [mks, allV], by simp [mgt_nil], by simp, by simp [outE, allE]⟩
theorem mks_mpt_mem {α β : Type} [DecidableEq α] (l : List (α × β)) (a c : α) (b : β) : c ∈ mks (mpt l a b) ↔ c = a ∨ c ∈ mks l := by
  rw [mks_mpt]
  split
  · rename_i h
    constructor
    · exact .inr
    · rintro (rfl | h2)
      · exact h
      · exact h2
  · simp; exact or_comm
theorem mem_mks {α β : Type} [DecidableEq α] {l : List (α × β)} {a : α} : a ∈ mks l ↔ ∃ b, mgt l a = some b := by
  constructor
  · intro h
    cases e : mgt l a with
    | none => exact absurd h (mgt_none.1 e)
    | some b => exact ⟨b, rfl⟩
  · rintro ⟨b, h⟩
    exact List.mem_map.2 ⟨_, mgt_some_mem h, rfl⟩
theorem nd_some {N : List (Vtx × NodeP)} {v : Vtx} (h : v ∈ mks N) : mgt N v = some (nd N v) := by
  obtain ⟨b, hb⟩ := mem_mks.1 h
  unfold nd
  rw [hb]; rfl
theorem nd_mpt (N : List (Vtx × NodeP)) (a c : Vtx) (n : NodeP) : nd (mpt N a n) c = if c = a then n else nd N c := by
  unfold nd
  rw [mgt_mpt]
  split <;> rfl
theorem laidN_spec {N : List (Vtx × NodeP)} {p : PartP} : ∀ k, k ≤ p.lines.length → (∀ v, v ∈ mks (laidN N p k) ↔ v ∈ mks N ∨ ∃ i, i < k ∧ p.vtx i = v) ∧ ((mks N).Nodup → (mks (laidN N p k)).Nodup) ∧
    (∀ v, (∀ i, i < k → p.vtx i ≠ v) → nd (laidN N p k) v = nd N v) ∧ ∀ i, i < k → nd (laidN N p k) (p.vtx i) = ⟨p.lines[i]!, 0, 0, []⟩
  | 0, _ => by simp [laidN]
  | k + 1, h => by
    obtain ⟨h1, h2, h3, h4⟩ := laidN_spec (N := N) (p := p) k (by omega)
    have e : laidN N p (k + 1) = mpt (laidN N p k) (p.vtx k) ⟨p.lines[k]!, 0, 0, []⟩ := by
      unfold laidN
      rw [List.range_succ, List.foldl_append]
      rfl
    rw [e]
    refine ⟨fun v => ?_, fun hn => mpt_nodup (h2 hn) _ _, fun v hv => ?_, fun i hi => ?_⟩
    · rw [mks_mpt_mem, h1]
      constructor
      · rintro (rfl | h | ⟨i, hi, rfl⟩)
        · exact .inr ⟨k, by omega, rfl⟩
        · exact .inl h
        · exact .inr ⟨i, by omega, rfl⟩
      · rintro (h | ⟨i, hi, rfl⟩)
        · exact .inr (.inl h)
        · by_cases hk : i = k
          · subst hk; exact .inl rfl
          · exact .inr (.inr ⟨i, by omega, rfl⟩)
    · rw [nd_mpt, if_neg (fun e => hv k (by omega) e.symm)]
      exact h3 v fun i hi => hv i (by omega)
    · rw [nd_mpt]
      by_cases hk : i = k
      · subst hk; rw [if_pos rfl]
      · rw [if_neg (fun e => hk (vtx_inj e))]
        exact h4 i (by omega)
theorem name1_spec (d : Int) (N : List (Vtx × NodeP)) (v : Vtx) : mks (name1 d N v) = mks N ∧ ∀ c, nd (name1 d N v) c = if c = v ∧ c ∈ mks N then { nd N c with named := (nd N c).named + d } else nd N c := by
  unfold name1
  cases e : mgt N v with
  | none =>
    refine ⟨rfl, fun c => ?_⟩
    have := mgt_none.1 e
    by_cases hc : c = v ∧ c ∈ mks N
    · exact absurd (hc.1 ▸ hc.2) this
    · rw [if_neg hc]
  | some n =>
    have hm : v ∈ mks N := mem_mks.2 ⟨n, e⟩
    have hn : nd N v = n := by unfold nd; rw [e]; rfl
    refine ⟨by simp only; rw [mks_mpt, if_pos hm], fun c => ?_⟩
    simp only
    rw [nd_mpt]
    by_cases hc : c = v
    · subst hc
      rw [if_pos rfl, if_pos ⟨rfl, hm⟩, hn]
    · rw [if_neg hc, if_neg (fun h => hc h.1)]
theorem cntV_cons (v a : Vtx) (l : List Vtx) : cntV v (a :: l) = cntV v l + if a = v then 1 else 0 := by
  unfold cntV
  rw [List.count_cons]
  by_cases h : a = v
  · simp [h]
  · simp [h]
theorem cntV_app (v : Vtx) (a b : List Vtx) : cntV v (a ++ b) = cntV v a + cntV v b := by
  unfold cntV
  rw [List.count_append]
  omega
theorem names_spec (d : Int) : ∀ (l : List Vtx) (N : List (Vtx × NodeP)), mks (l.foldl (name1 d) N) = mks N ∧ ∀ c ∈ mks N, nd (l.foldl (name1 d) N) c = { nd N c with named := (nd N c).named + d * cntV c l }
  | [], N => by simp [cntV]
  | a :: l, N => by
    obtain ⟨h1, h2⟩ := name1_spec d N a
    obtain ⟨i1, i2⟩ := names_spec d l (name1 d N a)
    simp only [List.foldl_cons]
    refine ⟨i1.trans h1, fun c hc => ?_⟩
    rw [i2 c (by rw [h1]; exact hc), h2, cntV_cons]
    by_cases hca : c = a
    · subst hca
      rw [if_pos ⟨rfl, hc⟩, if_pos rfl]
      simp only [NodeP.mk.injEq, true_and, and_true]
      rw [Int.mul_add]; omega
    · rw [if_neg (fun h => hca h.1), if_neg (fun h => hca h.symm)]
      simp
theorem gone1_spec (d : Int) (N : List (Vtx × NodeP)) (v : Vtx) : (∀ c, c ∈ mks (gone1 d N v) ↔ c = v ∨ c ∈ mks N) ∧ ((mks N).Nodup → (mks (gone1 d N v)).Nodup) ∧ ∀ c, nd (gone1 d N v) c = if c = v then { nd N c with gone := (nd N c).gone + d } else nd N c := by
  unfold gone1
  refine ⟨fun c => mks_mpt_mem _ _ _ _, fun h => mpt_nodup h _ _, fun c => ?_⟩
  rw [nd_mpt]
  split
  · rename_i h; subst h; rfl
  · rfl
theorem gones_spec (d : Int) : ∀ (l : List Vtx) (N : List (Vtx × NodeP)), (∀ v ∈ l, v ∈ mks N) → (∀ c, c ∈ mks (l.foldl (gone1 d) N) ↔ c ∈ mks N) ∧ ((mks N).Nodup → (mks (l.foldl (gone1 d) N)).Nodup) ∧
    ∀ c, nd (l.foldl (gone1 d) N) c = { nd N c with gone := (nd N c).gone + d * cntV c l }
  | [], N, _ => by simp [cntV]
  | a :: l, N, h => by
    obtain ⟨h1, h2, h3⟩ := gone1_spec d N a
    have ha := h a (by simp)
    obtain ⟨i1, i2, i3⟩ := gones_spec d l (gone1 d N a) (fun v hv => (h1 v).2 (.inr (h v (by simp [hv]))))
    simp only [List.foldl_cons]
    refine ⟨fun c => ?_, fun hn => i2 (h2 hn), fun c => ?_⟩
    · rw [i1, h1]
      constructor
      · rintro (rfl | h)
        · exact ha
        · exact h
      · exact .inr
    · rw [i3, h3, cntV_cons]
      by_cases hca : c = a
      · subst hca
        rw [if_pos rfl, if_pos rfl]
        simp only [NodeP.mk.injEq, true_and, and_true]
        rw [Int.mul_add]; omega
      · rw [if_neg hca, if_neg (fun h => hca h.symm)]
        simp
theorem countG_spec {d : Int} {N : List (Vtx × NodeP)} {p : PartP} (hg : ∀ v ∈ p.gone, v ∈ mks N) : (∀ c, c ∈ mks (countG d N p) ↔ c ∈ mks N) ∧ ((mks N).Nodup → (mks (countG d N p)).Nodup) ∧
    ∀ c ∈ mks N, nd (countG d N p) c = ⟨(nd N c).text, (nd N c).gone + d * cntV c p.gone, (nd N c).named + d * cntV c (names p), (nd N c).next⟩ := by
  obtain ⟨h1, h2⟩ := names_spec d (names p) N
  obtain ⟨i1, i2, i3⟩ := gones_spec d p.gone ((names p).foldl (name1 d) N) (fun v hv => by rw [h1]; exact hg v hv)
  unfold countG
  refine ⟨fun c => by rw [i1, h1], fun hn => i2 (by rw [h1]; exact hn), fun c hc => ?_⟩
  rw [i3, h2 c hc]
/-- what a vertex has behind it among some edges -/
def outL (es : List (Vtx × Vtx)) (v : Vtx) : List Vtx := (es.filter fun e => decide (e.1 = v)).map (·.2)
theorem outL_cons (e : Vtx × Vtx) (es : List (Vtx × Vtx)) (v : Vtx) : outL (e :: es) v = (if e.1 = v then [e.2] else []) ++ outL es v := by
  unfold outL
  rw [List.filter_cons]
  by_cases h : e.1 = v <;> simp [h]
def undo (there : Bool) (l es : List Vtx) : List Vtx := es.foldl (fun l w => if there then l ++ [w] else l.erase w) l
theorem linkG_spec (there : Bool) (G : Gr) (e : Vtx × Vtx) (he : e.1 = rootV ∨ e.1 ∈ mks G.nodes) (hr : rootV ∉ mks G.nodes) : (linkG there G e).parts = G.parts ∧ mks (linkG there G e).nodes = mks G.nodes ∧
    (∀ c ∈ mks G.nodes, nd (linkG there G e).nodes c = { nd G.nodes c with next := undo there (nd G.nodes c).next (outL [e] c) }) ∧ (linkG there G e).first = undo there G.first (outL [e] rootV) := by
  unfold linkG
  by_cases h : e.1 = rootV
  · rw [if_pos h]
    refine ⟨rfl, rfl, fun c hc => ?_, ?_⟩
    · have : e.1 ≠ c := fun e2 => hr (by rw [← h, e2]; exact hc)
      rw [outL_cons, if_neg this]
      simp [outL, undo]
    · rw [outL_cons, if_pos h]
      simp [outL, undo, behindG, h]
  · have hm := he.resolve_left h
    rw [if_neg h]
    refine ⟨rfl, ?_, fun c hc => ?_, ?_⟩
    · rw [mks_mpt, if_pos hm]
    · rw [nd_mpt, outL_cons]
      by_cases hc2 : c = e.1
      · subst hc2
        rw [if_pos rfl, if_pos rfl]
        simp [outL, undo, behindG, h]
      · rw [if_neg hc2, if_neg (fun e => hc2 e.symm)]
        simp [outL, undo]
    · rw [outL_cons, if_neg h]
      simp [outL, undo]
theorem undo_app (there : Bool) (l a b : List Vtx) : undo there l (a ++ b) = undo there (undo there l a) b := by unfold undo; rw [List.foldl_append]
theorem linksG_spec (there : Bool) : ∀ (es : List (Vtx × Vtx)) (G : Gr), (∀ e ∈ es, e.1 = rootV ∨ e.1 ∈ mks G.nodes) → rootV ∉ mks G.nodes → (linksG there G es).parts = G.parts ∧ mks (linksG there G es).nodes = mks G.nodes ∧
    (∀ c ∈ mks G.nodes, nd (linksG there G es).nodes c = { nd G.nodes c with next := undo there (nd G.nodes c).next (outL es c) }) ∧ (linksG there G es).first = undo there G.first (outL es rootV)
  | [], G, _, _ => by simp [linksG, outL, undo]
  | e :: es, G, h, hr => by
    obtain ⟨h1, h2, h3, h4⟩ := linkG_spec there G e (h e (by simp)) hr
    obtain ⟨i1, i2, i3, i4⟩ := linksG_spec there es (linkG there G e) (fun x hx => by rw [h2]; exact h x (by simp [hx])) (by rw [h2]; exact hr)
    have hun : linksG there G (e :: es) = linksG there (linkG there G e) es := rfl
    rw [hun]
    have hout : ∀ v, outL (e :: es) v = outL [e] v ++ outL es v := fun v => by rw [outL_cons, outL_cons]; simp [outL]
    refine ⟨i1.trans h1, i2.trans h2, fun c hc => ?_, ?_⟩
    · rw [i3 c (by rw [h2]; exact hc), h3 c hc, hout, undo_app]
    · rw [i4, h4, hout, undo_app]
theorem undo_true (l a : List Vtx) : undo true l a = l ++ a := by
  induction a generalizing l with
  | nil => simp [undo]
  | cons x a ih =>
    have : undo true l (x :: a) = undo true (l ++ [x]) a := rfl
    rw [this, ih]; simp
theorem outE_cons (p : PartP) (ps : List PartP) (v : Vtx) : outE (p :: ps) v = outL (edges p) v ++ outE ps v := by
  unfold outE outL allE
  rw [List.flatMap_cons, List.filter_append, List.map_append]
theorem allV_cons (p : PartP) (ps : List PartP) : allV (p :: ps) = own p ++ allV ps := by unfold allV; rw [List.flatMap_cons]
theorem outL_nil {es : List (Vtx × Vtx)} {v : Vtx} (h : ∀ e ∈ es, e.1 ≠ v) : outL es v = [] := by
  unfold outL
  rw [List.filter_eq_nil_iff.2 (fun e he => by simpa using h e he)]
  rfl
theorem cntV_zero {v : Vtx} {l : List Vtx} (h : v ∉ l) : cntV v l = 0 := by
  unfold cntV
  rw [List.count_eq_zero.2 h]; rfl
theorem Inv.root {ps : List PartP} {G : Gr} (h : Inv ps G) (hs : Sq ps) : rootV ∉ mks G.nodes := fun hm => (hs.line ((h.keys _).1 hm)).1 rfl
theorem Inv.add {ps : List PartP} {G : Gr} {p : PartP} (h : Inv ps G) (hs : Sq ps) (hn : New ps p) : Inv (p :: ps) (addG G p) := by
  have hs' : Sq (p :: ps) := .cons hn hs
  obtain ⟨l1, l2, l3, l4⟩ := laidN_spec (N := G.nodes) (p := p) p.lines.length (Nat.le_refl _)
  have hkeys1 : ∀ v, v ∈ mks (laidN G.nodes p p.lines.length) ↔ v ∈ allV (p :: ps) := fun v => by
    rw [l1, allV_cons, List.mem_append, h.keys, mem_own]; exact or_comm
  generalize hN : laidN G.nodes p p.lines.length = N1 at *
  have hroot1 : rootV ∉ mks N1 := fun hm => (hs'.line ((hkeys1 _).1 hm)).1 rfl
  have hsrc : ∀ e ∈ edges p, e.1 = rootV ∨ e.1 ∈ mks N1 := fun e he => by
    rcases (hs'.edge (mem_allE.2 ⟨p, by simp, he⟩)).1 with h1 | h1
    · exact .inl h1
    · exact .inr ((hkeys1 _).2 h1)
  obtain ⟨k1, k2, k3, k4⟩ := linksG_spec true (edges p) { parts := mpt G.parts p.name p, nodes := N1, first := G.first } hsrc hroot1
  have hgo : ∀ v ∈ p.gone, v ∈ mks (linksG true { parts := mpt G.parts p.name p, nodes := N1, first := G.first } (edges p)).nodes := fun v hv => by
    rw [k2]; exact (hkeys1 v).2 (by rw [allV_cons]; exact List.mem_append_right _ (hn.gone v hv))
  obtain ⟨c1, c2, c3⟩ := countG_spec (d := 1) hgo
  have hA : addG G p = { parts := (linksG true { parts := mpt G.parts p.name p, nodes := N1, first := G.first } (edges p)).parts, nodes := countG 1 (linksG true { parts := mpt G.parts p.name p, nodes := N1, first := G.first } (edges p)).nodes p, first := (linksG true { parts := mpt G.parts p.name p, nodes := N1, first := G.first } (edges p)).first } := by
    unfold addG
    rw [hN]
  rw [hA]
  have hnew : p.name ∉ mks G.parts := fun hm => by
    obtain ⟨q, hq⟩ := mem_mks.1 hm
    have hq' := mgt_some_mem hq
    have hnm := h.pname _ hq'
    simp only at hnm
    exact hn.name q ((h.part q).1 (by rw [← hnm]; exact hq')) hnm.symm
  obtain ⟨f1, f2⟩ := hn.fresh hs
  refine ⟨?_, ?_, ?_, ?_, ?_, ?_, ?_, ?_⟩
  · simp only; rw [k1]; exact mpt_nodup h.pk _ _
  · intro q
    simp only; rw [k1]
    simp only
    rw [mpt_new (a := p.name) (fun b hb => hnew (List.mem_map.2 ⟨_, hb, rfl⟩)), List.mem_append, h.part, List.mem_singleton, List.mem_cons]
    constructor
    · rintro (h1 | h1)
      · exact .inr h1
      · exact .inl (Prod.mk.inj h1).2
    · rintro (rfl | h1)
      · exact .inr rfl
      · exact .inl h1
  · intro q
    simp only; rw [k1]
    simp only
    rw [mpt_new (a := p.name) (fun b hb => hnew (List.mem_map.2 ⟨_, hb, rfl⟩)), List.mem_append, List.mem_singleton]
    rintro (h1 | rfl)
    · exact h.pname q h1
    · rfl
  · simp only; exact c2 (by rw [k2]; exact l2 h.nk)
  · intro v; simp only; rw [c1, k2, hkeys1]
  · intro v n hv
    simp only at hv
    have hm0 := mem_mks.2 ⟨n, hv⟩
    have hm1 : v ∈ mks N1 := by rw [c1, k2] at hm0; exact hm0
    have hm2 : v ∈ mks (linksG true { parts := mpt G.parts p.name p, nodes := N1, first := G.first } (edges p)).nodes := by rw [k2]; exact hm1
    have hnd := nd_some hm0
    rw [hv] at hnd
    obtain rfl := Option.some.inj hnd
    rw [c3 v hm2, k3 v hm1, undo_true]
    simp only
    by_cases hown : v ∈ own p
    · obtain ⟨i, hi, rfl⟩ := mem_own.1 hown
      rw [l4 i hi]
      simp only
      have hnv : p.vtx i ∉ allV ps := hn.own _ hown
      refine ⟨?_, ?_, ?_⟩
      · rw [List.flatMap_cons, cntV_app]
        rw [cntV_zero (v := p.vtx i) (l := p.gone) (fun hm => hnv (hn.gone _ hm)), cntV_zero (v := p.vtx i) (l := ps.flatMap (·.gone)) (fun hm => ?_)]
        · simp
        · obtain ⟨q, hq, hm⟩ := List.mem_flatMap.1 hm
          exact (f2 _ (Sq.gone_has hs hq hm)) hown
      · rw [List.flatMap_cons, cntV_app]
        have a1 : cntV (p.vtx i) (names p) = 0 := cntV_zero fun hm => f2 _ (New.names_has hn hm) hown
        have a2 : cntV (p.vtx i) (ps.flatMap names) = 0 := cntV_zero fun hm => by
          obtain ⟨q, hq, hm⟩ := List.mem_flatMap.1 hm
          exact f2 _ (Sq.names_has hs hq hm) hown
        simp only [a1, a2]
        simp
      · rw [outE_cons]
        have : outE ps (p.vtx i) = [] := outL_nil fun e he => (f1 _ hown e he).1
        rw [this, List.append_nil, List.nil_append]
    · have hold : v ∈ mks G.nodes := by
        rw [l1] at hm1
        rcases hm1 with h1 | ⟨i, hi, rfl⟩
        · exact h1
        · exact absurd (mem_own.2 ⟨i, hi, rfl⟩) hown
      rw [l3 v (fun i hi e => hown (mem_own.2 ⟨i, hi, e⟩))]
      obtain ⟨o1, o2, o3⟩ := h.node v _ (nd_some hold)
      refine ⟨?_, ?_, ?_⟩
      · rw [List.flatMap_cons, cntV_app, o1]; simp only; omega
      · rw [List.flatMap_cons, cntV_app, o2]; simp only; omega
      · rw [outE_cons]
        exact (List.Perm.append_right _ o3).trans List.perm_append_comm
  · intro q hq i s hi
    simp only
    have hil : i < q.lines.length := (List.getElem?_eq_some_iff.1 hi).1
    have hm1 : q.vtx i ∈ mks N1 := (hkeys1 _).2 (mem_allV.2 ⟨q, hq, mem_own.2 ⟨i, hil, rfl⟩⟩)
    rw [c3 _ (by rw [k2]; exact hm1), k3 _ hm1]
    simp only
    rcases List.mem_cons.1 hq with rfl | hq
    · rw [l4 i hil]
      simp only
      rw [getElem!_pos q.lines i hil]
      have := (List.getElem?_eq_some_iff.1 hi).2
      exact this
    · have : q.vtx i ∈ allV ps := mem_allV.2 ⟨q, hq, mem_own.2 ⟨i, hil, rfl⟩⟩
      rw [l3 _ (fun j hj e => hn.own _ (mem_own.2 ⟨j, hj, e⟩) this)]
      exact h.text q hq i s hi
  · simp only
    rw [k4, undo_true, outE_cons]
    exact (List.Perm.append_right _ h.first).trans List.perm_append_comm
end Go.GP
