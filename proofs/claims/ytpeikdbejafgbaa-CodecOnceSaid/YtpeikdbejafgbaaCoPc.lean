/- Walks and plain facts for the laws of this seat: what each function answers, for every input. -/
import Derived.Test.YtpeikdbejafgbaaSl14
import Derived.Test.YtpeikdbejafgbaaProg
namespace Go.Proofs
open Go.SL
set_option maxRecDepth 100000
theorem Try.mixed : Try.prog.follows .mixedOrders = true := by kernel_rfl

/-- redwax/redwaxlaw04.CodecApart -/
def Try.pc3 : PC :=
  (.seq (.ops [⟨some 2, none, .bx 28 (.t 0)⟩, ⟨some 3, none, .bx 28 (.t 1)⟩, ⟨some 4, none, .mov (.v (.bool false))⟩])
  (.seq (.seq (.ops [⟨some 11, none, .fa 2 (.t 2)⟩, ⟨some 12, none, .ld (.t 11)⟩, ⟨some 13, none, .lenStr (.t 12)⟩, ⟨some 14, none, .bin .gtr (.t 13) (.v (.int .i64 300))⟩, ⟨some 15, none, .mov (.t 14)⟩, ⟨some 16, (some (15, false)), .fa 2 (.t 3)⟩, ⟨some 17, (some (15, false)), .ld (.t 16)⟩, ⟨some 18, (some (15, false)), .lenStr (.t 17)⟩, ⟨some 19, (some (15, false)), .bin .gtr (.t 18) (.v (.int .i64 300))⟩, ⟨some 20, none, .pick (.t 15) (.v (.bool true)) (.t 19)⟩])
  (.cond (.t 20) (.seq (.ops [⟨some 21, none, .call 8 []⟩, ⟨some 4, none, .mov (.t 21)⟩])
   .ret) .skip))
  (.seq (.ops [⟨some 22, none, .fa 35 (.t 2)⟩, ⟨some 23, none, .fa 0 (.t 22)⟩, ⟨some 24, none, .ld (.t 23)⟩, ⟨some 25, none, .bin .and (.t 24) (.v (.int .i64 15))⟩, ⟨some 26, none, .fa 35 (.t 2)⟩, ⟨some 27, none, .fa 0 (.t 26)⟩, ⟨none, none, .st 1 (.t 27) (.t 25)⟩])
  (.seq (.ops [⟨some 28, none, .fa 35 (.t 3)⟩, ⟨some 29, none, .fa 0 (.t 28)⟩, ⟨some 30, none, .ld (.t 29)⟩, ⟨some 31, none, .bin .and (.t 30) (.v (.int .i64 15))⟩, ⟨some 32, none, .fa 35 (.t 3)⟩, ⟨some 33, none, .fa 0 (.t 32)⟩, ⟨none, none, .st 1 (.t 33) (.t 31)⟩])
  (.seq (.quiet 5 [⟨some 34, none, .fa 1 (.t 2)⟩, ⟨some 35, none, .ld (.t 34)⟩, ⟨some 36, none, .call 9 [(.v (.slice none 0 0)), (.t 35)]⟩, ⟨some 37, none, .fa 1 (.t 3)⟩, ⟨some 38, none, .ld (.t 37)⟩, ⟨some 39, none, .call 9 [(.v (.slice none 0 0)), (.t 38)]⟩, ⟨some 5, none, .mov (.t 36)⟩, ⟨some 6, none, .mov (.t 39)⟩])
  (.seq (.quiet 5 [⟨some 40, none, .fa 2 (.t 2)⟩, ⟨some 41, none, .ld (.t 40)⟩, ⟨some 42, none, .call 10 [(.v (.slice none 0 0)), (.t 41)]⟩, ⟨some 43, none, .fa 2 (.t 3)⟩, ⟨some 44, none, .ld (.t 43)⟩, ⟨some 45, none, .call 10 [(.v (.slice none 0 0)), (.t 44)]⟩, ⟨some 7, none, .mov (.t 42)⟩, ⟨some 8, none, .mov (.t 45)⟩])
  (.seq (.quiet 5 [⟨some 46, none, .fa 35 (.t 2)⟩, ⟨some 47, none, .ldA 2 (.t 46)⟩, ⟨some 48, none, .call 11 [(.v (.slice none 0 0)), (.t 47)]⟩, ⟨some 49, none, .fa 35 (.t 3)⟩, ⟨some 50, none, .ldA 2 (.t 49)⟩, ⟨some 51, none, .call 11 [(.v (.slice none 0 0)), (.t 50)]⟩, ⟨some 9, none, .mov (.t 48)⟩, ⟨some 10, none, .mov (.t 51)⟩])
  (.seq (.quiet 29 [⟨some 52, none, .mov (.t 5)⟩, ⟨some 53, none, .mov (.t 6)⟩, ⟨some 54, none, .call 12 [(.t 52), (.t 53)]⟩, ⟨some 55, none, .fa 1 (.t 2)⟩, ⟨some 56, none, .ld (.t 55)⟩, ⟨some 57, none, .fa 1 (.t 3)⟩, ⟨some 58, none, .ld (.t 57)⟩, ⟨some 59, none, .bin .eql (.t 56) (.t 58)⟩, ⟨some 60, none, .binB .eql (.t 54) (.t 59)⟩, ⟨some 61, none, .mov (.t 60)⟩, ⟨some 62, (some (61, true)), .mov (.t 7)⟩, ⟨some 63, (some (61, true)), .mov (.t 8)⟩, ⟨some 64, (some (61, true)), .call 12 [(.t 62), (.t 63)]⟩, ⟨some 65, (some (61, true)), .fa 2 (.t 2)⟩, ⟨some 66, (some (61, true)), .ld (.t 65)⟩, ⟨some 67, (some (61, true)), .fa 2 (.t 3)⟩, ⟨some 68, (some (61, true)), .ld (.t 67)⟩, ⟨some 69, (some (61, true)), .bin .eql (.t 66) (.t 68)⟩, ⟨some 70, (some (61, true)), .binB .eql (.t 64) (.t 69)⟩, ⟨some 71, none, .pick (.t 61) (.t 70) (.v (.bool false))⟩, ⟨some 72, none, .mov (.t 71)⟩, ⟨some 73, (some (72, true)), .mov (.t 9)⟩, ⟨some 74, (some (72, true)), .mov (.t 10)⟩, ⟨some 75, (some (72, true)), .call 12 [(.t 73), (.t 74)]⟩, ⟨some 76, (some (72, true)), .fa 35 (.t 2)⟩, ⟨some 77, (some (72, true)), .ldA 2 (.t 76)⟩, ⟨some 78, (some (72, true)), .fa 35 (.t 3)⟩, ⟨some 79, (some (72, true)), .ldA 2 (.t 78)⟩, ⟨some 80, (some (72, true)), .eqA false 26 [.int .i64, .int .u64] (.t 77) (.t 79)⟩, ⟨some 81, (some (72, true)), .binB .eql (.t 75) (.t 80)⟩, ⟨some 82, none, .pick (.t 72) (.t 81) (.v (.bool false))⟩, ⟨some 83, none, .mov (.t 82)⟩, ⟨some 84, (some (83, true)), .call 8 []⟩, ⟨some 85, none, .pick (.t 83) (.t 84) (.v (.bool false))⟩, ⟨some 4, none, .mov (.t 85)⟩])
  .ret))))))))
theorem Try.known3 : Known Try.prog 3 Try.pc3 86 [4] := ⟨Try.f3, _, Try.func3, rfl, by kernel_rfl, rfl, rfl⟩

/-- redwax/redwaxlaw04.CodecWrites -/
def Try.pc4 : PC :=
  (.seq (.ops [⟨some 4, none, .mov (.v (.bool false))⟩])
  (.seq (.seq (.ops [⟨some 8, none, .mov (.t 1)⟩, ⟨some 9, none, .call 13 [(.t 8)]⟩, ⟨some 10, none, .not (.t 9)⟩])
  (.cond (.t 10) (.seq (.ops [⟨some 11, none, .call 8 []⟩, ⟨some 4, none, .mov (.t 11)⟩])
   .ret) .skip))
  (.seq (.ops [⟨some 12, none, .mov (.t 0)⟩, ⟨some 13, none, .mov (.t 0)⟩, ⟨some 14, none, .lenS (.t 13)⟩, ⟨some 15, none, .mnx false [(.t 14), (.v (.int .i64 100))]⟩, ⟨some 16, none, .slS 1 (.t 12) none (some (.t 15))⟩, ⟨some 0, none, .mov (.t 16)⟩])
  (.seq (.ops [⟨some 17, none, .bsl0 5⟩, ⟨some 18, none, .mov (.t 0)⟩, ⟨some 19, none, .app 30 5 1 1 (.int .u8 0) (.t 17) (.t 18)⟩, ⟨some 5, none, .mov (.t 19)⟩])
  (.seq (.ops [⟨some 20, none, .bsl0 5⟩, ⟨some 21, none, .mov (.t 0)⟩, ⟨some 22, none, .app 30 5 1 1 (.int .u8 0) (.t 20) (.t 21)⟩, ⟨some 6, none, .mov (.t 22)⟩])
  (.seq (.seq (.ops [⟨some 7, none, .mov (.v (.int .i64 0))⟩])
  (.block 0 (.loop (.seq (.seq (.ops [⟨some 23, none, .mov (.t 7)⟩, ⟨some 24, none, .mov (.t 1)⟩, ⟨some 25, none, .lenS (.t 24)⟩, ⟨some 26, none, .bin .lss (.t 23) (.t 25)⟩])
    (.cond (.t 26) .skip (.exit 0)))
    (.seq (.block 1 (.ops [⟨some 30, none, .mov (.t 5)⟩, ⟨some 31, none, .mov (.t 6)⟩, ⟨some 32, none, .mov (.t 1)⟩, ⟨some 33, none, .mov (.t 7)⟩, ⟨some 34, none, .ixS 39 (.t 32) (.t 33)⟩, ⟨some 35, none, .ldA 39 (.t 34)⟩, ⟨some 36, none, .call 14 [(.t 30), (.t 31), (.t 35)]⟩, ⟨some 29, none, .mov (.t 36)⟩, ⟨some 37, none, .ext 0 (.t 29)⟩, ⟨some 38, none, .ext 1 (.t 29)⟩, ⟨some 5, none, .mov (.t 37)⟩, ⟨some 6, none, .mov (.t 38)⟩]))
    (.ops [⟨some 27, none, .mov (.t 7)⟩, ⟨some 28, none, .bin .add (.t 27) (.v (.int .i64 1))⟩, ⟨some 7, none, .mov (.t 28)⟩]))))))
  (.seq (.ops [⟨some 39, none, .mov (.t 5)⟩, ⟨some 40, none, .strOf (.t 39)⟩, ⟨some 41, none, .mov (.t 6)⟩, ⟨some 42, none, .strOf (.t 41)⟩, ⟨some 43, none, .bin .eql (.t 40) (.t 42)⟩, ⟨some 44, none, .mov (.t 43)⟩, ⟨some 45, (some (44, true)), .call 8 []⟩, ⟨some 46, none, .pick (.t 44) (.t 45) (.v (.bool false))⟩, ⟨some 4, none, .mov (.t 46)⟩])
  .ret)))))))
theorem Try.known4 : Known Try.prog 4 Try.pc4 47 [4] := ⟨Try.f4, _, Try.func4, rfl, by kernel_rfl, rfl, rfl⟩

/-- redwax/redwaxlaw04.CodecKnown -/
def Try.pc5 : PC :=
  (.seq (.ops [⟨some 0, none, .mov (.v (.bool false))⟩])
  (.seq (.seq (.ops [⟨some 10, none, .call 9 [(.v (.slice none 0 0)), (.v (.int .u64 0))]⟩, ⟨some 11, none, .strOf (.t 10)⟩, ⟨some 12, none, .bin .neq (.t 11) (.v (.string ⟨#[0]⟩))⟩, ⟨some 13, none, .mov (.t 12)⟩, ⟨some 14, (some (13, false)), .call 9 [(.v (.slice none 0 0)), (.v (.int .u64 127))]⟩, ⟨some 15, (some (13, false)), .strOf (.t 14)⟩, ⟨some 16, (some (13, false)), .bin .neq (.t 15) (.v (.string ⟨#[127]⟩))⟩, ⟨some 17, none, .pick (.t 13) (.v (.bool true)) (.t 16)⟩, ⟨some 18, none, .mov (.t 17)⟩, ⟨some 19, (some (18, false)), .bsl 5 [.int .u8 0] 1 [(0, 1, (.v (.int .u8 9)))]⟩, ⟨some 20, (some (18, false)), .call 9 [(.t 19), (.v (.int .u64 128))]⟩, ⟨some 21, (some (18, false)), .strOf (.t 20)⟩, ⟨some 22, (some (18, false)), .bin .neq (.t 21) (.v (.string ⟨#[9, 128, 1]⟩))⟩, ⟨some 23, none, .pick (.t 18) (.v (.bool true)) (.t 22)⟩, ⟨some 24, none, .mov (.t 23)⟩, ⟨some 25, (some (24, false)), .call 10 [(.v (.slice none 0 0)), (.v (.string ⟨#[97, 98]⟩))]⟩, ⟨some 26, (some (24, false)), .strOf (.t 25)⟩, ⟨some 27, (some (24, false)), .bin .neq (.t 26) (.v (.string ⟨#[2, 97, 98]⟩))⟩, ⟨some 28, none, .pick (.t 24) (.v (.bool true)) (.t 27)⟩, ⟨some 29, none, .mov (.t 28)⟩, ⟨some 30, (some (29, false)), .build [.int .i64 0, .int .u64 0] [(0, 1, (.v (.int .i64 3))), (1, 1, (.v (.int .u64 31)))]⟩, ⟨some 31, (some (29, false)), .call 11 [(.v (.slice none 0 0)), (.t 30)]⟩, ⟨some 32, (some (29, false)), .strOf (.t 31)⟩, ⟨some 33, (some (29, false)), .bin .neq (.t 32) (.v (.string ⟨#[3, 0, 0, 0, 0, 0, 0, 0, 31]⟩))⟩, ⟨some 34, none, .pick (.t 29) (.v (.bool true)) (.t 33)⟩])
  (.cond (.t 34) (.seq (.ops [⟨some 0, none, .mov (.v (.bool false))⟩])
   .ret) .skip))
  (.seq (.ops [⟨some 35, none, .bsl 9 [.string ⟨#[]⟩, .string ⟨#[]⟩, .string ⟨#[]⟩, .string ⟨#[]⟩, .string ⟨#[]⟩] 5 [(0, 1, (.v (.string ⟨#[128, 0]⟩))), (1, 1, (.v (.string ⟨#[128]⟩))), (2, 1, (.v (.string ⟨#[255, 255, 255, 255, 255, 255, 255, 255, 255, 2]⟩))), (3, 1, (.v (.string ⟨#[]⟩))), (4, 1, (.v (.string ⟨#[128, 128, 128, 128, 128, 128, 128, 128, 128, 128, 1]⟩)))]⟩, ⟨some 1, none, .mov (.t 35)⟩])
  (.seq (.seq (.ops [⟨some 2, none, .mov (.v (.int .i64 0))⟩])
  (.block 0 (.loop (.seq (.seq (.ops [⟨some 36, none, .mov (.t 2)⟩, ⟨some 37, none, .mov (.t 1)⟩, ⟨some 38, none, .lenS (.t 37)⟩, ⟨some 39, none, .bin .lss (.t 36) (.t 38)⟩])
    (.cond (.t 39) .skip (.exit 0)))
    (.seq (.block 1 (.seq (.ops [⟨some 42, none, .mov (.t 1)⟩, ⟨some 43, none, .mov (.t 2)⟩, ⟨some 44, none, .ixS 1 (.t 42) (.t 43)⟩, ⟨some 45, none, .ld (.t 44)⟩, ⟨some 46, none, .bytesOf 5 (.t 45)⟩, ⟨some 47, none, .call 15 [(.t 46)]⟩, ⟨some 3, none, .mov (.t 47)⟩])
     (.seq (.ops [⟨some 48, none, .mov (.t 3)⟩, ⟨some 49, none, .call 16 [(.t 48), (.v (.int .u64 18446744073709551615))]⟩, ⟨some 50, none, .bin .neq (.t 49) (.v (.int .u64 0))⟩, ⟨some 51, none, .mov (.t 50)⟩, ⟨some 52, (some (51, false)), .mov (.t 3)⟩, ⟨some 53, (some (51, false)), .call 17 [(.t 52)]⟩, ⟨some 54, (some (51, false)), .bin .neq (.t 53) (.v (.int .i64 4))⟩, ⟨some 55, none, .pick (.t 51) (.v (.bool true)) (.t 54)⟩])
     (.cond (.t 55) (.seq (.ops [⟨some 0, none, .mov (.v (.bool false))⟩])
      .ret) .skip))))
    (.ops [⟨some 40, none, .mov (.t 2)⟩, ⟨some 41, none, .bin .add (.t 40) (.v (.int .i64 1))⟩, ⟨some 2, none, .mov (.t 41)⟩]))))))
  (.seq (.ops [⟨some 56, none, .bsl 5 [.int .u8 0, .int .u8 0, .int .u8 0, .int .u8 0, .int .u8 0, .int .u8 0, .int .u8 0, .int .u8 0, .int .u8 0, .int .u8 0] 10 [(0, 1, (.v (.int .u8 255))), (1, 1, (.v (.int .u8 255))), (2, 1, (.v (.int .u8 255))), (3, 1, (.v (.int .u8 255))), (4, 1, (.v (.int .u8 255))), (5, 1, (.v (.int .u8 255))), (6, 1, (.v (.int .u8 255))), (7, 1, (.v (.int .u8 255))), (8, 1, (.v (.int .u8 255))), (9, 1, (.v (.int .u8 1)))]⟩, ⟨some 57, none, .more (.cvS (.t 56))⟩, ⟨some 58, none, .call 15 [(.t 57)]⟩, ⟨some 4, none, .mov (.t 58)⟩])
  (.seq (.ops [⟨some 59, none, .bsl 5 [.int .u8 0, .int .u8 0, .int .u8 0, .int .u8 0] 4 [(0, 1, (.v (.int .u8 3))), (1, 1, (.v (.int .u8 97))), (2, 1, (.v (.int .u8 98))), (3, 1, (.v (.int .u8 99)))]⟩, ⟨some 60, none, .more (.cvS (.t 59))⟩, ⟨some 61, none, .call 15 [(.t 60)]⟩, ⟨some 5, none, .mov (.t 61)⟩])
  (.seq (.ops [⟨some 62, none, .bsl 5 [.int .u8 0, .int .u8 0, .int .u8 0, .int .u8 0, .int .u8 0, .int .u8 0, .int .u8 0, .int .u8 0, .int .u8 0] 9 [(0, 1, (.v (.int .u8 16))), (1, 1, (.v (.int .u8 0))), (2, 1, (.v (.int .u8 0))), (3, 1, (.v (.int .u8 0))), (4, 1, (.v (.int .u8 0))), (5, 1, (.v (.int .u8 0))), (6, 1, (.v (.int .u8 0))), (7, 1, (.v (.int .u8 0))), (8, 1, (.v (.int .u8 0)))]⟩, ⟨some 63, none, .more (.cvS (.t 62))⟩, ⟨some 64, none, .call 15 [(.t 63)]⟩, ⟨some 6, none, .mov (.t 64)⟩])
  (.seq (.ops [⟨some 65, none, .mov (.t 6)⟩, ⟨some 66, none, .call 18 [(.t 65)]⟩, ⟨some 7, none, .al 26 [.int .i64 0, .int .u64 0]⟩, ⟨none, none, .st 2 (.t 7) (.t 66)⟩])
  (.seq (.ops [⟨some 8, none, .mov (.v (.pointer none))⟩])
  (.seq (.ops [⟨some 67, none, .build [.slice none 0 0, .int .i64 0, .int .i64 0, .bool false] []⟩, ⟨some 68, none, .bx 49 (.t 67)⟩, ⟨some 9, none, .mov (.t 68)⟩])
  (.seq (.ops [⟨some 69, none, .mov (.t 4)⟩, ⟨some 70, none, .call 16 [(.t 69), (.v (.int .u64 18446744073709551615))]⟩, ⟨some 71, none, .bin .eql (.t 70) (.v (.int .u64 18446744073709551615))⟩, ⟨some 72, none, .mov (.t 71)⟩, ⟨some 73, (some (72, true)), .mov (.t 4)⟩, ⟨some 74, (some (72, true)), .call 19 [(.t 73)]⟩, ⟨some 75, (some (72, true)), .bin .eql (.t 74) (.v (.int .i64 0))⟩, ⟨some 76, none, .pick (.t 72) (.t 75) (.v (.bool false))⟩, ⟨some 77, none, .mov (.t 76)⟩, ⟨some 78, (some (77, true)), .mov (.t 5)⟩, ⟨some 79, (some (77, true)), .call 20 [(.t 78), (.v (.int .i64 2))]⟩, ⟨some 80, (some (77, true)), .bin .eql (.t 79) (.v (.string ⟨#[]⟩))⟩, ⟨some 81, none, .pick (.t 77) (.t 80) (.v (.bool false))⟩, ⟨some 82, none, .mov (.t 81)⟩, ⟨some 83, (some (82, true)), .mov (.t 5)⟩, ⟨some 84, (some (82, true)), .call 17 [(.t 83)]⟩, ⟨some 85, (some (82, true)), .bin .eql (.t 84) (.v (.int .i64 3))⟩, ⟨some 86, none, .pick (.t 82) (.t 85) (.v (.bool false))⟩, ⟨some 87, none, .mov (.t 86)⟩, ⟨some 88, (some (87, true)), .ldA 2 (.t 7)⟩, ⟨some 89, (some (87, true)), .build [.int .i64 0, .int .u64 0] []⟩, ⟨some 90, (some (87, true)), .eqA false 26 [.int .i64, .int .u64] (.t 88) (.t 89)⟩, ⟨some 91, none, .pick (.t 87) (.t 90) (.v (.bool false))⟩, ⟨some 92, none, .mov (.t 91)⟩, ⟨some 93, (some (92, true)), .mov (.t 6)⟩, ⟨some 94, (some (92, true)), .call 17 [(.t 93)]⟩, ⟨some 95, (some (92, true)), .bin .eql (.t 94) (.v (.int .i64 4))⟩, ⟨some 96, none, .pick (.t 92) (.t 95) (.v (.bool false))⟩, ⟨some 97, none, .mov (.t 96)⟩, ⟨some 98, (some (97, true)), .mov (.t 8)⟩, ⟨some 99, (some (97, true)), .call 17 [(.t 98)]⟩, ⟨some 100, (some (97, true)), .bin .eql (.t 99) (.v (.int .i64 1))⟩, ⟨some 101, none, .pick (.t 97) (.t 100) (.v (.bool false))⟩, ⟨some 102, none, .mov (.t 101)⟩, ⟨some 103, (some (102, true)), .mov (.t 8)⟩, ⟨some 104, (some (102, true)), .call 16 [(.t 103), (.v (.int .u64 9))]⟩, ⟨some 105, (some (102, true)), .bin .eql (.t 104) (.v (.int .u64 0))⟩, ⟨some 106, none, .pick (.t 102) (.t 105) (.v (.bool false))⟩, ⟨some 107, none, .mov (.t 106)⟩, ⟨some 108, (some (107, true)), .mov (.t 8)⟩, ⟨some 109, (some (107, true)), .call 20 [(.t 108), (.v (.int .i64 9))]⟩, ⟨some 110, (some (107, true)), .bin .eql (.t 109) (.v (.string ⟨#[]⟩))⟩, ⟨some 111, none, .pick (.t 107) (.t 110) (.v (.bool false))⟩, ⟨some 112, none, .mov (.t 111)⟩, ⟨some 113, (some (112, true)), .mov (.t 9)⟩, ⟨some 114, (some (112, true)), .call 19 [(.t 113)]⟩, ⟨some 115, (some (112, true)), .bin .eql (.t 114) (.v (.int .i64 1))⟩, ⟨some 116, none, .pick (.t 112) (.t 115) (.v (.bool false))⟩, ⟨some 117, none, .mov (.t 116)⟩, ⟨some 118, (some (117, true)), .mov (.t 9)⟩, ⟨some 119, (some (117, true)), .call 21 [(.t 118)]⟩, ⟨some 120, (some (117, true)), .more (.bldA [.int .u8 0, .int .u8 0, .int .u8 0, .int .u8 0, .int .u8 0, .int .u8 0, .int .u8 0, .int .u8 0, .int .u8 0, .int .u8 0, .int .u8 0, .int .u8 0, .int .u8 0, .int .u8 0, .int .u8 0, .int .u8 0, .int .u8 0, .int .u8 0, .int .u8 0, .int .u8 0, .int .u8 0, .int .u8 0, .int .u8 0, .int .u8 0, .int .u8 0, .int .u8 0, .int .u8 0, .int .u8 0, .int .u8 0, .int .u8 0, .int .u8 0, .int .u8 0] [])⟩, ⟨some 121, (some (117, true)), .more (.eqD false 24 [.int .u8, .int .u8, .int .u8, .int .u8, .int .u8, .int .u8, .int .u8, .int .u8, .int .u8, .int .u8, .int .u8, .int .u8, .int .u8, .int .u8, .int .u8, .int .u8, .int .u8, .int .u8, .int .u8, .int .u8, .int .u8, .int .u8, .int .u8, .int .u8, .int .u8, .int .u8, .int .u8, .int .u8, .int .u8, .int .u8, .int .u8, .int .u8] (.t 119) (.t 120))⟩, ⟨some 122, none, .pick (.t 117) (.t 121) (.v (.bool false))⟩, ⟨some 123, none, .mov (.t 122)⟩, ⟨some 124, (some (123, true)), .call 8 []⟩, ⟨some 125, none, .pick (.t 123) (.t 124) (.v (.bool false))⟩, ⟨some 0, none, .mov (.t 125)⟩])
  .ret)))))))))))
theorem Try.known5 : Known Try.prog 5 Try.pc5 126 [0] := ⟨Try.f5, _, Try.func5, rfl, by kernel_rfl, rfl, rfl⟩

/-- redwax/redwaxlaw04.CodecBack -/
def Try.pc6 : PC :=
  (.seq (.ops [⟨some 4, none, .mov (.v (.bool false))⟩])
  (.seq (.seq (.ops [⟨some 11, none, .mov (.t 0)⟩, ⟨some 12, none, .call 13 [(.t 11)]⟩, ⟨some 13, none, .not (.t 12)⟩])
  (.cond (.t 13) (.seq (.ops [⟨some 14, none, .call 8 []⟩, ⟨some 4, none, .mov (.t 14)⟩])
   .ret) .skip))
  (.seq (.ops [⟨some 5, none, .mov (.v (.slice none 0 0))⟩])
  (.seq (.ops [⟨some 6, none, .mov (.v (.slice none 0 0))⟩])
  (.seq (.seq (.ops [⟨some 7, none, .mov (.v (.int .i64 0))⟩])
  (.block 0 (.loop (.seq (.seq (.ops [⟨some 15, none, .mov (.t 7)⟩, ⟨some 16, none, .mov (.t 0)⟩, ⟨some 17, none, .lenS (.t 16)⟩, ⟨some 18, none, .bin .lss (.t 15) (.t 17)⟩])
    (.cond (.t 18) .skip (.exit 0)))
    (.seq (.block 1 (.seq (.ops [⟨some 21, none, .mov (.t 0)⟩, ⟨some 22, none, .mov (.t 7)⟩, ⟨some 23, none, .ixS 39 (.t 21) (.t 22)⟩, ⟨some 24, none, .ldA 39 (.t 23)⟩, ⟨some 8, none, .al 28 [.int .u8 0, .int .u64 0, .string ⟨#[]⟩, .int .u8 0, .int .u8 0, .int .u8 0, .int .u8 0, .int .u8 0, .int .u8 0, .int .u8 0, .int .u8 0, .int .u8 0, .int .u8 0, .int .u8 0, .int .u8 0, .int .u8 0, .int .u8 0, .int .u8 0, .int .u8 0, .int .u8 0, .int .u8 0, .int .u8 0, .int .u8 0, .int .u8 0, .int .u8 0, .int .u8 0, .int .u8 0, .int .u8 0, .int .u8 0, .int .u8 0, .int .u8 0, .int .u8 0, .int .u8 0, .int .u8 0, .int .u8 0, .int .i64 0, .int .u64 0, .int .i64 0, .int .i64 0]⟩, ⟨none, none, .st 39 (.t 8) (.t 24)⟩])
     (.seq (.ops [⟨some 25, none, .fa 35 (.t 8)⟩, ⟨some 26, none, .fa 0 (.t 25)⟩, ⟨some 27, none, .ld (.t 26)⟩, ⟨some 28, none, .bin .and (.t 27) (.v (.int .i64 15))⟩, ⟨some 29, none, .fa 35 (.t 8)⟩, ⟨some 30, none, .fa 0 (.t 29)⟩, ⟨none, none, .st 1 (.t 30) (.t 28)⟩])
     (.seq (.ops [⟨some 31, none, .fa 37 (.t 8)⟩, ⟨some 32, none, .ld (.t 31)⟩, ⟨some 33, none, .bin .and (.t 32) (.v (.int .i64 4294967295))⟩, ⟨some 34, none, .bin .sub (.t 33) (.v (.int .i64 2))⟩, ⟨some 35, none, .fa 37 (.t 8)⟩, ⟨none, none, .st 1 (.t 35) (.t 34)⟩])
     (.seq (.ops [⟨some 36, none, .mov (.t 5)⟩, ⟨some 37, none, .ldA 39 (.t 8)⟩, ⟨some 38, none, .bsl 28 [.int .u8 0, .int .u64 0, .string ⟨#[]⟩, .int .u8 0, .int .u8 0, .int .u8 0, .int .u8 0, .int .u8 0, .int .u8 0, .int .u8 0, .int .u8 0, .int .u8 0, .int .u8 0, .int .u8 0, .int .u8 0, .int .u8 0, .int .u8 0, .int .u8 0, .int .u8 0, .int .u8 0, .int .u8 0, .int .u8 0, .int .u8 0, .int .u8 0, .int .u8 0, .int .u8 0, .int .u8 0, .int .u8 0, .int .u8 0, .int .u8 0, .int .u8 0, .int .u8 0, .int .u8 0, .int .u8 0, .int .u8 0, .int .i64 0, .int .u64 0, .int .i64 0, .int .i64 0] 1 [(0, 39, (.t 37))]⟩, ⟨some 39, none, .app 36 28 39 96 (.agg #[.int .u8 0, .int .u64 0, .string ⟨#[]⟩, .int .u8 0, .int .u8 0, .int .u8 0, .int .u8 0, .int .u8 0, .int .u8 0, .int .u8 0, .int .u8 0, .int .u8 0, .int .u8 0, .int .u8 0, .int .u8 0, .int .u8 0, .int .u8 0, .int .u8 0, .int .u8 0, .int .u8 0, .int .u8 0, .int .u8 0, .int .u8 0, .int .u8 0, .int .u8 0, .int .u8 0, .int .u8 0, .int .u8 0, .int .u8 0, .int .u8 0, .int .u8 0, .int .u8 0, .int .u8 0, .int .u8 0, .int .u8 0, .int .i64 0, .int .u64 0, .int .i64 0, .int .i64 0]) (.t 36) (.t 38)⟩, ⟨some 5, none, .mov (.t 39)⟩])
     (.ops [⟨some 41, none, .mov (.t 6)⟩, ⟨some 42, none, .ldA 39 (.t 8)⟩, ⟨some 43, none, .call 14 [(.t 41), (.v (.slice none 0 0)), (.t 42)]⟩, ⟨some 40, none, .mov (.t 43)⟩, ⟨some 44, none, .ext 0 (.t 40)⟩, ⟨some 45, none, .ext 1 (.t 40)⟩, ⟨some 6, none, .mov (.t 44)⟩]))))))
    (.ops [⟨some 19, none, .mov (.t 7)⟩, ⟨some 20, none, .bin .add (.t 19) (.v (.int .i64 1))⟩, ⟨some 7, none, .mov (.t 20)⟩]))))))
  (.seq (.ops [⟨some 46, none, .mov (.t 1)⟩, ⟨some 47, none, .mov (.t 1)⟩, ⟨some 48, none, .lenS (.t 47)⟩, ⟨some 49, none, .mnx false [(.t 48), (.v (.int .i64 50))]⟩, ⟨some 50, none, .slS 1 (.t 46) none (some (.t 49))⟩, ⟨some 1, none, .mov (.t 50)⟩])
  (.seq (.ops [⟨some 51, none, .mov (.t 6)⟩, ⟨some 52, none, .mov (.t 1)⟩, ⟨some 53, none, .app 30 5 1 1 (.int .u8 0) (.t 51) (.t 52)⟩, ⟨some 54, none, .call 15 [(.t 53)]⟩, ⟨some 9, none, .mov (.t 54)⟩])
  (.seq (.seq (.ops [⟨some 10, none, .mov (.v (.int .i64 0))⟩])
  (.block 2 (.loop (.seq (.seq (.ops [⟨some 55, none, .mov (.t 10)⟩, ⟨some 56, none, .mov (.t 5)⟩, ⟨some 57, none, .lenS (.t 56)⟩, ⟨some 58, none, .bin .lss (.t 55) (.t 57)⟩])
    (.cond (.t 58) .skip (.exit 2)))
    (.seq (.block 3 (.seq (.ops [⟨some 61, none, .mov (.t 9)⟩, ⟨some 62, none, .mov (.t 5)⟩, ⟨some 63, none, .mov (.t 10)⟩, ⟨some 64, none, .ixS 39 (.t 62) (.t 63)⟩, ⟨some 65, none, .ldA 39 (.t 64)⟩, ⟨some 66, none, .call 22 [(.t 61), (.t 65)]⟩, ⟨some 67, none, .not (.t 66)⟩, ⟨some 68, none, .mov (.t 67)⟩, ⟨some 69, (some (68, false)), .mov (.t 9)⟩, ⟨some 70, (some (68, false)), .call 17 [(.t 69)]⟩, ⟨some 71, (some (68, false)), .bin .neq (.t 70) (.v (.int .i64 0))⟩, ⟨some 72, none, .pick (.t 68) (.v (.bool true)) (.t 71)⟩])
     (.cond (.t 72) (.seq (.ops [⟨some 4, none, .mov (.v (.bool false))⟩])
      .ret) .skip)))
    (.ops [⟨some 59, none, .mov (.t 10)⟩, ⟨some 60, none, .bin .add (.t 59) (.v (.int .i64 1))⟩, ⟨some 10, none, .mov (.t 60)⟩]))))))
  (.seq (.ops [⟨some 73, none, .mov (.t 9)⟩, ⟨some 74, none, .call 19 [(.t 73)]⟩, ⟨some 75, none, .bin .eql (.t 74) (.v (.int .i64 0))⟩, ⟨some 76, none, .mov (.t 1)⟩, ⟨some 77, none, .lenS (.t 76)⟩, ⟨some 78, none, .bin .eql (.t 77) (.v (.int .i64 0))⟩, ⟨some 79, none, .binB .eql (.t 75) (.t 78)⟩, ⟨some 80, none, .mov (.t 79)⟩, ⟨some 81, (some (80, true)), .call 8 []⟩, ⟨some 82, none, .pick (.t 80) (.t 81) (.v (.bool false))⟩, ⟨some 4, none, .mov (.t 82)⟩])
  .ret)))))))))
theorem Try.known6 : Known Try.prog 6 Try.pc6 83 [4] := ⟨Try.f6, _, Try.func6, rfl, by kernel_rfl, rfl, rfl⟩

/-- redwax/redwaxlaw04.CodecOnce -/
def Try.pc7 : PC :=
  (.seq (.ops [⟨some 4, none, .mov (.v (.bool false))⟩])
  (.seq (.ops [⟨some 9, none, .mov (.t 0)⟩, ⟨some 10, none, .mov (.t 0)⟩, ⟨some 11, none, .lenS (.t 10)⟩, ⟨some 12, none, .mnx false [(.t 11), (.v (.int .i64 400))]⟩, ⟨some 13, none, .slS 1 (.t 9) none (some (.t 12))⟩, ⟨some 0, none, .mov (.t 13)⟩])
  (.seq (.ops [⟨some 14, none, .mov (.t 0)⟩, ⟨some 15, none, .call 15 [(.t 14)]⟩, ⟨some 5, none, .mov (.t 15)⟩])
  (.seq (.ops [⟨some 6, none, .mov (.v (.slice none 0 0))⟩])
  (.seq (.seq (.ops [⟨some 7, none, .mov (.v (.int .i64 0))⟩])
  (.block 0 (.loop (.seq (.seq (.ops [⟨some 16, none, .mov (.t 7)⟩, ⟨some 17, none, .mov (.t 1)⟩, ⟨some 18, none, .lenS (.t 17)⟩, ⟨some 19, none, .bin .lss (.t 16) (.t 18)⟩, ⟨some 20, none, .mov (.t 19)⟩, ⟨some 21, (some (20, true)), .mov (.t 7)⟩, ⟨some 22, (some (20, true)), .bin .lss (.t 21) (.v (.int .i64 20))⟩, ⟨some 23, none, .pick (.t 20) (.t 22) (.v (.bool false))⟩])
    (.cond (.t 23) .skip (.exit 0)))
    (.seq (.block 1 (.seq (.ops [⟨some 26, none, .mov (.t 6)⟩, ⟨some 27, none, .lenS (.t 26)⟩, ⟨some 8, none, .mov (.t 27)⟩])
     (.seq (.seq (.ops [⟨some 28, none, .mov (.t 1)⟩, ⟨some 29, none, .mov (.t 7)⟩, ⟨some 30, none, .ixS 1 (.t 28) (.t 29)⟩, ⟨some 31, none, .ld (.t 30)⟩, ⟨some 32, none, .bin .rem (.t 31) (.v (.int .u8 5))⟩])
     (.block 2 (.seq (.ops [⟨some 38, none, .bin .eql (.t 32) (.v (.int .u8 0))⟩, ⟨some 37, none, .mov (.t 38)⟩])
      (.cond (.t 37) (.ops [⟨some 39, none, .mov (.t 6)⟩, ⟨some 40, none, .mov (.t 5)⟩, ⟨some 41, none, .call 16 [(.t 40), (.v (.int .u64 18446744073709551615))]⟩, ⟨some 42, none, .call 9 [(.t 39), (.t 41)]⟩, ⟨some 6, none, .mov (.t 42)⟩]) (.seq (.ops [⟨some 44, none, .bin .eql (.t 32) (.v (.int .u8 1))⟩, ⟨some 43, none, .mov (.t 44)⟩])
       (.cond (.t 43) (.ops [⟨some 45, none, .mov (.t 6)⟩, ⟨some 46, none, .mov (.t 5)⟩, ⟨some 47, none, .call 20 [(.t 46), (.v (.int .i64 1000))]⟩, ⟨some 48, none, .call 10 [(.t 45), (.t 47)]⟩, ⟨some 6, none, .mov (.t 48)⟩]) (.seq (.ops [⟨some 50, none, .bin .eql (.t 32) (.v (.int .u8 2))⟩, ⟨some 49, none, .mov (.t 50)⟩])
        (.cond (.t 49) (.ops [⟨some 51, none, .mov (.t 6)⟩, ⟨some 52, none, .mov (.t 5)⟩, ⟨some 53, none, .call 21 [(.t 52)]⟩, ⟨some 54, none, .call 23 [(.t 51), (.t 53)]⟩, ⟨some 6, none, .mov (.t 54)⟩]) (.seq (.ops [⟨some 56, none, .bin .eql (.t 32) (.v (.int .u8 3))⟩, ⟨some 55, none, .mov (.t 56)⟩])
         (.cond (.t 55) (.ops [⟨some 57, none, .mov (.t 6)⟩, ⟨some 58, none, .mov (.t 5)⟩, ⟨some 59, none, .call 18 [(.t 58)]⟩, ⟨some 60, none, .call 11 [(.t 57), (.t 59)]⟩, ⟨some 6, none, .mov (.t 60)⟩]) (.ops [⟨some 33, none, .mov (.t 6)⟩, ⟨some 34, none, .mov (.t 5)⟩, ⟨some 35, none, .call 25 [(.t 34)]⟩, ⟨some 36, none, .call 24 [(.t 33), (.t 35)]⟩, ⟨some 6, none, .mov (.t 36)⟩])))))))))))
     (.seq (.ops [⟨some 61, none, .mov (.t 5)⟩, ⟨some 62, none, .call 17 [(.t 61)]⟩, ⟨some 63, none, .bin .neq (.t 62) (.v (.int .i64 0))⟩])
     (.cond (.t 63) (.seq (.ops [⟨some 64, none, .mov (.t 6)⟩, ⟨some 65, none, .mov (.t 8)⟩, ⟨some 66, none, .mov (.t 6)⟩, ⟨some 67, none, .lenS (.t 66)⟩, ⟨some 68, none, .mnx false [(.t 65), (.t 67)]⟩, ⟨some 69, none, .slS 1 (.t 64) none (some (.t 68))⟩, ⟨some 6, none, .mov (.t 69)⟩])
      (.exit 0)) .skip)))))
    (.ops [⟨some 24, none, .mov (.t 7)⟩, ⟨some 25, none, .bin .add (.t 24) (.v (.int .i64 1))⟩, ⟨some 7, none, .mov (.t 25)⟩]))))))
  (.seq (.quiet2 17 28 [⟨some 70, none, .mov (.t 6)⟩, ⟨some 71, none, .lenS (.t 70)⟩, ⟨some 72, none, .mov (.t 0)⟩, ⟨some 73, none, .lenS (.t 72)⟩, ⟨some 74, none, .bin .leq (.t 71) (.t 73)⟩, ⟨some 75, none, .mov (.t 74)⟩, ⟨some 76, (some (75, true)), .mov (.t 6)⟩, ⟨some 77, (some (75, true)), .strOf (.t 76)⟩, ⟨some 78, (some (75, true)), .mov (.t 0)⟩, ⟨some 79, (some (75, true)), .mov (.t 6)⟩, ⟨some 80, (some (75, true)), .lenS (.t 79)⟩, ⟨some 81, (some (75, true)), .slS 1 (.t 78) none (some (.t 80))⟩, ⟨some 82, (some (75, true)), .strOf (.t 81)⟩, ⟨some 83, (some (75, true)), .bin .eql (.t 77) (.t 82)⟩, ⟨some 84, none, .pick (.t 75) (.t 83) (.v (.bool false))⟩, ⟨some 85, none, .mov (.t 84)⟩, ⟨some 86, (some (85, true)), .mov (.t 5)⟩, ⟨some 87, (some (85, true)), .call 17 [(.t 86)]⟩, ⟨some 88, (some (85, true)), .bin .neq (.t 87) (.v (.int .i64 0))⟩, ⟨some 89, (some (85, true)), .mov (.t 88)⟩, ⟨some 90, (some (89, false)), .mov (.t 5)⟩, ⟨some 91, (some (89, false)), .call 19 [(.t 90)]⟩, ⟨some 92, (some (89, false)), .bin .eql (.t 91) (.v (.int .i64 0))⟩, ⟨some 93, (some (89, false)), .mov (.t 6)⟩, ⟨some 94, (some (89, false)), .lenS (.t 93)⟩, ⟨some 95, (some (89, false)), .mov (.t 0)⟩, ⟨some 96, (some (89, false)), .lenS (.t 95)⟩, ⟨some 97, (some (89, false)), .bin .eql (.t 94) (.t 96)⟩, ⟨some 98, (some (89, false)), .binB .eql (.t 92) (.t 97)⟩, ⟨some 99, (some (85, true)), .pick (.t 89) (.v (.bool true)) (.t 98)⟩, ⟨some 100, none, .pick (.t 85) (.t 99) (.v (.bool false))⟩, ⟨some 101, none, .mov (.t 100)⟩, ⟨some 102, (some (101, true)), .call 8 []⟩, ⟨some 103, none, .pick (.t 101) (.t 102) (.v (.bool false))⟩, ⟨some 4, none, .mov (.t 103)⟩])
  .ret))))))
theorem Try.known7 : Known Try.prog 7 Try.pc7 104 [4] := ⟨Try.f7, _, Try.func7, rfl, by kernel_rfl, rfl, rfl⟩

/-- redwax/redwaxlaw04.works -/
def Try.pc8 : PC :=
  (.seq (.ops [⟨some 0, none, .mov (.v (.bool false))⟩])
  (.seq (.ops [⟨some 3, none, .call 9 [(.v (.slice none 0 0)), (.v (.int .u64 300))]⟩, ⟨some 1, none, .mov (.t 3)⟩])
  (.seq (.ops [⟨some 4, none, .mov (.t 1)⟩, ⟨some 5, none, .call 15 [(.t 4)]⟩, ⟨some 2, none, .mov (.t 5)⟩])
  (.seq (.ops [⟨some 6, none, .mov (.t 1)⟩, ⟨some 7, none, .lenS (.t 6)⟩, ⟨some 8, none, .bin .eql (.t 7) (.v (.int .i64 2))⟩, ⟨some 9, none, .mov (.t 8)⟩, ⟨some 10, (some (9, true)), .mov (.t 1)⟩, ⟨some 11, (some (9, true)), .ixS 1 (.t 10) (.v (.int .i64 0))⟩, ⟨some 12, (some (9, true)), .ld (.t 11)⟩, ⟨some 13, (some (9, true)), .bin .eql (.t 12) (.v (.int .u8 172))⟩, ⟨some 14, none, .pick (.t 9) (.t 13) (.v (.bool false))⟩, ⟨some 15, none, .mov (.t 14)⟩, ⟨some 16, (some (15, true)), .mov (.t 1)⟩, ⟨some 17, (some (15, true)), .ixS 1 (.t 16) (.v (.int .i64 1))⟩, ⟨some 18, (some (15, true)), .ld (.t 17)⟩, ⟨some 19, (some (15, true)), .bin .eql (.t 18) (.v (.int .u8 2))⟩, ⟨some 20, none, .pick (.t 15) (.t 19) (.v (.bool false))⟩, ⟨some 21, none, .mov (.t 20)⟩, ⟨some 22, (some (21, true)), .mov (.t 2)⟩, ⟨some 23, (some (21, true)), .call 16 [(.t 22), (.v (.int .u64 300))]⟩, ⟨some 24, (some (21, true)), .bin .eql (.t 23) (.v (.int .u64 300))⟩, ⟨some 25, none, .pick (.t 21) (.t 24) (.v (.bool false))⟩, ⟨some 26, none, .mov (.t 25)⟩, ⟨some 27, (some (26, true)), .mov (.t 2)⟩, ⟨some 28, (some (26, true)), .call 19 [(.t 27)]⟩, ⟨some 29, (some (26, true)), .bin .eql (.t 28) (.v (.int .i64 0))⟩, ⟨some 30, none, .pick (.t 26) (.t 29) (.v (.bool false))⟩, ⟨some 31, none, .mov (.t 30)⟩, ⟨some 32, (some (31, true)), .mov (.t 2)⟩, ⟨some 33, (some (31, true)), .call 16 [(.t 32), (.v (.int .u64 1))]⟩, ⟨some 34, (some (31, true)), .bin .eql (.t 33) (.v (.int .u64 0))⟩, ⟨some 35, none, .pick (.t 31) (.t 34) (.v (.bool false))⟩, ⟨some 36, none, .mov (.t 35)⟩, ⟨some 37, (some (36, true)), .mov (.t 2)⟩, ⟨some 38, (some (36, true)), .call 17 [(.t 37)]⟩, ⟨some 39, (some (36, true)), .bin .eql (.t 38) (.v (.int .i64 4))⟩, ⟨some 40, none, .pick (.t 36) (.t 39) (.v (.bool false))⟩, ⟨some 0, none, .mov (.t 40)⟩])
  .ret))))
theorem Try.known8 : Known Try.prog 8 Try.pc8 41 [0] := ⟨Try.f8, _, Try.func8, rfl, by kernel_rfl, rfl, rfl⟩

/-- redwax/codec.Num -/
def Try.pc9 : PC :=
  (.seq (.ops [⟨some 4, none, .mov (.v (.slice none 0 0))⟩])
  (.seq (.block 0 (.loop (.seq (.seq (.ops [⟨some 5, none, .mov (.t 1)⟩, ⟨some 6, none, .bin .geq (.t 5) (.v (.int .u64 128))⟩])
    (.cond (.t 6) .skip (.exit 0)))
    (.block 1 (.seq (.ops [⟨some 7, none, .mov (.t 0)⟩, ⟨some 8, none, .mov (.t 1)⟩, ⟨some 9, none, .cvt .u8 (.t 8)⟩, ⟨some 10, none, .bin .or (.t 9) (.v (.int .u8 128))⟩, ⟨some 11, none, .bsl 5 [.int .u8 0] 1 [(0, 1, (.t 10))]⟩, ⟨some 12, none, .app 30 5 1 1 (.int .u8 0) (.t 7) (.t 11)⟩, ⟨some 0, none, .mov (.t 12)⟩])
     (.ops [⟨some 13, none, .mov (.t 1)⟩, ⟨some 14, none, .bin .shr (.t 13) (.v (.int .u64 7))⟩, ⟨some 1, none, .mov (.t 14)⟩]))))))
  (.seq (.ops [⟨some 15, none, .mov (.t 0)⟩, ⟨some 16, none, .mov (.t 1)⟩, ⟨some 17, none, .cvt .u8 (.t 16)⟩, ⟨some 18, none, .bsl 5 [.int .u8 0] 1 [(0, 1, (.t 17))]⟩, ⟨some 19, none, .app 30 5 1 1 (.int .u8 0) (.t 15) (.t 18)⟩, ⟨some 4, none, .mov (.t 19)⟩])
  .ret)))
theorem Try.known9 : Known Try.prog 9 Try.pc9 20 [4] := ⟨Try.f9, _, Try.func9, rfl, by kernel_rfl, rfl, rfl⟩

/-- redwax/codec.Text -/
def Try.pc10 : PC :=
  (.seq (.ops [⟨some 4, none, .mov (.v (.slice none 0 0))⟩])
  (.seq (.ops [⟨some 5, none, .mov (.t 0)⟩, ⟨some 6, none, .mov (.t 1)⟩, ⟨some 7, none, .lenStr (.t 6)⟩, ⟨some 8, none, .cvt .u64 (.t 7)⟩, ⟨some 9, none, .call 9 [(.t 5), (.t 8)]⟩, ⟨some 10, none, .mov (.t 1)⟩, ⟨some 11, none, .appStr 30 9 5 1 (.int .u8 0) (.t 9) (.t 10)⟩, ⟨some 4, none, .mov (.t 11)⟩])
  .ret))
theorem Try.known10 : Known Try.prog 10 Try.pc10 12 [4] := ⟨Try.f10, _, Try.func10, rfl, by kernel_rfl, rfl, rfl⟩

/-- redwax/codec.Label -/
def Try.pc11 : PC :=
  (.seq (.ops [⟨some 3, none, .bx 26 (.t 1)⟩, ⟨some 4, none, .mov (.v (.slice none 0 0))⟩])
  (.seq (.ops [⟨some 6, none, .mov (.t 0)⟩, ⟨some 7, none, .fa 0 (.t 3)⟩, ⟨some 8, none, .ld (.t 7)⟩, ⟨some 9, none, .cvt .u64 (.t 8)⟩, ⟨some 10, none, .call 9 [(.t 6), (.t 9)]⟩, ⟨some 0, none, .mov (.t 10)⟩])
  (.seq (.seq (.ops [⟨some 5, none, .mov (.v (.int .i64 7))⟩])
  (.block 0 (.loop (.seq (.seq (.ops [⟨some 11, none, .mov (.t 5)⟩, ⟨some 12, none, .bin .geq (.t 11) (.v (.int .i64 0))⟩])
    (.cond (.t 12) .skip (.exit 0)))
    (.seq (.block 1 (.ops [⟨some 15, none, .mov (.t 0)⟩, ⟨some 16, none, .fa 1 (.t 3)⟩, ⟨some 17, none, .ld (.t 16)⟩, ⟨some 18, none, .mov (.t 5)⟩, ⟨some 19, none, .bin .mul (.v (.int .i64 8)) (.t 18)⟩, ⟨some 20, none, .bin .shr (.t 17) (.t 19)⟩, ⟨some 21, none, .cvt .u8 (.t 20)⟩, ⟨some 22, none, .bsl 5 [.int .u8 0] 1 [(0, 1, (.t 21))]⟩, ⟨some 23, none, .app 30 5 1 1 (.int .u8 0) (.t 15) (.t 22)⟩, ⟨some 0, none, .mov (.t 23)⟩]))
    (.ops [⟨some 13, none, .mov (.t 5)⟩, ⟨some 14, none, .bin .sub (.t 13) (.v (.int .i64 1))⟩, ⟨some 5, none, .mov (.t 14)⟩]))))))
  (.seq (.ops [⟨some 24, none, .mov (.t 0)⟩, ⟨some 4, none, .mov (.t 24)⟩])
  .ret))))
theorem Try.known11 : Known Try.prog 11 Try.pc11 25 [4] := ⟨Try.f11, _, Try.func11, rfl, by kernel_rfl, rfl, rfl⟩

/-- redwax/redwaxlaw04.begins -/
def Try.pc12 : PC :=
  (.seq (.ops [⟨some 4, none, .mov (.v (.bool false))⟩])
  (.seq (.ops [⟨some 6, none, .mov (.t 0)⟩, ⟨some 7, none, .lenS (.t 6)⟩, ⟨some 8, none, .mov (.t 1)⟩, ⟨some 9, none, .lenS (.t 8)⟩, ⟨some 10, none, .mnx false [(.t 7), (.t 9)]⟩, ⟨some 5, none, .mov (.t 10)⟩])
  (.seq (.quiet 8 [⟨some 11, none, .mov (.t 0)⟩, ⟨some 12, none, .mov (.t 5)⟩, ⟨some 13, none, .slS 1 (.t 11) none (some (.t 12))⟩, ⟨some 14, none, .strOf (.t 13)⟩, ⟨some 15, none, .mov (.t 1)⟩, ⟨some 16, none, .mov (.t 5)⟩, ⟨some 17, none, .slS 1 (.t 15) none (some (.t 16))⟩, ⟨some 18, none, .strOf (.t 17)⟩, ⟨some 19, none, .bin .eql (.t 14) (.t 18)⟩, ⟨some 4, none, .mov (.t 19)⟩])
  .ret)))
theorem Try.known12 : Known Try.prog 12 Try.pc12 20 [4] := ⟨Try.f12, _, Try.func12, rfl, by kernel_rfl, rfl, rfl⟩

/-- redwax/redwaxlaw04.few -/
def Try.pc13 : PC :=
  (.seq (.ops [⟨some 2, none, .mov (.v (.bool false))⟩])
  (.seq (.seq (.ops [⟨some 3, none, .mov (.v (.int .i64 0))⟩])
  (.block 0 (.loop (.seq (.seq (.ops [⟨some 4, none, .mov (.t 3)⟩, ⟨some 5, none, .mov (.t 0)⟩, ⟨some 6, none, .lenS (.t 5)⟩, ⟨some 7, none, .bin .lss (.t 4) (.t 6)⟩, ⟨some 8, none, .mov (.t 7)⟩, ⟨some 9, (some (8, true)), .mov (.t 3)⟩, ⟨some 10, (some (8, true)), .bin .lss (.t 9) (.v (.int .i64 21))⟩, ⟨some 11, none, .pick (.t 8) (.t 10) (.v (.bool false))⟩])
    (.cond (.t 11) .skip (.exit 0)))
    (.seq (.block 1 (.seq (.ops [⟨some 14, none, .mov (.t 0)⟩, ⟨some 15, none, .mov (.t 3)⟩, ⟨some 16, none, .ixS 39 (.t 14) (.t 15)⟩, ⟨some 17, none, .fa 2 (.t 16)⟩, ⟨some 18, none, .ld (.t 17)⟩, ⟨some 19, none, .lenStr (.t 18)⟩, ⟨some 20, none, .bin .gtr (.t 19) (.v (.int .i64 300))⟩])
     (.cond (.t 20) (.seq (.ops [⟨some 2, none, .mov (.v (.bool false))⟩])
      .ret) .skip)))
    (.ops [⟨some 12, none, .mov (.t 3)⟩, ⟨some 13, none, .bin .add (.t 12) (.v (.int .i64 1))⟩, ⟨some 3, none, .mov (.t 13)⟩]))))))
  (.seq (.ops [⟨some 21, none, .mov (.t 0)⟩, ⟨some 22, none, .lenS (.t 21)⟩, ⟨some 23, none, .bin .leq (.t 22) (.v (.int .i64 20))⟩, ⟨some 2, none, .mov (.t 23)⟩])
  .ret)))
theorem Try.known13 : Known Try.prog 13 Try.pc13 24 [2] := ⟨Try.f13, _, Try.func13, rfl, by kernel_rfl, rfl, rfl⟩

/-- redwax/redwaxlaw04.written -/
def Try.pc14 : PC :=
  (.seq (.ops [⟨some 5, none, .bx 28 (.t 2)⟩, ⟨some 6, none, .mov (.v (.slice none 0 0))⟩, ⟨some 7, none, .mov (.v (.slice none 0 0))⟩])
  (.seq (.seq (.ops [⟨some 9, none, .fa 0 (.t 5)⟩, ⟨some 10, none, .ld (.t 9)⟩, ⟨some 11, none, .bin .rem (.t 10) (.v (.int .u8 5))⟩])
  (.block 0 (.seq (.ops [⟨some 13, none, .bin .eql (.t 11) (.v (.int .u8 0))⟩, ⟨some 12, none, .mov (.t 13)⟩])
   (.cond (.t 12) (.seq (.quiet 7 [⟨some 14, none, .mov (.t 0)⟩, ⟨some 15, none, .fa 1 (.t 5)⟩, ⟨some 16, none, .ld (.t 15)⟩, ⟨some 17, none, .call 9 [(.t 14), (.t 16)]⟩, ⟨some 18, none, .mov (.t 1)⟩, ⟨some 19, none, .fa 1 (.t 5)⟩, ⟨some 20, none, .ld (.t 19)⟩, ⟨some 21, none, .call 26 [(.t 20)]⟩, ⟨some 22, none, .app 30 5 1 1 (.int .u8 0) (.t 18) (.t 21)⟩, ⟨some 6, none, .mov (.t 17)⟩, ⟨some 7, none, .mov (.t 22)⟩])
    .ret) (.seq (.ops [⟨some 24, none, .bin .eql (.t 11) (.v (.int .u8 1))⟩, ⟨some 23, none, .mov (.t 24)⟩])
    (.cond (.t 23) (.seq (.quiet 7 [⟨some 25, none, .mov (.t 0)⟩, ⟨some 26, none, .fa 2 (.t 5)⟩, ⟨some 27, none, .ld (.t 26)⟩, ⟨some 28, none, .call 10 [(.t 25), (.t 27)]⟩, ⟨some 29, none, .mov (.t 1)⟩, ⟨some 30, none, .fa 2 (.t 5)⟩, ⟨some 31, none, .ld (.t 30)⟩, ⟨some 32, none, .call 27 [(.t 31)]⟩, ⟨some 33, none, .app 30 5 1 1 (.int .u8 0) (.t 29) (.t 32)⟩, ⟨some 6, none, .mov (.t 28)⟩, ⟨some 7, none, .mov (.t 33)⟩])
     .ret) (.seq (.ops [⟨some 35, none, .bin .eql (.t 11) (.v (.int .u8 2))⟩, ⟨some 34, none, .mov (.t 35)⟩])
     (.cond (.t 34) (.seq (.quiet 7 [⟨some 36, none, .mov (.t 0)⟩, ⟨some 37, none, .fa 3 (.t 5)⟩, ⟨some 38, none, .ldA 32 (.t 37)⟩, ⟨some 39, none, .call 23 [(.t 36), (.t 38)]⟩, ⟨some 40, none, .mov (.t 1)⟩, ⟨some 41, none, .fa 3 (.t 5)⟩, ⟨some 42, none, .ldA 32 (.t 41)⟩, ⟨some 43, none, .call 28 [(.t 42)]⟩, ⟨some 44, none, .app 30 5 1 1 (.int .u8 0) (.t 40) (.t 43)⟩, ⟨some 6, none, .mov (.t 39)⟩, ⟨some 7, none, .mov (.t 44)⟩])
      .ret) (.seq (.ops [⟨some 46, none, .bin .eql (.t 11) (.v (.int .u8 3))⟩, ⟨some 45, none, .mov (.t 46)⟩])
      (.cond (.t 45) (.seq (.quiet 7 [⟨some 47, none, .mov (.t 0)⟩, ⟨some 48, none, .fa 35 (.t 5)⟩, ⟨some 49, none, .ldA 2 (.t 48)⟩, ⟨some 50, none, .call 11 [(.t 47), (.t 49)]⟩, ⟨some 51, none, .mov (.t 1)⟩, ⟨some 52, none, .fa 35 (.t 5)⟩, ⟨some 53, none, .ldA 2 (.t 52)⟩, ⟨some 54, none, .call 29 [(.t 53)]⟩, ⟨some 55, none, .app 30 5 1 1 (.int .u8 0) (.t 51) (.t 54)⟩, ⟨some 6, none, .mov (.t 50)⟩, ⟨some 7, none, .mov (.t 55)⟩])
       .ret) .skip))))))))))
  (.seq (.ops [⟨some 56, none, .fa 3 (.t 5)⟩, ⟨some 57, none, .ldA 32 (.t 56)⟩, ⟨some 58, none, .fa 37 (.t 5)⟩, ⟨some 59, none, .ld (.t 58)⟩, ⟨some 60, none, .build [.int .u8 0, .int .u8 0, .int .u8 0, .int .u8 0, .int .u8 0, .int .u8 0, .int .u8 0, .int .u8 0, .int .u8 0, .int .u8 0, .int .u8 0, .int .u8 0, .int .u8 0, .int .u8 0, .int .u8 0, .int .u8 0, .int .u8 0, .int .u8 0, .int .u8 0, .int .u8 0, .int .u8 0, .int .u8 0, .int .u8 0, .int .u8 0, .int .u8 0, .int .u8 0, .int .u8 0, .int .u8 0, .int .u8 0, .int .u8 0, .int .u8 0, .int .u8 0, .int .i64 0] [(0, 32, (.t 57)), (32, 1, (.t 59))]⟩, ⟨some 8, none, .al 57 [.int .u8 0, .int .u8 0, .int .u8 0, .int .u8 0, .int .u8 0, .int .u8 0, .int .u8 0, .int .u8 0, .int .u8 0, .int .u8 0, .int .u8 0, .int .u8 0, .int .u8 0, .int .u8 0, .int .u8 0, .int .u8 0, .int .u8 0, .int .u8 0, .int .u8 0, .int .u8 0, .int .u8 0, .int .u8 0, .int .u8 0, .int .u8 0, .int .u8 0, .int .u8 0, .int .u8 0, .int .u8 0, .int .u8 0, .int .u8 0, .int .u8 0, .int .u8 0, .int .i64 0]⟩, ⟨none, none, .st 33 (.t 8) (.t 60)⟩])
  (.seq (.quiet 5 [⟨some 61, none, .mov (.t 0)⟩, ⟨some 62, none, .ldA 33 (.t 8)⟩, ⟨some 63, none, .call 24 [(.t 61), (.t 62)]⟩, ⟨some 64, none, .mov (.t 1)⟩, ⟨some 65, none, .ldA 33 (.t 8)⟩, ⟨some 66, none, .call 30 [(.t 65)]⟩, ⟨some 67, none, .app 30 5 1 1 (.int .u8 0) (.t 64) (.t 66)⟩, ⟨some 6, none, .mov (.t 63)⟩, ⟨some 7, none, .mov (.t 67)⟩])
  .ret))))
theorem Try.known14 : Known Try.prog 14 Try.pc14 68 [6, 7] := ⟨Try.f14, _, Try.func14, rfl, by kernel_rfl, rfl, rfl⟩

/-- redwax/codec.Open -/
def Try.pc15 : PC :=
  (.seq (.ops [⟨some 2, none, .mov (.v (.pointer none))⟩])
  (.seq (.ops [⟨some 3, none, .mov (.t 0)⟩, ⟨some 4, none, .build [.slice none 0 0, .int .i64 0, .int .i64 0, .bool false] [(0, 1, (.t 3)), (3, 1, (.v (.bool true)))]⟩, ⟨some 5, none, .bx 49 (.t 4)⟩, ⟨some 2, none, .mov (.t 5)⟩])
  .ret))
theorem Try.known15 : Known Try.prog 15 Try.pc15 6 [2] := ⟨Try.f15, _, Try.func15, rfl, by kernel_rfl, rfl, rfl⟩

/-- (*redwax/codec.Reader).Num -/
def Try.pc16 : PC :=
  (.seq (.ops [⟨some 3, none, .bx 22 (.t 1)⟩, ⟨some 4, none, .al 22 [.int .u64 0]⟩])
  (.seq (.ops [⟨some 5, none, .mov (.t 0)⟩, ⟨some 6, none, .mkF 32 [(.t 3), (.t 4)]⟩, ⟨some 7, none, .call 31 [(.t 5), (.t 6)]⟩])
  (.seq (.ops [⟨some 8, none, .ld (.t 4)⟩, ⟨none, none, .st 1 (.t 4) (.t 8)⟩])
  .ret)))
theorem Try.known16 : KnownC Try.prog 16 Try.pc16 9 4 none := ⟨Try.f16, _, _, Try.func16, rfl, by kernel_rfl, rfl, rfl, by kernel_rfl⟩

/-- (*redwax/codec.Reader).Err -/
def Try.pc17 : PC :=
  (.seq (.ops [⟨some 2, none, .mov (.v (.int .i64 0))⟩])
  (.seq (.seq (.ops [⟨some 3, none, .mov (.t 0)⟩, ⟨some 4, none, .eqP false (.t 3) (.v (.pointer none))⟩, ⟨some 5, none, .mov (.t 4)⟩, ⟨some 6, (some (5, false)), .mov (.t 0)⟩, ⟨some 7, (some (5, false)), .nilc (.t 6)⟩, ⟨some 8, (some (5, false)), .fa 3 (.t 7)⟩, ⟨some 9, (some (5, false)), .ld (.t 8)⟩, ⟨some 10, (some (5, false)), .not (.t 9)⟩, ⟨some 11, none, .pick (.t 5) (.v (.bool true)) (.t 10)⟩])
  (.cond (.t 11) (.seq (.ops [⟨some 2, none, .mov (.v (.int .i64 1))⟩])
   .ret) .skip))
  (.seq (.ops [⟨some 12, none, .mov (.t 0)⟩, ⟨some 13, none, .nilc (.t 12)⟩, ⟨some 14, none, .fa 2 (.t 13)⟩, ⟨some 15, none, .ld (.t 14)⟩, ⟨some 2, none, .mov (.t 15)⟩])
  .ret)))
theorem Try.known17 : Known Try.prog 17 Try.pc17 16 [2] := ⟨Try.f17, _, Try.func17, rfl, by kernel_rfl, rfl, rfl⟩

/-- (*redwax/codec.Reader).Label -/
def Try.pc18 : PC :=
  (.seq (.ops [⟨some 2, none, .al 26 [.int .i64 0, .int .u64 0]⟩])
  (.seq (.ops [⟨some 6, none, .mov (.t 0)⟩, ⟨some 7, none, .call 34 [(.t 6), (.v (.int .u64 15))]⟩, ⟨some 8, none, .cvt .i64 (.t 7)⟩, ⟨some 9, none, .build [.int .i64 0, .int .u64 0] [(0, 1, (.t 8))]⟩, ⟨some 3, none, .al 26 [.int .i64 0, .int .u64 0]⟩, ⟨none, none, .st 2 (.t 3) (.t 9)⟩])
  (.seq (.seq (.ops [⟨some 10, none, .mov (.t 0)⟩, ⟨some 11, none, .call 35 [(.t 10), (.v (.int .i64 8))]⟩, ⟨some 12, none, .lenS (.t 11)⟩, ⟨some 13, none, .mov (.v (.int .i64 0))⟩])
  (.block 0 (.loop (.seq (.ops [⟨some 14, none, .bin .lss (.t 13) (.t 12)⟩])
    (.seq (.cond (.t 14) .skip (.exit 0))
    (.seq (.block 1 (.seq (.ops [⟨some 15, none, .ixS 1 (.t 11) (.t 13)⟩, ⟨some 16, none, .ld (.t 15)⟩, ⟨some 5, none, .mov (.t 16)⟩])
     (.ops [⟨some 17, none, .fa 1 (.t 3)⟩, ⟨some 18, none, .ld (.t 17)⟩, ⟨some 19, none, .bin .shl (.t 18) (.v (.int .u64 8))⟩, ⟨some 20, none, .mov (.t 5)⟩, ⟨some 21, none, .cvt .u64 (.t 20)⟩, ⟨some 22, none, .bin .or (.t 19) (.t 21)⟩, ⟨some 23, none, .fa 1 (.t 3)⟩, ⟨none, none, .st 1 (.t 23) (.t 22)⟩])))
    (.ops [⟨some 24, none, .bin .add (.t 13) (.v (.int .i64 1))⟩, ⟨some 13, none, .mov (.t 24)⟩])))))))
  (.seq (.seq (.ops [⟨some 25, none, .mov (.t 0)⟩, ⟨some 26, none, .call 36 [(.t 25)]⟩, ⟨some 27, none, .not (.t 26)⟩])
  (.cond (.t 27) (.seq (.ops [⟨some 28, none, .build [.int .i64 0, .int .u64 0] []⟩, ⟨none, none, .st 2 (.t 2) (.t 28)⟩])
   .ret) .skip))
  (.seq (.ops [⟨some 29, none, .ldA 2 (.t 3)⟩, ⟨none, none, .st 2 (.t 2) (.t 29)⟩])
  .ret)))))
theorem Try.known18 : KnownC Try.prog 18 Try.pc18 30 2 (some 2) := ⟨Try.f18, _, _, Try.func18, rfl, by kernel_rfl, rfl, rfl, by kernel_rfl⟩

/-- (*redwax/codec.Reader).Done -/
def Try.pc19 : PC :=
  (.seq (.ops [⟨some 2, none, .mov (.v (.int .i64 0))⟩])
  (.seq (.seq (.ops [⟨some 4, none, .mov (.t 0)⟩, ⟨some 5, none, .call 17 [(.t 4)]⟩, ⟨some 3, none, .mov (.t 5)⟩])
  (.seq (.ops [⟨some 6, none, .mov (.t 3)⟩, ⟨some 7, none, .bin .neq (.t 6) (.v (.int .i64 0))⟩])
  (.cond (.t 7) (.seq (.ops [⟨some 8, none, .mov (.t 3)⟩, ⟨some 2, none, .mov (.t 8)⟩])
   .ret) .skip)))
  (.seq (.seq (.quiet 9 [⟨some 9, none, .mov (.t 0)⟩, ⟨some 10, none, .nilc (.t 9)⟩, ⟨some 11, none, .fa 1 (.t 10)⟩, ⟨some 12, none, .ld (.t 11)⟩, ⟨some 13, none, .mov (.t 0)⟩, ⟨some 14, none, .nilc (.t 13)⟩, ⟨some 15, none, .fa 0 (.t 14)⟩, ⟨some 16, none, .ld (.t 15)⟩, ⟨some 17, none, .lenS (.t 16)⟩, ⟨some 18, none, .bin .lss (.t 12) (.t 17)⟩])
  (.cond (.t 18) (.seq (.ops [⟨some 2, none, .mov (.v (.int .i64 4))⟩])
   .ret) .skip))
  (.seq (.ops [⟨some 2, none, .mov (.v (.int .i64 0))⟩])
  .ret))))
theorem Try.known19 : Known Try.prog 19 Try.pc19 19 [2] := ⟨Try.f19, _, Try.func19, rfl, by kernel_rfl, rfl, rfl⟩

/-- (*redwax/codec.Reader).Text -/
def Try.pc20 : PC :=
  (.seq (.ops [⟨some 4, none, .mov (.v (.string ⟨#[]⟩))⟩])
  (.seq (.ops [⟨some 6, none, .mov (.t 0)⟩, ⟨some 7, none, .mov (.t 1)⟩, ⟨some 8, none, .mnx true [(.t 7), (.v (.int .i64 0))]⟩, ⟨some 9, none, .cvt .u64 (.t 8)⟩, ⟨some 10, none, .call 16 [(.t 6), (.t 9)]⟩, ⟨some 5, none, .mov (.t 10)⟩])
  (.seq (.ops [⟨some 11, none, .mov (.t 0)⟩, ⟨some 12, none, .mov (.t 5)⟩, ⟨some 13, none, .cvt .i64 (.t 12)⟩, ⟨some 14, none, .call 35 [(.t 11), (.t 13)]⟩, ⟨some 15, none, .strOf (.t 14)⟩, ⟨some 4, none, .mov (.t 15)⟩])
  .ret)))
theorem Try.known20 : Known Try.prog 20 Try.pc20 16 [4] := ⟨Try.f20, _, Try.func20, rfl, by kernel_rfl, rfl, rfl⟩

/-- (*redwax/codec.Reader).Hash -/
def Try.pc21 : PC :=
  (.seq (.ops [⟨some 2, none, .al 24 [.int .u8 0, .int .u8 0, .int .u8 0, .int .u8 0, .int .u8 0, .int .u8 0, .int .u8 0, .int .u8 0, .int .u8 0, .int .u8 0, .int .u8 0, .int .u8 0, .int .u8 0, .int .u8 0, .int .u8 0, .int .u8 0, .int .u8 0, .int .u8 0, .int .u8 0, .int .u8 0, .int .u8 0, .int .u8 0, .int .u8 0, .int .u8 0, .int .u8 0, .int .u8 0, .int .u8 0, .int .u8 0, .int .u8 0, .int .u8 0, .int .u8 0, .int .u8 0]⟩])
  (.seq (.quiet 3 [⟨some 3, none, .slA 32 (.t 2)⟩, ⟨some 4, none, .mov (.t 0)⟩, ⟨some 5, none, .call 35 [(.t 4), (.v (.int .i64 32))]⟩, ⟨some 6, none, .cpy 5 1 (.t 3) (.t 5)⟩])
  (.seq (.ops [⟨some 7, none, .ldA 32 (.t 2)⟩, ⟨none, none, .st 32 (.t 2) (.t 7)⟩])
  .ret)))
theorem Try.known21 : KnownC Try.prog 21 Try.pc21 8 2 (some 32) := ⟨Try.f21, _, _, Try.func21, rfl, by kernel_rfl, rfl, rfl, by kernel_rfl⟩

/-- redwax/redwaxlaw04.again -/
def Try.pc22 : PC :=
  (.seq (.ops [⟨some 3, none, .bx 28 (.t 1)⟩, ⟨some 4, none, .mov (.v (.bool false))⟩])
  (.seq (.seq (.ops [⟨some 5, none, .fa 0 (.t 3)⟩, ⟨some 6, none, .ld (.t 5)⟩, ⟨some 7, none, .bin .rem (.t 6) (.v (.int .u8 5))⟩])
  (.block 0 (.seq (.ops [⟨some 9, none, .bin .eql (.t 7) (.v (.int .u8 0))⟩, ⟨some 8, none, .mov (.t 9)⟩])
   (.cond (.t 8) (.seq (.quiet 6 [⟨some 10, none, .mov (.t 0)⟩, ⟨some 11, none, .fa 1 (.t 3)⟩, ⟨some 12, none, .ld (.t 11)⟩, ⟨some 13, none, .call 16 [(.t 10), (.t 12)]⟩, ⟨some 14, none, .fa 1 (.t 3)⟩, ⟨some 15, none, .ld (.t 14)⟩, ⟨some 16, none, .bin .eql (.t 13) (.t 15)⟩, ⟨some 4, none, .mov (.t 16)⟩])
    .ret) (.seq (.ops [⟨some 18, none, .bin .eql (.t 7) (.v (.int .u8 1))⟩, ⟨some 17, none, .mov (.t 18)⟩])
    (.cond (.t 17) (.seq (.quiet 7 [⟨some 19, none, .mov (.t 0)⟩, ⟨some 20, none, .fa 2 (.t 3)⟩, ⟨some 21, none, .ld (.t 20)⟩, ⟨some 22, none, .lenStr (.t 21)⟩, ⟨some 23, none, .call 20 [(.t 19), (.t 22)]⟩, ⟨some 24, none, .fa 2 (.t 3)⟩, ⟨some 25, none, .ld (.t 24)⟩, ⟨some 26, none, .bin .eql (.t 23) (.t 25)⟩, ⟨some 4, none, .mov (.t 26)⟩])
     .ret) (.seq (.ops [⟨some 28, none, .bin .eql (.t 7) (.v (.int .u8 2))⟩, ⟨some 27, none, .mov (.t 28)⟩])
     (.cond (.t 27) (.seq (.quiet 4 [⟨some 29, none, .mov (.t 0)⟩, ⟨some 30, none, .call 21 [(.t 29)]⟩, ⟨some 31, none, .fa 3 (.t 3)⟩, ⟨some 32, none, .ldA 32 (.t 31)⟩, ⟨some 33, none, .more (.eqD false 24 [.int .u8, .int .u8, .int .u8, .int .u8, .int .u8, .int .u8, .int .u8, .int .u8, .int .u8, .int .u8, .int .u8, .int .u8, .int .u8, .int .u8, .int .u8, .int .u8, .int .u8, .int .u8, .int .u8, .int .u8, .int .u8, .int .u8, .int .u8, .int .u8, .int .u8, .int .u8, .int .u8, .int .u8, .int .u8, .int .u8, .int .u8, .int .u8] (.t 30) (.t 32))⟩, ⟨some 4, none, .mov (.t 33)⟩])
      .ret) (.seq (.ops [⟨some 35, none, .bin .eql (.t 7) (.v (.int .u8 3))⟩, ⟨some 34, none, .mov (.t 35)⟩])
      (.cond (.t 34) (.seq (.quiet 4 [⟨some 36, none, .mov (.t 0)⟩, ⟨some 37, none, .call 18 [(.t 36)]⟩, ⟨some 38, none, .fa 35 (.t 3)⟩, ⟨some 39, none, .ldA 2 (.t 38)⟩, ⟨some 40, none, .eqA false 26 [.int .i64, .int .u64] (.t 37) (.t 39)⟩, ⟨some 4, none, .mov (.t 40)⟩])
       .ret) .skip))))))))))
  (.seq (.quiet 7 [⟨some 41, none, .mov (.t 0)⟩, ⟨some 42, none, .call 25 [(.t 41)]⟩, ⟨some 43, none, .fa 3 (.t 3)⟩, ⟨some 44, none, .ldA 32 (.t 43)⟩, ⟨some 45, none, .fa 37 (.t 3)⟩, ⟨some 46, none, .ld (.t 45)⟩, ⟨some 47, none, .build [.int .u8 0, .int .u8 0, .int .u8 0, .int .u8 0, .int .u8 0, .int .u8 0, .int .u8 0, .int .u8 0, .int .u8 0, .int .u8 0, .int .u8 0, .int .u8 0, .int .u8 0, .int .u8 0, .int .u8 0, .int .u8 0, .int .u8 0, .int .u8 0, .int .u8 0, .int .u8 0, .int .u8 0, .int .u8 0, .int .u8 0, .int .u8 0, .int .u8 0, .int .u8 0, .int .u8 0, .int .u8 0, .int .u8 0, .int .u8 0, .int .u8 0, .int .u8 0, .int .i64 0] [(0, 32, (.t 44)), (32, 1, (.t 46))]⟩, ⟨some 48, none, .more (.eqD false 57 [.int .u8, .int .u8, .int .u8, .int .u8, .int .u8, .int .u8, .int .u8, .int .u8, .int .u8, .int .u8, .int .u8, .int .u8, .int .u8, .int .u8, .int .u8, .int .u8, .int .u8, .int .u8, .int .u8, .int .u8, .int .u8, .int .u8, .int .u8, .int .u8, .int .u8, .int .u8, .int .u8, .int .u8, .int .u8, .int .u8, .int .u8, .int .u8, .int .i64] (.t 42) (.t 47))⟩, ⟨some 4, none, .mov (.t 48)⟩])
  .ret)))
theorem Try.known22 : Known Try.prog 22 Try.pc22 49 [4] := ⟨Try.f22, _, Try.func22, rfl, by kernel_rfl, rfl, rfl⟩

/-- redwax/codec.Hash -/
def Try.pc23 : PC :=
  (.seq (.ops [⟨some 3, none, .bx 24 (.t 1)⟩, ⟨some 4, none, .mov (.v (.slice none 0 0))⟩])
  (.seq (.ops [⟨some 5, none, .mov (.t 0)⟩, ⟨some 6, none, .slA 32 (.t 3)⟩, ⟨some 7, none, .app 30 5 1 1 (.int .u8 0) (.t 5) (.t 6)⟩, ⟨some 4, none, .mov (.t 7)⟩])
  .ret))
theorem Try.known23 : Known Try.prog 23 Try.pc23 8 [4] := ⟨Try.f23, _, Try.func23, rfl, by kernel_rfl, rfl, rfl⟩

/-- redwax/codec.Vertex -/
def Try.pc24 : PC :=
  (.seq (.ops [⟨some 3, none, .bx 57 (.t 1)⟩, ⟨some 4, none, .mov (.v (.slice none 0 0))⟩])
  (.seq (.quiet 8 [⟨some 5, none, .mov (.t 0)⟩, ⟨some 6, none, .fa 0 (.t 3)⟩, ⟨some 7, none, .ldA 32 (.t 6)⟩, ⟨some 8, none, .call 23 [(.t 5), (.t 7)]⟩, ⟨some 9, none, .fa 32 (.t 3)⟩, ⟨some 10, none, .ld (.t 9)⟩, ⟨some 11, none, .cvt .u64 (.t 10)⟩, ⟨some 12, none, .bin .add (.t 11) (.v (.int .u64 2))⟩, ⟨some 13, none, .call 9 [(.t 8), (.t 12)]⟩, ⟨some 4, none, .mov (.t 13)⟩])
  .ret))
theorem Try.known24 : Known Try.prog 24 Try.pc24 14 [4] := ⟨Try.f24, _, Try.func24, rfl, by kernel_rfl, rfl, rfl⟩

/-- (*redwax/codec.Reader).Vertex -/
def Try.pc25 : PC :=
  (.seq (.ops [⟨some 2, none, .al 57 [.int .u8 0, .int .u8 0, .int .u8 0, .int .u8 0, .int .u8 0, .int .u8 0, .int .u8 0, .int .u8 0, .int .u8 0, .int .u8 0, .int .u8 0, .int .u8 0, .int .u8 0, .int .u8 0, .int .u8 0, .int .u8 0, .int .u8 0, .int .u8 0, .int .u8 0, .int .u8 0, .int .u8 0, .int .u8 0, .int .u8 0, .int .u8 0, .int .u8 0, .int .u8 0, .int .u8 0, .int .u8 0, .int .u8 0, .int .u8 0, .int .u8 0, .int .u8 0, .int .i64 0]⟩])
  (.seq (.ops [⟨some 4, none, .mov (.t 0)⟩, ⟨some 5, none, .call 21 [(.t 4)]⟩, ⟨some 6, none, .build [.int .u8 0, .int .u8 0, .int .u8 0, .int .u8 0, .int .u8 0, .int .u8 0, .int .u8 0, .int .u8 0, .int .u8 0, .int .u8 0, .int .u8 0, .int .u8 0, .int .u8 0, .int .u8 0, .int .u8 0, .int .u8 0, .int .u8 0, .int .u8 0, .int .u8 0, .int .u8 0, .int .u8 0, .int .u8 0, .int .u8 0, .int .u8 0, .int .u8 0, .int .u8 0, .int .u8 0, .int .u8 0, .int .u8 0, .int .u8 0, .int .u8 0, .int .u8 0, .int .i64 0] [(0, 32, (.t 5))]⟩, ⟨some 3, none, .al 57 [.int .u8 0, .int .u8 0, .int .u8 0, .int .u8 0, .int .u8 0, .int .u8 0, .int .u8 0, .int .u8 0, .int .u8 0, .int .u8 0, .int .u8 0, .int .u8 0, .int .u8 0, .int .u8 0, .int .u8 0, .int .u8 0, .int .u8 0, .int .u8 0, .int .u8 0, .int .u8 0, .int .u8 0, .int .u8 0, .int .u8 0, .int .u8 0, .int .u8 0, .int .u8 0, .int .u8 0, .int .u8 0, .int .u8 0, .int .u8 0, .int .u8 0, .int .u8 0, .int .i64 0]⟩, ⟨none, none, .st 33 (.t 3) (.t 6)⟩])
  (.seq (.ops [⟨some 7, none, .mov (.t 0)⟩, ⟨some 8, none, .call 34 [(.t 7), (.v (.int .u64 4294967296))]⟩, ⟨some 9, none, .cvt .i64 (.t 8)⟩, ⟨some 10, none, .bin .sub (.t 9) (.v (.int .i64 2))⟩, ⟨some 11, none, .fa 32 (.t 3)⟩, ⟨none, none, .st 1 (.t 11) (.t 10)⟩])
  (.seq (.seq (.ops [⟨some 12, none, .mov (.t 0)⟩, ⟨some 13, none, .call 36 [(.t 12)]⟩, ⟨some 14, none, .not (.t 13)⟩])
  (.cond (.t 14) (.seq (.ops [⟨some 15, none, .build [.int .u8 0, .int .u8 0, .int .u8 0, .int .u8 0, .int .u8 0, .int .u8 0, .int .u8 0, .int .u8 0, .int .u8 0, .int .u8 0, .int .u8 0, .int .u8 0, .int .u8 0, .int .u8 0, .int .u8 0, .int .u8 0, .int .u8 0, .int .u8 0, .int .u8 0, .int .u8 0, .int .u8 0, .int .u8 0, .int .u8 0, .int .u8 0, .int .u8 0, .int .u8 0, .int .u8 0, .int .u8 0, .int .u8 0, .int .u8 0, .int .u8 0, .int .u8 0, .int .i64 0] []⟩, ⟨none, none, .st 33 (.t 2) (.t 15)⟩])
   .ret) .skip))
  (.seq (.ops [⟨some 16, none, .ldA 33 (.t 3)⟩, ⟨none, none, .st 33 (.t 2) (.t 16)⟩])
  .ret)))))
theorem Try.known25 : KnownC Try.prog 25 Try.pc25 17 2 (some 33) := ⟨Try.f25, _, _, Try.func25, rfl, by kernel_rfl, rfl, rfl, by kernel_rfl⟩

/-- redwax/redwaxref04.Num -/
def Try.pc26 : PC :=
  (.seq (.ops [⟨some 2, none, .mov (.v (.slice none 0 0))⟩])
  (.seq (.seq (.ops [⟨some 4, none, .mov (.t 0)⟩, ⟨some 5, none, .bin .lss (.t 4) (.v (.int .u64 128))⟩])
  (.cond (.t 5) (.seq (.ops [⟨some 6, none, .mov (.t 0)⟩, ⟨some 7, none, .cvt .u8 (.t 6)⟩, ⟨some 8, none, .bsl 5 [.int .u8 0] 1 [(0, 1, (.t 7))]⟩, ⟨some 2, none, .mov (.t 8)⟩])
   .ret) .skip))
  (.seq (.ops [⟨some 3, none, .mov (.v (.slice none 0 0))⟩])
  (.seq (.ops [⟨some 9, none, .mov (.t 3)⟩, ⟨some 10, none, .mov (.t 0)⟩, ⟨some 11, none, .bin .rem (.t 10) (.v (.int .u64 128))⟩, ⟨some 12, none, .bin .add (.v (.int .u64 128)) (.t 11)⟩, ⟨some 13, none, .cvt .u8 (.t 12)⟩, ⟨some 14, none, .bsl 5 [.int .u8 0] 1 [(0, 1, (.t 13))]⟩, ⟨some 15, none, .app 30 5 1 1 (.int .u8 0) (.t 9) (.t 14)⟩, ⟨some 3, none, .mov (.t 15)⟩])
  (.seq (.ops [⟨some 16, none, .mov (.t 3)⟩, ⟨some 17, none, .mov (.t 0)⟩, ⟨some 18, none, .bin .quo (.t 17) (.v (.int .u64 128))⟩, ⟨some 19, none, .call 26 [(.t 18)]⟩, ⟨some 20, none, .app 30 5 1 1 (.int .u8 0) (.t 16) (.t 19)⟩, ⟨some 2, none, .mov (.t 20)⟩])
  .ret)))))
theorem Try.known26 : Known Try.prog 26 Try.pc26 21 [2] := ⟨Try.f26, _, Try.func26, rfl, by kernel_rfl, rfl, rfl⟩

/-- redwax/redwaxref04.Text -/
def Try.pc27 : PC :=
  (.seq (.ops [⟨some 2, none, .mov (.v (.slice none 0 0))⟩])
  (.seq (.ops [⟨some 3, none, .mov (.t 0)⟩, ⟨some 4, none, .lenStr (.t 3)⟩, ⟨some 5, none, .cvt .u64 (.t 4)⟩, ⟨some 6, none, .call 26 [(.t 5)]⟩, ⟨some 7, none, .mov (.t 0)⟩, ⟨some 8, none, .appStr 30 9 5 1 (.int .u8 0) (.t 6) (.t 7)⟩, ⟨some 2, none, .mov (.t 8)⟩])
  .ret))
theorem Try.known27 : Known Try.prog 27 Try.pc27 9 [2] := ⟨Try.f27, _, Try.func27, rfl, by kernel_rfl, rfl, rfl⟩

/-- redwax/redwaxref04.Hash -/
def Try.pc28 : PC :=
  (.seq (.ops [⟨some 1, none, .bx 24 (.t 0)⟩, ⟨some 2, none, .mov (.v (.slice none 0 0))⟩])
  (.seq (.ops [⟨some 3, none, .mov (.v (.slice none 0 0))⟩])
  (.seq (.seq (.ops [⟨some 4, none, .mov (.v (.int .i64 0))⟩])
  (.block 0 (.loop (.seq (.seq (.ops [⟨some 5, none, .mov (.t 4)⟩, ⟨some 6, none, .bin .lss (.t 5) (.v (.int .i64 32))⟩])
    (.cond (.t 6) .skip (.exit 0)))
    (.seq (.block 1 (.ops [⟨some 9, none, .mov (.t 3)⟩, ⟨some 10, none, .mov (.t 4)⟩, ⟨some 11, none, .ixA 32 1 (.t 1) (.t 10)⟩, ⟨some 12, none, .ld (.t 11)⟩, ⟨some 13, none, .bsl 5 [.int .u8 0] 1 [(0, 1, (.t 12))]⟩, ⟨some 14, none, .app 30 5 1 1 (.int .u8 0) (.t 9) (.t 13)⟩, ⟨some 3, none, .mov (.t 14)⟩]))
    (.ops [⟨some 7, none, .mov (.t 4)⟩, ⟨some 8, none, .bin .add (.t 7) (.v (.int .i64 1))⟩, ⟨some 4, none, .mov (.t 8)⟩]))))))
  (.seq (.ops [⟨some 15, none, .mov (.t 3)⟩, ⟨some 2, none, .mov (.t 15)⟩])
  .ret))))
theorem Try.known28 : Known Try.prog 28 Try.pc28 16 [2] := ⟨Try.f28, _, Try.func28, rfl, by kernel_rfl, rfl, rfl⟩

/-- redwax/redwaxref04.Label -/
def Try.pc29 : PC :=
  (.seq (.ops [⟨some 1, none, .bx 26 (.t 0)⟩, ⟨some 2, none, .mov (.v (.slice none 0 0))⟩])
  (.seq (.ops [⟨some 3, none, .mov (.v (.slice none 0 0))⟩])
  (.seq (.ops [⟨some 7, none, .fa 1 (.t 1)⟩, ⟨some 8, none, .ld (.t 7)⟩, ⟨some 4, none, .mov (.t 8)⟩])
  (.seq (.seq (.ops [⟨some 5, none, .mov (.v (.int .i64 0))⟩])
  (.block 0 (.loop (.seq (.seq (.ops [⟨some 9, none, .mov (.t 5)⟩, ⟨some 10, none, .bin .lss (.t 9) (.v (.int .i64 8))⟩])
    (.cond (.t 10) .skip (.exit 0)))
    (.seq (.block 1 (.seq (.ops [⟨some 6, none, .mov (.v (.slice none 0 0))⟩])
     (.seq (.ops [⟨some 13, none, .mov (.t 6)⟩, ⟨some 14, none, .mov (.t 4)⟩, ⟨some 15, none, .bin .rem (.t 14) (.v (.int .u64 256))⟩, ⟨some 16, none, .cvt .u8 (.t 15)⟩, ⟨some 17, none, .bsl 5 [.int .u8 0] 1 [(0, 1, (.t 16))]⟩, ⟨some 18, none, .app 30 5 1 1 (.int .u8 0) (.t 13) (.t 17)⟩, ⟨some 6, none, .mov (.t 18)⟩])
     (.seq (.ops [⟨some 19, none, .mov (.t 6)⟩, ⟨some 20, none, .mov (.t 3)⟩, ⟨some 21, none, .app 30 5 1 1 (.int .u8 0) (.t 19) (.t 20)⟩, ⟨some 3, none, .mov (.t 21)⟩])
     (.ops [⟨some 22, none, .mov (.t 4)⟩, ⟨some 23, none, .bin .quo (.t 22) (.v (.int .u64 256))⟩, ⟨some 4, none, .mov (.t 23)⟩])))))
    (.ops [⟨some 11, none, .mov (.t 5)⟩, ⟨some 12, none, .bin .add (.t 11) (.v (.int .i64 1))⟩, ⟨some 5, none, .mov (.t 12)⟩]))))))
  (.seq (.ops [⟨some 24, none, .fa 0 (.t 1)⟩, ⟨some 25, none, .ld (.t 24)⟩, ⟨some 26, none, .cvt .u64 (.t 25)⟩, ⟨some 27, none, .call 26 [(.t 26)]⟩, ⟨some 28, none, .mov (.t 3)⟩, ⟨some 29, none, .app 30 5 1 1 (.int .u8 0) (.t 27) (.t 28)⟩, ⟨some 2, none, .mov (.t 29)⟩])
  .ret)))))
theorem Try.known29 : Known Try.prog 29 Try.pc29 30 [2] := ⟨Try.f29, _, Try.func29, rfl, by kernel_rfl, rfl, rfl⟩

/-- redwax/redwaxref04.Vertex -/
def Try.pc30 : PC :=
  (.seq (.ops [⟨some 1, none, .bx 57 (.t 0)⟩, ⟨some 2, none, .mov (.v (.slice none 0 0))⟩])
  (.seq (.quiet 7 [⟨some 3, none, .fa 0 (.t 1)⟩, ⟨some 4, none, .ldA 32 (.t 3)⟩, ⟨some 5, none, .call 28 [(.t 4)]⟩, ⟨some 6, none, .fa 32 (.t 1)⟩, ⟨some 7, none, .ld (.t 6)⟩, ⟨some 8, none, .cvt .u64 (.t 7)⟩, ⟨some 9, none, .bin .add (.t 8) (.v (.int .u64 2))⟩, ⟨some 10, none, .call 26 [(.t 9)]⟩, ⟨some 11, none, .app 30 5 1 1 (.int .u8 0) (.t 5) (.t 10)⟩, ⟨some 2, none, .mov (.t 11)⟩])
  .ret))
theorem Try.known30 : Known Try.prog 30 Try.pc30 12 [2] := ⟨Try.f30, _, Try.func30, rfl, by kernel_rfl, rfl, rfl⟩

/-- (*redwax/codec.Reader).one -/
def Try.pc31 : PC :=
  (.seq (.seq (.ops [⟨some 6, none, .mov (.t 0)⟩, ⟨some 7, none, .call 36 [(.t 6)]⟩, ⟨some 8, none, .not (.t 7)⟩])
  (.cond (.t 8) .ret .skip))
  (.seq (.quiet2 10 15 [⟨some 10, none, .mov (.t 1)⟩, ⟨some 11, none, .mov (.t 0)⟩, ⟨some 12, none, .nilc (.t 11)⟩, ⟨some 13, none, .fa 0 (.t 12)⟩, ⟨some 14, none, .ld (.t 13)⟩, ⟨some 15, none, .mov (.t 0)⟩, ⟨some 16, none, .nilc (.t 15)⟩, ⟨some 17, none, .fa 1 (.t 16)⟩, ⟨some 18, none, .ld (.t 17)⟩, ⟨some 19, none, .slS 1 (.t 14) (some (.t 18)) none⟩, ⟨some 20, none, .callv (.t 10) [(.t 19)]⟩, ⟨some 9, none, .mov (.t 20)⟩, ⟨some 21, none, .ext 0 (.t 9)⟩, ⟨some 22, none, .ext 1 (.t 9)⟩, ⟨some 4, none, .mov (.t 21)⟩, ⟨some 5, none, .mov (.t 22)⟩])
  (.seq (.seq (.ops [⟨some 23, none, .mov (.t 5)⟩, ⟨some 24, none, .bin .neq (.t 23) (.v (.int .i64 0))⟩])
  (.cond (.t 24) (.seq (.ops [⟨some 25, none, .mov (.t 0)⟩, ⟨some 26, none, .mov (.t 5)⟩, ⟨some 27, none, .nilc (.t 25)⟩, ⟨some 28, none, .fa 2 (.t 27)⟩, ⟨none, none, .st 1 (.t 28) (.t 26)⟩])
   .ret) .skip))
  (.ops [⟨some 29, none, .mov (.t 0)⟩, ⟨some 30, none, .nilc (.t 29)⟩, ⟨some 31, none, .fa 1 (.t 30)⟩, ⟨some 32, none, .ld (.t 31)⟩, ⟨some 33, none, .mov (.t 4)⟩, ⟨some 34, none, .bin .add (.t 32) (.t 33)⟩, ⟨some 35, none, .nilc (.t 29)⟩, ⟨some 36, none, .fa 1 (.t 35)⟩, ⟨none, none, .st 1 (.t 36) (.t 34)⟩]))))
theorem Try.known31 : Known Try.prog 31 Try.pc31 37 [] := ⟨Try.f31, _, Try.func31, rfl, by kernel_rfl, rfl, rfl⟩

/-- (*redwax/codec.Reader).Num$1 -/
def Try.pc32 : PC :=
  (.seq (.ops [⟨some 4, none, .mov (.v (.int .i64 0))⟩, ⟨some 5, none, .mov (.v (.int .i64 0))⟩])
  (.seq (.ops [⟨some 10, none, .mov (.t 0)⟩, ⟨some 11, none, .call 33 [(.t 10)]⟩, ⟨some 9, none, .mov (.t 11)⟩, ⟨some 12, none, .ext 0 (.t 9)⟩, ⟨some 13, none, .ext 1 (.t 9)⟩, ⟨some 14, none, .ext 2 (.t 9)⟩, ⟨some 6, none, .mov (.t 12)⟩, ⟨some 7, none, .mov (.t 13)⟩, ⟨some 8, none, .mov (.t 14)⟩])
  (.seq (.seq (.ops [⟨some 15, none, .mov (.t 8)⟩, ⟨some 16, none, .bin .eql (.t 15) (.v (.int .i64 0))⟩, ⟨some 17, none, .mov (.t 16)⟩, ⟨some 18, (some (17, true)), .mov (.t 6)⟩, ⟨some 19, (some (17, true)), .ld (.t 1)⟩, ⟨some 20, (some (17, true)), .bin .gtr (.t 18) (.t 19)⟩, ⟨some 21, none, .pick (.t 17) (.t 20) (.v (.bool false))⟩])
  (.cond (.t 21) (.ops [⟨some 8, none, .mov (.v (.int .i64 3))⟩]) .skip))
  (.seq (.seq (.ops [⟨some 22, none, .mov (.t 8)⟩, ⟨some 23, none, .bin .eql (.t 22) (.v (.int .i64 0))⟩])
  (.cond (.t 23) (.ops [⟨some 24, none, .mov (.t 6)⟩, ⟨none, none, .st 1 (.t 2) (.t 24)⟩]) .skip))
  (.seq (.ops [⟨some 25, none, .mov (.t 7)⟩, ⟨some 26, none, .mov (.t 8)⟩, ⟨some 4, none, .mov (.t 25)⟩, ⟨some 5, none, .mov (.t 26)⟩])
  .ret)))))
theorem Try.known32 : Known Try.prog 32 Try.pc32 27 [4, 5] := ⟨Try.f32, _, Try.func32, rfl, by kernel_rfl, rfl, rfl⟩

/-- redwax/codec.number -/
def Try.pc33 : PC :=
  (.seq (.ops [⟨some 2, none, .mov (.v (.int .u64 0))⟩, ⟨some 3, none, .mov (.v (.int .i64 0))⟩, ⟨some 4, none, .mov (.v (.int .i64 0))⟩])
  (.seq (.seq (.ops [⟨some 5, none, .mov (.v (.int .i64 0))⟩])
  (.block 0 (.loop (.seq (.seq (.ops [⟨some 7, none, .mov (.t 5)⟩, ⟨some 8, none, .mov (.t 0)⟩, ⟨some 9, none, .lenS (.t 8)⟩, ⟨some 10, none, .bin .lss (.t 7) (.t 9)⟩, ⟨some 11, none, .mov (.t 10)⟩, ⟨some 12, (some (11, true)), .mov (.t 5)⟩, ⟨some 13, (some (11, true)), .bin .lss (.t 12) (.v (.int .i64 10))⟩, ⟨some 14, none, .pick (.t 11) (.t 13) (.v (.bool false))⟩])
    (.cond (.t 14) .skip (.exit 0)))
    (.seq (.block 1 (.seq (.ops [⟨some 17, none, .mov (.t 0)⟩, ⟨some 18, none, .mov (.t 5)⟩, ⟨some 19, none, .ixS 1 (.t 17) (.t 18)⟩, ⟨some 20, none, .ld (.t 19)⟩, ⟨some 21, none, .bin .andNot (.t 20) (.v (.int .u8 128))⟩, ⟨some 22, none, .cvt .u64 (.t 21)⟩, ⟨some 6, none, .mov (.t 22)⟩])
     (.seq (.seq (.ops [⟨some 23, none, .mov (.t 5)⟩, ⟨some 24, none, .bin .eql (.t 23) (.v (.int .i64 9))⟩, ⟨some 25, none, .mov (.t 24)⟩, ⟨some 26, (some (25, true)), .mov (.t 0)⟩, ⟨some 27, (some (25, true)), .mov (.t 5)⟩, ⟨some 28, (some (25, true)), .ixS 1 (.t 26) (.t 27)⟩, ⟨some 29, (some (25, true)), .ld (.t 28)⟩, ⟨some 30, (some (25, true)), .bin .gtr (.t 29) (.v (.int .u8 1))⟩, ⟨some 31, none, .pick (.t 25) (.t 30) (.v (.bool false))⟩])
     (.cond (.t 31) (.exit 0) .skip))
     (.seq (.ops [⟨some 32, none, .mov (.t 2)⟩, ⟨some 33, none, .mov (.t 6)⟩, ⟨some 34, none, .mov (.t 5)⟩, ⟨some 35, none, .bin .mul (.v (.int .i64 7)) (.t 34)⟩, ⟨some 36, none, .bin .shl (.t 33) (.t 35)⟩, ⟨some 37, none, .bin .or (.t 32) (.t 36)⟩, ⟨some 2, none, .mov (.t 37)⟩])
     (.seq (.ops [⟨some 38, none, .mov (.t 0)⟩, ⟨some 39, none, .mov (.t 5)⟩, ⟨some 40, none, .ixS 1 (.t 38) (.t 39)⟩, ⟨some 41, none, .ld (.t 40)⟩, ⟨some 42, none, .bin .lss (.t 41) (.v (.int .u8 128))⟩])
     (.cond (.t 42) (.seq (.seq (.ops [⟨some 43, none, .mov (.t 6)⟩, ⟨some 44, none, .bin .eql (.t 43) (.v (.int .u64 0))⟩, ⟨some 45, none, .mov (.t 44)⟩, ⟨some 46, (some (45, true)), .mov (.t 5)⟩, ⟨some 47, (some (45, true)), .bin .gtr (.t 46) (.v (.int .i64 0))⟩, ⟨some 48, none, .pick (.t 45) (.t 47) (.v (.bool false))⟩])
      (.cond (.t 48) (.exit 0) .skip))
      (.seq (.ops [⟨some 49, none, .mov (.t 2)⟩, ⟨some 50, none, .mov (.t 5)⟩, ⟨some 51, none, .bin .add (.t 50) (.v (.int .i64 1))⟩, ⟨some 2, none, .mov (.t 49)⟩, ⟨some 3, none, .mov (.t 51)⟩, ⟨some 4, none, .mov (.v (.int .i64 0))⟩])
      .ret)) .skip))))))
    (.ops [⟨some 15, none, .mov (.t 5)⟩, ⟨some 16, none, .bin .add (.t 15) (.v (.int .i64 1))⟩, ⟨some 5, none, .mov (.t 16)⟩]))))))
  (.seq (.ops [⟨some 2, none, .mov (.v (.int .u64 0))⟩, ⟨some 3, none, .mov (.v (.int .i64 0))⟩, ⟨some 4, none, .mov (.v (.int .i64 4))⟩])
  .ret)))
theorem Try.known33 : Known Try.prog 33 Try.pc33 52 [2, 3, 4] := ⟨Try.f33, _, Try.func33, rfl, by kernel_rfl, rfl, rfl⟩

/-- (*redwax/codec.Reader).form -/
def Try.pc34 : PC :=
  (.seq (.ops [⟨some 4, none, .mov (.v (.int .u64 0))⟩])
  (.seq (.ops [⟨some 7, none, .mov (.t 0)⟩, ⟨some 8, none, .call 36 [(.t 7)]⟩, ⟨some 5, none, .mov (.t 8)⟩])
  (.seq (.ops [⟨some 9, none, .mov (.t 0)⟩, ⟨some 10, none, .mov (.t 1)⟩, ⟨some 11, none, .call 16 [(.t 9), (.t 10)]⟩, ⟨some 6, none, .mov (.t 11)⟩])
  (.seq (.seq (.ops [⟨some 12, none, .mov (.t 5)⟩, ⟨some 13, none, .mov (.t 12)⟩, ⟨some 14, (some (13, true)), .mov (.t 0)⟩, ⟨some 15, (some (13, true)), .nilc (.t 14)⟩, ⟨some 16, (some (13, true)), .fa 2 (.t 15)⟩, ⟨some 17, (some (13, true)), .ld (.t 16)⟩, ⟨some 18, (some (13, true)), .bin .eql (.t 17) (.v (.int .i64 3))⟩, ⟨some 19, none, .pick (.t 13) (.t 18) (.v (.bool false))⟩])
  (.cond (.t 19) (.ops [⟨some 20, none, .mov (.t 0)⟩, ⟨some 21, none, .nilc (.t 20)⟩, ⟨some 22, none, .fa 2 (.t 21)⟩, ⟨none, none, .st 1 (.t 22) (.v (.int .i64 4))⟩]) .skip))
  (.seq (.ops [⟨some 23, none, .mov (.t 6)⟩, ⟨some 4, none, .mov (.t 23)⟩])
  .ret)))))
theorem Try.known34 : Known Try.prog 34 Try.pc34 24 [4] := ⟨Try.f34, _, Try.func34, rfl, by kernel_rfl, rfl, rfl⟩

/-- (*redwax/codec.Reader).take -/
def Try.pc35 : PC :=
  (.seq (.ops [⟨some 3, none, .bx 3 (.t 1)⟩, ⟨some 4, none, .al 30 [.slice none 0 0]⟩])
  (.seq (.ops [⟨some 5, none, .mov (.t 0)⟩, ⟨some 6, none, .mkF 37 [(.t 3), (.t 4)]⟩, ⟨some 7, none, .call 31 [(.t 5), (.t 6)]⟩])
  (.seq (.ops [⟨some 8, none, .ld (.t 4)⟩, ⟨none, none, .st 1 (.t 4) (.t 8)⟩])
  .ret)))
theorem Try.known35 : KnownC Try.prog 35 Try.pc35 9 4 none := ⟨Try.f35, _, _, Try.func35, rfl, by kernel_rfl, rfl, rfl, by kernel_rfl⟩

/-- (*redwax/codec.Reader).is -/
def Try.pc36 : PC :=
  (.seq (.ops [⟨some 2, none, .mov (.v (.bool false))⟩])
  (.seq (.ops [⟨some 3, none, .mov (.t 0)⟩, ⟨some 4, none, .eqP true (.t 3) (.v (.pointer none))⟩, ⟨some 5, none, .mov (.t 4)⟩, ⟨some 6, (some (5, true)), .mov (.t 0)⟩, ⟨some 7, (some (5, true)), .nilc (.t 6)⟩, ⟨some 8, (some (5, true)), .fa 3 (.t 7)⟩, ⟨some 9, (some (5, true)), .ld (.t 8)⟩, ⟨some 10, none, .pick (.t 5) (.t 9) (.v (.bool false))⟩, ⟨some 11, none, .mov (.t 10)⟩, ⟨some 12, (some (11, true)), .mov (.t 0)⟩, ⟨some 13, (some (11, true)), .nilc (.t 12)⟩, ⟨some 14, (some (11, true)), .fa 2 (.t 13)⟩, ⟨some 15, (some (11, true)), .ld (.t 14)⟩, ⟨some 16, (some (11, true)), .bin .eql (.t 15) (.v (.int .i64 0))⟩, ⟨some 17, none, .pick (.t 11) (.t 16) (.v (.bool false))⟩, ⟨some 2, none, .mov (.t 17)⟩])
  .ret))
theorem Try.known36 : Known Try.prog 36 Try.pc36 18 [2] := ⟨Try.f36, _, Try.func36, rfl, by kernel_rfl, rfl, rfl⟩

/-- (*redwax/codec.Reader).take$1 -/
def Try.pc37 : PC :=
  (.seq (.ops [⟨some 4, none, .mov (.v (.int .i64 0))⟩, ⟨some 5, none, .mov (.v (.int .i64 0))⟩])
  (.seq (.seq (.ops [⟨some 6, none, .ld (.t 1)⟩, ⟨some 7, none, .mov (.t 0)⟩, ⟨some 8, none, .lenS (.t 7)⟩, ⟨some 9, none, .bin .gtr (.t 6) (.t 8)⟩])
  (.cond (.t 9) (.seq (.ops [⟨some 4, none, .mov (.v (.int .i64 0))⟩, ⟨some 5, none, .mov (.v (.int .i64 4))⟩])
   .ret) .skip))
  (.seq (.ops [⟨some 10, none, .mov (.t 0)⟩, ⟨some 11, none, .ld (.t 1)⟩, ⟨some 12, none, .slS 1 (.t 10) none (some (.t 11))⟩, ⟨none, none, .st 1 (.t 2) (.t 12)⟩])
  (.seq (.ops [⟨some 13, none, .ld (.t 1)⟩, ⟨some 4, none, .mov (.t 13)⟩, ⟨some 5, none, .mov (.v (.int .i64 0))⟩])
  .ret))))
theorem Try.known37 : Known Try.prog 37 Try.pc37 14 [4, 5] := ⟨Try.f37, _, Try.func37, rfl, by kernel_rfl, rfl, rfl⟩

end Go.Proofs
