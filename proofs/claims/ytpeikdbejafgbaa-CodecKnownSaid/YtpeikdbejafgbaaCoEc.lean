/- The small forms that the evaluator runs. -/
import Derived.Test.YtpeikdbejafgbaaE13
import Derived.Test.YtpeikdbejafgbaaProg
set_option maxRecDepth 100000
namespace Go.Proofs
open Go.SL
/-- redwax/redwaxlaw04.CodecKnown -/
def Try.ec5 : EFn := ⟨(.seq (.ops [⟨some 0, none, .mov (.v (.bool false))⟩])
  (.seq (.seq (.ops [⟨some 10, none, .call 9 [(.v (.slice none 0 0)), (.v (.int .u64 0))]⟩, ⟨some 11, none, .strOf (.t 10)⟩, ⟨some 12, none, .bin .neq (.t 11) (.v (.string ⟨#[0]⟩))⟩, ⟨some 13, none, .mov (.t 12)⟩, ⟨some 14, (some (13, false)), .call 9 [(.v (.slice none 0 0)), (.v (.int .u64 127))]⟩, ⟨some 15, (some (13, false)), .strOf (.t 14)⟩, ⟨some 16, (some (13, false)), .bin .neq (.t 15) (.v (.string ⟨#[127]⟩))⟩, ⟨some 17, none, .pick (.t 13) (.v (.bool true)) (.t 16)⟩, ⟨some 18, none, .mov (.t 17)⟩, ⟨some 19, (some (18, false)), .bsl 5 [.int .u8 0] 1 [(0, 1, (.v (.int .u8 9)))]⟩, ⟨some 20, (some (18, false)), .call 9 [(.t 19), (.v (.int .u64 128))]⟩, ⟨some 21, (some (18, false)), .strOf (.t 20)⟩, ⟨some 22, (some (18, false)), .bin .neq (.t 21) (.v (.string ⟨#[9, 128, 1]⟩))⟩, ⟨some 23, none, .pick (.t 18) (.v (.bool true)) (.t 22)⟩, ⟨some 24, none, .mov (.t 23)⟩, ⟨some 25, (some (24, false)), .call 10 [(.v (.slice none 0 0)), (.v (.string ⟨#[97, 98]⟩))]⟩, ⟨some 26, (some (24, false)), .strOf (.t 25)⟩, ⟨some 27, (some (24, false)), .bin .neq (.t 26) (.v (.string ⟨#[2, 97, 98]⟩))⟩, ⟨some 28, none, .pick (.t 24) (.v (.bool true)) (.t 27)⟩, ⟨some 29, none, .mov (.t 28)⟩, ⟨some 30, (some (29, false)), .build [.int .i64 0, .int .u64 0] [(0, 1, (.v (.int .i64 3))), (1, 1, (.v (.int .u64 31)))]⟩, ⟨some 31, (some (29, false)), .call 11 [(.v (.slice none 0 0)), (.t 30)]⟩, ⟨some 32, (some (29, false)), .strOf (.t 31)⟩, ⟨some 33, (some (29, false)), .bin .neq (.t 32) (.v (.string ⟨#[3, 0, 0, 0, 0, 0, 0, 0, 31]⟩))⟩, ⟨some 34, none, .pick (.t 29) (.v (.bool true)) (.t 33)⟩])
  (.cond (.t 34) (.seq (.ops [⟨some 0, none, .mov (.v (.bool false))⟩])
   .ret) .skip))
  (.seq (.ops [⟨some 35, none, .bsl 9 [.string ⟨#[]⟩, .string ⟨#[]⟩, .string ⟨#[]⟩, .string ⟨#[]⟩, .string ⟨#[]⟩] 5 [(0, 1, (.v (.string ⟨#[128, 0]⟩))), (1, 1, (.v (.string ⟨#[128]⟩))), (2, 1, (.v (.string ⟨#[255, 255, 255, 255, 255, 255, 255, 255, 255, 2]⟩))), (3, 1, (.v (.string ⟨#[]⟩))), (4, 1, (.v (.string ⟨#[128, 128, 128, 128, 128, 128, 128, 128, 128, 128, 1]⟩)))]⟩, ⟨some 1, none, .mov (.t 35)⟩])
  (.seq (.seq (.ops [⟨some 2, none, .mov (.v (.int .i64 0))⟩])
  (.block 0 (.loop [1, 2] (.seq (.seq (.ops [⟨some 36, none, .mov (.t 2)⟩, ⟨some 37, none, .mov (.t 1)⟩, ⟨some 38, none, .lenS (.t 37)⟩, ⟨some 39, none, .bin .lss (.t 36) (.t 38)⟩])
    (.cond (.t 39) .skip (.exit 0)))
    (.seq (.block 1 (.seq (.ops [⟨some 42, none, .mov (.t 1)⟩, ⟨some 43, none, .mov (.t 2)⟩, ⟨some 44, none, .ixS 1 (.t 42) (.t 43)⟩, ⟨some 45, none, .ld (.t 44)⟩, ⟨some 46, none, .bytesOf 5 (.t 45)⟩, ⟨some 47, none, .call 15 [(.t 46)]⟩, ⟨some 3, none, .mov (.t 47)⟩])
     (.seq (.ops [⟨some 48, none, .mov (.t 3)⟩, ⟨some 49, none, .call 16 [(.t 48), (.v (.int .u64 18446744073709551615))]⟩, ⟨some 50, none, .bin .neq (.t 49) (.v (.int .u64 0))⟩, ⟨some 51, none, .mov (.t 50)⟩, ⟨some 52, (some (51, false)), .mov (.t 3)⟩, ⟨some 53, (some (51, false)), .call 17 [(.t 52)]⟩, ⟨some 54, (some (51, false)), .bin .neq (.t 53) (.v (.int .i64 4))⟩, ⟨some 55, none, .pick (.t 51) (.v (.bool true)) (.t 54)⟩])
     (.cond (.t 55) (.seq (.ops [⟨some 0, none, .mov (.v (.bool false))⟩])
      .ret) .skip))))
    (.ops [⟨some 40, none, .mov (.t 2)⟩, ⟨some 41, none, .bin .add (.t 40) (.v (.int .i64 1))⟩, ⟨some 2, none, .mov (.t 41)⟩]))))))
  (.seq (.ops [⟨some 56, none, .bsl 5 [.int .u8 0, .int .u8 0, .int .u8 0, .int .u8 0, .int .u8 0, .int .u8 0, .int .u8 0, .int .u8 0, .int .u8 0, .int .u8 0] 10 [(0, 1, (.v (.int .u8 255))), (1, 1, (.v (.int .u8 255))), (2, 1, (.v (.int .u8 255))), (3, 1, (.v (.int .u8 255))), (4, 1, (.v (.int .u8 255))), (5, 1, (.v (.int .u8 255))), (6, 1, (.v (.int .u8 255))), (7, 1, (.v (.int .u8 255))), (8, 1, (.v (.int .u8 255))), (9, 1, (.v (.int .u8 1)))]⟩, ⟨some 57, none, .more (.cvS (.t 56))⟩, ⟨some 58, none, .call 15 [(.t 57)]⟩, ⟨some 4, none, .mov (.t 58)⟩])
  (.seq (.ops [⟨some 59, none, .bsl 5 [.int .u8 0, .int .u8 0, .int .u8 0, .int .u8 0] 4 [(0, 1, (.v (.int .u8 3))), (1, 1, (.v (.int .u8 97))), (2, 1, (.v (.int .u8 98))), (3, 1, (.v (.int .u8 99)))]⟩, ⟨some 60, none, .more (.cvS (.t 59))⟩, ⟨some 61, none, .call 15 [(.t 60)]⟩, ⟨some 5, none, .mov (.t 61)⟩])
  (.seq (.ops [⟨some 62, none, .bsl 5 [.int .u8 0, .int .u8 0, .int .u8 0, .int .u8 0, .int .u8 0, .int .u8 0, .int .u8 0, .int .u8 0, .int .u8 0] 9 [(0, 1, (.v (.int .u8 16))), (1, 1, (.v (.int .u8 0))), (2, 1, (.v (.int .u8 0))), (3, 1, (.v (.int .u8 0))), (4, 1, (.v (.int .u8 0))), (5, 1, (.v (.int .u8 0))), (6, 1, (.v (.int .u8 0))), (7, 1, (.v (.int .u8 0))), (8, 1, (.v (.int .u8 0)))]⟩, ⟨some 63, none, .more (.cvS (.t 62))⟩, ⟨some 64, none, .call 15 [(.t 63)]⟩, ⟨some 6, none, .mov (.t 64)⟩])
  (.seq (.ops [⟨some 65, none, .mov (.t 6)⟩, ⟨some 66, none, .call 18 [(.t 65)]⟩, ⟨some 7, none, .al 26 [.int .i64 0, .int .u64 0]⟩, ⟨none, none, .st 2 (.t 7) (.t 66)⟩])
  (.seq (.ops [⟨some 8, none, .mov (.v (.pointer none))⟩])
  (.seq (.ops [⟨some 67, none, .build [.slice none 0 0, .int .i64 0, .int .i64 0, .bool false] []⟩, ⟨some 68, none, .bx 49 (.t 67)⟩, ⟨some 9, none, .mov (.t 68)⟩])
  (.seq (.ops [⟨some 69, none, .mov (.t 4)⟩, ⟨some 70, none, .call 16 [(.t 69), (.v (.int .u64 18446744073709551615))]⟩, ⟨some 71, none, .bin .eql (.t 70) (.v (.int .u64 18446744073709551615))⟩, ⟨some 72, none, .mov (.t 71)⟩, ⟨some 73, (some (72, true)), .mov (.t 4)⟩, ⟨some 74, (some (72, true)), .call 19 [(.t 73)]⟩, ⟨some 75, (some (72, true)), .bin .eql (.t 74) (.v (.int .i64 0))⟩, ⟨some 76, none, .pick (.t 72) (.t 75) (.v (.bool false))⟩, ⟨some 77, none, .mov (.t 76)⟩, ⟨some 78, (some (77, true)), .mov (.t 5)⟩, ⟨some 79, (some (77, true)), .call 20 [(.t 78), (.v (.int .i64 2))]⟩, ⟨some 80, (some (77, true)), .bin .eql (.t 79) (.v (.string ⟨#[]⟩))⟩, ⟨some 81, none, .pick (.t 77) (.t 80) (.v (.bool false))⟩, ⟨some 82, none, .mov (.t 81)⟩, ⟨some 83, (some (82, true)), .mov (.t 5)⟩, ⟨some 84, (some (82, true)), .call 17 [(.t 83)]⟩, ⟨some 85, (some (82, true)), .bin .eql (.t 84) (.v (.int .i64 3))⟩, ⟨some 86, none, .pick (.t 82) (.t 85) (.v (.bool false))⟩, ⟨some 87, none, .mov (.t 86)⟩, ⟨some 88, (some (87, true)), .ldA 2 (.t 7)⟩, ⟨some 89, (some (87, true)), .build [.int .i64 0, .int .u64 0] []⟩, ⟨some 90, (some (87, true)), .eqA false 26 [.int .i64, .int .u64] (.t 88) (.t 89)⟩, ⟨some 91, none, .pick (.t 87) (.t 90) (.v (.bool false))⟩, ⟨some 92, none, .mov (.t 91)⟩, ⟨some 93, (some (92, true)), .mov (.t 6)⟩, ⟨some 94, (some (92, true)), .call 17 [(.t 93)]⟩, ⟨some 95, (some (92, true)), .bin .eql (.t 94) (.v (.int .i64 4))⟩, ⟨some 96, none, .pick (.t 92) (.t 95) (.v (.bool false))⟩, ⟨some 97, none, .mov (.t 96)⟩, ⟨some 98, (some (97, true)), .mov (.t 8)⟩, ⟨some 99, (some (97, true)), .call 17 [(.t 98)]⟩, ⟨some 100, (some (97, true)), .bin .eql (.t 99) (.v (.int .i64 1))⟩, ⟨some 101, none, .pick (.t 97) (.t 100) (.v (.bool false))⟩, ⟨some 102, none, .mov (.t 101)⟩, ⟨some 103, (some (102, true)), .mov (.t 8)⟩, ⟨some 104, (some (102, true)), .call 16 [(.t 103), (.v (.int .u64 9))]⟩, ⟨some 105, (some (102, true)), .bin .eql (.t 104) (.v (.int .u64 0))⟩, ⟨some 106, none, .pick (.t 102) (.t 105) (.v (.bool false))⟩, ⟨some 107, none, .mov (.t 106)⟩, ⟨some 108, (some (107, true)), .mov (.t 8)⟩, ⟨some 109, (some (107, true)), .call 20 [(.t 108), (.v (.int .i64 9))]⟩, ⟨some 110, (some (107, true)), .bin .eql (.t 109) (.v (.string ⟨#[]⟩))⟩, ⟨some 111, none, .pick (.t 107) (.t 110) (.v (.bool false))⟩, ⟨some 112, none, .mov (.t 111)⟩, ⟨some 113, (some (112, true)), .mov (.t 9)⟩, ⟨some 114, (some (112, true)), .call 19 [(.t 113)]⟩, ⟨some 115, (some (112, true)), .bin .eql (.t 114) (.v (.int .i64 1))⟩, ⟨some 116, none, .pick (.t 112) (.t 115) (.v (.bool false))⟩, ⟨some 117, none, .mov (.t 116)⟩, ⟨some 118, (some (117, true)), .mov (.t 9)⟩, ⟨some 119, (some (117, true)), .call 21 [(.t 118)]⟩, ⟨some 120, (some (117, true)), .more (.bldA [.int .u8 0, .int .u8 0, .int .u8 0, .int .u8 0, .int .u8 0, .int .u8 0, .int .u8 0, .int .u8 0, .int .u8 0, .int .u8 0, .int .u8 0, .int .u8 0, .int .u8 0, .int .u8 0, .int .u8 0, .int .u8 0, .int .u8 0, .int .u8 0, .int .u8 0, .int .u8 0, .int .u8 0, .int .u8 0, .int .u8 0, .int .u8 0, .int .u8 0, .int .u8 0, .int .u8 0, .int .u8 0, .int .u8 0, .int .u8 0, .int .u8 0, .int .u8 0] [])⟩, ⟨some 121, (some (117, true)), .more (.eqD false 24 [.int .u8, .int .u8, .int .u8, .int .u8, .int .u8, .int .u8, .int .u8, .int .u8, .int .u8, .int .u8, .int .u8, .int .u8, .int .u8, .int .u8, .int .u8, .int .u8, .int .u8, .int .u8, .int .u8, .int .u8, .int .u8, .int .u8, .int .u8, .int .u8, .int .u8, .int .u8, .int .u8, .int .u8, .int .u8, .int .u8, .int .u8, .int .u8] (.t 119) (.t 120))⟩, ⟨some 122, none, .pick (.t 117) (.t 121) (.v (.bool false))⟩, ⟨some 123, none, .mov (.t 122)⟩, ⟨some 124, (some (123, true)), .call 8 []⟩, ⟨some 125, none, .pick (.t 123) (.t 124) (.v (.bool false))⟩, ⟨some 0, none, .mov (.t 125)⟩])
  .ret))))))))))), 126, [.tmp 0]⟩
theorem Try.ek5 : KnownE Try.prog 5 Try.ec5 := ⟨Try.f5, _, Try.func5, rfl, by kernel_rfl, rfl, by kernel_rfl, by kernel_rfl⟩

/-- redwax/redwaxlaw04.works -/
def Try.ec8 : EFn := ⟨(.seq (.ops [⟨some 0, none, .mov (.v (.bool false))⟩])
  (.seq (.ops [⟨some 3, none, .call 9 [(.v (.slice none 0 0)), (.v (.int .u64 300))]⟩, ⟨some 1, none, .mov (.t 3)⟩])
  (.seq (.ops [⟨some 4, none, .mov (.t 1)⟩, ⟨some 5, none, .call 15 [(.t 4)]⟩, ⟨some 2, none, .mov (.t 5)⟩])
  (.seq (.ops [⟨some 6, none, .mov (.t 1)⟩, ⟨some 7, none, .lenS (.t 6)⟩, ⟨some 8, none, .bin .eql (.t 7) (.v (.int .i64 2))⟩, ⟨some 9, none, .mov (.t 8)⟩, ⟨some 10, (some (9, true)), .mov (.t 1)⟩, ⟨some 11, (some (9, true)), .ixS 1 (.t 10) (.v (.int .i64 0))⟩, ⟨some 12, (some (9, true)), .ld (.t 11)⟩, ⟨some 13, (some (9, true)), .bin .eql (.t 12) (.v (.int .u8 172))⟩, ⟨some 14, none, .pick (.t 9) (.t 13) (.v (.bool false))⟩, ⟨some 15, none, .mov (.t 14)⟩, ⟨some 16, (some (15, true)), .mov (.t 1)⟩, ⟨some 17, (some (15, true)), .ixS 1 (.t 16) (.v (.int .i64 1))⟩, ⟨some 18, (some (15, true)), .ld (.t 17)⟩, ⟨some 19, (some (15, true)), .bin .eql (.t 18) (.v (.int .u8 2))⟩, ⟨some 20, none, .pick (.t 15) (.t 19) (.v (.bool false))⟩, ⟨some 21, none, .mov (.t 20)⟩, ⟨some 22, (some (21, true)), .mov (.t 2)⟩, ⟨some 23, (some (21, true)), .call 16 [(.t 22), (.v (.int .u64 300))]⟩, ⟨some 24, (some (21, true)), .bin .eql (.t 23) (.v (.int .u64 300))⟩, ⟨some 25, none, .pick (.t 21) (.t 24) (.v (.bool false))⟩, ⟨some 26, none, .mov (.t 25)⟩, ⟨some 27, (some (26, true)), .mov (.t 2)⟩, ⟨some 28, (some (26, true)), .call 19 [(.t 27)]⟩, ⟨some 29, (some (26, true)), .bin .eql (.t 28) (.v (.int .i64 0))⟩, ⟨some 30, none, .pick (.t 26) (.t 29) (.v (.bool false))⟩, ⟨some 31, none, .mov (.t 30)⟩, ⟨some 32, (some (31, true)), .mov (.t 2)⟩, ⟨some 33, (some (31, true)), .call 16 [(.t 32), (.v (.int .u64 1))]⟩, ⟨some 34, (some (31, true)), .bin .eql (.t 33) (.v (.int .u64 0))⟩, ⟨some 35, none, .pick (.t 31) (.t 34) (.v (.bool false))⟩, ⟨some 36, none, .mov (.t 35)⟩, ⟨some 37, (some (36, true)), .mov (.t 2)⟩, ⟨some 38, (some (36, true)), .call 17 [(.t 37)]⟩, ⟨some 39, (some (36, true)), .bin .eql (.t 38) (.v (.int .i64 4))⟩, ⟨some 40, none, .pick (.t 36) (.t 39) (.v (.bool false))⟩, ⟨some 0, none, .mov (.t 40)⟩])
  .ret)))), 41, [.tmp 0]⟩
theorem Try.ek8 : KnownE Try.prog 8 Try.ec8 := ⟨Try.f8, _, Try.func8, rfl, by kernel_rfl, rfl, by kernel_rfl, by kernel_rfl⟩

/-- redwax/codec.Num -/
def Try.ec9 : EFn := ⟨(.seq (.ops [⟨some 4, none, .mov (.v (.slice none 0 0))⟩])
  (.seq (.block 0 (.loop [0, 1] (.seq (.seq (.ops [⟨some 5, none, .mov (.t 1)⟩, ⟨some 6, none, .bin .geq (.t 5) (.v (.int .u64 128))⟩])
    (.cond (.t 6) .skip (.exit 0)))
    (.block 1 (.seq (.ops [⟨some 7, none, .mov (.t 0)⟩, ⟨some 8, none, .mov (.t 1)⟩, ⟨some 9, none, .cvt .u8 (.t 8)⟩, ⟨some 10, none, .bin .or (.t 9) (.v (.int .u8 128))⟩, ⟨some 11, none, .bsl 5 [.int .u8 0] 1 [(0, 1, (.t 10))]⟩, ⟨some 12, none, .app 30 5 1 1 (.int .u8 0) (.t 7) (.t 11)⟩, ⟨some 0, none, .mov (.t 12)⟩])
     (.ops [⟨some 13, none, .mov (.t 1)⟩, ⟨some 14, none, .bin .shr (.t 13) (.v (.int .u64 7))⟩, ⟨some 1, none, .mov (.t 14)⟩]))))))
  (.seq (.ops [⟨some 15, none, .mov (.t 0)⟩, ⟨some 16, none, .mov (.t 1)⟩, ⟨some 17, none, .cvt .u8 (.t 16)⟩, ⟨some 18, none, .bsl 5 [.int .u8 0] 1 [(0, 1, (.t 17))]⟩, ⟨some 19, none, .app 30 5 1 1 (.int .u8 0) (.t 15) (.t 18)⟩, ⟨some 4, none, .mov (.t 19)⟩])
  .ret))), 20, [.tmp 4]⟩
theorem Try.ek9 : KnownE Try.prog 9 Try.ec9 := ⟨Try.f9, _, Try.func9, rfl, by kernel_rfl, rfl, by kernel_rfl, by kernel_rfl⟩

/-- redwax/codec.Text -/
def Try.ec10 : EFn := ⟨(.seq (.ops [⟨some 4, none, .mov (.v (.slice none 0 0))⟩])
  (.seq (.ops [⟨some 5, none, .mov (.t 0)⟩, ⟨some 6, none, .mov (.t 1)⟩, ⟨some 7, none, .lenStr (.t 6)⟩, ⟨some 8, none, .cvt .u64 (.t 7)⟩, ⟨some 9, none, .call 9 [(.t 5), (.t 8)]⟩, ⟨some 10, none, .mov (.t 1)⟩, ⟨some 11, none, .appStr 30 9 5 1 (.int .u8 0) (.t 9) (.t 10)⟩, ⟨some 4, none, .mov (.t 11)⟩])
  .ret)), 12, [.tmp 4]⟩
theorem Try.ek10 : KnownE Try.prog 10 Try.ec10 := ⟨Try.f10, _, Try.func10, rfl, by kernel_rfl, rfl, by kernel_rfl, by kernel_rfl⟩

/-- redwax/codec.Label -/
def Try.ec11 : EFn := ⟨(.seq (.ops [⟨some 3, none, .bx 26 (.t 1)⟩, ⟨some 4, none, .mov (.v (.slice none 0 0))⟩])
  (.seq (.ops [⟨some 6, none, .mov (.t 0)⟩, ⟨some 7, none, .fa 0 (.t 3)⟩, ⟨some 8, none, .ld (.t 7)⟩, ⟨some 9, none, .cvt .u64 (.t 8)⟩, ⟨some 10, none, .call 9 [(.t 6), (.t 9)]⟩, ⟨some 0, none, .mov (.t 10)⟩])
  (.seq (.seq (.ops [⟨some 5, none, .mov (.v (.int .i64 7))⟩])
  (.block 0 (.loop [0, 3, 5] (.seq (.seq (.ops [⟨some 11, none, .mov (.t 5)⟩, ⟨some 12, none, .bin .geq (.t 11) (.v (.int .i64 0))⟩])
    (.cond (.t 12) .skip (.exit 0)))
    (.seq (.block 1 (.ops [⟨some 15, none, .mov (.t 0)⟩, ⟨some 16, none, .fa 1 (.t 3)⟩, ⟨some 17, none, .ld (.t 16)⟩, ⟨some 18, none, .mov (.t 5)⟩, ⟨some 19, none, .bin .mul (.v (.int .i64 8)) (.t 18)⟩, ⟨some 20, none, .bin .shr (.t 17) (.t 19)⟩, ⟨some 21, none, .cvt .u8 (.t 20)⟩, ⟨some 22, none, .bsl 5 [.int .u8 0] 1 [(0, 1, (.t 21))]⟩, ⟨some 23, none, .app 30 5 1 1 (.int .u8 0) (.t 15) (.t 22)⟩, ⟨some 0, none, .mov (.t 23)⟩]))
    (.ops [⟨some 13, none, .mov (.t 5)⟩, ⟨some 14, none, .bin .sub (.t 13) (.v (.int .i64 1))⟩, ⟨some 5, none, .mov (.t 14)⟩]))))))
  (.seq (.ops [⟨some 24, none, .mov (.t 0)⟩, ⟨some 4, none, .mov (.t 24)⟩])
  .ret)))), 25, [.tmp 4]⟩
theorem Try.ek11 : KnownE Try.prog 11 Try.ec11 := ⟨Try.f11, _, Try.func11, rfl, by kernel_rfl, rfl, by kernel_rfl, by kernel_rfl⟩

/-- redwax/codec.Open -/
def Try.ec15 : EFn := ⟨(.seq (.ops [⟨some 2, none, .mov (.v (.pointer none))⟩])
  (.seq (.ops [⟨some 3, none, .mov (.t 0)⟩, ⟨some 4, none, .build [.slice none 0 0, .int .i64 0, .int .i64 0, .bool false] [(0, 1, (.t 3)), (3, 1, (.v (.bool true)))]⟩, ⟨some 5, none, .bx 49 (.t 4)⟩, ⟨some 2, none, .mov (.t 5)⟩])
  .ret)), 6, [.tmp 2]⟩
theorem Try.ek15 : KnownE Try.prog 15 Try.ec15 := ⟨Try.f15, _, Try.func15, rfl, by kernel_rfl, rfl, by kernel_rfl, by kernel_rfl⟩

/-- (*redwax/codec.Reader).Num -/
def Try.ec16 : EFn := ⟨(.seq (.ops [⟨some 3, none, .bx 22 (.t 1)⟩, ⟨some 4, none, .al 22 [.int .u64 0]⟩])
  (.seq (.ops [⟨some 5, none, .mov (.t 0)⟩, ⟨some 6, none, .mkF 32 [(.t 3), (.t 4)]⟩, ⟨some 7, none, .call 31 [(.t 5), (.t 6)]⟩])
  (.seq (.ops [⟨some 8, none, .ld (.t 4)⟩, ⟨none, none, .st 1 (.t 4) (.t 8)⟩])
  .ret))), 9, [.cell 4 none]⟩
theorem Try.ek16 : KnownE Try.prog 16 Try.ec16 := ⟨Try.f16, _, Try.func16, rfl, by kernel_rfl, rfl, by kernel_rfl, by kernel_rfl⟩

/-- (*redwax/codec.Reader).Err -/
def Try.ec17 : EFn := ⟨(.seq (.ops [⟨some 2, none, .mov (.v (.int .i64 0))⟩])
  (.seq (.seq (.ops [⟨some 3, none, .mov (.t 0)⟩, ⟨some 4, none, .eqP false (.t 3) (.v (.pointer none))⟩, ⟨some 5, none, .mov (.t 4)⟩, ⟨some 6, (some (5, false)), .mov (.t 0)⟩, ⟨some 7, (some (5, false)), .nilc (.t 6)⟩, ⟨some 8, (some (5, false)), .fa 3 (.t 7)⟩, ⟨some 9, (some (5, false)), .ld (.t 8)⟩, ⟨some 10, (some (5, false)), .not (.t 9)⟩, ⟨some 11, none, .pick (.t 5) (.v (.bool true)) (.t 10)⟩])
  (.cond (.t 11) (.seq (.ops [⟨some 2, none, .mov (.v (.int .i64 1))⟩])
   .ret) .skip))
  (.seq (.ops [⟨some 12, none, .mov (.t 0)⟩, ⟨some 13, none, .nilc (.t 12)⟩, ⟨some 14, none, .fa 2 (.t 13)⟩, ⟨some 15, none, .ld (.t 14)⟩, ⟨some 2, none, .mov (.t 15)⟩])
  .ret))), 16, [.tmp 2]⟩
theorem Try.ek17 : KnownE Try.prog 17 Try.ec17 := ⟨Try.f17, _, Try.func17, rfl, by kernel_rfl, rfl, by kernel_rfl, by kernel_rfl⟩

/-- (*redwax/codec.Reader).Label -/
def Try.ec18 : EFn := ⟨(.seq (.ops [⟨some 2, none, .al 26 [.int .i64 0, .int .u64 0]⟩])
  (.seq (.ops [⟨some 6, none, .mov (.t 0)⟩, ⟨some 7, none, .call 34 [(.t 6), (.v (.int .u64 15))]⟩, ⟨some 8, none, .cvt .i64 (.t 7)⟩, ⟨some 9, none, .build [.int .i64 0, .int .u64 0] [(0, 1, (.t 8))]⟩, ⟨some 3, none, .al 26 [.int .i64 0, .int .u64 0]⟩, ⟨none, none, .st 2 (.t 3) (.t 9)⟩])
  (.seq (.seq (.ops [⟨some 10, none, .mov (.t 0)⟩, ⟨some 11, none, .call 35 [(.t 10), (.v (.int .i64 8))]⟩, ⟨some 12, none, .lenS (.t 11)⟩, ⟨some 13, none, .mov (.v (.int .i64 0))⟩])
  (.block 0 (.loop [0, 2, 3, 11, 12, 13] (.seq (.ops [⟨some 14, none, .bin .lss (.t 13) (.t 12)⟩])
    (.seq (.cond (.t 14) .skip (.exit 0))
    (.seq (.block 1 (.seq (.ops [⟨some 15, none, .ixS 1 (.t 11) (.t 13)⟩, ⟨some 16, none, .ld (.t 15)⟩, ⟨some 5, none, .mov (.t 16)⟩])
     (.ops [⟨some 17, none, .fa 1 (.t 3)⟩, ⟨some 18, none, .ld (.t 17)⟩, ⟨some 19, none, .bin .shl (.t 18) (.v (.int .u64 8))⟩, ⟨some 20, none, .mov (.t 5)⟩, ⟨some 21, none, .cvt .u64 (.t 20)⟩, ⟨some 22, none, .bin .or (.t 19) (.t 21)⟩, ⟨some 23, none, .fa 1 (.t 3)⟩, ⟨none, none, .st 1 (.t 23) (.t 22)⟩])))
    (.ops [⟨some 24, none, .bin .add (.t 13) (.v (.int .i64 1))⟩, ⟨some 13, none, .mov (.t 24)⟩])))))))
  (.seq (.seq (.ops [⟨some 25, none, .mov (.t 0)⟩, ⟨some 26, none, .call 36 [(.t 25)]⟩, ⟨some 27, none, .not (.t 26)⟩])
  (.cond (.t 27) (.seq (.ops [⟨some 28, none, .build [.int .i64 0, .int .u64 0] []⟩, ⟨none, none, .st 2 (.t 2) (.t 28)⟩])
   .ret) .skip))
  (.seq (.ops [⟨some 29, none, .ldA 2 (.t 3)⟩, ⟨none, none, .st 2 (.t 2) (.t 29)⟩])
  .ret))))), 30, [.cell 2 (some 2)]⟩
theorem Try.ek18 : KnownE Try.prog 18 Try.ec18 := ⟨Try.f18, _, Try.func18, rfl, by kernel_rfl, rfl, by kernel_rfl, by kernel_rfl⟩

/-- (*redwax/codec.Reader).Done -/
def Try.ec19 : EFn := ⟨(.seq (.ops [⟨some 2, none, .mov (.v (.int .i64 0))⟩])
  (.seq (.seq (.ops [⟨some 4, none, .mov (.t 0)⟩, ⟨some 5, none, .call 17 [(.t 4)]⟩, ⟨some 3, none, .mov (.t 5)⟩])
  (.seq (.ops [⟨some 6, none, .mov (.t 3)⟩, ⟨some 7, none, .bin .neq (.t 6) (.v (.int .i64 0))⟩])
  (.cond (.t 7) (.seq (.ops [⟨some 8, none, .mov (.t 3)⟩, ⟨some 2, none, .mov (.t 8)⟩])
   .ret) .skip)))
  (.seq (.seq (.drawn [0, 1, 3, 7, 0, 16, 48, 112, 240, 511] 9 [⟨some 9, none, .mov (.t 0)⟩, ⟨some 10, none, .nilc (.t 9)⟩, ⟨some 11, none, .fa 1 (.t 10)⟩, ⟨some 12, none, .ld (.t 11)⟩, ⟨some 13, none, .mov (.t 0)⟩, ⟨some 14, none, .nilc (.t 13)⟩, ⟨some 15, none, .fa 0 (.t 14)⟩, ⟨some 16, none, .ld (.t 15)⟩, ⟨some 17, none, .lenS (.t 16)⟩, ⟨some 18, none, .bin .lss (.t 12) (.t 17)⟩])
  (.cond (.t 18) (.seq (.ops [⟨some 2, none, .mov (.v (.int .i64 4))⟩])
   .ret) .skip))
  (.seq (.ops [⟨some 2, none, .mov (.v (.int .i64 0))⟩])
  .ret)))), 19, [.tmp 2]⟩
theorem Try.ek19 : KnownE Try.prog 19 Try.ec19 := ⟨Try.f19, _, Try.func19, rfl, by kernel_rfl, rfl, by kernel_rfl, by kernel_rfl⟩

/-- (*redwax/codec.Reader).Text -/
def Try.ec20 : EFn := ⟨(.seq (.ops [⟨some 4, none, .mov (.v (.string ⟨#[]⟩))⟩])
  (.seq (.ops [⟨some 6, none, .mov (.t 0)⟩, ⟨some 7, none, .mov (.t 1)⟩, ⟨some 8, none, .mnx true [(.t 7), (.v (.int .i64 0))]⟩, ⟨some 9, none, .cvt .u64 (.t 8)⟩, ⟨some 10, none, .call 16 [(.t 6), (.t 9)]⟩, ⟨some 5, none, .mov (.t 10)⟩])
  (.seq (.ops [⟨some 11, none, .mov (.t 0)⟩, ⟨some 12, none, .mov (.t 5)⟩, ⟨some 13, none, .cvt .i64 (.t 12)⟩, ⟨some 14, none, .call 35 [(.t 11), (.t 13)]⟩, ⟨some 15, none, .strOf (.t 14)⟩, ⟨some 4, none, .mov (.t 15)⟩])
  .ret))), 16, [.tmp 4]⟩
theorem Try.ek20 : KnownE Try.prog 20 Try.ec20 := ⟨Try.f20, _, Try.func20, rfl, by kernel_rfl, rfl, by kernel_rfl, by kernel_rfl⟩

/-- (*redwax/codec.Reader).Hash -/
def Try.ec21 : EFn := ⟨(.seq (.ops [⟨some 2, none, .al 24 [.int .u8 0, .int .u8 0, .int .u8 0, .int .u8 0, .int .u8 0, .int .u8 0, .int .u8 0, .int .u8 0, .int .u8 0, .int .u8 0, .int .u8 0, .int .u8 0, .int .u8 0, .int .u8 0, .int .u8 0, .int .u8 0, .int .u8 0, .int .u8 0, .int .u8 0, .int .u8 0, .int .u8 0, .int .u8 0, .int .u8 0, .int .u8 0, .int .u8 0, .int .u8 0, .int .u8 0, .int .u8 0, .int .u8 0, .int .u8 0, .int .u8 0, .int .u8 0]⟩])
  (.seq (.drawn [0, 0, 2, 7] 3 [⟨some 3, none, .slA 32 (.t 2)⟩, ⟨some 4, none, .mov (.t 0)⟩, ⟨some 5, none, .call 35 [(.t 4), (.v (.int .i64 32))]⟩, ⟨some 6, none, .cpy 5 1 (.t 3) (.t 5)⟩])
  (.seq (.ops [⟨some 7, none, .ldA 32 (.t 2)⟩, ⟨none, none, .st 32 (.t 2) (.t 7)⟩])
  .ret))), 8, [.cell 2 (some 32)]⟩
theorem Try.ek21 : KnownE Try.prog 21 Try.ec21 := ⟨Try.f21, _, Try.func21, rfl, by kernel_rfl, rfl, by kernel_rfl, by kernel_rfl⟩

/-- (*redwax/codec.Reader).one -/
def Try.ec31 : EFn := ⟨(.seq (.seq (.ops [⟨some 6, none, .mov (.t 0)⟩, ⟨some 7, none, .call 36 [(.t 6)]⟩, ⟨some 8, none, .not (.t 7)⟩])
  (.cond (.t 8) .ret .skip))
  (.seq (.drawn [0, 0, 2, 6, 14, 0, 32, 96, 224, 510, 1023, 2047, 4095, 4095, 8191, 32767] 15 [⟨some 10, none, .mov (.t 1)⟩, ⟨some 11, none, .mov (.t 0)⟩, ⟨some 12, none, .nilc (.t 11)⟩, ⟨some 13, none, .fa 0 (.t 12)⟩, ⟨some 14, none, .ld (.t 13)⟩, ⟨some 15, none, .mov (.t 0)⟩, ⟨some 16, none, .nilc (.t 15)⟩, ⟨some 17, none, .fa 1 (.t 16)⟩, ⟨some 18, none, .ld (.t 17)⟩, ⟨some 19, none, .slS 1 (.t 14) (some (.t 18)) none⟩, ⟨some 20, none, .callv (.t 10) [(.t 19)]⟩, ⟨some 9, none, .mov (.t 20)⟩, ⟨some 21, none, .ext 0 (.t 9)⟩, ⟨some 22, none, .ext 1 (.t 9)⟩, ⟨some 4, none, .mov (.t 21)⟩, ⟨some 5, none, .mov (.t 22)⟩])
  (.seq (.seq (.ops [⟨some 23, none, .mov (.t 5)⟩, ⟨some 24, none, .bin .neq (.t 23) (.v (.int .i64 0))⟩])
  (.cond (.t 24) (.seq (.ops [⟨some 25, none, .mov (.t 0)⟩, ⟨some 26, none, .mov (.t 5)⟩, ⟨some 27, none, .nilc (.t 25)⟩, ⟨some 28, none, .fa 2 (.t 27)⟩, ⟨none, none, .st 1 (.t 28) (.t 26)⟩])
   .ret) .skip))
  (.ops [⟨some 29, none, .mov (.t 0)⟩, ⟨some 30, none, .nilc (.t 29)⟩, ⟨some 31, none, .fa 1 (.t 30)⟩, ⟨some 32, none, .ld (.t 31)⟩, ⟨some 33, none, .mov (.t 4)⟩, ⟨some 34, none, .bin .add (.t 32) (.t 33)⟩, ⟨some 35, none, .nilc (.t 29)⟩, ⟨some 36, none, .fa 1 (.t 35)⟩, ⟨none, none, .st 1 (.t 36) (.t 34)⟩])))), 37, []⟩
theorem Try.ek31 : KnownE Try.prog 31 Try.ec31 := ⟨Try.f31, _, Try.func31, rfl, by kernel_rfl, rfl, by kernel_rfl, by kernel_rfl⟩

/-- (*redwax/codec.Reader).Num$1 -/
def Try.ec32 : EFn := ⟨(.seq (.ops [⟨some 4, none, .mov (.v (.int .i64 0))⟩, ⟨some 5, none, .mov (.v (.int .i64 0))⟩])
  (.seq (.ops [⟨some 10, none, .mov (.t 0)⟩, ⟨some 11, none, .call 33 [(.t 10)]⟩, ⟨some 9, none, .mov (.t 11)⟩, ⟨some 12, none, .ext 0 (.t 9)⟩, ⟨some 13, none, .ext 1 (.t 9)⟩, ⟨some 14, none, .ext 2 (.t 9)⟩, ⟨some 6, none, .mov (.t 12)⟩, ⟨some 7, none, .mov (.t 13)⟩, ⟨some 8, none, .mov (.t 14)⟩])
  (.seq (.seq (.ops [⟨some 15, none, .mov (.t 8)⟩, ⟨some 16, none, .bin .eql (.t 15) (.v (.int .i64 0))⟩, ⟨some 17, none, .mov (.t 16)⟩, ⟨some 18, (some (17, true)), .mov (.t 6)⟩, ⟨some 19, (some (17, true)), .ld (.t 1)⟩, ⟨some 20, (some (17, true)), .bin .gtr (.t 18) (.t 19)⟩, ⟨some 21, none, .pick (.t 17) (.t 20) (.v (.bool false))⟩])
  (.cond (.t 21) (.ops [⟨some 8, none, .mov (.v (.int .i64 3))⟩]) .skip))
  (.seq (.seq (.ops [⟨some 22, none, .mov (.t 8)⟩, ⟨some 23, none, .bin .eql (.t 22) (.v (.int .i64 0))⟩])
  (.cond (.t 23) (.ops [⟨some 24, none, .mov (.t 6)⟩, ⟨none, none, .st 1 (.t 2) (.t 24)⟩]) .skip))
  (.seq (.ops [⟨some 25, none, .mov (.t 7)⟩, ⟨some 26, none, .mov (.t 8)⟩, ⟨some 4, none, .mov (.t 25)⟩, ⟨some 5, none, .mov (.t 26)⟩])
  .ret))))), 27, [.tmp 4, .tmp 5]⟩
theorem Try.ek32 : KnownE Try.prog 32 Try.ec32 := ⟨Try.f32, _, Try.func32, rfl, by kernel_rfl, rfl, by kernel_rfl, by kernel_rfl⟩

/-- redwax/codec.number -/
def Try.ec33 : EFn := ⟨(.seq (.ops [⟨some 2, none, .mov (.v (.int .u64 0))⟩, ⟨some 3, none, .mov (.v (.int .i64 0))⟩, ⟨some 4, none, .mov (.v (.int .i64 0))⟩])
  (.seq (.seq (.ops [⟨some 5, none, .mov (.v (.int .i64 0))⟩])
  (.block 0 (.loop [0, 2, 5] (.seq (.seq (.ops [⟨some 7, none, .mov (.t 5)⟩, ⟨some 8, none, .mov (.t 0)⟩, ⟨some 9, none, .lenS (.t 8)⟩, ⟨some 10, none, .bin .lss (.t 7) (.t 9)⟩, ⟨some 11, none, .mov (.t 10)⟩, ⟨some 12, (some (11, true)), .mov (.t 5)⟩, ⟨some 13, (some (11, true)), .bin .lss (.t 12) (.v (.int .i64 10))⟩, ⟨some 14, none, .pick (.t 11) (.t 13) (.v (.bool false))⟩])
    (.cond (.t 14) .skip (.exit 0)))
    (.seq (.block 1 (.seq (.ops [⟨some 17, none, .mov (.t 0)⟩, ⟨some 18, none, .mov (.t 5)⟩, ⟨some 19, none, .ixS 1 (.t 17) (.t 18)⟩, ⟨some 20, none, .ld (.t 19)⟩, ⟨some 21, none, .bin .andNot (.t 20) (.v (.int .u8 128))⟩, ⟨some 22, none, .cvt .u64 (.t 21)⟩, ⟨some 6, none, .mov (.t 22)⟩])
     (.seq (.seq (.ops [⟨some 23, none, .mov (.t 5)⟩, ⟨some 24, none, .bin .eql (.t 23) (.v (.int .i64 9))⟩, ⟨some 25, none, .mov (.t 24)⟩, ⟨some 26, (some (25, true)), .mov (.t 0)⟩, ⟨some 27, (some (25, true)), .mov (.t 5)⟩, ⟨some 28, (some (25, true)), .ixS 1 (.t 26) (.t 27)⟩, ⟨some 29, (some (25, true)), .ld (.t 28)⟩, ⟨some 30, (some (25, true)), .bin .gtr (.t 29) (.v (.int .u8 1))⟩, ⟨some 31, none, .pick (.t 25) (.t 30) (.v (.bool false))⟩])
     (.cond (.t 31) (.exit 0) .skip))
     (.seq (.ops [⟨some 32, none, .mov (.t 2)⟩, ⟨some 33, none, .mov (.t 6)⟩, ⟨some 34, none, .mov (.t 5)⟩, ⟨some 35, none, .bin .mul (.v (.int .i64 7)) (.t 34)⟩, ⟨some 36, none, .bin .shl (.t 33) (.t 35)⟩, ⟨some 37, none, .bin .or (.t 32) (.t 36)⟩, ⟨some 2, none, .mov (.t 37)⟩])
     (.seq (.ops [⟨some 38, none, .mov (.t 0)⟩, ⟨some 39, none, .mov (.t 5)⟩, ⟨some 40, none, .ixS 1 (.t 38) (.t 39)⟩, ⟨some 41, none, .ld (.t 40)⟩, ⟨some 42, none, .bin .lss (.t 41) (.v (.int .u8 128))⟩])
     (.cond (.t 42) (.seq (.seq (.ops [⟨some 43, none, .mov (.t 6)⟩, ⟨some 44, none, .bin .eql (.t 43) (.v (.int .u64 0))⟩, ⟨some 45, none, .mov (.t 44)⟩, ⟨some 46, (some (45, true)), .mov (.t 5)⟩, ⟨some 47, (some (45, true)), .bin .gtr (.t 46) (.v (.int .i64 0))⟩, ⟨some 48, none, .pick (.t 45) (.t 47) (.v (.bool false))⟩])
      (.cond (.t 48) (.exit 0) .skip))
      (.seq (.ops [⟨some 49, none, .mov (.t 2)⟩, ⟨some 50, none, .mov (.t 5)⟩, ⟨some 51, none, .bin .add (.t 50) (.v (.int .i64 1))⟩, ⟨some 2, none, .mov (.t 49)⟩, ⟨some 3, none, .mov (.t 51)⟩, ⟨some 4, none, .mov (.v (.int .i64 0))⟩])
      .ret)) .skip))))))
    (.ops [⟨some 15, none, .mov (.t 5)⟩, ⟨some 16, none, .bin .add (.t 15) (.v (.int .i64 1))⟩, ⟨some 5, none, .mov (.t 16)⟩]))))))
  (.seq (.ops [⟨some 2, none, .mov (.v (.int .u64 0))⟩, ⟨some 3, none, .mov (.v (.int .i64 0))⟩, ⟨some 4, none, .mov (.v (.int .i64 4))⟩])
  .ret))), 52, [.tmp 2, .tmp 3, .tmp 4]⟩
theorem Try.ek33 : KnownE Try.prog 33 Try.ec33 := ⟨Try.f33, _, Try.func33, rfl, by kernel_rfl, rfl, by kernel_rfl, by kernel_rfl⟩

/-- (*redwax/codec.Reader).form -/
def Try.ec34 : EFn := ⟨(.seq (.ops [⟨some 4, none, .mov (.v (.int .u64 0))⟩])
  (.seq (.ops [⟨some 7, none, .mov (.t 0)⟩, ⟨some 8, none, .call 36 [(.t 7)]⟩, ⟨some 5, none, .mov (.t 8)⟩])
  (.seq (.ops [⟨some 9, none, .mov (.t 0)⟩, ⟨some 10, none, .mov (.t 1)⟩, ⟨some 11, none, .call 16 [(.t 9), (.t 10)]⟩, ⟨some 6, none, .mov (.t 11)⟩])
  (.seq (.seq (.ops [⟨some 12, none, .mov (.t 5)⟩, ⟨some 13, none, .mov (.t 12)⟩, ⟨some 14, (some (13, true)), .mov (.t 0)⟩, ⟨some 15, (some (13, true)), .nilc (.t 14)⟩, ⟨some 16, (some (13, true)), .fa 2 (.t 15)⟩, ⟨some 17, (some (13, true)), .ld (.t 16)⟩, ⟨some 18, (some (13, true)), .bin .eql (.t 17) (.v (.int .i64 3))⟩, ⟨some 19, none, .pick (.t 13) (.t 18) (.v (.bool false))⟩])
  (.cond (.t 19) (.ops [⟨some 20, none, .mov (.t 0)⟩, ⟨some 21, none, .nilc (.t 20)⟩, ⟨some 22, none, .fa 2 (.t 21)⟩, ⟨none, none, .st 1 (.t 22) (.v (.int .i64 4))⟩]) .skip))
  (.seq (.ops [⟨some 23, none, .mov (.t 6)⟩, ⟨some 4, none, .mov (.t 23)⟩])
  .ret))))), 24, [.tmp 4]⟩
theorem Try.ek34 : KnownE Try.prog 34 Try.ec34 := ⟨Try.f34, _, Try.func34, rfl, by kernel_rfl, rfl, by kernel_rfl, by kernel_rfl⟩

/-- (*redwax/codec.Reader).take -/
def Try.ec35 : EFn := ⟨(.seq (.ops [⟨some 3, none, .bx 3 (.t 1)⟩, ⟨some 4, none, .al 30 [.slice none 0 0]⟩])
  (.seq (.ops [⟨some 5, none, .mov (.t 0)⟩, ⟨some 6, none, .mkF 37 [(.t 3), (.t 4)]⟩, ⟨some 7, none, .call 31 [(.t 5), (.t 6)]⟩])
  (.seq (.ops [⟨some 8, none, .ld (.t 4)⟩, ⟨none, none, .st 1 (.t 4) (.t 8)⟩])
  .ret))), 9, [.cell 4 none]⟩
theorem Try.ek35 : KnownE Try.prog 35 Try.ec35 := ⟨Try.f35, _, Try.func35, rfl, by kernel_rfl, rfl, by kernel_rfl, by kernel_rfl⟩

/-- (*redwax/codec.Reader).is -/
def Try.ec36 : EFn := ⟨(.seq (.ops [⟨some 2, none, .mov (.v (.bool false))⟩])
  (.seq (.ops [⟨some 3, none, .mov (.t 0)⟩, ⟨some 4, none, .eqP true (.t 3) (.v (.pointer none))⟩, ⟨some 5, none, .mov (.t 4)⟩, ⟨some 6, (some (5, true)), .mov (.t 0)⟩, ⟨some 7, (some (5, true)), .nilc (.t 6)⟩, ⟨some 8, (some (5, true)), .fa 3 (.t 7)⟩, ⟨some 9, (some (5, true)), .ld (.t 8)⟩, ⟨some 10, none, .pick (.t 5) (.t 9) (.v (.bool false))⟩, ⟨some 11, none, .mov (.t 10)⟩, ⟨some 12, (some (11, true)), .mov (.t 0)⟩, ⟨some 13, (some (11, true)), .nilc (.t 12)⟩, ⟨some 14, (some (11, true)), .fa 2 (.t 13)⟩, ⟨some 15, (some (11, true)), .ld (.t 14)⟩, ⟨some 16, (some (11, true)), .bin .eql (.t 15) (.v (.int .i64 0))⟩, ⟨some 17, none, .pick (.t 11) (.t 16) (.v (.bool false))⟩, ⟨some 2, none, .mov (.t 17)⟩])
  .ret)), 18, [.tmp 2]⟩
theorem Try.ek36 : KnownE Try.prog 36 Try.ec36 := ⟨Try.f36, _, Try.func36, rfl, by kernel_rfl, rfl, by kernel_rfl, by kernel_rfl⟩

/-- (*redwax/codec.Reader).take$1 -/
def Try.ec37 : EFn := ⟨(.seq (.ops [⟨some 4, none, .mov (.v (.int .i64 0))⟩, ⟨some 5, none, .mov (.v (.int .i64 0))⟩])
  (.seq (.seq (.ops [⟨some 6, none, .ld (.t 1)⟩, ⟨some 7, none, .mov (.t 0)⟩, ⟨some 8, none, .lenS (.t 7)⟩, ⟨some 9, none, .bin .gtr (.t 6) (.t 8)⟩])
  (.cond (.t 9) (.seq (.ops [⟨some 4, none, .mov (.v (.int .i64 0))⟩, ⟨some 5, none, .mov (.v (.int .i64 4))⟩])
   .ret) .skip))
  (.seq (.ops [⟨some 10, none, .mov (.t 0)⟩, ⟨some 11, none, .ld (.t 1)⟩, ⟨some 12, none, .slS 1 (.t 10) none (some (.t 11))⟩, ⟨none, none, .st 1 (.t 2) (.t 12)⟩])
  (.seq (.ops [⟨some 13, none, .ld (.t 1)⟩, ⟨some 4, none, .mov (.t 13)⟩, ⟨some 5, none, .mov (.v (.int .i64 0))⟩])
  .ret)))), 14, [.tmp 4, .tmp 5]⟩
theorem Try.ek37 : KnownE Try.prog 37 Try.ec37 := ⟨Try.f37, _, Try.func37, rfl, by kernel_rfl, rfl, by kernel_rfl, by kernel_rfl⟩
def Try.etab : List (FuncId × EFn) := [(5, Try.ec5), (8, Try.ec8), (9, Try.ec9), (10, Try.ec10), (11, Try.ec11), (15, Try.ec15), (16, Try.ec16), (17, Try.ec17), (18, Try.ec18), (19, Try.ec19), (20, Try.ec20), (21, Try.ec21), (31, Try.ec31), (32, Try.ec32), (33, Try.ec33), (34, Try.ec34), (35, Try.ec35), (36, Try.ec36), (37, Try.ec37)]
theorem Try.etab_ok : AllK Try.prog Try.etab := ⟨Try.ek5, Try.ek8, Try.ek9, Try.ek10, Try.ek11, Try.ek15, Try.ek16, Try.ek17, Try.ek18, Try.ek19, Try.ek20, Try.ek21, Try.ek31, Try.ek32, Try.ek33, Try.ek34, Try.ek35, Try.ek36, Try.ek37, trivial⟩
end Go.Proofs
