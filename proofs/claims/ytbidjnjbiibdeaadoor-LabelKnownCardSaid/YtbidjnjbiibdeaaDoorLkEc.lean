/- The small forms that the evaluator runs. -/
import Derived.Test.YtbidjnjbiibdeaaDoorE14
import Derived.Test.YtbidjnjbiibdeaaDoorProg
set_option maxRecDepth 100000
namespace Go.Proofs
open Go.SL
/-- redwax/redwaxlaw05.LabelKnown -/
def Tryd.ec14 : EFn := ⟨(.seq (.ops [⟨some 0, none, .mov (.v (.bool false))⟩])
  (.seq (.ops [⟨some 5, none, .call 54 [(.v (.string ⟨#[49, 53, 58, 102, 102, 102, 102, 102, 102, 102, 102, 102, 102, 102, 102, 102, 102, 102, 102]⟩))]⟩, ⟨some 4, none, .mov (.t 5)⟩, ⟨some 6, none, .ext 0 (.t 4)⟩, ⟨some 7, none, .ext 1 (.t 4)⟩, ⟨some 1, none, .al 24 [.int .i64 0, .int .u64 0]⟩, ⟨none, none, .st 2 (.t 1) (.t 6)⟩, ⟨some 2, none, .mov (.t 7)⟩])
  (.seq (.ops [⟨some 8, none, .call 55 [(.v (.int .i64 2)), (.v (.int .u64 0))]⟩, ⟨some 9, none, .call 55 [(.v (.int .i64 1)), (.v (.int .u64 9))]⟩, ⟨some 10, none, .call 55 [(.v (.int .i64 2)), (.v (.int .u64 0))]⟩, ⟨some 11, none, .call 55 [(.v (.int .i64 1)), (.v (.int .u64 3))]⟩, ⟨some 12, none, .bsl 24 [.int .i64 0, .int .u64 0, .int .i64 0, .int .u64 0, .int .i64 0, .int .u64 0, .int .i64 0, .int .u64 0] 4 [(0, 2, (.t 8)), (2, 2, (.t 9)), (4, 2, (.t 10)), (6, 2, (.t 11))]⟩, ⟨some 13, none, .call 50 [(.t 12)]⟩, ⟨some 3, none, .mov (.t 13)⟩])
  (.seq (.drawn [0, 1, 3, 7, 15, 31, 63, 127, 255, 511, 1023, 2047, 4095, 8191, 16383, 32767, 65535, 131071, 262143, 524287, 1048575, 2097151, 4194303, 8388607, 16777215, 33554431, 67108863, 134217727, 268435455, 536870911, 536870911, 2147483647, 4294967295, 8589934591, 17179869183, 34359738367, 68719476735, 137438953471, 274877906943, 549755813887, 1099511627775, 2199023255551, 4398046511103, 8796093022207, 17592186044415, 35184372088831, 70368744177663, 140737488355327, 281474976710655, 562949953421311, 1125899906842623, 2251799813685247, 4503599627370495, 9007199254740991, 18014398509481983, 36028797018963967, 72057594037927935, 144115188075855871, 288230376151711743, 576460752303423487, 1152921504606846975, 2305843009213693951, 4611686018427387903, 1152921504606846975, 18446744073709551615, 36893488147419103231, 73786976294838206463, 147573952589676412927, 295147905179352825855, 590295810358705651711, 147573952589676412927, 2361183241434822606847, 4722366482869645213695, 9444732965739290427391, 18889465931478580854783, 37778931862957161709567, 75557863725914323419135, 18889465931478580854783, 302231454903657293676543, 604462909807314587353087, 1208925819614629174706175, 2417851639229258349412351, 4835703278458516698824703, 9671406556917033397649407, 19342813113834066795298815, 38685626227668133590597631, 77371252455336267181195263, 154742504910672534362390527, 309485009821345068724781055, 618970019642690137449562111, 1237940039285380274899124223] 78 [⟨some 14, none, .call 20 []⟩, ⟨some 15, none, .mov (.t 14)⟩, ⟨some 16, (some (15, true)), .call 55 [(.v (.int .i64 2)), (.v (.int .u64 0))]⟩, ⟨some 17, (some (15, true)), .call 55 [(.v (.int .i64 1)), (.v (.int .u64 0))]⟩, ⟨some 18, (some (15, true)), .call 17 [(.t 16), (.t 17)]⟩, ⟨some 19, (some (15, true)), .not (.t 18)⟩, ⟨some 20, none, .pick (.t 15) (.t 19) (.v (.bool false))⟩, ⟨some 21, none, .mov (.t 20)⟩, ⟨some 22, (some (21, true)), .call 55 [(.v (.int .i64 1)), (.v (.int .u64 3))]⟩, ⟨some 23, (some (21, true)), .call 55 [(.v (.int .i64 2)), (.v (.int .u64 5))]⟩, ⟨some 24, (some (21, true)), .call 16 [(.t 22), (.t 23)]⟩, ⟨some 25, (some (21, true)), .call 55 [(.v (.int .i64 1)), (.v (.int .u64 1))]⟩, ⟨some 26, (some (21, true)), .eqA false 24 [.int .i64, .int .u64] (.t 24) (.t 25)⟩, ⟨some 27, none, .pick (.t 21) (.t 26) (.v (.bool false))⟩, ⟨some 28, none, .mov (.t 27)⟩, ⟨some 29, (some (28, true)), .call 55 [(.v (.int .i64 16)), (.v (.int .u64 0))]⟩, ⟨some 30, (some (28, true)), .call 56 [(.t 29)]⟩, ⟨some 31, (some (28, true)), .bin .eql (.t 30) (.v (.string ⟨#[63]⟩))⟩, ⟨some 32, none, .pick (.t 28) (.t 31) (.v (.bool false))⟩, ⟨some 33, none, .mov (.t 32)⟩, ⟨some 34, (some (33, true)), .call 55 [(.v (.int .i64 (-1))), (.v (.int .u64 0))]⟩, ⟨some 35, (some (33, true)), .call 56 [(.t 34)]⟩, ⟨some 36, (some (33, true)), .bin .eql (.t 35) (.v (.string ⟨#[63]⟩))⟩, ⟨some 37, none, .pick (.t 33) (.t 36) (.v (.bool false))⟩, ⟨some 38, none, .mov (.t 37)⟩, ⟨some 39, (some (38, true)), .mov (.t 2)⟩, ⟨some 40, (some (38, true)), .bin .eql (.t 39) (.v (.int .i64 0))⟩, ⟨some 41, none, .pick (.t 38) (.t 40) (.v (.bool false))⟩, ⟨some 42, none, .mov (.t 41)⟩, ⟨some 43, (some (42, true)), .ldA 2 (.t 1)⟩, ⟨some 44, (some (42, true)), .call 19 []⟩, ⟨some 45, (some (42, true)), .eqA false 24 [.int .i64, .int .u64] (.t 43) (.t 44)⟩, ⟨some 46, none, .pick (.t 42) (.t 45) (.v (.bool false))⟩, ⟨some 47, none, .mov (.t 46)⟩, ⟨some 48, (some (47, true)), .call 57 [(.v (.string ⟨#[51, 58, 48, 49]⟩))]⟩, ⟨some 49, none, .pick (.t 47) (.t 48) (.v (.bool false))⟩, ⟨some 50, none, .mov (.t 49)⟩, ⟨some 51, (some (50, true)), .call 57 [(.v (.string ⟨#[49, 54, 58, 48]⟩))]⟩, ⟨some 52, none, .pick (.t 50) (.t 51) (.v (.bool false))⟩, ⟨some 53, none, .mov (.t 52)⟩, ⟨some 54, (some (53, true)), .call 57 [(.v (.string ⟨#[58, 48]⟩))]⟩, ⟨some 55, none, .pick (.t 53) (.t 54) (.v (.bool false))⟩, ⟨some 56, none, .mov (.t 55)⟩, ⟨some 57, (some (56, true)), .call 57 [(.v (.string ⟨#[]⟩))]⟩, ⟨some 58, none, .pick (.t 56) (.t 57) (.v (.bool false))⟩, ⟨some 59, none, .mov (.t 58)⟩, ⟨some 60, (some (59, true)), .call 57 [(.v (.string ⟨#[49]⟩))]⟩, ⟨some 61, none, .pick (.t 59) (.t 60) (.v (.bool false))⟩, ⟨some 62, none, .mov (.t 61)⟩, ⟨some 63, (some (62, true)), .call 57 [(.v (.string ⟨#[49, 58]⟩))]⟩, ⟨some 64, none, .pick (.t 62) (.t 63) (.v (.bool false))⟩, ⟨some 65, none, .mov (.t 64)⟩, ⟨some 66, (some (65, true)), .call 57 [(.v (.string ⟨#[43, 49, 58, 48]⟩))]⟩, ⟨some 67, none, .pick (.t 65) (.t 66) (.v (.bool false))⟩, ⟨some 68, none, .mov (.t 67)⟩, ⟨some 69, (some (68, true)), .mov (.t 3)⟩, ⟨some 70, (some (68, true)), .lenS (.t 69)⟩, ⟨some 71, (some (68, true)), .bin .eql (.t 70) (.v (.int .i64 3))⟩, ⟨some 72, none, .pick (.t 68) (.t 71) (.v (.bool false))⟩, ⟨some 73, none, .mov (.t 72)⟩, ⟨some 74, (some (73, true)), .mov (.t 3)⟩, ⟨some 75, (some (73, true)), .ixS 2 (.t 74) (.v (.int .i64 0))⟩, ⟨some 76, (some (73, true)), .ldA 2 (.t 75)⟩, ⟨some 77, (some (73, true)), .call 55 [(.v (.int .i64 1)), (.v (.int .u64 3))]⟩, ⟨some 78, (some (73, true)), .eqA false 24 [.int .i64, .int .u64] (.t 76) (.t 77)⟩, ⟨some 79, none, .pick (.t 73) (.t 78) (.v (.bool false))⟩, ⟨some 80, none, .mov (.t 79)⟩, ⟨some 81, (some (80, true)), .mov (.t 3)⟩, ⟨some 82, (some (80, true)), .ixS 2 (.t 81) (.v (.int .i64 1))⟩, ⟨some 83, (some (80, true)), .ldA 2 (.t 82)⟩, ⟨some 84, (some (80, true)), .call 55 [(.v (.int .i64 1)), (.v (.int .u64 9))]⟩, ⟨some 85, (some (80, true)), .eqA false 24 [.int .i64, .int .u64] (.t 83) (.t 84)⟩, ⟨some 86, none, .pick (.t 80) (.t 85) (.v (.bool false))⟩, ⟨some 87, none, .mov (.t 86)⟩, ⟨some 88, (some (87, true)), .mov (.t 3)⟩, ⟨some 89, (some (87, true)), .ixS 2 (.t 88) (.v (.int .i64 2))⟩, ⟨some 90, (some (87, true)), .ldA 2 (.t 89)⟩, ⟨some 91, (some (87, true)), .call 55 [(.v (.int .i64 2)), (.v (.int .u64 0))]⟩, ⟨some 92, (some (87, true)), .eqA false 24 [.int .i64, .int .u64] (.t 90) (.t 91)⟩, ⟨some 93, none, .pick (.t 87) (.t 92) (.v (.bool false))⟩, ⟨some 94, none, .mov (.t 93)⟩, ⟨some 95, (some (94, true)), .call 55 [(.v (.int .i64 16)), (.v (.int .u64 0))]⟩, ⟨some 96, (some (94, true)), .call 18 [(.t 95)]⟩, ⟨some 97, (some (94, true)), .bin .eql (.t 96) (.v (.int .i64 2))⟩, ⟨some 98, none, .pick (.t 94) (.t 97) (.v (.bool false))⟩, ⟨some 99, none, .mov (.t 98)⟩, ⟨some 100, (some (99, true)), .call 55 [(.v (.int .i64 15)), (.v (.int .u64 0))]⟩, ⟨some 101, (some (99, true)), .call 18 [(.t 100)]⟩, ⟨some 102, (some (99, true)), .bin .eql (.t 101) (.v (.int .i64 0))⟩, ⟨some 103, none, .pick (.t 99) (.t 102) (.v (.bool false))⟩, ⟨some 0, none, .mov (.t 103)⟩])
  .ret)))), 104, [.tmp 0]⟩
theorem Tryd.ek14 : KnownE Tryd.prog 14 Tryd.ec14 := ⟨Tryd.f14, _, Tryd.func14, rfl, by kernel_rfl, rfl, by kernel_rfl, by kernel_rfl⟩

/-- redwax/label.Join -/
def Tryd.ec15 : EFn := ⟨(.seq (.ops [⟨some 2, none, .bx 24 (.t 0)⟩, ⟨some 3, none, .bx 24 (.t 1)⟩, ⟨some 4, none, .al 24 [.int .i64 0, .int .u64 0]⟩])
  (.seq (.ops [⟨some 5, none, .fa 0 (.t 2)⟩, ⟨some 6, none, .ld (.t 5)⟩, ⟨some 7, none, .fa 0 (.t 3)⟩, ⟨some 8, none, .ld (.t 7)⟩, ⟨some 9, none, .mnx true [(.t 6), (.t 8)]⟩, ⟨some 10, none, .fa 1 (.t 2)⟩, ⟨some 11, none, .ld (.t 10)⟩, ⟨some 12, none, .fa 1 (.t 3)⟩, ⟨some 13, none, .ld (.t 12)⟩, ⟨some 14, none, .bin .or (.t 11) (.t 13)⟩, ⟨some 15, none, .build [.int .i64 0, .int .u64 0] [(0, 1, (.t 9)), (1, 1, (.t 14))]⟩, ⟨none, none, .st 2 (.t 4) (.t 15)⟩])
  .ret)), 16, [.cell 4 (some 2)]⟩
theorem Tryd.ek15 : KnownE Tryd.prog 15 Tryd.ec15 := ⟨Tryd.f15, _, Tryd.func15, rfl, by kernel_rfl, rfl, by kernel_rfl, by kernel_rfl⟩

/-- redwax/label.Meet -/
def Tryd.ec16 : EFn := ⟨(.seq (.ops [⟨some 2, none, .bx 24 (.t 0)⟩, ⟨some 3, none, .bx 24 (.t 1)⟩, ⟨some 4, none, .al 24 [.int .i64 0, .int .u64 0]⟩])
  (.seq (.ops [⟨some 5, none, .fa 0 (.t 2)⟩, ⟨some 6, none, .ld (.t 5)⟩, ⟨some 7, none, .fa 0 (.t 3)⟩, ⟨some 8, none, .ld (.t 7)⟩, ⟨some 9, none, .mnx false [(.t 6), (.t 8)]⟩, ⟨some 10, none, .fa 1 (.t 2)⟩, ⟨some 11, none, .ld (.t 10)⟩, ⟨some 12, none, .fa 1 (.t 3)⟩, ⟨some 13, none, .ld (.t 12)⟩, ⟨some 14, none, .bin .and (.t 11) (.t 13)⟩, ⟨some 15, none, .build [.int .i64 0, .int .u64 0] [(0, 1, (.t 9)), (1, 1, (.t 14))]⟩, ⟨none, none, .st 2 (.t 4) (.t 15)⟩])
  .ret)), 16, [.cell 4 (some 2)]⟩
theorem Tryd.ek16 : KnownE Tryd.prog 16 Tryd.ec16 := ⟨Tryd.f16, _, Tryd.func16, rfl, by kernel_rfl, rfl, by kernel_rfl, by kernel_rfl⟩

/-- redwax/label.Below -/
def Tryd.ec17 : EFn := ⟨(.seq (.ops [⟨some 2, none, .bx 24 (.t 0)⟩, ⟨some 3, none, .bx 24 (.t 1)⟩, ⟨some 4, none, .mov (.v (.bool false))⟩])
  (.seq (.ops [⟨some 5, none, .fa 0 (.t 2)⟩, ⟨some 6, none, .ld (.t 5)⟩, ⟨some 7, none, .fa 0 (.t 3)⟩, ⟨some 8, none, .ld (.t 7)⟩, ⟨some 9, none, .bin .leq (.t 6) (.t 8)⟩, ⟨some 10, none, .mov (.t 9)⟩, ⟨some 11, (some (10, true)), .fa 1 (.t 2)⟩, ⟨some 12, (some (10, true)), .ld (.t 11)⟩, ⟨some 13, (some (10, true)), .fa 1 (.t 3)⟩, ⟨some 14, (some (10, true)), .ld (.t 13)⟩, ⟨some 15, (some (10, true)), .bin .andNot (.t 12) (.t 14)⟩, ⟨some 16, (some (10, true)), .bin .eql (.t 15) (.v (.int .u64 0))⟩, ⟨some 17, none, .pick (.t 10) (.t 16) (.v (.bool false))⟩, ⟨some 4, none, .mov (.t 17)⟩])
  .ret)), 18, [.tmp 4]⟩
theorem Tryd.ek17 : KnownE Tryd.prog 17 Tryd.ec17 := ⟨Tryd.f17, _, Tryd.func17, rfl, by kernel_rfl, rfl, by kernel_rfl, by kernel_rfl⟩

/-- redwax/label.Check -/
def Tryd.ec18 : EFn := ⟨(.seq (.ops [⟨some 1, none, .bx 24 (.t 0)⟩, ⟨some 2, none, .mov (.v (.int .i64 0))⟩])
  (.seq (.seq (.ops [⟨some 3, none, .fa 0 (.t 1)⟩, ⟨some 4, none, .ld (.t 3)⟩, ⟨some 5, none, .bin .lss (.t 4) (.v (.int .i64 0))⟩, ⟨some 6, none, .mov (.t 5)⟩, ⟨some 7, (some (6, false)), .fa 0 (.t 1)⟩, ⟨some 8, (some (6, false)), .ld (.t 7)⟩, ⟨some 9, (some (6, false)), .bin .gtr (.t 8) (.v (.int .i64 15))⟩, ⟨some 10, none, .pick (.t 6) (.v (.bool true)) (.t 9)⟩])
  (.cond (.t 10) (.seq (.ops [⟨some 2, none, .mov (.v (.int .i64 2))⟩])
   .ret) .skip))
  (.seq (.ops [⟨some 2, none, .mov (.v (.int .i64 0))⟩])
  .ret))), 11, [.tmp 2]⟩
theorem Tryd.ek18 : KnownE Tryd.prog 18 Tryd.ec18 := ⟨Tryd.f18, _, Tryd.func18, rfl, by kernel_rfl, rfl, by kernel_rfl, by kernel_rfl⟩

/-- redwax/label.Top -/
def Tryd.ec19 : EFn := ⟨(.seq (.ops [⟨some 0, none, .al 24 [.int .i64 0, .int .u64 0]⟩])
  (.seq (.ops [⟨some 1, none, .build [.int .i64 0, .int .u64 0] [(0, 1, (.v (.int .i64 15))), (1, 1, (.v (.int .u64 18446744073709551615)))]⟩, ⟨none, none, .st 2 (.t 0) (.t 1)⟩])
  .ret)), 2, [.cell 0 (some 2)]⟩
theorem Tryd.ek19 : KnownE Tryd.prog 19 Tryd.ec19 := ⟨Tryd.f19, _, Tryd.func19, rfl, by kernel_rfl, rfl, by kernel_rfl, by kernel_rfl⟩

/-- redwax/redwaxlaw05.awake -/
def Tryd.ec20 : EFn := ⟨(.seq (.ops [⟨some 0, none, .mov (.v (.bool false))⟩])
  (.seq (.ops [⟨some 1, none, .call 55 [(.v (.int .i64 1)), (.v (.int .u64 3))]⟩, ⟨some 2, none, .call 55 [(.v (.int .i64 2)), (.v (.int .u64 7))]⟩, ⟨some 3, none, .call 17 [(.t 1), (.t 2)]⟩, ⟨some 4, none, .mov (.t 3)⟩, ⟨some 5, (some (4, true)), .call 55 [(.v (.int .i64 1)), (.v (.int .u64 3))]⟩, ⟨some 6, (some (4, true)), .call 55 [(.v (.int .i64 2)), (.v (.int .u64 5))]⟩, ⟨some 7, (some (4, true)), .call 17 [(.t 5), (.t 6)]⟩, ⟨some 8, (some (4, true)), .not (.t 7)⟩, ⟨some 9, none, .pick (.t 4) (.t 8) (.v (.bool false))⟩, ⟨some 10, none, .mov (.t 9)⟩, ⟨some 11, (some (10, true)), .call 55 [(.v (.int .i64 1)), (.v (.int .u64 3))]⟩, ⟨some 12, (some (10, true)), .call 55 [(.v (.int .i64 2)), (.v (.int .u64 5))]⟩, ⟨some 13, (some (10, true)), .call 15 [(.t 11), (.t 12)]⟩, ⟨some 14, (some (10, true)), .call 55 [(.v (.int .i64 2)), (.v (.int .u64 7))]⟩, ⟨some 15, (some (10, true)), .eqA false 24 [.int .i64, .int .u64] (.t 13) (.t 14)⟩, ⟨some 16, none, .pick (.t 10) (.t 15) (.v (.bool false))⟩, ⟨some 17, none, .mov (.t 16)⟩, ⟨some 18, (some (17, true)), .call 55 [(.v (.int .i64 3)), (.v (.int .u64 31))]⟩, ⟨some 19, (some (17, true)), .call 56 [(.t 18)]⟩, ⟨some 20, (some (17, true)), .bin .eql (.t 19) (.v (.string ⟨#[51, 58, 49, 102]⟩))⟩, ⟨some 21, none, .pick (.t 17) (.t 20) (.v (.bool false))⟩, ⟨some 0, none, .mov (.t 21)⟩])
  .ret)), 22, [.tmp 0]⟩
theorem Tryd.ek20 : KnownE Tryd.prog 20 Tryd.ec20 := ⟨Tryd.f20, _, Tryd.func20, rfl, by kernel_rfl, rfl, by kernel_rfl, by kernel_rfl⟩

/-- redwax/label.Order -/
def Tryd.ec25 : EFn := ⟨(.seq (.ops [⟨some 2, none, .bx 24 (.t 0)⟩, ⟨some 3, none, .bx 24 (.t 1)⟩, ⟨some 4, none, .mov (.v (.int .i64 0))⟩])
  (.seq (.drawn [0, 1, 0, 4, 15, 0, 32, 0, 128, 511, 1023, 2047, 4095] 9 [⟨some 5, none, .fa 0 (.t 2)⟩, ⟨some 6, none, .ld (.t 5)⟩, ⟨some 7, none, .fa 0 (.t 3)⟩, ⟨some 8, none, .ld (.t 7)⟩, ⟨some 9, none, .call 61 [(.t 6), (.t 8)]⟩, ⟨some 10, none, .fa 1 (.t 2)⟩, ⟨some 11, none, .ld (.t 10)⟩, ⟨some 12, none, .fa 1 (.t 3)⟩, ⟨some 13, none, .ld (.t 12)⟩, ⟨some 14, none, .call 62 [(.t 11), (.t 13)]⟩, ⟨some 15, none, .bsl 3 [.int .i64 0, .int .i64 0] 2 [(0, 1, (.t 9)), (1, 1, (.t 14))]⟩, ⟨some 16, none, .call 60 [(.t 15)]⟩, ⟨some 4, none, .mov (.t 16)⟩])
  .ret)), 17, [.tmp 4]⟩
theorem Tryd.ek25 : KnownE Tryd.prog 25 Tryd.ec25 := ⟨Tryd.f25, _, Tryd.func25, rfl, by kernel_rfl, rfl, by kernel_rfl, by kernel_rfl⟩

/-- redwax/label.Sorted -/
def Tryd.ec50 : EFn := ⟨(.seq (.ops [⟨some 2, none, .mov (.v (.slice none 0 0))⟩])
  (.seq (.ops [⟨some 4, none, .mov (.t 0)⟩, ⟨some 5, none, .call 78 [(.t 4)]⟩, ⟨some 3, none, .mov (.t 5)⟩])
  (.seq (.ops [⟨some 6, none, .mov (.t 3)⟩, ⟨some 7, none, .call 79 [(.t 6), (.v (.func (.func 25) #[] #[]))]⟩])
  (.seq (.ops [⟨some 8, none, .mov (.t 3)⟩, ⟨some 9, none, .call 80 [(.t 8)]⟩, ⟨some 2, none, .mov (.t 9)⟩])
  .ret)))), 10, [.tmp 2]⟩
theorem Tryd.ek50 : KnownE Tryd.prog 50 Tryd.ec50 := ⟨Tryd.f50, _, Tryd.func50, rfl, by kernel_rfl, rfl, by kernel_rfl, by kernel_rfl⟩

/-- redwax/label.Parse -/
def Tryd.ec54 : EFn := ⟨(.seq (.ops [⟨some 2, none, .al 24 [.int .i64 0, .int .u64 0]⟩, ⟨some 3, none, .mov (.v (.int .i64 0))⟩])
  (.seq (.ops [⟨some 13, none, .mov (.t 0)⟩, ⟨some 14, none, .call 81 [(.t 13), (.v (.string ⟨#[58]⟩))]⟩, ⟨some 12, none, .mov (.t 14)⟩, ⟨some 15, none, .ext 0 (.t 12)⟩, ⟨some 16, none, .ext 1 (.t 12)⟩, ⟨some 17, none, .ext 2 (.t 12)⟩, ⟨some 4, none, .mov (.t 15)⟩, ⟨some 5, none, .mov (.t 16)⟩, ⟨some 6, none, .mov (.t 17)⟩])
  (.seq (.ops [⟨some 19, none, .mov (.t 4)⟩, ⟨some 20, none, .call 82 [(.t 19)]⟩, ⟨some 18, none, .mov (.t 20)⟩, ⟨some 21, none, .ext 0 (.t 18)⟩, ⟨some 22, none, .ext 1 (.t 18)⟩, ⟨some 7, none, .mov (.t 21)⟩, ⟨some 8, none, .mov (.t 22)⟩])
  (.seq (.ops [⟨some 24, none, .mov (.t 5)⟩, ⟨some 25, none, .call 83 [(.t 24), (.v (.int .i64 16)), (.v (.int .i64 64))]⟩, ⟨some 23, none, .mov (.t 25)⟩, ⟨some 26, none, .ext 0 (.t 23)⟩, ⟨some 27, none, .ext 1 (.t 23)⟩, ⟨some 9, none, .mov (.t 26)⟩, ⟨some 10, none, .mov (.t 27)⟩])
  (.seq (.ops [⟨some 28, none, .mov (.t 7)⟩, ⟨some 29, none, .mov (.t 9)⟩, ⟨some 30, none, .build [.int .i64 0, .int .u64 0] [(0, 1, (.t 28)), (1, 1, (.t 29))]⟩, ⟨some 11, none, .al 24 [.int .i64 0, .int .u64 0]⟩, ⟨none, none, .st 2 (.t 11) (.t 30)⟩])
  (.seq (.seq (.ops [⟨some 31, none, .mov (.t 8)⟩, ⟨some 32, none, .more (.eqI true (.t 31))⟩, ⟨some 33, none, .mov (.t 32)⟩, ⟨some 34, (some (33, false)), .mov (.t 10)⟩, ⟨some 35, (some (33, false)), .more (.eqI true (.t 34))⟩, ⟨some 36, none, .pick (.t 33) (.v (.bool true)) (.t 35)⟩, ⟨some 37, none, .mov (.t 36)⟩, ⟨some 38, (some (37, false)), .ldA 2 (.t 11)⟩, ⟨some 39, (some (37, false)), .call 56 [(.t 38)]⟩, ⟨some 40, (some (37, false)), .mov (.t 0)⟩, ⟨some 41, (some (37, false)), .bin .neq (.t 39) (.t 40)⟩, ⟨some 42, none, .pick (.t 37) (.v (.bool true)) (.t 41)⟩])
  (.cond (.t 42) (.seq (.ops [⟨some 43, none, .build [.int .i64 0, .int .u64 0] []⟩, ⟨none, none, .st 2 (.t 2) (.t 43)⟩, ⟨some 3, none, .mov (.v (.int .i64 4))⟩])
   .ret) .skip))
  (.seq (.ops [⟨some 44, none, .ldA 2 (.t 11)⟩, ⟨none, none, .st 2 (.t 2) (.t 44)⟩, ⟨some 3, none, .mov (.v (.int .i64 0))⟩])
  .ret))))))), 45, [.cell 2 (some 2), .tmp 3]⟩
theorem Tryd.ek54 : KnownE Tryd.prog 54 Tryd.ec54 := ⟨Tryd.f54, _, Tryd.func54, rfl, by kernel_rfl, rfl, by kernel_rfl, by kernel_rfl⟩

/-- redwax/redwaxlaw05.of -/
def Tryd.ec55 : EFn := ⟨(.seq (.ops [⟨some 4, none, .al 24 [.int .i64 0, .int .u64 0]⟩])
  (.seq (.ops [⟨some 5, none, .mov (.t 0)⟩, ⟨some 6, none, .mov (.t 1)⟩, ⟨some 7, none, .build [.int .i64 0, .int .u64 0] [(0, 1, (.t 5)), (1, 1, (.t 6))]⟩, ⟨none, none, .st 2 (.t 4) (.t 7)⟩])
  .ret)), 8, [.cell 4 (some 2)]⟩
theorem Tryd.ek55 : KnownE Tryd.prog 55 Tryd.ec55 := ⟨Tryd.f55, _, Tryd.func55, rfl, by kernel_rfl, rfl, by kernel_rfl, by kernel_rfl⟩

/-- redwax/label.Text -/
def Tryd.ec56 : EFn := ⟨(.seq (.ops [⟨some 1, none, .bx 24 (.t 0)⟩, ⟨some 2, none, .mov (.v (.string ⟨#[]⟩))⟩])
  (.seq (.seq (.ops [⟨some 3, none, .ldA 2 (.t 1)⟩, ⟨some 4, none, .call 18 [(.t 3)]⟩, ⟨some 5, none, .bin .neq (.t 4) (.v (.int .i64 0))⟩])
  (.cond (.t 5) (.seq (.ops [⟨some 2, none, .mov (.v (.string ⟨#[63]⟩))⟩])
   .ret) .skip))
  (.seq (.drawn [0, 1, 3, 7, 0, 16, 55, 127, 255] 7 [⟨some 6, none, .fa 0 (.t 1)⟩, ⟨some 7, none, .ld (.t 6)⟩, ⟨some 8, none, .call 84 [(.t 7)]⟩, ⟨some 9, none, .bin .add (.t 8) (.v (.string ⟨#[58]⟩))⟩, ⟨some 10, none, .fa 1 (.t 1)⟩, ⟨some 11, none, .ld (.t 10)⟩, ⟨some 12, none, .call 85 [(.t 11), (.v (.int .i64 16))]⟩, ⟨some 13, none, .bin .add (.t 9) (.t 12)⟩, ⟨some 2, none, .mov (.t 13)⟩])
  .ret))), 14, [.tmp 2]⟩
theorem Tryd.ek56 : KnownE Tryd.prog 56 Tryd.ec56 := ⟨Tryd.f56, _, Tryd.func56, rfl, by kernel_rfl, rfl, by kernel_rfl, by kernel_rfl⟩

/-- redwax/redwaxlaw05.no -/
def Tryd.ec57 : EFn := ⟨(.seq (.ops [⟨some 2, none, .mov (.v (.bool false))⟩])
  (.seq (.ops [⟨some 6, none, .mov (.t 0)⟩, ⟨some 7, none, .call 54 [(.t 6)]⟩, ⟨some 5, none, .mov (.t 7)⟩, ⟨some 8, none, .ext 0 (.t 5)⟩, ⟨some 9, none, .ext 1 (.t 5)⟩, ⟨some 3, none, .al 24 [.int .i64 0, .int .u64 0]⟩, ⟨none, none, .st 2 (.t 3) (.t 8)⟩, ⟨some 4, none, .mov (.t 9)⟩])
  (.seq (.ops [⟨some 10, none, .mov (.t 4)⟩, ⟨some 11, none, .bin .eql (.t 10) (.v (.int .i64 4))⟩, ⟨some 12, none, .mov (.t 11)⟩, ⟨some 13, (some (12, true)), .ldA 2 (.t 3)⟩, ⟨some 14, (some (12, true)), .build [.int .i64 0, .int .u64 0] []⟩, ⟨some 15, (some (12, true)), .eqA false 24 [.int .i64, .int .u64] (.t 13) (.t 14)⟩, ⟨some 16, none, .pick (.t 12) (.t 15) (.v (.bool false))⟩, ⟨some 2, none, .mov (.t 16)⟩])
  .ret))), 17, [.tmp 2]⟩
theorem Tryd.ek57 : KnownE Tryd.prog 57 Tryd.ec57 := ⟨Tryd.f57, _, Tryd.func57, rfl, by kernel_rfl, rfl, by kernel_rfl, by kernel_rfl⟩

/-- cmp.Or[int] -/
def Tryd.ec60 : EFn := ⟨(.seq (.ops [⟨some 2, none, .mov (.v (.int .i64 0))⟩])
  (.seq (.ops [⟨some 3, none, .mov (.v (.int .i64 0))⟩])
  (.seq (.seq (.ops [⟨some 6, none, .mov (.t 0)⟩, ⟨some 7, none, .lenS (.t 6)⟩, ⟨some 8, none, .mov (.v (.int .i64 0))⟩])
  (.block 0 (.loop [3, 6, 7, 8] (.seq (.ops [⟨some 9, none, .bin .lss (.t 8) (.t 7)⟩])
    (.seq (.cond (.t 9) .skip (.exit 0))
    (.seq (.block 1 (.seq (.ops [⟨some 10, none, .ixS 1 (.t 6) (.t 8)⟩, ⟨some 11, none, .ld (.t 10)⟩, ⟨some 5, none, .mov (.t 11)⟩])
     (.seq (.ops [⟨some 12, none, .mov (.t 5)⟩, ⟨some 13, none, .mov (.t 3)⟩, ⟨some 14, none, .bin .neq (.t 12) (.t 13)⟩])
     (.cond (.t 14) (.seq (.ops [⟨some 15, none, .mov (.t 5)⟩, ⟨some 2, none, .mov (.t 15)⟩])
      .ret) .skip))))
    (.ops [⟨some 16, none, .bin .add (.t 8) (.v (.int .i64 1))⟩, ⟨some 8, none, .mov (.t 16)⟩])))))))
  (.seq (.ops [⟨some 17, none, .mov (.t 3)⟩, ⟨some 2, none, .mov (.t 17)⟩])
  .ret)))), 18, [.tmp 2]⟩
theorem Tryd.ek60 : KnownE Tryd.prog 60 Tryd.ec60 := ⟨Tryd.f60, _, Tryd.func60, rfl, by kernel_rfl, rfl, by kernel_rfl, by kernel_rfl⟩

/-- cmp.Compare[int] -/
def Tryd.ec61 : EFn := ⟨(.seq (.ops [⟨some 4, none, .mov (.v (.int .i64 0))⟩])
  (.seq (.ops [⟨some 7, none, .mov (.t 0)⟩, ⟨some 8, none, .call 86 [(.t 7)]⟩, ⟨some 5, none, .mov (.t 8)⟩])
  (.seq (.ops [⟨some 9, none, .mov (.t 1)⟩, ⟨some 10, none, .call 86 [(.t 9)]⟩, ⟨some 6, none, .mov (.t 10)⟩])
  (.seq (.seq (.ops [⟨some 11, none, .mov (.t 5)⟩])
  (.cond (.t 11) (.seq (.seq (.ops [⟨some 12, none, .mov (.t 6)⟩])
   (.cond (.t 12) (.seq (.ops [⟨some 4, none, .mov (.v (.int .i64 0))⟩])
    .ret) .skip))
   (.seq (.ops [⟨some 4, none, .mov (.v (.int .i64 (-1)))⟩])
   .ret)) .skip))
  (.seq (.seq (.ops [⟨some 13, none, .mov (.t 6)⟩])
  (.cond (.t 13) (.seq (.ops [⟨some 4, none, .mov (.v (.int .i64 1))⟩])
   .ret) .skip))
  (.seq (.seq (.ops [⟨some 14, none, .mov (.t 0)⟩, ⟨some 15, none, .mov (.t 1)⟩, ⟨some 16, none, .bin .lss (.t 14) (.t 15)⟩])
  (.cond (.t 16) (.seq (.ops [⟨some 4, none, .mov (.v (.int .i64 (-1)))⟩])
   .ret) .skip))
  (.seq (.seq (.ops [⟨some 17, none, .mov (.t 0)⟩, ⟨some 18, none, .mov (.t 1)⟩, ⟨some 19, none, .bin .gtr (.t 17) (.t 18)⟩])
  (.cond (.t 19) (.seq (.ops [⟨some 4, none, .mov (.v (.int .i64 1))⟩])
   .ret) .skip))
  (.seq (.ops [⟨some 4, none, .mov (.v (.int .i64 0))⟩])
  .ret)))))))), 20, [.tmp 4]⟩
theorem Tryd.ek61 : KnownE Tryd.prog 61 Tryd.ec61 := ⟨Tryd.f61, _, Tryd.func61, rfl, by kernel_rfl, rfl, by kernel_rfl, by kernel_rfl⟩

/-- cmp.Compare[uint64] -/
def Tryd.ec62 : EFn := ⟨(.seq (.ops [⟨some 4, none, .mov (.v (.int .i64 0))⟩])
  (.seq (.ops [⟨some 7, none, .mov (.t 0)⟩, ⟨some 8, none, .call 87 [(.t 7)]⟩, ⟨some 5, none, .mov (.t 8)⟩])
  (.seq (.ops [⟨some 9, none, .mov (.t 1)⟩, ⟨some 10, none, .call 87 [(.t 9)]⟩, ⟨some 6, none, .mov (.t 10)⟩])
  (.seq (.seq (.ops [⟨some 11, none, .mov (.t 5)⟩])
  (.cond (.t 11) (.seq (.seq (.ops [⟨some 12, none, .mov (.t 6)⟩])
   (.cond (.t 12) (.seq (.ops [⟨some 4, none, .mov (.v (.int .i64 0))⟩])
    .ret) .skip))
   (.seq (.ops [⟨some 4, none, .mov (.v (.int .i64 (-1)))⟩])
   .ret)) .skip))
  (.seq (.seq (.ops [⟨some 13, none, .mov (.t 6)⟩])
  (.cond (.t 13) (.seq (.ops [⟨some 4, none, .mov (.v (.int .i64 1))⟩])
   .ret) .skip))
  (.seq (.seq (.ops [⟨some 14, none, .mov (.t 0)⟩, ⟨some 15, none, .mov (.t 1)⟩, ⟨some 16, none, .bin .lss (.t 14) (.t 15)⟩])
  (.cond (.t 16) (.seq (.ops [⟨some 4, none, .mov (.v (.int .i64 (-1)))⟩])
   .ret) .skip))
  (.seq (.seq (.ops [⟨some 17, none, .mov (.t 0)⟩, ⟨some 18, none, .mov (.t 1)⟩, ⟨some 19, none, .bin .gtr (.t 17) (.t 18)⟩])
  (.cond (.t 19) (.seq (.ops [⟨some 4, none, .mov (.v (.int .i64 1))⟩])
   .ret) .skip))
  (.seq (.ops [⟨some 4, none, .mov (.v (.int .i64 0))⟩])
  .ret)))))))), 20, [.tmp 4]⟩
theorem Tryd.ek62 : KnownE Tryd.prog 62 Tryd.ec62 := ⟨Tryd.f62, _, Tryd.func62, rfl, by kernel_rfl, rfl, by kernel_rfl, by kernel_rfl⟩

/-- slices.Clone[[]redwax/api.Label,redwax/api.Label] -/
def Tryd.ec78 : EFn := ⟨(.seq (.ops [⟨some 2, none, .mov (.v (.slice none 0 0))⟩])
  (.seq (.seq (.ops [⟨some 3, none, .mov (.t 0)⟩, ⟨some 4, none, .more (.slNil false (.t 3))⟩])
  (.cond (.t 4) (.seq (.ops [⟨some 2, none, .mov (.v (.slice none 0 0))⟩])
   .ret) .skip))
  (.seq (.ops [⟨some 5, none, .bsl0 24⟩, ⟨some 6, none, .mov (.t 0)⟩, ⟨some 7, none, .app 61 24 2 16 (.agg #[.int .i64 0, .int .u64 0]) (.t 5) (.t 6)⟩, ⟨some 2, none, .mov (.t 7)⟩])
  .ret))), 8, [.tmp 2]⟩
theorem Tryd.ek78 : KnownE Tryd.prog 78 Tryd.ec78 := ⟨Tryd.f78, _, Tryd.func78, rfl, by kernel_rfl, rfl, by kernel_rfl, by kernel_rfl⟩

/-- slices.SortFunc[[]redwax/api.Label,redwax/api.Label] -/
def Tryd.ec79 : EFn := ⟨(.seq (.ops [⟨some 5, none, .mov (.t 0)⟩, ⟨some 6, none, .lenS (.t 5)⟩, ⟨some 4, none, .mov (.t 6)⟩])
  (.ops [⟨some 7, none, .mov (.t 0)⟩, ⟨some 8, none, .mov (.t 4)⟩, ⟨some 9, none, .mov (.t 4)⟩, ⟨some 10, none, .cvt .u64 (.t 9)⟩, ⟨some 11, none, .call 98 [(.t 10)]⟩, ⟨some 12, none, .mov (.t 1)⟩, ⟨some 13, none, .call 97 [(.t 7), (.v (.int .i64 0)), (.t 8), (.t 11), (.t 12)]⟩])), 14, []⟩
theorem Tryd.ek79 : KnownE Tryd.prog 79 Tryd.ec79 := ⟨Tryd.f79, _, Tryd.func79, rfl, by kernel_rfl, rfl, by kernel_rfl, by kernel_rfl⟩

/-- slices.Compact[[]redwax/api.Label,redwax/api.Label] -/
def Tryd.ec80 : EFn := ⟨(.seq (.ops [⟨some 2, none, .mov (.v (.slice none 0 0))⟩])
  (.seq (.seq (.ops [⟨some 6, none, .mov (.t 0)⟩, ⟨some 7, none, .lenS (.t 6)⟩, ⟨some 8, none, .bin .lss (.t 7) (.v (.int .i64 2))⟩])
  (.cond (.t 8) (.seq (.ops [⟨some 9, none, .mov (.t 0)⟩, ⟨some 2, none, .mov (.t 9)⟩])
   .ret) .skip))
  (.seq (.seq (.ops [⟨some 3, none, .mov (.v (.int .i64 1))⟩])
  (.block 0 (.loop [0, 3] (.seq (.seq (.ops [⟨some 10, none, .mov (.t 3)⟩, ⟨some 11, none, .mov (.t 0)⟩, ⟨some 12, none, .lenS (.t 11)⟩, ⟨some 13, none, .bin .lss (.t 10) (.t 12)⟩])
    (.cond (.t 13) .skip (.exit 0)))
    (.seq (.block 1 (.seq (.drawn [0, 0, 3, 7, 0, 0, 32, 112, 240, 511] 9 [⟨some 16, none, .mov (.t 0)⟩, ⟨some 17, none, .mov (.t 3)⟩, ⟨some 18, none, .ixS 2 (.t 16) (.t 17)⟩, ⟨some 19, none, .ldA 2 (.t 18)⟩, ⟨some 20, none, .mov (.t 0)⟩, ⟨some 21, none, .mov (.t 3)⟩, ⟨some 22, none, .bin .sub (.t 21) (.v (.int .i64 1))⟩, ⟨some 23, none, .ixS 2 (.t 20) (.t 22)⟩, ⟨some 24, none, .ldA 2 (.t 23)⟩, ⟨some 25, none, .eqA false 24 [.int .i64, .int .u64] (.t 19) (.t 24)⟩])
     (.cond (.t 25) (.seq (.ops [⟨some 26, none, .mov (.t 0)⟩, ⟨some 27, none, .mov (.t 3)⟩, ⟨some 28, none, .slS 2 (.t 26) (some (.t 27)) none⟩, ⟨some 4, none, .mov (.t 28)⟩])
      (.seq (.seq (.ops [⟨some 5, none, .mov (.v (.int .i64 1))⟩])
      (.block 2 (.loop [0, 3, 4, 5] (.seq (.seq (.ops [⟨some 29, none, .mov (.t 5)⟩, ⟨some 30, none, .mov (.t 4)⟩, ⟨some 31, none, .lenS (.t 30)⟩, ⟨some 32, none, .bin .lss (.t 29) (.t 31)⟩])
        (.cond (.t 32) .skip (.exit 2)))
        (.seq (.block 3 (.seq (.drawn [0, 0, 3, 7, 0, 0, 32, 112, 240, 511] 9 [⟨some 35, none, .mov (.t 4)⟩, ⟨some 36, none, .mov (.t 5)⟩, ⟨some 37, none, .ixS 2 (.t 35) (.t 36)⟩, ⟨some 38, none, .ldA 2 (.t 37)⟩, ⟨some 39, none, .mov (.t 4)⟩, ⟨some 40, none, .mov (.t 5)⟩, ⟨some 41, none, .bin .sub (.t 40) (.v (.int .i64 1))⟩, ⟨some 42, none, .ixS 2 (.t 39) (.t 41)⟩, ⟨some 43, none, .ldA 2 (.t 42)⟩, ⟨some 44, none, .eqA true 24 [.int .i64, .int .u64] (.t 38) (.t 43)⟩])
         (.cond (.t 44) (.seq (.ops [⟨some 45, none, .mov (.t 0)⟩, ⟨some 46, none, .mov (.t 3)⟩, ⟨some 47, none, .mov (.t 4)⟩, ⟨some 48, none, .mov (.t 5)⟩, ⟨some 49, none, .ixS 2 (.t 47) (.t 48)⟩, ⟨some 50, none, .ldA 2 (.t 49)⟩, ⟨some 51, none, .ixS 2 (.t 45) (.t 46)⟩, ⟨none, none, .st 2 (.t 51) (.t 50)⟩])
          (.ops [⟨some 52, none, .mov (.t 3)⟩, ⟨some 53, none, .bin .add (.t 52) (.v (.int .i64 1))⟩, ⟨some 3, none, .mov (.t 53)⟩])) .skip)))
        (.ops [⟨some 33, none, .mov (.t 5)⟩, ⟨some 34, none, .bin .add (.t 33) (.v (.int .i64 1))⟩, ⟨some 5, none, .mov (.t 34)⟩]))))))
      (.seq (.ops [⟨some 54, none, .mov (.t 0)⟩, ⟨some 55, none, .mov (.t 3)⟩, ⟨some 56, none, .slS 2 (.t 54) (some (.t 55)) none⟩, ⟨none, none, .more (.clr 24 2 (.agg #[.int .i64 0, .int .u64 0]) (.t 56))⟩])
      (.seq (.ops [⟨some 57, none, .mov (.t 0)⟩, ⟨some 58, none, .mov (.t 3)⟩, ⟨some 59, none, .slS 2 (.t 57) none (some (.t 58))⟩, ⟨some 2, none, .mov (.t 59)⟩])
      .ret)))) .skip)))
    (.ops [⟨some 14, none, .mov (.t 3)⟩, ⟨some 15, none, .bin .add (.t 14) (.v (.int .i64 1))⟩, ⟨some 3, none, .mov (.t 15)⟩]))))))
  (.seq (.ops [⟨some 60, none, .mov (.t 0)⟩, ⟨some 2, none, .mov (.t 60)⟩])
  .ret)))), 61, [.tmp 2]⟩
theorem Tryd.ek80 : KnownE Tryd.prog 80 Tryd.ec80 := ⟨Tryd.f80, _, Tryd.func80, rfl, by kernel_rfl, rfl, by kernel_rfl, by kernel_rfl⟩

/-- strings.Cut -/
def Tryd.ec81 : EFn := ⟨(.seq (.ops [⟨some 4, none, .mov (.v (.string ⟨#[]⟩))⟩, ⟨some 5, none, .mov (.v (.string ⟨#[]⟩))⟩, ⟨some 6, none, .mov (.v (.bool false))⟩])
  (.seq (.ops [⟨some 7, none, .mov (.t 0)⟩, ⟨some 8, none, .mov (.t 1)⟩, ⟨some 9, none, .call 99 [(.t 7), (.t 8)]⟩, ⟨some 10, none, .ext 0 (.t 9)⟩, ⟨some 11, none, .ext 1 (.t 9)⟩, ⟨some 12, none, .ext 2 (.t 9)⟩, ⟨some 4, none, .mov (.t 10)⟩, ⟨some 5, none, .mov (.t 11)⟩, ⟨some 6, none, .mov (.t 12)⟩])
  .ret)), 13, [.tmp 4, .tmp 5, .tmp 6]⟩
theorem Tryd.ek81 : KnownE Tryd.prog 81 Tryd.ec81 := ⟨Tryd.f81, _, Tryd.func81, rfl, by kernel_rfl, rfl, by kernel_rfl, by kernel_rfl⟩

/-- strconv.Atoi -/
def Tryd.ec82 : EFn := ⟨(.seq (.ops [⟨some 2, none, .mov (.v (.int .i64 0))⟩, ⟨some 3, none, .mov (.v .nilIface)⟩])
  (.seq (.ops [⟨some 7, none, .mov (.t 0)⟩, ⟨some 8, none, .call 100 [(.t 7)]⟩, ⟨some 6, none, .mov (.t 8)⟩, ⟨some 9, none, .ext 0 (.t 6)⟩, ⟨some 10, none, .ext 1 (.t 6)⟩, ⟨some 4, none, .mov (.t 9)⟩, ⟨some 5, none, .mov (.t 10)⟩])
  (.seq (.seq (.ops [⟨some 11, none, .mov (.t 5)⟩, ⟨some 12, none, .more (.eqI true (.t 11))⟩])
  (.cond (.t 12) (.seq (.ops [⟨some 13, none, .mov (.t 4)⟩, ⟨some 14, none, .mov (.t 0)⟩, ⟨some 15, none, .mov (.t 5)⟩, ⟨some 16, none, .call 101 [(.v (.string ⟨#[65, 116, 111, 105]⟩)), (.t 14), (.v (.int .i64 0)), (.v (.int .i64 0)), (.t 15)]⟩, ⟨some 2, none, .mov (.t 13)⟩, ⟨some 3, none, .mov (.t 16)⟩])
   .ret) .skip))
  (.seq (.ops [⟨some 17, none, .mov (.t 4)⟩, ⟨some 2, none, .mov (.t 17)⟩, ⟨some 3, none, .mov (.v .nilIface)⟩])
  .ret)))), 18, [.tmp 2, .tmp 3]⟩
theorem Tryd.ek82 : KnownE Tryd.prog 82 Tryd.ec82 := ⟨Tryd.f82, _, Tryd.func82, rfl, by kernel_rfl, rfl, by kernel_rfl, by kernel_rfl⟩

/-- strconv.ParseUint -/
def Tryd.ec83 : EFn := ⟨(.seq (.ops [⟨some 6, none, .mov (.v (.int .u64 0))⟩, ⟨some 7, none, .mov (.v .nilIface)⟩])
  (.seq (.ops [⟨some 11, none, .mov (.t 0)⟩, ⟨some 12, none, .mov (.t 1)⟩, ⟨some 13, none, .mov (.t 2)⟩, ⟨some 14, none, .call 102 [(.t 11), (.t 12), (.t 13)]⟩, ⟨some 10, none, .mov (.t 14)⟩, ⟨some 15, none, .ext 0 (.t 10)⟩, ⟨some 16, none, .ext 1 (.t 10)⟩, ⟨some 8, none, .mov (.t 15)⟩, ⟨some 9, none, .mov (.t 16)⟩])
  (.seq (.seq (.ops [⟨some 17, none, .mov (.t 9)⟩, ⟨some 18, none, .more (.eqI true (.t 17))⟩])
  (.cond (.t 18) (.seq (.ops [⟨some 19, none, .mov (.t 8)⟩, ⟨some 20, none, .mov (.t 0)⟩, ⟨some 21, none, .mov (.t 1)⟩, ⟨some 22, none, .mov (.t 2)⟩, ⟨some 23, none, .mov (.t 9)⟩, ⟨some 24, none, .call 101 [(.v (.string ⟨#[80, 97, 114, 115, 101, 85, 105, 110, 116]⟩)), (.t 20), (.t 21), (.t 22), (.t 23)]⟩, ⟨some 6, none, .mov (.t 19)⟩, ⟨some 7, none, .mov (.t 24)⟩])
   .ret) .skip))
  (.seq (.ops [⟨some 25, none, .mov (.t 8)⟩, ⟨some 6, none, .mov (.t 25)⟩, ⟨some 7, none, .mov (.v .nilIface)⟩])
  .ret)))), 26, [.tmp 6, .tmp 7]⟩
theorem Tryd.ek83 : KnownE Tryd.prog 83 Tryd.ec83 := ⟨Tryd.f83, _, Tryd.func83, rfl, by kernel_rfl, rfl, by kernel_rfl, by kernel_rfl⟩

/-- strconv.Itoa -/
def Tryd.ec84 : EFn := ⟨(.seq (.ops [⟨some 2, none, .mov (.v (.string ⟨#[]⟩))⟩])
  (.seq (.ops [⟨some 3, none, .mov (.t 0)⟩, ⟨some 4, none, .call 103 [(.t 3)]⟩, ⟨some 2, none, .mov (.t 4)⟩])
  .ret)), 5, [.tmp 2]⟩
theorem Tryd.ek84 : KnownE Tryd.prog 84 Tryd.ec84 := ⟨Tryd.f84, _, Tryd.func84, rfl, by kernel_rfl, rfl, by kernel_rfl, by kernel_rfl⟩

/-- strconv.FormatUint -/
def Tryd.ec85 : EFn := ⟨(.seq (.ops [⟨some 4, none, .mov (.v (.string ⟨#[]⟩))⟩])
  (.seq (.ops [⟨some 5, none, .mov (.t 0)⟩, ⟨some 6, none, .mov (.t 1)⟩, ⟨some 7, none, .call 104 [(.t 5), (.t 6)]⟩, ⟨some 4, none, .mov (.t 7)⟩])
  .ret)), 8, [.tmp 4]⟩
theorem Tryd.ek85 : KnownE Tryd.prog 85 Tryd.ec85 := ⟨Tryd.f85, _, Tryd.func85, rfl, by kernel_rfl, rfl, by kernel_rfl, by kernel_rfl⟩

/-- cmp.isNaN[int] -/
def Tryd.ec86 : EFn := ⟨(.seq (.ops [⟨some 2, none, .mov (.v (.bool false))⟩])
  (.seq (.ops [⟨some 3, none, .mov (.t 0)⟩, ⟨some 4, none, .mov (.t 0)⟩, ⟨some 5, none, .bin .neq (.t 3) (.t 4)⟩, ⟨some 2, none, .mov (.t 5)⟩])
  .ret)), 6, [.tmp 2]⟩
theorem Tryd.ek86 : KnownE Tryd.prog 86 Tryd.ec86 := ⟨Tryd.f86, _, Tryd.func86, rfl, by kernel_rfl, rfl, by kernel_rfl, by kernel_rfl⟩

/-- cmp.isNaN[uint64] -/
def Tryd.ec87 : EFn := ⟨(.seq (.ops [⟨some 2, none, .mov (.v (.bool false))⟩])
  (.seq (.ops [⟨some 3, none, .mov (.t 0)⟩, ⟨some 4, none, .mov (.t 0)⟩, ⟨some 5, none, .bin .neq (.t 3) (.t 4)⟩, ⟨some 2, none, .mov (.t 5)⟩])
  .ret)), 6, [.tmp 2]⟩
theorem Tryd.ek87 : KnownE Tryd.prog 87 Tryd.ec87 := ⟨Tryd.f87, _, Tryd.func87, rfl, by kernel_rfl, rfl, by kernel_rfl, by kernel_rfl⟩

/-- slices.pdqsortCmpFunc[redwax/api.Label] -/
def Tryd.ec97 : EFn := ⟨(.seq (.ops [⟨some 10, none, .mov (.v (.bool true))⟩])
  (.seq (.ops [⟨some 11, none, .mov (.v (.bool true))⟩])
  (.block 0 (.loop [0, 1, 2, 3, 4, 10, 11] (.block 1 (.seq (.ops [⟨some 21, none, .mov (.t 2)⟩, ⟨some 22, none, .mov (.t 1)⟩, ⟨some 23, none, .bin .sub (.t 21) (.t 22)⟩, ⟨some 12, none, .mov (.t 23)⟩])
     (.seq (.seq (.ops [⟨some 24, none, .mov (.t 12)⟩, ⟨some 25, none, .bin .leq (.t 24) (.v (.int .i64 12))⟩])
     (.cond (.t 25) (.seq (.ops [⟨some 26, none, .mov (.t 0)⟩, ⟨some 27, none, .mov (.t 1)⟩, ⟨some 28, none, .mov (.t 2)⟩, ⟨some 29, none, .mov (.t 4)⟩, ⟨some 30, none, .call 112 [(.t 26), (.t 27), (.t 28), (.t 29)]⟩])
      .ret) .skip))
     (.seq (.seq (.ops [⟨some 31, none, .mov (.t 3)⟩, ⟨some 32, none, .bin .eql (.t 31) (.v (.int .i64 0))⟩])
     (.cond (.t 32) (.seq (.ops [⟨some 33, none, .mov (.t 0)⟩, ⟨some 34, none, .mov (.t 1)⟩, ⟨some 35, none, .mov (.t 2)⟩, ⟨some 36, none, .mov (.t 4)⟩, ⟨some 37, none, .call 113 [(.t 33), (.t 34), (.t 35), (.t 36)]⟩])
      .ret) .skip))
     (.seq (.seq (.ops [⟨some 38, none, .mov (.t 10)⟩, ⟨some 39, none, .not (.t 38)⟩])
     (.cond (.t 39) (.seq (.ops [⟨some 40, none, .mov (.t 0)⟩, ⟨some 41, none, .mov (.t 1)⟩, ⟨some 42, none, .mov (.t 2)⟩, ⟨some 43, none, .mov (.t 4)⟩, ⟨some 44, none, .call 114 [(.t 40), (.t 41), (.t 42), (.t 43)]⟩])
      (.ops [⟨some 45, none, .mov (.t 3)⟩, ⟨some 46, none, .bin .sub (.t 45) (.v (.int .i64 1))⟩, ⟨some 3, none, .mov (.t 46)⟩])) .skip))
     (.seq (.ops [⟨some 48, none, .mov (.t 0)⟩, ⟨some 49, none, .mov (.t 1)⟩, ⟨some 50, none, .mov (.t 2)⟩, ⟨some 51, none, .mov (.t 4)⟩, ⟨some 52, none, .call 115 [(.t 48), (.t 49), (.t 50), (.t 51)]⟩, ⟨some 47, none, .mov (.t 52)⟩, ⟨some 53, none, .ext 0 (.t 47)⟩, ⟨some 54, none, .ext 1 (.t 47)⟩, ⟨some 13, none, .mov (.t 53)⟩, ⟨some 14, none, .mov (.t 54)⟩])
     (.seq (.seq (.ops [⟨some 55, none, .mov (.t 14)⟩, ⟨some 56, none, .bin .eql (.t 55) (.v (.int .i64 2))⟩])
     (.cond (.t 56) (.seq (.ops [⟨some 57, none, .mov (.t 0)⟩, ⟨some 58, none, .mov (.t 1)⟩, ⟨some 59, none, .mov (.t 2)⟩, ⟨some 60, none, .mov (.t 4)⟩, ⟨some 61, none, .call 116 [(.t 57), (.t 58), (.t 59), (.t 60)]⟩])
      (.seq (.ops [⟨some 62, none, .mov (.t 2)⟩, ⟨some 63, none, .bin .sub (.t 62) (.v (.int .i64 1))⟩, ⟨some 64, none, .mov (.t 13)⟩, ⟨some 65, none, .mov (.t 1)⟩, ⟨some 66, none, .bin .sub (.t 64) (.t 65)⟩, ⟨some 67, none, .bin .sub (.t 63) (.t 66)⟩, ⟨some 13, none, .mov (.t 67)⟩])
      (.ops [⟨some 14, none, .mov (.v (.int .i64 1))⟩]))) .skip))
     (.seq (.seq (.ops [⟨some 68, none, .mov (.t 10)⟩, ⟨some 69, none, .mov (.t 68)⟩, ⟨some 70, (some (69, true)), .mov (.t 11)⟩, ⟨some 71, none, .pick (.t 69) (.t 70) (.v (.bool false))⟩, ⟨some 72, none, .mov (.t 71)⟩, ⟨some 73, (some (72, true)), .mov (.t 14)⟩, ⟨some 74, (some (72, true)), .bin .eql (.t 73) (.v (.int .i64 1))⟩, ⟨some 75, none, .pick (.t 72) (.t 74) (.v (.bool false))⟩])
     (.cond (.t 75) (.seq (.ops [⟨some 76, none, .mov (.t 0)⟩, ⟨some 77, none, .mov (.t 1)⟩, ⟨some 78, none, .mov (.t 2)⟩, ⟨some 79, none, .mov (.t 4)⟩, ⟨some 80, none, .call 117 [(.t 76), (.t 77), (.t 78), (.t 79)]⟩])
      (.cond (.t 80) .ret .skip)) .skip))
     (.seq (.seq (.drawn [0, 1, 3, 7, 7, 7, 39, 119, 247, 7, 7, 1543, 3591, 8191, 16383, 32767, 65535] 13 [⟨some 81, none, .mov (.t 1)⟩, ⟨some 82, none, .bin .gtr (.t 81) (.v (.int .i64 0))⟩, ⟨some 83, none, .mov (.t 82)⟩, ⟨some 84, (some (83, true)), .mov (.t 4)⟩, ⟨some 85, (some (83, true)), .mov (.t 0)⟩, ⟨some 86, (some (83, true)), .mov (.t 1)⟩, ⟨some 87, (some (83, true)), .bin .sub (.t 86) (.v (.int .i64 1))⟩, ⟨some 88, (some (83, true)), .ixS 2 (.t 85) (.t 87)⟩, ⟨some 89, (some (83, true)), .ldA 2 (.t 88)⟩, ⟨some 90, (some (83, true)), .mov (.t 0)⟩, ⟨some 91, (some (83, true)), .mov (.t 13)⟩, ⟨some 92, (some (83, true)), .ixS 2 (.t 90) (.t 91)⟩, ⟨some 93, (some (83, true)), .ldA 2 (.t 92)⟩, ⟨some 94, (some (83, true)), .callv (.t 84) [(.t 89), (.t 93)]⟩, ⟨some 95, (some (83, true)), .bin .lss (.t 94) (.v (.int .i64 0))⟩, ⟨some 96, (some (83, true)), .not (.t 95)⟩, ⟨some 97, none, .pick (.t 83) (.t 96) (.v (.bool false))⟩])
     (.cond (.t 97) (.seq (.ops [⟨some 98, none, .mov (.t 0)⟩, ⟨some 99, none, .mov (.t 1)⟩, ⟨some 100, none, .mov (.t 2)⟩, ⟨some 101, none, .mov (.t 13)⟩, ⟨some 102, none, .mov (.t 4)⟩, ⟨some 103, none, .call 118 [(.t 98), (.t 99), (.t 100), (.t 101), (.t 102)]⟩, ⟨some 15, none, .mov (.t 103)⟩])
      (.seq (.ops [⟨some 104, none, .mov (.t 15)⟩, ⟨some 1, none, .mov (.t 104)⟩])
      (.exit 1))) .skip))
     (.seq (.ops [⟨some 106, none, .mov (.t 0)⟩, ⟨some 107, none, .mov (.t 1)⟩, ⟨some 108, none, .mov (.t 2)⟩, ⟨some 109, none, .mov (.t 13)⟩, ⟨some 110, none, .mov (.t 4)⟩, ⟨some 111, none, .call 119 [(.t 106), (.t 107), (.t 108), (.t 109), (.t 110)]⟩, ⟨some 105, none, .mov (.t 111)⟩, ⟨some 112, none, .ext 0 (.t 105)⟩, ⟨some 113, none, .ext 1 (.t 105)⟩, ⟨some 16, none, .mov (.t 112)⟩, ⟨some 17, none, .mov (.t 113)⟩])
     (.seq (.ops [⟨some 114, none, .mov (.t 17)⟩, ⟨some 11, none, .mov (.t 114)⟩])
     (.seq (.ops [⟨some 115, none, .mov (.t 16)⟩, ⟨some 116, none, .mov (.t 1)⟩, ⟨some 117, none, .bin .sub (.t 115) (.t 116)⟩, ⟨some 118, none, .mov (.t 2)⟩, ⟨some 119, none, .mov (.t 16)⟩, ⟨some 120, none, .bin .sub (.t 118) (.t 119)⟩, ⟨some 18, none, .mov (.t 117)⟩, ⟨some 19, none, .mov (.t 120)⟩])
     (.seq (.ops [⟨some 121, none, .mov (.t 12)⟩, ⟨some 122, none, .bin .quo (.t 121) (.v (.int .i64 8))⟩, ⟨some 20, none, .mov (.t 122)⟩])
     (.seq (.ops [⟨some 123, none, .mov (.t 18)⟩, ⟨some 124, none, .mov (.t 19)⟩, ⟨some 125, none, .bin .lss (.t 123) (.t 124)⟩])
     (.cond (.t 125) (.seq (.ops [⟨some 126, none, .mov (.t 18)⟩, ⟨some 127, none, .mov (.t 20)⟩, ⟨some 128, none, .bin .geq (.t 126) (.t 127)⟩, ⟨some 10, none, .mov (.t 128)⟩])
      (.seq (.ops [⟨some 129, none, .mov (.t 0)⟩, ⟨some 130, none, .mov (.t 1)⟩, ⟨some 131, none, .mov (.t 16)⟩, ⟨some 132, none, .mov (.t 3)⟩, ⟨some 133, none, .mov (.t 4)⟩, ⟨some 134, none, .call 97 [(.t 129), (.t 130), (.t 131), (.t 132), (.t 133)]⟩])
      (.ops [⟨some 135, none, .mov (.t 16)⟩, ⟨some 136, none, .bin .add (.t 135) (.v (.int .i64 1))⟩, ⟨some 1, none, .mov (.t 136)⟩]))) (.seq (.ops [⟨some 137, none, .mov (.t 19)⟩, ⟨some 138, none, .mov (.t 20)⟩, ⟨some 139, none, .bin .geq (.t 137) (.t 138)⟩, ⟨some 10, none, .mov (.t 139)⟩])
      (.seq (.ops [⟨some 140, none, .mov (.t 0)⟩, ⟨some 141, none, .mov (.t 16)⟩, ⟨some 142, none, .bin .add (.t 141) (.v (.int .i64 1))⟩, ⟨some 143, none, .mov (.t 2)⟩, ⟨some 144, none, .mov (.t 3)⟩, ⟨some 145, none, .mov (.t 4)⟩, ⟨some 146, none, .call 97 [(.t 140), (.t 142), (.t 143), (.t 144), (.t 145)]⟩])
      (.ops [⟨some 147, none, .mov (.t 16)⟩, ⟨some 2, none, .mov (.t 147)⟩])))))))))))))))))))))), 148, []⟩
theorem Tryd.ek97 : KnownE Tryd.prog 97 Tryd.ec97 := ⟨Tryd.f97, _, Tryd.func97, rfl, by kernel_rfl, rfl, by kernel_rfl, by kernel_rfl⟩

/-- math/bits.Len -/
def Tryd.ec98 : EFn := ⟨(.seq (.ops [⟨some 2, none, .mov (.v (.int .i64 0))⟩])
  (.seq (.cond (.v (.bool false)) (.seq (.ops [⟨some 3, none, .mov (.t 0)⟩, ⟨some 4, none, .cvt .u32 (.t 3)⟩, ⟨some 5, none, .call 120 [(.t 4)]⟩, ⟨some 2, none, .mov (.t 5)⟩])
   .ret) .skip)
  (.seq (.ops [⟨some 6, none, .mov (.t 0)⟩, ⟨some 7, none, .call 121 [(.t 6)]⟩, ⟨some 2, none, .mov (.t 7)⟩])
  .ret))), 8, [.tmp 2]⟩
theorem Tryd.ek98 : KnownE Tryd.prog 98 Tryd.ec98 := ⟨Tryd.f98, _, Tryd.func98, rfl, by kernel_rfl, rfl, by kernel_rfl, by kernel_rfl⟩

/-- internal/stringslite.Cut -/
def Tryd.ec99 : EFn := ⟨(.seq (.ops [⟨some 4, none, .mov (.v (.string ⟨#[]⟩))⟩, ⟨some 5, none, .mov (.v (.string ⟨#[]⟩))⟩, ⟨some 6, none, .mov (.v (.bool false))⟩])
  (.seq (.seq (.ops [⟨some 8, none, .mov (.t 0)⟩, ⟨some 9, none, .mov (.t 1)⟩, ⟨some 10, none, .call 122 [(.t 8), (.t 9)]⟩, ⟨some 7, none, .mov (.t 10)⟩])
  (.seq (.ops [⟨some 11, none, .mov (.t 7)⟩, ⟨some 12, none, .bin .geq (.t 11) (.v (.int .i64 0))⟩])
  (.cond (.t 12) (.seq (.drawn [0, 0, 3, 0, 0, 0, 32, 112, 248, 7, 1023, 2047] 10 [⟨some 13, none, .mov (.t 0)⟩, ⟨some 14, none, .mov (.t 7)⟩, ⟨some 15, none, .slStr (.t 13) none (some (.t 14))⟩, ⟨some 16, none, .mov (.t 0)⟩, ⟨some 17, none, .mov (.t 7)⟩, ⟨some 18, none, .mov (.t 1)⟩, ⟨some 19, none, .lenStr (.t 18)⟩, ⟨some 20, none, .bin .add (.t 17) (.t 19)⟩, ⟨some 21, none, .slStr (.t 16) (some (.t 20)) none⟩, ⟨some 4, none, .mov (.t 15)⟩, ⟨some 5, none, .mov (.t 21)⟩, ⟨some 6, none, .mov (.v (.bool true))⟩])
   .ret) .skip)))
  (.seq (.ops [⟨some 22, none, .mov (.t 0)⟩, ⟨some 4, none, .mov (.t 22)⟩, ⟨some 5, none, .mov (.v (.string ⟨#[]⟩))⟩, ⟨some 6, none, .mov (.v (.bool false))⟩])
  .ret))), 23, [.tmp 4, .tmp 5, .tmp 6]⟩
theorem Tryd.ek99 : KnownE Tryd.prog 99 Tryd.ec99 := ⟨Tryd.f99, _, Tryd.func99, rfl, by kernel_rfl, rfl, by kernel_rfl, by kernel_rfl⟩

/-- internal/strconv.Atoi -/
def Tryd.ec100 : EFn := ⟨(.seq (.ops [⟨some 2, none, .mov (.v (.int .i64 0))⟩, ⟨some 3, none, .mov (.v .nilIface)⟩])
  (.seq (.ops [⟨some 11, none, .mov (.t 0)⟩, ⟨some 12, none, .lenStr (.t 11)⟩, ⟨some 4, none, .mov (.t 12)⟩])
  (.seq (.seq (.ops [⟨some 13, none, .mov (.v (.bool false))⟩, ⟨some 14, (some (13, true)), .mov (.t 4)⟩, ⟨some 15, (some (13, true)), .bin .lss (.v (.int .i64 0)) (.t 14)⟩, ⟨some 16, (some (13, true)), .mov (.t 15)⟩, ⟨some 17, (some (16, true)), .mov (.t 4)⟩, ⟨some 18, (some (16, true)), .bin .lss (.t 17) (.v (.int .i64 10))⟩, ⟨some 19, (some (13, true)), .pick (.t 16) (.t 18) (.v (.bool false))⟩, ⟨some 20, none, .pick (.t 13) (.t 19) (.v (.bool false))⟩, ⟨some 21, none, .mov (.t 20)⟩, ⟨some 22, (some (21, false)), .mov (.v (.bool true))⟩, ⟨some 23, (some (22, true)), .mov (.t 4)⟩, ⟨some 24, (some (22, true)), .bin .lss (.v (.int .i64 0)) (.t 23)⟩, ⟨some 25, (some (22, true)), .mov (.t 24)⟩, ⟨some 26, (some (25, true)), .mov (.t 4)⟩, ⟨some 27, (some (25, true)), .bin .lss (.t 26) (.v (.int .i64 19))⟩, ⟨some 28, (some (22, true)), .pick (.t 25) (.t 27) (.v (.bool false))⟩, ⟨some 29, (some (21, false)), .pick (.t 22) (.t 28) (.v (.bool false))⟩, ⟨some 30, none, .pick (.t 21) (.v (.bool true)) (.t 29)⟩])
  (.cond (.t 30) (.seq (.ops [⟨some 31, none, .mov (.t 0)⟩, ⟨some 5, none, .mov (.t 31)⟩])
   (.seq (.seq (.ops [⟨some 32, none, .mov (.t 0)⟩, ⟨some 33, none, .ixStr (.t 32) (.v (.int .i64 0))⟩, ⟨some 34, none, .bin .eql (.t 33) (.v (.int .u8 45))⟩, ⟨some 35, none, .mov (.t 34)⟩, ⟨some 36, (some (35, false)), .mov (.t 0)⟩, ⟨some 37, (some (35, false)), .ixStr (.t 36) (.v (.int .i64 0))⟩, ⟨some 38, (some (35, false)), .bin .eql (.t 37) (.v (.int .u8 43))⟩, ⟨some 39, none, .pick (.t 35) (.v (.bool true)) (.t 38)⟩])
   (.cond (.t 39) (.seq (.ops [⟨some 40, none, .mov (.t 0)⟩, ⟨some 41, none, .slStr (.t 40) (some (.v (.int .i64 1))) none⟩, ⟨some 0, none, .mov (.t 41)⟩])
    (.seq (.ops [⟨some 42, none, .mov (.t 0)⟩, ⟨some 43, none, .lenStr (.t 42)⟩, ⟨some 44, none, .bin .lss (.t 43) (.v (.int .i64 1))⟩])
    (.cond (.t 44) (.seq (.ops [⟨some 45, none, .more (.mkI 120 (.v (.int .i64 2)))⟩, ⟨some 2, none, .mov (.v (.int .i64 0))⟩, ⟨some 3, none, .mov (.t 45)⟩])
     .ret) .skip))) .skip))
   (.seq (.ops [⟨some 6, none, .mov (.v (.int .i64 0))⟩])
   (.seq (.seq (.ops [⟨some 46, none, .mov (.t 0)⟩, ⟨some 47, none, .bytesOf 5 (.t 46)⟩, ⟨some 48, none, .lenS (.t 47)⟩, ⟨some 49, none, .mov (.v (.int .i64 0))⟩])
   (.block 0 (.loop [5, 6, 47, 48, 49] (.seq (.ops [⟨some 50, none, .bin .lss (.t 49) (.t 48)⟩])
     (.seq (.cond (.t 50) .skip (.exit 0))
     (.seq (.block 1 (.seq (.ops [⟨some 51, none, .ixS 1 (.t 47) (.t 49)⟩, ⟨some 52, none, .ld (.t 51)⟩, ⟨some 8, none, .mov (.t 52)⟩])
      (.seq (.ops [⟨some 53, none, .mov (.t 8)⟩, ⟨some 54, none, .bin .sub (.t 53) (.v (.int .u8 48))⟩, ⟨some 8, none, .mov (.t 54)⟩])
      (.seq (.seq (.ops [⟨some 55, none, .mov (.t 8)⟩, ⟨some 56, none, .bin .gtr (.t 55) (.v (.int .u8 9))⟩])
      (.cond (.t 56) (.seq (.ops [⟨some 57, none, .more (.mkI 120 (.v (.int .i64 2)))⟩, ⟨some 2, none, .mov (.v (.int .i64 0))⟩, ⟨some 3, none, .mov (.t 57)⟩])
       .ret) .skip))
      (.ops [⟨some 58, none, .mov (.t 6)⟩, ⟨some 59, none, .bin .mul (.t 58) (.v (.int .i64 10))⟩, ⟨some 60, none, .mov (.t 8)⟩, ⟨some 61, none, .cvt .i64 (.t 60)⟩, ⟨some 62, none, .bin .add (.t 59) (.t 61)⟩, ⟨some 6, none, .mov (.t 62)⟩])))))
     (.ops [⟨some 63, none, .bin .add (.t 49) (.v (.int .i64 1))⟩, ⟨some 49, none, .mov (.t 63)⟩])))))))
   (.seq (.seq (.ops [⟨some 64, none, .mov (.t 5)⟩, ⟨some 65, none, .ixStr (.t 64) (.v (.int .i64 0))⟩, ⟨some 66, none, .bin .eql (.t 65) (.v (.int .u8 45))⟩])
   (.cond (.t 66) (.ops [⟨some 67, none, .mov (.t 6)⟩, ⟨some 68, none, .more (.neg (.t 67))⟩, ⟨some 6, none, .mov (.t 68)⟩]) .skip))
   (.seq (.ops [⟨some 69, none, .mov (.t 6)⟩, ⟨some 2, none, .mov (.t 69)⟩, ⟨some 3, none, .mov (.v .nilIface)⟩])
   .ret)))))) .skip))
  (.seq (.ops [⟨some 71, none, .mov (.t 0)⟩, ⟨some 72, none, .call 123 [(.t 71), (.v (.int .i64 10)), (.v (.int .i64 0))]⟩, ⟨some 70, none, .mov (.t 72)⟩, ⟨some 73, none, .ext 0 (.t 70)⟩, ⟨some 74, none, .ext 1 (.t 70)⟩, ⟨some 9, none, .mov (.t 73)⟩, ⟨some 10, none, .mov (.t 74)⟩])
  (.seq (.ops [⟨some 75, none, .mov (.t 9)⟩, ⟨some 76, none, .mov (.t 10)⟩, ⟨some 2, none, .mov (.t 75)⟩, ⟨some 3, none, .mov (.t 76)⟩])
  .ret))))), 77, [.tmp 2, .tmp 3]⟩
theorem Tryd.ek100 : KnownE Tryd.prog 100 Tryd.ec100 := ⟨Tryd.f100, _, Tryd.func100, rfl, by kernel_rfl, rfl, by kernel_rfl, by kernel_rfl⟩

/-- strconv.toError -/
def Tryd.ec101 : EFn := ⟨(.seq (.ops [⟨some 10, none, .mov (.v .nilIface)⟩])
  (.seq (.seq (.ops [⟨some 11, none, .mov (.t 4)⟩])
  (.block 0 (.seq (.ops [⟨some 13, none, .more (.mkI 120 (.v (.int .i64 2)))⟩, ⟨some 14, none, .more (.eqJ false [(2, .i64), (3, .i64), (5, .u8), (6, .u8), (12, .u64), (21, .i32), (22, .u64), (27, .i64), (94, .u64), (110, .i64), (118, .u32), (120, .i64), (137, .u64), (172, .u8), (173, .u8), (175, .i32), (176, .i32)] (.t 11) (.t 13))⟩, ⟨some 12, none, .mov (.t 14)⟩])
   (.cond (.t 12) (.seq (.ops [⟨some 15, none, .mov (.t 0)⟩, ⟨some 16, none, .mov (.t 1)⟩, ⟨some 17, none, .call 124 [(.t 15), (.t 16)]⟩, ⟨some 18, none, .more (.mkI 124 (.t 17))⟩, ⟨some 10, none, .mov (.t 18)⟩])
    .ret) (.seq (.ops [⟨some 20, none, .more (.mkI 120 (.v (.int .i64 1)))⟩, ⟨some 21, none, .more (.eqJ false [(2, .i64), (3, .i64), (5, .u8), (6, .u8), (12, .u64), (21, .i32), (22, .u64), (27, .i64), (94, .u64), (110, .i64), (118, .u32), (120, .i64), (137, .u64), (172, .u8), (173, .u8), (175, .i32), (176, .i32)] (.t 11) (.t 20))⟩, ⟨some 19, none, .mov (.t 21)⟩])
    (.cond (.t 19) (.seq (.ops [⟨some 22, none, .mov (.t 0)⟩, ⟨some 23, none, .mov (.t 1)⟩, ⟨some 24, none, .call 125 [(.t 22), (.t 23)]⟩, ⟨some 25, none, .more (.mkI 124 (.t 24))⟩, ⟨some 10, none, .mov (.t 25)⟩])
     .ret) (.seq (.ops [⟨some 27, none, .more (.mkI 120 (.v (.int .i64 3)))⟩, ⟨some 28, none, .more (.eqJ false [(2, .i64), (3, .i64), (5, .u8), (6, .u8), (12, .u64), (21, .i32), (22, .u64), (27, .i64), (94, .u64), (110, .i64), (118, .u32), (120, .i64), (137, .u64), (172, .u8), (173, .u8), (175, .i32), (176, .i32)] (.t 11) (.t 27))⟩, ⟨some 26, none, .mov (.t 28)⟩])
     (.cond (.t 26) (.seq (.ops [⟨some 29, none, .mov (.t 0)⟩, ⟨some 30, none, .mov (.t 1)⟩, ⟨some 31, none, .mov (.t 2)⟩, ⟨some 32, none, .call 126 [(.t 29), (.t 30), (.t 31)]⟩, ⟨some 33, none, .more (.mkI 124 (.t 32))⟩, ⟨some 10, none, .mov (.t 33)⟩])
      .ret) (.seq (.ops [⟨some 35, none, .more (.mkI 120 (.v (.int .i64 4)))⟩, ⟨some 36, none, .more (.eqJ false [(2, .i64), (3, .i64), (5, .u8), (6, .u8), (12, .u64), (21, .i32), (22, .u64), (27, .i64), (94, .u64), (110, .i64), (118, .u32), (120, .i64), (137, .u64), (172, .u8), (173, .u8), (175, .i32), (176, .i32)] (.t 11) (.t 35))⟩, ⟨some 34, none, .mov (.t 36)⟩])
      (.cond (.t 34) (.seq (.ops [⟨some 37, none, .mov (.t 0)⟩, ⟨some 38, none, .mov (.t 1)⟩, ⟨some 39, none, .mov (.t 3)⟩, ⟨some 40, none, .call 127 [(.t 37), (.t 38), (.t 39)]⟩, ⟨some 41, none, .more (.mkI 124 (.t 40))⟩, ⟨some 10, none, .mov (.t 41)⟩])
       .ret) .skip))))))))))
  (.seq (.ops [⟨some 42, none, .mov (.t 4)⟩, ⟨some 10, none, .mov (.t 42)⟩])
  .ret))), 43, [.tmp 10]⟩
theorem Tryd.ek101 : KnownE Tryd.prog 101 Tryd.ec101 := ⟨Tryd.f101, _, Tryd.func101, rfl, by kernel_rfl, rfl, by kernel_rfl, by kernel_rfl⟩

/-- internal/strconv.ParseUint -/
def Tryd.ec102 : EFn := ⟨(.seq (.ops [⟨some 6, none, .mov (.v (.int .u64 0))⟩, ⟨some 7, none, .mov (.v .nilIface)⟩])
  (.seq (.seq (.ops [⟨some 18, none, .mov (.t 0)⟩, ⟨some 19, none, .bin .eql (.t 18) (.v (.string ⟨#[]⟩))⟩])
  (.cond (.t 19) (.seq (.ops [⟨some 20, none, .more (.mkI 120 (.v (.int .i64 2)))⟩, ⟨some 6, none, .mov (.v (.int .u64 0))⟩, ⟨some 7, none, .mov (.t 20)⟩])
   .ret) .skip))
  (.seq (.ops [⟨some 21, none, .mov (.t 1)⟩, ⟨some 22, none, .bin .eql (.t 21) (.v (.int .i64 0))⟩, ⟨some 8, none, .mov (.t 22)⟩])
  (.seq (.ops [⟨some 23, none, .mov (.t 0)⟩, ⟨some 9, none, .mov (.t 23)⟩])
  (.seq (.block 0 (.seq (.ops [⟨some 26, none, .mov (.t 1)⟩, ⟨some 27, none, .bin .leq (.v (.int .i64 2)) (.t 26)⟩, ⟨some 28, none, .mov (.t 27)⟩, ⟨some 29, (some (28, true)), .mov (.t 1)⟩, ⟨some 30, (some (28, true)), .bin .leq (.t 29) (.v (.int .i64 36))⟩, ⟨some 31, none, .pick (.t 28) (.t 30) (.v (.bool false))⟩, ⟨some 25, none, .mov (.t 31)⟩])
   (.cond (.t 25) .skip (.seq (.ops [⟨some 33, none, .mov (.t 1)⟩, ⟨some 34, none, .bin .eql (.t 33) (.v (.int .i64 0))⟩, ⟨some 32, none, .mov (.t 34)⟩])
    (.cond (.t 32) (.seq (.ops [⟨some 1, none, .mov (.v (.int .i64 10))⟩])
     (.seq (.ops [⟨some 35, none, .mov (.t 0)⟩, ⟨some 36, none, .ixStr (.t 35) (.v (.int .i64 0))⟩, ⟨some 37, none, .bin .eql (.t 36) (.v (.int .u8 48))⟩])
     (.cond (.t 37) (.block 1 (.seq (.ops [⟨some 41, none, .mov (.t 0)⟩, ⟨some 42, none, .lenStr (.t 41)⟩, ⟨some 43, none, .bin .geq (.t 42) (.v (.int .i64 3))⟩, ⟨some 44, none, .mov (.t 43)⟩, ⟨some 45, (some (44, true)), .mov (.t 0)⟩, ⟨some 46, (some (44, true)), .ixStr (.t 45) (.v (.int .i64 1))⟩, ⟨some 47, (some (44, true)), .call 128 [(.t 46)]⟩, ⟨some 48, (some (44, true)), .bin .eql (.t 47) (.v (.int .u8 98))⟩, ⟨some 49, none, .pick (.t 44) (.t 48) (.v (.bool false))⟩, ⟨some 40, none, .mov (.t 49)⟩])
       (.cond (.t 40) (.seq (.ops [⟨some 1, none, .mov (.v (.int .i64 2))⟩])
        (.ops [⟨some 50, none, .mov (.t 0)⟩, ⟨some 51, none, .slStr (.t 50) (some (.v (.int .i64 2))) none⟩, ⟨some 0, none, .mov (.t 51)⟩])) (.seq (.ops [⟨some 53, none, .mov (.t 0)⟩, ⟨some 54, none, .lenStr (.t 53)⟩, ⟨some 55, none, .bin .geq (.t 54) (.v (.int .i64 3))⟩, ⟨some 56, none, .mov (.t 55)⟩, ⟨some 57, (some (56, true)), .mov (.t 0)⟩, ⟨some 58, (some (56, true)), .ixStr (.t 57) (.v (.int .i64 1))⟩, ⟨some 59, (some (56, true)), .call 128 [(.t 58)]⟩, ⟨some 60, (some (56, true)), .bin .eql (.t 59) (.v (.int .u8 111))⟩, ⟨some 61, none, .pick (.t 56) (.t 60) (.v (.bool false))⟩, ⟨some 52, none, .mov (.t 61)⟩])
        (.cond (.t 52) (.seq (.ops [⟨some 1, none, .mov (.v (.int .i64 8))⟩])
         (.ops [⟨some 62, none, .mov (.t 0)⟩, ⟨some 63, none, .slStr (.t 62) (some (.v (.int .i64 2))) none⟩, ⟨some 0, none, .mov (.t 63)⟩])) (.seq (.ops [⟨some 65, none, .mov (.t 0)⟩, ⟨some 66, none, .lenStr (.t 65)⟩, ⟨some 67, none, .bin .geq (.t 66) (.v (.int .i64 3))⟩, ⟨some 68, none, .mov (.t 67)⟩, ⟨some 69, (some (68, true)), .mov (.t 0)⟩, ⟨some 70, (some (68, true)), .ixStr (.t 69) (.v (.int .i64 1))⟩, ⟨some 71, (some (68, true)), .call 128 [(.t 70)]⟩, ⟨some 72, (some (68, true)), .bin .eql (.t 71) (.v (.int .u8 120))⟩, ⟨some 73, none, .pick (.t 68) (.t 72) (.v (.bool false))⟩, ⟨some 64, none, .mov (.t 73)⟩])
         (.cond (.t 64) (.seq (.ops [⟨some 1, none, .mov (.v (.int .i64 16))⟩])
          (.ops [⟨some 74, none, .mov (.t 0)⟩, ⟨some 75, none, .slStr (.t 74) (some (.v (.int .i64 2))) none⟩, ⟨some 0, none, .mov (.t 75)⟩])) (.seq (.ops [⟨some 1, none, .mov (.v (.int .i64 8))⟩])
          (.ops [⟨some 38, none, .mov (.t 0)⟩, ⟨some 39, none, .slStr (.t 38) (some (.v (.int .i64 1))) none⟩, ⟨some 0, none, .mov (.t 39)⟩]))))))))) .skip))) (.seq (.ops [⟨some 24, none, .more (.mkI 120 (.v (.int .i64 3)))⟩, ⟨some 6, none, .mov (.v (.int .u64 0))⟩, ⟨some 7, none, .mov (.t 24)⟩])
     .ret))))))
  (.seq (.seq (.ops [⟨some 76, none, .mov (.t 2)⟩, ⟨some 77, none, .bin .eql (.t 76) (.v (.int .i64 0))⟩])
  (.cond (.t 77) (.ops [⟨some 2, none, .mov (.v (.int .i64 64))⟩]) (.seq (.ops [⟨some 78, none, .mov (.t 2)⟩, ⟨some 79, none, .bin .lss (.t 78) (.v (.int .i64 0))⟩, ⟨some 80, none, .mov (.t 79)⟩, ⟨some 81, (some (80, false)), .mov (.t 2)⟩, ⟨some 82, (some (80, false)), .bin .gtr (.t 81) (.v (.int .i64 64))⟩, ⟨some 83, none, .pick (.t 80) (.v (.bool true)) (.t 82)⟩])
   (.cond (.t 83) (.seq (.ops [⟨some 84, none, .more (.mkI 120 (.v (.int .i64 4)))⟩, ⟨some 6, none, .mov (.v (.int .u64 0))⟩, ⟨some 7, none, .mov (.t 84)⟩])
    .ret) .skip))))
  (.seq (.ops [⟨some 10, none, .mov (.v (.int .u64 0))⟩])
  (.seq (.seq (.ops [⟨some 85, none, .mov (.t 1)⟩])
  (.block 2 (.seq (.ops [⟨some 91, none, .bin .eql (.t 85) (.v (.int .i64 10))⟩, ⟨some 90, none, .mov (.t 91)⟩])
   (.cond (.t 90) (.ops [⟨some 10, none, .mov (.v (.int .u64 1844674407370955162))⟩]) (.seq (.ops [⟨some 93, none, .bin .eql (.t 85) (.v (.int .i64 16))⟩, ⟨some 92, none, .mov (.t 93)⟩])
    (.cond (.t 92) (.ops [⟨some 10, none, .mov (.v (.int .u64 1152921504606846976))⟩]) (.ops [⟨some 86, none, .mov (.t 1)⟩, ⟨some 87, none, .cvt .u64 (.t 86)⟩, ⟨some 88, none, .bin .quo (.v (.int .u64 18446744073709551615)) (.t 87)⟩, ⟨some 89, none, .bin .add (.t 88) (.v (.int .u64 1))⟩, ⟨some 10, none, .mov (.t 89)⟩])))))))
  (.seq (.ops [⟨some 94, none, .mov (.t 2)⟩, ⟨some 95, none, .cvt .u64 (.t 94)⟩, ⟨some 96, none, .bin .shl (.v (.int .u64 1)) (.t 95)⟩, ⟨some 97, none, .bin .sub (.t 96) (.v (.int .u64 1))⟩, ⟨some 11, none, .mov (.t 97)⟩])
  (.seq (.ops [⟨some 12, none, .mov (.v (.bool false))⟩])
  (.seq (.ops [⟨some 13, none, .mov (.v (.int .u64 0))⟩])
  (.seq (.seq (.ops [⟨some 98, none, .mov (.t 0)⟩, ⟨some 99, none, .bytesOf 5 (.t 98)⟩, ⟨some 100, none, .lenS (.t 99)⟩, ⟨some 101, none, .mov (.v (.int .i64 0))⟩])
  (.block 3 (.loop [1, 8, 9, 10, 11, 12, 13, 99, 100, 101] (.seq (.ops [⟨some 102, none, .bin .lss (.t 101) (.t 100)⟩])
    (.seq (.cond (.t 102) .skip (.exit 3))
    (.seq (.block 4 (.seq (.ops [⟨some 103, none, .ixS 1 (.t 99) (.t 101)⟩, ⟨some 104, none, .ld (.t 103)⟩, ⟨some 15, none, .mov (.t 104)⟩])
     (.seq (.ops [⟨some 16, none, .mov (.v (.int .u8 0))⟩])
     (.seq (.block 5 (.seq (.ops [⟨some 107, none, .mov (.t 15)⟩, ⟨some 108, none, .bin .eql (.t 107) (.v (.int .u8 95))⟩, ⟨some 109, none, .mov (.t 108)⟩, ⟨some 110, (some (109, true)), .mov (.t 8)⟩, ⟨some 111, none, .pick (.t 109) (.t 110) (.v (.bool false))⟩, ⟨some 106, none, .mov (.t 111)⟩])
      (.cond (.t 106) (.seq (.ops [⟨some 12, none, .mov (.v (.bool true))⟩])
       (.exit 4)) (.seq (.ops [⟨some 113, none, .mov (.t 15)⟩, ⟨some 114, none, .bin .leq (.v (.int .u8 48)) (.t 113)⟩, ⟨some 115, none, .mov (.t 114)⟩, ⟨some 116, (some (115, true)), .mov (.t 15)⟩, ⟨some 117, (some (115, true)), .bin .leq (.t 116) (.v (.int .u8 57))⟩, ⟨some 118, none, .pick (.t 115) (.t 117) (.v (.bool false))⟩, ⟨some 112, none, .mov (.t 118)⟩])
       (.cond (.t 112) (.ops [⟨some 119, none, .mov (.t 15)⟩, ⟨some 120, none, .bin .sub (.t 119) (.v (.int .u8 48))⟩, ⟨some 16, none, .mov (.t 120)⟩]) (.seq (.ops [⟨some 122, none, .mov (.t 15)⟩, ⟨some 123, none, .call 128 [(.t 122)]⟩, ⟨some 124, none, .bin .leq (.v (.int .u8 97)) (.t 123)⟩, ⟨some 125, none, .mov (.t 124)⟩, ⟨some 126, (some (125, true)), .mov (.t 15)⟩, ⟨some 127, (some (125, true)), .call 128 [(.t 126)]⟩, ⟨some 128, (some (125, true)), .bin .leq (.t 127) (.v (.int .u8 122))⟩, ⟨some 129, none, .pick (.t 125) (.t 128) (.v (.bool false))⟩, ⟨some 121, none, .mov (.t 129)⟩])
        (.cond (.t 121) (.ops [⟨some 130, none, .mov (.t 15)⟩, ⟨some 131, none, .call 128 [(.t 130)]⟩, ⟨some 132, none, .bin .sub (.t 131) (.v (.int .u8 97))⟩, ⟨some 133, none, .bin .add (.t 132) (.v (.int .u8 10))⟩, ⟨some 16, none, .mov (.t 133)⟩]) (.seq (.ops [⟨some 105, none, .more (.mkI 120 (.v (.int .i64 2)))⟩, ⟨some 6, none, .mov (.v (.int .u64 0))⟩, ⟨some 7, none, .mov (.t 105)⟩])
         .ret))))))))
     (.seq (.seq (.ops [⟨some 134, none, .mov (.t 16)⟩, ⟨some 135, none, .mov (.t 1)⟩, ⟨some 136, none, .cvt .u8 (.t 135)⟩, ⟨some 137, none, .bin .geq (.t 134) (.t 136)⟩])
     (.cond (.t 137) (.seq (.ops [⟨some 138, none, .more (.mkI 120 (.v (.int .i64 2)))⟩, ⟨some 6, none, .mov (.v (.int .u64 0))⟩, ⟨some 7, none, .mov (.t 138)⟩])
      .ret) .skip))
     (.seq (.seq (.ops [⟨some 139, none, .mov (.t 13)⟩, ⟨some 140, none, .mov (.t 10)⟩, ⟨some 141, none, .bin .geq (.t 139) (.t 140)⟩])
     (.cond (.t 141) (.seq (.ops [⟨some 142, none, .mov (.t 11)⟩, ⟨some 143, none, .more (.mkI 120 (.v (.int .i64 1)))⟩, ⟨some 6, none, .mov (.t 142)⟩, ⟨some 7, none, .mov (.t 143)⟩])
      .ret) .skip))
     (.seq (.ops [⟨some 144, none, .mov (.t 13)⟩, ⟨some 145, none, .mov (.t 1)⟩, ⟨some 146, none, .cvt .u64 (.t 145)⟩, ⟨some 147, none, .bin .mul (.t 144) (.t 146)⟩, ⟨some 13, none, .mov (.t 147)⟩])
     (.seq (.ops [⟨some 148, none, .mov (.t 13)⟩, ⟨some 149, none, .mov (.t 16)⟩, ⟨some 150, none, .cvt .u64 (.t 149)⟩, ⟨some 151, none, .bin .add (.t 148) (.t 150)⟩, ⟨some 17, none, .mov (.t 151)⟩])
     (.seq (.seq (.ops [⟨some 152, none, .mov (.t 17)⟩, ⟨some 153, none, .mov (.t 13)⟩, ⟨some 154, none, .bin .lss (.t 152) (.t 153)⟩, ⟨some 155, none, .mov (.t 154)⟩, ⟨some 156, (some (155, false)), .mov (.t 17)⟩, ⟨some 157, (some (155, false)), .mov (.t 11)⟩, ⟨some 158, (some (155, false)), .bin .gtr (.t 156) (.t 157)⟩, ⟨some 159, none, .pick (.t 155) (.v (.bool true)) (.t 158)⟩])
     (.cond (.t 159) (.seq (.ops [⟨some 160, none, .mov (.t 11)⟩, ⟨some 161, none, .more (.mkI 120 (.v (.int .i64 1)))⟩, ⟨some 6, none, .mov (.t 160)⟩, ⟨some 7, none, .mov (.t 161)⟩])
      .ret) .skip))
     (.ops [⟨some 162, none, .mov (.t 17)⟩, ⟨some 13, none, .mov (.t 162)⟩]))))))))))
    (.ops [⟨some 163, none, .bin .add (.t 101) (.v (.int .i64 1))⟩, ⟨some 101, none, .mov (.t 163)⟩])))))))
  (.seq (.seq (.ops [⟨some 164, none, .mov (.t 12)⟩, ⟨some 165, none, .mov (.t 164)⟩, ⟨some 166, (some (165, true)), .mov (.t 9)⟩, ⟨some 167, (some (165, true)), .call 129 [(.t 166)]⟩, ⟨some 168, (some (165, true)), .not (.t 167)⟩, ⟨some 169, none, .pick (.t 165) (.t 168) (.v (.bool false))⟩])
  (.cond (.t 169) (.seq (.ops [⟨some 170, none, .more (.mkI 120 (.v (.int .i64 2)))⟩, ⟨some 6, none, .mov (.v (.int .u64 0))⟩, ⟨some 7, none, .mov (.t 170)⟩])
   .ret) .skip))
  (.seq (.ops [⟨some 171, none, .mov (.t 13)⟩, ⟨some 6, none, .mov (.t 171)⟩, ⟨some 7, none, .mov (.v .nilIface)⟩])
  .ret)))))))))))))), 172, [.tmp 6, .tmp 7]⟩
theorem Tryd.ek102 : KnownE Tryd.prog 102 Tryd.ec102 := ⟨Tryd.f102, _, Tryd.func102, rfl, by kernel_rfl, rfl, by kernel_rfl, by kernel_rfl⟩

/-- internal/strconv.Itoa -/
def Tryd.ec103 : EFn := ⟨(.seq (.ops [⟨some 2, none, .mov (.v (.string ⟨#[]⟩))⟩])
  (.seq (.ops [⟨some 3, none, .mov (.t 0)⟩, ⟨some 4, none, .call 130 [(.t 3), (.v (.int .i64 10))]⟩, ⟨some 2, none, .mov (.t 4)⟩])
  .ret)), 5, [.tmp 2]⟩
theorem Tryd.ek103 : KnownE Tryd.prog 103 Tryd.ec103 := ⟨Tryd.f103, _, Tryd.func103, rfl, by kernel_rfl, rfl, by kernel_rfl, by kernel_rfl⟩

/-- internal/strconv.FormatUint -/
def Tryd.ec104 : EFn := ⟨(.seq (.ops [⟨some 4, none, .mov (.v (.string ⟨#[]⟩))⟩])
  (.seq (.seq (.ops [⟨some 9, none, .mov (.t 1)⟩, ⟨some 10, none, .bin .eql (.t 9) (.v (.int .i64 10))⟩])
  (.cond (.t 10) (.seq (.seq (.ops [⟨some 11, none, .mov (.t 0)⟩, ⟨some 12, none, .bin .lss (.t 11) (.v (.int .u64 100))⟩])
   (.cond (.t 12) (.seq (.ops [⟨some 13, none, .mov (.t 0)⟩, ⟨some 14, none, .cvt .i64 (.t 13)⟩, ⟨some 15, none, .call 131 [(.t 14)]⟩, ⟨some 4, none, .mov (.t 15)⟩])
    .ret) .skip))
   (.seq (.ops [⟨some 5, none, .al 129 [.int .u8 0, .int .u8 0, .int .u8 0, .int .u8 0, .int .u8 0, .int .u8 0, .int .u8 0, .int .u8 0, .int .u8 0, .int .u8 0, .int .u8 0, .int .u8 0, .int .u8 0, .int .u8 0, .int .u8 0, .int .u8 0, .int .u8 0, .int .u8 0, .int .u8 0, .int .u8 0, .int .u8 0, .int .u8 0, .int .u8 0, .int .u8 0]⟩])
   (.seq (.ops [⟨some 16, none, .mov (.t 0)⟩, ⟨some 17, none, .call 132 [(.t 16)]⟩, ⟨some 6, none, .mov (.t 17)⟩])
   (.seq (.ops [⟨some 18, none, .mov (.t 6)⟩, ⟨some 19, none, .more (.slAr 24 1 (.t 5) none (some (.t 18)))⟩, ⟨some 20, none, .mov (.t 0)⟩, ⟨some 21, none, .call 133 [(.t 19), (.t 20)]⟩])
   (.seq (.ops [⟨some 22, none, .mov (.t 6)⟩, ⟨some 23, none, .more (.slAr 24 1 (.t 5) none (some (.t 22)))⟩, ⟨some 24, none, .strOf (.t 23)⟩, ⟨some 4, none, .mov (.t 24)⟩])
   .ret))))) .skip))
  (.seq (.ops [⟨some 26, none, .mov (.t 0)⟩, ⟨some 27, none, .mov (.t 1)⟩, ⟨some 28, none, .call 134 [(.v (.slice none 0 0)), (.t 26), (.t 27), (.v (.bool false)), (.v (.bool false))]⟩, ⟨some 25, none, .mov (.t 28)⟩, ⟨some 29, none, .ext 0 (.t 25)⟩, ⟨some 30, none, .ext 1 (.t 25)⟩, ⟨some 7, none, .mov (.t 29)⟩, ⟨some 8, none, .mov (.t 30)⟩])
  (.seq (.ops [⟨some 31, none, .mov (.t 8)⟩, ⟨some 4, none, .mov (.t 31)⟩])
  .ret)))), 32, [.tmp 4]⟩
theorem Tryd.ek104 : KnownE Tryd.prog 104 Tryd.ec104 := ⟨Tryd.f104, _, Tryd.func104, rfl, by kernel_rfl, rfl, by kernel_rfl, by kernel_rfl⟩

/-- slices.insertionSortCmpFunc[redwax/api.Label] -/
def Tryd.ec112 : EFn := ⟨(.seq (.ops [⟨some 10, none, .mov (.t 1)⟩, ⟨some 11, none, .bin .add (.t 10) (.v (.int .i64 1))⟩, ⟨some 8, none, .mov (.t 11)⟩])
  (.block 0 (.loop [0, 1, 2, 3, 8] (.seq (.seq (.ops [⟨some 12, none, .mov (.t 8)⟩, ⟨some 13, none, .mov (.t 2)⟩, ⟨some 14, none, .bin .lss (.t 12) (.t 13)⟩])
    (.cond (.t 14) .skip (.exit 0)))
    (.seq (.block 1 (.seq (.ops [⟨some 17, none, .mov (.t 8)⟩, ⟨some 9, none, .mov (.t 17)⟩])
     (.block 2 (.loop [0, 1, 2, 3, 8, 9] (.seq (.seq (.drawn [0, 0, 3, 7, 15, 15, 15, 111, 239, 15, 15, 1039, 3599, 7695, 16383, 32767, 65535] 14 [⟨some 18, none, .mov (.t 9)⟩, ⟨some 19, none, .mov (.t 1)⟩, ⟨some 20, none, .bin .gtr (.t 18) (.t 19)⟩, ⟨some 21, none, .mov (.t 20)⟩, ⟨some 22, (some (21, true)), .mov (.t 3)⟩, ⟨some 23, (some (21, true)), .mov (.t 0)⟩, ⟨some 24, (some (21, true)), .mov (.t 9)⟩, ⟨some 25, (some (21, true)), .ixS 2 (.t 23) (.t 24)⟩, ⟨some 26, (some (21, true)), .ldA 2 (.t 25)⟩, ⟨some 27, (some (21, true)), .mov (.t 0)⟩, ⟨some 28, (some (21, true)), .mov (.t 9)⟩, ⟨some 29, (some (21, true)), .bin .sub (.t 28) (.v (.int .i64 1))⟩, ⟨some 30, (some (21, true)), .ixS 2 (.t 27) (.t 29)⟩, ⟨some 31, (some (21, true)), .ldA 2 (.t 30)⟩, ⟨some 32, (some (21, true)), .callv (.t 22) [(.t 26), (.t 31)]⟩, ⟨some 33, (some (21, true)), .bin .lss (.t 32) (.v (.int .i64 0))⟩, ⟨some 34, none, .pick (.t 21) (.t 33) (.v (.bool false))⟩])
       (.cond (.t 34) .skip (.exit 2)))
       (.seq (.block 3 (.drawn [0, 0, 0, 0, 8, 0, 0, 64, 224, 480, 0, 0, 3072, 7168, 16355, 32739, 65535, 131071] 16 [⟨some 37, none, .mov (.t 0)⟩, ⟨some 38, none, .mov (.t 9)⟩, ⟨some 39, none, .mov (.t 0)⟩, ⟨some 40, none, .mov (.t 9)⟩, ⟨some 41, none, .bin .sub (.t 40) (.v (.int .i64 1))⟩, ⟨some 42, none, .mov (.t 0)⟩, ⟨some 43, none, .mov (.t 9)⟩, ⟨some 44, none, .bin .sub (.t 43) (.v (.int .i64 1))⟩, ⟨some 45, none, .ixS 2 (.t 42) (.t 44)⟩, ⟨some 46, none, .ldA 2 (.t 45)⟩, ⟨some 47, none, .mov (.t 0)⟩, ⟨some 48, none, .mov (.t 9)⟩, ⟨some 49, none, .ixS 2 (.t 47) (.t 48)⟩, ⟨some 50, none, .ldA 2 (.t 49)⟩, ⟨some 51, none, .ixS 2 (.t 37) (.t 38)⟩, ⟨none, none, .st 2 (.t 51) (.t 46)⟩, ⟨some 52, none, .ixS 2 (.t 39) (.t 41)⟩, ⟨none, none, .st 2 (.t 52) (.t 50)⟩]))
       (.ops [⟨some 35, none, .mov (.t 9)⟩, ⟨some 36, none, .bin .sub (.t 35) (.v (.int .i64 1))⟩, ⟨some 9, none, .mov (.t 36)⟩])))))))
    (.ops [⟨some 15, none, .mov (.t 8)⟩, ⟨some 16, none, .bin .add (.t 15) (.v (.int .i64 1))⟩, ⟨some 8, none, .mov (.t 16)⟩])))))), 53, []⟩
theorem Tryd.ek112 : KnownE Tryd.prog 112 Tryd.ec112 := ⟨Tryd.f112, _, Tryd.func112, rfl, by kernel_rfl, rfl, by kernel_rfl, by kernel_rfl⟩

/-- slices.heapSortCmpFunc[redwax/api.Label] -/
def Tryd.ec113 : EFn := ⟨(.seq (.ops [⟨some 13, none, .mov (.t 1)⟩, ⟨some 8, none, .mov (.t 13)⟩])
  (.seq (.ops [⟨some 9, none, .mov (.v (.int .i64 0))⟩])
  (.seq (.ops [⟨some 14, none, .mov (.t 2)⟩, ⟨some 15, none, .mov (.t 1)⟩, ⟨some 16, none, .bin .sub (.t 14) (.t 15)⟩, ⟨some 10, none, .mov (.t 16)⟩])
  (.seq (.seq (.ops [⟨some 17, none, .mov (.t 10)⟩, ⟨some 18, none, .bin .sub (.t 17) (.v (.int .i64 1))⟩, ⟨some 19, none, .bin .quo (.t 18) (.v (.int .i64 2))⟩, ⟨some 11, none, .mov (.t 19)⟩])
  (.block 0 (.loop [0, 3, 8, 9, 10, 11] (.seq (.seq (.ops [⟨some 20, none, .mov (.t 11)⟩, ⟨some 21, none, .bin .geq (.t 20) (.v (.int .i64 0))⟩])
    (.cond (.t 21) .skip (.exit 0)))
    (.seq (.block 1 (.ops [⟨some 24, none, .mov (.t 0)⟩, ⟨some 25, none, .mov (.t 11)⟩, ⟨some 26, none, .mov (.t 10)⟩, ⟨some 27, none, .mov (.t 8)⟩, ⟨some 28, none, .mov (.t 3)⟩, ⟨some 29, none, .call 139 [(.t 24), (.t 25), (.t 26), (.t 27), (.t 28)]⟩]))
    (.ops [⟨some 22, none, .mov (.t 11)⟩, ⟨some 23, none, .bin .sub (.t 22) (.v (.int .i64 1))⟩, ⟨some 11, none, .mov (.t 23)⟩]))))))
  (.seq (.ops [⟨some 30, none, .mov (.t 10)⟩, ⟨some 31, none, .bin .sub (.t 30) (.v (.int .i64 1))⟩, ⟨some 12, none, .mov (.t 31)⟩])
  (.block 2 (.loop [0, 3, 8, 9, 12] (.seq (.seq (.ops [⟨some 32, none, .mov (.t 12)⟩, ⟨some 33, none, .bin .geq (.t 32) (.v (.int .i64 0))⟩])
    (.cond (.t 33) .skip (.exit 2)))
    (.seq (.block 3 (.seq (.drawn [0, 0, 0, 0, 0, 24, 0, 0, 0, 384, 960, 1984, 0, 0, 12288, 28672, 65475, 131011, 262143, 524287] 18 [⟨some 36, none, .mov (.t 0)⟩, ⟨some 37, none, .mov (.t 8)⟩, ⟨some 38, none, .mov (.t 0)⟩, ⟨some 39, none, .mov (.t 8)⟩, ⟨some 40, none, .mov (.t 12)⟩, ⟨some 41, none, .bin .add (.t 39) (.t 40)⟩, ⟨some 42, none, .mov (.t 0)⟩, ⟨some 43, none, .mov (.t 8)⟩, ⟨some 44, none, .mov (.t 12)⟩, ⟨some 45, none, .bin .add (.t 43) (.t 44)⟩, ⟨some 46, none, .ixS 2 (.t 42) (.t 45)⟩, ⟨some 47, none, .ldA 2 (.t 46)⟩, ⟨some 48, none, .mov (.t 0)⟩, ⟨some 49, none, .mov (.t 8)⟩, ⟨some 50, none, .ixS 2 (.t 48) (.t 49)⟩, ⟨some 51, none, .ldA 2 (.t 50)⟩, ⟨some 52, none, .ixS 2 (.t 36) (.t 37)⟩, ⟨none, none, .st 2 (.t 52) (.t 47)⟩, ⟨some 53, none, .ixS 2 (.t 38) (.t 41)⟩, ⟨none, none, .st 2 (.t 53) (.t 51)⟩])
     (.ops [⟨some 54, none, .mov (.t 0)⟩, ⟨some 55, none, .mov (.t 9)⟩, ⟨some 56, none, .mov (.t 12)⟩, ⟨some 57, none, .mov (.t 8)⟩, ⟨some 58, none, .mov (.t 3)⟩, ⟨some 59, none, .call 139 [(.t 54), (.t 55), (.t 56), (.t 57), (.t 58)]⟩])))
    (.ops [⟨some 34, none, .mov (.t 12)⟩, ⟨some 35, none, .bin .sub (.t 34) (.v (.int .i64 1))⟩, ⟨some 12, none, .mov (.t 35)⟩])))))))))), 60, []⟩
theorem Tryd.ek113 : KnownE Tryd.prog 113 Tryd.ec113 := ⟨Tryd.f113, _, Tryd.func113, rfl, by kernel_rfl, rfl, by kernel_rfl, by kernel_rfl⟩

/-- slices.breakPatternsCmpFunc[redwax/api.Label] -/
def Tryd.ec114 : EFn := ⟨(.seq (.ops [⟨some 13, none, .mov (.t 2)⟩, ⟨some 14, none, .mov (.t 1)⟩, ⟨some 15, none, .bin .sub (.t 13) (.t 14)⟩, ⟨some 8, none, .mov (.t 15)⟩])
  (.seq (.ops [⟨some 16, none, .mov (.t 8)⟩, ⟨some 17, none, .bin .geq (.t 16) (.v (.int .i64 8))⟩])
  (.cond (.t 17) (.seq (.ops [⟨some 18, none, .mov (.t 8)⟩, ⟨some 19, none, .cvt .u64 (.t 18)⟩, ⟨some 9, none, .al 137 [.int .u64 0]⟩, ⟨none, none, .st 1 (.t 9) (.t 19)⟩])
   (.seq (.ops [⟨some 20, none, .mov (.t 8)⟩, ⟨some 21, none, .call 140 [(.t 20)]⟩, ⟨some 10, none, .mov (.t 21)⟩])
   (.seq (.ops [⟨some 22, none, .mov (.t 1)⟩, ⟨some 23, none, .mov (.t 8)⟩, ⟨some 24, none, .bin .quo (.t 23) (.v (.int .i64 4))⟩, ⟨some 25, none, .bin .mul (.t 24) (.v (.int .i64 2))⟩, ⟨some 26, none, .bin .add (.t 22) (.t 25)⟩, ⟨some 27, none, .bin .sub (.t 26) (.v (.int .i64 1))⟩, ⟨some 11, none, .mov (.t 27)⟩])
   (.block 0 (.loop [0, 1, 8, 9, 10, 11] (.seq (.seq (.ops [⟨some 28, none, .mov (.t 11)⟩, ⟨some 29, none, .mov (.t 1)⟩, ⟨some 30, none, .mov (.t 8)⟩, ⟨some 31, none, .bin .quo (.t 30) (.v (.int .i64 4))⟩, ⟨some 32, none, .bin .mul (.t 31) (.v (.int .i64 2))⟩, ⟨some 33, none, .bin .add (.t 29) (.t 32)⟩, ⟨some 34, none, .bin .add (.t 33) (.v (.int .i64 1))⟩, ⟨some 35, none, .bin .leq (.t 28) (.t 34)⟩])
     (.cond (.t 35) .skip (.exit 0)))
     (.seq (.block 1 (.seq (.ops [⟨some 38, none, .call 141 [(.t 9)]⟩, ⟨some 39, none, .mov (.t 10)⟩, ⟨some 40, none, .bin .sub (.t 39) (.v (.int .u64 1))⟩, ⟨some 41, none, .bin .and (.t 38) (.t 40)⟩, ⟨some 42, none, .cvt .i64 (.t 41)⟩, ⟨some 12, none, .mov (.t 42)⟩])
      (.seq (.seq (.ops [⟨some 43, none, .mov (.t 12)⟩, ⟨some 44, none, .mov (.t 8)⟩, ⟨some 45, none, .bin .geq (.t 43) (.t 44)⟩])
      (.cond (.t 45) (.ops [⟨some 46, none, .mov (.t 12)⟩, ⟨some 47, none, .mov (.t 8)⟩, ⟨some 48, none, .bin .sub (.t 46) (.t 47)⟩, ⟨some 12, none, .mov (.t 48)⟩]) .skip))
      (.drawn [0, 0, 0, 0, 0, 24, 0, 0, 0, 384, 960, 1984, 0, 0, 12288, 28672, 65475, 131011, 262143, 524287] 18 [⟨some 49, none, .mov (.t 0)⟩, ⟨some 50, none, .mov (.t 11)⟩, ⟨some 51, none, .mov (.t 0)⟩, ⟨some 52, none, .mov (.t 1)⟩, ⟨some 53, none, .mov (.t 12)⟩, ⟨some 54, none, .bin .add (.t 52) (.t 53)⟩, ⟨some 55, none, .mov (.t 0)⟩, ⟨some 56, none, .mov (.t 1)⟩, ⟨some 57, none, .mov (.t 12)⟩, ⟨some 58, none, .bin .add (.t 56) (.t 57)⟩, ⟨some 59, none, .ixS 2 (.t 55) (.t 58)⟩, ⟨some 60, none, .ldA 2 (.t 59)⟩, ⟨some 61, none, .mov (.t 0)⟩, ⟨some 62, none, .mov (.t 11)⟩, ⟨some 63, none, .ixS 2 (.t 61) (.t 62)⟩, ⟨some 64, none, .ldA 2 (.t 63)⟩, ⟨some 65, none, .ixS 2 (.t 49) (.t 50)⟩, ⟨none, none, .st 2 (.t 65) (.t 60)⟩, ⟨some 66, none, .ixS 2 (.t 51) (.t 54)⟩, ⟨none, none, .st 2 (.t 66) (.t 64)⟩]))))
     (.ops [⟨some 36, none, .mov (.t 11)⟩, ⟨some 37, none, .bin .add (.t 36) (.v (.int .i64 1))⟩, ⟨some 11, none, .mov (.t 37)⟩])))))))) .skip))), 67, []⟩
theorem Tryd.ek114 : KnownE Tryd.prog 114 Tryd.ec114 := ⟨Tryd.f114, _, Tryd.func114, rfl, by kernel_rfl, rfl, by kernel_rfl, by kernel_rfl⟩

/-- slices.choosePivotCmpFunc[redwax/api.Label] -/
def Tryd.ec115 : EFn := ⟨(.seq (.ops [⟨some 8, none, .mov (.v (.int .i64 0))⟩, ⟨some 9, none, .mov (.v (.int .i64 0))⟩])
  (.seq (.ops [⟨some 15, none, .mov (.t 2)⟩, ⟨some 16, none, .mov (.t 1)⟩, ⟨some 17, none, .bin .sub (.t 15) (.t 16)⟩, ⟨some 10, none, .mov (.t 17)⟩])
  (.seq (.ops [⟨some 11, none, .al 3 [.int .i64 0]⟩])
  (.seq (.ops [⟨some 18, none, .mov (.t 1)⟩, ⟨some 19, none, .mov (.t 10)⟩, ⟨some 20, none, .bin .quo (.t 19) (.v (.int .i64 4))⟩, ⟨some 21, none, .bin .mul (.t 20) (.v (.int .i64 1))⟩, ⟨some 22, none, .bin .add (.t 18) (.t 21)⟩, ⟨some 12, none, .mov (.t 22)⟩])
  (.seq (.ops [⟨some 23, none, .mov (.t 1)⟩, ⟨some 24, none, .mov (.t 10)⟩, ⟨some 25, none, .bin .quo (.t 24) (.v (.int .i64 4))⟩, ⟨some 26, none, .bin .mul (.t 25) (.v (.int .i64 2))⟩, ⟨some 27, none, .bin .add (.t 23) (.t 26)⟩, ⟨some 13, none, .mov (.t 27)⟩])
  (.seq (.ops [⟨some 28, none, .mov (.t 1)⟩, ⟨some 29, none, .mov (.t 10)⟩, ⟨some 30, none, .bin .quo (.t 29) (.v (.int .i64 4))⟩, ⟨some 31, none, .bin .mul (.t 30) (.v (.int .i64 3))⟩, ⟨some 32, none, .bin .add (.t 28) (.t 31)⟩, ⟨some 14, none, .mov (.t 32)⟩])
  (.seq (.seq (.ops [⟨some 33, none, .mov (.t 10)⟩, ⟨some 34, none, .bin .geq (.t 33) (.v (.int .i64 8))⟩])
  (.cond (.t 34) (.seq (.seq (.ops [⟨some 35, none, .mov (.t 10)⟩, ⟨some 36, none, .bin .geq (.t 35) (.v (.int .i64 50))⟩])
   (.cond (.t 36) (.seq (.ops [⟨some 37, none, .mov (.t 0)⟩, ⟨some 38, none, .mov (.t 12)⟩, ⟨some 39, none, .mov (.t 3)⟩, ⟨some 40, none, .call 142 [(.t 37), (.t 38), (.t 11), (.t 39)]⟩, ⟨some 12, none, .mov (.t 40)⟩])
    (.seq (.ops [⟨some 41, none, .mov (.t 0)⟩, ⟨some 42, none, .mov (.t 13)⟩, ⟨some 43, none, .mov (.t 3)⟩, ⟨some 44, none, .call 142 [(.t 41), (.t 42), (.t 11), (.t 43)]⟩, ⟨some 13, none, .mov (.t 44)⟩])
    (.ops [⟨some 45, none, .mov (.t 0)⟩, ⟨some 46, none, .mov (.t 14)⟩, ⟨some 47, none, .mov (.t 3)⟩, ⟨some 48, none, .call 142 [(.t 45), (.t 46), (.t 11), (.t 47)]⟩, ⟨some 14, none, .mov (.t 48)⟩]))) .skip))
   (.ops [⟨some 49, none, .mov (.t 0)⟩, ⟨some 50, none, .mov (.t 12)⟩, ⟨some 51, none, .mov (.t 13)⟩, ⟨some 52, none, .mov (.t 14)⟩, ⟨some 53, none, .mov (.t 3)⟩, ⟨some 54, none, .call 143 [(.t 49), (.t 50), (.t 51), (.t 52), (.t 11), (.t 53)]⟩, ⟨some 13, none, .mov (.t 54)⟩])) .skip))
  (.seq (.ops [⟨some 55, none, .ld (.t 11)⟩])
  (.block 0 (.seq (.ops [⟨some 58, none, .bin .eql (.t 55) (.v (.int .i64 0))⟩, ⟨some 57, none, .mov (.t 58)⟩])
   (.cond (.t 57) (.seq (.ops [⟨some 59, none, .mov (.t 13)⟩, ⟨some 8, none, .mov (.t 59)⟩, ⟨some 9, none, .mov (.v (.int .i64 1))⟩])
    .ret) (.seq (.ops [⟨some 61, none, .bin .eql (.t 55) (.v (.int .i64 12))⟩, ⟨some 60, none, .mov (.t 61)⟩])
    (.cond (.t 60) (.seq (.ops [⟨some 62, none, .mov (.t 13)⟩, ⟨some 8, none, .mov (.t 62)⟩, ⟨some 9, none, .mov (.v (.int .i64 2))⟩])
     .ret) (.seq (.ops [⟨some 56, none, .mov (.t 13)⟩, ⟨some 8, none, .mov (.t 56)⟩, ⟨some 9, none, .mov (.v (.int .i64 0))⟩])
     .ret)))))))))))))), 63, [.tmp 8, .tmp 9]⟩
theorem Tryd.ek115 : KnownE Tryd.prog 115 Tryd.ec115 := ⟨Tryd.f115, _, Tryd.func115, rfl, by kernel_rfl, rfl, by kernel_rfl, by kernel_rfl⟩

/-- slices.reverseRangeCmpFunc[redwax/api.Label] -/
def Tryd.ec116 : EFn := ⟨(.seq (.ops [⟨some 10, none, .mov (.t 1)⟩, ⟨some 8, none, .mov (.t 10)⟩])
  (.seq (.ops [⟨some 11, none, .mov (.t 2)⟩, ⟨some 12, none, .bin .sub (.t 11) (.v (.int .i64 1))⟩, ⟨some 9, none, .mov (.t 12)⟩])
  (.block 0 (.loop [0, 8, 9] (.seq (.seq (.ops [⟨some 13, none, .mov (.t 8)⟩, ⟨some 14, none, .mov (.t 9)⟩, ⟨some 15, none, .bin .lss (.t 13) (.t 14)⟩])
    (.cond (.t 15) .skip (.exit 0)))
    (.block 1 (.seq (.drawn [0, 0, 0, 0, 0, 0, 48, 112, 0, 0, 768, 1792, 4083, 8179, 16383, 32767] 12 [⟨some 16, none, .mov (.t 0)⟩, ⟨some 17, none, .mov (.t 8)⟩, ⟨some 18, none, .mov (.t 0)⟩, ⟨some 19, none, .mov (.t 9)⟩, ⟨some 20, none, .mov (.t 0)⟩, ⟨some 21, none, .mov (.t 9)⟩, ⟨some 22, none, .ixS 2 (.t 20) (.t 21)⟩, ⟨some 23, none, .ldA 2 (.t 22)⟩, ⟨some 24, none, .mov (.t 0)⟩, ⟨some 25, none, .mov (.t 8)⟩, ⟨some 26, none, .ixS 2 (.t 24) (.t 25)⟩, ⟨some 27, none, .ldA 2 (.t 26)⟩, ⟨some 28, none, .ixS 2 (.t 16) (.t 17)⟩, ⟨none, none, .st 2 (.t 28) (.t 23)⟩, ⟨some 29, none, .ixS 2 (.t 18) (.t 19)⟩, ⟨none, none, .st 2 (.t 29) (.t 27)⟩])
     (.seq (.ops [⟨some 30, none, .mov (.t 8)⟩, ⟨some 31, none, .bin .add (.t 30) (.v (.int .i64 1))⟩, ⟨some 8, none, .mov (.t 31)⟩])
     (.ops [⟨some 32, none, .mov (.t 9)⟩, ⟨some 33, none, .bin .sub (.t 32) (.v (.int .i64 1))⟩, ⟨some 9, none, .mov (.t 33)⟩]))))))))), 34, []⟩
theorem Tryd.ek116 : KnownE Tryd.prog 116 Tryd.ec116 := ⟨Tryd.f116, _, Tryd.func116, rfl, by kernel_rfl, rfl, by kernel_rfl, by kernel_rfl⟩

/-- slices.partialInsertionSortCmpFunc[redwax/api.Label] -/
def Tryd.ec117 : EFn := ⟨(.seq (.ops [⟨some 8, none, .mov (.v (.bool false))⟩])
  (.seq (.ops [⟨some 13, none, .mov (.t 1)⟩, ⟨some 14, none, .bin .add (.t 13) (.v (.int .i64 1))⟩, ⟨some 9, none, .mov (.t 14)⟩])
  (.seq (.seq (.ops [⟨some 10, none, .mov (.v (.int .i64 0))⟩])
  (.block 0 (.loop [0, 1, 2, 3, 9, 10] (.seq (.seq (.ops [⟨some 15, none, .mov (.t 10)⟩, ⟨some 16, none, .bin .lss (.t 15) (.v (.int .i64 5))⟩])
    (.cond (.t 16) .skip (.exit 0)))
    (.seq (.block 1 (.seq (.block 2 (.loop [0, 1, 2, 3, 9, 10] (.seq (.seq (.drawn [0, 0, 3, 7, 15, 15, 15, 111, 239, 15, 15, 1039, 3599, 7695, 16383, 32767, 65535, 131071] 14 [⟨some 19, none, .mov (.t 9)⟩, ⟨some 20, none, .mov (.t 2)⟩, ⟨some 21, none, .bin .lss (.t 19) (.t 20)⟩, ⟨some 22, none, .mov (.t 21)⟩, ⟨some 23, (some (22, true)), .mov (.t 3)⟩, ⟨some 24, (some (22, true)), .mov (.t 0)⟩, ⟨some 25, (some (22, true)), .mov (.t 9)⟩, ⟨some 26, (some (22, true)), .ixS 2 (.t 24) (.t 25)⟩, ⟨some 27, (some (22, true)), .ldA 2 (.t 26)⟩, ⟨some 28, (some (22, true)), .mov (.t 0)⟩, ⟨some 29, (some (22, true)), .mov (.t 9)⟩, ⟨some 30, (some (22, true)), .bin .sub (.t 29) (.v (.int .i64 1))⟩, ⟨some 31, (some (22, true)), .ixS 2 (.t 28) (.t 30)⟩, ⟨some 32, (some (22, true)), .ldA 2 (.t 31)⟩, ⟨some 33, (some (22, true)), .callv (.t 23) [(.t 27), (.t 32)]⟩, ⟨some 34, (some (22, true)), .bin .lss (.t 33) (.v (.int .i64 0))⟩, ⟨some 35, (some (22, true)), .not (.t 34)⟩, ⟨some 36, none, .pick (.t 22) (.t 35) (.v (.bool false))⟩])
       (.cond (.t 36) .skip (.exit 2)))
       (.block 3 (.ops [⟨some 37, none, .mov (.t 9)⟩, ⟨some 38, none, .bin .add (.t 37) (.v (.int .i64 1))⟩, ⟨some 9, none, .mov (.t 38)⟩])))))
     (.seq (.seq (.ops [⟨some 39, none, .mov (.t 9)⟩, ⟨some 40, none, .mov (.t 2)⟩, ⟨some 41, none, .bin .eql (.t 39) (.t 40)⟩])
     (.cond (.t 41) (.seq (.ops [⟨some 8, none, .mov (.v (.bool true))⟩])
      .ret) .skip))
     (.seq (.seq (.ops [⟨some 42, none, .mov (.t 2)⟩, ⟨some 43, none, .mov (.t 1)⟩, ⟨some 44, none, .bin .sub (.t 42) (.t 43)⟩, ⟨some 45, none, .bin .lss (.t 44) (.v (.int .i64 50))⟩])
     (.cond (.t 45) (.seq (.ops [⟨some 8, none, .mov (.v (.bool false))⟩])
      .ret) .skip))
     (.seq (.drawn [0, 0, 0, 0, 8, 0, 0, 64, 224, 480, 0, 0, 3072, 7168, 16355, 32739, 65535, 131071] 16 [⟨some 46, none, .mov (.t 0)⟩, ⟨some 47, none, .mov (.t 9)⟩, ⟨some 48, none, .mov (.t 0)⟩, ⟨some 49, none, .mov (.t 9)⟩, ⟨some 50, none, .bin .sub (.t 49) (.v (.int .i64 1))⟩, ⟨some 51, none, .mov (.t 0)⟩, ⟨some 52, none, .mov (.t 9)⟩, ⟨some 53, none, .bin .sub (.t 52) (.v (.int .i64 1))⟩, ⟨some 54, none, .ixS 2 (.t 51) (.t 53)⟩, ⟨some 55, none, .ldA 2 (.t 54)⟩, ⟨some 56, none, .mov (.t 0)⟩, ⟨some 57, none, .mov (.t 9)⟩, ⟨some 58, none, .ixS 2 (.t 56) (.t 57)⟩, ⟨some 59, none, .ldA 2 (.t 58)⟩, ⟨some 60, none, .ixS 2 (.t 46) (.t 47)⟩, ⟨none, none, .st 2 (.t 60) (.t 55)⟩, ⟨some 61, none, .ixS 2 (.t 48) (.t 50)⟩, ⟨none, none, .st 2 (.t 61) (.t 59)⟩])
     (.seq (.seq (.ops [⟨some 62, none, .mov (.t 9)⟩, ⟨some 63, none, .mov (.t 1)⟩, ⟨some 64, none, .bin .sub (.t 62) (.t 63)⟩, ⟨some 65, none, .bin .geq (.t 64) (.v (.int .i64 2))⟩])
     (.cond (.t 65) (.seq (.ops [⟨some 66, none, .mov (.t 9)⟩, ⟨some 67, none, .bin .sub (.t 66) (.v (.int .i64 1))⟩, ⟨some 11, none, .mov (.t 67)⟩])
      (.block 4 (.loop [0, 1, 2, 3, 9, 10, 11] (.seq (.seq (.ops [⟨some 68, none, .mov (.t 11)⟩, ⟨some 69, none, .bin .geq (.t 68) (.v (.int .i64 1))⟩])
        (.cond (.t 69) .skip (.exit 4)))
        (.seq (.block 5 (.seq (.seq (.drawn [0, 0, 0, 6, 14, 0, 0, 64, 224, 480, 1023, 2047, 4095] 10 [⟨some 72, none, .mov (.t 3)⟩, ⟨some 73, none, .mov (.t 0)⟩, ⟨some 74, none, .mov (.t 11)⟩, ⟨some 75, none, .ixS 2 (.t 73) (.t 74)⟩, ⟨some 76, none, .ldA 2 (.t 75)⟩, ⟨some 77, none, .mov (.t 0)⟩, ⟨some 78, none, .mov (.t 11)⟩, ⟨some 79, none, .bin .sub (.t 78) (.v (.int .i64 1))⟩, ⟨some 80, none, .ixS 2 (.t 77) (.t 79)⟩, ⟨some 81, none, .ldA 2 (.t 80)⟩, ⟨some 82, none, .callv (.t 72) [(.t 76), (.t 81)]⟩, ⟨some 83, none, .bin .lss (.t 82) (.v (.int .i64 0))⟩, ⟨some 84, none, .not (.t 83)⟩])
         (.cond (.t 84) (.exit 4) .skip))
         (.drawn [0, 0, 0, 0, 8, 0, 0, 64, 224, 480, 0, 0, 3072, 7168, 16355, 32739, 65535, 131071] 16 [⟨some 85, none, .mov (.t 0)⟩, ⟨some 86, none, .mov (.t 11)⟩, ⟨some 87, none, .mov (.t 0)⟩, ⟨some 88, none, .mov (.t 11)⟩, ⟨some 89, none, .bin .sub (.t 88) (.v (.int .i64 1))⟩, ⟨some 90, none, .mov (.t 0)⟩, ⟨some 91, none, .mov (.t 11)⟩, ⟨some 92, none, .bin .sub (.t 91) (.v (.int .i64 1))⟩, ⟨some 93, none, .ixS 2 (.t 90) (.t 92)⟩, ⟨some 94, none, .ldA 2 (.t 93)⟩, ⟨some 95, none, .mov (.t 0)⟩, ⟨some 96, none, .mov (.t 11)⟩, ⟨some 97, none, .ixS 2 (.t 95) (.t 96)⟩, ⟨some 98, none, .ldA 2 (.t 97)⟩, ⟨some 99, none, .ixS 2 (.t 85) (.t 86)⟩, ⟨none, none, .st 2 (.t 99) (.t 94)⟩, ⟨some 100, none, .ixS 2 (.t 87) (.t 89)⟩, ⟨none, none, .st 2 (.t 100) (.t 98)⟩])))
        (.ops [⟨some 70, none, .mov (.t 11)⟩, ⟨some 71, none, .bin .sub (.t 70) (.v (.int .i64 1))⟩, ⟨some 11, none, .mov (.t 71)⟩])))))) .skip))
     (.seq (.ops [⟨some 101, none, .mov (.t 2)⟩, ⟨some 102, none, .mov (.t 9)⟩, ⟨some 103, none, .bin .sub (.t 101) (.t 102)⟩, ⟨some 104, none, .bin .geq (.t 103) (.v (.int .i64 2))⟩])
     (.cond (.t 104) (.seq (.ops [⟨some 105, none, .mov (.t 9)⟩, ⟨some 106, none, .bin .add (.t 105) (.v (.int .i64 1))⟩, ⟨some 12, none, .mov (.t 106)⟩])
      (.block 6 (.loop [0, 1, 2, 3, 9, 10, 12] (.seq (.seq (.ops [⟨some 107, none, .mov (.t 12)⟩, ⟨some 108, none, .mov (.t 2)⟩, ⟨some 109, none, .bin .lss (.t 107) (.t 108)⟩])
        (.cond (.t 109) .skip (.exit 6)))
        (.seq (.block 7 (.seq (.seq (.drawn [0, 0, 0, 6, 14, 0, 0, 64, 224, 480, 1023, 2047, 4095] 10 [⟨some 112, none, .mov (.t 3)⟩, ⟨some 113, none, .mov (.t 0)⟩, ⟨some 114, none, .mov (.t 12)⟩, ⟨some 115, none, .ixS 2 (.t 113) (.t 114)⟩, ⟨some 116, none, .ldA 2 (.t 115)⟩, ⟨some 117, none, .mov (.t 0)⟩, ⟨some 118, none, .mov (.t 12)⟩, ⟨some 119, none, .bin .sub (.t 118) (.v (.int .i64 1))⟩, ⟨some 120, none, .ixS 2 (.t 117) (.t 119)⟩, ⟨some 121, none, .ldA 2 (.t 120)⟩, ⟨some 122, none, .callv (.t 112) [(.t 116), (.t 121)]⟩, ⟨some 123, none, .bin .lss (.t 122) (.v (.int .i64 0))⟩, ⟨some 124, none, .not (.t 123)⟩])
         (.cond (.t 124) (.exit 6) .skip))
         (.drawn [0, 0, 0, 0, 8, 0, 0, 64, 224, 480, 0, 0, 3072, 7168, 16355, 32739, 65535, 131071] 16 [⟨some 125, none, .mov (.t 0)⟩, ⟨some 126, none, .mov (.t 12)⟩, ⟨some 127, none, .mov (.t 0)⟩, ⟨some 128, none, .mov (.t 12)⟩, ⟨some 129, none, .bin .sub (.t 128) (.v (.int .i64 1))⟩, ⟨some 130, none, .mov (.t 0)⟩, ⟨some 131, none, .mov (.t 12)⟩, ⟨some 132, none, .bin .sub (.t 131) (.v (.int .i64 1))⟩, ⟨some 133, none, .ixS 2 (.t 130) (.t 132)⟩, ⟨some 134, none, .ldA 2 (.t 133)⟩, ⟨some 135, none, .mov (.t 0)⟩, ⟨some 136, none, .mov (.t 12)⟩, ⟨some 137, none, .ixS 2 (.t 135) (.t 136)⟩, ⟨some 138, none, .ldA 2 (.t 137)⟩, ⟨some 139, none, .ixS 2 (.t 125) (.t 126)⟩, ⟨none, none, .st 2 (.t 139) (.t 134)⟩, ⟨some 140, none, .ixS 2 (.t 127) (.t 129)⟩, ⟨none, none, .st 2 (.t 140) (.t 138)⟩])))
        (.ops [⟨some 110, none, .mov (.t 12)⟩, ⟨some 111, none, .bin .add (.t 110) (.v (.int .i64 1))⟩, ⟨some 12, none, .mov (.t 111)⟩])))))) .skip))))))))
    (.ops [⟨some 17, none, .mov (.t 10)⟩, ⟨some 18, none, .bin .add (.t 17) (.v (.int .i64 1))⟩, ⟨some 10, none, .mov (.t 18)⟩]))))))
  (.seq (.ops [⟨some 8, none, .mov (.v (.bool false))⟩])
  .ret)))), 141, [.tmp 8]⟩
theorem Tryd.ek117 : KnownE Tryd.prog 117 Tryd.ec117 := ⟨Tryd.f117, _, Tryd.func117, rfl, by kernel_rfl, rfl, by kernel_rfl, by kernel_rfl⟩

/-- slices.partitionEqualCmpFunc[redwax/api.Label] -/
def Tryd.ec118 : EFn := ⟨(.seq (.ops [⟨some 10, none, .mov (.v (.int .i64 0))⟩])
  (.seq (.drawn [0, 0, 0, 0, 0, 0, 48, 112, 0, 0, 768, 1792, 4083, 8179, 16383, 32767] 12 [⟨some 13, none, .mov (.t 0)⟩, ⟨some 14, none, .mov (.t 1)⟩, ⟨some 15, none, .mov (.t 0)⟩, ⟨some 16, none, .mov (.t 3)⟩, ⟨some 17, none, .mov (.t 0)⟩, ⟨some 18, none, .mov (.t 3)⟩, ⟨some 19, none, .ixS 2 (.t 17) (.t 18)⟩, ⟨some 20, none, .ldA 2 (.t 19)⟩, ⟨some 21, none, .mov (.t 0)⟩, ⟨some 22, none, .mov (.t 1)⟩, ⟨some 23, none, .ixS 2 (.t 21) (.t 22)⟩, ⟨some 24, none, .ldA 2 (.t 23)⟩, ⟨some 25, none, .ixS 2 (.t 13) (.t 14)⟩, ⟨none, none, .st 2 (.t 25) (.t 20)⟩, ⟨some 26, none, .ixS 2 (.t 15) (.t 16)⟩, ⟨none, none, .st 2 (.t 26) (.t 24)⟩])
  (.seq (.ops [⟨some 27, none, .mov (.t 1)⟩, ⟨some 28, none, .bin .add (.t 27) (.v (.int .i64 1))⟩, ⟨some 29, none, .mov (.t 2)⟩, ⟨some 30, none, .bin .sub (.t 29) (.v (.int .i64 1))⟩, ⟨some 11, none, .mov (.t 28)⟩, ⟨some 12, none, .mov (.t 30)⟩])
  (.seq (.block 0 (.loop [0, 1, 4, 11, 12] (.block 1 (.seq (.block 2 (.loop [0, 1, 4, 11, 12] (.seq (.seq (.drawn [0, 0, 3, 7, 15, 15, 15, 111, 239, 15, 15, 1551, 3599, 8191, 16383, 32767, 65535] 13 [⟨some 31, none, .mov (.t 11)⟩, ⟨some 32, none, .mov (.t 12)⟩, ⟨some 33, none, .bin .leq (.t 31) (.t 32)⟩, ⟨some 34, none, .mov (.t 33)⟩, ⟨some 35, (some (34, true)), .mov (.t 4)⟩, ⟨some 36, (some (34, true)), .mov (.t 0)⟩, ⟨some 37, (some (34, true)), .mov (.t 1)⟩, ⟨some 38, (some (34, true)), .ixS 2 (.t 36) (.t 37)⟩, ⟨some 39, (some (34, true)), .ldA 2 (.t 38)⟩, ⟨some 40, (some (34, true)), .mov (.t 0)⟩, ⟨some 41, (some (34, true)), .mov (.t 11)⟩, ⟨some 42, (some (34, true)), .ixS 2 (.t 40) (.t 41)⟩, ⟨some 43, (some (34, true)), .ldA 2 (.t 42)⟩, ⟨some 44, (some (34, true)), .callv (.t 35) [(.t 39), (.t 43)]⟩, ⟨some 45, (some (34, true)), .bin .lss (.t 44) (.v (.int .i64 0))⟩, ⟨some 46, (some (34, true)), .not (.t 45)⟩, ⟨some 47, none, .pick (.t 34) (.t 46) (.v (.bool false))⟩])
       (.cond (.t 47) .skip (.exit 2)))
       (.block 3 (.ops [⟨some 48, none, .mov (.t 11)⟩, ⟨some 49, none, .bin .add (.t 48) (.v (.int .i64 1))⟩, ⟨some 11, none, .mov (.t 49)⟩])))))
     (.seq (.block 4 (.loop [0, 1, 4, 11, 12] (.seq (.seq (.drawn [0, 0, 3, 7, 15, 15, 15, 111, 239, 15, 15, 1551, 3599, 8191, 16383, 32767] 13 [⟨some 50, none, .mov (.t 11)⟩, ⟨some 51, none, .mov (.t 12)⟩, ⟨some 52, none, .bin .leq (.t 50) (.t 51)⟩, ⟨some 53, none, .mov (.t 52)⟩, ⟨some 54, (some (53, true)), .mov (.t 4)⟩, ⟨some 55, (some (53, true)), .mov (.t 0)⟩, ⟨some 56, (some (53, true)), .mov (.t 1)⟩, ⟨some 57, (some (53, true)), .ixS 2 (.t 55) (.t 56)⟩, ⟨some 58, (some (53, true)), .ldA 2 (.t 57)⟩, ⟨some 59, (some (53, true)), .mov (.t 0)⟩, ⟨some 60, (some (53, true)), .mov (.t 12)⟩, ⟨some 61, (some (53, true)), .ixS 2 (.t 59) (.t 60)⟩, ⟨some 62, (some (53, true)), .ldA 2 (.t 61)⟩, ⟨some 63, (some (53, true)), .callv (.t 54) [(.t 58), (.t 62)]⟩, ⟨some 64, (some (53, true)), .bin .lss (.t 63) (.v (.int .i64 0))⟩, ⟨some 65, none, .pick (.t 53) (.t 64) (.v (.bool false))⟩])
       (.cond (.t 65) .skip (.exit 4)))
       (.block 5 (.ops [⟨some 66, none, .mov (.t 12)⟩, ⟨some 67, none, .bin .sub (.t 66) (.v (.int .i64 1))⟩, ⟨some 12, none, .mov (.t 67)⟩])))))
     (.seq (.seq (.ops [⟨some 68, none, .mov (.t 11)⟩, ⟨some 69, none, .mov (.t 12)⟩, ⟨some 70, none, .bin .gtr (.t 68) (.t 69)⟩])
     (.cond (.t 70) (.exit 0) .skip))
     (.seq (.drawn [0, 0, 0, 0, 0, 0, 48, 112, 0, 0, 768, 1792, 4083, 8179, 16383, 32767] 12 [⟨some 71, none, .mov (.t 0)⟩, ⟨some 72, none, .mov (.t 11)⟩, ⟨some 73, none, .mov (.t 0)⟩, ⟨some 74, none, .mov (.t 12)⟩, ⟨some 75, none, .mov (.t 0)⟩, ⟨some 76, none, .mov (.t 12)⟩, ⟨some 77, none, .ixS 2 (.t 75) (.t 76)⟩, ⟨some 78, none, .ldA 2 (.t 77)⟩, ⟨some 79, none, .mov (.t 0)⟩, ⟨some 80, none, .mov (.t 11)⟩, ⟨some 81, none, .ixS 2 (.t 79) (.t 80)⟩, ⟨some 82, none, .ldA 2 (.t 81)⟩, ⟨some 83, none, .ixS 2 (.t 71) (.t 72)⟩, ⟨none, none, .st 2 (.t 83) (.t 78)⟩, ⟨some 84, none, .ixS 2 (.t 73) (.t 74)⟩, ⟨none, none, .st 2 (.t 84) (.t 82)⟩])
     (.seq (.ops [⟨some 85, none, .mov (.t 11)⟩, ⟨some 86, none, .bin .add (.t 85) (.v (.int .i64 1))⟩, ⟨some 11, none, .mov (.t 86)⟩])
     (.ops [⟨some 87, none, .mov (.t 12)⟩, ⟨some 88, none, .bin .sub (.t 87) (.v (.int .i64 1))⟩, ⟨some 12, none, .mov (.t 88)⟩])))))))))
  (.seq (.ops [⟨some 89, none, .mov (.t 11)⟩, ⟨some 10, none, .mov (.t 89)⟩])
  .ret))))), 90, [.tmp 10]⟩
theorem Tryd.ek118 : KnownE Tryd.prog 118 Tryd.ec118 := ⟨Tryd.f118, _, Tryd.func118, rfl, by kernel_rfl, rfl, by kernel_rfl, by kernel_rfl⟩

/-- slices.partitionCmpFunc[redwax/api.Label] -/
def Tryd.ec119 : EFn := ⟨(.seq (.ops [⟨some 10, none, .mov (.v (.int .i64 0))⟩, ⟨some 11, none, .mov (.v (.bool false))⟩])
  (.seq (.drawn [0, 0, 0, 0, 0, 0, 48, 112, 0, 0, 768, 1792, 4083, 8179, 16383, 32767] 12 [⟨some 14, none, .mov (.t 0)⟩, ⟨some 15, none, .mov (.t 1)⟩, ⟨some 16, none, .mov (.t 0)⟩, ⟨some 17, none, .mov (.t 3)⟩, ⟨some 18, none, .mov (.t 0)⟩, ⟨some 19, none, .mov (.t 3)⟩, ⟨some 20, none, .ixS 2 (.t 18) (.t 19)⟩, ⟨some 21, none, .ldA 2 (.t 20)⟩, ⟨some 22, none, .mov (.t 0)⟩, ⟨some 23, none, .mov (.t 1)⟩, ⟨some 24, none, .ixS 2 (.t 22) (.t 23)⟩, ⟨some 25, none, .ldA 2 (.t 24)⟩, ⟨some 26, none, .ixS 2 (.t 14) (.t 15)⟩, ⟨none, none, .st 2 (.t 26) (.t 21)⟩, ⟨some 27, none, .ixS 2 (.t 16) (.t 17)⟩, ⟨none, none, .st 2 (.t 27) (.t 25)⟩])
  (.seq (.ops [⟨some 28, none, .mov (.t 1)⟩, ⟨some 29, none, .bin .add (.t 28) (.v (.int .i64 1))⟩, ⟨some 30, none, .mov (.t 2)⟩, ⟨some 31, none, .bin .sub (.t 30) (.v (.int .i64 1))⟩, ⟨some 12, none, .mov (.t 29)⟩, ⟨some 13, none, .mov (.t 31)⟩])
  (.seq (.block 0 (.loop [0, 1, 4, 12, 13] (.seq (.seq (.drawn [0, 0, 3, 7, 15, 15, 15, 111, 239, 15, 15, 1551, 3599, 8191, 16383, 32767] 13 [⟨some 32, none, .mov (.t 12)⟩, ⟨some 33, none, .mov (.t 13)⟩, ⟨some 34, none, .bin .leq (.t 32) (.t 33)⟩, ⟨some 35, none, .mov (.t 34)⟩, ⟨some 36, (some (35, true)), .mov (.t 4)⟩, ⟨some 37, (some (35, true)), .mov (.t 0)⟩, ⟨some 38, (some (35, true)), .mov (.t 12)⟩, ⟨some 39, (some (35, true)), .ixS 2 (.t 37) (.t 38)⟩, ⟨some 40, (some (35, true)), .ldA 2 (.t 39)⟩, ⟨some 41, (some (35, true)), .mov (.t 0)⟩, ⟨some 42, (some (35, true)), .mov (.t 1)⟩, ⟨some 43, (some (35, true)), .ixS 2 (.t 41) (.t 42)⟩, ⟨some 44, (some (35, true)), .ldA 2 (.t 43)⟩, ⟨some 45, (some (35, true)), .callv (.t 36) [(.t 40), (.t 44)]⟩, ⟨some 46, (some (35, true)), .bin .lss (.t 45) (.v (.int .i64 0))⟩, ⟨some 47, none, .pick (.t 35) (.t 46) (.v (.bool false))⟩])
    (.cond (.t 47) .skip (.exit 0)))
    (.block 1 (.ops [⟨some 48, none, .mov (.t 12)⟩, ⟨some 49, none, .bin .add (.t 48) (.v (.int .i64 1))⟩, ⟨some 12, none, .mov (.t 49)⟩])))))
  (.seq (.block 2 (.loop [0, 1, 4, 12, 13] (.seq (.seq (.drawn [0, 0, 3, 7, 15, 15, 15, 111, 239, 15, 15, 1551, 3599, 8191, 16383, 32767, 65535] 13 [⟨some 50, none, .mov (.t 12)⟩, ⟨some 51, none, .mov (.t 13)⟩, ⟨some 52, none, .bin .leq (.t 50) (.t 51)⟩, ⟨some 53, none, .mov (.t 52)⟩, ⟨some 54, (some (53, true)), .mov (.t 4)⟩, ⟨some 55, (some (53, true)), .mov (.t 0)⟩, ⟨some 56, (some (53, true)), .mov (.t 13)⟩, ⟨some 57, (some (53, true)), .ixS 2 (.t 55) (.t 56)⟩, ⟨some 58, (some (53, true)), .ldA 2 (.t 57)⟩, ⟨some 59, (some (53, true)), .mov (.t 0)⟩, ⟨some 60, (some (53, true)), .mov (.t 1)⟩, ⟨some 61, (some (53, true)), .ixS 2 (.t 59) (.t 60)⟩, ⟨some 62, (some (53, true)), .ldA 2 (.t 61)⟩, ⟨some 63, (some (53, true)), .callv (.t 54) [(.t 58), (.t 62)]⟩, ⟨some 64, (some (53, true)), .bin .lss (.t 63) (.v (.int .i64 0))⟩, ⟨some 65, (some (53, true)), .not (.t 64)⟩, ⟨some 66, none, .pick (.t 53) (.t 65) (.v (.bool false))⟩])
    (.cond (.t 66) .skip (.exit 2)))
    (.block 3 (.ops [⟨some 67, none, .mov (.t 13)⟩, ⟨some 68, none, .bin .sub (.t 67) (.v (.int .i64 1))⟩, ⟨some 13, none, .mov (.t 68)⟩])))))
  (.seq (.seq (.ops [⟨some 69, none, .mov (.t 12)⟩, ⟨some 70, none, .mov (.t 13)⟩, ⟨some 71, none, .bin .gtr (.t 69) (.t 70)⟩])
  (.cond (.t 71) (.seq (.drawn [0, 0, 0, 0, 0, 0, 48, 112, 0, 0, 768, 1792, 4083, 8179, 16383, 32767] 12 [⟨some 72, none, .mov (.t 0)⟩, ⟨some 73, none, .mov (.t 13)⟩, ⟨some 74, none, .mov (.t 0)⟩, ⟨some 75, none, .mov (.t 1)⟩, ⟨some 76, none, .mov (.t 0)⟩, ⟨some 77, none, .mov (.t 1)⟩, ⟨some 78, none, .ixS 2 (.t 76) (.t 77)⟩, ⟨some 79, none, .ldA 2 (.t 78)⟩, ⟨some 80, none, .mov (.t 0)⟩, ⟨some 81, none, .mov (.t 13)⟩, ⟨some 82, none, .ixS 2 (.t 80) (.t 81)⟩, ⟨some 83, none, .ldA 2 (.t 82)⟩, ⟨some 84, none, .ixS 2 (.t 72) (.t 73)⟩, ⟨none, none, .st 2 (.t 84) (.t 79)⟩, ⟨some 85, none, .ixS 2 (.t 74) (.t 75)⟩, ⟨none, none, .st 2 (.t 85) (.t 83)⟩])
   (.seq (.ops [⟨some 86, none, .mov (.t 13)⟩, ⟨some 10, none, .mov (.t 86)⟩, ⟨some 11, none, .mov (.v (.bool true))⟩])
   .ret)) .skip))
  (.seq (.drawn [0, 0, 0, 0, 0, 0, 48, 112, 0, 0, 768, 1792, 4083, 8179, 16383, 32767] 12 [⟨some 87, none, .mov (.t 0)⟩, ⟨some 88, none, .mov (.t 12)⟩, ⟨some 89, none, .mov (.t 0)⟩, ⟨some 90, none, .mov (.t 13)⟩, ⟨some 91, none, .mov (.t 0)⟩, ⟨some 92, none, .mov (.t 13)⟩, ⟨some 93, none, .ixS 2 (.t 91) (.t 92)⟩, ⟨some 94, none, .ldA 2 (.t 93)⟩, ⟨some 95, none, .mov (.t 0)⟩, ⟨some 96, none, .mov (.t 12)⟩, ⟨some 97, none, .ixS 2 (.t 95) (.t 96)⟩, ⟨some 98, none, .ldA 2 (.t 97)⟩, ⟨some 99, none, .ixS 2 (.t 87) (.t 88)⟩, ⟨none, none, .st 2 (.t 99) (.t 94)⟩, ⟨some 100, none, .ixS 2 (.t 89) (.t 90)⟩, ⟨none, none, .st 2 (.t 100) (.t 98)⟩])
  (.seq (.ops [⟨some 101, none, .mov (.t 12)⟩, ⟨some 102, none, .bin .add (.t 101) (.v (.int .i64 1))⟩, ⟨some 12, none, .mov (.t 102)⟩])
  (.seq (.ops [⟨some 103, none, .mov (.t 13)⟩, ⟨some 104, none, .bin .sub (.t 103) (.v (.int .i64 1))⟩, ⟨some 13, none, .mov (.t 104)⟩])
  (.seq (.block 4 (.loop [0, 1, 4, 12, 13] (.block 5 (.seq (.block 6 (.loop [0, 1, 4, 12, 13] (.seq (.seq (.drawn [0, 0, 3, 7, 15, 15, 15, 111, 239, 15, 15, 1551, 3599, 8191, 16383, 32767] 13 [⟨some 105, none, .mov (.t 12)⟩, ⟨some 106, none, .mov (.t 13)⟩, ⟨some 107, none, .bin .leq (.t 105) (.t 106)⟩, ⟨some 108, none, .mov (.t 107)⟩, ⟨some 109, (some (108, true)), .mov (.t 4)⟩, ⟨some 110, (some (108, true)), .mov (.t 0)⟩, ⟨some 111, (some (108, true)), .mov (.t 12)⟩, ⟨some 112, (some (108, true)), .ixS 2 (.t 110) (.t 111)⟩, ⟨some 113, (some (108, true)), .ldA 2 (.t 112)⟩, ⟨some 114, (some (108, true)), .mov (.t 0)⟩, ⟨some 115, (some (108, true)), .mov (.t 1)⟩, ⟨some 116, (some (108, true)), .ixS 2 (.t 114) (.t 115)⟩, ⟨some 117, (some (108, true)), .ldA 2 (.t 116)⟩, ⟨some 118, (some (108, true)), .callv (.t 109) [(.t 113), (.t 117)]⟩, ⟨some 119, (some (108, true)), .bin .lss (.t 118) (.v (.int .i64 0))⟩, ⟨some 120, none, .pick (.t 108) (.t 119) (.v (.bool false))⟩])
       (.cond (.t 120) .skip (.exit 6)))
       (.block 7 (.ops [⟨some 121, none, .mov (.t 12)⟩, ⟨some 122, none, .bin .add (.t 121) (.v (.int .i64 1))⟩, ⟨some 12, none, .mov (.t 122)⟩])))))
     (.seq (.block 8 (.loop [0, 1, 4, 12, 13] (.seq (.seq (.drawn [0, 0, 3, 7, 15, 15, 15, 111, 239, 15, 15, 1551, 3599, 8191, 16383, 32767, 65535] 13 [⟨some 123, none, .mov (.t 12)⟩, ⟨some 124, none, .mov (.t 13)⟩, ⟨some 125, none, .bin .leq (.t 123) (.t 124)⟩, ⟨some 126, none, .mov (.t 125)⟩, ⟨some 127, (some (126, true)), .mov (.t 4)⟩, ⟨some 128, (some (126, true)), .mov (.t 0)⟩, ⟨some 129, (some (126, true)), .mov (.t 13)⟩, ⟨some 130, (some (126, true)), .ixS 2 (.t 128) (.t 129)⟩, ⟨some 131, (some (126, true)), .ldA 2 (.t 130)⟩, ⟨some 132, (some (126, true)), .mov (.t 0)⟩, ⟨some 133, (some (126, true)), .mov (.t 1)⟩, ⟨some 134, (some (126, true)), .ixS 2 (.t 132) (.t 133)⟩, ⟨some 135, (some (126, true)), .ldA 2 (.t 134)⟩, ⟨some 136, (some (126, true)), .callv (.t 127) [(.t 131), (.t 135)]⟩, ⟨some 137, (some (126, true)), .bin .lss (.t 136) (.v (.int .i64 0))⟩, ⟨some 138, (some (126, true)), .not (.t 137)⟩, ⟨some 139, none, .pick (.t 126) (.t 138) (.v (.bool false))⟩])
       (.cond (.t 139) .skip (.exit 8)))
       (.block 9 (.ops [⟨some 140, none, .mov (.t 13)⟩, ⟨some 141, none, .bin .sub (.t 140) (.v (.int .i64 1))⟩, ⟨some 13, none, .mov (.t 141)⟩])))))
     (.seq (.seq (.ops [⟨some 142, none, .mov (.t 12)⟩, ⟨some 143, none, .mov (.t 13)⟩, ⟨some 144, none, .bin .gtr (.t 142) (.t 143)⟩])
     (.cond (.t 144) (.exit 4) .skip))
     (.seq (.drawn [0, 0, 0, 0, 0, 0, 48, 112, 0, 0, 768, 1792, 4083, 8179, 16383, 32767] 12 [⟨some 145, none, .mov (.t 0)⟩, ⟨some 146, none, .mov (.t 12)⟩, ⟨some 147, none, .mov (.t 0)⟩, ⟨some 148, none, .mov (.t 13)⟩, ⟨some 149, none, .mov (.t 0)⟩, ⟨some 150, none, .mov (.t 13)⟩, ⟨some 151, none, .ixS 2 (.t 149) (.t 150)⟩, ⟨some 152, none, .ldA 2 (.t 151)⟩, ⟨some 153, none, .mov (.t 0)⟩, ⟨some 154, none, .mov (.t 12)⟩, ⟨some 155, none, .ixS 2 (.t 153) (.t 154)⟩, ⟨some 156, none, .ldA 2 (.t 155)⟩, ⟨some 157, none, .ixS 2 (.t 145) (.t 146)⟩, ⟨none, none, .st 2 (.t 157) (.t 152)⟩, ⟨some 158, none, .ixS 2 (.t 147) (.t 148)⟩, ⟨none, none, .st 2 (.t 158) (.t 156)⟩])
     (.seq (.ops [⟨some 159, none, .mov (.t 12)⟩, ⟨some 160, none, .bin .add (.t 159) (.v (.int .i64 1))⟩, ⟨some 12, none, .mov (.t 160)⟩])
     (.ops [⟨some 161, none, .mov (.t 13)⟩, ⟨some 162, none, .bin .sub (.t 161) (.v (.int .i64 1))⟩, ⟨some 13, none, .mov (.t 162)⟩])))))))))
  (.seq (.drawn [0, 0, 0, 0, 0, 0, 48, 112, 0, 0, 768, 1792, 4083, 8179, 16383, 32767] 12 [⟨some 163, none, .mov (.t 0)⟩, ⟨some 164, none, .mov (.t 13)⟩, ⟨some 165, none, .mov (.t 0)⟩, ⟨some 166, none, .mov (.t 1)⟩, ⟨some 167, none, .mov (.t 0)⟩, ⟨some 168, none, .mov (.t 1)⟩, ⟨some 169, none, .ixS 2 (.t 167) (.t 168)⟩, ⟨some 170, none, .ldA 2 (.t 169)⟩, ⟨some 171, none, .mov (.t 0)⟩, ⟨some 172, none, .mov (.t 13)⟩, ⟨some 173, none, .ixS 2 (.t 171) (.t 172)⟩, ⟨some 174, none, .ldA 2 (.t 173)⟩, ⟨some 175, none, .ixS 2 (.t 163) (.t 164)⟩, ⟨none, none, .st 2 (.t 175) (.t 170)⟩, ⟨some 176, none, .ixS 2 (.t 165) (.t 166)⟩, ⟨none, none, .st 2 (.t 176) (.t 174)⟩])
  (.seq (.ops [⟨some 177, none, .mov (.t 13)⟩, ⟨some 10, none, .mov (.t 177)⟩, ⟨some 11, none, .mov (.v (.bool false))⟩])
  .ret)))))))))))), 178, [.tmp 10, .tmp 11]⟩
theorem Tryd.ek119 : KnownE Tryd.prog 119 Tryd.ec119 := ⟨Tryd.f119, _, Tryd.func119, rfl, by kernel_rfl, rfl, by kernel_rfl, by kernel_rfl⟩

/-- math/bits.Len32 -/
def Tryd.ec120 : EFn := ⟨(.seq (.ops [⟨some 2, none, .mov (.v (.int .i64 0))⟩])
  (.seq (.seq (.ops [⟨some 3, none, .mov (.t 0)⟩, ⟨some 4, none, .bin .geq (.t 3) (.v (.int .u32 65536))⟩])
  (.cond (.t 4) (.seq (.ops [⟨some 5, none, .mov (.t 0)⟩, ⟨some 6, none, .bin .shr (.t 5) (.v (.int .u64 16))⟩, ⟨some 0, none, .mov (.t 6)⟩])
   (.ops [⟨some 2, none, .mov (.v (.int .i64 16))⟩])) .skip))
  (.seq (.seq (.ops [⟨some 7, none, .mov (.t 0)⟩, ⟨some 8, none, .bin .geq (.t 7) (.v (.int .u32 256))⟩])
  (.cond (.t 8) (.seq (.ops [⟨some 9, none, .mov (.t 0)⟩, ⟨some 10, none, .bin .shr (.t 9) (.v (.int .u64 8))⟩, ⟨some 0, none, .mov (.t 10)⟩])
   (.ops [⟨some 11, none, .mov (.t 2)⟩, ⟨some 12, none, .bin .add (.t 11) (.v (.int .i64 8))⟩, ⟨some 2, none, .mov (.t 12)⟩])) .skip))
  (.seq (.ops [⟨some 13, none, .mov (.t 2)⟩, ⟨some 14, none, .mov (.t 0)⟩, ⟨some 15, none, .cvt .u8 (.t 14)⟩, ⟨some 16, none, .ixStr (.v (.string ⟨#[0, 1, 2, 2, 3, 3, 3, 3, 4, 4, 4, 4, 4, 4, 4, 4, 5, 5, 5, 5, 5, 5, 5, 5, 5, 5, 5, 5, 5, 5, 5, 5, 6, 6, 6, 6, 6, 6, 6, 6, 6, 6, 6, 6, 6, 6, 6, 6, 6, 6, 6, 6, 6, 6, 6, 6, 6, 6, 6, 6, 6, 6, 6, 6, 7, 7, 7, 7, 7, 7, 7, 7, 7, 7, 7, 7, 7, 7, 7, 7, 7, 7, 7, 7, 7, 7, 7, 7, 7, 7, 7, 7, 7, 7, 7, 7, 7, 7, 7, 7, 7, 7, 7, 7, 7, 7, 7, 7, 7, 7, 7, 7, 7, 7, 7, 7, 7, 7, 7, 7, 7, 7, 7, 7, 7, 7, 7, 7, 8, 8, 8, 8, 8, 8, 8, 8, 8, 8, 8, 8, 8, 8, 8, 8, 8, 8, 8, 8, 8, 8, 8, 8, 8, 8, 8, 8, 8, 8, 8, 8, 8, 8, 8, 8, 8, 8, 8, 8, 8, 8, 8, 8, 8, 8, 8, 8, 8, 8, 8, 8, 8, 8, 8, 8, 8, 8, 8, 8, 8, 8, 8, 8, 8, 8, 8, 8, 8, 8, 8, 8, 8, 8, 8, 8, 8, 8, 8, 8, 8, 8, 8, 8, 8, 8, 8, 8, 8, 8, 8, 8, 8, 8, 8, 8, 8, 8, 8, 8, 8, 8, 8, 8, 8, 8, 8, 8, 8, 8, 8, 8, 8, 8, 8, 8, 8, 8, 8, 8, 8, 8, 8, 8, 8, 8, 8, 8]⟩)) (.t 15)⟩, ⟨some 17, none, .cvt .i64 (.t 16)⟩, ⟨some 18, none, .bin .add (.t 13) (.t 17)⟩, ⟨some 2, none, .mov (.t 18)⟩])
  .ret)))), 19, [.tmp 2]⟩
theorem Tryd.ek120 : KnownE Tryd.prog 120 Tryd.ec120 := ⟨Tryd.f120, _, Tryd.func120, rfl, by kernel_rfl, rfl, by kernel_rfl, by kernel_rfl⟩

/-- math/bits.Len64 -/
def Tryd.ec121 : EFn := ⟨(.seq (.ops [⟨some 2, none, .mov (.v (.int .i64 0))⟩])
  (.seq (.seq (.ops [⟨some 3, none, .mov (.t 0)⟩, ⟨some 4, none, .bin .geq (.t 3) (.v (.int .u64 4294967296))⟩])
  (.cond (.t 4) (.seq (.ops [⟨some 5, none, .mov (.t 0)⟩, ⟨some 6, none, .bin .shr (.t 5) (.v (.int .u64 32))⟩, ⟨some 0, none, .mov (.t 6)⟩])
   (.ops [⟨some 2, none, .mov (.v (.int .i64 32))⟩])) .skip))
  (.seq (.seq (.ops [⟨some 7, none, .mov (.t 0)⟩, ⟨some 8, none, .bin .geq (.t 7) (.v (.int .u64 65536))⟩])
  (.cond (.t 8) (.seq (.ops [⟨some 9, none, .mov (.t 0)⟩, ⟨some 10, none, .bin .shr (.t 9) (.v (.int .u64 16))⟩, ⟨some 0, none, .mov (.t 10)⟩])
   (.ops [⟨some 11, none, .mov (.t 2)⟩, ⟨some 12, none, .bin .add (.t 11) (.v (.int .i64 16))⟩, ⟨some 2, none, .mov (.t 12)⟩])) .skip))
  (.seq (.seq (.ops [⟨some 13, none, .mov (.t 0)⟩, ⟨some 14, none, .bin .geq (.t 13) (.v (.int .u64 256))⟩])
  (.cond (.t 14) (.seq (.ops [⟨some 15, none, .mov (.t 0)⟩, ⟨some 16, none, .bin .shr (.t 15) (.v (.int .u64 8))⟩, ⟨some 0, none, .mov (.t 16)⟩])
   (.ops [⟨some 17, none, .mov (.t 2)⟩, ⟨some 18, none, .bin .add (.t 17) (.v (.int .i64 8))⟩, ⟨some 2, none, .mov (.t 18)⟩])) .skip))
  (.seq (.ops [⟨some 19, none, .mov (.t 2)⟩, ⟨some 20, none, .mov (.t 0)⟩, ⟨some 21, none, .cvt .u8 (.t 20)⟩, ⟨some 22, none, .ixStr (.v (.string ⟨#[0, 1, 2, 2, 3, 3, 3, 3, 4, 4, 4, 4, 4, 4, 4, 4, 5, 5, 5, 5, 5, 5, 5, 5, 5, 5, 5, 5, 5, 5, 5, 5, 6, 6, 6, 6, 6, 6, 6, 6, 6, 6, 6, 6, 6, 6, 6, 6, 6, 6, 6, 6, 6, 6, 6, 6, 6, 6, 6, 6, 6, 6, 6, 6, 7, 7, 7, 7, 7, 7, 7, 7, 7, 7, 7, 7, 7, 7, 7, 7, 7, 7, 7, 7, 7, 7, 7, 7, 7, 7, 7, 7, 7, 7, 7, 7, 7, 7, 7, 7, 7, 7, 7, 7, 7, 7, 7, 7, 7, 7, 7, 7, 7, 7, 7, 7, 7, 7, 7, 7, 7, 7, 7, 7, 7, 7, 7, 7, 8, 8, 8, 8, 8, 8, 8, 8, 8, 8, 8, 8, 8, 8, 8, 8, 8, 8, 8, 8, 8, 8, 8, 8, 8, 8, 8, 8, 8, 8, 8, 8, 8, 8, 8, 8, 8, 8, 8, 8, 8, 8, 8, 8, 8, 8, 8, 8, 8, 8, 8, 8, 8, 8, 8, 8, 8, 8, 8, 8, 8, 8, 8, 8, 8, 8, 8, 8, 8, 8, 8, 8, 8, 8, 8, 8, 8, 8, 8, 8, 8, 8, 8, 8, 8, 8, 8, 8, 8, 8, 8, 8, 8, 8, 8, 8, 8, 8, 8, 8, 8, 8, 8, 8, 8, 8, 8, 8, 8, 8, 8, 8, 8, 8, 8, 8, 8, 8, 8, 8, 8, 8, 8, 8, 8, 8, 8, 8]⟩)) (.t 21)⟩, ⟨some 23, none, .cvt .i64 (.t 22)⟩, ⟨some 24, none, .bin .add (.t 19) (.t 23)⟩, ⟨some 2, none, .mov (.t 24)⟩])
  .ret))))), 25, [.tmp 2]⟩
theorem Tryd.ek121 : KnownE Tryd.prog 121 Tryd.ec121 := ⟨Tryd.f121, _, Tryd.func121, rfl, by kernel_rfl, rfl, by kernel_rfl, by kernel_rfl⟩

/-- internal/stringslite.Index -/
def Tryd.ec122 : EFn := ⟨(.seq (.ops [⟨some 4, none, .mov (.v (.int .i64 0))⟩])
  (.seq (.ops [⟨some 14, none, .mov (.t 1)⟩, ⟨some 15, none, .lenStr (.t 14)⟩, ⟨some 5, none, .mov (.t 15)⟩])
  (.seq (.block 0 (.seq (.ops [⟨some 17, none, .mov (.t 5)⟩, ⟨some 18, none, .bin .eql (.t 17) (.v (.int .i64 0))⟩, ⟨some 19, none, .mov (.t 18)⟩, ⟨some 20, (some (19, false)), .mov (.t 1)⟩, ⟨some 21, (some (19, false)), .mov (.t 0)⟩, ⟨some 22, (some (19, false)), .bin .eql (.t 20) (.t 21)⟩, ⟨some 23, none, .pick (.t 19) (.v (.bool true)) (.t 22)⟩, ⟨some 16, none, .mov (.t 23)⟩])
   (.cond (.t 16) (.seq (.ops [⟨some 4, none, .mov (.v (.int .i64 0))⟩])
    .ret) (.seq (.ops [⟨some 25, none, .mov (.t 5)⟩, ⟨some 26, none, .bin .eql (.t 25) (.v (.int .i64 1))⟩, ⟨some 24, none, .mov (.t 26)⟩])
    (.cond (.t 24) (.seq (.ops [⟨some 27, none, .mov (.t 0)⟩, ⟨some 28, none, .mov (.t 1)⟩, ⟨some 29, none, .ixStr (.t 28) (.v (.int .i64 0))⟩, ⟨some 30, none, .call 144 [(.t 27), (.t 29)]⟩, ⟨some 4, none, .mov (.t 30)⟩])
     .ret) (.seq (.ops [⟨some 32, none, .mov (.t 5)⟩, ⟨some 33, none, .mov (.t 0)⟩, ⟨some 34, none, .lenStr (.t 33)⟩, ⟨some 35, none, .bin .geq (.t 32) (.t 34)⟩, ⟨some 31, none, .mov (.t 35)⟩])
     (.cond (.t 31) (.seq (.ops [⟨some 4, none, .mov (.v (.int .i64 (-1)))⟩])
      .ret) (.seq (.ops [⟨some 37, none, .mov (.t 5)⟩, ⟨some 38, none, .ld (.v (.pointer (some ⟨0, 0, none⟩)))⟩, ⟨some 39, none, .bin .leq (.t 37) (.t 38)⟩, ⟨some 40, none, .mov (.t 39)⟩, ⟨some 41, (some (40, true)), .mov (.t 0)⟩, ⟨some 42, (some (40, true)), .lenStr (.t 41)⟩, ⟨some 43, (some (40, true)), .bin .leq (.t 42) (.v (.int .i64 64))⟩, ⟨some 44, none, .pick (.t 40) (.t 43) (.v (.bool false))⟩, ⟨some 36, none, .mov (.t 44)⟩])
      (.cond (.t 36) (.seq (.ops [⟨some 45, none, .mov (.t 0)⟩, ⟨some 46, none, .mov (.t 1)⟩, ⟨some 47, none, .more .other⟩, ⟨some 4, none, .mov (.t 47)⟩])
       .ret) .skip)))))))))
  (.seq (.ops [⟨some 48, none, .mov (.t 1)⟩, ⟨some 49, none, .ixStr (.t 48) (.v (.int .i64 0))⟩, ⟨some 6, none, .mov (.t 49)⟩])
  (.seq (.ops [⟨some 50, none, .mov (.t 1)⟩, ⟨some 51, none, .ixStr (.t 50) (.v (.int .i64 1))⟩, ⟨some 7, none, .mov (.t 51)⟩])
  (.seq (.ops [⟨some 8, none, .mov (.v (.int .i64 0))⟩])
  (.seq (.ops [⟨some 52, none, .mov (.t 0)⟩, ⟨some 53, none, .lenStr (.t 52)⟩, ⟨some 54, none, .mov (.t 5)⟩, ⟨some 55, none, .bin .sub (.t 53) (.t 54)⟩, ⟨some 56, none, .bin .add (.t 55) (.v (.int .i64 1))⟩, ⟨some 9, none, .mov (.t 56)⟩])
  (.seq (.ops [⟨some 10, none, .mov (.v (.int .i64 0))⟩])
  (.seq (.block 1 (.loop [0, 1, 5, 6, 7, 8, 9, 10] (.seq (.seq (.ops [⟨some 57, none, .mov (.t 8)⟩, ⟨some 58, none, .mov (.t 9)⟩, ⟨some 59, none, .bin .lss (.t 57) (.t 58)⟩])
    (.cond (.t 59) .skip (.exit 1)))
    (.block 2 (.seq (.seq (.ops [⟨some 60, none, .mov (.t 0)⟩, ⟨some 61, none, .mov (.t 8)⟩, ⟨some 62, none, .ixStr (.t 60) (.t 61)⟩, ⟨some 63, none, .mov (.t 6)⟩, ⟨some 64, none, .bin .neq (.t 62) (.t 63)⟩])
     (.cond (.t 64) (.seq (.ops [⟨some 65, none, .mov (.t 0)⟩, ⟨some 66, none, .mov (.t 8)⟩, ⟨some 67, none, .bin .add (.t 66) (.v (.int .i64 1))⟩, ⟨some 68, none, .mov (.t 9)⟩, ⟨some 69, none, .slStr (.t 65) (some (.t 67)) (some (.t 68))⟩, ⟨some 70, none, .mov (.t 6)⟩, ⟨some 71, none, .call 144 [(.t 69), (.t 70)]⟩, ⟨some 11, none, .mov (.t 71)⟩])
      (.seq (.seq (.ops [⟨some 72, none, .mov (.t 11)⟩, ⟨some 73, none, .bin .lss (.t 72) (.v (.int .i64 0))⟩])
      (.cond (.t 73) (.seq (.ops [⟨some 4, none, .mov (.v (.int .i64 (-1)))⟩])
       .ret) .skip))
      (.ops [⟨some 74, none, .mov (.t 8)⟩, ⟨some 75, none, .mov (.t 11)⟩, ⟨some 76, none, .bin .add (.t 75) (.v (.int .i64 1))⟩, ⟨some 77, none, .bin .add (.t 74) (.t 76)⟩, ⟨some 8, none, .mov (.t 77)⟩]))) .skip))
     (.seq (.seq (.ops [⟨some 78, none, .mov (.t 0)⟩, ⟨some 79, none, .mov (.t 8)⟩, ⟨some 80, none, .bin .add (.t 79) (.v (.int .i64 1))⟩, ⟨some 81, none, .ixStr (.t 78) (.t 80)⟩, ⟨some 82, none, .mov (.t 7)⟩, ⟨some 83, none, .bin .eql (.t 81) (.t 82)⟩, ⟨some 84, none, .mov (.t 83)⟩, ⟨some 85, (some (84, true)), .mov (.t 0)⟩, ⟨some 86, (some (84, true)), .mov (.t 8)⟩, ⟨some 87, (some (84, true)), .mov (.t 8)⟩, ⟨some 88, (some (84, true)), .mov (.t 5)⟩, ⟨some 89, (some (84, true)), .bin .add (.t 87) (.t 88)⟩, ⟨some 90, (some (84, true)), .slStr (.t 85) (some (.t 86)) (some (.t 89))⟩, ⟨some 91, (some (84, true)), .mov (.t 1)⟩, ⟨some 92, (some (84, true)), .bin .eql (.t 90) (.t 91)⟩, ⟨some 93, none, .pick (.t 84) (.t 92) (.v (.bool false))⟩])
     (.cond (.t 93) (.seq (.ops [⟨some 94, none, .mov (.t 8)⟩, ⟨some 4, none, .mov (.t 94)⟩])
      .ret) .skip))
     (.seq (.ops [⟨some 95, none, .mov (.t 8)⟩, ⟨some 96, none, .bin .add (.t 95) (.v (.int .i64 1))⟩, ⟨some 8, none, .mov (.t 96)⟩])
     (.seq (.ops [⟨some 97, none, .mov (.t 10)⟩, ⟨some 98, none, .bin .add (.t 97) (.v (.int .i64 1))⟩, ⟨some 10, none, .mov (.t 98)⟩])
     (.seq (.ops [⟨some 99, none, .mov (.t 5)⟩, ⟨some 100, none, .ld (.v (.pointer (some ⟨0, 0, none⟩)))⟩, ⟨some 101, none, .bin .leq (.t 99) (.t 100)⟩, ⟨some 102, none, .mov (.t 101)⟩, ⟨some 103, (some (102, true)), .mov (.t 10)⟩, ⟨some 104, (some (102, true)), .mov (.t 8)⟩, ⟨some 105, (some (102, true)), .call 146 [(.t 104)]⟩, ⟨some 106, (some (102, true)), .bin .gtr (.t 103) (.t 105)⟩, ⟨some 107, none, .pick (.t 102) (.t 106) (.v (.bool false))⟩])
     (.cond (.t 107) (.seq (.ops [⟨some 108, none, .mov (.t 0)⟩, ⟨some 109, none, .mov (.t 8)⟩, ⟨some 110, none, .slStr (.t 108) (some (.t 109)) none⟩, ⟨some 111, none, .mov (.t 1)⟩, ⟨some 112, none, .more .other⟩, ⟨some 12, none, .mov (.t 112)⟩])
      (.seq (.seq (.ops [⟨some 113, none, .mov (.t 12)⟩, ⟨some 114, none, .bin .geq (.t 113) (.v (.int .i64 0))⟩])
      (.cond (.t 114) (.seq (.ops [⟨some 115, none, .mov (.t 12)⟩, ⟨some 116, none, .mov (.t 8)⟩, ⟨some 117, none, .bin .add (.t 115) (.t 116)⟩, ⟨some 4, none, .mov (.t 117)⟩])
       .ret) .skip))
      (.seq (.ops [⟨some 4, none, .mov (.v (.int .i64 (-1)))⟩])
      .ret))) (.seq (.ops [⟨some 118, none, .mov (.t 5)⟩, ⟨some 119, none, .ld (.v (.pointer (some ⟨0, 0, none⟩)))⟩, ⟨some 120, none, .bin .gtr (.t 118) (.t 119)⟩, ⟨some 121, none, .mov (.t 120)⟩, ⟨some 122, (some (121, true)), .mov (.t 10)⟩, ⟨some 123, (some (121, true)), .mov (.t 8)⟩, ⟨some 124, (some (121, true)), .bin .shr (.t 123) (.v (.int .u64 4))⟩, ⟨some 125, (some (121, true)), .bin .add (.v (.int .i64 4)) (.t 124)⟩, ⟨some 126, (some (121, true)), .bin .geq (.t 122) (.t 125)⟩, ⟨some 127, none, .pick (.t 121) (.t 126) (.v (.bool false))⟩, ⟨some 128, none, .mov (.t 127)⟩, ⟨some 129, (some (128, true)), .mov (.t 8)⟩, ⟨some 130, (some (128, true)), .mov (.t 9)⟩, ⟨some 131, (some (128, true)), .bin .lss (.t 129) (.t 130)⟩, ⟨some 132, none, .pick (.t 128) (.t 131) (.v (.bool false))⟩])
      (.cond (.t 132) (.seq (.ops [⟨some 133, none, .mov (.t 0)⟩, ⟨some 134, none, .mov (.t 8)⟩, ⟨some 135, none, .slStr (.t 133) (some (.t 134)) none⟩, ⟨some 136, none, .mov (.t 1)⟩, ⟨some 137, none, .call 147 [(.t 135), (.t 136)]⟩, ⟨some 13, none, .mov (.t 137)⟩])
       (.seq (.seq (.ops [⟨some 138, none, .mov (.t 13)⟩, ⟨some 139, none, .bin .lss (.t 138) (.v (.int .i64 0))⟩])
       (.cond (.t 139) (.seq (.ops [⟨some 4, none, .mov (.v (.int .i64 (-1)))⟩])
        .ret) .skip))
       (.seq (.ops [⟨some 140, none, .mov (.t 8)⟩, ⟨some 141, none, .mov (.t 13)⟩, ⟨some 142, none, .bin .add (.t 140) (.t 141)⟩, ⟨some 4, none, .mov (.t 142)⟩])
       .ret))) .skip))))))))))))
  (.seq (.ops [⟨some 4, none, .mov (.v (.int .i64 (-1)))⟩])
  .ret)))))))))), 143, [.tmp 4]⟩
theorem Tryd.ek122 : KnownE Tryd.prog 122 Tryd.ec122 := ⟨Tryd.f122, _, Tryd.func122, rfl, by kernel_rfl, rfl, by kernel_rfl, by kernel_rfl⟩

/-- internal/strconv.ParseInt -/
def Tryd.ec123 : EFn := ⟨(.seq (.ops [⟨some 6, none, .mov (.v (.int .i64 0))⟩, ⟨some 7, none, .mov (.v .nilIface)⟩])
  (.seq (.seq (.ops [⟨some 12, none, .mov (.t 0)⟩, ⟨some 13, none, .bin .eql (.t 12) (.v (.string ⟨#[]⟩))⟩])
  (.cond (.t 13) (.seq (.ops [⟨some 14, none, .more (.mkI 120 (.v (.int .i64 2)))⟩, ⟨some 6, none, .mov (.v (.int .i64 0))⟩, ⟨some 7, none, .mov (.t 14)⟩])
   .ret) .skip))
  (.seq (.ops [⟨some 8, none, .mov (.v (.bool false))⟩])
  (.seq (.seq (.ops [⟨some 15, none, .mov (.t 0)⟩, ⟨some 16, none, .ixStr (.t 15) (.v (.int .i64 0))⟩])
  (.block 0 (.seq (.ops [⟨some 18, none, .bin .eql (.t 16) (.v (.int .u8 43))⟩, ⟨some 17, none, .mov (.t 18)⟩])
   (.cond (.t 17) (.ops [⟨some 19, none, .mov (.t 0)⟩, ⟨some 20, none, .slStr (.t 19) (some (.v (.int .i64 1))) none⟩, ⟨some 0, none, .mov (.t 20)⟩]) (.seq (.ops [⟨some 22, none, .bin .eql (.t 16) (.v (.int .u8 45))⟩, ⟨some 21, none, .mov (.t 22)⟩])
    (.cond (.t 21) (.seq (.ops [⟨some 23, none, .mov (.t 0)⟩, ⟨some 24, none, .slStr (.t 23) (some (.v (.int .i64 1))) none⟩, ⟨some 0, none, .mov (.t 24)⟩])
     (.ops [⟨some 8, none, .mov (.v (.bool true))⟩])) .skip))))))
  (.seq (.ops [⟨some 9, none, .mov (.v (.int .u64 0))⟩])
  (.seq (.ops [⟨some 26, none, .mov (.t 0)⟩, ⟨some 27, none, .mov (.t 1)⟩, ⟨some 28, none, .mov (.t 2)⟩, ⟨some 29, none, .call 102 [(.t 26), (.t 27), (.t 28)]⟩, ⟨some 25, none, .mov (.t 29)⟩, ⟨some 30, none, .ext 0 (.t 25)⟩, ⟨some 31, none, .ext 1 (.t 25)⟩, ⟨some 9, none, .mov (.t 30)⟩, ⟨some 7, none, .mov (.t 31)⟩])
  (.seq (.seq (.ops [⟨some 32, none, .mov (.t 7)⟩, ⟨some 33, none, .more (.eqI true (.t 32))⟩, ⟨some 34, none, .mov (.t 33)⟩, ⟨some 35, (some (34, true)), .mov (.t 7)⟩, ⟨some 36, (some (34, true)), .more (.mkI 120 (.v (.int .i64 1)))⟩, ⟨some 37, (some (34, true)), .more (.eqJ true [(2, .i64), (3, .i64), (5, .u8), (6, .u8), (12, .u64), (21, .i32), (22, .u64), (27, .i64), (94, .u64), (110, .i64), (118, .u32), (120, .i64), (137, .u64), (172, .u8), (173, .u8), (175, .i32), (176, .i32)] (.t 35) (.t 36))⟩, ⟨some 38, none, .pick (.t 34) (.t 37) (.v (.bool false))⟩])
  (.cond (.t 38) (.seq (.ops [⟨some 39, none, .mov (.t 7)⟩, ⟨some 6, none, .mov (.v (.int .i64 0))⟩, ⟨some 7, none, .mov (.t 39)⟩])
   .ret) .skip))
  (.seq (.seq (.ops [⟨some 40, none, .mov (.t 2)⟩, ⟨some 41, none, .bin .eql (.t 40) (.v (.int .i64 0))⟩])
  (.cond (.t 41) (.ops [⟨some 2, none, .mov (.v (.int .i64 64))⟩]) .skip))
  (.seq (.ops [⟨some 42, none, .mov (.t 2)⟩, ⟨some 43, none, .bin .sub (.t 42) (.v (.int .i64 1))⟩, ⟨some 44, none, .cvt .u64 (.t 43)⟩, ⟨some 45, none, .bin .shl (.v (.int .u64 1)) (.t 44)⟩, ⟨some 10, none, .mov (.t 45)⟩])
  (.seq (.seq (.ops [⟨some 46, none, .mov (.t 8)⟩, ⟨some 47, none, .not (.t 46)⟩, ⟨some 48, none, .mov (.t 47)⟩, ⟨some 49, (some (48, true)), .mov (.t 9)⟩, ⟨some 50, (some (48, true)), .mov (.t 10)⟩, ⟨some 51, (some (48, true)), .bin .geq (.t 49) (.t 50)⟩, ⟨some 52, none, .pick (.t 48) (.t 51) (.v (.bool false))⟩])
  (.cond (.t 52) (.seq (.ops [⟨some 53, none, .mov (.t 10)⟩, ⟨some 54, none, .bin .sub (.t 53) (.v (.int .u64 1))⟩, ⟨some 55, none, .cvt .i64 (.t 54)⟩, ⟨some 56, none, .more (.mkI 120 (.v (.int .i64 1)))⟩, ⟨some 6, none, .mov (.t 55)⟩, ⟨some 7, none, .mov (.t 56)⟩])
   .ret) .skip))
  (.seq (.seq (.ops [⟨some 57, none, .mov (.t 8)⟩, ⟨some 58, none, .mov (.t 57)⟩, ⟨some 59, (some (58, true)), .mov (.t 9)⟩, ⟨some 60, (some (58, true)), .mov (.t 10)⟩, ⟨some 61, (some (58, true)), .bin .gtr (.t 59) (.t 60)⟩, ⟨some 62, none, .pick (.t 58) (.t 61) (.v (.bool false))⟩])
  (.cond (.t 62) (.seq (.ops [⟨some 63, none, .mov (.t 10)⟩, ⟨some 64, none, .cvt .i64 (.t 63)⟩, ⟨some 65, none, .more (.neg (.t 64))⟩, ⟨some 66, none, .more (.mkI 120 (.v (.int .i64 1)))⟩, ⟨some 6, none, .mov (.t 65)⟩, ⟨some 7, none, .mov (.t 66)⟩])
   .ret) .skip))
  (.seq (.ops [⟨some 67, none, .mov (.t 9)⟩, ⟨some 68, none, .cvt .i64 (.t 67)⟩, ⟨some 11, none, .mov (.t 68)⟩])
  (.seq (.seq (.ops [⟨some 69, none, .mov (.t 8)⟩])
  (.cond (.t 69) (.ops [⟨some 70, none, .mov (.t 11)⟩, ⟨some 71, none, .more (.neg (.t 70))⟩, ⟨some 11, none, .mov (.t 71)⟩]) .skip))
  (.seq (.ops [⟨some 72, none, .mov (.t 11)⟩, ⟨some 6, none, .mov (.t 72)⟩, ⟨some 7, none, .mov (.v .nilIface)⟩])
  .ret)))))))))))))), 73, [.tmp 6, .tmp 7]⟩
theorem Tryd.ek123 : KnownE Tryd.prog 123 Tryd.ec123 := ⟨Tryd.f123, _, Tryd.func123, rfl, by kernel_rfl, rfl, by kernel_rfl, by kernel_rfl⟩

/-- strconv.syntaxError -/
def Tryd.ec124 : EFn := ⟨(.seq (.ops [⟨some 4, none, .mov (.v (.pointer none))⟩])
  (.seq (.drawn [0, 0, 2, 0, 15, 31, 63] 4 [⟨some 5, none, .mov (.t 0)⟩, ⟨some 6, none, .mov (.t 1)⟩, ⟨some 7, none, .call 148 [(.t 6)]⟩, ⟨some 8, none, .ld (.v (.pointer (some ⟨1, 0, none⟩)))⟩, ⟨some 9, none, .build [.string ⟨#[]⟩, .string ⟨#[]⟩, .nilIface] [(0, 1, (.t 5)), (1, 1, (.t 7)), (2, 1, (.t 8))]⟩, ⟨some 10, none, .bx 145 (.t 9)⟩, ⟨some 4, none, .mov (.t 10)⟩])
  .ret)), 11, [.tmp 4]⟩
theorem Tryd.ek124 : KnownE Tryd.prog 124 Tryd.ec124 := ⟨Tryd.f124, _, Tryd.func124, rfl, by kernel_rfl, rfl, by kernel_rfl, by kernel_rfl⟩

/-- strconv.rangeError -/
def Tryd.ec125 : EFn := ⟨(.seq (.ops [⟨some 4, none, .mov (.v (.pointer none))⟩])
  (.seq (.drawn [0, 0, 2, 0, 15, 31, 63] 4 [⟨some 5, none, .mov (.t 0)⟩, ⟨some 6, none, .mov (.t 1)⟩, ⟨some 7, none, .call 148 [(.t 6)]⟩, ⟨some 8, none, .ld (.v (.pointer (some ⟨2, 0, none⟩)))⟩, ⟨some 9, none, .build [.string ⟨#[]⟩, .string ⟨#[]⟩, .nilIface] [(0, 1, (.t 5)), (1, 1, (.t 7)), (2, 1, (.t 8))]⟩, ⟨some 10, none, .bx 145 (.t 9)⟩, ⟨some 4, none, .mov (.t 10)⟩])
  .ret)), 11, [.tmp 4]⟩
theorem Tryd.ek125 : KnownE Tryd.prog 125 Tryd.ec125 := ⟨Tryd.f125, _, Tryd.func125, rfl, by kernel_rfl, rfl, by kernel_rfl, by kernel_rfl⟩

/-- strconv.baseError -/
def Tryd.ec126 : EFn := ⟨(.seq (.ops [⟨some 6, none, .mov (.v (.pointer none))⟩])
  (.seq (.ops [⟨some 7, none, .mov (.t 0)⟩, ⟨some 8, none, .mov (.t 1)⟩, ⟨some 9, none, .call 148 [(.t 8)]⟩, ⟨some 10, none, .mov (.t 2)⟩, ⟨some 11, none, .call 84 [(.t 10)]⟩, ⟨some 12, none, .bin .add (.v (.string ⟨#[105, 110, 118, 97, 108, 105, 100, 32, 98, 97, 115, 101, 32]⟩)) (.t 11)⟩, ⟨some 13, none, .call 149 [(.t 12)]⟩, ⟨some 14, none, .build [.string ⟨#[]⟩, .string ⟨#[]⟩, .nilIface] [(0, 1, (.t 7)), (1, 1, (.t 9)), (2, 1, (.t 13))]⟩, ⟨some 15, none, .bx 145 (.t 14)⟩, ⟨some 6, none, .mov (.t 15)⟩])
  .ret)), 16, [.tmp 6]⟩
theorem Tryd.ek126 : KnownE Tryd.prog 126 Tryd.ec126 := ⟨Tryd.f126, _, Tryd.func126, rfl, by kernel_rfl, rfl, by kernel_rfl, by kernel_rfl⟩

/-- strconv.bitSizeError -/
def Tryd.ec127 : EFn := ⟨(.seq (.ops [⟨some 6, none, .mov (.v (.pointer none))⟩])
  (.seq (.ops [⟨some 7, none, .mov (.t 0)⟩, ⟨some 8, none, .mov (.t 1)⟩, ⟨some 9, none, .call 148 [(.t 8)]⟩, ⟨some 10, none, .mov (.t 2)⟩, ⟨some 11, none, .call 84 [(.t 10)]⟩, ⟨some 12, none, .bin .add (.v (.string ⟨#[105, 110, 118, 97, 108, 105, 100, 32, 98, 105, 116, 32, 115, 105, 122, 101, 32]⟩)) (.t 11)⟩, ⟨some 13, none, .call 149 [(.t 12)]⟩, ⟨some 14, none, .build [.string ⟨#[]⟩, .string ⟨#[]⟩, .nilIface] [(0, 1, (.t 7)), (1, 1, (.t 9)), (2, 1, (.t 13))]⟩, ⟨some 15, none, .bx 145 (.t 14)⟩, ⟨some 6, none, .mov (.t 15)⟩])
  .ret)), 16, [.tmp 6]⟩
theorem Tryd.ek127 : KnownE Tryd.prog 127 Tryd.ec127 := ⟨Tryd.f127, _, Tryd.func127, rfl, by kernel_rfl, rfl, by kernel_rfl, by kernel_rfl⟩

/-- internal/strconv.lower -/
def Tryd.ec128 : EFn := ⟨(.seq (.ops [⟨some 2, none, .mov (.v (.int .u8 0))⟩])
  (.seq (.ops [⟨some 3, none, .mov (.t 0)⟩, ⟨some 4, none, .bin .or (.t 3) (.v (.int .u8 32))⟩, ⟨some 2, none, .mov (.t 4)⟩])
  .ret)), 5, [.tmp 2]⟩
theorem Tryd.ek128 : KnownE Tryd.prog 128 Tryd.ec128 := ⟨Tryd.f128, _, Tryd.func128, rfl, by kernel_rfl, rfl, by kernel_rfl, by kernel_rfl⟩

/-- internal/strconv.underscoreOK -/
def Tryd.ec129 : EFn := ⟨(.seq (.ops [⟨some 2, none, .mov (.v (.bool false))⟩])
  (.seq (.ops [⟨some 3, none, .mov (.v (.int .i32 94))⟩])
  (.seq (.ops [⟨some 4, none, .mov (.v (.int .i64 0))⟩])
  (.seq (.seq (.ops [⟨some 6, none, .mov (.t 0)⟩, ⟨some 7, none, .lenStr (.t 6)⟩, ⟨some 8, none, .bin .geq (.t 7) (.v (.int .i64 1))⟩, ⟨some 9, none, .mov (.t 8)⟩, ⟨some 10, (some (9, true)), .mov (.t 0)⟩, ⟨some 11, (some (9, true)), .ixStr (.t 10) (.v (.int .i64 0))⟩, ⟨some 12, (some (9, true)), .bin .eql (.t 11) (.v (.int .u8 45))⟩, ⟨some 13, (some (9, true)), .mov (.t 12)⟩, ⟨some 14, (some (13, false)), .mov (.t 0)⟩, ⟨some 15, (some (13, false)), .ixStr (.t 14) (.v (.int .i64 0))⟩, ⟨some 16, (some (13, false)), .bin .eql (.t 15) (.v (.int .u8 43))⟩, ⟨some 17, (some (9, true)), .pick (.t 13) (.v (.bool true)) (.t 16)⟩, ⟨some 18, none, .pick (.t 9) (.t 17) (.v (.bool false))⟩])
  (.cond (.t 18) (.ops [⟨some 19, none, .mov (.t 0)⟩, ⟨some 20, none, .slStr (.t 19) (some (.v (.int .i64 1))) none⟩, ⟨some 0, none, .mov (.t 20)⟩]) .skip))
  (.seq (.ops [⟨some 5, none, .mov (.v (.bool false))⟩])
  (.seq (.seq (.ops [⟨some 21, none, .mov (.t 0)⟩, ⟨some 22, none, .lenStr (.t 21)⟩, ⟨some 23, none, .bin .geq (.t 22) (.v (.int .i64 2))⟩, ⟨some 24, none, .mov (.t 23)⟩, ⟨some 25, (some (24, true)), .mov (.t 0)⟩, ⟨some 26, (some (24, true)), .ixStr (.t 25) (.v (.int .i64 0))⟩, ⟨some 27, (some (24, true)), .bin .eql (.t 26) (.v (.int .u8 48))⟩, ⟨some 28, none, .pick (.t 24) (.t 27) (.v (.bool false))⟩, ⟨some 29, none, .mov (.t 28)⟩, ⟨some 30, (some (29, true)), .mov (.t 0)⟩, ⟨some 31, (some (29, true)), .ixStr (.t 30) (.v (.int .i64 1))⟩, ⟨some 32, (some (29, true)), .call 128 [(.t 31)]⟩, ⟨some 33, (some (29, true)), .bin .eql (.t 32) (.v (.int .u8 98))⟩, ⟨some 34, (some (29, true)), .mov (.t 33)⟩, ⟨some 35, (some (34, false)), .mov (.t 0)⟩, ⟨some 36, (some (34, false)), .ixStr (.t 35) (.v (.int .i64 1))⟩, ⟨some 37, (some (34, false)), .call 128 [(.t 36)]⟩, ⟨some 38, (some (34, false)), .bin .eql (.t 37) (.v (.int .u8 111))⟩, ⟨some 39, (some (29, true)), .pick (.t 34) (.v (.bool true)) (.t 38)⟩, ⟨some 40, (some (29, true)), .mov (.t 39)⟩, ⟨some 41, (some (40, false)), .mov (.t 0)⟩, ⟨some 42, (some (40, false)), .ixStr (.t 41) (.v (.int .i64 1))⟩, ⟨some 43, (some (40, false)), .call 128 [(.t 42)]⟩, ⟨some 44, (some (40, false)), .bin .eql (.t 43) (.v (.int .u8 120))⟩, ⟨some 45, (some (29, true)), .pick (.t 40) (.v (.bool true)) (.t 44)⟩, ⟨some 46, none, .pick (.t 29) (.t 45) (.v (.bool false))⟩])
  (.cond (.t 46) (.seq (.ops [⟨some 4, none, .mov (.v (.int .i64 2))⟩])
   (.seq (.ops [⟨some 3, none, .mov (.v (.int .i32 48))⟩])
   (.ops [⟨some 47, none, .mov (.t 0)⟩, ⟨some 48, none, .ixStr (.t 47) (.v (.int .i64 1))⟩, ⟨some 49, none, .call 128 [(.t 48)]⟩, ⟨some 50, none, .bin .eql (.t 49) (.v (.int .u8 120))⟩, ⟨some 5, none, .mov (.t 50)⟩]))) .skip))
  (.seq (.block 0 (.loop [0, 3, 4, 5] (.seq (.seq (.ops [⟨some 51, none, .mov (.t 4)⟩, ⟨some 52, none, .mov (.t 0)⟩, ⟨some 53, none, .lenStr (.t 52)⟩, ⟨some 54, none, .bin .lss (.t 51) (.t 53)⟩])
    (.cond (.t 54) .skip (.exit 0)))
    (.seq (.block 1 (.seq (.seq (.ops [⟨some 57, none, .mov (.t 0)⟩, ⟨some 58, none, .mov (.t 4)⟩, ⟨some 59, none, .ixStr (.t 57) (.t 58)⟩, ⟨some 60, none, .bin .leq (.v (.int .u8 48)) (.t 59)⟩, ⟨some 61, none, .mov (.t 60)⟩, ⟨some 62, (some (61, true)), .mov (.t 0)⟩, ⟨some 63, (some (61, true)), .mov (.t 4)⟩, ⟨some 64, (some (61, true)), .ixStr (.t 62) (.t 63)⟩, ⟨some 65, (some (61, true)), .bin .leq (.t 64) (.v (.int .u8 57))⟩, ⟨some 66, none, .pick (.t 61) (.t 65) (.v (.bool false))⟩, ⟨some 67, none, .mov (.t 66)⟩, ⟨some 68, (some (67, false)), .mov (.t 5)⟩, ⟨some 69, (some (67, false)), .mov (.t 68)⟩, ⟨some 70, (some (69, true)), .mov (.t 0)⟩, ⟨some 71, (some (69, true)), .mov (.t 4)⟩, ⟨some 72, (some (69, true)), .ixStr (.t 70) (.t 71)⟩, ⟨some 73, (some (69, true)), .call 128 [(.t 72)]⟩, ⟨some 74, (some (69, true)), .bin .leq (.v (.int .u8 97)) (.t 73)⟩, ⟨some 75, (some (67, false)), .pick (.t 69) (.t 74) (.v (.bool false))⟩, ⟨some 76, (some (67, false)), .mov (.t 75)⟩, ⟨some 77, (some (76, true)), .mov (.t 0)⟩, ⟨some 78, (some (76, true)), .mov (.t 4)⟩, ⟨some 79, (some (76, true)), .ixStr (.t 77) (.t 78)⟩, ⟨some 80, (some (76, true)), .call 128 [(.t 79)]⟩, ⟨some 81, (some (76, true)), .bin .leq (.t 80) (.v (.int .u8 102))⟩, ⟨some 82, (some (67, false)), .pick (.t 76) (.t 81) (.v (.bool false))⟩, ⟨some 83, none, .pick (.t 67) (.v (.bool true)) (.t 82)⟩])
     (.cond (.t 83) (.seq (.ops [⟨some 3, none, .mov (.v (.int .i32 48))⟩])
      (.exit 1)) .skip))
     (.seq (.seq (.ops [⟨some 84, none, .mov (.t 0)⟩, ⟨some 85, none, .mov (.t 4)⟩, ⟨some 86, none, .ixStr (.t 84) (.t 85)⟩, ⟨some 87, none, .bin .eql (.t 86) (.v (.int .u8 95))⟩])
     (.cond (.t 87) (.seq (.seq (.ops [⟨some 88, none, .mov (.t 3)⟩, ⟨some 89, none, .bin .neq (.t 88) (.v (.int .i32 48))⟩])
      (.cond (.t 89) (.seq (.ops [⟨some 2, none, .mov (.v (.bool false))⟩])
       .ret) .skip))
      (.seq (.ops [⟨some 3, none, .mov (.v (.int .i32 95))⟩])
      (.exit 1))) .skip))
     (.seq (.seq (.ops [⟨some 90, none, .mov (.t 3)⟩, ⟨some 91, none, .bin .eql (.t 90) (.v (.int .i32 95))⟩])
     (.cond (.t 91) (.seq (.ops [⟨some 2, none, .mov (.v (.bool false))⟩])
      .ret) .skip))
     (.ops [⟨some 3, none, .mov (.v (.int .i32 33))⟩])))))
    (.ops [⟨some 55, none, .mov (.t 4)⟩, ⟨some 56, none, .bin .add (.t 55) (.v (.int .i64 1))⟩, ⟨some 4, none, .mov (.t 56)⟩])))))
  (.seq (.ops [⟨some 92, none, .mov (.t 3)⟩, ⟨some 93, none, .bin .neq (.t 92) (.v (.int .i32 95))⟩, ⟨some 2, none, .mov (.t 93)⟩])
  .ret)))))))), 94, [.tmp 2]⟩
theorem Tryd.ek129 : KnownE Tryd.prog 129 Tryd.ec129 := ⟨Tryd.f129, _, Tryd.func129, rfl, by kernel_rfl, rfl, by kernel_rfl, by kernel_rfl⟩

/-- internal/strconv.FormatInt -/
def Tryd.ec130 : EFn := ⟨(.seq (.ops [⟨some 4, none, .mov (.v (.string ⟨#[]⟩))⟩])
  (.seq (.seq (.ops [⟨some 10, none, .mov (.t 1)⟩, ⟨some 11, none, .bin .eql (.t 10) (.v (.int .i64 10))⟩])
  (.cond (.t 11) (.seq (.seq (.ops [⟨some 12, none, .mov (.t 0)⟩, ⟨some 13, none, .bin .leq (.v (.int .i64 0)) (.t 12)⟩, ⟨some 14, none, .mov (.t 13)⟩, ⟨some 15, (some (14, true)), .mov (.t 0)⟩, ⟨some 16, (some (14, true)), .bin .lss (.t 15) (.v (.int .i64 100))⟩, ⟨some 17, none, .pick (.t 14) (.t 16) (.v (.bool false))⟩])
   (.cond (.t 17) (.seq (.ops [⟨some 18, none, .mov (.t 0)⟩, ⟨some 19, none, .call 131 [(.t 18)]⟩, ⟨some 4, none, .mov (.t 19)⟩])
    .ret) .skip))
   (.seq (.ops [⟨some 5, none, .al 129 [.int .u8 0, .int .u8 0, .int .u8 0, .int .u8 0, .int .u8 0, .int .u8 0, .int .u8 0, .int .u8 0, .int .u8 0, .int .u8 0, .int .u8 0, .int .u8 0, .int .u8 0, .int .u8 0, .int .u8 0, .int .u8 0, .int .u8 0, .int .u8 0, .int .u8 0, .int .u8 0, .int .u8 0, .int .u8 0, .int .u8 0, .int .u8 0]⟩])
   (.seq (.ops [⟨some 20, none, .mov (.t 0)⟩, ⟨some 21, none, .cvt .u64 (.t 20)⟩, ⟨some 6, none, .mov (.t 21)⟩])
   (.seq (.seq (.ops [⟨some 22, none, .mov (.t 0)⟩, ⟨some 23, none, .bin .lss (.t 22) (.v (.int .i64 0))⟩])
   (.cond (.t 23) (.ops [⟨some 24, none, .mov (.t 6)⟩, ⟨some 25, none, .more (.neg (.t 24))⟩, ⟨some 6, none, .mov (.t 25)⟩]) .skip))
   (.seq (.ops [⟨some 26, none, .mov (.t 6)⟩, ⟨some 27, none, .call 132 [(.t 26)]⟩, ⟨some 7, none, .mov (.t 27)⟩])
   (.seq (.ops [⟨some 28, none, .mov (.t 7)⟩, ⟨some 29, none, .bin .add (.v (.int .i64 1)) (.t 28)⟩, ⟨some 30, none, .more (.slAr 24 1 (.t 5) (some (.v (.int .i64 1))) (some (.t 29)))⟩, ⟨some 31, none, .mov (.t 6)⟩, ⟨some 32, none, .call 133 [(.t 30), (.t 31)]⟩])
   (.seq (.seq (.ops [⟨some 33, none, .mov (.t 0)⟩, ⟨some 34, none, .bin .lss (.t 33) (.v (.int .i64 0))⟩])
   (.cond (.t 34) (.seq (.ops [⟨some 35, none, .ixA 24 1 (.t 5) (.v (.int .i64 0))⟩, ⟨none, none, .st 1 (.t 35) (.v (.int .u8 45))⟩])
    (.seq (.ops [⟨some 36, none, .mov (.t 7)⟩, ⟨some 37, none, .bin .add (.v (.int .i64 1)) (.t 36)⟩, ⟨some 38, none, .more (.slAr 24 1 (.t 5) none (some (.t 37)))⟩, ⟨some 39, none, .strOf (.t 38)⟩, ⟨some 4, none, .mov (.t 39)⟩])
    .ret)) .skip))
   (.seq (.ops [⟨some 40, none, .mov (.t 7)⟩, ⟨some 41, none, .bin .add (.v (.int .i64 1)) (.t 40)⟩, ⟨some 42, none, .more (.slAr 24 1 (.t 5) (some (.v (.int .i64 1))) (some (.t 41)))⟩, ⟨some 43, none, .strOf (.t 42)⟩, ⟨some 4, none, .mov (.t 43)⟩])
   .ret)))))))) .skip))
  (.seq (.ops [⟨some 45, none, .mov (.t 0)⟩, ⟨some 46, none, .cvt .u64 (.t 45)⟩, ⟨some 47, none, .mov (.t 1)⟩, ⟨some 48, none, .mov (.t 0)⟩, ⟨some 49, none, .bin .lss (.t 48) (.v (.int .i64 0))⟩, ⟨some 50, none, .call 134 [(.v (.slice none 0 0)), (.t 46), (.t 47), (.t 49), (.v (.bool false))]⟩, ⟨some 44, none, .mov (.t 50)⟩, ⟨some 51, none, .ext 0 (.t 44)⟩, ⟨some 52, none, .ext 1 (.t 44)⟩, ⟨some 8, none, .mov (.t 51)⟩, ⟨some 9, none, .mov (.t 52)⟩])
  (.seq (.ops [⟨some 53, none, .mov (.t 9)⟩, ⟨some 4, none, .mov (.t 53)⟩])
  .ret)))), 54, [.tmp 4]⟩
theorem Tryd.ek130 : KnownE Tryd.prog 130 Tryd.ec130 := ⟨Tryd.f130, _, Tryd.func130, rfl, by kernel_rfl, rfl, by kernel_rfl, by kernel_rfl⟩

/-- internal/strconv.small -/
def Tryd.ec131 : EFn := ⟨(.seq (.ops [⟨some 2, none, .mov (.v (.string ⟨#[]⟩))⟩])
  (.seq (.seq (.ops [⟨some 3, none, .mov (.t 0)⟩, ⟨some 4, none, .bin .lss (.t 3) (.v (.int .i64 10))⟩])
  (.cond (.t 4) (.seq (.ops [⟨some 5, none, .mov (.t 0)⟩, ⟨some 6, none, .mov (.t 0)⟩, ⟨some 7, none, .bin .add (.t 6) (.v (.int .i64 1))⟩, ⟨some 8, none, .slStr (.v (.string ⟨#[48, 49, 50, 51, 52, 53, 54, 55, 56, 57, 97, 98, 99, 100, 101, 102, 103, 104, 105, 106, 107, 108, 109, 110, 111, 112, 113, 114, 115, 116, 117, 118, 119, 120, 121, 122]⟩)) (some (.t 5)) (some (.t 7))⟩, ⟨some 2, none, .mov (.t 8)⟩])
   .ret) .skip))
  (.seq (.ops [⟨some 9, none, .mov (.t 0)⟩, ⟨some 10, none, .bin .mul (.t 9) (.v (.int .i64 2))⟩, ⟨some 11, none, .mov (.t 0)⟩, ⟨some 12, none, .bin .mul (.t 11) (.v (.int .i64 2))⟩, ⟨some 13, none, .bin .add (.t 12) (.v (.int .i64 2))⟩, ⟨some 14, none, .slStr (.v (.string ⟨#[48, 48, 48, 49, 48, 50, 48, 51, 48, 52, 48, 53, 48, 54, 48, 55, 48, 56, 48, 57, 49, 48, 49, 49, 49, 50, 49, 51, 49, 52, 49, 53, 49, 54, 49, 55, 49, 56, 49, 57, 50, 48, 50, 49, 50, 50, 50, 51, 50, 52, 50, 53, 50, 54, 50, 55, 50, 56, 50, 57, 51, 48, 51, 49, 51, 50, 51, 51, 51, 52, 51, 53, 51, 54, 51, 55, 51, 56, 51, 57, 52, 48, 52, 49, 52, 50, 52, 51, 52, 52, 52, 53, 52, 54, 52, 55, 52, 56, 52, 57, 53, 48, 53, 49, 53, 50, 53, 51, 53, 52, 53, 53, 53, 54, 53, 55, 53, 56, 53, 57, 54, 48, 54, 49, 54, 50, 54, 51, 54, 52, 54, 53, 54, 54, 54, 55, 54, 56, 54, 57, 55, 48, 55, 49, 55, 50, 55, 51, 55, 52, 55, 53, 55, 54, 55, 55, 55, 56, 55, 57, 56, 48, 56, 49, 56, 50, 56, 51, 56, 52, 56, 53, 56, 54, 56, 55, 56, 56, 56, 57, 57, 48, 57, 49, 57, 50, 57, 51, 57, 52, 57, 53, 57, 54, 57, 55, 57, 56, 57, 57]⟩)) (some (.t 10)) (some (.t 13))⟩, ⟨some 2, none, .mov (.t 14)⟩])
  .ret))), 15, [.tmp 2]⟩
theorem Tryd.ek131 : KnownE Tryd.prog 131 Tryd.ec131 := ⟨Tryd.f131, _, Tryd.func131, rfl, by kernel_rfl, rfl, by kernel_rfl, by kernel_rfl⟩

/-- internal/strconv.numDigits -/
def Tryd.ec132 : EFn := ⟨(.seq (.ops [⟨some 2, none, .mov (.v (.int .i64 0))⟩])
  (.seq (.ops [⟨some 4, none, .mov (.t 0)⟩, ⟨some 5, none, .call 121 [(.t 4)]⟩, ⟨some 6, none, .call 150 [(.t 5)]⟩, ⟨some 3, none, .mov (.t 6)⟩])
  (.seq (.ops [⟨some 7, none, .mov (.t 3)⟩, ⟨some 8, none, .mov (.t 0)⟩, ⟨some 9, none, .mov (.t 3)⟩, ⟨some 10, none, .ixA 20 1 (.v (.pointer (some ⟨3, 0, none⟩))) (.t 9)⟩, ⟨some 11, none, .ld (.t 10)⟩, ⟨some 12, none, .bin .geq (.t 8) (.t 11)⟩, ⟨some 13, none, .call 151 [(.t 12)]⟩, ⟨some 14, none, .bin .add (.t 7) (.t 13)⟩, ⟨some 2, none, .mov (.t 14)⟩])
  .ret))), 15, [.tmp 2]⟩
theorem Tryd.ek132 : KnownE Tryd.prog 132 Tryd.ec132 := ⟨Tryd.f132, _, Tryd.func132, rfl, by kernel_rfl, rfl, by kernel_rfl, by kernel_rfl⟩

/-- internal/strconv.formatBase10 -/
def Tryd.ec133 : EFn := ⟨(.seq (.ops [⟨some 17, none, .mov (.t 0)⟩, ⟨some 18, none, .lenS (.t 17)⟩, ⟨some 4, none, .mov (.t 18)⟩])
  (.seq (.block 0 (.loop [0, 1, 4] (.seq (.seq (.ops [⟨some 19, none, .mov (.t 4)⟩, ⟨some 20, none, .bin .geq (.t 19) (.v (.int .i64 8))⟩])
    (.cond (.t 20) .skip (.exit 0)))
    (.block 1 (.seq (.ops [⟨some 21, none, .mov (.t 1)⟩, ⟨some 22, none, .bin .rem (.t 21) (.v (.int .u64 100000000))⟩, ⟨some 23, none, .cvt .u32 (.t 22)⟩, ⟨some 5, none, .mov (.t 23)⟩])
     (.seq (.ops [⟨some 24, none, .mov (.t 1)⟩, ⟨some 25, none, .bin .quo (.t 24) (.v (.int .u64 100000000))⟩, ⟨some 1, none, .mov (.t 25)⟩])
     (.seq (.ops [⟨some 26, none, .mov (.t 5)⟩, ⟨some 27, none, .bin .quo (.t 26) (.v (.int .u32 10000))⟩, ⟨some 28, none, .mov (.t 5)⟩, ⟨some 29, none, .bin .rem (.t 28) (.v (.int .u32 10000))⟩, ⟨some 6, none, .mov (.t 27)⟩, ⟨some 7, none, .mov (.t 29)⟩])
     (.seq (.ops [⟨some 30, none, .mov (.t 7)⟩, ⟨some 31, none, .bin .quo (.t 30) (.v (.int .u32 100))⟩, ⟨some 32, none, .bin .mul (.t 31) (.v (.int .u32 2))⟩, ⟨some 33, none, .mov (.t 7)⟩, ⟨some 34, none, .bin .rem (.t 33) (.v (.int .u32 100))⟩, ⟨some 35, none, .bin .mul (.t 34) (.v (.int .u32 2))⟩, ⟨some 8, none, .mov (.t 32)⟩, ⟨some 9, none, .mov (.t 35)⟩])
     (.seq (.ops [⟨some 36, none, .mov (.t 6)⟩, ⟨some 37, none, .bin .quo (.t 36) (.v (.int .u32 100))⟩, ⟨some 38, none, .bin .mul (.t 37) (.v (.int .u32 2))⟩, ⟨some 39, none, .mov (.t 6)⟩, ⟨some 40, none, .bin .rem (.t 39) (.v (.int .u32 100))⟩, ⟨some 41, none, .bin .mul (.t 40) (.v (.int .u32 2))⟩, ⟨some 10, none, .mov (.t 38)⟩, ⟨some 11, none, .mov (.t 41)⟩])
     (.seq (.drawn [0, 0, 2, 0, 0, 16, 0, 64, 192, 0, 512, 455, 2503, 8191, 16383] 13 [⟨some 42, none, .mov (.t 0)⟩, ⟨some 43, none, .mov (.t 4)⟩, ⟨some 44, none, .bin .sub (.t 43) (.v (.int .i64 1))⟩, ⟨some 45, none, .mov (.t 0)⟩, ⟨some 46, none, .mov (.t 4)⟩, ⟨some 47, none, .bin .sub (.t 46) (.v (.int .i64 2))⟩, ⟨some 48, none, .mov (.t 9)⟩, ⟨some 49, none, .bin .add (.t 48) (.v (.int .u32 1))⟩, ⟨some 50, none, .ixStr (.v (.string ⟨#[48, 48, 48, 49, 48, 50, 48, 51, 48, 52, 48, 53, 48, 54, 48, 55, 48, 56, 48, 57, 49, 48, 49, 49, 49, 50, 49, 51, 49, 52, 49, 53, 49, 54, 49, 55, 49, 56, 49, 57, 50, 48, 50, 49, 50, 50, 50, 51, 50, 52, 50, 53, 50, 54, 50, 55, 50, 56, 50, 57, 51, 48, 51, 49, 51, 50, 51, 51, 51, 52, 51, 53, 51, 54, 51, 55, 51, 56, 51, 57, 52, 48, 52, 49, 52, 50, 52, 51, 52, 52, 52, 53, 52, 54, 52, 55, 52, 56, 52, 57, 53, 48, 53, 49, 53, 50, 53, 51, 53, 52, 53, 53, 53, 54, 53, 55, 53, 56, 53, 57, 54, 48, 54, 49, 54, 50, 54, 51, 54, 52, 54, 53, 54, 54, 54, 55, 54, 56, 54, 57, 55, 48, 55, 49, 55, 50, 55, 51, 55, 52, 55, 53, 55, 54, 55, 55, 55, 56, 55, 57, 56, 48, 56, 49, 56, 50, 56, 51, 56, 52, 56, 53, 56, 54, 56, 55, 56, 56, 56, 57, 57, 48, 57, 49, 57, 50, 57, 51, 57, 52, 57, 53, 57, 54, 57, 55, 57, 56, 57, 57]⟩)) (.t 49)⟩, ⟨some 51, none, .mov (.t 9)⟩, ⟨some 52, none, .ixStr (.v (.string ⟨#[48, 48, 48, 49, 48, 50, 48, 51, 48, 52, 48, 53, 48, 54, 48, 55, 48, 56, 48, 57, 49, 48, 49, 49, 49, 50, 49, 51, 49, 52, 49, 53, 49, 54, 49, 55, 49, 56, 49, 57, 50, 48, 50, 49, 50, 50, 50, 51, 50, 52, 50, 53, 50, 54, 50, 55, 50, 56, 50, 57, 51, 48, 51, 49, 51, 50, 51, 51, 51, 52, 51, 53, 51, 54, 51, 55, 51, 56, 51, 57, 52, 48, 52, 49, 52, 50, 52, 51, 52, 52, 52, 53, 52, 54, 52, 55, 52, 56, 52, 57, 53, 48, 53, 49, 53, 50, 53, 51, 53, 52, 53, 53, 53, 54, 53, 55, 53, 56, 53, 57, 54, 48, 54, 49, 54, 50, 54, 51, 54, 52, 54, 53, 54, 54, 54, 55, 54, 56, 54, 57, 55, 48, 55, 49, 55, 50, 55, 51, 55, 52, 55, 53, 55, 54, 55, 55, 55, 56, 55, 57, 56, 48, 56, 49, 56, 50, 56, 51, 56, 52, 56, 53, 56, 54, 56, 55, 56, 56, 56, 57, 57, 48, 57, 49, 57, 50, 57, 51, 57, 52, 57, 53, 57, 54, 57, 55, 57, 56, 57, 57]⟩)) (.t 51)⟩, ⟨some 53, none, .ixS 1 (.t 42) (.t 44)⟩, ⟨none, none, .st 1 (.t 53) (.t 50)⟩, ⟨some 54, none, .ixS 1 (.t 45) (.t 47)⟩, ⟨none, none, .st 1 (.t 54) (.t 52)⟩])
     (.seq (.drawn [0, 0, 2, 0, 0, 16, 0, 64, 192, 0, 512, 455, 2503, 8191, 16383] 13 [⟨some 55, none, .mov (.t 0)⟩, ⟨some 56, none, .mov (.t 4)⟩, ⟨some 57, none, .bin .sub (.t 56) (.v (.int .i64 3))⟩, ⟨some 58, none, .mov (.t 0)⟩, ⟨some 59, none, .mov (.t 4)⟩, ⟨some 60, none, .bin .sub (.t 59) (.v (.int .i64 4))⟩, ⟨some 61, none, .mov (.t 8)⟩, ⟨some 62, none, .bin .add (.t 61) (.v (.int .u32 1))⟩, ⟨some 63, none, .ixStr (.v (.string ⟨#[48, 48, 48, 49, 48, 50, 48, 51, 48, 52, 48, 53, 48, 54, 48, 55, 48, 56, 48, 57, 49, 48, 49, 49, 49, 50, 49, 51, 49, 52, 49, 53, 49, 54, 49, 55, 49, 56, 49, 57, 50, 48, 50, 49, 50, 50, 50, 51, 50, 52, 50, 53, 50, 54, 50, 55, 50, 56, 50, 57, 51, 48, 51, 49, 51, 50, 51, 51, 51, 52, 51, 53, 51, 54, 51, 55, 51, 56, 51, 57, 52, 48, 52, 49, 52, 50, 52, 51, 52, 52, 52, 53, 52, 54, 52, 55, 52, 56, 52, 57, 53, 48, 53, 49, 53, 50, 53, 51, 53, 52, 53, 53, 53, 54, 53, 55, 53, 56, 53, 57, 54, 48, 54, 49, 54, 50, 54, 51, 54, 52, 54, 53, 54, 54, 54, 55, 54, 56, 54, 57, 55, 48, 55, 49, 55, 50, 55, 51, 55, 52, 55, 53, 55, 54, 55, 55, 55, 56, 55, 57, 56, 48, 56, 49, 56, 50, 56, 51, 56, 52, 56, 53, 56, 54, 56, 55, 56, 56, 56, 57, 57, 48, 57, 49, 57, 50, 57, 51, 57, 52, 57, 53, 57, 54, 57, 55, 57, 56, 57, 57]⟩)) (.t 62)⟩, ⟨some 64, none, .mov (.t 8)⟩, ⟨some 65, none, .ixStr (.v (.string ⟨#[48, 48, 48, 49, 48, 50, 48, 51, 48, 52, 48, 53, 48, 54, 48, 55, 48, 56, 48, 57, 49, 48, 49, 49, 49, 50, 49, 51, 49, 52, 49, 53, 49, 54, 49, 55, 49, 56, 49, 57, 50, 48, 50, 49, 50, 50, 50, 51, 50, 52, 50, 53, 50, 54, 50, 55, 50, 56, 50, 57, 51, 48, 51, 49, 51, 50, 51, 51, 51, 52, 51, 53, 51, 54, 51, 55, 51, 56, 51, 57, 52, 48, 52, 49, 52, 50, 52, 51, 52, 52, 52, 53, 52, 54, 52, 55, 52, 56, 52, 57, 53, 48, 53, 49, 53, 50, 53, 51, 53, 52, 53, 53, 53, 54, 53, 55, 53, 56, 53, 57, 54, 48, 54, 49, 54, 50, 54, 51, 54, 52, 54, 53, 54, 54, 54, 55, 54, 56, 54, 57, 55, 48, 55, 49, 55, 50, 55, 51, 55, 52, 55, 53, 55, 54, 55, 55, 55, 56, 55, 57, 56, 48, 56, 49, 56, 50, 56, 51, 56, 52, 56, 53, 56, 54, 56, 55, 56, 56, 56, 57, 57, 48, 57, 49, 57, 50, 57, 51, 57, 52, 57, 53, 57, 54, 57, 55, 57, 56, 57, 57]⟩)) (.t 64)⟩, ⟨some 66, none, .ixS 1 (.t 55) (.t 57)⟩, ⟨none, none, .st 1 (.t 66) (.t 63)⟩, ⟨some 67, none, .ixS 1 (.t 58) (.t 60)⟩, ⟨none, none, .st 1 (.t 67) (.t 65)⟩])
     (.seq (.drawn [0, 0, 2, 0, 0, 16, 0, 64, 192, 0, 512, 455, 2503, 8191, 16383] 13 [⟨some 68, none, .mov (.t 0)⟩, ⟨some 69, none, .mov (.t 4)⟩, ⟨some 70, none, .bin .sub (.t 69) (.v (.int .i64 5))⟩, ⟨some 71, none, .mov (.t 0)⟩, ⟨some 72, none, .mov (.t 4)⟩, ⟨some 73, none, .bin .sub (.t 72) (.v (.int .i64 6))⟩, ⟨some 74, none, .mov (.t 11)⟩, ⟨some 75, none, .bin .add (.t 74) (.v (.int .u32 1))⟩, ⟨some 76, none, .ixStr (.v (.string ⟨#[48, 48, 48, 49, 48, 50, 48, 51, 48, 52, 48, 53, 48, 54, 48, 55, 48, 56, 48, 57, 49, 48, 49, 49, 49, 50, 49, 51, 49, 52, 49, 53, 49, 54, 49, 55, 49, 56, 49, 57, 50, 48, 50, 49, 50, 50, 50, 51, 50, 52, 50, 53, 50, 54, 50, 55, 50, 56, 50, 57, 51, 48, 51, 49, 51, 50, 51, 51, 51, 52, 51, 53, 51, 54, 51, 55, 51, 56, 51, 57, 52, 48, 52, 49, 52, 50, 52, 51, 52, 52, 52, 53, 52, 54, 52, 55, 52, 56, 52, 57, 53, 48, 53, 49, 53, 50, 53, 51, 53, 52, 53, 53, 53, 54, 53, 55, 53, 56, 53, 57, 54, 48, 54, 49, 54, 50, 54, 51, 54, 52, 54, 53, 54, 54, 54, 55, 54, 56, 54, 57, 55, 48, 55, 49, 55, 50, 55, 51, 55, 52, 55, 53, 55, 54, 55, 55, 55, 56, 55, 57, 56, 48, 56, 49, 56, 50, 56, 51, 56, 52, 56, 53, 56, 54, 56, 55, 56, 56, 56, 57, 57, 48, 57, 49, 57, 50, 57, 51, 57, 52, 57, 53, 57, 54, 57, 55, 57, 56, 57, 57]⟩)) (.t 75)⟩, ⟨some 77, none, .mov (.t 11)⟩, ⟨some 78, none, .ixStr (.v (.string ⟨#[48, 48, 48, 49, 48, 50, 48, 51, 48, 52, 48, 53, 48, 54, 48, 55, 48, 56, 48, 57, 49, 48, 49, 49, 49, 50, 49, 51, 49, 52, 49, 53, 49, 54, 49, 55, 49, 56, 49, 57, 50, 48, 50, 49, 50, 50, 50, 51, 50, 52, 50, 53, 50, 54, 50, 55, 50, 56, 50, 57, 51, 48, 51, 49, 51, 50, 51, 51, 51, 52, 51, 53, 51, 54, 51, 55, 51, 56, 51, 57, 52, 48, 52, 49, 52, 50, 52, 51, 52, 52, 52, 53, 52, 54, 52, 55, 52, 56, 52, 57, 53, 48, 53, 49, 53, 50, 53, 51, 53, 52, 53, 53, 53, 54, 53, 55, 53, 56, 53, 57, 54, 48, 54, 49, 54, 50, 54, 51, 54, 52, 54, 53, 54, 54, 54, 55, 54, 56, 54, 57, 55, 48, 55, 49, 55, 50, 55, 51, 55, 52, 55, 53, 55, 54, 55, 55, 55, 56, 55, 57, 56, 48, 56, 49, 56, 50, 56, 51, 56, 52, 56, 53, 56, 54, 56, 55, 56, 56, 56, 57, 57, 48, 57, 49, 57, 50, 57, 51, 57, 52, 57, 53, 57, 54, 57, 55, 57, 56, 57, 57]⟩)) (.t 77)⟩, ⟨some 79, none, .ixS 1 (.t 68) (.t 70)⟩, ⟨none, none, .st 1 (.t 79) (.t 76)⟩, ⟨some 80, none, .ixS 1 (.t 71) (.t 73)⟩, ⟨none, none, .st 1 (.t 80) (.t 78)⟩])
     (.seq (.drawn [0, 0, 2, 0, 0, 16, 0, 64, 192, 0, 512, 455, 2503, 8191, 16383] 13 [⟨some 81, none, .mov (.t 0)⟩, ⟨some 82, none, .mov (.t 4)⟩, ⟨some 83, none, .bin .sub (.t 82) (.v (.int .i64 7))⟩, ⟨some 84, none, .mov (.t 0)⟩, ⟨some 85, none, .mov (.t 4)⟩, ⟨some 86, none, .bin .sub (.t 85) (.v (.int .i64 8))⟩, ⟨some 87, none, .mov (.t 10)⟩, ⟨some 88, none, .bin .add (.t 87) (.v (.int .u32 1))⟩, ⟨some 89, none, .ixStr (.v (.string ⟨#[48, 48, 48, 49, 48, 50, 48, 51, 48, 52, 48, 53, 48, 54, 48, 55, 48, 56, 48, 57, 49, 48, 49, 49, 49, 50, 49, 51, 49, 52, 49, 53, 49, 54, 49, 55, 49, 56, 49, 57, 50, 48, 50, 49, 50, 50, 50, 51, 50, 52, 50, 53, 50, 54, 50, 55, 50, 56, 50, 57, 51, 48, 51, 49, 51, 50, 51, 51, 51, 52, 51, 53, 51, 54, 51, 55, 51, 56, 51, 57, 52, 48, 52, 49, 52, 50, 52, 51, 52, 52, 52, 53, 52, 54, 52, 55, 52, 56, 52, 57, 53, 48, 53, 49, 53, 50, 53, 51, 53, 52, 53, 53, 53, 54, 53, 55, 53, 56, 53, 57, 54, 48, 54, 49, 54, 50, 54, 51, 54, 52, 54, 53, 54, 54, 54, 55, 54, 56, 54, 57, 55, 48, 55, 49, 55, 50, 55, 51, 55, 52, 55, 53, 55, 54, 55, 55, 55, 56, 55, 57, 56, 48, 56, 49, 56, 50, 56, 51, 56, 52, 56, 53, 56, 54, 56, 55, 56, 56, 56, 57, 57, 48, 57, 49, 57, 50, 57, 51, 57, 52, 57, 53, 57, 54, 57, 55, 57, 56, 57, 57]⟩)) (.t 88)⟩, ⟨some 90, none, .mov (.t 10)⟩, ⟨some 91, none, .ixStr (.v (.string ⟨#[48, 48, 48, 49, 48, 50, 48, 51, 48, 52, 48, 53, 48, 54, 48, 55, 48, 56, 48, 57, 49, 48, 49, 49, 49, 50, 49, 51, 49, 52, 49, 53, 49, 54, 49, 55, 49, 56, 49, 57, 50, 48, 50, 49, 50, 50, 50, 51, 50, 52, 50, 53, 50, 54, 50, 55, 50, 56, 50, 57, 51, 48, 51, 49, 51, 50, 51, 51, 51, 52, 51, 53, 51, 54, 51, 55, 51, 56, 51, 57, 52, 48, 52, 49, 52, 50, 52, 51, 52, 52, 52, 53, 52, 54, 52, 55, 52, 56, 52, 57, 53, 48, 53, 49, 53, 50, 53, 51, 53, 52, 53, 53, 53, 54, 53, 55, 53, 56, 53, 57, 54, 48, 54, 49, 54, 50, 54, 51, 54, 52, 54, 53, 54, 54, 54, 55, 54, 56, 54, 57, 55, 48, 55, 49, 55, 50, 55, 51, 55, 52, 55, 53, 55, 54, 55, 55, 55, 56, 55, 57, 56, 48, 56, 49, 56, 50, 56, 51, 56, 52, 56, 53, 56, 54, 56, 55, 56, 56, 56, 57, 57, 48, 57, 49, 57, 50, 57, 51, 57, 52, 57, 53, 57, 54, 57, 55, 57, 56, 57, 57]⟩)) (.t 90)⟩, ⟨some 92, none, .ixS 1 (.t 81) (.t 83)⟩, ⟨none, none, .st 1 (.t 92) (.t 89)⟩, ⟨some 93, none, .ixS 1 (.t 84) (.t 86)⟩, ⟨none, none, .st 1 (.t 93) (.t 91)⟩])
     (.ops [⟨some 94, none, .mov (.t 4)⟩, ⟨some 95, none, .bin .sub (.t 94) (.v (.int .i64 8))⟩, ⟨some 4, none, .mov (.t 95)⟩]))))))))))))))
  (.seq (.ops [⟨some 96, none, .mov (.t 1)⟩, ⟨some 97, none, .cvt .u32 (.t 96)⟩, ⟨some 12, none, .mov (.t 97)⟩])
  (.seq (.seq (.ops [⟨some 98, none, .mov (.t 4)⟩, ⟨some 99, none, .bin .geq (.t 98) (.v (.int .i64 4))⟩])
  (.cond (.t 99) (.seq (.ops [⟨some 100, none, .mov (.t 12)⟩, ⟨some 101, none, .bin .rem (.t 100) (.v (.int .u32 10000))⟩, ⟨some 13, none, .mov (.t 101)⟩])
   (.seq (.ops [⟨some 102, none, .mov (.t 12)⟩, ⟨some 103, none, .bin .quo (.t 102) (.v (.int .u32 10000))⟩, ⟨some 12, none, .mov (.t 103)⟩])
   (.seq (.ops [⟨some 104, none, .mov (.t 13)⟩, ⟨some 105, none, .bin .quo (.t 104) (.v (.int .u32 100))⟩, ⟨some 106, none, .bin .mul (.t 105) (.v (.int .u32 2))⟩, ⟨some 107, none, .mov (.t 13)⟩, ⟨some 108, none, .bin .rem (.t 107) (.v (.int .u32 100))⟩, ⟨some 109, none, .bin .mul (.t 108) (.v (.int .u32 2))⟩, ⟨some 14, none, .mov (.t 106)⟩, ⟨some 15, none, .mov (.t 109)⟩])
   (.seq (.drawn [0, 0, 2, 0, 0, 16, 0, 64, 192, 0, 512, 455, 2503, 8191, 16383] 13 [⟨some 110, none, .mov (.t 0)⟩, ⟨some 111, none, .mov (.t 4)⟩, ⟨some 112, none, .bin .sub (.t 111) (.v (.int .i64 1))⟩, ⟨some 113, none, .mov (.t 0)⟩, ⟨some 114, none, .mov (.t 4)⟩, ⟨some 115, none, .bin .sub (.t 114) (.v (.int .i64 2))⟩, ⟨some 116, none, .mov (.t 15)⟩, ⟨some 117, none, .bin .add (.t 116) (.v (.int .u32 1))⟩, ⟨some 118, none, .ixStr (.v (.string ⟨#[48, 48, 48, 49, 48, 50, 48, 51, 48, 52, 48, 53, 48, 54, 48, 55, 48, 56, 48, 57, 49, 48, 49, 49, 49, 50, 49, 51, 49, 52, 49, 53, 49, 54, 49, 55, 49, 56, 49, 57, 50, 48, 50, 49, 50, 50, 50, 51, 50, 52, 50, 53, 50, 54, 50, 55, 50, 56, 50, 57, 51, 48, 51, 49, 51, 50, 51, 51, 51, 52, 51, 53, 51, 54, 51, 55, 51, 56, 51, 57, 52, 48, 52, 49, 52, 50, 52, 51, 52, 52, 52, 53, 52, 54, 52, 55, 52, 56, 52, 57, 53, 48, 53, 49, 53, 50, 53, 51, 53, 52, 53, 53, 53, 54, 53, 55, 53, 56, 53, 57, 54, 48, 54, 49, 54, 50, 54, 51, 54, 52, 54, 53, 54, 54, 54, 55, 54, 56, 54, 57, 55, 48, 55, 49, 55, 50, 55, 51, 55, 52, 55, 53, 55, 54, 55, 55, 55, 56, 55, 57, 56, 48, 56, 49, 56, 50, 56, 51, 56, 52, 56, 53, 56, 54, 56, 55, 56, 56, 56, 57, 57, 48, 57, 49, 57, 50, 57, 51, 57, 52, 57, 53, 57, 54, 57, 55, 57, 56, 57, 57]⟩)) (.t 117)⟩, ⟨some 119, none, .mov (.t 15)⟩, ⟨some 120, none, .ixStr (.v (.string ⟨#[48, 48, 48, 49, 48, 50, 48, 51, 48, 52, 48, 53, 48, 54, 48, 55, 48, 56, 48, 57, 49, 48, 49, 49, 49, 50, 49, 51, 49, 52, 49, 53, 49, 54, 49, 55, 49, 56, 49, 57, 50, 48, 50, 49, 50, 50, 50, 51, 50, 52, 50, 53, 50, 54, 50, 55, 50, 56, 50, 57, 51, 48, 51, 49, 51, 50, 51, 51, 51, 52, 51, 53, 51, 54, 51, 55, 51, 56, 51, 57, 52, 48, 52, 49, 52, 50, 52, 51, 52, 52, 52, 53, 52, 54, 52, 55, 52, 56, 52, 57, 53, 48, 53, 49, 53, 50, 53, 51, 53, 52, 53, 53, 53, 54, 53, 55, 53, 56, 53, 57, 54, 48, 54, 49, 54, 50, 54, 51, 54, 52, 54, 53, 54, 54, 54, 55, 54, 56, 54, 57, 55, 48, 55, 49, 55, 50, 55, 51, 55, 52, 55, 53, 55, 54, 55, 55, 55, 56, 55, 57, 56, 48, 56, 49, 56, 50, 56, 51, 56, 52, 56, 53, 56, 54, 56, 55, 56, 56, 56, 57, 57, 48, 57, 49, 57, 50, 57, 51, 57, 52, 57, 53, 57, 54, 57, 55, 57, 56, 57, 57]⟩)) (.t 119)⟩, ⟨some 121, none, .ixS 1 (.t 110) (.t 112)⟩, ⟨none, none, .st 1 (.t 121) (.t 118)⟩, ⟨some 122, none, .ixS 1 (.t 113) (.t 115)⟩, ⟨none, none, .st 1 (.t 122) (.t 120)⟩])
   (.seq (.drawn [0, 0, 2, 0, 0, 16, 0, 64, 192, 0, 512, 455, 2503, 8191, 16383] 13 [⟨some 123, none, .mov (.t 0)⟩, ⟨some 124, none, .mov (.t 4)⟩, ⟨some 125, none, .bin .sub (.t 124) (.v (.int .i64 3))⟩, ⟨some 126, none, .mov (.t 0)⟩, ⟨some 127, none, .mov (.t 4)⟩, ⟨some 128, none, .bin .sub (.t 127) (.v (.int .i64 4))⟩, ⟨some 129, none, .mov (.t 14)⟩, ⟨some 130, none, .bin .add (.t 129) (.v (.int .u32 1))⟩, ⟨some 131, none, .ixStr (.v (.string ⟨#[48, 48, 48, 49, 48, 50, 48, 51, 48, 52, 48, 53, 48, 54, 48, 55, 48, 56, 48, 57, 49, 48, 49, 49, 49, 50, 49, 51, 49, 52, 49, 53, 49, 54, 49, 55, 49, 56, 49, 57, 50, 48, 50, 49, 50, 50, 50, 51, 50, 52, 50, 53, 50, 54, 50, 55, 50, 56, 50, 57, 51, 48, 51, 49, 51, 50, 51, 51, 51, 52, 51, 53, 51, 54, 51, 55, 51, 56, 51, 57, 52, 48, 52, 49, 52, 50, 52, 51, 52, 52, 52, 53, 52, 54, 52, 55, 52, 56, 52, 57, 53, 48, 53, 49, 53, 50, 53, 51, 53, 52, 53, 53, 53, 54, 53, 55, 53, 56, 53, 57, 54, 48, 54, 49, 54, 50, 54, 51, 54, 52, 54, 53, 54, 54, 54, 55, 54, 56, 54, 57, 55, 48, 55, 49, 55, 50, 55, 51, 55, 52, 55, 53, 55, 54, 55, 55, 55, 56, 55, 57, 56, 48, 56, 49, 56, 50, 56, 51, 56, 52, 56, 53, 56, 54, 56, 55, 56, 56, 56, 57, 57, 48, 57, 49, 57, 50, 57, 51, 57, 52, 57, 53, 57, 54, 57, 55, 57, 56, 57, 57]⟩)) (.t 130)⟩, ⟨some 132, none, .mov (.t 14)⟩, ⟨some 133, none, .ixStr (.v (.string ⟨#[48, 48, 48, 49, 48, 50, 48, 51, 48, 52, 48, 53, 48, 54, 48, 55, 48, 56, 48, 57, 49, 48, 49, 49, 49, 50, 49, 51, 49, 52, 49, 53, 49, 54, 49, 55, 49, 56, 49, 57, 50, 48, 50, 49, 50, 50, 50, 51, 50, 52, 50, 53, 50, 54, 50, 55, 50, 56, 50, 57, 51, 48, 51, 49, 51, 50, 51, 51, 51, 52, 51, 53, 51, 54, 51, 55, 51, 56, 51, 57, 52, 48, 52, 49, 52, 50, 52, 51, 52, 52, 52, 53, 52, 54, 52, 55, 52, 56, 52, 57, 53, 48, 53, 49, 53, 50, 53, 51, 53, 52, 53, 53, 53, 54, 53, 55, 53, 56, 53, 57, 54, 48, 54, 49, 54, 50, 54, 51, 54, 52, 54, 53, 54, 54, 54, 55, 54, 56, 54, 57, 55, 48, 55, 49, 55, 50, 55, 51, 55, 52, 55, 53, 55, 54, 55, 55, 55, 56, 55, 57, 56, 48, 56, 49, 56, 50, 56, 51, 56, 52, 56, 53, 56, 54, 56, 55, 56, 56, 56, 57, 57, 48, 57, 49, 57, 50, 57, 51, 57, 52, 57, 53, 57, 54, 57, 55, 57, 56, 57, 57]⟩)) (.t 132)⟩, ⟨some 134, none, .ixS 1 (.t 123) (.t 125)⟩, ⟨none, none, .st 1 (.t 134) (.t 131)⟩, ⟨some 135, none, .ixS 1 (.t 126) (.t 128)⟩, ⟨none, none, .st 1 (.t 135) (.t 133)⟩])
   (.ops [⟨some 136, none, .mov (.t 4)⟩, ⟨some 137, none, .bin .sub (.t 136) (.v (.int .i64 4))⟩, ⟨some 4, none, .mov (.t 137)⟩])))))) .skip))
  (.seq (.seq (.ops [⟨some 138, none, .mov (.t 4)⟩, ⟨some 139, none, .bin .geq (.t 138) (.v (.int .i64 2))⟩])
  (.cond (.t 139) (.seq (.ops [⟨some 140, none, .mov (.t 12)⟩, ⟨some 141, none, .bin .rem (.t 140) (.v (.int .u32 100))⟩, ⟨some 142, none, .bin .mul (.t 141) (.v (.int .u32 2))⟩, ⟨some 16, none, .mov (.t 142)⟩])
   (.seq (.ops [⟨some 143, none, .mov (.t 12)⟩, ⟨some 144, none, .bin .quo (.t 143) (.v (.int .u32 100))⟩, ⟨some 12, none, .mov (.t 144)⟩])
   (.seq (.drawn [0, 0, 2, 0, 0, 16, 0, 64, 192, 0, 512, 455, 2503, 8191, 16383] 13 [⟨some 145, none, .mov (.t 0)⟩, ⟨some 146, none, .mov (.t 4)⟩, ⟨some 147, none, .bin .sub (.t 146) (.v (.int .i64 1))⟩, ⟨some 148, none, .mov (.t 0)⟩, ⟨some 149, none, .mov (.t 4)⟩, ⟨some 150, none, .bin .sub (.t 149) (.v (.int .i64 2))⟩, ⟨some 151, none, .mov (.t 16)⟩, ⟨some 152, none, .bin .add (.t 151) (.v (.int .u32 1))⟩, ⟨some 153, none, .ixStr (.v (.string ⟨#[48, 48, 48, 49, 48, 50, 48, 51, 48, 52, 48, 53, 48, 54, 48, 55, 48, 56, 48, 57, 49, 48, 49, 49, 49, 50, 49, 51, 49, 52, 49, 53, 49, 54, 49, 55, 49, 56, 49, 57, 50, 48, 50, 49, 50, 50, 50, 51, 50, 52, 50, 53, 50, 54, 50, 55, 50, 56, 50, 57, 51, 48, 51, 49, 51, 50, 51, 51, 51, 52, 51, 53, 51, 54, 51, 55, 51, 56, 51, 57, 52, 48, 52, 49, 52, 50, 52, 51, 52, 52, 52, 53, 52, 54, 52, 55, 52, 56, 52, 57, 53, 48, 53, 49, 53, 50, 53, 51, 53, 52, 53, 53, 53, 54, 53, 55, 53, 56, 53, 57, 54, 48, 54, 49, 54, 50, 54, 51, 54, 52, 54, 53, 54, 54, 54, 55, 54, 56, 54, 57, 55, 48, 55, 49, 55, 50, 55, 51, 55, 52, 55, 53, 55, 54, 55, 55, 55, 56, 55, 57, 56, 48, 56, 49, 56, 50, 56, 51, 56, 52, 56, 53, 56, 54, 56, 55, 56, 56, 56, 57, 57, 48, 57, 49, 57, 50, 57, 51, 57, 52, 57, 53, 57, 54, 57, 55, 57, 56, 57, 57]⟩)) (.t 152)⟩, ⟨some 154, none, .mov (.t 16)⟩, ⟨some 155, none, .ixStr (.v (.string ⟨#[48, 48, 48, 49, 48, 50, 48, 51, 48, 52, 48, 53, 48, 54, 48, 55, 48, 56, 48, 57, 49, 48, 49, 49, 49, 50, 49, 51, 49, 52, 49, 53, 49, 54, 49, 55, 49, 56, 49, 57, 50, 48, 50, 49, 50, 50, 50, 51, 50, 52, 50, 53, 50, 54, 50, 55, 50, 56, 50, 57, 51, 48, 51, 49, 51, 50, 51, 51, 51, 52, 51, 53, 51, 54, 51, 55, 51, 56, 51, 57, 52, 48, 52, 49, 52, 50, 52, 51, 52, 52, 52, 53, 52, 54, 52, 55, 52, 56, 52, 57, 53, 48, 53, 49, 53, 50, 53, 51, 53, 52, 53, 53, 53, 54, 53, 55, 53, 56, 53, 57, 54, 48, 54, 49, 54, 50, 54, 51, 54, 52, 54, 53, 54, 54, 54, 55, 54, 56, 54, 57, 55, 48, 55, 49, 55, 50, 55, 51, 55, 52, 55, 53, 55, 54, 55, 55, 55, 56, 55, 57, 56, 48, 56, 49, 56, 50, 56, 51, 56, 52, 56, 53, 56, 54, 56, 55, 56, 56, 56, 57, 57, 48, 57, 49, 57, 50, 57, 51, 57, 52, 57, 53, 57, 54, 57, 55, 57, 56, 57, 57]⟩)) (.t 154)⟩, ⟨some 156, none, .ixS 1 (.t 145) (.t 147)⟩, ⟨none, none, .st 1 (.t 156) (.t 153)⟩, ⟨some 157, none, .ixS 1 (.t 148) (.t 150)⟩, ⟨none, none, .st 1 (.t 157) (.t 155)⟩])
   (.ops [⟨some 158, none, .mov (.t 4)⟩, ⟨some 159, none, .bin .sub (.t 158) (.v (.int .i64 2))⟩, ⟨some 4, none, .mov (.t 159)⟩])))) .skip))
  (.seq (.ops [⟨some 160, none, .mov (.t 4)⟩, ⟨some 161, none, .bin .gtr (.t 160) (.v (.int .i64 0))⟩])
  (.cond (.t 161) (.ops [⟨some 162, none, .mov (.t 0)⟩, ⟨some 163, none, .mov (.t 12)⟩, ⟨some 164, none, .bin .add (.v (.int .u32 48)) (.t 163)⟩, ⟨some 165, none, .cvt .u8 (.t 164)⟩, ⟨some 166, none, .ixS 1 (.t 162) (.v (.int .i64 0))⟩, ⟨none, none, .st 1 (.t 166) (.t 165)⟩]) .skip))))))), 167, []⟩
theorem Tryd.ek133 : KnownE Tryd.prog 133 Tryd.ec133 := ⟨Tryd.f133, _, Tryd.func133, rfl, by kernel_rfl, rfl, by kernel_rfl, by kernel_rfl⟩

/-- internal/strconv.formatBits -/
def Tryd.ec134 : EFn := ⟨(.seq (.ops [⟨some 10, none, .mov (.v (.slice none 0 0))⟩, ⟨some 11, none, .mov (.v (.string ⟨#[]⟩))⟩])
  (.seq (.seq (.ops [⟨some 19, none, .mov (.t 2)⟩, ⟨some 20, none, .bin .lss (.t 19) (.v (.int .i64 2))⟩, ⟨some 21, none, .mov (.t 20)⟩, ⟨some 22, (some (21, false)), .mov (.t 2)⟩, ⟨some 23, (some (21, false)), .bin .eql (.t 22) (.v (.int .i64 10))⟩, ⟨some 24, none, .pick (.t 21) (.v (.bool true)) (.t 23)⟩, ⟨some 25, none, .mov (.t 24)⟩, ⟨some 26, (some (25, false)), .mov (.t 2)⟩, ⟨some 27, (some (25, false)), .bin .gtr (.t 26) (.v (.int .i64 36))⟩, ⟨some 28, none, .pick (.t 25) (.v (.bool true)) (.t 27)⟩])
  (.cond (.t 28) (.ops [⟨some 29, none, .more (.mkI 9 (.v (.string ⟨#[115, 116, 114, 99, 111, 110, 118, 58, 32, 105, 108, 108, 101, 103, 97, 108, 32, 65, 112, 112, 101, 110, 100, 73, 110, 116, 47, 70, 111, 114, 109, 97, 116, 73, 110, 116, 32, 98, 97, 115, 101]⟩)))⟩, ⟨none, none, .more .other⟩]) .skip))
  (.seq (.ops [⟨some 12, none, .al 149 [.int .u8 0, .int .u8 0, .int .u8 0, .int .u8 0, .int .u8 0, .int .u8 0, .int .u8 0, .int .u8 0, .int .u8 0, .int .u8 0, .int .u8 0, .int .u8 0, .int .u8 0, .int .u8 0, .int .u8 0, .int .u8 0, .int .u8 0, .int .u8 0, .int .u8 0, .int .u8 0, .int .u8 0, .int .u8 0, .int .u8 0, .int .u8 0, .int .u8 0, .int .u8 0, .int .u8 0, .int .u8 0, .int .u8 0, .int .u8 0, .int .u8 0, .int .u8 0, .int .u8 0, .int .u8 0, .int .u8 0, .int .u8 0, .int .u8 0, .int .u8 0, .int .u8 0, .int .u8 0, .int .u8 0, .int .u8 0, .int .u8 0, .int .u8 0, .int .u8 0, .int .u8 0, .int .u8 0, .int .u8 0, .int .u8 0, .int .u8 0, .int .u8 0, .int .u8 0, .int .u8 0, .int .u8 0, .int .u8 0, .int .u8 0, .int .u8 0, .int .u8 0, .int .u8 0, .int .u8 0, .int .u8 0, .int .u8 0, .int .u8 0, .int .u8 0, .int .u8 0]⟩])
  (.seq (.ops [⟨some 13, none, .mov (.v (.int .i64 65))⟩])
  (.seq (.seq (.ops [⟨some 30, none, .mov (.t 3)⟩])
  (.cond (.t 30) (.ops [⟨some 31, none, .mov (.t 1)⟩, ⟨some 32, none, .more (.neg (.t 31))⟩, ⟨some 1, none, .mov (.t 32)⟩]) .skip))
  (.seq (.seq (.ops [⟨some 33, none, .mov (.t 2)⟩, ⟨some 34, none, .call 152 [(.t 33)]⟩])
  (.cond (.t 34) (.seq (.ops [⟨some 35, none, .mov (.t 2)⟩, ⟨some 36, none, .cvt .u64 (.t 35)⟩, ⟨some 37, none, .call 153 [(.t 36)]⟩, ⟨some 38, none, .cvt .u64 (.t 37)⟩, ⟨some 14, none, .mov (.t 38)⟩])
   (.seq (.ops [⟨some 39, none, .mov (.t 2)⟩, ⟨some 40, none, .cvt .u64 (.t 39)⟩, ⟨some 15, none, .mov (.t 40)⟩])
   (.seq (.ops [⟨some 41, none, .mov (.t 2)⟩, ⟨some 42, none, .cvt .u64 (.t 41)⟩, ⟨some 43, none, .bin .sub (.t 42) (.v (.int .u64 1))⟩, ⟨some 16, none, .mov (.t 43)⟩])
   (.seq (.block 0 (.loop [0, 1, 3, 4, 10, 11, 12, 13, 14, 15, 16] (.seq (.seq (.ops [⟨some 44, none, .mov (.t 1)⟩, ⟨some 45, none, .mov (.t 15)⟩, ⟨some 46, none, .bin .geq (.t 44) (.t 45)⟩])
     (.cond (.t 46) .skip (.exit 0)))
     (.block 1 (.seq (.ops [⟨some 47, none, .mov (.t 13)⟩, ⟨some 48, none, .bin .sub (.t 47) (.v (.int .i64 1))⟩, ⟨some 13, none, .mov (.t 48)⟩])
      (.seq (.ops [⟨some 49, none, .mov (.t 13)⟩, ⟨some 50, none, .mov (.t 1)⟩, ⟨some 51, none, .mov (.t 16)⟩, ⟨some 52, none, .bin .and (.t 50) (.t 51)⟩, ⟨some 53, none, .ixStr (.v (.string ⟨#[48, 49, 50, 51, 52, 53, 54, 55, 56, 57, 97, 98, 99, 100, 101, 102, 103, 104, 105, 106, 107, 108, 109, 110, 111, 112, 113, 114, 115, 116, 117, 118, 119, 120, 121, 122]⟩)) (.t 52)⟩, ⟨some 54, none, .ixA 65 1 (.t 12) (.t 49)⟩, ⟨none, none, .st 1 (.t 54) (.t 53)⟩])
      (.ops [⟨some 55, none, .mov (.t 1)⟩, ⟨some 56, none, .mov (.t 14)⟩, ⟨some 57, none, .bin .shr (.t 55) (.t 56)⟩, ⟨some 1, none, .mov (.t 57)⟩])))))))
   (.seq (.ops [⟨some 58, none, .mov (.t 13)⟩, ⟨some 59, none, .bin .sub (.t 58) (.v (.int .i64 1))⟩, ⟨some 13, none, .mov (.t 59)⟩])
   (.ops [⟨some 60, none, .mov (.t 13)⟩, ⟨some 61, none, .mov (.t 1)⟩, ⟨some 62, none, .ixStr (.v (.string ⟨#[48, 49, 50, 51, 52, 53, 54, 55, 56, 57, 97, 98, 99, 100, 101, 102, 103, 104, 105, 106, 107, 108, 109, 110, 111, 112, 113, 114, 115, 116, 117, 118, 119, 120, 121, 122]⟩)) (.t 61)⟩, ⟨some 63, none, .ixA 65 1 (.t 12) (.t 60)⟩, ⟨none, none, .st 1 (.t 63) (.t 62)⟩])))))) (.seq (.ops [⟨some 64, none, .mov (.t 2)⟩, ⟨some 65, none, .cvt .u64 (.t 64)⟩, ⟨some 17, none, .mov (.t 65)⟩])
   (.seq (.block 2 (.loop [0, 1, 3, 4, 10, 11, 12, 13, 17] (.seq (.seq (.ops [⟨some 66, none, .mov (.t 1)⟩, ⟨some 67, none, .mov (.t 17)⟩, ⟨some 68, none, .bin .geq (.t 66) (.t 67)⟩])
     (.cond (.t 68) .skip (.exit 2)))
     (.block 3 (.seq (.ops [⟨some 69, none, .mov (.t 13)⟩, ⟨some 70, none, .bin .sub (.t 69) (.v (.int .i64 1))⟩, ⟨some 13, none, .mov (.t 70)⟩])
      (.seq (.ops [⟨some 71, none, .mov (.t 1)⟩, ⟨some 72, none, .mov (.t 17)⟩, ⟨some 73, none, .bin .quo (.t 71) (.t 72)⟩, ⟨some 18, none, .mov (.t 73)⟩])
      (.seq (.ops [⟨some 74, none, .mov (.t 13)⟩, ⟨some 75, none, .mov (.t 1)⟩, ⟨some 76, none, .mov (.t 18)⟩, ⟨some 77, none, .mov (.t 17)⟩, ⟨some 78, none, .bin .mul (.t 76) (.t 77)⟩, ⟨some 79, none, .bin .sub (.t 75) (.t 78)⟩, ⟨some 80, none, .ixStr (.v (.string ⟨#[48, 49, 50, 51, 52, 53, 54, 55, 56, 57, 97, 98, 99, 100, 101, 102, 103, 104, 105, 106, 107, 108, 109, 110, 111, 112, 113, 114, 115, 116, 117, 118, 119, 120, 121, 122]⟩)) (.t 79)⟩, ⟨some 81, none, .ixA 65 1 (.t 12) (.t 74)⟩, ⟨none, none, .st 1 (.t 81) (.t 80)⟩])
      (.ops [⟨some 82, none, .mov (.t 18)⟩, ⟨some 1, none, .mov (.t 82)⟩]))))))))
   (.seq (.ops [⟨some 83, none, .mov (.t 13)⟩, ⟨some 84, none, .bin .sub (.t 83) (.v (.int .i64 1))⟩, ⟨some 13, none, .mov (.t 84)⟩])
   (.ops [⟨some 85, none, .mov (.t 13)⟩, ⟨some 86, none, .mov (.t 1)⟩, ⟨some 87, none, .ixStr (.v (.string ⟨#[48, 49, 50, 51, 52, 53, 54, 55, 56, 57, 97, 98, 99, 100, 101, 102, 103, 104, 105, 106, 107, 108, 109, 110, 111, 112, 113, 114, 115, 116, 117, 118, 119, 120, 121, 122]⟩)) (.t 86)⟩, ⟨some 88, none, .ixA 65 1 (.t 12) (.t 85)⟩, ⟨none, none, .st 1 (.t 88) (.t 87)⟩]))))))
  (.seq (.seq (.ops [⟨some 89, none, .mov (.t 3)⟩])
  (.cond (.t 89) (.seq (.ops [⟨some 90, none, .mov (.t 13)⟩, ⟨some 91, none, .bin .sub (.t 90) (.v (.int .i64 1))⟩, ⟨some 13, none, .mov (.t 91)⟩])
   (.ops [⟨some 92, none, .mov (.t 13)⟩, ⟨some 93, none, .ixA 65 1 (.t 12) (.t 92)⟩, ⟨none, none, .st 1 (.t 93) (.v (.int .u8 45))⟩])) .skip))
  (.seq (.seq (.ops [⟨some 94, none, .mov (.t 4)⟩])
  (.cond (.t 94) (.seq (.ops [⟨some 95, none, .mov (.t 0)⟩, ⟨some 96, none, .mov (.t 13)⟩, ⟨some 97, none, .more (.slAr 65 1 (.t 12) (some (.t 96)) none)⟩, ⟨some 98, none, .app 121 5 1 1 (.int .u8 0) (.t 95) (.t 97)⟩, ⟨some 10, none, .mov (.t 98)⟩])
   .ret) .skip))
  (.seq (.ops [⟨some 99, none, .mov (.t 13)⟩, ⟨some 100, none, .more (.slAr 65 1 (.t 12) (some (.t 99)) none)⟩, ⟨some 101, none, .strOf (.t 100)⟩, ⟨some 11, none, .mov (.t 101)⟩])
  .ret))))))))), 102, [.tmp 10, .tmp 11]⟩
theorem Tryd.ek134 : KnownE Tryd.prog 134 Tryd.ec134 := ⟨Tryd.f134, _, Tryd.func134, rfl, by kernel_rfl, rfl, by kernel_rfl, by kernel_rfl⟩

/-- slices.siftDownCmpFunc[redwax/api.Label] -/
def Tryd.ec139 : EFn := ⟨(.seq (.ops [⟨some 12, none, .mov (.t 1)⟩, ⟨some 10, none, .mov (.t 12)⟩])
  (.block 0 (.loop [0, 2, 3, 4, 10] (.block 1 (.seq (.ops [⟨some 13, none, .mov (.t 10)⟩, ⟨some 14, none, .bin .mul (.v (.int .i64 2)) (.t 13)⟩, ⟨some 15, none, .bin .add (.t 14) (.v (.int .i64 1))⟩, ⟨some 11, none, .mov (.t 15)⟩])
     (.seq (.seq (.ops [⟨some 16, none, .mov (.t 11)⟩, ⟨some 17, none, .mov (.t 2)⟩, ⟨some 18, none, .bin .geq (.t 16) (.t 17)⟩])
     (.cond (.t 18) (.exit 0) .skip))
     (.seq (.seq (.drawn [0, 1, 0, 7, 15, 31, 31, 31, 31, 415, 991, 2015, 31, 31, 31, 24607, 57375, 127007, 258079, 524287, 1048575, 2097151] 19 [⟨some 19, none, .mov (.t 11)⟩, ⟨some 20, none, .bin .add (.t 19) (.v (.int .i64 1))⟩, ⟨some 21, none, .mov (.t 2)⟩, ⟨some 22, none, .bin .lss (.t 20) (.t 21)⟩, ⟨some 23, none, .mov (.t 22)⟩, ⟨some 24, (some (23, true)), .mov (.t 4)⟩, ⟨some 25, (some (23, true)), .mov (.t 0)⟩, ⟨some 26, (some (23, true)), .mov (.t 3)⟩, ⟨some 27, (some (23, true)), .mov (.t 11)⟩, ⟨some 28, (some (23, true)), .bin .add (.t 26) (.t 27)⟩, ⟨some 29, (some (23, true)), .ixS 2 (.t 25) (.t 28)⟩, ⟨some 30, (some (23, true)), .ldA 2 (.t 29)⟩, ⟨some 31, (some (23, true)), .mov (.t 0)⟩, ⟨some 32, (some (23, true)), .mov (.t 3)⟩, ⟨some 33, (some (23, true)), .mov (.t 11)⟩, ⟨some 34, (some (23, true)), .bin .add (.t 32) (.t 33)⟩, ⟨some 35, (some (23, true)), .bin .add (.t 34) (.v (.int .i64 1))⟩, ⟨some 36, (some (23, true)), .ixS 2 (.t 31) (.t 35)⟩, ⟨some 37, (some (23, true)), .ldA 2 (.t 36)⟩, ⟨some 38, (some (23, true)), .callv (.t 24) [(.t 30), (.t 37)]⟩, ⟨some 39, (some (23, true)), .bin .lss (.t 38) (.v (.int .i64 0))⟩, ⟨some 40, none, .pick (.t 23) (.t 39) (.v (.bool false))⟩])
     (.cond (.t 40) (.ops [⟨some 41, none, .mov (.t 11)⟩, ⟨some 42, none, .bin .add (.t 41) (.v (.int .i64 1))⟩, ⟨some 11, none, .mov (.t 42)⟩]) .skip))
     (.seq (.seq (.drawn [0, 0, 0, 0, 12, 30, 62, 0, 0, 0, 768, 1920, 3968, 8191, 16383, 32767] 13 [⟨some 43, none, .mov (.t 4)⟩, ⟨some 44, none, .mov (.t 0)⟩, ⟨some 45, none, .mov (.t 3)⟩, ⟨some 46, none, .mov (.t 10)⟩, ⟨some 47, none, .bin .add (.t 45) (.t 46)⟩, ⟨some 48, none, .ixS 2 (.t 44) (.t 47)⟩, ⟨some 49, none, .ldA 2 (.t 48)⟩, ⟨some 50, none, .mov (.t 0)⟩, ⟨some 51, none, .mov (.t 3)⟩, ⟨some 52, none, .mov (.t 11)⟩, ⟨some 53, none, .bin .add (.t 51) (.t 52)⟩, ⟨some 54, none, .ixS 2 (.t 50) (.t 53)⟩, ⟨some 55, none, .ldA 2 (.t 54)⟩, ⟨some 56, none, .callv (.t 43) [(.t 49), (.t 55)]⟩, ⟨some 57, none, .bin .lss (.t 56) (.v (.int .i64 0))⟩, ⟨some 58, none, .not (.t 57)⟩])
     (.cond (.t 58) .ret .skip))
     (.seq (.drawn [0, 0, 0, 6, 0, 0, 0, 96, 0, 0, 0, 1536, 3840, 7936, 0, 0, 0, 98304, 245760, 507904, 1048335, 2096911, 4194303, 8388607] 22 [⟨some 59, none, .mov (.t 0)⟩, ⟨some 60, none, .mov (.t 3)⟩, ⟨some 61, none, .mov (.t 10)⟩, ⟨some 62, none, .bin .add (.t 60) (.t 61)⟩, ⟨some 63, none, .mov (.t 0)⟩, ⟨some 64, none, .mov (.t 3)⟩, ⟨some 65, none, .mov (.t 11)⟩, ⟨some 66, none, .bin .add (.t 64) (.t 65)⟩, ⟨some 67, none, .mov (.t 0)⟩, ⟨some 68, none, .mov (.t 3)⟩, ⟨some 69, none, .mov (.t 11)⟩, ⟨some 70, none, .bin .add (.t 68) (.t 69)⟩, ⟨some 71, none, .ixS 2 (.t 67) (.t 70)⟩, ⟨some 72, none, .ldA 2 (.t 71)⟩, ⟨some 73, none, .mov (.t 0)⟩, ⟨some 74, none, .mov (.t 3)⟩, ⟨some 75, none, .mov (.t 10)⟩, ⟨some 76, none, .bin .add (.t 74) (.t 75)⟩, ⟨some 77, none, .ixS 2 (.t 73) (.t 76)⟩, ⟨some 78, none, .ldA 2 (.t 77)⟩, ⟨some 79, none, .ixS 2 (.t 59) (.t 62)⟩, ⟨none, none, .st 2 (.t 79) (.t 72)⟩, ⟨some 80, none, .ixS 2 (.t 63) (.t 66)⟩, ⟨none, none, .st 2 (.t 80) (.t 78)⟩])
     (.ops [⟨some 81, none, .mov (.t 11)⟩, ⟨some 10, none, .mov (.t 81)⟩])))))))))), 82, []⟩
theorem Tryd.ek139 : KnownE Tryd.prog 139 Tryd.ec139 := ⟨Tryd.f139, _, Tryd.func139, rfl, by kernel_rfl, rfl, by kernel_rfl, by kernel_rfl⟩

/-- slices.nextPowerOfTwo -/
def Tryd.ec140 : EFn := ⟨(.seq (.ops [⟨some 2, none, .mov (.v (.int .u64 0))⟩])
  (.seq (.ops [⟨some 3, none, .mov (.t 0)⟩, ⟨some 4, none, .cvt .u64 (.t 3)⟩, ⟨some 5, none, .call 98 [(.t 4)]⟩, ⟨some 6, none, .bin .shl (.v (.int .u64 1)) (.t 5)⟩, ⟨some 2, none, .mov (.t 6)⟩])
  .ret)), 7, [.tmp 2]⟩
theorem Tryd.ek140 : KnownE Tryd.prog 140 Tryd.ec140 := ⟨Tryd.f140, _, Tryd.func140, rfl, by kernel_rfl, rfl, by kernel_rfl, by kernel_rfl⟩

/-- (*slices.xorshift).Next -/
def Tryd.ec141 : EFn := ⟨(.seq (.ops [⟨some 2, none, .mov (.v (.int .u64 0))⟩])
  (.seq (.drawn [0, 1, 3, 0, 8, 24, 56, 127, 255, 511] 7 [⟨some 3, none, .mov (.t 0)⟩, ⟨some 4, none, .nilc (.t 3)⟩, ⟨some 5, none, .ld (.t 4)⟩, ⟨some 6, none, .mov (.t 0)⟩, ⟨some 7, none, .nilc (.t 6)⟩, ⟨some 8, none, .ld (.t 7)⟩, ⟨some 9, none, .bin .shl (.t 8) (.v (.int .u64 13))⟩, ⟨some 10, none, .bin .xor (.t 5) (.t 9)⟩, ⟨some 11, none, .nilc (.t 3)⟩, ⟨none, none, .st 1 (.t 11) (.t 10)⟩])
  (.seq (.drawn [0, 1, 3, 0, 8, 24, 56, 127, 255, 511] 7 [⟨some 12, none, .mov (.t 0)⟩, ⟨some 13, none, .nilc (.t 12)⟩, ⟨some 14, none, .ld (.t 13)⟩, ⟨some 15, none, .mov (.t 0)⟩, ⟨some 16, none, .nilc (.t 15)⟩, ⟨some 17, none, .ld (.t 16)⟩, ⟨some 18, none, .bin .shr (.t 17) (.v (.int .u64 7))⟩, ⟨some 19, none, .bin .xor (.t 14) (.t 18)⟩, ⟨some 20, none, .nilc (.t 12)⟩, ⟨none, none, .st 1 (.t 20) (.t 19)⟩])
  (.seq (.drawn [0, 1, 3, 0, 8, 24, 56, 127, 255, 511] 7 [⟨some 21, none, .mov (.t 0)⟩, ⟨some 22, none, .nilc (.t 21)⟩, ⟨some 23, none, .ld (.t 22)⟩, ⟨some 24, none, .mov (.t 0)⟩, ⟨some 25, none, .nilc (.t 24)⟩, ⟨some 26, none, .ld (.t 25)⟩, ⟨some 27, none, .bin .shl (.t 26) (.v (.int .u64 17))⟩, ⟨some 28, none, .bin .xor (.t 23) (.t 27)⟩, ⟨some 29, none, .nilc (.t 21)⟩, ⟨none, none, .st 1 (.t 29) (.t 28)⟩])
  (.seq (.ops [⟨some 30, none, .mov (.t 0)⟩, ⟨some 31, none, .nilc (.t 30)⟩, ⟨some 32, none, .ld (.t 31)⟩, ⟨some 2, none, .mov (.t 32)⟩])
  .ret))))), 33, [.tmp 2]⟩
theorem Tryd.ek141 : KnownE Tryd.prog 141 Tryd.ec141 := ⟨Tryd.f141, _, Tryd.func141, rfl, by kernel_rfl, rfl, by kernel_rfl, by kernel_rfl⟩

/-- slices.medianAdjacentCmpFunc[redwax/api.Label] -/
def Tryd.ec142 : EFn := ⟨(.seq (.ops [⟨some 8, none, .mov (.v (.int .i64 0))⟩])
  (.seq (.ops [⟨some 9, none, .mov (.t 0)⟩, ⟨some 10, none, .mov (.t 1)⟩, ⟨some 11, none, .bin .sub (.t 10) (.v (.int .i64 1))⟩, ⟨some 12, none, .mov (.t 1)⟩, ⟨some 13, none, .mov (.t 1)⟩, ⟨some 14, none, .bin .add (.t 13) (.v (.int .i64 1))⟩, ⟨some 15, none, .mov (.t 2)⟩, ⟨some 16, none, .mov (.t 3)⟩, ⟨some 17, none, .call 143 [(.t 9), (.t 11), (.t 12), (.t 14), (.t 15), (.t 16)]⟩, ⟨some 8, none, .mov (.t 17)⟩])
  .ret)), 18, [.tmp 8]⟩
theorem Tryd.ek142 : KnownE Tryd.prog 142 Tryd.ec142 := ⟨Tryd.f142, _, Tryd.func142, rfl, by kernel_rfl, rfl, by kernel_rfl, by kernel_rfl⟩

/-- slices.medianCmpFunc[redwax/api.Label] -/
def Tryd.ec143 : EFn := ⟨(.seq (.ops [⟨some 12, none, .mov (.v (.int .i64 0))⟩])
  (.seq (.ops [⟨some 14, none, .mov (.t 0)⟩, ⟨some 15, none, .mov (.t 1)⟩, ⟨some 16, none, .mov (.t 2)⟩, ⟨some 17, none, .mov (.t 4)⟩, ⟨some 18, none, .mov (.t 5)⟩, ⟨some 19, none, .call 155 [(.t 14), (.t 15), (.t 16), (.t 17), (.t 18)]⟩, ⟨some 13, none, .mov (.t 19)⟩, ⟨some 20, none, .ext 0 (.t 13)⟩, ⟨some 21, none, .ext 1 (.t 13)⟩, ⟨some 1, none, .mov (.t 20)⟩, ⟨some 2, none, .mov (.t 21)⟩])
  (.seq (.ops [⟨some 23, none, .mov (.t 0)⟩, ⟨some 24, none, .mov (.t 2)⟩, ⟨some 25, none, .mov (.t 3)⟩, ⟨some 26, none, .mov (.t 4)⟩, ⟨some 27, none, .mov (.t 5)⟩, ⟨some 28, none, .call 155 [(.t 23), (.t 24), (.t 25), (.t 26), (.t 27)]⟩, ⟨some 22, none, .mov (.t 28)⟩, ⟨some 29, none, .ext 0 (.t 22)⟩, ⟨some 30, none, .ext 1 (.t 22)⟩, ⟨some 2, none, .mov (.t 29)⟩, ⟨some 3, none, .mov (.t 30)⟩])
  (.seq (.ops [⟨some 32, none, .mov (.t 0)⟩, ⟨some 33, none, .mov (.t 1)⟩, ⟨some 34, none, .mov (.t 2)⟩, ⟨some 35, none, .mov (.t 4)⟩, ⟨some 36, none, .mov (.t 5)⟩, ⟨some 37, none, .call 155 [(.t 32), (.t 33), (.t 34), (.t 35), (.t 36)]⟩, ⟨some 31, none, .mov (.t 37)⟩, ⟨some 38, none, .ext 0 (.t 31)⟩, ⟨some 39, none, .ext 1 (.t 31)⟩, ⟨some 1, none, .mov (.t 38)⟩, ⟨some 2, none, .mov (.t 39)⟩])
  (.seq (.ops [⟨some 40, none, .mov (.t 2)⟩, ⟨some 12, none, .mov (.t 40)⟩])
  .ret))))), 41, [.tmp 12]⟩
theorem Tryd.ek143 : KnownE Tryd.prog 143 Tryd.ec143 := ⟨Tryd.f143, _, Tryd.func143, rfl, by kernel_rfl, rfl, by kernel_rfl, by kernel_rfl⟩

/-- internal/stringslite.IndexByte -/
def Tryd.ec144 : EFn := ⟨(.seq (.ops [⟨some 4, none, .mov (.v (.int .i64 0))⟩])
  (.seq (.ops [⟨some 5, none, .mov (.t 0)⟩, ⟨some 6, none, .mov (.t 1)⟩, ⟨some 7, none, .more (.xc 0 [(.t 5), (.t 6)])⟩, ⟨some 4, none, .mov (.t 7)⟩])
  .ret)), 8, [.tmp 4]⟩
theorem Tryd.ek144 : KnownE Tryd.prog 144 Tryd.ec144 := ⟨Tryd.f144, _, Tryd.func144, rfl, by kernel_rfl, rfl, by kernel_rfl, by kernel_rfl⟩

/-- internal/bytealg.Cutover -/
def Tryd.ec146 : EFn := ⟨(.seq (.ops [⟨some 2, none, .mov (.v (.int .i64 0))⟩])
  (.seq (.ops [⟨some 3, none, .mov (.t 0)⟩, ⟨some 4, none, .bin .add (.t 3) (.v (.int .i64 16))⟩, ⟨some 5, none, .bin .quo (.t 4) (.v (.int .i64 8))⟩, ⟨some 2, none, .mov (.t 5)⟩])
  .ret)), 6, [.tmp 2]⟩
theorem Tryd.ek146 : KnownE Tryd.prog 146 Tryd.ec146 := ⟨Tryd.f146, _, Tryd.func146, rfl, by kernel_rfl, rfl, by kernel_rfl, by kernel_rfl⟩

/-- internal/bytealg.IndexRabinKarp[string] -/
def Tryd.ec147 : EFn := ⟨(.seq (.ops [⟨some 4, none, .mov (.v (.int .i64 0))⟩])
  (.seq (.ops [⟨some 12, none, .mov (.t 1)⟩, ⟨some 13, none, .call 157 [(.t 12)]⟩, ⟨some 11, none, .mov (.t 13)⟩, ⟨some 14, none, .ext 0 (.t 11)⟩, ⟨some 15, none, .ext 1 (.t 11)⟩, ⟨some 5, none, .mov (.t 14)⟩, ⟨some 6, none, .mov (.t 15)⟩])
  (.seq (.ops [⟨some 16, none, .mov (.t 1)⟩, ⟨some 17, none, .lenStr (.t 16)⟩, ⟨some 7, none, .mov (.t 17)⟩])
  (.seq (.ops [⟨some 8, none, .mov (.v (.int .u32 0))⟩])
  (.seq (.seq (.ops [⟨some 9, none, .mov (.v (.int .i64 0))⟩])
  (.block 0 (.loop [0, 1, 5, 6, 7, 8, 9] (.seq (.seq (.ops [⟨some 18, none, .mov (.t 9)⟩, ⟨some 19, none, .mov (.t 7)⟩, ⟨some 20, none, .bin .lss (.t 18) (.t 19)⟩])
    (.cond (.t 20) .skip (.exit 0)))
    (.seq (.block 1 (.ops [⟨some 23, none, .mov (.t 8)⟩, ⟨some 24, none, .bin .mul (.t 23) (.v (.int .u32 16777619))⟩, ⟨some 25, none, .mov (.t 0)⟩, ⟨some 26, none, .mov (.t 9)⟩, ⟨some 27, none, .ixStr (.t 25) (.t 26)⟩, ⟨some 28, none, .cvt .u32 (.t 27)⟩, ⟨some 29, none, .bin .add (.t 24) (.t 28)⟩, ⟨some 8, none, .mov (.t 29)⟩]))
    (.ops [⟨some 21, none, .mov (.t 9)⟩, ⟨some 22, none, .bin .add (.t 21) (.v (.int .i64 1))⟩, ⟨some 9, none, .mov (.t 22)⟩]))))))
  (.seq (.seq (.ops [⟨some 30, none, .mov (.t 8)⟩, ⟨some 31, none, .mov (.t 5)⟩, ⟨some 32, none, .bin .eql (.t 30) (.t 31)⟩, ⟨some 33, none, .mov (.t 32)⟩, ⟨some 34, (some (33, true)), .mov (.t 0)⟩, ⟨some 35, (some (33, true)), .mov (.t 7)⟩, ⟨some 36, (some (33, true)), .slStr (.t 34) none (some (.t 35))⟩, ⟨some 37, (some (33, true)), .mov (.t 1)⟩, ⟨some 38, (some (33, true)), .bin .eql (.t 36) (.t 37)⟩, ⟨some 39, none, .pick (.t 33) (.t 38) (.v (.bool false))⟩])
  (.cond (.t 39) (.seq (.ops [⟨some 4, none, .mov (.v (.int .i64 0))⟩])
   .ret) .skip))
  (.seq (.seq (.ops [⟨some 40, none, .mov (.t 7)⟩, ⟨some 10, none, .mov (.t 40)⟩])
  (.block 2 (.loop [0, 1, 5, 6, 7, 8, 10] (.seq (.seq (.ops [⟨some 41, none, .mov (.t 10)⟩, ⟨some 42, none, .mov (.t 0)⟩, ⟨some 43, none, .lenStr (.t 42)⟩, ⟨some 44, none, .bin .lss (.t 41) (.t 43)⟩])
    (.cond (.t 44) .skip (.exit 2)))
    (.block 3 (.seq (.ops [⟨some 45, none, .mov (.t 8)⟩, ⟨some 46, none, .bin .mul (.t 45) (.v (.int .u32 16777619))⟩, ⟨some 8, none, .mov (.t 46)⟩])
     (.seq (.ops [⟨some 47, none, .mov (.t 8)⟩, ⟨some 48, none, .mov (.t 0)⟩, ⟨some 49, none, .mov (.t 10)⟩, ⟨some 50, none, .ixStr (.t 48) (.t 49)⟩, ⟨some 51, none, .cvt .u32 (.t 50)⟩, ⟨some 52, none, .bin .add (.t 47) (.t 51)⟩, ⟨some 8, none, .mov (.t 52)⟩])
     (.seq (.ops [⟨some 53, none, .mov (.t 8)⟩, ⟨some 54, none, .mov (.t 6)⟩, ⟨some 55, none, .mov (.t 0)⟩, ⟨some 56, none, .mov (.t 10)⟩, ⟨some 57, none, .mov (.t 7)⟩, ⟨some 58, none, .bin .sub (.t 56) (.t 57)⟩, ⟨some 59, none, .ixStr (.t 55) (.t 58)⟩, ⟨some 60, none, .cvt .u32 (.t 59)⟩, ⟨some 61, none, .bin .mul (.t 54) (.t 60)⟩, ⟨some 62, none, .bin .sub (.t 53) (.t 61)⟩, ⟨some 8, none, .mov (.t 62)⟩])
     (.seq (.ops [⟨some 63, none, .mov (.t 10)⟩, ⟨some 64, none, .bin .add (.t 63) (.v (.int .i64 1))⟩, ⟨some 10, none, .mov (.t 64)⟩])
     (.seq (.ops [⟨some 65, none, .mov (.t 8)⟩, ⟨some 66, none, .mov (.t 5)⟩, ⟨some 67, none, .bin .eql (.t 65) (.t 66)⟩, ⟨some 68, none, .mov (.t 67)⟩, ⟨some 69, (some (68, true)), .mov (.t 0)⟩, ⟨some 70, (some (68, true)), .mov (.t 10)⟩, ⟨some 71, (some (68, true)), .mov (.t 7)⟩, ⟨some 72, (some (68, true)), .bin .sub (.t 70) (.t 71)⟩, ⟨some 73, (some (68, true)), .mov (.t 10)⟩, ⟨some 74, (some (68, true)), .slStr (.t 69) (some (.t 72)) (some (.t 73))⟩, ⟨some 75, (some (68, true)), .mov (.t 1)⟩, ⟨some 76, (some (68, true)), .bin .eql (.t 74) (.t 75)⟩, ⟨some 77, none, .pick (.t 68) (.t 76) (.v (.bool false))⟩])
     (.cond (.t 77) (.seq (.ops [⟨some 78, none, .mov (.t 10)⟩, ⟨some 79, none, .mov (.t 7)⟩, ⟨some 80, none, .bin .sub (.t 78) (.t 79)⟩, ⟨some 4, none, .mov (.t 80)⟩])
      .ret) .skip)))))))))))
  (.seq (.ops [⟨some 4, none, .mov (.v (.int .i64 (-1)))⟩])
  .ret)))))))), 81, [.tmp 4]⟩
theorem Tryd.ek147 : KnownE Tryd.prog 147 Tryd.ec147 := ⟨Tryd.f147, _, Tryd.func147, rfl, by kernel_rfl, rfl, by kernel_rfl, by kernel_rfl⟩

/-- internal/stringslite.Clone -/
def Tryd.ec148 : EFn := ⟨(.seq (.ops [⟨some 2, none, .mov (.v (.string ⟨#[]⟩))⟩])
  (.seq (.seq (.ops [⟨some 4, none, .mov (.t 0)⟩, ⟨some 5, none, .lenStr (.t 4)⟩, ⟨some 6, none, .bin .eql (.t 5) (.v (.int .i64 0))⟩])
  (.cond (.t 6) (.seq (.ops [⟨some 2, none, .mov (.v (.string ⟨#[]⟩))⟩])
   .ret) .skip))
  (.seq (.ops [⟨some 7, none, .mov (.t 0)⟩, ⟨some 8, none, .lenStr (.t 7)⟩, ⟨some 9, none, .mkS 121 5 1 1 (.int .u8 0) (.t 8) (.t 8)⟩, ⟨some 3, none, .mov (.t 9)⟩])
  (.seq (.ops [⟨some 10, none, .mov (.t 3)⟩, ⟨some 11, none, .mov (.t 0)⟩, ⟨some 12, none, .cpy 5 1 (.t 10) (.t 11)⟩])
  (.seq (.ops [⟨some 13, none, .mov (.t 3)⟩, ⟨some 14, none, .ixS 1 (.t 13) (.v (.int .i64 0))⟩, ⟨some 15, none, .mov (.t 3)⟩, ⟨some 16, none, .lenS (.t 15)⟩, ⟨some 17, none, .more (.uss 5 (.t 14) (.t 16))⟩, ⟨some 2, none, .mov (.t 17)⟩])
  .ret))))), 18, [.tmp 2]⟩
theorem Tryd.ek148 : KnownE Tryd.prog 148 Tryd.ec148 := ⟨Tryd.f148, _, Tryd.func148, rfl, by kernel_rfl, rfl, by kernel_rfl, by kernel_rfl⟩

/-- errors.New -/
def Tryd.ec149 : EFn := ⟨(.seq (.ops [⟨some 2, none, .mov (.v .nilIface)⟩])
  (.seq (.ops [⟨some 3, none, .mov (.t 0)⟩, ⟨some 4, none, .build [.string ⟨#[]⟩] [(0, 1, (.t 3))]⟩, ⟨some 5, none, .bx 158 (.t 4)⟩, ⟨some 6, none, .more (.mkI 156 (.t 5))⟩, ⟨some 2, none, .mov (.t 6)⟩])
  .ret)), 7, [.tmp 2]⟩
theorem Tryd.ek149 : KnownE Tryd.prog 149 Tryd.ec149 := ⟨Tryd.f149, _, Tryd.func149, rfl, by kernel_rfl, rfl, by kernel_rfl, by kernel_rfl⟩

/-- internal/strconv.log10Pow2 -/
def Tryd.ec150 : EFn := ⟨(.seq (.ops [⟨some 2, none, .mov (.v (.int .i64 0))⟩])
  (.seq (.ops [⟨some 3, none, .mov (.t 0)⟩, ⟨some 4, none, .bin .mul (.t 3) (.v (.int .i64 78913))⟩, ⟨some 5, none, .bin .shr (.t 4) (.v (.int .u64 18))⟩, ⟨some 2, none, .mov (.t 5)⟩])
  .ret)), 6, [.tmp 2]⟩
theorem Tryd.ek150 : KnownE Tryd.prog 150 Tryd.ec150 := ⟨Tryd.f150, _, Tryd.func150, rfl, by kernel_rfl, rfl, by kernel_rfl, by kernel_rfl⟩

/-- internal/strconv.bool2[int] -/
def Tryd.ec151 : EFn := ⟨(.seq (.ops [⟨some 2, none, .mov (.v (.int .i64 0))⟩])
  (.seq (.seq (.ops [⟨some 3, none, .mov (.t 0)⟩])
  (.cond (.t 3) (.seq (.ops [⟨some 2, none, .mov (.v (.int .i64 1))⟩])
   .ret) .skip))
  (.seq (.ops [⟨some 2, none, .mov (.v (.int .i64 0))⟩])
  .ret))), 4, [.tmp 2]⟩
theorem Tryd.ek151 : KnownE Tryd.prog 151 Tryd.ec151 := ⟨Tryd.f151, _, Tryd.func151, rfl, by kernel_rfl, rfl, by kernel_rfl, by kernel_rfl⟩

/-- internal/strconv.isPowerOfTwo -/
def Tryd.ec152 : EFn := ⟨(.seq (.ops [⟨some 2, none, .mov (.v (.bool false))⟩])
  (.seq (.ops [⟨some 3, none, .mov (.t 0)⟩, ⟨some 4, none, .mov (.t 0)⟩, ⟨some 5, none, .bin .sub (.t 4) (.v (.int .i64 1))⟩, ⟨some 6, none, .bin .and (.t 3) (.t 5)⟩, ⟨some 7, none, .bin .eql (.t 6) (.v (.int .i64 0))⟩, ⟨some 2, none, .mov (.t 7)⟩])
  .ret)), 8, [.tmp 2]⟩
theorem Tryd.ek152 : KnownE Tryd.prog 152 Tryd.ec152 := ⟨Tryd.f152, _, Tryd.func152, rfl, by kernel_rfl, rfl, by kernel_rfl, by kernel_rfl⟩

/-- math/bits.TrailingZeros -/
def Tryd.ec153 : EFn := ⟨(.seq (.ops [⟨some 2, none, .mov (.v (.int .i64 0))⟩])
  (.seq (.cond (.v (.bool false)) (.seq (.ops [⟨some 3, none, .mov (.t 0)⟩, ⟨some 4, none, .cvt .u32 (.t 3)⟩, ⟨some 5, none, .call 158 [(.t 4)]⟩, ⟨some 2, none, .mov (.t 5)⟩])
   .ret) .skip)
  (.seq (.ops [⟨some 6, none, .mov (.t 0)⟩, ⟨some 7, none, .call 159 [(.t 6)]⟩, ⟨some 2, none, .mov (.t 7)⟩])
  .ret))), 8, [.tmp 2]⟩
theorem Tryd.ek153 : KnownE Tryd.prog 153 Tryd.ec153 := ⟨Tryd.f153, _, Tryd.func153, rfl, by kernel_rfl, rfl, by kernel_rfl, by kernel_rfl⟩

/-- slices.order2CmpFunc[redwax/api.Label] -/
def Tryd.ec155 : EFn := ⟨(.seq (.ops [⟨some 10, none, .mov (.v (.int .i64 0))⟩, ⟨some 11, none, .mov (.v (.int .i64 0))⟩])
  (.seq (.seq (.drawn [0, 0, 0, 6, 14, 0, 0, 96, 224, 511, 1023] 9 [⟨some 12, none, .mov (.t 4)⟩, ⟨some 13, none, .mov (.t 0)⟩, ⟨some 14, none, .mov (.t 2)⟩, ⟨some 15, none, .ixS 2 (.t 13) (.t 14)⟩, ⟨some 16, none, .ldA 2 (.t 15)⟩, ⟨some 17, none, .mov (.t 0)⟩, ⟨some 18, none, .mov (.t 1)⟩, ⟨some 19, none, .ixS 2 (.t 17) (.t 18)⟩, ⟨some 20, none, .ldA 2 (.t 19)⟩, ⟨some 21, none, .callv (.t 12) [(.t 16), (.t 20)]⟩, ⟨some 22, none, .bin .lss (.t 21) (.v (.int .i64 0))⟩])
  (.cond (.t 22) (.seq (.ops [⟨some 23, none, .mov (.t 3)⟩, ⟨some 24, none, .nilc (.t 23)⟩, ⟨some 25, none, .ld (.t 24)⟩, ⟨some 26, none, .bin .add (.t 25) (.v (.int .i64 1))⟩, ⟨some 27, none, .nilc (.t 23)⟩, ⟨none, none, .st 1 (.t 27) (.t 26)⟩])
   (.seq (.ops [⟨some 28, none, .mov (.t 2)⟩, ⟨some 29, none, .mov (.t 1)⟩, ⟨some 10, none, .mov (.t 28)⟩, ⟨some 11, none, .mov (.t 29)⟩])
   .ret)) .skip))
  (.seq (.ops [⟨some 30, none, .mov (.t 1)⟩, ⟨some 31, none, .mov (.t 2)⟩, ⟨some 10, none, .mov (.t 30)⟩, ⟨some 11, none, .mov (.t 31)⟩])
  .ret))), 32, [.tmp 10, .tmp 11]⟩
theorem Tryd.ek155 : KnownE Tryd.prog 155 Tryd.ec155 := ⟨Tryd.f155, _, Tryd.func155, rfl, by kernel_rfl, rfl, by kernel_rfl, by kernel_rfl⟩

/-- internal/bytealg.hashStr[string] -/
def Tryd.ec157 : EFn := ⟨(.seq (.ops [⟨some 2, none, .mov (.v (.int .u32 0))⟩, ⟨some 3, none, .mov (.v (.int .u32 0))⟩])
  (.seq (.ops [⟨some 4, none, .mov (.v (.int .u32 0))⟩])
  (.seq (.seq (.ops [⟨some 5, none, .mov (.v (.int .i64 0))⟩])
  (.block 0 (.loop [0, 4, 5] (.seq (.seq (.ops [⟨some 9, none, .mov (.t 5)⟩, ⟨some 10, none, .mov (.t 0)⟩, ⟨some 11, none, .lenStr (.t 10)⟩, ⟨some 12, none, .bin .lss (.t 9) (.t 11)⟩])
    (.cond (.t 12) .skip (.exit 0)))
    (.seq (.block 1 (.ops [⟨some 15, none, .mov (.t 4)⟩, ⟨some 16, none, .bin .mul (.t 15) (.v (.int .u32 16777619))⟩, ⟨some 17, none, .mov (.t 0)⟩, ⟨some 18, none, .mov (.t 5)⟩, ⟨some 19, none, .ixStr (.t 17) (.t 18)⟩, ⟨some 20, none, .cvt .u32 (.t 19)⟩, ⟨some 21, none, .bin .add (.t 16) (.t 20)⟩, ⟨some 4, none, .mov (.t 21)⟩]))
    (.ops [⟨some 13, none, .mov (.t 5)⟩, ⟨some 14, none, .bin .add (.t 13) (.v (.int .i64 1))⟩, ⟨some 5, none, .mov (.t 14)⟩]))))))
  (.seq (.ops [⟨some 6, none, .mov (.v (.int .u32 1))⟩, ⟨some 7, none, .mov (.v (.int .u32 16777619))⟩])
  (.seq (.seq (.ops [⟨some 22, none, .mov (.t 0)⟩, ⟨some 23, none, .lenStr (.t 22)⟩, ⟨some 8, none, .mov (.t 23)⟩])
  (.block 2 (.loop [4, 6, 7, 8] (.seq (.seq (.ops [⟨some 24, none, .mov (.t 8)⟩, ⟨some 25, none, .bin .gtr (.t 24) (.v (.int .i64 0))⟩])
    (.cond (.t 25) .skip (.exit 2)))
    (.seq (.block 3 (.seq (.seq (.ops [⟨some 28, none, .mov (.t 8)⟩, ⟨some 29, none, .bin .and (.t 28) (.v (.int .i64 1))⟩, ⟨some 30, none, .bin .neq (.t 29) (.v (.int .i64 0))⟩])
     (.cond (.t 30) (.ops [⟨some 31, none, .mov (.t 6)⟩, ⟨some 32, none, .mov (.t 7)⟩, ⟨some 33, none, .bin .mul (.t 31) (.t 32)⟩, ⟨some 6, none, .mov (.t 33)⟩]) .skip))
     (.ops [⟨some 34, none, .mov (.t 7)⟩, ⟨some 35, none, .mov (.t 7)⟩, ⟨some 36, none, .bin .mul (.t 34) (.t 35)⟩, ⟨some 7, none, .mov (.t 36)⟩])))
    (.ops [⟨some 26, none, .mov (.t 8)⟩, ⟨some 27, none, .bin .shr (.t 26) (.v (.int .u64 1))⟩, ⟨some 8, none, .mov (.t 27)⟩]))))))
  (.seq (.ops [⟨some 37, none, .mov (.t 4)⟩, ⟨some 38, none, .mov (.t 6)⟩, ⟨some 2, none, .mov (.t 37)⟩, ⟨some 3, none, .mov (.t 38)⟩])
  .ret)))))), 39, [.tmp 2, .tmp 3]⟩
theorem Tryd.ek157 : KnownE Tryd.prog 157 Tryd.ec157 := ⟨Tryd.f157, _, Tryd.func157, rfl, by kernel_rfl, rfl, by kernel_rfl, by kernel_rfl⟩

/-- math/bits.TrailingZeros32 -/
def Tryd.ec158 : EFn := ⟨(.seq (.ops [⟨some 2, none, .mov (.v (.int .i64 0))⟩])
  (.seq (.seq (.ops [⟨some 3, none, .mov (.t 0)⟩, ⟨some 4, none, .bin .eql (.t 3) (.v (.int .u32 0))⟩])
  (.cond (.t 4) (.seq (.ops [⟨some 2, none, .mov (.v (.int .i64 32))⟩])
   .ret) .skip))
  (.seq (.ops [⟨some 5, none, .mov (.t 0)⟩, ⟨some 6, none, .mov (.t 0)⟩, ⟨some 7, none, .more (.neg (.t 6))⟩, ⟨some 8, none, .bin .and (.t 5) (.t 7)⟩, ⟨some 9, none, .bin .mul (.t 8) (.v (.int .u32 125613361))⟩, ⟨some 10, none, .bin .shr (.t 9) (.v (.int .u64 27))⟩, ⟨some 11, none, .ixA 32 1 (.v (.pointer (some ⟨6, 0, none⟩))) (.t 10)⟩, ⟨some 12, none, .ld (.t 11)⟩, ⟨some 13, none, .cvt .i64 (.t 12)⟩, ⟨some 2, none, .mov (.t 13)⟩])
  .ret))), 14, [.tmp 2]⟩
theorem Tryd.ek158 : KnownE Tryd.prog 158 Tryd.ec158 := ⟨Tryd.f158, _, Tryd.func158, rfl, by kernel_rfl, rfl, by kernel_rfl, by kernel_rfl⟩

/-- math/bits.TrailingZeros64 -/
def Tryd.ec159 : EFn := ⟨(.seq (.ops [⟨some 2, none, .mov (.v (.int .i64 0))⟩])
  (.seq (.seq (.ops [⟨some 3, none, .mov (.t 0)⟩, ⟨some 4, none, .bin .eql (.t 3) (.v (.int .u64 0))⟩])
  (.cond (.t 4) (.seq (.ops [⟨some 2, none, .mov (.v (.int .i64 64))⟩])
   .ret) .skip))
  (.seq (.ops [⟨some 5, none, .mov (.t 0)⟩, ⟨some 6, none, .mov (.t 0)⟩, ⟨some 7, none, .more (.neg (.t 6))⟩, ⟨some 8, none, .bin .and (.t 5) (.t 7)⟩, ⟨some 9, none, .bin .mul (.t 8) (.v (.int .u64 285870213051353865))⟩, ⟨some 10, none, .bin .shr (.t 9) (.v (.int .u64 58))⟩, ⟨some 11, none, .ixA 64 1 (.v (.pointer (some ⟨7, 0, none⟩))) (.t 10)⟩, ⟨some 12, none, .ld (.t 11)⟩, ⟨some 13, none, .cvt .i64 (.t 12)⟩, ⟨some 2, none, .mov (.t 13)⟩])
  .ret))), 14, [.tmp 2]⟩
theorem Tryd.ek159 : KnownE Tryd.prog 159 Tryd.ec159 := ⟨Tryd.f159, _, Tryd.func159, rfl, by kernel_rfl, rfl, by kernel_rfl, by kernel_rfl⟩
def Tryd.etab : List (FuncId × EFn) := [(14, Tryd.ec14), (15, Tryd.ec15), (16, Tryd.ec16), (17, Tryd.ec17), (18, Tryd.ec18), (19, Tryd.ec19), (20, Tryd.ec20), (25, Tryd.ec25), (50, Tryd.ec50), (54, Tryd.ec54), (55, Tryd.ec55), (56, Tryd.ec56), (57, Tryd.ec57), (60, Tryd.ec60), (61, Tryd.ec61), (62, Tryd.ec62), (78, Tryd.ec78), (79, Tryd.ec79), (80, Tryd.ec80), (81, Tryd.ec81), (82, Tryd.ec82), (83, Tryd.ec83), (84, Tryd.ec84), (85, Tryd.ec85), (86, Tryd.ec86), (87, Tryd.ec87), (97, Tryd.ec97), (98, Tryd.ec98), (99, Tryd.ec99), (100, Tryd.ec100), (101, Tryd.ec101), (102, Tryd.ec102), (103, Tryd.ec103), (104, Tryd.ec104), (112, Tryd.ec112), (113, Tryd.ec113), (114, Tryd.ec114), (115, Tryd.ec115), (116, Tryd.ec116), (117, Tryd.ec117), (118, Tryd.ec118), (119, Tryd.ec119), (120, Tryd.ec120), (121, Tryd.ec121), (122, Tryd.ec122), (123, Tryd.ec123), (124, Tryd.ec124), (125, Tryd.ec125), (126, Tryd.ec126), (127, Tryd.ec127), (128, Tryd.ec128), (129, Tryd.ec129), (130, Tryd.ec130), (131, Tryd.ec131), (132, Tryd.ec132), (133, Tryd.ec133), (134, Tryd.ec134), (139, Tryd.ec139), (140, Tryd.ec140), (141, Tryd.ec141), (142, Tryd.ec142), (143, Tryd.ec143), (144, Tryd.ec144), (146, Tryd.ec146), (147, Tryd.ec147), (148, Tryd.ec148), (149, Tryd.ec149), (150, Tryd.ec150), (151, Tryd.ec151), (152, Tryd.ec152), (153, Tryd.ec153), (155, Tryd.ec155), (157, Tryd.ec157), (158, Tryd.ec158), (159, Tryd.ec159)]
theorem Tryd.etab_ok : AllK Tryd.prog Tryd.etab := ⟨Tryd.ek14, Tryd.ek15, Tryd.ek16, Tryd.ek17, Tryd.ek18, Tryd.ek19, Tryd.ek20, Tryd.ek25, Tryd.ek50, Tryd.ek54, Tryd.ek55, Tryd.ek56, Tryd.ek57, Tryd.ek60, Tryd.ek61, Tryd.ek62, Tryd.ek78, Tryd.ek79, Tryd.ek80, Tryd.ek81, Tryd.ek82, Tryd.ek83, Tryd.ek84, Tryd.ek85, Tryd.ek86, Tryd.ek87, Tryd.ek97, Tryd.ek98, Tryd.ek99, Tryd.ek100, Tryd.ek101, Tryd.ek102, Tryd.ek103, Tryd.ek104, Tryd.ek112, Tryd.ek113, Tryd.ek114, Tryd.ek115, Tryd.ek116, Tryd.ek117, Tryd.ek118, Tryd.ek119, Tryd.ek120, Tryd.ek121, Tryd.ek122, Tryd.ek123, Tryd.ek124, Tryd.ek125, Tryd.ek126, Tryd.ek127, Tryd.ek128, Tryd.ek129, Tryd.ek130, Tryd.ek131, Tryd.ek132, Tryd.ek133, Tryd.ek134, Tryd.ek139, Tryd.ek140, Tryd.ek141, Tryd.ek142, Tryd.ek143, Tryd.ek144, Tryd.ek146, Tryd.ek147, Tryd.ek148, Tryd.ek149, Tryd.ek150, Tryd.ek151, Tryd.ek152, Tryd.ek153, Tryd.ek155, Tryd.ek157, Tryd.ek158, Tryd.ek159, trivial⟩
end Go.Proofs
