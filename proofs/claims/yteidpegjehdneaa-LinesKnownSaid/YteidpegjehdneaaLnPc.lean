/- Walks and plain facts for the laws of this seat: what each function answers, for every input. -/
import Derived.Test.YteidpegjehdneaaSl21
import Derived.Test.YteidpegjehdneaaProg
namespace Go.Proofs
open Go.SL
set_option maxRecDepth 100000
theorem Try.mixed : Try.prog.follows .mixedOrders = true := by kernel_rfl

/-- redwax/redwaxlaw13.LinesSplit -/
def Try.pc3 : PC :=
  (.seq (.ops [⟨some 2, none, .mov (.v (.bool false))⟩])
  (.seq (.seq (.ops [⟨some 11, none, .mov (.t 0)⟩, ⟨some 12, none, .lenStr (.t 11)⟩, ⟨some 13, none, .bin .gtr (.t 12) (.v (.int .i64 20000))⟩])
  (.cond (.t 13) (.seq (.ops [⟨some 14, none, .call 7 []⟩, ⟨some 2, none, .mov (.t 14)⟩])
   .ret) .skip))
  (.seq (.ops [⟨some 16, none, .mov (.t 0)⟩, ⟨some 17, none, .call 8 [(.t 16)]⟩, ⟨some 15, none, .mov (.t 17)⟩, ⟨some 18, none, .ext 0 (.t 15)⟩, ⟨some 19, none, .ext 1 (.t 15)⟩, ⟨some 3, none, .mov (.t 18)⟩, ⟨some 4, none, .mov (.t 19)⟩])
  (.seq (.ops [⟨some 21, none, .mov (.t 0)⟩, ⟨some 22, none, .call 9 [(.t 21)]⟩, ⟨some 20, none, .mov (.t 22)⟩, ⟨some 23, none, .ext 0 (.t 20)⟩, ⟨some 24, none, .ext 1 (.t 20)⟩, ⟨some 5, none, .mov (.t 23)⟩, ⟨some 6, none, .mov (.t 24)⟩])
  (.seq (.ops [⟨some 26, none, .mov (.t 0)⟩, ⟨some 27, none, .call 10 [(.t 26)]⟩, ⟨some 25, none, .mov (.t 27)⟩, ⟨some 28, none, .ext 0 (.t 25)⟩, ⟨some 29, none, .ext 1 (.t 25)⟩, ⟨some 7, none, .mov (.t 28)⟩, ⟨some 8, none, .mov (.t 29)⟩])
  (.seq (.ops [⟨some 31, none, .mov (.t 0)⟩, ⟨some 32, none, .call 11 [(.t 31)]⟩, ⟨some 30, none, .mov (.t 32)⟩, ⟨some 33, none, .ext 0 (.t 30)⟩, ⟨some 34, none, .ext 1 (.t 30)⟩, ⟨some 9, none, .mov (.t 33)⟩, ⟨some 10, none, .mov (.t 34)⟩])
  (.seq (.ops [⟨some 35, none, .mov (.t 4)⟩, ⟨some 36, none, .mov (.t 6)⟩, ⟨some 37, none, .bin .eql (.t 35) (.t 36)⟩, ⟨some 38, none, .mov (.t 37)⟩, ⟨some 39, (some (38, true)), .mov (.t 8)⟩, ⟨some 40, (some (38, true)), .mov (.t 10)⟩, ⟨some 41, (some (38, true)), .bin .eql (.t 39) (.t 40)⟩, ⟨some 42, none, .pick (.t 38) (.t 41) (.v (.bool false))⟩, ⟨some 43, none, .mov (.t 42)⟩, ⟨some 44, (some (43, true)), .mov (.t 3)⟩, ⟨some 45, (some (43, true)), .mov (.t 5)⟩, ⟨some 46, (some (43, true)), .call 12 [(.t 44), (.t 45)]⟩, ⟨some 47, none, .pick (.t 43) (.t 46) (.v (.bool false))⟩, ⟨some 48, none, .mov (.t 47)⟩, ⟨some 49, (some (48, true)), .mov (.t 7)⟩, ⟨some 50, (some (48, true)), .mov (.t 9)⟩, ⟨some 51, (some (48, true)), .call 12 [(.t 49), (.t 50)]⟩, ⟨some 52, none, .pick (.t 48) (.t 51) (.v (.bool false))⟩, ⟨some 53, none, .mov (.t 52)⟩, ⟨some 54, (some (53, true)), .call 7 []⟩, ⟨some 55, none, .pick (.t 53) (.t 54) (.v (.bool false))⟩, ⟨some 2, none, .mov (.t 55)⟩])
  .ret)))))))
theorem Try.known3 : Known Try.prog 3 Try.pc3 56 [2] := ⟨Try.f3, _, Try.func3, rfl, by kernel_rfl, rfl, rfl⟩

/-- redwax/redwaxlaw13.LinesCheck -/
def Try.pc4 : PC :=
  (.seq (.ops [⟨some 2, none, .mov (.v (.bool false))⟩])
  (.seq (.seq (.ops [⟨some 5, none, .mov (.t 0)⟩, ⟨some 6, none, .call 13 [(.t 5)]⟩, ⟨some 7, none, .bin .gtr (.t 6) (.v (.int .i64 20000))⟩])
  (.cond (.t 7) (.seq (.ops [⟨some 8, none, .call 7 []⟩, ⟨some 2, none, .mov (.t 8)⟩])
   .ret) .skip))
  (.seq (.ops [⟨some 9, none, .bsl0 9⟩, ⟨some 10, none, .mov (.t 0)⟩, ⟨some 11, none, .app 23 9 1 16 (.string ⟨#[]⟩) (.t 9) (.t 10)⟩, ⟨some 3, none, .mov (.t 11)⟩])
  (.seq (.seq (.ops [⟨some 4, none, .mov (.v (.int .i64 0))⟩])
  (.block 0 (.loop (.seq (.seq (.ops [⟨some 12, none, .mov (.t 4)⟩, ⟨some 13, none, .mov (.t 0)⟩, ⟨some 14, none, .lenS (.t 13)⟩, ⟨some 15, none, .bin .lss (.t 12) (.t 14)⟩])
    (.cond (.t 15) .skip (.exit 0)))
    (.seq (.block 1 (.seq (.quiet 21 [⟨some 18, none, .mov (.t 0)⟩, ⟨some 19, none, .mov (.t 4)⟩, ⟨some 20, none, .ixS 1 (.t 18) (.t 19)⟩, ⟨some 21, none, .ld (.t 20)⟩, ⟨some 22, none, .call 14 [(.t 21)]⟩, ⟨some 23, none, .mov (.t 0)⟩, ⟨some 24, none, .mov (.t 4)⟩, ⟨some 25, none, .ixS 1 (.t 23) (.t 24)⟩, ⟨some 26, none, .ld (.t 25)⟩, ⟨some 27, none, .call 15 [(.t 26)]⟩, ⟨some 28, none, .binB .neq (.t 22) (.t 27)⟩, ⟨some 29, none, .mov (.t 28)⟩, ⟨some 30, (some (29, false)), .mov (.t 0)⟩, ⟨some 31, (some (29, false)), .mov (.t 4)⟩, ⟨some 32, (some (29, false)), .ixS 1 (.t 30) (.t 31)⟩, ⟨some 33, (some (29, false)), .ld (.t 32)⟩, ⟨some 34, (some (29, false)), .call 16 [(.t 33)]⟩, ⟨some 35, (some (29, false)), .mov (.t 0)⟩, ⟨some 36, (some (29, false)), .mov (.t 4)⟩, ⟨some 37, (some (29, false)), .ixS 1 (.t 35) (.t 36)⟩, ⟨some 38, (some (29, false)), .ld (.t 37)⟩, ⟨some 39, (some (29, false)), .call 17 [(.t 38)]⟩, ⟨some 40, (some (29, false)), .binB .neq (.t 34) (.t 39)⟩, ⟨some 41, none, .pick (.t 29) (.v (.bool true)) (.t 40)⟩])
     (.cond (.t 41) (.seq (.ops [⟨some 2, none, .mov (.v (.bool false))⟩])
      .ret) .skip)))
    (.ops [⟨some 16, none, .mov (.t 4)⟩, ⟨some 17, none, .bin .add (.t 16) (.v (.int .i64 1))⟩, ⟨some 4, none, .mov (.t 17)⟩]))))))
  (.seq (.ops [⟨some 42, none, .mov (.t 3)⟩, ⟨some 43, none, .call 18 [(.t 42)]⟩, ⟨some 44, none, .mov (.t 0)⟩, ⟨some 45, none, .call 19 [(.t 44)]⟩, ⟨some 46, none, .bin .eql (.t 43) (.t 45)⟩, ⟨some 47, none, .mov (.t 46)⟩, ⟨some 48, (some (47, true)), .mov (.t 3)⟩, ⟨some 49, (some (47, true)), .call 20 [(.t 48)]⟩, ⟨some 50, (some (47, true)), .mov (.t 0)⟩, ⟨some 51, (some (47, true)), .call 21 [(.t 50)]⟩, ⟨some 52, (some (47, true)), .bin .eql (.t 49) (.t 51)⟩, ⟨some 53, none, .pick (.t 47) (.t 52) (.v (.bool false))⟩, ⟨some 54, none, .mov (.t 53)⟩, ⟨some 55, (some (54, true)), .mov (.t 3)⟩, ⟨some 56, (some (54, true)), .mov (.t 0)⟩, ⟨some 57, (some (54, true)), .call 12 [(.t 55), (.t 56)]⟩, ⟨some 58, none, .pick (.t 54) (.t 57) (.v (.bool false))⟩, ⟨some 59, none, .mov (.t 58)⟩, ⟨some 60, (some (59, true)), .call 7 []⟩, ⟨some 61, none, .pick (.t 59) (.t 60) (.v (.bool false))⟩, ⟨some 2, none, .mov (.t 61)⟩])
  .ret)))))
theorem Try.known4 : Known Try.prog 4 Try.pc4 62 [2] := ⟨Try.f4, _, Try.func4, rfl, by kernel_rfl, rfl, rfl⟩

/-- redwax/redwaxlaw13.LinesKnown -/
def Try.pc5 : PC :=
  (.seq (.ops [⟨some 0, none, .mov (.v (.bool false))⟩])
  (.seq (.ops [⟨some 1, none, .mov (.v (.string ⟨#[]⟩))⟩, ⟨some 2, none, .mov (.v (.string ⟨#[]⟩))⟩])
  (.seq (.seq (.ops [⟨some 3, none, .mov (.v (.int .i64 0))⟩])
  (.block 0 (.loop (.seq (.seq (.ops [⟨some 9, none, .mov (.t 3)⟩, ⟨some 10, none, .bin .lss (.t 9) (.v (.int .i64 81))⟩])
    (.cond (.t 10) .skip (.exit 0)))
    (.seq (.block 1 (.ops [⟨some 13, none, .mov (.t 1)⟩, ⟨some 14, none, .bin .add (.t 13) (.v (.string ⟨#[32]⟩))⟩, ⟨some 1, none, .mov (.t 14)⟩]))
    (.ops [⟨some 11, none, .mov (.t 3)⟩, ⟨some 12, none, .bin .add (.t 11) (.v (.int .i64 1))⟩, ⟨some 3, none, .mov (.t 12)⟩]))))))
  (.seq (.seq (.ops [⟨some 4, none, .mov (.v (.int .i64 0))⟩])
  (.block 2 (.loop (.seq (.seq (.ops [⟨some 15, none, .mov (.t 4)⟩, ⟨some 16, none, .bin .lss (.t 15) (.v (.int .i64 257))⟩])
    (.cond (.t 16) .skip (.exit 2)))
    (.seq (.block 3 (.ops [⟨some 19, none, .mov (.t 2)⟩, ⟨some 20, none, .bin .add (.t 19) (.v (.string ⟨#[120, 10]⟩))⟩, ⟨some 2, none, .mov (.t 20)⟩]))
    (.ops [⟨some 17, none, .mov (.t 4)⟩, ⟨some 18, none, .bin .add (.t 17) (.v (.int .i64 1))⟩, ⟨some 4, none, .mov (.t 18)⟩]))))))
  (.seq (.ops [⟨some 22, none, .call 10 [(.v (.string ⟨#[62, 62, 62, 62, 62, 62, 62, 10, 97, 10, 60, 60, 60, 60, 60, 60, 60, 10]⟩))]⟩, ⟨some 21, none, .mov (.t 22)⟩, ⟨some 23, none, .ext 0 (.t 21)⟩, ⟨some 24, none, .ext 1 (.t 21)⟩, ⟨some 5, none, .mov (.t 23)⟩, ⟨some 6, none, .mov (.t 24)⟩])
  (.seq (.ops [⟨some 26, none, .mov (.t 2)⟩, ⟨some 27, none, .call 10 [(.t 26)]⟩, ⟨some 25, none, .mov (.t 27)⟩, ⟨some 28, none, .ext 0 (.t 25)⟩, ⟨some 29, none, .ext 1 (.t 25)⟩, ⟨some 7, none, .mov (.t 28)⟩, ⟨some 8, none, .mov (.t 29)⟩])
  (.seq (.ops [⟨some 30, none, .call 7 []⟩, ⟨some 31, none, .mov (.t 30)⟩, ⟨some 32, (some (31, true)), .call 22 [(.v (.string ⟨#[97, 10, 98]⟩)), (.v (.int .i64 4))]⟩, ⟨some 33, none, .pick (.t 31) (.t 32) (.v (.bool false))⟩, ⟨some 34, none, .mov (.t 33)⟩, ⟨some 35, (some (34, true)), .call 22 [(.v (.string ⟨#[61, 61, 61, 61, 61, 61, 61, 10]⟩)), (.v (.int .i64 4))]⟩, ⟨some 36, none, .pick (.t 34) (.t 35) (.v (.bool false))⟩, ⟨some 37, none, .mov (.t 36)⟩, ⟨some 38, (some (37, true)), .bsl 9 [.string ⟨#[]⟩] 1 [(0, 1, (.v (.string ⟨#[61, 61, 61, 61, 61, 61, 61, 61]⟩)))]⟩, ⟨some 39, (some (37, true)), .call 23 [(.v (.string ⟨#[61, 61, 61, 61, 61, 61, 61, 61, 10]⟩)), (.t 38)]⟩, ⟨some 40, none, .pick (.t 37) (.t 39) (.v (.bool false))⟩, ⟨some 41, none, .mov (.t 40)⟩, ⟨some 42, (some (41, true)), .mov (.t 6)⟩, ⟨some 43, (some (41, true)), .bin .eql (.t 42) (.v (.int .i64 0))⟩, ⟨some 44, none, .pick (.t 41) (.t 43) (.v (.bool false))⟩, ⟨some 45, none, .mov (.t 44)⟩, ⟨some 46, (some (45, true)), .mov (.t 5)⟩, ⟨some 47, (some (45, true)), .lenS (.t 46)⟩, ⟨some 48, (some (45, true)), .bin .eql (.t 47) (.v (.int .i64 3))⟩, ⟨some 49, none, .pick (.t 45) (.t 48) (.v (.bool false))⟩, ⟨some 50, none, .mov (.t 49)⟩, ⟨some 51, (some (50, true)), .mov (.t 8)⟩, ⟨some 52, (some (50, true)), .bin .eql (.t 51) (.v (.int .i64 0))⟩, ⟨some 53, none, .pick (.t 50) (.t 52) (.v (.bool false))⟩, ⟨some 54, none, .mov (.t 53)⟩, ⟨some 55, (some (54, true)), .mov (.t 7)⟩, ⟨some 56, (some (54, true)), .lenS (.t 55)⟩, ⟨some 57, (some (54, true)), .bin .eql (.t 56) (.v (.int .i64 257))⟩, ⟨some 58, none, .pick (.t 54) (.t 57) (.v (.bool false))⟩, ⟨some 59, none, .mov (.t 58)⟩, ⟨some 60, (some (59, true)), .mov (.t 2)⟩, ⟨some 61, (some (59, true)), .call 22 [(.t 60), (.v (.int .i64 3))]⟩, ⟨some 62, none, .pick (.t 59) (.t 61) (.v (.bool false))⟩, ⟨some 63, none, .mov (.t 62)⟩, ⟨some 64, (some (63, true)), .mov (.t 1)⟩, ⟨some 65, (some (63, true)), .call 14 [(.t 64)]⟩, ⟨some 66, (some (63, true)), .not (.t 65)⟩, ⟨some 67, none, .pick (.t 63) (.t 66) (.v (.bool false))⟩, ⟨some 68, none, .mov (.t 67)⟩, ⟨some 69, (some (68, true)), .mov (.t 1)⟩, ⟨some 70, (some (68, true)), .slStr (.t 69) (some (.v (.int .i64 1))) none⟩, ⟨some 71, (some (68, true)), .call 14 [(.t 70)]⟩, ⟨some 72, none, .pick (.t 68) (.t 71) (.v (.bool false))⟩, ⟨some 73, none, .mov (.t 72)⟩, ⟨some 74, (some (73, true)), .call 14 [(.v (.string ⟨#[9]⟩))]⟩, ⟨some 75, none, .pick (.t 73) (.t 74) (.v (.bool false))⟩, ⟨some 76, none, .mov (.t 75)⟩, ⟨some 77, (some (76, true)), .call 14 [(.v (.string ⟨#[195, 169]⟩))]⟩, ⟨some 78, (some (76, true)), .not (.t 77)⟩, ⟨some 79, none, .pick (.t 76) (.t 78) (.v (.bool false))⟩, ⟨some 80, none, .mov (.t 79)⟩, ⟨some 81, (some (80, true)), .call 16 [(.v (.string ⟨#[60, 60, 60, 60, 60, 60, 60]⟩))]⟩, ⟨some 82, none, .pick (.t 80) (.t 81) (.v (.bool false))⟩, ⟨some 83, none, .mov (.t 82)⟩, ⟨some 84, (some (83, true)), .call 16 [(.v (.string ⟨#[60, 60, 60, 60, 60, 60]⟩))]⟩, ⟨some 85, (some (83, true)), .not (.t 84)⟩, ⟨some 86, none, .pick (.t 83) (.t 85) (.v (.bool false))⟩, ⟨some 87, none, .mov (.t 86)⟩, ⟨some 88, (some (87, true)), .bsl 9 [.string ⟨#[]⟩, .string ⟨#[]⟩] 2 [(0, 1, (.v (.string ⟨#[97]⟩))), (1, 1, (.v (.string ⟨#[]⟩)))]⟩, ⟨some 89, (some (87, true)), .call 20 [(.t 88)]⟩, ⟨some 90, (some (87, true)), .bin .eql (.t 89) (.v (.string ⟨#[97, 10, 10]⟩))⟩, ⟨some 91, none, .pick (.t 87) (.t 90) (.v (.bool false))⟩, ⟨some 0, none, .mov (.t 91)⟩])
  .ret)))))))
theorem Try.known5 : Known Try.prog 5 Try.pc5 92 [0] := ⟨Try.f5, _, Try.func5, rfl, by kernel_rfl, rfl, rfl⟩

/-- redwax/redwaxlaw13.LinesBack -/
def Try.pc6 : PC :=
  (.seq (.ops [⟨some 4, none, .mov (.v (.bool false))⟩])
  (.seq (.seq (.ops [⟨some 14, none, .mov (.t 0)⟩, ⟨some 15, none, .lenStr (.t 14)⟩, ⟨some 16, none, .bin .gtr (.t 15) (.v (.int .i64 20000))⟩, ⟨some 17, none, .mov (.t 16)⟩, ⟨some 18, (some (17, false)), .mov (.t 1)⟩, ⟨some 19, (some (17, false)), .call 13 [(.t 18)]⟩, ⟨some 20, (some (17, false)), .bin .gtr (.t 19) (.v (.int .i64 20000))⟩, ⟨some 21, none, .pick (.t 17) (.v (.bool true)) (.t 20)⟩])
  (.cond (.t 21) (.seq (.ops [⟨some 22, none, .call 7 []⟩, ⟨some 4, none, .mov (.t 22)⟩])
   .ret) .skip))
  (.seq (.ops [⟨some 24, none, .mov (.t 0)⟩, ⟨some 25, none, .call 8 [(.t 24)]⟩, ⟨some 23, none, .mov (.t 25)⟩, ⟨some 26, none, .ext 0 (.t 23)⟩, ⟨some 27, none, .ext 1 (.t 23)⟩, ⟨some 5, none, .mov (.t 26)⟩, ⟨some 6, none, .mov (.t 27)⟩])
  (.seq (.seq (.ops [⟨some 28, none, .mov (.t 6)⟩, ⟨some 29, none, .bin .eql (.t 28) (.v (.int .i64 0))⟩, ⟨some 30, none, .mov (.t 29)⟩, ⟨some 31, (some (30, true)), .mov (.t 5)⟩, ⟨some 32, (some (30, true)), .call 20 [(.t 31)]⟩, ⟨some 33, (some (30, true)), .mov (.t 0)⟩, ⟨some 34, (some (30, true)), .bin .neq (.t 32) (.t 33)⟩, ⟨some 35, none, .pick (.t 30) (.t 34) (.v (.bool false))⟩])
  (.cond (.t 35) (.seq (.ops [⟨some 4, none, .mov (.v (.bool false))⟩])
   .ret) .skip))
  (.seq (.ops [⟨some 37, none, .mov (.t 0)⟩, ⟨some 38, none, .call 10 [(.t 37)]⟩, ⟨some 36, none, .mov (.t 38)⟩, ⟨some 39, none, .ext 0 (.t 36)⟩, ⟨some 40, none, .ext 1 (.t 36)⟩, ⟨some 7, none, .mov (.t 39)⟩, ⟨some 8, none, .mov (.t 40)⟩])
  (.seq (.ops [⟨some 9, none, .mov (.v (.int .i64 0))⟩])
  (.seq (.seq (.ops [⟨some 10, none, .mov (.v (.int .i64 0))⟩])
  (.block 0 (.loop (.seq (.seq (.ops [⟨some 41, none, .mov (.t 10)⟩, ⟨some 42, none, .mov (.t 0)⟩, ⟨some 43, none, .lenStr (.t 42)⟩, ⟨some 44, none, .bin .lss (.t 41) (.t 43)⟩])
    (.cond (.t 44) .skip (.exit 0)))
    (.seq (.block 1 (.seq (.ops [⟨some 47, none, .mov (.t 0)⟩, ⟨some 48, none, .mov (.t 10)⟩, ⟨some 49, none, .ixStr (.t 47) (.t 48)⟩, ⟨some 50, none, .bin .eql (.t 49) (.v (.int .u8 10))⟩])
     (.cond (.t 50) (.ops [⟨some 51, none, .mov (.t 9)⟩, ⟨some 52, none, .bin .add (.t 51) (.v (.int .i64 1))⟩, ⟨some 9, none, .mov (.t 52)⟩]) .skip)))
    (.ops [⟨some 45, none, .mov (.t 10)⟩, ⟨some 46, none, .bin .add (.t 45) (.v (.int .i64 1))⟩, ⟨some 10, none, .mov (.t 46)⟩]))))))
  (.seq (.seq (.ops [⟨some 53, none, .mov (.t 8)⟩, ⟨some 54, none, .bin .eql (.t 53) (.v (.int .i64 0))⟩, ⟨some 55, none, .mov (.t 54)⟩, ⟨some 56, (some (55, true)), .mov (.t 7)⟩, ⟨some 57, (some (55, true)), .lenS (.t 56)⟩, ⟨some 58, (some (55, true)), .mov (.t 9)⟩, ⟨some 59, (some (55, true)), .bin .neq (.t 57) (.t 58)⟩, ⟨some 60, (some (55, true)), .mov (.t 59)⟩, ⟨some 61, (some (60, false)), .mov (.t 7)⟩, ⟨some 62, (some (60, false)), .call 20 [(.t 61)]⟩, ⟨some 63, (some (60, false)), .mov (.t 0)⟩, ⟨some 64, (some (60, false)), .bin .neq (.t 62) (.t 63)⟩, ⟨some 65, (some (55, true)), .pick (.t 60) (.v (.bool true)) (.t 64)⟩, ⟨some 66, none, .pick (.t 55) (.t 65) (.v (.bool false))⟩, ⟨some 67, none, .mov (.t 66)⟩, ⟨some 68, (some (67, false)), .mov (.t 6)⟩, ⟨some 69, (some (67, false)), .bin .eql (.t 68) (.v (.int .i64 0))⟩, ⟨some 70, (some (67, false)), .mov (.t 69)⟩, ⟨some 71, (some (70, true)), .mov (.t 8)⟩, ⟨some 72, (some (70, true)), .bin .neq (.t 71) (.v (.int .i64 0))⟩, ⟨some 73, (some (70, true)), .mov (.t 72)⟩, ⟨some 74, (some (73, false)), .mov (.t 5)⟩, ⟨some 75, (some (73, false)), .lenS (.t 74)⟩, ⟨some 76, (some (73, false)), .mov (.t 9)⟩, ⟨some 77, (some (73, false)), .bin .neq (.t 75) (.t 76)⟩, ⟨some 78, (some (70, true)), .pick (.t 73) (.v (.bool true)) (.t 77)⟩, ⟨some 79, (some (67, false)), .pick (.t 70) (.t 78) (.v (.bool false))⟩, ⟨some 80, none, .pick (.t 67) (.v (.bool true)) (.t 79)⟩])
  (.cond (.t 80) (.seq (.ops [⟨some 4, none, .mov (.v (.bool false))⟩])
   .ret) .skip))
  (.seq (.ops [⟨some 82, none, .mov (.t 1)⟩, ⟨some 83, none, .call 20 [(.t 82)]⟩, ⟨some 84, none, .call 8 [(.t 83)]⟩, ⟨some 81, none, .mov (.t 84)⟩, ⟨some 85, none, .ext 0 (.t 81)⟩, ⟨some 86, none, .ext 1 (.t 81)⟩, ⟨some 11, none, .mov (.t 85)⟩, ⟨some 12, none, .mov (.t 86)⟩])
  (.seq (.seq (.ops [⟨some 87, none, .mov (.t 1)⟩, ⟨some 88, none, .call 18 [(.t 87)]⟩, ⟨some 89, none, .bin .neq (.t 88) (.v (.int .i64 0))⟩])
  (.cond (.t 89) (.seq (.ops [⟨some 90, none, .call 7 []⟩, ⟨some 4, none, .mov (.t 90)⟩])
   .ret) .skip))
  (.seq (.seq (.ops [⟨some 91, none, .mov (.t 12)⟩, ⟨some 92, none, .bin .neq (.t 91) (.v (.int .i64 0))⟩, ⟨some 93, none, .mov (.t 92)⟩, ⟨some 94, (some (93, false)), .mov (.t 11)⟩, ⟨some 95, (some (93, false)), .lenS (.t 94)⟩, ⟨some 96, (some (93, false)), .mov (.t 1)⟩, ⟨some 97, (some (93, false)), .lenS (.t 96)⟩, ⟨some 98, (some (93, false)), .bin .neq (.t 95) (.t 97)⟩, ⟨some 99, none, .pick (.t 93) (.v (.bool true)) (.t 98)⟩])
  (.cond (.t 99) (.seq (.ops [⟨some 4, none, .mov (.v (.bool false))⟩])
   .ret) .skip))
  (.seq (.seq (.ops [⟨some 13, none, .mov (.v (.int .i64 0))⟩])
  (.block 2 (.loop (.seq (.seq (.ops [⟨some 100, none, .mov (.t 13)⟩, ⟨some 101, none, .mov (.t 1)⟩, ⟨some 102, none, .lenS (.t 101)⟩, ⟨some 103, none, .bin .lss (.t 100) (.t 102)⟩])
    (.cond (.t 103) .skip (.exit 2)))
    (.seq (.block 3 (.seq (.quiet 8 [⟨some 106, none, .mov (.t 11)⟩, ⟨some 107, none, .mov (.t 13)⟩, ⟨some 108, none, .ixS 1 (.t 106) (.t 107)⟩, ⟨some 109, none, .ld (.t 108)⟩, ⟨some 110, none, .mov (.t 1)⟩, ⟨some 111, none, .mov (.t 13)⟩, ⟨some 112, none, .ixS 1 (.t 110) (.t 111)⟩, ⟨some 113, none, .ld (.t 112)⟩, ⟨some 114, none, .bin .neq (.t 109) (.t 113)⟩])
     (.cond (.t 114) (.seq (.ops [⟨some 4, none, .mov (.v (.bool false))⟩])
      .ret) .skip)))
    (.ops [⟨some 104, none, .mov (.t 13)⟩, ⟨some 105, none, .bin .add (.t 104) (.v (.int .i64 1))⟩, ⟨some 13, none, .mov (.t 105)⟩]))))))
  (.seq (.ops [⟨some 115, none, .call 7 []⟩, ⟨some 4, none, .mov (.t 115)⟩])
  .ret)))))))))))))
theorem Try.known6 : Known Try.prog 6 Try.pc6 116 [4] := ⟨Try.f6, _, Try.func6, rfl, by kernel_rfl, rfl, rfl⟩

/-- redwax/redwaxlaw13.awake -/
def Try.pc7 : PC :=
  (.seq (.ops [⟨some 0, none, .mov (.v (.bool false))⟩])
  (.seq (.ops [⟨some 1, none, .bsl 9 [.string ⟨#[]⟩, .string ⟨#[]⟩] 2 [(0, 1, (.v (.string ⟨#[97]⟩))), (1, 1, (.v (.string ⟨#[98]⟩)))]⟩, ⟨some 2, none, .call 23 [(.v (.string ⟨#[97, 10, 98, 10]⟩)), (.t 1)]⟩, ⟨some 3, none, .mov (.t 2)⟩, ⟨some 4, (some (3, true)), .call 23 [(.v (.string ⟨#[]⟩)), (.v (.slice none 0 0))]⟩, ⟨some 5, none, .pick (.t 3) (.t 4) (.v (.bool false))⟩, ⟨some 6, none, .mov (.t 5)⟩, ⟨some 7, (some (6, true)), .bsl 9 [.string ⟨#[]⟩] 1 [(0, 1, (.v (.string ⟨#[]⟩)))]⟩, ⟨some 8, (some (6, true)), .call 23 [(.v (.string ⟨#[10]⟩)), (.t 7)]⟩, ⟨some 9, none, .pick (.t 6) (.t 8) (.v (.bool false))⟩, ⟨some 10, none, .mov (.t 9)⟩, ⟨some 11, (some (10, true)), .call 22 [(.v (.string ⟨#[97]⟩)), (.v (.int .i64 4))]⟩, ⟨some 12, none, .pick (.t 10) (.t 11) (.v (.bool false))⟩, ⟨some 0, none, .mov (.t 12)⟩])
  .ret))
theorem Try.known7 : Known Try.prog 7 Try.pc7 13 [0] := ⟨Try.f7, _, Try.func7, rfl, by kernel_rfl, rfl, rfl⟩

/-- redwax/lines.Split -/
def Try.pc8 : PC :=
  (.seq (.ops [⟨some 2, none, .mov (.v (.slice none 0 0))⟩, ⟨some 3, none, .mov (.v (.int .i64 0))⟩])
  (.seq (.ops [⟨some 8, none, .mov (.t 0)⟩, ⟨some 9, none, .call 24 [(.t 8)]⟩, ⟨some 7, none, .mov (.t 9)⟩, ⟨some 10, none, .ext 0 (.t 7)⟩, ⟨some 11, none, .ext 1 (.t 7)⟩, ⟨some 4, none, .mov (.t 10)⟩, ⟨some 5, none, .mov (.t 11)⟩])
  (.seq (.seq (.ops [⟨some 12, none, .mov (.t 5)⟩, ⟨some 13, none, .not (.t 12)⟩])
  (.cond (.t 13) (.seq (.ops [⟨some 2, none, .mov (.v (.slice none 0 0))⟩, ⟨some 3, none, .mov (.v (.int .i64 4))⟩])
   .ret) .skip))
  (.seq (.seq (.ops [⟨some 14, none, .mov (.t 4)⟩, ⟨some 15, none, .call 18 [(.t 14)]⟩, ⟨some 6, none, .mov (.t 15)⟩])
  (.seq (.ops [⟨some 16, none, .mov (.t 6)⟩, ⟨some 17, none, .bin .neq (.t 16) (.v (.int .i64 0))⟩])
  (.cond (.t 17) (.seq (.ops [⟨some 18, none, .mov (.t 6)⟩, ⟨some 2, none, .mov (.v (.slice none 0 0))⟩, ⟨some 3, none, .mov (.t 18)⟩])
   .ret) .skip)))
  (.seq (.ops [⟨some 19, none, .mov (.t 4)⟩, ⟨some 2, none, .mov (.t 19)⟩, ⟨some 3, none, .mov (.v (.int .i64 0))⟩])
  .ret)))))
theorem Try.known8 : Known Try.prog 8 Try.pc8 20 [2, 3] := ⟨Try.f8, _, Try.func8, rfl, by kernel_rfl, rfl, rfl⟩

/-- redwax/redwaxref13.Split -/
def Try.pc9 : PC :=
  (.seq (.ops [⟨some 2, none, .mov (.v (.slice none 0 0))⟩, ⟨some 3, none, .mov (.v (.int .i64 0))⟩])
  (.seq (.ops [⟨some 8, none, .mov (.t 0)⟩, ⟨some 9, none, .call 25 [(.t 8)]⟩, ⟨some 7, none, .mov (.t 9)⟩, ⟨some 10, none, .ext 0 (.t 7)⟩, ⟨some 11, none, .ext 1 (.t 7)⟩, ⟨some 4, none, .mov (.t 10)⟩, ⟨some 5, none, .mov (.t 11)⟩])
  (.seq (.seq (.ops [⟨some 12, none, .mov (.t 5)⟩, ⟨some 13, none, .not (.t 12)⟩])
  (.cond (.t 13) (.seq (.ops [⟨some 2, none, .mov (.v (.slice none 0 0))⟩, ⟨some 3, none, .mov (.v (.int .i64 4))⟩])
   .ret) .skip))
  (.seq (.ops [⟨some 14, none, .mov (.t 4)⟩, ⟨some 15, none, .call 19 [(.t 14)]⟩, ⟨some 6, none, .mov (.t 15)⟩])
  (.seq (.seq (.ops [⟨some 16, none, .mov (.t 6)⟩, ⟨some 17, none, .bin .neq (.t 16) (.v (.int .i64 0))⟩])
  (.cond (.t 17) (.seq (.ops [⟨some 18, none, .mov (.t 6)⟩, ⟨some 2, none, .mov (.v (.slice none 0 0))⟩, ⟨some 3, none, .mov (.t 18)⟩])
   .ret) .skip))
  (.seq (.ops [⟨some 19, none, .mov (.t 4)⟩, ⟨some 2, none, .mov (.t 19)⟩, ⟨some 3, none, .mov (.v (.int .i64 0))⟩])
  .ret))))))
theorem Try.known9 : Known Try.prog 9 Try.pc9 20 [2, 3] := ⟨Try.f9, _, Try.func9, rfl, by kernel_rfl, rfl, rfl⟩

/-- redwax/lines.Told -/
def Try.pc10 : PC :=
  (.seq (.ops [⟨some 2, none, .mov (.v (.slice none 0 0))⟩, ⟨some 3, none, .mov (.v (.int .i64 0))⟩])
  (.seq (.ops [⟨some 7, none, .mov (.t 0)⟩, ⟨some 8, none, .call 24 [(.t 7)]⟩, ⟨some 6, none, .mov (.t 8)⟩, ⟨some 9, none, .ext 0 (.t 6)⟩, ⟨some 10, none, .ext 1 (.t 6)⟩, ⟨some 4, none, .mov (.t 9)⟩, ⟨some 5, none, .mov (.t 10)⟩])
  (.seq (.seq (.ops [⟨some 11, none, .mov (.t 5)⟩, ⟨some 12, none, .not (.t 11)⟩, ⟨some 13, none, .mov (.t 12)⟩, ⟨some 14, (some (13, false)), .mov (.t 4)⟩, ⟨some 15, (some (13, false)), .call 26 [(.t 14), (.v (.func (.func 27) #[] #[]))]⟩, ⟨some 16, none, .pick (.t 13) (.v (.bool true)) (.t 15)⟩])
  (.cond (.t 16) (.seq (.ops [⟨some 2, none, .mov (.v (.slice none 0 0))⟩, ⟨some 3, none, .mov (.v (.int .i64 4))⟩])
   .ret) .skip))
  (.seq (.ops [⟨some 17, none, .mov (.t 4)⟩, ⟨some 2, none, .mov (.t 17)⟩, ⟨some 3, none, .mov (.v (.int .i64 0))⟩])
  .ret))))
theorem Try.known10 : Known Try.prog 10 Try.pc10 18 [2, 3] := ⟨Try.f10, _, Try.func10, rfl, by kernel_rfl, rfl, rfl⟩

/-- redwax/redwaxref13.Told -/
def Try.pc11 : PC :=
  (.seq (.ops [⟨some 2, none, .mov (.v (.slice none 0 0))⟩, ⟨some 3, none, .mov (.v (.int .i64 0))⟩])
  (.seq (.ops [⟨some 8, none, .mov (.t 0)⟩, ⟨some 9, none, .call 25 [(.t 8)]⟩, ⟨some 7, none, .mov (.t 9)⟩, ⟨some 10, none, .ext 0 (.t 7)⟩, ⟨some 11, none, .ext 1 (.t 7)⟩, ⟨some 4, none, .mov (.t 10)⟩, ⟨some 5, none, .mov (.t 11)⟩])
  (.seq (.seq (.ops [⟨some 6, none, .mov (.v (.int .i64 0))⟩])
  (.block 0 (.loop (.seq (.seq (.ops [⟨some 12, none, .mov (.t 6)⟩, ⟨some 13, none, .mov (.t 4)⟩, ⟨some 14, none, .lenS (.t 13)⟩, ⟨some 15, none, .bin .lss (.t 12) (.t 14)⟩])
    (.cond (.t 15) .skip (.exit 0)))
    (.seq (.block 1 (.ops [⟨some 18, none, .mov (.t 5)⟩, ⟨some 19, none, .mov (.t 18)⟩, ⟨some 20, (some (19, true)), .mov (.t 4)⟩, ⟨some 21, (some (19, true)), .mov (.t 6)⟩, ⟨some 22, (some (19, true)), .ixS 1 (.t 20) (.t 21)⟩, ⟨some 23, (some (19, true)), .ld (.t 22)⟩, ⟨some 24, (some (19, true)), .call 29 [(.t 23)]⟩, ⟨some 25, none, .pick (.t 19) (.t 24) (.v (.bool false))⟩, ⟨some 5, none, .mov (.t 25)⟩]))
    (.ops [⟨some 16, none, .mov (.t 6)⟩, ⟨some 17, none, .bin .add (.t 16) (.v (.int .i64 1))⟩, ⟨some 6, none, .mov (.t 17)⟩]))))))
  (.seq (.seq (.ops [⟨some 26, none, .mov (.t 5)⟩, ⟨some 27, none, .not (.t 26)⟩])
  (.cond (.t 27) (.seq (.ops [⟨some 2, none, .mov (.v (.slice none 0 0))⟩, ⟨some 3, none, .mov (.v (.int .i64 4))⟩])
   .ret) .skip))
  (.seq (.ops [⟨some 28, none, .mov (.t 4)⟩, ⟨some 2, none, .mov (.t 28)⟩, ⟨some 3, none, .mov (.v (.int .i64 0))⟩])
  .ret)))))
theorem Try.known11 : Known Try.prog 11 Try.pc11 29 [2, 3] := ⟨Try.f11, _, Try.func11, rfl, by kernel_rfl, rfl, rfl⟩

/-- redwax/redwaxref13.Same -/
def Try.pc12 : PC :=
  (.seq (.ops [⟨some 4, none, .mov (.v (.bool false))⟩])
  (.seq (.seq (.ops [⟨some 6, none, .mov (.t 0)⟩, ⟨some 7, none, .lenS (.t 6)⟩, ⟨some 8, none, .mov (.t 1)⟩, ⟨some 9, none, .lenS (.t 8)⟩, ⟨some 10, none, .bin .neq (.t 7) (.t 9)⟩])
  (.cond (.t 10) (.seq (.ops [⟨some 4, none, .mov (.v (.bool false))⟩])
   .ret) .skip))
  (.seq (.seq (.ops [⟨some 5, none, .mov (.v (.int .i64 0))⟩])
  (.block 0 (.loop (.seq (.seq (.ops [⟨some 11, none, .mov (.t 5)⟩, ⟨some 12, none, .mov (.t 0)⟩, ⟨some 13, none, .lenS (.t 12)⟩, ⟨some 14, none, .bin .lss (.t 11) (.t 13)⟩])
    (.cond (.t 14) .skip (.exit 0)))
    (.seq (.block 1 (.seq (.quiet 8 [⟨some 17, none, .mov (.t 0)⟩, ⟨some 18, none, .mov (.t 5)⟩, ⟨some 19, none, .ixS 1 (.t 17) (.t 18)⟩, ⟨some 20, none, .ld (.t 19)⟩, ⟨some 21, none, .mov (.t 1)⟩, ⟨some 22, none, .mov (.t 5)⟩, ⟨some 23, none, .ixS 1 (.t 21) (.t 22)⟩, ⟨some 24, none, .ld (.t 23)⟩, ⟨some 25, none, .bin .neq (.t 20) (.t 24)⟩])
     (.cond (.t 25) (.seq (.ops [⟨some 4, none, .mov (.v (.bool false))⟩])
      .ret) .skip)))
    (.ops [⟨some 15, none, .mov (.t 5)⟩, ⟨some 16, none, .bin .add (.t 15) (.v (.int .i64 1))⟩, ⟨some 5, none, .mov (.t 16)⟩]))))))
  (.seq (.ops [⟨some 4, none, .mov (.v (.bool true))⟩])
  .ret))))
theorem Try.known12 : Known Try.prog 12 Try.pc12 26 [4] := ⟨Try.f12, _, Try.func12, rfl, by kernel_rfl, rfl, rfl⟩

/-- redwax/redwaxlaw13.bytes -/
def Try.pc13 : PC :=
  (.seq (.ops [⟨some 2, none, .mov (.v (.int .i64 0))⟩])
  (.seq (.ops [⟨some 5, none, .mov (.t 0)⟩, ⟨some 6, none, .lenS (.t 5)⟩, ⟨some 3, none, .mov (.t 6)⟩])
  (.seq (.seq (.ops [⟨some 4, none, .mov (.v (.int .i64 0))⟩])
  (.block 0 (.loop (.seq (.seq (.ops [⟨some 7, none, .mov (.t 4)⟩, ⟨some 8, none, .mov (.t 0)⟩, ⟨some 9, none, .lenS (.t 8)⟩, ⟨some 10, none, .bin .lss (.t 7) (.t 9)⟩, ⟨some 11, none, .mov (.t 10)⟩, ⟨some 12, (some (11, true)), .mov (.t 3)⟩, ⟨some 13, (some (11, true)), .bin .leq (.t 12) (.v (.int .i64 20000))⟩, ⟨some 14, none, .pick (.t 11) (.t 13) (.v (.bool false))⟩])
    (.cond (.t 14) .skip (.exit 0)))
    (.seq (.block 1 (.ops [⟨some 17, none, .mov (.t 3)⟩, ⟨some 18, none, .mov (.t 0)⟩, ⟨some 19, none, .mov (.t 4)⟩, ⟨some 20, none, .ixS 1 (.t 18) (.t 19)⟩, ⟨some 21, none, .ld (.t 20)⟩, ⟨some 22, none, .lenStr (.t 21)⟩, ⟨some 23, none, .bin .add (.t 17) (.t 22)⟩, ⟨some 3, none, .mov (.t 23)⟩]))
    (.ops [⟨some 15, none, .mov (.t 4)⟩, ⟨some 16, none, .bin .add (.t 15) (.v (.int .i64 1))⟩, ⟨some 4, none, .mov (.t 16)⟩]))))))
  (.seq (.ops [⟨some 24, none, .mov (.t 3)⟩, ⟨some 2, none, .mov (.t 24)⟩])
  .ret))))
theorem Try.known13 : Known Try.prog 13 Try.pc13 25 [2] := ⟨Try.f13, _, Try.func13, rfl, by kernel_rfl, rfl, rfl⟩

/-- redwax/lines.Is -/
def Try.pc14 : PC :=
  (.seq (.ops [⟨some 2, none, .mov (.v (.bool false))⟩])
  (.seq (.ops [⟨some 3, none, .mov (.t 0)⟩, ⟨some 4, none, .call 28 [(.t 3)]⟩, ⟨some 5, none, .mov (.t 4)⟩, ⟨some 6, (some (5, true)), .mov (.t 0)⟩, ⟨some 7, (some (5, true)), .call 16 [(.t 6)]⟩, ⟨some 8, (some (5, true)), .not (.t 7)⟩, ⟨some 9, none, .pick (.t 5) (.t 8) (.v (.bool false))⟩, ⟨some 2, none, .mov (.t 9)⟩])
  .ret))
theorem Try.known14 : Known Try.prog 14 Try.pc14 10 [2] := ⟨Try.f14, _, Try.func14, rfl, by kernel_rfl, rfl, rfl⟩

/-- redwax/redwaxref13.Is -/
def Try.pc15 : PC :=
  (.seq (.ops [⟨some 2, none, .mov (.v (.bool false))⟩])
  (.seq (.ops [⟨some 3, none, .mov (.t 0)⟩, ⟨some 4, none, .call 29 [(.t 3)]⟩, ⟨some 5, none, .mov (.t 4)⟩, ⟨some 6, (some (5, true)), .mov (.t 0)⟩, ⟨some 7, (some (5, true)), .call 17 [(.t 6)]⟩, ⟨some 8, (some (5, true)), .not (.t 7)⟩, ⟨some 9, none, .pick (.t 5) (.t 8) (.v (.bool false))⟩, ⟨some 2, none, .mov (.t 9)⟩])
  .ret))
theorem Try.known15 : Known Try.prog 15 Try.pc15 10 [2] := ⟨Try.f15, _, Try.func15, rfl, by kernel_rfl, rfl, rfl⟩

/-- redwax/lines.Mark -/
def Try.pc16 : PC :=
  (.seq (.ops [⟨some 2, none, .mov (.v (.bool false))⟩])
  (.seq (.ops [⟨some 3, none, .mov (.t 0)⟩, ⟨some 4, none, .bin .eql (.t 3) (.v (.string ⟨#[62, 62, 62, 62, 62, 62, 62]⟩))⟩, ⟨some 5, none, .mov (.t 4)⟩, ⟨some 6, (some (5, false)), .mov (.t 0)⟩, ⟨some 7, (some (5, false)), .bin .eql (.t 6) (.v (.string ⟨#[61, 61, 61, 61, 61, 61, 61]⟩))⟩, ⟨some 8, none, .pick (.t 5) (.v (.bool true)) (.t 7)⟩, ⟨some 9, none, .mov (.t 8)⟩, ⟨some 10, (some (9, false)), .mov (.t 0)⟩, ⟨some 11, (some (9, false)), .bin .eql (.t 10) (.v (.string ⟨#[60, 60, 60, 60, 60, 60, 60]⟩))⟩, ⟨some 12, none, .pick (.t 9) (.v (.bool true)) (.t 11)⟩, ⟨some 2, none, .mov (.t 12)⟩])
  .ret))
theorem Try.known16 : Known Try.prog 16 Try.pc16 13 [2] := ⟨Try.f16, _, Try.func16, rfl, by kernel_rfl, rfl, rfl⟩

/-- redwax/redwaxref13.Mark -/
def Try.pc17 : PC :=
  (.seq (.ops [⟨some 2, none, .mov (.v (.bool false))⟩])
  (.seq (.seq (.ops [⟨some 4, none, .mov (.t 0)⟩, ⟨some 5, none, .lenStr (.t 4)⟩, ⟨some 6, none, .bin .neq (.t 5) (.v (.int .i64 7))⟩, ⟨some 7, none, .mov (.t 6)⟩, ⟨some 8, (some (7, false)), .mov (.t 0)⟩, ⟨some 9, (some (7, false)), .ixStr (.t 8) (.v (.int .i64 0))⟩, ⟨some 10, (some (7, false)), .bin .neq (.t 9) (.v (.int .u8 62))⟩, ⟨some 11, (some (7, false)), .mov (.t 10)⟩, ⟨some 12, (some (11, true)), .mov (.t 0)⟩, ⟨some 13, (some (11, true)), .ixStr (.t 12) (.v (.int .i64 0))⟩, ⟨some 14, (some (11, true)), .bin .neq (.t 13) (.v (.int .u8 61))⟩, ⟨some 15, (some (7, false)), .pick (.t 11) (.t 14) (.v (.bool false))⟩, ⟨some 16, (some (7, false)), .mov (.t 15)⟩, ⟨some 17, (some (16, true)), .mov (.t 0)⟩, ⟨some 18, (some (16, true)), .ixStr (.t 17) (.v (.int .i64 0))⟩, ⟨some 19, (some (16, true)), .bin .neq (.t 18) (.v (.int .u8 60))⟩, ⟨some 20, (some (7, false)), .pick (.t 16) (.t 19) (.v (.bool false))⟩, ⟨some 21, none, .pick (.t 7) (.v (.bool true)) (.t 20)⟩])
  (.cond (.t 21) (.seq (.ops [⟨some 2, none, .mov (.v (.bool false))⟩])
   .ret) .skip))
  (.seq (.seq (.ops [⟨some 3, none, .mov (.v (.int .i64 1))⟩])
  (.block 0 (.loop (.seq (.seq (.ops [⟨some 22, none, .mov (.t 3)⟩, ⟨some 23, none, .bin .lss (.t 22) (.v (.int .i64 7))⟩])
    (.cond (.t 23) .skip (.exit 0)))
    (.seq (.block 1 (.seq (.quiet 5 [⟨some 26, none, .mov (.t 0)⟩, ⟨some 27, none, .mov (.t 3)⟩, ⟨some 28, none, .ixStr (.t 26) (.t 27)⟩, ⟨some 29, none, .mov (.t 0)⟩, ⟨some 30, none, .ixStr (.t 29) (.v (.int .i64 0))⟩, ⟨some 31, none, .bin .neq (.t 28) (.t 30)⟩])
     (.cond (.t 31) (.seq (.ops [⟨some 2, none, .mov (.v (.bool false))⟩])
      .ret) .skip)))
    (.ops [⟨some 24, none, .mov (.t 3)⟩, ⟨some 25, none, .bin .add (.t 24) (.v (.int .i64 1))⟩, ⟨some 3, none, .mov (.t 25)⟩]))))))
  (.seq (.ops [⟨some 2, none, .mov (.v (.bool true))⟩])
  .ret))))
theorem Try.known17 : Known Try.prog 17 Try.pc17 32 [2] := ⟨Try.f17, _, Try.func17, rfl, by kernel_rfl, rfl, rfl⟩

/-- redwax/lines.Check -/
def Try.pc18 : PC :=
  (.seq (.ops [⟨some 2, none, .mov (.v (.int .i64 0))⟩])
  (.seq (.block 0 (.seq (.ops [⟨some 4, none, .mov (.t 0)⟩, ⟨some 5, none, .lenS (.t 4)⟩, ⟨some 6, none, .bin .gtr (.t 5) (.v (.int .i64 256))⟩, ⟨some 3, none, .mov (.t 6)⟩])
   (.cond (.t 3) (.seq (.ops [⟨some 2, none, .mov (.v (.int .i64 3))⟩])
    .ret) (.seq (.ops [⟨some 8, none, .mov (.t 0)⟩, ⟨some 9, none, .call 26 [(.t 8), (.v (.func (.func 30) #[] #[]))]⟩, ⟨some 7, none, .mov (.t 9)⟩])
    (.cond (.t 7) (.seq (.ops [⟨some 2, none, .mov (.v (.int .i64 4))⟩])
     .ret) .skip)))))
  (.seq (.ops [⟨some 2, none, .mov (.v (.int .i64 0))⟩])
  .ret)))
theorem Try.known18 : Known Try.prog 18 Try.pc18 10 [2] := ⟨Try.f18, _, Try.func18, rfl, by kernel_rfl, rfl, rfl⟩

/-- redwax/redwaxref13.Check -/
def Try.pc19 : PC :=
  (.seq (.ops [⟨some 2, none, .mov (.v (.int .i64 0))⟩])
  (.seq (.seq (.ops [⟨some 4, none, .mov (.t 0)⟩, ⟨some 5, none, .lenS (.t 4)⟩, ⟨some 6, none, .bin .gtr (.t 5) (.v (.int .i64 256))⟩])
  (.cond (.t 6) (.seq (.ops [⟨some 2, none, .mov (.v (.int .i64 3))⟩])
   .ret) .skip))
  (.seq (.seq (.ops [⟨some 3, none, .mov (.v (.int .i64 0))⟩])
  (.block 0 (.loop (.seq (.seq (.ops [⟨some 7, none, .mov (.t 3)⟩, ⟨some 8, none, .mov (.t 0)⟩, ⟨some 9, none, .lenS (.t 8)⟩, ⟨some 10, none, .bin .lss (.t 7) (.t 9)⟩])
    (.cond (.t 10) .skip (.exit 0)))
    (.seq (.block 1 (.seq (.ops [⟨some 13, none, .mov (.t 0)⟩, ⟨some 14, none, .mov (.t 3)⟩, ⟨some 15, none, .ixS 1 (.t 13) (.t 14)⟩, ⟨some 16, none, .ld (.t 15)⟩, ⟨some 17, none, .call 15 [(.t 16)]⟩, ⟨some 18, none, .not (.t 17)⟩])
     (.cond (.t 18) (.seq (.ops [⟨some 2, none, .mov (.v (.int .i64 4))⟩])
      .ret) .skip)))
    (.ops [⟨some 11, none, .mov (.t 3)⟩, ⟨some 12, none, .bin .add (.t 11) (.v (.int .i64 1))⟩, ⟨some 3, none, .mov (.t 12)⟩]))))))
  (.seq (.ops [⟨some 2, none, .mov (.v (.int .i64 0))⟩])
  .ret))))
theorem Try.known19 : Known Try.prog 19 Try.pc19 19 [2] := ⟨Try.f19, _, Try.func19, rfl, by kernel_rfl, rfl, rfl⟩

/-- redwax/lines.Join -/
def Try.pc20 : PC :=
  (.seq (.ops [⟨some 2, none, .mov (.v (.string ⟨#[]⟩))⟩])
  (.seq (.ops [⟨some 3, none, .al 44 [.pointer none, .slice none 0 0]⟩])
  (.seq (.seq (.ops [⟨some 6, none, .mov (.t 0)⟩, ⟨some 7, none, .lenS (.t 6)⟩, ⟨some 8, none, .mov (.v (.int .i64 0))⟩])
  (.block 0 (.loop (.seq (.ops [⟨some 9, none, .bin .lss (.t 8) (.t 7)⟩])
    (.seq (.cond (.t 9) .skip (.exit 0))
    (.seq (.block 1 (.seq (.ops [⟨some 10, none, .ixS 1 (.t 6) (.t 8)⟩, ⟨some 11, none, .ld (.t 10)⟩, ⟨some 5, none, .mov (.t 11)⟩])
     (.ops [⟨some 12, none, .mov (.t 5)⟩, ⟨some 13, none, .bin .add (.t 12) (.v (.string ⟨#[10]⟩))⟩, ⟨some 14, none, .call 31 [(.t 3), (.t 13)]⟩])))
    (.ops [⟨some 15, none, .bin .add (.t 8) (.v (.int .i64 1))⟩, ⟨some 8, none, .mov (.t 15)⟩])))))))
  (.seq (.ops [⟨some 16, none, .call 32 [(.t 3)]⟩, ⟨some 2, none, .mov (.t 16)⟩])
  .ret))))
theorem Try.known20 : Known Try.prog 20 Try.pc20 17 [2] := ⟨Try.f20, _, Try.func20, rfl, by kernel_rfl, rfl, rfl⟩

/-- redwax/redwaxref13.Join -/
def Try.pc21 : PC :=
  (.seq (.ops [⟨some 2, none, .mov (.v (.string ⟨#[]⟩))⟩])
  (.seq (.ops [⟨some 3, none, .mov (.v (.string ⟨#[]⟩))⟩])
  (.seq (.seq (.ops [⟨some 4, none, .mov (.v (.int .i64 0))⟩])
  (.block 0 (.loop (.seq (.seq (.ops [⟨some 5, none, .mov (.t 4)⟩, ⟨some 6, none, .mov (.t 0)⟩, ⟨some 7, none, .lenS (.t 6)⟩, ⟨some 8, none, .bin .lss (.t 5) (.t 7)⟩])
    (.cond (.t 8) .skip (.exit 0)))
    (.seq (.block 1 (.ops [⟨some 11, none, .mov (.t 3)⟩, ⟨some 12, none, .mov (.t 0)⟩, ⟨some 13, none, .mov (.t 4)⟩, ⟨some 14, none, .ixS 1 (.t 12) (.t 13)⟩, ⟨some 15, none, .ld (.t 14)⟩, ⟨some 16, none, .bin .add (.t 11) (.t 15)⟩, ⟨some 17, none, .bin .add (.t 16) (.v (.string ⟨#[10]⟩))⟩, ⟨some 3, none, .mov (.t 17)⟩]))
    (.ops [⟨some 9, none, .mov (.t 4)⟩, ⟨some 10, none, .bin .add (.t 9) (.v (.int .i64 1))⟩, ⟨some 4, none, .mov (.t 10)⟩]))))))
  (.seq (.ops [⟨some 18, none, .mov (.t 3)⟩, ⟨some 2, none, .mov (.t 18)⟩])
  .ret))))
theorem Try.known21 : Known Try.prog 21 Try.pc21 19 [2] := ⟨Try.f21, _, Try.func21, rfl, by kernel_rfl, rfl, rfl⟩

/-- redwax/redwaxlaw13.no -/
def Try.pc22 : PC :=
  (.seq (.ops [⟨some 4, none, .mov (.v (.bool false))⟩])
  (.seq (.ops [⟨some 8, none, .mov (.t 0)⟩, ⟨some 9, none, .call 8 [(.t 8)]⟩, ⟨some 7, none, .mov (.t 9)⟩, ⟨some 10, none, .ext 0 (.t 7)⟩, ⟨some 11, none, .ext 1 (.t 7)⟩, ⟨some 5, none, .mov (.t 10)⟩, ⟨some 6, none, .mov (.t 11)⟩])
  (.seq (.ops [⟨some 12, none, .mov (.t 6)⟩, ⟨some 13, none, .mov (.t 1)⟩, ⟨some 14, none, .bin .eql (.t 12) (.t 13)⟩, ⟨some 15, none, .mov (.t 14)⟩, ⟨some 16, (some (15, true)), .mov (.t 5)⟩, ⟨some 17, (some (15, true)), .lenS (.t 16)⟩, ⟨some 18, (some (15, true)), .bin .eql (.t 17) (.v (.int .i64 0))⟩, ⟨some 19, none, .pick (.t 15) (.t 18) (.v (.bool false))⟩, ⟨some 4, none, .mov (.t 19)⟩])
  .ret)))
theorem Try.known22 : Known Try.prog 22 Try.pc22 20 [4] := ⟨Try.f22, _, Try.func22, rfl, by kernel_rfl, rfl, rfl⟩

/-- redwax/redwaxlaw13.is -/
def Try.pc23 : PC :=
  (.seq (.ops [⟨some 4, none, .mov (.v (.bool false))⟩])
  (.seq (.ops [⟨some 9, none, .mov (.t 0)⟩, ⟨some 10, none, .call 8 [(.t 9)]⟩, ⟨some 8, none, .mov (.t 10)⟩, ⟨some 11, none, .ext 0 (.t 8)⟩, ⟨some 12, none, .ext 1 (.t 8)⟩, ⟨some 5, none, .mov (.t 11)⟩, ⟨some 6, none, .mov (.t 12)⟩])
  (.seq (.seq (.ops [⟨some 13, none, .mov (.t 6)⟩, ⟨some 14, none, .bin .neq (.t 13) (.v (.int .i64 0))⟩, ⟨some 15, none, .mov (.t 14)⟩, ⟨some 16, (some (15, false)), .mov (.t 5)⟩, ⟨some 17, (some (15, false)), .lenS (.t 16)⟩, ⟨some 18, (some (15, false)), .mov (.t 1)⟩, ⟨some 19, (some (15, false)), .lenS (.t 18)⟩, ⟨some 20, (some (15, false)), .bin .neq (.t 17) (.t 19)⟩, ⟨some 21, none, .pick (.t 15) (.v (.bool true)) (.t 20)⟩])
  (.cond (.t 21) (.seq (.ops [⟨some 4, none, .mov (.v (.bool false))⟩])
   .ret) .skip))
  (.seq (.seq (.ops [⟨some 7, none, .mov (.v (.int .i64 0))⟩])
  (.block 0 (.loop (.seq (.seq (.ops [⟨some 22, none, .mov (.t 7)⟩, ⟨some 23, none, .mov (.t 5)⟩, ⟨some 24, none, .lenS (.t 23)⟩, ⟨some 25, none, .bin .lss (.t 22) (.t 24)⟩])
    (.cond (.t 25) .skip (.exit 0)))
    (.seq (.block 1 (.seq (.quiet 8 [⟨some 28, none, .mov (.t 5)⟩, ⟨some 29, none, .mov (.t 7)⟩, ⟨some 30, none, .ixS 1 (.t 28) (.t 29)⟩, ⟨some 31, none, .ld (.t 30)⟩, ⟨some 32, none, .mov (.t 1)⟩, ⟨some 33, none, .mov (.t 7)⟩, ⟨some 34, none, .ixS 1 (.t 32) (.t 33)⟩, ⟨some 35, none, .ld (.t 34)⟩, ⟨some 36, none, .bin .neq (.t 31) (.t 35)⟩])
     (.cond (.t 36) (.seq (.ops [⟨some 4, none, .mov (.v (.bool false))⟩])
      .ret) .skip)))
    (.ops [⟨some 26, none, .mov (.t 7)⟩, ⟨some 27, none, .bin .add (.t 26) (.v (.int .i64 1))⟩, ⟨some 7, none, .mov (.t 27)⟩]))))))
  (.seq (.ops [⟨some 4, none, .mov (.v (.bool true))⟩])
  .ret)))))
theorem Try.known23 : Known Try.prog 23 Try.pc23 37 [4] := ⟨Try.f23, _, Try.func23, rfl, by kernel_rfl, rfl, rfl⟩

/-- redwax/redwaxref13.parts -/
def Try.pc25 : PC :=
  (.seq (.ops [⟨some 2, none, .mov (.v (.slice none 0 0))⟩, ⟨some 3, none, .mov (.v (.bool false))⟩])
  (.seq (.seq (.ops [⟨some 7, none, .mov (.t 0)⟩, ⟨some 8, none, .lenStr (.t 7)⟩, ⟨some 9, none, .bin .gtr (.t 8) (.v (.int .i64 0))⟩, ⟨some 10, none, .mov (.t 9)⟩, ⟨some 11, (some (10, true)), .mov (.t 0)⟩, ⟨some 12, (some (10, true)), .mov (.t 0)⟩, ⟨some 13, (some (10, true)), .lenStr (.t 12)⟩, ⟨some 14, (some (10, true)), .bin .sub (.t 13) (.v (.int .i64 1))⟩, ⟨some 15, (some (10, true)), .ixStr (.t 11) (.t 14)⟩, ⟨some 16, (some (10, true)), .bin .neq (.t 15) (.v (.int .u8 10))⟩, ⟨some 17, none, .pick (.t 10) (.t 16) (.v (.bool false))⟩])
  (.cond (.t 17) (.seq (.ops [⟨some 2, none, .mov (.v (.slice none 0 0))⟩, ⟨some 3, none, .mov (.v (.bool false))⟩])
   .ret) .skip))
  (.seq (.ops [⟨some 4, none, .mov (.v (.slice none 0 0))⟩])
  (.seq (.ops [⟨some 5, none, .mov (.v (.int .i64 0))⟩])
  (.seq (.seq (.ops [⟨some 6, none, .mov (.v (.int .i64 0))⟩])
  (.block 0 (.loop (.seq (.seq (.ops [⟨some 18, none, .mov (.t 6)⟩, ⟨some 19, none, .mov (.t 0)⟩, ⟨some 20, none, .lenStr (.t 19)⟩, ⟨some 21, none, .bin .lss (.t 18) (.t 20)⟩])
    (.cond (.t 21) .skip (.exit 0)))
    (.seq (.block 1 (.seq (.ops [⟨some 24, none, .mov (.t 0)⟩, ⟨some 25, none, .mov (.t 6)⟩, ⟨some 26, none, .ixStr (.t 24) (.t 25)⟩, ⟨some 27, none, .bin .eql (.t 26) (.v (.int .u8 10))⟩])
     (.cond (.t 27) (.seq (.ops [⟨some 28, none, .mov (.t 4)⟩, ⟨some 29, none, .mov (.t 0)⟩, ⟨some 30, none, .mov (.t 5)⟩, ⟨some 31, none, .mov (.t 6)⟩, ⟨some 32, none, .slStr (.t 29) (some (.t 30)) (some (.t 31))⟩, ⟨some 33, none, .bsl 9 [.string ⟨#[]⟩] 1 [(0, 1, (.t 32))]⟩, ⟨some 34, none, .app 23 9 1 16 (.string ⟨#[]⟩) (.t 28) (.t 33)⟩, ⟨some 4, none, .mov (.t 34)⟩])
      (.ops [⟨some 35, none, .mov (.t 6)⟩, ⟨some 36, none, .bin .add (.t 35) (.v (.int .i64 1))⟩, ⟨some 5, none, .mov (.t 36)⟩])) .skip)))
    (.ops [⟨some 22, none, .mov (.t 6)⟩, ⟨some 23, none, .bin .add (.t 22) (.v (.int .i64 1))⟩, ⟨some 6, none, .mov (.t 23)⟩]))))))
  (.seq (.ops [⟨some 37, none, .mov (.t 4)⟩, ⟨some 2, none, .mov (.t 37)⟩, ⟨some 3, none, .mov (.v (.bool true))⟩])
  .ret))))))
theorem Try.known25 : Known Try.prog 25 Try.pc25 38 [2, 3] := ⟨Try.f25, _, Try.func25, rfl, by kernel_rfl, rfl, rfl⟩

/-- slices.ContainsFunc[[]string,string] -/
def Try.pc26 : PC :=
  (.seq (.ops [⟨some 4, none, .mov (.v (.bool false))⟩])
  (.seq (.ops [⟨some 5, none, .mov (.t 0)⟩, ⟨some 6, none, .mov (.t 1)⟩, ⟨some 7, none, .call 35 [(.t 5), (.t 6)]⟩, ⟨some 8, none, .bin .geq (.t 7) (.v (.int .i64 0))⟩, ⟨some 4, none, .mov (.t 8)⟩])
  .ret))
theorem Try.known26 : Known Try.prog 26 Try.pc26 9 [4] := ⟨Try.f26, _, Try.func26, rfl, by kernel_rfl, rfl, rfl⟩

/-- redwax/lines.Told$1 -/
def Try.pc27 : PC :=
  (.seq (.ops [⟨some 2, none, .mov (.v (.bool false))⟩])
  (.seq (.ops [⟨some 3, none, .mov (.t 0)⟩, ⟨some 4, none, .call 28 [(.t 3)]⟩, ⟨some 5, none, .not (.t 4)⟩, ⟨some 2, none, .mov (.t 5)⟩])
  .ret))
theorem Try.known27 : Known Try.prog 27 Try.pc27 6 [2] := ⟨Try.f27, _, Try.func27, rfl, by kernel_rfl, rfl, rfl⟩

/-- redwax/lines.plain -/
def Try.pc28 : PC :=
  (.seq (.ops [⟨some 2, none, .mov (.v (.bool false))⟩])
  (.seq (.seq (.ops [⟨some 5, none, .mov (.t 0)⟩, ⟨some 6, none, .more (.rngS (.t 5))⟩])
  (.block 0 (.loop (.seq (.ops [⟨some 7, none, .more (.nxtS (.t 6))⟩, ⟨some 8, none, .ext 0 (.t 7)⟩])
    (.seq (.cond (.t 8) .skip (.exit 0))
    (.block 1 (.seq (.ops [⟨some 9, none, .ext 2 (.t 7)⟩, ⟨some 4, none, .mov (.t 9)⟩])
     (.seq (.ops [⟨some 10, none, .mov (.t 4)⟩, ⟨some 11, none, .bin .neq (.t 10) (.v (.int .i32 9))⟩, ⟨some 12, none, .mov (.t 11)⟩, ⟨some 13, (some (12, true)), .mov (.t 4)⟩, ⟨some 14, (some (12, true)), .bin .lss (.t 13) (.v (.int .i32 32))⟩, ⟨some 15, (some (12, true)), .mov (.t 14)⟩, ⟨some 16, (some (15, false)), .mov (.t 4)⟩, ⟨some 17, (some (15, false)), .bin .gtr (.t 16) (.v (.int .i32 126))⟩, ⟨some 18, (some (12, true)), .pick (.t 15) (.v (.bool true)) (.t 17)⟩, ⟨some 19, none, .pick (.t 12) (.t 18) (.v (.bool false))⟩])
     (.cond (.t 19) (.seq (.ops [⟨some 2, none, .mov (.v (.bool false))⟩])
      .ret) .skip)))))))))
  (.seq (.ops [⟨some 20, none, .mov (.t 0)⟩, ⟨some 21, none, .lenStr (.t 20)⟩, ⟨some 22, none, .bin .leq (.t 21) (.v (.int .i64 80))⟩, ⟨some 2, none, .mov (.t 22)⟩])
  .ret)))
theorem Try.known28 : Known Try.prog 28 Try.pc28 23 [2] := ⟨Try.f28, _, Try.func28, rfl, by kernel_rfl, rfl, rfl⟩

/-- redwax/redwaxref13.plain -/
def Try.pc29 : PC :=
  (.seq (.ops [⟨some 2, none, .mov (.v (.bool false))⟩])
  (.seq (.seq (.ops [⟨some 3, none, .mov (.v (.int .i64 0))⟩])
  (.block 0 (.loop (.seq (.seq (.ops [⟨some 4, none, .mov (.t 3)⟩, ⟨some 5, none, .mov (.t 0)⟩, ⟨some 6, none, .lenStr (.t 5)⟩, ⟨some 7, none, .bin .lss (.t 4) (.t 6)⟩])
    (.cond (.t 7) .skip (.exit 0)))
    (.seq (.block 1 (.seq (.ops [⟨some 10, none, .mov (.t 0)⟩, ⟨some 11, none, .mov (.t 3)⟩, ⟨some 12, none, .ixStr (.t 10) (.t 11)⟩, ⟨some 13, none, .bin .neq (.t 12) (.v (.int .u8 9))⟩, ⟨some 14, none, .mov (.t 13)⟩, ⟨some 15, (some (14, true)), .mov (.t 0)⟩, ⟨some 16, (some (14, true)), .mov (.t 3)⟩, ⟨some 17, (some (14, true)), .ixStr (.t 15) (.t 16)⟩, ⟨some 18, (some (14, true)), .bin .lss (.t 17) (.v (.int .u8 32))⟩, ⟨some 19, (some (14, true)), .mov (.t 18)⟩, ⟨some 20, (some (19, false)), .mov (.t 0)⟩, ⟨some 21, (some (19, false)), .mov (.t 3)⟩, ⟨some 22, (some (19, false)), .ixStr (.t 20) (.t 21)⟩, ⟨some 23, (some (19, false)), .bin .gtr (.t 22) (.v (.int .u8 126))⟩, ⟨some 24, (some (14, true)), .pick (.t 19) (.v (.bool true)) (.t 23)⟩, ⟨some 25, none, .pick (.t 14) (.t 24) (.v (.bool false))⟩])
     (.cond (.t 25) (.seq (.ops [⟨some 2, none, .mov (.v (.bool false))⟩])
      .ret) .skip)))
    (.ops [⟨some 8, none, .mov (.t 3)⟩, ⟨some 9, none, .bin .add (.t 8) (.v (.int .i64 1))⟩, ⟨some 3, none, .mov (.t 9)⟩]))))))
  (.seq (.ops [⟨some 26, none, .mov (.t 0)⟩, ⟨some 27, none, .lenStr (.t 26)⟩, ⟨some 28, none, .bin .leq (.t 27) (.v (.int .i64 80))⟩, ⟨some 2, none, .mov (.t 28)⟩])
  .ret)))
theorem Try.known29 : Known Try.prog 29 Try.pc29 29 [2] := ⟨Try.f29, _, Try.func29, rfl, by kernel_rfl, rfl, rfl⟩

/-- redwax/lines.Check$1 -/
def Try.pc30 : PC :=
  (.seq (.ops [⟨some 2, none, .mov (.v (.bool false))⟩])
  (.seq (.ops [⟨some 3, none, .mov (.t 0)⟩, ⟨some 4, none, .call 14 [(.t 3)]⟩, ⟨some 5, none, .not (.t 4)⟩, ⟨some 2, none, .mov (.t 5)⟩])
  .ret))
theorem Try.known30 : Known Try.prog 30 Try.pc30 6 [2] := ⟨Try.f30, _, Try.func30, rfl, by kernel_rfl, rfl, rfl⟩

/-- (*strings.Builder).WriteString -/
def Try.pc31 : PC :=
  (.seq (.ops [⟨some 4, none, .mov (.v (.int .i64 0))⟩, ⟨some 5, none, .mov (.v .nilIface)⟩])
  (.seq (.ops [⟨some 6, none, .mov (.t 0)⟩, ⟨some 7, none, .call 36 [(.t 6)]⟩])
  (.seq (.ops [⟨some 8, none, .mov (.t 0)⟩, ⟨some 9, none, .mov (.t 0)⟩, ⟨some 10, none, .nilc (.t 9)⟩, ⟨some 11, none, .fa 1 (.t 10)⟩, ⟨some 12, none, .ld (.t 11)⟩, ⟨some 13, none, .mov (.t 1)⟩, ⟨some 14, none, .appStr 42 9 5 1 (.int .u8 0) (.t 12) (.t 13)⟩, ⟨some 15, none, .nilc (.t 8)⟩, ⟨some 16, none, .fa 1 (.t 15)⟩, ⟨none, none, .st 1 (.t 16) (.t 14)⟩])
  (.seq (.ops [⟨some 17, none, .mov (.t 1)⟩, ⟨some 18, none, .lenStr (.t 17)⟩, ⟨some 4, none, .mov (.t 18)⟩, ⟨some 5, none, .mov (.v .nilIface)⟩])
  .ret))))
theorem Try.known31 : Known Try.prog 31 Try.pc31 19 [4, 5] := ⟨Try.f31, _, Try.func31, rfl, by kernel_rfl, rfl, rfl⟩

/-- strings.Lines -/
def Try.pc33 : PC :=
  (.seq (.ops [⟨some 1, none, .bx 9 (.t 0)⟩, ⟨some 2, none, .mov (.v .nilFunc)⟩])
  (.seq (.ops [⟨some 3, none, .mkF 37 [(.t 1)]⟩, ⟨some 2, none, .mov (.t 3)⟩])
  .ret))
theorem Try.known33 : Known Try.prog 33 Try.pc33 4 [2] := ⟨Try.f33, _, Try.func33, rfl, by kernel_rfl, rfl, rfl⟩

/-- strings.CutSuffix -/
def Try.pc34 : PC :=
  (.seq (.ops [⟨some 4, none, .mov (.v (.string ⟨#[]⟩))⟩, ⟨some 5, none, .mov (.v (.bool false))⟩])
  (.seq (.ops [⟨some 6, none, .mov (.t 0)⟩, ⟨some 7, none, .mov (.t 1)⟩, ⟨some 8, none, .call 39 [(.t 6), (.t 7)]⟩, ⟨some 9, none, .ext 0 (.t 8)⟩, ⟨some 10, none, .ext 1 (.t 8)⟩, ⟨some 4, none, .mov (.t 9)⟩, ⟨some 5, none, .mov (.t 10)⟩])
  .ret))
theorem Try.known34 : Known Try.prog 34 Try.pc34 11 [4, 5] := ⟨Try.f34, _, Try.func34, rfl, by kernel_rfl, rfl, rfl⟩

/-- slices.IndexFunc[[]string,string] -/
def Try.pc35 : PC :=
  (.seq (.ops [⟨some 4, none, .mov (.v (.int .i64 0))⟩])
  (.seq (.seq (.ops [⟨some 6, none, .mov (.t 0)⟩, ⟨some 7, none, .lenS (.t 6)⟩, ⟨some 8, none, .mov (.v (.int .i64 0))⟩])
  (.block 0 (.loop (.seq (.ops [⟨some 9, none, .bin .lss (.t 8) (.t 7)⟩])
    (.seq (.cond (.t 9) .skip (.exit 0))
    (.seq (.block 1 (.seq (.ops [⟨some 10, none, .mov (.t 8)⟩, ⟨some 5, none, .mov (.t 10)⟩])
     (.seq (.ops [⟨some 11, none, .mov (.t 1)⟩, ⟨some 12, none, .mov (.t 0)⟩, ⟨some 13, none, .mov (.t 5)⟩, ⟨some 14, none, .ixS 1 (.t 12) (.t 13)⟩, ⟨some 15, none, .ld (.t 14)⟩, ⟨some 16, none, .callv (.t 11) [(.t 15)]⟩])
     (.cond (.t 16) (.seq (.ops [⟨some 17, none, .mov (.t 5)⟩, ⟨some 4, none, .mov (.t 17)⟩])
      .ret) .skip))))
    (.ops [⟨some 18, none, .bin .add (.t 8) (.v (.int .i64 1))⟩, ⟨some 8, none, .mov (.t 18)⟩])))))))
  (.seq (.ops [⟨some 4, none, .mov (.v (.int .i64 (-1)))⟩])
  .ret)))
theorem Try.known35 : Known Try.prog 35 Try.pc35 19 [4] := ⟨Try.f35, _, Try.func35, rfl, by kernel_rfl, rfl, rfl⟩

/-- strings.Lines$1 -/
def Try.pc37 : PC :=
  (.block 0 (.loop (.seq (.seq (.ops [⟨some 5, none, .ld (.t 1)⟩, ⟨some 6, none, .lenStr (.t 5)⟩, ⟨some 7, none, .bin .gtr (.t 6) (.v (.int .i64 0))⟩])
    (.cond (.t 7) .skip (.exit 0)))
    (.block 1 (.seq (.ops [⟨some 3, none, .mov (.v (.string ⟨#[]⟩))⟩])
     (.seq (.seq (.ops [⟨some 8, none, .ld (.t 1)⟩, ⟨some 9, none, .call 38 [(.t 8), (.v (.int .u8 10))]⟩, ⟨some 4, none, .mov (.t 9)⟩])
     (.seq (.ops [⟨some 10, none, .mov (.t 4)⟩, ⟨some 11, none, .bin .geq (.t 10) (.v (.int .i64 0))⟩])
     (.cond (.t 11) (.quiet 9 [⟨some 12, none, .ld (.t 1)⟩, ⟨some 13, none, .mov (.t 4)⟩, ⟨some 14, none, .bin .add (.t 13) (.v (.int .i64 1))⟩, ⟨some 15, none, .slStr (.t 12) none (some (.t 14))⟩, ⟨some 16, none, .ld (.t 1)⟩, ⟨some 17, none, .mov (.t 4)⟩, ⟨some 18, none, .bin .add (.t 17) (.v (.int .i64 1))⟩, ⟨some 19, none, .slStr (.t 16) (some (.t 18)) none⟩, ⟨some 3, none, .mov (.t 15)⟩, ⟨none, none, .st 1 (.t 1) (.t 19)⟩]) (.ops [⟨some 20, none, .ld (.t 1)⟩, ⟨some 3, none, .mov (.t 20)⟩, ⟨none, none, .st 1 (.t 1) (.v (.string ⟨#[]⟩))⟩]))))
     (.seq (.ops [⟨some 21, none, .mov (.t 0)⟩, ⟨some 22, none, .mov (.t 3)⟩, ⟨some 23, none, .callv (.t 21) [(.t 22)]⟩, ⟨some 24, none, .not (.t 23)⟩])
     (.cond (.t 24) .ret .skip))))))))
theorem Try.known37 : Known Try.prog 37 Try.pc37 25 [] := ⟨Try.f37, _, Try.func37, rfl, by kernel_rfl, rfl, rfl⟩

/-- strings.IndexByte -/
def Try.pc38 : PC :=
  (.seq (.ops [⟨some 4, none, .mov (.v (.int .i64 0))⟩])
  (.seq (.ops [⟨some 5, none, .mov (.t 0)⟩, ⟨some 6, none, .mov (.t 1)⟩, ⟨some 7, none, .call 41 [(.t 5), (.t 6)]⟩, ⟨some 4, none, .mov (.t 7)⟩])
  .ret))
theorem Try.known38 : Known Try.prog 38 Try.pc38 8 [4] := ⟨Try.f38, _, Try.func38, rfl, by kernel_rfl, rfl, rfl⟩

/-- internal/stringslite.CutSuffix -/
def Try.pc39 : PC :=
  (.seq (.ops [⟨some 4, none, .mov (.v (.string ⟨#[]⟩))⟩, ⟨some 5, none, .mov (.v (.bool false))⟩])
  (.seq (.seq (.ops [⟨some 6, none, .mov (.t 0)⟩, ⟨some 7, none, .mov (.t 1)⟩, ⟨some 8, none, .call 42 [(.t 6), (.t 7)]⟩, ⟨some 9, none, .not (.t 8)⟩])
  (.cond (.t 9) (.seq (.ops [⟨some 10, none, .mov (.t 0)⟩, ⟨some 4, none, .mov (.t 10)⟩, ⟨some 5, none, .mov (.v (.bool false))⟩])
   .ret) .skip))
  (.seq (.ops [⟨some 11, none, .mov (.t 0)⟩, ⟨some 12, none, .mov (.t 0)⟩, ⟨some 13, none, .lenStr (.t 12)⟩, ⟨some 14, none, .mov (.t 1)⟩, ⟨some 15, none, .lenStr (.t 14)⟩, ⟨some 16, none, .bin .sub (.t 13) (.t 15)⟩, ⟨some 17, none, .slStr (.t 11) none (some (.t 16))⟩, ⟨some 4, none, .mov (.t 17)⟩, ⟨some 5, none, .mov (.v (.bool true))⟩])
  .ret)))
theorem Try.known39 : Known Try.prog 39 Try.pc39 18 [4, 5] := ⟨Try.f39, _, Try.func39, rfl, by kernel_rfl, rfl, rfl⟩

/-- internal/stringslite.IndexByte -/
def Try.pc41 : PC :=
  (.seq (.ops [⟨some 4, none, .mov (.v (.int .i64 0))⟩])
  (.seq (.ops [⟨some 5, none, .mov (.t 0)⟩, ⟨some 6, none, .mov (.t 1)⟩, ⟨some 7, none, .more (.xc 0 [(.t 5), (.t 6)])⟩, ⟨some 4, none, .mov (.t 7)⟩])
  .ret))
theorem Try.known41 : Known Try.prog 41 Try.pc41 8 [4] := ⟨Try.f41, _, Try.func41, rfl, by kernel_rfl, rfl, rfl⟩

/-- internal/stringslite.HasSuffix -/
def Try.pc42 : PC :=
  (.seq (.ops [⟨some 4, none, .mov (.v (.bool false))⟩])
  (.seq (.ops [⟨some 5, none, .mov (.t 0)⟩, ⟨some 6, none, .lenStr (.t 5)⟩, ⟨some 7, none, .mov (.t 1)⟩, ⟨some 8, none, .lenStr (.t 7)⟩, ⟨some 9, none, .bin .geq (.t 6) (.t 8)⟩, ⟨some 10, none, .mov (.t 9)⟩, ⟨some 11, (some (10, true)), .mov (.t 0)⟩, ⟨some 12, (some (10, true)), .mov (.t 0)⟩, ⟨some 13, (some (10, true)), .lenStr (.t 12)⟩, ⟨some 14, (some (10, true)), .mov (.t 1)⟩, ⟨some 15, (some (10, true)), .lenStr (.t 14)⟩, ⟨some 16, (some (10, true)), .bin .sub (.t 13) (.t 15)⟩, ⟨some 17, (some (10, true)), .slStr (.t 11) (some (.t 16)) none⟩, ⟨some 18, (some (10, true)), .mov (.t 1)⟩, ⟨some 19, (some (10, true)), .bin .eql (.t 17) (.t 18)⟩, ⟨some 20, none, .pick (.t 10) (.t 19) (.v (.bool false))⟩, ⟨some 4, none, .mov (.t 20)⟩])
  .ret))
theorem Try.known42 : Known Try.prog 42 Try.pc42 21 [4] := ⟨Try.f42, _, Try.func42, rfl, by kernel_rfl, rfl, rfl⟩

end Go.Proofs
