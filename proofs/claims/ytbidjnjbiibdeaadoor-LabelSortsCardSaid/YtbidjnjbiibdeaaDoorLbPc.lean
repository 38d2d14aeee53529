/- Walks and plain facts for the laws of this seat: what each function answers, for every input. -/
import Derived.Test.YtbidjnjbiibdeaaDoorSl22
import Derived.Test.YtbidjnjbiibdeaaDoorProg
namespace Go.Proofs
open Go.SL
set_option maxRecDepth 100000
theorem Tryd.mixed : Tryd.prog.follows .mixedOrders = true := by kernel_rfl

/-- redwax/redwaxlaw05.LabelLattice -/
def Tryd.pc3 : PC :=
  (.seq (.ops [⟨some 3, none, .bx 24 (.t 0)⟩, ⟨some 4, none, .bx 24 (.t 1)⟩, ⟨some 5, none, .bx 24 (.t 2)⟩, ⟨some 6, none, .mov (.v (.bool false))⟩])
  (.seq (.quiet 8 [⟨some 10, none, .ldA 2 (.t 3)⟩, ⟨some 11, none, .ldA 2 (.t 4)⟩, ⟨some 12, none, .call 15 [(.t 10), (.t 11)]⟩, ⟨some 13, none, .ldA 2 (.t 3)⟩, ⟨some 14, none, .ldA 2 (.t 4)⟩, ⟨some 15, none, .call 16 [(.t 13), (.t 14)]⟩, ⟨some 7, none, .al 24 [.int .i64 0, .int .u64 0]⟩, ⟨some 8, none, .al 24 [.int .i64 0, .int .u64 0]⟩, ⟨none, none, .st 2 (.t 7) (.t 12)⟩, ⟨none, none, .st 2 (.t 8) (.t 15)⟩])
  (.seq (.seq (.ops [⟨some 16, none, .ldA 2 (.t 3)⟩, ⟨some 17, none, .ldA 2 (.t 3)⟩, ⟨some 18, none, .call 17 [(.t 16), (.t 17)]⟩, ⟨some 19, none, .not (.t 18)⟩, ⟨some 20, none, .mov (.t 19)⟩, ⟨some 21, (some (20, false)), .ldA 2 (.t 3)⟩, ⟨some 22, (some (20, false)), .ldA 2 (.t 4)⟩, ⟨some 23, (some (20, false)), .call 17 [(.t 21), (.t 22)]⟩, ⟨some 24, (some (20, false)), .mov (.t 23)⟩, ⟨some 25, (some (24, true)), .ldA 2 (.t 4)⟩, ⟨some 26, (some (24, true)), .ldA 2 (.t 5)⟩, ⟨some 27, (some (24, true)), .call 17 [(.t 25), (.t 26)]⟩, ⟨some 28, (some (20, false)), .pick (.t 24) (.t 27) (.v (.bool false))⟩, ⟨some 29, (some (20, false)), .mov (.t 28)⟩, ⟨some 30, (some (29, true)), .ldA 2 (.t 3)⟩, ⟨some 31, (some (29, true)), .ldA 2 (.t 5)⟩, ⟨some 32, (some (29, true)), .call 17 [(.t 30), (.t 31)]⟩, ⟨some 33, (some (29, true)), .not (.t 32)⟩, ⟨some 34, (some (20, false)), .pick (.t 29) (.t 33) (.v (.bool false))⟩, ⟨some 35, none, .pick (.t 20) (.v (.bool true)) (.t 34)⟩, ⟨some 36, none, .mov (.t 35)⟩, ⟨some 37, (some (36, false)), .ldA 2 (.t 3)⟩, ⟨some 38, (some (36, false)), .ldA 2 (.t 4)⟩, ⟨some 39, (some (36, false)), .call 17 [(.t 37), (.t 38)]⟩, ⟨some 40, (some (36, false)), .mov (.t 39)⟩, ⟨some 41, (some (40, true)), .ldA 2 (.t 4)⟩, ⟨some 42, (some (40, true)), .ldA 2 (.t 3)⟩, ⟨some 43, (some (40, true)), .call 17 [(.t 41), (.t 42)]⟩, ⟨some 44, (some (36, false)), .pick (.t 40) (.t 43) (.v (.bool false))⟩, ⟨some 45, (some (36, false)), .mov (.t 44)⟩, ⟨some 46, (some (45, true)), .ldA 2 (.t 3)⟩, ⟨some 47, (some (45, true)), .ldA 2 (.t 4)⟩, ⟨some 48, (some (45, true)), .eqA true 24 [.int .i64, .int .u64] (.t 46) (.t 47)⟩, ⟨some 49, (some (36, false)), .pick (.t 45) (.t 48) (.v (.bool false))⟩, ⟨some 50, none, .pick (.t 36) (.v (.bool true)) (.t 49)⟩])
  (.cond (.t 50) (.seq (.ops [⟨some 6, none, .mov (.v (.bool false))⟩])
   .ret) .skip))
  (.seq (.seq (.ops [⟨some 51, none, .ldA 2 (.t 3)⟩, ⟨some 52, none, .ldA 2 (.t 7)⟩, ⟨some 53, none, .call 17 [(.t 51), (.t 52)]⟩, ⟨some 54, none, .not (.t 53)⟩, ⟨some 55, none, .mov (.t 54)⟩, ⟨some 56, (some (55, false)), .ldA 2 (.t 4)⟩, ⟨some 57, (some (55, false)), .ldA 2 (.t 7)⟩, ⟨some 58, (some (55, false)), .call 17 [(.t 56), (.t 57)]⟩, ⟨some 59, (some (55, false)), .not (.t 58)⟩, ⟨some 60, none, .pick (.t 55) (.v (.bool true)) (.t 59)⟩, ⟨some 61, none, .mov (.t 60)⟩, ⟨some 62, (some (61, false)), .ldA 2 (.t 8)⟩, ⟨some 63, (some (61, false)), .ldA 2 (.t 3)⟩, ⟨some 64, (some (61, false)), .call 17 [(.t 62), (.t 63)]⟩, ⟨some 65, (some (61, false)), .not (.t 64)⟩, ⟨some 66, none, .pick (.t 61) (.v (.bool true)) (.t 65)⟩, ⟨some 67, none, .mov (.t 66)⟩, ⟨some 68, (some (67, false)), .ldA 2 (.t 8)⟩, ⟨some 69, (some (67, false)), .ldA 2 (.t 4)⟩, ⟨some 70, (some (67, false)), .call 17 [(.t 68), (.t 69)]⟩, ⟨some 71, (some (67, false)), .not (.t 70)⟩, ⟨some 72, none, .pick (.t 67) (.v (.bool true)) (.t 71)⟩])
  (.cond (.t 72) (.seq (.ops [⟨some 6, none, .mov (.v (.bool false))⟩])
   .ret) .skip))
  (.seq (.seq (.quiet2 2 22 [⟨some 73, none, .ldA 2 (.t 3)⟩, ⟨some 74, none, .ldA 2 (.t 5)⟩, ⟨some 75, none, .call 17 [(.t 73), (.t 74)]⟩, ⟨some 76, none, .mov (.t 75)⟩, ⟨some 77, (some (76, true)), .ldA 2 (.t 4)⟩, ⟨some 78, (some (76, true)), .ldA 2 (.t 5)⟩, ⟨some 79, (some (76, true)), .call 17 [(.t 77), (.t 78)]⟩, ⟨some 80, (some (76, true)), .ldA 2 (.t 7)⟩, ⟨some 81, (some (76, true)), .ldA 2 (.t 5)⟩, ⟨some 82, (some (76, true)), .call 17 [(.t 80), (.t 81)]⟩, ⟨some 83, (some (76, true)), .binB .neq (.t 79) (.t 82)⟩, ⟨some 84, none, .pick (.t 76) (.t 83) (.v (.bool false))⟩, ⟨some 85, none, .mov (.t 84)⟩, ⟨some 86, (some (85, false)), .ldA 2 (.t 5)⟩, ⟨some 87, (some (85, false)), .ldA 2 (.t 3)⟩, ⟨some 88, (some (85, false)), .call 17 [(.t 86), (.t 87)]⟩, ⟨some 89, (some (85, false)), .mov (.t 88)⟩, ⟨some 90, (some (89, true)), .ldA 2 (.t 5)⟩, ⟨some 91, (some (89, true)), .ldA 2 (.t 4)⟩, ⟨some 92, (some (89, true)), .call 17 [(.t 90), (.t 91)]⟩, ⟨some 93, (some (89, true)), .ldA 2 (.t 5)⟩, ⟨some 94, (some (89, true)), .ldA 2 (.t 8)⟩, ⟨some 95, (some (89, true)), .call 17 [(.t 93), (.t 94)]⟩, ⟨some 96, (some (89, true)), .binB .neq (.t 92) (.t 95)⟩, ⟨some 97, (some (85, false)), .pick (.t 89) (.t 96) (.v (.bool false))⟩, ⟨some 98, none, .pick (.t 85) (.v (.bool true)) (.t 97)⟩])
  (.cond (.t 98) (.seq (.ops [⟨some 6, none, .mov (.v (.bool false))⟩])
   .ret) .skip))
  (.seq (.ops [⟨some 99, none, .ldA 2 (.t 3)⟩, ⟨some 100, none, .call 18 [(.t 99)]⟩, ⟨some 101, none, .bin .eql (.t 100) (.v (.int .i64 0))⟩, ⟨some 9, none, .mov (.t 101)⟩])
  (.seq (.quiet 31 [⟨some 102, none, .ldA 2 (.t 3)⟩, ⟨some 103, none, .ldA 2 (.t 8)⟩, ⟨some 104, none, .call 15 [(.t 102), (.t 103)]⟩, ⟨some 105, none, .ldA 2 (.t 3)⟩, ⟨some 106, none, .eqA false 24 [.int .i64, .int .u64] (.t 104) (.t 105)⟩, ⟨some 107, none, .mov (.t 106)⟩, ⟨some 108, (some (107, true)), .ldA 2 (.t 3)⟩, ⟨some 109, (some (107, true)), .ldA 2 (.t 7)⟩, ⟨some 110, (some (107, true)), .call 16 [(.t 108), (.t 109)]⟩, ⟨some 111, (some (107, true)), .ldA 2 (.t 3)⟩, ⟨some 112, (some (107, true)), .eqA false 24 [.int .i64, .int .u64] (.t 110) (.t 111)⟩, ⟨some 113, none, .pick (.t 107) (.t 112) (.v (.bool false))⟩, ⟨some 114, none, .mov (.t 113)⟩, ⟨some 115, (some (114, true)), .ldA 2 (.t 3)⟩, ⟨some 116, (some (114, true)), .ldA 2 (.t 4)⟩, ⟨some 117, (some (114, true)), .call 17 [(.t 115), (.t 116)]⟩, ⟨some 118, (some (114, true)), .ldA 2 (.t 7)⟩, ⟨some 119, (some (114, true)), .ldA 2 (.t 4)⟩, ⟨some 120, (some (114, true)), .eqA false 24 [.int .i64, .int .u64] (.t 118) (.t 119)⟩, ⟨some 121, (some (114, true)), .binB .eql (.t 117) (.t 120)⟩, ⟨some 122, none, .pick (.t 114) (.t 121) (.v (.bool false))⟩, ⟨some 123, none, .mov (.t 122)⟩, ⟨some 124, (some (123, true)), .mov (.t 9)⟩, ⟨some 125, (some (123, true)), .not (.t 124)⟩, ⟨some 126, (some (123, true)), .mov (.t 125)⟩, ⟨some 127, (some (126, false)), .build [.int .i64 0, .int .u64 0] []⟩, ⟨some 128, (some (126, false)), .ldA 2 (.t 3)⟩, ⟨some 129, (some (126, false)), .call 17 [(.t 127), (.t 128)]⟩, ⟨some 130, (some (126, false)), .mov (.t 129)⟩, ⟨some 131, (some (130, true)), .ldA 2 (.t 3)⟩, ⟨some 132, (some (130, true)), .call 19 []⟩, ⟨some 133, (some (130, true)), .call 17 [(.t 131), (.t 132)]⟩, ⟨some 134, (some (126, false)), .pick (.t 130) (.t 133) (.v (.bool false))⟩, ⟨some 135, (some (123, true)), .pick (.t 126) (.v (.bool true)) (.t 134)⟩, ⟨some 136, none, .pick (.t 123) (.t 135) (.v (.bool false))⟩, ⟨some 137, none, .mov (.t 136)⟩, ⟨some 138, (some (137, true)), .call 20 []⟩, ⟨some 139, none, .pick (.t 137) (.t 138) (.v (.bool false))⟩, ⟨some 6, none, .mov (.t 139)⟩])
  .ret)))))))
theorem Tryd.known3 : Known Tryd.prog 3 Tryd.pc3 140 [6] := ⟨Tryd.f3, _, Tryd.func3, rfl, by kernel_rfl, rfl, rfl⟩

/-- redwax/redwaxlaw05.LabelTwo -/
def Tryd.pc4 : PC :=
  (.seq (.ops [⟨some 2, none, .bx 24 (.t 0)⟩, ⟨some 3, none, .bx 24 (.t 1)⟩, ⟨some 4, none, .mov (.v (.bool false))⟩])
  (.seq (.quiet 39 [⟨some 5, none, .ldA 2 (.t 2)⟩, ⟨some 6, none, .call 18 [(.t 5)]⟩, ⟨some 7, none, .bin .eql (.t 6) (.v (.int .i64 0))⟩, ⟨some 8, none, .ldA 2 (.t 2)⟩, ⟨some 9, none, .call 21 [(.t 8)]⟩, ⟨some 10, none, .binB .eql (.t 7) (.t 9)⟩, ⟨some 11, none, .mov (.t 10)⟩, ⟨some 12, (some (11, true)), .ldA 2 (.t 2)⟩, ⟨some 13, (some (11, true)), .ldA 2 (.t 3)⟩, ⟨some 14, (some (11, true)), .call 17 [(.t 12), (.t 13)]⟩, ⟨some 15, (some (11, true)), .ldA 2 (.t 2)⟩, ⟨some 16, (some (11, true)), .ldA 2 (.t 3)⟩, ⟨some 17, (some (11, true)), .call 22 [(.t 15), (.t 16)]⟩, ⟨some 18, (some (11, true)), .binB .eql (.t 14) (.t 17)⟩, ⟨some 19, none, .pick (.t 11) (.t 18) (.v (.bool false))⟩, ⟨some 20, none, .mov (.t 19)⟩, ⟨some 21, (some (20, true)), .ldA 2 (.t 2)⟩, ⟨some 22, (some (20, true)), .ldA 2 (.t 3)⟩, ⟨some 23, (some (20, true)), .call 15 [(.t 21), (.t 22)]⟩, ⟨some 24, (some (20, true)), .ldA 2 (.t 2)⟩, ⟨some 25, (some (20, true)), .ldA 2 (.t 3)⟩, ⟨some 26, (some (20, true)), .call 23 [(.t 24), (.t 25)]⟩, ⟨some 27, (some (20, true)), .eqA false 24 [.int .i64, .int .u64] (.t 23) (.t 26)⟩, ⟨some 28, none, .pick (.t 20) (.t 27) (.v (.bool false))⟩, ⟨some 29, none, .mov (.t 28)⟩, ⟨some 30, (some (29, true)), .ldA 2 (.t 2)⟩, ⟨some 31, (some (29, true)), .ldA 2 (.t 3)⟩, ⟨some 32, (some (29, true)), .call 16 [(.t 30), (.t 31)]⟩, ⟨some 33, (some (29, true)), .ldA 2 (.t 2)⟩, ⟨some 34, (some (29, true)), .ldA 2 (.t 3)⟩, ⟨some 35, (some (29, true)), .call 24 [(.t 33), (.t 34)]⟩, ⟨some 36, (some (29, true)), .eqA false 24 [.int .i64, .int .u64] (.t 32) (.t 35)⟩, ⟨some 37, none, .pick (.t 29) (.t 36) (.v (.bool false))⟩, ⟨some 38, none, .mov (.t 37)⟩, ⟨some 39, (some (38, true)), .ldA 2 (.t 2)⟩, ⟨some 40, (some (38, true)), .ldA 2 (.t 3)⟩, ⟨some 41, (some (38, true)), .call 25 [(.t 39), (.t 40)]⟩, ⟨some 42, (some (38, true)), .ldA 2 (.t 2)⟩, ⟨some 43, (some (38, true)), .ldA 2 (.t 3)⟩, ⟨some 44, (some (38, true)), .call 26 [(.t 42), (.t 43)]⟩, ⟨some 45, (some (38, true)), .bin .eql (.t 41) (.t 44)⟩, ⟨some 46, none, .pick (.t 38) (.t 45) (.v (.bool false))⟩, ⟨some 47, none, .mov (.t 46)⟩, ⟨some 48, (some (47, true)), .call 20 []⟩, ⟨some 49, none, .pick (.t 47) (.t 48) (.v (.bool false))⟩, ⟨some 4, none, .mov (.t 49)⟩])
  .ret))
theorem Tryd.known4 : Known Tryd.prog 4 Tryd.pc4 50 [4] := ⟨Tryd.f4, _, Tryd.func4, rfl, by kernel_rfl, rfl, rfl⟩

/-- redwax/redwaxlaw05.LabelSorts -/
def Tryd.pc12 : PC :=
  (.seq (.ops [⟨some 2, none, .mov (.v (.bool false))⟩])
  (.seq (.seq (.ops [⟨some 7, none, .mov (.t 0)⟩, ⟨some 8, none, .lenS (.t 7)⟩, ⟨some 9, none, .bin .gtr (.t 8) (.v (.int .i64 100))⟩])
  (.cond (.t 9) (.seq (.ops [⟨some 10, none, .call 20 []⟩, ⟨some 2, none, .mov (.t 10)⟩])
   .ret) .skip))
  (.seq (.ops [⟨some 11, none, .bsl0 24⟩, ⟨some 12, none, .mov (.t 0)⟩, ⟨some 13, none, .app 61 24 2 16 (.agg #[.int .i64 0, .int .u64 0]) (.t 11) (.t 12)⟩, ⟨some 3, none, .mov (.t 13)⟩])
  (.seq (.ops [⟨some 14, none, .mov (.t 3)⟩, ⟨some 15, none, .call 50 [(.t 14)]⟩, ⟨some 4, none, .mov (.t 15)⟩])
  (.seq (.ops [⟨some 16, none, .mov (.t 4)⟩, ⟨some 17, none, .mov (.t 0)⟩, ⟨some 18, none, .call 52 [(.t 17)]⟩, ⟨some 19, none, .call 51 [(.t 16), (.t 18)]⟩, ⟨some 20, none, .mov (.t 19)⟩, ⟨some 21, (some (20, true)), .mov (.t 3)⟩, ⟨some 22, (some (20, true)), .mov (.t 0)⟩, ⟨some 23, (some (20, true)), .call 51 [(.t 21), (.t 22)]⟩, ⟨some 24, none, .pick (.t 20) (.t 23) (.v (.bool false))⟩, ⟨some 5, none, .mov (.t 24)⟩])
  (.seq (.seq (.ops [⟨some 6, none, .mov (.v (.int .i64 0))⟩])
  (.block 0 (.loop (.seq (.seq (.ops [⟨some 25, none, .mov (.t 6)⟩, ⟨some 26, none, .mov (.t 4)⟩, ⟨some 27, none, .lenS (.t 26)⟩, ⟨some 28, none, .bin .lss (.t 25) (.t 27)⟩])
    (.cond (.t 28) .skip (.exit 0)))
    (.seq (.block 1 (.ops [⟨some 31, none, .mov (.t 4)⟩, ⟨some 32, none, .mov (.t 6)⟩, ⟨some 33, none, .ixS 2 (.t 31) (.t 32)⟩, ⟨some 34, none, .fa 0 (.t 33)⟩, ⟨none, none, .st 1 (.t 34) (.v (.int .i64 99))⟩]))
    (.ops [⟨some 29, none, .mov (.t 6)⟩, ⟨some 30, none, .bin .add (.t 29) (.v (.int .i64 1))⟩, ⟨some 6, none, .mov (.t 30)⟩]))))))
  (.seq (.ops [⟨some 35, none, .mov (.t 5)⟩, ⟨some 36, none, .mov (.t 35)⟩, ⟨some 37, (some (36, true)), .mov (.t 3)⟩, ⟨some 38, (some (36, true)), .mov (.t 0)⟩, ⟨some 39, (some (36, true)), .call 51 [(.t 37), (.t 38)]⟩, ⟨some 40, none, .pick (.t 36) (.t 39) (.v (.bool false))⟩, ⟨some 41, none, .mov (.t 40)⟩, ⟨some 42, (some (41, true)), .call 20 []⟩, ⟨some 43, none, .pick (.t 41) (.t 42) (.v (.bool false))⟩, ⟨some 2, none, .mov (.t 43)⟩])
  .ret)))))))
theorem Tryd.known12 : Known Tryd.prog 12 Tryd.pc12 44 [2] := ⟨Tryd.f12, _, Tryd.func12, rfl, by kernel_rfl, rfl, rfl⟩

/-- redwax/label.Join -/
def Tryd.pc15 : PC :=
  (.seq (.ops [⟨some 2, none, .bx 24 (.t 0)⟩, ⟨some 3, none, .bx 24 (.t 1)⟩, ⟨some 4, none, .al 24 [.int .i64 0, .int .u64 0]⟩])
  (.seq (.ops [⟨some 5, none, .fa 0 (.t 2)⟩, ⟨some 6, none, .ld (.t 5)⟩, ⟨some 7, none, .fa 0 (.t 3)⟩, ⟨some 8, none, .ld (.t 7)⟩, ⟨some 9, none, .mnx true [(.t 6), (.t 8)]⟩, ⟨some 10, none, .fa 1 (.t 2)⟩, ⟨some 11, none, .ld (.t 10)⟩, ⟨some 12, none, .fa 1 (.t 3)⟩, ⟨some 13, none, .ld (.t 12)⟩, ⟨some 14, none, .bin .or (.t 11) (.t 13)⟩, ⟨some 15, none, .build [.int .i64 0, .int .u64 0] [(0, 1, (.t 9)), (1, 1, (.t 14))]⟩, ⟨none, none, .st 2 (.t 4) (.t 15)⟩])
  .ret))
theorem Tryd.known15 : KnownC Tryd.prog 15 Tryd.pc15 16 4 (some 2) := ⟨Tryd.f15, _, _, Tryd.func15, rfl, by kernel_rfl, rfl, rfl, by kernel_rfl⟩

/-- redwax/label.Meet -/
def Tryd.pc16 : PC :=
  (.seq (.ops [⟨some 2, none, .bx 24 (.t 0)⟩, ⟨some 3, none, .bx 24 (.t 1)⟩, ⟨some 4, none, .al 24 [.int .i64 0, .int .u64 0]⟩])
  (.seq (.ops [⟨some 5, none, .fa 0 (.t 2)⟩, ⟨some 6, none, .ld (.t 5)⟩, ⟨some 7, none, .fa 0 (.t 3)⟩, ⟨some 8, none, .ld (.t 7)⟩, ⟨some 9, none, .mnx false [(.t 6), (.t 8)]⟩, ⟨some 10, none, .fa 1 (.t 2)⟩, ⟨some 11, none, .ld (.t 10)⟩, ⟨some 12, none, .fa 1 (.t 3)⟩, ⟨some 13, none, .ld (.t 12)⟩, ⟨some 14, none, .bin .and (.t 11) (.t 13)⟩, ⟨some 15, none, .build [.int .i64 0, .int .u64 0] [(0, 1, (.t 9)), (1, 1, (.t 14))]⟩, ⟨none, none, .st 2 (.t 4) (.t 15)⟩])
  .ret))
theorem Tryd.known16 : KnownC Tryd.prog 16 Tryd.pc16 16 4 (some 2) := ⟨Tryd.f16, _, _, Tryd.func16, rfl, by kernel_rfl, rfl, rfl, by kernel_rfl⟩

/-- redwax/label.Below -/
def Tryd.pc17 : PC :=
  (.seq (.ops [⟨some 2, none, .bx 24 (.t 0)⟩, ⟨some 3, none, .bx 24 (.t 1)⟩, ⟨some 4, none, .mov (.v (.bool false))⟩])
  (.seq (.ops [⟨some 5, none, .fa 0 (.t 2)⟩, ⟨some 6, none, .ld (.t 5)⟩, ⟨some 7, none, .fa 0 (.t 3)⟩, ⟨some 8, none, .ld (.t 7)⟩, ⟨some 9, none, .bin .leq (.t 6) (.t 8)⟩, ⟨some 10, none, .mov (.t 9)⟩, ⟨some 11, (some (10, true)), .fa 1 (.t 2)⟩, ⟨some 12, (some (10, true)), .ld (.t 11)⟩, ⟨some 13, (some (10, true)), .fa 1 (.t 3)⟩, ⟨some 14, (some (10, true)), .ld (.t 13)⟩, ⟨some 15, (some (10, true)), .bin .andNot (.t 12) (.t 14)⟩, ⟨some 16, (some (10, true)), .bin .eql (.t 15) (.v (.int .u64 0))⟩, ⟨some 17, none, .pick (.t 10) (.t 16) (.v (.bool false))⟩, ⟨some 4, none, .mov (.t 17)⟩])
  .ret))
theorem Tryd.known17 : Known Tryd.prog 17 Tryd.pc17 18 [4] := ⟨Tryd.f17, _, Tryd.func17, rfl, by kernel_rfl, rfl, rfl⟩

/-- redwax/label.Check -/
def Tryd.pc18 : PC :=
  (.seq (.ops [⟨some 1, none, .bx 24 (.t 0)⟩, ⟨some 2, none, .mov (.v (.int .i64 0))⟩])
  (.seq (.seq (.ops [⟨some 3, none, .fa 0 (.t 1)⟩, ⟨some 4, none, .ld (.t 3)⟩, ⟨some 5, none, .bin .lss (.t 4) (.v (.int .i64 0))⟩, ⟨some 6, none, .mov (.t 5)⟩, ⟨some 7, (some (6, false)), .fa 0 (.t 1)⟩, ⟨some 8, (some (6, false)), .ld (.t 7)⟩, ⟨some 9, (some (6, false)), .bin .gtr (.t 8) (.v (.int .i64 15))⟩, ⟨some 10, none, .pick (.t 6) (.v (.bool true)) (.t 9)⟩])
  (.cond (.t 10) (.seq (.ops [⟨some 2, none, .mov (.v (.int .i64 2))⟩])
   .ret) .skip))
  (.seq (.ops [⟨some 2, none, .mov (.v (.int .i64 0))⟩])
  .ret)))
theorem Tryd.known18 : Known Tryd.prog 18 Tryd.pc18 11 [2] := ⟨Tryd.f18, _, Tryd.func18, rfl, by kernel_rfl, rfl, rfl⟩

/-- redwax/label.Top -/
def Tryd.pc19 : PC :=
  (.seq (.ops [⟨some 0, none, .al 24 [.int .i64 0, .int .u64 0]⟩])
  (.seq (.ops [⟨some 1, none, .build [.int .i64 0, .int .u64 0] [(0, 1, (.v (.int .i64 15))), (1, 1, (.v (.int .u64 18446744073709551615)))]⟩, ⟨none, none, .st 2 (.t 0) (.t 1)⟩])
  .ret))
theorem Tryd.known19 : KnownC Tryd.prog 19 Tryd.pc19 2 0 (some 2) := ⟨Tryd.f19, _, _, Tryd.func19, rfl, by kernel_rfl, rfl, rfl, by kernel_rfl⟩

/-- redwax/redwaxref05.May -/
def Tryd.pc21 : PC :=
  (.seq (.ops [⟨some 1, none, .bx 24 (.t 0)⟩, ⟨some 2, none, .mov (.v (.bool false))⟩])
  (.seq (.ops [⟨some 3, none, .fa 0 (.t 1)⟩, ⟨some 4, none, .ld (.t 3)⟩, ⟨some 5, none, .bin .geq (.t 4) (.v (.int .i64 0))⟩, ⟨some 6, none, .mov (.t 5)⟩, ⟨some 7, (some (6, true)), .fa 0 (.t 1)⟩, ⟨some 8, (some (6, true)), .ld (.t 7)⟩, ⟨some 9, (some (6, true)), .bin .leq (.t 8) (.v (.int .i64 15))⟩, ⟨some 10, none, .pick (.t 6) (.t 9) (.v (.bool false))⟩, ⟨some 2, none, .mov (.t 10)⟩])
  .ret))
theorem Tryd.known21 : Known Tryd.prog 21 Tryd.pc21 11 [2] := ⟨Tryd.f21, _, Tryd.func21, rfl, by kernel_rfl, rfl, rfl⟩

/-- redwax/redwaxref05.Below -/
def Tryd.pc22 : PC :=
  (.seq (.ops [⟨some 2, none, .bx 24 (.t 0)⟩, ⟨some 3, none, .bx 24 (.t 1)⟩, ⟨some 4, none, .mov (.v (.bool false))⟩])
  (.seq (.seq (.ops [⟨some 6, none, .fa 0 (.t 2)⟩, ⟨some 7, none, .ld (.t 6)⟩, ⟨some 8, none, .fa 0 (.t 3)⟩, ⟨some 9, none, .ld (.t 8)⟩, ⟨some 10, none, .bin .gtr (.t 7) (.t 9)⟩])
  (.cond (.t 10) (.seq (.ops [⟨some 4, none, .mov (.v (.bool false))⟩])
   .ret) .skip))
  (.seq (.seq (.ops [⟨some 5, none, .mov (.v (.int .i64 0))⟩])
  (.block 0 (.loop (.seq (.seq (.ops [⟨some 11, none, .mov (.t 5)⟩, ⟨some 12, none, .bin .lss (.t 11) (.v (.int .i64 64))⟩])
    (.cond (.t 12) .skip (.exit 0)))
    (.seq (.block 1 (.seq (.ops [⟨some 15, none, .ldA 2 (.t 2)⟩, ⟨some 16, none, .mov (.t 5)⟩, ⟨some 17, none, .call 58 [(.t 15), (.t 16)]⟩, ⟨some 18, none, .mov (.t 17)⟩, ⟨some 19, (some (18, true)), .ldA 2 (.t 3)⟩, ⟨some 20, (some (18, true)), .mov (.t 5)⟩, ⟨some 21, (some (18, true)), .call 58 [(.t 19), (.t 20)]⟩, ⟨some 22, (some (18, true)), .not (.t 21)⟩, ⟨some 23, none, .pick (.t 18) (.t 22) (.v (.bool false))⟩])
     (.cond (.t 23) (.seq (.ops [⟨some 4, none, .mov (.v (.bool false))⟩])
      .ret) .skip)))
    (.ops [⟨some 13, none, .mov (.t 5)⟩, ⟨some 14, none, .bin .add (.t 13) (.v (.int .i64 1))⟩, ⟨some 5, none, .mov (.t 14)⟩]))))))
  (.seq (.ops [⟨some 4, none, .mov (.v (.bool true))⟩])
  .ret))))
theorem Tryd.known22 : Known Tryd.prog 22 Tryd.pc22 24 [4] := ⟨Tryd.f22, _, Tryd.func22, rfl, by kernel_rfl, rfl, rfl⟩

/-- redwax/redwaxref05.Join -/
def Tryd.pc23 : PC :=
  (.seq (.ops [⟨some 2, none, .bx 24 (.t 0)⟩, ⟨some 3, none, .bx 24 (.t 1)⟩, ⟨some 4, none, .al 24 [.int .i64 0, .int .u64 0]⟩])
  (.seq (.ops [⟨some 6, none, .fa 0 (.t 2)⟩, ⟨some 7, none, .ld (.t 6)⟩, ⟨some 5, none, .mov (.t 7)⟩])
  (.seq (.seq (.ops [⟨some 8, none, .fa 0 (.t 3)⟩, ⟨some 9, none, .ld (.t 8)⟩, ⟨some 10, none, .mov (.t 5)⟩, ⟨some 11, none, .bin .gtr (.t 9) (.t 10)⟩])
  (.cond (.t 11) (.ops [⟨some 12, none, .fa 0 (.t 3)⟩, ⟨some 13, none, .ld (.t 12)⟩, ⟨some 5, none, .mov (.t 13)⟩]) .skip))
  (.seq (.ops [⟨some 14, none, .mov (.t 5)⟩, ⟨some 15, none, .ldA 2 (.t 2)⟩, ⟨some 16, none, .ldA 2 (.t 3)⟩, ⟨some 17, none, .call 59 [(.t 14), (.t 15), (.t 16), (.v (.bool false))]⟩, ⟨none, none, .st 2 (.t 4) (.t 17)⟩])
  .ret))))
theorem Tryd.known23 : KnownC Tryd.prog 23 Tryd.pc23 18 4 (some 2) := ⟨Tryd.f23, _, _, Tryd.func23, rfl, by kernel_rfl, rfl, rfl, by kernel_rfl⟩

/-- redwax/redwaxref05.Meet -/
def Tryd.pc24 : PC :=
  (.seq (.ops [⟨some 2, none, .bx 24 (.t 0)⟩, ⟨some 3, none, .bx 24 (.t 1)⟩, ⟨some 4, none, .al 24 [.int .i64 0, .int .u64 0]⟩])
  (.seq (.ops [⟨some 6, none, .fa 0 (.t 2)⟩, ⟨some 7, none, .ld (.t 6)⟩, ⟨some 5, none, .mov (.t 7)⟩])
  (.seq (.seq (.ops [⟨some 8, none, .fa 0 (.t 3)⟩, ⟨some 9, none, .ld (.t 8)⟩, ⟨some 10, none, .mov (.t 5)⟩, ⟨some 11, none, .bin .lss (.t 9) (.t 10)⟩])
  (.cond (.t 11) (.ops [⟨some 12, none, .fa 0 (.t 3)⟩, ⟨some 13, none, .ld (.t 12)⟩, ⟨some 5, none, .mov (.t 13)⟩]) .skip))
  (.seq (.ops [⟨some 14, none, .mov (.t 5)⟩, ⟨some 15, none, .ldA 2 (.t 2)⟩, ⟨some 16, none, .ldA 2 (.t 3)⟩, ⟨some 17, none, .call 59 [(.t 14), (.t 15), (.t 16), (.v (.bool true))]⟩, ⟨none, none, .st 2 (.t 4) (.t 17)⟩])
  .ret))))
theorem Tryd.known24 : KnownC Tryd.prog 24 Tryd.pc24 18 4 (some 2) := ⟨Tryd.f24, _, _, Tryd.func24, rfl, by kernel_rfl, rfl, rfl, by kernel_rfl⟩

/-- redwax/label.Order -/
def Tryd.pc25 : PC :=
  (.seq (.ops [⟨some 2, none, .bx 24 (.t 0)⟩, ⟨some 3, none, .bx 24 (.t 1)⟩, ⟨some 4, none, .mov (.v (.int .i64 0))⟩])
  (.seq (.quiet 9 [⟨some 5, none, .fa 0 (.t 2)⟩, ⟨some 6, none, .ld (.t 5)⟩, ⟨some 7, none, .fa 0 (.t 3)⟩, ⟨some 8, none, .ld (.t 7)⟩, ⟨some 9, none, .call 61 [(.t 6), (.t 8)]⟩, ⟨some 10, none, .fa 1 (.t 2)⟩, ⟨some 11, none, .ld (.t 10)⟩, ⟨some 12, none, .fa 1 (.t 3)⟩, ⟨some 13, none, .ld (.t 12)⟩, ⟨some 14, none, .call 62 [(.t 11), (.t 13)]⟩, ⟨some 15, none, .bsl 3 [.int .i64 0, .int .i64 0] 2 [(0, 1, (.t 9)), (1, 1, (.t 14))]⟩, ⟨some 16, none, .call 60 [(.t 15)]⟩, ⟨some 4, none, .mov (.t 16)⟩])
  .ret))
theorem Tryd.known25 : Known Tryd.prog 25 Tryd.pc25 17 [4] := ⟨Tryd.f25, _, Tryd.func25, rfl, by kernel_rfl, rfl, rfl⟩

/-- redwax/redwaxref05.Order -/
def Tryd.pc26 : PC :=
  (.seq (.ops [⟨some 2, none, .bx 24 (.t 0)⟩, ⟨some 3, none, .bx 24 (.t 1)⟩, ⟨some 4, none, .mov (.v (.int .i64 0))⟩])
  (.seq (.seq (.ops [⟨some 5, none, .fa 0 (.t 2)⟩, ⟨some 6, none, .ld (.t 5)⟩, ⟨some 7, none, .fa 0 (.t 3)⟩, ⟨some 8, none, .ld (.t 7)⟩, ⟨some 9, none, .bin .neq (.t 6) (.t 8)⟩])
  (.cond (.t 9) (.seq (.seq (.ops [⟨some 10, none, .fa 0 (.t 2)⟩, ⟨some 11, none, .ld (.t 10)⟩, ⟨some 12, none, .fa 0 (.t 3)⟩, ⟨some 13, none, .ld (.t 12)⟩, ⟨some 14, none, .bin .lss (.t 11) (.t 13)⟩])
   (.cond (.t 14) (.seq (.ops [⟨some 4, none, .mov (.v (.int .i64 (-1)))⟩])
    .ret) .skip))
   (.seq (.ops [⟨some 4, none, .mov (.v (.int .i64 1))⟩])
   .ret)) .skip))
  (.seq (.seq (.ops [⟨some 15, none, .fa 1 (.t 2)⟩, ⟨some 16, none, .ld (.t 15)⟩, ⟨some 17, none, .fa 1 (.t 3)⟩, ⟨some 18, none, .ld (.t 17)⟩, ⟨some 19, none, .bin .lss (.t 16) (.t 18)⟩])
  (.cond (.t 19) (.seq (.ops [⟨some 4, none, .mov (.v (.int .i64 (-1)))⟩])
   .ret) .skip))
  (.seq (.seq (.ops [⟨some 20, none, .fa 1 (.t 2)⟩, ⟨some 21, none, .ld (.t 20)⟩, ⟨some 22, none, .fa 1 (.t 3)⟩, ⟨some 23, none, .ld (.t 22)⟩, ⟨some 24, none, .bin .gtr (.t 21) (.t 23)⟩])
  (.cond (.t 24) (.seq (.ops [⟨some 4, none, .mov (.v (.int .i64 1))⟩])
   .ret) .skip))
  (.seq (.ops [⟨some 4, none, .mov (.v (.int .i64 0))⟩])
  .ret)))))
theorem Tryd.known26 : Known Tryd.prog 26 Tryd.pc26 25 [4] := ⟨Tryd.f26, _, Tryd.func26, rfl, by kernel_rfl, rfl, rfl⟩

/-- redwax/label.Sorted -/
def Tryd.pc50 : PC :=
  (.seq (.ops [⟨some 2, none, .mov (.v (.slice none 0 0))⟩])
  (.seq (.ops [⟨some 4, none, .mov (.t 0)⟩, ⟨some 5, none, .call 78 [(.t 4)]⟩, ⟨some 3, none, .mov (.t 5)⟩])
  (.seq (.ops [⟨some 6, none, .mov (.t 3)⟩, ⟨some 7, none, .call 79 [(.t 6), (.v (.func (.func 25) #[] #[]))]⟩])
  (.seq (.ops [⟨some 8, none, .mov (.t 3)⟩, ⟨some 9, none, .call 80 [(.t 8)]⟩, ⟨some 2, none, .mov (.t 9)⟩])
  .ret))))
theorem Tryd.known50 : Known Tryd.prog 50 Tryd.pc50 10 [2] := ⟨Tryd.f50, _, Tryd.func50, rfl, by kernel_rfl, rfl, rfl⟩

/-- redwax/redwaxref05.Same -/
def Tryd.pc51 : PC :=
  (.seq (.ops [⟨some 4, none, .mov (.v (.bool false))⟩])
  (.seq (.seq (.ops [⟨some 6, none, .mov (.t 0)⟩, ⟨some 7, none, .lenS (.t 6)⟩, ⟨some 8, none, .mov (.t 1)⟩, ⟨some 9, none, .lenS (.t 8)⟩, ⟨some 10, none, .bin .neq (.t 7) (.t 9)⟩])
  (.cond (.t 10) (.seq (.ops [⟨some 4, none, .mov (.v (.bool false))⟩])
   .ret) .skip))
  (.seq (.seq (.ops [⟨some 5, none, .mov (.v (.int .i64 0))⟩])
  (.block 0 (.loop (.seq (.seq (.ops [⟨some 11, none, .mov (.t 5)⟩, ⟨some 12, none, .mov (.t 0)⟩, ⟨some 13, none, .lenS (.t 12)⟩, ⟨some 14, none, .bin .lss (.t 11) (.t 13)⟩])
    (.cond (.t 14) .skip (.exit 0)))
    (.seq (.block 1 (.seq (.quiet 8 [⟨some 17, none, .mov (.t 0)⟩, ⟨some 18, none, .mov (.t 5)⟩, ⟨some 19, none, .ixS 2 (.t 17) (.t 18)⟩, ⟨some 20, none, .ldA 2 (.t 19)⟩, ⟨some 21, none, .mov (.t 1)⟩, ⟨some 22, none, .mov (.t 5)⟩, ⟨some 23, none, .ixS 2 (.t 21) (.t 22)⟩, ⟨some 24, none, .ldA 2 (.t 23)⟩, ⟨some 25, none, .eqA true 24 [.int .i64, .int .u64] (.t 20) (.t 24)⟩])
     (.cond (.t 25) (.seq (.ops [⟨some 4, none, .mov (.v (.bool false))⟩])
      .ret) .skip)))
    (.ops [⟨some 15, none, .mov (.t 5)⟩, ⟨some 16, none, .bin .add (.t 15) (.v (.int .i64 1))⟩, ⟨some 5, none, .mov (.t 16)⟩]))))))
  (.seq (.ops [⟨some 4, none, .mov (.v (.bool true))⟩])
  .ret))))
theorem Tryd.known51 : Known Tryd.prog 51 Tryd.pc51 26 [4] := ⟨Tryd.f51, _, Tryd.func51, rfl, by kernel_rfl, rfl, rfl⟩

/-- redwax/redwaxref05.Sorted -/
def Tryd.pc52 : PC :=
  (.seq (.ops [⟨some 2, none, .mov (.v (.slice none 0 0))⟩])
  (.seq (.ops [⟨some 3, none, .mov (.v (.slice none 0 0))⟩])
  (.seq (.seq (.ops [⟨some 4, none, .mov (.v (.int .i64 0))⟩])
  (.block 0 (.loop (.seq (.seq (.ops [⟨some 7, none, .mov (.t 4)⟩, ⟨some 8, none, .mov (.t 0)⟩, ⟨some 9, none, .lenS (.t 8)⟩, ⟨some 10, none, .bin .lss (.t 7) (.t 9)⟩])
    (.cond (.t 10) .skip (.exit 0)))
    (.seq (.block 1 (.seq (.ops [⟨some 5, none, .mov (.v (.int .i64 0))⟩])
     (.seq (.block 2 (.loop (.seq (.seq (.quiet 13 [⟨some 13, none, .mov (.t 5)⟩, ⟨some 14, none, .mov (.t 3)⟩, ⟨some 15, none, .lenS (.t 14)⟩, ⟨some 16, none, .bin .lss (.t 13) (.t 15)⟩, ⟨some 17, none, .mov (.t 16)⟩, ⟨some 18, (some (17, true)), .mov (.t 3)⟩, ⟨some 19, (some (17, true)), .mov (.t 5)⟩, ⟨some 20, (some (17, true)), .ixS 2 (.t 18) (.t 19)⟩, ⟨some 21, (some (17, true)), .ldA 2 (.t 20)⟩, ⟨some 22, (some (17, true)), .mov (.t 0)⟩, ⟨some 23, (some (17, true)), .mov (.t 4)⟩, ⟨some 24, (some (17, true)), .ixS 2 (.t 22) (.t 23)⟩, ⟨some 25, (some (17, true)), .ldA 2 (.t 24)⟩, ⟨some 26, (some (17, true)), .call 26 [(.t 21), (.t 25)]⟩, ⟨some 27, (some (17, true)), .bin .lss (.t 26) (.v (.int .i64 0))⟩, ⟨some 28, none, .pick (.t 17) (.t 27) (.v (.bool false))⟩])
       (.cond (.t 28) .skip (.exit 2)))
       (.block 3 (.ops [⟨some 29, none, .mov (.t 5)⟩, ⟨some 30, none, .bin .add (.t 29) (.v (.int .i64 1))⟩, ⟨some 5, none, .mov (.t 30)⟩])))))
     (.seq (.seq (.quiet 13 [⟨some 31, none, .mov (.t 5)⟩, ⟨some 32, none, .mov (.t 3)⟩, ⟨some 33, none, .lenS (.t 32)⟩, ⟨some 34, none, .bin .lss (.t 31) (.t 33)⟩, ⟨some 35, none, .mov (.t 34)⟩, ⟨some 36, (some (35, true)), .mov (.t 3)⟩, ⟨some 37, (some (35, true)), .mov (.t 5)⟩, ⟨some 38, (some (35, true)), .ixS 2 (.t 36) (.t 37)⟩, ⟨some 39, (some (35, true)), .ldA 2 (.t 38)⟩, ⟨some 40, (some (35, true)), .mov (.t 0)⟩, ⟨some 41, (some (35, true)), .mov (.t 4)⟩, ⟨some 42, (some (35, true)), .ixS 2 (.t 40) (.t 41)⟩, ⟨some 43, (some (35, true)), .ldA 2 (.t 42)⟩, ⟨some 44, (some (35, true)), .eqA false 24 [.int .i64, .int .u64] (.t 39) (.t 43)⟩, ⟨some 45, none, .pick (.t 35) (.t 44) (.v (.bool false))⟩])
     (.cond (.t 45) (.exit 1) .skip))
     (.seq (.ops [⟨some 6, none, .mov (.v (.slice none 0 0))⟩])
     (.seq (.ops [⟨some 46, none, .mov (.t 6)⟩, ⟨some 47, none, .mov (.t 3)⟩, ⟨some 48, none, .mov (.t 5)⟩, ⟨some 49, none, .slS 2 (.t 47) none (some (.t 48))⟩, ⟨some 50, none, .app 61 24 2 16 (.agg #[.int .i64 0, .int .u64 0]) (.t 46) (.t 49)⟩, ⟨some 6, none, .mov (.t 50)⟩])
     (.seq (.ops [⟨some 51, none, .mov (.t 6)⟩, ⟨some 52, none, .mov (.t 0)⟩, ⟨some 53, none, .mov (.t 4)⟩, ⟨some 54, none, .ixS 2 (.t 52) (.t 53)⟩, ⟨some 55, none, .ldA 2 (.t 54)⟩, ⟨some 56, none, .bsl 24 [.int .i64 0, .int .u64 0] 1 [(0, 2, (.t 55))]⟩, ⟨some 57, none, .app 61 24 2 16 (.agg #[.int .i64 0, .int .u64 0]) (.t 51) (.t 56)⟩, ⟨some 6, none, .mov (.t 57)⟩])
     (.ops [⟨some 58, none, .mov (.t 6)⟩, ⟨some 59, none, .mov (.t 3)⟩, ⟨some 60, none, .mov (.t 5)⟩, ⟨some 61, none, .slS 2 (.t 59) (some (.t 60)) none⟩, ⟨some 62, none, .app 61 24 2 16 (.agg #[.int .i64 0, .int .u64 0]) (.t 58) (.t 61)⟩, ⟨some 3, none, .mov (.t 62)⟩]))))))))
    (.ops [⟨some 11, none, .mov (.t 4)⟩, ⟨some 12, none, .bin .add (.t 11) (.v (.int .i64 1))⟩, ⟨some 4, none, .mov (.t 12)⟩]))))))
  (.seq (.ops [⟨some 63, none, .mov (.t 3)⟩, ⟨some 2, none, .mov (.t 63)⟩])
  .ret))))
theorem Tryd.known52 : Known Tryd.prog 52 Tryd.pc52 64 [2] := ⟨Tryd.f52, _, Tryd.func52, rfl, by kernel_rfl, rfl, rfl⟩

/-- redwax/redwaxlaw05.of -/
def Tryd.pc55 : PC :=
  (.seq (.ops [⟨some 4, none, .al 24 [.int .i64 0, .int .u64 0]⟩])
  (.seq (.ops [⟨some 5, none, .mov (.t 0)⟩, ⟨some 6, none, .mov (.t 1)⟩, ⟨some 7, none, .build [.int .i64 0, .int .u64 0] [(0, 1, (.t 5)), (1, 1, (.t 6))]⟩, ⟨none, none, .st 2 (.t 4) (.t 7)⟩])
  .ret))
theorem Tryd.known55 : KnownC Tryd.prog 55 Tryd.pc55 8 4 (some 2) := ⟨Tryd.f55, _, _, Tryd.func55, rfl, by kernel_rfl, rfl, rfl, by kernel_rfl⟩

/-- redwax/redwaxref05.has -/
def Tryd.pc58 : PC :=
  (.seq (.ops [⟨some 2, none, .bx 24 (.t 0)⟩, ⟨some 4, none, .mov (.v (.bool false))⟩])
  (.seq (.ops [⟨some 5, none, .fa 1 (.t 2)⟩, ⟨some 6, none, .ld (.t 5)⟩, ⟨some 7, none, .mov (.t 1)⟩, ⟨some 8, none, .cvt .u64 (.t 7)⟩, ⟨some 9, none, .bin .shr (.t 6) (.t 8)⟩, ⟨some 10, none, .bin .rem (.t 9) (.v (.int .u64 2))⟩, ⟨some 11, none, .bin .eql (.t 10) (.v (.int .u64 1))⟩, ⟨some 4, none, .mov (.t 11)⟩])
  .ret))
theorem Tryd.known58 : Known Tryd.prog 58 Tryd.pc58 12 [4] := ⟨Tryd.f58, _, Tryd.func58, rfl, by kernel_rfl, rfl, rfl⟩

/-- redwax/redwaxref05.both -/
def Tryd.pc59 : PC :=
  (.seq (.ops [⟨some 5, none, .bx 24 (.t 1)⟩, ⟨some 6, none, .bx 24 (.t 2)⟩, ⟨some 8, none, .al 24 [.int .i64 0, .int .u64 0]⟩])
  (.seq (.ops [⟨some 11, none, .mov (.t 0)⟩, ⟨some 12, none, .build [.int .i64 0, .int .u64 0] [(0, 1, (.t 11))]⟩, ⟨some 9, none, .al 24 [.int .i64 0, .int .u64 0]⟩, ⟨none, none, .st 2 (.t 9) (.t 12)⟩])
  (.seq (.seq (.ops [⟨some 10, none, .mov (.v (.int .i64 63))⟩])
  (.block 0 (.loop (.seq (.seq (.ops [⟨some 13, none, .mov (.t 10)⟩, ⟨some 14, none, .bin .geq (.t 13) (.v (.int .i64 0))⟩])
    (.cond (.t 14) .skip (.exit 0)))
    (.seq (.block 1 (.seq (.ops [⟨some 17, none, .fa 1 (.t 9)⟩, ⟨some 18, none, .ld (.t 17)⟩, ⟨some 19, none, .bin .mul (.v (.int .u64 2)) (.t 18)⟩, ⟨some 20, none, .fa 1 (.t 9)⟩, ⟨none, none, .st 1 (.t 20) (.t 19)⟩])
     (.seq (.ops [⟨some 21, none, .ldA 2 (.t 5)⟩, ⟨some 22, none, .mov (.t 10)⟩, ⟨some 23, none, .call 58 [(.t 21), (.t 22)]⟩, ⟨some 24, none, .mov (.t 23)⟩, ⟨some 25, (some (24, true)), .ldA 2 (.t 6)⟩, ⟨some 26, (some (24, true)), .mov (.t 10)⟩, ⟨some 27, (some (24, true)), .call 58 [(.t 25), (.t 26)]⟩, ⟨some 28, none, .pick (.t 24) (.t 27) (.v (.bool false))⟩, ⟨some 29, none, .mov (.t 28)⟩, ⟨some 30, (some (29, false)), .mov (.t 3)⟩, ⟨some 31, (some (29, false)), .not (.t 30)⟩, ⟨some 32, (some (29, false)), .mov (.t 31)⟩, ⟨some 33, (some (32, true)), .ldA 2 (.t 5)⟩, ⟨some 34, (some (32, true)), .mov (.t 10)⟩, ⟨some 35, (some (32, true)), .call 58 [(.t 33), (.t 34)]⟩, ⟨some 36, (some (32, true)), .mov (.t 35)⟩, ⟨some 37, (some (36, false)), .ldA 2 (.t 6)⟩, ⟨some 38, (some (36, false)), .mov (.t 10)⟩, ⟨some 39, (some (36, false)), .call 58 [(.t 37), (.t 38)]⟩, ⟨some 40, (some (32, true)), .pick (.t 36) (.v (.bool true)) (.t 39)⟩, ⟨some 41, (some (29, false)), .pick (.t 32) (.t 40) (.v (.bool false))⟩, ⟨some 42, none, .pick (.t 29) (.v (.bool true)) (.t 41)⟩])
     (.cond (.t 42) (.ops [⟨some 43, none, .fa 1 (.t 9)⟩, ⟨some 44, none, .ld (.t 43)⟩, ⟨some 45, none, .bin .add (.t 44) (.v (.int .u64 1))⟩, ⟨some 46, none, .fa 1 (.t 9)⟩, ⟨none, none, .st 1 (.t 46) (.t 45)⟩]) .skip))))
    (.ops [⟨some 15, none, .mov (.t 10)⟩, ⟨some 16, none, .bin .sub (.t 15) (.v (.int .i64 1))⟩, ⟨some 10, none, .mov (.t 16)⟩]))))))
  (.seq (.ops [⟨some 47, none, .ldA 2 (.t 9)⟩, ⟨none, none, .st 2 (.t 8) (.t 47)⟩])
  .ret))))
theorem Tryd.known59 : KnownC Tryd.prog 59 Tryd.pc59 48 8 (some 2) := ⟨Tryd.f59, _, _, Tryd.func59, rfl, by kernel_rfl, rfl, rfl, by kernel_rfl⟩

/-- cmp.Or[int] -/
def Tryd.pc60 : PC :=
  (.seq (.ops [⟨some 2, none, .mov (.v (.int .i64 0))⟩])
  (.seq (.ops [⟨some 3, none, .mov (.v (.int .i64 0))⟩])
  (.seq (.seq (.ops [⟨some 6, none, .mov (.t 0)⟩, ⟨some 7, none, .lenS (.t 6)⟩, ⟨some 8, none, .mov (.v (.int .i64 0))⟩])
  (.block 0 (.loop (.seq (.ops [⟨some 9, none, .bin .lss (.t 8) (.t 7)⟩])
    (.seq (.cond (.t 9) .skip (.exit 0))
    (.seq (.block 1 (.seq (.ops [⟨some 10, none, .ixS 1 (.t 6) (.t 8)⟩, ⟨some 11, none, .ld (.t 10)⟩, ⟨some 5, none, .mov (.t 11)⟩])
     (.seq (.ops [⟨some 12, none, .mov (.t 5)⟩, ⟨some 13, none, .mov (.t 3)⟩, ⟨some 14, none, .bin .neq (.t 12) (.t 13)⟩])
     (.cond (.t 14) (.seq (.ops [⟨some 15, none, .mov (.t 5)⟩, ⟨some 2, none, .mov (.t 15)⟩])
      .ret) .skip))))
    (.ops [⟨some 16, none, .bin .add (.t 8) (.v (.int .i64 1))⟩, ⟨some 8, none, .mov (.t 16)⟩])))))))
  (.seq (.ops [⟨some 17, none, .mov (.t 3)⟩, ⟨some 2, none, .mov (.t 17)⟩])
  .ret))))
theorem Tryd.known60 : Known Tryd.prog 60 Tryd.pc60 18 [2] := ⟨Tryd.f60, _, Tryd.func60, rfl, by kernel_rfl, rfl, rfl⟩

/-- cmp.Compare[int] -/
def Tryd.pc61 : PC :=
  (.seq (.ops [⟨some 4, none, .mov (.v (.int .i64 0))⟩])
  (.seq (.ops [⟨some 7, none, .mov (.t 0)⟩, ⟨some 8, none, .call 86 [(.t 7)]⟩, ⟨some 5, none, .mov (.t 8)⟩])
  (.seq (.ops [⟨some 9, none, .mov (.t 1)⟩, ⟨some 10, none, .call 86 [(.t 9)]⟩, ⟨some 6, none, .mov (.t 10)⟩])
  (.seq (.seq (.ops [⟨some 11, none, .mov (.t 5)⟩])
  (.cond (.t 11) (.seq (.seq (.ops [⟨some 12, none, .mov (.t 6)⟩])
   (.cond (.t 12) (.seq (.ops [⟨some 4, none, .mov (.v (.int .i64 0))⟩])
    .ret) .skip))
   (.seq (.ops [⟨some 4, none, .mov (.v (.int .i64 (-1)))⟩])
   .ret)) .skip))
  (.seq (.seq (.ops [⟨some 13, none, .mov (.t 6)⟩])
  (.cond (.t 13) (.seq (.ops [⟨some 4, none, .mov (.v (.int .i64 1))⟩])
   .ret) .skip))
  (.seq (.seq (.ops [⟨some 14, none, .mov (.t 0)⟩, ⟨some 15, none, .mov (.t 1)⟩, ⟨some 16, none, .bin .lss (.t 14) (.t 15)⟩])
  (.cond (.t 16) (.seq (.ops [⟨some 4, none, .mov (.v (.int .i64 (-1)))⟩])
   .ret) .skip))
  (.seq (.seq (.ops [⟨some 17, none, .mov (.t 0)⟩, ⟨some 18, none, .mov (.t 1)⟩, ⟨some 19, none, .bin .gtr (.t 17) (.t 18)⟩])
  (.cond (.t 19) (.seq (.ops [⟨some 4, none, .mov (.v (.int .i64 1))⟩])
   .ret) .skip))
  (.seq (.ops [⟨some 4, none, .mov (.v (.int .i64 0))⟩])
  .ret))))))))
theorem Tryd.known61 : Known Tryd.prog 61 Tryd.pc61 20 [4] := ⟨Tryd.f61, _, Tryd.func61, rfl, by kernel_rfl, rfl, rfl⟩

/-- cmp.Compare[uint64] -/
def Tryd.pc62 : PC :=
  (.seq (.ops [⟨some 4, none, .mov (.v (.int .i64 0))⟩])
  (.seq (.ops [⟨some 7, none, .mov (.t 0)⟩, ⟨some 8, none, .call 87 [(.t 7)]⟩, ⟨some 5, none, .mov (.t 8)⟩])
  (.seq (.ops [⟨some 9, none, .mov (.t 1)⟩, ⟨some 10, none, .call 87 [(.t 9)]⟩, ⟨some 6, none, .mov (.t 10)⟩])
  (.seq (.seq (.ops [⟨some 11, none, .mov (.t 5)⟩])
  (.cond (.t 11) (.seq (.seq (.ops [⟨some 12, none, .mov (.t 6)⟩])
   (.cond (.t 12) (.seq (.ops [⟨some 4, none, .mov (.v (.int .i64 0))⟩])
    .ret) .skip))
   (.seq (.ops [⟨some 4, none, .mov (.v (.int .i64 (-1)))⟩])
   .ret)) .skip))
  (.seq (.seq (.ops [⟨some 13, none, .mov (.t 6)⟩])
  (.cond (.t 13) (.seq (.ops [⟨some 4, none, .mov (.v (.int .i64 1))⟩])
   .ret) .skip))
  (.seq (.seq (.ops [⟨some 14, none, .mov (.t 0)⟩, ⟨some 15, none, .mov (.t 1)⟩, ⟨some 16, none, .bin .lss (.t 14) (.t 15)⟩])
  (.cond (.t 16) (.seq (.ops [⟨some 4, none, .mov (.v (.int .i64 (-1)))⟩])
   .ret) .skip))
  (.seq (.seq (.ops [⟨some 17, none, .mov (.t 0)⟩, ⟨some 18, none, .mov (.t 1)⟩, ⟨some 19, none, .bin .gtr (.t 17) (.t 18)⟩])
  (.cond (.t 19) (.seq (.ops [⟨some 4, none, .mov (.v (.int .i64 1))⟩])
   .ret) .skip))
  (.seq (.ops [⟨some 4, none, .mov (.v (.int .i64 0))⟩])
  .ret))))))))
theorem Tryd.known62 : Known Tryd.prog 62 Tryd.pc62 20 [4] := ⟨Tryd.f62, _, Tryd.func62, rfl, by kernel_rfl, rfl, rfl⟩

/-- slices.Clone[[]redwax/api.Label,redwax/api.Label] -/
def Tryd.pc78 : PC :=
  (.seq (.ops [⟨some 2, none, .mov (.v (.slice none 0 0))⟩])
  (.seq (.seq (.ops [⟨some 3, none, .mov (.t 0)⟩, ⟨some 4, none, .more (.slNil false (.t 3))⟩])
  (.cond (.t 4) (.seq (.ops [⟨some 2, none, .mov (.v (.slice none 0 0))⟩])
   .ret) .skip))
  (.seq (.ops [⟨some 5, none, .bsl0 24⟩, ⟨some 6, none, .mov (.t 0)⟩, ⟨some 7, none, .app 61 24 2 16 (.agg #[.int .i64 0, .int .u64 0]) (.t 5) (.t 6)⟩, ⟨some 2, none, .mov (.t 7)⟩])
  .ret)))
theorem Tryd.known78 : Known Tryd.prog 78 Tryd.pc78 8 [2] := ⟨Tryd.f78, _, Tryd.func78, rfl, by kernel_rfl, rfl, rfl⟩

/-- slices.Compact[[]redwax/api.Label,redwax/api.Label] -/
def Tryd.pc80 : PC :=
  (.seq (.ops [⟨some 2, none, .mov (.v (.slice none 0 0))⟩])
  (.seq (.seq (.ops [⟨some 6, none, .mov (.t 0)⟩, ⟨some 7, none, .lenS (.t 6)⟩, ⟨some 8, none, .bin .lss (.t 7) (.v (.int .i64 2))⟩])
  (.cond (.t 8) (.seq (.ops [⟨some 9, none, .mov (.t 0)⟩, ⟨some 2, none, .mov (.t 9)⟩])
   .ret) .skip))
  (.seq (.seq (.ops [⟨some 3, none, .mov (.v (.int .i64 1))⟩])
  (.block 0 (.loop (.seq (.seq (.ops [⟨some 10, none, .mov (.t 3)⟩, ⟨some 11, none, .mov (.t 0)⟩, ⟨some 12, none, .lenS (.t 11)⟩, ⟨some 13, none, .bin .lss (.t 10) (.t 12)⟩])
    (.cond (.t 13) .skip (.exit 0)))
    (.seq (.block 1 (.seq (.quiet 9 [⟨some 16, none, .mov (.t 0)⟩, ⟨some 17, none, .mov (.t 3)⟩, ⟨some 18, none, .ixS 2 (.t 16) (.t 17)⟩, ⟨some 19, none, .ldA 2 (.t 18)⟩, ⟨some 20, none, .mov (.t 0)⟩, ⟨some 21, none, .mov (.t 3)⟩, ⟨some 22, none, .bin .sub (.t 21) (.v (.int .i64 1))⟩, ⟨some 23, none, .ixS 2 (.t 20) (.t 22)⟩, ⟨some 24, none, .ldA 2 (.t 23)⟩, ⟨some 25, none, .eqA false 24 [.int .i64, .int .u64] (.t 19) (.t 24)⟩])
     (.cond (.t 25) (.seq (.ops [⟨some 26, none, .mov (.t 0)⟩, ⟨some 27, none, .mov (.t 3)⟩, ⟨some 28, none, .slS 2 (.t 26) (some (.t 27)) none⟩, ⟨some 4, none, .mov (.t 28)⟩])
      (.seq (.seq (.ops [⟨some 5, none, .mov (.v (.int .i64 1))⟩])
      (.block 2 (.loop (.seq (.seq (.ops [⟨some 29, none, .mov (.t 5)⟩, ⟨some 30, none, .mov (.t 4)⟩, ⟨some 31, none, .lenS (.t 30)⟩, ⟨some 32, none, .bin .lss (.t 29) (.t 31)⟩])
        (.cond (.t 32) .skip (.exit 2)))
        (.seq (.block 3 (.seq (.quiet 9 [⟨some 35, none, .mov (.t 4)⟩, ⟨some 36, none, .mov (.t 5)⟩, ⟨some 37, none, .ixS 2 (.t 35) (.t 36)⟩, ⟨some 38, none, .ldA 2 (.t 37)⟩, ⟨some 39, none, .mov (.t 4)⟩, ⟨some 40, none, .mov (.t 5)⟩, ⟨some 41, none, .bin .sub (.t 40) (.v (.int .i64 1))⟩, ⟨some 42, none, .ixS 2 (.t 39) (.t 41)⟩, ⟨some 43, none, .ldA 2 (.t 42)⟩, ⟨some 44, none, .eqA true 24 [.int .i64, .int .u64] (.t 38) (.t 43)⟩])
         (.cond (.t 44) (.seq (.ops [⟨some 45, none, .mov (.t 0)⟩, ⟨some 46, none, .mov (.t 3)⟩, ⟨some 47, none, .mov (.t 4)⟩, ⟨some 48, none, .mov (.t 5)⟩, ⟨some 49, none, .ixS 2 (.t 47) (.t 48)⟩, ⟨some 50, none, .ldA 2 (.t 49)⟩, ⟨some 51, none, .ixS 2 (.t 45) (.t 46)⟩, ⟨none, none, .st 2 (.t 51) (.t 50)⟩])
          (.ops [⟨some 52, none, .mov (.t 3)⟩, ⟨some 53, none, .bin .add (.t 52) (.v (.int .i64 1))⟩, ⟨some 3, none, .mov (.t 53)⟩])) .skip)))
        (.ops [⟨some 33, none, .mov (.t 5)⟩, ⟨some 34, none, .bin .add (.t 33) (.v (.int .i64 1))⟩, ⟨some 5, none, .mov (.t 34)⟩]))))))
      (.seq (.ops [⟨some 54, none, .mov (.t 0)⟩, ⟨some 55, none, .mov (.t 3)⟩, ⟨some 56, none, .slS 2 (.t 54) (some (.t 55)) none⟩, ⟨none, none, .more (.clr 24 2 (.agg #[.int .i64 0, .int .u64 0]) (.t 56))⟩])
      (.seq (.ops [⟨some 57, none, .mov (.t 0)⟩, ⟨some 58, none, .mov (.t 3)⟩, ⟨some 59, none, .slS 2 (.t 57) none (some (.t 58))⟩, ⟨some 2, none, .mov (.t 59)⟩])
      .ret)))) .skip)))
    (.ops [⟨some 14, none, .mov (.t 3)⟩, ⟨some 15, none, .bin .add (.t 14) (.v (.int .i64 1))⟩, ⟨some 3, none, .mov (.t 15)⟩]))))))
  (.seq (.ops [⟨some 60, none, .mov (.t 0)⟩, ⟨some 2, none, .mov (.t 60)⟩])
  .ret))))
theorem Tryd.known80 : Known Tryd.prog 80 Tryd.pc80 61 [2] := ⟨Tryd.f80, _, Tryd.func80, rfl, by kernel_rfl, rfl, rfl⟩

/-- cmp.isNaN[int] -/
def Tryd.pc86 : PC :=
  (.seq (.ops [⟨some 2, none, .mov (.v (.bool false))⟩])
  (.seq (.ops [⟨some 3, none, .mov (.t 0)⟩, ⟨some 4, none, .mov (.t 0)⟩, ⟨some 5, none, .bin .neq (.t 3) (.t 4)⟩, ⟨some 2, none, .mov (.t 5)⟩])
  .ret))
theorem Tryd.known86 : Known Tryd.prog 86 Tryd.pc86 6 [2] := ⟨Tryd.f86, _, Tryd.func86, rfl, by kernel_rfl, rfl, rfl⟩

/-- cmp.isNaN[uint64] -/
def Tryd.pc87 : PC :=
  (.seq (.ops [⟨some 2, none, .mov (.v (.bool false))⟩])
  (.seq (.ops [⟨some 3, none, .mov (.t 0)⟩, ⟨some 4, none, .mov (.t 0)⟩, ⟨some 5, none, .bin .neq (.t 3) (.t 4)⟩, ⟨some 2, none, .mov (.t 5)⟩])
  .ret))
theorem Tryd.known87 : Known Tryd.prog 87 Tryd.pc87 6 [2] := ⟨Tryd.f87, _, Tryd.func87, rfl, by kernel_rfl, rfl, rfl⟩

end Go.Proofs
