/- Walks and plain facts for the laws of this seat: what each function answers, for every input. -/
import Derived.Test.YtbidjnjbiibdeaaDoorSl22
import Derived.Test.YtbidjnjbiibdeaaDoorProg
namespace Go.Proofs
open Go.SL
set_option maxRecDepth 100000
theorem Tryd.mixed : Tryd.prog.follows .mixedOrders = true := by kernel_rfl

/-- redwax/redwaxlaw06.PathsAre -/
def Tryd.pc5 : PC :=
  (.seq (.ops [⟨some 2, none, .mov (.v (.bool false))⟩])
  (.seq (.ops [⟨some 6, none, .mov (.t 0)⟩, ⟨some 7, none, .call 27 [(.t 6)]⟩, ⟨some 0, none, .mov (.t 7)⟩])
  (.seq (.ops [⟨some 8, none, .mov (.t 0)⟩, ⟨some 9, none, .call 28 [(.t 8)]⟩, ⟨some 3, none, .mov (.t 9)⟩])
  (.seq (.seq (.ops [⟨some 10, none, .mov (.t 0)⟩, ⟨some 11, none, .call 29 [(.t 10)]⟩, ⟨some 12, none, .mov (.t 0)⟩, ⟨some 13, none, .call 30 [(.t 12)]⟩, ⟨some 14, none, .bin .neq (.t 11) (.t 13)⟩, ⟨some 15, none, .mov (.t 14)⟩, ⟨some 16, (some (15, false)), .mov (.t 0)⟩, ⟨some 17, (some (15, false)), .call 31 [(.t 16)]⟩, ⟨some 18, (some (15, false)), .mov (.t 0)⟩, ⟨some 19, (some (15, false)), .call 32 [(.t 18)]⟩, ⟨some 20, (some (15, false)), .bin .neq (.t 17) (.t 19)⟩, ⟨some 21, none, .pick (.t 15) (.v (.bool true)) (.t 20)⟩])
  (.cond (.t 21) (.seq (.ops [⟨some 2, none, .mov (.v (.bool false))⟩])
   .ret) .skip))
  (.seq (.seq (.ops [⟨some 22, none, .mov (.t 0)⟩, ⟨some 23, none, .call 33 [(.t 22)]⟩, ⟨some 24, none, .not (.t 23)⟩])
  (.cond (.t 24) (.seq (.ops [⟨some 25, none, .mov (.t 3)⟩, ⟨some 26, none, .lenS (.t 25)⟩, ⟨some 27, none, .bin .eql (.t 26) (.v (.int .i64 0))⟩, ⟨some 28, none, .mov (.t 27)⟩, ⟨some 29, (some (28, true)), .call 34 []⟩, ⟨some 30, none, .pick (.t 28) (.t 29) (.v (.bool false))⟩, ⟨some 2, none, .mov (.t 30)⟩])
   .ret) .skip))
  (.seq (.ops [⟨some 31, none, .mov (.t 0)⟩, ⟨some 32, none, .call 35 [(.t 31)]⟩, ⟨some 4, none, .mov (.t 32)⟩])
  (.seq (.seq (.ops [⟨some 33, none, .mov (.t 3)⟩, ⟨some 34, none, .lenS (.t 33)⟩, ⟨some 35, none, .mov (.t 4)⟩, ⟨some 36, none, .lenS (.t 35)⟩, ⟨some 37, none, .bin .neq (.t 34) (.t 36)⟩])
  (.cond (.t 37) (.seq (.ops [⟨some 2, none, .mov (.v (.bool false))⟩])
   .ret) .skip))
  (.seq (.seq (.ops [⟨some 5, none, .mov (.v (.int .i64 0))⟩])
  (.block 0 (.loop (.seq (.seq (.ops [⟨some 38, none, .mov (.t 5)⟩, ⟨some 39, none, .mov (.t 3)⟩, ⟨some 40, none, .lenS (.t 39)⟩, ⟨some 41, none, .bin .lss (.t 38) (.t 40)⟩])
    (.cond (.t 41) .skip (.exit 0)))
    (.seq (.block 1 (.seq (.quiet 8 [⟨some 44, none, .mov (.t 3)⟩, ⟨some 45, none, .mov (.t 5)⟩, ⟨some 46, none, .ixS 1 (.t 44) (.t 45)⟩, ⟨some 47, none, .ld (.t 46)⟩, ⟨some 48, none, .mov (.t 4)⟩, ⟨some 49, none, .mov (.t 5)⟩, ⟨some 50, none, .ixS 1 (.t 48) (.t 49)⟩, ⟨some 51, none, .ld (.t 50)⟩, ⟨some 52, none, .bin .neq (.t 47) (.t 51)⟩])
     (.cond (.t 52) (.seq (.ops [⟨some 2, none, .mov (.v (.bool false))⟩])
      .ret) .skip)))
    (.ops [⟨some 42, none, .mov (.t 5)⟩, ⟨some 43, none, .bin .add (.t 42) (.v (.int .i64 1))⟩, ⟨some 5, none, .mov (.t 43)⟩]))))))
  (.seq (.ops [⟨some 53, none, .call 34 []⟩, ⟨some 2, none, .mov (.t 53)⟩])
  .ret)))))))))
theorem Tryd.known5 : Known Tryd.prog 5 Tryd.pc5 54 [2] := ⟨Tryd.f5, _, Tryd.func5, rfl, by kernel_rfl, rfl, rfl⟩

/-- redwax/redwaxlaw06.PathsUnder -/
def Tryd.pc6 : PC :=
  (.seq (.ops [⟨some 4, none, .mov (.v (.bool false))⟩])
  (.seq (.ops [⟨some 5, none, .mov (.t 0)⟩, ⟨some 6, none, .call 27 [(.t 5)]⟩, ⟨some 7, none, .mov (.t 1)⟩, ⟨some 8, none, .call 27 [(.t 7)]⟩, ⟨some 0, none, .mov (.t 6)⟩, ⟨some 1, none, .mov (.t 8)⟩])
  (.seq (.ops [⟨some 9, none, .mov (.t 0)⟩, ⟨some 10, none, .mov (.t 1)⟩, ⟨some 11, none, .call 36 [(.t 9), (.t 10)]⟩, ⟨some 12, none, .mov (.t 0)⟩, ⟨some 13, none, .mov (.t 1)⟩, ⟨some 14, none, .call 37 [(.t 12), (.t 13)]⟩, ⟨some 15, none, .binB .eql (.t 11) (.t 14)⟩, ⟨some 16, none, .mov (.t 15)⟩, ⟨some 17, (some (16, true)), .mov (.t 0)⟩, ⟨some 18, (some (16, true)), .mov (.t 1)⟩, ⟨some 19, (some (16, true)), .call 38 [(.t 17), (.t 18)]⟩, ⟨some 20, (some (16, true)), .mov (.t 0)⟩, ⟨some 21, (some (16, true)), .mov (.t 1)⟩, ⟨some 22, (some (16, true)), .call 39 [(.t 20), (.t 21)]⟩, ⟨some 23, (some (16, true)), .bin .eql (.t 19) (.t 22)⟩, ⟨some 24, none, .pick (.t 16) (.t 23) (.v (.bool false))⟩, ⟨some 25, none, .mov (.t 24)⟩, ⟨some 26, (some (25, true)), .call 34 []⟩, ⟨some 27, none, .pick (.t 25) (.t 26) (.v (.bool false))⟩, ⟨some 4, none, .mov (.t 27)⟩])
  .ret)))
theorem Tryd.known6 : Known Tryd.prog 6 Tryd.pc6 28 [4] := ⟨Tryd.f6, _, Tryd.func6, rfl, by kernel_rfl, rfl, rfl⟩

/-- redwax/redwaxlaw06.PathsBack -/
def Tryd.pc7 : PC :=
  (.seq (.ops [⟨some 2, none, .mov (.v (.bool false))⟩])
  (.seq (.ops [⟨some 9, none, .mov (.t 0)⟩, ⟨some 10, none, .call 27 [(.t 9)]⟩, ⟨some 0, none, .mov (.t 10)⟩])
  (.seq (.ops [⟨some 11, none, .mov (.t 0)⟩, ⟨some 12, none, .call 28 [(.t 11)]⟩, ⟨some 3, none, .mov (.t 12)⟩])
  (.seq (.seq (.ops [⟨some 13, none, .mov (.t 3)⟩, ⟨some 14, none, .lenS (.t 13)⟩, ⟨some 15, none, .bin .eql (.t 14) (.v (.int .i64 0))⟩])
  (.cond (.t 15) (.seq (.ops [⟨some 16, none, .mov (.t 0)⟩, ⟨some 17, none, .call 29 [(.t 16)]⟩, ⟨some 18, none, .bin .neq (.t 17) (.v (.int .i64 0))⟩, ⟨some 19, none, .mov (.t 18)⟩, ⟨some 20, (some (19, true)), .call 34 []⟩, ⟨some 21, none, .pick (.t 19) (.t 20) (.v (.bool false))⟩, ⟨some 2, none, .mov (.t 21)⟩])
   .ret) .skip))
  (.seq (.ops [⟨some 4, none, .mov (.v (.string ⟨#[]⟩))⟩])
  (.seq (.ops [⟨some 5, none, .mov (.v (.slice none 0 0))⟩])
  (.seq (.seq (.ops [⟨some 6, none, .mov (.v (.int .i64 0))⟩])
  (.block 0 (.loop (.seq (.seq (.ops [⟨some 22, none, .mov (.t 6)⟩, ⟨some 23, none, .mov (.t 3)⟩, ⟨some 24, none, .lenS (.t 23)⟩, ⟨some 25, none, .bin .lss (.t 22) (.t 24)⟩])
    (.cond (.t 25) .skip (.exit 0)))
    (.seq (.block 1 (.seq (.seq (.ops [⟨some 28, none, .mov (.t 6)⟩, ⟨some 29, none, .bin .gtr (.t 28) (.v (.int .i64 0))⟩])
     (.cond (.t 29) (.ops [⟨some 30, none, .mov (.t 4)⟩, ⟨some 31, none, .bin .add (.t 30) (.v (.string ⟨#[47]⟩))⟩, ⟨some 4, none, .mov (.t 31)⟩]) .skip))
     (.seq (.ops [⟨some 32, none, .mov (.t 4)⟩, ⟨some 33, none, .mov (.t 3)⟩, ⟨some 34, none, .mov (.t 6)⟩, ⟨some 35, none, .ixS 1 (.t 33) (.t 34)⟩, ⟨some 36, none, .ld (.t 35)⟩, ⟨some 37, none, .bin .add (.t 32) (.t 36)⟩, ⟨some 4, none, .mov (.t 37)⟩])
     (.ops [⟨some 38, none, .mov (.t 5)⟩, ⟨some 39, none, .mov (.t 4)⟩, ⟨some 40, none, .bsl 9 [.string ⟨#[]⟩] 1 [(0, 1, (.t 39))]⟩, ⟨some 41, none, .app 35 9 1 16 (.string ⟨#[]⟩) (.t 38) (.t 40)⟩, ⟨some 5, none, .mov (.t 41)⟩]))))
    (.ops [⟨some 26, none, .mov (.t 6)⟩, ⟨some 27, none, .bin .add (.t 26) (.v (.int .i64 1))⟩, ⟨some 6, none, .mov (.t 27)⟩]))))))
  (.seq (.seq (.ops [⟨some 42, none, .mov (.t 4)⟩, ⟨some 43, none, .mov (.t 0)⟩, ⟨some 44, none, .bin .neq (.t 42) (.t 43)⟩])
  (.cond (.t 44) (.seq (.ops [⟨some 2, none, .mov (.v (.bool false))⟩])
   .ret) .skip))
  (.seq (.ops [⟨some 7, none, .mov (.v (.int .i64 0))⟩])
  (.seq (.seq (.ops [⟨some 8, none, .mov (.v (.int .i64 1))⟩])
  (.block 2 (.loop (.seq (.seq (.ops [⟨some 45, none, .mov (.t 8)⟩, ⟨some 46, none, .mov (.t 0)⟩, ⟨some 47, none, .lenStr (.t 46)⟩, ⟨some 48, none, .bin .leq (.t 45) (.t 47)⟩])
    (.cond (.t 48) .skip (.exit 2)))
    (.seq (.block 3 (.seq (.ops [⟨some 51, none, .mov (.t 0)⟩, ⟨some 52, none, .mov (.t 8)⟩, ⟨some 53, none, .slStr (.t 51) none (some (.t 52))⟩, ⟨some 54, none, .mov (.t 0)⟩, ⟨some 55, none, .call 36 [(.t 53), (.t 54)]⟩])
     (.cond (.t 55) (.seq (.seq (.quiet 17 [⟨some 56, none, .mov (.t 7)⟩, ⟨some 57, none, .mov (.t 5)⟩, ⟨some 58, none, .lenS (.t 57)⟩, ⟨some 59, none, .bin .geq (.t 56) (.t 58)⟩, ⟨some 60, none, .mov (.t 59)⟩, ⟨some 61, (some (60, false)), .mov (.t 5)⟩, ⟨some 62, (some (60, false)), .mov (.t 7)⟩, ⟨some 63, (some (60, false)), .ixS 1 (.t 61) (.t 62)⟩, ⟨some 64, (some (60, false)), .ld (.t 63)⟩, ⟨some 65, (some (60, false)), .mov (.t 0)⟩, ⟨some 66, (some (60, false)), .mov (.t 8)⟩, ⟨some 67, (some (60, false)), .slStr (.t 65) none (some (.t 66))⟩, ⟨some 68, (some (60, false)), .bin .neq (.t 64) (.t 67)⟩, ⟨some 69, none, .pick (.t 60) (.v (.bool true)) (.t 68)⟩, ⟨some 70, none, .mov (.t 69)⟩, ⟨some 71, (some (70, false)), .mov (.t 0)⟩, ⟨some 72, (some (70, false)), .mov (.t 8)⟩, ⟨some 73, (some (70, false)), .slStr (.t 71) none (some (.t 72))⟩, ⟨some 74, (some (70, false)), .call 29 [(.t 73)]⟩, ⟨some 75, (some (70, false)), .bin .neq (.t 74) (.v (.int .i64 0))⟩, ⟨some 76, none, .pick (.t 70) (.v (.bool true)) (.t 75)⟩])
      (.cond (.t 76) (.seq (.ops [⟨some 2, none, .mov (.v (.bool false))⟩])
       .ret) .skip))
      (.ops [⟨some 77, none, .mov (.t 7)⟩, ⟨some 78, none, .bin .add (.t 77) (.v (.int .i64 1))⟩, ⟨some 7, none, .mov (.t 78)⟩])) .skip)))
    (.ops [⟨some 49, none, .mov (.t 8)⟩, ⟨some 50, none, .bin .add (.t 49) (.v (.int .i64 1))⟩, ⟨some 8, none, .mov (.t 50)⟩]))))))
  (.seq (.ops [⟨some 79, none, .mov (.t 7)⟩, ⟨some 80, none, .mov (.t 5)⟩, ⟨some 81, none, .lenS (.t 80)⟩, ⟨some 82, none, .bin .eql (.t 79) (.t 81)⟩, ⟨some 83, none, .mov (.t 82)⟩, ⟨some 84, (some (83, true)), .mov (.t 0)⟩, ⟨some 85, (some (83, true)), .call 36 [(.v (.string ⟨#[]⟩)), (.t 84)]⟩, ⟨some 86, none, .pick (.t 83) (.t 85) (.v (.bool false))⟩, ⟨some 87, none, .mov (.t 86)⟩, ⟨some 88, (some (87, true)), .call 34 []⟩, ⟨some 89, none, .pick (.t 87) (.t 88) (.v (.bool false))⟩, ⟨some 2, none, .mov (.t 89)⟩])
  .ret)))))))))))
theorem Tryd.known7 : Known Tryd.prog 7 Tryd.pc7 90 [2] := ⟨Tryd.f7, _, Tryd.func7, rfl, by kernel_rfl, rfl, rfl⟩

/-- redwax/redwaxlaw06.PathsChain -/
def Tryd.pc8 : PC :=
  (.seq (.ops [⟨some 6, none, .mov (.v (.bool false))⟩])
  (.seq (.ops [⟨some 10, none, .mov (.t 0)⟩, ⟨some 11, none, .call 27 [(.t 10)]⟩, ⟨some 12, none, .mov (.t 1)⟩, ⟨some 13, none, .call 27 [(.t 12)]⟩, ⟨some 14, none, .mov (.t 2)⟩, ⟨some 15, none, .call 27 [(.t 14)]⟩, ⟨some 0, none, .mov (.t 11)⟩, ⟨some 1, none, .mov (.t 13)⟩, ⟨some 2, none, .mov (.t 15)⟩])
  (.seq (.seq (.ops [⟨some 16, none, .mov (.t 0)⟩, ⟨some 17, none, .mov (.t 1)⟩, ⟨some 18, none, .call 36 [(.t 16), (.t 17)]⟩, ⟨some 19, none, .mov (.t 18)⟩, ⟨some 20, (some (19, true)), .mov (.t 1)⟩, ⟨some 21, (some (19, true)), .mov (.t 2)⟩, ⟨some 22, (some (19, true)), .call 36 [(.t 20), (.t 21)]⟩, ⟨some 23, none, .pick (.t 19) (.t 22) (.v (.bool false))⟩, ⟨some 24, none, .mov (.t 23)⟩, ⟨some 25, (some (24, true)), .mov (.t 0)⟩, ⟨some 26, (some (24, true)), .mov (.t 2)⟩, ⟨some 27, (some (24, true)), .call 36 [(.t 25), (.t 26)]⟩, ⟨some 28, (some (24, true)), .not (.t 27)⟩, ⟨some 29, none, .pick (.t 24) (.t 28) (.v (.bool false))⟩])
  (.cond (.t 29) (.seq (.ops [⟨some 6, none, .mov (.v (.bool false))⟩])
   .ret) .skip))
  (.seq (.seq (.ops [⟨some 30, none, .mov (.t 0)⟩, ⟨some 31, none, .mov (.t 2)⟩, ⟨some 32, none, .call 36 [(.t 30), (.t 31)]⟩, ⟨some 33, none, .mov (.t 32)⟩, ⟨some 34, (some (33, true)), .mov (.t 1)⟩, ⟨some 35, (some (33, true)), .mov (.t 2)⟩, ⟨some 36, (some (33, true)), .call 36 [(.t 34), (.t 35)]⟩, ⟨some 37, none, .pick (.t 33) (.t 36) (.v (.bool false))⟩, ⟨some 38, none, .mov (.t 37)⟩, ⟨some 39, (some (38, true)), .mov (.t 0)⟩, ⟨some 40, (some (38, true)), .bin .neq (.t 39) (.v (.string ⟨#[]⟩))⟩, ⟨some 41, none, .pick (.t 38) (.t 40) (.v (.bool false))⟩, ⟨some 42, none, .mov (.t 41)⟩, ⟨some 43, (some (42, true)), .mov (.t 1)⟩, ⟨some 44, (some (42, true)), .bin .neq (.t 43) (.v (.string ⟨#[]⟩))⟩, ⟨some 45, none, .pick (.t 42) (.t 44) (.v (.bool false))⟩, ⟨some 46, none, .mov (.t 45)⟩, ⟨some 47, (some (46, true)), .mov (.t 0)⟩, ⟨some 48, (some (46, true)), .mov (.t 1)⟩, ⟨some 49, (some (46, true)), .call 36 [(.t 47), (.t 48)]⟩, ⟨some 50, (some (46, true)), .not (.t 49)⟩, ⟨some 51, none, .pick (.t 46) (.t 50) (.v (.bool false))⟩, ⟨some 52, none, .mov (.t 51)⟩, ⟨some 53, (some (52, true)), .mov (.t 1)⟩, ⟨some 54, (some (52, true)), .mov (.t 0)⟩, ⟨some 55, (some (52, true)), .call 36 [(.t 53), (.t 54)]⟩, ⟨some 56, (some (52, true)), .not (.t 55)⟩, ⟨some 57, none, .pick (.t 52) (.t 56) (.v (.bool false))⟩])
  (.cond (.t 57) (.seq (.ops [⟨some 6, none, .mov (.v (.bool false))⟩])
   .ret) .skip))
  (.seq (.ops [⟨some 58, none, .mov (.t 0)⟩, ⟨some 59, none, .mov (.t 1)⟩, ⟨some 60, none, .call 38 [(.t 58), (.t 59)]⟩, ⟨some 61, none, .mov (.t 1)⟩, ⟨some 62, none, .mov (.t 2)⟩, ⟨some 63, none, .call 38 [(.t 61), (.t 62)]⟩, ⟨some 64, none, .mov (.t 0)⟩, ⟨some 65, none, .mov (.t 2)⟩, ⟨some 66, none, .call 38 [(.t 64), (.t 65)]⟩, ⟨some 7, none, .mov (.t 60)⟩, ⟨some 8, none, .mov (.t 63)⟩, ⟨some 9, none, .mov (.t 66)⟩])
  (.seq (.ops [⟨some 67, none, .mov (.t 1)⟩, ⟨some 68, none, .mov (.t 0)⟩, ⟨some 69, none, .call 38 [(.t 67), (.t 68)]⟩, ⟨some 70, none, .mov (.t 7)⟩, ⟨some 71, none, .more (.neg (.t 70))⟩, ⟨some 72, none, .bin .eql (.t 69) (.t 71)⟩, ⟨some 73, none, .mov (.t 72)⟩, ⟨some 74, (some (73, true)), .mov (.t 7)⟩, ⟨some 75, (some (73, true)), .bin .eql (.t 74) (.v (.int .i64 0))⟩, ⟨some 76, (some (73, true)), .mov (.t 0)⟩, ⟨some 77, (some (73, true)), .mov (.t 1)⟩, ⟨some 78, (some (73, true)), .bin .eql (.t 76) (.t 77)⟩, ⟨some 79, (some (73, true)), .binB .eql (.t 75) (.t 78)⟩, ⟨some 80, none, .pick (.t 73) (.t 79) (.v (.bool false))⟩, ⟨some 81, none, .mov (.t 80)⟩, ⟨some 82, (some (81, true)), .mov (.t 7)⟩, ⟨some 83, (some (81, true)), .bin .gtr (.t 82) (.v (.int .i64 0))⟩, ⟨some 84, (some (81, true)), .mov (.t 83)⟩, ⟨some 85, (some (84, false)), .mov (.t 8)⟩, ⟨some 86, (some (84, false)), .bin .gtr (.t 85) (.v (.int .i64 0))⟩, ⟨some 87, (some (81, true)), .pick (.t 84) (.v (.bool true)) (.t 86)⟩, ⟨some 88, (some (81, true)), .mov (.t 87)⟩, ⟨some 89, (some (88, false)), .mov (.t 9)⟩, ⟨some 90, (some (88, false)), .bin .leq (.t 89) (.v (.int .i64 0))⟩, ⟨some 91, (some (81, true)), .pick (.t 88) (.v (.bool true)) (.t 90)⟩, ⟨some 92, none, .pick (.t 81) (.t 91) (.v (.bool false))⟩, ⟨some 93, none, .mov (.t 92)⟩, ⟨some 94, (some (93, true)), .call 34 []⟩, ⟨some 95, none, .pick (.t 93) (.t 94) (.v (.bool false))⟩, ⟨some 6, none, .mov (.t 95)⟩])
  .ret))))))
theorem Tryd.known8 : Known Tryd.prog 8 Tryd.pc8 96 [6] := ⟨Tryd.f8, _, Tryd.func8, rfl, by kernel_rfl, rfl, rfl⟩

/-- redwax/redwaxlaw06.cut -/
def Tryd.pc27 : PC :=
  (.seq (.ops [⟨some 2, none, .mov (.v (.string ⟨#[]⟩))⟩])
  (.seq (.ops [⟨some 3, none, .mov (.t 0)⟩, ⟨some 4, none, .mov (.t 0)⟩, ⟨some 5, none, .lenStr (.t 4)⟩, ⟨some 6, none, .mnx false [(.t 5), (.v (.int .i64 200))]⟩, ⟨some 7, none, .slStr (.t 3) none (some (.t 6))⟩, ⟨some 2, none, .mov (.t 7)⟩])
  .ret))
theorem Tryd.known27 : Known Tryd.prog 27 Tryd.pc27 8 [2] := ⟨Tryd.f27, _, Tryd.func27, rfl, by kernel_rfl, rfl, rfl⟩

/-- redwax/paths.Parts -/
def Tryd.pc28 : PC :=
  (.seq (.ops [⟨some 2, none, .mov (.v (.slice none 0 0))⟩])
  (.seq (.seq (.ops [⟨some 3, none, .mov (.t 0)⟩, ⟨some 4, none, .call 63 [(.t 3)]⟩, ⟨some 5, none, .not (.t 4)⟩])
  (.cond (.t 5) (.seq (.ops [⟨some 2, none, .mov (.v (.slice none 0 0))⟩])
   .ret) .skip))
  (.seq (.ops [⟨some 6, none, .mov (.t 0)⟩, ⟨some 7, none, .call 64 [(.t 6), (.v (.string ⟨#[47]⟩))]⟩, ⟨some 2, none, .mov (.t 7)⟩])
  .ret)))
theorem Tryd.known28 : Known Tryd.prog 28 Tryd.pc28 8 [2] := ⟨Tryd.f28, _, Tryd.func28, rfl, by kernel_rfl, rfl, rfl⟩

/-- redwax/paths.Check -/
def Tryd.pc29 : PC :=
  (.seq (.ops [⟨some 2, none, .mov (.v (.int .i64 0))⟩])
  (.seq (.seq (.ops [⟨some 3, none, .mov (.t 0)⟩, ⟨some 4, none, .call 63 [(.t 3)]⟩, ⟨some 5, none, .not (.t 4)⟩])
  (.cond (.t 5) (.seq (.ops [⟨some 2, none, .mov (.v (.int .i64 15))⟩])
   .ret) .skip))
  (.seq (.ops [⟨some 2, none, .mov (.v (.int .i64 0))⟩])
  .ret)))
theorem Tryd.known29 : Known Tryd.prog 29 Tryd.pc29 6 [2] := ⟨Tryd.f29, _, Tryd.func29, rfl, by kernel_rfl, rfl, rfl⟩

/-- redwax/redwaxref06.Check -/
def Tryd.pc30 : PC :=
  (.seq (.ops [⟨some 2, none, .mov (.v (.int .i64 0))⟩])
  (.seq (.seq (.ops [⟨some 3, none, .mov (.t 0)⟩, ⟨some 4, none, .call 33 [(.t 3)]⟩])
  (.cond (.t 4) (.seq (.ops [⟨some 2, none, .mov (.v (.int .i64 0))⟩])
   .ret) .skip))
  (.seq (.ops [⟨some 2, none, .mov (.v (.int .i64 15))⟩])
  .ret)))
theorem Tryd.known30 : Known Tryd.prog 30 Tryd.pc30 5 [2] := ⟨Tryd.f30, _, Tryd.func30, rfl, by kernel_rfl, rfl, rfl⟩

/-- redwax/paths.Prefix -/
def Tryd.pc31 : PC :=
  (.seq (.ops [⟨some 2, none, .mov (.v (.int .i64 0))⟩])
  (.seq (.seq (.ops [⟨some 3, none, .mov (.t 0)⟩, ⟨some 4, none, .bin .eql (.t 3) (.v (.string ⟨#[]⟩))⟩])
  (.cond (.t 4) (.seq (.ops [⟨some 2, none, .mov (.v (.int .i64 0))⟩])
   .ret) .skip))
  (.seq (.ops [⟨some 5, none, .mov (.t 0)⟩, ⟨some 6, none, .call 29 [(.t 5)]⟩, ⟨some 2, none, .mov (.t 6)⟩])
  .ret)))
theorem Tryd.known31 : Known Tryd.prog 31 Tryd.pc31 7 [2] := ⟨Tryd.f31, _, Tryd.func31, rfl, by kernel_rfl, rfl, rfl⟩

/-- redwax/redwaxref06.Prefix -/
def Tryd.pc32 : PC :=
  (.seq (.ops [⟨some 2, none, .mov (.v (.int .i64 0))⟩])
  (.seq (.seq (.ops [⟨some 3, none, .mov (.t 0)⟩, ⟨some 4, none, .bin .eql (.t 3) (.v (.string ⟨#[]⟩))⟩])
  (.cond (.t 4) (.seq (.ops [⟨some 2, none, .mov (.v (.int .i64 0))⟩])
   .ret) .skip))
  (.seq (.ops [⟨some 5, none, .mov (.t 0)⟩, ⟨some 6, none, .call 30 [(.t 5)]⟩, ⟨some 2, none, .mov (.t 6)⟩])
  .ret)))
theorem Tryd.known32 : Known Tryd.prog 32 Tryd.pc32 7 [2] := ⟨Tryd.f32, _, Tryd.func32, rfl, by kernel_rfl, rfl, rfl⟩

/-- redwax/redwaxref06.Is -/
def Tryd.pc33 : PC :=
  (.seq (.ops [⟨some 2, none, .mov (.v (.bool false))⟩])
  (.seq (.ops [⟨some 5, none, .mov (.t 0)⟩, ⟨some 6, none, .call 35 [(.t 5)]⟩, ⟨some 3, none, .mov (.t 6)⟩])
  (.seq (.seq (.ops [⟨some 4, none, .mov (.v (.int .i64 0))⟩])
  (.block 0 (.loop (.seq (.seq (.ops [⟨some 7, none, .mov (.t 4)⟩, ⟨some 8, none, .mov (.t 3)⟩, ⟨some 9, none, .lenS (.t 8)⟩, ⟨some 10, none, .bin .lss (.t 7) (.t 9)⟩])
    (.cond (.t 10) .skip (.exit 0)))
    (.seq (.block 1 (.seq (.ops [⟨some 13, none, .mov (.t 3)⟩, ⟨some 14, none, .mov (.t 4)⟩, ⟨some 15, none, .ixS 1 (.t 13) (.t 14)⟩, ⟨some 16, none, .ld (.t 15)⟩, ⟨some 17, none, .call 65 [(.t 16)]⟩, ⟨some 18, none, .not (.t 17)⟩])
     (.cond (.t 18) (.seq (.ops [⟨some 2, none, .mov (.v (.bool false))⟩])
      .ret) .skip)))
    (.ops [⟨some 11, none, .mov (.t 4)⟩, ⟨some 12, none, .bin .add (.t 11) (.v (.int .i64 1))⟩, ⟨some 4, none, .mov (.t 12)⟩]))))))
  (.seq (.ops [⟨some 19, none, .mov (.t 3)⟩, ⟨some 20, none, .lenS (.t 19)⟩, ⟨some 21, none, .bin .leq (.t 20) (.v (.int .i64 8))⟩, ⟨some 22, none, .mov (.t 21)⟩, ⟨some 23, (some (22, true)), .mov (.t 0)⟩, ⟨some 24, (some (22, true)), .lenStr (.t 23)⟩, ⟨some 25, (some (22, true)), .bin .leq (.t 24) (.v (.int .i64 60))⟩, ⟨some 26, none, .pick (.t 22) (.t 25) (.v (.bool false))⟩, ⟨some 2, none, .mov (.t 26)⟩])
  .ret))))
theorem Tryd.known33 : Known Tryd.prog 33 Tryd.pc33 27 [2] := ⟨Tryd.f33, _, Tryd.func33, rfl, by kernel_rfl, rfl, rfl⟩

/-- redwax/redwaxref06.Split -/
def Tryd.pc35 : PC :=
  (.seq (.ops [⟨some 2, none, .mov (.v (.slice none 0 0))⟩])
  (.seq (.ops [⟨some 3, none, .mov (.v (.slice none 0 0))⟩])
  (.seq (.ops [⟨some 4, none, .mov (.v (.int .i64 0))⟩])
  (.seq (.seq (.ops [⟨some 5, none, .mov (.v (.int .i64 0))⟩])
  (.block 0 (.loop (.seq (.seq (.ops [⟨some 6, none, .mov (.t 5)⟩, ⟨some 7, none, .mov (.t 0)⟩, ⟨some 8, none, .lenStr (.t 7)⟩, ⟨some 9, none, .bin .lss (.t 6) (.t 8)⟩])
    (.cond (.t 9) .skip (.exit 0)))
    (.seq (.block 1 (.seq (.ops [⟨some 12, none, .mov (.t 0)⟩, ⟨some 13, none, .mov (.t 5)⟩, ⟨some 14, none, .ixStr (.t 12) (.t 13)⟩, ⟨some 15, none, .bin .eql (.t 14) (.v (.int .u8 47))⟩])
     (.cond (.t 15) (.seq (.ops [⟨some 16, none, .mov (.t 3)⟩, ⟨some 17, none, .mov (.t 0)⟩, ⟨some 18, none, .mov (.t 4)⟩, ⟨some 19, none, .mov (.t 5)⟩, ⟨some 20, none, .slStr (.t 17) (some (.t 18)) (some (.t 19))⟩, ⟨some 21, none, .bsl 9 [.string ⟨#[]⟩] 1 [(0, 1, (.t 20))]⟩, ⟨some 22, none, .app 35 9 1 16 (.string ⟨#[]⟩) (.t 16) (.t 21)⟩, ⟨some 3, none, .mov (.t 22)⟩])
      (.ops [⟨some 23, none, .mov (.t 5)⟩, ⟨some 24, none, .bin .add (.t 23) (.v (.int .i64 1))⟩, ⟨some 4, none, .mov (.t 24)⟩])) .skip)))
    (.ops [⟨some 10, none, .mov (.t 5)⟩, ⟨some 11, none, .bin .add (.t 10) (.v (.int .i64 1))⟩, ⟨some 5, none, .mov (.t 11)⟩]))))))
  (.seq (.ops [⟨some 25, none, .mov (.t 3)⟩, ⟨some 26, none, .mov (.t 0)⟩, ⟨some 27, none, .mov (.t 4)⟩, ⟨some 28, none, .slStr (.t 26) (some (.t 27)) none⟩, ⟨some 29, none, .bsl 9 [.string ⟨#[]⟩] 1 [(0, 1, (.t 28))]⟩, ⟨some 30, none, .app 35 9 1 16 (.string ⟨#[]⟩) (.t 25) (.t 29)⟩, ⟨some 2, none, .mov (.t 30)⟩])
  .ret)))))
theorem Tryd.known35 : Known Tryd.prog 35 Tryd.pc35 31 [2] := ⟨Tryd.f35, _, Tryd.func35, rfl, by kernel_rfl, rfl, rfl⟩

/-- redwax/paths.Under -/
def Tryd.pc36 : PC :=
  (.seq (.ops [⟨some 4, none, .mov (.v (.bool false))⟩])
  (.seq (.seq (.ops [⟨some 5, none, .mov (.t 1)⟩, ⟨some 6, none, .call 63 [(.t 5)]⟩, ⟨some 7, none, .not (.t 6)⟩, ⟨some 8, none, .mov (.t 7)⟩, ⟨some 9, (some (8, false)), .mov (.t 0)⟩, ⟨some 10, (some (8, false)), .call 31 [(.t 9)]⟩, ⟨some 11, (some (8, false)), .bin .neq (.t 10) (.v (.int .i64 0))⟩, ⟨some 12, none, .pick (.t 8) (.v (.bool true)) (.t 11)⟩])
  (.cond (.t 12) (.seq (.ops [⟨some 4, none, .mov (.v (.bool false))⟩])
   .ret) .skip))
  (.seq (.ops [⟨some 13, none, .mov (.t 0)⟩, ⟨some 14, none, .bin .eql (.t 13) (.v (.string ⟨#[]⟩))⟩, ⟨some 15, none, .mov (.t 14)⟩, ⟨some 16, (some (15, false)), .mov (.t 0)⟩, ⟨some 17, (some (15, false)), .mov (.t 1)⟩, ⟨some 18, (some (15, false)), .bin .eql (.t 16) (.t 17)⟩, ⟨some 19, none, .pick (.t 15) (.v (.bool true)) (.t 18)⟩, ⟨some 20, none, .mov (.t 19)⟩, ⟨some 21, (some (20, false)), .mov (.t 1)⟩, ⟨some 22, (some (20, false)), .mov (.t 0)⟩, ⟨some 23, (some (20, false)), .bin .add (.t 22) (.v (.string ⟨#[47]⟩))⟩, ⟨some 24, (some (20, false)), .call 66 [(.t 21), (.t 23)]⟩, ⟨some 25, none, .pick (.t 20) (.v (.bool true)) (.t 24)⟩, ⟨some 4, none, .mov (.t 25)⟩])
  .ret)))
theorem Tryd.known36 : Known Tryd.prog 36 Tryd.pc36 26 [4] := ⟨Tryd.f36, _, Tryd.func36, rfl, by kernel_rfl, rfl, rfl⟩

/-- redwax/redwaxref06.Under -/
def Tryd.pc37 : PC :=
  (.seq (.ops [⟨some 4, none, .mov (.v (.bool false))⟩])
  (.seq (.seq (.ops [⟨some 6, none, .mov (.t 0)⟩, ⟨some 7, none, .call 32 [(.t 6)]⟩, ⟨some 8, none, .bin .neq (.t 7) (.v (.int .i64 0))⟩, ⟨some 9, none, .mov (.t 8)⟩, ⟨some 10, (some (9, false)), .mov (.t 1)⟩, ⟨some 11, (some (9, false)), .call 33 [(.t 10)]⟩, ⟨some 12, (some (9, false)), .not (.t 11)⟩, ⟨some 13, none, .pick (.t 9) (.v (.bool true)) (.t 12)⟩])
  (.cond (.t 13) (.seq (.ops [⟨some 4, none, .mov (.v (.bool false))⟩])
   .ret) .skip))
  (.seq (.seq (.ops [⟨some 14, none, .mov (.t 0)⟩, ⟨some 15, none, .bin .eql (.t 14) (.v (.string ⟨#[]⟩))⟩, ⟨some 16, none, .mov (.t 15)⟩, ⟨some 17, (some (16, false)), .mov (.t 0)⟩, ⟨some 18, (some (16, false)), .mov (.t 1)⟩, ⟨some 19, (some (16, false)), .bin .eql (.t 17) (.t 18)⟩, ⟨some 20, none, .pick (.t 16) (.v (.bool true)) (.t 19)⟩])
  (.cond (.t 20) (.seq (.ops [⟨some 4, none, .mov (.v (.bool true))⟩])
   .ret) .skip))
  (.seq (.ops [⟨some 21, none, .mov (.t 0)⟩, ⟨some 22, none, .lenStr (.t 21)⟩, ⟨some 5, none, .mov (.t 22)⟩])
  (.seq (.ops [⟨some 23, none, .mov (.t 1)⟩, ⟨some 24, none, .lenStr (.t 23)⟩, ⟨some 25, none, .mov (.t 5)⟩, ⟨some 26, none, .bin .gtr (.t 24) (.t 25)⟩, ⟨some 27, none, .mov (.t 26)⟩, ⟨some 28, (some (27, true)), .mov (.t 1)⟩, ⟨some 29, (some (27, true)), .mov (.t 5)⟩, ⟨some 30, (some (27, true)), .slStr (.t 28) none (some (.t 29))⟩, ⟨some 31, (some (27, true)), .mov (.t 0)⟩, ⟨some 32, (some (27, true)), .bin .eql (.t 30) (.t 31)⟩, ⟨some 33, none, .pick (.t 27) (.t 32) (.v (.bool false))⟩, ⟨some 34, none, .mov (.t 33)⟩, ⟨some 35, (some (34, true)), .mov (.t 1)⟩, ⟨some 36, (some (34, true)), .mov (.t 5)⟩, ⟨some 37, (some (34, true)), .ixStr (.t 35) (.t 36)⟩, ⟨some 38, (some (34, true)), .bin .eql (.t 37) (.v (.int .u8 47))⟩, ⟨some 39, none, .pick (.t 34) (.t 38) (.v (.bool false))⟩, ⟨some 4, none, .mov (.t 39)⟩])
  .ret)))))
theorem Tryd.known37 : Known Tryd.prog 37 Tryd.pc37 40 [4] := ⟨Tryd.f37, _, Tryd.func37, rfl, by kernel_rfl, rfl, rfl⟩

/-- redwax/paths.Order -/
def Tryd.pc38 : PC :=
  (.seq (.ops [⟨some 4, none, .mov (.v (.int .i64 0))⟩])
  (.seq (.ops [⟨some 5, none, .mov (.t 0)⟩, ⟨some 6, none, .mov (.t 1)⟩, ⟨some 7, none, .call 67 [(.t 5), (.t 6)]⟩, ⟨some 4, none, .mov (.t 7)⟩])
  .ret))
theorem Tryd.known38 : Known Tryd.prog 38 Tryd.pc38 8 [4] := ⟨Tryd.f38, _, Tryd.func38, rfl, by kernel_rfl, rfl, rfl⟩

/-- redwax/redwaxref06.Order -/
def Tryd.pc39 : PC :=
  (.seq (.ops [⟨some 4, none, .mov (.v (.int .i64 0))⟩])
  (.seq (.seq (.ops [⟨some 5, none, .mov (.v (.int .i64 0))⟩])
  (.block 0 (.loop (.seq (.seq (.ops [⟨some 6, none, .mov (.t 5)⟩, ⟨some 7, none, .mov (.t 0)⟩, ⟨some 8, none, .lenStr (.t 7)⟩, ⟨some 9, none, .bin .lss (.t 6) (.t 8)⟩, ⟨some 10, none, .mov (.t 9)⟩, ⟨some 11, (some (10, true)), .mov (.t 5)⟩, ⟨some 12, (some (10, true)), .mov (.t 1)⟩, ⟨some 13, (some (10, true)), .lenStr (.t 12)⟩, ⟨some 14, (some (10, true)), .bin .lss (.t 11) (.t 13)⟩, ⟨some 15, none, .pick (.t 10) (.t 14) (.v (.bool false))⟩])
    (.cond (.t 15) .skip (.exit 0)))
    (.seq (.block 1 (.seq (.seq (.quiet 6 [⟨some 18, none, .mov (.t 0)⟩, ⟨some 19, none, .mov (.t 5)⟩, ⟨some 20, none, .ixStr (.t 18) (.t 19)⟩, ⟨some 21, none, .mov (.t 1)⟩, ⟨some 22, none, .mov (.t 5)⟩, ⟨some 23, none, .ixStr (.t 21) (.t 22)⟩, ⟨some 24, none, .bin .lss (.t 20) (.t 23)⟩])
     (.cond (.t 24) (.seq (.ops [⟨some 4, none, .mov (.v (.int .i64 (-1)))⟩])
      .ret) .skip))
     (.seq (.quiet 6 [⟨some 25, none, .mov (.t 0)⟩, ⟨some 26, none, .mov (.t 5)⟩, ⟨some 27, none, .ixStr (.t 25) (.t 26)⟩, ⟨some 28, none, .mov (.t 1)⟩, ⟨some 29, none, .mov (.t 5)⟩, ⟨some 30, none, .ixStr (.t 28) (.t 29)⟩, ⟨some 31, none, .bin .gtr (.t 27) (.t 30)⟩])
     (.cond (.t 31) (.seq (.ops [⟨some 4, none, .mov (.v (.int .i64 1))⟩])
      .ret) .skip))))
    (.ops [⟨some 16, none, .mov (.t 5)⟩, ⟨some 17, none, .bin .add (.t 16) (.v (.int .i64 1))⟩, ⟨some 5, none, .mov (.t 17)⟩]))))))
  (.seq (.seq (.ops [⟨some 32, none, .mov (.t 0)⟩, ⟨some 33, none, .lenStr (.t 32)⟩, ⟨some 34, none, .mov (.t 1)⟩, ⟨some 35, none, .lenStr (.t 34)⟩, ⟨some 36, none, .bin .lss (.t 33) (.t 35)⟩])
  (.cond (.t 36) (.seq (.ops [⟨some 4, none, .mov (.v (.int .i64 (-1)))⟩])
   .ret) .skip))
  (.seq (.seq (.ops [⟨some 37, none, .mov (.t 0)⟩, ⟨some 38, none, .lenStr (.t 37)⟩, ⟨some 39, none, .mov (.t 1)⟩, ⟨some 40, none, .lenStr (.t 39)⟩, ⟨some 41, none, .bin .gtr (.t 38) (.t 40)⟩])
  (.cond (.t 41) (.seq (.ops [⟨some 4, none, .mov (.v (.int .i64 1))⟩])
   .ret) .skip))
  (.seq (.ops [⟨some 4, none, .mov (.v (.int .i64 0))⟩])
  .ret)))))
theorem Tryd.known39 : Known Tryd.prog 39 Tryd.pc39 42 [4] := ⟨Tryd.f39, _, Tryd.func39, rfl, by kernel_rfl, rfl, rfl⟩

/-- redwax/paths.is -/
def Tryd.pc63 : PC :=
  (.seq (.ops [⟨some 2, none, .mov (.v (.bool false))⟩])
  (.seq (.seq (.ops [⟨some 4, none, .mov (.t 0)⟩, ⟨some 5, none, .lenStr (.t 4)⟩, ⟨some 6, none, .bin .gtr (.t 5) (.v (.int .i64 60))⟩])
  (.cond (.t 6) (.seq (.ops [⟨some 2, none, .mov (.v (.bool false))⟩])
   .ret) .skip))
  (.seq (.ops [⟨some 7, none, .mov (.t 0)⟩, ⟨some 8, none, .call 64 [(.t 7), (.v (.string ⟨#[47]⟩))]⟩, ⟨some 3, none, .mov (.t 8)⟩])
  (.seq (.ops [⟨some 9, none, .mov (.t 3)⟩, ⟨some 10, none, .lenS (.t 9)⟩, ⟨some 11, none, .bin .leq (.t 10) (.v (.int .i64 8))⟩, ⟨some 12, none, .mov (.t 11)⟩, ⟨some 13, (some (12, true)), .mov (.t 3)⟩, ⟨some 14, (some (12, true)), .call 88 [(.t 13), (.v (.func (.func 89) #[] #[]))]⟩, ⟨some 15, (some (12, true)), .not (.t 14)⟩, ⟨some 16, none, .pick (.t 12) (.t 15) (.v (.bool false))⟩, ⟨some 2, none, .mov (.t 16)⟩])
  .ret))))
theorem Tryd.known63 : Known Tryd.prog 63 Tryd.pc63 17 [2] := ⟨Tryd.f63, _, Tryd.func63, rfl, by kernel_rfl, rfl, rfl⟩

/-- strings.Split -/
def Tryd.pc64 : PC :=
  (.seq (.ops [⟨some 4, none, .mov (.v (.slice none 0 0))⟩])
  (.seq (.ops [⟨some 5, none, .mov (.t 0)⟩, ⟨some 6, none, .mov (.t 1)⟩, ⟨some 7, none, .call 91 [(.t 5), (.t 6), (.v (.int .i64 0)), (.v (.int .i64 (-1)))]⟩, ⟨some 4, none, .mov (.t 7)⟩])
  .ret))
theorem Tryd.known64 : Known Tryd.prog 64 Tryd.pc64 8 [4] := ⟨Tryd.f64, _, Tryd.func64, rfl, by kernel_rfl, rfl, rfl⟩

/-- redwax/redwaxref06.part -/
def Tryd.pc65 : PC :=
  (.seq (.ops [⟨some 2, none, .mov (.v (.bool false))⟩])
  (.seq (.ops [⟨some 3, none, .mov (.v (.bool false))⟩])
  (.seq (.seq (.ops [⟨some 4, none, .mov (.v (.int .i64 0))⟩])
  (.block 0 (.loop (.seq (.seq (.ops [⟨some 5, none, .mov (.t 4)⟩, ⟨some 6, none, .mov (.t 0)⟩, ⟨some 7, none, .lenStr (.t 6)⟩, ⟨some 8, none, .bin .lss (.t 5) (.t 7)⟩])
    (.cond (.t 8) .skip (.exit 0)))
    (.seq (.block 1 (.seq (.seq (.ops [⟨some 11, none, .mov (.t 0)⟩, ⟨some 12, none, .mov (.t 4)⟩, ⟨some 13, none, .ixStr (.t 11) (.t 12)⟩, ⟨some 14, none, .call 92 [(.t 13)]⟩, ⟨some 15, none, .not (.t 14)⟩])
     (.cond (.t 15) (.seq (.ops [⟨some 2, none, .mov (.v (.bool false))⟩])
      .ret) .skip))
     (.ops [⟨some 16, none, .mov (.t 3)⟩, ⟨some 17, none, .mov (.t 16)⟩, ⟨some 18, (some (17, false)), .mov (.t 0)⟩, ⟨some 19, (some (17, false)), .mov (.t 4)⟩, ⟨some 20, (some (17, false)), .ixStr (.t 18) (.t 19)⟩, ⟨some 21, (some (17, false)), .bin .neq (.t 20) (.v (.int .u8 46))⟩, ⟨some 22, none, .pick (.t 17) (.v (.bool true)) (.t 21)⟩, ⟨some 3, none, .mov (.t 22)⟩])))
    (.ops [⟨some 9, none, .mov (.t 4)⟩, ⟨some 10, none, .bin .add (.t 9) (.v (.int .i64 1))⟩, ⟨some 4, none, .mov (.t 10)⟩]))))))
  (.seq (.ops [⟨some 23, none, .mov (.t 3)⟩, ⟨some 2, none, .mov (.t 23)⟩])
  .ret))))
theorem Tryd.known65 : Known Tryd.prog 65 Tryd.pc65 24 [2] := ⟨Tryd.f65, _, Tryd.func65, rfl, by kernel_rfl, rfl, rfl⟩

/-- strings.HasPrefix -/
def Tryd.pc66 : PC :=
  (.seq (.ops [⟨some 4, none, .mov (.v (.bool false))⟩])
  (.seq (.ops [⟨some 5, none, .mov (.t 0)⟩, ⟨some 6, none, .mov (.t 1)⟩, ⟨some 7, none, .call 93 [(.t 5), (.t 6)]⟩, ⟨some 4, none, .mov (.t 7)⟩])
  .ret))
theorem Tryd.known66 : Known Tryd.prog 66 Tryd.pc66 8 [4] := ⟨Tryd.f66, _, Tryd.func66, rfl, by kernel_rfl, rfl, rfl⟩

/-- strings.Compare -/
def Tryd.pc67 : PC :=
  (.seq (.ops [⟨some 4, none, .mov (.v (.int .i64 0))⟩])
  (.seq (.ops [⟨some 5, none, .mov (.t 0)⟩, ⟨some 6, none, .mov (.t 1)⟩, ⟨some 7, none, .call 94 [(.t 5), (.t 6)]⟩, ⟨some 4, none, .mov (.t 7)⟩])
  .ret))
theorem Tryd.known67 : Known Tryd.prog 67 Tryd.pc67 8 [4] := ⟨Tryd.f67, _, Tryd.func67, rfl, by kernel_rfl, rfl, rfl⟩

/-- slices.ContainsFunc[[]string,string] -/
def Tryd.pc88 : PC :=
  (.seq (.ops [⟨some 4, none, .mov (.v (.bool false))⟩])
  (.seq (.ops [⟨some 5, none, .mov (.t 0)⟩, ⟨some 6, none, .mov (.t 1)⟩, ⟨some 7, none, .call 105 [(.t 5), (.t 6)]⟩, ⟨some 8, none, .bin .geq (.t 7) (.v (.int .i64 0))⟩, ⟨some 4, none, .mov (.t 8)⟩])
  .ret))
theorem Tryd.known88 : Known Tryd.prog 88 Tryd.pc88 9 [4] := ⟨Tryd.f88, _, Tryd.func88, rfl, by kernel_rfl, rfl, rfl⟩

/-- redwax/paths.is$1 -/
def Tryd.pc89 : PC :=
  (.seq (.ops [⟨some 2, none, .mov (.v (.bool false))⟩])
  (.seq (.ops [⟨some 3, none, .mov (.t 0)⟩, ⟨some 4, none, .call 90 [(.t 3)]⟩, ⟨some 5, none, .not (.t 4)⟩, ⟨some 2, none, .mov (.t 5)⟩])
  .ret))
theorem Tryd.known89 : Known Tryd.prog 89 Tryd.pc89 6 [2] := ⟨Tryd.f89, _, Tryd.func89, rfl, by kernel_rfl, rfl, rfl⟩

/-- redwax/paths.part -/
def Tryd.pc90 : PC :=
  (.seq (.ops [⟨some 2, none, .mov (.v (.bool false))⟩])
  (.seq (.ops [⟨some 3, none, .mov (.v (.int .i64 0))⟩])
  (.seq (.seq (.ops [⟨some 6, none, .mov (.t 0)⟩, ⟨some 7, none, .more (.rngS (.t 6))⟩])
  (.block 0 (.loop (.seq (.ops [⟨some 8, none, .more (.nxtS (.t 7))⟩, ⟨some 9, none, .ext 0 (.t 8)⟩])
    (.seq (.cond (.t 9) .skip (.exit 0))
    (.block 1 (.seq (.ops [⟨some 10, none, .ext 2 (.t 8)⟩, ⟨some 5, none, .mov (.t 10)⟩])
     (.seq (.seq (.ops [⟨some 11, none, .mov (.t 5)⟩, ⟨some 12, none, .call 106 [(.t 11)]⟩, ⟨some 13, none, .not (.t 12)⟩])
     (.cond (.t 13) (.seq (.ops [⟨some 2, none, .mov (.v (.bool false))⟩])
      .ret) .skip))
     (.seq (.ops [⟨some 14, none, .mov (.t 5)⟩, ⟨some 15, none, .bin .eql (.t 14) (.v (.int .i32 46))⟩])
     (.cond (.t 15) (.ops [⟨some 16, none, .mov (.t 3)⟩, ⟨some 17, none, .bin .add (.t 16) (.v (.int .i64 1))⟩, ⟨some 3, none, .mov (.t 17)⟩]) .skip))))))))))
  (.seq (.ops [⟨some 18, none, .mov (.t 3)⟩, ⟨some 19, none, .mov (.t 0)⟩, ⟨some 20, none, .lenStr (.t 19)⟩, ⟨some 21, none, .bin .lss (.t 18) (.t 20)⟩, ⟨some 2, none, .mov (.t 21)⟩])
  .ret))))
theorem Tryd.known90 : Known Tryd.prog 90 Tryd.pc90 22 [2] := ⟨Tryd.f90, _, Tryd.func90, rfl, by kernel_rfl, rfl, rfl⟩

/-- strings.genSplit -/
def Tryd.pc91 : PC :=
  (.seq (.ops [⟨some 8, none, .mov (.v (.slice none 0 0))⟩])
  (.seq (.seq (.ops [⟨some 12, none, .mov (.t 3)⟩, ⟨some 13, none, .bin .eql (.t 12) (.v (.int .i64 0))⟩])
  (.cond (.t 13) (.seq (.ops [⟨some 8, none, .mov (.v (.slice none 0 0))⟩])
   .ret) .skip))
  (.seq (.seq (.ops [⟨some 14, none, .mov (.t 1)⟩, ⟨some 15, none, .bin .eql (.t 14) (.v (.string ⟨#[]⟩))⟩])
  (.cond (.t 15) (.seq (.ops [⟨some 16, none, .mov (.t 0)⟩, ⟨some 17, none, .mov (.t 3)⟩, ⟨some 18, none, .call 107 [(.t 16), (.t 17)]⟩, ⟨some 8, none, .mov (.t 18)⟩])
   .ret) .skip))
  (.seq (.seq (.ops [⟨some 19, none, .mov (.t 3)⟩, ⟨some 20, none, .bin .lss (.t 19) (.v (.int .i64 0))⟩])
  (.cond (.t 20) (.ops [⟨some 21, none, .mov (.t 0)⟩, ⟨some 22, none, .mov (.t 1)⟩, ⟨some 23, none, .call 108 [(.t 21), (.t 22)]⟩, ⟨some 24, none, .bin .add (.t 23) (.v (.int .i64 1))⟩, ⟨some 3, none, .mov (.t 24)⟩]) .skip))
  (.seq (.ops [⟨some 25, none, .mov (.t 3)⟩, ⟨some 26, none, .mov (.t 0)⟩, ⟨some 27, none, .lenStr (.t 26)⟩, ⟨some 28, none, .bin .add (.t 27) (.v (.int .i64 1))⟩, ⟨some 29, none, .mnx false [(.t 25), (.t 28)]⟩, ⟨some 3, none, .mov (.t 29)⟩])
  (.seq (.ops [⟨some 30, none, .mov (.t 3)⟩, ⟨some 31, none, .mkS 35 9 1 16 (.string ⟨#[]⟩) (.t 30) (.t 30)⟩, ⟨some 9, none, .mov (.t 31)⟩])
  (.seq (.ops [⟨some 32, none, .mov (.t 3)⟩, ⟨some 33, none, .bin .sub (.t 32) (.v (.int .i64 1))⟩, ⟨some 3, none, .mov (.t 33)⟩])
  (.seq (.ops [⟨some 10, none, .mov (.v (.int .i64 0))⟩])
  (.seq (.block 0 (.loop (.seq (.seq (.ops [⟨some 34, none, .mov (.t 10)⟩, ⟨some 35, none, .mov (.t 3)⟩, ⟨some 36, none, .bin .lss (.t 34) (.t 35)⟩])
    (.cond (.t 36) .skip (.exit 0)))
    (.block 1 (.seq (.ops [⟨some 37, none, .mov (.t 0)⟩, ⟨some 38, none, .mov (.t 1)⟩, ⟨some 39, none, .call 109 [(.t 37), (.t 38)]⟩, ⟨some 11, none, .mov (.t 39)⟩])
     (.seq (.seq (.ops [⟨some 40, none, .mov (.t 11)⟩, ⟨some 41, none, .bin .lss (.t 40) (.v (.int .i64 0))⟩])
     (.cond (.t 41) (.exit 0) .skip))
     (.seq (.ops [⟨some 42, none, .mov (.t 9)⟩, ⟨some 43, none, .mov (.t 10)⟩, ⟨some 44, none, .mov (.t 0)⟩, ⟨some 45, none, .mov (.t 11)⟩, ⟨some 46, none, .mov (.t 2)⟩, ⟨some 47, none, .bin .add (.t 45) (.t 46)⟩, ⟨some 48, none, .slStr (.t 44) none (some (.t 47))⟩, ⟨some 49, none, .ixS 1 (.t 42) (.t 43)⟩, ⟨none, none, .st 1 (.t 49) (.t 48)⟩])
     (.seq (.ops [⟨some 50, none, .mov (.t 0)⟩, ⟨some 51, none, .mov (.t 11)⟩, ⟨some 52, none, .mov (.t 1)⟩, ⟨some 53, none, .lenStr (.t 52)⟩, ⟨some 54, none, .bin .add (.t 51) (.t 53)⟩, ⟨some 55, none, .slStr (.t 50) (some (.t 54)) none⟩, ⟨some 0, none, .mov (.t 55)⟩])
     (.ops [⟨some 56, none, .mov (.t 10)⟩, ⟨some 57, none, .bin .add (.t 56) (.v (.int .i64 1))⟩, ⟨some 10, none, .mov (.t 57)⟩])))))))))
  (.seq (.ops [⟨some 58, none, .mov (.t 9)⟩, ⟨some 59, none, .mov (.t 10)⟩, ⟨some 60, none, .mov (.t 0)⟩, ⟨some 61, none, .ixS 1 (.t 58) (.t 59)⟩, ⟨none, none, .st 1 (.t 61) (.t 60)⟩])
  (.seq (.ops [⟨some 62, none, .mov (.t 9)⟩, ⟨some 63, none, .mov (.t 10)⟩, ⟨some 64, none, .bin .add (.t 63) (.v (.int .i64 1))⟩, ⟨some 65, none, .slS 1 (.t 62) none (some (.t 64))⟩, ⟨some 8, none, .mov (.t 65)⟩])
  .ret)))))))))))
theorem Tryd.known91 : Known Tryd.prog 91 Tryd.pc91 66 [8] := ⟨Tryd.f91, _, Tryd.func91, rfl, by kernel_rfl, rfl, rfl⟩

/-- redwax/redwaxref06.may -/
def Tryd.pc92 : PC :=
  (.seq (.ops [⟨some 2, none, .mov (.v (.bool false))⟩])
  (.seq (.ops [⟨some 3, none, .mov (.t 0)⟩, ⟨some 4, none, .bin .geq (.t 3) (.v (.int .u8 97))⟩, ⟨some 5, none, .mov (.t 4)⟩, ⟨some 6, (some (5, true)), .mov (.t 0)⟩, ⟨some 7, (some (5, true)), .bin .leq (.t 6) (.v (.int .u8 122))⟩, ⟨some 8, none, .pick (.t 5) (.t 7) (.v (.bool false))⟩, ⟨some 9, none, .mov (.t 8)⟩, ⟨some 10, (some (9, false)), .mov (.t 0)⟩, ⟨some 11, (some (9, false)), .bin .geq (.t 10) (.v (.int .u8 65))⟩, ⟨some 12, (some (9, false)), .mov (.t 11)⟩, ⟨some 13, (some (12, true)), .mov (.t 0)⟩, ⟨some 14, (some (12, true)), .bin .leq (.t 13) (.v (.int .u8 90))⟩, ⟨some 15, (some (9, false)), .pick (.t 12) (.t 14) (.v (.bool false))⟩, ⟨some 16, none, .pick (.t 9) (.v (.bool true)) (.t 15)⟩, ⟨some 17, none, .mov (.t 16)⟩, ⟨some 18, (some (17, false)), .mov (.t 0)⟩, ⟨some 19, (some (17, false)), .bin .geq (.t 18) (.v (.int .u8 48))⟩, ⟨some 20, (some (17, false)), .mov (.t 19)⟩, ⟨some 21, (some (20, true)), .mov (.t 0)⟩, ⟨some 22, (some (20, true)), .bin .leq (.t 21) (.v (.int .u8 57))⟩, ⟨some 23, (some (17, false)), .pick (.t 20) (.t 22) (.v (.bool false))⟩, ⟨some 24, none, .pick (.t 17) (.v (.bool true)) (.t 23)⟩, ⟨some 25, none, .mov (.t 24)⟩, ⟨some 26, (some (25, false)), .mov (.t 0)⟩, ⟨some 27, (some (25, false)), .bin .eql (.t 26) (.v (.int .u8 95))⟩, ⟨some 28, none, .pick (.t 25) (.v (.bool true)) (.t 27)⟩, ⟨some 29, none, .mov (.t 28)⟩, ⟨some 30, (some (29, false)), .mov (.t 0)⟩, ⟨some 31, (some (29, false)), .bin .eql (.t 30) (.v (.int .u8 45))⟩, ⟨some 32, none, .pick (.t 29) (.v (.bool true)) (.t 31)⟩, ⟨some 33, none, .mov (.t 32)⟩, ⟨some 34, (some (33, false)), .mov (.t 0)⟩, ⟨some 35, (some (33, false)), .bin .eql (.t 34) (.v (.int .u8 46))⟩, ⟨some 36, none, .pick (.t 33) (.v (.bool true)) (.t 35)⟩, ⟨some 2, none, .mov (.t 36)⟩])
  .ret))
theorem Tryd.known92 : Known Tryd.prog 92 Tryd.pc92 37 [2] := ⟨Tryd.f92, _, Tryd.func92, rfl, by kernel_rfl, rfl, rfl⟩

/-- internal/stringslite.HasPrefix -/
def Tryd.pc93 : PC :=
  (.seq (.ops [⟨some 4, none, .mov (.v (.bool false))⟩])
  (.seq (.ops [⟨some 5, none, .mov (.t 0)⟩, ⟨some 6, none, .lenStr (.t 5)⟩, ⟨some 7, none, .mov (.t 1)⟩, ⟨some 8, none, .lenStr (.t 7)⟩, ⟨some 9, none, .bin .geq (.t 6) (.t 8)⟩, ⟨some 10, none, .mov (.t 9)⟩, ⟨some 11, (some (10, true)), .mov (.t 0)⟩, ⟨some 12, (some (10, true)), .mov (.t 1)⟩, ⟨some 13, (some (10, true)), .lenStr (.t 12)⟩, ⟨some 14, (some (10, true)), .slStr (.t 11) none (some (.t 13))⟩, ⟨some 15, (some (10, true)), .mov (.t 1)⟩, ⟨some 16, (some (10, true)), .bin .eql (.t 14) (.t 15)⟩, ⟨some 17, none, .pick (.t 10) (.t 16) (.v (.bool false))⟩, ⟨some 4, none, .mov (.t 17)⟩])
  .ret))
theorem Tryd.known93 : Known Tryd.prog 93 Tryd.pc93 18 [4] := ⟨Tryd.f93, _, Tryd.func93, rfl, by kernel_rfl, rfl, rfl⟩

/-- internal/bytealg.CompareString -/
def Tryd.pc94 : PC :=
  (.seq (.ops [⟨some 4, none, .mov (.v (.int .i64 0))⟩])
  (.seq (.ops [⟨some 5, none, .mov (.t 0)⟩, ⟨some 6, none, .mov (.t 1)⟩, ⟨some 7, none, .more (.xc 2 [(.t 5), (.t 6)])⟩, ⟨some 4, none, .mov (.t 7)⟩])
  .ret))
theorem Tryd.known94 : Known Tryd.prog 94 Tryd.pc94 8 [4] := ⟨Tryd.f94, _, Tryd.func94, rfl, by kernel_rfl, rfl, rfl⟩

/-- slices.IndexFunc[[]string,string] -/
def Tryd.pc105 : PC :=
  (.seq (.ops [⟨some 4, none, .mov (.v (.int .i64 0))⟩])
  (.seq (.seq (.ops [⟨some 6, none, .mov (.t 0)⟩, ⟨some 7, none, .lenS (.t 6)⟩, ⟨some 8, none, .mov (.v (.int .i64 0))⟩])
  (.block 0 (.loop (.seq (.ops [⟨some 9, none, .bin .lss (.t 8) (.t 7)⟩])
    (.seq (.cond (.t 9) .skip (.exit 0))
    (.seq (.block 1 (.seq (.ops [⟨some 10, none, .mov (.t 8)⟩, ⟨some 5, none, .mov (.t 10)⟩])
     (.seq (.ops [⟨some 11, none, .mov (.t 1)⟩, ⟨some 12, none, .mov (.t 0)⟩, ⟨some 13, none, .mov (.t 5)⟩, ⟨some 14, none, .ixS 1 (.t 12) (.t 13)⟩, ⟨some 15, none, .ld (.t 14)⟩, ⟨some 16, none, .callv (.t 11) [(.t 15)]⟩])
     (.cond (.t 16) (.seq (.ops [⟨some 17, none, .mov (.t 5)⟩, ⟨some 4, none, .mov (.t 17)⟩])
      .ret) .skip))))
    (.ops [⟨some 18, none, .bin .add (.t 8) (.v (.int .i64 1))⟩, ⟨some 8, none, .mov (.t 18)⟩])))))))
  (.seq (.ops [⟨some 4, none, .mov (.v (.int .i64 (-1)))⟩])
  .ret)))
theorem Tryd.known105 : Known Tryd.prog 105 Tryd.pc105 19 [4] := ⟨Tryd.f105, _, Tryd.func105, rfl, by kernel_rfl, rfl, rfl⟩

/-- redwax/paths.may -/
def Tryd.pc106 : PC :=
  (.seq (.ops [⟨some 2, none, .mov (.v (.bool false))⟩])
  (.seq (.ops [⟨some 3, none, .mov (.t 0)⟩, ⟨some 4, none, .bin .geq (.t 3) (.v (.int .i32 97))⟩, ⟨some 5, none, .mov (.t 4)⟩, ⟨some 6, (some (5, true)), .mov (.t 0)⟩, ⟨some 7, (some (5, true)), .bin .leq (.t 6) (.v (.int .i32 122))⟩, ⟨some 8, none, .pick (.t 5) (.t 7) (.v (.bool false))⟩, ⟨some 9, none, .mov (.t 8)⟩, ⟨some 10, (some (9, false)), .mov (.t 0)⟩, ⟨some 11, (some (9, false)), .bin .geq (.t 10) (.v (.int .i32 65))⟩, ⟨some 12, (some (9, false)), .mov (.t 11)⟩, ⟨some 13, (some (12, true)), .mov (.t 0)⟩, ⟨some 14, (some (12, true)), .bin .leq (.t 13) (.v (.int .i32 90))⟩, ⟨some 15, (some (9, false)), .pick (.t 12) (.t 14) (.v (.bool false))⟩, ⟨some 16, none, .pick (.t 9) (.v (.bool true)) (.t 15)⟩, ⟨some 17, none, .mov (.t 16)⟩, ⟨some 18, (some (17, false)), .mov (.t 0)⟩, ⟨some 19, (some (17, false)), .bin .geq (.t 18) (.v (.int .i32 48))⟩, ⟨some 20, (some (17, false)), .mov (.t 19)⟩, ⟨some 21, (some (20, true)), .mov (.t 0)⟩, ⟨some 22, (some (20, true)), .bin .leq (.t 21) (.v (.int .i32 57))⟩, ⟨some 23, (some (17, false)), .pick (.t 20) (.t 22) (.v (.bool false))⟩, ⟨some 24, none, .pick (.t 17) (.v (.bool true)) (.t 23)⟩, ⟨some 25, none, .mov (.t 24)⟩, ⟨some 26, (some (25, false)), .mov (.t 0)⟩, ⟨some 27, (some (25, false)), .bin .eql (.t 26) (.v (.int .i32 95))⟩, ⟨some 28, none, .pick (.t 25) (.v (.bool true)) (.t 27)⟩, ⟨some 29, none, .mov (.t 28)⟩, ⟨some 30, (some (29, false)), .mov (.t 0)⟩, ⟨some 31, (some (29, false)), .bin .eql (.t 30) (.v (.int .i32 45))⟩, ⟨some 32, none, .pick (.t 29) (.v (.bool true)) (.t 31)⟩, ⟨some 33, none, .mov (.t 32)⟩, ⟨some 34, (some (33, false)), .mov (.t 0)⟩, ⟨some 35, (some (33, false)), .bin .eql (.t 34) (.v (.int .i32 46))⟩, ⟨some 36, none, .pick (.t 33) (.v (.bool true)) (.t 35)⟩, ⟨some 2, none, .mov (.t 36)⟩])
  .ret))
theorem Tryd.known106 : Known Tryd.prog 106 Tryd.pc106 37 [2] := ⟨Tryd.f106, _, Tryd.func106, rfl, by kernel_rfl, rfl, rfl⟩

/-- strings.Count -/
def Tryd.pc108 : PC :=
  (.seq (.ops [⟨some 4, none, .mov (.v (.int .i64 0))⟩])
  (.seq (.seq (.ops [⟨some 7, none, .mov (.t 1)⟩, ⟨some 8, none, .lenStr (.t 7)⟩, ⟨some 9, none, .bin .eql (.t 8) (.v (.int .i64 0))⟩])
  (.cond (.t 9) (.seq (.ops [⟨some 10, none, .mov (.t 0)⟩, ⟨some 11, none, .call 135 [(.t 10)]⟩, ⟨some 12, none, .bin .add (.t 11) (.v (.int .i64 1))⟩, ⟨some 4, none, .mov (.t 12)⟩])
   .ret) .skip))
  (.seq (.seq (.ops [⟨some 13, none, .mov (.t 1)⟩, ⟨some 14, none, .lenStr (.t 13)⟩, ⟨some 15, none, .bin .eql (.t 14) (.v (.int .i64 1))⟩])
  (.cond (.t 15) (.seq (.ops [⟨some 16, none, .mov (.t 0)⟩, ⟨some 17, none, .mov (.t 1)⟩, ⟨some 18, none, .ixStr (.t 17) (.v (.int .i64 0))⟩, ⟨some 19, none, .more (.xc 1 [(.t 16), (.t 18)])⟩, ⟨some 4, none, .mov (.t 19)⟩])
   .ret) .skip))
  (.seq (.ops [⟨some 5, none, .mov (.v (.int .i64 0))⟩])
  (.block 0 (.loop (.block 1 (.seq (.ops [⟨some 20, none, .mov (.t 0)⟩, ⟨some 21, none, .mov (.t 1)⟩, ⟨some 22, none, .call 109 [(.t 20), (.t 21)]⟩, ⟨some 6, none, .mov (.t 22)⟩])
     (.seq (.seq (.ops [⟨some 23, none, .mov (.t 6)⟩, ⟨some 24, none, .bin .eql (.t 23) (.v (.int .i64 (-1)))⟩])
     (.cond (.t 24) (.seq (.ops [⟨some 25, none, .mov (.t 5)⟩, ⟨some 4, none, .mov (.t 25)⟩])
      .ret) .skip))
     (.seq (.ops [⟨some 26, none, .mov (.t 5)⟩, ⟨some 27, none, .bin .add (.t 26) (.v (.int .i64 1))⟩, ⟨some 5, none, .mov (.t 27)⟩])
     (.ops [⟨some 28, none, .mov (.t 0)⟩, ⟨some 29, none, .mov (.t 6)⟩, ⟨some 30, none, .mov (.t 1)⟩, ⟨some 31, none, .lenStr (.t 30)⟩, ⟨some 32, none, .bin .add (.t 29) (.t 31)⟩, ⟨some 33, none, .slStr (.t 28) (some (.t 32)) none⟩, ⟨some 0, none, .mov (.t 33)⟩])))))))))))
theorem Tryd.known108 : Known Tryd.prog 108 Tryd.pc108 34 [4] := ⟨Tryd.f108, _, Tryd.func108, rfl, by kernel_rfl, rfl, rfl⟩

/-- strings.Index -/
def Tryd.pc109 : PC :=
  (.seq (.ops [⟨some 4, none, .mov (.v (.int .i64 0))⟩])
  (.seq (.ops [⟨some 5, none, .mov (.t 0)⟩, ⟨some 6, none, .mov (.t 1)⟩, ⟨some 7, none, .call 122 [(.t 5), (.t 6)]⟩, ⟨some 4, none, .mov (.t 7)⟩])
  .ret))
theorem Tryd.known109 : Known Tryd.prog 109 Tryd.pc109 8 [4] := ⟨Tryd.f109, _, Tryd.func109, rfl, by kernel_rfl, rfl, rfl⟩

/-- internal/stringslite.Index -/
def Tryd.pc122 : PC :=
  (.seq (.ops [⟨some 4, none, .mov (.v (.int .i64 0))⟩])
  (.seq (.ops [⟨some 14, none, .mov (.t 1)⟩, ⟨some 15, none, .lenStr (.t 14)⟩, ⟨some 5, none, .mov (.t 15)⟩])
  (.seq (.block 0 (.seq (.ops [⟨some 17, none, .mov (.t 5)⟩, ⟨some 18, none, .bin .eql (.t 17) (.v (.int .i64 0))⟩, ⟨some 19, none, .mov (.t 18)⟩, ⟨some 20, (some (19, false)), .mov (.t 1)⟩, ⟨some 21, (some (19, false)), .mov (.t 0)⟩, ⟨some 22, (some (19, false)), .bin .eql (.t 20) (.t 21)⟩, ⟨some 23, none, .pick (.t 19) (.v (.bool true)) (.t 22)⟩, ⟨some 16, none, .mov (.t 23)⟩])
   (.cond (.t 16) (.seq (.ops [⟨some 4, none, .mov (.v (.int .i64 0))⟩])
    .ret) (.seq (.ops [⟨some 25, none, .mov (.t 5)⟩, ⟨some 26, none, .bin .eql (.t 25) (.v (.int .i64 1))⟩, ⟨some 24, none, .mov (.t 26)⟩])
    (.cond (.t 24) (.seq (.ops [⟨some 27, none, .mov (.t 0)⟩, ⟨some 28, none, .mov (.t 1)⟩, ⟨some 29, none, .ixStr (.t 28) (.v (.int .i64 0))⟩, ⟨some 30, none, .call 144 [(.t 27), (.t 29)]⟩, ⟨some 4, none, .mov (.t 30)⟩])
     .ret) (.seq (.ops [⟨some 32, none, .mov (.t 5)⟩, ⟨some 33, none, .mov (.t 0)⟩, ⟨some 34, none, .lenStr (.t 33)⟩, ⟨some 35, none, .bin .geq (.t 32) (.t 34)⟩, ⟨some 31, none, .mov (.t 35)⟩])
     (.cond (.t 31) (.seq (.ops [⟨some 4, none, .mov (.v (.int .i64 (-1)))⟩])
      .ret) (.seq (.ops [⟨some 37, none, .mov (.t 5)⟩, ⟨some 38, none, .ld (.v (.pointer (some ⟨0, 0, none⟩)))⟩, ⟨some 39, none, .bin .leq (.t 37) (.t 38)⟩, ⟨some 40, none, .mov (.t 39)⟩, ⟨some 41, (some (40, true)), .mov (.t 0)⟩, ⟨some 42, (some (40, true)), .lenStr (.t 41)⟩, ⟨some 43, (some (40, true)), .bin .leq (.t 42) (.v (.int .i64 64))⟩, ⟨some 44, none, .pick (.t 40) (.t 43) (.v (.bool false))⟩, ⟨some 36, none, .mov (.t 44)⟩])
      (.cond (.t 36) (.seq (.ops [⟨some 45, none, .mov (.t 0)⟩, ⟨some 46, none, .mov (.t 1)⟩, ⟨some 47, none, .more .other⟩, ⟨some 4, none, .mov (.t 47)⟩])
       .ret) .skip)))))))))
  (.seq (.ops [⟨some 48, none, .mov (.t 1)⟩, ⟨some 49, none, .ixStr (.t 48) (.v (.int .i64 0))⟩, ⟨some 6, none, .mov (.t 49)⟩])
  (.seq (.ops [⟨some 50, none, .mov (.t 1)⟩, ⟨some 51, none, .ixStr (.t 50) (.v (.int .i64 1))⟩, ⟨some 7, none, .mov (.t 51)⟩])
  (.seq (.ops [⟨some 8, none, .mov (.v (.int .i64 0))⟩])
  (.seq (.ops [⟨some 52, none, .mov (.t 0)⟩, ⟨some 53, none, .lenStr (.t 52)⟩, ⟨some 54, none, .mov (.t 5)⟩, ⟨some 55, none, .bin .sub (.t 53) (.t 54)⟩, ⟨some 56, none, .bin .add (.t 55) (.v (.int .i64 1))⟩, ⟨some 9, none, .mov (.t 56)⟩])
  (.seq (.ops [⟨some 10, none, .mov (.v (.int .i64 0))⟩])
  (.seq (.block 1 (.loop (.seq (.seq (.ops [⟨some 57, none, .mov (.t 8)⟩, ⟨some 58, none, .mov (.t 9)⟩, ⟨some 59, none, .bin .lss (.t 57) (.t 58)⟩])
    (.cond (.t 59) .skip (.exit 1)))
    (.block 2 (.seq (.seq (.ops [⟨some 60, none, .mov (.t 0)⟩, ⟨some 61, none, .mov (.t 8)⟩, ⟨some 62, none, .ixStr (.t 60) (.t 61)⟩, ⟨some 63, none, .mov (.t 6)⟩, ⟨some 64, none, .bin .neq (.t 62) (.t 63)⟩])
     (.cond (.t 64) (.seq (.ops [⟨some 65, none, .mov (.t 0)⟩, ⟨some 66, none, .mov (.t 8)⟩, ⟨some 67, none, .bin .add (.t 66) (.v (.int .i64 1))⟩, ⟨some 68, none, .mov (.t 9)⟩, ⟨some 69, none, .slStr (.t 65) (some (.t 67)) (some (.t 68))⟩, ⟨some 70, none, .mov (.t 6)⟩, ⟨some 71, none, .call 144 [(.t 69), (.t 70)]⟩, ⟨some 11, none, .mov (.t 71)⟩])
      (.seq (.seq (.ops [⟨some 72, none, .mov (.t 11)⟩, ⟨some 73, none, .bin .lss (.t 72) (.v (.int .i64 0))⟩])
      (.cond (.t 73) (.seq (.ops [⟨some 4, none, .mov (.v (.int .i64 (-1)))⟩])
       .ret) .skip))
      (.ops [⟨some 74, none, .mov (.t 8)⟩, ⟨some 75, none, .mov (.t 11)⟩, ⟨some 76, none, .bin .add (.t 75) (.v (.int .i64 1))⟩, ⟨some 77, none, .bin .add (.t 74) (.t 76)⟩, ⟨some 8, none, .mov (.t 77)⟩]))) .skip))
     (.seq (.seq (.ops [⟨some 78, none, .mov (.t 0)⟩, ⟨some 79, none, .mov (.t 8)⟩, ⟨some 80, none, .bin .add (.t 79) (.v (.int .i64 1))⟩, ⟨some 81, none, .ixStr (.t 78) (.t 80)⟩, ⟨some 82, none, .mov (.t 7)⟩, ⟨some 83, none, .bin .eql (.t 81) (.t 82)⟩, ⟨some 84, none, .mov (.t 83)⟩, ⟨some 85, (some (84, true)), .mov (.t 0)⟩, ⟨some 86, (some (84, true)), .mov (.t 8)⟩, ⟨some 87, (some (84, true)), .mov (.t 8)⟩, ⟨some 88, (some (84, true)), .mov (.t 5)⟩, ⟨some 89, (some (84, true)), .bin .add (.t 87) (.t 88)⟩, ⟨some 90, (some (84, true)), .slStr (.t 85) (some (.t 86)) (some (.t 89))⟩, ⟨some 91, (some (84, true)), .mov (.t 1)⟩, ⟨some 92, (some (84, true)), .bin .eql (.t 90) (.t 91)⟩, ⟨some 93, none, .pick (.t 84) (.t 92) (.v (.bool false))⟩])
     (.cond (.t 93) (.seq (.ops [⟨some 94, none, .mov (.t 8)⟩, ⟨some 4, none, .mov (.t 94)⟩])
      .ret) .skip))
     (.seq (.ops [⟨some 95, none, .mov (.t 8)⟩, ⟨some 96, none, .bin .add (.t 95) (.v (.int .i64 1))⟩, ⟨some 8, none, .mov (.t 96)⟩])
     (.seq (.ops [⟨some 97, none, .mov (.t 10)⟩, ⟨some 98, none, .bin .add (.t 97) (.v (.int .i64 1))⟩, ⟨some 10, none, .mov (.t 98)⟩])
     (.seq (.ops [⟨some 99, none, .mov (.t 5)⟩, ⟨some 100, none, .ld (.v (.pointer (some ⟨0, 0, none⟩)))⟩, ⟨some 101, none, .bin .leq (.t 99) (.t 100)⟩, ⟨some 102, none, .mov (.t 101)⟩, ⟨some 103, (some (102, true)), .mov (.t 10)⟩, ⟨some 104, (some (102, true)), .mov (.t 8)⟩, ⟨some 105, (some (102, true)), .call 146 [(.t 104)]⟩, ⟨some 106, (some (102, true)), .bin .gtr (.t 103) (.t 105)⟩, ⟨some 107, none, .pick (.t 102) (.t 106) (.v (.bool false))⟩])
     (.cond (.t 107) (.seq (.ops [⟨some 108, none, .mov (.t 0)⟩, ⟨some 109, none, .mov (.t 8)⟩, ⟨some 110, none, .slStr (.t 108) (some (.t 109)) none⟩, ⟨some 111, none, .mov (.t 1)⟩, ⟨some 112, none, .more .other⟩, ⟨some 12, none, .mov (.t 112)⟩])
      (.seq (.seq (.ops [⟨some 113, none, .mov (.t 12)⟩, ⟨some 114, none, .bin .geq (.t 113) (.v (.int .i64 0))⟩])
      (.cond (.t 114) (.seq (.ops [⟨some 115, none, .mov (.t 12)⟩, ⟨some 116, none, .mov (.t 8)⟩, ⟨some 117, none, .bin .add (.t 115) (.t 116)⟩, ⟨some 4, none, .mov (.t 117)⟩])
       .ret) .skip))
      (.seq (.ops [⟨some 4, none, .mov (.v (.int .i64 (-1)))⟩])
      .ret))) (.seq (.ops [⟨some 118, none, .mov (.t 5)⟩, ⟨some 119, none, .ld (.v (.pointer (some ⟨0, 0, none⟩)))⟩, ⟨some 120, none, .bin .gtr (.t 118) (.t 119)⟩, ⟨some 121, none, .mov (.t 120)⟩, ⟨some 122, (some (121, true)), .mov (.t 10)⟩, ⟨some 123, (some (121, true)), .mov (.t 8)⟩, ⟨some 124, (some (121, true)), .bin .shr (.t 123) (.v (.int .u64 4))⟩, ⟨some 125, (some (121, true)), .bin .add (.v (.int .i64 4)) (.t 124)⟩, ⟨some 126, (some (121, true)), .bin .geq (.t 122) (.t 125)⟩, ⟨some 127, none, .pick (.t 121) (.t 126) (.v (.bool false))⟩, ⟨some 128, none, .mov (.t 127)⟩, ⟨some 129, (some (128, true)), .mov (.t 8)⟩, ⟨some 130, (some (128, true)), .mov (.t 9)⟩, ⟨some 131, (some (128, true)), .bin .lss (.t 129) (.t 130)⟩, ⟨some 132, none, .pick (.t 128) (.t 131) (.v (.bool false))⟩])
      (.cond (.t 132) (.seq (.ops [⟨some 133, none, .mov (.t 0)⟩, ⟨some 134, none, .mov (.t 8)⟩, ⟨some 135, none, .slStr (.t 133) (some (.t 134)) none⟩, ⟨some 136, none, .mov (.t 1)⟩, ⟨some 137, none, .call 147 [(.t 135), (.t 136)]⟩, ⟨some 13, none, .mov (.t 137)⟩])
       (.seq (.seq (.ops [⟨some 138, none, .mov (.t 13)⟩, ⟨some 139, none, .bin .lss (.t 138) (.v (.int .i64 0))⟩])
       (.cond (.t 139) (.seq (.ops [⟨some 4, none, .mov (.v (.int .i64 (-1)))⟩])
        .ret) .skip))
       (.seq (.ops [⟨some 140, none, .mov (.t 8)⟩, ⟨some 141, none, .mov (.t 13)⟩, ⟨some 142, none, .bin .add (.t 140) (.t 141)⟩, ⟨some 4, none, .mov (.t 142)⟩])
       .ret))) .skip))))))))))))
  (.seq (.ops [⟨some 4, none, .mov (.v (.int .i64 (-1)))⟩])
  .ret))))))))))
theorem Tryd.known122 : Known Tryd.prog 122 Tryd.pc122 143 [4] := ⟨Tryd.f122, _, Tryd.func122, rfl, by kernel_rfl, rfl, rfl⟩

/-- internal/stringslite.IndexByte -/
def Tryd.pc144 : PC :=
  (.seq (.ops [⟨some 4, none, .mov (.v (.int .i64 0))⟩])
  (.seq (.ops [⟨some 5, none, .mov (.t 0)⟩, ⟨some 6, none, .mov (.t 1)⟩, ⟨some 7, none, .more (.xc 0 [(.t 5), (.t 6)])⟩, ⟨some 4, none, .mov (.t 7)⟩])
  .ret))
theorem Tryd.known144 : Known Tryd.prog 144 Tryd.pc144 8 [4] := ⟨Tryd.f144, _, Tryd.func144, rfl, by kernel_rfl, rfl, rfl⟩

end Go.Proofs
