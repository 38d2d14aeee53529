/- Walks and plain facts for the laws of this seat: what each function answers, for every input. -/
import Derived.Test.YtefefmogjmimdaaSl7
import Derived.Test.YtefefmogjmimdaaProg
namespace Go.Proofs
open Go.SL
set_option maxRecDepth 100000
theorem Try.mixed : Try.prog.follows .mixedOrders = true := by kernel_rfl

/-- redwax/redwaxlaw14.MyersSteps -/
def Try.pc3 : PC :=
  (.seq (.ops [⟨some 4, none, .mov (.v (.bool false))⟩])
  (.seq (.ops [⟨some 11, none, .mov (.t 0)⟩, ⟨some 12, none, .call 8 [(.t 11)]⟩, ⟨some 13, none, .mov (.t 1)⟩, ⟨some 14, none, .call 8 [(.t 13)]⟩, ⟨some 0, none, .mov (.t 12)⟩, ⟨some 1, none, .mov (.t 14)⟩])
  (.seq (.ops [⟨some 16, none, .mov (.t 0)⟩, ⟨some 17, none, .mov (.t 1)⟩, ⟨some 18, none, .call 9 [(.t 16), (.t 17)]⟩, ⟨some 15, none, .mov (.t 18)⟩, ⟨some 19, none, .ext 0 (.t 15)⟩, ⟨some 20, none, .ext 1 (.t 15)⟩, ⟨some 5, none, .mov (.t 19)⟩, ⟨some 6, none, .mov (.t 20)⟩])
  (.seq (.ops [⟨some 22, none, .mov (.t 0)⟩, ⟨some 23, none, .mov (.t 1)⟩, ⟨some 24, none, .call 10 [(.t 22), (.t 23)]⟩, ⟨some 21, none, .mov (.t 24)⟩, ⟨some 25, none, .ext 0 (.t 21)⟩, ⟨some 26, none, .ext 1 (.t 21)⟩, ⟨some 7, none, .mov (.t 25)⟩, ⟨some 8, none, .mov (.t 26)⟩])
  (.seq (.ops [⟨some 27, none, .mov (.t 5)⟩, ⟨some 28, none, .call 11 [(.t 27)]⟩, ⟨some 9, none, .mov (.t 28)⟩])
  (.seq (.seq (.ops [⟨some 29, none, .mov (.t 6)⟩, ⟨some 30, none, .mov (.t 8)⟩, ⟨some 31, none, .bin .neq (.t 29) (.t 30)⟩, ⟨some 32, none, .mov (.t 31)⟩, ⟨some 33, (some (32, false)), .mov (.t 9)⟩, ⟨some 34, (some (32, false)), .lenS (.t 33)⟩, ⟨some 35, (some (32, false)), .mov (.t 7)⟩, ⟨some 36, (some (32, false)), .lenS (.t 35)⟩, ⟨some 37, (some (32, false)), .bin .neq (.t 34) (.t 36)⟩, ⟨some 38, none, .pick (.t 32) (.v (.bool true)) (.t 37)⟩])
  (.cond (.t 38) (.seq (.ops [⟨some 4, none, .mov (.v (.bool false))⟩])
   .ret) .skip))
  (.seq (.seq (.ops [⟨some 10, none, .mov (.v (.int .i64 0))⟩])
  (.block 0 (.loop (.seq (.seq (.ops [⟨some 39, none, .mov (.t 10)⟩, ⟨some 40, none, .mov (.t 9)⟩, ⟨some 41, none, .lenS (.t 40)⟩, ⟨some 42, none, .bin .lss (.t 39) (.t 41)⟩])
    (.cond (.t 42) .skip (.exit 0)))
    (.seq (.block 1 (.seq (.quiet 8 [⟨some 45, none, .mov (.t 9)⟩, ⟨some 46, none, .mov (.t 10)⟩, ⟨some 47, none, .ixS 3 (.t 45) (.t 46)⟩, ⟨some 48, none, .ldA 3 (.t 47)⟩, ⟨some 49, none, .mov (.t 7)⟩, ⟨some 50, none, .mov (.t 10)⟩, ⟨some 51, none, .ixS 3 (.t 49) (.t 50)⟩, ⟨some 52, none, .ldA 3 (.t 51)⟩, ⟨some 53, none, .eqA true 33 [.int .i64, .int .i64, .int .i64] (.t 48) (.t 52)⟩])
     (.cond (.t 53) (.seq (.ops [⟨some 4, none, .mov (.v (.bool false))⟩])
      .ret) .skip)))
    (.ops [⟨some 43, none, .mov (.t 10)⟩, ⟨some 44, none, .bin .add (.t 43) (.v (.int .i64 1))⟩, ⟨some 10, none, .mov (.t 44)⟩]))))))
  (.seq (.ops [⟨some 54, none, .call 12 []⟩, ⟨some 4, none, .mov (.t 54)⟩])
  .ret))))))))
theorem Try.known3 : Known Try.prog 3 Try.pc3 55 [4] := ⟨Try.f3, _, Try.func3, rfl, by kernel_rfl, rfl, rfl⟩

/-- redwax/redwaxlaw14.MyersLeft -/
def Try.pc4 : PC :=
  (.seq (.ops [⟨some 4, none, .mov (.v (.bool false))⟩])
  (.seq (.ops [⟨some 11, none, .mov (.t 0)⟩, ⟨some 12, none, .call 8 [(.t 11)]⟩, ⟨some 13, none, .mov (.t 1)⟩, ⟨some 14, none, .call 8 [(.t 13)]⟩, ⟨some 0, none, .mov (.t 12)⟩, ⟨some 1, none, .mov (.t 14)⟩])
  (.seq (.ops [⟨some 16, none, .mov (.t 0)⟩, ⟨some 17, none, .mov (.t 1)⟩, ⟨some 18, none, .call 9 [(.t 16), (.t 17)]⟩, ⟨some 15, none, .mov (.t 18)⟩, ⟨some 19, none, .ext 0 (.t 15)⟩, ⟨some 20, none, .ext 1 (.t 15)⟩, ⟨some 5, none, .mov (.t 19)⟩, ⟨some 6, none, .mov (.t 20)⟩])
  (.seq (.seq (.ops [⟨some 21, none, .mov (.t 6)⟩, ⟨some 22, none, .bin .neq (.t 21) (.v (.int .i64 0))⟩])
  (.cond (.t 22) (.seq (.ops [⟨some 4, none, .mov (.v (.bool false))⟩])
   .ret) .skip))
  (.seq (.ops [⟨some 7, none, .mov (.v (.slice none 0 0))⟩, ⟨some 8, none, .mov (.v (.slice none 0 0))⟩])
  (.seq (.seq (.ops [⟨some 9, none, .mov (.v (.int .i64 0))⟩])
  (.block 0 (.loop (.seq (.seq (.ops [⟨some 23, none, .mov (.t 9)⟩, ⟨some 24, none, .mov (.t 5)⟩, ⟨some 25, none, .lenS (.t 24)⟩, ⟨some 26, none, .bin .lss (.t 23) (.t 25)⟩])
    (.cond (.t 26) .skip (.exit 0)))
    (.seq (.block 1 (.seq (.ops [⟨some 29, none, .mov (.t 5)⟩, ⟨some 30, none, .mov (.t 9)⟩, ⟨some 31, none, .ixS 3 (.t 29) (.t 30)⟩, ⟨some 32, none, .ldA 3 (.t 31)⟩, ⟨some 10, none, .al 36 [.int .i64 0, .int .i64 0, .int .i64 0]⟩, ⟨none, none, .st 3 (.t 10) (.t 32)⟩])
     (.seq (.seq (.ops [⟨some 33, none, .fa 0 (.t 10)⟩, ⟨some 34, none, .ld (.t 33)⟩, ⟨some 35, none, .bin .neq (.t 34) (.v (.int .i64 2))⟩])
     (.cond (.t 35) (.seq (.seq (.ops [⟨some 36, none, .fa 1 (.t 10)⟩, ⟨some 37, none, .ld (.t 36)⟩, ⟨some 38, none, .bin .lss (.t 37) (.v (.int .i64 0))⟩, ⟨some 39, none, .mov (.t 38)⟩, ⟨some 40, (some (39, false)), .fa 1 (.t 10)⟩, ⟨some 41, (some (39, false)), .ld (.t 40)⟩, ⟨some 42, (some (39, false)), .mov (.t 0)⟩, ⟨some 43, (some (39, false)), .lenS (.t 42)⟩, ⟨some 44, (some (39, false)), .bin .geq (.t 41) (.t 43)⟩, ⟨some 45, none, .pick (.t 39) (.v (.bool true)) (.t 44)⟩])
      (.cond (.t 45) (.seq (.ops [⟨some 4, none, .mov (.v (.bool false))⟩])
       .ret) .skip))
      (.ops [⟨some 46, none, .mov (.t 7)⟩, ⟨some 47, none, .mov (.t 0)⟩, ⟨some 48, none, .fa 1 (.t 10)⟩, ⟨some 49, none, .ld (.t 48)⟩, ⟨some 50, none, .ixS 1 (.t 47) (.t 49)⟩, ⟨some 51, none, .ld (.t 50)⟩, ⟨some 52, none, .bsl 9 [.string ⟨#[]⟩] 1 [(0, 1, (.t 51))]⟩, ⟨some 53, none, .app 22 9 1 16 (.string ⟨#[]⟩) (.t 46) (.t 52)⟩, ⟨some 7, none, .mov (.t 53)⟩])) .skip))
     (.seq (.ops [⟨some 54, none, .fa 0 (.t 10)⟩, ⟨some 55, none, .ld (.t 54)⟩, ⟨some 56, none, .bin .neq (.t 55) (.v (.int .i64 1))⟩])
     (.cond (.t 56) (.seq (.seq (.ops [⟨some 57, none, .fa 2 (.t 10)⟩, ⟨some 58, none, .ld (.t 57)⟩, ⟨some 59, none, .bin .lss (.t 58) (.v (.int .i64 0))⟩, ⟨some 60, none, .mov (.t 59)⟩, ⟨some 61, (some (60, false)), .fa 2 (.t 10)⟩, ⟨some 62, (some (60, false)), .ld (.t 61)⟩, ⟨some 63, (some (60, false)), .mov (.t 1)⟩, ⟨some 64, (some (60, false)), .lenS (.t 63)⟩, ⟨some 65, (some (60, false)), .bin .geq (.t 62) (.t 64)⟩, ⟨some 66, none, .pick (.t 60) (.v (.bool true)) (.t 65)⟩])
      (.cond (.t 66) (.seq (.ops [⟨some 4, none, .mov (.v (.bool false))⟩])
       .ret) .skip))
      (.ops [⟨some 67, none, .mov (.t 8)⟩, ⟨some 68, none, .mov (.t 1)⟩, ⟨some 69, none, .fa 2 (.t 10)⟩, ⟨some 70, none, .ld (.t 69)⟩, ⟨some 71, none, .ixS 1 (.t 68) (.t 70)⟩, ⟨some 72, none, .ld (.t 71)⟩, ⟨some 73, none, .bsl 9 [.string ⟨#[]⟩] 1 [(0, 1, (.t 72))]⟩, ⟨some 74, none, .app 22 9 1 16 (.string ⟨#[]⟩) (.t 67) (.t 73)⟩, ⟨some 8, none, .mov (.t 74)⟩])) .skip)))))
    (.ops [⟨some 27, none, .mov (.t 9)⟩, ⟨some 28, none, .bin .add (.t 27) (.v (.int .i64 1))⟩, ⟨some 9, none, .mov (.t 28)⟩]))))))
  (.seq (.ops [⟨some 75, none, .mov (.t 7)⟩, ⟨some 76, none, .mov (.t 0)⟩, ⟨some 77, none, .call 13 [(.t 75), (.t 76)]⟩, ⟨some 78, none, .mov (.t 77)⟩, ⟨some 79, (some (78, true)), .mov (.t 8)⟩, ⟨some 80, (some (78, true)), .mov (.t 1)⟩, ⟨some 81, (some (78, true)), .call 13 [(.t 79), (.t 80)]⟩, ⟨some 82, none, .pick (.t 78) (.t 81) (.v (.bool false))⟩, ⟨some 83, none, .mov (.t 82)⟩, ⟨some 84, (some (83, true)), .call 12 []⟩, ⟨some 85, none, .pick (.t 83) (.t 84) (.v (.bool false))⟩, ⟨some 4, none, .mov (.t 85)⟩])
  .ret)))))))
theorem Try.known4 : Known Try.prog 4 Try.pc4 86 [4] := ⟨Try.f4, _, Try.func4, rfl, by kernel_rfl, rfl, rfl⟩

/-- redwax/redwaxlaw14.MyersPlays -/
def Try.pc5 : PC :=
  (.seq (.ops [⟨some 6, none, .mov (.v (.bool false))⟩])
  (.seq (.ops [⟨some 11, none, .mov (.t 0)⟩, ⟨some 12, none, .call 8 [(.t 11)]⟩, ⟨some 13, none, .mov (.t 1)⟩, ⟨some 14, none, .call 8 [(.t 13)]⟩, ⟨some 0, none, .mov (.t 12)⟩, ⟨some 1, none, .mov (.t 14)⟩])
  (.seq (.ops [⟨some 15, none, .mov (.t 2)⟩, ⟨some 16, none, .mov (.t 2)⟩, ⟨some 17, none, .lenS (.t 16)⟩, ⟨some 18, none, .mnx false [(.t 17), (.v (.int .i64 200))]⟩, ⟨some 19, none, .slS 3 (.t 15) none (some (.t 18))⟩, ⟨some 2, none, .mov (.t 19)⟩])
  (.seq (.ops [⟨some 21, none, .mov (.t 0)⟩, ⟨some 22, none, .mov (.t 1)⟩, ⟨some 23, none, .mov (.t 2)⟩, ⟨some 24, none, .call 14 [(.t 21), (.t 22), (.t 23)]⟩, ⟨some 20, none, .mov (.t 24)⟩, ⟨some 25, none, .ext 0 (.t 20)⟩, ⟨some 26, none, .ext 1 (.t 20)⟩, ⟨some 7, none, .mov (.t 25)⟩, ⟨some 8, none, .mov (.t 26)⟩])
  (.seq (.ops [⟨some 28, none, .mov (.t 0)⟩, ⟨some 29, none, .mov (.t 1)⟩, ⟨some 30, none, .mov (.t 2)⟩, ⟨some 31, none, .call 11 [(.t 30)]⟩, ⟨some 32, none, .call 15 [(.t 28), (.t 29), (.t 31)]⟩, ⟨some 27, none, .mov (.t 32)⟩, ⟨some 33, none, .ext 0 (.t 27)⟩, ⟨some 34, none, .ext 1 (.t 27)⟩, ⟨some 9, none, .mov (.t 33)⟩, ⟨some 10, none, .mov (.t 34)⟩])
  (.seq (.ops [⟨some 35, none, .mov (.t 8)⟩, ⟨some 36, none, .mov (.t 10)⟩, ⟨some 37, none, .bin .eql (.t 35) (.t 36)⟩, ⟨some 38, none, .mov (.t 37)⟩, ⟨some 39, (some (38, true)), .mov (.t 7)⟩, ⟨some 40, (some (38, true)), .mov (.t 9)⟩, ⟨some 41, (some (38, true)), .call 13 [(.t 39), (.t 40)]⟩, ⟨some 42, none, .pick (.t 38) (.t 41) (.v (.bool false))⟩, ⟨some 43, none, .mov (.t 42)⟩, ⟨some 44, (some (43, true)), .call 12 []⟩, ⟨some 45, none, .pick (.t 43) (.t 44) (.v (.bool false))⟩, ⟨some 6, none, .mov (.t 45)⟩])
  .ret))))))
theorem Try.known5 : Known Try.prog 5 Try.pc5 46 [6] := ⟨Try.f5, _, Try.func5, rfl, by kernel_rfl, rfl, rfl⟩

/-- redwax/redwaxlaw14.MyersLeast -/
def Try.pc6 : PC :=
  (.seq (.ops [⟨some 4, none, .mov (.v (.bool false))⟩])
  (.seq (.ops [⟨some 14, none, .mov (.t 0)⟩, ⟨some 15, none, .call 8 [(.t 14)]⟩, ⟨some 16, none, .mov (.t 1)⟩, ⟨some 17, none, .call 8 [(.t 16)]⟩, ⟨some 0, none, .mov (.t 15)⟩, ⟨some 1, none, .mov (.t 17)⟩])
  (.seq (.ops [⟨some 19, none, .mov (.t 0)⟩, ⟨some 20, none, .mov (.t 1)⟩, ⟨some 21, none, .call 9 [(.t 19), (.t 20)]⟩, ⟨some 18, none, .mov (.t 21)⟩, ⟨some 22, none, .ext 0 (.t 18)⟩, ⟨some 23, none, .ext 1 (.t 18)⟩, ⟨some 5, none, .mov (.t 22)⟩, ⟨some 6, none, .mov (.t 23)⟩])
  (.seq (.ops [⟨some 25, none, .mov (.t 1)⟩, ⟨some 26, none, .mov (.t 0)⟩, ⟨some 27, none, .call 9 [(.t 25), (.t 26)]⟩, ⟨some 24, none, .mov (.t 27)⟩, ⟨some 28, none, .ext 0 (.t 24)⟩, ⟨some 29, none, .ext 1 (.t 24)⟩, ⟨some 7, none, .mov (.t 28)⟩, ⟨some 8, none, .mov (.t 29)⟩])
  (.seq (.ops [⟨some 31, none, .mov (.t 0)⟩, ⟨some 32, none, .mov (.t 0)⟩, ⟨some 33, none, .call 9 [(.t 31), (.t 32)]⟩, ⟨some 30, none, .mov (.t 33)⟩, ⟨some 34, none, .ext 0 (.t 30)⟩, ⟨some 35, none, .ext 1 (.t 30)⟩, ⟨some 9, none, .mov (.t 34)⟩, ⟨some 10, none, .mov (.t 35)⟩])
  (.seq (.seq (.ops [⟨some 36, none, .mov (.t 6)⟩, ⟨some 37, none, .bin .neq (.t 36) (.v (.int .i64 0))⟩, ⟨some 38, none, .mov (.t 37)⟩, ⟨some 39, (some (38, false)), .mov (.t 8)⟩, ⟨some 40, (some (38, false)), .bin .neq (.t 39) (.v (.int .i64 0))⟩, ⟨some 41, none, .pick (.t 38) (.v (.bool true)) (.t 40)⟩, ⟨some 42, none, .mov (.t 41)⟩, ⟨some 43, (some (42, false)), .mov (.t 10)⟩, ⟨some 44, (some (42, false)), .bin .neq (.t 43) (.v (.int .i64 0))⟩, ⟨some 45, none, .pick (.t 42) (.v (.bool true)) (.t 44)⟩])
  (.cond (.t 45) (.seq (.ops [⟨some 4, none, .mov (.v (.bool false))⟩])
   .ret) .skip))
  (.seq (.ops [⟨some 47, none, .mov (.t 0)⟩, ⟨some 48, none, .mov (.t 1)⟩, ⟨some 49, none, .mov (.t 5)⟩, ⟨some 50, none, .call 14 [(.t 47), (.t 48), (.t 49)]⟩, ⟨some 46, none, .mov (.t 50)⟩, ⟨some 51, none, .ext 0 (.t 46)⟩, ⟨some 52, none, .ext 1 (.t 46)⟩, ⟨some 11, none, .mov (.t 51)⟩, ⟨some 12, none, .mov (.t 52)⟩])
  (.seq (.ops [⟨some 53, none, .mov (.t 0)⟩, ⟨some 54, none, .mov (.t 1)⟩, ⟨some 55, none, .call 16 [(.t 53), (.t 54)]⟩, ⟨some 13, none, .mov (.t 55)⟩])
  (.seq (.ops [⟨some 56, none, .mov (.t 12)⟩, ⟨some 57, none, .bin .eql (.t 56) (.v (.int .i64 0))⟩, ⟨some 58, none, .mov (.t 57)⟩, ⟨some 59, (some (58, true)), .mov (.t 11)⟩, ⟨some 60, (some (58, true)), .mov (.t 1)⟩, ⟨some 61, (some (58, true)), .call 13 [(.t 59), (.t 60)]⟩, ⟨some 62, none, .pick (.t 58) (.t 61) (.v (.bool false))⟩, ⟨some 63, none, .mov (.t 62)⟩, ⟨some 64, (some (63, true)), .mov (.t 5)⟩, ⟨some 65, (some (63, true)), .call 17 [(.t 64)]⟩, ⟨some 66, (some (63, true)), .mov (.t 13)⟩, ⟨some 67, (some (63, true)), .bin .eql (.t 65) (.t 66)⟩, ⟨some 68, none, .pick (.t 63) (.t 67) (.v (.bool false))⟩, ⟨some 69, none, .mov (.t 68)⟩, ⟨some 70, (some (69, true)), .mov (.t 7)⟩, ⟨some 71, (some (69, true)), .call 17 [(.t 70)]⟩, ⟨some 72, (some (69, true)), .mov (.t 13)⟩, ⟨some 73, (some (69, true)), .bin .eql (.t 71) (.t 72)⟩, ⟨some 74, none, .pick (.t 69) (.t 73) (.v (.bool false))⟩, ⟨some 75, none, .mov (.t 74)⟩, ⟨some 76, (some (75, true)), .mov (.t 5)⟩, ⟨some 77, (some (75, true)), .lenS (.t 76)⟩, ⟨some 78, (some (75, true)), .mov (.t 0)⟩, ⟨some 79, (some (75, true)), .lenS (.t 78)⟩, ⟨some 80, (some (75, true)), .mov (.t 1)⟩, ⟨some 81, (some (75, true)), .lenS (.t 80)⟩, ⟨some 82, (some (75, true)), .bin .add (.t 79) (.t 81)⟩, ⟨some 83, (some (75, true)), .mov (.t 13)⟩, ⟨some 84, (some (75, true)), .bin .sub (.t 82) (.t 83)⟩, ⟨some 85, (some (75, true)), .bin .eql (.t 77) (.t 84)⟩, ⟨some 86, none, .pick (.t 75) (.t 85) (.v (.bool false))⟩, ⟨some 87, none, .mov (.t 86)⟩, ⟨some 88, (some (87, true)), .mov (.t 9)⟩, ⟨some 89, (some (87, true)), .call 17 [(.t 88)]⟩, ⟨some 90, (some (87, true)), .mov (.t 0)⟩, ⟨some 91, (some (87, true)), .lenS (.t 90)⟩, ⟨some 92, (some (87, true)), .bin .eql (.t 89) (.t 91)⟩, ⟨some 93, none, .pick (.t 87) (.t 92) (.v (.bool false))⟩, ⟨some 94, none, .mov (.t 93)⟩, ⟨some 95, (some (94, true)), .mov (.t 9)⟩, ⟨some 96, (some (94, true)), .lenS (.t 95)⟩, ⟨some 97, (some (94, true)), .mov (.t 0)⟩, ⟨some 98, (some (94, true)), .lenS (.t 97)⟩, ⟨some 99, (some (94, true)), .bin .eql (.t 96) (.t 98)⟩, ⟨some 100, none, .pick (.t 94) (.t 99) (.v (.bool false))⟩, ⟨some 101, none, .mov (.t 100)⟩, ⟨some 102, (some (101, true)), .call 12 []⟩, ⟨some 103, none, .pick (.t 101) (.t 102) (.v (.bool false))⟩, ⟨some 4, none, .mov (.t 103)⟩])
  .ret)))))))))
theorem Try.known6 : Known Try.prog 6 Try.pc6 104 [4] := ⟨Try.f6, _, Try.func6, rfl, by kernel_rfl, rfl, rfl⟩

/-- redwax/redwaxlaw14.MyersKnown -/
def Try.pc7 : PC :=
  (.seq (.ops [⟨some 0, none, .mov (.v (.bool false))⟩])
  (.seq (.ops [⟨some 18, none, .call 18 [(.v (.string ⟨#[97, 98, 99, 97, 98, 98, 97]⟩))]⟩, ⟨some 19, none, .call 18 [(.v (.string ⟨#[99, 98, 97, 98, 97, 99]⟩))]⟩, ⟨some 20, none, .call 9 [(.t 18), (.t 19)]⟩, ⟨some 17, none, .mov (.t 20)⟩, ⟨some 21, none, .ext 0 (.t 17)⟩, ⟨some 22, none, .ext 1 (.t 17)⟩, ⟨some 1, none, .mov (.t 21)⟩, ⟨some 2, none, .mov (.t 22)⟩])
  (.seq (.ops [⟨some 23, none, .build [.int .i64 0, .int .i64 0, .int .i64 0] [(0, 1, (.v (.int .i64 1)))]⟩, ⟨some 24, none, .build [.int .i64 0, .int .i64 0, .int .i64 0] [(0, 1, (.v (.int .i64 1))), (1, 1, (.v (.int .i64 1)))]⟩, ⟨some 25, none, .build [.int .i64 0, .int .i64 0, .int .i64 0] [(1, 1, (.v (.int .i64 2)))]⟩, ⟨some 26, none, .build [.int .i64 0, .int .i64 0, .int .i64 0] [(0, 1, (.v (.int .i64 1))), (1, 1, (.v (.int .i64 3)))]⟩, ⟨some 27, none, .build [.int .i64 0, .int .i64 0, .int .i64 0] [(1, 1, (.v (.int .i64 4))), (2, 1, (.v (.int .i64 1)))]⟩, ⟨some 28, none, .build [.int .i64 0, .int .i64 0, .int .i64 0] [(0, 1, (.v (.int .i64 2))), (2, 1, (.v (.int .i64 2)))]⟩, ⟨some 29, none, .build [.int .i64 0, .int .i64 0, .int .i64 0] [(1, 1, (.v (.int .i64 5))), (2, 1, (.v (.int .i64 3)))]⟩, ⟨some 30, none, .build [.int .i64 0, .int .i64 0, .int .i64 0] [(1, 1, (.v (.int .i64 6))), (2, 1, (.v (.int .i64 4)))]⟩, ⟨some 31, none, .build [.int .i64 0, .int .i64 0, .int .i64 0] [(0, 1, (.v (.int .i64 2))), (2, 1, (.v (.int .i64 5)))]⟩, ⟨some 32, none, .bsl 36 [.int .i64 0, .int .i64 0, .int .i64 0, .int .i64 0, .int .i64 0, .int .i64 0, .int .i64 0, .int .i64 0, .int .i64 0, .int .i64 0, .int .i64 0, .int .i64 0, .int .i64 0, .int .i64 0, .int .i64 0, .int .i64 0, .int .i64 0, .int .i64 0, .int .i64 0, .int .i64 0, .int .i64 0, .int .i64 0, .int .i64 0, .int .i64 0, .int .i64 0, .int .i64 0, .int .i64 0] 9 [(0, 3, (.t 23)), (3, 3, (.t 24)), (6, 3, (.t 25)), (9, 3, (.t 26)), (12, 3, (.t 27)), (15, 3, (.t 28)), (18, 3, (.t 29)), (21, 3, (.t 30)), (24, 3, (.t 31))]⟩, ⟨some 3, none, .mov (.t 32)⟩])
  (.seq (.seq (.ops [⟨some 33, none, .mov (.t 2)⟩, ⟨some 34, none, .bin .neq (.t 33) (.v (.int .i64 0))⟩, ⟨some 35, none, .mov (.t 34)⟩, ⟨some 36, (some (35, false)), .mov (.t 1)⟩, ⟨some 37, (some (35, false)), .lenS (.t 36)⟩, ⟨some 38, (some (35, false)), .mov (.t 3)⟩, ⟨some 39, (some (35, false)), .lenS (.t 38)⟩, ⟨some 40, (some (35, false)), .bin .neq (.t 37) (.t 39)⟩, ⟨some 41, none, .pick (.t 35) (.v (.bool true)) (.t 40)⟩])
  (.cond (.t 41) (.seq (.ops [⟨some 0, none, .mov (.v (.bool false))⟩])
   .ret) .skip))
  (.seq (.seq (.ops [⟨some 4, none, .mov (.v (.int .i64 0))⟩])
  (.block 0 (.loop (.seq (.seq (.ops [⟨some 42, none, .mov (.t 4)⟩, ⟨some 43, none, .mov (.t 1)⟩, ⟨some 44, none, .lenS (.t 43)⟩, ⟨some 45, none, .bin .lss (.t 42) (.t 44)⟩])
    (.cond (.t 45) .skip (.exit 0)))
    (.seq (.block 1 (.seq (.quiet 8 [⟨some 48, none, .mov (.t 1)⟩, ⟨some 49, none, .mov (.t 4)⟩, ⟨some 50, none, .ixS 3 (.t 48) (.t 49)⟩, ⟨some 51, none, .ldA 3 (.t 50)⟩, ⟨some 52, none, .mov (.t 3)⟩, ⟨some 53, none, .mov (.t 4)⟩, ⟨some 54, none, .ixS 3 (.t 52) (.t 53)⟩, ⟨some 55, none, .ldA 3 (.t 54)⟩, ⟨some 56, none, .eqA true 36 [.int .i64, .int .i64, .int .i64] (.t 51) (.t 55)⟩])
     (.cond (.t 56) (.seq (.ops [⟨some 0, none, .mov (.v (.bool false))⟩])
      .ret) .skip)))
    (.ops [⟨some 46, none, .mov (.t 4)⟩, ⟨some 47, none, .bin .add (.t 46) (.v (.int .i64 1))⟩, ⟨some 4, none, .mov (.t 47)⟩]))))))
  (.seq (.ops [⟨some 58, none, .bsl 9 [.string ⟨#[]⟩] 1 [(0, 1, (.v (.string ⟨#[120]⟩)))]⟩, ⟨some 59, none, .bsl 9 [.string ⟨#[]⟩] 1 [(0, 1, (.v (.string ⟨#[121]⟩)))]⟩, ⟨some 60, none, .call 9 [(.t 58), (.t 59)]⟩, ⟨some 57, none, .mov (.t 60)⟩, ⟨some 61, none, .ext 0 (.t 57)⟩, ⟨some 62, none, .ext 1 (.t 57)⟩, ⟨some 5, none, .mov (.t 61)⟩, ⟨some 6, none, .mov (.t 62)⟩])
  (.seq (.ops [⟨some 64, none, .call 9 [(.v (.slice none 0 0)), (.v (.slice none 0 0))]⟩, ⟨some 63, none, .mov (.t 64)⟩, ⟨some 65, none, .ext 0 (.t 63)⟩, ⟨some 66, none, .ext 1 (.t 63)⟩, ⟨some 7, none, .mov (.t 65)⟩, ⟨some 8, none, .mov (.t 66)⟩])
  (.seq (.ops [⟨some 68, none, .mkS 22 9 1 16 (.string ⟨#[]⟩) (.v (.int .i64 1025)) (.v (.int .i64 1025))⟩, ⟨some 69, none, .call 9 [(.t 68), (.v (.slice none 0 0))]⟩, ⟨some 67, none, .mov (.t 69)⟩, ⟨some 70, none, .ext 0 (.t 67)⟩, ⟨some 71, none, .ext 1 (.t 67)⟩, ⟨some 9, none, .mov (.t 70)⟩, ⟨some 10, none, .mov (.t 71)⟩])
  (.seq (.ops [⟨some 73, none, .bsl 9 [.string ⟨#[]⟩] 1 [(0, 1, (.v (.string ⟨#[120]⟩)))]⟩, ⟨some 74, none, .call 14 [(.t 73), (.v (.slice none 0 0)), (.v (.slice none 0 0))]⟩, ⟨some 72, none, .mov (.t 74)⟩, ⟨some 75, none, .ext 0 (.t 72)⟩, ⟨some 76, none, .ext 1 (.t 72)⟩, ⟨some 11, none, .mov (.t 75)⟩, ⟨some 12, none, .mov (.t 76)⟩])
  (.seq (.ops [⟨some 78, none, .bsl 9 [.string ⟨#[]⟩] 1 [(0, 1, (.v (.string ⟨#[120]⟩)))]⟩, ⟨some 79, none, .bsl 9 [.string ⟨#[]⟩] 1 [(0, 1, (.v (.string ⟨#[121]⟩)))]⟩, ⟨some 80, none, .build [.int .i64 0, .int .i64 0, .int .i64 0] []⟩, ⟨some 81, none, .bsl 36 [.int .i64 0, .int .i64 0, .int .i64 0] 1 [(0, 3, (.t 80))]⟩, ⟨some 82, none, .call 14 [(.t 78), (.t 79), (.t 81)]⟩, ⟨some 77, none, .mov (.t 82)⟩, ⟨some 83, none, .ext 0 (.t 77)⟩, ⟨some 84, none, .ext 1 (.t 77)⟩, ⟨some 13, none, .mov (.t 83)⟩, ⟨some 14, none, .mov (.t 84)⟩])
  (.seq (.ops [⟨some 86, none, .build [.int .i64 0, .int .i64 0, .int .i64 0] [(0, 1, (.v (.int .i64 3)))]⟩, ⟨some 87, none, .bsl 36 [.int .i64 0, .int .i64 0, .int .i64 0] 1 [(0, 3, (.t 86))]⟩, ⟨some 88, none, .call 14 [(.v (.slice none 0 0)), (.v (.slice none 0 0)), (.t 87)]⟩, ⟨some 85, none, .mov (.t 88)⟩, ⟨some 89, none, .ext 0 (.t 85)⟩, ⟨some 90, none, .ext 1 (.t 85)⟩, ⟨some 15, none, .mov (.t 89)⟩, ⟨some 16, none, .mov (.t 90)⟩])
  (.seq (.ops [⟨some 91, none, .mov (.t 6)⟩, ⟨some 92, none, .bin .eql (.t 91) (.v (.int .i64 0))⟩, ⟨some 93, none, .mov (.t 92)⟩, ⟨some 94, (some (93, true)), .mov (.t 5)⟩, ⟨some 95, (some (93, true)), .lenS (.t 94)⟩, ⟨some 96, (some (93, true)), .bin .eql (.t 95) (.v (.int .i64 2))⟩, ⟨some 97, none, .pick (.t 93) (.t 96) (.v (.bool false))⟩, ⟨some 98, none, .mov (.t 97)⟩, ⟨some 99, (some (98, true)), .mov (.t 5)⟩, ⟨some 100, (some (98, true)), .ixS 3 (.t 99) (.v (.int .i64 0))⟩, ⟨some 101, (some (98, true)), .ldA 3 (.t 100)⟩, ⟨some 102, (some (98, true)), .build [.int .i64 0, .int .i64 0, .int .i64 0] [(0, 1, (.v (.int .i64 1)))]⟩, ⟨some 103, (some (98, true)), .eqA false 36 [.int .i64, .int .i64, .int .i64] (.t 101) (.t 102)⟩, ⟨some 104, none, .pick (.t 98) (.t 103) (.v (.bool false))⟩, ⟨some 105, none, .mov (.t 104)⟩, ⟨some 106, (some (105, true)), .mov (.t 5)⟩, ⟨some 107, (some (105, true)), .ixS 3 (.t 106) (.v (.int .i64 1))⟩, ⟨some 108, (some (105, true)), .ldA 3 (.t 107)⟩, ⟨some 109, (some (105, true)), .build [.int .i64 0, .int .i64 0, .int .i64 0] [(0, 1, (.v (.int .i64 2)))]⟩, ⟨some 110, (some (105, true)), .eqA false 36 [.int .i64, .int .i64, .int .i64] (.t 108) (.t 109)⟩, ⟨some 111, none, .pick (.t 105) (.t 110) (.v (.bool false))⟩, ⟨some 112, none, .mov (.t 111)⟩, ⟨some 113, (some (112, true)), .mov (.t 8)⟩, ⟨some 114, (some (112, true)), .bin .eql (.t 113) (.v (.int .i64 0))⟩, ⟨some 115, none, .pick (.t 112) (.t 114) (.v (.bool false))⟩, ⟨some 116, none, .mov (.t 115)⟩, ⟨some 117, (some (116, true)), .mov (.t 7)⟩, ⟨some 118, (some (116, true)), .lenS (.t 117)⟩, ⟨some 119, (some (116, true)), .bin .eql (.t 118) (.v (.int .i64 0))⟩, ⟨some 120, none, .pick (.t 116) (.t 119) (.v (.bool false))⟩, ⟨some 121, none, .mov (.t 120)⟩, ⟨some 122, (some (121, true)), .mov (.t 10)⟩, ⟨some 123, (some (121, true)), .bin .eql (.t 122) (.v (.int .i64 3))⟩, ⟨some 124, none, .pick (.t 121) (.t 123) (.v (.bool false))⟩, ⟨some 125, none, .mov (.t 124)⟩, ⟨some 126, (some (125, true)), .mov (.t 12)⟩, ⟨some 127, (some (125, true)), .bin .eql (.t 126) (.v (.int .i64 4))⟩, ⟨some 128, none, .pick (.t 125) (.t 127) (.v (.bool false))⟩, ⟨some 129, none, .mov (.t 128)⟩, ⟨some 130, (some (129, true)), .mov (.t 14)⟩, ⟨some 131, (some (129, true)), .bin .eql (.t 130) (.v (.int .i64 4))⟩, ⟨some 132, none, .pick (.t 129) (.t 131) (.v (.bool false))⟩, ⟨some 133, none, .mov (.t 132)⟩, ⟨some 134, (some (133, true)), .mov (.t 16)⟩, ⟨some 135, (some (133, true)), .bin .eql (.t 134) (.v (.int .i64 4))⟩, ⟨some 136, none, .pick (.t 133) (.t 135) (.v (.bool false))⟩, ⟨some 137, none, .mov (.t 136)⟩, ⟨some 138, (some (137, true)), .call 12 []⟩, ⟨some 139, none, .pick (.t 137) (.t 138) (.v (.bool false))⟩, ⟨some 0, none, .mov (.t 139)⟩])
  .ret))))))))))))
theorem Try.known7 : Known Try.prog 7 Try.pc7 140 [0] := ⟨Try.f7, _, Try.func7, rfl, by kernel_rfl, rfl, rfl⟩

/-- redwax/redwaxlaw14.cut -/
def Try.pc8 : PC :=
  (.seq (.ops [⟨some 2, none, .mov (.v (.slice none 0 0))⟩])
  (.seq (.ops [⟨some 3, none, .mov (.v (.slice none 0 0))⟩])
  (.seq (.seq (.ops [⟨some 4, none, .mov (.v (.int .i64 0))⟩])
  (.block 0 (.loop (.seq (.seq (.ops [⟨some 5, none, .mov (.t 4)⟩, ⟨some 6, none, .mov (.t 0)⟩, ⟨some 7, none, .lenS (.t 6)⟩, ⟨some 8, none, .bin .lss (.t 5) (.t 7)⟩, ⟨some 9, none, .mov (.t 8)⟩, ⟨some 10, (some (9, true)), .mov (.t 4)⟩, ⟨some 11, (some (9, true)), .bin .lss (.t 10) (.v (.int .i64 60))⟩, ⟨some 12, none, .pick (.t 9) (.t 11) (.v (.bool false))⟩])
    (.cond (.t 12) .skip (.exit 0)))
    (.seq (.block 1 (.quiet 11 [⟨some 15, none, .mov (.t 3)⟩, ⟨some 16, none, .mov (.t 0)⟩, ⟨some 17, none, .mov (.t 4)⟩, ⟨some 18, none, .ixS 1 (.t 16) (.t 17)⟩, ⟨some 19, none, .ld (.t 18)⟩, ⟨some 20, none, .mov (.t 0)⟩, ⟨some 21, none, .mov (.t 4)⟩, ⟨some 22, none, .ixS 1 (.t 20) (.t 21)⟩, ⟨some 23, none, .ld (.t 22)⟩, ⟨some 24, none, .lenStr (.t 23)⟩, ⟨some 25, none, .mnx false [(.t 24), (.v (.int .i64 40))]⟩, ⟨some 26, none, .slStr (.t 19) none (some (.t 25))⟩, ⟨some 27, none, .bsl 9 [.string ⟨#[]⟩] 1 [(0, 1, (.t 26))]⟩, ⟨some 28, none, .app 22 9 1 16 (.string ⟨#[]⟩) (.t 15) (.t 27)⟩, ⟨some 3, none, .mov (.t 28)⟩]))
    (.ops [⟨some 13, none, .mov (.t 4)⟩, ⟨some 14, none, .bin .add (.t 13) (.v (.int .i64 1))⟩, ⟨some 4, none, .mov (.t 14)⟩]))))))
  (.seq (.ops [⟨some 29, none, .mov (.t 3)⟩, ⟨some 2, none, .mov (.t 29)⟩])
  .ret))))
theorem Try.known8 : Known Try.prog 8 Try.pc8 30 [2] := ⟨Try.f8, _, Try.func8, rfl, by kernel_rfl, rfl, rfl⟩

/-- redwax/myers.Diff -/
def Try.pc9 : PC :=
  (.seq (.ops [⟨some 4, none, .mov (.v (.slice none 0 0))⟩, ⟨some 5, none, .mov (.v (.int .i64 0))⟩])
  (.seq (.seq (.ops [⟨some 13, none, .mov (.t 0)⟩, ⟨some 14, none, .lenS (.t 13)⟩, ⟨some 15, none, .bin .gtr (.t 14) (.v (.int .i64 1024))⟩, ⟨some 16, none, .mov (.t 15)⟩, ⟨some 17, (some (16, false)), .mov (.t 1)⟩, ⟨some 18, (some (16, false)), .lenS (.t 17)⟩, ⟨some 19, (some (16, false)), .bin .gtr (.t 18) (.v (.int .i64 1024))⟩, ⟨some 20, none, .pick (.t 16) (.v (.bool true)) (.t 19)⟩])
  (.cond (.t 20) (.seq (.ops [⟨some 4, none, .mov (.v (.slice none 0 0))⟩, ⟨some 5, none, .mov (.v (.int .i64 3))⟩])
   .ret) .skip))
  (.seq (.ops [⟨some 21, none, .mkM⟩, ⟨some 6, none, .mov (.t 21)⟩])
  (.seq (.ops [⟨some 22, none, .mov (.t 6)⟩, ⟨some 23, none, .mov (.t 0)⟩, ⟨some 24, none, .call 19 [(.t 22), (.t 23)]⟩, ⟨some 25, none, .mov (.t 6)⟩, ⟨some 26, none, .mov (.t 1)⟩, ⟨some 27, none, .call 19 [(.t 25), (.t 26)]⟩, ⟨some 7, none, .mov (.t 24)⟩, ⟨some 8, none, .mov (.t 27)⟩])
  (.seq (.ops [⟨some 28, none, .mov (.t 7)⟩, ⟨some 29, none, .mov (.t 8)⟩, ⟨some 30, none, .call 20 [(.t 28), (.t 29)]⟩, ⟨some 9, none, .mov (.t 30)⟩])
  (.seq (.ops [⟨some 10, none, .mov (.v (.slice none 0 0))⟩])
  (.seq (.seq (.ops [⟨some 11, none, .mov (.v (.int .i64 0))⟩, ⟨some 12, none, .mov (.v (.int .i64 0))⟩])
  (.block 0 (.loop (.seq (.seq (.ops [⟨some 31, none, .mov (.t 11)⟩, ⟨some 32, none, .mov (.t 7)⟩, ⟨some 33, none, .lenS (.t 32)⟩, ⟨some 34, none, .bin .lss (.t 31) (.t 33)⟩, ⟨some 35, none, .mov (.t 34)⟩, ⟨some 36, (some (35, false)), .mov (.t 12)⟩, ⟨some 37, (some (35, false)), .mov (.t 8)⟩, ⟨some 38, (some (35, false)), .lenS (.t 37)⟩, ⟨some 39, (some (35, false)), .bin .lss (.t 36) (.t 38)⟩, ⟨some 40, none, .pick (.t 35) (.v (.bool true)) (.t 39)⟩])
    (.cond (.t 40) .skip (.exit 0)))
    (.block 1 (.block 2 (.seq (.quiet 19 [⟨some 49, none, .mov (.t 11)⟩, ⟨some 50, none, .mov (.t 7)⟩, ⟨some 51, none, .lenS (.t 50)⟩, ⟨some 52, none, .bin .lss (.t 49) (.t 51)⟩, ⟨some 53, none, .mov (.t 52)⟩, ⟨some 54, (some (53, true)), .mov (.t 12)⟩, ⟨some 55, (some (53, true)), .mov (.t 8)⟩, ⟨some 56, (some (53, true)), .lenS (.t 55)⟩, ⟨some 57, (some (53, true)), .bin .lss (.t 54) (.t 56)⟩, ⟨some 58, none, .pick (.t 53) (.t 57) (.v (.bool false))⟩, ⟨some 59, none, .mov (.t 58)⟩, ⟨some 60, (some (59, true)), .mov (.t 7)⟩, ⟨some 61, (some (59, true)), .mov (.t 11)⟩, ⟨some 62, (some (59, true)), .ixS 1 (.t 60) (.t 61)⟩, ⟨some 63, (some (59, true)), .ld (.t 62)⟩, ⟨some 64, (some (59, true)), .mov (.t 8)⟩, ⟨some 65, (some (59, true)), .mov (.t 12)⟩, ⟨some 66, (some (59, true)), .ixS 1 (.t 64) (.t 65)⟩, ⟨some 67, (some (59, true)), .ld (.t 66)⟩, ⟨some 68, (some (59, true)), .bin .eql (.t 63) (.t 67)⟩, ⟨some 69, none, .pick (.t 59) (.t 68) (.v (.bool false))⟩, ⟨some 48, none, .mov (.t 69)⟩])
      (.cond (.t 48) (.seq (.ops [⟨some 70, none, .mov (.t 10)⟩, ⟨some 71, none, .mov (.t 11)⟩, ⟨some 72, none, .mov (.t 12)⟩, ⟨some 73, none, .build [.int .i64 0, .int .i64 0, .int .i64 0] [(0, 1, (.v (.int .i64 0))), (1, 1, (.t 71)), (2, 1, (.t 72))]⟩, ⟨some 74, none, .bsl 36 [.int .i64 0, .int .i64 0, .int .i64 0] 1 [(0, 3, (.t 73))]⟩, ⟨some 75, none, .app 24 36 3 24 (.agg #[.int .i64 0, .int .i64 0, .int .i64 0]) (.t 70) (.t 74)⟩, ⟨some 10, none, .mov (.t 75)⟩])
       (.seq (.ops [⟨some 76, none, .mov (.t 11)⟩, ⟨some 77, none, .bin .add (.t 76) (.v (.int .i64 1))⟩, ⟨some 11, none, .mov (.t 77)⟩])
       (.ops [⟨some 78, none, .mov (.t 12)⟩, ⟨some 79, none, .bin .add (.t 78) (.v (.int .i64 1))⟩, ⟨some 12, none, .mov (.t 79)⟩]))) (.seq (.quiet 26 [⟨some 81, none, .mov (.t 11)⟩, ⟨some 82, none, .mov (.t 7)⟩, ⟨some 83, none, .lenS (.t 82)⟩, ⟨some 84, none, .bin .lss (.t 81) (.t 83)⟩, ⟨some 85, none, .mov (.t 84)⟩, ⟨some 86, (some (85, true)), .mov (.t 12)⟩, ⟨some 87, (some (85, true)), .mov (.t 8)⟩, ⟨some 88, (some (85, true)), .lenS (.t 87)⟩, ⟨some 89, (some (85, true)), .bin .eql (.t 86) (.t 88)⟩, ⟨some 90, (some (85, true)), .mov (.t 89)⟩, ⟨some 91, (some (90, false)), .mov (.t 9)⟩, ⟨some 92, (some (90, false)), .mov (.t 11)⟩, ⟨some 93, (some (90, false)), .bin .add (.t 92) (.v (.int .i64 1))⟩, ⟨some 94, (some (90, false)), .ixS 1 (.t 91) (.t 93)⟩, ⟨some 95, (some (90, false)), .ld (.t 94)⟩, ⟨some 96, (some (90, false)), .mov (.t 12)⟩, ⟨some 97, (some (90, false)), .ixS 1 (.t 95) (.t 96)⟩, ⟨some 98, (some (90, false)), .ld (.t 97)⟩, ⟨some 99, (some (90, false)), .mov (.t 9)⟩, ⟨some 100, (some (90, false)), .mov (.t 11)⟩, ⟨some 101, (some (90, false)), .ixS 1 (.t 99) (.t 100)⟩, ⟨some 102, (some (90, false)), .ld (.t 101)⟩, ⟨some 103, (some (90, false)), .mov (.t 12)⟩, ⟨some 104, (some (90, false)), .bin .add (.t 103) (.v (.int .i64 1))⟩, ⟨some 105, (some (90, false)), .ixS 1 (.t 102) (.t 104)⟩, ⟨some 106, (some (90, false)), .ld (.t 105)⟩, ⟨some 107, (some (90, false)), .bin .geq (.t 98) (.t 106)⟩, ⟨some 108, (some (85, true)), .pick (.t 90) (.v (.bool true)) (.t 107)⟩, ⟨some 109, none, .pick (.t 85) (.t 108) (.v (.bool false))⟩, ⟨some 80, none, .mov (.t 109)⟩])
       (.cond (.t 80) (.seq (.ops [⟨some 110, none, .mov (.t 10)⟩, ⟨some 111, none, .mov (.t 11)⟩, ⟨some 112, none, .build [.int .i64 0, .int .i64 0, .int .i64 0] [(0, 1, (.v (.int .i64 1))), (1, 1, (.t 111))]⟩, ⟨some 113, none, .bsl 36 [.int .i64 0, .int .i64 0, .int .i64 0] 1 [(0, 3, (.t 112))]⟩, ⟨some 114, none, .app 24 36 3 24 (.agg #[.int .i64 0, .int .i64 0, .int .i64 0]) (.t 110) (.t 113)⟩, ⟨some 10, none, .mov (.t 114)⟩])
        (.ops [⟨some 115, none, .mov (.t 11)⟩, ⟨some 116, none, .bin .add (.t 115) (.v (.int .i64 1))⟩, ⟨some 11, none, .mov (.t 116)⟩])) (.seq (.ops [⟨some 41, none, .mov (.t 10)⟩, ⟨some 42, none, .mov (.t 12)⟩, ⟨some 43, none, .build [.int .i64 0, .int .i64 0, .int .i64 0] [(0, 1, (.v (.int .i64 2))), (2, 1, (.t 42))]⟩, ⟨some 44, none, .bsl 36 [.int .i64 0, .int .i64 0, .int .i64 0] 1 [(0, 3, (.t 43))]⟩, ⟨some 45, none, .app 24 36 3 24 (.agg #[.int .i64 0, .int .i64 0, .int .i64 0]) (.t 41) (.t 44)⟩, ⟨some 10, none, .mov (.t 45)⟩])
        (.ops [⟨some 46, none, .mov (.t 12)⟩, ⟨some 47, none, .bin .add (.t 46) (.v (.int .i64 1))⟩, ⟨some 12, none, .mov (.t 47)⟩]))))))))))))
  (.seq (.ops [⟨some 117, none, .mov (.t 10)⟩, ⟨some 4, none, .mov (.t 117)⟩, ⟨some 5, none, .mov (.v (.int .i64 0))⟩])
  .ret))))))))
theorem Try.known9 : Known Try.prog 9 Try.pc9 118 [4, 5] := ⟨Try.f9, _, Try.func9, rfl, by kernel_rfl, rfl, rfl⟩

/-- redwax/redwaxref14.Diff -/
def Try.pc10 : PC :=
  (.seq (.ops [⟨some 4, none, .mov (.v (.slice none 0 0))⟩, ⟨some 5, none, .mov (.v (.int .i64 0))⟩])
  (.seq (.seq (.ops [⟨some 11, none, .mov (.t 0)⟩, ⟨some 12, none, .lenS (.t 11)⟩, ⟨some 13, none, .bin .gtr (.t 12) (.v (.int .i64 1024))⟩, ⟨some 14, none, .mov (.t 13)⟩, ⟨some 15, (some (14, false)), .mov (.t 1)⟩, ⟨some 16, (some (14, false)), .lenS (.t 15)⟩, ⟨some 17, (some (14, false)), .bin .gtr (.t 16) (.v (.int .i64 1024))⟩, ⟨some 18, none, .pick (.t 14) (.v (.bool true)) (.t 17)⟩])
  (.cond (.t 18) (.seq (.ops [⟨some 4, none, .mov (.v (.slice none 0 0))⟩, ⟨some 5, none, .mov (.v (.int .i64 3))⟩])
   .ret) .skip))
  (.seq (.ops [⟨some 19, none, .mov (.t 0)⟩, ⟨some 20, none, .mov (.t 1)⟩, ⟨some 21, none, .call 21 [(.t 19), (.t 20)]⟩, ⟨some 6, none, .mov (.t 21)⟩])
  (.seq (.ops [⟨some 22, none, .mov (.t 1)⟩, ⟨some 23, none, .lenS (.t 22)⟩, ⟨some 24, none, .bin .add (.t 23) (.v (.int .i64 1))⟩, ⟨some 7, none, .mov (.t 24)⟩])
  (.seq (.ops [⟨some 8, none, .mov (.v (.int .i64 0))⟩])
  (.seq (.ops [⟨some 9, none, .mov (.v (.int .i64 0))⟩])
  (.seq (.ops [⟨some 10, none, .mov (.v (.slice none 0 0))⟩])
  (.seq (.block 0 (.loop (.seq (.seq (.ops [⟨some 25, none, .mov (.t 8)⟩, ⟨some 26, none, .mov (.t 0)⟩, ⟨some 27, none, .lenS (.t 26)⟩, ⟨some 28, none, .bin .lss (.t 25) (.t 27)⟩, ⟨some 29, none, .mov (.t 28)⟩, ⟨some 30, (some (29, false)), .mov (.t 9)⟩, ⟨some 31, (some (29, false)), .mov (.t 1)⟩, ⟨some 32, (some (29, false)), .lenS (.t 31)⟩, ⟨some 33, (some (29, false)), .bin .lss (.t 30) (.t 32)⟩, ⟨some 34, none, .pick (.t 29) (.v (.bool true)) (.t 33)⟩])
    (.cond (.t 34) .skip (.exit 0)))
    (.block 1 (.seq (.quiet 19 [⟨some 35, none, .mov (.t 8)⟩, ⟨some 36, none, .mov (.t 0)⟩, ⟨some 37, none, .lenS (.t 36)⟩, ⟨some 38, none, .bin .lss (.t 35) (.t 37)⟩, ⟨some 39, none, .mov (.t 38)⟩, ⟨some 40, (some (39, true)), .mov (.t 9)⟩, ⟨some 41, (some (39, true)), .mov (.t 1)⟩, ⟨some 42, (some (39, true)), .lenS (.t 41)⟩, ⟨some 43, (some (39, true)), .bin .lss (.t 40) (.t 42)⟩, ⟨some 44, none, .pick (.t 39) (.t 43) (.v (.bool false))⟩, ⟨some 45, none, .mov (.t 44)⟩, ⟨some 46, (some (45, true)), .mov (.t 0)⟩, ⟨some 47, (some (45, true)), .mov (.t 8)⟩, ⟨some 48, (some (45, true)), .ixS 1 (.t 46) (.t 47)⟩, ⟨some 49, (some (45, true)), .ld (.t 48)⟩, ⟨some 50, (some (45, true)), .mov (.t 1)⟩, ⟨some 51, (some (45, true)), .mov (.t 9)⟩, ⟨some 52, (some (45, true)), .ixS 1 (.t 50) (.t 51)⟩, ⟨some 53, (some (45, true)), .ld (.t 52)⟩, ⟨some 54, (some (45, true)), .bin .eql (.t 49) (.t 53)⟩, ⟨some 55, none, .pick (.t 45) (.t 54) (.v (.bool false))⟩])
     (.cond (.t 55) (.seq (.ops [⟨some 56, none, .mov (.t 10)⟩, ⟨some 57, none, .mov (.t 8)⟩, ⟨some 58, none, .mov (.t 9)⟩, ⟨some 59, none, .build [.int .i64 0, .int .i64 0, .int .i64 0] [(0, 1, (.v (.int .i64 0))), (1, 1, (.t 57)), (2, 1, (.t 58))]⟩, ⟨some 60, none, .bsl 33 [.int .i64 0, .int .i64 0, .int .i64 0] 1 [(0, 3, (.t 59))]⟩, ⟨some 61, none, .app 28 33 3 24 (.agg #[.int .i64 0, .int .i64 0, .int .i64 0]) (.t 56) (.t 60)⟩, ⟨some 10, none, .mov (.t 61)⟩])
      (.seq (.ops [⟨some 62, none, .mov (.t 8)⟩, ⟨some 63, none, .bin .add (.t 62) (.v (.int .i64 1))⟩, ⟨some 8, none, .mov (.t 63)⟩])
      (.ops [⟨some 64, none, .mov (.t 9)⟩, ⟨some 65, none, .bin .add (.t 64) (.v (.int .i64 1))⟩, ⟨some 9, none, .mov (.t 65)⟩]))) (.seq (.quiet 28 [⟨some 66, none, .mov (.t 8)⟩, ⟨some 67, none, .mov (.t 0)⟩, ⟨some 68, none, .lenS (.t 67)⟩, ⟨some 69, none, .bin .lss (.t 66) (.t 68)⟩, ⟨some 70, none, .mov (.t 69)⟩, ⟨some 71, (some (70, true)), .mov (.t 9)⟩, ⟨some 72, (some (70, true)), .mov (.t 1)⟩, ⟨some 73, (some (70, true)), .lenS (.t 72)⟩, ⟨some 74, (some (70, true)), .bin .eql (.t 71) (.t 73)⟩, ⟨some 75, (some (70, true)), .mov (.t 74)⟩, ⟨some 76, (some (75, false)), .mov (.t 6)⟩, ⟨some 77, (some (75, false)), .mov (.t 8)⟩, ⟨some 78, (some (75, false)), .bin .add (.t 77) (.v (.int .i64 1))⟩, ⟨some 79, (some (75, false)), .mov (.t 7)⟩, ⟨some 80, (some (75, false)), .bin .mul (.t 78) (.t 79)⟩, ⟨some 81, (some (75, false)), .mov (.t 9)⟩, ⟨some 82, (some (75, false)), .bin .add (.t 80) (.t 81)⟩, ⟨some 83, (some (75, false)), .ixS 1 (.t 76) (.t 82)⟩, ⟨some 84, (some (75, false)), .ld (.t 83)⟩, ⟨some 85, (some (75, false)), .mov (.t 6)⟩, ⟨some 86, (some (75, false)), .mov (.t 8)⟩, ⟨some 87, (some (75, false)), .mov (.t 7)⟩, ⟨some 88, (some (75, false)), .bin .mul (.t 86) (.t 87)⟩, ⟨some 89, (some (75, false)), .mov (.t 9)⟩, ⟨some 90, (some (75, false)), .bin .add (.t 88) (.t 89)⟩, ⟨some 91, (some (75, false)), .bin .add (.t 90) (.v (.int .i64 1))⟩, ⟨some 92, (some (75, false)), .ixS 1 (.t 85) (.t 91)⟩, ⟨some 93, (some (75, false)), .ld (.t 92)⟩, ⟨some 94, (some (75, false)), .bin .geq (.t 84) (.t 93)⟩, ⟨some 95, (some (70, true)), .pick (.t 75) (.v (.bool true)) (.t 94)⟩, ⟨some 96, none, .pick (.t 70) (.t 95) (.v (.bool false))⟩])
      (.cond (.t 96) (.seq (.ops [⟨some 97, none, .mov (.t 10)⟩, ⟨some 98, none, .mov (.t 8)⟩, ⟨some 99, none, .build [.int .i64 0, .int .i64 0, .int .i64 0] [(0, 1, (.v (.int .i64 1))), (1, 1, (.t 98)), (2, 1, (.v (.int .i64 0)))]⟩, ⟨some 100, none, .bsl 33 [.int .i64 0, .int .i64 0, .int .i64 0] 1 [(0, 3, (.t 99))]⟩, ⟨some 101, none, .app 28 33 3 24 (.agg #[.int .i64 0, .int .i64 0, .int .i64 0]) (.t 97) (.t 100)⟩, ⟨some 10, none, .mov (.t 101)⟩])
       (.ops [⟨some 102, none, .mov (.t 8)⟩, ⟨some 103, none, .bin .add (.t 102) (.v (.int .i64 1))⟩, ⟨some 8, none, .mov (.t 103)⟩])) (.seq (.ops [⟨some 104, none, .mov (.t 10)⟩, ⟨some 105, none, .mov (.t 9)⟩, ⟨some 106, none, .build [.int .i64 0, .int .i64 0, .int .i64 0] [(0, 1, (.v (.int .i64 2))), (1, 1, (.v (.int .i64 0))), (2, 1, (.t 105))]⟩, ⟨some 107, none, .bsl 33 [.int .i64 0, .int .i64 0, .int .i64 0] 1 [(0, 3, (.t 106))]⟩, ⟨some 108, none, .app 28 33 3 24 (.agg #[.int .i64 0, .int .i64 0, .int .i64 0]) (.t 104) (.t 107)⟩, ⟨some 10, none, .mov (.t 108)⟩])
       (.ops [⟨some 109, none, .mov (.t 9)⟩, ⟨some 110, none, .bin .add (.t 109) (.v (.int .i64 1))⟩, ⟨some 9, none, .mov (.t 110)⟩]))))))))))
  (.seq (.ops [⟨some 111, none, .mov (.t 10)⟩, ⟨some 4, none, .mov (.t 111)⟩, ⟨some 5, none, .mov (.v (.int .i64 0))⟩])
  .ret)))))))))
theorem Try.known10 : Known Try.prog 10 Try.pc10 112 [4, 5] := ⟨Try.f10, _, Try.func10, rfl, by kernel_rfl, rfl, rfl⟩

/-- redwax/redwaxlaw14.steps -/
def Try.pc11 : PC :=
  (.seq (.ops [⟨some 2, none, .mov (.v (.slice none 0 0))⟩])
  (.seq (.ops [⟨some 3, none, .mov (.v (.slice none 0 0))⟩])
  (.seq (.seq (.ops [⟨some 4, none, .mov (.v (.int .i64 0))⟩])
  (.block 0 (.loop (.seq (.seq (.ops [⟨some 5, none, .mov (.t 4)⟩, ⟨some 6, none, .mov (.t 0)⟩, ⟨some 7, none, .lenS (.t 6)⟩, ⟨some 8, none, .bin .lss (.t 5) (.t 7)⟩])
    (.cond (.t 8) .skip (.exit 0)))
    (.seq (.block 1 (.quiet 16 [⟨some 11, none, .mov (.t 3)⟩, ⟨some 12, none, .mov (.t 0)⟩, ⟨some 13, none, .mov (.t 4)⟩, ⟨some 14, none, .ixS 3 (.t 12) (.t 13)⟩, ⟨some 15, none, .fa 0 (.t 14)⟩, ⟨some 16, none, .ld (.t 15)⟩, ⟨some 17, none, .mov (.t 0)⟩, ⟨some 18, none, .mov (.t 4)⟩, ⟨some 19, none, .ixS 3 (.t 17) (.t 18)⟩, ⟨some 20, none, .fa 1 (.t 19)⟩, ⟨some 21, none, .ld (.t 20)⟩, ⟨some 22, none, .mov (.t 0)⟩, ⟨some 23, none, .mov (.t 4)⟩, ⟨some 24, none, .ixS 3 (.t 22) (.t 23)⟩, ⟨some 25, none, .fa 2 (.t 24)⟩, ⟨some 26, none, .ld (.t 25)⟩, ⟨some 27, none, .build [.int .i64 0, .int .i64 0, .int .i64 0] [(0, 1, (.t 16)), (1, 1, (.t 21)), (2, 1, (.t 26))]⟩, ⟨some 28, none, .bsl 33 [.int .i64 0, .int .i64 0, .int .i64 0] 1 [(0, 3, (.t 27))]⟩, ⟨some 29, none, .app 28 33 3 24 (.agg #[.int .i64 0, .int .i64 0, .int .i64 0]) (.t 11) (.t 28)⟩, ⟨some 3, none, .mov (.t 29)⟩]))
    (.ops [⟨some 9, none, .mov (.t 4)⟩, ⟨some 10, none, .bin .add (.t 9) (.v (.int .i64 1))⟩, ⟨some 4, none, .mov (.t 10)⟩]))))))
  (.seq (.ops [⟨some 30, none, .mov (.t 3)⟩, ⟨some 2, none, .mov (.t 30)⟩])
  .ret))))
theorem Try.known11 : Known Try.prog 11 Try.pc11 31 [2] := ⟨Try.f11, _, Try.func11, rfl, by kernel_rfl, rfl, rfl⟩

/-- redwax/redwaxlaw14.works -/
def Try.pc12 : PC :=
  (.seq (.ops [⟨some 0, none, .mov (.v (.bool false))⟩])
  (.seq (.ops [⟨some 4, none, .bsl 9 [.string ⟨#[]⟩, .string ⟨#[]⟩] 2 [(0, 1, (.v (.string ⟨#[120]⟩))), (1, 1, (.v (.string ⟨#[121]⟩)))]⟩, ⟨some 5, none, .bsl 9 [.string ⟨#[]⟩, .string ⟨#[]⟩] 2 [(0, 1, (.v (.string ⟨#[121]⟩))), (1, 1, (.v (.string ⟨#[122]⟩)))]⟩, ⟨some 6, none, .call 9 [(.t 4), (.t 5)]⟩, ⟨some 3, none, .mov (.t 6)⟩, ⟨some 7, none, .ext 0 (.t 3)⟩, ⟨some 8, none, .ext 1 (.t 3)⟩, ⟨some 1, none, .mov (.t 7)⟩, ⟨some 2, none, .mov (.t 8)⟩])
  (.seq (.ops [⟨some 9, none, .mov (.t 2)⟩, ⟨some 10, none, .bin .eql (.t 9) (.v (.int .i64 0))⟩, ⟨some 11, none, .mov (.t 10)⟩, ⟨some 12, (some (11, true)), .mov (.t 1)⟩, ⟨some 13, (some (11, true)), .lenS (.t 12)⟩, ⟨some 14, (some (11, true)), .bin .eql (.t 13) (.v (.int .i64 3))⟩, ⟨some 15, none, .pick (.t 11) (.t 14) (.v (.bool false))⟩, ⟨some 16, none, .mov (.t 15)⟩, ⟨some 17, (some (16, true)), .mov (.t 1)⟩, ⟨some 18, (some (16, true)), .ixS 3 (.t 17) (.v (.int .i64 0))⟩, ⟨some 19, (some (16, true)), .ldA 3 (.t 18)⟩, ⟨some 20, (some (16, true)), .build [.int .i64 0, .int .i64 0, .int .i64 0] [(0, 1, (.v (.int .i64 1)))]⟩, ⟨some 21, (some (16, true)), .eqA false 36 [.int .i64, .int .i64, .int .i64] (.t 19) (.t 20)⟩, ⟨some 22, none, .pick (.t 16) (.t 21) (.v (.bool false))⟩, ⟨some 23, none, .mov (.t 22)⟩, ⟨some 24, (some (23, true)), .mov (.t 1)⟩, ⟨some 25, (some (23, true)), .ixS 3 (.t 24) (.v (.int .i64 1))⟩, ⟨some 26, (some (23, true)), .ldA 3 (.t 25)⟩, ⟨some 27, (some (23, true)), .build [.int .i64 0, .int .i64 0, .int .i64 0] [(1, 1, (.v (.int .i64 1)))]⟩, ⟨some 28, (some (23, true)), .eqA false 36 [.int .i64, .int .i64, .int .i64] (.t 26) (.t 27)⟩, ⟨some 29, none, .pick (.t 23) (.t 28) (.v (.bool false))⟩, ⟨some 30, none, .mov (.t 29)⟩, ⟨some 31, (some (30, true)), .mov (.t 1)⟩, ⟨some 32, (some (30, true)), .ixS 3 (.t 31) (.v (.int .i64 2))⟩, ⟨some 33, (some (30, true)), .ldA 3 (.t 32)⟩, ⟨some 34, (some (30, true)), .build [.int .i64 0, .int .i64 0, .int .i64 0] [(0, 1, (.v (.int .i64 2))), (2, 1, (.v (.int .i64 1)))]⟩, ⟨some 35, (some (30, true)), .eqA false 36 [.int .i64, .int .i64, .int .i64] (.t 33) (.t 34)⟩, ⟨some 36, none, .pick (.t 30) (.t 35) (.v (.bool false))⟩, ⟨some 0, none, .mov (.t 36)⟩])
  .ret)))
theorem Try.known12 : Known Try.prog 12 Try.pc12 37 [0] := ⟨Try.f12, _, Try.func12, rfl, by kernel_rfl, rfl, rfl⟩

/-- redwax/redwaxlaw14.same -/
def Try.pc13 : PC :=
  (.seq (.ops [⟨some 4, none, .mov (.v (.bool false))⟩])
  (.seq (.seq (.ops [⟨some 6, none, .mov (.t 0)⟩, ⟨some 7, none, .lenS (.t 6)⟩, ⟨some 8, none, .mov (.t 1)⟩, ⟨some 9, none, .lenS (.t 8)⟩, ⟨some 10, none, .bin .neq (.t 7) (.t 9)⟩])
  (.cond (.t 10) (.seq (.ops [⟨some 4, none, .mov (.v (.bool false))⟩])
   .ret) .skip))
  (.seq (.seq (.ops [⟨some 5, none, .mov (.v (.int .i64 0))⟩])
  (.block 0 (.loop (.seq (.seq (.ops [⟨some 11, none, .mov (.t 5)⟩, ⟨some 12, none, .mov (.t 0)⟩, ⟨some 13, none, .lenS (.t 12)⟩, ⟨some 14, none, .bin .lss (.t 11) (.t 13)⟩])
    (.cond (.t 14) .skip (.exit 0)))
    (.seq (.block 1 (.seq (.quiet 8 [⟨some 17, none, .mov (.t 0)⟩, ⟨some 18, none, .mov (.t 5)⟩, ⟨some 19, none, .ixS 1 (.t 17) (.t 18)⟩, ⟨some 20, none, .ld (.t 19)⟩, ⟨some 21, none, .mov (.t 1)⟩, ⟨some 22, none, .mov (.t 5)⟩, ⟨some 23, none, .ixS 1 (.t 21) (.t 22)⟩, ⟨some 24, none, .ld (.t 23)⟩, ⟨some 25, none, .bin .neq (.t 20) (.t 24)⟩])
     (.cond (.t 25) (.seq (.ops [⟨some 4, none, .mov (.v (.bool false))⟩])
      .ret) .skip)))
    (.ops [⟨some 15, none, .mov (.t 5)⟩, ⟨some 16, none, .bin .add (.t 15) (.v (.int .i64 1))⟩, ⟨some 5, none, .mov (.t 16)⟩]))))))
  (.seq (.ops [⟨some 4, none, .mov (.v (.bool true))⟩])
  .ret))))
theorem Try.known13 : Known Try.prog 13 Try.pc13 26 [4] := ⟨Try.f13, _, Try.func13, rfl, by kernel_rfl, rfl, rfl⟩

/-- redwax/myers.Play -/
def Try.pc14 : PC :=
  (.seq (.ops [⟨some 6, none, .mov (.v (.slice none 0 0))⟩, ⟨some 7, none, .mov (.v (.int .i64 0))⟩])
  (.seq (.ops [⟨some 8, none, .mov (.v (.slice none 0 0))⟩])
  (.seq (.ops [⟨some 9, none, .mov (.v (.int .i64 0))⟩, ⟨some 10, none, .mov (.v (.int .i64 0))⟩])
  (.seq (.seq (.ops [⟨some 15, none, .mov (.t 2)⟩, ⟨some 16, none, .lenS (.t 15)⟩, ⟨some 17, none, .mov (.v (.int .i64 0))⟩])
  (.block 0 (.loop (.seq (.ops [⟨some 18, none, .bin .lss (.t 17) (.t 16)⟩])
    (.seq (.cond (.t 18) .skip (.exit 0))
    (.seq (.block 1 (.seq (.ops [⟨some 19, none, .ixS 3 (.t 15) (.t 17)⟩, ⟨some 20, none, .ldA 3 (.t 19)⟩, ⟨some 12, none, .al 36 [.int .i64 0, .int .i64 0, .int .i64 0]⟩, ⟨none, none, .st 3 (.t 12) (.t 20)⟩])
     (.seq (.quiet 17 [⟨some 21, none, .fa 0 (.t 12)⟩, ⟨some 22, none, .ld (.t 21)⟩, ⟨some 23, none, .bin .eql (.t 22) (.v (.int .i64 0))⟩, ⟨some 24, none, .mov (.t 23)⟩, ⟨some 25, (some (24, false)), .fa 0 (.t 12)⟩, ⟨some 26, (some (24, false)), .ld (.t 25)⟩, ⟨some 27, (some (24, false)), .bin .eql (.t 26) (.v (.int .i64 1))⟩, ⟨some 28, none, .pick (.t 24) (.v (.bool true)) (.t 27)⟩, ⟨some 29, none, .fa 0 (.t 12)⟩, ⟨some 30, none, .ld (.t 29)⟩, ⟨some 31, none, .bin .eql (.t 30) (.v (.int .i64 0))⟩, ⟨some 32, none, .mov (.t 31)⟩, ⟨some 33, (some (32, false)), .fa 0 (.t 12)⟩, ⟨some 34, (some (32, false)), .ld (.t 33)⟩, ⟨some 35, (some (32, false)), .bin .eql (.t 34) (.v (.int .i64 2))⟩, ⟨some 36, none, .pick (.t 32) (.v (.bool true)) (.t 35)⟩, ⟨some 13, none, .mov (.t 28)⟩, ⟨some 14, none, .mov (.t 36)⟩])
     (.seq (.block 2 (.seq (.seq (.ops [⟨some 38, none, .mov (.t 13)⟩, ⟨some 39, none, .not (.t 38)⟩, ⟨some 40, none, .mov (.t 39)⟩, ⟨some 41, (some (40, true)), .mov (.t 14)⟩, ⟨some 42, (some (40, true)), .not (.t 41)⟩, ⟨some 43, none, .pick (.t 40) (.t 42) (.v (.bool false))⟩, ⟨some 37, none, .mov (.t 43)⟩])
      (.cond (.t 37) .skip (.seq (.ops [⟨some 44, none, .mov (.t 13)⟩, ⟨some 45, none, .mov (.t 44)⟩, ⟨some 46, (some (45, true)), .fa 1 (.t 12)⟩, ⟨some 47, (some (45, true)), .ld (.t 46)⟩, ⟨some 48, (some (45, true)), .mov (.t 9)⟩, ⟨some 49, (some (45, true)), .bin .neq (.t 47) (.t 48)⟩, ⟨some 50, (some (45, true)), .mov (.t 49)⟩, ⟨some 51, (some (50, false)), .mov (.t 9)⟩, ⟨some 52, (some (50, false)), .mov (.t 0)⟩, ⟨some 53, (some (50, false)), .lenS (.t 52)⟩, ⟨some 54, (some (50, false)), .bin .eql (.t 51) (.t 53)⟩, ⟨some 55, (some (45, true)), .pick (.t 50) (.v (.bool true)) (.t 54)⟩, ⟨some 56, none, .pick (.t 45) (.t 55) (.v (.bool false))⟩, ⟨some 37, none, .mov (.t 56)⟩])
       (.cond (.t 37) .skip (.ops [⟨some 57, none, .mov (.t 14)⟩, ⟨some 58, none, .mov (.t 57)⟩, ⟨some 59, (some (58, true)), .fa 2 (.t 12)⟩, ⟨some 60, (some (58, true)), .ld (.t 59)⟩, ⟨some 61, (some (58, true)), .mov (.t 10)⟩, ⟨some 62, (some (58, true)), .bin .neq (.t 60) (.t 61)⟩, ⟨some 63, (some (58, true)), .mov (.t 62)⟩, ⟨some 64, (some (63, false)), .mov (.t 10)⟩, ⟨some 65, (some (63, false)), .mov (.t 1)⟩, ⟨some 66, (some (63, false)), .lenS (.t 65)⟩, ⟨some 67, (some (63, false)), .bin .eql (.t 64) (.t 66)⟩, ⟨some 68, (some (58, true)), .pick (.t 63) (.v (.bool true)) (.t 67)⟩, ⟨some 69, none, .pick (.t 58) (.t 68) (.v (.bool false))⟩, ⟨some 37, none, .mov (.t 69)⟩])))))
      (.cond (.t 37) (.seq (.ops [⟨some 6, none, .mov (.v (.slice none 0 0))⟩, ⟨some 7, none, .mov (.v (.int .i64 4))⟩])
       .ret) (.seq (.seq (.quiet 13 [⟨some 71, none, .mov (.t 13)⟩, ⟨some 72, none, .mov (.t 71)⟩, ⟨some 73, (some (72, true)), .mov (.t 14)⟩, ⟨some 74, none, .pick (.t 72) (.t 73) (.v (.bool false))⟩, ⟨some 75, none, .mov (.t 74)⟩, ⟨some 76, (some (75, true)), .mov (.t 0)⟩, ⟨some 77, (some (75, true)), .mov (.t 9)⟩, ⟨some 78, (some (75, true)), .ixS 1 (.t 76) (.t 77)⟩, ⟨some 79, (some (75, true)), .ld (.t 78)⟩, ⟨some 80, (some (75, true)), .mov (.t 1)⟩, ⟨some 81, (some (75, true)), .mov (.t 10)⟩, ⟨some 82, (some (75, true)), .ixS 1 (.t 80) (.t 81)⟩, ⟨some 83, (some (75, true)), .ld (.t 82)⟩, ⟨some 84, (some (75, true)), .bin .neq (.t 79) (.t 83)⟩, ⟨some 85, none, .pick (.t 75) (.t 84) (.v (.bool false))⟩, ⟨some 70, none, .mov (.t 85)⟩])
       (.cond (.t 70) .skip (.seq (.ops [⟨some 86, none, .mov (.t 13)⟩, ⟨some 87, none, .not (.t 86)⟩, ⟨some 88, none, .mov (.t 87)⟩, ⟨some 89, (some (88, true)), .fa 1 (.t 12)⟩, ⟨some 90, (some (88, true)), .ld (.t 89)⟩, ⟨some 91, (some (88, true)), .bin .neq (.t 90) (.v (.int .i64 0))⟩, ⟨some 92, none, .pick (.t 88) (.t 91) (.v (.bool false))⟩, ⟨some 70, none, .mov (.t 92)⟩])
        (.cond (.t 70) .skip (.ops [⟨some 93, none, .mov (.t 14)⟩, ⟨some 94, none, .not (.t 93)⟩, ⟨some 95, none, .mov (.t 94)⟩, ⟨some 96, (some (95, true)), .fa 2 (.t 12)⟩, ⟨some 97, (some (95, true)), .ld (.t 96)⟩, ⟨some 98, (some (95, true)), .bin .neq (.t 97) (.v (.int .i64 0))⟩, ⟨some 99, none, .pick (.t 95) (.t 98) (.v (.bool false))⟩, ⟨some 70, none, .mov (.t 99)⟩])))))
       (.cond (.t 70) (.seq (.ops [⟨some 6, none, .mov (.v (.slice none 0 0))⟩, ⟨some 7, none, .mov (.v (.int .i64 4))⟩])
        .ret) .skip)))))
     (.seq (.seq (.ops [⟨some 100, none, .mov (.t 13)⟩])
     (.cond (.t 100) (.ops [⟨some 101, none, .mov (.t 9)⟩, ⟨some 102, none, .bin .add (.t 101) (.v (.int .i64 1))⟩, ⟨some 9, none, .mov (.t 102)⟩]) .skip))
     (.seq (.ops [⟨some 103, none, .mov (.t 14)⟩])
     (.cond (.t 103) (.seq (.ops [⟨some 104, none, .mov (.t 8)⟩, ⟨some 105, none, .mov (.t 1)⟩, ⟨some 106, none, .mov (.t 10)⟩, ⟨some 107, none, .ixS 1 (.t 105) (.t 106)⟩, ⟨some 108, none, .ld (.t 107)⟩, ⟨some 109, none, .bsl 9 [.string ⟨#[]⟩] 1 [(0, 1, (.t 108))]⟩, ⟨some 110, none, .app 22 9 1 16 (.string ⟨#[]⟩) (.t 104) (.t 109)⟩, ⟨some 8, none, .mov (.t 110)⟩])
      (.ops [⟨some 111, none, .mov (.t 10)⟩, ⟨some 112, none, .bin .add (.t 111) (.v (.int .i64 1))⟩, ⟨some 10, none, .mov (.t 112)⟩])) .skip)))))))
    (.ops [⟨some 113, none, .bin .add (.t 17) (.v (.int .i64 1))⟩, ⟨some 17, none, .mov (.t 113)⟩])))))))
  (.seq (.seq (.ops [⟨some 114, none, .mov (.t 9)⟩, ⟨some 115, none, .mov (.t 0)⟩, ⟨some 116, none, .lenS (.t 115)⟩, ⟨some 117, none, .bin .lss (.t 114) (.t 116)⟩, ⟨some 118, none, .mov (.t 117)⟩, ⟨some 119, (some (118, false)), .mov (.t 10)⟩, ⟨some 120, (some (118, false)), .mov (.t 1)⟩, ⟨some 121, (some (118, false)), .lenS (.t 120)⟩, ⟨some 122, (some (118, false)), .bin .lss (.t 119) (.t 121)⟩, ⟨some 123, none, .pick (.t 118) (.v (.bool true)) (.t 122)⟩])
  (.cond (.t 123) (.seq (.ops [⟨some 6, none, .mov (.v (.slice none 0 0))⟩, ⟨some 7, none, .mov (.v (.int .i64 4))⟩])
   .ret) .skip))
  (.seq (.ops [⟨some 124, none, .mov (.t 8)⟩, ⟨some 6, none, .mov (.t 124)⟩, ⟨some 7, none, .mov (.v (.int .i64 0))⟩])
  .ret))))))
theorem Try.known14 : Known Try.prog 14 Try.pc14 125 [6, 7] := ⟨Try.f14, _, Try.func14, rfl, by kernel_rfl, rfl, rfl⟩

/-- redwax/redwaxref14.Play -/
def Try.pc15 : PC :=
  (.seq (.ops [⟨some 6, none, .mov (.v (.slice none 0 0))⟩, ⟨some 7, none, .mov (.v (.int .i64 0))⟩])
  (.seq (.ops [⟨some 8, none, .mov (.v (.slice none 0 0))⟩])
  (.seq (.ops [⟨some 9, none, .mov (.v (.int .i64 0))⟩])
  (.seq (.ops [⟨some 10, none, .mov (.v (.int .i64 0))⟩])
  (.seq (.seq (.ops [⟨some 11, none, .mov (.v (.int .i64 0))⟩])
  (.block 0 (.loop (.seq (.seq (.ops [⟨some 13, none, .mov (.t 11)⟩, ⟨some 14, none, .mov (.t 2)⟩, ⟨some 15, none, .lenS (.t 14)⟩, ⟨some 16, none, .bin .lss (.t 13) (.t 15)⟩])
    (.cond (.t 16) .skip (.exit 0)))
    (.seq (.block 1 (.seq (.ops [⟨some 19, none, .mov (.t 2)⟩, ⟨some 20, none, .mov (.t 11)⟩, ⟨some 21, none, .ixS 3 (.t 19) (.t 20)⟩, ⟨some 22, none, .ldA 3 (.t 21)⟩, ⟨some 12, none, .al 33 [.int .i64 0, .int .i64 0, .int .i64 0]⟩, ⟨none, none, .st 3 (.t 12) (.t 22)⟩])
     (.seq (.quiet 36 [⟨some 23, none, .fa 0 (.t 12)⟩, ⟨some 24, none, .ld (.t 23)⟩, ⟨some 25, none, .bin .eql (.t 24) (.v (.int .i64 0))⟩, ⟨some 26, none, .mov (.t 25)⟩, ⟨some 27, (some (26, true)), .mov (.t 9)⟩, ⟨some 28, (some (26, true)), .mov (.t 0)⟩, ⟨some 29, (some (26, true)), .lenS (.t 28)⟩, ⟨some 30, (some (26, true)), .bin .lss (.t 27) (.t 29)⟩, ⟨some 31, none, .pick (.t 26) (.t 30) (.v (.bool false))⟩, ⟨some 32, none, .mov (.t 31)⟩, ⟨some 33, (some (32, true)), .mov (.t 10)⟩, ⟨some 34, (some (32, true)), .mov (.t 1)⟩, ⟨some 35, (some (32, true)), .lenS (.t 34)⟩, ⟨some 36, (some (32, true)), .bin .lss (.t 33) (.t 35)⟩, ⟨some 37, none, .pick (.t 32) (.t 36) (.v (.bool false))⟩, ⟨some 38, none, .mov (.t 37)⟩, ⟨some 39, (some (38, true)), .fa 1 (.t 12)⟩, ⟨some 40, (some (38, true)), .ld (.t 39)⟩, ⟨some 41, (some (38, true)), .mov (.t 9)⟩, ⟨some 42, (some (38, true)), .bin .eql (.t 40) (.t 41)⟩, ⟨some 43, none, .pick (.t 38) (.t 42) (.v (.bool false))⟩, ⟨some 44, none, .mov (.t 43)⟩, ⟨some 45, (some (44, true)), .fa 2 (.t 12)⟩, ⟨some 46, (some (44, true)), .ld (.t 45)⟩, ⟨some 47, (some (44, true)), .mov (.t 10)⟩, ⟨some 48, (some (44, true)), .bin .eql (.t 46) (.t 47)⟩, ⟨some 49, none, .pick (.t 44) (.t 48) (.v (.bool false))⟩, ⟨some 50, none, .mov (.t 49)⟩, ⟨some 51, (some (50, true)), .mov (.t 0)⟩, ⟨some 52, (some (50, true)), .mov (.t 9)⟩, ⟨some 53, (some (50, true)), .ixS 1 (.t 51) (.t 52)⟩, ⟨some 54, (some (50, true)), .ld (.t 53)⟩, ⟨some 55, (some (50, true)), .mov (.t 1)⟩, ⟨some 56, (some (50, true)), .mov (.t 10)⟩, ⟨some 57, (some (50, true)), .ixS 1 (.t 55) (.t 56)⟩, ⟨some 58, (some (50, true)), .ld (.t 57)⟩, ⟨some 59, (some (50, true)), .bin .eql (.t 54) (.t 58)⟩, ⟨some 60, none, .pick (.t 50) (.t 59) (.v (.bool false))⟩])
     (.cond (.t 60) (.seq (.ops [⟨some 61, none, .mov (.t 8)⟩, ⟨some 62, none, .mov (.t 1)⟩, ⟨some 63, none, .mov (.t 10)⟩, ⟨some 64, none, .ixS 1 (.t 62) (.t 63)⟩, ⟨some 65, none, .ld (.t 64)⟩, ⟨some 66, none, .bsl 9 [.string ⟨#[]⟩] 1 [(0, 1, (.t 65))]⟩, ⟨some 67, none, .app 22 9 1 16 (.string ⟨#[]⟩) (.t 61) (.t 66)⟩, ⟨some 8, none, .mov (.t 67)⟩])
      (.seq (.ops [⟨some 68, none, .mov (.t 9)⟩, ⟨some 69, none, .bin .add (.t 68) (.v (.int .i64 1))⟩, ⟨some 9, none, .mov (.t 69)⟩])
      (.ops [⟨some 70, none, .mov (.t 10)⟩, ⟨some 71, none, .bin .add (.t 70) (.v (.int .i64 1))⟩, ⟨some 10, none, .mov (.t 71)⟩]))) (.seq (.ops [⟨some 72, none, .fa 0 (.t 12)⟩, ⟨some 73, none, .ld (.t 72)⟩, ⟨some 74, none, .bin .eql (.t 73) (.v (.int .i64 1))⟩, ⟨some 75, none, .mov (.t 74)⟩, ⟨some 76, (some (75, true)), .mov (.t 9)⟩, ⟨some 77, (some (75, true)), .mov (.t 0)⟩, ⟨some 78, (some (75, true)), .lenS (.t 77)⟩, ⟨some 79, (some (75, true)), .bin .lss (.t 76) (.t 78)⟩, ⟨some 80, none, .pick (.t 75) (.t 79) (.v (.bool false))⟩, ⟨some 81, none, .mov (.t 80)⟩, ⟨some 82, (some (81, true)), .fa 1 (.t 12)⟩, ⟨some 83, (some (81, true)), .ld (.t 82)⟩, ⟨some 84, (some (81, true)), .mov (.t 9)⟩, ⟨some 85, (some (81, true)), .bin .eql (.t 83) (.t 84)⟩, ⟨some 86, none, .pick (.t 81) (.t 85) (.v (.bool false))⟩, ⟨some 87, none, .mov (.t 86)⟩, ⟨some 88, (some (87, true)), .fa 2 (.t 12)⟩, ⟨some 89, (some (87, true)), .ld (.t 88)⟩, ⟨some 90, (some (87, true)), .bin .eql (.t 89) (.v (.int .i64 0))⟩, ⟨some 91, none, .pick (.t 87) (.t 90) (.v (.bool false))⟩])
      (.cond (.t 91) (.ops [⟨some 92, none, .mov (.t 9)⟩, ⟨some 93, none, .bin .add (.t 92) (.v (.int .i64 1))⟩, ⟨some 9, none, .mov (.t 93)⟩]) (.seq (.ops [⟨some 94, none, .fa 0 (.t 12)⟩, ⟨some 95, none, .ld (.t 94)⟩, ⟨some 96, none, .bin .eql (.t 95) (.v (.int .i64 2))⟩, ⟨some 97, none, .mov (.t 96)⟩, ⟨some 98, (some (97, true)), .mov (.t 10)⟩, ⟨some 99, (some (97, true)), .mov (.t 1)⟩, ⟨some 100, (some (97, true)), .lenS (.t 99)⟩, ⟨some 101, (some (97, true)), .bin .lss (.t 98) (.t 100)⟩, ⟨some 102, none, .pick (.t 97) (.t 101) (.v (.bool false))⟩, ⟨some 103, none, .mov (.t 102)⟩, ⟨some 104, (some (103, true)), .fa 2 (.t 12)⟩, ⟨some 105, (some (103, true)), .ld (.t 104)⟩, ⟨some 106, (some (103, true)), .mov (.t 10)⟩, ⟨some 107, (some (103, true)), .bin .eql (.t 105) (.t 106)⟩, ⟨some 108, none, .pick (.t 103) (.t 107) (.v (.bool false))⟩, ⟨some 109, none, .mov (.t 108)⟩, ⟨some 110, (some (109, true)), .fa 1 (.t 12)⟩, ⟨some 111, (some (109, true)), .ld (.t 110)⟩, ⟨some 112, (some (109, true)), .bin .eql (.t 111) (.v (.int .i64 0))⟩, ⟨some 113, none, .pick (.t 109) (.t 112) (.v (.bool false))⟩])
       (.cond (.t 113) (.seq (.ops [⟨some 114, none, .mov (.t 8)⟩, ⟨some 115, none, .mov (.t 1)⟩, ⟨some 116, none, .mov (.t 10)⟩, ⟨some 117, none, .ixS 1 (.t 115) (.t 116)⟩, ⟨some 118, none, .ld (.t 117)⟩, ⟨some 119, none, .bsl 9 [.string ⟨#[]⟩] 1 [(0, 1, (.t 118))]⟩, ⟨some 120, none, .app 22 9 1 16 (.string ⟨#[]⟩) (.t 114) (.t 119)⟩, ⟨some 8, none, .mov (.t 120)⟩])
        (.ops [⟨some 121, none, .mov (.t 10)⟩, ⟨some 122, none, .bin .add (.t 121) (.v (.int .i64 1))⟩, ⟨some 10, none, .mov (.t 122)⟩])) (.seq (.ops [⟨some 6, none, .mov (.v (.slice none 0 0))⟩, ⟨some 7, none, .mov (.v (.int .i64 4))⟩])
        .ret)))))))))
    (.ops [⟨some 17, none, .mov (.t 11)⟩, ⟨some 18, none, .bin .add (.t 17) (.v (.int .i64 1))⟩, ⟨some 11, none, .mov (.t 18)⟩]))))))
  (.seq (.seq (.ops [⟨some 123, none, .mov (.t 9)⟩, ⟨some 124, none, .mov (.t 0)⟩, ⟨some 125, none, .lenS (.t 124)⟩, ⟨some 126, none, .bin .lss (.t 123) (.t 125)⟩, ⟨some 127, none, .mov (.t 126)⟩, ⟨some 128, (some (127, false)), .mov (.t 10)⟩, ⟨some 129, (some (127, false)), .mov (.t 1)⟩, ⟨some 130, (some (127, false)), .lenS (.t 129)⟩, ⟨some 131, (some (127, false)), .bin .lss (.t 128) (.t 130)⟩, ⟨some 132, none, .pick (.t 127) (.v (.bool true)) (.t 131)⟩])
  (.cond (.t 132) (.seq (.ops [⟨some 6, none, .mov (.v (.slice none 0 0))⟩, ⟨some 7, none, .mov (.v (.int .i64 4))⟩])
   .ret) .skip))
  (.seq (.ops [⟨some 133, none, .mov (.t 8)⟩, ⟨some 6, none, .mov (.t 133)⟩, ⟨some 7, none, .mov (.v (.int .i64 0))⟩])
  .ret)))))))
theorem Try.known15 : Known Try.prog 15 Try.pc15 134 [6, 7] := ⟨Try.f15, _, Try.func15, rfl, by kernel_rfl, rfl, rfl⟩

/-- redwax/redwaxlaw14.common -/
def Try.pc16 : PC :=
  (.seq (.ops [⟨some 4, none, .mov (.v (.int .i64 0))⟩])
  (.seq (.ops [⟨some 9, none, .mov (.t 1)⟩, ⟨some 10, none, .lenS (.t 9)⟩, ⟨some 11, none, .bin .add (.t 10) (.v (.int .i64 1))⟩, ⟨some 12, none, .mkS 46 3 1 8 (.int .i64 0) (.t 11) (.t 11)⟩, ⟨some 5, none, .mov (.t 12)⟩])
  (.seq (.seq (.ops [⟨some 6, none, .mov (.v (.int .i64 0))⟩])
  (.block 0 (.loop (.seq (.seq (.ops [⟨some 13, none, .mov (.t 6)⟩, ⟨some 14, none, .mov (.t 0)⟩, ⟨some 15, none, .lenS (.t 14)⟩, ⟨some 16, none, .bin .lss (.t 13) (.t 15)⟩])
    (.cond (.t 16) .skip (.exit 0)))
    (.seq (.block 1 (.seq (.ops [⟨some 19, none, .mov (.t 1)⟩, ⟨some 20, none, .lenS (.t 19)⟩, ⟨some 21, none, .bin .add (.t 20) (.v (.int .i64 1))⟩, ⟨some 22, none, .mkS 46 3 1 8 (.int .i64 0) (.t 21) (.t 21)⟩, ⟨some 7, none, .mov (.t 22)⟩])
     (.seq (.seq (.ops [⟨some 8, none, .mov (.v (.int .i64 0))⟩])
     (.block 2 (.loop (.seq (.seq (.ops [⟨some 23, none, .mov (.t 8)⟩, ⟨some 24, none, .mov (.t 1)⟩, ⟨some 25, none, .lenS (.t 24)⟩, ⟨some 26, none, .bin .lss (.t 23) (.t 25)⟩])
       (.cond (.t 26) .skip (.exit 2)))
       (.seq (.block 3 (.seq (.quiet 13 [⟨some 29, none, .mov (.t 7)⟩, ⟨some 30, none, .mov (.t 8)⟩, ⟨some 31, none, .bin .add (.t 30) (.v (.int .i64 1))⟩, ⟨some 32, none, .mov (.t 5)⟩, ⟨some 33, none, .mov (.t 8)⟩, ⟨some 34, none, .bin .add (.t 33) (.v (.int .i64 1))⟩, ⟨some 35, none, .ixS 1 (.t 32) (.t 34)⟩, ⟨some 36, none, .ld (.t 35)⟩, ⟨some 37, none, .mov (.t 7)⟩, ⟨some 38, none, .mov (.t 8)⟩, ⟨some 39, none, .ixS 1 (.t 37) (.t 38)⟩, ⟨some 40, none, .ld (.t 39)⟩, ⟨some 41, none, .mnx true [(.t 36), (.t 40)]⟩, ⟨some 42, none, .ixS 1 (.t 29) (.t 31)⟩, ⟨none, none, .st 1 (.t 42) (.t 41)⟩])
        (.seq (.quiet 8 [⟨some 43, none, .mov (.t 0)⟩, ⟨some 44, none, .mov (.t 6)⟩, ⟨some 45, none, .ixS 1 (.t 43) (.t 44)⟩, ⟨some 46, none, .ld (.t 45)⟩, ⟨some 47, none, .mov (.t 1)⟩, ⟨some 48, none, .mov (.t 8)⟩, ⟨some 49, none, .ixS 1 (.t 47) (.t 48)⟩, ⟨some 50, none, .ld (.t 49)⟩, ⟨some 51, none, .bin .eql (.t 46) (.t 50)⟩])
        (.cond (.t 51) (.quiet 14 [⟨some 52, none, .mov (.t 7)⟩, ⟨some 53, none, .mov (.t 8)⟩, ⟨some 54, none, .bin .add (.t 53) (.v (.int .i64 1))⟩, ⟨some 55, none, .mov (.t 7)⟩, ⟨some 56, none, .mov (.t 8)⟩, ⟨some 57, none, .bin .add (.t 56) (.v (.int .i64 1))⟩, ⟨some 58, none, .ixS 1 (.t 55) (.t 57)⟩, ⟨some 59, none, .ld (.t 58)⟩, ⟨some 60, none, .mov (.t 5)⟩, ⟨some 61, none, .mov (.t 8)⟩, ⟨some 62, none, .ixS 1 (.t 60) (.t 61)⟩, ⟨some 63, none, .ld (.t 62)⟩, ⟨some 64, none, .bin .add (.t 63) (.v (.int .i64 1))⟩, ⟨some 65, none, .mnx true [(.t 59), (.t 64)]⟩, ⟨some 66, none, .ixS 1 (.t 52) (.t 54)⟩, ⟨none, none, .st 1 (.t 66) (.t 65)⟩]) .skip))))
       (.ops [⟨some 27, none, .mov (.t 8)⟩, ⟨some 28, none, .bin .add (.t 27) (.v (.int .i64 1))⟩, ⟨some 8, none, .mov (.t 28)⟩]))))))
     (.ops [⟨some 67, none, .mov (.t 7)⟩, ⟨some 5, none, .mov (.t 67)⟩]))))
    (.ops [⟨some 17, none, .mov (.t 6)⟩, ⟨some 18, none, .bin .add (.t 17) (.v (.int .i64 1))⟩, ⟨some 6, none, .mov (.t 18)⟩]))))))
  (.seq (.ops [⟨some 68, none, .mov (.t 5)⟩, ⟨some 69, none, .mov (.t 1)⟩, ⟨some 70, none, .lenS (.t 69)⟩, ⟨some 71, none, .ixS 1 (.t 68) (.t 70)⟩, ⟨some 72, none, .ld (.t 71)⟩, ⟨some 4, none, .mov (.t 72)⟩])
  .ret))))
theorem Try.known16 : Known Try.prog 16 Try.pc16 73 [4] := ⟨Try.f16, _, Try.func16, rfl, by kernel_rfl, rfl, rfl⟩

/-- redwax/redwaxlaw14.kept -/
def Try.pc17 : PC :=
  (.seq (.ops [⟨some 2, none, .mov (.v (.int .i64 0))⟩])
  (.seq (.ops [⟨some 3, none, .mov (.v (.int .i64 0))⟩])
  (.seq (.seq (.ops [⟨some 4, none, .mov (.v (.int .i64 0))⟩])
  (.block 0 (.loop (.seq (.seq (.ops [⟨some 5, none, .mov (.t 4)⟩, ⟨some 6, none, .mov (.t 0)⟩, ⟨some 7, none, .lenS (.t 6)⟩, ⟨some 8, none, .bin .lss (.t 5) (.t 7)⟩])
    (.cond (.t 8) .skip (.exit 0)))
    (.seq (.block 1 (.seq (.ops [⟨some 11, none, .mov (.t 0)⟩, ⟨some 12, none, .mov (.t 4)⟩, ⟨some 13, none, .ixS 3 (.t 11) (.t 12)⟩, ⟨some 14, none, .fa 0 (.t 13)⟩, ⟨some 15, none, .ld (.t 14)⟩, ⟨some 16, none, .bin .eql (.t 15) (.v (.int .i64 0))⟩])
     (.cond (.t 16) (.ops [⟨some 17, none, .mov (.t 3)⟩, ⟨some 18, none, .bin .add (.t 17) (.v (.int .i64 1))⟩, ⟨some 3, none, .mov (.t 18)⟩]) .skip)))
    (.ops [⟨some 9, none, .mov (.t 4)⟩, ⟨some 10, none, .bin .add (.t 9) (.v (.int .i64 1))⟩, ⟨some 4, none, .mov (.t 10)⟩]))))))
  (.seq (.ops [⟨some 19, none, .mov (.t 3)⟩, ⟨some 2, none, .mov (.t 19)⟩])
  .ret))))
theorem Try.known17 : Known Try.prog 17 Try.pc17 20 [2] := ⟨Try.f17, _, Try.func17, rfl, by kernel_rfl, rfl, rfl⟩

/-- redwax/redwaxlaw14.letters -/
def Try.pc18 : PC :=
  (.seq (.ops [⟨some 2, none, .mov (.v (.slice none 0 0))⟩])
  (.seq (.ops [⟨some 3, none, .mov (.v (.slice none 0 0))⟩])
  (.seq (.seq (.ops [⟨some 4, none, .mov (.v (.int .i64 0))⟩])
  (.block 0 (.loop (.seq (.seq (.ops [⟨some 5, none, .mov (.t 4)⟩, ⟨some 6, none, .mov (.t 0)⟩, ⟨some 7, none, .lenStr (.t 6)⟩, ⟨some 8, none, .bin .lss (.t 5) (.t 7)⟩])
    (.cond (.t 8) .skip (.exit 0)))
    (.seq (.block 1 (.ops [⟨some 11, none, .mov (.t 3)⟩, ⟨some 12, none, .mov (.t 0)⟩, ⟨some 13, none, .mov (.t 4)⟩, ⟨some 14, none, .mov (.t 4)⟩, ⟨some 15, none, .bin .add (.t 14) (.v (.int .i64 1))⟩, ⟨some 16, none, .slStr (.t 12) (some (.t 13)) (some (.t 15))⟩, ⟨some 17, none, .bsl 9 [.string ⟨#[]⟩] 1 [(0, 1, (.t 16))]⟩, ⟨some 18, none, .app 22 9 1 16 (.string ⟨#[]⟩) (.t 11) (.t 17)⟩, ⟨some 3, none, .mov (.t 18)⟩]))
    (.ops [⟨some 9, none, .mov (.t 4)⟩, ⟨some 10, none, .bin .add (.t 9) (.v (.int .i64 1))⟩, ⟨some 4, none, .mov (.t 10)⟩]))))))
  (.seq (.ops [⟨some 19, none, .mov (.t 3)⟩, ⟨some 2, none, .mov (.t 19)⟩])
  .ret))))
theorem Try.known18 : Known Try.prog 18 Try.pc18 20 [2] := ⟨Try.f18, _, Try.func18, rfl, by kernel_rfl, rfl, rfl⟩

/-- redwax/myers.numbered -/
def Try.pc19 : PC :=
  (.seq (.ops [⟨some 4, none, .mov (.v (.slice none 0 0))⟩])
  (.seq (.ops [⟨some 10, none, .mov (.t 1)⟩, ⟨some 11, none, .lenS (.t 10)⟩, ⟨some 12, none, .mkS 46 3 1 8 (.int .i64 0) (.v (.int .i64 0)) (.t 11)⟩, ⟨some 5, none, .mov (.t 12)⟩])
  (.seq (.seq (.ops [⟨some 13, none, .mov (.t 1)⟩, ⟨some 14, none, .lenS (.t 13)⟩, ⟨some 15, none, .mov (.v (.int .i64 0))⟩])
  (.block 0 (.loop (.seq (.ops [⟨some 16, none, .bin .lss (.t 15) (.t 14)⟩])
    (.seq (.cond (.t 16) .skip (.exit 0))
    (.seq (.block 1 (.seq (.ops [⟨some 17, none, .ixS 1 (.t 13) (.t 15)⟩, ⟨some 18, none, .ld (.t 17)⟩, ⟨some 7, none, .mov (.t 18)⟩])
     (.seq (.ops [⟨some 20, none, .mov (.t 0)⟩, ⟨some 21, none, .mov (.t 7)⟩, ⟨some 22, none, .lookS (.int .i64 0) true (.t 20) (.t 21)⟩, ⟨some 19, none, .mov (.t 22)⟩, ⟨some 23, none, .ext 0 (.t 19)⟩, ⟨some 24, none, .ext 1 (.t 19)⟩, ⟨some 8, none, .mov (.t 23)⟩, ⟨some 9, none, .mov (.t 24)⟩])
     (.seq (.seq (.ops [⟨some 25, none, .mov (.t 9)⟩, ⟨some 26, none, .not (.t 25)⟩])
     (.cond (.t 26) (.seq (.ops [⟨some 27, none, .mov (.t 0)⟩, ⟨some 28, none, .lenM (.t 27)⟩, ⟨some 8, none, .mov (.t 28)⟩])
      (.ops [⟨some 29, none, .mov (.t 0)⟩, ⟨some 30, none, .mov (.t 7)⟩, ⟨some 31, none, .mov (.t 8)⟩, ⟨none, none, .updS (.t 29) (.t 30) (.t 31)⟩])) .skip))
     (.ops [⟨some 32, none, .mov (.t 5)⟩, ⟨some 33, none, .mov (.t 8)⟩, ⟨some 34, none, .bsl 3 [.int .i64 0] 1 [(0, 1, (.t 33))]⟩, ⟨some 35, none, .app 46 3 1 8 (.int .i64 0) (.t 32) (.t 34)⟩, ⟨some 5, none, .mov (.t 35)⟩])))))
    (.ops [⟨some 36, none, .bin .add (.t 15) (.v (.int .i64 1))⟩, ⟨some 15, none, .mov (.t 36)⟩])))))))
  (.seq (.ops [⟨some 37, none, .mov (.t 5)⟩, ⟨some 4, none, .mov (.t 37)⟩])
  .ret))))
theorem Try.known19 : Known Try.prog 19 Try.pc19 38 [4] := ⟨Try.f19, _, Try.func19, rfl, by kernel_rfl, rfl, rfl⟩

/-- redwax/myers.table -/
def Try.pc20 : PC :=
  (.seq (.ops [⟨some 4, none, .mov (.v (.slice none 0 0))⟩])
  (.seq (.ops [⟨some 9, none, .mov (.t 0)⟩, ⟨some 10, none, .lenS (.t 9)⟩, ⟨some 11, none, .bin .add (.t 10) (.v (.int .i64 1))⟩, ⟨some 12, none, .mkS 48 46 1 24 (.slice none 0 0) (.t 11) (.t 11)⟩, ⟨some 5, none, .mov (.t 12)⟩])
  (.seq (.ops [⟨some 13, none, .mov (.t 5)⟩, ⟨some 14, none, .mov (.t 0)⟩, ⟨some 15, none, .lenS (.t 14)⟩, ⟨some 16, none, .mov (.t 1)⟩, ⟨some 17, none, .lenS (.t 16)⟩, ⟨some 18, none, .bin .add (.t 17) (.v (.int .i64 1))⟩, ⟨some 19, none, .mkS 46 3 1 8 (.int .i64 0) (.t 18) (.t 18)⟩, ⟨some 20, none, .ixS 1 (.t 13) (.t 15)⟩, ⟨none, none, .st 1 (.t 20) (.t 19)⟩])
  (.seq (.seq (.ops [⟨some 21, none, .mov (.t 0)⟩, ⟨some 22, none, .lenS (.t 21)⟩, ⟨some 23, none, .bin .sub (.t 22) (.v (.int .i64 1))⟩, ⟨some 6, none, .mov (.t 23)⟩])
  (.block 0 (.loop (.seq (.seq (.ops [⟨some 24, none, .mov (.t 6)⟩, ⟨some 25, none, .bin .geq (.t 24) (.v (.int .i64 0))⟩])
    (.cond (.t 25) .skip (.exit 0)))
    (.seq (.block 1 (.seq (.ops [⟨some 28, none, .mov (.t 1)⟩, ⟨some 29, none, .lenS (.t 28)⟩, ⟨some 30, none, .bin .add (.t 29) (.v (.int .i64 1))⟩, ⟨some 31, none, .mkS 46 3 1 8 (.int .i64 0) (.t 30) (.t 30)⟩, ⟨some 7, none, .mov (.t 31)⟩])
     (.seq (.seq (.ops [⟨some 32, none, .mov (.t 1)⟩, ⟨some 33, none, .lenS (.t 32)⟩, ⟨some 34, none, .bin .sub (.t 33) (.v (.int .i64 1))⟩, ⟨some 8, none, .mov (.t 34)⟩])
     (.block 2 (.loop (.seq (.seq (.ops [⟨some 35, none, .mov (.t 8)⟩, ⟨some 36, none, .bin .geq (.t 35) (.v (.int .i64 0))⟩])
       (.cond (.t 36) .skip (.exit 2)))
       (.seq (.block 3 (.seq (.quiet 15 [⟨some 39, none, .mov (.t 7)⟩, ⟨some 40, none, .mov (.t 8)⟩, ⟨some 41, none, .mov (.t 5)⟩, ⟨some 42, none, .mov (.t 6)⟩, ⟨some 43, none, .bin .add (.t 42) (.v (.int .i64 1))⟩, ⟨some 44, none, .ixS 1 (.t 41) (.t 43)⟩, ⟨some 45, none, .ld (.t 44)⟩, ⟨some 46, none, .mov (.t 8)⟩, ⟨some 47, none, .ixS 1 (.t 45) (.t 46)⟩, ⟨some 48, none, .ld (.t 47)⟩, ⟨some 49, none, .mov (.t 7)⟩, ⟨some 50, none, .mov (.t 8)⟩, ⟨some 51, none, .bin .add (.t 50) (.v (.int .i64 1))⟩, ⟨some 52, none, .ixS 1 (.t 49) (.t 51)⟩, ⟨some 53, none, .ld (.t 52)⟩, ⟨some 54, none, .mnx true [(.t 48), (.t 53)]⟩, ⟨some 55, none, .ixS 1 (.t 39) (.t 40)⟩, ⟨none, none, .st 1 (.t 55) (.t 54)⟩])
        (.seq (.quiet 8 [⟨some 56, none, .mov (.t 0)⟩, ⟨some 57, none, .mov (.t 6)⟩, ⟨some 58, none, .ixS 1 (.t 56) (.t 57)⟩, ⟨some 59, none, .ld (.t 58)⟩, ⟨some 60, none, .mov (.t 1)⟩, ⟨some 61, none, .mov (.t 8)⟩, ⟨some 62, none, .ixS 1 (.t 60) (.t 61)⟩, ⟨some 63, none, .ld (.t 62)⟩, ⟨some 64, none, .bin .eql (.t 59) (.t 63)⟩])
        (.cond (.t 64) (.ops [⟨some 65, none, .mov (.t 7)⟩, ⟨some 66, none, .mov (.t 8)⟩, ⟨some 67, none, .mov (.t 5)⟩, ⟨some 68, none, .mov (.t 6)⟩, ⟨some 69, none, .bin .add (.t 68) (.v (.int .i64 1))⟩, ⟨some 70, none, .ixS 1 (.t 67) (.t 69)⟩, ⟨some 71, none, .ld (.t 70)⟩, ⟨some 72, none, .mov (.t 8)⟩, ⟨some 73, none, .bin .add (.t 72) (.v (.int .i64 1))⟩, ⟨some 74, none, .ixS 1 (.t 71) (.t 73)⟩, ⟨some 75, none, .ld (.t 74)⟩, ⟨some 76, none, .bin .add (.t 75) (.v (.int .i64 1))⟩, ⟨some 77, none, .ixS 1 (.t 65) (.t 66)⟩, ⟨none, none, .st 1 (.t 77) (.t 76)⟩]) .skip))))
       (.ops [⟨some 37, none, .mov (.t 8)⟩, ⟨some 38, none, .bin .sub (.t 37) (.v (.int .i64 1))⟩, ⟨some 8, none, .mov (.t 38)⟩]))))))
     (.ops [⟨some 78, none, .mov (.t 5)⟩, ⟨some 79, none, .mov (.t 6)⟩, ⟨some 80, none, .mov (.t 7)⟩, ⟨some 81, none, .ixS 1 (.t 78) (.t 79)⟩, ⟨none, none, .st 1 (.t 81) (.t 80)⟩]))))
    (.ops [⟨some 26, none, .mov (.t 6)⟩, ⟨some 27, none, .bin .sub (.t 26) (.v (.int .i64 1))⟩, ⟨some 6, none, .mov (.t 27)⟩]))))))
  (.seq (.ops [⟨some 82, none, .mov (.t 5)⟩, ⟨some 4, none, .mov (.t 82)⟩])
  .ret)))))
theorem Try.known20 : Known Try.prog 20 Try.pc20 83 [4] := ⟨Try.f20, _, Try.func20, rfl, by kernel_rfl, rfl, rfl⟩

/-- redwax/redwaxref14.Keeps -/
def Try.pc21 : PC :=
  (.seq (.ops [⟨some 4, none, .mov (.v (.slice none 0 0))⟩])
  (.seq (.ops [⟨some 10, none, .mov (.t 1)⟩, ⟨some 11, none, .lenS (.t 10)⟩, ⟨some 12, none, .bin .add (.t 11) (.v (.int .i64 1))⟩, ⟨some 5, none, .mov (.t 12)⟩])
  (.seq (.ops [⟨some 13, none, .mov (.t 0)⟩, ⟨some 14, none, .lenS (.t 13)⟩, ⟨some 15, none, .bin .add (.t 14) (.v (.int .i64 1))⟩, ⟨some 16, none, .mov (.t 5)⟩, ⟨some 17, none, .bin .mul (.t 15) (.t 16)⟩, ⟨some 18, none, .mkS 46 3 1 8 (.int .i64 0) (.t 17) (.t 17)⟩, ⟨some 6, none, .mov (.t 18)⟩])
  (.seq (.seq (.ops [⟨some 19, none, .mov (.t 0)⟩, ⟨some 20, none, .lenS (.t 19)⟩, ⟨some 21, none, .bin .sub (.t 20) (.v (.int .i64 1))⟩, ⟨some 7, none, .mov (.t 21)⟩])
  (.block 0 (.loop (.seq (.seq (.ops [⟨some 22, none, .mov (.t 7)⟩, ⟨some 23, none, .bin .geq (.t 22) (.v (.int .i64 0))⟩])
    (.cond (.t 23) .skip (.exit 0)))
    (.seq (.block 1 (.seq (.ops [⟨some 26, none, .mov (.t 1)⟩, ⟨some 27, none, .lenS (.t 26)⟩, ⟨some 28, none, .bin .sub (.t 27) (.v (.int .i64 1))⟩, ⟨some 8, none, .mov (.t 28)⟩])
     (.block 2 (.loop (.seq (.seq (.ops [⟨some 29, none, .mov (.t 8)⟩, ⟨some 30, none, .bin .geq (.t 29) (.v (.int .i64 0))⟩])
       (.cond (.t 30) .skip (.exit 2)))
       (.seq (.block 3 (.seq (.ops [⟨some 33, none, .mov (.t 6)⟩, ⟨some 34, none, .mov (.t 7)⟩, ⟨some 35, none, .bin .add (.t 34) (.v (.int .i64 1))⟩, ⟨some 36, none, .mov (.t 5)⟩, ⟨some 37, none, .bin .mul (.t 35) (.t 36)⟩, ⟨some 38, none, .mov (.t 8)⟩, ⟨some 39, none, .bin .add (.t 37) (.t 38)⟩, ⟨some 40, none, .ixS 1 (.t 33) (.t 39)⟩, ⟨some 41, none, .ld (.t 40)⟩, ⟨some 9, none, .mov (.t 41)⟩])
        (.seq (.seq (.ops [⟨some 42, none, .mov (.t 6)⟩, ⟨some 43, none, .mov (.t 7)⟩, ⟨some 44, none, .mov (.t 5)⟩, ⟨some 45, none, .bin .mul (.t 43) (.t 44)⟩, ⟨some 46, none, .mov (.t 8)⟩, ⟨some 47, none, .bin .add (.t 45) (.t 46)⟩, ⟨some 48, none, .bin .add (.t 47) (.v (.int .i64 1))⟩, ⟨some 49, none, .ixS 1 (.t 42) (.t 48)⟩, ⟨some 50, none, .ld (.t 49)⟩, ⟨some 51, none, .mov (.t 9)⟩, ⟨some 52, none, .bin .gtr (.t 50) (.t 51)⟩])
        (.cond (.t 52) (.ops [⟨some 53, none, .mov (.t 6)⟩, ⟨some 54, none, .mov (.t 7)⟩, ⟨some 55, none, .mov (.t 5)⟩, ⟨some 56, none, .bin .mul (.t 54) (.t 55)⟩, ⟨some 57, none, .mov (.t 8)⟩, ⟨some 58, none, .bin .add (.t 56) (.t 57)⟩, ⟨some 59, none, .bin .add (.t 58) (.v (.int .i64 1))⟩, ⟨some 60, none, .ixS 1 (.t 53) (.t 59)⟩, ⟨some 61, none, .ld (.t 60)⟩, ⟨some 9, none, .mov (.t 61)⟩]) .skip))
        (.seq (.seq (.quiet 22 [⟨some 62, none, .mov (.t 0)⟩, ⟨some 63, none, .mov (.t 7)⟩, ⟨some 64, none, .ixS 1 (.t 62) (.t 63)⟩, ⟨some 65, none, .ld (.t 64)⟩, ⟨some 66, none, .mov (.t 1)⟩, ⟨some 67, none, .mov (.t 8)⟩, ⟨some 68, none, .ixS 1 (.t 66) (.t 67)⟩, ⟨some 69, none, .ld (.t 68)⟩, ⟨some 70, none, .bin .eql (.t 65) (.t 69)⟩, ⟨some 71, none, .mov (.t 70)⟩, ⟨some 72, (some (71, true)), .mov (.t 6)⟩, ⟨some 73, (some (71, true)), .mov (.t 7)⟩, ⟨some 74, (some (71, true)), .bin .add (.t 73) (.v (.int .i64 1))⟩, ⟨some 75, (some (71, true)), .mov (.t 5)⟩, ⟨some 76, (some (71, true)), .bin .mul (.t 74) (.t 75)⟩, ⟨some 77, (some (71, true)), .mov (.t 8)⟩, ⟨some 78, (some (71, true)), .bin .add (.t 76) (.t 77)⟩, ⟨some 79, (some (71, true)), .bin .add (.t 78) (.v (.int .i64 1))⟩, ⟨some 80, (some (71, true)), .ixS 1 (.t 72) (.t 79)⟩, ⟨some 81, (some (71, true)), .ld (.t 80)⟩, ⟨some 82, (some (71, true)), .bin .add (.t 81) (.v (.int .i64 1))⟩, ⟨some 83, (some (71, true)), .mov (.t 9)⟩, ⟨some 84, (some (71, true)), .bin .gtr (.t 82) (.t 83)⟩, ⟨some 85, none, .pick (.t 71) (.t 84) (.v (.bool false))⟩])
        (.cond (.t 85) (.ops [⟨some 86, none, .mov (.t 6)⟩, ⟨some 87, none, .mov (.t 7)⟩, ⟨some 88, none, .bin .add (.t 87) (.v (.int .i64 1))⟩, ⟨some 89, none, .mov (.t 5)⟩, ⟨some 90, none, .bin .mul (.t 88) (.t 89)⟩, ⟨some 91, none, .mov (.t 8)⟩, ⟨some 92, none, .bin .add (.t 90) (.t 91)⟩, ⟨some 93, none, .bin .add (.t 92) (.v (.int .i64 1))⟩, ⟨some 94, none, .ixS 1 (.t 86) (.t 93)⟩, ⟨some 95, none, .ld (.t 94)⟩, ⟨some 96, none, .bin .add (.t 95) (.v (.int .i64 1))⟩, ⟨some 9, none, .mov (.t 96)⟩]) .skip))
        (.ops [⟨some 97, none, .mov (.t 6)⟩, ⟨some 98, none, .mov (.t 7)⟩, ⟨some 99, none, .mov (.t 5)⟩, ⟨some 100, none, .bin .mul (.t 98) (.t 99)⟩, ⟨some 101, none, .mov (.t 8)⟩, ⟨some 102, none, .bin .add (.t 100) (.t 101)⟩, ⟨some 103, none, .mov (.t 9)⟩, ⟨some 104, none, .ixS 1 (.t 97) (.t 102)⟩, ⟨none, none, .st 1 (.t 104) (.t 103)⟩])))))
       (.ops [⟨some 31, none, .mov (.t 8)⟩, ⟨some 32, none, .bin .sub (.t 31) (.v (.int .i64 1))⟩, ⟨some 8, none, .mov (.t 32)⟩])))))))
    (.ops [⟨some 24, none, .mov (.t 7)⟩, ⟨some 25, none, .bin .sub (.t 24) (.v (.int .i64 1))⟩, ⟨some 7, none, .mov (.t 25)⟩]))))))
  (.seq (.ops [⟨some 105, none, .mov (.t 6)⟩, ⟨some 4, none, .mov (.t 105)⟩])
  .ret)))))
theorem Try.known21 : Known Try.prog 21 Try.pc21 106 [4] := ⟨Try.f21, _, Try.func21, rfl, by kernel_rfl, rfl, rfl⟩

end Go.Proofs
