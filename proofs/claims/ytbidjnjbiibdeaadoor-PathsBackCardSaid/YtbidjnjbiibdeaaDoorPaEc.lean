/- The small forms that the evaluator runs. -/
import Derived.Test.YtbidjnjbiibdeaaDoorE14
import Derived.Test.YtbidjnjbiibdeaaDoorProg
set_option maxRecDepth 100000
namespace Go.Proofs
open Go.SL
/-- redwax/redwaxlaw06.PathsKnown -/
def Tryd.ec9 : EFn := ⟨(.seq (.ops [⟨some 0, none, .mov (.v (.bool false))⟩])
  (.seq (.ops [⟨some 7, none, .bsl 9 [.string ⟨#[]⟩, .string ⟨#[]⟩, .string ⟨#[]⟩, .string ⟨#[]⟩, .string ⟨#[]⟩] 5 [(0, 1, (.v (.string ⟨#[97]⟩))), (1, 1, (.v (.string ⟨#[97, 47, 98, 46, 99]⟩))), (2, 1, (.v (.string ⟨#[46, 120, 47, 45]⟩))), (3, 1, (.v (.string ⟨#[97, 46, 46, 98]⟩))), (4, 1, (.v (.string ⟨#[49, 47, 50, 47, 51, 47, 52, 47, 53, 47, 54, 47, 55, 47, 56]⟩)))]⟩, ⟨some 1, none, .mov (.t 7)⟩])
  (.seq (.ops [⟨some 8, none, .bsl 9 [.string ⟨#[]⟩, .string ⟨#[]⟩, .string ⟨#[]⟩, .string ⟨#[]⟩, .string ⟨#[]⟩, .string ⟨#[]⟩, .string ⟨#[]⟩, .string ⟨#[]⟩, .string ⟨#[]⟩] 9 [(0, 1, (.v (.string ⟨#[]⟩))), (1, 1, (.v (.string ⟨#[47, 97]⟩))), (2, 1, (.v (.string ⟨#[97, 47]⟩))), (3, 1, (.v (.string ⟨#[97, 47, 47, 98]⟩))), (4, 1, (.v (.string ⟨#[46]⟩))), (5, 1, (.v (.string ⟨#[97, 47, 46, 46]⟩))), (6, 1, (.v (.string ⟨#[97, 32, 98]⟩))), (7, 1, (.v (.string ⟨#[49, 47, 50, 47, 51, 47, 52, 47, 53, 47, 54, 47, 55, 47, 56, 47, 57]⟩))), (8, 1, (.v (.string ⟨#[195, 169]⟩)))]⟩, ⟨some 2, none, .mov (.t 8)⟩])
  (.seq (.seq (.ops [⟨some 3, none, .mov (.v (.int .i64 0))⟩])
  (.block 0 (.loop [1, 2, 3] (.seq (.seq (.ops [⟨some 9, none, .mov (.t 3)⟩, ⟨some 10, none, .mov (.t 1)⟩, ⟨some 11, none, .lenS (.t 10)⟩, ⟨some 12, none, .bin .lss (.t 9) (.t 11)⟩])
    (.cond (.t 12) .skip (.exit 0)))
    (.seq (.block 1 (.seq (.ops [⟨some 15, none, .mov (.t 1)⟩, ⟨some 16, none, .mov (.t 3)⟩, ⟨some 17, none, .ixS 1 (.t 15) (.t 16)⟩, ⟨some 18, none, .ld (.t 17)⟩, ⟨some 19, none, .call 29 [(.t 18)]⟩, ⟨some 20, none, .bin .neq (.t 19) (.v (.int .i64 0))⟩])
     (.cond (.t 20) (.seq (.ops [⟨some 0, none, .mov (.v (.bool false))⟩])
      .ret) .skip)))
    (.ops [⟨some 13, none, .mov (.t 3)⟩, ⟨some 14, none, .bin .add (.t 13) (.v (.int .i64 1))⟩, ⟨some 3, none, .mov (.t 14)⟩]))))))
  (.seq (.seq (.ops [⟨some 4, none, .mov (.v (.int .i64 0))⟩])
  (.block 2 (.loop [2, 4] (.seq (.seq (.ops [⟨some 21, none, .mov (.t 4)⟩, ⟨some 22, none, .mov (.t 2)⟩, ⟨some 23, none, .lenS (.t 22)⟩, ⟨some 24, none, .bin .lss (.t 21) (.t 23)⟩])
    (.cond (.t 24) .skip (.exit 2)))
    (.seq (.block 3 (.seq (.ops [⟨some 27, none, .mov (.t 2)⟩, ⟨some 28, none, .mov (.t 4)⟩, ⟨some 29, none, .ixS 1 (.t 27) (.t 28)⟩, ⟨some 30, none, .ld (.t 29)⟩, ⟨some 31, none, .call 29 [(.t 30)]⟩, ⟨some 32, none, .bin .neq (.t 31) (.v (.int .i64 15))⟩])
     (.cond (.t 32) (.seq (.ops [⟨some 0, none, .mov (.v (.bool false))⟩])
      .ret) .skip)))
    (.ops [⟨some 25, none, .mov (.t 4)⟩, ⟨some 26, none, .bin .add (.t 25) (.v (.int .i64 1))⟩, ⟨some 4, none, .mov (.t 26)⟩]))))))
  (.seq (.ops [⟨some 5, none, .mov (.v (.string ⟨#[]⟩))⟩])
  (.seq (.seq (.ops [⟨some 6, none, .mov (.v (.int .i64 0))⟩])
  (.block 4 (.loop [5, 6] (.seq (.seq (.ops [⟨some 33, none, .mov (.t 6)⟩, ⟨some 34, none, .bin .lss (.t 33) (.v (.int .i64 60))⟩])
    (.cond (.t 34) .skip (.exit 4)))
    (.seq (.block 5 (.ops [⟨some 37, none, .mov (.t 5)⟩, ⟨some 38, none, .bin .add (.t 37) (.v (.string ⟨#[120]⟩))⟩, ⟨some 5, none, .mov (.t 38)⟩]))
    (.ops [⟨some 35, none, .mov (.t 6)⟩, ⟨some 36, none, .bin .add (.t 35) (.v (.int .i64 1))⟩, ⟨some 6, none, .mov (.t 36)⟩]))))))
  (.seq (.ops [⟨some 39, none, .mov (.t 5)⟩, ⟨some 40, none, .call 29 [(.t 39)]⟩, ⟨some 41, none, .bin .eql (.t 40) (.v (.int .i64 0))⟩, ⟨some 42, none, .mov (.t 41)⟩, ⟨some 43, (some (42, true)), .mov (.t 5)⟩, ⟨some 44, (some (42, true)), .bin .add (.t 43) (.v (.string ⟨#[120]⟩))⟩, ⟨some 45, (some (42, true)), .call 29 [(.t 44)]⟩, ⟨some 46, (some (42, true)), .bin .eql (.t 45) (.v (.int .i64 15))⟩, ⟨some 47, none, .pick (.t 42) (.t 46) (.v (.bool false))⟩, ⟨some 48, none, .mov (.t 47)⟩, ⟨some 49, (some (48, true)), .call 31 [(.v (.string ⟨#[]⟩))]⟩, ⟨some 50, (some (48, true)), .bin .eql (.t 49) (.v (.int .i64 0))⟩, ⟨some 51, none, .pick (.t 48) (.t 50) (.v (.bool false))⟩, ⟨some 52, none, .mov (.t 51)⟩, ⟨some 53, (some (52, true)), .call 36 [(.v (.string ⟨#[97]⟩)), (.v (.string ⟨#[97, 47, 98]⟩))]⟩, ⟨some 54, none, .pick (.t 52) (.t 53) (.v (.bool false))⟩, ⟨some 55, none, .mov (.t 54)⟩, ⟨some 56, (some (55, true)), .call 36 [(.v (.string ⟨#[97, 47, 98]⟩)), (.v (.string ⟨#[97]⟩))]⟩, ⟨some 57, (some (55, true)), .not (.t 56)⟩, ⟨some 58, none, .pick (.t 55) (.t 57) (.v (.bool false))⟩, ⟨some 59, none, .mov (.t 58)⟩, ⟨some 60, (some (59, true)), .call 36 [(.v (.string ⟨#[]⟩)), (.v (.string ⟨#[]⟩))]⟩, ⟨some 61, (some (59, true)), .not (.t 60)⟩, ⟨some 62, none, .pick (.t 59) (.t 61) (.v (.bool false))⟩, ⟨some 63, none, .mov (.t 62)⟩, ⟨some 64, (some (63, true)), .call 36 [(.v (.string ⟨#[97, 47]⟩)), (.v (.string ⟨#[97, 47, 98]⟩))]⟩, ⟨some 65, (some (63, true)), .not (.t 64)⟩, ⟨some 66, none, .pick (.t 63) (.t 65) (.v (.bool false))⟩, ⟨some 67, none, .mov (.t 66)⟩, ⟨some 68, (some (67, true)), .call 34 []⟩, ⟨some 69, none, .pick (.t 67) (.t 68) (.v (.bool false))⟩, ⟨some 0, none, .mov (.t 69)⟩])
  .ret)))))))), 70, [.tmp 0]⟩
theorem Tryd.ek9 : KnownE Tryd.prog 9 Tryd.ec9 := ⟨Tryd.f9, _, Tryd.func9, rfl, by kernel_rfl, rfl, by kernel_rfl, by kernel_rfl⟩

/-- redwax/paths.Parts -/
def Tryd.ec28 : EFn := ⟨(.seq (.ops [⟨some 2, none, .mov (.v (.slice none 0 0))⟩])
  (.seq (.seq (.ops [⟨some 3, none, .mov (.t 0)⟩, ⟨some 4, none, .call 63 [(.t 3)]⟩, ⟨some 5, none, .not (.t 4)⟩])
  (.cond (.t 5) (.seq (.ops [⟨some 2, none, .mov (.v (.slice none 0 0))⟩])
   .ret) .skip))
  (.seq (.ops [⟨some 6, none, .mov (.t 0)⟩, ⟨some 7, none, .call 64 [(.t 6), (.v (.string ⟨#[47]⟩))]⟩, ⟨some 2, none, .mov (.t 7)⟩])
  .ret))), 8, [.tmp 2]⟩
theorem Tryd.ek28 : KnownE Tryd.prog 28 Tryd.ec28 := ⟨Tryd.f28, _, Tryd.func28, rfl, by kernel_rfl, rfl, by kernel_rfl, by kernel_rfl⟩

/-- redwax/paths.Check -/
def Tryd.ec29 : EFn := ⟨(.seq (.ops [⟨some 2, none, .mov (.v (.int .i64 0))⟩])
  (.seq (.seq (.ops [⟨some 3, none, .mov (.t 0)⟩, ⟨some 4, none, .call 63 [(.t 3)]⟩, ⟨some 5, none, .not (.t 4)⟩])
  (.cond (.t 5) (.seq (.ops [⟨some 2, none, .mov (.v (.int .i64 15))⟩])
   .ret) .skip))
  (.seq (.ops [⟨some 2, none, .mov (.v (.int .i64 0))⟩])
  .ret))), 6, [.tmp 2]⟩
theorem Tryd.ek29 : KnownE Tryd.prog 29 Tryd.ec29 := ⟨Tryd.f29, _, Tryd.func29, rfl, by kernel_rfl, rfl, by kernel_rfl, by kernel_rfl⟩

/-- redwax/paths.Prefix -/
def Tryd.ec31 : EFn := ⟨(.seq (.ops [⟨some 2, none, .mov (.v (.int .i64 0))⟩])
  (.seq (.seq (.ops [⟨some 3, none, .mov (.t 0)⟩, ⟨some 4, none, .bin .eql (.t 3) (.v (.string ⟨#[]⟩))⟩])
  (.cond (.t 4) (.seq (.ops [⟨some 2, none, .mov (.v (.int .i64 0))⟩])
   .ret) .skip))
  (.seq (.ops [⟨some 5, none, .mov (.t 0)⟩, ⟨some 6, none, .call 29 [(.t 5)]⟩, ⟨some 2, none, .mov (.t 6)⟩])
  .ret))), 7, [.tmp 2]⟩
theorem Tryd.ek31 : KnownE Tryd.prog 31 Tryd.ec31 := ⟨Tryd.f31, _, Tryd.func31, rfl, by kernel_rfl, rfl, by kernel_rfl, by kernel_rfl⟩

/-- redwax/redwaxlaw06.works -/
def Tryd.ec34 : EFn := ⟨(.seq (.ops [⟨some 0, none, .mov (.v (.bool false))⟩])
  (.seq (.ops [⟨some 2, none, .call 28 [(.v (.string ⟨#[97, 47, 98, 46, 99]⟩))]⟩, ⟨some 1, none, .mov (.t 2)⟩])
  (.seq (.ops [⟨some 3, none, .call 29 [(.v (.string ⟨#[97, 47, 98, 46, 99]⟩))]⟩, ⟨some 4, none, .bin .eql (.t 3) (.v (.int .i64 0))⟩, ⟨some 5, none, .mov (.t 4)⟩, ⟨some 6, (some (5, true)), .call 29 [(.v (.string ⟨#[97, 47, 46, 46]⟩))]⟩, ⟨some 7, (some (5, true)), .bin .eql (.t 6) (.v (.int .i64 15))⟩, ⟨some 8, none, .pick (.t 5) (.t 7) (.v (.bool false))⟩, ⟨some 9, none, .mov (.t 8)⟩, ⟨some 10, (some (9, true)), .mov (.t 1)⟩, ⟨some 11, (some (9, true)), .lenS (.t 10)⟩, ⟨some 12, (some (9, true)), .bin .eql (.t 11) (.v (.int .i64 2))⟩, ⟨some 13, none, .pick (.t 9) (.t 12) (.v (.bool false))⟩, ⟨some 14, none, .mov (.t 13)⟩, ⟨some 15, (some (14, true)), .mov (.t 1)⟩, ⟨some 16, (some (14, true)), .ixS 1 (.t 15) (.v (.int .i64 1))⟩, ⟨some 17, (some (14, true)), .ld (.t 16)⟩, ⟨some 18, (some (14, true)), .bin .eql (.t 17) (.v (.string ⟨#[98, 46, 99]⟩))⟩, ⟨some 19, none, .pick (.t 14) (.t 18) (.v (.bool false))⟩, ⟨some 20, none, .mov (.t 19)⟩, ⟨some 21, (some (20, true)), .call 36 [(.v (.string ⟨#[97]⟩)), (.v (.string ⟨#[97, 47, 98, 46, 99]⟩))]⟩, ⟨some 22, none, .pick (.t 20) (.t 21) (.v (.bool false))⟩, ⟨some 23, none, .mov (.t 22)⟩, ⟨some 24, (some (23, true)), .call 36 [(.v (.string ⟨#[97]⟩)), (.v (.string ⟨#[97, 98]⟩))]⟩, ⟨some 25, (some (23, true)), .not (.t 24)⟩, ⟨some 26, none, .pick (.t 23) (.t 25) (.v (.bool false))⟩, ⟨some 27, none, .mov (.t 26)⟩, ⟨some 28, (some (27, true)), .call 38 [(.v (.string ⟨#[97]⟩)), (.v (.string ⟨#[98]⟩))]⟩, ⟨some 29, (some (27, true)), .bin .eql (.t 28) (.v (.int .i64 (-1)))⟩, ⟨some 30, none, .pick (.t 27) (.t 29) (.v (.bool false))⟩, ⟨some 0, none, .mov (.t 30)⟩])
  .ret))), 31, [.tmp 0]⟩
theorem Tryd.ek34 : KnownE Tryd.prog 34 Tryd.ec34 := ⟨Tryd.f34, _, Tryd.func34, rfl, by kernel_rfl, rfl, by kernel_rfl, by kernel_rfl⟩

/-- redwax/paths.Under -/
def Tryd.ec36 : EFn := ⟨(.seq (.ops [⟨some 4, none, .mov (.v (.bool false))⟩])
  (.seq (.seq (.ops [⟨some 5, none, .mov (.t 1)⟩, ⟨some 6, none, .call 63 [(.t 5)]⟩, ⟨some 7, none, .not (.t 6)⟩, ⟨some 8, none, .mov (.t 7)⟩, ⟨some 9, (some (8, false)), .mov (.t 0)⟩, ⟨some 10, (some (8, false)), .call 31 [(.t 9)]⟩, ⟨some 11, (some (8, false)), .bin .neq (.t 10) (.v (.int .i64 0))⟩, ⟨some 12, none, .pick (.t 8) (.v (.bool true)) (.t 11)⟩])
  (.cond (.t 12) (.seq (.ops [⟨some 4, none, .mov (.v (.bool false))⟩])
   .ret) .skip))
  (.seq (.ops [⟨some 13, none, .mov (.t 0)⟩, ⟨some 14, none, .bin .eql (.t 13) (.v (.string ⟨#[]⟩))⟩, ⟨some 15, none, .mov (.t 14)⟩, ⟨some 16, (some (15, false)), .mov (.t 0)⟩, ⟨some 17, (some (15, false)), .mov (.t 1)⟩, ⟨some 18, (some (15, false)), .bin .eql (.t 16) (.t 17)⟩, ⟨some 19, none, .pick (.t 15) (.v (.bool true)) (.t 18)⟩, ⟨some 20, none, .mov (.t 19)⟩, ⟨some 21, (some (20, false)), .mov (.t 1)⟩, ⟨some 22, (some (20, false)), .mov (.t 0)⟩, ⟨some 23, (some (20, false)), .bin .add (.t 22) (.v (.string ⟨#[47]⟩))⟩, ⟨some 24, (some (20, false)), .call 66 [(.t 21), (.t 23)]⟩, ⟨some 25, none, .pick (.t 20) (.v (.bool true)) (.t 24)⟩, ⟨some 4, none, .mov (.t 25)⟩])
  .ret))), 26, [.tmp 4]⟩
theorem Tryd.ek36 : KnownE Tryd.prog 36 Tryd.ec36 := ⟨Tryd.f36, _, Tryd.func36, rfl, by kernel_rfl, rfl, by kernel_rfl, by kernel_rfl⟩

/-- redwax/paths.Order -/
def Tryd.ec38 : EFn := ⟨(.seq (.ops [⟨some 4, none, .mov (.v (.int .i64 0))⟩])
  (.seq (.ops [⟨some 5, none, .mov (.t 0)⟩, ⟨some 6, none, .mov (.t 1)⟩, ⟨some 7, none, .call 67 [(.t 5), (.t 6)]⟩, ⟨some 4, none, .mov (.t 7)⟩])
  .ret)), 8, [.tmp 4]⟩
theorem Tryd.ek38 : KnownE Tryd.prog 38 Tryd.ec38 := ⟨Tryd.f38, _, Tryd.func38, rfl, by kernel_rfl, rfl, by kernel_rfl, by kernel_rfl⟩

/-- redwax/paths.is -/
def Tryd.ec63 : EFn := ⟨(.seq (.ops [⟨some 2, none, .mov (.v (.bool false))⟩])
  (.seq (.seq (.ops [⟨some 4, none, .mov (.t 0)⟩, ⟨some 5, none, .lenStr (.t 4)⟩, ⟨some 6, none, .bin .gtr (.t 5) (.v (.int .i64 60))⟩])
  (.cond (.t 6) (.seq (.ops [⟨some 2, none, .mov (.v (.bool false))⟩])
   .ret) .skip))
  (.seq (.ops [⟨some 7, none, .mov (.t 0)⟩, ⟨some 8, none, .call 64 [(.t 7), (.v (.string ⟨#[47]⟩))]⟩, ⟨some 3, none, .mov (.t 8)⟩])
  (.seq (.ops [⟨some 9, none, .mov (.t 3)⟩, ⟨some 10, none, .lenS (.t 9)⟩, ⟨some 11, none, .bin .leq (.t 10) (.v (.int .i64 8))⟩, ⟨some 12, none, .mov (.t 11)⟩, ⟨some 13, (some (12, true)), .mov (.t 3)⟩, ⟨some 14, (some (12, true)), .call 88 [(.t 13), (.v (.func (.func 89) #[] #[]))]⟩, ⟨some 15, (some (12, true)), .not (.t 14)⟩, ⟨some 16, none, .pick (.t 12) (.t 15) (.v (.bool false))⟩, ⟨some 2, none, .mov (.t 16)⟩])
  .ret)))), 17, [.tmp 2]⟩
theorem Tryd.ek63 : KnownE Tryd.prog 63 Tryd.ec63 := ⟨Tryd.f63, _, Tryd.func63, rfl, by kernel_rfl, rfl, by kernel_rfl, by kernel_rfl⟩

/-- strings.Split -/
def Tryd.ec64 : EFn := ⟨(.seq (.ops [⟨some 4, none, .mov (.v (.slice none 0 0))⟩])
  (.seq (.ops [⟨some 5, none, .mov (.t 0)⟩, ⟨some 6, none, .mov (.t 1)⟩, ⟨some 7, none, .call 91 [(.t 5), (.t 6), (.v (.int .i64 0)), (.v (.int .i64 (-1)))]⟩, ⟨some 4, none, .mov (.t 7)⟩])
  .ret)), 8, [.tmp 4]⟩
theorem Tryd.ek64 : KnownE Tryd.prog 64 Tryd.ec64 := ⟨Tryd.f64, _, Tryd.func64, rfl, by kernel_rfl, rfl, by kernel_rfl, by kernel_rfl⟩

/-- strings.HasPrefix -/
def Tryd.ec66 : EFn := ⟨(.seq (.ops [⟨some 4, none, .mov (.v (.bool false))⟩])
  (.seq (.ops [⟨some 5, none, .mov (.t 0)⟩, ⟨some 6, none, .mov (.t 1)⟩, ⟨some 7, none, .call 93 [(.t 5), (.t 6)]⟩, ⟨some 4, none, .mov (.t 7)⟩])
  .ret)), 8, [.tmp 4]⟩
theorem Tryd.ek66 : KnownE Tryd.prog 66 Tryd.ec66 := ⟨Tryd.f66, _, Tryd.func66, rfl, by kernel_rfl, rfl, by kernel_rfl, by kernel_rfl⟩

/-- strings.Compare -/
def Tryd.ec67 : EFn := ⟨(.seq (.ops [⟨some 4, none, .mov (.v (.int .i64 0))⟩])
  (.seq (.ops [⟨some 5, none, .mov (.t 0)⟩, ⟨some 6, none, .mov (.t 1)⟩, ⟨some 7, none, .call 94 [(.t 5), (.t 6)]⟩, ⟨some 4, none, .mov (.t 7)⟩])
  .ret)), 8, [.tmp 4]⟩
theorem Tryd.ek67 : KnownE Tryd.prog 67 Tryd.ec67 := ⟨Tryd.f67, _, Tryd.func67, rfl, by kernel_rfl, rfl, by kernel_rfl, by kernel_rfl⟩

/-- slices.ContainsFunc[[]string,string] -/
def Tryd.ec88 : EFn := ⟨(.seq (.ops [⟨some 4, none, .mov (.v (.bool false))⟩])
  (.seq (.ops [⟨some 5, none, .mov (.t 0)⟩, ⟨some 6, none, .mov (.t 1)⟩, ⟨some 7, none, .call 105 [(.t 5), (.t 6)]⟩, ⟨some 8, none, .bin .geq (.t 7) (.v (.int .i64 0))⟩, ⟨some 4, none, .mov (.t 8)⟩])
  .ret)), 9, [.tmp 4]⟩
theorem Tryd.ek88 : KnownE Tryd.prog 88 Tryd.ec88 := ⟨Tryd.f88, _, Tryd.func88, rfl, by kernel_rfl, rfl, by kernel_rfl, by kernel_rfl⟩

/-- redwax/paths.is$1 -/
def Tryd.ec89 : EFn := ⟨(.seq (.ops [⟨some 2, none, .mov (.v (.bool false))⟩])
  (.seq (.ops [⟨some 3, none, .mov (.t 0)⟩, ⟨some 4, none, .call 90 [(.t 3)]⟩, ⟨some 5, none, .not (.t 4)⟩, ⟨some 2, none, .mov (.t 5)⟩])
  .ret)), 6, [.tmp 2]⟩
theorem Tryd.ek89 : KnownE Tryd.prog 89 Tryd.ec89 := ⟨Tryd.f89, _, Tryd.func89, rfl, by kernel_rfl, rfl, by kernel_rfl, by kernel_rfl⟩

/-- redwax/paths.part -/
def Tryd.ec90 : EFn := ⟨(.seq (.ops [⟨some 2, none, .mov (.v (.bool false))⟩])
  (.seq (.ops [⟨some 3, none, .mov (.v (.int .i64 0))⟩])
  (.seq (.seq (.ops [⟨some 6, none, .mov (.t 0)⟩, ⟨some 7, none, .more (.rngS (.t 6))⟩])
  (.block 0 (.loop [0, 3, 7] (.seq (.ops [⟨some 8, none, .more (.nxtS (.t 7))⟩, ⟨some 9, none, .ext 0 (.t 8)⟩])
    (.seq (.cond (.t 9) .skip (.exit 0))
    (.block 1 (.seq (.ops [⟨some 10, none, .ext 2 (.t 8)⟩, ⟨some 5, none, .mov (.t 10)⟩])
     (.seq (.seq (.ops [⟨some 11, none, .mov (.t 5)⟩, ⟨some 12, none, .call 106 [(.t 11)]⟩, ⟨some 13, none, .not (.t 12)⟩])
     (.cond (.t 13) (.seq (.ops [⟨some 2, none, .mov (.v (.bool false))⟩])
      .ret) .skip))
     (.seq (.ops [⟨some 14, none, .mov (.t 5)⟩, ⟨some 15, none, .bin .eql (.t 14) (.v (.int .i32 46))⟩])
     (.cond (.t 15) (.ops [⟨some 16, none, .mov (.t 3)⟩, ⟨some 17, none, .bin .add (.t 16) (.v (.int .i64 1))⟩, ⟨some 3, none, .mov (.t 17)⟩]) .skip))))))))))
  (.seq (.ops [⟨some 18, none, .mov (.t 3)⟩, ⟨some 19, none, .mov (.t 0)⟩, ⟨some 20, none, .lenStr (.t 19)⟩, ⟨some 21, none, .bin .lss (.t 18) (.t 20)⟩, ⟨some 2, none, .mov (.t 21)⟩])
  .ret)))), 22, [.tmp 2]⟩
theorem Tryd.ek90 : KnownE Tryd.prog 90 Tryd.ec90 := ⟨Tryd.f90, _, Tryd.func90, rfl, by kernel_rfl, rfl, by kernel_rfl, by kernel_rfl⟩

/-- strings.genSplit -/
def Tryd.ec91 : EFn := ⟨(.seq (.ops [⟨some 8, none, .mov (.v (.slice none 0 0))⟩])
  (.seq (.seq (.ops [⟨some 12, none, .mov (.t 3)⟩, ⟨some 13, none, .bin .eql (.t 12) (.v (.int .i64 0))⟩])
  (.cond (.t 13) (.seq (.ops [⟨some 8, none, .mov (.v (.slice none 0 0))⟩])
   .ret) .skip))
  (.seq (.seq (.ops [⟨some 14, none, .mov (.t 1)⟩, ⟨some 15, none, .bin .eql (.t 14) (.v (.string ⟨#[]⟩))⟩])
  (.cond (.t 15) (.seq (.ops [⟨some 16, none, .mov (.t 0)⟩, ⟨some 17, none, .mov (.t 3)⟩, ⟨some 18, none, .call 107 [(.t 16), (.t 17)]⟩, ⟨some 8, none, .mov (.t 18)⟩])
   .ret) .skip))
  (.seq (.seq (.ops [⟨some 19, none, .mov (.t 3)⟩, ⟨some 20, none, .bin .lss (.t 19) (.v (.int .i64 0))⟩])
  (.cond (.t 20) (.ops [⟨some 21, none, .mov (.t 0)⟩, ⟨some 22, none, .mov (.t 1)⟩, ⟨some 23, none, .call 108 [(.t 21), (.t 22)]⟩, ⟨some 24, none, .bin .add (.t 23) (.v (.int .i64 1))⟩, ⟨some 3, none, .mov (.t 24)⟩]) .skip))
  (.seq (.ops [⟨some 25, none, .mov (.t 3)⟩, ⟨some 26, none, .mov (.t 0)⟩, ⟨some 27, none, .lenStr (.t 26)⟩, ⟨some 28, none, .bin .add (.t 27) (.v (.int .i64 1))⟩, ⟨some 29, none, .mnx false [(.t 25), (.t 28)]⟩, ⟨some 3, none, .mov (.t 29)⟩])
  (.seq (.ops [⟨some 30, none, .mov (.t 3)⟩, ⟨some 31, none, .mkS 35 9 1 16 (.string ⟨#[]⟩) (.t 30) (.t 30)⟩, ⟨some 9, none, .mov (.t 31)⟩])
  (.seq (.ops [⟨some 32, none, .mov (.t 3)⟩, ⟨some 33, none, .bin .sub (.t 32) (.v (.int .i64 1))⟩, ⟨some 3, none, .mov (.t 33)⟩])
  (.seq (.ops [⟨some 10, none, .mov (.v (.int .i64 0))⟩])
  (.seq (.block 0 (.loop [0, 1, 2, 3, 9, 10] (.seq (.seq (.ops [⟨some 34, none, .mov (.t 10)⟩, ⟨some 35, none, .mov (.t 3)⟩, ⟨some 36, none, .bin .lss (.t 34) (.t 35)⟩])
    (.cond (.t 36) .skip (.exit 0)))
    (.block 1 (.seq (.ops [⟨some 37, none, .mov (.t 0)⟩, ⟨some 38, none, .mov (.t 1)⟩, ⟨some 39, none, .call 109 [(.t 37), (.t 38)]⟩, ⟨some 11, none, .mov (.t 39)⟩])
     (.seq (.seq (.ops [⟨some 40, none, .mov (.t 11)⟩, ⟨some 41, none, .bin .lss (.t 40) (.v (.int .i64 0))⟩])
     (.cond (.t 41) (.exit 0) .skip))
     (.seq (.ops [⟨some 42, none, .mov (.t 9)⟩, ⟨some 43, none, .mov (.t 10)⟩, ⟨some 44, none, .mov (.t 0)⟩, ⟨some 45, none, .mov (.t 11)⟩, ⟨some 46, none, .mov (.t 2)⟩, ⟨some 47, none, .bin .add (.t 45) (.t 46)⟩, ⟨some 48, none, .slStr (.t 44) none (some (.t 47))⟩, ⟨some 49, none, .ixS 1 (.t 42) (.t 43)⟩, ⟨none, none, .st 1 (.t 49) (.t 48)⟩])
     (.seq (.ops [⟨some 50, none, .mov (.t 0)⟩, ⟨some 51, none, .mov (.t 11)⟩, ⟨some 52, none, .mov (.t 1)⟩, ⟨some 53, none, .lenStr (.t 52)⟩, ⟨some 54, none, .bin .add (.t 51) (.t 53)⟩, ⟨some 55, none, .slStr (.t 50) (some (.t 54)) none⟩, ⟨some 0, none, .mov (.t 55)⟩])
     (.ops [⟨some 56, none, .mov (.t 10)⟩, ⟨some 57, none, .bin .add (.t 56) (.v (.int .i64 1))⟩, ⟨some 10, none, .mov (.t 57)⟩])))))))))
  (.seq (.ops [⟨some 58, none, .mov (.t 9)⟩, ⟨some 59, none, .mov (.t 10)⟩, ⟨some 60, none, .mov (.t 0)⟩, ⟨some 61, none, .ixS 1 (.t 58) (.t 59)⟩, ⟨none, none, .st 1 (.t 61) (.t 60)⟩])
  (.seq (.ops [⟨some 62, none, .mov (.t 9)⟩, ⟨some 63, none, .mov (.t 10)⟩, ⟨some 64, none, .bin .add (.t 63) (.v (.int .i64 1))⟩, ⟨some 65, none, .slS 1 (.t 62) none (some (.t 64))⟩, ⟨some 8, none, .mov (.t 65)⟩])
  .ret))))))))))), 66, [.tmp 8]⟩
theorem Tryd.ek91 : KnownE Tryd.prog 91 Tryd.ec91 := ⟨Tryd.f91, _, Tryd.func91, rfl, by kernel_rfl, rfl, by kernel_rfl, by kernel_rfl⟩

/-- internal/stringslite.HasPrefix -/
def Tryd.ec93 : EFn := ⟨(.seq (.ops [⟨some 4, none, .mov (.v (.bool false))⟩])
  (.seq (.ops [⟨some 5, none, .mov (.t 0)⟩, ⟨some 6, none, .lenStr (.t 5)⟩, ⟨some 7, none, .mov (.t 1)⟩, ⟨some 8, none, .lenStr (.t 7)⟩, ⟨some 9, none, .bin .geq (.t 6) (.t 8)⟩, ⟨some 10, none, .mov (.t 9)⟩, ⟨some 11, (some (10, true)), .mov (.t 0)⟩, ⟨some 12, (some (10, true)), .mov (.t 1)⟩, ⟨some 13, (some (10, true)), .lenStr (.t 12)⟩, ⟨some 14, (some (10, true)), .slStr (.t 11) none (some (.t 13))⟩, ⟨some 15, (some (10, true)), .mov (.t 1)⟩, ⟨some 16, (some (10, true)), .bin .eql (.t 14) (.t 15)⟩, ⟨some 17, none, .pick (.t 10) (.t 16) (.v (.bool false))⟩, ⟨some 4, none, .mov (.t 17)⟩])
  .ret)), 18, [.tmp 4]⟩
theorem Tryd.ek93 : KnownE Tryd.prog 93 Tryd.ec93 := ⟨Tryd.f93, _, Tryd.func93, rfl, by kernel_rfl, rfl, by kernel_rfl, by kernel_rfl⟩

/-- internal/bytealg.CompareString -/
def Tryd.ec94 : EFn := ⟨(.seq (.ops [⟨some 4, none, .mov (.v (.int .i64 0))⟩])
  (.seq (.ops [⟨some 5, none, .mov (.t 0)⟩, ⟨some 6, none, .mov (.t 1)⟩, ⟨some 7, none, .more (.xc 2 [(.t 5), (.t 6)])⟩, ⟨some 4, none, .mov (.t 7)⟩])
  .ret)), 8, [.tmp 4]⟩
theorem Tryd.ek94 : KnownE Tryd.prog 94 Tryd.ec94 := ⟨Tryd.f94, _, Tryd.func94, rfl, by kernel_rfl, rfl, by kernel_rfl, by kernel_rfl⟩

/-- slices.IndexFunc[[]string,string] -/
def Tryd.ec105 : EFn := ⟨(.seq (.ops [⟨some 4, none, .mov (.v (.int .i64 0))⟩])
  (.seq (.seq (.ops [⟨some 6, none, .mov (.t 0)⟩, ⟨some 7, none, .lenS (.t 6)⟩, ⟨some 8, none, .mov (.v (.int .i64 0))⟩])
  (.block 0 (.loop [0, 1, 7, 8] (.seq (.ops [⟨some 9, none, .bin .lss (.t 8) (.t 7)⟩])
    (.seq (.cond (.t 9) .skip (.exit 0))
    (.seq (.block 1 (.seq (.ops [⟨some 10, none, .mov (.t 8)⟩, ⟨some 5, none, .mov (.t 10)⟩])
     (.seq (.ops [⟨some 11, none, .mov (.t 1)⟩, ⟨some 12, none, .mov (.t 0)⟩, ⟨some 13, none, .mov (.t 5)⟩, ⟨some 14, none, .ixS 1 (.t 12) (.t 13)⟩, ⟨some 15, none, .ld (.t 14)⟩, ⟨some 16, none, .callv (.t 11) [(.t 15)]⟩])
     (.cond (.t 16) (.seq (.ops [⟨some 17, none, .mov (.t 5)⟩, ⟨some 4, none, .mov (.t 17)⟩])
      .ret) .skip))))
    (.ops [⟨some 18, none, .bin .add (.t 8) (.v (.int .i64 1))⟩, ⟨some 8, none, .mov (.t 18)⟩])))))))
  (.seq (.ops [⟨some 4, none, .mov (.v (.int .i64 (-1)))⟩])
  .ret))), 19, [.tmp 4]⟩
theorem Tryd.ek105 : KnownE Tryd.prog 105 Tryd.ec105 := ⟨Tryd.f105, _, Tryd.func105, rfl, by kernel_rfl, rfl, by kernel_rfl, by kernel_rfl⟩

/-- redwax/paths.may -/
def Tryd.ec106 : EFn := ⟨(.seq (.ops [⟨some 2, none, .mov (.v (.bool false))⟩])
  (.seq (.ops [⟨some 3, none, .mov (.t 0)⟩, ⟨some 4, none, .bin .geq (.t 3) (.v (.int .i32 97))⟩, ⟨some 5, none, .mov (.t 4)⟩, ⟨some 6, (some (5, true)), .mov (.t 0)⟩, ⟨some 7, (some (5, true)), .bin .leq (.t 6) (.v (.int .i32 122))⟩, ⟨some 8, none, .pick (.t 5) (.t 7) (.v (.bool false))⟩, ⟨some 9, none, .mov (.t 8)⟩, ⟨some 10, (some (9, false)), .mov (.t 0)⟩, ⟨some 11, (some (9, false)), .bin .geq (.t 10) (.v (.int .i32 65))⟩, ⟨some 12, (some (9, false)), .mov (.t 11)⟩, ⟨some 13, (some (12, true)), .mov (.t 0)⟩, ⟨some 14, (some (12, true)), .bin .leq (.t 13) (.v (.int .i32 90))⟩, ⟨some 15, (some (9, false)), .pick (.t 12) (.t 14) (.v (.bool false))⟩, ⟨some 16, none, .pick (.t 9) (.v (.bool true)) (.t 15)⟩, ⟨some 17, none, .mov (.t 16)⟩, ⟨some 18, (some (17, false)), .mov (.t 0)⟩, ⟨some 19, (some (17, false)), .bin .geq (.t 18) (.v (.int .i32 48))⟩, ⟨some 20, (some (17, false)), .mov (.t 19)⟩, ⟨some 21, (some (20, true)), .mov (.t 0)⟩, ⟨some 22, (some (20, true)), .bin .leq (.t 21) (.v (.int .i32 57))⟩, ⟨some 23, (some (17, false)), .pick (.t 20) (.t 22) (.v (.bool false))⟩, ⟨some 24, none, .pick (.t 17) (.v (.bool true)) (.t 23)⟩, ⟨some 25, none, .mov (.t 24)⟩, ⟨some 26, (some (25, false)), .mov (.t 0)⟩, ⟨some 27, (some (25, false)), .bin .eql (.t 26) (.v (.int .i32 95))⟩, ⟨some 28, none, .pick (.t 25) (.v (.bool true)) (.t 27)⟩, ⟨some 29, none, .mov (.t 28)⟩, ⟨some 30, (some (29, false)), .mov (.t 0)⟩, ⟨some 31, (some (29, false)), .bin .eql (.t 30) (.v (.int .i32 45))⟩, ⟨some 32, none, .pick (.t 29) (.v (.bool true)) (.t 31)⟩, ⟨some 33, none, .mov (.t 32)⟩, ⟨some 34, (some (33, false)), .mov (.t 0)⟩, ⟨some 35, (some (33, false)), .bin .eql (.t 34) (.v (.int .i32 46))⟩, ⟨some 36, none, .pick (.t 33) (.v (.bool true)) (.t 35)⟩, ⟨some 2, none, .mov (.t 36)⟩])
  .ret)), 37, [.tmp 2]⟩
theorem Tryd.ek106 : KnownE Tryd.prog 106 Tryd.ec106 := ⟨Tryd.f106, _, Tryd.func106, rfl, by kernel_rfl, rfl, by kernel_rfl, by kernel_rfl⟩

/-- strings.explode -/
def Tryd.ec107 : EFn := ⟨(.seq (.ops [⟨some 4, none, .mov (.v (.slice none 0 0))⟩])
  (.seq (.ops [⟨some 10, none, .mov (.t 0)⟩, ⟨some 11, none, .call 135 [(.t 10)]⟩, ⟨some 5, none, .mov (.t 11)⟩])
  (.seq (.seq (.ops [⟨some 12, none, .mov (.t 1)⟩, ⟨some 13, none, .bin .lss (.t 12) (.v (.int .i64 0))⟩, ⟨some 14, none, .mov (.t 13)⟩, ⟨some 15, (some (14, false)), .mov (.t 1)⟩, ⟨some 16, (some (14, false)), .mov (.t 5)⟩, ⟨some 17, (some (14, false)), .bin .gtr (.t 15) (.t 16)⟩, ⟨some 18, none, .pick (.t 14) (.v (.bool true)) (.t 17)⟩])
  (.cond (.t 18) (.ops [⟨some 19, none, .mov (.t 5)⟩, ⟨some 1, none, .mov (.t 19)⟩]) .skip))
  (.seq (.ops [⟨some 20, none, .mov (.t 1)⟩, ⟨some 21, none, .mkS 35 9 1 16 (.string ⟨#[]⟩) (.t 20) (.t 20)⟩, ⟨some 6, none, .mov (.t 21)⟩])
  (.seq (.seq (.ops [⟨some 7, none, .mov (.v (.int .i64 0))⟩])
  (.block 0 (.loop [0, 1, 6, 7] (.seq (.seq (.ops [⟨some 22, none, .mov (.t 7)⟩, ⟨some 23, none, .mov (.t 1)⟩, ⟨some 24, none, .bin .sub (.t 23) (.v (.int .i64 1))⟩, ⟨some 25, none, .bin .lss (.t 22) (.t 24)⟩])
    (.cond (.t 25) .skip (.exit 0)))
    (.seq (.block 1 (.seq (.ops [⟨some 29, none, .mov (.t 0)⟩, ⟨some 30, none, .call 136 [(.t 29)]⟩, ⟨some 28, none, .mov (.t 30)⟩, ⟨some 31, none, .ext 0 (.t 28)⟩, ⟨some 32, none, .ext 1 (.t 28)⟩, ⟨some 8, none, .mov (.t 31)⟩, ⟨some 9, none, .mov (.t 32)⟩])
     (.seq (.ops [⟨some 33, none, .mov (.t 6)⟩, ⟨some 34, none, .mov (.t 7)⟩, ⟨some 35, none, .mov (.t 0)⟩, ⟨some 36, none, .mov (.t 9)⟩, ⟨some 37, none, .slStr (.t 35) none (some (.t 36))⟩, ⟨some 38, none, .ixS 1 (.t 33) (.t 34)⟩, ⟨none, none, .st 1 (.t 38) (.t 37)⟩])
     (.ops [⟨some 39, none, .mov (.t 0)⟩, ⟨some 40, none, .mov (.t 9)⟩, ⟨some 41, none, .slStr (.t 39) (some (.t 40)) none⟩, ⟨some 0, none, .mov (.t 41)⟩]))))
    (.ops [⟨some 26, none, .mov (.t 7)⟩, ⟨some 27, none, .bin .add (.t 26) (.v (.int .i64 1))⟩, ⟨some 7, none, .mov (.t 27)⟩]))))))
  (.seq (.seq (.ops [⟨some 42, none, .mov (.t 1)⟩, ⟨some 43, none, .bin .gtr (.t 42) (.v (.int .i64 0))⟩])
  (.cond (.t 43) (.ops [⟨some 44, none, .mov (.t 6)⟩, ⟨some 45, none, .mov (.t 1)⟩, ⟨some 46, none, .bin .sub (.t 45) (.v (.int .i64 1))⟩, ⟨some 47, none, .mov (.t 0)⟩, ⟨some 48, none, .ixS 1 (.t 44) (.t 46)⟩, ⟨none, none, .st 1 (.t 48) (.t 47)⟩]) .skip))
  (.seq (.ops [⟨some 49, none, .mov (.t 6)⟩, ⟨some 4, none, .mov (.t 49)⟩])
  .ret))))))), 50, [.tmp 4]⟩
theorem Tryd.ek107 : KnownE Tryd.prog 107 Tryd.ec107 := ⟨Tryd.f107, _, Tryd.func107, rfl, by kernel_rfl, rfl, by kernel_rfl, by kernel_rfl⟩

/-- strings.Count -/
def Tryd.ec108 : EFn := ⟨(.seq (.ops [⟨some 4, none, .mov (.v (.int .i64 0))⟩])
  (.seq (.seq (.ops [⟨some 7, none, .mov (.t 1)⟩, ⟨some 8, none, .lenStr (.t 7)⟩, ⟨some 9, none, .bin .eql (.t 8) (.v (.int .i64 0))⟩])
  (.cond (.t 9) (.seq (.ops [⟨some 10, none, .mov (.t 0)⟩, ⟨some 11, none, .call 135 [(.t 10)]⟩, ⟨some 12, none, .bin .add (.t 11) (.v (.int .i64 1))⟩, ⟨some 4, none, .mov (.t 12)⟩])
   .ret) .skip))
  (.seq (.seq (.ops [⟨some 13, none, .mov (.t 1)⟩, ⟨some 14, none, .lenStr (.t 13)⟩, ⟨some 15, none, .bin .eql (.t 14) (.v (.int .i64 1))⟩])
  (.cond (.t 15) (.seq (.ops [⟨some 16, none, .mov (.t 0)⟩, ⟨some 17, none, .mov (.t 1)⟩, ⟨some 18, none, .ixStr (.t 17) (.v (.int .i64 0))⟩, ⟨some 19, none, .more (.xc 1 [(.t 16), (.t 18)])⟩, ⟨some 4, none, .mov (.t 19)⟩])
   .ret) .skip))
  (.seq (.ops [⟨some 5, none, .mov (.v (.int .i64 0))⟩])
  (.block 0 (.loop [0, 1, 5] (.block 1 (.seq (.ops [⟨some 20, none, .mov (.t 0)⟩, ⟨some 21, none, .mov (.t 1)⟩, ⟨some 22, none, .call 109 [(.t 20), (.t 21)]⟩, ⟨some 6, none, .mov (.t 22)⟩])
     (.seq (.seq (.ops [⟨some 23, none, .mov (.t 6)⟩, ⟨some 24, none, .bin .eql (.t 23) (.v (.int .i64 (-1)))⟩])
     (.cond (.t 24) (.seq (.ops [⟨some 25, none, .mov (.t 5)⟩, ⟨some 4, none, .mov (.t 25)⟩])
      .ret) .skip))
     (.seq (.ops [⟨some 26, none, .mov (.t 5)⟩, ⟨some 27, none, .bin .add (.t 26) (.v (.int .i64 1))⟩, ⟨some 5, none, .mov (.t 27)⟩])
     (.ops [⟨some 28, none, .mov (.t 0)⟩, ⟨some 29, none, .mov (.t 6)⟩, ⟨some 30, none, .mov (.t 1)⟩, ⟨some 31, none, .lenStr (.t 30)⟩, ⟨some 32, none, .bin .add (.t 29) (.t 31)⟩, ⟨some 33, none, .slStr (.t 28) (some (.t 32)) none⟩, ⟨some 0, none, .mov (.t 33)⟩]))))))))))), 34, [.tmp 4]⟩
theorem Tryd.ek108 : KnownE Tryd.prog 108 Tryd.ec108 := ⟨Tryd.f108, _, Tryd.func108, rfl, by kernel_rfl, rfl, by kernel_rfl, by kernel_rfl⟩

/-- strings.Index -/
def Tryd.ec109 : EFn := ⟨(.seq (.ops [⟨some 4, none, .mov (.v (.int .i64 0))⟩])
  (.seq (.ops [⟨some 5, none, .mov (.t 0)⟩, ⟨some 6, none, .mov (.t 1)⟩, ⟨some 7, none, .call 122 [(.t 5), (.t 6)]⟩, ⟨some 4, none, .mov (.t 7)⟩])
  .ret)), 8, [.tmp 4]⟩
theorem Tryd.ek109 : KnownE Tryd.prog 109 Tryd.ec109 := ⟨Tryd.f109, _, Tryd.func109, rfl, by kernel_rfl, rfl, by kernel_rfl, by kernel_rfl⟩

/-- internal/stringslite.Index -/
def Tryd.ec122 : EFn := ⟨(.seq (.ops [⟨some 4, none, .mov (.v (.int .i64 0))⟩])
  (.seq (.ops [⟨some 14, none, .mov (.t 1)⟩, ⟨some 15, none, .lenStr (.t 14)⟩, ⟨some 5, none, .mov (.t 15)⟩])
  (.seq (.block 0 (.seq (.ops [⟨some 17, none, .mov (.t 5)⟩, ⟨some 18, none, .bin .eql (.t 17) (.v (.int .i64 0))⟩, ⟨some 19, none, .mov (.t 18)⟩, ⟨some 20, (some (19, false)), .mov (.t 1)⟩, ⟨some 21, (some (19, false)), .mov (.t 0)⟩, ⟨some 22, (some (19, false)), .bin .eql (.t 20) (.t 21)⟩, ⟨some 23, none, .pick (.t 19) (.v (.bool true)) (.t 22)⟩, ⟨some 16, none, .mov (.t 23)⟩])
   (.cond (.t 16) (.seq (.ops [⟨some 4, none, .mov (.v (.int .i64 0))⟩])
    .ret) (.seq (.ops [⟨some 25, none, .mov (.t 5)⟩, ⟨some 26, none, .bin .eql (.t 25) (.v (.int .i64 1))⟩, ⟨some 24, none, .mov (.t 26)⟩])
    (.cond (.t 24) (.seq (.ops [⟨some 27, none, .mov (.t 0)⟩, ⟨some 28, none, .mov (.t 1)⟩, ⟨some 29, none, .ixStr (.t 28) (.v (.int .i64 0))⟩, ⟨some 30, none, .call 144 [(.t 27), (.t 29)]⟩, ⟨some 4, none, .mov (.t 30)⟩])
     .ret) (.seq (.ops [⟨some 32, none, .mov (.t 5)⟩, ⟨some 33, none, .mov (.t 0)⟩, ⟨some 34, none, .lenStr (.t 33)⟩, ⟨some 35, none, .bin .geq (.t 32) (.t 34)⟩, ⟨some 31, none, .mov (.t 35)⟩])
     (.cond (.t 31) (.seq (.ops [⟨some 4, none, .mov (.v (.int .i64 (-1)))⟩])
      .ret) (.seq (.ops [⟨some 37, none, .mov (.t 5)⟩, ⟨some 38, none, .ld (.v (.pointer (some ⟨0, 0, none⟩)))⟩, ⟨some 39, none, .bin .leq (.t 37) (.t 38)⟩, ⟨some 40, none, .mov (.t 39)⟩, ⟨some 41, (some (40, true)), .mov (.t 0)⟩, ⟨some 42, (some (40, true)), .lenStr (.t 41)⟩, ⟨some 43, (some (40, true)), .bin .leq (.t 42) (.v (.int .i64 64))⟩, ⟨some 44, none, .pick (.t 40) (.t 43) (.v (.bool false))⟩, ⟨some 36, none, .mov (.t 44)⟩])
      (.cond (.t 36) (.seq (.ops [⟨some 45, none, .mov (.t 0)⟩, ⟨some 46, none, .mov (.t 1)⟩, ⟨some 47, none, .more .other⟩, ⟨some 4, none, .mov (.t 47)⟩])
       .ret) .skip)))))))))
  (.seq (.ops [⟨some 48, none, .mov (.t 1)⟩, ⟨some 49, none, .ixStr (.t 48) (.v (.int .i64 0))⟩, ⟨some 6, none, .mov (.t 49)⟩])
  (.seq (.ops [⟨some 50, none, .mov (.t 1)⟩, ⟨some 51, none, .ixStr (.t 50) (.v (.int .i64 1))⟩, ⟨some 7, none, .mov (.t 51)⟩])
  (.seq (.ops [⟨some 8, none, .mov (.v (.int .i64 0))⟩])
  (.seq (.ops [⟨some 52, none, .mov (.t 0)⟩, ⟨some 53, none, .lenStr (.t 52)⟩, ⟨some 54, none, .mov (.t 5)⟩, ⟨some 55, none, .bin .sub (.t 53) (.t 54)⟩, ⟨some 56, none, .bin .add (.t 55) (.v (.int .i64 1))⟩, ⟨some 9, none, .mov (.t 56)⟩])
  (.seq (.ops [⟨some 10, none, .mov (.v (.int .i64 0))⟩])
  (.seq (.block 1 (.loop [0, 1, 5, 6, 7, 8, 9, 10] (.seq (.seq (.ops [⟨some 57, none, .mov (.t 8)⟩, ⟨some 58, none, .mov (.t 9)⟩, ⟨some 59, none, .bin .lss (.t 57) (.t 58)⟩])
    (.cond (.t 59) .skip (.exit 1)))
    (.block 2 (.seq (.seq (.ops [⟨some 60, none, .mov (.t 0)⟩, ⟨some 61, none, .mov (.t 8)⟩, ⟨some 62, none, .ixStr (.t 60) (.t 61)⟩, ⟨some 63, none, .mov (.t 6)⟩, ⟨some 64, none, .bin .neq (.t 62) (.t 63)⟩])
     (.cond (.t 64) (.seq (.ops [⟨some 65, none, .mov (.t 0)⟩, ⟨some 66, none, .mov (.t 8)⟩, ⟨some 67, none, .bin .add (.t 66) (.v (.int .i64 1))⟩, ⟨some 68, none, .mov (.t 9)⟩, ⟨some 69, none, .slStr (.t 65) (some (.t 67)) (some (.t 68))⟩, ⟨some 70, none, .mov (.t 6)⟩, ⟨some 71, none, .call 144 [(.t 69), (.t 70)]⟩, ⟨some 11, none, .mov (.t 71)⟩])
      (.seq (.seq (.ops [⟨some 72, none, .mov (.t 11)⟩, ⟨some 73, none, .bin .lss (.t 72) (.v (.int .i64 0))⟩])
      (.cond (.t 73) (.seq (.ops [⟨some 4, none, .mov (.v (.int .i64 (-1)))⟩])
       .ret) .skip))
      (.ops [⟨some 74, none, .mov (.t 8)⟩, ⟨some 75, none, .mov (.t 11)⟩, ⟨some 76, none, .bin .add (.t 75) (.v (.int .i64 1))⟩, ⟨some 77, none, .bin .add (.t 74) (.t 76)⟩, ⟨some 8, none, .mov (.t 77)⟩]))) .skip))
     (.seq (.seq (.ops [⟨some 78, none, .mov (.t 0)⟩, ⟨some 79, none, .mov (.t 8)⟩, ⟨some 80, none, .bin .add (.t 79) (.v (.int .i64 1))⟩, ⟨some 81, none, .ixStr (.t 78) (.t 80)⟩, ⟨some 82, none, .mov (.t 7)⟩, ⟨some 83, none, .bin .eql (.t 81) (.t 82)⟩, ⟨some 84, none, .mov (.t 83)⟩, ⟨some 85, (some (84, true)), .mov (.t 0)⟩, ⟨some 86, (some (84, true)), .mov (.t 8)⟩, ⟨some 87, (some (84, true)), .mov (.t 8)⟩, ⟨some 88, (some (84, true)), .mov (.t 5)⟩, ⟨some 89, (some (84, true)), .bin .add (.t 87) (.t 88)⟩, ⟨some 90, (some (84, true)), .slStr (.t 85) (some (.t 86)) (some (.t 89))⟩, ⟨some 91, (some (84, true)), .mov (.t 1)⟩, ⟨some 92, (some (84, true)), .bin .eql (.t 90) (.t 91)⟩, ⟨some 93, none, .pick (.t 84) (.t 92) (.v (.bool false))⟩])
     (.cond (.t 93) (.seq (.ops [⟨some 94, none, .mov (.t 8)⟩, ⟨some 4, none, .mov (.t 94)⟩])
      .ret) .skip))
     (.seq (.ops [⟨some 95, none, .mov (.t 8)⟩, ⟨some 96, none, .bin .add (.t 95) (.v (.int .i64 1))⟩, ⟨some 8, none, .mov (.t 96)⟩])
     (.seq (.ops [⟨some 97, none, .mov (.t 10)⟩, ⟨some 98, none, .bin .add (.t 97) (.v (.int .i64 1))⟩, ⟨some 10, none, .mov (.t 98)⟩])
     (.seq (.ops [⟨some 99, none, .mov (.t 5)⟩, ⟨some 100, none, .ld (.v (.pointer (some ⟨0, 0, none⟩)))⟩, ⟨some 101, none, .bin .leq (.t 99) (.t 100)⟩, ⟨some 102, none, .mov (.t 101)⟩, ⟨some 103, (some (102, true)), .mov (.t 10)⟩, ⟨some 104, (some (102, true)), .mov (.t 8)⟩, ⟨some 105, (some (102, true)), .call 146 [(.t 104)]⟩, ⟨some 106, (some (102, true)), .bin .gtr (.t 103) (.t 105)⟩, ⟨some 107, none, .pick (.t 102) (.t 106) (.v (.bool false))⟩])
     (.cond (.t 107) (.seq (.ops [⟨some 108, none, .mov (.t 0)⟩, ⟨some 109, none, .mov (.t 8)⟩, ⟨some 110, none, .slStr (.t 108) (some (.t 109)) none⟩, ⟨some 111, none, .mov (.t 1)⟩, ⟨some 112, none, .more .other⟩, ⟨some 12, none, .mov (.t 112)⟩])
      (.seq (.seq (.ops [⟨some 113, none, .mov (.t 12)⟩, ⟨some 114, none, .bin .geq (.t 113) (.v (.int .i64 0))⟩])
      (.cond (.t 114) (.seq (.ops [⟨some 115, none, .mov (.t 12)⟩, ⟨some 116, none, .mov (.t 8)⟩, ⟨some 117, none, .bin .add (.t 115) (.t 116)⟩, ⟨some 4, none, .mov (.t 117)⟩])
       .ret) .skip))
      (.seq (.ops [⟨some 4, none, .mov (.v (.int .i64 (-1)))⟩])
      .ret))) (.seq (.ops [⟨some 118, none, .mov (.t 5)⟩, ⟨some 119, none, .ld (.v (.pointer (some ⟨0, 0, none⟩)))⟩, ⟨some 120, none, .bin .gtr (.t 118) (.t 119)⟩, ⟨some 121, none, .mov (.t 120)⟩, ⟨some 122, (some (121, true)), .mov (.t 10)⟩, ⟨some 123, (some (121, true)), .mov (.t 8)⟩, ⟨some 124, (some (121, true)), .bin .shr (.t 123) (.v (.int .u64 4))⟩, ⟨some 125, (some (121, true)), .bin .add (.v (.int .i64 4)) (.t 124)⟩, ⟨some 126, (some (121, true)), .bin .geq (.t 122) (.t 125)⟩, ⟨some 127, none, .pick (.t 121) (.t 126) (.v (.bool false))⟩, ⟨some 128, none, .mov (.t 127)⟩, ⟨some 129, (some (128, true)), .mov (.t 8)⟩, ⟨some 130, (some (128, true)), .mov (.t 9)⟩, ⟨some 131, (some (128, true)), .bin .lss (.t 129) (.t 130)⟩, ⟨some 132, none, .pick (.t 128) (.t 131) (.v (.bool false))⟩])
      (.cond (.t 132) (.seq (.ops [⟨some 133, none, .mov (.t 0)⟩, ⟨some 134, none, .mov (.t 8)⟩, ⟨some 135, none, .slStr (.t 133) (some (.t 134)) none⟩, ⟨some 136, none, .mov (.t 1)⟩, ⟨some 137, none, .call 147 [(.t 135), (.t 136)]⟩, ⟨some 13, none, .mov (.t 137)⟩])
       (.seq (.seq (.ops [⟨some 138, none, .mov (.t 13)⟩, ⟨some 139, none, .bin .lss (.t 138) (.v (.int .i64 0))⟩])
       (.cond (.t 139) (.seq (.ops [⟨some 4, none, .mov (.v (.int .i64 (-1)))⟩])
        .ret) .skip))
       (.seq (.ops [⟨some 140, none, .mov (.t 8)⟩, ⟨some 141, none, .mov (.t 13)⟩, ⟨some 142, none, .bin .add (.t 140) (.t 141)⟩, ⟨some 4, none, .mov (.t 142)⟩])
       .ret))) .skip))))))))))))
  (.seq (.ops [⟨some 4, none, .mov (.v (.int .i64 (-1)))⟩])
  .ret)))))))))), 143, [.tmp 4]⟩
theorem Tryd.ek122 : KnownE Tryd.prog 122 Tryd.ec122 := ⟨Tryd.f122, _, Tryd.func122, rfl, by kernel_rfl, rfl, by kernel_rfl, by kernel_rfl⟩

/-- unicode/utf8.RuneCountInString -/
def Tryd.ec135 : EFn := ⟨(.seq (.ops [⟨some 2, none, .mov (.v (.int .i64 0))⟩])
  (.seq (.seq (.ops [⟨some 3, none, .mov (.t 0)⟩, ⟨some 4, none, .more (.rngS (.t 3))⟩])
  (.block 0 (.loop [2, 4] (.seq (.ops [⟨some 5, none, .more (.nxtS (.t 4))⟩, ⟨some 6, none, .ext 0 (.t 5)⟩])
    (.seq (.cond (.t 6) .skip (.exit 0))
    (.block 1 (.ops [⟨some 7, none, .mov (.t 2)⟩, ⟨some 8, none, .bin .add (.t 7) (.v (.int .i64 1))⟩, ⟨some 2, none, .mov (.t 8)⟩])))))))
  (.seq (.ops [⟨some 9, none, .mov (.t 2)⟩, ⟨some 2, none, .mov (.t 9)⟩])
  .ret))), 10, [.tmp 2]⟩
theorem Tryd.ek135 : KnownE Tryd.prog 135 Tryd.ec135 := ⟨Tryd.f135, _, Tryd.func135, rfl, by kernel_rfl, rfl, by kernel_rfl, by kernel_rfl⟩

/-- unicode/utf8.DecodeRuneInString -/
def Tryd.ec136 : EFn := ⟨(.seq (.ops [⟨some 2, none, .mov (.v (.int .i32 0))⟩, ⟨some 3, none, .mov (.v (.int .i64 0))⟩])
  (.seq (.seq (.ops [⟨some 4, none, .mov (.t 0)⟩, ⟨some 5, none, .bin .neq (.t 4) (.v (.string ⟨#[]⟩))⟩, ⟨some 6, none, .mov (.t 5)⟩, ⟨some 7, (some (6, true)), .mov (.t 0)⟩, ⟨some 8, (some (6, true)), .ixStr (.t 7) (.v (.int .i64 0))⟩, ⟨some 9, (some (6, true)), .bin .lss (.t 8) (.v (.int .u8 128))⟩, ⟨some 10, none, .pick (.t 6) (.t 9) (.v (.bool false))⟩])
  (.cond (.t 10) (.seq (.ops [⟨some 11, none, .mov (.t 0)⟩, ⟨some 12, none, .ixStr (.t 11) (.v (.int .i64 0))⟩, ⟨some 13, none, .cvt .i32 (.t 12)⟩, ⟨some 2, none, .mov (.t 13)⟩, ⟨some 3, none, .mov (.v (.int .i64 1))⟩])
   .ret) (.ops [⟨some 15, none, .mov (.t 0)⟩, ⟨some 16, none, .call 154 [(.t 15)]⟩, ⟨some 14, none, .mov (.t 16)⟩, ⟨some 17, none, .ext 0 (.t 14)⟩, ⟨some 18, none, .ext 1 (.t 14)⟩, ⟨some 2, none, .mov (.t 17)⟩, ⟨some 3, none, .mov (.t 18)⟩])))
  .ret)), 19, [.tmp 2, .tmp 3]⟩
theorem Tryd.ek136 : KnownE Tryd.prog 136 Tryd.ec136 := ⟨Tryd.f136, _, Tryd.func136, rfl, by kernel_rfl, rfl, by kernel_rfl, by kernel_rfl⟩

/-- internal/stringslite.IndexByte -/
def Tryd.ec144 : EFn := ⟨(.seq (.ops [⟨some 4, none, .mov (.v (.int .i64 0))⟩])
  (.seq (.ops [⟨some 5, none, .mov (.t 0)⟩, ⟨some 6, none, .mov (.t 1)⟩, ⟨some 7, none, .more (.xc 0 [(.t 5), (.t 6)])⟩, ⟨some 4, none, .mov (.t 7)⟩])
  .ret)), 8, [.tmp 4]⟩
theorem Tryd.ek144 : KnownE Tryd.prog 144 Tryd.ec144 := ⟨Tryd.f144, _, Tryd.func144, rfl, by kernel_rfl, rfl, by kernel_rfl, by kernel_rfl⟩

/-- internal/bytealg.Cutover -/
def Tryd.ec146 : EFn := ⟨(.seq (.ops [⟨some 2, none, .mov (.v (.int .i64 0))⟩])
  (.seq (.ops [⟨some 3, none, .mov (.t 0)⟩, ⟨some 4, none, .bin .add (.t 3) (.v (.int .i64 16))⟩, ⟨some 5, none, .bin .quo (.t 4) (.v (.int .i64 8))⟩, ⟨some 2, none, .mov (.t 5)⟩])
  .ret)), 6, [.tmp 2]⟩
theorem Tryd.ek146 : KnownE Tryd.prog 146 Tryd.ec146 := ⟨Tryd.f146, _, Tryd.func146, rfl, by kernel_rfl, rfl, by kernel_rfl, by kernel_rfl⟩

/-- internal/bytealg.IndexRabinKarp[string] -/
def Tryd.ec147 : EFn := ⟨(.seq (.ops [⟨some 4, none, .mov (.v (.int .i64 0))⟩])
  (.seq (.ops [⟨some 12, none, .mov (.t 1)⟩, ⟨some 13, none, .call 157 [(.t 12)]⟩, ⟨some 11, none, .mov (.t 13)⟩, ⟨some 14, none, .ext 0 (.t 11)⟩, ⟨some 15, none, .ext 1 (.t 11)⟩, ⟨some 5, none, .mov (.t 14)⟩, ⟨some 6, none, .mov (.t 15)⟩])
  (.seq (.ops [⟨some 16, none, .mov (.t 1)⟩, ⟨some 17, none, .lenStr (.t 16)⟩, ⟨some 7, none, .mov (.t 17)⟩])
  (.seq (.ops [⟨some 8, none, .mov (.v (.int .u32 0))⟩])
  (.seq (.seq (.ops [⟨some 9, none, .mov (.v (.int .i64 0))⟩])
  (.block 0 (.loop [0, 1, 5, 6, 7, 8, 9] (.seq (.seq (.ops [⟨some 18, none, .mov (.t 9)⟩, ⟨some 19, none, .mov (.t 7)⟩, ⟨some 20, none, .bin .lss (.t 18) (.t 19)⟩])
    (.cond (.t 20) .skip (.exit 0)))
    (.seq (.block 1 (.ops [⟨some 23, none, .mov (.t 8)⟩, ⟨some 24, none, .bin .mul (.t 23) (.v (.int .u32 16777619))⟩, ⟨some 25, none, .mov (.t 0)⟩, ⟨some 26, none, .mov (.t 9)⟩, ⟨some 27, none, .ixStr (.t 25) (.t 26)⟩, ⟨some 28, none, .cvt .u32 (.t 27)⟩, ⟨some 29, none, .bin .add (.t 24) (.t 28)⟩, ⟨some 8, none, .mov (.t 29)⟩]))
    (.ops [⟨some 21, none, .mov (.t 9)⟩, ⟨some 22, none, .bin .add (.t 21) (.v (.int .i64 1))⟩, ⟨some 9, none, .mov (.t 22)⟩]))))))
  (.seq (.seq (.ops [⟨some 30, none, .mov (.t 8)⟩, ⟨some 31, none, .mov (.t 5)⟩, ⟨some 32, none, .bin .eql (.t 30) (.t 31)⟩, ⟨some 33, none, .mov (.t 32)⟩, ⟨some 34, (some (33, true)), .mov (.t 0)⟩, ⟨some 35, (some (33, true)), .mov (.t 7)⟩, ⟨some 36, (some (33, true)), .slStr (.t 34) none (some (.t 35))⟩, ⟨some 37, (some (33, true)), .mov (.t 1)⟩, ⟨some 38, (some (33, true)), .bin .eql (.t 36) (.t 37)⟩, ⟨some 39, none, .pick (.t 33) (.t 38) (.v (.bool false))⟩])
  (.cond (.t 39) (.seq (.ops [⟨some 4, none, .mov (.v (.int .i64 0))⟩])
   .ret) .skip))
  (.seq (.seq (.ops [⟨some 40, none, .mov (.t 7)⟩, ⟨some 10, none, .mov (.t 40)⟩])
  (.block 2 (.loop [0, 1, 5, 6, 7, 8, 10] (.seq (.seq (.ops [⟨some 41, none, .mov (.t 10)⟩, ⟨some 42, none, .mov (.t 0)⟩, ⟨some 43, none, .lenStr (.t 42)⟩, ⟨some 44, none, .bin .lss (.t 41) (.t 43)⟩])
    (.cond (.t 44) .skip (.exit 2)))
    (.block 3 (.seq (.ops [⟨some 45, none, .mov (.t 8)⟩, ⟨some 46, none, .bin .mul (.t 45) (.v (.int .u32 16777619))⟩, ⟨some 8, none, .mov (.t 46)⟩])
     (.seq (.ops [⟨some 47, none, .mov (.t 8)⟩, ⟨some 48, none, .mov (.t 0)⟩, ⟨some 49, none, .mov (.t 10)⟩, ⟨some 50, none, .ixStr (.t 48) (.t 49)⟩, ⟨some 51, none, .cvt .u32 (.t 50)⟩, ⟨some 52, none, .bin .add (.t 47) (.t 51)⟩, ⟨some 8, none, .mov (.t 52)⟩])
     (.seq (.ops [⟨some 53, none, .mov (.t 8)⟩, ⟨some 54, none, .mov (.t 6)⟩, ⟨some 55, none, .mov (.t 0)⟩, ⟨some 56, none, .mov (.t 10)⟩, ⟨some 57, none, .mov (.t 7)⟩, ⟨some 58, none, .bin .sub (.t 56) (.t 57)⟩, ⟨some 59, none, .ixStr (.t 55) (.t 58)⟩, ⟨some 60, none, .cvt .u32 (.t 59)⟩, ⟨some 61, none, .bin .mul (.t 54) (.t 60)⟩, ⟨some 62, none, .bin .sub (.t 53) (.t 61)⟩, ⟨some 8, none, .mov (.t 62)⟩])
     (.seq (.ops [⟨some 63, none, .mov (.t 10)⟩, ⟨some 64, none, .bin .add (.t 63) (.v (.int .i64 1))⟩, ⟨some 10, none, .mov (.t 64)⟩])
     (.seq (.ops [⟨some 65, none, .mov (.t 8)⟩, ⟨some 66, none, .mov (.t 5)⟩, ⟨some 67, none, .bin .eql (.t 65) (.t 66)⟩, ⟨some 68, none, .mov (.t 67)⟩, ⟨some 69, (some (68, true)), .mov (.t 0)⟩, ⟨some 70, (some (68, true)), .mov (.t 10)⟩, ⟨some 71, (some (68, true)), .mov (.t 7)⟩, ⟨some 72, (some (68, true)), .bin .sub (.t 70) (.t 71)⟩, ⟨some 73, (some (68, true)), .mov (.t 10)⟩, ⟨some 74, (some (68, true)), .slStr (.t 69) (some (.t 72)) (some (.t 73))⟩, ⟨some 75, (some (68, true)), .mov (.t 1)⟩, ⟨some 76, (some (68, true)), .bin .eql (.t 74) (.t 75)⟩, ⟨some 77, none, .pick (.t 68) (.t 76) (.v (.bool false))⟩])
     (.cond (.t 77) (.seq (.ops [⟨some 78, none, .mov (.t 10)⟩, ⟨some 79, none, .mov (.t 7)⟩, ⟨some 80, none, .bin .sub (.t 78) (.t 79)⟩, ⟨some 4, none, .mov (.t 80)⟩])
      .ret) .skip)))))))))))
  (.seq (.ops [⟨some 4, none, .mov (.v (.int .i64 (-1)))⟩])
  .ret)))))))), 81, [.tmp 4]⟩
theorem Tryd.ek147 : KnownE Tryd.prog 147 Tryd.ec147 := ⟨Tryd.f147, _, Tryd.func147, rfl, by kernel_rfl, rfl, by kernel_rfl, by kernel_rfl⟩

/-- unicode/utf8.decodeRuneInStringSlow -/
def Tryd.ec154 : EFn := ⟨(.seq (.ops [⟨some 2, none, .mov (.v (.int .i32 0))⟩, ⟨some 3, none, .mov (.v (.int .i64 0))⟩])
  (.seq (.ops [⟨some 13, none, .mov (.t 0)⟩, ⟨some 14, none, .lenStr (.t 13)⟩, ⟨some 4, none, .mov (.t 14)⟩])
  (.seq (.seq (.ops [⟨some 15, none, .mov (.t 4)⟩, ⟨some 16, none, .bin .lss (.t 15) (.v (.int .i64 1))⟩])
  (.cond (.t 16) (.seq (.ops [⟨some 2, none, .mov (.v (.int .i32 65533))⟩, ⟨some 3, none, .mov (.v (.int .i64 0))⟩])
   .ret) .skip))
  (.seq (.ops [⟨some 17, none, .mov (.t 0)⟩, ⟨some 18, none, .ixStr (.t 17) (.v (.int .i64 0))⟩, ⟨some 5, none, .mov (.t 18)⟩])
  (.seq (.ops [⟨some 19, none, .mov (.t 5)⟩, ⟨some 20, none, .ixA 256 1 (.v (.pointer (some ⟨4, 0, none⟩))) (.t 19)⟩, ⟨some 21, none, .ld (.t 20)⟩, ⟨some 6, none, .mov (.t 21)⟩])
  (.seq (.seq (.ops [⟨some 22, none, .mov (.t 6)⟩, ⟨some 23, none, .bin .geq (.t 22) (.v (.int .u8 240))⟩])
  (.cond (.t 23) (.seq (.ops [⟨some 24, none, .mov (.t 6)⟩, ⟨some 25, none, .cvt .i32 (.t 24)⟩, ⟨some 26, none, .bin .shl (.t 25) (.v (.int .u64 31))⟩, ⟨some 27, none, .bin .shr (.t 26) (.v (.int .u64 31))⟩, ⟨some 7, none, .mov (.t 27)⟩])
   (.seq (.ops [⟨some 28, none, .mov (.t 0)⟩, ⟨some 29, none, .ixStr (.t 28) (.v (.int .i64 0))⟩, ⟨some 30, none, .cvt .i32 (.t 29)⟩, ⟨some 31, none, .mov (.t 7)⟩, ⟨some 32, none, .bin .andNot (.t 30) (.t 31)⟩, ⟨some 33, none, .mov (.t 7)⟩, ⟨some 34, none, .bin .and (.v (.int .i32 65533)) (.t 33)⟩, ⟨some 35, none, .bin .or (.t 32) (.t 34)⟩, ⟨some 2, none, .mov (.t 35)⟩, ⟨some 3, none, .mov (.v (.int .i64 1))⟩])
   .ret)) .skip))
  (.seq (.ops [⟨some 36, none, .mov (.t 6)⟩, ⟨some 37, none, .bin .and (.t 36) (.v (.int .u8 7))⟩, ⟨some 38, none, .cvt .i64 (.t 37)⟩, ⟨some 8, none, .mov (.t 38)⟩])
  (.seq (.ops [⟨some 39, none, .mov (.t 6)⟩, ⟨some 40, none, .bin .shr (.t 39) (.v (.int .u64 4))⟩, ⟨some 41, none, .ixA 16 2 (.v (.pointer (some ⟨5, 0, none⟩))) (.t 40)⟩, ⟨some 42, none, .ldA 2 (.t 41)⟩, ⟨some 9, none, .al 161 [.int .u8 0, .int .u8 0]⟩, ⟨none, none, .st 2 (.t 9) (.t 42)⟩])
  (.seq (.seq (.ops [⟨some 43, none, .mov (.t 4)⟩, ⟨some 44, none, .mov (.t 8)⟩, ⟨some 45, none, .bin .lss (.t 43) (.t 44)⟩])
  (.cond (.t 45) (.seq (.ops [⟨some 2, none, .mov (.v (.int .i32 65533))⟩, ⟨some 3, none, .mov (.v (.int .i64 1))⟩])
   .ret) .skip))
  (.seq (.ops [⟨some 46, none, .mov (.t 0)⟩, ⟨some 47, none, .ixStr (.t 46) (.v (.int .i64 1))⟩, ⟨some 10, none, .mov (.t 47)⟩])
  (.seq (.seq (.ops [⟨some 48, none, .mov (.t 10)⟩, ⟨some 49, none, .fa 0 (.t 9)⟩, ⟨some 50, none, .ld (.t 49)⟩, ⟨some 51, none, .bin .lss (.t 48) (.t 50)⟩, ⟨some 52, none, .mov (.t 51)⟩, ⟨some 53, (some (52, false)), .fa 1 (.t 9)⟩, ⟨some 54, (some (52, false)), .ld (.t 53)⟩, ⟨some 55, (some (52, false)), .mov (.t 10)⟩, ⟨some 56, (some (52, false)), .bin .lss (.t 54) (.t 55)⟩, ⟨some 57, none, .pick (.t 52) (.v (.bool true)) (.t 56)⟩])
  (.cond (.t 57) (.seq (.ops [⟨some 2, none, .mov (.v (.int .i32 65533))⟩, ⟨some 3, none, .mov (.v (.int .i64 1))⟩])
   .ret) .skip))
  (.seq (.seq (.ops [⟨some 58, none, .mov (.t 8)⟩, ⟨some 59, none, .bin .leq (.t 58) (.v (.int .i64 2))⟩])
  (.cond (.t 59) (.seq (.ops [⟨some 60, none, .mov (.t 5)⟩, ⟨some 61, none, .bin .and (.t 60) (.v (.int .u8 31))⟩, ⟨some 62, none, .cvt .i32 (.t 61)⟩, ⟨some 63, none, .bin .shl (.t 62) (.v (.int .u64 6))⟩, ⟨some 64, none, .mov (.t 10)⟩, ⟨some 65, none, .bin .and (.t 64) (.v (.int .u8 63))⟩, ⟨some 66, none, .cvt .i32 (.t 65)⟩, ⟨some 67, none, .bin .or (.t 63) (.t 66)⟩, ⟨some 2, none, .mov (.t 67)⟩, ⟨some 3, none, .mov (.v (.int .i64 2))⟩])
   .ret) .skip))
  (.seq (.ops [⟨some 68, none, .mov (.t 0)⟩, ⟨some 69, none, .ixStr (.t 68) (.v (.int .i64 2))⟩, ⟨some 11, none, .mov (.t 69)⟩])
  (.seq (.seq (.ops [⟨some 70, none, .mov (.t 11)⟩, ⟨some 71, none, .bin .lss (.t 70) (.v (.int .u8 128))⟩, ⟨some 72, none, .mov (.t 71)⟩, ⟨some 73, (some (72, false)), .mov (.t 11)⟩, ⟨some 74, (some (72, false)), .bin .lss (.v (.int .u8 191)) (.t 73)⟩, ⟨some 75, none, .pick (.t 72) (.v (.bool true)) (.t 74)⟩])
  (.cond (.t 75) (.seq (.ops [⟨some 2, none, .mov (.v (.int .i32 65533))⟩, ⟨some 3, none, .mov (.v (.int .i64 1))⟩])
   .ret) .skip))
  (.seq (.seq (.ops [⟨some 76, none, .mov (.t 8)⟩, ⟨some 77, none, .bin .leq (.t 76) (.v (.int .i64 3))⟩])
  (.cond (.t 77) (.seq (.ops [⟨some 78, none, .mov (.t 5)⟩, ⟨some 79, none, .bin .and (.t 78) (.v (.int .u8 15))⟩, ⟨some 80, none, .cvt .i32 (.t 79)⟩, ⟨some 81, none, .bin .shl (.t 80) (.v (.int .u64 12))⟩, ⟨some 82, none, .mov (.t 10)⟩, ⟨some 83, none, .bin .and (.t 82) (.v (.int .u8 63))⟩, ⟨some 84, none, .cvt .i32 (.t 83)⟩, ⟨some 85, none, .bin .shl (.t 84) (.v (.int .u64 6))⟩, ⟨some 86, none, .bin .or (.t 81) (.t 85)⟩, ⟨some 87, none, .mov (.t 11)⟩, ⟨some 88, none, .bin .and (.t 87) (.v (.int .u8 63))⟩, ⟨some 89, none, .cvt .i32 (.t 88)⟩, ⟨some 90, none, .bin .or (.t 86) (.t 89)⟩, ⟨some 2, none, .mov (.t 90)⟩, ⟨some 3, none, .mov (.v (.int .i64 3))⟩])
   .ret) .skip))
  (.seq (.ops [⟨some 91, none, .mov (.t 0)⟩, ⟨some 92, none, .ixStr (.t 91) (.v (.int .i64 3))⟩, ⟨some 12, none, .mov (.t 92)⟩])
  (.seq (.seq (.ops [⟨some 93, none, .mov (.t 12)⟩, ⟨some 94, none, .bin .lss (.t 93) (.v (.int .u8 128))⟩, ⟨some 95, none, .mov (.t 94)⟩, ⟨some 96, (some (95, false)), .mov (.t 12)⟩, ⟨some 97, (some (95, false)), .bin .lss (.v (.int .u8 191)) (.t 96)⟩, ⟨some 98, none, .pick (.t 95) (.v (.bool true)) (.t 97)⟩])
  (.cond (.t 98) (.seq (.ops [⟨some 2, none, .mov (.v (.int .i32 65533))⟩, ⟨some 3, none, .mov (.v (.int .i64 1))⟩])
   .ret) .skip))
  (.seq (.ops [⟨some 99, none, .mov (.t 5)⟩, ⟨some 100, none, .bin .and (.t 99) (.v (.int .u8 7))⟩, ⟨some 101, none, .cvt .i32 (.t 100)⟩, ⟨some 102, none, .bin .shl (.t 101) (.v (.int .u64 18))⟩, ⟨some 103, none, .mov (.t 10)⟩, ⟨some 104, none, .bin .and (.t 103) (.v (.int .u8 63))⟩, ⟨some 105, none, .cvt .i32 (.t 104)⟩, ⟨some 106, none, .bin .shl (.t 105) (.v (.int .u64 12))⟩, ⟨some 107, none, .bin .or (.t 102) (.t 106)⟩, ⟨some 108, none, .mov (.t 11)⟩, ⟨some 109, none, .bin .and (.t 108) (.v (.int .u8 63))⟩, ⟨some 110, none, .cvt .i32 (.t 109)⟩, ⟨some 111, none, .bin .shl (.t 110) (.v (.int .u64 6))⟩, ⟨some 112, none, .bin .or (.t 107) (.t 111)⟩, ⟨some 113, none, .mov (.t 12)⟩, ⟨some 114, none, .bin .and (.t 113) (.v (.int .u8 63))⟩, ⟨some 115, none, .cvt .i32 (.t 114)⟩, ⟨some 116, none, .bin .or (.t 112) (.t 115)⟩, ⟨some 2, none, .mov (.t 116)⟩, ⟨some 3, none, .mov (.v (.int .i64 4))⟩])
  .ret)))))))))))))))))), 117, [.tmp 2, .tmp 3]⟩
theorem Tryd.ek154 : KnownE Tryd.prog 154 Tryd.ec154 := ⟨Tryd.f154, _, Tryd.func154, rfl, by kernel_rfl, rfl, by kernel_rfl, by kernel_rfl⟩

/-- internal/bytealg.hashStr[string] -/
def Tryd.ec157 : EFn := ⟨(.seq (.ops [⟨some 2, none, .mov (.v (.int .u32 0))⟩, ⟨some 3, none, .mov (.v (.int .u32 0))⟩])
  (.seq (.ops [⟨some 4, none, .mov (.v (.int .u32 0))⟩])
  (.seq (.seq (.ops [⟨some 5, none, .mov (.v (.int .i64 0))⟩])
  (.block 0 (.loop [0, 4, 5] (.seq (.seq (.ops [⟨some 9, none, .mov (.t 5)⟩, ⟨some 10, none, .mov (.t 0)⟩, ⟨some 11, none, .lenStr (.t 10)⟩, ⟨some 12, none, .bin .lss (.t 9) (.t 11)⟩])
    (.cond (.t 12) .skip (.exit 0)))
    (.seq (.block 1 (.ops [⟨some 15, none, .mov (.t 4)⟩, ⟨some 16, none, .bin .mul (.t 15) (.v (.int .u32 16777619))⟩, ⟨some 17, none, .mov (.t 0)⟩, ⟨some 18, none, .mov (.t 5)⟩, ⟨some 19, none, .ixStr (.t 17) (.t 18)⟩, ⟨some 20, none, .cvt .u32 (.t 19)⟩, ⟨some 21, none, .bin .add (.t 16) (.t 20)⟩, ⟨some 4, none, .mov (.t 21)⟩]))
    (.ops [⟨some 13, none, .mov (.t 5)⟩, ⟨some 14, none, .bin .add (.t 13) (.v (.int .i64 1))⟩, ⟨some 5, none, .mov (.t 14)⟩]))))))
  (.seq (.ops [⟨some 6, none, .mov (.v (.int .u32 1))⟩, ⟨some 7, none, .mov (.v (.int .u32 16777619))⟩])
  (.seq (.seq (.ops [⟨some 22, none, .mov (.t 0)⟩, ⟨some 23, none, .lenStr (.t 22)⟩, ⟨some 8, none, .mov (.t 23)⟩])
  (.block 2 (.loop [4, 6, 7, 8] (.seq (.seq (.ops [⟨some 24, none, .mov (.t 8)⟩, ⟨some 25, none, .bin .gtr (.t 24) (.v (.int .i64 0))⟩])
    (.cond (.t 25) .skip (.exit 2)))
    (.seq (.block 3 (.seq (.seq (.ops [⟨some 28, none, .mov (.t 8)⟩, ⟨some 29, none, .bin .and (.t 28) (.v (.int .i64 1))⟩, ⟨some 30, none, .bin .neq (.t 29) (.v (.int .i64 0))⟩])
     (.cond (.t 30) (.ops [⟨some 31, none, .mov (.t 6)⟩, ⟨some 32, none, .mov (.t 7)⟩, ⟨some 33, none, .bin .mul (.t 31) (.t 32)⟩, ⟨some 6, none, .mov (.t 33)⟩]) .skip))
     (.ops [⟨some 34, none, .mov (.t 7)⟩, ⟨some 35, none, .mov (.t 7)⟩, ⟨some 36, none, .bin .mul (.t 34) (.t 35)⟩, ⟨some 7, none, .mov (.t 36)⟩])))
    (.ops [⟨some 26, none, .mov (.t 8)⟩, ⟨some 27, none, .bin .shr (.t 26) (.v (.int .u64 1))⟩, ⟨some 8, none, .mov (.t 27)⟩]))))))
  (.seq (.ops [⟨some 37, none, .mov (.t 4)⟩, ⟨some 38, none, .mov (.t 6)⟩, ⟨some 2, none, .mov (.t 37)⟩, ⟨some 3, none, .mov (.t 38)⟩])
  .ret)))))), 39, [.tmp 2, .tmp 3]⟩
theorem Tryd.ek157 : KnownE Tryd.prog 157 Tryd.ec157 := ⟨Tryd.f157, _, Tryd.func157, rfl, by kernel_rfl, rfl, by kernel_rfl, by kernel_rfl⟩
def Tryd.etab : List (FuncId × EFn) := [(9, Tryd.ec9), (28, Tryd.ec28), (29, Tryd.ec29), (31, Tryd.ec31), (34, Tryd.ec34), (36, Tryd.ec36), (38, Tryd.ec38), (63, Tryd.ec63), (64, Tryd.ec64), (66, Tryd.ec66), (67, Tryd.ec67), (88, Tryd.ec88), (89, Tryd.ec89), (90, Tryd.ec90), (91, Tryd.ec91), (93, Tryd.ec93), (94, Tryd.ec94), (105, Tryd.ec105), (106, Tryd.ec106), (107, Tryd.ec107), (108, Tryd.ec108), (109, Tryd.ec109), (122, Tryd.ec122), (135, Tryd.ec135), (136, Tryd.ec136), (144, Tryd.ec144), (146, Tryd.ec146), (147, Tryd.ec147), (154, Tryd.ec154), (157, Tryd.ec157)]
theorem Tryd.etab_ok : AllK Tryd.prog Tryd.etab := ⟨Tryd.ek9, Tryd.ek28, Tryd.ek29, Tryd.ek31, Tryd.ek34, Tryd.ek36, Tryd.ek38, Tryd.ek63, Tryd.ek64, Tryd.ek66, Tryd.ek67, Tryd.ek88, Tryd.ek89, Tryd.ek90, Tryd.ek91, Tryd.ek93, Tryd.ek94, Tryd.ek105, Tryd.ek106, Tryd.ek107, Tryd.ek108, Tryd.ek109, Tryd.ek122, Tryd.ek135, Tryd.ek136, Tryd.ek144, Tryd.ek146, Tryd.ek147, Tryd.ek154, Tryd.ek157, trivial⟩
end Go.Proofs
