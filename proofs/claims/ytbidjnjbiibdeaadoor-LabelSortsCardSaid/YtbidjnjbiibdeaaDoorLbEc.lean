/- The small forms that the evaluator runs. -/
import Derived.Test.YtbidjnjbiibdeaaDoorE14
import Derived.Test.YtbidjnjbiibdeaaDoorProg
set_option maxRecDepth 100000
namespace Go.Proofs
open Go.SL
/-- redwax/label.Join -/
def Tryd.ec15 : EFn := ⟨(.seq (.ops [⟨some 2, none, .bx 24 (.t 0)⟩, ⟨some 3, none, .bx 24 (.t 1)⟩, ⟨some 4, none, .al 24 [.int .i64 0, .int .u64 0]⟩])
  (.seq (.ops [⟨some 5, none, .fa 0 (.t 2)⟩, ⟨some 6, none, .ld (.t 5)⟩, ⟨some 7, none, .fa 0 (.t 3)⟩, ⟨some 8, none, .ld (.t 7)⟩, ⟨some 9, none, .mnx true [(.t 6), (.t 8)]⟩, ⟨some 10, none, .fa 1 (.t 2)⟩, ⟨some 11, none, .ld (.t 10)⟩, ⟨some 12, none, .fa 1 (.t 3)⟩, ⟨some 13, none, .ld (.t 12)⟩, ⟨some 14, none, .bin .or (.t 11) (.t 13)⟩, ⟨some 15, none, .build [.int .i64 0, .int .u64 0] [(0, 1, (.t 9)), (1, 1, (.t 14))]⟩, ⟨none, none, .st 2 (.t 4) (.t 15)⟩])
  .ret)), 16, [.cell 4 (some 2)]⟩
theorem Tryd.ek15 : KnownE Tryd.prog 15 Tryd.ec15 := ⟨Tryd.f15, _, Tryd.func15, rfl, by kernel_rfl, rfl, by kernel_rfl, by kernel_rfl⟩

/-- redwax/label.Below -/
def Tryd.ec17 : EFn := ⟨(.seq (.ops [⟨some 2, none, .bx 24 (.t 0)⟩, ⟨some 3, none, .bx 24 (.t 1)⟩, ⟨some 4, none, .mov (.v (.bool false))⟩])
  (.seq (.ops [⟨some 5, none, .fa 0 (.t 2)⟩, ⟨some 6, none, .ld (.t 5)⟩, ⟨some 7, none, .fa 0 (.t 3)⟩, ⟨some 8, none, .ld (.t 7)⟩, ⟨some 9, none, .bin .leq (.t 6) (.t 8)⟩, ⟨some 10, none, .mov (.t 9)⟩, ⟨some 11, (some (10, true)), .fa 1 (.t 2)⟩, ⟨some 12, (some (10, true)), .ld (.t 11)⟩, ⟨some 13, (some (10, true)), .fa 1 (.t 3)⟩, ⟨some 14, (some (10, true)), .ld (.t 13)⟩, ⟨some 15, (some (10, true)), .bin .andNot (.t 12) (.t 14)⟩, ⟨some 16, (some (10, true)), .bin .eql (.t 15) (.v (.int .u64 0))⟩, ⟨some 17, none, .pick (.t 10) (.t 16) (.v (.bool false))⟩, ⟨some 4, none, .mov (.t 17)⟩])
  .ret)), 18, [.tmp 4]⟩
theorem Tryd.ek17 : KnownE Tryd.prog 17 Tryd.ec17 := ⟨Tryd.f17, _, Tryd.func17, rfl, by kernel_rfl, rfl, by kernel_rfl, by kernel_rfl⟩

/-- redwax/label.Check -/
def Tryd.ec18 : EFn := ⟨(.seq (.ops [⟨some 1, none, .bx 24 (.t 0)⟩, ⟨some 2, none, .mov (.v (.int .i64 0))⟩])
  (.seq (.seq (.ops [⟨some 3, none, .fa 0 (.t 1)⟩, ⟨some 4, none, .ld (.t 3)⟩, ⟨some 5, none, .bin .lss (.t 4) (.v (.int .i64 0))⟩, ⟨some 6, none, .mov (.t 5)⟩, ⟨some 7, (some (6, false)), .fa 0 (.t 1)⟩, ⟨some 8, (some (6, false)), .ld (.t 7)⟩, ⟨some 9, (some (6, false)), .bin .gtr (.t 8) (.v (.int .i64 15))⟩, ⟨some 10, none, .pick (.t 6) (.v (.bool true)) (.t 9)⟩])
  (.cond (.t 10) (.seq (.ops [⟨some 2, none, .mov (.v (.int .i64 2))⟩])
   .ret) .skip))
  (.seq (.ops [⟨some 2, none, .mov (.v (.int .i64 0))⟩])
  .ret))), 11, [.tmp 2]⟩
theorem Tryd.ek18 : KnownE Tryd.prog 18 Tryd.ec18 := ⟨Tryd.f18, _, Tryd.func18, rfl, by kernel_rfl, rfl, by kernel_rfl, by kernel_rfl⟩

/-- redwax/redwaxlaw05.awake -/
def Tryd.ec20 : EFn := ⟨(.seq (.ops [⟨some 0, none, .mov (.v (.bool false))⟩])
  (.seq (.ops [⟨some 1, none, .call 55 [(.v (.int .i64 1)), (.v (.int .u64 3))]⟩, ⟨some 2, none, .call 55 [(.v (.int .i64 2)), (.v (.int .u64 7))]⟩, ⟨some 3, none, .call 17 [(.t 1), (.t 2)]⟩, ⟨some 4, none, .mov (.t 3)⟩, ⟨some 5, (some (4, true)), .call 55 [(.v (.int .i64 1)), (.v (.int .u64 3))]⟩, ⟨some 6, (some (4, true)), .call 55 [(.v (.int .i64 2)), (.v (.int .u64 5))]⟩, ⟨some 7, (some (4, true)), .call 17 [(.t 5), (.t 6)]⟩, ⟨some 8, (some (4, true)), .not (.t 7)⟩, ⟨some 9, none, .pick (.t 4) (.t 8) (.v (.bool false))⟩, ⟨some 10, none, .mov (.t 9)⟩, ⟨some 11, (some (10, true)), .call 55 [(.v (.int .i64 1)), (.v (.int .u64 3))]⟩, ⟨some 12, (some (10, true)), .call 55 [(.v (.int .i64 2)), (.v (.int .u64 5))]⟩, ⟨some 13, (some (10, true)), .call 15 [(.t 11), (.t 12)]⟩, ⟨some 14, (some (10, true)), .call 55 [(.v (.int .i64 2)), (.v (.int .u64 7))]⟩, ⟨some 15, (some (10, true)), .eqA false 24 [.int .i64, .int .u64] (.t 13) (.t 14)⟩, ⟨some 16, none, .pick (.t 10) (.t 15) (.v (.bool false))⟩, ⟨some 17, none, .mov (.t 16)⟩, ⟨some 18, (some (17, true)), .call 55 [(.v (.int .i64 3)), (.v (.int .u64 31))]⟩, ⟨some 19, (some (17, true)), .call 56 [(.t 18)]⟩, ⟨some 20, (some (17, true)), .bin .eql (.t 19) (.v (.string ⟨#[51, 58, 49, 102]⟩))⟩, ⟨some 21, none, .pick (.t 17) (.t 20) (.v (.bool false))⟩, ⟨some 0, none, .mov (.t 21)⟩])
  .ret)), 22, [.tmp 0]⟩
theorem Tryd.ek20 : KnownE Tryd.prog 20 Tryd.ec20 := ⟨Tryd.f20, _, Tryd.func20, rfl, by kernel_rfl, rfl, by kernel_rfl, by kernel_rfl⟩

/-- redwax/redwaxlaw05.of -/
def Tryd.ec55 : EFn := ⟨(.seq (.ops [⟨some 4, none, .al 24 [.int .i64 0, .int .u64 0]⟩])
  (.seq (.ops [⟨some 5, none, .mov (.t 0)⟩, ⟨some 6, none, .mov (.t 1)⟩, ⟨some 7, none, .build [.int .i64 0, .int .u64 0] [(0, 1, (.t 5)), (1, 1, (.t 6))]⟩, ⟨none, none, .st 2 (.t 4) (.t 7)⟩])
  .ret)), 8, [.cell 4 (some 2)]⟩
theorem Tryd.ek55 : KnownE Tryd.prog 55 Tryd.ec55 := ⟨Tryd.f55, _, Tryd.func55, rfl, by kernel_rfl, rfl, by kernel_rfl, by kernel_rfl⟩

/-- redwax/label.Text -/
def Tryd.ec56 : EFn := ⟨(.seq (.ops [⟨some 1, none, .bx 24 (.t 0)⟩, ⟨some 2, none, .mov (.v (.string ⟨#[]⟩))⟩])
  (.seq (.seq (.ops [⟨some 3, none, .ldA 2 (.t 1)⟩, ⟨some 4, none, .call 18 [(.t 3)]⟩, ⟨some 5, none, .bin .neq (.t 4) (.v (.int .i64 0))⟩])
  (.cond (.t 5) (.seq (.ops [⟨some 2, none, .mov (.v (.string ⟨#[63]⟩))⟩])
   .ret) .skip))
  (.seq (.drawn [0, 1, 3, 7, 0, 16, 55, 127, 255] 7 [⟨some 6, none, .fa 0 (.t 1)⟩, ⟨some 7, none, .ld (.t 6)⟩, ⟨some 8, none, .call 84 [(.t 7)]⟩, ⟨some 9, none, .bin .add (.t 8) (.v (.string ⟨#[58]⟩))⟩, ⟨some 10, none, .fa 1 (.t 1)⟩, ⟨some 11, none, .ld (.t 10)⟩, ⟨some 12, none, .call 85 [(.t 11), (.v (.int .i64 16))]⟩, ⟨some 13, none, .bin .add (.t 9) (.t 12)⟩, ⟨some 2, none, .mov (.t 13)⟩])
  .ret))), 14, [.tmp 2]⟩
theorem Tryd.ek56 : KnownE Tryd.prog 56 Tryd.ec56 := ⟨Tryd.f56, _, Tryd.func56, rfl, by kernel_rfl, rfl, by kernel_rfl, by kernel_rfl⟩

/-- strconv.Itoa -/
def Tryd.ec84 : EFn := ⟨(.seq (.ops [⟨some 2, none, .mov (.v (.string ⟨#[]⟩))⟩])
  (.seq (.ops [⟨some 3, none, .mov (.t 0)⟩, ⟨some 4, none, .call 103 [(.t 3)]⟩, ⟨some 2, none, .mov (.t 4)⟩])
  .ret)), 5, [.tmp 2]⟩
theorem Tryd.ek84 : KnownE Tryd.prog 84 Tryd.ec84 := ⟨Tryd.f84, _, Tryd.func84, rfl, by kernel_rfl, rfl, by kernel_rfl, by kernel_rfl⟩

/-- strconv.FormatUint -/
def Tryd.ec85 : EFn := ⟨(.seq (.ops [⟨some 4, none, .mov (.v (.string ⟨#[]⟩))⟩])
  (.seq (.ops [⟨some 5, none, .mov (.t 0)⟩, ⟨some 6, none, .mov (.t 1)⟩, ⟨some 7, none, .call 104 [(.t 5), (.t 6)]⟩, ⟨some 4, none, .mov (.t 7)⟩])
  .ret)), 8, [.tmp 4]⟩
theorem Tryd.ek85 : KnownE Tryd.prog 85 Tryd.ec85 := ⟨Tryd.f85, _, Tryd.func85, rfl, by kernel_rfl, rfl, by kernel_rfl, by kernel_rfl⟩

/-- internal/strconv.Itoa -/
def Tryd.ec103 : EFn := ⟨(.seq (.ops [⟨some 2, none, .mov (.v (.string ⟨#[]⟩))⟩])
  (.seq (.ops [⟨some 3, none, .mov (.t 0)⟩, ⟨some 4, none, .call 130 [(.t 3), (.v (.int .i64 10))]⟩, ⟨some 2, none, .mov (.t 4)⟩])
  .ret)), 5, [.tmp 2]⟩
theorem Tryd.ek103 : KnownE Tryd.prog 103 Tryd.ec103 := ⟨Tryd.f103, _, Tryd.func103, rfl, by kernel_rfl, rfl, by kernel_rfl, by kernel_rfl⟩

/-- internal/strconv.FormatUint -/
def Tryd.ec104 : EFn := ⟨(.seq (.ops [⟨some 4, none, .mov (.v (.string ⟨#[]⟩))⟩])
  (.seq (.seq (.ops [⟨some 9, none, .mov (.t 1)⟩, ⟨some 10, none, .bin .eql (.t 9) (.v (.int .i64 10))⟩])
  (.cond (.t 10) (.seq (.seq (.ops [⟨some 11, none, .mov (.t 0)⟩, ⟨some 12, none, .bin .lss (.t 11) (.v (.int .u64 100))⟩])
   (.cond (.t 12) (.seq (.ops [⟨some 13, none, .mov (.t 0)⟩, ⟨some 14, none, .cvt .i64 (.t 13)⟩, ⟨some 15, none, .call 131 [(.t 14)]⟩, ⟨some 4, none, .mov (.t 15)⟩])
    .ret) .skip))
   (.seq (.ops [⟨some 5, none, .al 129 [.int .u8 0, .int .u8 0, .int .u8 0, .int .u8 0, .int .u8 0, .int .u8 0, .int .u8 0, .int .u8 0, .int .u8 0, .int .u8 0, .int .u8 0, .int .u8 0, .int .u8 0, .int .u8 0, .int .u8 0, .int .u8 0, .int .u8 0, .int .u8 0, .int .u8 0, .int .u8 0, .int .u8 0, .int .u8 0, .int .u8 0, .int .u8 0]⟩])
   (.seq (.ops [⟨some 16, none, .mov (.t 0)⟩, ⟨some 17, none, .call 132 [(.t 16)]⟩, ⟨some 6, none, .mov (.t 17)⟩])
   (.seq (.ops [⟨some 18, none, .mov (.t 6)⟩, ⟨some 19, none, .more (.slAr 24 1 (.t 5) none (some (.t 18)))⟩, ⟨some 20, none, .mov (.t 0)⟩, ⟨some 21, none, .call 133 [(.t 19), (.t 20)]⟩])
   (.seq (.ops [⟨some 22, none, .mov (.t 6)⟩, ⟨some 23, none, .more (.slAr 24 1 (.t 5) none (some (.t 22)))⟩, ⟨some 24, none, .strOf (.t 23)⟩, ⟨some 4, none, .mov (.t 24)⟩])
   .ret))))) .skip))
  (.seq (.ops [⟨some 26, none, .mov (.t 0)⟩, ⟨some 27, none, .mov (.t 1)⟩, ⟨some 28, none, .call 134 [(.v (.slice none 0 0)), (.t 26), (.t 27), (.v (.bool false)), (.v (.bool false))]⟩, ⟨some 25, none, .mov (.t 28)⟩, ⟨some 29, none, .ext 0 (.t 25)⟩, ⟨some 30, none, .ext 1 (.t 25)⟩, ⟨some 7, none, .mov (.t 29)⟩, ⟨some 8, none, .mov (.t 30)⟩])
  (.seq (.ops [⟨some 31, none, .mov (.t 8)⟩, ⟨some 4, none, .mov (.t 31)⟩])
  .ret)))), 32, [.tmp 4]⟩
theorem Tryd.ek104 : KnownE Tryd.prog 104 Tryd.ec104 := ⟨Tryd.f104, _, Tryd.func104, rfl, by kernel_rfl, rfl, by kernel_rfl, by kernel_rfl⟩

/-- math/bits.Len64 -/
def Tryd.ec121 : EFn := ⟨(.seq (.ops [⟨some 2, none, .mov (.v (.int .i64 0))⟩])
  (.seq (.seq (.ops [⟨some 3, none, .mov (.t 0)⟩, ⟨some 4, none, .bin .geq (.t 3) (.v (.int .u64 4294967296))⟩])
  (.cond (.t 4) (.seq (.ops [⟨some 5, none, .mov (.t 0)⟩, ⟨some 6, none, .bin .shr (.t 5) (.v (.int .u64 32))⟩, ⟨some 0, none, .mov (.t 6)⟩])
   (.ops [⟨some 2, none, .mov (.v (.int .i64 32))⟩])) .skip))
  (.seq (.seq (.ops [⟨some 7, none, .mov (.t 0)⟩, ⟨some 8, none, .bin .geq (.t 7) (.v (.int .u64 65536))⟩])
  (.cond (.t 8) (.seq (.ops [⟨some 9, none, .mov (.t 0)⟩, ⟨some 10, none, .bin .shr (.t 9) (.v (.int .u64 16))⟩, ⟨some 0, none, .mov (.t 10)⟩])
   (.ops [⟨some 11, none, .mov (.t 2)⟩, ⟨some 12, none, .bin .add (.t 11) (.v (.int .i64 16))⟩, ⟨some 2, none, .mov (.t 12)⟩])) .skip))
  (.seq (.seq (.ops [⟨some 13, none, .mov (.t 0)⟩, ⟨some 14, none, .bin .geq (.t 13) (.v (.int .u64 256))⟩])
  (.cond (.t 14) (.seq (.ops [⟨some 15, none, .mov (.t 0)⟩, ⟨some 16, none, .bin .shr (.t 15) (.v (.int .u64 8))⟩, ⟨some 0, none, .mov (.t 16)⟩])
   (.ops [⟨some 17, none, .mov (.t 2)⟩, ⟨some 18, none, .bin .add (.t 17) (.v (.int .i64 8))⟩, ⟨some 2, none, .mov (.t 18)⟩])) .skip))
  (.seq (.ops [⟨some 19, none, .mov (.t 2)⟩, ⟨some 20, none, .mov (.t 0)⟩, ⟨some 21, none, .cvt .u8 (.t 20)⟩, ⟨some 22, none, .ixStr (.v (.string ⟨#[0, 1, 2, 2, 3, 3, 3, 3, 4, 4, 4, 4, 4, 4, 4, 4, 5, 5, 5, 5, 5, 5, 5, 5, 5, 5, 5, 5, 5, 5, 5, 5, 6, 6, 6, 6, 6, 6, 6, 6, 6, 6, 6, 6, 6, 6, 6, 6, 6, 6, 6, 6, 6, 6, 6, 6, 6, 6, 6, 6, 6, 6, 6, 6, 7, 7, 7, 7, 7, 7, 7, 7, 7, 7, 7, 7, 7, 7, 7, 7, 7, 7, 7, 7, 7, 7, 7, 7, 7, 7, 7, 7, 7, 7, 7, 7, 7, 7, 7, 7, 7, 7, 7, 7, 7, 7, 7, 7, 7, 7, 7, 7, 7, 7, 7, 7, 7, 7, 7, 7, 7, 7, 7, 7, 7, 7, 7, 7, 8, 8, 8, 8, 8, 8, 8, 8, 8, 8, 8, 8, 8, 8, 8, 8, 8, 8, 8, 8, 8, 8, 8, 8, 8, 8, 8, 8, 8, 8, 8, 8, 8, 8, 8, 8, 8, 8, 8, 8, 8, 8, 8, 8, 8, 8, 8, 8, 8, 8, 8, 8, 8, 8, 8, 8, 8, 8, 8, 8, 8, 8, 8, 8, 8, 8, 8, 8, 8, 8, 8, 8, 8, 8, 8, 8, 8, 8, 8, 8, 8, 8, 8, 8, 8, 8, 8, 8, 8, 8, 8, 8, 8, 8, 8, 8, 8, 8, 8, 8, 8, 8, 8, 8, 8, 8, 8, 8, 8, 8, 8, 8, 8, 8, 8, 8, 8, 8, 8, 8, 8, 8, 8, 8, 8, 8, 8, 8]⟩)) (.t 21)⟩, ⟨some 23, none, .cvt .i64 (.t 22)⟩, ⟨some 24, none, .bin .add (.t 19) (.t 23)⟩, ⟨some 2, none, .mov (.t 24)⟩])
  .ret))))), 25, [.tmp 2]⟩
theorem Tryd.ek121 : KnownE Tryd.prog 121 Tryd.ec121 := ⟨Tryd.f121, _, Tryd.func121, rfl, by kernel_rfl, rfl, by kernel_rfl, by kernel_rfl⟩

/-- internal/strconv.FormatInt -/
def Tryd.ec130 : EFn := ⟨(.seq (.ops [⟨some 4, none, .mov (.v (.string ⟨#[]⟩))⟩])
  (.seq (.seq (.ops [⟨some 10, none, .mov (.t 1)⟩, ⟨some 11, none, .bin .eql (.t 10) (.v (.int .i64 10))⟩])
  (.cond (.t 11) (.seq (.seq (.ops [⟨some 12, none, .mov (.t 0)⟩, ⟨some 13, none, .bin .leq (.v (.int .i64 0)) (.t 12)⟩, ⟨some 14, none, .mov (.t 13)⟩, ⟨some 15, (some (14, true)), .mov (.t 0)⟩, ⟨some 16, (some (14, true)), .bin .lss (.t 15) (.v (.int .i64 100))⟩, ⟨some 17, none, .pick (.t 14) (.t 16) (.v (.bool false))⟩])
   (.cond (.t 17) (.seq (.ops [⟨some 18, none, .mov (.t 0)⟩, ⟨some 19, none, .call 131 [(.t 18)]⟩, ⟨some 4, none, .mov (.t 19)⟩])
    .ret) .skip))
   (.seq (.ops [⟨some 5, none, .al 129 [.int .u8 0, .int .u8 0, .int .u8 0, .int .u8 0, .int .u8 0, .int .u8 0, .int .u8 0, .int .u8 0, .int .u8 0, .int .u8 0, .int .u8 0, .int .u8 0, .int .u8 0, .int .u8 0, .int .u8 0, .int .u8 0, .int .u8 0, .int .u8 0, .int .u8 0, .int .u8 0, .int .u8 0, .int .u8 0, .int .u8 0, .int .u8 0]⟩])
   (.seq (.ops [⟨some 20, none, .mov (.t 0)⟩, ⟨some 21, none, .cvt .u64 (.t 20)⟩, ⟨some 6, none, .mov (.t 21)⟩])
   (.seq (.seq (.ops [⟨some 22, none, .mov (.t 0)⟩, ⟨some 23, none, .bin .lss (.t 22) (.v (.int .i64 0))⟩])
   (.cond (.t 23) (.ops [⟨some 24, none, .mov (.t 6)⟩, ⟨some 25, none, .more (.neg (.t 24))⟩, ⟨some 6, none, .mov (.t 25)⟩]) .skip))
   (.seq (.ops [⟨some 26, none, .mov (.t 6)⟩, ⟨some 27, none, .call 132 [(.t 26)]⟩, ⟨some 7, none, .mov (.t 27)⟩])
   (.seq (.ops [⟨some 28, none, .mov (.t 7)⟩, ⟨some 29, none, .bin .add (.v (.int .i64 1)) (.t 28)⟩, ⟨some 30, none, .more (.slAr 24 1 (.t 5) (some (.v (.int .i64 1))) (some (.t 29)))⟩, ⟨some 31, none, .mov (.t 6)⟩, ⟨some 32, none, .call 133 [(.t 30), (.t 31)]⟩])
   (.seq (.seq (.ops [⟨some 33, none, .mov (.t 0)⟩, ⟨some 34, none, .bin .lss (.t 33) (.v (.int .i64 0))⟩])
   (.cond (.t 34) (.seq (.ops [⟨some 35, none, .ixA 24 1 (.t 5) (.v (.int .i64 0))⟩, ⟨none, none, .st 1 (.t 35) (.v (.int .u8 45))⟩])
    (.seq (.ops [⟨some 36, none, .mov (.t 7)⟩, ⟨some 37, none, .bin .add (.v (.int .i64 1)) (.t 36)⟩, ⟨some 38, none, .more (.slAr 24 1 (.t 5) none (some (.t 37)))⟩, ⟨some 39, none, .strOf (.t 38)⟩, ⟨some 4, none, .mov (.t 39)⟩])
    .ret)) .skip))
   (.seq (.ops [⟨some 40, none, .mov (.t 7)⟩, ⟨some 41, none, .bin .add (.v (.int .i64 1)) (.t 40)⟩, ⟨some 42, none, .more (.slAr 24 1 (.t 5) (some (.v (.int .i64 1))) (some (.t 41)))⟩, ⟨some 43, none, .strOf (.t 42)⟩, ⟨some 4, none, .mov (.t 43)⟩])
   .ret)))))))) .skip))
  (.seq (.ops [⟨some 45, none, .mov (.t 0)⟩, ⟨some 46, none, .cvt .u64 (.t 45)⟩, ⟨some 47, none, .mov (.t 1)⟩, ⟨some 48, none, .mov (.t 0)⟩, ⟨some 49, none, .bin .lss (.t 48) (.v (.int .i64 0))⟩, ⟨some 50, none, .call 134 [(.v (.slice none 0 0)), (.t 46), (.t 47), (.t 49), (.v (.bool false))]⟩, ⟨some 44, none, .mov (.t 50)⟩, ⟨some 51, none, .ext 0 (.t 44)⟩, ⟨some 52, none, .ext 1 (.t 44)⟩, ⟨some 8, none, .mov (.t 51)⟩, ⟨some 9, none, .mov (.t 52)⟩])
  (.seq (.ops [⟨some 53, none, .mov (.t 9)⟩, ⟨some 4, none, .mov (.t 53)⟩])
  .ret)))), 54, [.tmp 4]⟩
theorem Tryd.ek130 : KnownE Tryd.prog 130 Tryd.ec130 := ⟨Tryd.f130, _, Tryd.func130, rfl, by kernel_rfl, rfl, by kernel_rfl, by kernel_rfl⟩

/-- internal/strconv.small -/
def Tryd.ec131 : EFn := ⟨(.seq (.ops [⟨some 2, none, .mov (.v (.string ⟨#[]⟩))⟩])
  (.seq (.seq (.ops [⟨some 3, none, .mov (.t 0)⟩, ⟨some 4, none, .bin .lss (.t 3) (.v (.int .i64 10))⟩])
  (.cond (.t 4) (.seq (.ops [⟨some 5, none, .mov (.t 0)⟩, ⟨some 6, none, .mov (.t 0)⟩, ⟨some 7, none, .bin .add (.t 6) (.v (.int .i64 1))⟩, ⟨some 8, none, .slStr (.v (.string ⟨#[48, 49, 50, 51, 52, 53, 54, 55, 56, 57, 97, 98, 99, 100, 101, 102, 103, 104, 105, 106, 107, 108, 109, 110, 111, 112, 113, 114, 115, 116, 117, 118, 119, 120, 121, 122]⟩)) (some (.t 5)) (some (.t 7))⟩, ⟨some 2, none, .mov (.t 8)⟩])
   .ret) .skip))
  (.seq (.ops [⟨some 9, none, .mov (.t 0)⟩, ⟨some 10, none, .bin .mul (.t 9) (.v (.int .i64 2))⟩, ⟨some 11, none, .mov (.t 0)⟩, ⟨some 12, none, .bin .mul (.t 11) (.v (.int .i64 2))⟩, ⟨some 13, none, .bin .add (.t 12) (.v (.int .i64 2))⟩, ⟨some 14, none, .slStr (.v (.string ⟨#[48, 48, 48, 49, 48, 50, 48, 51, 48, 52, 48, 53, 48, 54, 48, 55, 48, 56, 48, 57, 49, 48, 49, 49, 49, 50, 49, 51, 49, 52, 49, 53, 49, 54, 49, 55, 49, 56, 49, 57, 50, 48, 50, 49, 50, 50, 50, 51, 50, 52, 50, 53, 50, 54, 50, 55, 50, 56, 50, 57, 51, 48, 51, 49, 51, 50, 51, 51, 51, 52, 51, 53, 51, 54, 51, 55, 51, 56, 51, 57, 52, 48, 52, 49, 52, 50, 52, 51, 52, 52, 52, 53, 52, 54, 52, 55, 52, 56, 52, 57, 53, 48, 53, 49, 53, 50, 53, 51, 53, 52, 53, 53, 53, 54, 53, 55, 53, 56, 53, 57, 54, 48, 54, 49, 54, 50, 54, 51, 54, 52, 54, 53, 54, 54, 54, 55, 54, 56, 54, 57, 55, 48, 55, 49, 55, 50, 55, 51, 55, 52, 55, 53, 55, 54, 55, 55, 55, 56, 55, 57, 56, 48, 56, 49, 56, 50, 56, 51, 56, 52, 56, 53, 56, 54, 56, 55, 56, 56, 56, 57, 57, 48, 57, 49, 57, 50, 57, 51, 57, 52, 57, 53, 57, 54, 57, 55, 57, 56, 57, 57]⟩)) (some (.t 10)) (some (.t 13))⟩, ⟨some 2, none, .mov (.t 14)⟩])
  .ret))), 15, [.tmp 2]⟩
theorem Tryd.ek131 : KnownE Tryd.prog 131 Tryd.ec131 := ⟨Tryd.f131, _, Tryd.func131, rfl, by kernel_rfl, rfl, by kernel_rfl, by kernel_rfl⟩

/-- internal/strconv.numDigits -/
def Tryd.ec132 : EFn := ⟨(.seq (.ops [⟨some 2, none, .mov (.v (.int .i64 0))⟩])
  (.seq (.ops [⟨some 4, none, .mov (.t 0)⟩, ⟨some 5, none, .call 121 [(.t 4)]⟩, ⟨some 6, none, .call 150 [(.t 5)]⟩, ⟨some 3, none, .mov (.t 6)⟩])
  (.seq (.ops [⟨some 7, none, .mov (.t 3)⟩, ⟨some 8, none, .mov (.t 0)⟩, ⟨some 9, none, .mov (.t 3)⟩, ⟨some 10, none, .ixA 20 1 (.v (.pointer (some ⟨3, 0, none⟩))) (.t 9)⟩, ⟨some 11, none, .ld (.t 10)⟩, ⟨some 12, none, .bin .geq (.t 8) (.t 11)⟩, ⟨some 13, none, .call 151 [(.t 12)]⟩, ⟨some 14, none, .bin .add (.t 7) (.t 13)⟩, ⟨some 2, none, .mov (.t 14)⟩])
  .ret))), 15, [.tmp 2]⟩
theorem Tryd.ek132 : KnownE Tryd.prog 132 Tryd.ec132 := ⟨Tryd.f132, _, Tryd.func132, rfl, by kernel_rfl, rfl, by kernel_rfl, by kernel_rfl⟩

/-- internal/strconv.formatBase10 -/
def Tryd.ec133 : EFn := ⟨(.seq (.ops [⟨some 17, none, .mov (.t 0)⟩, ⟨some 18, none, .lenS (.t 17)⟩, ⟨some 4, none, .mov (.t 18)⟩])
  (.seq (.block 0 (.loop [0, 1, 4] (.seq (.seq (.ops [⟨some 19, none, .mov (.t 4)⟩, ⟨some 20, none, .bin .geq (.t 19) (.v (.int .i64 8))⟩])
    (.cond (.t 20) .skip (.exit 0)))
    (.block 1 (.seq (.ops [⟨some 21, none, .mov (.t 1)⟩, ⟨some 22, none, .bin .rem (.t 21) (.v (.int .u64 100000000))⟩, ⟨some 23, none, .cvt .u32 (.t 22)⟩, ⟨some 5, none, .mov (.t 23)⟩])
     (.seq (.ops [⟨some 24, none, .mov (.t 1)⟩, ⟨some 25, none, .bin .quo (.t 24) (.v (.int .u64 100000000))⟩, ⟨some 1, none, .mov (.t 25)⟩])
     (.seq (.ops [⟨some 26, none, .mov (.t 5)⟩, ⟨some 27, none, .bin .quo (.t 26) (.v (.int .u32 10000))⟩, ⟨some 28, none, .mov (.t 5)⟩, ⟨some 29, none, .bin .rem (.t 28) (.v (.int .u32 10000))⟩, ⟨some 6, none, .mov (.t 27)⟩, ⟨some 7, none, .mov (.t 29)⟩])
     (.seq (.ops [⟨some 30, none, .mov (.t 7)⟩, ⟨some 31, none, .bin .quo (.t 30) (.v (.int .u32 100))⟩, ⟨some 32, none, .bin .mul (.t 31) (.v (.int .u32 2))⟩, ⟨some 33, none, .mov (.t 7)⟩, ⟨some 34, none, .bin .rem (.t 33) (.v (.int .u32 100))⟩, ⟨some 35, none, .bin .mul (.t 34) (.v (.int .u32 2))⟩, ⟨some 8, none, .mov (.t 32)⟩, ⟨some 9, none, .mov (.t 35)⟩])
     (.seq (.ops [⟨some 36, none, .mov (.t 6)⟩, ⟨some 37, none, .bin .quo (.t 36) (.v (.int .u32 100))⟩, ⟨some 38, none, .bin .mul (.t 37) (.v (.int .u32 2))⟩, ⟨some 39, none, .mov (.t 6)⟩, ⟨some 40, none, .bin .rem (.t 39) (.v (.int .u32 100))⟩, ⟨some 41, none, .bin .mul (.t 40) (.v (.int .u32 2))⟩, ⟨some 10, none, .mov (.t 38)⟩, ⟨some 11, none, .mov (.t 41)⟩])
     (.seq (.drawn [0, 0, 2, 0, 0, 16, 0, 64, 192, 0, 512, 455, 2503, 8191, 16383] 13 [⟨some 42, none, .mov (.t 0)⟩, ⟨some 43, none, .mov (.t 4)⟩, ⟨some 44, none, .bin .sub (.t 43) (.v (.int .i64 1))⟩, ⟨some 45, none, .mov (.t 0)⟩, ⟨some 46, none, .mov (.t 4)⟩, ⟨some 47, none, .bin .sub (.t 46) (.v (.int .i64 2))⟩, ⟨some 48, none, .mov (.t 9)⟩, ⟨some 49, none, .bin .add (.t 48) (.v (.int .u32 1))⟩, ⟨some 50, none, .ixStr (.v (.string ⟨#[48, 48, 48, 49, 48, 50, 48, 51, 48, 52, 48, 53, 48, 54, 48, 55, 48, 56, 48, 57, 49, 48, 49, 49, 49, 50, 49, 51, 49, 52, 49, 53, 49, 54, 49, 55, 49, 56, 49, 57, 50, 48, 50, 49, 50, 50, 50, 51, 50, 52, 50, 53, 50, 54, 50, 55, 50, 56, 50, 57, 51, 48, 51, 49, 51, 50, 51, 51, 51, 52, 51, 53, 51, 54, 51, 55, 51, 56, 51, 57, 52, 48, 52, 49, 52, 50, 52, 51, 52, 52, 52, 53, 52, 54, 52, 55, 52, 56, 52, 57, 53, 48, 53, 49, 53, 50, 53, 51, 53, 52, 53, 53, 53, 54, 53, 55, 53, 56, 53, 57, 54, 48, 54, 49, 54, 50, 54, 51, 54, 52, 54, 53, 54, 54, 54, 55, 54, 56, 54, 57, 55, 48, 55, 49, 55, 50, 55, 51, 55, 52, 55, 53, 55, 54, 55, 55, 55, 56, 55, 57, 56, 48, 56, 49, 56, 50, 56, 51, 56, 52, 56, 53, 56, 54, 56, 55, 56, 56, 56, 57, 57, 48, 57, 49, 57, 50, 57, 51, 57, 52, 57, 53, 57, 54, 57, 55, 57, 56, 57, 57]⟩)) (.t 49)⟩, ⟨some 51, none, .mov (.t 9)⟩, ⟨some 52, none, .ixStr (.v (.string ⟨#[48, 48, 48, 49, 48, 50, 48, 51, 48, 52, 48, 53, 48, 54, 48, 55, 48, 56, 48, 57, 49, 48, 49, 49, 49, 50, 49, 51, 49, 52, 49, 53, 49, 54, 49, 55, 49, 56, 49, 57, 50, 48, 50, 49, 50, 50, 50, 51, 50, 52, 50, 53, 50, 54, 50, 55, 50, 56, 50, 57, 51, 48, 51, 49, 51, 50, 51, 51, 51, 52, 51, 53, 51, 54, 51, 55, 51, 56, 51, 57, 52, 48, 52, 49, 52, 50, 52, 51, 52, 52, 52, 53, 52, 54, 52, 55, 52, 56, 52, 57, 53, 48, 53, 49, 53, 50, 53, 51, 53, 52, 53, 53, 53, 54, 53, 55, 53, 56, 53, 57, 54, 48, 54, 49, 54, 50, 54, 51, 54, 52, 54, 53, 54, 54, 54, 55, 54, 56, 54, 57, 55, 48, 55, 49, 55, 50, 55, 51, 55, 52, 55, 53, 55, 54, 55, 55, 55, 56, 55, 57, 56, 48, 56, 49, 56, 50, 56, 51, 56, 52, 56, 53, 56, 54, 56, 55, 56, 56, 56, 57, 57, 48, 57, 49, 57, 50, 57, 51, 57, 52, 57, 53, 57, 54, 57, 55, 57, 56, 57, 57]⟩)) (.t 51)⟩, ⟨some 53, none, .ixS 1 (.t 42) (.t 44)⟩, ⟨none, none, .st 1 (.t 53) (.t 50)⟩, ⟨some 54, none, .ixS 1 (.t 45) (.t 47)⟩, ⟨none, none, .st 1 (.t 54) (.t 52)⟩])
     (.seq (.drawn [0, 0, 2, 0, 0, 16, 0, 64, 192, 0, 512, 455, 2503, 8191, 16383] 13 [⟨some 55, none, .mov (.t 0)⟩, ⟨some 56, none, .mov (.t 4)⟩, ⟨some 57, none, .bin .sub (.t 56) (.v (.int .i64 3))⟩, ⟨some 58, none, .mov (.t 0)⟩, ⟨some 59, none, .mov (.t 4)⟩, ⟨some 60, none, .bin .sub (.t 59) (.v (.int .i64 4))⟩, ⟨some 61, none, .mov (.t 8)⟩, ⟨some 62, none, .bin .add (.t 61) (.v (.int .u32 1))⟩, ⟨some 63, none, .ixStr (.v (.string ⟨#[48, 48, 48, 49, 48, 50, 48, 51, 48, 52, 48, 53, 48, 54, 48, 55, 48, 56, 48, 57, 49, 48, 49, 49, 49, 50, 49, 51, 49, 52, 49, 53, 49, 54, 49, 55, 49, 56, 49, 57, 50, 48, 50, 49, 50, 50, 50, 51, 50, 52, 50, 53, 50, 54, 50, 55, 50, 56, 50, 57, 51, 48, 51, 49, 51, 50, 51, 51, 51, 52, 51, 53, 51, 54, 51, 55, 51, 56, 51, 57, 52, 48, 52, 49, 52, 50, 52, 51, 52, 52, 52, 53, 52, 54, 52, 55, 52, 56, 52, 57, 53, 48, 53, 49, 53, 50, 53, 51, 53, 52, 53, 53, 53, 54, 53, 55, 53, 56, 53, 57, 54, 48, 54, 49, 54, 50, 54, 51, 54, 52, 54, 53, 54, 54, 54, 55, 54, 56, 54, 57, 55, 48, 55, 49, 55, 50, 55, 51, 55, 52, 55, 53, 55, 54, 55, 55, 55, 56, 55, 57, 56, 48, 56, 49, 56, 50, 56, 51, 56, 52, 56, 53, 56, 54, 56, 55, 56, 56, 56, 57, 57, 48, 57, 49, 57, 50, 57, 51, 57, 52, 57, 53, 57, 54, 57, 55, 57, 56, 57, 57]⟩)) (.t 62)⟩, ⟨some 64, none, .mov (.t 8)⟩, ⟨some 65, none, .ixStr (.v (.string ⟨#[48, 48, 48, 49, 48, 50, 48, 51, 48, 52, 48, 53, 48, 54, 48, 55, 48, 56, 48, 57, 49, 48, 49, 49, 49, 50, 49, 51, 49, 52, 49, 53, 49, 54, 49, 55, 49, 56, 49, 57, 50, 48, 50, 49, 50, 50, 50, 51, 50, 52, 50, 53, 50, 54, 50, 55, 50, 56, 50, 57, 51, 48, 51, 49, 51, 50, 51, 51, 51, 52, 51, 53, 51, 54, 51, 55, 51, 56, 51, 57, 52, 48, 52, 49, 52, 50, 52, 51, 52, 52, 52, 53, 52, 54, 52, 55, 52, 56, 52, 57, 53, 48, 53, 49, 53, 50, 53, 51, 53, 52, 53, 53, 53, 54, 53, 55, 53, 56, 53, 57, 54, 48, 54, 49, 54, 50, 54, 51, 54, 52, 54, 53, 54, 54, 54, 55, 54, 56, 54, 57, 55, 48, 55, 49, 55, 50, 55, 51, 55, 52, 55, 53, 55, 54, 55, 55, 55, 56, 55, 57, 56, 48, 56, 49, 56, 50, 56, 51, 56, 52, 56, 53, 56, 54, 56, 55, 56, 56, 56, 57, 57, 48, 57, 49, 57, 50, 57, 51, 57, 52, 57, 53, 57, 54, 57, 55, 57, 56, 57, 57]⟩)) (.t 64)⟩, ⟨some 66, none, .ixS 1 (.t 55) (.t 57)⟩, ⟨none, none, .st 1 (.t 66) (.t 63)⟩, ⟨some 67, none, .ixS 1 (.t 58) (.t 60)⟩, ⟨none, none, .st 1 (.t 67) (.t 65)⟩])
     (.seq (.drawn [0, 0, 2, 0, 0, 16, 0, 64, 192, 0, 512, 455, 2503, 8191, 16383] 13 [⟨some 68, none, .mov (.t 0)⟩, ⟨some 69, none, .mov (.t 4)⟩, ⟨some 70, none, .bin .sub (.t 69) (.v (.int .i64 5))⟩, ⟨some 71, none, .mov (.t 0)⟩, ⟨some 72, none, .mov (.t 4)⟩, ⟨some 73, none, .bin .sub (.t 72) (.v (.int .i64 6))⟩, ⟨some 74, none, .mov (.t 11)⟩, ⟨some 75, none, .bin .add (.t 74) (.v (.int .u32 1))⟩, ⟨some 76, none, .ixStr (.v (.string ⟨#[48, 48, 48, 49, 48, 50, 48, 51, 48, 52, 48, 53, 48, 54, 48, 55, 48, 56, 48, 57, 49, 48, 49, 49, 49, 50, 49, 51, 49, 52, 49, 53, 49, 54, 49, 55, 49, 56, 49, 57, 50, 48, 50, 49, 50, 50, 50, 51, 50, 52, 50, 53, 50, 54, 50, 55, 50, 56, 50, 57, 51, 48, 51, 49, 51, 50, 51, 51, 51, 52, 51, 53, 51, 54, 51, 55, 51, 56, 51, 57, 52, 48, 52, 49, 52, 50, 52, 51, 52, 52, 52, 53, 52, 54, 52, 55, 52, 56, 52, 57, 53, 48, 53, 49, 53, 50, 53, 51, 53, 52, 53, 53, 53, 54, 53, 55, 53, 56, 53, 57, 54, 48, 54, 49, 54, 50, 54, 51, 54, 52, 54, 53, 54, 54, 54, 55, 54, 56, 54, 57, 55, 48, 55, 49, 55, 50, 55, 51, 55, 52, 55, 53, 55, 54, 55, 55, 55, 56, 55, 57, 56, 48, 56, 49, 56, 50, 56, 51, 56, 52, 56, 53, 56, 54, 56, 55, 56, 56, 56, 57, 57, 48, 57, 49, 57, 50, 57, 51, 57, 52, 57, 53, 57, 54, 57, 55, 57, 56, 57, 57]⟩)) (.t 75)⟩, ⟨some 77, none, .mov (.t 11)⟩, ⟨some 78, none, .ixStr (.v (.string ⟨#[48, 48, 48, 49, 48, 50, 48, 51, 48, 52, 48, 53, 48, 54, 48, 55, 48, 56, 48, 57, 49, 48, 49, 49, 49, 50, 49, 51, 49, 52, 49, 53, 49, 54, 49, 55, 49, 56, 49, 57, 50, 48, 50, 49, 50, 50, 50, 51, 50, 52, 50, 53, 50, 54, 50, 55, 50, 56, 50, 57, 51, 48, 51, 49, 51, 50, 51, 51, 51, 52, 51, 53, 51, 54, 51, 55, 51, 56, 51, 57, 52, 48, 52, 49, 52, 50, 52, 51, 52, 52, 52, 53, 52, 54, 52, 55, 52, 56, 52, 57, 53, 48, 53, 49, 53, 50, 53, 51, 53, 52, 53, 53, 53, 54, 53, 55, 53, 56, 53, 57, 54, 48, 54, 49, 54, 50, 54, 51, 54, 52, 54, 53, 54, 54, 54, 55, 54, 56, 54, 57, 55, 48, 55, 49, 55, 50, 55, 51, 55, 52, 55, 53, 55, 54, 55, 55, 55, 56, 55, 57, 56, 48, 56, 49, 56, 50, 56, 51, 56, 52, 56, 53, 56, 54, 56, 55, 56, 56, 56, 57, 57, 48, 57, 49, 57, 50, 57, 51, 57, 52, 57, 53, 57, 54, 57, 55, 57, 56, 57, 57]⟩)) (.t 77)⟩, ⟨some 79, none, .ixS 1 (.t 68) (.t 70)⟩, ⟨none, none, .st 1 (.t 79) (.t 76)⟩, ⟨some 80, none, .ixS 1 (.t 71) (.t 73)⟩, ⟨none, none, .st 1 (.t 80) (.t 78)⟩])
     (.seq (.drawn [0, 0, 2, 0, 0, 16, 0, 64, 192, 0, 512, 455, 2503, 8191, 16383] 13 [⟨some 81, none, .mov (.t 0)⟩, ⟨some 82, none, .mov (.t 4)⟩, ⟨some 83, none, .bin .sub (.t 82) (.v (.int .i64 7))⟩, ⟨some 84, none, .mov (.t 0)⟩, ⟨some 85, none, .mov (.t 4)⟩, ⟨some 86, none, .bin .sub (.t 85) (.v (.int .i64 8))⟩, ⟨some 87, none, .mov (.t 10)⟩, ⟨some 88, none, .bin .add (.t 87) (.v (.int .u32 1))⟩, ⟨some 89, none, .ixStr (.v (.string ⟨#[48, 48, 48, 49, 48, 50, 48, 51, 48, 52, 48, 53, 48, 54, 48, 55, 48, 56, 48, 57, 49, 48, 49, 49, 49, 50, 49, 51, 49, 52, 49, 53, 49, 54, 49, 55, 49, 56, 49, 57, 50, 48, 50, 49, 50, 50, 50, 51, 50, 52, 50, 53, 50, 54, 50, 55, 50, 56, 50, 57, 51, 48, 51, 49, 51, 50, 51, 51, 51, 52, 51, 53, 51, 54, 51, 55, 51, 56, 51, 57, 52, 48, 52, 49, 52, 50, 52, 51, 52, 52, 52, 53, 52, 54, 52, 55, 52, 56, 52, 57, 53, 48, 53, 49, 53, 50, 53, 51, 53, 52, 53, 53, 53, 54, 53, 55, 53, 56, 53, 57, 54, 48, 54, 49, 54, 50, 54, 51, 54, 52, 54, 53, 54, 54, 54, 55, 54, 56, 54, 57, 55, 48, 55, 49, 55, 50, 55, 51, 55, 52, 55, 53, 55, 54, 55, 55, 55, 56, 55, 57, 56, 48, 56, 49, 56, 50, 56, 51, 56, 52, 56, 53, 56, 54, 56, 55, 56, 56, 56, 57, 57, 48, 57, 49, 57, 50, 57, 51, 57, 52, 57, 53, 57, 54, 57, 55, 57, 56, 57, 57]⟩)) (.t 88)⟩, ⟨some 90, none, .mov (.t 10)⟩, ⟨some 91, none, .ixStr (.v (.string ⟨#[48, 48, 48, 49, 48, 50, 48, 51, 48, 52, 48, 53, 48, 54, 48, 55, 48, 56, 48, 57, 49, 48, 49, 49, 49, 50, 49, 51, 49, 52, 49, 53, 49, 54, 49, 55, 49, 56, 49, 57, 50, 48, 50, 49, 50, 50, 50, 51, 50, 52, 50, 53, 50, 54, 50, 55, 50, 56, 50, 57, 51, 48, 51, 49, 51, 50, 51, 51, 51, 52, 51, 53, 51, 54, 51, 55, 51, 56, 51, 57, 52, 48, 52, 49, 52, 50, 52, 51, 52, 52, 52, 53, 52, 54, 52, 55, 52, 56, 52, 57, 53, 48, 53, 49, 53, 50, 53, 51, 53, 52, 53, 53, 53, 54, 53, 55, 53, 56, 53, 57, 54, 48, 54, 49, 54, 50, 54, 51, 54, 52, 54, 53, 54, 54, 54, 55, 54, 56, 54, 57, 55, 48, 55, 49, 55, 50, 55, 51, 55, 52, 55, 53, 55, 54, 55, 55, 55, 56, 55, 57, 56, 48, 56, 49, 56, 50, 56, 51, 56, 52, 56, 53, 56, 54, 56, 55, 56, 56, 56, 57, 57, 48, 57, 49, 57, 50, 57, 51, 57, 52, 57, 53, 57, 54, 57, 55, 57, 56, 57, 57]⟩)) (.t 90)⟩, ⟨some 92, none, .ixS 1 (.t 81) (.t 83)⟩, ⟨none, none, .st 1 (.t 92) (.t 89)⟩, ⟨some 93, none, .ixS 1 (.t 84) (.t 86)⟩, ⟨none, none, .st 1 (.t 93) (.t 91)⟩])
     (.ops [⟨some 94, none, .mov (.t 4)⟩, ⟨some 95, none, .bin .sub (.t 94) (.v (.int .i64 8))⟩, ⟨some 4, none, .mov (.t 95)⟩]))))))))))))))
  (.seq (.ops [⟨some 96, none, .mov (.t 1)⟩, ⟨some 97, none, .cvt .u32 (.t 96)⟩, ⟨some 12, none, .mov (.t 97)⟩])
  (.seq (.seq (.ops [⟨some 98, none, .mov (.t 4)⟩, ⟨some 99, none, .bin .geq (.t 98) (.v (.int .i64 4))⟩])
  (.cond (.t 99) (.seq (.ops [⟨some 100, none, .mov (.t 12)⟩, ⟨some 101, none, .bin .rem (.t 100) (.v (.int .u32 10000))⟩, ⟨some 13, none, .mov (.t 101)⟩])
   (.seq (.ops [⟨some 102, none, .mov (.t 12)⟩, ⟨some 103, none, .bin .quo (.t 102) (.v (.int .u32 10000))⟩, ⟨some 12, none, .mov (.t 103)⟩])
   (.seq (.ops [⟨some 104, none, .mov (.t 13)⟩, ⟨some 105, none, .bin .quo (.t 104) (.v (.int .u32 100))⟩, ⟨some 106, none, .bin .mul (.t 105) (.v (.int .u32 2))⟩, ⟨some 107, none, .mov (.t 13)⟩, ⟨some 108, none, .bin .rem (.t 107) (.v (.int .u32 100))⟩, ⟨some 109, none, .bin .mul (.t 108) (.v (.int .u32 2))⟩, ⟨some 14, none, .mov (.t 106)⟩, ⟨some 15, none, .mov (.t 109)⟩])
   (.seq (.drawn [0, 0, 2, 0, 0, 16, 0, 64, 192, 0, 512, 455, 2503, 8191, 16383] 13 [⟨some 110, none, .mov (.t 0)⟩, ⟨some 111, none, .mov (.t 4)⟩, ⟨some 112, none, .bin .sub (.t 111) (.v (.int .i64 1))⟩, ⟨some 113, none, .mov (.t 0)⟩, ⟨some 114, none, .mov (.t 4)⟩, ⟨some 115, none, .bin .sub (.t 114) (.v (.int .i64 2))⟩, ⟨some 116, none, .mov (.t 15)⟩, ⟨some 117, none, .bin .add (.t 116) (.v (.int .u32 1))⟩, ⟨some 118, none, .ixStr (.v (.string ⟨#[48, 48, 48, 49, 48, 50, 48, 51, 48, 52, 48, 53, 48, 54, 48, 55, 48, 56, 48, 57, 49, 48, 49, 49, 49, 50, 49, 51, 49, 52, 49, 53, 49, 54, 49, 55, 49, 56, 49, 57, 50, 48, 50, 49, 50, 50, 50, 51, 50, 52, 50, 53, 50, 54, 50, 55, 50, 56, 50, 57, 51, 48, 51, 49, 51, 50, 51, 51, 51, 52, 51, 53, 51, 54, 51, 55, 51, 56, 51, 57, 52, 48, 52, 49, 52, 50, 52, 51, 52, 52, 52, 53, 52, 54, 52, 55, 52, 56, 52, 57, 53, 48, 53, 49, 53, 50, 53, 51, 53, 52, 53, 53, 53, 54, 53, 55, 53, 56, 53, 57, 54, 48, 54, 49, 54, 50, 54, 51, 54, 52, 54, 53, 54, 54, 54, 55, 54, 56, 54, 57, 55, 48, 55, 49, 55, 50, 55, 51, 55, 52, 55, 53, 55, 54, 55, 55, 55, 56, 55, 57, 56, 48, 56, 49, 56, 50, 56, 51, 56, 52, 56, 53, 56, 54, 56, 55, 56, 56, 56, 57, 57, 48, 57, 49, 57, 50, 57, 51, 57, 52, 57, 53, 57, 54, 57, 55, 57, 56, 57, 57]⟩)) (.t 117)⟩, ⟨some 119, none, .mov (.t 15)⟩, ⟨some 120, none, .ixStr (.v (.string ⟨#[48, 48, 48, 49, 48, 50, 48, 51, 48, 52, 48, 53, 48, 54, 48, 55, 48, 56, 48, 57, 49, 48, 49, 49, 49, 50, 49, 51, 49, 52, 49, 53, 49, 54, 49, 55, 49, 56, 49, 57, 50, 48, 50, 49, 50, 50, 50, 51, 50, 52, 50, 53, 50, 54, 50, 55, 50, 56, 50, 57, 51, 48, 51, 49, 51, 50, 51, 51, 51, 52, 51, 53, 51, 54, 51, 55, 51, 56, 51, 57, 52, 48, 52, 49, 52, 50, 52, 51, 52, 52, 52, 53, 52, 54, 52, 55, 52, 56, 52, 57, 53, 48, 53, 49, 53, 50, 53, 51, 53, 52, 53, 53, 53, 54, 53, 55, 53, 56, 53, 57, 54, 48, 54, 49, 54, 50, 54, 51, 54, 52, 54, 53, 54, 54, 54, 55, 54, 56, 54, 57, 55, 48, 55, 49, 55, 50, 55, 51, 55, 52, 55, 53, 55, 54, 55, 55, 55, 56, 55, 57, 56, 48, 56, 49, 56, 50, 56, 51, 56, 52, 56, 53, 56, 54, 56, 55, 56, 56, 56, 57, 57, 48, 57, 49, 57, 50, 57, 51, 57, 52, 57, 53, 57, 54, 57, 55, 57, 56, 57, 57]⟩)) (.t 119)⟩, ⟨some 121, none, .ixS 1 (.t 110) (.t 112)⟩, ⟨none, none, .st 1 (.t 121) (.t 118)⟩, ⟨some 122, none, .ixS 1 (.t 113) (.t 115)⟩, ⟨none, none, .st 1 (.t 122) (.t 120)⟩])
   (.seq (.drawn [0, 0, 2, 0, 0, 16, 0, 64, 192, 0, 512, 455, 2503, 8191, 16383] 13 [⟨some 123, none, .mov (.t 0)⟩, ⟨some 124, none, .mov (.t 4)⟩, ⟨some 125, none, .bin .sub (.t 124) (.v (.int .i64 3))⟩, ⟨some 126, none, .mov (.t 0)⟩, ⟨some 127, none, .mov (.t 4)⟩, ⟨some 128, none, .bin .sub (.t 127) (.v (.int .i64 4))⟩, ⟨some 129, none, .mov (.t 14)⟩, ⟨some 130, none, .bin .add (.t 129) (.v (.int .u32 1))⟩, ⟨some 131, none, .ixStr (.v (.string ⟨#[48, 48, 48, 49, 48, 50, 48, 51, 48, 52, 48, 53, 48, 54, 48, 55, 48, 56, 48, 57, 49, 48, 49, 49, 49, 50, 49, 51, 49, 52, 49, 53, 49, 54, 49, 55, 49, 56, 49, 57, 50, 48, 50, 49, 50, 50, 50, 51, 50, 52, 50, 53, 50, 54, 50, 55, 50, 56, 50, 57, 51, 48, 51, 49, 51, 50, 51, 51, 51, 52, 51, 53, 51, 54, 51, 55, 51, 56, 51, 57, 52, 48, 52, 49, 52, 50, 52, 51, 52, 52, 52, 53, 52, 54, 52, 55, 52, 56, 52, 57, 53, 48, 53, 49, 53, 50, 53, 51, 53, 52, 53, 53, 53, 54, 53, 55, 53, 56, 53, 57, 54, 48, 54, 49, 54, 50, 54, 51, 54, 52, 54, 53, 54, 54, 54, 55, 54, 56, 54, 57, 55, 48, 55, 49, 55, 50, 55, 51, 55, 52, 55, 53, 55, 54, 55, 55, 55, 56, 55, 57, 56, 48, 56, 49, 56, 50, 56, 51, 56, 52, 56, 53, 56, 54, 56, 55, 56, 56, 56, 57, 57, 48, 57, 49, 57, 50, 57, 51, 57, 52, 57, 53, 57, 54, 57, 55, 57, 56, 57, 57]⟩)) (.t 130)⟩, ⟨some 132, none, .mov (.t 14)⟩, ⟨some 133, none, .ixStr (.v (.string ⟨#[48, 48, 48, 49, 48, 50, 48, 51, 48, 52, 48, 53, 48, 54, 48, 55, 48, 56, 48, 57, 49, 48, 49, 49, 49, 50, 49, 51, 49, 52, 49, 53, 49, 54, 49, 55, 49, 56, 49, 57, 50, 48, 50, 49, 50, 50, 50, 51, 50, 52, 50, 53, 50, 54, 50, 55, 50, 56, 50, 57, 51, 48, 51, 49, 51, 50, 51, 51, 51, 52, 51, 53, 51, 54, 51, 55, 51, 56, 51, 57, 52, 48, 52, 49, 52, 50, 52, 51, 52, 52, 52, 53, 52, 54, 52, 55, 52, 56, 52, 57, 53, 48, 53, 49, 53, 50, 53, 51, 53, 52, 53, 53, 53, 54, 53, 55, 53, 56, 53, 57, 54, 48, 54, 49, 54, 50, 54, 51, 54, 52, 54, 53, 54, 54, 54, 55, 54, 56, 54, 57, 55, 48, 55, 49, 55, 50, 55, 51, 55, 52, 55, 53, 55, 54, 55, 55, 55, 56, 55, 57, 56, 48, 56, 49, 56, 50, 56, 51, 56, 52, 56, 53, 56, 54, 56, 55, 56, 56, 56, 57, 57, 48, 57, 49, 57, 50, 57, 51, 57, 52, 57, 53, 57, 54, 57, 55, 57, 56, 57, 57]⟩)) (.t 132)⟩, ⟨some 134, none, .ixS 1 (.t 123) (.t 125)⟩, ⟨none, none, .st 1 (.t 134) (.t 131)⟩, ⟨some 135, none, .ixS 1 (.t 126) (.t 128)⟩, ⟨none, none, .st 1 (.t 135) (.t 133)⟩])
   (.ops [⟨some 136, none, .mov (.t 4)⟩, ⟨some 137, none, .bin .sub (.t 136) (.v (.int .i64 4))⟩, ⟨some 4, none, .mov (.t 137)⟩])))))) .skip))
  (.seq (.seq (.ops [⟨some 138, none, .mov (.t 4)⟩, ⟨some 139, none, .bin .geq (.t 138) (.v (.int .i64 2))⟩])
  (.cond (.t 139) (.seq (.ops [⟨some 140, none, .mov (.t 12)⟩, ⟨some 141, none, .bin .rem (.t 140) (.v (.int .u32 100))⟩, ⟨some 142, none, .bin .mul (.t 141) (.v (.int .u32 2))⟩, ⟨some 16, none, .mov (.t 142)⟩])
   (.seq (.ops [⟨some 143, none, .mov (.t 12)⟩, ⟨some 144, none, .bin .quo (.t 143) (.v (.int .u32 100))⟩, ⟨some 12, none, .mov (.t 144)⟩])
   (.seq (.drawn [0, 0, 2, 0, 0, 16, 0, 64, 192, 0, 512, 455, 2503, 8191, 16383] 13 [⟨some 145, none, .mov (.t 0)⟩, ⟨some 146, none, .mov (.t 4)⟩, ⟨some 147, none, .bin .sub (.t 146) (.v (.int .i64 1))⟩, ⟨some 148, none, .mov (.t 0)⟩, ⟨some 149, none, .mov (.t 4)⟩, ⟨some 150, none, .bin .sub (.t 149) (.v (.int .i64 2))⟩, ⟨some 151, none, .mov (.t 16)⟩, ⟨some 152, none, .bin .add (.t 151) (.v (.int .u32 1))⟩, ⟨some 153, none, .ixStr (.v (.string ⟨#[48, 48, 48, 49, 48, 50, 48, 51, 48, 52, 48, 53, 48, 54, 48, 55, 48, 56, 48, 57, 49, 48, 49, 49, 49, 50, 49, 51, 49, 52, 49, 53, 49, 54, 49, 55, 49, 56, 49, 57, 50, 48, 50, 49, 50, 50, 50, 51, 50, 52, 50, 53, 50, 54, 50, 55, 50, 56, 50, 57, 51, 48, 51, 49, 51, 50, 51, 51, 51, 52, 51, 53, 51, 54, 51, 55, 51, 56, 51, 57, 52, 48, 52, 49, 52, 50, 52, 51, 52, 52, 52, 53, 52, 54, 52, 55, 52, 56, 52, 57, 53, 48, 53, 49, 53, 50, 53, 51, 53, 52, 53, 53, 53, 54, 53, 55, 53, 56, 53, 57, 54, 48, 54, 49, 54, 50, 54, 51, 54, 52, 54, 53, 54, 54, 54, 55, 54, 56, 54, 57, 55, 48, 55, 49, 55, 50, 55, 51, 55, 52, 55, 53, 55, 54, 55, 55, 55, 56, 55, 57, 56, 48, 56, 49, 56, 50, 56, 51, 56, 52, 56, 53, 56, 54, 56, 55, 56, 56, 56, 57, 57, 48, 57, 49, 57, 50, 57, 51, 57, 52, 57, 53, 57, 54, 57, 55, 57, 56, 57, 57]⟩)) (.t 152)⟩, ⟨some 154, none, .mov (.t 16)⟩, ⟨some 155, none, .ixStr (.v (.string ⟨#[48, 48, 48, 49, 48, 50, 48, 51, 48, 52, 48, 53, 48, 54, 48, 55, 48, 56, 48, 57, 49, 48, 49, 49, 49, 50, 49, 51, 49, 52, 49, 53, 49, 54, 49, 55, 49, 56, 49, 57, 50, 48, 50, 49, 50, 50, 50, 51, 50, 52, 50, 53, 50, 54, 50, 55, 50, 56, 50, 57, 51, 48, 51, 49, 51, 50, 51, 51, 51, 52, 51, 53, 51, 54, 51, 55, 51, 56, 51, 57, 52, 48, 52, 49, 52, 50, 52, 51, 52, 52, 52, 53, 52, 54, 52, 55, 52, 56, 52, 57, 53, 48, 53, 49, 53, 50, 53, 51, 53, 52, 53, 53, 53, 54, 53, 55, 53, 56, 53, 57, 54, 48, 54, 49, 54, 50, 54, 51, 54, 52, 54, 53, 54, 54, 54, 55, 54, 56, 54, 57, 55, 48, 55, 49, 55, 50, 55, 51, 55, 52, 55, 53, 55, 54, 55, 55, 55, 56, 55, 57, 56, 48, 56, 49, 56, 50, 56, 51, 56, 52, 56, 53, 56, 54, 56, 55, 56, 56, 56, 57, 57, 48, 57, 49, 57, 50, 57, 51, 57, 52, 57, 53, 57, 54, 57, 55, 57, 56, 57, 57]⟩)) (.t 154)⟩, ⟨some 156, none, .ixS 1 (.t 145) (.t 147)⟩, ⟨none, none, .st 1 (.t 156) (.t 153)⟩, ⟨some 157, none, .ixS 1 (.t 148) (.t 150)⟩, ⟨none, none, .st 1 (.t 157) (.t 155)⟩])
   (.ops [⟨some 158, none, .mov (.t 4)⟩, ⟨some 159, none, .bin .sub (.t 158) (.v (.int .i64 2))⟩, ⟨some 4, none, .mov (.t 159)⟩])))) .skip))
  (.seq (.ops [⟨some 160, none, .mov (.t 4)⟩, ⟨some 161, none, .bin .gtr (.t 160) (.v (.int .i64 0))⟩])
  (.cond (.t 161) (.ops [⟨some 162, none, .mov (.t 0)⟩, ⟨some 163, none, .mov (.t 12)⟩, ⟨some 164, none, .bin .add (.v (.int .u32 48)) (.t 163)⟩, ⟨some 165, none, .cvt .u8 (.t 164)⟩, ⟨some 166, none, .ixS 1 (.t 162) (.v (.int .i64 0))⟩, ⟨none, none, .st 1 (.t 166) (.t 165)⟩]) .skip))))))), 167, []⟩
theorem Tryd.ek133 : KnownE Tryd.prog 133 Tryd.ec133 := ⟨Tryd.f133, _, Tryd.func133, rfl, by kernel_rfl, rfl, by kernel_rfl, by kernel_rfl⟩

/-- internal/strconv.formatBits -/
def Tryd.ec134 : EFn := ⟨(.seq (.ops [⟨some 10, none, .mov (.v (.slice none 0 0))⟩, ⟨some 11, none, .mov (.v (.string ⟨#[]⟩))⟩])
  (.seq (.seq (.ops [⟨some 19, none, .mov (.t 2)⟩, ⟨some 20, none, .bin .lss (.t 19) (.v (.int .i64 2))⟩, ⟨some 21, none, .mov (.t 20)⟩, ⟨some 22, (some (21, false)), .mov (.t 2)⟩, ⟨some 23, (some (21, false)), .bin .eql (.t 22) (.v (.int .i64 10))⟩, ⟨some 24, none, .pick (.t 21) (.v (.bool true)) (.t 23)⟩, ⟨some 25, none, .mov (.t 24)⟩, ⟨some 26, (some (25, false)), .mov (.t 2)⟩, ⟨some 27, (some (25, false)), .bin .gtr (.t 26) (.v (.int .i64 36))⟩, ⟨some 28, none, .pick (.t 25) (.v (.bool true)) (.t 27)⟩])
  (.cond (.t 28) (.ops [⟨some 29, none, .more (.mkI 9 (.v (.string ⟨#[115, 116, 114, 99, 111, 110, 118, 58, 32, 105, 108, 108, 101, 103, 97, 108, 32, 65, 112, 112, 101, 110, 100, 73, 110, 116, 47, 70, 111, 114, 109, 97, 116, 73, 110, 116, 32, 98, 97, 115, 101]⟩)))⟩, ⟨none, none, .more .other⟩]) .skip))
  (.seq (.ops [⟨some 12, none, .al 149 [.int .u8 0, .int .u8 0, .int .u8 0, .int .u8 0, .int .u8 0, .int .u8 0, .int .u8 0, .int .u8 0, .int .u8 0, .int .u8 0, .int .u8 0, .int .u8 0, .int .u8 0, .int .u8 0, .int .u8 0, .int .u8 0, .int .u8 0, .int .u8 0, .int .u8 0, .int .u8 0, .int .u8 0, .int .u8 0, .int .u8 0, .int .u8 0, .int .u8 0, .int .u8 0, .int .u8 0, .int .u8 0, .int .u8 0, .int .u8 0, .int .u8 0, .int .u8 0, .int .u8 0, .int .u8 0, .int .u8 0, .int .u8 0, .int .u8 0, .int .u8 0, .int .u8 0, .int .u8 0, .int .u8 0, .int .u8 0, .int .u8 0, .int .u8 0, .int .u8 0, .int .u8 0, .int .u8 0, .int .u8 0, .int .u8 0, .int .u8 0, .int .u8 0, .int .u8 0, .int .u8 0, .int .u8 0, .int .u8 0, .int .u8 0, .int .u8 0, .int .u8 0, .int .u8 0, .int .u8 0, .int .u8 0, .int .u8 0, .int .u8 0, .int .u8 0, .int .u8 0]⟩])
  (.seq (.ops [⟨some 13, none, .mov (.v (.int .i64 65))⟩])
  (.seq (.seq (.ops [⟨some 30, none, .mov (.t 3)⟩])
  (.cond (.t 30) (.ops [⟨some 31, none, .mov (.t 1)⟩, ⟨some 32, none, .more (.neg (.t 31))⟩, ⟨some 1, none, .mov (.t 32)⟩]) .skip))
  (.seq (.seq (.ops [⟨some 33, none, .mov (.t 2)⟩, ⟨some 34, none, .call 152 [(.t 33)]⟩])
  (.cond (.t 34) (.seq (.ops [⟨some 35, none, .mov (.t 2)⟩, ⟨some 36, none, .cvt .u64 (.t 35)⟩, ⟨some 37, none, .call 153 [(.t 36)]⟩, ⟨some 38, none, .cvt .u64 (.t 37)⟩, ⟨some 14, none, .mov (.t 38)⟩])
   (.seq (.ops [⟨some 39, none, .mov (.t 2)⟩, ⟨some 40, none, .cvt .u64 (.t 39)⟩, ⟨some 15, none, .mov (.t 40)⟩])
   (.seq (.ops [⟨some 41, none, .mov (.t 2)⟩, ⟨some 42, none, .cvt .u64 (.t 41)⟩, ⟨some 43, none, .bin .sub (.t 42) (.v (.int .u64 1))⟩, ⟨some 16, none, .mov (.t 43)⟩])
   (.seq (.block 0 (.loop [0, 1, 3, 4, 10, 11, 12, 13, 14, 15, 16] (.seq (.seq (.ops [⟨some 44, none, .mov (.t 1)⟩, ⟨some 45, none, .mov (.t 15)⟩, ⟨some 46, none, .bin .geq (.t 44) (.t 45)⟩])
     (.cond (.t 46) .skip (.exit 0)))
     (.block 1 (.seq (.ops [⟨some 47, none, .mov (.t 13)⟩, ⟨some 48, none, .bin .sub (.t 47) (.v (.int .i64 1))⟩, ⟨some 13, none, .mov (.t 48)⟩])
      (.seq (.ops [⟨some 49, none, .mov (.t 13)⟩, ⟨some 50, none, .mov (.t 1)⟩, ⟨some 51, none, .mov (.t 16)⟩, ⟨some 52, none, .bin .and (.t 50) (.t 51)⟩, ⟨some 53, none, .ixStr (.v (.string ⟨#[48, 49, 50, 51, 52, 53, 54, 55, 56, 57, 97, 98, 99, 100, 101, 102, 103, 104, 105, 106, 107, 108, 109, 110, 111, 112, 113, 114, 115, 116, 117, 118, 119, 120, 121, 122]⟩)) (.t 52)⟩, ⟨some 54, none, .ixA 65 1 (.t 12) (.t 49)⟩, ⟨none, none, .st 1 (.t 54) (.t 53)⟩])
      (.ops [⟨some 55, none, .mov (.t 1)⟩, ⟨some 56, none, .mov (.t 14)⟩, ⟨some 57, none, .bin .shr (.t 55) (.t 56)⟩, ⟨some 1, none, .mov (.t 57)⟩])))))))
   (.seq (.ops [⟨some 58, none, .mov (.t 13)⟩, ⟨some 59, none, .bin .sub (.t 58) (.v (.int .i64 1))⟩, ⟨some 13, none, .mov (.t 59)⟩])
   (.ops [⟨some 60, none, .mov (.t 13)⟩, ⟨some 61, none, .mov (.t 1)⟩, ⟨some 62, none, .ixStr (.v (.string ⟨#[48, 49, 50, 51, 52, 53, 54, 55, 56, 57, 97, 98, 99, 100, 101, 102, 103, 104, 105, 106, 107, 108, 109, 110, 111, 112, 113, 114, 115, 116, 117, 118, 119, 120, 121, 122]⟩)) (.t 61)⟩, ⟨some 63, none, .ixA 65 1 (.t 12) (.t 60)⟩, ⟨none, none, .st 1 (.t 63) (.t 62)⟩])))))) (.seq (.ops [⟨some 64, none, .mov (.t 2)⟩, ⟨some 65, none, .cvt .u64 (.t 64)⟩, ⟨some 17, none, .mov (.t 65)⟩])
   (.seq (.block 2 (.loop [0, 1, 3, 4, 10, 11, 12, 13, 17] (.seq (.seq (.ops [⟨some 66, none, .mov (.t 1)⟩, ⟨some 67, none, .mov (.t 17)⟩, ⟨some 68, none, .bin .geq (.t 66) (.t 67)⟩])
     (.cond (.t 68) .skip (.exit 2)))
     (.block 3 (.seq (.ops [⟨some 69, none, .mov (.t 13)⟩, ⟨some 70, none, .bin .sub (.t 69) (.v (.int .i64 1))⟩, ⟨some 13, none, .mov (.t 70)⟩])
      (.seq (.ops [⟨some 71, none, .mov (.t 1)⟩, ⟨some 72, none, .mov (.t 17)⟩, ⟨some 73, none, .bin .quo (.t 71) (.t 72)⟩, ⟨some 18, none, .mov (.t 73)⟩])
      (.seq (.ops [⟨some 74, none, .mov (.t 13)⟩, ⟨some 75, none, .mov (.t 1)⟩, ⟨some 76, none, .mov (.t 18)⟩, ⟨some 77, none, .mov (.t 17)⟩, ⟨some 78, none, .bin .mul (.t 76) (.t 77)⟩, ⟨some 79, none, .bin .sub (.t 75) (.t 78)⟩, ⟨some 80, none, .ixStr (.v (.string ⟨#[48, 49, 50, 51, 52, 53, 54, 55, 56, 57, 97, 98, 99, 100, 101, 102, 103, 104, 105, 106, 107, 108, 109, 110, 111, 112, 113, 114, 115, 116, 117, 118, 119, 120, 121, 122]⟩)) (.t 79)⟩, ⟨some 81, none, .ixA 65 1 (.t 12) (.t 74)⟩, ⟨none, none, .st 1 (.t 81) (.t 80)⟩])
      (.ops [⟨some 82, none, .mov (.t 18)⟩, ⟨some 1, none, .mov (.t 82)⟩]))))))))
   (.seq (.ops [⟨some 83, none, .mov (.t 13)⟩, ⟨some 84, none, .bin .sub (.t 83) (.v (.int .i64 1))⟩, ⟨some 13, none, .mov (.t 84)⟩])
   (.ops [⟨some 85, none, .mov (.t 13)⟩, ⟨some 86, none, .mov (.t 1)⟩, ⟨some 87, none, .ixStr (.v (.string ⟨#[48, 49, 50, 51, 52, 53, 54, 55, 56, 57, 97, 98, 99, 100, 101, 102, 103, 104, 105, 106, 107, 108, 109, 110, 111, 112, 113, 114, 115, 116, 117, 118, 119, 120, 121, 122]⟩)) (.t 86)⟩, ⟨some 88, none, .ixA 65 1 (.t 12) (.t 85)⟩, ⟨none, none, .st 1 (.t 88) (.t 87)⟩]))))))
  (.seq (.seq (.ops [⟨some 89, none, .mov (.t 3)⟩])
  (.cond (.t 89) (.seq (.ops [⟨some 90, none, .mov (.t 13)⟩, ⟨some 91, none, .bin .sub (.t 90) (.v (.int .i64 1))⟩, ⟨some 13, none, .mov (.t 91)⟩])
   (.ops [⟨some 92, none, .mov (.t 13)⟩, ⟨some 93, none, .ixA 65 1 (.t 12) (.t 92)⟩, ⟨none, none, .st 1 (.t 93) (.v (.int .u8 45))⟩])) .skip))
  (.seq (.seq (.ops [⟨some 94, none, .mov (.t 4)⟩])
  (.cond (.t 94) (.seq (.ops [⟨some 95, none, .mov (.t 0)⟩, ⟨some 96, none, .mov (.t 13)⟩, ⟨some 97, none, .more (.slAr 65 1 (.t 12) (some (.t 96)) none)⟩, ⟨some 98, none, .app 121 5 1 1 (.int .u8 0) (.t 95) (.t 97)⟩, ⟨some 10, none, .mov (.t 98)⟩])
   .ret) .skip))
  (.seq (.ops [⟨some 99, none, .mov (.t 13)⟩, ⟨some 100, none, .more (.slAr 65 1 (.t 12) (some (.t 99)) none)⟩, ⟨some 101, none, .strOf (.t 100)⟩, ⟨some 11, none, .mov (.t 101)⟩])
  .ret))))))))), 102, [.tmp 10, .tmp 11]⟩
theorem Tryd.ek134 : KnownE Tryd.prog 134 Tryd.ec134 := ⟨Tryd.f134, _, Tryd.func134, rfl, by kernel_rfl, rfl, by kernel_rfl, by kernel_rfl⟩

/-- internal/strconv.log10Pow2 -/
def Tryd.ec150 : EFn := ⟨(.seq (.ops [⟨some 2, none, .mov (.v (.int .i64 0))⟩])
  (.seq (.ops [⟨some 3, none, .mov (.t 0)⟩, ⟨some 4, none, .bin .mul (.t 3) (.v (.int .i64 78913))⟩, ⟨some 5, none, .bin .shr (.t 4) (.v (.int .u64 18))⟩, ⟨some 2, none, .mov (.t 5)⟩])
  .ret)), 6, [.tmp 2]⟩
theorem Tryd.ek150 : KnownE Tryd.prog 150 Tryd.ec150 := ⟨Tryd.f150, _, Tryd.func150, rfl, by kernel_rfl, rfl, by kernel_rfl, by kernel_rfl⟩

/-- internal/strconv.bool2[int] -/
def Tryd.ec151 : EFn := ⟨(.seq (.ops [⟨some 2, none, .mov (.v (.int .i64 0))⟩])
  (.seq (.seq (.ops [⟨some 3, none, .mov (.t 0)⟩])
  (.cond (.t 3) (.seq (.ops [⟨some 2, none, .mov (.v (.int .i64 1))⟩])
   .ret) .skip))
  (.seq (.ops [⟨some 2, none, .mov (.v (.int .i64 0))⟩])
  .ret))), 4, [.tmp 2]⟩
theorem Tryd.ek151 : KnownE Tryd.prog 151 Tryd.ec151 := ⟨Tryd.f151, _, Tryd.func151, rfl, by kernel_rfl, rfl, by kernel_rfl, by kernel_rfl⟩

/-- internal/strconv.isPowerOfTwo -/
def Tryd.ec152 : EFn := ⟨(.seq (.ops [⟨some 2, none, .mov (.v (.bool false))⟩])
  (.seq (.ops [⟨some 3, none, .mov (.t 0)⟩, ⟨some 4, none, .mov (.t 0)⟩, ⟨some 5, none, .bin .sub (.t 4) (.v (.int .i64 1))⟩, ⟨some 6, none, .bin .and (.t 3) (.t 5)⟩, ⟨some 7, none, .bin .eql (.t 6) (.v (.int .i64 0))⟩, ⟨some 2, none, .mov (.t 7)⟩])
  .ret)), 8, [.tmp 2]⟩
theorem Tryd.ek152 : KnownE Tryd.prog 152 Tryd.ec152 := ⟨Tryd.f152, _, Tryd.func152, rfl, by kernel_rfl, rfl, by kernel_rfl, by kernel_rfl⟩

/-- math/bits.TrailingZeros -/
def Tryd.ec153 : EFn := ⟨(.seq (.ops [⟨some 2, none, .mov (.v (.int .i64 0))⟩])
  (.seq (.cond (.v (.bool false)) (.seq (.ops [⟨some 3, none, .mov (.t 0)⟩, ⟨some 4, none, .cvt .u32 (.t 3)⟩, ⟨some 5, none, .call 158 [(.t 4)]⟩, ⟨some 2, none, .mov (.t 5)⟩])
   .ret) .skip)
  (.seq (.ops [⟨some 6, none, .mov (.t 0)⟩, ⟨some 7, none, .call 159 [(.t 6)]⟩, ⟨some 2, none, .mov (.t 7)⟩])
  .ret))), 8, [.tmp 2]⟩
theorem Tryd.ek153 : KnownE Tryd.prog 153 Tryd.ec153 := ⟨Tryd.f153, _, Tryd.func153, rfl, by kernel_rfl, rfl, by kernel_rfl, by kernel_rfl⟩

/-- math/bits.TrailingZeros32 -/
def Tryd.ec158 : EFn := ⟨(.seq (.ops [⟨some 2, none, .mov (.v (.int .i64 0))⟩])
  (.seq (.seq (.ops [⟨some 3, none, .mov (.t 0)⟩, ⟨some 4, none, .bin .eql (.t 3) (.v (.int .u32 0))⟩])
  (.cond (.t 4) (.seq (.ops [⟨some 2, none, .mov (.v (.int .i64 32))⟩])
   .ret) .skip))
  (.seq (.ops [⟨some 5, none, .mov (.t 0)⟩, ⟨some 6, none, .mov (.t 0)⟩, ⟨some 7, none, .more (.neg (.t 6))⟩, ⟨some 8, none, .bin .and (.t 5) (.t 7)⟩, ⟨some 9, none, .bin .mul (.t 8) (.v (.int .u32 125613361))⟩, ⟨some 10, none, .bin .shr (.t 9) (.v (.int .u64 27))⟩, ⟨some 11, none, .ixA 32 1 (.v (.pointer (some ⟨6, 0, none⟩))) (.t 10)⟩, ⟨some 12, none, .ld (.t 11)⟩, ⟨some 13, none, .cvt .i64 (.t 12)⟩, ⟨some 2, none, .mov (.t 13)⟩])
  .ret))), 14, [.tmp 2]⟩
theorem Tryd.ek158 : KnownE Tryd.prog 158 Tryd.ec158 := ⟨Tryd.f158, _, Tryd.func158, rfl, by kernel_rfl, rfl, by kernel_rfl, by kernel_rfl⟩

/-- math/bits.TrailingZeros64 -/
def Tryd.ec159 : EFn := ⟨(.seq (.ops [⟨some 2, none, .mov (.v (.int .i64 0))⟩])
  (.seq (.seq (.ops [⟨some 3, none, .mov (.t 0)⟩, ⟨some 4, none, .bin .eql (.t 3) (.v (.int .u64 0))⟩])
  (.cond (.t 4) (.seq (.ops [⟨some 2, none, .mov (.v (.int .i64 64))⟩])
   .ret) .skip))
  (.seq (.ops [⟨some 5, none, .mov (.t 0)⟩, ⟨some 6, none, .mov (.t 0)⟩, ⟨some 7, none, .more (.neg (.t 6))⟩, ⟨some 8, none, .bin .and (.t 5) (.t 7)⟩, ⟨some 9, none, .bin .mul (.t 8) (.v (.int .u64 285870213051353865))⟩, ⟨some 10, none, .bin .shr (.t 9) (.v (.int .u64 58))⟩, ⟨some 11, none, .ixA 64 1 (.v (.pointer (some ⟨7, 0, none⟩))) (.t 10)⟩, ⟨some 12, none, .ld (.t 11)⟩, ⟨some 13, none, .cvt .i64 (.t 12)⟩, ⟨some 2, none, .mov (.t 13)⟩])
  .ret))), 14, [.tmp 2]⟩
theorem Tryd.ek159 : KnownE Tryd.prog 159 Tryd.ec159 := ⟨Tryd.f159, _, Tryd.func159, rfl, by kernel_rfl, rfl, by kernel_rfl, by kernel_rfl⟩
def Tryd.etab : List (FuncId × EFn) := [(15, Tryd.ec15), (17, Tryd.ec17), (18, Tryd.ec18), (20, Tryd.ec20), (55, Tryd.ec55), (56, Tryd.ec56), (84, Tryd.ec84), (85, Tryd.ec85), (103, Tryd.ec103), (104, Tryd.ec104), (121, Tryd.ec121), (130, Tryd.ec130), (131, Tryd.ec131), (132, Tryd.ec132), (133, Tryd.ec133), (134, Tryd.ec134), (150, Tryd.ec150), (151, Tryd.ec151), (152, Tryd.ec152), (153, Tryd.ec153), (158, Tryd.ec158), (159, Tryd.ec159)]
theorem Tryd.etab_ok : AllK Tryd.prog Tryd.etab := ⟨Tryd.ek15, Tryd.ek17, Tryd.ek18, Tryd.ek20, Tryd.ek55, Tryd.ek56, Tryd.ek84, Tryd.ek85, Tryd.ek103, Tryd.ek104, Tryd.ek121, Tryd.ek130, Tryd.ek131, Tryd.ek132, Tryd.ek133, Tryd.ek134, Tryd.ek150, Tryd.ek151, Tryd.ek152, Tryd.ek153, Tryd.ek158, Tryd.ek159, trivial⟩
end Go.Proofs
