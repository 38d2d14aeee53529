/- The tables that the labels' texts read: what the row's condition says of their cells. -/
import Derived.Test.YtbidjnjbiibdeaaDoorE14
import Derived.Test.YtbidjnjbiibdeaaDoorProg
import Derived.Lib.LaidU8
set_option linter.unusedVariables false
set_option maxRecDepth 100000
namespace Go.Proofs
open Go.SL Go.RowKit
theorem tab_cells {P : Program} {W : World} {l : List (String × DataW Unit)} {nm : String} {k : IntKind} {zs : List Int} {g : Nat} {t e : TypeId} {n : Nat}
    (hg : P.globalNamed nm = some g) (hty : (P.globals[g]?).map (·.type) = some t) (ht : P.underlying t = some (.array n e)) (he : P.underlying e = some (.int k)) (hce : P.cellsOf e = 1) (hct : P.cellsOf t = n)
    (h : laidMet P l W) (hm : (nm, (Lib.tabData k zs : DataW Unit)) ∈ l) : ∀ (j : Nat) (v : Value), (zs.map (Value.int k))[j]? = some v → W.cell? ⟨g, j, none⟩ = some v := by
  obtain ⟨g', t', cs, fuel, p, h1, h2, h3, h4⟩ := Lib.laidMet.reads h hm
  obtain rfl := Option.some.inj (hg.symm.trans h1)
  obtain rfl := Option.some.inj (hty.symm.trans h2)
  have hc := Lib.cells_of_tab ht he hce hct h4
  intro j v hj
  rw [World.var?_cell hg h3 j]
  have : cs.toList[j]? = some v := by rw [hc]; exact hj
  simpa using this
def t64 : List Int := [0, 1, 56, 2, 57, 49, 28, 3, 61, 58, 42, 50, 38, 29, 17, 4, 62, 47, 59, 36, 45, 43, 51, 22, 53, 39, 33, 30, 24, 18, 12, 5, 63, 55, 48, 27, 60, 41, 37, 16, 46, 35, 44, 21, 52, 32, 23, 11, 54, 26, 40, 15, 34, 20, 31, 10, 25, 14, 19, 9, 13, 8, 7, 6]
def t32 : List Int := [0, 1, 28, 2, 29, 14, 24, 3, 30, 22, 20, 15, 25, 17, 4, 8, 31, 27, 13, 23, 21, 19, 16, 7, 26, 12, 18, 6, 11, 5, 10, 9]
def tP : List Int := [1, 10, 100, 1000, 10000, 100000, 1000000, 10000000, 100000000, 1000000000, 10000000000, 100000000000, 1000000000000, 10000000000000, 100000000000000, 1000000000000000, 10000000000000000, 100000000000000000, 1000000000000000000, 10000000000000000000]
def labG : List (Nat × List Value) := [(7, t64.map (Value.int .u8)), (6, t32.map (Value.int .u8)), (3, tP.map (Value.int .u64))]
theorem labG_ok {W : World} {l : List (String × DataW Unit)} (h : laidMet Tryd.prog l W) (h64 : ("math/bits.deBruijn64tab", (Lib.tabData .u8 t64 : DataW Unit)) ∈ l) (h32 : ("math/bits.deBruijn32tab", (Lib.tabData .u8 t32 : DataW Unit)) ∈ l) (hP : ("internal/strconv.uint64pow10", (Lib.tabData .u64 tP : DataW Unit)) ∈ l) : GlobOk W labG := by
  intro p hp
  simp only [labG, List.mem_cons, List.not_mem_nil, or_false] at hp
  rcases hp with rfl | rfl | rfl
  · exact tab_cells (g := 7) (t := 164) (e := 5) (n := 64) (by kernel_rfl) (by kernel_rfl) (by kernel_rfl) (by kernel_rfl) (by kernel_rfl) (by kernel_rfl) h h64
  · exact tab_cells (g := 6) (t := 163) (e := 5) (n := 32) (by kernel_rfl) (by kernel_rfl) (by kernel_rfl) (by kernel_rfl) (by kernel_rfl) (by kernel_rfl) h h32
  · exact tab_cells (g := 3) (t := 148) (e := 22) (n := 20) (by kernel_rfl) (by kernel_rfl) (by kernel_rfl) (by kernel_rfl) (by kernel_rfl) (by kernel_rfl) h hP
end Go.Proofs
