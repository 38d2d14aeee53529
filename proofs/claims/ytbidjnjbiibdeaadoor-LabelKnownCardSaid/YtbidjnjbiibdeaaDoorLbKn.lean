/- The law LabelKnown's own call, run by the evaluator beside the tables and the two sentinels. -/
import Derived.Test.YtbidjnjbiibdeaaDoorLbTab
import Derived.Test.YtbidjnjbiibdeaaDoorLkEc
import Derived.Stop.LaidErr
set_option maxRecDepth 100000
namespace Go.Proofs
open Go.SL
theorem Tryd.mixedE : Tryd.prog.follows .mixedOrders = true := by kernel_rfl
def knownG : List (Nat × List Value) := (1, [.iface 156 (.chan none)]) :: (2, [.iface 156 (.chan none)]) :: labG
theorem Tryd.star : "*" ++ "errors.errorString" = "*errors.errorString" := by decide
theorem Tryd.row156 (u : TypeId) (h : Tryd.prog.typeName? 3 u = some "*errors.errorString") : u = 156 :=
  typeName_ptr_named (nm := "errors.errorString") (by rw [Tryd.star]; kernel_rfl) (by kernel_rfl) (by decide) u (by rw [Tryd.star]; exact h)
theorem sentinel_cell {l : List (String × DataW Unit)} {n : String} {g : Nat} {text : List UInt8} {W : World} (hg : Tryd.prog.globalNamed n = some g) (hty : (Tryd.prog.globals[g]?).map (·.type) = some 87)
    (h : laidMet Tryd.prog ((n, .iface "*errors.errorString" (.ptr (.agg [.lit (.string text)]))) :: l) W) : extR W [] g [.iface 156 (.chan none)] := by
  obtain ⟨a, s, hv, _⟩ := laid_sentinel h hg hty Tryd.underlying87 Tryd.row156 Tryd.underlying156 Tryd.underlying158 rfl rfl Tryd.underlying9 (by kernel_rfl) (by kernel_rfl)
  intro j v hj
  cases j with
  | zero =>
    simp at hj
    subst hj
    exact ⟨.iface 156 (.pointer (some a)), by simpa using World.var?_cell hg hv 0, .iface .opq⟩
  | succ j => simp at hj
theorem knownG_ok {W : World} {a b c : String × DataW Unit} {t1 t2 : List UInt8}
    (h : laidMet Tryd.prog [a, b, c, ("strconv.ErrRange", .iface "*errors.errorString" (.ptr (.agg [.lit (.string t1)]))), ("strconv.ErrSyntax", .iface "*errors.errorString" (.ptr (.agg [.lit (.string t2)])))] W)
    (ha : a = ("math/bits.deBruijn32tab", Lib.tabData .u8 t32)) (hb : b = ("math/bits.deBruijn64tab", Lib.tabData .u8 t64)) (hc : c = ("internal/strconv.uint64pow10", Lib.tabData .u64 tP)) :
    ∀ p ∈ knownG, extR W [] p.1 p.2 := by
  have hL := labG_ok h (by simp [hb]) (by simp [ha]) (by simp [hc])
  intro p hp
  simp only [knownG, List.mem_cons] at hp
  rcases hp with rfl | rfl | hp
  · exact sentinel_cell (by kernel_rfl) (by kernel_rfl) h.tail.tail.tail.tail
  · exact sentinel_cell (by kernel_rfl) (by kernel_rfl) h.tail.tail.tail
  · intro j v hj
    refine ⟨v, hL p hp j v hj, .flat ?_⟩
    have : (labG.all fun p => p.2.all flatV) = true := by decide +kernel
    exact List.all_eq_true.1 (List.all_eq_true.1 this p hp) v (List.mem_of_getElem? hj)
theorem labelKnown_fc {w0 : World} {S : SS} (hg : ∀ p ∈ knownG, extR w0 [] p.1 p.2) : FC Tryd.prog w0 14 [] S (fun v S' => v = .bool true ∧ S' = S) :=
  ev_trueR (fuel := 5000) (d := 60) (g := knownG) Tryd.mixedE Tryd.etab_ok rfl hg (by decide +kernel)
end Go.Proofs
