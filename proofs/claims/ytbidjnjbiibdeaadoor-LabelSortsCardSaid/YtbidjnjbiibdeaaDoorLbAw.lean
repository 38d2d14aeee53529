/- awake of the labels, run by the evaluator beside the tables. -/
import Derived.Test.YtbidjnjbiibdeaaDoorLbTab
import Derived.Test.YtbidjnjbiibdeaaDoorLbEc
set_option maxRecDepth 100000
namespace Go.Proofs
open Go.SL
theorem Tryd.mixedE : Tryd.prog.follows .mixedOrders = true := by kernel_rfl
theorem awake_fc {w0 : World} {S : SS} (hg : GlobOk w0 labG) : FC Tryd.prog w0 20 [] S (fun v S' => v = .bool true ∧ S' = S) :=
  ev_trueg (fuel := 5000) (d := 60) (g := labG) Tryd.mixedE Tryd.etab_ok rfl hg (by decide +kernel) (by decide +kernel)
end Go.Proofs
