/- The law PathsKnown's own call, and that of works, run by the evaluator; no package variable is read. -/
import Derived.Test.YtbidjnjbiibdeaaDoorPaEc
set_option maxRecDepth 100000
namespace Go.Proofs
open Go.SL
theorem Tryd.mixedE : Tryd.prog.follows .mixedOrders = true := by kernel_rfl
theorem pathsKnown_fc {w0 : World} {S : SS} : FC Tryd.prog w0 9 [] S (fun v S' => v = .bool true ∧ S' = S) :=
  ev_true (fuel := 5000) (d := 60) Tryd.mixedE Tryd.etab_ok rfl (by decide +kernel)
theorem works_fc {w0 : World} {S : SS} : FC Tryd.prog w0 34 [] S (fun v S' => v = .bool true ∧ S' = S) :=
  ev_true (fuel := 5000) (d := 60) Tryd.mixedE Tryd.etab_ok rfl (by decide +kernel)
end Go.Proofs
