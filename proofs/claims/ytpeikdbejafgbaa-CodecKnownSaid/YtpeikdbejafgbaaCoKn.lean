/- The law CodecKnown's own call, run by the evaluator. -/
import Derived.Test.YtpeikdbejafgbaaCoEc
set_option maxRecDepth 100000
namespace Go.Proofs
open Go.SL
theorem Try.mixedE : Try.prog.follows .mixedOrders = true := by kernel_rfl
theorem known_fc {w0 : World} {S : SS} : FC Try.prog w0 5 [] S (fun v S' => v = .bool true ∧ S' = S) :=
  ev_true (fuel := 5000) (d := 60) Try.mixedE Try.etab_ok rfl (by decide +kernel)
end Go.Proofs
