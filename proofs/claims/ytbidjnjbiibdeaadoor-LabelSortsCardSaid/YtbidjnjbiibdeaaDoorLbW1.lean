/- Walks and plain facts for the laws of this seat: what each function answers, for every input. -/
import Derived.Test.YtbidjnjbiibdeaaDoorSl22
import Derived.Test.YtbidjnjbiibdeaaDoorLbPc
set_option linter.unusedVariables false
set_option linter.unusedSimpArgs false
namespace Go.Proofs
open Go.SL Go.RowKit
set_option maxHeartbeats 1000000

abbrev Lab := Int × Nat
def labV (a : Lab) : Value := .agg #[.int .i64 a.1, .int .u64 (a.2 : Int)]
def andN (x y : Nat) : Int := IntKind.u64.wrap (BitVec.ofInt 64 (x : Int) &&& ~~~BitVec.ofInt 64 (y : Int)).toNat
def belowP (a b : Lab) : Bool := decide (a.1 ≤ b.1) && (andN a.2 b.2 == 0)
theorem below_fc {w0 : World} {S : SS} {a b : Lab} : FC Tryd.prog w0 17 [labV a, labV b] S (fun v S' => v = .bool (belowP a b) ∧ S' = S) := by
  refine FC.ofD Tryd.known17 (by simp) ?_
  unfold Tryd.pc17
  simp only [argT]
  refine PW.seqOps ?_
  refine OL.cons trivial (OW.bx rfl) ?_
  rintro _ _ ⟨r2, rfl, rfl⟩
  change OL _ _ _ _ _ ([(r2, .cells [.int .i64 a.1, .int .u64 (a.2 : Int)] 24 2)] :: S) _
  refine OL.cons trivial (OW.bx rfl) ?_
  rintro _ _ ⟨r3, rfl, rfl⟩
  change OL _ _ _ _ _ ([(r3, .cells [.int .i64 b.1, .int .u64 (b.2 : Int)] 24 2)] :: [(r2, .cells [.int .i64 a.1, .int .u64 (a.2 : Int)] 24 2)] :: S) _
  refine OL.det trivial (Yields.pure rfl) ?_
  refine OL.nil ?_
  refine PW.keep (T' := [(2, _), (3, _)]) ⟨rfl, rfl, trivial⟩ ?_
  refine PW.seqOps ?_
  refine OL.det trivial (Yields.pure rfl) ?_
  refine OL.det trivial (Yields.ld rfl (own_at (j := 0) (c := [.int .i64 a.1, .int .u64 (a.2 : Int)]) (E := 24) (tot := 2) (by simp) rfl)) ?_
  refine OL.det trivial (Yields.pure rfl) ?_
  refine OL.det trivial (Yields.ld rfl (own_at (j := 0) (c := [.int .i64 b.1, .int .u64 (b.2 : Int)]) (E := 24) (tot := 2) (by simp) rfl)) ?_
  refine OL.det trivial (Yields.pure rfl) ?_
  refine OL.bool trivial (Yields.pure rfl) (fun g10 => ?_) (fun g10 => ?_)
  · try simp only [decide_eq_true_eq, decide_eq_false_iff_not, beq_iff_eq, bne_iff_ne, beq_eq_false_iff_ne, bne_eq_false_iff_eq, Bool.not_eq_true', Bool.not_eq_false', Bool.not_eq_true, ne_eq, Decidable.not_not] at g10
    refine OL.det rfl (Yields.pure rfl) ?_
    refine OL.det rfl (Yields.ld rfl (own_at (j := 1) (c := [.int .i64 a.1, .int .u64 (a.2 : Int)]) (E := 24) (tot := 2) (by simp) rfl)) ?_
    refine OL.det rfl (Yields.pure rfl) ?_
    refine OL.det rfl (Yields.ld rfl (own_at (j := 1) (c := [.int .i64 b.1, .int .u64 (b.2 : Int)]) (E := 24) (tot := 2) (by simp) rfl)) ?_
    refine OL.det rfl (Yields.pure rfl) ?_
    refine OL.det rfl (Yields.pure rfl) ?_
    refine OL.det trivial (Yields.pure rfl) ?_
    refine OL.det trivial (Yields.pure rfl) ?_
    refine OL.nil ?_
    refine PW.keep (T' := [(4, _)]) ⟨rfl, trivial⟩ ?_
    refine PW.ret ?_
    change (Exit.ret = Exit.normal ∨ Exit.ret = Exit.ret) ∧ ∃ v, resV _ _ = some v ∧ _
    exact ⟨.inr rfl, _, rfl, _, Sub.drop (Sub.drop (Sub.refl _)), by unfold belowP; first | (rw [show decide (a.1 ≤ b.1) = true by simpa using g10]; rfl) | (rw [show decide (a.1 ≤ b.1) = false by simpa using g10]; rfl), rfl⟩
  · try simp only [decide_eq_true_eq, decide_eq_false_iff_not, beq_iff_eq, bne_iff_ne, beq_eq_false_iff_ne, bne_eq_false_iff_eq, Bool.not_eq_true', Bool.not_eq_false', Bool.not_eq_true, ne_eq, Decidable.not_not] at g10
    refine OL.off rfl rfl ?_
    refine OL.off rfl rfl ?_
    refine OL.off rfl rfl ?_
    refine OL.off rfl rfl ?_
    refine OL.off rfl rfl ?_
    refine OL.off rfl rfl ?_
    refine OL.det trivial (Yields.pure rfl) ?_
    refine OL.det trivial (Yields.pure rfl) ?_
    refine OL.nil ?_
    refine PW.keep (T' := [(4, _)]) ⟨rfl, trivial⟩ ?_
    refine PW.ret ?_
    change (Exit.ret = Exit.normal ∨ Exit.ret = Exit.ret) ∧ ∃ v, resV _ _ = some v ∧ _
    exact ⟨.inr rfl, _, rfl, _, Sub.drop (Sub.drop (Sub.refl _)), by unfold belowP; first | (rw [show decide (a.1 ≤ b.1) = true by simpa using g10]; rfl) | (rw [show decide (a.1 ≤ b.1) = false by simpa using g10]; rfl), rfl⟩

end Go.Proofs
