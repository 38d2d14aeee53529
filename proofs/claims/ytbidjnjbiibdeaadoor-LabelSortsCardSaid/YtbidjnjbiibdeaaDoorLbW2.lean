/- Walks and plain facts for the laws of this seat: what each function answers, for every input. -/
import Derived.Test.YtbidjnjbiibdeaaDoorLbW1
set_option linter.unusedVariables false
set_option linter.unusedSimpArgs false
namespace Go.Proofs
open Go.SL Go.RowKit
set_option maxHeartbeats 1000000

def orN (x y : Nat) : Int := IntKind.u64.wrap (BitVec.ofInt 64 (x : Int) ||| BitVec.ofInt 64 (y : Int)).toNat
def amN (x y : Nat) : Int := IntKind.u64.wrap (BitVec.ofInt 64 (x : Int) &&& BitVec.ofInt 64 (y : Int)).toNat
def labVI (l c : Int) : Value := .agg #[.int .i64 l, .int .u64 c]
theorem lab_read {w0 : World} {S : SS} {r : Nat} {l c : Int} (hm : (r, AO.cells [.int .i64 l, .int .u64 c] 24 2) ∈ S.flatten) : ReadsAs w0 S (some 2) ⟨r, 0, none⟩ (labVI l c) :=
  ⟨[.int .i64 l, .int .u64 c], rfl, rfl, fun j u hj => (Rd.own hm).at hj⟩
theorem join_lab {w0 : World} {S : SS} {a b : Lab} : FC Tryd.prog w0 15 [labV a, labV b] S (fun v S' => v = labVI (max a.1 b.1) (orN a.2 b.2) ∧ S' = S) := by
  refine FC.ofC Tryd.known15 (by simp) ?_
  unfold Tryd.pc15
  simp only [argT]
  refine PW.seqOps ?_
  refine OL.cons trivial (OW.bx rfl) ?_
  rintro _ _ ⟨r2, rfl, rfl⟩
  change OL _ _ _ _ _ ([(r2, .cells [.int .i64 a.1, .int .u64 (a.2 : Int)] 24 2)] :: S) _
  refine OL.cons trivial (OW.bx rfl) ?_
  rintro _ _ ⟨r3, rfl, rfl⟩
  change OL _ _ _ _ _ ([(r3, .cells [.int .i64 b.1, .int .u64 (b.2 : Int)] 24 2)] :: [(r2, .cells [.int .i64 a.1, .int .u64 (a.2 : Int)] 24 2)] :: S) _
  refine OL.cons trivial OW.al ?_
  rintro _ _ ⟨r4, rfl, rfl⟩
  refine OL.nil ?_
  refine PW.keep (T' := [(2, _), (3, _), (4, _)]) ⟨rfl, rfl, rfl, trivial⟩ ?_
  refine PW.seqOps ?_
  refine OL.det trivial (Yields.pure rfl) ?_
  refine OL.det trivial (Yields.ld rfl (own_at (j := 0) (c := [.int .i64 a.1, .int .u64 (a.2 : Int)]) (E := 24) (tot := 2) (by simp) rfl)) ?_
  refine OL.det trivial (Yields.pure rfl) ?_
  refine OL.det trivial (Yields.ld rfl (own_at (j := 0) (c := [.int .i64 b.1, .int .u64 (b.2 : Int)]) (E := 24) (tot := 2) (by simp) rfl)) ?_
  refine OL.det trivial (Yields.to (v' := .int .i64 (max a.1 b.1)) (Yields.pure rfl) (by congr 1; simp only [if_true, Bool.false_eq_true, if_false]; split <;> omega)) ?_
  refine OL.det trivial (Yields.pure rfl) ?_
  refine OL.det trivial (Yields.ld rfl (own_at (j := 1) (c := [.int .i64 a.1, .int .u64 (a.2 : Int)]) (E := 24) (tot := 2) (by simp) rfl)) ?_
  refine OL.det trivial (Yields.pure rfl) ?_
  refine OL.det trivial (Yields.ld rfl (own_at (j := 1) (c := [.int .i64 b.1, .int .u64 (b.2 : Int)]) (E := 24) (tot := 2) (by simp) rfl)) ?_
  refine OL.det trivial (Yields.pure rfl) ?_
  refine OL.det trivial (Yields.build rfl) ?_
  refine OL.cons trivial (OW.st (k := 0) rfl rfl rfl rfl (by first | decide | (simp; done) | (simp; omega)) (by first | rfl | simp)) ?_
  rintro _ _ rfl
  refine OL.nil ?_
  refine PW.keep (T' := [(4, _)]) ⟨rfl, trivial⟩ ?_
  refine PW.ret ?_
  change (Exit.ret = Exit.normal ∨ Exit.ret = Exit.ret) ∧ ∃ a v, Go.SL.look _ _ = some (.pointer (some a)) ∧ ReadsAs _ _ _ _ _ ∧ _
  exact ⟨.inr rfl, _, labVI (max a.1 b.1) (orN a.2 b.2), rfl, lab_read (r := r4) (List.Mem.head _), _, Sub.drop (Sub.drop (Sub.drop (Sub.refl _))), rfl, rfl⟩
theorem meet_lab {w0 : World} {S : SS} {a b : Lab} : FC Tryd.prog w0 16 [labV a, labV b] S (fun v S' => v = labVI (min a.1 b.1) (amN a.2 b.2) ∧ S' = S) := by
  refine FC.ofC Tryd.known16 (by simp) ?_
  unfold Tryd.pc16
  simp only [argT]
  refine PW.seqOps ?_
  refine OL.cons trivial (OW.bx rfl) ?_
  rintro _ _ ⟨r2, rfl, rfl⟩
  change OL _ _ _ _ _ ([(r2, .cells [.int .i64 a.1, .int .u64 (a.2 : Int)] 24 2)] :: S) _
  refine OL.cons trivial (OW.bx rfl) ?_
  rintro _ _ ⟨r3, rfl, rfl⟩
  change OL _ _ _ _ _ ([(r3, .cells [.int .i64 b.1, .int .u64 (b.2 : Int)] 24 2)] :: [(r2, .cells [.int .i64 a.1, .int .u64 (a.2 : Int)] 24 2)] :: S) _
  refine OL.cons trivial OW.al ?_
  rintro _ _ ⟨r4, rfl, rfl⟩
  refine OL.nil ?_
  refine PW.keep (T' := [(2, _), (3, _), (4, _)]) ⟨rfl, rfl, rfl, trivial⟩ ?_
  refine PW.seqOps ?_
  refine OL.det trivial (Yields.pure rfl) ?_
  refine OL.det trivial (Yields.ld rfl (own_at (j := 0) (c := [.int .i64 a.1, .int .u64 (a.2 : Int)]) (E := 24) (tot := 2) (by simp) rfl)) ?_
  refine OL.det trivial (Yields.pure rfl) ?_
  refine OL.det trivial (Yields.ld rfl (own_at (j := 0) (c := [.int .i64 b.1, .int .u64 (b.2 : Int)]) (E := 24) (tot := 2) (by simp) rfl)) ?_
  refine OL.det trivial (Yields.to (v' := .int .i64 (min a.1 b.1)) (Yields.pure rfl) (by congr 1; simp only [if_true, Bool.false_eq_true, if_false]; split <;> omega)) ?_
  refine OL.det trivial (Yields.pure rfl) ?_
  refine OL.det trivial (Yields.ld rfl (own_at (j := 1) (c := [.int .i64 a.1, .int .u64 (a.2 : Int)]) (E := 24) (tot := 2) (by simp) rfl)) ?_
  refine OL.det trivial (Yields.pure rfl) ?_
  refine OL.det trivial (Yields.ld rfl (own_at (j := 1) (c := [.int .i64 b.1, .int .u64 (b.2 : Int)]) (E := 24) (tot := 2) (by simp) rfl)) ?_
  refine OL.det trivial (Yields.pure rfl) ?_
  refine OL.det trivial (Yields.build rfl) ?_
  refine OL.cons trivial (OW.st (k := 0) rfl rfl rfl rfl (by first | decide | (simp; done) | (simp; omega)) (by first | rfl | simp)) ?_
  rintro _ _ rfl
  refine OL.nil ?_
  refine PW.keep (T' := [(4, _)]) ⟨rfl, trivial⟩ ?_
  refine PW.ret ?_
  change (Exit.ret = Exit.normal ∨ Exit.ret = Exit.ret) ∧ ∃ a v, Go.SL.look _ _ = some (.pointer (some a)) ∧ ReadsAs _ _ _ _ _ ∧ _
  exact ⟨.inr rfl, _, labVI (min a.1 b.1) (amN a.2 b.2), rfl, lab_read (r := r4) (List.Mem.head _), _, Sub.drop (Sub.drop (Sub.drop (Sub.refl _))), rfl, rfl⟩

end Go.Proofs
