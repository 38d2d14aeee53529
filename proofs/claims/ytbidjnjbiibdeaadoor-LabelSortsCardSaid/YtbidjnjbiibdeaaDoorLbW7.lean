/- Walks and plain facts for the laws of this seat: what each function answers, for every input. -/
import Derived.Test.YtbidjnjbiibdeaaDoorLbW6
import Derived.Test.YtbidjnjbiibdeaaDoorLbAw
set_option linter.unusedVariables false
set_option linter.unusedSimpArgs false
namespace Go.Proofs
open Go.SL Go.RowKit
set_option maxHeartbeats 1000000
theorem nan_i64 {w0 : World} {S : SS} {z : Int} : FC Tryd.prog w0 86 [.int .i64 z] S (fun v S' => v = .bool false ∧ S' = S) := by
  refine FC.of Tryd.known86 (by simp) ?_
  unfold Tryd.pc86
  simp only [argT]
  refine PW.seqOps ?_
  refine OL.det trivial (Yields.pure rfl) ?_
  refine OL.nil ?_
  refine PW.keep (T' := [(0, _)]) ⟨rfl, trivial⟩ ?_
  refine PW.seqOps ?_
  refine OL.det trivial (Yields.pure rfl) ?_
  refine OL.det trivial (Yields.pure rfl) ?_
  refine OL.det trivial (Yields.pure rfl) ?_
  refine OL.det trivial (Yields.pure rfl) ?_
  refine OL.nil ?_
  refine PW.keep (T' := [(2, _)]) ⟨rfl, trivial⟩ ?_
  refine PW.ret ?_
  change (Exit.ret = Exit.normal ∨ Exit.ret = Exit.ret) ∧ ∃ v, resV _ _ = some v ∧ _
  exact ⟨.inr rfl, _, rfl, congrArg Value.bool (by simp), rfl⟩
theorem cmp_i64 {w0 : World} {S : SS} {x y : Int} : FC Tryd.prog w0 61 [.int .i64 x, .int .i64 y] S (fun v S' => v = .int .i64 (cmpI x y) ∧ S' = S) := by
  refine FC.of Tryd.known61 (by simp) ?_
  unfold Tryd.pc61
  simp only [argT]
  refine PW.seqOps ?_
  refine OL.det trivial (Yields.pure rfl) ?_
  refine OL.nil ?_
  refine PW.keep (T' := [(0, _), (1, _)]) ⟨rfl, rfl, trivial⟩ ?_
  refine PW.seqOps ?_
  refine OL.det trivial (Yields.pure rfl) ?_
  refine OL.call trivial rfl (nan_i64) ?_
  rintro _ Sx ⟨rfl, hSx⟩
  rw [hSx]
  clear hSx
  refine OL.det trivial (Yields.pure rfl) ?_
  refine OL.nil ?_
  refine PW.keep (T' := [(0, _), (1, _), (5, _)]) ⟨rfl, rfl, rfl, trivial⟩ ?_
  refine PW.seqOps ?_
  refine OL.det trivial (Yields.pure rfl) ?_
  refine OL.call trivial rfl (nan_i64) ?_
  rintro _ Sx ⟨rfl, hSx⟩
  rw [hSx]
  clear hSx
  refine OL.det trivial (Yields.pure rfl) ?_
  refine OL.nil ?_
  refine PW.keep (T' := [(0, _), (1, _), (5, _), (6, _)]) ⟨rfl, rfl, rfl, rfl, trivial⟩ ?_
  refine PW.seq fun K1 hK1 => ?_
  refine PW.seqOps ?_
  refine OL.det trivial (Yields.pure rfl) ?_
  refine OL.nil ?_
  refine PW.keep (T' := [(0, _), (1, _), (6, _), (11, _)]) ⟨rfl, rfl, rfl, rfl, trivial⟩ ?_
  refine PW.ite (b := false) rfl ?_
  rw [if_neg Bool.false_ne_true]
  refine PW.skip ?_
  refine hK1 _ _ ?_
  refine PW.keep (T' := [(0, _), (1, _), (6, _)]) ⟨rfl, rfl, rfl, trivial⟩ ?_
  refine PW.seq fun K2 hK2 => ?_
  refine PW.seqOps ?_
  refine OL.det trivial (Yields.pure rfl) ?_
  refine OL.nil ?_
  refine PW.keep (T' := [(0, _), (1, _), (13, _)]) ⟨rfl, rfl, rfl, trivial⟩ ?_
  refine PW.ite (b := false) rfl ?_
  rw [if_neg Bool.false_ne_true]
  refine PW.skip ?_
  refine hK2 _ _ ?_
  refine PW.keep (T' := [(0, _), (1, _)]) ⟨rfl, rfl, trivial⟩ ?_
  refine PW.seq fun K3 hK3 => ?_
  refine PW.seqOps ?_
  refine OL.det trivial (Yields.pure rfl) ?_
  refine OL.det trivial (Yields.pure rfl) ?_
  refine OL.det trivial (Yields.pure rfl) ?_
  refine OL.nil ?_
  refine PW.keep (T' := [(0, _), (1, _), (16, _)]) ⟨rfl, rfl, rfl, trivial⟩ ?_
  refine PW.cond rfl (fun c16 => ?_) (fun c16 => ?_)
  · try simp only [decide_eq_true_eq, decide_eq_false_iff_not, beq_iff_eq, bne_iff_ne, beq_eq_false_iff_ne, bne_eq_false_iff_eq, Bool.not_eq_true', Bool.not_eq_false', Bool.not_eq_true, ne_eq, Decidable.not_not] at c16
    refine PW.seqOps ?_
    refine OL.det trivial (Yields.pure rfl) ?_
    refine OL.nil ?_
    refine PW.keep (T' := [(4, _)]) ⟨rfl, trivial⟩ ?_
    refine PW.ret ?_
    change (Exit.ret = Exit.normal ∨ Exit.ret = Exit.ret) ∧ ∃ v, resV _ _ = some v ∧ _
    exact ⟨.inr rfl, _, rfl, by unfold cmpI; rw [if_pos (by omega)], rfl⟩
  · try simp only [decide_eq_true_eq, decide_eq_false_iff_not, beq_iff_eq, bne_iff_ne, beq_eq_false_iff_ne, bne_eq_false_iff_eq, Bool.not_eq_true', Bool.not_eq_false', Bool.not_eq_true, ne_eq, Decidable.not_not] at c16
    refine PW.skip ?_
    refine hK3 _ _ ?_
    refine PW.keep (T' := [(0, _), (1, _)]) ⟨rfl, rfl, trivial⟩ ?_
    refine PW.seq fun K4 hK4 => ?_
    refine PW.seqOps ?_
    refine OL.det trivial (Yields.pure rfl) ?_
    refine OL.det trivial (Yields.pure rfl) ?_
    refine OL.det trivial (Yields.pure rfl) ?_
    refine OL.nil ?_
    refine PW.keep (T' := [(19, _)]) ⟨rfl, trivial⟩ ?_
    refine PW.cond rfl (fun c19 => ?_) (fun c19 => ?_)
    · try simp only [decide_eq_true_eq, decide_eq_false_iff_not, beq_iff_eq, bne_iff_ne, beq_eq_false_iff_ne, bne_eq_false_iff_eq, Bool.not_eq_true', Bool.not_eq_false', Bool.not_eq_true, ne_eq, Decidable.not_not] at c19
      refine PW.seqOps ?_
      refine OL.det trivial (Yields.pure rfl) ?_
      refine OL.nil ?_
      refine PW.keep (T' := [(4, _)]) ⟨rfl, trivial⟩ ?_
      refine PW.ret ?_
      change (Exit.ret = Exit.normal ∨ Exit.ret = Exit.ret) ∧ ∃ v, resV _ _ = some v ∧ _
      exact ⟨.inr rfl, _, rfl, by unfold cmpI; rw [if_neg (by omega), if_pos (by omega)], rfl⟩
    · try simp only [decide_eq_true_eq, decide_eq_false_iff_not, beq_iff_eq, bne_iff_ne, beq_eq_false_iff_ne, bne_eq_false_iff_eq, Bool.not_eq_true', Bool.not_eq_false', Bool.not_eq_true, ne_eq, Decidable.not_not] at c19
      refine PW.skip ?_
      refine hK4 _ _ ?_
      refine PW.keep (T' := []) trivial ?_
      refine PW.seqOps ?_
      refine OL.det trivial (Yields.pure rfl) ?_
      refine OL.nil ?_
      refine PW.keep (T' := [(4, _)]) ⟨rfl, trivial⟩ ?_
      refine PW.ret ?_
      change (Exit.ret = Exit.normal ∨ Exit.ret = Exit.ret) ∧ ∃ v, resV _ _ = some v ∧ _
      exact ⟨.inr rfl, _, rfl, by unfold cmpI; rw [if_neg (by omega), if_neg (by omega)], rfl⟩
theorem nan_u64 {w0 : World} {S : SS} {z : Int} : FC Tryd.prog w0 87 [.int .u64 z] S (fun v S' => v = .bool false ∧ S' = S) := by
  refine FC.of Tryd.known87 (by simp) ?_
  unfold Tryd.pc87
  simp only [argT]
  refine PW.seqOps ?_
  refine OL.det trivial (Yields.pure rfl) ?_
  refine OL.nil ?_
  refine PW.keep (T' := [(0, _)]) ⟨rfl, trivial⟩ ?_
  refine PW.seqOps ?_
  refine OL.det trivial (Yields.pure rfl) ?_
  refine OL.det trivial (Yields.pure rfl) ?_
  refine OL.det trivial (Yields.pure rfl) ?_
  refine OL.det trivial (Yields.pure rfl) ?_
  refine OL.nil ?_
  refine PW.keep (T' := [(2, _)]) ⟨rfl, trivial⟩ ?_
  refine PW.ret ?_
  change (Exit.ret = Exit.normal ∨ Exit.ret = Exit.ret) ∧ ∃ v, resV _ _ = some v ∧ _
  exact ⟨.inr rfl, _, rfl, congrArg Value.bool (by simp), rfl⟩
theorem cmp_u64 {w0 : World} {S : SS} {x y : Int} : FC Tryd.prog w0 62 [.int .u64 x, .int .u64 y] S (fun v S' => v = .int .i64 (cmpI x y) ∧ S' = S) := by
  refine FC.of Tryd.known62 (by simp) ?_
  unfold Tryd.pc62
  simp only [argT]
  refine PW.seqOps ?_
  refine OL.det trivial (Yields.pure rfl) ?_
  refine OL.nil ?_
  refine PW.keep (T' := [(0, _), (1, _)]) ⟨rfl, rfl, trivial⟩ ?_
  refine PW.seqOps ?_
  refine OL.det trivial (Yields.pure rfl) ?_
  refine OL.call trivial rfl (nan_u64) ?_
  rintro _ Sx ⟨rfl, hSx⟩
  rw [hSx]
  clear hSx
  refine OL.det trivial (Yields.pure rfl) ?_
  refine OL.nil ?_
  refine PW.keep (T' := [(0, _), (1, _), (5, _)]) ⟨rfl, rfl, rfl, trivial⟩ ?_
  refine PW.seqOps ?_
  refine OL.det trivial (Yields.pure rfl) ?_
  refine OL.call trivial rfl (nan_u64) ?_
  rintro _ Sx ⟨rfl, hSx⟩
  rw [hSx]
  clear hSx
  refine OL.det trivial (Yields.pure rfl) ?_
  refine OL.nil ?_
  refine PW.keep (T' := [(0, _), (1, _), (5, _), (6, _)]) ⟨rfl, rfl, rfl, rfl, trivial⟩ ?_
  refine PW.seq fun K1 hK1 => ?_
  refine PW.seqOps ?_
  refine OL.det trivial (Yields.pure rfl) ?_
  refine OL.nil ?_
  refine PW.keep (T' := [(0, _), (1, _), (6, _), (11, _)]) ⟨rfl, rfl, rfl, rfl, trivial⟩ ?_
  refine PW.ite (b := false) rfl ?_
  rw [if_neg Bool.false_ne_true]
  refine PW.skip ?_
  refine hK1 _ _ ?_
  refine PW.keep (T' := [(0, _), (1, _), (6, _)]) ⟨rfl, rfl, rfl, trivial⟩ ?_
  refine PW.seq fun K2 hK2 => ?_
  refine PW.seqOps ?_
  refine OL.det trivial (Yields.pure rfl) ?_
  refine OL.nil ?_
  refine PW.keep (T' := [(0, _), (1, _), (13, _)]) ⟨rfl, rfl, rfl, trivial⟩ ?_
  refine PW.ite (b := false) rfl ?_
  rw [if_neg Bool.false_ne_true]
  refine PW.skip ?_
  refine hK2 _ _ ?_
  refine PW.keep (T' := [(0, _), (1, _)]) ⟨rfl, rfl, trivial⟩ ?_
  refine PW.seq fun K3 hK3 => ?_
  refine PW.seqOps ?_
  refine OL.det trivial (Yields.pure rfl) ?_
  refine OL.det trivial (Yields.pure rfl) ?_
  refine OL.det trivial (Yields.pure rfl) ?_
  refine OL.nil ?_
  refine PW.keep (T' := [(0, _), (1, _), (16, _)]) ⟨rfl, rfl, rfl, trivial⟩ ?_
  refine PW.cond rfl (fun c16 => ?_) (fun c16 => ?_)
  · try simp only [decide_eq_true_eq, decide_eq_false_iff_not, beq_iff_eq, bne_iff_ne, beq_eq_false_iff_ne, bne_eq_false_iff_eq, Bool.not_eq_true', Bool.not_eq_false', Bool.not_eq_true, ne_eq, Decidable.not_not] at c16
    refine PW.seqOps ?_
    refine OL.det trivial (Yields.pure rfl) ?_
    refine OL.nil ?_
    refine PW.keep (T' := [(4, _)]) ⟨rfl, trivial⟩ ?_
    refine PW.ret ?_
    change (Exit.ret = Exit.normal ∨ Exit.ret = Exit.ret) ∧ ∃ v, resV _ _ = some v ∧ _
    exact ⟨.inr rfl, _, rfl, by unfold cmpI; rw [if_pos (by omega)], rfl⟩
  · try simp only [decide_eq_true_eq, decide_eq_false_iff_not, beq_iff_eq, bne_iff_ne, beq_eq_false_iff_ne, bne_eq_false_iff_eq, Bool.not_eq_true', Bool.not_eq_false', Bool.not_eq_true, ne_eq, Decidable.not_not] at c16
    refine PW.skip ?_
    refine hK3 _ _ ?_
    refine PW.keep (T' := [(0, _), (1, _)]) ⟨rfl, rfl, trivial⟩ ?_
    refine PW.seq fun K4 hK4 => ?_
    refine PW.seqOps ?_
    refine OL.det trivial (Yields.pure rfl) ?_
    refine OL.det trivial (Yields.pure rfl) ?_
    refine OL.det trivial (Yields.pure rfl) ?_
    refine OL.nil ?_
    refine PW.keep (T' := [(19, _)]) ⟨rfl, trivial⟩ ?_
    refine PW.cond rfl (fun c19 => ?_) (fun c19 => ?_)
    · try simp only [decide_eq_true_eq, decide_eq_false_iff_not, beq_iff_eq, bne_iff_ne, beq_eq_false_iff_ne, bne_eq_false_iff_eq, Bool.not_eq_true', Bool.not_eq_false', Bool.not_eq_true, ne_eq, Decidable.not_not] at c19
      refine PW.seqOps ?_
      refine OL.det trivial (Yields.pure rfl) ?_
      refine OL.nil ?_
      refine PW.keep (T' := [(4, _)]) ⟨rfl, trivial⟩ ?_
      refine PW.ret ?_
      change (Exit.ret = Exit.normal ∨ Exit.ret = Exit.ret) ∧ ∃ v, resV _ _ = some v ∧ _
      exact ⟨.inr rfl, _, rfl, by unfold cmpI; rw [if_neg (by omega), if_pos (by omega)], rfl⟩
    · try simp only [decide_eq_true_eq, decide_eq_false_iff_not, beq_iff_eq, bne_iff_ne, beq_eq_false_iff_ne, bne_eq_false_iff_eq, Bool.not_eq_true', Bool.not_eq_false', Bool.not_eq_true, ne_eq, Decidable.not_not] at c19
      refine PW.skip ?_
      refine hK4 _ _ ?_
      refine PW.keep (T' := []) trivial ?_
      refine PW.seqOps ?_
      refine OL.det trivial (Yields.pure rfl) ?_
      refine OL.nil ?_
      refine PW.keep (T' := [(4, _)]) ⟨rfl, trivial⟩ ?_
      refine PW.ret ?_
      change (Exit.ret = Exit.normal ∨ Exit.ret = Exit.ret) ∧ ∃ v, resV _ _ = some v ∧ _
      exact ⟨.inr rfl, _, rfl, by unfold cmpI; rw [if_neg (by omega), if_neg (by omega)], rfl⟩

def el2 (x y : Int) (k : Nat) : Int := if k = 0 then x else y
theorem el_at {w0 : World} {S : SS} {a : Addr} {x y : Int} (h : Rd w0 S (some a) [.int .i64 x, .int .i64 y]) {k : Nat} (hk : k < 2) : Cell w0 S (a.add k) (.int .i64 (el2 x y k)) := by
  refine h.at ?_
  rcases k with _ | _ | k
  · rfl
  · rfl
  · omega
theorem or_fc {w0 : World} {S : SS} {a : Addr} {cap : Nat} {x y : Int} (hx : Rd w0 S (some a) [.int .i64 x, .int .i64 y]) : FC Tryd.prog w0 60 [.slice (some a) 2 cap] S (fun v S' => v = .int .i64 (if x ≠ 0 then x else y) ∧ S' = S) := by
  refine FC.of Tryd.known60 (by simp) ?_
  unfold Tryd.pc60
  simp only [argT]
  refine PW.seqOps ?_
  refine OL.det trivial (Yields.pure rfl) ?_
  refine OL.nil ?_
  refine PW.keep (T' := [(0, _)]) ⟨rfl, trivial⟩ ?_
  refine PW.seqOps ?_
  refine OL.det trivial (Yields.pure rfl) ?_
  refine OL.nil ?_
  refine PW.keep (T' := [(0, _), (3, _)]) ⟨rfl, rfl, trivial⟩ ?_
  refine PW.seq fun K1 hK1 => ?_
  refine PW.seqOps ?_
  refine OL.det trivial (Yields.pure rfl) ?_
  refine OL.det trivial (Yields.pure rfl) ?_
  refine OL.det trivial (Yields.pure rfl) ?_
  refine OL.nil ?_
  refine PW.keep (T' := [(3, _), (6, _), (7, _), (8, _)]) ⟨rfl, rfl, rfl, rfl, trivial⟩ ?_
  refine PW.block ?_
  refine PW.keep (T' := [(3, _), (6, _), (7, _), (8, _)]) ⟨rfl, rfl, rfl, rfl, trivial⟩ ?_
  refine PW.loopK (I := fun m T S' => ∃ (k : Nat), (k ≤ 2 ∧ m = 2 - k ∧ (1 ≤ k → x = 0) ∧ (2 ≤ k → y = 0)) ∧ T = ([(3, .int .i64 0), (6, .slice (some a) 2 cap), (7, .int .i64 2), (8, .int .i64 k)] : TT) ∧ S' = S) (m := 2) ⟨0, ⟨by omega, by omega, fun h => by omega, fun h => by omega⟩, rfl, rfl⟩ ?_
  rintro m _ _ ⟨k, ⟨hk, hm, h0, h1⟩, rfl, rfl⟩
  refine PW.seqOps ?_
  refine OL.det trivial (Yields.pure rfl) ?_
  refine OL.nil ?_
  refine PW.keep (T' := [(3, _), (6, _), (7, _), (8, _), (9, _)]) ⟨rfl, rfl, rfl, rfl, rfl, trivial⟩ ?_
  refine PW.seq fun K2 hK2 => ?_
  refine PW.cond rfl (fun c9 => ?_) (fun c9 => ?_)
  · try simp only [decide_eq_true_eq, decide_eq_false_iff_not, beq_iff_eq, bne_iff_ne, beq_eq_false_iff_ne, bne_eq_false_iff_eq, Bool.not_eq_true', Bool.not_eq_false', Bool.not_eq_true, ne_eq, Decidable.not_not] at c9
    have hkl : k < 2 := by omega
    refine PW.skip ?_
    refine hK2 _ _ ?_
    refine PW.keep (T' := [(3, _), (6, _), (7, _), (8, _)]) ⟨rfl, rfl, rfl, rfl, trivial⟩ ?_
    refine PW.seq fun K3 hK3 => ?_
    refine PW.block ?_
    refine PW.seqOps ?_
    refine OL.det trivial (Yields.ixN1 rfl rfl rfl (by omega)) ?_
    refine OL.det trivial (Yields.ld rfl (el_at hx hkl)) ?_
    refine OL.det trivial (Yields.pure rfl) ?_
    refine OL.nil ?_
    refine PW.keep (T' := [(3, _), (5, _), (6, _), (7, _), (8, _)]) ⟨rfl, rfl, rfl, rfl, rfl, trivial⟩ ?_
    refine PW.seqOps ?_
    refine OL.det trivial (Yields.pure rfl) ?_
    refine OL.det trivial (Yields.pure rfl) ?_
    refine OL.det trivial (Yields.pure rfl) ?_
    refine OL.nil ?_
    refine PW.keep (T' := [(3, _), (5, _), (6, _), (7, _), (8, _), (14, _)]) ⟨rfl, rfl, rfl, rfl, rfl, rfl, trivial⟩ ?_
    refine PW.cond rfl (fun c14 => ?_) (fun c14 => ?_)
    · try simp only [decide_eq_true_eq, decide_eq_false_iff_not, beq_iff_eq, bne_iff_ne, beq_eq_false_iff_ne, bne_eq_false_iff_eq, Bool.not_eq_true', Bool.not_eq_false', Bool.not_eq_true, ne_eq, Decidable.not_not] at c14
      refine PW.seqOps ?_
      refine OL.det trivial (Yields.pure rfl) ?_
      refine OL.det trivial (Yields.pure rfl) ?_
      refine OL.nil ?_
      refine PW.keep (T' := [(2, _)]) ⟨rfl, trivial⟩ ?_
      refine PW.ret ?_
      change (Exit.ret = Exit.normal ∨ Exit.ret = Exit.ret) ∧ ∃ v, resV _ _ = some v ∧ _
      refine ⟨.inr rfl, _, rfl, ?_, rfl⟩
      rcases k with _ | _ | k
      · have e : el2 x y 0 = x := rfl
        rw [e] at c14 ⊢
        rw [if_pos c14]
      · have e : el2 x y (0 + 1) = y := rfl
        rw [e]
        rw [if_neg (by have := h0 (by omega); omega)]
      · omega
    · try simp only [decide_eq_true_eq, decide_eq_false_iff_not, beq_iff_eq, bne_iff_ne, beq_eq_false_iff_ne, bne_eq_false_iff_eq, Bool.not_eq_true', Bool.not_eq_false', Bool.not_eq_true, ne_eq, Decidable.not_not] at c14
      refine PW.skip ?_
      refine hK3 _ _ ?_
      refine PW.keep (T' := [(3, _), (6, _), (7, _), (8, _)]) ⟨rfl, rfl, rfl, rfl, trivial⟩ ?_
      refine PW.ops ?_
      refine OL.det trivial (Yields.add64 rfl rfl (by omega) (by omega)) ?_
      refine OL.det trivial (Yields.pure rfl) ?_
      refine OL.nil ?_
      repeat rw [inBlk_n]
      rw [thenK_n]
      refine LoopEnd.mk (T'' := [(3, _), (6, _), (7, _), (8, _)]) ⟨rfl, rfl, rfl, rfl, trivial⟩ ?_
      refine ⟨2 - (k + 1), by omega, k + 1, ⟨by omega, rfl, fun h => ?_, fun h => ?_⟩, rfl, rfl⟩
      · rcases k with _ | k
        · have e : el2 x y 0 = x := rfl
          omega
        · exact h0 (by omega)
      · obtain rfl : k = 1 := by omega
        have e : el2 x y 1 = y := rfl
        omega
  · try simp only [decide_eq_true_eq, decide_eq_false_iff_not, beq_iff_eq, bne_iff_ne, beq_eq_false_iff_ne, bne_eq_false_iff_eq, Bool.not_eq_true', Bool.not_eq_false', Bool.not_eq_true, ne_eq, Decidable.not_not] at c9
    refine PW.exit ?_
    refine hK1 _ _ ?_
    refine PW.keep (T' := [(3, _)]) ⟨rfl, trivial⟩ ?_
    refine PW.seqOps ?_
    refine OL.det trivial (Yields.pure rfl) ?_
    refine OL.det trivial (Yields.pure rfl) ?_
    refine OL.nil ?_
    refine PW.keep (T' := [(2, _)]) ⟨rfl, trivial⟩ ?_
    refine PW.ret ?_
    change (Exit.ret = Exit.normal ∨ Exit.ret = Exit.ret) ∧ ∃ v, resV _ _ = some v ∧ _
    exact ⟨.inr rfl, _, rfl, by rw [if_neg (by have := h0 (by omega); omega)]; congr 1; exact (h1 (by omega)).symm, rfl⟩
theorem order_l {w0 : World} {S : SS} {a b : LabB} : FC Tryd.prog w0 25 [labB a, labB b] S (fun v S' => v = .int .i64 (orZ a b) ∧ S' = S) := by
  refine FC.ofD Tryd.known25 (by simp) ?_
  unfold Tryd.pc25
  simp only [argT]
  refine PW.seqOps ?_
  refine OL.cons trivial (OW.bx rfl) ?_
  rintro _ _ ⟨r2, rfl, rfl⟩
  change OL _ _ _ _ _ (lseg r2 a :: S) _
  refine OL.cons trivial (OW.bx rfl) ?_
  rintro _ _ ⟨r3, rfl, rfl⟩
  change OL _ _ _ _ _ (lseg r3 b :: lseg r2 a :: S) _
  refine OL.det trivial (Yields.pure rfl) ?_
  refine OL.nil ?_
  refine PW.keep (T' := [(2, _), (3, _)]) ⟨rfl, rfl, trivial⟩ ?_
  refine PW.seq fun K1 hK1 => ?_
  refine PW.quietK Tryd.mixed ?_
  refine QK.det trivial (Yields.pure rfl) ?_
  refine QK.det trivial (Yields.ld rfl (own_at (j := 0) (c := [.int .i64 a.1, .int .u64 (a.2.toNat : Int)]) (E := 24) (tot := 2) (by simp) rfl)) ?_
  refine QK.det trivial (Yields.pure rfl) ?_
  refine QK.det trivial (Yields.ld rfl (own_at (j := 0) (c := [.int .i64 b.1, .int .u64 (b.2.toNat : Int)]) (E := 24) (tot := 2) (by simp) rfl)) ?_
  refine QK.call trivial rfl (cmp_i64) ?_
  refine QK.det trivial (Yields.pure rfl) ?_
  refine QK.det trivial (Yields.ld rfl (own_at (j := 1) (c := [.int .i64 a.1, .int .u64 (a.2.toNat : Int)]) (E := 24) (tot := 2) (by simp) rfl)) ?_
  refine QK.det trivial (Yields.pure rfl) ?_
  refine QK.det trivial (Yields.ld rfl (own_at (j := 1) (c := [.int .i64 b.1, .int .u64 (b.2.toNat : Int)]) (E := 24) (tot := 2) (by simp) rfl)) ?_
  refine QK.nil ?_
  change OL _ _ _ [_, _, _, _] _ _ _
  refine OL.call trivial rfl (cmp_u64) ?_
  rintro _ Sx ⟨rfl, hSx⟩
  rw [hSx]
  clear hSx
  refine OL.cons trivial (OW.bsl rfl) ?_
  rintro _ _ ⟨r15, rfl, rfl⟩
  change OL _ _ _ _ _ ([(r15, .cells [.int .i64 (cmpI a.1 b.1), .int .i64 (cmpI (a.2.toNat : Int) (b.2.toNat : Int))] 3 2)] :: lseg r3 b :: lseg r2 a :: S) _
  refine OL.call trivial rfl (or_fc (x := cmpI a.1 b.1) (y := cmpI (a.2.toNat : Int) (b.2.toNat : Int)) (Rd.own (E := 3) (tot := 2) (by simp))) ?_
  rintro _ Sx ⟨rfl, hSx⟩
  rw [hSx]
  clear hSx
  refine OL.det trivial (Yields.pure rfl) ?_
  refine OL.nil ?_
  refine hK1 _ _ ?_
  refine PW.keep (T' := [(4, _)]) ⟨rfl, trivial⟩ ?_
  refine PW.ret ?_
  change (Exit.ret = Exit.normal ∨ Exit.ret = Exit.ret) ∧ ∃ v, resV _ _ = some v ∧ _
  exact ⟨.inr rfl, _, rfl, _, Sub.drop (Sub.drop (Sub.drop (Sub.refl _))), rfl, rfl⟩

theorem or_lt {a b : LabB} (h : a.1 < b.1) : orZ a b = -1 := by unfold orZ cmpI; simp [h]
theorem or_gt {a b : LabB} (h : b.1 < a.1) : orZ a b = 1 := by
  have : ¬ a.1 < b.1 := by omega
  unfold orZ cmpI; simp [h, this]
theorem or_eq {a b : LabB} (h : a.1 = b.1) : orZ a b = cmpI (a.2.toNat : Int) (b.2.toNat : Int) := by
  unfold orZ
  rw [if_neg]
  unfold cmpI
  rw [if_neg (by omega), if_neg (by omega)]
  simp
theorem rorder_l {w0 : World} {S : SS} {a b : LabB} : FC Tryd.prog w0 26 [labB a, labB b] S (fun v S' => v = .int .i64 (orZ a b) ∧ S' = S) := by
  refine FC.ofD Tryd.known26 (by simp) ?_
  unfold Tryd.pc26
  simp only [argT]
  refine PW.seqOps ?_
  refine OL.cons trivial (OW.bx rfl) ?_
  rintro _ _ ⟨r2, rfl, rfl⟩
  change OL _ _ _ _ _ (lseg r2 a :: S) _
  refine OL.cons trivial (OW.bx rfl) ?_
  rintro _ _ ⟨r3, rfl, rfl⟩
  change OL _ _ _ _ _ (lseg r3 b :: lseg r2 a :: S) _
  refine OL.det trivial (Yields.pure rfl) ?_
  refine OL.nil ?_
  refine PW.keep (T' := [(2, _), (3, _)]) ⟨rfl, rfl, trivial⟩ ?_
  refine PW.seq fun K1 hK1 => ?_
  refine PW.seqOps ?_
  refine OL.det trivial (Yields.pure rfl) ?_
  refine OL.det trivial (Yields.ld rfl (own_at (j := 0) (c := [.int .i64 a.1, .int .u64 (a.2.toNat : Int)]) (E := 24) (tot := 2) (by simp) rfl)) ?_
  refine OL.det trivial (Yields.pure rfl) ?_
  refine OL.det trivial (Yields.ld rfl (own_at (j := 0) (c := [.int .i64 b.1, .int .u64 (b.2.toNat : Int)]) (E := 24) (tot := 2) (by simp) rfl)) ?_
  refine OL.det trivial (Yields.pure rfl) ?_
  refine OL.nil ?_
  refine PW.keep (T' := [(2, _), (3, _), (9, _)]) ⟨rfl, rfl, rfl, trivial⟩ ?_
  refine PW.cond rfl (fun c9 => ?_) (fun c9 => ?_)
  · try simp only [decide_eq_true_eq, decide_eq_false_iff_not, beq_iff_eq, bne_iff_ne, beq_eq_false_iff_ne, bne_eq_false_iff_eq, Bool.not_eq_true', Bool.not_eq_false', Bool.not_eq_true, ne_eq, Decidable.not_not] at c9
    refine PW.seq fun K2 hK2 => ?_
    refine PW.seqOps ?_
    refine OL.det trivial (Yields.pure rfl) ?_
    refine OL.det trivial (Yields.ld rfl (own_at (j := 0) (c := [.int .i64 a.1, .int .u64 (a.2.toNat : Int)]) (E := 24) (tot := 2) (by simp) rfl)) ?_
    refine OL.det trivial (Yields.pure rfl) ?_
    refine OL.det trivial (Yields.ld rfl (own_at (j := 0) (c := [.int .i64 b.1, .int .u64 (b.2.toNat : Int)]) (E := 24) (tot := 2) (by simp) rfl)) ?_
    refine OL.det trivial (Yields.pure rfl) ?_
    refine OL.nil ?_
    refine PW.keep (T' := [(14, _)]) ⟨rfl, trivial⟩ ?_
    refine PW.cond rfl (fun c14 => ?_) (fun c14 => ?_)
    · try simp only [decide_eq_true_eq, decide_eq_false_iff_not, beq_iff_eq, bne_iff_ne, beq_eq_false_iff_ne, bne_eq_false_iff_eq, Bool.not_eq_true', Bool.not_eq_false', Bool.not_eq_true, ne_eq, Decidable.not_not] at c14
      refine PW.seqOps ?_
      refine OL.det trivial (Yields.pure rfl) ?_
      refine OL.nil ?_
      refine PW.keep (T' := [(4, _)]) ⟨rfl, trivial⟩ ?_
      refine PW.ret ?_
      change (Exit.ret = Exit.normal ∨ Exit.ret = Exit.ret) ∧ ∃ v, resV _ _ = some v ∧ _
      exact ⟨.inr rfl, _, rfl, _, Sub.drop (Sub.drop (Sub.refl _)), by rw [or_lt (by omega)], rfl⟩
    · try simp only [decide_eq_true_eq, decide_eq_false_iff_not, beq_iff_eq, bne_iff_ne, beq_eq_false_iff_ne, bne_eq_false_iff_eq, Bool.not_eq_true', Bool.not_eq_false', Bool.not_eq_true, ne_eq, Decidable.not_not] at c14
      refine PW.skip ?_
      refine hK2 _ _ ?_
      refine PW.keep (T' := []) trivial ?_
      refine PW.seqOps ?_
      refine OL.det trivial (Yields.pure rfl) ?_
      refine OL.nil ?_
      refine PW.keep (T' := [(4, _)]) ⟨rfl, trivial⟩ ?_
      refine PW.ret ?_
      change (Exit.ret = Exit.normal ∨ Exit.ret = Exit.ret) ∧ ∃ v, resV _ _ = some v ∧ _
      exact ⟨.inr rfl, _, rfl, _, Sub.drop (Sub.drop (Sub.refl _)), by rw [or_gt (by omega)], rfl⟩
  · try simp only [decide_eq_true_eq, decide_eq_false_iff_not, beq_iff_eq, bne_iff_ne, beq_eq_false_iff_ne, bne_eq_false_iff_eq, Bool.not_eq_true', Bool.not_eq_false', Bool.not_eq_true, ne_eq, Decidable.not_not] at c9
    refine PW.skip ?_
    refine hK1 _ _ ?_
    refine PW.keep (T' := [(2, _), (3, _)]) ⟨rfl, rfl, trivial⟩ ?_
    refine PW.seq fun K3 hK3 => ?_
    refine PW.seqOps ?_
    refine OL.det trivial (Yields.pure rfl) ?_
    refine OL.det trivial (Yields.ld rfl (own_at (j := 1) (c := [.int .i64 a.1, .int .u64 (a.2.toNat : Int)]) (E := 24) (tot := 2) (by simp) rfl)) ?_
    refine OL.det trivial (Yields.pure rfl) ?_
    refine OL.det trivial (Yields.ld rfl (own_at (j := 1) (c := [.int .i64 b.1, .int .u64 (b.2.toNat : Int)]) (E := 24) (tot := 2) (by simp) rfl)) ?_
    refine OL.det trivial (Yields.pure rfl) ?_
    refine OL.nil ?_
    refine PW.keep (T' := [(2, _), (3, _), (19, _)]) ⟨rfl, rfl, rfl, trivial⟩ ?_
    refine PW.cond rfl (fun c19 => ?_) (fun c19 => ?_)
    · try simp only [decide_eq_true_eq, decide_eq_false_iff_not, beq_iff_eq, bne_iff_ne, beq_eq_false_iff_ne, bne_eq_false_iff_eq, Bool.not_eq_true', Bool.not_eq_false', Bool.not_eq_true, ne_eq, Decidable.not_not] at c19
      refine PW.seqOps ?_
      refine OL.det trivial (Yields.pure rfl) ?_
      refine OL.nil ?_
      refine PW.keep (T' := [(4, _)]) ⟨rfl, trivial⟩ ?_
      refine PW.ret ?_
      change (Exit.ret = Exit.normal ∨ Exit.ret = Exit.ret) ∧ ∃ v, resV _ _ = some v ∧ _
      exact ⟨.inr rfl, _, rfl, _, Sub.drop (Sub.drop (Sub.refl _)), by rw [or_eq (by omega), show cmpI _ _ = -1 from by unfold cmpI; rw [if_pos (by omega)]], rfl⟩
    · try simp only [decide_eq_true_eq, decide_eq_false_iff_not, beq_iff_eq, bne_iff_ne, beq_eq_false_iff_ne, bne_eq_false_iff_eq, Bool.not_eq_true', Bool.not_eq_false', Bool.not_eq_true, ne_eq, Decidable.not_not] at c19
      refine PW.skip ?_
      refine hK3 _ _ ?_
      refine PW.keep (T' := [(2, _), (3, _)]) ⟨rfl, rfl, trivial⟩ ?_
      refine PW.seq fun K4 hK4 => ?_
      refine PW.seqOps ?_
      refine OL.det trivial (Yields.pure rfl) ?_
      refine OL.det trivial (Yields.ld rfl (own_at (j := 1) (c := [.int .i64 a.1, .int .u64 (a.2.toNat : Int)]) (E := 24) (tot := 2) (by simp) rfl)) ?_
      refine OL.det trivial (Yields.pure rfl) ?_
      refine OL.det trivial (Yields.ld rfl (own_at (j := 1) (c := [.int .i64 b.1, .int .u64 (b.2.toNat : Int)]) (E := 24) (tot := 2) (by simp) rfl)) ?_
      refine OL.det trivial (Yields.pure rfl) ?_
      refine OL.nil ?_
      refine PW.keep (T' := [(24, _)]) ⟨rfl, trivial⟩ ?_
      refine PW.cond rfl (fun c24 => ?_) (fun c24 => ?_)
      · try simp only [decide_eq_true_eq, decide_eq_false_iff_not, beq_iff_eq, bne_iff_ne, beq_eq_false_iff_ne, bne_eq_false_iff_eq, Bool.not_eq_true', Bool.not_eq_false', Bool.not_eq_true, ne_eq, Decidable.not_not] at c24
        refine PW.seqOps ?_
        refine OL.det trivial (Yields.pure rfl) ?_
        refine OL.nil ?_
        refine PW.keep (T' := [(4, _)]) ⟨rfl, trivial⟩ ?_
        refine PW.ret ?_
        change (Exit.ret = Exit.normal ∨ Exit.ret = Exit.ret) ∧ ∃ v, resV _ _ = some v ∧ _
        exact ⟨.inr rfl, _, rfl, _, Sub.drop (Sub.drop (Sub.refl _)), by rw [or_eq (by omega), show cmpI _ _ = 1 from by unfold cmpI; rw [if_neg (by omega), if_pos (by omega)]], rfl⟩
      · try simp only [decide_eq_true_eq, decide_eq_false_iff_not, beq_iff_eq, bne_iff_ne, beq_eq_false_iff_ne, bne_eq_false_iff_eq, Bool.not_eq_true', Bool.not_eq_false', Bool.not_eq_true, ne_eq, Decidable.not_not] at c24
        refine PW.skip ?_
        refine hK4 _ _ ?_
        refine PW.keep (T' := []) trivial ?_
        refine PW.seqOps ?_
        refine OL.det trivial (Yields.pure rfl) ?_
        refine OL.nil ?_
        refine PW.keep (T' := [(4, _)]) ⟨rfl, trivial⟩ ?_
        refine PW.ret ?_
        change (Exit.ret = Exit.normal ∨ Exit.ret = Exit.ret) ∧ ∃ v, resV _ _ = some v ∧ _
        exact ⟨.inr rfl, _, rfl, _, Sub.drop (Sub.drop (Sub.refl _)), by rw [or_eq (by omega), show cmpI _ _ = 0 from by unfold cmpI; rw [if_neg (by omega), if_neg (by omega)]], rfl⟩
theorem rjoin_b {w0 : World} {S : SS} {a b : LabB} : FC Tryd.prog w0 23 [labB a, labB b] S (fun v S' => v = labB (joinB a b) ∧ S' = S) := by
  refine FC.ofC Tryd.known23 (by simp) ?_
  unfold Tryd.pc23
  simp only [argT]
  refine PW.seqOps ?_
  refine OL.cons trivial (OW.bx rfl) ?_
  rintro _ _ ⟨r2, rfl, rfl⟩
  change OL _ _ _ _ _ (lseg r2 a :: S) _
  refine OL.cons trivial (OW.bx rfl) ?_
  rintro _ _ ⟨r3, rfl, rfl⟩
  change OL _ _ _ _ _ (lseg r3 b :: lseg r2 a :: S) _
  refine OL.cons trivial OW.al ?_
  rintro _ _ ⟨r4, rfl, rfl⟩
  refine OL.nil ?_
  refine PW.keep (T' := [(2, _), (3, _), (4, _)]) ⟨rfl, rfl, rfl, trivial⟩ ?_
  refine PW.seqOps ?_
  refine OL.det trivial (Yields.pure rfl) ?_
  refine OL.det trivial (Yields.ld rfl (own_at (j := 0) (c := [.int .i64 a.1, .int .u64 (a.2.toNat : Int)]) (E := 24) (tot := 2) (by simp) rfl)) ?_
  refine OL.det trivial (Yields.pure rfl) ?_
  refine OL.nil ?_
  refine PW.keep (T' := [(2, _), (3, _), (4, _), (5, _)]) ⟨rfl, rfl, rfl, rfl, trivial⟩ ?_
  refine PW.seq fun K1 hK1 => ?_
  refine PW.seqOps ?_
  refine OL.det trivial (Yields.pure rfl) ?_
  refine OL.det trivial (Yields.ld rfl (own_at (j := 0) (c := [.int .i64 b.1, .int .u64 (b.2.toNat : Int)]) (E := 24) (tot := 2) (by simp) rfl)) ?_
  refine OL.det trivial (Yields.pure rfl) ?_
  refine OL.det trivial (Yields.pure rfl) ?_
  refine OL.nil ?_
  refine PW.keep (T' := [(2, _), (3, _), (4, _), (5, _), (11, _)]) ⟨rfl, rfl, rfl, rfl, rfl, trivial⟩ ?_
  refine PW.cond rfl (fun c11 => ?_) (fun c11 => ?_)
  · try simp only [decide_eq_true_eq, decide_eq_false_iff_not, beq_iff_eq, bne_iff_ne, beq_eq_false_iff_ne, bne_eq_false_iff_eq, Bool.not_eq_true', Bool.not_eq_false', Bool.not_eq_true, ne_eq, Decidable.not_not] at c11
    refine PW.ops ?_
    refine OL.det trivial (Yields.pure rfl) ?_
    refine OL.det trivial (Yields.ld rfl (own_at (j := 0) (c := [.int .i64 b.1, .int .u64 (b.2.toNat : Int)]) (E := 24) (tot := 2) (by simp) rfl)) ?_
    refine OL.det trivial (Yields.pure rfl) ?_
    refine OL.nil ?_
    refine hK1 _ _ ?_
    refine PW.keep (T' := [(2, _), (3, _), (4, _), (5, _)]) ⟨rfl, rfl, rfl, rfl, trivial⟩ ?_
    refine PW.seqOps ?_
    refine OL.det trivial (Yields.pure rfl) ?_
    refine OL.det trivial (Yields.ldA rfl rfl (lab_at (a := a) (r := r2) (by simp))) ?_
    refine OL.det trivial (Yields.ldA rfl rfl (lab_at (a := b) (r := r3) (by simp))) ?_
    refine OL.call trivial rfl (both_fc (a := a) (b := b) (all := false)) ?_
    rintro _ Sx ⟨rfl, hSx⟩
    rw [hSx]
    clear hSx
    first
      | rw [show ((b.1, bothB false a b) : LabB) = joinB a b from Prod.ext (by show b.1 = max a.1 b.1; omega) (by simp [bothB, joinB])]
      | rw [show ((a.1, bothB false a b) : LabB) = joinB a b from Prod.ext (by show a.1 = max a.1 b.1; omega) (by simp [bothB, joinB])]
    refine OL.cons trivial (OW.st (k := 0) (u := labB (joinB a b)) rfl rfl rfl rfl (by show (2 : Nat) ≤ 2; omega) rfl) ?_
    rintro _ _ rfl
    refine OL.nil ?_
    refine PW.keep (T' := [(4, _)]) ⟨rfl, trivial⟩ ?_
    refine PW.ret ?_
    change (Exit.ret = Exit.normal ∨ Exit.ret = Exit.ret) ∧ ∃ a v, Go.SL.look _ _ = some (.pointer (some a)) ∧ ReadsAs _ _ _ _ _ ∧ _
    exact ⟨.inr rfl, _, labB (joinB a b), rfl, lab_read (r := r4) (List.Mem.head _), _, Sub.drop (Sub.drop (Sub.drop (Sub.refl _))), rfl, rfl⟩
  · try simp only [decide_eq_true_eq, decide_eq_false_iff_not, beq_iff_eq, bne_iff_ne, beq_eq_false_iff_ne, bne_eq_false_iff_eq, Bool.not_eq_true', Bool.not_eq_false', Bool.not_eq_true, ne_eq, Decidable.not_not] at c11
    refine PW.skip ?_
    refine hK1 _ _ ?_
    refine PW.keep (T' := [(2, _), (3, _), (4, _), (5, _)]) ⟨rfl, rfl, rfl, rfl, trivial⟩ ?_
    refine PW.seqOps ?_
    refine OL.det trivial (Yields.pure rfl) ?_
    refine OL.det trivial (Yields.ldA rfl rfl (lab_at (a := a) (r := r2) (by simp))) ?_
    refine OL.det trivial (Yields.ldA rfl rfl (lab_at (a := b) (r := r3) (by simp))) ?_
    refine OL.call trivial rfl (both_fc (a := a) (b := b) (all := false)) ?_
    rintro _ Sx ⟨rfl, hSx⟩
    rw [hSx]
    clear hSx
    first
      | rw [show ((b.1, bothB false a b) : LabB) = joinB a b from Prod.ext (by show b.1 = max a.1 b.1; omega) (by simp [bothB, joinB])]
      | rw [show ((a.1, bothB false a b) : LabB) = joinB a b from Prod.ext (by show a.1 = max a.1 b.1; omega) (by simp [bothB, joinB])]
    refine OL.cons trivial (OW.st (k := 0) (u := labB (joinB a b)) rfl rfl rfl rfl (by show (2 : Nat) ≤ 2; omega) rfl) ?_
    rintro _ _ rfl
    refine OL.nil ?_
    refine PW.keep (T' := [(4, _)]) ⟨rfl, trivial⟩ ?_
    refine PW.ret ?_
    change (Exit.ret = Exit.normal ∨ Exit.ret = Exit.ret) ∧ ∃ a v, Go.SL.look _ _ = some (.pointer (some a)) ∧ ReadsAs _ _ _ _ _ ∧ _
    exact ⟨.inr rfl, _, labB (joinB a b), rfl, lab_read (r := r4) (List.Mem.head _), _, Sub.drop (Sub.drop (Sub.drop (Sub.refl _))), rfl, rfl⟩
theorem rmeet_b {w0 : World} {S : SS} {a b : LabB} : FC Tryd.prog w0 24 [labB a, labB b] S (fun v S' => v = labB (meetB a b) ∧ S' = S) := by
  refine FC.ofC Tryd.known24 (by simp) ?_
  unfold Tryd.pc24
  simp only [argT]
  refine PW.seqOps ?_
  refine OL.cons trivial (OW.bx rfl) ?_
  rintro _ _ ⟨r2, rfl, rfl⟩
  change OL _ _ _ _ _ (lseg r2 a :: S) _
  refine OL.cons trivial (OW.bx rfl) ?_
  rintro _ _ ⟨r3, rfl, rfl⟩
  change OL _ _ _ _ _ (lseg r3 b :: lseg r2 a :: S) _
  refine OL.cons trivial OW.al ?_
  rintro _ _ ⟨r4, rfl, rfl⟩
  refine OL.nil ?_
  refine PW.keep (T' := [(2, _), (3, _), (4, _)]) ⟨rfl, rfl, rfl, trivial⟩ ?_
  refine PW.seqOps ?_
  refine OL.det trivial (Yields.pure rfl) ?_
  refine OL.det trivial (Yields.ld rfl (own_at (j := 0) (c := [.int .i64 a.1, .int .u64 (a.2.toNat : Int)]) (E := 24) (tot := 2) (by simp) rfl)) ?_
  refine OL.det trivial (Yields.pure rfl) ?_
  refine OL.nil ?_
  refine PW.keep (T' := [(2, _), (3, _), (4, _), (5, _)]) ⟨rfl, rfl, rfl, rfl, trivial⟩ ?_
  refine PW.seq fun K1 hK1 => ?_
  refine PW.seqOps ?_
  refine OL.det trivial (Yields.pure rfl) ?_
  refine OL.det trivial (Yields.ld rfl (own_at (j := 0) (c := [.int .i64 b.1, .int .u64 (b.2.toNat : Int)]) (E := 24) (tot := 2) (by simp) rfl)) ?_
  refine OL.det trivial (Yields.pure rfl) ?_
  refine OL.det trivial (Yields.pure rfl) ?_
  refine OL.nil ?_
  refine PW.keep (T' := [(2, _), (3, _), (4, _), (5, _), (11, _)]) ⟨rfl, rfl, rfl, rfl, rfl, trivial⟩ ?_
  refine PW.cond rfl (fun c11 => ?_) (fun c11 => ?_)
  · try simp only [decide_eq_true_eq, decide_eq_false_iff_not, beq_iff_eq, bne_iff_ne, beq_eq_false_iff_ne, bne_eq_false_iff_eq, Bool.not_eq_true', Bool.not_eq_false', Bool.not_eq_true, ne_eq, Decidable.not_not] at c11
    refine PW.ops ?_
    refine OL.det trivial (Yields.pure rfl) ?_
    refine OL.det trivial (Yields.ld rfl (own_at (j := 0) (c := [.int .i64 b.1, .int .u64 (b.2.toNat : Int)]) (E := 24) (tot := 2) (by simp) rfl)) ?_
    refine OL.det trivial (Yields.pure rfl) ?_
    refine OL.nil ?_
    refine hK1 _ _ ?_
    refine PW.keep (T' := [(2, _), (3, _), (4, _), (5, _)]) ⟨rfl, rfl, rfl, rfl, trivial⟩ ?_
    refine PW.seqOps ?_
    refine OL.det trivial (Yields.pure rfl) ?_
    refine OL.det trivial (Yields.ldA rfl rfl (lab_at (a := a) (r := r2) (by simp))) ?_
    refine OL.det trivial (Yields.ldA rfl rfl (lab_at (a := b) (r := r3) (by simp))) ?_
    refine OL.call trivial rfl (both_fc (a := a) (b := b) (all := true)) ?_
    rintro _ Sx ⟨rfl, hSx⟩
    rw [hSx]
    clear hSx
    first
      | rw [show ((b.1, bothB true a b) : LabB) = meetB a b from Prod.ext (by show b.1 = min a.1 b.1; omega) (by simp [bothB, meetB])]
      | rw [show ((a.1, bothB true a b) : LabB) = meetB a b from Prod.ext (by show a.1 = min a.1 b.1; omega) (by simp [bothB, meetB])]
    refine OL.cons trivial (OW.st (k := 0) (u := labB (meetB a b)) rfl rfl rfl rfl (by show (2 : Nat) ≤ 2; omega) rfl) ?_
    rintro _ _ rfl
    refine OL.nil ?_
    refine PW.keep (T' := [(4, _)]) ⟨rfl, trivial⟩ ?_
    refine PW.ret ?_
    change (Exit.ret = Exit.normal ∨ Exit.ret = Exit.ret) ∧ ∃ a v, Go.SL.look _ _ = some (.pointer (some a)) ∧ ReadsAs _ _ _ _ _ ∧ _
    exact ⟨.inr rfl, _, labB (meetB a b), rfl, lab_read (r := r4) (List.Mem.head _), _, Sub.drop (Sub.drop (Sub.drop (Sub.refl _))), rfl, rfl⟩
  · try simp only [decide_eq_true_eq, decide_eq_false_iff_not, beq_iff_eq, bne_iff_ne, beq_eq_false_iff_ne, bne_eq_false_iff_eq, Bool.not_eq_true', Bool.not_eq_false', Bool.not_eq_true, ne_eq, Decidable.not_not] at c11
    refine PW.skip ?_
    refine hK1 _ _ ?_
    refine PW.keep (T' := [(2, _), (3, _), (4, _), (5, _)]) ⟨rfl, rfl, rfl, rfl, trivial⟩ ?_
    refine PW.seqOps ?_
    refine OL.det trivial (Yields.pure rfl) ?_
    refine OL.det trivial (Yields.ldA rfl rfl (lab_at (a := a) (r := r2) (by simp))) ?_
    refine OL.det trivial (Yields.ldA rfl rfl (lab_at (a := b) (r := r3) (by simp))) ?_
    refine OL.call trivial rfl (both_fc (a := a) (b := b) (all := true)) ?_
    rintro _ Sx ⟨rfl, hSx⟩
    rw [hSx]
    clear hSx
    first
      | rw [show ((b.1, bothB true a b) : LabB) = meetB a b from Prod.ext (by show b.1 = min a.1 b.1; omega) (by simp [bothB, meetB])]
      | rw [show ((a.1, bothB true a b) : LabB) = meetB a b from Prod.ext (by show a.1 = min a.1 b.1; omega) (by simp [bothB, meetB])]
    refine OL.cons trivial (OW.st (k := 0) (u := labB (meetB a b)) rfl rfl rfl rfl (by show (2 : Nat) ≤ 2; omega) rfl) ?_
    rintro _ _ rfl
    refine OL.nil ?_
    refine PW.keep (T' := [(4, _)]) ⟨rfl, trivial⟩ ?_
    refine PW.ret ?_
    change (Exit.ret = Exit.normal ∨ Exit.ret = Exit.ret) ∧ ∃ a v, Go.SL.look _ _ = some (.pointer (some a)) ∧ ReadsAs _ _ _ _ _ ∧ _
    exact ⟨.inr rfl, _, labB (meetB a b), rfl, lab_read (r := r4) (List.Mem.head _), _, Sub.drop (Sub.drop (Sub.drop (Sub.refl _))), rfl, rfl⟩

theorem may_chk (a : LabB) : ((chkP a.1 : Int) == 0) = mayP a := by
  unfold chkP mayP
  rw [Bool.eq_iff_iff]
  simp only [beq_iff_eq, Bool.and_eq_true, decide_eq_true_eq]
  split <;> omega
theorem two_fc {w0 : World} {S : SS} {a b : LabB} (hg : GlobOk w0 labG) : FC Tryd.prog w0 4 [labB a, labB b] S (fun v _ => v = .bool true) := by
  refine FC.of Tryd.known4 (by simp) ?_
  unfold Tryd.pc4
  simp only [argT]
  refine PW.seqOps ?_
  refine OL.cons trivial (OW.bx rfl) ?_
  rintro _ _ ⟨r2, rfl, rfl⟩
  change OL _ _ _ _ _ (lseg r2 a :: S) _
  refine OL.cons trivial (OW.bx rfl) ?_
  rintro _ _ ⟨r3, rfl, rfl⟩
  change OL _ _ _ _ _ (lseg r3 b :: lseg r2 a :: S) _
  refine OL.det trivial (Yields.pure rfl) ?_
  refine OL.nil ?_
  refine PW.keep (T' := [(2, _), (3, _)]) ⟨rfl, rfl, trivial⟩ ?_
  refine PW.seq fun K1 hK1 => ?_
  refine PW.quietK Tryd.mixed ?_
  refine QK.det trivial (Yields.ldA rfl rfl (lab_at (a := a) (r := r2) (by simp))) ?_
  refine QK.call trivial rfl (check_b (a := a)) ?_
  refine QK.det trivial (Yields.pure rfl) ?_
  refine QK.det trivial (Yields.ldA rfl rfl (lab_at (a := a) (r := r2) (by simp))) ?_
  refine QK.call trivial rfl (may_fc (a := a)) ?_
  refine QK.det trivial (Yields.pure rfl) ?_
  refine QK.bool trivial (Yields.pure rfl) (fun g11 => ?_) (fun g11 => ?_)
  · try simp only [decide_eq_true_eq, decide_eq_false_iff_not, beq_iff_eq, bne_iff_ne, beq_eq_false_iff_ne, bne_eq_false_iff_eq, Bool.not_eq_true', Bool.not_eq_false', Bool.not_eq_true, ne_eq, Decidable.not_not] at g11
    refine QK.det rfl (Yields.ldA rfl rfl (lab_at (a := a) (r := r2) (by simp))) ?_
    refine QK.det rfl (Yields.ldA rfl rfl (lab_at (a := b) (r := r3) (by simp))) ?_
    refine QK.call rfl rfl (below_b (a := a) (b := b)) ?_
    refine QK.det rfl (Yields.ldA rfl rfl (lab_at (a := a) (r := r2) (by simp))) ?_
    refine QK.det rfl (Yields.ldA rfl rfl (lab_at (a := b) (r := r3) (by simp))) ?_
    refine QK.call rfl rfl (rbelow_fc (a := a) (b := b)) ?_
    refine QK.det rfl (Yields.pure rfl) ?_
    refine QK.det trivial (Yields.pure rfl) ?_
    refine QK.bool trivial (Yields.pure rfl) (fun g20 => ?_) (fun g20 => ?_)
    · try simp only [decide_eq_true_eq, decide_eq_false_iff_not, beq_iff_eq, bne_iff_ne, beq_eq_false_iff_ne, bne_eq_false_iff_eq, Bool.not_eq_true', Bool.not_eq_false', Bool.not_eq_true, ne_eq, Decidable.not_not] at g20
      refine QK.det rfl (Yields.ldA rfl rfl (lab_at (a := a) (r := r2) (by simp))) ?_
      refine QK.det rfl (Yields.ldA rfl rfl (lab_at (a := b) (r := r3) (by simp))) ?_
      refine QK.call rfl rfl (join_b (a := a) (b := b)) ?_
      refine QK.det rfl (Yields.ldA rfl rfl (lab_at (a := a) (r := r2) (by simp))) ?_
      refine QK.det rfl (Yields.ldA rfl rfl (lab_at (a := b) (r := r3) (by simp))) ?_
      refine QK.call rfl rfl (rjoin_b (a := a) (b := b)) ?_
      refine QK.det rfl (Yields.eqA rfl rfl (eq_lab (joinB a b) (joinB a b))) ?_
      refine QK.det trivial (Yields.pure rfl) ?_
      refine QK.bool trivial (Yields.pure rfl) (fun g29 => ?_) (fun g29 => ?_)
      · try simp only [decide_eq_true_eq, decide_eq_false_iff_not, beq_iff_eq, bne_iff_ne, beq_eq_false_iff_ne, bne_eq_false_iff_eq, Bool.not_eq_true', Bool.not_eq_false', Bool.not_eq_true, ne_eq, Decidable.not_not] at g29
        refine QK.det rfl (Yields.ldA rfl rfl (lab_at (a := a) (r := r2) (by simp))) ?_
        refine QK.det rfl (Yields.ldA rfl rfl (lab_at (a := b) (r := r3) (by simp))) ?_
        refine QK.call rfl rfl (meet_b (a := a) (b := b)) ?_
        refine QK.det rfl (Yields.ldA rfl rfl (lab_at (a := a) (r := r2) (by simp))) ?_
        refine QK.det rfl (Yields.ldA rfl rfl (lab_at (a := b) (r := r3) (by simp))) ?_
        refine QK.call rfl rfl (rmeet_b (a := a) (b := b)) ?_
        refine QK.det rfl (Yields.eqA rfl rfl (eq_lab (meetB a b) (meetB a b))) ?_
        refine QK.det trivial (Yields.pure rfl) ?_
        refine QK.bool trivial (Yields.pure rfl) (fun g38 => ?_) (fun g38 => ?_)
        · try simp only [decide_eq_true_eq, decide_eq_false_iff_not, beq_iff_eq, bne_iff_ne, beq_eq_false_iff_ne, bne_eq_false_iff_eq, Bool.not_eq_true', Bool.not_eq_false', Bool.not_eq_true, ne_eq, Decidable.not_not] at g38
          refine QK.det rfl (Yields.ldA rfl rfl (lab_at (a := a) (r := r2) (by simp))) ?_
          refine QK.det rfl (Yields.ldA rfl rfl (lab_at (a := b) (r := r3) (by simp))) ?_
          refine QK.call rfl rfl (order_l (a := a) (b := b)) ?_
          refine QK.det rfl (Yields.ldA rfl rfl (lab_at (a := a) (r := r2) (by simp))) ?_
          refine QK.det rfl (Yields.ldA rfl rfl (lab_at (a := b) (r := r3) (by simp))) ?_
          refine QK.nil ?_
          change OL _ _ _ [_, _, _, _, _, _, _] _ _ _
          refine OL.call rfl rfl (rorder_l (a := a) (b := b)) ?_
          rintro _ Sx ⟨rfl, hSx⟩
          rw [hSx]
          clear hSx
          refine OL.det rfl (Yields.pure rfl) ?_
          refine OL.det trivial (Yields.pure rfl) ?_
          refine OL.bool trivial (Yields.pure rfl) (fun g47 => ?_) (fun g47 => ?_)
          · try simp only [decide_eq_true_eq, decide_eq_false_iff_not, beq_iff_eq, bne_iff_ne, beq_eq_false_iff_ne, bne_eq_false_iff_eq, Bool.not_eq_true', Bool.not_eq_false', Bool.not_eq_true, ne_eq, Decidable.not_not] at g47
            refine OL.call rfl rfl (awake_fc hg) ?_
            rintro _ _ ⟨rfl, _⟩
            refine OL.det trivial (Yields.pure rfl) ?_
            refine OL.det trivial (Yields.pure rfl) ?_
            refine OL.nil ?_
            refine hK1 _ _ ?_
            refine PW.keep (T' := [(4, _)]) ⟨rfl, trivial⟩ ?_
            refine PW.ret ?_
            change (Exit.ret = Exit.normal ∨ Exit.ret = Exit.ret) ∧ ∃ v, resV _ _ = some v ∧ _
            exact ⟨.inr rfl, _, rfl, rfl⟩
          · try simp only [decide_eq_true_eq, decide_eq_false_iff_not, beq_iff_eq, bne_iff_ne, beq_eq_false_iff_ne, bne_eq_false_iff_eq, Bool.not_eq_true', Bool.not_eq_false', Bool.not_eq_true, ne_eq, Decidable.not_not] at g47
            exfalso; revert g47; simp
            -- done
        · try simp only [decide_eq_true_eq, decide_eq_false_iff_not, beq_iff_eq, bne_iff_ne, beq_eq_false_iff_ne, bne_eq_false_iff_eq, Bool.not_eq_true', Bool.not_eq_false', Bool.not_eq_true, ne_eq, Decidable.not_not] at g38
          exfalso; revert g38; simp
          -- done
      · try simp only [decide_eq_true_eq, decide_eq_false_iff_not, beq_iff_eq, bne_iff_ne, beq_eq_false_iff_ne, bne_eq_false_iff_eq, Bool.not_eq_true', Bool.not_eq_false', Bool.not_eq_true, ne_eq, Decidable.not_not] at g29
        exfalso; revert g29; simp
        -- done
    · try simp only [decide_eq_true_eq, decide_eq_false_iff_not, beq_iff_eq, bne_iff_ne, beq_eq_false_iff_ne, bne_eq_false_iff_eq, Bool.not_eq_true', Bool.not_eq_false', Bool.not_eq_true, ne_eq, Decidable.not_not] at g20
      exfalso; revert g20; simp
      -- done
  · try simp only [decide_eq_true_eq, decide_eq_false_iff_not, beq_iff_eq, bne_iff_ne, beq_eq_false_iff_ne, bne_eq_false_iff_eq, Bool.not_eq_true', Bool.not_eq_false', Bool.not_eq_true, ne_eq, Decidable.not_not] at g11
    exfalso; apply g11; exact may_chk a
    -- done

end Go.Proofs
