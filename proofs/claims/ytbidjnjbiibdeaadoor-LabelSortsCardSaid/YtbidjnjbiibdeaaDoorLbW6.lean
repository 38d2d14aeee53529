/- Walks and plain facts for the laws of this seat: what each function answers, for every input. -/
import Derived.Test.YtbidjnjbiibdeaaDoorLbW4
set_option linter.unusedVariables false
set_option linter.unusedSimpArgs false
namespace Go.Proofs
open Go.SL Go.RowKit
set_option maxHeartbeats 1000000

/-! the document's answers, bit by bit -/
def cmpI (x y : Int) : Int := if x < y then -1 else if y < x then 1 else 0
def orZ (a b : LabB) : Int := if cmpI a.1 b.1 ≠ 0 then cmpI a.1 b.1 else cmpI (a.2.toNat : Int) (b.2.toNat : Int)
def mayP (a : LabB) : Bool := decide (0 ≤ a.1) && decide (a.1 ≤ 15)
theorem bit_at (c : BitVec 64) (j : Nat) : (((c.toNat / 2 ^ j % 2 : Nat) : Int) == 1) = c.getLsbD j := by
  rw [BitVec.getLsbD, Nat.testBit_eq_decide_div_mod_eq, Bool.eq_iff_iff]
  simp only [beq_iff_eq, decide_eq_true_eq]
  omega
theorem half (x j : Nat) : x / 2 ^ j = 2 * (x / 2 ^ (j + 1)) + x / 2 ^ j % 2 := by
  have h : x / 2 ^ (j + 1) = x / 2 ^ j / 2 := by rw [Nat.pow_succ, Nat.div_div_eq_div_mul]
  rw [h]
  omega
theorem bit_val (c : BitVec 64) (j : Nat) : c.toNat / 2 ^ j % 2 = if c.getLsbD j = true then 1 else 0 := by
  have := bit_at c j
  split
  · rename_i h; rw [h, beq_iff_eq] at this; omega
  · rename_i h
    have h2 : c.getLsbD j = false := by simpa using h
    rw [h2, beq_eq_false_iff_ne] at this
    omega
theorem top_div (c : BitVec 64) : c.toNat / 2 ^ 64 = 0 := Nat.div_eq_of_lt c.isLt
theorem div_small (c : BitVec 64) (j : Nat) : c.toNat / 2 ^ (j + 1) < 9223372036854775808 := by
  have h := c.isLt
  have h2 : c.toNat / 2 ^ (j + 1) ≤ c.toNat / 2 := by
    rw [Nat.pow_succ, Nat.mul_comm, ← Nat.div_div_eq_div_mul]
    exact Nat.div_le_self _ _
  omega
def bothB (all : Bool) (a b : LabB) : BitVec 64 := if all = true then a.2 &&& b.2 else a.2 ||| b.2
theorem both_bit (all : Bool) (a b : LabB) (j : Nat) : (bothB all a b).getLsbD j = if all = true then (a.2.getLsbD j && b.2.getLsbD j) else (a.2.getLsbD j || b.2.getLsbD j) := by
  unfold bothB
  split <;> simp
abbrev cseg (r : Nat) (lv : Int) (n : Nat) : Seg := [(r, .cells [.int .i64 lv, .int .u64 (n : Int)] 24 2)]
theorem labB_eq (l : Int) (c : BitVec 64) : labVI l (c.toNat : Int) = labB (l, c) := rfl
theorem may_fc {w0 : World} {S : SS} {a : LabB} : FC Tryd.prog w0 21 [labB a] S (fun v S' => v = .bool (mayP a) ∧ S' = S) := by
  refine FC.ofD Tryd.known21 (by simp) ?_
  unfold Tryd.pc21
  simp only [argT]
  refine PW.seqOps ?_
  refine OL.cons trivial (OW.bx rfl) ?_
  rintro _ _ ⟨r1, rfl, rfl⟩
  change OL _ _ _ _ _ (lseg r1 a :: S) _
  refine OL.det trivial (Yields.pure rfl) ?_
  refine OL.nil ?_
  refine PW.keep (T' := [(1, _)]) ⟨rfl, trivial⟩ ?_
  refine PW.seqOps ?_
  refine OL.det trivial (Yields.pure rfl) ?_
  refine OL.det trivial (Yields.ld rfl (own_at (j := 0) (c := [.int .i64 a.1, .int .u64 (a.2.toNat : Int)]) (E := 24) (tot := 2) (by simp) rfl)) ?_
  refine OL.det trivial (Yields.pure rfl) ?_
  refine OL.bool trivial (Yields.pure rfl) (fun g6 => ?_) (fun g6 => ?_)
  · try simp only [decide_eq_true_eq, decide_eq_false_iff_not, beq_iff_eq, bne_iff_ne, beq_eq_false_iff_ne, bne_eq_false_iff_eq, Bool.not_eq_true', Bool.not_eq_false', Bool.not_eq_true, ne_eq, Decidable.not_not] at g6
    refine OL.det rfl (Yields.pure rfl) ?_
    refine OL.det rfl (Yields.ld rfl (own_at (j := 0) (c := [.int .i64 a.1, .int .u64 (a.2.toNat : Int)]) (E := 24) (tot := 2) (by simp) rfl)) ?_
    refine OL.det rfl (Yields.pure rfl) ?_
    refine OL.det trivial (Yields.pure rfl) ?_
    refine OL.det trivial (Yields.pure rfl) ?_
    refine OL.nil ?_
    refine PW.keep (T' := [(2, _)]) ⟨rfl, trivial⟩ ?_
    refine PW.ret ?_
    change (Exit.ret = Exit.normal ∨ Exit.ret = Exit.ret) ∧ ∃ v, resV _ _ = some v ∧ _
    exact ⟨.inr rfl, _, rfl, _, Sub.drop (Sub.refl _), by unfold mayP; first | (rw [show decide (0 ≤ a.1) = true by simpa using g6]; rfl) | (rw [show decide (0 ≤ a.1) = false by simpa using g6]; rfl), rfl⟩
  · try simp only [decide_eq_true_eq, decide_eq_false_iff_not, beq_iff_eq, bne_iff_ne, beq_eq_false_iff_ne, bne_eq_false_iff_eq, Bool.not_eq_true', Bool.not_eq_false', Bool.not_eq_true, ne_eq, Decidable.not_not] at g6
    refine OL.off rfl rfl ?_
    refine OL.off rfl rfl ?_
    refine OL.off rfl rfl ?_
    refine OL.det trivial (Yields.pure rfl) ?_
    refine OL.det trivial (Yields.pure rfl) ?_
    refine OL.nil ?_
    refine PW.keep (T' := [(2, _)]) ⟨rfl, trivial⟩ ?_
    refine PW.ret ?_
    change (Exit.ret = Exit.normal ∨ Exit.ret = Exit.ret) ∧ ∃ v, resV _ _ = some v ∧ _
    exact ⟨.inr rfl, _, rfl, _, Sub.drop (Sub.refl _), by unfold mayP; first | (rw [show decide (0 ≤ a.1) = true by simpa using g6]; rfl) | (rw [show decide (0 ≤ a.1) = false by simpa using g6]; rfl), rfl⟩
theorem has_fc {w0 : World} {S : SS} {a : LabB} {j : Nat} (hj : j < 64) : FC Tryd.prog w0 58 [labB a, .int .i64 j] S (fun v S' => v = .bool (a.2.getLsbD j) ∧ S' = S) := by
  refine FC.ofD Tryd.known58 (by simp) ?_
  unfold Tryd.pc58
  simp only [argT]
  refine PW.seqOps ?_
  refine OL.cons trivial (OW.bx rfl) ?_
  rintro _ _ ⟨r2, rfl, rfl⟩
  change OL _ _ _ _ _ (lseg r2 a :: S) _
  refine OL.det trivial (Yields.pure rfl) ?_
  refine OL.nil ?_
  refine PW.keep (T' := [(1, _), (2, _)]) ⟨rfl, rfl, trivial⟩ ?_
  refine PW.seqOps ?_
  refine OL.det trivial (Yields.pure rfl) ?_
  refine OL.det trivial (Yields.ld rfl (own_at (j := 1) (c := [.int .i64 a.1, .int .u64 (a.2.toNat : Int)]) (E := 24) (tot := 2) (by simp) rfl)) ?_
  refine OL.det trivial (Yields.pure rfl) ?_
  refine OL.det trivial (Yields.to (v' := .int .u64 (j : Int)) (Yields.pure rfl) (by congr 1; exact u64_wrap (by omega))) ?_
  refine OL.det trivial (Yields.shrU rfl rfl (by omega)) ?_
  refine OL.det trivial (Yields.remU (b := 2) rfl rfl (by omega)) ?_
  refine OL.det trivial (Yields.pure rfl) ?_
  refine OL.det trivial (Yields.pure rfl) ?_
  refine OL.nil ?_
  refine PW.keep (T' := [(4, _)]) ⟨rfl, trivial⟩ ?_
  refine PW.ret ?_
  change (Exit.ret = Exit.normal ∨ Exit.ret = Exit.ret) ∧ ∃ v, resV _ _ = some v ∧ _
  exact ⟨.inr rfl, _, rfl, _, Sub.drop (Sub.refl _), by rw [← bit_at], rfl⟩
theorem rbelow_fc {w0 : World} {S : SS} {a b : LabB} : FC Tryd.prog w0 22 [labB a, labB b] S (fun v S' => v = .bool (belowB a b) ∧ S' = S) := by
  refine FC.ofD Tryd.known22 (by simp) ?_
  unfold Tryd.pc22
  simp only [argT]
  refine PW.seqOps ?_
  refine OL.cons trivial (OW.bx rfl) ?_
  rintro _ _ ⟨r2, rfl, rfl⟩
  change OL _ _ _ _ _ (lseg r2 a :: S) _
  refine OL.cons trivial (OW.bx rfl) ?_
  rintro _ _ ⟨r3, rfl, rfl⟩
  change OL _ _ _ _ _ (lseg r3 b :: lseg r2 a :: S) _
  refine OL.det trivial (Yields.pure rfl) ?_
  refine OL.nil ?_
  refine PW.keep (T' := [(2, _), (3, _)]) ⟨rfl, rfl, trivial⟩ ?_
  refine PW.seq fun K1 hK1 => ?_
  refine PW.seqOps ?_
  refine OL.det trivial (Yields.pure rfl) ?_
  refine OL.det trivial (Yields.ld rfl (own_at (j := 0) (c := [.int .i64 a.1, .int .u64 (a.2.toNat : Int)]) (E := 24) (tot := 2) (by simp) rfl)) ?_
  refine OL.det trivial (Yields.pure rfl) ?_
  refine OL.det trivial (Yields.ld rfl (own_at (j := 0) (c := [.int .i64 b.1, .int .u64 (b.2.toNat : Int)]) (E := 24) (tot := 2) (by simp) rfl)) ?_
  refine OL.det trivial (Yields.pure rfl) ?_
  refine OL.nil ?_
  refine PW.keep (T' := [(2, _), (3, _), (10, _)]) ⟨rfl, rfl, rfl, trivial⟩ ?_
  refine PW.cond rfl (fun c10 => ?_) (fun c10 => ?_)
  · try simp only [decide_eq_true_eq, decide_eq_false_iff_not, beq_iff_eq, bne_iff_ne, beq_eq_false_iff_ne, bne_eq_false_iff_eq, Bool.not_eq_true', Bool.not_eq_false', Bool.not_eq_true, ne_eq, Decidable.not_not] at c10
    refine PW.seqOps ?_
    refine OL.det trivial (Yields.pure rfl) ?_
    refine OL.nil ?_
    refine PW.keep (T' := [(4, _)]) ⟨rfl, trivial⟩ ?_
    refine PW.ret ?_
    change (Exit.ret = Exit.normal ∨ Exit.ret = Exit.ret) ∧ ∃ v, resV _ _ = some v ∧ _
    exact ⟨.inr rfl, _, rfl, _, Sub.drop (Sub.drop (Sub.refl _)), by unfold belowB; rw [show decide (a.1 ≤ b.1) = false from decide_eq_false (by omega)]; rfl, rfl⟩
  · try simp only [decide_eq_true_eq, decide_eq_false_iff_not, beq_iff_eq, bne_iff_ne, beq_eq_false_iff_ne, bne_eq_false_iff_eq, Bool.not_eq_true', Bool.not_eq_false', Bool.not_eq_true, ne_eq, Decidable.not_not] at c10
    refine PW.skip ?_
    refine hK1 _ _ ?_
    refine PW.keep (T' := [(2, _), (3, _)]) ⟨rfl, rfl, trivial⟩ ?_
    refine PW.seq fun K2 hK2 => ?_
    refine PW.seqOps ?_
    refine OL.det trivial (Yields.pure rfl) ?_
    refine OL.nil ?_
    refine PW.keep (T' := [(2, _), (3, _), (5, _)]) ⟨rfl, rfl, rfl, trivial⟩ ?_
    refine PW.block ?_
    refine PW.keep (T' := [(2, _), (3, _), (5, _)]) ⟨rfl, rfl, rfl, trivial⟩ ?_
    refine PW.loopK (I := fun m T S' => ∃ (k : Nat), (k ≤ 64 ∧ m = 64 - k ∧ ∀ j, j < k → a.2.getLsbD j = true → b.2.getLsbD j = true) ∧ T = ([(2, .pointer (some ⟨r2, 0, none⟩)), (3, .pointer (some ⟨r3, 0, none⟩)), (5, .int .i64 k)] : TT) ∧ S' = lseg r3 b :: lseg r2 a :: S) (m := 64) ⟨0, ⟨by omega, by omega, fun j h => by omega⟩, rfl, rfl⟩ ?_
    rintro m _ _ ⟨k, ⟨hk, hm, hall⟩, rfl, rfl⟩
    refine PW.seq fun K3 hK3 => ?_
    refine PW.seqOps ?_
    refine OL.det trivial (Yields.pure rfl) ?_
    refine OL.det trivial (Yields.pure rfl) ?_
    refine OL.nil ?_
    refine PW.keep (T' := [(2, _), (3, _), (5, _), (12, _)]) ⟨rfl, rfl, rfl, rfl, trivial⟩ ?_
    refine PW.cond rfl (fun c12 => ?_) (fun c12 => ?_)
    · try simp only [decide_eq_true_eq, decide_eq_false_iff_not, beq_iff_eq, bne_iff_ne, beq_eq_false_iff_ne, bne_eq_false_iff_eq, Bool.not_eq_true', Bool.not_eq_false', Bool.not_eq_true, ne_eq, Decidable.not_not] at c12
      have hk64 : k < 64 := by omega
      refine PW.skip ?_
      refine hK3 _ _ ?_
      refine PW.keep (T' := [(2, _), (3, _), (5, _)]) ⟨rfl, rfl, rfl, trivial⟩ ?_
      refine PW.seq fun K4 hK4 => ?_
      refine PW.block ?_
      refine PW.seqOps ?_
      refine OL.det trivial (Yields.ldA rfl rfl (lab_at (a := a) (r := r2) (by simp))) ?_
      refine OL.det trivial (Yields.pure rfl) ?_
      refine OL.call trivial rfl (has_fc (a := a) hk64) ?_
      rintro _ Sx ⟨rfl, hSx⟩
      rw [hSx]
      clear hSx
      refine OL.bool trivial (Yields.pure rfl) (fun g18 => ?_) (fun g18 => ?_)
      · try simp only [decide_eq_true_eq, decide_eq_false_iff_not, beq_iff_eq, bne_iff_ne, beq_eq_false_iff_ne, bne_eq_false_iff_eq, Bool.not_eq_true', Bool.not_eq_false', Bool.not_eq_true, ne_eq, Decidable.not_not] at g18
        refine OL.det rfl (Yields.ldA rfl rfl (lab_at (a := b) (r := r3) (by simp))) ?_
        refine OL.det rfl (Yields.pure rfl) ?_
        refine OL.call rfl rfl (has_fc (a := b) hk64) ?_
        rintro _ Sx ⟨rfl, hSx⟩
        rw [hSx]
        clear hSx
        refine OL.det rfl (Yields.pure rfl) ?_
        refine OL.det trivial (Yields.pure rfl) ?_
        refine OL.nil ?_
        refine PW.keep (T' := [(2, _), (3, _), (5, _), (23, _)]) ⟨rfl, rfl, rfl, rfl, trivial⟩ ?_
        refine PW.cond rfl (fun c23 => ?_) (fun c23 => ?_)
        · try simp only [decide_eq_true_eq, decide_eq_false_iff_not, beq_iff_eq, bne_iff_ne, beq_eq_false_iff_ne, bne_eq_false_iff_eq, Bool.not_eq_true', Bool.not_eq_false', Bool.not_eq_true, ne_eq, Decidable.not_not] at c23
          refine PW.seqOps ?_
          refine OL.det trivial (Yields.pure rfl) ?_
          refine OL.nil ?_
          refine PW.keep (T' := [(4, _)]) ⟨rfl, trivial⟩ ?_
          refine PW.ret ?_
          change (Exit.ret = Exit.normal ∨ Exit.ret = Exit.ret) ∧ ∃ v, resV _ _ = some v ∧ _
          have hf : belowB a b = false := by
            rw [← Bool.not_eq_true, below_iff]
            rintro ⟨_, h⟩
            have := h k g18
            rw [c23] at this; cases this
          exact ⟨.inr rfl, _, rfl, _, Sub.drop (Sub.drop (Sub.refl _)), by rw [hf], rfl⟩
        · try simp only [decide_eq_true_eq, decide_eq_false_iff_not, beq_iff_eq, bne_iff_ne, beq_eq_false_iff_ne, bne_eq_false_iff_eq, Bool.not_eq_true', Bool.not_eq_false', Bool.not_eq_true, ne_eq, Decidable.not_not] at c23
          refine PW.skip ?_
          refine hK4 _ _ ?_
          refine PW.keep (T' := [(2, _), (3, _), (5, _)]) ⟨rfl, rfl, rfl, trivial⟩ ?_
          refine PW.ops ?_
          refine OL.det trivial (Yields.pure rfl) ?_
          refine OL.det trivial (Yields.add64 rfl rfl (by omega) (by omega)) ?_
          refine OL.det trivial (Yields.pure rfl) ?_
          refine OL.nil ?_
          repeat rw [inBlk_n]
          rw [thenK_n]
          refine LoopEnd.mk (T'' := [(2, _), (3, _), (5, _)]) ⟨rfl, rfl, rfl, trivial⟩ ?_
          refine ⟨64 - (k + 1), by omega, k + 1, ⟨by omega, rfl, fun j hj h => ?_⟩, rfl, rfl⟩
          rcases Nat.lt_or_ge j k with h1 | h1
          · exact hall j h1 h
          · obtain rfl : j = k := by omega
            exact c23
      · try simp only [decide_eq_true_eq, decide_eq_false_iff_not, beq_iff_eq, bne_iff_ne, beq_eq_false_iff_ne, bne_eq_false_iff_eq, Bool.not_eq_true', Bool.not_eq_false', Bool.not_eq_true, ne_eq, Decidable.not_not] at g18
        refine OL.off rfl rfl ?_
        refine OL.off rfl rfl ?_
        refine OL.off rfl rfl ?_
        refine OL.off rfl rfl ?_
        refine OL.det trivial (Yields.pure rfl) ?_
        refine OL.nil ?_
        refine PW.keep (T' := [(2, _), (3, _), (5, _), (23, _)]) ⟨rfl, rfl, rfl, rfl, trivial⟩ ?_
        refine PW.ite (b := false) rfl ?_
        rw [if_neg Bool.false_ne_true]
        refine PW.skip ?_
        refine hK4 _ _ ?_
        refine PW.keep (T' := [(2, _), (3, _), (5, _)]) ⟨rfl, rfl, rfl, trivial⟩ ?_
        refine PW.ops ?_
        refine OL.det trivial (Yields.pure rfl) ?_
        refine OL.det trivial (Yields.add64 rfl rfl (by omega) (by omega)) ?_
        refine OL.det trivial (Yields.pure rfl) ?_
        refine OL.nil ?_
        repeat rw [inBlk_n]
        rw [thenK_n]
        refine LoopEnd.mk (T'' := [(2, _), (3, _), (5, _)]) ⟨rfl, rfl, rfl, trivial⟩ ?_
        refine ⟨64 - (k + 1), by omega, k + 1, ⟨by omega, rfl, fun j hj h => ?_⟩, rfl, rfl⟩
        rcases Nat.lt_or_ge j k with h1 | h1
        · exact hall j h1 h
        · obtain rfl : j = k := by omega
          rw [g18] at h; cases h
    · try simp only [decide_eq_true_eq, decide_eq_false_iff_not, beq_iff_eq, bne_iff_ne, beq_eq_false_iff_ne, bne_eq_false_iff_eq, Bool.not_eq_true', Bool.not_eq_false', Bool.not_eq_true, ne_eq, Decidable.not_not] at c12
      refine PW.exit ?_
      refine hK2 _ _ ?_
      refine PW.keep (T' := []) trivial ?_
      refine PW.seqOps ?_
      refine OL.det trivial (Yields.pure rfl) ?_
      refine OL.nil ?_
      refine PW.keep (T' := [(4, _)]) ⟨rfl, trivial⟩ ?_
      refine PW.ret ?_
      change (Exit.ret = Exit.normal ∨ Exit.ret = Exit.ret) ∧ ∃ v, resV _ _ = some v ∧ _
      have hf : belowB a b = true := by
        rw [below_iff]
        refine ⟨by omega, fun i hi => ?_⟩
        exact hall i (by have := BitVec.lt_of_getLsbD hi; omega) hi
      exact ⟨.inr rfl, _, rfl, _, Sub.drop (Sub.drop (Sub.refl _)), by rw [hf], rfl⟩
theorem both_fc {w0 : World} {S : SS} {a b : LabB} {lv : Int} {all : Bool} : FC Tryd.prog w0 59 [.int .i64 lv, labB a, labB b, .bool all] S (fun v S' => v = labB (lv, bothB all a b) ∧ S' = S) := by
  refine FC.ofC Tryd.known59 (by simp) ?_
  unfold Tryd.pc59
  simp only [argT]
  refine PW.seqOps ?_
  refine OL.cons trivial (OW.bx rfl) ?_
  rintro _ _ ⟨r5, rfl, rfl⟩
  change OL _ _ _ _ _ (lseg r5 a :: S) _
  refine OL.cons trivial (OW.bx rfl) ?_
  rintro _ _ ⟨r6, rfl, rfl⟩
  change OL _ _ _ _ _ (lseg r6 b :: lseg r5 a :: S) _
  refine OL.cons trivial OW.al ?_
  rintro _ _ ⟨r8, rfl, rfl⟩
  refine OL.nil ?_
  refine PW.keep (T' := [(0, _), (3, _), (5, _), (6, _), (8, _)]) ⟨rfl, rfl, rfl, rfl, rfl, trivial⟩ ?_
  refine PW.seqOps ?_
  refine OL.det trivial (Yields.pure rfl) ?_
  refine OL.det trivial (Yields.build rfl) ?_
  refine OL.cons trivial OW.al ?_
  rintro _ _ ⟨r9, rfl, rfl⟩
  refine OL.cons trivial (OW.st (k := 0) (u := .agg #[.int .i64 lv, .int .u64 0]) rfl rfl rfl rfl (by decide) rfl) ?_
  rintro _ _ rfl
  change OL _ _ _ _ _ (cseg r9 lv 0 :: cseg r8 0 0 :: lseg r6 b :: lseg r5 a :: S) _
  refine OL.nil ?_
  refine PW.keep (T' := [(3, _), (5, _), (6, _), (8, _), (9, _)]) ⟨rfl, rfl, rfl, rfl, rfl, trivial⟩ ?_
  refine PW.seq fun K1 hK1 => ?_
  refine PW.seqOps ?_
  refine OL.det trivial (Yields.pure rfl) ?_
  refine OL.nil ?_
  refine PW.keep (T' := [(3, _), (5, _), (6, _), (8, _), (9, _), (10, _)]) ⟨rfl, rfl, rfl, rfl, rfl, rfl, trivial⟩ ?_
  refine PW.block ?_
  refine PW.keep (T' := [(3, _), (5, _), (6, _), (8, _), (9, _), (10, _)]) ⟨rfl, rfl, rfl, rfl, rfl, rfl, trivial⟩ ?_
  refine PW.loopK (I := fun m T S' => ∃ (k : Nat) (z : Int), (k ≤ 64 ∧ z = (k : Int) - 1 ∧ m = k) ∧ T = ([(3, .bool all), (5, .pointer (some ⟨r5, 0, none⟩)), (6, .pointer (some ⟨r6, 0, none⟩)), (8, .pointer (some ⟨r8, 0, none⟩)), (9, .pointer (some ⟨r9, 0, none⟩)), (10, .int .i64 z)] : TT) ∧ S' = cseg r9 lv ((bothB all a b).toNat / 2 ^ k) :: cseg r8 0 0 :: lseg r6 b :: lseg r5 a :: S) (m := 64) ⟨64, 63, ⟨by omega, rfl, rfl⟩, rfl, by rw [top_div]⟩ ?_
  rintro m _ _ ⟨k, z, ⟨hk, hz, hm⟩, rfl, rfl⟩
  refine PW.seq fun K2 hK2 => ?_
  refine PW.seqOps ?_
  refine OL.det trivial (Yields.pure rfl) ?_
  refine OL.det trivial (Yields.pure rfl) ?_
  refine OL.nil ?_
  refine PW.keep (T' := [(3, _), (5, _), (6, _), (8, _), (9, _), (10, _), (14, _)]) ⟨rfl, rfl, rfl, rfl, rfl, rfl, rfl, trivial⟩ ?_
  refine PW.cond rfl (fun c14 => ?_) (fun c14 => ?_)
  · try simp only [decide_eq_true_eq, decide_eq_false_iff_not, beq_iff_eq, bne_iff_ne, beq_eq_false_iff_ne, bne_eq_false_iff_eq, Bool.not_eq_true', Bool.not_eq_false', Bool.not_eq_true, ne_eq, Decidable.not_not] at c14
    obtain ⟨j, rfl⟩ : ∃ j : Nat, z = j := ⟨z.toNat, by omega⟩
    obtain rfl : k = j + 1 := by omega
    have hj : j < 64 := by omega
    have hv := half (bothB all a b).toNat j
    rw [bit_val, both_bit] at hv
    have hsm := div_small (bothB all a b) j
    refine PW.skip ?_
    refine hK2 _ _ ?_
    refine PW.keep (T' := [(3, _), (5, _), (6, _), (8, _), (9, _), (10, _)]) ⟨rfl, rfl, rfl, rfl, rfl, rfl, trivial⟩ ?_
    refine PW.seq fun K3 hK3 => ?_
    refine PW.block ?_
    refine PW.seqOps ?_
    refine OL.det trivial (Yields.pure rfl) ?_
    refine OL.det trivial (Yields.ld rfl (own_at (j := 1) (c := [.int .i64 lv, .int .u64 (((bothB all a b).toNat / 2 ^ (j + 1) : Nat) : Int)]) (E := 24) (tot := 2) (List.mem_flatten.2 ⟨_, List.mem_cons_self .., List.mem_cons_self ..⟩) rfl)) ?_
    refine OL.det trivial (Yields.to (v' := .int .u64 ((2 * ((bothB all a b).toNat / 2 ^ (j + 1)) : Nat) : Int)) (Yields.pure rfl) (by congr 1; exact (u64_wrap (a := 2 * ((bothB all a b).toNat / 2 ^ (j + 1))) (by omega)))) ?_
    refine OL.det trivial (Yields.pure rfl) ?_
    refine OL.cons trivial (OW.st (k := 0) (u := .int .u64 ((2 * ((bothB all a b).toNat / 2 ^ (j + 1)) : Nat) : Int)) rfl rfl rfl rfl (by show (2 : Nat) ≤ 2; omega) rfl) ?_
    rintro _ _ rfl
    change OL _ _ _ _ _ (cseg r9 lv (2 * ((bothB all a b).toNat / 2 ^ (j + 1))) :: cseg r8 0 0 :: lseg r6 b :: lseg r5 a :: S) _
    refine OL.nil ?_
    refine PW.keep (T' := [(3, _), (5, _), (6, _), (8, _), (9, _), (10, _)]) ⟨rfl, rfl, rfl, rfl, rfl, rfl, trivial⟩ ?_
    refine PW.seqOps ?_
    refine OL.det trivial (Yields.ldA rfl rfl (lab_at (a := a) (r := r5) (by simp))) ?_
    refine OL.det trivial (Yields.pure rfl) ?_
    refine OL.call trivial rfl (has_fc (a := a) hj) ?_
    rintro _ Sx ⟨rfl, hSx⟩
    rw [hSx]
    clear hSx
    refine OL.bool trivial (Yields.pure rfl) (fun g24 => ?_) (fun g24 => ?_)
    · try simp only [decide_eq_true_eq, decide_eq_false_iff_not, beq_iff_eq, bne_iff_ne, beq_eq_false_iff_ne, bne_eq_false_iff_eq, Bool.not_eq_true', Bool.not_eq_false', Bool.not_eq_true, ne_eq, Decidable.not_not] at g24
      refine OL.det rfl (Yields.ldA rfl rfl (lab_at (a := b) (r := r6) (by simp))) ?_
      refine OL.det rfl (Yields.pure rfl) ?_
      refine OL.call rfl rfl (has_fc (a := b) hj) ?_
      rintro _ Sx ⟨rfl, hSx⟩
      rw [hSx]
      clear hSx
      refine OL.det trivial (Yields.pure rfl) ?_
      refine OL.bool trivial (Yields.pure rfl) (fun g29 => ?_) (fun g29 => ?_)
      · try simp only [decide_eq_true_eq, decide_eq_false_iff_not, beq_iff_eq, bne_iff_ne, beq_eq_false_iff_ne, bne_eq_false_iff_eq, Bool.not_eq_true', Bool.not_eq_false', Bool.not_eq_true, ne_eq, Decidable.not_not] at g29
        refine OL.off rfl rfl ?_
        refine OL.off rfl rfl ?_
        refine OL.off rfl rfl ?_
        refine OL.off rfl rfl ?_
        refine OL.off rfl rfl ?_
        refine OL.off rfl rfl ?_
        refine OL.off rfl rfl ?_
        refine OL.off rfl rfl ?_
        refine OL.off rfl rfl ?_
        refine OL.off rfl rfl ?_
        refine OL.off rfl rfl ?_
        refine OL.off rfl rfl ?_
        refine OL.det trivial (Yields.pure rfl) ?_
        refine OL.nil ?_
        refine PW.keep (T' := [(3, _), (5, _), (6, _), (8, _), (9, _), (10, _), (42, _)]) ⟨rfl, rfl, rfl, rfl, rfl, rfl, rfl, trivial⟩ ?_
        refine PW.ite (b := true) rfl ?_
        rw [if_pos rfl]
        refine PW.ops ?_
        refine OL.det trivial (Yields.pure rfl) ?_
        refine OL.det trivial (Yields.ld rfl (own_at (j := 1) (c := [.int .i64 lv, .int .u64 ((2 * ((bothB all a b).toNat / 2 ^ (j + 1)) : Nat) : Int)]) (E := 24) (tot := 2) (List.mem_flatten.2 ⟨_, List.mem_cons_self .., List.mem_cons_self ..⟩) rfl)) ?_
        refine OL.det trivial (Yields.to (v' := .int .u64 ((2 * ((bothB all a b).toNat / 2 ^ (j + 1)) + 1 : Nat) : Int)) (Yields.pure rfl) (by congr 1; exact (u64_wrap (a := 2 * ((bothB all a b).toNat / 2 ^ (j + 1)) + 1) (by omega)))) ?_
        refine OL.det trivial (Yields.pure rfl) ?_
        refine OL.cons trivial (OW.st (k := 0) (u := .int .u64 ((2 * ((bothB all a b).toNat / 2 ^ (j + 1)) + 1 : Nat) : Int)) rfl rfl rfl rfl (by show (2 : Nat) ≤ 2; omega) rfl) ?_
        rintro _ _ rfl
        change OL _ _ _ _ _ (cseg r9 lv (2 * ((bothB all a b).toNat / 2 ^ (j + 1)) + 1) :: cseg r8 0 0 :: lseg r6 b :: lseg r5 a :: S) _
        refine OL.nil ?_
        refine hK3 _ _ ?_
        refine PW.keep (T' := [(3, _), (5, _), (6, _), (8, _), (9, _), (10, _)]) ⟨rfl, rfl, rfl, rfl, rfl, rfl, trivial⟩ ?_
        refine PW.ops ?_
        refine OL.det trivial (Yields.pure rfl) ?_
        refine OL.det trivial (Yields.sub64 rfl rfl (by omega) (by omega)) ?_
        refine OL.det trivial (Yields.pure rfl) ?_
        refine OL.nil ?_
        repeat rw [inBlk_n]
        rw [thenK_n]
        refine LoopEnd.mk (T'' := [(3, _), (5, _), (6, _), (8, _), (9, _), (10, _)]) ⟨rfl, rfl, rfl, rfl, rfl, rfl, trivial⟩ ?_
        first
          | (have e : (bothB all a b).toNat / 2 ^ j = 2 * ((bothB all a b).toNat / 2 ^ (j + 1)) + 1 := by
               rw [hv]; clear hv hsm hm; generalize 2 * ((bothB all a b).toNat / 2 ^ (j + 1)) = y at *; generalize a.2.getLsbD j = A at *; generalize b.2.getLsbD j = B at *; cases all <;> cases A <;> cases B <;> first | rfl | contradiction
             refine ⟨j, by omega, j, (j : Int) - 1, ⟨by omega, by omega, rfl⟩, rfl, ?_⟩
             rw [e]; done)
          | (have e : (bothB all a b).toNat / 2 ^ j = 2 * ((bothB all a b).toNat / 2 ^ (j + 1)) := by
               rw [hv]; clear hv hsm hm; generalize 2 * ((bothB all a b).toNat / 2 ^ (j + 1)) = y at *; generalize a.2.getLsbD j = A at *; generalize b.2.getLsbD j = B at *; cases all <;> cases A <;> cases B <;> first | rfl | contradiction
             refine ⟨j, by omega, j, (j : Int) - 1, ⟨by omega, by omega, rfl⟩, rfl, ?_⟩
             rw [e]; done)
      · try simp only [decide_eq_true_eq, decide_eq_false_iff_not, beq_iff_eq, bne_iff_ne, beq_eq_false_iff_ne, bne_eq_false_iff_eq, Bool.not_eq_true', Bool.not_eq_false', Bool.not_eq_true, ne_eq, Decidable.not_not] at g29
        refine OL.det rfl (Yields.pure rfl) ?_
        refine OL.det rfl (Yields.pure rfl) ?_
        refine OL.bool rfl (Yields.pure rfl) (fun g32 => ?_) (fun g32 => ?_)
        · try simp only [decide_eq_true_eq, decide_eq_false_iff_not, beq_iff_eq, bne_iff_ne, beq_eq_false_iff_ne, bne_eq_false_iff_eq, Bool.not_eq_true', Bool.not_eq_false', Bool.not_eq_true, ne_eq, Decidable.not_not] at g32
          refine OL.det rfl (Yields.ldA rfl rfl (lab_at (a := a) (r := r5) (by simp))) ?_
          refine OL.det rfl (Yields.pure rfl) ?_
          refine OL.call rfl rfl (has_fc (a := a) hj) ?_
          rintro _ Sx ⟨rfl, hSx⟩
          rw [hSx]
          clear hSx
          refine OL.bool rfl (Yields.pure rfl) (fun g36 => ?_) (fun g36 => ?_)
          · try simp only [decide_eq_true_eq, decide_eq_false_iff_not, beq_iff_eq, bne_iff_ne, beq_eq_false_iff_ne, bne_eq_false_iff_eq, Bool.not_eq_true', Bool.not_eq_false', Bool.not_eq_true, ne_eq, Decidable.not_not] at g36
            refine OL.off rfl rfl ?_
            refine OL.off rfl rfl ?_
            refine OL.off rfl rfl ?_
            refine OL.det rfl (Yields.pure rfl) ?_
            refine OL.det rfl (Yields.pure rfl) ?_
            refine OL.det trivial (Yields.pure rfl) ?_
            refine OL.nil ?_
            refine PW.keep (T' := [(3, _), (5, _), (6, _), (8, _), (9, _), (10, _), (42, _)]) ⟨rfl, rfl, rfl, rfl, rfl, rfl, rfl, trivial⟩ ?_
            refine PW.ite (b := true) rfl ?_
            rw [if_pos rfl]
            refine PW.ops ?_
            refine OL.det trivial (Yields.pure rfl) ?_
            refine OL.det trivial (Yields.ld rfl (own_at (j := 1) (c := [.int .i64 lv, .int .u64 ((2 * ((bothB all a b).toNat / 2 ^ (j + 1)) : Nat) : Int)]) (E := 24) (tot := 2) (List.mem_flatten.2 ⟨_, List.mem_cons_self .., List.mem_cons_self ..⟩) rfl)) ?_
            refine OL.det trivial (Yields.to (v' := .int .u64 ((2 * ((bothB all a b).toNat / 2 ^ (j + 1)) + 1 : Nat) : Int)) (Yields.pure rfl) (by congr 1; exact (u64_wrap (a := 2 * ((bothB all a b).toNat / 2 ^ (j + 1)) + 1) (by omega)))) ?_
            refine OL.det trivial (Yields.pure rfl) ?_
            refine OL.cons trivial (OW.st (k := 0) (u := .int .u64 ((2 * ((bothB all a b).toNat / 2 ^ (j + 1)) + 1 : Nat) : Int)) rfl rfl rfl rfl (by show (2 : Nat) ≤ 2; omega) rfl) ?_
            rintro _ _ rfl
            change OL _ _ _ _ _ (cseg r9 lv (2 * ((bothB all a b).toNat / 2 ^ (j + 1)) + 1) :: cseg r8 0 0 :: lseg r6 b :: lseg r5 a :: S) _
            refine OL.nil ?_
            refine hK3 _ _ ?_
            refine PW.keep (T' := [(3, _), (5, _), (6, _), (8, _), (9, _), (10, _)]) ⟨rfl, rfl, rfl, rfl, rfl, rfl, trivial⟩ ?_
            refine PW.ops ?_
            refine OL.det trivial (Yields.pure rfl) ?_
            refine OL.det trivial (Yields.sub64 rfl rfl (by omega) (by omega)) ?_
            refine OL.det trivial (Yields.pure rfl) ?_
            refine OL.nil ?_
            repeat rw [inBlk_n]
            rw [thenK_n]
            refine LoopEnd.mk (T'' := [(3, _), (5, _), (6, _), (8, _), (9, _), (10, _)]) ⟨rfl, rfl, rfl, rfl, rfl, rfl, trivial⟩ ?_
            first
              | (have e : (bothB all a b).toNat / 2 ^ j = 2 * ((bothB all a b).toNat / 2 ^ (j + 1)) + 1 := by
                   rw [hv]; clear hv hsm hm; generalize 2 * ((bothB all a b).toNat / 2 ^ (j + 1)) = y at *; generalize a.2.getLsbD j = A at *; generalize b.2.getLsbD j = B at *; cases all <;> cases A <;> cases B <;> first | rfl | contradiction
                 refine ⟨j, by omega, j, (j : Int) - 1, ⟨by omega, by omega, rfl⟩, rfl, ?_⟩
                 rw [e]; done)
              | (have e : (bothB all a b).toNat / 2 ^ j = 2 * ((bothB all a b).toNat / 2 ^ (j + 1)) := by
                   rw [hv]; clear hv hsm hm; generalize 2 * ((bothB all a b).toNat / 2 ^ (j + 1)) = y at *; generalize a.2.getLsbD j = A at *; generalize b.2.getLsbD j = B at *; cases all <;> cases A <;> cases B <;> first | rfl | contradiction
                 refine ⟨j, by omega, j, (j : Int) - 1, ⟨by omega, by omega, rfl⟩, rfl, ?_⟩
                 rw [e]; done)
          · try simp only [decide_eq_true_eq, decide_eq_false_iff_not, beq_iff_eq, bne_iff_ne, beq_eq_false_iff_ne, bne_eq_false_iff_eq, Bool.not_eq_true', Bool.not_eq_false', Bool.not_eq_true, ne_eq, Decidable.not_not] at g36
            refine OL.det rfl (Yields.ldA rfl rfl (lab_at (a := b) (r := r6) (by simp))) ?_
            refine OL.det rfl (Yields.pure rfl) ?_
            refine OL.call rfl rfl (has_fc (a := b) hj) ?_
            rintro _ Sx ⟨rfl, hSx⟩
            rw [hSx]
            clear hSx
            refine OL.det rfl (Yields.pure rfl) ?_
            refine OL.det rfl (Yields.pure rfl) ?_
            refine OL.det trivial (Yields.pure rfl) ?_
            refine OL.nil ?_
            refine PW.keep (T' := [(3, _), (5, _), (6, _), (8, _), (9, _), (10, _), (42, _)]) ⟨rfl, rfl, rfl, rfl, rfl, rfl, rfl, trivial⟩ ?_
            refine PW.cond rfl (fun c42 => ?_) (fun c42 => ?_)
            · try simp only [decide_eq_true_eq, decide_eq_false_iff_not, beq_iff_eq, bne_iff_ne, beq_eq_false_iff_ne, bne_eq_false_iff_eq, Bool.not_eq_true', Bool.not_eq_false', Bool.not_eq_true, ne_eq, Decidable.not_not] at c42
              refine PW.ops ?_
              refine OL.det trivial (Yields.pure rfl) ?_
              refine OL.det trivial (Yields.ld rfl (own_at (j := 1) (c := [.int .i64 lv, .int .u64 ((2 * ((bothB all a b).toNat / 2 ^ (j + 1)) : Nat) : Int)]) (E := 24) (tot := 2) (List.mem_flatten.2 ⟨_, List.mem_cons_self .., List.mem_cons_self ..⟩) rfl)) ?_
              refine OL.det trivial (Yields.to (v' := .int .u64 ((2 * ((bothB all a b).toNat / 2 ^ (j + 1)) + 1 : Nat) : Int)) (Yields.pure rfl) (by congr 1; exact (u64_wrap (a := 2 * ((bothB all a b).toNat / 2 ^ (j + 1)) + 1) (by omega)))) ?_
              refine OL.det trivial (Yields.pure rfl) ?_
              refine OL.cons trivial (OW.st (k := 0) (u := .int .u64 ((2 * ((bothB all a b).toNat / 2 ^ (j + 1)) + 1 : Nat) : Int)) rfl rfl rfl rfl (by show (2 : Nat) ≤ 2; omega) rfl) ?_
              rintro _ _ rfl
              change OL _ _ _ _ _ (cseg r9 lv (2 * ((bothB all a b).toNat / 2 ^ (j + 1)) + 1) :: cseg r8 0 0 :: lseg r6 b :: lseg r5 a :: S) _
              refine OL.nil ?_
              refine hK3 _ _ ?_
              refine PW.keep (T' := [(3, _), (5, _), (6, _), (8, _), (9, _), (10, _)]) ⟨rfl, rfl, rfl, rfl, rfl, rfl, trivial⟩ ?_
              refine PW.ops ?_
              refine OL.det trivial (Yields.pure rfl) ?_
              refine OL.det trivial (Yields.sub64 rfl rfl (by omega) (by omega)) ?_
              refine OL.det trivial (Yields.pure rfl) ?_
              refine OL.nil ?_
              repeat rw [inBlk_n]
              rw [thenK_n]
              refine LoopEnd.mk (T'' := [(3, _), (5, _), (6, _), (8, _), (9, _), (10, _)]) ⟨rfl, rfl, rfl, rfl, rfl, rfl, trivial⟩ ?_
              first
                | (have e : (bothB all a b).toNat / 2 ^ j = 2 * ((bothB all a b).toNat / 2 ^ (j + 1)) + 1 := by
                     rw [hv]; clear hv hsm hm; generalize 2 * ((bothB all a b).toNat / 2 ^ (j + 1)) = y at *; generalize a.2.getLsbD j = A at *; generalize b.2.getLsbD j = B at *; cases all <;> cases A <;> cases B <;> first | rfl | contradiction
                   refine ⟨j, by omega, j, (j : Int) - 1, ⟨by omega, by omega, rfl⟩, rfl, ?_⟩
                   rw [e]; done)
                | (have e : (bothB all a b).toNat / 2 ^ j = 2 * ((bothB all a b).toNat / 2 ^ (j + 1)) := by
                     rw [hv]; clear hv hsm hm; generalize 2 * ((bothB all a b).toNat / 2 ^ (j + 1)) = y at *; generalize a.2.getLsbD j = A at *; generalize b.2.getLsbD j = B at *; cases all <;> cases A <;> cases B <;> first | rfl | contradiction
                   refine ⟨j, by omega, j, (j : Int) - 1, ⟨by omega, by omega, rfl⟩, rfl, ?_⟩
                   rw [e]; done)
            · try simp only [decide_eq_true_eq, decide_eq_false_iff_not, beq_iff_eq, bne_iff_ne, beq_eq_false_iff_ne, bne_eq_false_iff_eq, Bool.not_eq_true', Bool.not_eq_false', Bool.not_eq_true, ne_eq, Decidable.not_not] at c42
              refine PW.skip ?_
              refine hK3 _ _ ?_
              refine PW.keep (T' := [(3, _), (5, _), (6, _), (8, _), (9, _), (10, _)]) ⟨rfl, rfl, rfl, rfl, rfl, rfl, trivial⟩ ?_
              refine PW.ops ?_
              refine OL.det trivial (Yields.pure rfl) ?_
              refine OL.det trivial (Yields.sub64 rfl rfl (by omega) (by omega)) ?_
              refine OL.det trivial (Yields.pure rfl) ?_
              refine OL.nil ?_
              repeat rw [inBlk_n]
              rw [thenK_n]
              refine LoopEnd.mk (T'' := [(3, _), (5, _), (6, _), (8, _), (9, _), (10, _)]) ⟨rfl, rfl, rfl, rfl, rfl, rfl, trivial⟩ ?_
              first
                | (have e : (bothB all a b).toNat / 2 ^ j = 2 * ((bothB all a b).toNat / 2 ^ (j + 1)) + 1 := by
                     rw [hv]; clear hv hsm hm; generalize 2 * ((bothB all a b).toNat / 2 ^ (j + 1)) = y at *; generalize a.2.getLsbD j = A at *; generalize b.2.getLsbD j = B at *; cases all <;> cases A <;> cases B <;> first | rfl | contradiction
                   refine ⟨j, by omega, j, (j : Int) - 1, ⟨by omega, by omega, rfl⟩, rfl, ?_⟩
                   rw [e]; done)
                | (have e : (bothB all a b).toNat / 2 ^ j = 2 * ((bothB all a b).toNat / 2 ^ (j + 1)) := by
                     rw [hv]; clear hv hsm hm; generalize 2 * ((bothB all a b).toNat / 2 ^ (j + 1)) = y at *; generalize a.2.getLsbD j = A at *; generalize b.2.getLsbD j = B at *; cases all <;> cases A <;> cases B <;> first | rfl | contradiction
                   refine ⟨j, by omega, j, (j : Int) - 1, ⟨by omega, by omega, rfl⟩, rfl, ?_⟩
                   rw [e]; done)
        · try simp only [decide_eq_true_eq, decide_eq_false_iff_not, beq_iff_eq, bne_iff_ne, beq_eq_false_iff_ne, bne_eq_false_iff_eq, Bool.not_eq_true', Bool.not_eq_false', Bool.not_eq_true, ne_eq, Decidable.not_not] at g32
          refine OL.off rfl rfl ?_
          refine OL.off rfl rfl ?_
          refine OL.off rfl rfl ?_
          refine OL.off rfl rfl ?_
          refine OL.off rfl rfl ?_
          refine OL.off rfl rfl ?_
          refine OL.off rfl rfl ?_
          refine OL.off rfl rfl ?_
          refine OL.det rfl (Yields.pure rfl) ?_
          refine OL.det trivial (Yields.pure rfl) ?_
          refine OL.nil ?_
          refine PW.keep (T' := [(3, _), (5, _), (6, _), (8, _), (9, _), (10, _), (42, _)]) ⟨rfl, rfl, rfl, rfl, rfl, rfl, rfl, trivial⟩ ?_
          refine PW.ite (b := false) rfl ?_
          rw [if_neg Bool.false_ne_true]
          refine PW.skip ?_
          refine hK3 _ _ ?_
          refine PW.keep (T' := [(3, _), (5, _), (6, _), (8, _), (9, _), (10, _)]) ⟨rfl, rfl, rfl, rfl, rfl, rfl, trivial⟩ ?_
          refine PW.ops ?_
          refine OL.det trivial (Yields.pure rfl) ?_
          refine OL.det trivial (Yields.sub64 rfl rfl (by omega) (by omega)) ?_
          refine OL.det trivial (Yields.pure rfl) ?_
          refine OL.nil ?_
          repeat rw [inBlk_n]
          rw [thenK_n]
          refine LoopEnd.mk (T'' := [(3, _), (5, _), (6, _), (8, _), (9, _), (10, _)]) ⟨rfl, rfl, rfl, rfl, rfl, rfl, trivial⟩ ?_
          first
            | (have e : (bothB all a b).toNat / 2 ^ j = 2 * ((bothB all a b).toNat / 2 ^ (j + 1)) + 1 := by
                 rw [hv]; clear hv hsm hm; generalize 2 * ((bothB all a b).toNat / 2 ^ (j + 1)) = y at *; generalize a.2.getLsbD j = A at *; generalize b.2.getLsbD j = B at *; cases all <;> cases A <;> cases B <;> first | rfl | contradiction
               refine ⟨j, by omega, j, (j : Int) - 1, ⟨by omega, by omega, rfl⟩, rfl, ?_⟩
               rw [e]; done)
            | (have e : (bothB all a b).toNat / 2 ^ j = 2 * ((bothB all a b).toNat / 2 ^ (j + 1)) := by
                 rw [hv]; clear hv hsm hm; generalize 2 * ((bothB all a b).toNat / 2 ^ (j + 1)) = y at *; generalize a.2.getLsbD j = A at *; generalize b.2.getLsbD j = B at *; cases all <;> cases A <;> cases B <;> first | rfl | contradiction
               refine ⟨j, by omega, j, (j : Int) - 1, ⟨by omega, by omega, rfl⟩, rfl, ?_⟩
               rw [e]; done)
    · try simp only [decide_eq_true_eq, decide_eq_false_iff_not, beq_iff_eq, bne_iff_ne, beq_eq_false_iff_ne, bne_eq_false_iff_eq, Bool.not_eq_true', Bool.not_eq_false', Bool.not_eq_true, ne_eq, Decidable.not_not] at g24
      refine OL.off rfl rfl ?_
      refine OL.off rfl rfl ?_
      refine OL.off rfl rfl ?_
      refine OL.det trivial (Yields.pure rfl) ?_
      refine OL.det trivial (Yields.pure rfl) ?_
      refine OL.det rfl (Yields.pure rfl) ?_
      refine OL.det rfl (Yields.pure rfl) ?_
      refine OL.bool rfl (Yields.pure rfl) (fun g32 => ?_) (fun g32 => ?_)
      · try simp only [decide_eq_true_eq, decide_eq_false_iff_not, beq_iff_eq, bne_iff_ne, beq_eq_false_iff_ne, bne_eq_false_iff_eq, Bool.not_eq_true', Bool.not_eq_false', Bool.not_eq_true, ne_eq, Decidable.not_not] at g32
        refine OL.det rfl (Yields.ldA rfl rfl (lab_at (a := a) (r := r5) (by simp))) ?_
        refine OL.det rfl (Yields.pure rfl) ?_
        refine OL.call rfl rfl (has_fc (a := a) hj) ?_
        rintro _ Sx ⟨rfl, hSx⟩
        rw [hSx]
        clear hSx
        refine OL.bool rfl (Yields.pure rfl) (fun g36 => ?_) (fun g36 => ?_)
        · try simp only [decide_eq_true_eq, decide_eq_false_iff_not, beq_iff_eq, bne_iff_ne, beq_eq_false_iff_ne, bne_eq_false_iff_eq, Bool.not_eq_true', Bool.not_eq_false', Bool.not_eq_true, ne_eq, Decidable.not_not] at g36
          refine OL.off rfl rfl ?_
          refine OL.off rfl rfl ?_
          refine OL.off rfl rfl ?_
          refine OL.det rfl (Yields.pure rfl) ?_
          refine OL.det rfl (Yields.pure rfl) ?_
          refine OL.det trivial (Yields.pure rfl) ?_
          refine OL.nil ?_
          refine PW.keep (T' := [(3, _), (5, _), (6, _), (8, _), (9, _), (10, _), (42, _)]) ⟨rfl, rfl, rfl, rfl, rfl, rfl, rfl, trivial⟩ ?_
          refine PW.ite (b := true) rfl ?_
          rw [if_pos rfl]
          refine PW.ops ?_
          refine OL.det trivial (Yields.pure rfl) ?_
          refine OL.det trivial (Yields.ld rfl (own_at (j := 1) (c := [.int .i64 lv, .int .u64 ((2 * ((bothB all a b).toNat / 2 ^ (j + 1)) : Nat) : Int)]) (E := 24) (tot := 2) (List.mem_flatten.2 ⟨_, List.mem_cons_self .., List.mem_cons_self ..⟩) rfl)) ?_
          refine OL.det trivial (Yields.to (v' := .int .u64 ((2 * ((bothB all a b).toNat / 2 ^ (j + 1)) + 1 : Nat) : Int)) (Yields.pure rfl) (by congr 1; exact (u64_wrap (a := 2 * ((bothB all a b).toNat / 2 ^ (j + 1)) + 1) (by omega)))) ?_
          refine OL.det trivial (Yields.pure rfl) ?_
          refine OL.cons trivial (OW.st (k := 0) (u := .int .u64 ((2 * ((bothB all a b).toNat / 2 ^ (j + 1)) + 1 : Nat) : Int)) rfl rfl rfl rfl (by show (2 : Nat) ≤ 2; omega) rfl) ?_
          rintro _ _ rfl
          change OL _ _ _ _ _ (cseg r9 lv (2 * ((bothB all a b).toNat / 2 ^ (j + 1)) + 1) :: cseg r8 0 0 :: lseg r6 b :: lseg r5 a :: S) _
          refine OL.nil ?_
          refine hK3 _ _ ?_
          refine PW.keep (T' := [(3, _), (5, _), (6, _), (8, _), (9, _), (10, _)]) ⟨rfl, rfl, rfl, rfl, rfl, rfl, trivial⟩ ?_
          refine PW.ops ?_
          refine OL.det trivial (Yields.pure rfl) ?_
          refine OL.det trivial (Yields.sub64 rfl rfl (by omega) (by omega)) ?_
          refine OL.det trivial (Yields.pure rfl) ?_
          refine OL.nil ?_
          repeat rw [inBlk_n]
          rw [thenK_n]
          refine LoopEnd.mk (T'' := [(3, _), (5, _), (6, _), (8, _), (9, _), (10, _)]) ⟨rfl, rfl, rfl, rfl, rfl, rfl, trivial⟩ ?_
          first
            | (have e : (bothB all a b).toNat / 2 ^ j = 2 * ((bothB all a b).toNat / 2 ^ (j + 1)) + 1 := by
                 rw [hv]; clear hv hsm hm; generalize 2 * ((bothB all a b).toNat / 2 ^ (j + 1)) = y at *; generalize a.2.getLsbD j = A at *; generalize b.2.getLsbD j = B at *; cases all <;> cases A <;> cases B <;> first | rfl | contradiction
               refine ⟨j, by omega, j, (j : Int) - 1, ⟨by omega, by omega, rfl⟩, rfl, ?_⟩
               rw [e]; done)
            | (have e : (bothB all a b).toNat / 2 ^ j = 2 * ((bothB all a b).toNat / 2 ^ (j + 1)) := by
                 rw [hv]; clear hv hsm hm; generalize 2 * ((bothB all a b).toNat / 2 ^ (j + 1)) = y at *; generalize a.2.getLsbD j = A at *; generalize b.2.getLsbD j = B at *; cases all <;> cases A <;> cases B <;> first | rfl | contradiction
               refine ⟨j, by omega, j, (j : Int) - 1, ⟨by omega, by omega, rfl⟩, rfl, ?_⟩
               rw [e]; done)
        · try simp only [decide_eq_true_eq, decide_eq_false_iff_not, beq_iff_eq, bne_iff_ne, beq_eq_false_iff_ne, bne_eq_false_iff_eq, Bool.not_eq_true', Bool.not_eq_false', Bool.not_eq_true, ne_eq, Decidable.not_not] at g36
          refine OL.det rfl (Yields.ldA rfl rfl (lab_at (a := b) (r := r6) (by simp))) ?_
          refine OL.det rfl (Yields.pure rfl) ?_
          refine OL.call rfl rfl (has_fc (a := b) hj) ?_
          rintro _ Sx ⟨rfl, hSx⟩
          rw [hSx]
          clear hSx
          refine OL.det rfl (Yields.pure rfl) ?_
          refine OL.det rfl (Yields.pure rfl) ?_
          refine OL.det trivial (Yields.pure rfl) ?_
          refine OL.nil ?_
          refine PW.keep (T' := [(3, _), (5, _), (6, _), (8, _), (9, _), (10, _), (42, _)]) ⟨rfl, rfl, rfl, rfl, rfl, rfl, rfl, trivial⟩ ?_
          refine PW.cond rfl (fun c42 => ?_) (fun c42 => ?_)
          · try simp only [decide_eq_true_eq, decide_eq_false_iff_not, beq_iff_eq, bne_iff_ne, beq_eq_false_iff_ne, bne_eq_false_iff_eq, Bool.not_eq_true', Bool.not_eq_false', Bool.not_eq_true, ne_eq, Decidable.not_not] at c42
            refine PW.ops ?_
            refine OL.det trivial (Yields.pure rfl) ?_
            refine OL.det trivial (Yields.ld rfl (own_at (j := 1) (c := [.int .i64 lv, .int .u64 ((2 * ((bothB all a b).toNat / 2 ^ (j + 1)) : Nat) : Int)]) (E := 24) (tot := 2) (List.mem_flatten.2 ⟨_, List.mem_cons_self .., List.mem_cons_self ..⟩) rfl)) ?_
            refine OL.det trivial (Yields.to (v' := .int .u64 ((2 * ((bothB all a b).toNat / 2 ^ (j + 1)) + 1 : Nat) : Int)) (Yields.pure rfl) (by congr 1; exact (u64_wrap (a := 2 * ((bothB all a b).toNat / 2 ^ (j + 1)) + 1) (by omega)))) ?_
            refine OL.det trivial (Yields.pure rfl) ?_
            refine OL.cons trivial (OW.st (k := 0) (u := .int .u64 ((2 * ((bothB all a b).toNat / 2 ^ (j + 1)) + 1 : Nat) : Int)) rfl rfl rfl rfl (by show (2 : Nat) ≤ 2; omega) rfl) ?_
            rintro _ _ rfl
            change OL _ _ _ _ _ (cseg r9 lv (2 * ((bothB all a b).toNat / 2 ^ (j + 1)) + 1) :: cseg r8 0 0 :: lseg r6 b :: lseg r5 a :: S) _
            refine OL.nil ?_
            refine hK3 _ _ ?_
            refine PW.keep (T' := [(3, _), (5, _), (6, _), (8, _), (9, _), (10, _)]) ⟨rfl, rfl, rfl, rfl, rfl, rfl, trivial⟩ ?_
            refine PW.ops ?_
            refine OL.det trivial (Yields.pure rfl) ?_
            refine OL.det trivial (Yields.sub64 rfl rfl (by omega) (by omega)) ?_
            refine OL.det trivial (Yields.pure rfl) ?_
            refine OL.nil ?_
            repeat rw [inBlk_n]
            rw [thenK_n]
            refine LoopEnd.mk (T'' := [(3, _), (5, _), (6, _), (8, _), (9, _), (10, _)]) ⟨rfl, rfl, rfl, rfl, rfl, rfl, trivial⟩ ?_
            first
              | (have e : (bothB all a b).toNat / 2 ^ j = 2 * ((bothB all a b).toNat / 2 ^ (j + 1)) + 1 := by
                   rw [hv]; clear hv hsm hm; generalize 2 * ((bothB all a b).toNat / 2 ^ (j + 1)) = y at *; generalize a.2.getLsbD j = A at *; generalize b.2.getLsbD j = B at *; cases all <;> cases A <;> cases B <;> first | rfl | contradiction
                 refine ⟨j, by omega, j, (j : Int) - 1, ⟨by omega, by omega, rfl⟩, rfl, ?_⟩
                 rw [e]; done)
              | (have e : (bothB all a b).toNat / 2 ^ j = 2 * ((bothB all a b).toNat / 2 ^ (j + 1)) := by
                   rw [hv]; clear hv hsm hm; generalize 2 * ((bothB all a b).toNat / 2 ^ (j + 1)) = y at *; generalize a.2.getLsbD j = A at *; generalize b.2.getLsbD j = B at *; cases all <;> cases A <;> cases B <;> first | rfl | contradiction
                 refine ⟨j, by omega, j, (j : Int) - 1, ⟨by omega, by omega, rfl⟩, rfl, ?_⟩
                 rw [e]; done)
          · try simp only [decide_eq_true_eq, decide_eq_false_iff_not, beq_iff_eq, bne_iff_ne, beq_eq_false_iff_ne, bne_eq_false_iff_eq, Bool.not_eq_true', Bool.not_eq_false', Bool.not_eq_true, ne_eq, Decidable.not_not] at c42
            refine PW.skip ?_
            refine hK3 _ _ ?_
            refine PW.keep (T' := [(3, _), (5, _), (6, _), (8, _), (9, _), (10, _)]) ⟨rfl, rfl, rfl, rfl, rfl, rfl, trivial⟩ ?_
            refine PW.ops ?_
            refine OL.det trivial (Yields.pure rfl) ?_
            refine OL.det trivial (Yields.sub64 rfl rfl (by omega) (by omega)) ?_
            refine OL.det trivial (Yields.pure rfl) ?_
            refine OL.nil ?_
            repeat rw [inBlk_n]
            rw [thenK_n]
            refine LoopEnd.mk (T'' := [(3, _), (5, _), (6, _), (8, _), (9, _), (10, _)]) ⟨rfl, rfl, rfl, rfl, rfl, rfl, trivial⟩ ?_
            first
              | (have e : (bothB all a b).toNat / 2 ^ j = 2 * ((bothB all a b).toNat / 2 ^ (j + 1)) + 1 := by
                   rw [hv]; clear hv hsm hm; generalize 2 * ((bothB all a b).toNat / 2 ^ (j + 1)) = y at *; generalize a.2.getLsbD j = A at *; generalize b.2.getLsbD j = B at *; cases all <;> cases A <;> cases B <;> first | rfl | contradiction
                 refine ⟨j, by omega, j, (j : Int) - 1, ⟨by omega, by omega, rfl⟩, rfl, ?_⟩
                 rw [e]; done)
              | (have e : (bothB all a b).toNat / 2 ^ j = 2 * ((bothB all a b).toNat / 2 ^ (j + 1)) := by
                   rw [hv]; clear hv hsm hm; generalize 2 * ((bothB all a b).toNat / 2 ^ (j + 1)) = y at *; generalize a.2.getLsbD j = A at *; generalize b.2.getLsbD j = B at *; cases all <;> cases A <;> cases B <;> first | rfl | contradiction
                 refine ⟨j, by omega, j, (j : Int) - 1, ⟨by omega, by omega, rfl⟩, rfl, ?_⟩
                 rw [e]; done)
      · try simp only [decide_eq_true_eq, decide_eq_false_iff_not, beq_iff_eq, bne_iff_ne, beq_eq_false_iff_ne, bne_eq_false_iff_eq, Bool.not_eq_true', Bool.not_eq_false', Bool.not_eq_true, ne_eq, Decidable.not_not] at g32
        refine OL.off rfl rfl ?_
        refine OL.off rfl rfl ?_
        refine OL.off rfl rfl ?_
        refine OL.off rfl rfl ?_
        refine OL.off rfl rfl ?_
        refine OL.off rfl rfl ?_
        refine OL.off rfl rfl ?_
        refine OL.off rfl rfl ?_
        refine OL.det rfl (Yields.pure rfl) ?_
        refine OL.det trivial (Yields.pure rfl) ?_
        refine OL.nil ?_
        refine PW.keep (T' := [(3, _), (5, _), (6, _), (8, _), (9, _), (10, _), (42, _)]) ⟨rfl, rfl, rfl, rfl, rfl, rfl, rfl, trivial⟩ ?_
        refine PW.ite (b := false) rfl ?_
        rw [if_neg Bool.false_ne_true]
        refine PW.skip ?_
        refine hK3 _ _ ?_
        refine PW.keep (T' := [(3, _), (5, _), (6, _), (8, _), (9, _), (10, _)]) ⟨rfl, rfl, rfl, rfl, rfl, rfl, trivial⟩ ?_
        refine PW.ops ?_
        refine OL.det trivial (Yields.pure rfl) ?_
        refine OL.det trivial (Yields.sub64 rfl rfl (by omega) (by omega)) ?_
        refine OL.det trivial (Yields.pure rfl) ?_
        refine OL.nil ?_
        repeat rw [inBlk_n]
        rw [thenK_n]
        refine LoopEnd.mk (T'' := [(3, _), (5, _), (6, _), (8, _), (9, _), (10, _)]) ⟨rfl, rfl, rfl, rfl, rfl, rfl, trivial⟩ ?_
        first
          | (have e : (bothB all a b).toNat / 2 ^ j = 2 * ((bothB all a b).toNat / 2 ^ (j + 1)) + 1 := by
               rw [hv]; clear hv hsm hm; generalize 2 * ((bothB all a b).toNat / 2 ^ (j + 1)) = y at *; generalize a.2.getLsbD j = A at *; generalize b.2.getLsbD j = B at *; cases all <;> cases A <;> cases B <;> first | rfl | contradiction
             refine ⟨j, by omega, j, (j : Int) - 1, ⟨by omega, by omega, rfl⟩, rfl, ?_⟩
             rw [e]; done)
          | (have e : (bothB all a b).toNat / 2 ^ j = 2 * ((bothB all a b).toNat / 2 ^ (j + 1)) := by
               rw [hv]; clear hv hsm hm; generalize 2 * ((bothB all a b).toNat / 2 ^ (j + 1)) = y at *; generalize a.2.getLsbD j = A at *; generalize b.2.getLsbD j = B at *; cases all <;> cases A <;> cases B <;> first | rfl | contradiction
             refine ⟨j, by omega, j, (j : Int) - 1, ⟨by omega, by omega, rfl⟩, rfl, ?_⟩
             rw [e]; done)
  · try simp only [decide_eq_true_eq, decide_eq_false_iff_not, beq_iff_eq, bne_iff_ne, beq_eq_false_iff_ne, bne_eq_false_iff_eq, Bool.not_eq_true', Bool.not_eq_false', Bool.not_eq_true, ne_eq, Decidable.not_not] at c14
    refine PW.exit ?_
    refine hK1 _ _ ?_
    refine PW.keep (T' := [(8, _), (9, _)]) ⟨rfl, rfl, trivial⟩ ?_
    refine PW.seqOps ?_
    refine OL.det trivial (Yields.ldA rfl rfl (fun j u hj => (Rd.own (xs := [.int .i64 lv, .int .u64 (((bothB all a b).toNat / 2 ^ k : Nat) : Int)]) (E := 24) (tot := 2) (by simp)).at hj)) ?_
    refine OL.cons trivial (OW.st (k := 1) (u := .agg #[.int .i64 lv, .int .u64 (((bothB all a b).toNat / 2 ^ k : Nat) : Int)]) rfl rfl rfl rfl (by decide) rfl) ?_
    rintro _ _ rfl
    change OL _ _ _ _ _ (cseg r9 lv ((bothB all a b).toNat / 2 ^ k) :: cseg r8 lv ((bothB all a b).toNat / 2 ^ k) :: lseg r6 b :: lseg r5 a :: S) _
    refine OL.nil ?_
    refine PW.keep (T' := [(8, _)]) ⟨rfl, trivial⟩ ?_
    refine PW.ret ?_
    change (Exit.ret = Exit.normal ∨ Exit.ret = Exit.ret) ∧ ∃ a v, Go.SL.look _ _ = some (.pointer (some a)) ∧ ReadsAs _ _ _ _ _ ∧ _
    obtain rfl : k = 0 := by omega
    rw [Nat.pow_zero, Nat.div_one]
    exact ⟨.inr rfl, _, labB (lv, bothB all a b), rfl, lab_read (r := r8) (l := lv) (c := ((bothB all a b).toNat : Int)) (by simp), _, Sub.drop (Sub.drop (Sub.drop (Sub.drop (Sub.refl _)))), rfl, rfl⟩

end Go.Proofs
