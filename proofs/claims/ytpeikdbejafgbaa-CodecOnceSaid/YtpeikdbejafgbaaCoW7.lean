/- Walks and plain facts for the laws of this seat: what each function answers, for every input. -/
import Derived.Test.YtpeikdbejafgbaaCoW6
set_option linter.unusedVariables false
set_option linter.unusedSimpArgs false
namespace Go.Proofs
open Go.SL Go.RowKit
set_option maxHeartbeats 1000000

def rdC (A : Option Addr) (len cap at_ : Nat) (err : Int) : List Value := [.slice A len cap, .int .i64 (at_ : Int), .int .i64 err, .bool true]
theorem Rd.cut {w0 : World} {S : SS} {A : Option Addr} {l : List UInt8} {cap k : Nat} (h : Rd w0 S A (bytesC l)) (hk : k ≤ l.length) (hc : l.length ≤ cap) : Rd w0 S (if cap = k then A else A.map (·.add (k * 1))) (bytesC (l.drop k)) := by
  by_cases e : cap = k
  · have : l.drop k = [] := List.drop_eq_nil_of_le (by omega)
    rw [this]; exact Rd.nil
  · rw [if_neg e]
    intro j v hj
    have h1 : (bytesC l)[k + j]? = some v := by
      rw [← hj]; unfold bytesC; rw [List.map_drop, List.getElem?_drop]
    obtain ⟨a, ha, hcell⟩ := h (k + j) v h1
    subst ha
    refine ⟨a.add (k * 1), rfl, ?_⟩
    rw [addr_add_add, Nat.mul_one]
    exact hcell
/-- what a read of a number makes of a reader: the number, where it stands, the failure -/
def lookN (most : Nat) (l : List UInt8) : Nat × Nat × Int := ((numR 0 0 l).1, (numR 0 0 l).2.1, if (numR 0 0 l).2.2 = 0 ∧ most < (numR 0 0 l).1 then 3 else (numR 0 0 l).2.2)
def readN (most : Nat) (l : List UInt8) (at_ : Nat) (err : Int) : Nat × Nat × Int :=
  if err ≠ 0 then (0, at_, err) else if (lookN most (l.drop at_)).2.2 = 0 then ((lookN most (l.drop at_)).1, at_ + (lookN most (l.drop at_)).2.1, 0) else (0, at_, (lookN most (l.drop at_)).2.2)
theorem numR_size (i n : Nat) (l : List UInt8) : (numR i n l).2.1 ≤ i + l.length := by
  induction l generalizing i n with
  | nil => simp [numR]
  | cons b r ih =>
    simp only [numR]
    split
    · simp
    · split
      · split <;> simp <;> omega
      · have := ih (i + 1) (n + b.toNat % 128 * 2 ^ (7 * i)); simp; omega
theorem is_fc {w0 : World} {S : SS} {rb len cap at_ : Nat} {A : Option Addr} {err : Int} (hm : (rb, AO.cells (rdC A len cap at_ err) 49 4) ∈ S.flatten) :
    FC Try.prog w0 36 [.pointer (some ⟨rb, 0, none⟩)] S (fun v S' => v = .bool (decide (err = 0)) ∧ S' = S) := by
  refine FC.of Try.known36 (by simp) ?_
  unfold Try.pc36
  simp only [argT]
  refine PW.seqOps ?_
  refine OL.det trivial (Yields.pure rfl) ?_
  refine OL.nil ?_
  refine PW.keep (T' := [(0, _)]) ⟨rfl, trivial⟩ ?_
  refine PW.seqOps ?_
  refine OL.det trivial (Yields.pure rfl) ?_
  refine OL.det trivial (Yields.eqPn rfl rfl) ?_
  refine OL.bool trivial (Yields.pure rfl) (fun g5 => ?_) (fun g5 => ?_)
  · try simp only [decide_eq_true_eq, decide_eq_false_iff_not, beq_iff_eq, bne_iff_ne, beq_eq_false_iff_ne, bne_eq_false_iff_eq, Bool.not_eq_true', Bool.not_eq_false', Bool.not_eq_true, ne_eq, Decidable.not_not] at g5
    refine OL.det rfl (Yields.pure rfl) ?_
    refine OL.det rfl (Yields.nilc rfl) ?_
    refine OL.det rfl (Yields.pure rfl) ?_
    refine OL.det rfl (Yields.ld rfl (own_at (j := 3) hm rfl)) ?_
    refine OL.det trivial (Yields.pure rfl) ?_
    refine OL.bool trivial (Yields.pure rfl) (fun g11 => ?_) (fun g11 => ?_)
    · try simp only [decide_eq_true_eq, decide_eq_false_iff_not, beq_iff_eq, bne_iff_ne, beq_eq_false_iff_ne, bne_eq_false_iff_eq, Bool.not_eq_true', Bool.not_eq_false', Bool.not_eq_true, ne_eq, Decidable.not_not] at g11
      refine OL.det rfl (Yields.pure rfl) ?_
      refine OL.det rfl (Yields.nilc rfl) ?_
      refine OL.det rfl (Yields.pure rfl) ?_
      refine OL.det rfl (Yields.ld rfl (own_at (j := 2) hm rfl)) ?_
      refine OL.det rfl (Yields.pure rfl) ?_
      refine OL.det trivial (Yields.pure rfl) ?_
      refine OL.det trivial (Yields.pure rfl) ?_
      refine OL.nil ?_
      refine PW.keep (T' := [(2, _)]) ⟨rfl, trivial⟩ ?_
      refine PW.ret ?_
      change (Exit.ret = Exit.normal ∨ Exit.ret = Exit.ret) ∧ ∃ v, resV _ _ = some v ∧ _
      refine ⟨.inr rfl, _, rfl, ?_, rfl⟩
      rfl
    · try simp only [decide_eq_true_eq, decide_eq_false_iff_not, beq_iff_eq, bne_iff_ne, beq_eq_false_iff_ne, bne_eq_false_iff_eq, Bool.not_eq_true', Bool.not_eq_false', Bool.not_eq_true, ne_eq, Decidable.not_not] at g11
      simp at g11 -- done
  · try simp only [decide_eq_true_eq, decide_eq_false_iff_not, beq_iff_eq, bne_iff_ne, beq_eq_false_iff_ne, bne_eq_false_iff_eq, Bool.not_eq_true', Bool.not_eq_false', Bool.not_eq_true, ne_eq, Decidable.not_not] at g5
    simp at g5 -- done
theorem numcl_fc {w0 : World} {S : SS} {A : Option Addr} {ca ro : Nat} {l : List UInt8} {most o : Nat} {am : Addr} (hx : Rd w0 S A (bytesC l)) (hb : l.length ≤ 1000000000000) (hmo : Cell w0 S am (.int .u64 (most : Int))) :
    FC Try.prog w0 32 [.slice A l.length ca, .pointer (some am), .pointer (some ⟨ro, 0, none⟩)] ([(ro, .cells [.int .u64 (o : Int)] 22 1)] :: S) (fun v S' => v = .tuple #[.int .i64 ((lookN most l).2.1 : Int), .int .i64 (lookN most l).2.2] ∧ S' = [(ro, .cells [.int .u64 ((if (lookN most l).2.2 = 0 then (lookN most l).1 else o : Nat) : Int)] 22 1)] :: S) := by
  refine FC.of Try.known32 (by simp) ?_
  unfold Try.pc32
  simp only [argT]
  refine PW.seqOps ?_
  refine OL.det trivial (Yields.pure rfl) ?_
  refine OL.det trivial (Yields.pure rfl) ?_
  refine OL.nil ?_
  refine PW.keep (T' := [(0, _), (1, _), (2, _)]) ⟨rfl, rfl, rfl, trivial⟩ ?_
  refine PW.seqOps ?_
  refine OL.det trivial (Yields.pure rfl) ?_
  refine OL.call trivial rfl (number_fc hx.cons hb) ?_
  rintro _ _ ⟨rfl, rfl⟩
  generalize hnr : numR 0 0 l = t at *
  obtain ⟨x, sz, e⟩ := t
  refine OL.det trivial (Yields.pure rfl) ?_
  refine OL.det trivial (Yields.pure rfl) ?_
  refine OL.det trivial (Yields.pure rfl) ?_
  refine OL.det trivial (Yields.pure rfl) ?_
  refine OL.det trivial (Yields.pure rfl) ?_
  refine OL.det trivial (Yields.pure rfl) ?_
  refine OL.det trivial (Yields.pure rfl) ?_
  refine OL.nil ?_
  refine PW.keep (T' := [(1, _), (2, _), (6, _), (7, _), (8, _)]) ⟨rfl, rfl, rfl, rfl, rfl, trivial⟩ ?_
  refine PW.seq fun K1 hK1 => ?_
  refine PW.seqOps ?_
  refine OL.det trivial (Yields.pure rfl) ?_
  refine OL.det trivial (Yields.pure rfl) ?_
  refine OL.bool trivial (Yields.pure rfl) (fun g17 => ?_) (fun g17 => ?_)
  · try simp only [decide_eq_true_eq, decide_eq_false_iff_not, beq_iff_eq, bne_iff_ne, beq_eq_false_iff_ne, bne_eq_false_iff_eq, Bool.not_eq_true', Bool.not_eq_false', Bool.not_eq_true, ne_eq, Decidable.not_not] at g17
    refine OL.det rfl (Yields.pure rfl) ?_
    refine OL.det rfl (Yields.ld rfl (hmo.mono (fun p hp => by simp [hp]))) ?_
    refine OL.det rfl (Yields.pure rfl) ?_
    refine OL.det trivial (Yields.pure rfl) ?_
    refine OL.nil ?_
    refine PW.keep (T' := [(2, _), (6, _), (7, _), (8, _), (21, _)]) ⟨rfl, rfl, rfl, rfl, rfl, trivial⟩ ?_
    refine PW.cond rfl (fun c21 => ?_) (fun c21 => ?_)
    · try simp only [decide_eq_true_eq, decide_eq_false_iff_not, beq_iff_eq, bne_iff_ne, beq_eq_false_iff_ne, bne_eq_false_iff_eq, Bool.not_eq_true', Bool.not_eq_false', Bool.not_eq_true, ne_eq, Decidable.not_not] at c21
      refine PW.ops ?_
      refine OL.det trivial (Yields.pure rfl) ?_
      refine OL.nil ?_
      refine hK1 _ _ ?_
      refine PW.keep (T' := [(2, _), (6, _), (7, _), (8, _)]) ⟨rfl, rfl, rfl, rfl, trivial⟩ ?_
      refine PW.seq fun K2 hK2 => ?_
      refine PW.seqOps ?_
      refine OL.det trivial (Yields.pure rfl) ?_
      refine OL.det trivial (Yields.pure rfl) ?_
      refine OL.nil ?_
      refine PW.keep (T' := [(2, _), (6, _), (7, _), (8, _), (23, _)]) ⟨rfl, rfl, rfl, rfl, rfl, trivial⟩ ?_
      refine PW.cond rfl (fun c23 => ?_) (fun c23 => ?_)
      · try simp only [decide_eq_true_eq, decide_eq_false_iff_not, beq_iff_eq, bne_iff_ne, beq_eq_false_iff_ne, bne_eq_false_iff_eq, Bool.not_eq_true', Bool.not_eq_false', Bool.not_eq_true, ne_eq, Decidable.not_not] at c23
        refine PW.ops ?_
        refine OL.det trivial (Yields.pure rfl) ?_
        refine OL.cons trivial (OW.st (k := 0) rfl rfl rfl rfl (by first | decide | (simp; done) | (simp; omega)) (by first | rfl | simp)) ?_
        rintro _ _ rfl
        refine OL.nil ?_
        refine hK2 _ _ ?_
        refine PW.keep (T' := [(7, _), (8, _)]) ⟨rfl, rfl, trivial⟩ ?_
        refine PW.seqOps ?_
        refine OL.det trivial (Yields.pure rfl) ?_
        refine OL.det trivial (Yields.pure rfl) ?_
        refine OL.det trivial (Yields.pure rfl) ?_
        refine OL.det trivial (Yields.pure rfl) ?_
        refine OL.nil ?_
        refine PW.keep (T' := [(4, _), (5, _)]) ⟨rfl, rfl, trivial⟩ ?_
        refine PW.ret ?_
        change (Exit.ret = Exit.normal ∨ Exit.ret = Exit.ret) ∧ ∃ v, resV _ _ = some v ∧ _
        refine ⟨.inr rfl, _, rfl, ?_, ?_⟩
        · simp only [lookN, hnr]
          first
          | (exfalso; omega)
          | (rw [if_pos (by omega)] <;> rfl)
          | (rw [if_neg (by omega)] <;> rfl)
        · simp only [lookN, hnr]
          first
          | (exfalso; omega)
          | (rw [if_pos (show e = 0 ∧ most < x by omega), if_neg (by decide)] <;> rfl)
          | (rw [if_neg (show ¬ (e = 0 ∧ most < x) by omega), if_pos (show e = 0 by omega)] <;> rfl)
          | (rw [if_neg (show ¬ (e = 0 ∧ most < x) by omega), if_neg (show ¬ e = 0 by omega)] <;> rfl)
      · try simp only [decide_eq_true_eq, decide_eq_false_iff_not, beq_iff_eq, bne_iff_ne, beq_eq_false_iff_ne, bne_eq_false_iff_eq, Bool.not_eq_true', Bool.not_eq_false', Bool.not_eq_true, ne_eq, Decidable.not_not] at c23
        refine PW.skip ?_
        refine hK2 _ _ ?_
        refine PW.keep (T' := [(7, _), (8, _)]) ⟨rfl, rfl, trivial⟩ ?_
        refine PW.seqOps ?_
        refine OL.det trivial (Yields.pure rfl) ?_
        refine OL.det trivial (Yields.pure rfl) ?_
        refine OL.det trivial (Yields.pure rfl) ?_
        refine OL.det trivial (Yields.pure rfl) ?_
        refine OL.nil ?_
        refine PW.keep (T' := [(4, _), (5, _)]) ⟨rfl, rfl, trivial⟩ ?_
        refine PW.ret ?_
        change (Exit.ret = Exit.normal ∨ Exit.ret = Exit.ret) ∧ ∃ v, resV _ _ = some v ∧ _
        refine ⟨.inr rfl, _, rfl, ?_, ?_⟩
        · simp only [lookN, hnr]
          first
          | (exfalso; omega)
          | (rw [if_pos (by omega)] <;> rfl)
          | (rw [if_neg (by omega)] <;> rfl)
        · simp only [lookN, hnr]
          first
          | (exfalso; omega)
          | (rw [if_pos (show e = 0 ∧ most < x by omega), if_neg (by decide)] <;> rfl)
          | (rw [if_neg (show ¬ (e = 0 ∧ most < x) by omega), if_pos (show e = 0 by omega)] <;> rfl)
          | (rw [if_neg (show ¬ (e = 0 ∧ most < x) by omega), if_neg (show ¬ e = 0 by omega)] <;> rfl)
    · try simp only [decide_eq_true_eq, decide_eq_false_iff_not, beq_iff_eq, bne_iff_ne, beq_eq_false_iff_ne, bne_eq_false_iff_eq, Bool.not_eq_true', Bool.not_eq_false', Bool.not_eq_true, ne_eq, Decidable.not_not] at c21
      refine PW.skip ?_
      refine hK1 _ _ ?_
      refine PW.keep (T' := [(2, _), (6, _), (7, _), (8, _)]) ⟨rfl, rfl, rfl, rfl, trivial⟩ ?_
      refine PW.seq fun K3 hK3 => ?_
      refine PW.seqOps ?_
      refine OL.det trivial (Yields.pure rfl) ?_
      refine OL.det trivial (Yields.pure rfl) ?_
      refine OL.nil ?_
      refine PW.keep (T' := [(2, _), (6, _), (7, _), (8, _), (23, _)]) ⟨rfl, rfl, rfl, rfl, rfl, trivial⟩ ?_
      refine PW.cond rfl (fun c23 => ?_) (fun c23 => ?_)
      · try simp only [decide_eq_true_eq, decide_eq_false_iff_not, beq_iff_eq, bne_iff_ne, beq_eq_false_iff_ne, bne_eq_false_iff_eq, Bool.not_eq_true', Bool.not_eq_false', Bool.not_eq_true, ne_eq, Decidable.not_not] at c23
        refine PW.ops ?_
        refine OL.det trivial (Yields.pure rfl) ?_
        refine OL.cons trivial (OW.st (k := 0) rfl rfl rfl rfl (by first | decide | (simp; done) | (simp; omega)) (by first | rfl | simp)) ?_
        rintro _ _ rfl
        refine OL.nil ?_
        refine hK3 _ _ ?_
        refine PW.keep (T' := [(7, _), (8, _)]) ⟨rfl, rfl, trivial⟩ ?_
        refine PW.seqOps ?_
        refine OL.det trivial (Yields.pure rfl) ?_
        refine OL.det trivial (Yields.pure rfl) ?_
        refine OL.det trivial (Yields.pure rfl) ?_
        refine OL.det trivial (Yields.pure rfl) ?_
        refine OL.nil ?_
        refine PW.keep (T' := [(4, _), (5, _)]) ⟨rfl, rfl, trivial⟩ ?_
        refine PW.ret ?_
        change (Exit.ret = Exit.normal ∨ Exit.ret = Exit.ret) ∧ ∃ v, resV _ _ = some v ∧ _
        refine ⟨.inr rfl, _, rfl, ?_, ?_⟩
        · simp only [lookN, hnr]
          first
          | (exfalso; omega)
          | (rw [if_pos (by omega)] <;> rfl)
          | (rw [if_neg (by omega)] <;> rfl)
        · simp only [lookN, hnr]
          first
          | (exfalso; omega)
          | (rw [if_pos (show e = 0 ∧ most < x by omega), if_neg (by decide)] <;> rfl)
          | (rw [if_neg (show ¬ (e = 0 ∧ most < x) by omega), if_pos (show e = 0 by omega)] <;> rfl)
          | (rw [if_neg (show ¬ (e = 0 ∧ most < x) by omega), if_neg (show ¬ e = 0 by omega)] <;> rfl)
      · try simp only [decide_eq_true_eq, decide_eq_false_iff_not, beq_iff_eq, bne_iff_ne, beq_eq_false_iff_ne, bne_eq_false_iff_eq, Bool.not_eq_true', Bool.not_eq_false', Bool.not_eq_true, ne_eq, Decidable.not_not] at c23
        refine PW.skip ?_
        refine hK3 _ _ ?_
        refine PW.keep (T' := [(7, _), (8, _)]) ⟨rfl, rfl, trivial⟩ ?_
        refine PW.seqOps ?_
        refine OL.det trivial (Yields.pure rfl) ?_
        refine OL.det trivial (Yields.pure rfl) ?_
        refine OL.det trivial (Yields.pure rfl) ?_
        refine OL.det trivial (Yields.pure rfl) ?_
        refine OL.nil ?_
        refine PW.keep (T' := [(4, _), (5, _)]) ⟨rfl, rfl, trivial⟩ ?_
        refine PW.ret ?_
        change (Exit.ret = Exit.normal ∨ Exit.ret = Exit.ret) ∧ ∃ v, resV _ _ = some v ∧ _
        refine ⟨.inr rfl, _, rfl, ?_, ?_⟩
        · simp only [lookN, hnr]
          first
          | (exfalso; omega)
          | (rw [if_pos (by omega)] <;> rfl)
          | (rw [if_neg (by omega)] <;> rfl)
        · simp only [lookN, hnr]
          first
          | (exfalso; omega)
          | (rw [if_pos (show e = 0 ∧ most < x by omega), if_neg (by decide)] <;> rfl)
          | (rw [if_neg (show ¬ (e = 0 ∧ most < x) by omega), if_pos (show e = 0 by omega)] <;> rfl)
          | (rw [if_neg (show ¬ (e = 0 ∧ most < x) by omega), if_neg (show ¬ e = 0 by omega)] <;> rfl)
  · try simp only [decide_eq_true_eq, decide_eq_false_iff_not, beq_iff_eq, bne_iff_ne, beq_eq_false_iff_ne, bne_eq_false_iff_eq, Bool.not_eq_true', Bool.not_eq_false', Bool.not_eq_true, ne_eq, Decidable.not_not] at g17
    refine OL.off rfl rfl ?_
    refine OL.off rfl rfl ?_
    refine OL.off rfl rfl ?_
    refine OL.det trivial (Yields.pure rfl) ?_
    refine OL.nil ?_
    refine PW.keep (T' := [(2, _), (6, _), (7, _), (8, _), (21, _)]) ⟨rfl, rfl, rfl, rfl, rfl, trivial⟩ ?_
    refine PW.ite (b := false) rfl ?_
    rw [if_neg Bool.false_ne_true]
    refine PW.skip ?_
    refine hK1 _ _ ?_
    refine PW.keep (T' := [(2, _), (6, _), (7, _), (8, _)]) ⟨rfl, rfl, rfl, rfl, trivial⟩ ?_
    refine PW.seq fun K4 hK4 => ?_
    refine PW.seqOps ?_
    refine OL.det trivial (Yields.pure rfl) ?_
    refine OL.det trivial (Yields.pure rfl) ?_
    refine OL.nil ?_
    refine PW.keep (T' := [(2, _), (6, _), (7, _), (8, _), (23, _)]) ⟨rfl, rfl, rfl, rfl, rfl, trivial⟩ ?_
    refine PW.cond rfl (fun c23 => ?_) (fun c23 => ?_)
    · try simp only [decide_eq_true_eq, decide_eq_false_iff_not, beq_iff_eq, bne_iff_ne, beq_eq_false_iff_ne, bne_eq_false_iff_eq, Bool.not_eq_true', Bool.not_eq_false', Bool.not_eq_true, ne_eq, Decidable.not_not] at c23
      refine PW.ops ?_
      refine OL.det trivial (Yields.pure rfl) ?_
      refine OL.cons trivial (OW.st (k := 0) rfl rfl rfl rfl (by first | decide | (simp; done) | (simp; omega)) (by first | rfl | simp)) ?_
      rintro _ _ rfl
      refine OL.nil ?_
      refine hK4 _ _ ?_
      refine PW.keep (T' := [(7, _), (8, _)]) ⟨rfl, rfl, trivial⟩ ?_
      refine PW.seqOps ?_
      refine OL.det trivial (Yields.pure rfl) ?_
      refine OL.det trivial (Yields.pure rfl) ?_
      refine OL.det trivial (Yields.pure rfl) ?_
      refine OL.det trivial (Yields.pure rfl) ?_
      refine OL.nil ?_
      refine PW.keep (T' := [(4, _), (5, _)]) ⟨rfl, rfl, trivial⟩ ?_
      refine PW.ret ?_
      change (Exit.ret = Exit.normal ∨ Exit.ret = Exit.ret) ∧ ∃ v, resV _ _ = some v ∧ _
      refine ⟨.inr rfl, _, rfl, ?_, ?_⟩
      · simp only [lookN, hnr]
        first
        | (exfalso; omega)
        | (rw [if_pos (by omega)] <;> rfl)
        | (rw [if_neg (by omega)] <;> rfl)
      · simp only [lookN, hnr]
        first
        | (exfalso; omega)
        | (rw [if_pos (show e = 0 ∧ most < x by omega), if_neg (by decide)] <;> rfl)
        | (rw [if_neg (show ¬ (e = 0 ∧ most < x) by omega), if_pos (show e = 0 by omega)] <;> rfl)
        | (rw [if_neg (show ¬ (e = 0 ∧ most < x) by omega), if_neg (show ¬ e = 0 by omega)] <;> rfl)
    · try simp only [decide_eq_true_eq, decide_eq_false_iff_not, beq_iff_eq, bne_iff_ne, beq_eq_false_iff_ne, bne_eq_false_iff_eq, Bool.not_eq_true', Bool.not_eq_false', Bool.not_eq_true, ne_eq, Decidable.not_not] at c23
      refine PW.skip ?_
      refine hK4 _ _ ?_
      refine PW.keep (T' := [(7, _), (8, _)]) ⟨rfl, rfl, trivial⟩ ?_
      refine PW.seqOps ?_
      refine OL.det trivial (Yields.pure rfl) ?_
      refine OL.det trivial (Yields.pure rfl) ?_
      refine OL.det trivial (Yields.pure rfl) ?_
      refine OL.det trivial (Yields.pure rfl) ?_
      refine OL.nil ?_
      refine PW.keep (T' := [(4, _), (5, _)]) ⟨rfl, rfl, trivial⟩ ?_
      refine PW.ret ?_
      change (Exit.ret = Exit.normal ∨ Exit.ret = Exit.ret) ∧ ∃ v, resV _ _ = some v ∧ _
      refine ⟨.inr rfl, _, rfl, ?_, ?_⟩
      · simp only [lookN, hnr]
        first
        | (exfalso; omega)
        | (rw [if_pos (by omega)] <;> rfl)
        | (rw [if_neg (by omega)] <;> rfl)
      · simp only [lookN, hnr]
        first
        | (exfalso; omega)
        | (rw [if_pos (show e = 0 ∧ most < x by omega), if_neg (by decide)] <;> rfl)
        | (rw [if_neg (show ¬ (e = 0 ∧ most < x) by omega), if_pos (show e = 0 by omega)] <;> rfl)
        | (rw [if_neg (show ¬ (e = 0 ∧ most < x) by omega), if_neg (show ¬ e = 0 by omega)] <;> rfl)

end Go.Proofs
