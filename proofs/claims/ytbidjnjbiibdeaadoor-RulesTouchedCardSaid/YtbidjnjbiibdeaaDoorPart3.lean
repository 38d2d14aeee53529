/- Walks and plain facts for the laws of this seat: what each function answers, for every input. -/
import Derived.Test.YtbidjnjbiibdeaaDoorPart2
import Derived.Test.YtbidjnjbiibdeaaDoorChecked
import Derived.Shelf.SlSortCmp.NoneTotal
import Derived.Shelf.SlicesG.Cmp
import Derived.Ground.SlsfProg
import Derived.Ground.SlgcProg
import Derived.WalkKit

set_option linter.unusedVariables false
set_option linter.unusedSimpArgs false
namespace Go.Proofs
open Go.SL Go.RowKit
set_option maxHeartbeats 1000000
def mayZ (z : Int) : Bool := (decide (97 ≤ z) && decide (z ≤ 122)) || (decide (65 ≤ z) && decide (z ≤ 90)) || (decide (48 ≤ z) && decide (z ≤ 57)) || decide (z = 95) || decide (z = 45) || decide (z = 46)
def mayB (b : UInt8) : Bool := mayZ b.toNat
def partP (s : ByteArray) : Bool := s.data.toList.all mayB && s.data.toList.any (fun b => b != 46)
theorem part_bad {s : ByteArray} {k : Nat} {b : UInt8} (h : s.data.toList[k]? = some b) (hb : mayB b = false) : partP s = false := by
  unfold partP
  have : s.data.toList.all mayB = false := by
    rw [List.all_eq_false]
    exact ⟨b, List.mem_of_getElem? h, by rw [hb]; simp⟩
  rw [this]; rfl
def dotN (l : List UInt8) : Nat := l.countP (fun b => b == 46)
theorem dot_cons (b : UInt8) (l : List UInt8) : dotN (b :: l) = dotN l + (if b == 46 then 1 else 0) := by unfold dotN; rw [List.countP_cons]
theorem dots_lt (l : List UInt8) : decide ((dotN l : Int) < (l.length : Int)) = l.any (fun b => b != 46) := by
  induction l with
  | nil => rfl
  | cons b l ih =>
    have hle : dotN l ≤ l.length := List.countP_le_length
    rw [List.any_cons, ← ih]
    have e := dot_cons b l
    have e2 : (b :: l).length = l.length + 1 := rfl
    by_cases hb : b = 46
    · subst hb
      simp only [beq_self_eq_true, if_true] at e
      rw [bne_self_eq_false, Bool.false_or, decide_eq_decide]; omega
    · have h1 : (b == 46) = false := by simpa using hb
      have h2 : (b != 46) = true := by simpa using hb
      rw [h1] at e
      simp only [Bool.false_eq_true, if_false] at e
      rw [h2, Bool.true_or, decide_eq_true_eq]
      omega
theorem part_all {s : ByteArray} {k : Nat} (hk : k = s.size) (h : (s.data.toList.take k).all mayB = true) : partP s = decide ((dotN (s.data.toList.take k) : Int) < (s.size : Int)) := by
  subst hk
  rw [List.take_of_length_le (by simp)] at h ⊢
  unfold partP
  rw [h, ← dots_lt]
  simp
theorem may_fc {w0 : World} {S : SS} {z : Int} : FC Tryd.prog w0 106 [.int .i32 z] S (fun v S' => v = .bool (mayZ z) ∧ S' = S) := by
  refine FC.of Tryd.known106 (by simp) ?_
  unfold Tryd.pc106
  simp only [argT]
  refine PW.seqOps ?_
  refine OL.det trivial (Yields.pure rfl) ?_
  refine OL.nil ?_
  refine PW.keep (T' := [(0, _)]) ⟨rfl, trivial⟩ ?_
  refine PW.seqOps ?_
  refine OL.det trivial (Yields.pure rfl) ?_
  refine OL.det trivial (Yields.pure rfl) ?_
  refine OL.bool trivial (Yields.pure rfl) (fun g5 => ?_) (fun g5 => ?_)
  · try simp only [decide_eq_true_eq, decide_eq_false_iff_not, beq_iff_eq, bne_iff_ne, beq_eq_false_iff_ne, bne_eq_false_iff_eq, Bool.not_eq_true', Bool.not_eq_false', Bool.not_eq_true, ne_eq, Decidable.not_not] at g5
    refine OL.det rfl (Yields.pure rfl) ?_
    refine OL.det rfl (Yields.pure rfl) ?_
    refine OL.det trivial (Yields.pure rfl) ?_
    refine OL.bool trivial (Yields.pure rfl) (fun g9 => ?_) (fun g9 => ?_)
    · try simp only [decide_eq_true_eq, decide_eq_false_iff_not, beq_iff_eq, bne_iff_ne, beq_eq_false_iff_ne, bne_eq_false_iff_eq, Bool.not_eq_true', Bool.not_eq_false', Bool.not_eq_true, ne_eq, Decidable.not_not] at g9
      refine OL.off rfl rfl ?_
      refine OL.off rfl rfl ?_
      refine OL.off rfl rfl ?_
      refine OL.off rfl rfl ?_
      refine OL.off rfl rfl ?_
      refine OL.off rfl rfl ?_
      refine OL.det trivial (Yields.pure rfl) ?_
      refine OL.det trivial (Yields.pure rfl) ?_
      refine OL.off rfl rfl ?_
      refine OL.off rfl rfl ?_
      refine OL.off rfl rfl ?_
      refine OL.off rfl rfl ?_
      refine OL.off rfl rfl ?_
      refine OL.off rfl rfl ?_
      refine OL.det trivial (Yields.pure rfl) ?_
      refine OL.det trivial (Yields.pure rfl) ?_
      refine OL.off rfl rfl ?_
      refine OL.off rfl rfl ?_
      refine OL.det trivial (Yields.pure rfl) ?_
      refine OL.det trivial (Yields.pure rfl) ?_
      refine OL.off rfl rfl ?_
      refine OL.off rfl rfl ?_
      refine OL.det trivial (Yields.pure rfl) ?_
      refine OL.det trivial (Yields.pure rfl) ?_
      refine OL.off rfl rfl ?_
      refine OL.off rfl rfl ?_
      refine OL.det trivial (Yields.pure rfl) ?_
      refine OL.det trivial (Yields.pure rfl) ?_
      refine OL.nil ?_
      refine PW.keep (T' := [(2, _)]) ⟨rfl, trivial⟩ ?_
      refine PW.ret ?_
      change (Exit.ret = Exit.normal ∨ Exit.ret = Exit.ret) ∧ ∃ v, resV _ _ = some v ∧ _
      refine ⟨.inr rfl, _, rfl, congrArg Value.bool ?_, rfl⟩
      unfold mayZ
      rw [Bool.eq_iff_iff]
      simp only [Bool.or_eq_true, Bool.and_eq_true, decide_eq_true_eq, beq_iff_eq, Bool.false_eq_true, true_iff, false_iff]
      omega
    · try simp only [decide_eq_true_eq, decide_eq_false_iff_not, beq_iff_eq, bne_iff_ne, beq_eq_false_iff_ne, bne_eq_false_iff_eq, Bool.not_eq_true', Bool.not_eq_false', Bool.not_eq_true, ne_eq, Decidable.not_not] at g9
      refine OL.det rfl (Yields.pure rfl) ?_
      refine OL.det rfl (Yields.pure rfl) ?_
      refine OL.bool rfl (Yields.pure rfl) (fun g12 => ?_) (fun g12 => ?_)
      · try simp only [decide_eq_true_eq, decide_eq_false_iff_not, beq_iff_eq, bne_iff_ne, beq_eq_false_iff_ne, bne_eq_false_iff_eq, Bool.not_eq_true', Bool.not_eq_false', Bool.not_eq_true, ne_eq, Decidable.not_not] at g12
        refine OL.det rfl (Yields.pure rfl) ?_
        refine OL.det rfl (Yields.pure rfl) ?_
        refine OL.det rfl (Yields.pure rfl) ?_
        refine OL.det trivial (Yields.pure rfl) ?_
        refine OL.bool trivial (Yields.pure rfl) (fun g17 => ?_) (fun g17 => ?_)
        · try simp only [decide_eq_true_eq, decide_eq_false_iff_not, beq_iff_eq, bne_iff_ne, beq_eq_false_iff_ne, bne_eq_false_iff_eq, Bool.not_eq_true', Bool.not_eq_false', Bool.not_eq_true, ne_eq, Decidable.not_not] at g17
          refine OL.off rfl rfl ?_
          refine OL.off rfl rfl ?_
          refine OL.off rfl rfl ?_
          refine OL.off rfl rfl ?_
          refine OL.off rfl rfl ?_
          refine OL.off rfl rfl ?_
          refine OL.det trivial (Yields.pure rfl) ?_
          refine OL.det trivial (Yields.pure rfl) ?_
          refine OL.off rfl rfl ?_
          refine OL.off rfl rfl ?_
          refine OL.det trivial (Yields.pure rfl) ?_
          refine OL.det trivial (Yields.pure rfl) ?_
          refine OL.off rfl rfl ?_
          refine OL.off rfl rfl ?_
          refine OL.det trivial (Yields.pure rfl) ?_
          refine OL.det trivial (Yields.pure rfl) ?_
          refine OL.off rfl rfl ?_
          refine OL.off rfl rfl ?_
          refine OL.det trivial (Yields.pure rfl) ?_
          refine OL.det trivial (Yields.pure rfl) ?_
          refine OL.nil ?_
          refine PW.keep (T' := [(2, _)]) ⟨rfl, trivial⟩ ?_
          refine PW.ret ?_
          change (Exit.ret = Exit.normal ∨ Exit.ret = Exit.ret) ∧ ∃ v, resV _ _ = some v ∧ _
          refine ⟨.inr rfl, _, rfl, congrArg Value.bool ?_, rfl⟩
          unfold mayZ
          rw [Bool.eq_iff_iff]
          simp only [Bool.or_eq_true, Bool.and_eq_true, decide_eq_true_eq, beq_iff_eq, Bool.false_eq_true, true_iff, false_iff]
          omega
        · try simp only [decide_eq_true_eq, decide_eq_false_iff_not, beq_iff_eq, bne_iff_ne, beq_eq_false_iff_ne, bne_eq_false_iff_eq, Bool.not_eq_true', Bool.not_eq_false', Bool.not_eq_true, ne_eq, Decidable.not_not] at g17
          refine OL.det rfl (Yields.pure rfl) ?_
          refine OL.det rfl (Yields.pure rfl) ?_
          refine OL.bool rfl (Yields.pure rfl) (fun g20 => ?_) (fun g20 => ?_)
          · try simp only [decide_eq_true_eq, decide_eq_false_iff_not, beq_iff_eq, bne_iff_ne, beq_eq_false_iff_ne, bne_eq_false_iff_eq, Bool.not_eq_true', Bool.not_eq_false', Bool.not_eq_true, ne_eq, Decidable.not_not] at g20
            refine OL.det rfl (Yields.pure rfl) ?_
            refine OL.det rfl (Yields.pure rfl) ?_
            refine OL.det rfl (Yields.pure rfl) ?_
            refine OL.det trivial (Yields.pure rfl) ?_
            refine OL.bool trivial (Yields.pure rfl) (fun g25 => ?_) (fun g25 => ?_)
            · try simp only [decide_eq_true_eq, decide_eq_false_iff_not, beq_iff_eq, bne_iff_ne, beq_eq_false_iff_ne, bne_eq_false_iff_eq, Bool.not_eq_true', Bool.not_eq_false', Bool.not_eq_true, ne_eq, Decidable.not_not] at g25
              refine OL.off rfl rfl ?_
              refine OL.off rfl rfl ?_
              refine OL.det trivial (Yields.pure rfl) ?_
              refine OL.det trivial (Yields.pure rfl) ?_
              refine OL.off rfl rfl ?_
              refine OL.off rfl rfl ?_
              refine OL.det trivial (Yields.pure rfl) ?_
              refine OL.det trivial (Yields.pure rfl) ?_
              refine OL.off rfl rfl ?_
              refine OL.off rfl rfl ?_
              refine OL.det trivial (Yields.pure rfl) ?_
              refine OL.det trivial (Yields.pure rfl) ?_
              refine OL.nil ?_
              refine PW.keep (T' := [(2, _)]) ⟨rfl, trivial⟩ ?_
              refine PW.ret ?_
              change (Exit.ret = Exit.normal ∨ Exit.ret = Exit.ret) ∧ ∃ v, resV _ _ = some v ∧ _
              refine ⟨.inr rfl, _, rfl, congrArg Value.bool ?_, rfl⟩
              unfold mayZ
              rw [Bool.eq_iff_iff]
              simp only [Bool.or_eq_true, Bool.and_eq_true, decide_eq_true_eq, beq_iff_eq, Bool.false_eq_true, true_iff, false_iff]
              omega
            · try simp only [decide_eq_true_eq, decide_eq_false_iff_not, beq_iff_eq, bne_iff_ne, beq_eq_false_iff_ne, bne_eq_false_iff_eq, Bool.not_eq_true', Bool.not_eq_false', Bool.not_eq_true, ne_eq, Decidable.not_not] at g25
              refine OL.det rfl (Yields.pure rfl) ?_
              refine OL.det rfl (Yields.pure rfl) ?_
              refine OL.det trivial (Yields.pure rfl) ?_
              refine OL.bool trivial (Yields.pure rfl) (fun g29 => ?_) (fun g29 => ?_)
              · try simp only [decide_eq_true_eq, decide_eq_false_iff_not, beq_iff_eq, bne_iff_ne, beq_eq_false_iff_ne, bne_eq_false_iff_eq, Bool.not_eq_true', Bool.not_eq_false', Bool.not_eq_true, ne_eq, Decidable.not_not] at g29
                refine OL.off rfl rfl ?_
                refine OL.off rfl rfl ?_
                refine OL.det trivial (Yields.pure rfl) ?_
                refine OL.det trivial (Yields.pure rfl) ?_
                refine OL.off rfl rfl ?_
                refine OL.off rfl rfl ?_
                refine OL.det trivial (Yields.pure rfl) ?_
                refine OL.det trivial (Yields.pure rfl) ?_
                refine OL.nil ?_
                refine PW.keep (T' := [(2, _)]) ⟨rfl, trivial⟩ ?_
                refine PW.ret ?_
                change (Exit.ret = Exit.normal ∨ Exit.ret = Exit.ret) ∧ ∃ v, resV _ _ = some v ∧ _
                refine ⟨.inr rfl, _, rfl, congrArg Value.bool ?_, rfl⟩
                unfold mayZ
                rw [Bool.eq_iff_iff]
                simp only [Bool.or_eq_true, Bool.and_eq_true, decide_eq_true_eq, beq_iff_eq, Bool.false_eq_true, true_iff, false_iff]
                omega
              · try simp only [decide_eq_true_eq, decide_eq_false_iff_not, beq_iff_eq, bne_iff_ne, beq_eq_false_iff_ne, bne_eq_false_iff_eq, Bool.not_eq_true', Bool.not_eq_false', Bool.not_eq_true, ne_eq, Decidable.not_not] at g29
                refine OL.det rfl (Yields.pure rfl) ?_
                refine OL.det rfl (Yields.pure rfl) ?_
                refine OL.det trivial (Yields.pure rfl) ?_
                refine OL.bool trivial (Yields.pure rfl) (fun g33 => ?_) (fun g33 => ?_)
                · try simp only [decide_eq_true_eq, decide_eq_false_iff_not, beq_iff_eq, bne_iff_ne, beq_eq_false_iff_ne, bne_eq_false_iff_eq, Bool.not_eq_true', Bool.not_eq_false', Bool.not_eq_true, ne_eq, Decidable.not_not] at g33
                  refine OL.off rfl rfl ?_
                  refine OL.off rfl rfl ?_
                  refine OL.det trivial (Yields.pure rfl) ?_
                  refine OL.det trivial (Yields.pure rfl) ?_
                  refine OL.nil ?_
                  refine PW.keep (T' := [(2, _)]) ⟨rfl, trivial⟩ ?_
                  refine PW.ret ?_
                  change (Exit.ret = Exit.normal ∨ Exit.ret = Exit.ret) ∧ ∃ v, resV _ _ = some v ∧ _
                  refine ⟨.inr rfl, _, rfl, congrArg Value.bool ?_, rfl⟩
                  unfold mayZ
                  rw [Bool.eq_iff_iff]
                  simp only [Bool.or_eq_true, Bool.and_eq_true, decide_eq_true_eq, beq_iff_eq, Bool.false_eq_true, true_iff, false_iff]
                  omega
                · try simp only [decide_eq_true_eq, decide_eq_false_iff_not, beq_iff_eq, bne_iff_ne, beq_eq_false_iff_ne, bne_eq_false_iff_eq, Bool.not_eq_true', Bool.not_eq_false', Bool.not_eq_true, ne_eq, Decidable.not_not] at g33
                  refine OL.det rfl (Yields.pure rfl) ?_
                  refine OL.det rfl (Yields.pure rfl) ?_
                  refine OL.det trivial (Yields.pure rfl) ?_
                  refine OL.det trivial (Yields.pure rfl) ?_
                  refine OL.nil ?_
                  refine PW.keep (T' := [(2, _)]) ⟨rfl, trivial⟩ ?_
                  refine PW.ret ?_
                  change (Exit.ret = Exit.normal ∨ Exit.ret = Exit.ret) ∧ ∃ v, resV _ _ = some v ∧ _
                  refine ⟨.inr rfl, _, rfl, congrArg Value.bool ?_, rfl⟩
                  unfold mayZ
                  rw [Bool.eq_iff_iff]
                  simp only [Bool.or_eq_true, Bool.and_eq_true, decide_eq_true_eq, beq_iff_eq, Bool.false_eq_true, true_iff, false_iff]
                  omega
          · try simp only [decide_eq_true_eq, decide_eq_false_iff_not, beq_iff_eq, bne_iff_ne, beq_eq_false_iff_ne, bne_eq_false_iff_eq, Bool.not_eq_true', Bool.not_eq_false', Bool.not_eq_true, ne_eq, Decidable.not_not] at g20
            refine OL.off rfl rfl ?_
            refine OL.off rfl rfl ?_
            refine OL.det rfl (Yields.pure rfl) ?_
            refine OL.det trivial (Yields.pure rfl) ?_
            refine OL.det trivial (Yields.pure rfl) ?_
            refine OL.det rfl (Yields.pure rfl) ?_
            refine OL.det rfl (Yields.pure rfl) ?_
            refine OL.det trivial (Yields.pure rfl) ?_
            refine OL.bool trivial (Yields.pure rfl) (fun g29 => ?_) (fun g29 => ?_)
            · try simp only [decide_eq_true_eq, decide_eq_false_iff_not, beq_iff_eq, bne_iff_ne, beq_eq_false_iff_ne, bne_eq_false_iff_eq, Bool.not_eq_true', Bool.not_eq_false', Bool.not_eq_true, ne_eq, Decidable.not_not] at g29
              refine OL.off rfl rfl ?_
              refine OL.off rfl rfl ?_
              refine OL.det trivial (Yields.pure rfl) ?_
              refine OL.det trivial (Yields.pure rfl) ?_
              refine OL.off rfl rfl ?_
              refine OL.off rfl rfl ?_
              refine OL.det trivial (Yields.pure rfl) ?_
              refine OL.det trivial (Yields.pure rfl) ?_
              refine OL.nil ?_
              refine PW.keep (T' := [(2, _)]) ⟨rfl, trivial⟩ ?_
              refine PW.ret ?_
              change (Exit.ret = Exit.normal ∨ Exit.ret = Exit.ret) ∧ ∃ v, resV _ _ = some v ∧ _
              refine ⟨.inr rfl, _, rfl, congrArg Value.bool ?_, rfl⟩
              unfold mayZ
              rw [Bool.eq_iff_iff]
              simp only [Bool.or_eq_true, Bool.and_eq_true, decide_eq_true_eq, beq_iff_eq, Bool.false_eq_true, true_iff, false_iff]
              omega
            · try simp only [decide_eq_true_eq, decide_eq_false_iff_not, beq_iff_eq, bne_iff_ne, beq_eq_false_iff_ne, bne_eq_false_iff_eq, Bool.not_eq_true', Bool.not_eq_false', Bool.not_eq_true, ne_eq, Decidable.not_not] at g29
              refine OL.det rfl (Yields.pure rfl) ?_
              refine OL.det rfl (Yields.pure rfl) ?_
              refine OL.det trivial (Yields.pure rfl) ?_
              refine OL.bool trivial (Yields.pure rfl) (fun g33 => ?_) (fun g33 => ?_)
              · try simp only [decide_eq_true_eq, decide_eq_false_iff_not, beq_iff_eq, bne_iff_ne, beq_eq_false_iff_ne, bne_eq_false_iff_eq, Bool.not_eq_true', Bool.not_eq_false', Bool.not_eq_true, ne_eq, Decidable.not_not] at g33
                refine OL.off rfl rfl ?_
                refine OL.off rfl rfl ?_
                refine OL.det trivial (Yields.pure rfl) ?_
                refine OL.det trivial (Yields.pure rfl) ?_
                refine OL.nil ?_
                refine PW.keep (T' := [(2, _)]) ⟨rfl, trivial⟩ ?_
                refine PW.ret ?_
                change (Exit.ret = Exit.normal ∨ Exit.ret = Exit.ret) ∧ ∃ v, resV _ _ = some v ∧ _
                refine ⟨.inr rfl, _, rfl, congrArg Value.bool ?_, rfl⟩
                unfold mayZ
                rw [Bool.eq_iff_iff]
                simp only [Bool.or_eq_true, Bool.and_eq_true, decide_eq_true_eq, beq_iff_eq, Bool.false_eq_true, true_iff, false_iff]
                omega
              · try simp only [decide_eq_true_eq, decide_eq_false_iff_not, beq_iff_eq, bne_iff_ne, beq_eq_false_iff_ne, bne_eq_false_iff_eq, Bool.not_eq_true', Bool.not_eq_false', Bool.not_eq_true, ne_eq, Decidable.not_not] at g33
                refine OL.det rfl (Yields.pure rfl) ?_
                refine OL.det rfl (Yields.pure rfl) ?_
                refine OL.det trivial (Yields.pure rfl) ?_
                refine OL.det trivial (Yields.pure rfl) ?_
                refine OL.nil ?_
                refine PW.keep (T' := [(2, _)]) ⟨rfl, trivial⟩ ?_
                refine PW.ret ?_
                change (Exit.ret = Exit.normal ∨ Exit.ret = Exit.ret) ∧ ∃ v, resV _ _ = some v ∧ _
                refine ⟨.inr rfl, _, rfl, congrArg Value.bool ?_, rfl⟩
                unfold mayZ
                rw [Bool.eq_iff_iff]
                simp only [Bool.or_eq_true, Bool.and_eq_true, decide_eq_true_eq, beq_iff_eq, Bool.false_eq_true, true_iff, false_iff]
                omega
      · try simp only [decide_eq_true_eq, decide_eq_false_iff_not, beq_iff_eq, bne_iff_ne, beq_eq_false_iff_ne, bne_eq_false_iff_eq, Bool.not_eq_true', Bool.not_eq_false', Bool.not_eq_true, ne_eq, Decidable.not_not] at g12
        refine OL.off rfl rfl ?_
        refine OL.off rfl rfl ?_
        refine OL.det rfl (Yields.pure rfl) ?_
        refine OL.det trivial (Yields.pure rfl) ?_
        refine OL.det trivial (Yields.pure rfl) ?_
        refine OL.det rfl (Yields.pure rfl) ?_
        refine OL.det rfl (Yields.pure rfl) ?_
        refine OL.bool rfl (Yields.pure rfl) (fun g20 => ?_) (fun g20 => ?_)
        · try simp only [decide_eq_true_eq, decide_eq_false_iff_not, beq_iff_eq, bne_iff_ne, beq_eq_false_iff_ne, bne_eq_false_iff_eq, Bool.not_eq_true', Bool.not_eq_false', Bool.not_eq_true, ne_eq, Decidable.not_not] at g20
          refine OL.det rfl (Yields.pure rfl) ?_
          refine OL.det rfl (Yields.pure rfl) ?_
          refine OL.det rfl (Yields.pure rfl) ?_
          refine OL.det trivial (Yields.pure rfl) ?_
          refine OL.bool trivial (Yields.pure rfl) (fun g25 => ?_) (fun g25 => ?_)
          · try simp only [decide_eq_true_eq, decide_eq_false_iff_not, beq_iff_eq, bne_iff_ne, beq_eq_false_iff_ne, bne_eq_false_iff_eq, Bool.not_eq_true', Bool.not_eq_false', Bool.not_eq_true, ne_eq, Decidable.not_not] at g25
            refine OL.off rfl rfl ?_
            refine OL.off rfl rfl ?_
            refine OL.det trivial (Yields.pure rfl) ?_
            refine OL.det trivial (Yields.pure rfl) ?_
            refine OL.off rfl rfl ?_
            refine OL.off rfl rfl ?_
            refine OL.det trivial (Yields.pure rfl) ?_
            refine OL.det trivial (Yields.pure rfl) ?_
            refine OL.off rfl rfl ?_
            refine OL.off rfl rfl ?_
            refine OL.det trivial (Yields.pure rfl) ?_
            refine OL.det trivial (Yields.pure rfl) ?_
            refine OL.nil ?_
            refine PW.keep (T' := [(2, _)]) ⟨rfl, trivial⟩ ?_
            refine PW.ret ?_
            change (Exit.ret = Exit.normal ∨ Exit.ret = Exit.ret) ∧ ∃ v, resV _ _ = some v ∧ _
            refine ⟨.inr rfl, _, rfl, congrArg Value.bool ?_, rfl⟩
            unfold mayZ
            rw [Bool.eq_iff_iff]
            simp only [Bool.or_eq_true, Bool.and_eq_true, decide_eq_true_eq, beq_iff_eq, Bool.false_eq_true, true_iff, false_iff]
            omega
          · try simp only [decide_eq_true_eq, decide_eq_false_iff_not, beq_iff_eq, bne_iff_ne, beq_eq_false_iff_ne, bne_eq_false_iff_eq, Bool.not_eq_true', Bool.not_eq_false', Bool.not_eq_true, ne_eq, Decidable.not_not] at g25
            refine OL.det rfl (Yields.pure rfl) ?_
            refine OL.det rfl (Yields.pure rfl) ?_
            refine OL.det trivial (Yields.pure rfl) ?_
            refine OL.bool trivial (Yields.pure rfl) (fun g29 => ?_) (fun g29 => ?_)
            · try simp only [decide_eq_true_eq, decide_eq_false_iff_not, beq_iff_eq, bne_iff_ne, beq_eq_false_iff_ne, bne_eq_false_iff_eq, Bool.not_eq_true', Bool.not_eq_false', Bool.not_eq_true, ne_eq, Decidable.not_not] at g29
              refine OL.off rfl rfl ?_
              refine OL.off rfl rfl ?_
              refine OL.det trivial (Yields.pure rfl) ?_
              refine OL.det trivial (Yields.pure rfl) ?_
              refine OL.off rfl rfl ?_
              refine OL.off rfl rfl ?_
              refine OL.det trivial (Yields.pure rfl) ?_
              refine OL.det trivial (Yields.pure rfl) ?_
              refine OL.nil ?_
              refine PW.keep (T' := [(2, _)]) ⟨rfl, trivial⟩ ?_
              refine PW.ret ?_
              change (Exit.ret = Exit.normal ∨ Exit.ret = Exit.ret) ∧ ∃ v, resV _ _ = some v ∧ _
              refine ⟨.inr rfl, _, rfl, congrArg Value.bool ?_, rfl⟩
              unfold mayZ
              rw [Bool.eq_iff_iff]
              simp only [Bool.or_eq_true, Bool.and_eq_true, decide_eq_true_eq, beq_iff_eq, Bool.false_eq_true, true_iff, false_iff]
              omega
            · try simp only [decide_eq_true_eq, decide_eq_false_iff_not, beq_iff_eq, bne_iff_ne, beq_eq_false_iff_ne, bne_eq_false_iff_eq, Bool.not_eq_true', Bool.not_eq_false', Bool.not_eq_true, ne_eq, Decidable.not_not] at g29
              refine OL.det rfl (Yields.pure rfl) ?_
              refine OL.det rfl (Yields.pure rfl) ?_
              refine OL.det trivial (Yields.pure rfl) ?_
              refine OL.bool trivial (Yields.pure rfl) (fun g33 => ?_) (fun g33 => ?_)
              · try simp only [decide_eq_true_eq, decide_eq_false_iff_not, beq_iff_eq, bne_iff_ne, beq_eq_false_iff_ne, bne_eq_false_iff_eq, Bool.not_eq_true', Bool.not_eq_false', Bool.not_eq_true, ne_eq, Decidable.not_not] at g33
                refine OL.off rfl rfl ?_
                refine OL.off rfl rfl ?_
                refine OL.det trivial (Yields.pure rfl) ?_
                refine OL.det trivial (Yields.pure rfl) ?_
                refine OL.nil ?_
                refine PW.keep (T' := [(2, _)]) ⟨rfl, trivial⟩ ?_
                refine PW.ret ?_
                change (Exit.ret = Exit.normal ∨ Exit.ret = Exit.ret) ∧ ∃ v, resV _ _ = some v ∧ _
                refine ⟨.inr rfl, _, rfl, congrArg Value.bool ?_, rfl⟩
                unfold mayZ
                rw [Bool.eq_iff_iff]
                simp only [Bool.or_eq_true, Bool.and_eq_true, decide_eq_true_eq, beq_iff_eq, Bool.false_eq_true, true_iff, false_iff]
                omega
              · try simp only [decide_eq_true_eq, decide_eq_false_iff_not, beq_iff_eq, bne_iff_ne, beq_eq_false_iff_ne, bne_eq_false_iff_eq, Bool.not_eq_true', Bool.not_eq_false', Bool.not_eq_true, ne_eq, Decidable.not_not] at g33
                refine OL.det rfl (Yields.pure rfl) ?_
                refine OL.det rfl (Yields.pure rfl) ?_
                refine OL.det trivial (Yields.pure rfl) ?_
                refine OL.det trivial (Yields.pure rfl) ?_
                refine OL.nil ?_
                refine PW.keep (T' := [(2, _)]) ⟨rfl, trivial⟩ ?_
                refine PW.ret ?_
                change (Exit.ret = Exit.normal ∨ Exit.ret = Exit.ret) ∧ ∃ v, resV _ _ = some v ∧ _
                refine ⟨.inr rfl, _, rfl, congrArg Value.bool ?_, rfl⟩
                unfold mayZ
                rw [Bool.eq_iff_iff]
                simp only [Bool.or_eq_true, Bool.and_eq_true, decide_eq_true_eq, beq_iff_eq, Bool.false_eq_true, true_iff, false_iff]
                omega
        · try simp only [decide_eq_true_eq, decide_eq_false_iff_not, beq_iff_eq, bne_iff_ne, beq_eq_false_iff_ne, bne_eq_false_iff_eq, Bool.not_eq_true', Bool.not_eq_false', Bool.not_eq_true, ne_eq, Decidable.not_not] at g20
          refine OL.off rfl rfl ?_
          refine OL.off rfl rfl ?_
          refine OL.det rfl (Yields.pure rfl) ?_
          refine OL.det trivial (Yields.pure rfl) ?_
          refine OL.det trivial (Yields.pure rfl) ?_
          refine OL.det rfl (Yields.pure rfl) ?_
          refine OL.det rfl (Yields.pure rfl) ?_
          refine OL.det trivial (Yields.pure rfl) ?_
          refine OL.bool trivial (Yields.pure rfl) (fun g29 => ?_) (fun g29 => ?_)
          · try simp only [decide_eq_true_eq, decide_eq_false_iff_not, beq_iff_eq, bne_iff_ne, beq_eq_false_iff_ne, bne_eq_false_iff_eq, Bool.not_eq_true', Bool.not_eq_false', Bool.not_eq_true, ne_eq, Decidable.not_not] at g29
            refine OL.off rfl rfl ?_
            refine OL.off rfl rfl ?_
            refine OL.det trivial (Yields.pure rfl) ?_
            refine OL.det trivial (Yields.pure rfl) ?_
            refine OL.off rfl rfl ?_
            refine OL.off rfl rfl ?_
            refine OL.det trivial (Yields.pure rfl) ?_
            refine OL.det trivial (Yields.pure rfl) ?_
            refine OL.nil ?_
            refine PW.keep (T' := [(2, _)]) ⟨rfl, trivial⟩ ?_
            refine PW.ret ?_
            change (Exit.ret = Exit.normal ∨ Exit.ret = Exit.ret) ∧ ∃ v, resV _ _ = some v ∧ _
            refine ⟨.inr rfl, _, rfl, congrArg Value.bool ?_, rfl⟩
            unfold mayZ
            rw [Bool.eq_iff_iff]
            simp only [Bool.or_eq_true, Bool.and_eq_true, decide_eq_true_eq, beq_iff_eq, Bool.false_eq_true, true_iff, false_iff]
            omega
          · try simp only [decide_eq_true_eq, decide_eq_false_iff_not, beq_iff_eq, bne_iff_ne, beq_eq_false_iff_ne, bne_eq_false_iff_eq, Bool.not_eq_true', Bool.not_eq_false', Bool.not_eq_true, ne_eq, Decidable.not_not] at g29
            refine OL.det rfl (Yields.pure rfl) ?_
            refine OL.det rfl (Yields.pure rfl) ?_
            refine OL.det trivial (Yields.pure rfl) ?_
            refine OL.bool trivial (Yields.pure rfl) (fun g33 => ?_) (fun g33 => ?_)
            · try simp only [decide_eq_true_eq, decide_eq_false_iff_not, beq_iff_eq, bne_iff_ne, beq_eq_false_iff_ne, bne_eq_false_iff_eq, Bool.not_eq_true', Bool.not_eq_false', Bool.not_eq_true, ne_eq, Decidable.not_not] at g33
              refine OL.off rfl rfl ?_
              refine OL.off rfl rfl ?_
              refine OL.det trivial (Yields.pure rfl) ?_
              refine OL.det trivial (Yields.pure rfl) ?_
              refine OL.nil ?_
              refine PW.keep (T' := [(2, _)]) ⟨rfl, trivial⟩ ?_
              refine PW.ret ?_
              change (Exit.ret = Exit.normal ∨ Exit.ret = Exit.ret) ∧ ∃ v, resV _ _ = some v ∧ _
              refine ⟨.inr rfl, _, rfl, congrArg Value.bool ?_, rfl⟩
              unfold mayZ
              rw [Bool.eq_iff_iff]
              simp only [Bool.or_eq_true, Bool.and_eq_true, decide_eq_true_eq, beq_iff_eq, Bool.false_eq_true, true_iff, false_iff]
              omega
            · try simp only [decide_eq_true_eq, decide_eq_false_iff_not, beq_iff_eq, bne_iff_ne, beq_eq_false_iff_ne, bne_eq_false_iff_eq, Bool.not_eq_true', Bool.not_eq_false', Bool.not_eq_true, ne_eq, Decidable.not_not] at g33
              refine OL.det rfl (Yields.pure rfl) ?_
              refine OL.det rfl (Yields.pure rfl) ?_
              refine OL.det trivial (Yields.pure rfl) ?_
              refine OL.det trivial (Yields.pure rfl) ?_
              refine OL.nil ?_
              refine PW.keep (T' := [(2, _)]) ⟨rfl, trivial⟩ ?_
              refine PW.ret ?_
              change (Exit.ret = Exit.normal ∨ Exit.ret = Exit.ret) ∧ ∃ v, resV _ _ = some v ∧ _
              refine ⟨.inr rfl, _, rfl, congrArg Value.bool ?_, rfl⟩
              unfold mayZ
              rw [Bool.eq_iff_iff]
              simp only [Bool.or_eq_true, Bool.and_eq_true, decide_eq_true_eq, beq_iff_eq, Bool.false_eq_true, true_iff, false_iff]
              omega
  · try simp only [decide_eq_true_eq, decide_eq_false_iff_not, beq_iff_eq, bne_iff_ne, beq_eq_false_iff_ne, bne_eq_false_iff_eq, Bool.not_eq_true', Bool.not_eq_false', Bool.not_eq_true, ne_eq, Decidable.not_not] at g5
    refine OL.off rfl rfl ?_
    refine OL.off rfl rfl ?_
    refine OL.det trivial (Yields.pure rfl) ?_
    refine OL.det trivial (Yields.pure rfl) ?_
    refine OL.det rfl (Yields.pure rfl) ?_
    refine OL.det rfl (Yields.pure rfl) ?_
    refine OL.bool rfl (Yields.pure rfl) (fun g12 => ?_) (fun g12 => ?_)
    · try simp only [decide_eq_true_eq, decide_eq_false_iff_not, beq_iff_eq, bne_iff_ne, beq_eq_false_iff_ne, bne_eq_false_iff_eq, Bool.not_eq_true', Bool.not_eq_false', Bool.not_eq_true, ne_eq, Decidable.not_not] at g12
      refine OL.det rfl (Yields.pure rfl) ?_
      refine OL.det rfl (Yields.pure rfl) ?_
      refine OL.det rfl (Yields.pure rfl) ?_
      refine OL.det trivial (Yields.pure rfl) ?_
      refine OL.bool trivial (Yields.pure rfl) (fun g17 => ?_) (fun g17 => ?_)
      · try simp only [decide_eq_true_eq, decide_eq_false_iff_not, beq_iff_eq, bne_iff_ne, beq_eq_false_iff_ne, bne_eq_false_iff_eq, Bool.not_eq_true', Bool.not_eq_false', Bool.not_eq_true, ne_eq, Decidable.not_not] at g17
        refine OL.off rfl rfl ?_
        refine OL.off rfl rfl ?_
        refine OL.off rfl rfl ?_
        refine OL.off rfl rfl ?_
        refine OL.off rfl rfl ?_
        refine OL.off rfl rfl ?_
        refine OL.det trivial (Yields.pure rfl) ?_
        refine OL.det trivial (Yields.pure rfl) ?_
        refine OL.off rfl rfl ?_
        refine OL.off rfl rfl ?_
        refine OL.det trivial (Yields.pure rfl) ?_
        refine OL.det trivial (Yields.pure rfl) ?_
        refine OL.off rfl rfl ?_
        refine OL.off rfl rfl ?_
        refine OL.det trivial (Yields.pure rfl) ?_
        refine OL.det trivial (Yields.pure rfl) ?_
        refine OL.off rfl rfl ?_
        refine OL.off rfl rfl ?_
        refine OL.det trivial (Yields.pure rfl) ?_
        refine OL.det trivial (Yields.pure rfl) ?_
        refine OL.nil ?_
        refine PW.keep (T' := [(2, _)]) ⟨rfl, trivial⟩ ?_
        refine PW.ret ?_
        change (Exit.ret = Exit.normal ∨ Exit.ret = Exit.ret) ∧ ∃ v, resV _ _ = some v ∧ _
        refine ⟨.inr rfl, _, rfl, congrArg Value.bool ?_, rfl⟩
        unfold mayZ
        rw [Bool.eq_iff_iff]
        simp only [Bool.or_eq_true, Bool.and_eq_true, decide_eq_true_eq, beq_iff_eq, Bool.false_eq_true, true_iff, false_iff]
        omega
      · try simp only [decide_eq_true_eq, decide_eq_false_iff_not, beq_iff_eq, bne_iff_ne, beq_eq_false_iff_ne, bne_eq_false_iff_eq, Bool.not_eq_true', Bool.not_eq_false', Bool.not_eq_true, ne_eq, Decidable.not_not] at g17
        refine OL.det rfl (Yields.pure rfl) ?_
        refine OL.det rfl (Yields.pure rfl) ?_
        refine OL.bool rfl (Yields.pure rfl) (fun g20 => ?_) (fun g20 => ?_)
        · try simp only [decide_eq_true_eq, decide_eq_false_iff_not, beq_iff_eq, bne_iff_ne, beq_eq_false_iff_ne, bne_eq_false_iff_eq, Bool.not_eq_true', Bool.not_eq_false', Bool.not_eq_true, ne_eq, Decidable.not_not] at g20
          refine OL.det rfl (Yields.pure rfl) ?_
          refine OL.det rfl (Yields.pure rfl) ?_
          refine OL.det rfl (Yields.pure rfl) ?_
          refine OL.det trivial (Yields.pure rfl) ?_
          refine OL.bool trivial (Yields.pure rfl) (fun g25 => ?_) (fun g25 => ?_)
          · try simp only [decide_eq_true_eq, decide_eq_false_iff_not, beq_iff_eq, bne_iff_ne, beq_eq_false_iff_ne, bne_eq_false_iff_eq, Bool.not_eq_true', Bool.not_eq_false', Bool.not_eq_true, ne_eq, Decidable.not_not] at g25
            refine OL.off rfl rfl ?_
            refine OL.off rfl rfl ?_
            refine OL.det trivial (Yields.pure rfl) ?_
            refine OL.det trivial (Yields.pure rfl) ?_
            refine OL.off rfl rfl ?_
            refine OL.off rfl rfl ?_
            refine OL.det trivial (Yields.pure rfl) ?_
            refine OL.det trivial (Yields.pure rfl) ?_
            refine OL.off rfl rfl ?_
            refine OL.off rfl rfl ?_
            refine OL.det trivial (Yields.pure rfl) ?_
            refine OL.det trivial (Yields.pure rfl) ?_
            refine OL.nil ?_
            refine PW.keep (T' := [(2, _)]) ⟨rfl, trivial⟩ ?_
            refine PW.ret ?_
            change (Exit.ret = Exit.normal ∨ Exit.ret = Exit.ret) ∧ ∃ v, resV _ _ = some v ∧ _
            refine ⟨.inr rfl, _, rfl, congrArg Value.bool ?_, rfl⟩
            unfold mayZ
            rw [Bool.eq_iff_iff]
            simp only [Bool.or_eq_true, Bool.and_eq_true, decide_eq_true_eq, beq_iff_eq, Bool.false_eq_true, true_iff, false_iff]
            omega
          · try simp only [decide_eq_true_eq, decide_eq_false_iff_not, beq_iff_eq, bne_iff_ne, beq_eq_false_iff_ne, bne_eq_false_iff_eq, Bool.not_eq_true', Bool.not_eq_false', Bool.not_eq_true, ne_eq, Decidable.not_not] at g25
            refine OL.det rfl (Yields.pure rfl) ?_
            refine OL.det rfl (Yields.pure rfl) ?_
            refine OL.det trivial (Yields.pure rfl) ?_
            refine OL.bool trivial (Yields.pure rfl) (fun g29 => ?_) (fun g29 => ?_)
            · try simp only [decide_eq_true_eq, decide_eq_false_iff_not, beq_iff_eq, bne_iff_ne, beq_eq_false_iff_ne, bne_eq_false_iff_eq, Bool.not_eq_true', Bool.not_eq_false', Bool.not_eq_true, ne_eq, Decidable.not_not] at g29
              refine OL.off rfl rfl ?_
              refine OL.off rfl rfl ?_
              refine OL.det trivial (Yields.pure rfl) ?_
              refine OL.det trivial (Yields.pure rfl) ?_
              refine OL.off rfl rfl ?_
              refine OL.off rfl rfl ?_
              refine OL.det trivial (Yields.pure rfl) ?_
              refine OL.det trivial (Yields.pure rfl) ?_
              refine OL.nil ?_
              refine PW.keep (T' := [(2, _)]) ⟨rfl, trivial⟩ ?_
              refine PW.ret ?_
              change (Exit.ret = Exit.normal ∨ Exit.ret = Exit.ret) ∧ ∃ v, resV _ _ = some v ∧ _
              refine ⟨.inr rfl, _, rfl, congrArg Value.bool ?_, rfl⟩
              unfold mayZ
              rw [Bool.eq_iff_iff]
              simp only [Bool.or_eq_true, Bool.and_eq_true, decide_eq_true_eq, beq_iff_eq, Bool.false_eq_true, true_iff, false_iff]
              omega
            · try simp only [decide_eq_true_eq, decide_eq_false_iff_not, beq_iff_eq, bne_iff_ne, beq_eq_false_iff_ne, bne_eq_false_iff_eq, Bool.not_eq_true', Bool.not_eq_false', Bool.not_eq_true, ne_eq, Decidable.not_not] at g29
              refine OL.det rfl (Yields.pure rfl) ?_
              refine OL.det rfl (Yields.pure rfl) ?_
              refine OL.det trivial (Yields.pure rfl) ?_
              refine OL.bool trivial (Yields.pure rfl) (fun g33 => ?_) (fun g33 => ?_)
              · try simp only [decide_eq_true_eq, decide_eq_false_iff_not, beq_iff_eq, bne_iff_ne, beq_eq_false_iff_ne, bne_eq_false_iff_eq, Bool.not_eq_true', Bool.not_eq_false', Bool.not_eq_true, ne_eq, Decidable.not_not] at g33
                refine OL.off rfl rfl ?_
                refine OL.off rfl rfl ?_
                refine OL.det trivial (Yields.pure rfl) ?_
                refine OL.det trivial (Yields.pure rfl) ?_
                refine OL.nil ?_
                refine PW.keep (T' := [(2, _)]) ⟨rfl, trivial⟩ ?_
                refine PW.ret ?_
                change (Exit.ret = Exit.normal ∨ Exit.ret = Exit.ret) ∧ ∃ v, resV _ _ = some v ∧ _
                refine ⟨.inr rfl, _, rfl, congrArg Value.bool ?_, rfl⟩
                unfold mayZ
                rw [Bool.eq_iff_iff]
                simp only [Bool.or_eq_true, Bool.and_eq_true, decide_eq_true_eq, beq_iff_eq, Bool.false_eq_true, true_iff, false_iff]
                omega
              · try simp only [decide_eq_true_eq, decide_eq_false_iff_not, beq_iff_eq, bne_iff_ne, beq_eq_false_iff_ne, bne_eq_false_iff_eq, Bool.not_eq_true', Bool.not_eq_false', Bool.not_eq_true, ne_eq, Decidable.not_not] at g33
                refine OL.det rfl (Yields.pure rfl) ?_
                refine OL.det rfl (Yields.pure rfl) ?_
                refine OL.det trivial (Yields.pure rfl) ?_
                refine OL.det trivial (Yields.pure rfl) ?_
                refine OL.nil ?_
                refine PW.keep (T' := [(2, _)]) ⟨rfl, trivial⟩ ?_
                refine PW.ret ?_
                change (Exit.ret = Exit.normal ∨ Exit.ret = Exit.ret) ∧ ∃ v, resV _ _ = some v ∧ _
                refine ⟨.inr rfl, _, rfl, congrArg Value.bool ?_, rfl⟩
                unfold mayZ
                rw [Bool.eq_iff_iff]
                simp only [Bool.or_eq_true, Bool.and_eq_true, decide_eq_true_eq, beq_iff_eq, Bool.false_eq_true, true_iff, false_iff]
                omega
        · try simp only [decide_eq_true_eq, decide_eq_false_iff_not, beq_iff_eq, bne_iff_ne, beq_eq_false_iff_ne, bne_eq_false_iff_eq, Bool.not_eq_true', Bool.not_eq_false', Bool.not_eq_true, ne_eq, Decidable.not_not] at g20
          refine OL.off rfl rfl ?_
          refine OL.off rfl rfl ?_
          refine OL.det rfl (Yields.pure rfl) ?_
          refine OL.det trivial (Yields.pure rfl) ?_
          refine OL.det trivial (Yields.pure rfl) ?_
          refine OL.det rfl (Yields.pure rfl) ?_
          refine OL.det rfl (Yields.pure rfl) ?_
          refine OL.det trivial (Yields.pure rfl) ?_
          refine OL.bool trivial (Yields.pure rfl) (fun g29 => ?_) (fun g29 => ?_)
          · try simp only [decide_eq_true_eq, decide_eq_false_iff_not, beq_iff_eq, bne_iff_ne, beq_eq_false_iff_ne, bne_eq_false_iff_eq, Bool.not_eq_true', Bool.not_eq_false', Bool.not_eq_true, ne_eq, Decidable.not_not] at g29
            refine OL.off rfl rfl ?_
            refine OL.off rfl rfl ?_
            refine OL.det trivial (Yields.pure rfl) ?_
            refine OL.det trivial (Yields.pure rfl) ?_
            refine OL.off rfl rfl ?_
            refine OL.off rfl rfl ?_
            refine OL.det trivial (Yields.pure rfl) ?_
            refine OL.det trivial (Yields.pure rfl) ?_
            refine OL.nil ?_
            refine PW.keep (T' := [(2, _)]) ⟨rfl, trivial⟩ ?_
            refine PW.ret ?_
            change (Exit.ret = Exit.normal ∨ Exit.ret = Exit.ret) ∧ ∃ v, resV _ _ = some v ∧ _
            refine ⟨.inr rfl, _, rfl, congrArg Value.bool ?_, rfl⟩
            unfold mayZ
            rw [Bool.eq_iff_iff]
            simp only [Bool.or_eq_true, Bool.and_eq_true, decide_eq_true_eq, beq_iff_eq, Bool.false_eq_true, true_iff, false_iff]
            omega
          · try simp only [decide_eq_true_eq, decide_eq_false_iff_not, beq_iff_eq, bne_iff_ne, beq_eq_false_iff_ne, bne_eq_false_iff_eq, Bool.not_eq_true', Bool.not_eq_false', Bool.not_eq_true, ne_eq, Decidable.not_not] at g29
            refine OL.det rfl (Yields.pure rfl) ?_
            refine OL.det rfl (Yields.pure rfl) ?_
            refine OL.det trivial (Yields.pure rfl) ?_
            refine OL.bool trivial (Yields.pure rfl) (fun g33 => ?_) (fun g33 => ?_)
            · try simp only [decide_eq_true_eq, decide_eq_false_iff_not, beq_iff_eq, bne_iff_ne, beq_eq_false_iff_ne, bne_eq_false_iff_eq, Bool.not_eq_true', Bool.not_eq_false', Bool.not_eq_true, ne_eq, Decidable.not_not] at g33
              refine OL.off rfl rfl ?_
              refine OL.off rfl rfl ?_
              refine OL.det trivial (Yields.pure rfl) ?_
              refine OL.det trivial (Yields.pure rfl) ?_
              refine OL.nil ?_
              refine PW.keep (T' := [(2, _)]) ⟨rfl, trivial⟩ ?_
              refine PW.ret ?_
              change (Exit.ret = Exit.normal ∨ Exit.ret = Exit.ret) ∧ ∃ v, resV _ _ = some v ∧ _
              refine ⟨.inr rfl, _, rfl, congrArg Value.bool ?_, rfl⟩
              unfold mayZ
              rw [Bool.eq_iff_iff]
              simp only [Bool.or_eq_true, Bool.and_eq_true, decide_eq_true_eq, beq_iff_eq, Bool.false_eq_true, true_iff, false_iff]
              omega
            · try simp only [decide_eq_true_eq, decide_eq_false_iff_not, beq_iff_eq, bne_iff_ne, beq_eq_false_iff_ne, bne_eq_false_iff_eq, Bool.not_eq_true', Bool.not_eq_false', Bool.not_eq_true, ne_eq, Decidable.not_not] at g33
              refine OL.det rfl (Yields.pure rfl) ?_
              refine OL.det rfl (Yields.pure rfl) ?_
              refine OL.det trivial (Yields.pure rfl) ?_
              refine OL.det trivial (Yields.pure rfl) ?_
              refine OL.nil ?_
              refine PW.keep (T' := [(2, _)]) ⟨rfl, trivial⟩ ?_
              refine PW.ret ?_
              change (Exit.ret = Exit.normal ∨ Exit.ret = Exit.ret) ∧ ∃ v, resV _ _ = some v ∧ _
              refine ⟨.inr rfl, _, rfl, congrArg Value.bool ?_, rfl⟩
              unfold mayZ
              rw [Bool.eq_iff_iff]
              simp only [Bool.or_eq_true, Bool.and_eq_true, decide_eq_true_eq, beq_iff_eq, Bool.false_eq_true, true_iff, false_iff]
              omega
    · try simp only [decide_eq_true_eq, decide_eq_false_iff_not, beq_iff_eq, bne_iff_ne, beq_eq_false_iff_ne, bne_eq_false_iff_eq, Bool.not_eq_true', Bool.not_eq_false', Bool.not_eq_true, ne_eq, Decidable.not_not] at g12
      refine OL.off rfl rfl ?_
      refine OL.off rfl rfl ?_
      refine OL.det rfl (Yields.pure rfl) ?_
      refine OL.det trivial (Yields.pure rfl) ?_
      refine OL.det trivial (Yields.pure rfl) ?_
      refine OL.det rfl (Yields.pure rfl) ?_
      refine OL.det rfl (Yields.pure rfl) ?_
      refine OL.bool rfl (Yields.pure rfl) (fun g20 => ?_) (fun g20 => ?_)
      · try simp only [decide_eq_true_eq, decide_eq_false_iff_not, beq_iff_eq, bne_iff_ne, beq_eq_false_iff_ne, bne_eq_false_iff_eq, Bool.not_eq_true', Bool.not_eq_false', Bool.not_eq_true, ne_eq, Decidable.not_not] at g20
        refine OL.det rfl (Yields.pure rfl) ?_
        refine OL.det rfl (Yields.pure rfl) ?_
        refine OL.det rfl (Yields.pure rfl) ?_
        refine OL.det trivial (Yields.pure rfl) ?_
        refine OL.bool trivial (Yields.pure rfl) (fun g25 => ?_) (fun g25 => ?_)
        · try simp only [decide_eq_true_eq, decide_eq_false_iff_not, beq_iff_eq, bne_iff_ne, beq_eq_false_iff_ne, bne_eq_false_iff_eq, Bool.not_eq_true', Bool.not_eq_false', Bool.not_eq_true, ne_eq, Decidable.not_not] at g25
          refine OL.off rfl rfl ?_
          refine OL.off rfl rfl ?_
          refine OL.det trivial (Yields.pure rfl) ?_
          refine OL.det trivial (Yields.pure rfl) ?_
          refine OL.off rfl rfl ?_
          refine OL.off rfl rfl ?_
          refine OL.det trivial (Yields.pure rfl) ?_
          refine OL.det trivial (Yields.pure rfl) ?_
          refine OL.off rfl rfl ?_
          refine OL.off rfl rfl ?_
          refine OL.det trivial (Yields.pure rfl) ?_
          refine OL.det trivial (Yields.pure rfl) ?_
          refine OL.nil ?_
          refine PW.keep (T' := [(2, _)]) ⟨rfl, trivial⟩ ?_
          refine PW.ret ?_
          change (Exit.ret = Exit.normal ∨ Exit.ret = Exit.ret) ∧ ∃ v, resV _ _ = some v ∧ _
          refine ⟨.inr rfl, _, rfl, congrArg Value.bool ?_, rfl⟩
          unfold mayZ
          rw [Bool.eq_iff_iff]
          simp only [Bool.or_eq_true, Bool.and_eq_true, decide_eq_true_eq, beq_iff_eq, Bool.false_eq_true, true_iff, false_iff]
          omega
        · try simp only [decide_eq_true_eq, decide_eq_false_iff_not, beq_iff_eq, bne_iff_ne, beq_eq_false_iff_ne, bne_eq_false_iff_eq, Bool.not_eq_true', Bool.not_eq_false', Bool.not_eq_true, ne_eq, Decidable.not_not] at g25
          refine OL.det rfl (Yields.pure rfl) ?_
          refine OL.det rfl (Yields.pure rfl) ?_
          refine OL.det trivial (Yields.pure rfl) ?_
          refine OL.bool trivial (Yields.pure rfl) (fun g29 => ?_) (fun g29 => ?_)
          · try simp only [decide_eq_true_eq, decide_eq_false_iff_not, beq_iff_eq, bne_iff_ne, beq_eq_false_iff_ne, bne_eq_false_iff_eq, Bool.not_eq_true', Bool.not_eq_false', Bool.not_eq_true, ne_eq, Decidable.not_not] at g29
            refine OL.off rfl rfl ?_
            refine OL.off rfl rfl ?_
            refine OL.det trivial (Yields.pure rfl) ?_
            refine OL.det trivial (Yields.pure rfl) ?_
            refine OL.off rfl rfl ?_
            refine OL.off rfl rfl ?_
            refine OL.det trivial (Yields.pure rfl) ?_
            refine OL.det trivial (Yields.pure rfl) ?_
            refine OL.nil ?_
            refine PW.keep (T' := [(2, _)]) ⟨rfl, trivial⟩ ?_
            refine PW.ret ?_
            change (Exit.ret = Exit.normal ∨ Exit.ret = Exit.ret) ∧ ∃ v, resV _ _ = some v ∧ _
            refine ⟨.inr rfl, _, rfl, congrArg Value.bool ?_, rfl⟩
            unfold mayZ
            rw [Bool.eq_iff_iff]
            simp only [Bool.or_eq_true, Bool.and_eq_true, decide_eq_true_eq, beq_iff_eq, Bool.false_eq_true, true_iff, false_iff]
            omega
          · try simp only [decide_eq_true_eq, decide_eq_false_iff_not, beq_iff_eq, bne_iff_ne, beq_eq_false_iff_ne, bne_eq_false_iff_eq, Bool.not_eq_true', Bool.not_eq_false', Bool.not_eq_true, ne_eq, Decidable.not_not] at g29
            refine OL.det rfl (Yields.pure rfl) ?_
            refine OL.det rfl (Yields.pure rfl) ?_
            refine OL.det trivial (Yields.pure rfl) ?_
            refine OL.bool trivial (Yields.pure rfl) (fun g33 => ?_) (fun g33 => ?_)
            · try simp only [decide_eq_true_eq, decide_eq_false_iff_not, beq_iff_eq, bne_iff_ne, beq_eq_false_iff_ne, bne_eq_false_iff_eq, Bool.not_eq_true', Bool.not_eq_false', Bool.not_eq_true, ne_eq, Decidable.not_not] at g33
              refine OL.off rfl rfl ?_
              refine OL.off rfl rfl ?_
              refine OL.det trivial (Yields.pure rfl) ?_
              refine OL.det trivial (Yields.pure rfl) ?_
              refine OL.nil ?_
              refine PW.keep (T' := [(2, _)]) ⟨rfl, trivial⟩ ?_
              refine PW.ret ?_
              change (Exit.ret = Exit.normal ∨ Exit.ret = Exit.ret) ∧ ∃ v, resV _ _ = some v ∧ _
              refine ⟨.inr rfl, _, rfl, congrArg Value.bool ?_, rfl⟩
              unfold mayZ
              rw [Bool.eq_iff_iff]
              simp only [Bool.or_eq_true, Bool.and_eq_true, decide_eq_true_eq, beq_iff_eq, Bool.false_eq_true, true_iff, false_iff]
              omega
            · try simp only [decide_eq_true_eq, decide_eq_false_iff_not, beq_iff_eq, bne_iff_ne, beq_eq_false_iff_ne, bne_eq_false_iff_eq, Bool.not_eq_true', Bool.not_eq_false', Bool.not_eq_true, ne_eq, Decidable.not_not] at g33
              refine OL.det rfl (Yields.pure rfl) ?_
              refine OL.det rfl (Yields.pure rfl) ?_
              refine OL.det trivial (Yields.pure rfl) ?_
              refine OL.det trivial (Yields.pure rfl) ?_
              refine OL.nil ?_
              refine PW.keep (T' := [(2, _)]) ⟨rfl, trivial⟩ ?_
              refine PW.ret ?_
              change (Exit.ret = Exit.normal ∨ Exit.ret = Exit.ret) ∧ ∃ v, resV _ _ = some v ∧ _
              refine ⟨.inr rfl, _, rfl, congrArg Value.bool ?_, rfl⟩
              unfold mayZ
              rw [Bool.eq_iff_iff]
              simp only [Bool.or_eq_true, Bool.and_eq_true, decide_eq_true_eq, beq_iff_eq, Bool.false_eq_true, true_iff, false_iff]
              omega
      · try simp only [decide_eq_true_eq, decide_eq_false_iff_not, beq_iff_eq, bne_iff_ne, beq_eq_false_iff_ne, bne_eq_false_iff_eq, Bool.not_eq_true', Bool.not_eq_false', Bool.not_eq_true, ne_eq, Decidable.not_not] at g20
        refine OL.off rfl rfl ?_
        refine OL.off rfl rfl ?_
        refine OL.det rfl (Yields.pure rfl) ?_
        refine OL.det trivial (Yields.pure rfl) ?_
        refine OL.det trivial (Yields.pure rfl) ?_
        refine OL.det rfl (Yields.pure rfl) ?_
        refine OL.det rfl (Yields.pure rfl) ?_
        refine OL.det trivial (Yields.pure rfl) ?_
        refine OL.bool trivial (Yields.pure rfl) (fun g29 => ?_) (fun g29 => ?_)
        · try simp only [decide_eq_true_eq, decide_eq_false_iff_not, beq_iff_eq, bne_iff_ne, beq_eq_false_iff_ne, bne_eq_false_iff_eq, Bool.not_eq_true', Bool.not_eq_false', Bool.not_eq_true, ne_eq, Decidable.not_not] at g29
          refine OL.off rfl rfl ?_
          refine OL.off rfl rfl ?_
          refine OL.det trivial (Yields.pure rfl) ?_
          refine OL.det trivial (Yields.pure rfl) ?_
          refine OL.off rfl rfl ?_
          refine OL.off rfl rfl ?_
          refine OL.det trivial (Yields.pure rfl) ?_
          refine OL.det trivial (Yields.pure rfl) ?_
          refine OL.nil ?_
          refine PW.keep (T' := [(2, _)]) ⟨rfl, trivial⟩ ?_
          refine PW.ret ?_
          change (Exit.ret = Exit.normal ∨ Exit.ret = Exit.ret) ∧ ∃ v, resV _ _ = some v ∧ _
          refine ⟨.inr rfl, _, rfl, congrArg Value.bool ?_, rfl⟩
          unfold mayZ
          rw [Bool.eq_iff_iff]
          simp only [Bool.or_eq_true, Bool.and_eq_true, decide_eq_true_eq, beq_iff_eq, Bool.false_eq_true, true_iff, false_iff]
          omega
        · try simp only [decide_eq_true_eq, decide_eq_false_iff_not, beq_iff_eq, bne_iff_ne, beq_eq_false_iff_ne, bne_eq_false_iff_eq, Bool.not_eq_true', Bool.not_eq_false', Bool.not_eq_true, ne_eq, Decidable.not_not] at g29
          refine OL.det rfl (Yields.pure rfl) ?_
          refine OL.det rfl (Yields.pure rfl) ?_
          refine OL.det trivial (Yields.pure rfl) ?_
          refine OL.bool trivial (Yields.pure rfl) (fun g33 => ?_) (fun g33 => ?_)
          · try simp only [decide_eq_true_eq, decide_eq_false_iff_not, beq_iff_eq, bne_iff_ne, beq_eq_false_iff_ne, bne_eq_false_iff_eq, Bool.not_eq_true', Bool.not_eq_false', Bool.not_eq_true, ne_eq, Decidable.not_not] at g33
            refine OL.off rfl rfl ?_
            refine OL.off rfl rfl ?_
            refine OL.det trivial (Yields.pure rfl) ?_
            refine OL.det trivial (Yields.pure rfl) ?_
            refine OL.nil ?_
            refine PW.keep (T' := [(2, _)]) ⟨rfl, trivial⟩ ?_
            refine PW.ret ?_
            change (Exit.ret = Exit.normal ∨ Exit.ret = Exit.ret) ∧ ∃ v, resV _ _ = some v ∧ _
            refine ⟨.inr rfl, _, rfl, congrArg Value.bool ?_, rfl⟩
            unfold mayZ
            rw [Bool.eq_iff_iff]
            simp only [Bool.or_eq_true, Bool.and_eq_true, decide_eq_true_eq, beq_iff_eq, Bool.false_eq_true, true_iff, false_iff]
            omega
          · try simp only [decide_eq_true_eq, decide_eq_false_iff_not, beq_iff_eq, bne_iff_ne, beq_eq_false_iff_ne, bne_eq_false_iff_eq, Bool.not_eq_true', Bool.not_eq_false', Bool.not_eq_true, ne_eq, Decidable.not_not] at g33
            refine OL.det rfl (Yields.pure rfl) ?_
            refine OL.det rfl (Yields.pure rfl) ?_
            refine OL.det trivial (Yields.pure rfl) ?_
            refine OL.det trivial (Yields.pure rfl) ?_
            refine OL.nil ?_
            refine PW.keep (T' := [(2, _)]) ⟨rfl, trivial⟩ ?_
            refine PW.ret ?_
            change (Exit.ret = Exit.normal ∨ Exit.ret = Exit.ret) ∧ ∃ v, resV _ _ = some v ∧ _
            refine ⟨.inr rfl, _, rfl, congrArg Value.bool ?_, rfl⟩
            unfold mayZ
            rw [Bool.eq_iff_iff]
            simp only [Bool.or_eq_true, Bool.and_eq_true, decide_eq_true_eq, beq_iff_eq, Bool.false_eq_true, true_iff, false_iff]
            omega
theorem part_fc {w0 : World} {S : SS} {s : ByteArray} (hs : s.size ≤ 1000000000) : FC Tryd.prog w0 90 [.string s] S (fun v S' => v = .bool (partP s) ∧ S' = S) := by
  refine FC.ofD Tryd.known90 (by simp) ?_
  unfold Tryd.pc90
  simp only [argT]
  refine PW.seqOps ?_
  refine OL.det trivial (Yields.pure rfl) ?_
  refine OL.nil ?_
  refine PW.keep (T' := [(0, _)]) ⟨rfl, trivial⟩ ?_
  refine PW.seqOps ?_
  refine OL.det trivial (Yields.pure rfl) ?_
  refine OL.nil ?_
  refine PW.keep (T' := [(0, _), (3, _)]) ⟨rfl, rfl, trivial⟩ ?_
  refine PW.seq fun K1 hK1 => ?_
  refine PW.seqOps ?_
  refine OL.det trivial (Yields.pure rfl) ?_
  refine OL.cons trivial (OW.rngS rfl) ?_
  rintro _ _ ⟨r7, rfl, rfl⟩
  refine OL.nil ?_
  refine PW.keep (T' := [(0, _), (3, _), (7, _)]) ⟨rfl, rfl, rfl, trivial⟩ ?_
  refine PW.block ?_
  refine PW.keep (T' := [(0, _), (3, _), (7, _)]) ⟨rfl, rfl, rfl, trivial⟩ ?_
  refine PW.loopK (I := fun m T S' => ∃ (k d : Nat), (k ≤ s.size ∧ m = s.size - k ∧ (s.data.toList.take k).all mayB = true ∧ d = dotN (s.data.toList.take k) ∧ d ≤ k) ∧ T = ([(0, .string s), (3, .int .i64 (d : Int)), (7, .pointer (some ⟨r7, 0, none⟩))] : TT) ∧ S' = [(r7, .obj (.stringIter s k))] :: S) (m := s.size) ⟨0, 0, ⟨by omega, by omega, rfl, rfl, by omega⟩, rfl, rfl⟩ ?_
  rintro m _ _ ⟨k, d, ⟨hk, hm, hall, hd, hdk⟩, rfl, rfl⟩
  refine PW.seqOps ?_
  refine OL.nxt (k := 0) rfl rfl ?_ ?_
  · intro hp
    refine OL.nil ?_
    refine PW.keep (T' := [(0, _), (3, _), (7, _), (8, _), (9, _)]) ⟨rfl, rfl, rfl, rfl, rfl, trivial⟩ ?_
    refine PW.seq fun K2 hK2 => ?_
    refine PW.ite (b := true) rfl ?_
    rw [if_pos rfl]
    refine PW.skip ?_
    refine hK2 _ _ ?_
    refine PW.keep (T' := [(0, _), (3, _), (7, _), (8, _)]) ⟨rfl, rfl, rfl, rfl, trivial⟩ ?_
    refine PW.block ?_
    refine PW.seqOps ?_
    obtain ⟨b, hb, hb2, htk, hbe⟩ := ba_get hp
    have hdec := dec_ok hp hbe
    refine OL.det trivial (Yields.pure rfl) ?_
    refine OL.det trivial (Yields.pure rfl) ?_
    refine OL.nil ?_
    refine PW.keep (T' := [(0, _), (3, _), (5, _), (7, _)]) ⟨rfl, rfl, rfl, rfl, trivial⟩ ?_
    refine PW.seq fun K3 hK3 => ?_
    refine PW.seqOps ?_
    refine OL.det trivial (Yields.pure rfl) ?_
    refine OL.call trivial rfl (may_fc) ?_
    rintro _ Sx ⟨rfl, hSx⟩
    rw [hSx]
    clear hSx
    refine OL.det trivial (Yields.pure rfl) ?_
    refine OL.nil ?_
    refine PW.keep (T' := [(0, _), (3, _), (5, _), (7, _), (13, _)]) ⟨rfl, rfl, rfl, rfl, rfl, trivial⟩ ?_
    refine PW.cond rfl (fun c13 => ?_) (fun c13 => ?_)
    · try simp only [decide_eq_true_eq, decide_eq_false_iff_not, beq_iff_eq, bne_iff_ne, beq_eq_false_iff_ne, bne_eq_false_iff_eq, Bool.not_eq_true', Bool.not_eq_false', Bool.not_eq_true, ne_eq, Decidable.not_not] at c13
      refine PW.seqOps ?_
      refine OL.det trivial (Yields.pure rfl) ?_
      refine OL.nil ?_
      refine PW.keep (T' := [(2, _)]) ⟨rfl, trivial⟩ ?_
      refine PW.ret ?_
      change (Exit.ret = Exit.normal ∨ Exit.ret = Exit.ret) ∧ ∃ v, resV _ _ = some v ∧ _
      have hbad : mayB b = false := by
        rcases hdec with ⟨e0, e1, _⟩ | ⟨e0, e1⟩
        · rw [e1] at c13; exact c13
        · unfold mayB mayZ; rw [Bool.eq_iff_iff]; simp only [Bool.or_eq_true, Bool.and_eq_true, decide_eq_true_eq, Bool.false_eq_true, iff_false]; omega
      exact ⟨.inr rfl, _, rfl, _, Sub.drop (Sub.refl _), by rw [part_bad hb2 hbad], rfl⟩
    · try simp only [decide_eq_true_eq, decide_eq_false_iff_not, beq_iff_eq, bne_iff_ne, beq_eq_false_iff_ne, bne_eq_false_iff_eq, Bool.not_eq_true', Bool.not_eq_false', Bool.not_eq_true, ne_eq, Decidable.not_not] at c13
      have hmz : mayZ ((Utf8.decode s k).1 : Int) = true := c13
      have hdec2 : (Utf8.decode s k).1 = b.toNat ∧ (Utf8.decode s k).2 = 1 := by
        rcases hdec with ⟨_, e1, e2⟩ | ⟨e0, e1⟩
        · exact ⟨e1, e2⟩
        · exfalso
          revert hmz
          unfold mayZ; simp only [Bool.or_eq_true, Bool.and_eq_true, decide_eq_true_eq]; omega
      obtain ⟨h1, h2⟩ := hdec2
      refine PW.skip ?_
      refine hK3 _ _ ?_
      refine PW.keep (T' := [(0, _), (3, _), (5, _), (7, _)]) ⟨rfl, rfl, rfl, rfl, trivial⟩ ?_
      refine PW.seqOps ?_
      refine OL.det trivial (Yields.pure rfl) ?_
      refine OL.det trivial (Yields.pure rfl) ?_
      refine OL.nil ?_
      refine PW.keep (T' := [(0, _), (3, _), (7, _), (15, _)]) ⟨rfl, rfl, rfl, rfl, trivial⟩ ?_
      refine PW.cond rfl (fun c15 => ?_) (fun c15 => ?_)
      · try simp only [decide_eq_true_eq, decide_eq_false_iff_not, beq_iff_eq, bne_iff_ne, beq_eq_false_iff_ne, bne_eq_false_iff_eq, Bool.not_eq_true', Bool.not_eq_false', Bool.not_eq_true, ne_eq, Decidable.not_not] at c15
        refine PW.ops ?_
        refine OL.det trivial (Yields.pure rfl) ?_
        refine OL.det trivial (Yields.add64 rfl rfl (by omega) (by omega)) ?_
        refine OL.det trivial (Yields.pure rfl) ?_
        refine OL.nil ?_
        repeat rw [inBlk_n]
        rw [thenK_n]
        refine LoopEnd.mk (T'' := [(0, _), (3, _), (7, _)]) ⟨rfl, rfl, rfl, trivial⟩ ?_
        have hz : mayB b = true := by rw [← hmz]; unfold mayB; rw [h1]
        rw [h1] at c15
        refine ⟨s.size - (k + 1), by omega, k + 1, d + 1, ⟨by omega, rfl, ?_, ?_, by omega⟩, rfl, by rw [h2]; rfl⟩
        · rw [htk, List.all_append, hall]; simp [hz]
        · rw [htk]; unfold dotN at hd ⊢; rw [List.countP_append, ← hd]
          have : b = 46 := UInt8.toNat_inj.1 (by show b.toNat = 46; omega)
          simp [this]
      · try simp only [decide_eq_true_eq, decide_eq_false_iff_not, beq_iff_eq, bne_iff_ne, beq_eq_false_iff_ne, bne_eq_false_iff_eq, Bool.not_eq_true', Bool.not_eq_false', Bool.not_eq_true, ne_eq, Decidable.not_not] at c15
        refine PW.skip ?_
        repeat rw [inBlk_n]
        rw [thenK_n]
        refine LoopEnd.mk (T'' := [(0, _), (3, _), (7, _)]) ⟨rfl, rfl, rfl, trivial⟩ ?_
        have hz : mayB b = true := by rw [← hmz]; unfold mayB; rw [h1]
        rw [h1] at c15
        refine ⟨s.size - (k + 1), by omega, k + 1, d, ⟨by omega, rfl, ?_, ?_, by omega⟩, rfl, by rw [h2]; rfl⟩
        · rw [htk, List.all_append, hall]; simp [hz]
        · rw [htk]; unfold dotN at hd ⊢; rw [List.countP_append, ← hd]
          have : b ≠ 46 := fun e => c15 (by rw [e]; rfl)
          simp [this]
  · intro hp
    refine OL.nil ?_
    refine PW.keep (T' := [(0, _), (3, _), (7, _), (8, _), (9, _)]) ⟨rfl, rfl, rfl, rfl, rfl, trivial⟩ ?_
    refine PW.seq fun K4 hK4 => ?_
    refine PW.ite (b := false) rfl ?_
    rw [if_neg Bool.false_ne_true]
    refine PW.exit ?_
    refine hK1 _ _ ?_
    refine PW.keep (T' := [(0, _), (3, _)]) ⟨rfl, rfl, trivial⟩ ?_
    refine PW.seqOps ?_
    refine OL.det trivial (Yields.pure rfl) ?_
    refine OL.det trivial (Yields.pure rfl) ?_
    refine OL.det trivial (Yields.pure rfl) ?_
    refine OL.det trivial (Yields.pure rfl) ?_
    refine OL.det trivial (Yields.pure rfl) ?_
    refine OL.nil ?_
    refine PW.keep (T' := [(2, _)]) ⟨rfl, trivial⟩ ?_
    refine PW.ret ?_
    change (Exit.ret = Exit.normal ∨ Exit.ret = Exit.ret) ∧ ∃ v, resV _ _ = some v ∧ _
    exact ⟨.inr rfl, _, rfl, _, Sub.drop (Sub.refl _), by rw [part_all (k := k) (by omega) hall, ← hd], rfl⟩
theorem is1_fc {w0 : World} {S : SS} {s : ByteArray} (hs : s.size ≤ 1000000000) : FC Tryd.prog w0 89 [.string s] S (fun v S' => v = .bool (!(partP s)) ∧ S' = S) := by
  refine FC.of Tryd.known89 (by simp) ?_
  unfold Tryd.pc89
  simp only [argT]
  refine PW.seqOps ?_
  refine OL.det trivial (Yields.pure rfl) ?_
  refine OL.nil ?_
  refine PW.keep (T' := [(0, _)]) ⟨rfl, trivial⟩ ?_
  refine PW.seqOps ?_
  refine OL.det trivial (Yields.pure rfl) ?_
  refine OL.call trivial rfl (part_fc hs) ?_
  rintro _ Sx ⟨rfl, hSx⟩
  rw [hSx]
  clear hSx
  refine OL.det trivial (Yields.pure rfl) ?_
  refine OL.det trivial (Yields.pure rfl) ?_
  refine OL.nil ?_
  refine PW.keep (T' := [(2, _)]) ⟨rfl, trivial⟩ ?_
  refine PW.ret ?_
  change (Exit.ret = Exit.normal ∨ Exit.ret = Exit.ret) ∧ ∃ v, resV _ _ = some v ∧ _
  exact ⟨.inr rfl, _, rfl, rfl, rfl⟩
def idxQ (q : ByteArray → Bool) (ls : List ByteArray) (z : Int) : Prop := (0 ≤ z ↔ ls.any q = true)
theorem any_take {q : ByteArray → Bool} {ls : List ByteArray} {k : Nat} (h : k < ls.length) : (ls.take (k + 1)).any q = ((ls.take k).any q || q ls[k]) := by
  rw [List.take_add_one, List.getElem?_eq_getElem h, List.any_append]
  simp only [Option.toList, List.any_cons, List.any_nil, Bool.or_false]
theorem indexF_fc {w0 : World} {S : SS} {A : Option Addr} {cap g : Nat} {ls : List ByteArray} {q : ByteArray → Bool} (hx : Rd w0 S A (strs ls)) (hb : ls.length ≤ 1000000000) (hok : fnOk Tryd.prog g = true) (hq : ∀ s ∈ ls, FC Tryd.prog w0 g [.string s] S (fun v S' => v = .bool (q s) ∧ S' = S)) :
    FC Tryd.prog w0 105 [.slice A ls.length cap, .func (.func g) #[] #[]] S (fun v S' => ∃ z, v = .int .i64 z ∧ idxQ q ls z ∧ S' = S) := by
  refine FC.of Tryd.known105 (by simp) ?_
  unfold Tryd.pc105
  simp only [argT]
  refine PW.seqOps ?_
  refine OL.det trivial (Yields.pure rfl) ?_
  refine OL.nil ?_
  refine PW.keep (T' := [(0, _), (1, _)]) ⟨rfl, rfl, trivial⟩ ?_
  refine PW.seq fun K1 hK1 => ?_
  refine PW.seqOps ?_
  refine OL.det trivial (Yields.pure rfl) ?_
  refine OL.det trivial (Yields.pure rfl) ?_
  refine OL.det trivial (Yields.pure rfl) ?_
  refine OL.nil ?_
  refine PW.keep (T' := [(0, _), (1, _), (7, _), (8, _)]) ⟨rfl, rfl, rfl, rfl, trivial⟩ ?_
  refine PW.block ?_
  refine PW.keep (T' := [(0, _), (1, _), (7, _), (8, _)]) ⟨rfl, rfl, rfl, rfl, trivial⟩ ?_
  refine PW.loopK (I := fun m T S' => ∃ (k : Nat), (k ≤ ls.length ∧ m = ls.length - k ∧ (ls.take k).any q = false) ∧ T = ([(0, .slice A ls.length cap), (1, .func (.func g) #[] #[]), (7, .int .i64 (ls.length : Int)), (8, .int .i64 k)] : TT) ∧ S' = S) (m := ls.length) ⟨0, ⟨by omega, by omega, rfl⟩, rfl, rfl⟩ ?_
  rintro m _ _ ⟨k, ⟨hk, hm, hall⟩, rfl, rfl⟩
  refine PW.seqOps ?_
  refine OL.det trivial (Yields.pure rfl) ?_
  refine OL.nil ?_
  refine PW.keep (T' := [(0, _), (1, _), (7, _), (8, _), (9, _)]) ⟨rfl, rfl, rfl, rfl, rfl, trivial⟩ ?_
  refine PW.seq fun K2 hK2 => ?_
  refine PW.cond rfl (fun c9 => ?_) (fun c9 => ?_)
  · try simp only [decide_eq_true_eq, decide_eq_false_iff_not, beq_iff_eq, bne_iff_ne, beq_eq_false_iff_ne, bne_eq_false_iff_eq, Bool.not_eq_true', Bool.not_eq_false', Bool.not_eq_true, ne_eq, Decidable.not_not] at c9
    have hkl : k < ls.length := by omega
    obtain ⟨b0, rfl⟩ := hx.some (strs_ne (by omega))
    refine PW.skip ?_
    refine hK2 _ _ ?_
    refine PW.keep (T' := [(0, _), (1, _), (7, _), (8, _)]) ⟨rfl, rfl, rfl, rfl, trivial⟩ ?_
    refine PW.seq fun K3 hK3 => ?_
    refine PW.block ?_
    refine PW.seqOps ?_
    refine OL.det trivial (Yields.pure rfl) ?_
    refine OL.det trivial (Yields.pure rfl) ?_
    refine OL.nil ?_
    refine PW.keep (T' := [(0, _), (1, _), (5, _), (7, _), (8, _)]) ⟨rfl, rfl, rfl, rfl, rfl, trivial⟩ ?_
    refine PW.seqOps ?_
    refine OL.det trivial (Yields.pure rfl) ?_
    refine OL.det trivial (Yields.pure rfl) ?_
    refine OL.det trivial (Yields.pure rfl) ?_
    refine OL.det trivial (Yields.ixN1 rfl rfl rfl (by omega)) ?_
    refine OL.det trivial (Yields.ld rfl (strs_at hx hkl)) ?_
    refine OL.cons trivial (OW.callv (fi := []) (ca := []) rfl hok rfl (hq _ (List.getElem_mem hkl))) ?_
    rintro _ Sx ⟨rfl, hSx⟩
    rw [hSx]
    clear hSx
    refine OL.nil ?_
    refine PW.keep (T' := [(0, _), (1, _), (5, _), (7, _), (8, _), (16, _)]) ⟨rfl, rfl, rfl, rfl, rfl, rfl, trivial⟩ ?_
    refine PW.cond rfl (fun c16 => ?_) (fun c16 => ?_)
    · try simp only [decide_eq_true_eq, decide_eq_false_iff_not, beq_iff_eq, bne_iff_ne, beq_eq_false_iff_ne, bne_eq_false_iff_eq, Bool.not_eq_true', Bool.not_eq_false', Bool.not_eq_true, ne_eq, Decidable.not_not] at c16
      refine PW.seqOps ?_
      refine OL.det trivial (Yields.pure rfl) ?_
      refine OL.det trivial (Yields.pure rfl) ?_
      refine OL.nil ?_
      refine PW.keep (T' := [(4, _)]) ⟨rfl, trivial⟩ ?_
      refine PW.ret ?_
      change (Exit.ret = Exit.normal ∨ Exit.ret = Exit.ret) ∧ ∃ v, resV _ _ = some v ∧ _
      exact ⟨.inr rfl, _, rfl, _, rfl, ⟨fun _ => List.any_eq_true.2 ⟨_, List.getElem_mem hkl, c16⟩, fun _ => by omega⟩, rfl⟩
    · try simp only [decide_eq_true_eq, decide_eq_false_iff_not, beq_iff_eq, bne_iff_ne, beq_eq_false_iff_ne, bne_eq_false_iff_eq, Bool.not_eq_true', Bool.not_eq_false', Bool.not_eq_true, ne_eq, Decidable.not_not] at c16
      refine PW.skip ?_
      refine hK3 _ _ ?_
      refine PW.keep (T' := [(0, _), (1, _), (7, _), (8, _)]) ⟨rfl, rfl, rfl, rfl, trivial⟩ ?_
      refine PW.ops ?_
      refine OL.det trivial (Yields.add64 rfl rfl (by omega) (by omega)) ?_
      refine OL.det trivial (Yields.pure rfl) ?_
      refine OL.nil ?_
      repeat rw [inBlk_n]
      rw [thenK_n]
      refine LoopEnd.mk (T'' := [(0, _), (1, _), (7, _), (8, _)]) ⟨rfl, rfl, rfl, rfl, trivial⟩ ?_
      refine ⟨ls.length - (k + 1), by omega, k + 1, ⟨by omega, rfl, ?_⟩, by simp, rfl⟩
      rw [any_take hkl, hall, c16]; rfl
  · try simp only [decide_eq_true_eq, decide_eq_false_iff_not, beq_iff_eq, bne_iff_ne, beq_eq_false_iff_ne, bne_eq_false_iff_eq, Bool.not_eq_true', Bool.not_eq_false', Bool.not_eq_true, ne_eq, Decidable.not_not] at c9
    refine PW.exit ?_
    refine hK1 _ _ ?_
    refine PW.keep (T' := []) trivial ?_
    refine PW.seqOps ?_
    refine OL.det trivial (Yields.pure rfl) ?_
    refine OL.nil ?_
    refine PW.keep (T' := [(4, _)]) ⟨rfl, trivial⟩ ?_
    refine PW.ret ?_
    change (Exit.ret = Exit.normal ∨ Exit.ret = Exit.ret) ∧ ∃ v, resV _ _ = some v ∧ _
    obtain rfl : k = ls.length := by omega
    rw [List.take_length] at hall
    exact ⟨.inr rfl, _, rfl, _, rfl, ⟨fun h => absurd h (by omega), fun h => by rw [hall] at h; cases h⟩, rfl⟩
theorem contains_fc {w0 : World} {S : SS} {A : Option Addr} {cap g : Nat} {ls : List ByteArray} {q : ByteArray → Bool} (hx : Rd w0 S A (strs ls)) (hb : ls.length ≤ 1000000000) (hok : fnOk Tryd.prog g = true) (hq : ∀ s ∈ ls, FC Tryd.prog w0 g [.string s] S (fun v S' => v = .bool (q s) ∧ S' = S)) :
    FC Tryd.prog w0 88 [.slice A ls.length cap, .func (.func g) #[] #[]] S (fun v S' => v = .bool (ls.any q) ∧ S' = S) := by
  refine FC.of Tryd.known88 (by simp) ?_
  unfold Tryd.pc88
  simp only [argT]
  refine PW.seqOps ?_
  refine OL.det trivial (Yields.pure rfl) ?_
  refine OL.nil ?_
  refine PW.keep (T' := [(0, _), (1, _)]) ⟨rfl, rfl, trivial⟩ ?_
  refine PW.seqOps ?_
  refine OL.det trivial (Yields.pure rfl) ?_
  refine OL.det trivial (Yields.pure rfl) ?_
  refine OL.call trivial rfl (indexF_fc hx hb hok hq) ?_
  rintro _ Sx ⟨z, rfl, hz, hSx⟩
  rw [hSx]
  clear hSx
  refine OL.det trivial (Yields.pure rfl) ?_
  refine OL.det trivial (Yields.pure rfl) ?_
  refine OL.nil ?_
  refine PW.keep (T' := [(4, _)]) ⟨rfl, trivial⟩ ?_
  refine PW.ret ?_
  change (Exit.ret = Exit.normal ∨ Exit.ret = Exit.ret) ∧ ∃ v, resV _ _ = some v ∧ _
  exact ⟨.inr rfl, _, rfl, congrArg Value.bool (by rw [Bool.eq_iff_iff, ← (show 0 ≤ z ↔ ls.any q = true from hz)]; simp), rfl⟩
end Go.Proofs

set_option linter.unusedVariables false
set_option linter.unusedSimpArgs false
namespace Go.Proofs
open Go.SL Go.RowKit
set_option maxHeartbeats 1000000
def resL (w0 : World) (ls : List ByteArray) (S : SS) (v : Value) (S' : SS) : Prop := ∃ A cap seg, v = .slice A ls.length cap ∧ S' = seg :: S ∧ ∀ S2, Rd w0 (seg :: S2) A (strs ls)
theorem setAt_mid (ds : List ByteArray) (x : ByteArray) (e : Value) (k : Nat) : setAt (strs ds ++ List.replicate (k + 1) e) ds.length (Value.string x).cells.toList = strs (ds ++ [x]) ++ List.replicate k e := by
  rw [show (Value.string x).cells.toList = [Value.string x] from rfl, setAt_eq _ _ _ (by simp [strs])]
  rw [List.take_left' (by simp [strs])]
  have e1 : ds.length + [Value.string x].length = (strs ds).length + 1 := by simp [strs]
  rw [e1, ← List.drop_drop, List.drop_left, List.replicate_succ]
  simp [strs]
theorem num_cons {p r : List UInt8} (h : ∀ b ∈ p, b ≠ 47) : Lib.countByte (p ++ 47 :: r) 47 = Lib.countByte r 47 + 1 := by
  unfold Lib.countByte
  rw [List.count_append, List.count_cons_self, List.count_eq_zero.2 (fun hm => h 47 hm rfl)]
  omega
theorem num_no {l : List UInt8} (h : ∀ b ∈ l, b ≠ 47) : Lib.countByte l 47 = 0 := List.count_eq_zero.2 (fun hm => h 47 hm rfl)
theorem num_le (s : ByteArray) : numP s ≤ s.size := by
  have : Lib.countByte s.data.toList 47 ≤ s.data.toList.length := List.count_le_length
  simpa [numP] using this
theorem no_of_num {s : ByteArray} (h : numP s = 0) : ∀ b ∈ s.data.toList, b ≠ 47 := fun b hb e => by
  subst e
  have := List.count_pos_iff.2 hb
  unfold numP Lib.countByte at h
  omega
def partsP (s : ByteArray) : List ByteArray := cutL s.data.toList
theorem parts_len (s : ByteArray) : (partsP s).length = numP s + 1 := cut_len _
theorem gen_fc {w0 : World} {S : SS} {s : ByteArray} (hs : s.size ≤ 1000000000) : FC Tryd.prog w0 91 [.string s, .string slB, .int .i64 0, .int .i64 (-1)] S (resL w0 (partsP s) S) := by
  have hnum := num_le s
  have hsl : slB.size = 1 := rfl
  refine FC.of Tryd.known91 (by simp) ?_
  unfold Tryd.pc91
  simp only [argT]
  refine PW.seqOps ?_
  refine OL.det trivial (Yields.pure rfl) ?_
  refine OL.nil ?_
  refine PW.keep (T' := [(0, _), (1, _), (2, _), (3, _)]) ⟨rfl, rfl, rfl, rfl, trivial⟩ ?_
  refine PW.seq fun K1 hK1 => ?_
  refine PW.seqOps ?_
  refine OL.det trivial (Yields.pure rfl) ?_
  refine OL.det trivial (Yields.pure rfl) ?_
  refine OL.nil ?_
  refine PW.keep (T' := [(0, _), (1, _), (2, _), (3, _), (13, _)]) ⟨rfl, rfl, rfl, rfl, rfl, trivial⟩ ?_
  refine PW.cond rfl (fun c13 => ?_) (fun c13 => ?_)
  · try simp only [decide_eq_true_eq, decide_eq_false_iff_not, beq_iff_eq, bne_iff_ne, beq_eq_false_iff_ne, bne_eq_false_iff_eq, Bool.not_eq_true', Bool.not_eq_false', Bool.not_eq_true, ne_eq, Decidable.not_not] at c13
    exfalso; revert c13; decide
    -- done
  · try simp only [decide_eq_true_eq, decide_eq_false_iff_not, beq_iff_eq, bne_iff_ne, beq_eq_false_iff_ne, bne_eq_false_iff_eq, Bool.not_eq_true', Bool.not_eq_false', Bool.not_eq_true, ne_eq, Decidable.not_not] at c13
    refine PW.skip ?_
    refine hK1 _ _ ?_
    refine PW.keep (T' := [(0, _), (1, _), (2, _), (3, _)]) ⟨rfl, rfl, rfl, rfl, trivial⟩ ?_
    refine PW.seq fun K2 hK2 => ?_
    refine PW.seqOps ?_
    refine OL.det trivial (Yields.pure rfl) ?_
    refine OL.det trivial (Yields.pure rfl) ?_
    refine OL.nil ?_
    refine PW.keep (T' := [(0, _), (1, _), (2, _), (3, _), (15, _)]) ⟨rfl, rfl, rfl, rfl, rfl, trivial⟩ ?_
    refine PW.cond rfl (fun c15 => ?_) (fun c15 => ?_)
    · try simp only [decide_eq_true_eq, decide_eq_false_iff_not, beq_iff_eq, bne_iff_ne, beq_eq_false_iff_ne, bne_eq_false_iff_eq, Bool.not_eq_true', Bool.not_eq_false', Bool.not_eq_true, ne_eq, Decidable.not_not] at c15
      exfalso; have c := toL_inj.1 c15; revert c; decide
      -- done
    · try simp only [decide_eq_true_eq, decide_eq_false_iff_not, beq_iff_eq, bne_iff_ne, beq_eq_false_iff_ne, bne_eq_false_iff_eq, Bool.not_eq_true', Bool.not_eq_false', Bool.not_eq_true, ne_eq, Decidable.not_not] at c15
      refine PW.skip ?_
      refine hK2 _ _ ?_
      refine PW.keep (T' := [(0, _), (1, _), (2, _), (3, _)]) ⟨rfl, rfl, rfl, rfl, trivial⟩ ?_
      refine PW.seq fun K3 hK3 => ?_
      refine PW.seqOps ?_
      refine OL.det trivial (Yields.pure rfl) ?_
      refine OL.det trivial (Yields.pure rfl) ?_
      refine OL.nil ?_
      refine PW.keep (T' := [(0, _), (1, _), (2, _), (3, _), (20, _)]) ⟨rfl, rfl, rfl, rfl, rfl, trivial⟩ ?_
      refine PW.cond rfl (fun c20 => ?_) (fun c20 => ?_)
      · try simp only [decide_eq_true_eq, decide_eq_false_iff_not, beq_iff_eq, bne_iff_ne, beq_eq_false_iff_ne, bne_eq_false_iff_eq, Bool.not_eq_true', Bool.not_eq_false', Bool.not_eq_true, ne_eq, Decidable.not_not] at c20
        refine PW.ops ?_
        refine OL.det trivial (Yields.pure rfl) ?_
        refine OL.det trivial (Yields.pure rfl) ?_
        refine OL.call trivial rfl (count_fc) ?_
        rintro _ Sx ⟨rfl, hSx⟩
        rw [hSx]
        clear hSx
        refine OL.det trivial (Yields.add64 rfl rfl (by omega) (by omega)) ?_
        refine OL.det trivial (Yields.pure rfl) ?_
        refine OL.nil ?_
        refine hK3 _ _ ?_
        refine PW.keep (T' := [(0, _), (1, _), (2, _), (3, _)]) ⟨rfl, rfl, rfl, rfl, trivial⟩ ?_
        refine PW.seqOps ?_
        refine OL.det trivial (Yields.pure rfl) ?_
        refine OL.det trivial (Yields.pure rfl) ?_
        refine OL.det trivial (Yields.pure rfl) ?_
        refine OL.det trivial (Yields.add64 rfl rfl (by omega) (by omega)) ?_
        refine OL.det trivial (Yields.to (v' := .int .i64 ((numP s + 1 : Nat) : Int)) (Yields.pure rfl) (by congr 1; simp only [Bool.false_eq_true, if_false]; split <;> omega)) ?_
        refine OL.det trivial (Yields.pure rfl) ?_
        refine OL.nil ?_
        refine PW.keep (T' := [(0, _), (1, _), (2, _), (3, _)]) ⟨rfl, rfl, rfl, rfl, trivial⟩ ?_
        refine PW.seqOps ?_
        refine OL.det trivial (Yields.pure rfl) ?_
        refine OL.cons trivial (OW.mkS_full (m := numP s + 1) rfl rfl (by omega) (by unfold maxLen; omega)) ?_
        rintro _ _ ⟨r9, rfl, rfl⟩
        rw [made1 _ rfl]
        refine OL.det trivial (Yields.pure rfl) ?_
        refine OL.nil ?_
        refine PW.keep (T' := [(0, _), (1, _), (2, _), (3, _), (9, _)]) ⟨rfl, rfl, rfl, rfl, rfl, trivial⟩ ?_
        refine PW.seqOps ?_
        refine OL.det trivial (Yields.pure rfl) ?_
        refine OL.det trivial (Yields.to (v' := .int .i64 (numP s : Int)) (Yields.sub64 rfl rfl (by omega) (by omega)) (by congr 1; omega)) ?_
        refine OL.det trivial (Yields.pure rfl) ?_
        refine OL.nil ?_
        refine PW.keep (T' := [(0, _), (1, _), (2, _), (3, _), (9, _)]) ⟨rfl, rfl, rfl, rfl, rfl, trivial⟩ ?_
        refine PW.seqOps ?_
        refine OL.det trivial (Yields.pure rfl) ?_
        refine OL.nil ?_
        refine PW.keep (T' := [(0, _), (1, _), (2, _), (3, _), (9, _), (10, _)]) ⟨rfl, rfl, rfl, rfl, rfl, rfl, trivial⟩ ?_
        refine PW.seq fun K4 hK4 => ?_
        refine PW.block ?_
        refine PW.keep (T' := [(0, _), (1, _), (2, _), (3, _), (9, _), (10, _)]) ⟨rfl, rfl, rfl, rfl, rfl, rfl, trivial⟩ ?_
        refine PW.loopK (I := fun m T S' => ∃ (t : ByteArray) (ds : List ByteArray), (cutL s.data.toList = ds ++ cutL t.data.toList ∧ ds.length + numP t = numP s ∧ t.size ≤ s.size ∧ m = numP t) ∧ T = ([(0, .string t), (1, .string slB), (2, .int .i64 0), (3, .int .i64 (numP s : Int)), (9, .slice (some ⟨r9, 0, none⟩) (numP s + 1) (numP s + 1)), (10, .int .i64 (ds.length : Int))] : TT) ∧ S' = [(r9, .cells (strs ds ++ List.replicate (numP t + 1) (.string ⟨#[]⟩)) 9 ((numP s + 1) * 1))] :: S) (m := numP s) ⟨s, [], ⟨rfl, by simp, by omega, rfl⟩, rfl, rfl⟩ ?_
        rintro m _ _ ⟨t, ds, ⟨hcut, hdn, hts, hm⟩, rfl, rfl⟩
        refine PW.seq fun K5 hK5 => ?_
        refine PW.seqOps ?_
        refine OL.det trivial (Yields.pure rfl) ?_
        refine OL.det trivial (Yields.pure rfl) ?_
        refine OL.det trivial (Yields.pure rfl) ?_
        refine OL.nil ?_
        refine PW.keep (T' := [(0, _), (1, _), (2, _), (3, _), (9, _), (10, _), (36, _)]) ⟨rfl, rfl, rfl, rfl, rfl, rfl, rfl, trivial⟩ ?_
        refine PW.cond rfl (fun c36 => ?_) (fun c36 => ?_)
        · try simp only [decide_eq_true_eq, decide_eq_false_iff_not, beq_iff_eq, bne_iff_ne, beq_eq_false_iff_ne, bne_eq_false_iff_eq, Bool.not_eq_true', Bool.not_eq_false', Bool.not_eq_true, ne_eq, Decidable.not_not] at c36
          refine PW.skip ?_
          refine hK5 _ _ ?_
          refine PW.keep (T' := [(0, _), (1, _), (2, _), (3, _), (9, _), (10, _)]) ⟨rfl, rfl, rfl, rfl, rfl, rfl, trivial⟩ ?_
          refine PW.block ?_
          refine PW.seqOps ?_
          refine OL.det trivial (Yields.pure rfl) ?_
          refine OL.det trivial (Yields.pure rfl) ?_
          refine OL.call trivial rfl (sindex_fc) ?_
          rintro _ _ ⟨rfl, rfl⟩
          refine OL.det trivial (Yields.pure rfl) ?_
          refine OL.nil ?_
          refine PW.keep (T' := [(0, _), (1, _), (2, _), (3, _), (9, _), (10, _), (11, _)]) ⟨rfl, rfl, rfl, rfl, rfl, rfl, rfl, trivial⟩ ?_
          refine PW.seq fun K6 hK6 => ?_
          refine PW.seqOps ?_
          refine OL.det trivial (Yields.pure rfl) ?_
          refine OL.det trivial (Yields.pure rfl) ?_
          refine OL.nil ?_
          refine PW.keep (T' := [(0, _), (1, _), (2, _), (3, _), (9, _), (10, _), (11, _), (41, _)]) ⟨rfl, rfl, rfl, rfl, rfl, rfl, rfl, rfl, trivial⟩ ?_
          refine PW.cond rfl (fun c41 => ?_) (fun c41 => ?_)
          · try simp only [decide_eq_true_eq, decide_eq_false_iff_not, beq_iff_eq, bne_iff_ne, beq_eq_false_iff_ne, bne_eq_false_iff_eq, Bool.not_eq_true', Bool.not_eq_false', Bool.not_eq_true, ne_eq, Decidable.not_not] at c41
            exfalso; have := num_no ((idx_spec t).2 (by omega)); unfold numP at *; omega
            -- done
          · try simp only [decide_eq_true_eq, decide_eq_false_iff_not, beq_iff_eq, bne_iff_ne, beq_eq_false_iff_ne, bne_eq_false_iff_eq, Bool.not_eq_true', Bool.not_eq_false', Bool.not_eq_true, ne_eq, Decidable.not_not] at c41
            obtain ⟨p, r, ht, hp, hi⟩ := (idx_spec t).1 (by omega)
            have htl : t.size = p.length + 1 + r.length := by have := congrArg List.length ht; simp at this; omega
            have hnt : numP t = Lib.countByte r 47 + 1 := by unfold numP; rw [ht]; exact num_cons hp
            have hex : t.extract 0 p.length = ⟨p.toArray⟩ := ba_ext (by rw [ext_list, ht]; simp)
            have hex2 : (t.extract (p.length + 1) t.size).data.toList = r := by
              rw [ext_list, ht, htl, show p ++ 47 :: r = (p ++ [47]) ++ r by simp, List.take_of_length_le (by simp; omega), List.drop_left' (by simp)]
            refine PW.skip ?_
            refine hK6 _ _ ?_
            refine PW.keep (T' := [(0, _), (1, _), (2, _), (3, _), (9, _), (10, _), (11, _)]) ⟨rfl, rfl, rfl, rfl, rfl, rfl, rfl, trivial⟩ ?_
            refine PW.seqOps ?_
            refine OL.det trivial (Yields.pure rfl) ?_
            refine OL.det trivial (Yields.pure rfl) ?_
            refine OL.det trivial (Yields.pure rfl) ?_
            refine OL.det trivial (Yields.pure rfl) ?_
            refine OL.det trivial (Yields.pure rfl) ?_
            refine OL.det trivial (Yields.to (v' := .int .i64 (p.length : Int)) (Yields.add64 rfl rfl (by omega) (by omega)) (by congr 1; omega)) ?_
            refine OL.det trivial (Yields.slStr (s := t) (l := 0) (h := p.length) rfl rfl rfl (.inr ⟨rfl, rfl⟩) (.inl rfl) (by omega) (by omega)) ?_
            refine OL.det trivial (Yields.to (v' := .pointer (some ⟨r9, ds.length, none⟩)) (Yields.ixN1 rfl rfl rfl (by omega)) (by rw [add_own])) ?_
            refine OL.cons trivial (OW.st (k := 0) (u := .string (t.extract 0 p.length)) rfl rfl rfl rfl (by simp [strs]) rfl) ?_
            rintro _ _ rfl
            rw [setAt_mid]
            refine OL.nil ?_
            refine PW.keep (T' := [(0, _), (1, _), (2, _), (3, _), (9, _), (10, _), (11, _)]) ⟨rfl, rfl, rfl, rfl, rfl, rfl, rfl, trivial⟩ ?_
            refine PW.seqOps ?_
            refine OL.det trivial (Yields.pure rfl) ?_
            refine OL.det trivial (Yields.pure rfl) ?_
            refine OL.det trivial (Yields.pure rfl) ?_
            refine OL.det trivial (Yields.pure rfl) ?_
            refine OL.det trivial (Yields.to (v' := .int .i64 ((p.length + 1 : Nat) : Int)) (Yields.add64 rfl rfl (by rw [hsl]; omega) (by rw [hsl]; omega)) (by congr 1; rw [hsl]; omega)) ?_
            refine OL.det trivial (Yields.slStr (s := t) (l := p.length + 1) (h := t.size) rfl rfl rfl (.inl rfl) (.inr ⟨rfl, rfl⟩) (by omega) (by omega)) ?_
            refine OL.det trivial (Yields.pure rfl) ?_
            refine OL.nil ?_
            refine PW.keep (T' := [(0, _), (1, _), (2, _), (3, _), (9, _), (10, _)]) ⟨rfl, rfl, rfl, rfl, rfl, rfl, trivial⟩ ?_
            refine PW.ops ?_
            refine OL.det trivial (Yields.pure rfl) ?_
            refine OL.det trivial (Yields.add64 rfl rfl (by omega) (by omega)) ?_
            refine OL.det trivial (Yields.pure rfl) ?_
            refine OL.nil ?_
            repeat rw [inBlk_n]
            rw [thenK_n]
            refine LoopEnd.mk (T'' := [(0, _), (1, _), (2, _), (3, _), (9, _), (10, _)]) ⟨rfl, rfl, rfl, rfl, rfl, rfl, trivial⟩ ?_
            have e3 : numP (t.extract (p.length + 1) t.size) + 1 = numP t := by unfold numP; rw [hex2, ht, num_cons hp]
            refine ⟨numP (t.extract (p.length + 1) t.size), by omega, t.extract (p.length + 1) t.size, ds ++ [t.extract 0 p.length], ⟨?_, by simp; omega, by simp; omega, rfl⟩, by simp, ?_⟩
            · rw [hcut, ht, cut_cons p r hp, hex2, hex]; simp
            · rw [e3]; rfl
        · try simp only [decide_eq_true_eq, decide_eq_false_iff_not, beq_iff_eq, bne_iff_ne, beq_eq_false_iff_ne, bne_eq_false_iff_eq, Bool.not_eq_true', Bool.not_eq_false', Bool.not_eq_true, ne_eq, Decidable.not_not] at c36
          refine PW.exit ?_
          refine hK4 _ _ ?_
          refine PW.keep (T' := [(0, _), (9, _), (10, _)]) ⟨rfl, rfl, rfl, trivial⟩ ?_
          refine PW.seqOps ?_
          have hz : numP t = 0 := by omega
          rw [hz]
          refine OL.det trivial (Yields.pure rfl) ?_
          refine OL.det trivial (Yields.pure rfl) ?_
          refine OL.det trivial (Yields.pure rfl) ?_
          refine OL.det trivial (Yields.to (v' := .pointer (some ⟨r9, ds.length, none⟩)) (Yields.ixN1 rfl rfl rfl (by omega)) (by rw [add_own])) ?_
          refine OL.cons trivial (OW.st (k := 0) (u := .string t) rfl rfl rfl rfl (by simp [strs]) rfl) ?_
          rintro _ _ rfl
          rw [setAt_mid, List.replicate_zero, List.append_nil]
          refine OL.nil ?_
          refine PW.keep (T' := [(9, _), (10, _)]) ⟨rfl, rfl, trivial⟩ ?_
          refine PW.seqOps ?_
          refine OL.det trivial (Yields.pure rfl) ?_
          refine OL.det trivial (Yields.pure rfl) ?_
          refine OL.det trivial (Yields.to (v' := .int .i64 ((ds.length + 1 : Nat) : Int)) (Yields.add64 rfl rfl (by omega) (by omega)) (by congr 1)) ?_
          refine OL.det trivial (Yields.slS (l := 0) (h := ds.length + 1) rfl rfl rfl (.inr ⟨rfl, rfl⟩) (.inl rfl) (by omega) (by omega)) ?_
          rw [cutV0]
          refine OL.det trivial (Yields.pure rfl) ?_
          refine OL.nil ?_
          refine PW.keep (T' := [(8, _)]) ⟨rfl, trivial⟩ ?_
          refine PW.ret ?_
          change (Exit.ret = Exit.normal ∨ Exit.ret = Exit.ret) ∧ ∃ v, resV _ _ = some v ∧ _
          have he : partsP s = ds ++ [t] := by
            unfold partsP
            rw [hcut, cut_no _ (no_of_num hz)]
          have hlen : (partsP s).length = ds.length + 1 := by rw [he]; simp
          exact ⟨.inr rfl, _, rfl, some ⟨r9, 0, none⟩, numP s + 1, _, by rw [hlen], rfl, fun S2 => by
            rw [he]
            exact (Rd.own (xs := strs (ds ++ [t])) (E := 9) (tot := (numP s + 1) * 1) (by simp))⟩
      · try simp only [decide_eq_true_eq, decide_eq_false_iff_not, beq_iff_eq, bne_iff_ne, beq_eq_false_iff_ne, bne_eq_false_iff_eq, Bool.not_eq_true', Bool.not_eq_false', Bool.not_eq_true, ne_eq, Decidable.not_not] at c20
        exfalso; revert c20; decide
        -- done
theorem split_fc {w0 : World} {S : SS} {s : ByteArray} (hs : s.size ≤ 1000000000) : FC Tryd.prog w0 64 [.string s, .string slB] S (resL w0 (partsP s) S) := by
  refine FC.of Tryd.known64 (by simp) ?_
  unfold Tryd.pc64
  simp only [argT]
  refine PW.seqOps ?_
  refine OL.det trivial (Yields.pure rfl) ?_
  refine OL.nil ?_
  refine PW.keep (T' := [(0, _), (1, _)]) ⟨rfl, rfl, trivial⟩ ?_
  refine PW.seqOps ?_
  refine OL.det trivial (Yields.pure rfl) ?_
  refine OL.det trivial (Yields.pure rfl) ?_
  refine OL.call trivial rfl (gen_fc hs) ?_
  rintro _ _ ⟨A, cap, seg, rfl, rfl, hrd⟩
  refine OL.det trivial (Yields.pure rfl) ?_
  refine OL.nil ?_
  refine PW.keep (T' := [(4, _)]) ⟨rfl, trivial⟩ ?_
  refine PW.ret ?_
  change (Exit.ret = Exit.normal ∨ Exit.ret = Exit.ret) ∧ ∃ v, resV _ _ = some v ∧ _
  exact ⟨.inr rfl, _, rfl, A, cap, seg, rfl, rfl, hrd⟩
end Go.Proofs

set_option linter.unusedVariables false
set_option linter.unusedSimpArgs false
namespace Go.Proofs
open Go.SL Go.RowKit
set_option maxHeartbeats 1000000
theorem cut_size : ∀ (l : List UInt8) (x : ByteArray), x ∈ cutL l → x.size ≤ l.length
  | [], x, h => by simp [cutL] at h; subst h; exact Nat.zero_le _
  | b :: r, x, h => by
    simp only [cutL] at h
    split at h
    · rcases List.mem_cons.1 h with rfl | h
      · exact Nat.zero_le _
      · have := cut_size r x h; simp; omega
    · split at h
      · rename_i y ys e
        rcases List.mem_cons.1 h with rfl | h
        · have := cut_size r y (by rw [e]; simp)
          have e1 : y.data.toList.length = y.size := by simp
          show (b :: y.data.toList).toArray.size ≤ _
          simp only [List.size_toArray, List.length_cons]; omega
        · have := cut_size r x (by rw [e]; simp [h]); simp; omega
      · cases h
theorem parts_size {s x : ByteArray} (h : x ∈ partsP s) : x.size ≤ s.size := by
  have := cut_size _ _ h
  simpa using this
def isP (s : ByteArray) : Bool := decide (s.size ≤ 60) && decide ((partsP s).length ≤ 8) && (partsP s).all partP
def chkP (s : ByteArray) : Int := if isP s = true then 0 else 15
def prefP (s : ByteArray) : Int := if s = ⟨#[]⟩ then 0 else chkP s
theorem any_not (ls : List ByteArray) : (ls.any fun s => !(partP s)) = !(ls.all partP) := by rw [List.any_eq_not_all_not]; simp
theorem parts_len_le (s : ByteArray) : (partsP s).length ≤ s.size + 1 := by rw [parts_len]; have := num_le s; omega
theorem is_fc {w0 : World} {S : SS} {s : ByteArray} (hs : s.size ≤ 1000000000) : FC Tryd.prog w0 63 [.string s] S (fun v S' => v = .bool (isP s) ∧ S' = S) := by
  refine FC.ofD Tryd.known63 (by simp) ?_
  unfold Tryd.pc63
  simp only [argT]
  refine PW.seqOps ?_
  refine OL.det trivial (Yields.pure rfl) ?_
  refine OL.nil ?_
  refine PW.keep (T' := [(0, _)]) ⟨rfl, trivial⟩ ?_
  refine PW.seq fun K1 hK1 => ?_
  refine PW.seqOps ?_
  refine OL.det trivial (Yields.pure rfl) ?_
  refine OL.det trivial (Yields.pure rfl) ?_
  refine OL.det trivial (Yields.pure rfl) ?_
  refine OL.nil ?_
  refine PW.keep (T' := [(0, _), (6, _)]) ⟨rfl, rfl, trivial⟩ ?_
  refine PW.cond rfl (fun c6 => ?_) (fun c6 => ?_)
  · try simp only [decide_eq_true_eq, decide_eq_false_iff_not, beq_iff_eq, bne_iff_ne, beq_eq_false_iff_ne, bne_eq_false_iff_eq, Bool.not_eq_true', Bool.not_eq_false', Bool.not_eq_true, ne_eq, Decidable.not_not] at c6
    refine PW.seqOps ?_
    refine OL.det trivial (Yields.pure rfl) ?_
    refine OL.nil ?_
    refine PW.keep (T' := [(2, _)]) ⟨rfl, trivial⟩ ?_
    refine PW.ret ?_
    change (Exit.ret = Exit.normal ∨ Exit.ret = Exit.ret) ∧ ∃ v, resV _ _ = some v ∧ _
    exact ⟨.inr rfl, _, rfl, _, Sub.refl _, by unfold isP; rw [show decide (s.size ≤ 60) = false from decide_eq_false (by omega)]; rfl, rfl⟩
  · try simp only [decide_eq_true_eq, decide_eq_false_iff_not, beq_iff_eq, bne_iff_ne, beq_eq_false_iff_ne, bne_eq_false_iff_eq, Bool.not_eq_true', Bool.not_eq_false', Bool.not_eq_true, ne_eq, Decidable.not_not] at c6
    refine PW.skip ?_
    refine hK1 _ _ ?_
    refine PW.keep (T' := [(0, _)]) ⟨rfl, trivial⟩ ?_
    refine PW.seqOps ?_
    refine OL.det trivial (Yields.pure rfl) ?_
    refine OL.call trivial rfl (split_fc hs) ?_
    rintro _ _ ⟨A, cap, seg, rfl, rfl, hrd⟩
    refine OL.det trivial (Yields.pure rfl) ?_
    refine OL.nil ?_
    refine PW.keep (T' := [(3, _)]) ⟨rfl, trivial⟩ ?_
    refine PW.seqOps ?_
    refine OL.det trivial (Yields.pure rfl) ?_
    refine OL.det trivial (Yields.pure rfl) ?_
    refine OL.det trivial (Yields.pure rfl) ?_
    refine OL.bool trivial (Yields.pure rfl) (fun g12 => ?_) (fun g12 => ?_)
    · try simp only [decide_eq_true_eq, decide_eq_false_iff_not, beq_iff_eq, bne_iff_ne, beq_eq_false_iff_ne, bne_eq_false_iff_eq, Bool.not_eq_true', Bool.not_eq_false', Bool.not_eq_true, ne_eq, Decidable.not_not] at g12
      refine OL.det rfl (Yields.pure rfl) ?_
      refine OL.call rfl rfl (contains_fc (q := fun s => !(partP s)) (hrd S) (by have := parts_len_le s; omega) (by kernel_rfl) (fun x hx => is1_fc (by have := parts_size hx; omega))) ?_
      rintro _ Sx ⟨rfl, hSx⟩
      rw [hSx]
      clear hSx
      refine OL.det rfl (Yields.pure rfl) ?_
      refine OL.det trivial (Yields.pure rfl) ?_
      refine OL.det trivial (Yields.pure rfl) ?_
      refine OL.nil ?_
      refine PW.keep (T' := [(2, _)]) ⟨rfl, trivial⟩ ?_
      refine PW.ret ?_
      change (Exit.ret = Exit.normal ∨ Exit.ret = Exit.ret) ∧ ∃ v, resV _ _ = some v ∧ _
      have h60 : decide (s.size ≤ 60) = true := decide_eq_true (by omega)
      first
        | (have h8 : decide ((partsP s).length ≤ 8) = true := decide_eq_true (by omega)
           exact ⟨.inr rfl, _, rfl, _, Sub.drop (Sub.refl _), by unfold isP; rw [h60, h8, any_not]; simp, rfl⟩)
        | (have h8 : decide ((partsP s).length ≤ 8) = false := decide_eq_false (by omega)
           exact ⟨.inr rfl, _, rfl, _, Sub.drop (Sub.refl _), by unfold isP; rw [h60, h8]; rfl, rfl⟩)
    · try simp only [decide_eq_true_eq, decide_eq_false_iff_not, beq_iff_eq, bne_iff_ne, beq_eq_false_iff_ne, bne_eq_false_iff_eq, Bool.not_eq_true', Bool.not_eq_false', Bool.not_eq_true, ne_eq, Decidable.not_not] at g12
      refine OL.off rfl rfl ?_
      refine OL.off rfl rfl ?_
      refine OL.off rfl rfl ?_
      refine OL.det trivial (Yields.pure rfl) ?_
      refine OL.det trivial (Yields.pure rfl) ?_
      refine OL.nil ?_
      refine PW.keep (T' := [(2, _)]) ⟨rfl, trivial⟩ ?_
      refine PW.ret ?_
      change (Exit.ret = Exit.normal ∨ Exit.ret = Exit.ret) ∧ ∃ v, resV _ _ = some v ∧ _
      have h60 : decide (s.size ≤ 60) = true := decide_eq_true (by omega)
      first
        | (have h8 : decide ((partsP s).length ≤ 8) = true := decide_eq_true (by omega)
           exact ⟨.inr rfl, _, rfl, _, Sub.drop (Sub.refl _), by unfold isP; rw [h60, h8, any_not]; simp, rfl⟩)
        | (have h8 : decide ((partsP s).length ≤ 8) = false := decide_eq_false (by omega)
           exact ⟨.inr rfl, _, rfl, _, Sub.drop (Sub.refl _), by unfold isP; rw [h60, h8]; rfl, rfl⟩)
theorem check_fc {w0 : World} {S : SS} {s : ByteArray} (hs : s.size ≤ 1000000000) : FC Tryd.prog w0 29 [.string s] S (fun v S' => v = .int .i64 (chkP s) ∧ S' = S) := by
  refine FC.of Tryd.known29 (by simp) ?_
  unfold Tryd.pc29
  simp only [argT]
  refine PW.seqOps ?_
  refine OL.det trivial (Yields.pure rfl) ?_
  refine OL.nil ?_
  refine PW.keep (T' := [(0, _)]) ⟨rfl, trivial⟩ ?_
  refine PW.seq fun K1 hK1 => ?_
  refine PW.seqOps ?_
  refine OL.det trivial (Yields.pure rfl) ?_
  refine OL.call trivial rfl (is_fc hs) ?_
  rintro _ Sx ⟨rfl, hSx⟩
  rw [hSx]
  clear hSx
  refine OL.det trivial (Yields.pure rfl) ?_
  refine OL.nil ?_
  refine PW.keep (T' := [(5, _)]) ⟨rfl, trivial⟩ ?_
  refine PW.cond rfl (fun c5 => ?_) (fun c5 => ?_)
  · try simp only [decide_eq_true_eq, decide_eq_false_iff_not, beq_iff_eq, bne_iff_ne, beq_eq_false_iff_ne, bne_eq_false_iff_eq, Bool.not_eq_true', Bool.not_eq_false', Bool.not_eq_true, ne_eq, Decidable.not_not] at c5
    refine PW.seqOps ?_
    refine OL.det trivial (Yields.pure rfl) ?_
    refine OL.nil ?_
    refine PW.keep (T' := [(2, _)]) ⟨rfl, trivial⟩ ?_
    refine PW.ret ?_
    change (Exit.ret = Exit.normal ∨ Exit.ret = Exit.ret) ∧ ∃ v, resV _ _ = some v ∧ _
    exact ⟨.inr rfl, _, rfl, by unfold chkP; rw [if_neg (by rw [c5]; simp)], rfl⟩
  · try simp only [decide_eq_true_eq, decide_eq_false_iff_not, beq_iff_eq, bne_iff_ne, beq_eq_false_iff_ne, bne_eq_false_iff_eq, Bool.not_eq_true', Bool.not_eq_false', Bool.not_eq_true, ne_eq, Decidable.not_not] at c5
    refine PW.skip ?_
    refine hK1 _ _ ?_
    refine PW.keep (T' := []) trivial ?_
    refine PW.seqOps ?_
    refine OL.det trivial (Yields.pure rfl) ?_
    refine OL.nil ?_
    refine PW.keep (T' := [(2, _)]) ⟨rfl, trivial⟩ ?_
    refine PW.ret ?_
    change (Exit.ret = Exit.normal ∨ Exit.ret = Exit.ret) ∧ ∃ v, resV _ _ = some v ∧ _
    exact ⟨.inr rfl, _, rfl, by unfold chkP; rw [if_pos (by simpa using c5)], rfl⟩
theorem pref_fc {w0 : World} {S : SS} {s : ByteArray} (hs : s.size ≤ 1000000000) : FC Tryd.prog w0 31 [.string s] S (fun v S' => v = .int .i64 (prefP s) ∧ S' = S) := by
  refine FC.of Tryd.known31 (by simp) ?_
  unfold Tryd.pc31
  simp only [argT]
  refine PW.seqOps ?_
  refine OL.det trivial (Yields.pure rfl) ?_
  refine OL.nil ?_
  refine PW.keep (T' := [(0, _)]) ⟨rfl, trivial⟩ ?_
  refine PW.seq fun K1 hK1 => ?_
  refine PW.seqOps ?_
  refine OL.det trivial (Yields.pure rfl) ?_
  refine OL.det trivial (Yields.pure rfl) ?_
  refine OL.nil ?_
  refine PW.keep (T' := [(0, _), (4, _)]) ⟨rfl, rfl, trivial⟩ ?_
  refine PW.cond rfl (fun c4 => ?_) (fun c4 => ?_)
  · try simp only [decide_eq_true_eq, decide_eq_false_iff_not, beq_iff_eq, bne_iff_ne, beq_eq_false_iff_ne, bne_eq_false_iff_eq, Bool.not_eq_true', Bool.not_eq_false', Bool.not_eq_true, ne_eq, Decidable.not_not] at c4
    refine PW.seqOps ?_
    refine OL.det trivial (Yields.pure rfl) ?_
    refine OL.nil ?_
    refine PW.keep (T' := [(2, _)]) ⟨rfl, trivial⟩ ?_
    refine PW.ret ?_
    change (Exit.ret = Exit.normal ∨ Exit.ret = Exit.ret) ∧ ∃ v, resV _ _ = some v ∧ _
    exact ⟨.inr rfl, _, rfl, by unfold prefP; rw [if_pos (toL_inj.1 c4)], rfl⟩
  · try simp only [decide_eq_true_eq, decide_eq_false_iff_not, beq_iff_eq, bne_iff_ne, beq_eq_false_iff_ne, bne_eq_false_iff_eq, Bool.not_eq_true', Bool.not_eq_false', Bool.not_eq_true, ne_eq, Decidable.not_not] at c4
    refine PW.skip ?_
    refine hK1 _ _ ?_
    refine PW.keep (T' := [(0, _)]) ⟨rfl, trivial⟩ ?_
    refine PW.seqOps ?_
    refine OL.det trivial (Yields.pure rfl) ?_
    refine OL.call trivial rfl (check_fc hs) ?_
    rintro _ Sx ⟨rfl, hSx⟩
    rw [hSx]
    clear hSx
    refine OL.det trivial (Yields.pure rfl) ?_
    refine OL.nil ?_
    refine PW.keep (T' := [(2, _)]) ⟨rfl, trivial⟩ ?_
    refine PW.ret ?_
    change (Exit.ret = Exit.normal ∨ Exit.ret = Exit.ret) ∧ ∃ v, resV _ _ = some v ∧ _
    exact ⟨.inr rfl, _, rfl, by unfold prefP; rw [if_neg (fun e => c4 (toL_inj.2 e))], rfl⟩
end Go.Proofs

set_option linter.unusedVariables false
set_option linter.unusedSimpArgs false
namespace Go.Proofs
open Go.SL Go.RowKit
set_option maxHeartbeats 1000000
def underP (p s : ByteArray) : Bool := isP s && decide (prefP p = 0) && (decide (p = ⟨#[]⟩) || decide (p = s) || startsB s (p ++ slB))
theorem starts_iff (s q : ByteArray) : startsB s q = true ↔ q.data.toList <+: s.data.toList := by
  unfold startsB
  rw [Bool.and_eq_true, decide_eq_true_eq, decide_eq_true_eq]
  have h1 : q.data.toList.length = q.size := by simp
  have h2 : s.data.toList.length = s.size := by simp
  constructor
  · rintro ⟨h, e⟩
    have := congrArg (fun x : ByteArray => x.data.toList) e
    simp only [ext_list, List.drop_zero] at this
    rw [← this]
    exact List.take_prefix _ _
  · rintro h
    have hl := h.length_le
    refine ⟨by omega, ba_ext ?_⟩
    rw [ext_list, List.drop_zero, ← h1]
    exact (List.prefix_iff_eq_take.1 h).symm
theorem under_fc {w0 : World} {S : SS} {p s : ByteArray} (hp : p.size ≤ 1000000000) (hs : s.size ≤ 1000000000) : FC Tryd.prog w0 36 [.string p, .string s] S (fun v S' => v = .bool (underP p s) ∧ S' = S) := by
  refine FC.of Tryd.known36 (by simp) ?_
  unfold Tryd.pc36
  simp only [argT]
  refine PW.seqOps ?_
  refine OL.det trivial (Yields.pure rfl) ?_
  refine OL.nil ?_
  refine PW.keep (T' := [(0, _), (1, _)]) ⟨rfl, rfl, trivial⟩ ?_
  refine PW.seq fun K1 hK1 => ?_
  refine PW.seqOps ?_
  refine OL.det trivial (Yields.pure rfl) ?_
  refine OL.call trivial rfl (is_fc hs) ?_
  rintro _ Sx ⟨rfl, hSx⟩
  rw [hSx]
  clear hSx
  refine OL.det trivial (Yields.pure rfl) ?_
  refine OL.bool trivial (Yields.pure rfl) (fun g8 => ?_) (fun g8 => ?_)
  · try simp only [decide_eq_true_eq, decide_eq_false_iff_not, beq_iff_eq, bne_iff_ne, beq_eq_false_iff_ne, bne_eq_false_iff_eq, Bool.not_eq_true', Bool.not_eq_false', Bool.not_eq_true, ne_eq, Decidable.not_not] at g8
    refine OL.off rfl rfl ?_
    refine OL.off rfl rfl ?_
    refine OL.off rfl rfl ?_
    refine OL.det trivial (Yields.pure rfl) ?_
    refine OL.nil ?_
    refine PW.keep (T' := [(0, _), (1, _), (12, _)]) ⟨rfl, rfl, rfl, trivial⟩ ?_
    refine PW.ite (b := true) rfl ?_
    rw [if_pos rfl]
    refine PW.seqOps ?_
    refine OL.det trivial (Yields.pure rfl) ?_
    refine OL.nil ?_
    refine PW.keep (T' := [(4, _)]) ⟨rfl, trivial⟩ ?_
    refine PW.ret ?_
    change (Exit.ret = Exit.normal ∨ Exit.ret = Exit.ret) ∧ ∃ v, resV _ _ = some v ∧ _
    exact ⟨.inr rfl, _, rfl, by unfold underP; first | (rw [show isP s = false by simpa using g8]; rfl) | (rw [show decide (prefP p = 0) = false from decide_eq_false (by simpa using c12), Bool.and_false]; rfl), rfl⟩
  · try simp only [decide_eq_true_eq, decide_eq_false_iff_not, beq_iff_eq, bne_iff_ne, beq_eq_false_iff_ne, bne_eq_false_iff_eq, Bool.not_eq_true', Bool.not_eq_false', Bool.not_eq_true, ne_eq, Decidable.not_not] at g8
    refine OL.det rfl (Yields.pure rfl) ?_
    refine OL.call rfl rfl (pref_fc hp) ?_
    rintro _ Sx ⟨rfl, hSx⟩
    rw [hSx]
    clear hSx
    refine OL.det rfl (Yields.pure rfl) ?_
    refine OL.det trivial (Yields.pure rfl) ?_
    refine OL.nil ?_
    refine PW.keep (T' := [(0, _), (1, _), (12, _)]) ⟨rfl, rfl, rfl, trivial⟩ ?_
    refine PW.cond rfl (fun c12 => ?_) (fun c12 => ?_)
    · try simp only [decide_eq_true_eq, decide_eq_false_iff_not, beq_iff_eq, bne_iff_ne, beq_eq_false_iff_ne, bne_eq_false_iff_eq, Bool.not_eq_true', Bool.not_eq_false', Bool.not_eq_true, ne_eq, Decidable.not_not] at c12
      refine PW.seqOps ?_
      refine OL.det trivial (Yields.pure rfl) ?_
      refine OL.nil ?_
      refine PW.keep (T' := [(4, _)]) ⟨rfl, trivial⟩ ?_
      refine PW.ret ?_
      change (Exit.ret = Exit.normal ∨ Exit.ret = Exit.ret) ∧ ∃ v, resV _ _ = some v ∧ _
      exact ⟨.inr rfl, _, rfl, by unfold underP; first | (rw [show isP s = false by simpa using g8]; rfl) | (rw [show decide (prefP p = 0) = false from decide_eq_false (by simpa using c12), Bool.and_false]; rfl), rfl⟩
    · try simp only [decide_eq_true_eq, decide_eq_false_iff_not, beq_iff_eq, bne_iff_ne, beq_eq_false_iff_ne, bne_eq_false_iff_eq, Bool.not_eq_true', Bool.not_eq_false', Bool.not_eq_true, ne_eq, Decidable.not_not] at c12
      refine PW.skip ?_
      refine hK1 _ _ ?_
      refine PW.keep (T' := [(0, _), (1, _)]) ⟨rfl, rfl, trivial⟩ ?_
      refine PW.seqOps ?_
      refine OL.det trivial (Yields.pure rfl) ?_
      refine OL.det trivial (Yields.pure rfl) ?_
      refine OL.bool trivial (Yields.pure rfl) (fun g15 => ?_) (fun g15 => ?_)
      · try simp only [decide_eq_true_eq, decide_eq_false_iff_not, beq_iff_eq, bne_iff_ne, beq_eq_false_iff_ne, bne_eq_false_iff_eq, Bool.not_eq_true', Bool.not_eq_false', Bool.not_eq_true, ne_eq, Decidable.not_not] at g15
        rw [toL_inj] at g15
        refine OL.off rfl rfl ?_
        refine OL.off rfl rfl ?_
        refine OL.off rfl rfl ?_
        refine OL.det trivial (Yields.pure rfl) ?_
        refine OL.det trivial (Yields.pure rfl) ?_
        refine OL.off rfl rfl ?_
        refine OL.off rfl rfl ?_
        refine OL.off rfl rfl ?_
        refine OL.off rfl rfl ?_
        refine OL.det trivial (Yields.pure rfl) ?_
        refine OL.det trivial (Yields.pure rfl) ?_
        refine OL.nil ?_
        refine PW.keep (T' := [(4, _)]) ⟨rfl, trivial⟩ ?_
        refine PW.ret ?_
        change (Exit.ret = Exit.normal ∨ Exit.ret = Exit.ret) ∧ ∃ v, resV _ _ = some v ∧ _
        have h1 : isP s = true := by simpa using g8
        have h2 : decide (prefP p = 0) = true := decide_eq_true (by simpa using c12)
        refine ⟨.inr rfl, _, rfl, congrArg Value.bool ?_, rfl⟩
        unfold underP
        rw [h1, h2]
        first | (rw [show decide (p = ⟨#[]⟩) = true from decide_eq_true g15]; rfl) | (rw [show decide (p = s) = true from decide_eq_true g20, Bool.or_true]; rfl) | (rw [show decide (p = ⟨#[]⟩) = false from decide_eq_false g15, show decide (p = s) = false from decide_eq_false g20]; rfl)
      · try simp only [decide_eq_true_eq, decide_eq_false_iff_not, beq_iff_eq, bne_iff_ne, beq_eq_false_iff_ne, bne_eq_false_iff_eq, Bool.not_eq_true', Bool.not_eq_false', Bool.not_eq_true, ne_eq, Decidable.not_not] at g15
        rw [toL_inj] at g15
        refine OL.det rfl (Yields.pure rfl) ?_
        refine OL.det rfl (Yields.pure rfl) ?_
        refine OL.det rfl (Yields.pure rfl) ?_
        refine OL.det trivial (Yields.pure rfl) ?_
        refine OL.bool trivial (Yields.pure rfl) (fun g20 => ?_) (fun g20 => ?_)
        · try simp only [decide_eq_true_eq, decide_eq_false_iff_not, beq_iff_eq, bne_iff_ne, beq_eq_false_iff_ne, bne_eq_false_iff_eq, Bool.not_eq_true', Bool.not_eq_false', Bool.not_eq_true, ne_eq, Decidable.not_not] at g20
          rw [toL_inj] at g20
          refine OL.off rfl rfl ?_
          refine OL.off rfl rfl ?_
          refine OL.off rfl rfl ?_
          refine OL.off rfl rfl ?_
          refine OL.det trivial (Yields.pure rfl) ?_
          refine OL.det trivial (Yields.pure rfl) ?_
          refine OL.nil ?_
          refine PW.keep (T' := [(4, _)]) ⟨rfl, trivial⟩ ?_
          refine PW.ret ?_
          change (Exit.ret = Exit.normal ∨ Exit.ret = Exit.ret) ∧ ∃ v, resV _ _ = some v ∧ _
          have h1 : isP s = true := by simpa using g8
          have h2 : decide (prefP p = 0) = true := decide_eq_true (by simpa using c12)
          refine ⟨.inr rfl, _, rfl, congrArg Value.bool ?_, rfl⟩
          unfold underP
          rw [h1, h2]
          first | (rw [show decide (p = ⟨#[]⟩) = true from decide_eq_true g15]; rfl) | (rw [show decide (p = s) = true from decide_eq_true g20, Bool.or_true]; rfl) | (rw [show decide (p = ⟨#[]⟩) = false from decide_eq_false g15, show decide (p = s) = false from decide_eq_false g20]; rfl)
        · try simp only [decide_eq_true_eq, decide_eq_false_iff_not, beq_iff_eq, bne_iff_ne, beq_eq_false_iff_ne, bne_eq_false_iff_eq, Bool.not_eq_true', Bool.not_eq_false', Bool.not_eq_true, ne_eq, Decidable.not_not] at g20
          rw [toL_inj] at g20
          refine OL.det rfl (Yields.pure rfl) ?_
          refine OL.det rfl (Yields.pure rfl) ?_
          refine OL.det rfl (yields_cat (a := p) (b := slB) rfl rfl (by show p.size + 1 ≤ _; omega)) ?_
          refine OL.call rfl rfl (hasp_fc (p := p ++ slB)) ?_
          rintro _ Sx ⟨rfl, hSx⟩
          rw [hSx]
          clear hSx
          refine OL.det trivial (Yields.pure rfl) ?_
          refine OL.det trivial (Yields.pure rfl) ?_
          refine OL.nil ?_
          refine PW.keep (T' := [(4, _)]) ⟨rfl, trivial⟩ ?_
          refine PW.ret ?_
          change (Exit.ret = Exit.normal ∨ Exit.ret = Exit.ret) ∧ ∃ v, resV _ _ = some v ∧ _
          have h1 : isP s = true := by simpa using g8
          have h2 : decide (prefP p = 0) = true := decide_eq_true (by simpa using c12)
          refine ⟨.inr rfl, _, rfl, congrArg Value.bool ?_, rfl⟩
          unfold underP
          rw [h1, h2]
          first | (rw [show decide (p = ⟨#[]⟩) = true from decide_eq_true g15]; rfl) | (rw [show decide (p = s) = true from decide_eq_true g20, Bool.or_true]; rfl) | (rw [show decide (p = ⟨#[]⟩) = false from decide_eq_false g15, show decide (p = s) = false from decide_eq_false g20]; rfl)
end Go.Proofs

set_option linter.unusedVariables false
set_option linter.unusedSimpArgs false
namespace Go.Proofs
open Go.SL Go.RowKit
set_option maxHeartbeats 1000000
theorem isP_ne {s : ByteArray} (h : isP s = true) : s ≠ ⟨#[]⟩ := by
  rintro rfl
  revert h
  decide +kernel
theorem pref_is {p : ByteArray} (h : prefP p = 0) (h0 : p ≠ ⟨#[]⟩) : isP p = true := by
  unfold prefP at h
  rw [if_neg h0] at h
  unfold chkP at h
  split at h
  · assumption
  · cases h
theorem under_iff (p s : ByteArray) : underP p s = true ↔ isP s = true ∧ prefP p = 0 ∧ (p = ⟨#[]⟩ ∨ p = s ∨ p.data.toList ++ [47] <+: s.data.toList) := by
  unfold underP
  simp only [Bool.and_eq_true, Bool.or_eq_true, decide_eq_true_eq, starts_iff, app_list, show slB.data.toList = [47] from rfl, and_assoc, or_assoc]
theorem under_trans {a b c : ByteArray} (h : underP a b = true) (k : underP b c = true) : underP a c = true := by
  rw [under_iff] at *
  obtain ⟨h1, h2, h3⟩ := h
  obtain ⟨k1, k2, k3⟩ := k
  refine ⟨k1, h2, ?_⟩
  rcases k3 with k3 | rfl | k3
  · exact absurd k3 (isP_ne h1)
  · exact h3
  · rcases h3 with h3 | rfl | h3
    · exact .inl h3
    · exact .inr (.inr k3)
    · exact .inr (.inr (h3.trans ((List.prefix_append _ _).trans k3)))
theorem snoc_pre {p q l : List UInt8} {b : UInt8} (h : p ++ [b] <+: l) (k : q ++ [b] <+: l) (hl : p.length ≤ q.length) : p = q ∨ p ++ [b] <+: q := by
  rcases Nat.lt_or_ge p.length q.length with hlt | hge
  · right
    have hq : q <+: l := (List.prefix_append _ _).trans k
    exact List.prefix_of_prefix_length_le h hq (by simp; omega)
  · left
    have e1 := List.prefix_iff_eq_take.1 ((List.prefix_append p [b]).trans h)
    have e2 := List.prefix_iff_eq_take.1 ((List.prefix_append q [b]).trans k)
    rw [e1, e2, show p.length = q.length by omega]
theorem under_tot {a b c : ByteArray} (h : underP a c = true) (k : underP b c = true) (ha : a ≠ ⟨#[]⟩) (hb : b ≠ ⟨#[]⟩) : underP a b = true ∨ underP b a = true := by
  rw [under_iff] at *
  obtain ⟨h1, h2, h3⟩ := h
  obtain ⟨k1, k2, k3⟩ := k
  rw [under_iff]
  have ia := pref_is h2 ha
  have ib := pref_is k2 hb
  rcases h3 with h3 | rfl | h3
  · exact absurd h3 ha
  · exact .inr ⟨h1, k2, k3⟩
  · rcases k3 with k3 | rfl | k3
    · exact absurd k3 hb
    · exact .inl ⟨k1, h2, .inr (.inr h3)⟩
    · rcases Nat.le_total a.data.toList.length b.data.toList.length with hl | hl
      · rcases snoc_pre h3 k3 hl with e | e
        · exact .inl ⟨ib, h2, .inr (.inl (ba_ext e))⟩
        · exact .inl ⟨ib, h2, .inr (.inr e)⟩
      · rcases snoc_pre k3 h3 hl with e | e
        · exact .inr ⟨ia, k2, .inr (.inl (ba_ext e))⟩
        · exact .inr ⟨ia, k2, .inr (.inr e)⟩
end Go.Proofs

set_option linter.unusedVariables false
set_option linter.unusedSimpArgs false
namespace Go.Proofs.Lb
open Go.SL Go.RowKit Go.Proofs
set_option maxHeartbeats 1000000
end Go.Proofs.Lb

set_option linter.unusedVariables false
set_option linter.unusedSimpArgs false
namespace Go.Proofs.Lb
open Go.SL Go.RowKit Go.Proofs
set_option maxHeartbeats 1000000
def labVI (l c : Int) : Value := .agg #[.int .i64 l, .int .u64 c]
theorem lab_read {w0 : World} {S : SS} {r : Nat} {l c : Int} (hm : (r, AO.cells [.int .i64 l, .int .u64 c] 24 2) ∈ S.flatten) : ReadsAs w0 S (some 2) ⟨r, 0, none⟩ (labVI l c) :=
  ⟨[.int .i64 l, .int .u64 c], rfl, rfl, fun j u hj => (Rd.own hm).at hj⟩
end Go.Proofs.Lb

set_option linter.unusedVariables false
set_option linter.unusedSimpArgs false
namespace Go.Proofs.Lb
open Go.SL Go.RowKit Go.Proofs
set_option maxHeartbeats 1000000
def chkP (l : Int) : Int := if l < 0 ∨ l > 15 then 2 else 0
end Go.Proofs.Lb

set_option linter.unusedVariables false
set_option linter.unusedSimpArgs false
namespace Go.Proofs.Lb
open Go.SL Go.RowKit Go.Proofs
set_option maxHeartbeats 1000000
abbrev LabB := Int × BitVec 64
abbrev lseg (r : Nat) (a : Int × BitVec 64) : Seg := [(r, .cells [.int .i64 a.1, .int .u64 (a.2.toNat : Int)] 24 2)]
def labB (a : LabB) : Value := .agg #[.int .i64 a.1, .int .u64 (a.2.toNat : Int)]
section
variable {w0 : World} {S : SS} {a b : LabB}
end
theorem lab_at {w0 : World} {S : SS} {r : Nat} {a : LabB} (hm : (r, AO.cells [.int .i64 a.1, .int .u64 (a.2.toNat : Int)] 24 2) ∈ S.flatten) : ∀ (j : Nat) (v : Value), [Value.int .i64 a.1, .int .u64 (a.2.toNat : Int)][j]? = some v → Cell w0 S ((⟨r, 0, none⟩ : Addr).add j) v :=
  fun j u hj => (Rd.own hm).at hj
theorem eq_lab (a b : LabB) : eqCells [.int .i64, .int .u64] [.int .i64 a.1, .int .u64 (a.2.toNat : Int)] [.int .i64 b.1, .int .u64 (b.2.toNat : Int)] = some (decide (a = b)) := by
  have e : decide (a = b) = (a.1 == b.1 && (a.2.toNat : Int) == (b.2.toNat : Int)) := by
    rw [Bool.eq_iff_iff]
    simp only [decide_eq_true_eq, Bool.and_eq_true, beq_iff_eq]
    constructor
    · rintro rfl; exact ⟨rfl, rfl⟩
    · rintro ⟨h1, h2⟩; exact Prod.ext h1 (BitVec.eq_of_toNat_eq (by omega))
  rw [e]
  simp [eqCells, eqCell]
end Go.Proofs.Lb

set_option linter.unusedVariables false
set_option linter.unusedSimpArgs false
namespace Go.Proofs.Lb
open Go.SL Go.RowKit Go.Proofs
set_option maxHeartbeats 1000000
def cmpI (x y : Int) : Int := if x < y then -1 else if y < x then 1 else 0
def orZ (a b : LabB) : Int := if cmpI a.1 b.1 ≠ 0 then cmpI a.1 b.1 else cmpI (a.2.toNat : Int) (b.2.toNat : Int)
def mayP (a : LabB) : Bool := decide (0 ≤ a.1) && decide (a.1 ≤ 15)
theorem may_fc {w0 : World} {S : SS} {a : LabB} : FC Tryd.prog w0 21 [labB a] S (fun v S' => v = .bool (mayP a) ∧ S' = S) := by
  refine FC.ofD Tryd.known21 (by simp) ?_
  unfold Tryd.pc21
  simp only [argT]
  refine PW.seqOps ?_
  refine OL.cons trivial (OW.bx rfl) ?_
  rintro _ _ ⟨r1, rfl, rfl⟩
  change OL _ _ _ _ _ (lseg r1 a :: S) _
  refine OL.det trivial (Yields.pure rfl) ?_
  refine OL.nil ?_
  refine PW.keep (T' := [(1, _)]) ⟨rfl, trivial⟩ ?_
  refine PW.seqOps ?_
  refine OL.det trivial (Yields.pure rfl) ?_
  refine OL.det trivial (Yields.ld rfl (own_at (j := 0) (c := [.int .i64 a.1, .int .u64 (a.2.toNat : Int)]) (E := 24) (tot := 2) (by simp) rfl)) ?_
  refine OL.det trivial (Yields.pure rfl) ?_
  refine OL.bool trivial (Yields.pure rfl) (fun g6 => ?_) (fun g6 => ?_)
  · try simp only [decide_eq_true_eq, decide_eq_false_iff_not, beq_iff_eq, bne_iff_ne, beq_eq_false_iff_ne, bne_eq_false_iff_eq, Bool.not_eq_true', Bool.not_eq_false', Bool.not_eq_true, ne_eq, Decidable.not_not] at g6
    refine OL.det rfl (Yields.pure rfl) ?_
    refine OL.det rfl (Yields.ld rfl (own_at (j := 0) (c := [.int .i64 a.1, .int .u64 (a.2.toNat : Int)]) (E := 24) (tot := 2) (by simp) rfl)) ?_
    refine OL.det rfl (Yields.pure rfl) ?_
    refine OL.det trivial (Yields.pure rfl) ?_
    refine OL.det trivial (Yields.pure rfl) ?_
    refine OL.nil ?_
    refine PW.keep (T' := [(2, _)]) ⟨rfl, trivial⟩ ?_
    refine PW.ret ?_
    change (Exit.ret = Exit.normal ∨ Exit.ret = Exit.ret) ∧ ∃ v, resV _ _ = some v ∧ _
    exact ⟨.inr rfl, _, rfl, _, Sub.drop (Sub.refl _), by unfold mayP; first | (rw [show decide (0 ≤ a.1) = true by simpa using g6]; rfl) | (rw [show decide (0 ≤ a.1) = false by simpa using g6]; rfl), rfl⟩
  · try simp only [decide_eq_true_eq, decide_eq_false_iff_not, beq_iff_eq, bne_iff_ne, beq_eq_false_iff_ne, bne_eq_false_iff_eq, Bool.not_eq_true', Bool.not_eq_false', Bool.not_eq_true, ne_eq, Decidable.not_not] at g6
    refine OL.off rfl rfl ?_
    refine OL.off rfl rfl ?_
    refine OL.off rfl rfl ?_
    refine OL.det trivial (Yields.pure rfl) ?_
    refine OL.det trivial (Yields.pure rfl) ?_
    refine OL.nil ?_
    refine PW.keep (T' := [(2, _)]) ⟨rfl, trivial⟩ ?_
    refine PW.ret ?_
    change (Exit.ret = Exit.normal ∨ Exit.ret = Exit.ret) ∧ ∃ v, resV _ _ = some v ∧ _
    exact ⟨.inr rfl, _, rfl, _, Sub.drop (Sub.refl _), by unfold mayP; first | (rw [show decide (0 ≤ a.1) = true by simpa using g6]; rfl) | (rw [show decide (0 ≤ a.1) = false by simpa using g6]; rfl), rfl⟩
end Go.Proofs.Lb

set_option linter.unusedVariables false
set_option linter.unusedSimpArgs false
namespace Go.Proofs.Lb
open Go.SL Go.RowKit Go.Proofs
set_option maxHeartbeats 1000000
theorem nan_i64 {w0 : World} {S : SS} {z : Int} : FC Tryd.prog w0 86 [.int .i64 z] S (fun v S' => v = .bool false ∧ S' = S) := by
  refine FC.of Tryd.known86 (by simp) ?_
  unfold Tryd.pc86
  simp only [argT]
  refine PW.seqOps ?_
  refine OL.det trivial (Yields.pure rfl) ?_
  refine OL.nil ?_
  refine PW.keep (T' := [(0, _)]) ⟨rfl, trivial⟩ ?_
  refine PW.seqOps ?_
  refine OL.det trivial (Yields.pure rfl) ?_
  refine OL.det trivial (Yields.pure rfl) ?_
  refine OL.det trivial (Yields.pure rfl) ?_
  refine OL.det trivial (Yields.pure rfl) ?_
  refine OL.nil ?_
  refine PW.keep (T' := [(2, _)]) ⟨rfl, trivial⟩ ?_
  refine PW.ret ?_
  change (Exit.ret = Exit.normal ∨ Exit.ret = Exit.ret) ∧ ∃ v, resV _ _ = some v ∧ _
  exact ⟨.inr rfl, _, rfl, congrArg Value.bool (by simp), rfl⟩
theorem cmp_i64 {w0 : World} {S : SS} {x y : Int} : FC Tryd.prog w0 61 [.int .i64 x, .int .i64 y] S (fun v S' => v = .int .i64 (cmpI x y) ∧ S' = S) := by
  refine FC.of Tryd.known61 (by simp) ?_
  unfold Tryd.pc61
  simp only [argT]
  refine PW.seqOps ?_
  refine OL.det trivial (Yields.pure rfl) ?_
  refine OL.nil ?_
  refine PW.keep (T' := [(0, _), (1, _)]) ⟨rfl, rfl, trivial⟩ ?_
  refine PW.seqOps ?_
  refine OL.det trivial (Yields.pure rfl) ?_
  refine OL.call trivial rfl (nan_i64) ?_
  rintro _ Sx ⟨rfl, hSx⟩
  rw [hSx]
  clear hSx
  refine OL.det trivial (Yields.pure rfl) ?_
  refine OL.nil ?_
  refine PW.keep (T' := [(0, _), (1, _), (5, _)]) ⟨rfl, rfl, rfl, trivial⟩ ?_
  refine PW.seqOps ?_
  refine OL.det trivial (Yields.pure rfl) ?_
  refine OL.call trivial rfl (nan_i64) ?_
  rintro _ Sx ⟨rfl, hSx⟩
  rw [hSx]
  clear hSx
  refine OL.det trivial (Yields.pure rfl) ?_
  refine OL.nil ?_
  refine PW.keep (T' := [(0, _), (1, _), (5, _), (6, _)]) ⟨rfl, rfl, rfl, rfl, trivial⟩ ?_
  refine PW.seq fun K1 hK1 => ?_
  refine PW.seqOps ?_
  refine OL.det trivial (Yields.pure rfl) ?_
  refine OL.nil ?_
  refine PW.keep (T' := [(0, _), (1, _), (6, _), (11, _)]) ⟨rfl, rfl, rfl, rfl, trivial⟩ ?_
  refine PW.ite (b := false) rfl ?_
  rw [if_neg Bool.false_ne_true]
  refine PW.skip ?_
  refine hK1 _ _ ?_
  refine PW.keep (T' := [(0, _), (1, _), (6, _)]) ⟨rfl, rfl, rfl, trivial⟩ ?_
  refine PW.seq fun K2 hK2 => ?_
  refine PW.seqOps ?_
  refine OL.det trivial (Yields.pure rfl) ?_
  refine OL.nil ?_
  refine PW.keep (T' := [(0, _), (1, _), (13, _)]) ⟨rfl, rfl, rfl, trivial⟩ ?_
  refine PW.ite (b := false) rfl ?_
  rw [if_neg Bool.false_ne_true]
  refine PW.skip ?_
  refine hK2 _ _ ?_
  refine PW.keep (T' := [(0, _), (1, _)]) ⟨rfl, rfl, trivial⟩ ?_
  refine PW.seq fun K3 hK3 => ?_
  refine PW.seqOps ?_
  refine OL.det trivial (Yields.pure rfl) ?_
  refine OL.det trivial (Yields.pure rfl) ?_
  refine OL.det trivial (Yields.pure rfl) ?_
  refine OL.nil ?_
  refine PW.keep (T' := [(0, _), (1, _), (16, _)]) ⟨rfl, rfl, rfl, trivial⟩ ?_
  refine PW.cond rfl (fun c16 => ?_) (fun c16 => ?_)
  · try simp only [decide_eq_true_eq, decide_eq_false_iff_not, beq_iff_eq, bne_iff_ne, beq_eq_false_iff_ne, bne_eq_false_iff_eq, Bool.not_eq_true', Bool.not_eq_false', Bool.not_eq_true, ne_eq, Decidable.not_not] at c16
    refine PW.seqOps ?_
    refine OL.det trivial (Yields.pure rfl) ?_
    refine OL.nil ?_
    refine PW.keep (T' := [(4, _)]) ⟨rfl, trivial⟩ ?_
    refine PW.ret ?_
    change (Exit.ret = Exit.normal ∨ Exit.ret = Exit.ret) ∧ ∃ v, resV _ _ = some v ∧ _
    exact ⟨.inr rfl, _, rfl, by unfold cmpI; rw [if_pos (by omega)], rfl⟩
  · try simp only [decide_eq_true_eq, decide_eq_false_iff_not, beq_iff_eq, bne_iff_ne, beq_eq_false_iff_ne, bne_eq_false_iff_eq, Bool.not_eq_true', Bool.not_eq_false', Bool.not_eq_true, ne_eq, Decidable.not_not] at c16
    refine PW.skip ?_
    refine hK3 _ _ ?_
    refine PW.keep (T' := [(0, _), (1, _)]) ⟨rfl, rfl, trivial⟩ ?_
    refine PW.seq fun K4 hK4 => ?_
    refine PW.seqOps ?_
    refine OL.det trivial (Yields.pure rfl) ?_
    refine OL.det trivial (Yields.pure rfl) ?_
    refine OL.det trivial (Yields.pure rfl) ?_
    refine OL.nil ?_
    refine PW.keep (T' := [(19, _)]) ⟨rfl, trivial⟩ ?_
    refine PW.cond rfl (fun c19 => ?_) (fun c19 => ?_)
    · try simp only [decide_eq_true_eq, decide_eq_false_iff_not, beq_iff_eq, bne_iff_ne, beq_eq_false_iff_ne, bne_eq_false_iff_eq, Bool.not_eq_true', Bool.not_eq_false', Bool.not_eq_true, ne_eq, Decidable.not_not] at c19
      refine PW.seqOps ?_
      refine OL.det trivial (Yields.pure rfl) ?_
      refine OL.nil ?_
      refine PW.keep (T' := [(4, _)]) ⟨rfl, trivial⟩ ?_
      refine PW.ret ?_
      change (Exit.ret = Exit.normal ∨ Exit.ret = Exit.ret) ∧ ∃ v, resV _ _ = some v ∧ _
      exact ⟨.inr rfl, _, rfl, by unfold cmpI; rw [if_neg (by omega), if_pos (by omega)], rfl⟩
    · try simp only [decide_eq_true_eq, decide_eq_false_iff_not, beq_iff_eq, bne_iff_ne, beq_eq_false_iff_ne, bne_eq_false_iff_eq, Bool.not_eq_true', Bool.not_eq_false', Bool.not_eq_true, ne_eq, Decidable.not_not] at c19
      refine PW.skip ?_
      refine hK4 _ _ ?_
      refine PW.keep (T' := []) trivial ?_
      refine PW.seqOps ?_
      refine OL.det trivial (Yields.pure rfl) ?_
      refine OL.nil ?_
      refine PW.keep (T' := [(4, _)]) ⟨rfl, trivial⟩ ?_
      refine PW.ret ?_
      change (Exit.ret = Exit.normal ∨ Exit.ret = Exit.ret) ∧ ∃ v, resV _ _ = some v ∧ _
      exact ⟨.inr rfl, _, rfl, by unfold cmpI; rw [if_neg (by omega), if_neg (by omega)], rfl⟩
theorem nan_u64 {w0 : World} {S : SS} {z : Int} : FC Tryd.prog w0 87 [.int .u64 z] S (fun v S' => v = .bool false ∧ S' = S) := by
  refine FC.of Tryd.known87 (by simp) ?_
  unfold Tryd.pc87
  simp only [argT]
  refine PW.seqOps ?_
  refine OL.det trivial (Yields.pure rfl) ?_
  refine OL.nil ?_
  refine PW.keep (T' := [(0, _)]) ⟨rfl, trivial⟩ ?_
  refine PW.seqOps ?_
  refine OL.det trivial (Yields.pure rfl) ?_
  refine OL.det trivial (Yields.pure rfl) ?_
  refine OL.det trivial (Yields.pure rfl) ?_
  refine OL.det trivial (Yields.pure rfl) ?_
  refine OL.nil ?_
  refine PW.keep (T' := [(2, _)]) ⟨rfl, trivial⟩ ?_
  refine PW.ret ?_
  change (Exit.ret = Exit.normal ∨ Exit.ret = Exit.ret) ∧ ∃ v, resV _ _ = some v ∧ _
  exact ⟨.inr rfl, _, rfl, congrArg Value.bool (by simp), rfl⟩
theorem cmp_u64 {w0 : World} {S : SS} {x y : Int} : FC Tryd.prog w0 62 [.int .u64 x, .int .u64 y] S (fun v S' => v = .int .i64 (cmpI x y) ∧ S' = S) := by
  refine FC.of Tryd.known62 (by simp) ?_
  unfold Tryd.pc62
  simp only [argT]
  refine PW.seqOps ?_
  refine OL.det trivial (Yields.pure rfl) ?_
  refine OL.nil ?_
  refine PW.keep (T' := [(0, _), (1, _)]) ⟨rfl, rfl, trivial⟩ ?_
  refine PW.seqOps ?_
  refine OL.det trivial (Yields.pure rfl) ?_
  refine OL.call trivial rfl (nan_u64) ?_
  rintro _ Sx ⟨rfl, hSx⟩
  rw [hSx]
  clear hSx
  refine OL.det trivial (Yields.pure rfl) ?_
  refine OL.nil ?_
  refine PW.keep (T' := [(0, _), (1, _), (5, _)]) ⟨rfl, rfl, rfl, trivial⟩ ?_
  refine PW.seqOps ?_
  refine OL.det trivial (Yields.pure rfl) ?_
  refine OL.call trivial rfl (nan_u64) ?_
  rintro _ Sx ⟨rfl, hSx⟩
  rw [hSx]
  clear hSx
  refine OL.det trivial (Yields.pure rfl) ?_
  refine OL.nil ?_
  refine PW.keep (T' := [(0, _), (1, _), (5, _), (6, _)]) ⟨rfl, rfl, rfl, rfl, trivial⟩ ?_
  refine PW.seq fun K1 hK1 => ?_
  refine PW.seqOps ?_
  refine OL.det trivial (Yields.pure rfl) ?_
  refine OL.nil ?_
  refine PW.keep (T' := [(0, _), (1, _), (6, _), (11, _)]) ⟨rfl, rfl, rfl, rfl, trivial⟩ ?_
  refine PW.ite (b := false) rfl ?_
  rw [if_neg Bool.false_ne_true]
  refine PW.skip ?_
  refine hK1 _ _ ?_
  refine PW.keep (T' := [(0, _), (1, _), (6, _)]) ⟨rfl, rfl, rfl, trivial⟩ ?_
  refine PW.seq fun K2 hK2 => ?_
  refine PW.seqOps ?_
  refine OL.det trivial (Yields.pure rfl) ?_
  refine OL.nil ?_
  refine PW.keep (T' := [(0, _), (1, _), (13, _)]) ⟨rfl, rfl, rfl, trivial⟩ ?_
  refine PW.ite (b := false) rfl ?_
  rw [if_neg Bool.false_ne_true]
  refine PW.skip ?_
  refine hK2 _ _ ?_
  refine PW.keep (T' := [(0, _), (1, _)]) ⟨rfl, rfl, trivial⟩ ?_
  refine PW.seq fun K3 hK3 => ?_
  refine PW.seqOps ?_
  refine OL.det trivial (Yields.pure rfl) ?_
  refine OL.det trivial (Yields.pure rfl) ?_
  refine OL.det trivial (Yields.pure rfl) ?_
  refine OL.nil ?_
  refine PW.keep (T' := [(0, _), (1, _), (16, _)]) ⟨rfl, rfl, rfl, trivial⟩ ?_
  refine PW.cond rfl (fun c16 => ?_) (fun c16 => ?_)
  · try simp only [decide_eq_true_eq, decide_eq_false_iff_not, beq_iff_eq, bne_iff_ne, beq_eq_false_iff_ne, bne_eq_false_iff_eq, Bool.not_eq_true', Bool.not_eq_false', Bool.not_eq_true, ne_eq, Decidable.not_not] at c16
    refine PW.seqOps ?_
    refine OL.det trivial (Yields.pure rfl) ?_
    refine OL.nil ?_
    refine PW.keep (T' := [(4, _)]) ⟨rfl, trivial⟩ ?_
    refine PW.ret ?_
    change (Exit.ret = Exit.normal ∨ Exit.ret = Exit.ret) ∧ ∃ v, resV _ _ = some v ∧ _
    exact ⟨.inr rfl, _, rfl, by unfold cmpI; rw [if_pos (by omega)], rfl⟩
  · try simp only [decide_eq_true_eq, decide_eq_false_iff_not, beq_iff_eq, bne_iff_ne, beq_eq_false_iff_ne, bne_eq_false_iff_eq, Bool.not_eq_true', Bool.not_eq_false', Bool.not_eq_true, ne_eq, Decidable.not_not] at c16
    refine PW.skip ?_
    refine hK3 _ _ ?_
    refine PW.keep (T' := [(0, _), (1, _)]) ⟨rfl, rfl, trivial⟩ ?_
    refine PW.seq fun K4 hK4 => ?_
    refine PW.seqOps ?_
    refine OL.det trivial (Yields.pure rfl) ?_
    refine OL.det trivial (Yields.pure rfl) ?_
    refine OL.det trivial (Yields.pure rfl) ?_
    refine OL.nil ?_
    refine PW.keep (T' := [(19, _)]) ⟨rfl, trivial⟩ ?_
    refine PW.cond rfl (fun c19 => ?_) (fun c19 => ?_)
    · try simp only [decide_eq_true_eq, decide_eq_false_iff_not, beq_iff_eq, bne_iff_ne, beq_eq_false_iff_ne, bne_eq_false_iff_eq, Bool.not_eq_true', Bool.not_eq_false', Bool.not_eq_true, ne_eq, Decidable.not_not] at c19
      refine PW.seqOps ?_
      refine OL.det trivial (Yields.pure rfl) ?_
      refine OL.nil ?_
      refine PW.keep (T' := [(4, _)]) ⟨rfl, trivial⟩ ?_
      refine PW.ret ?_
      change (Exit.ret = Exit.normal ∨ Exit.ret = Exit.ret) ∧ ∃ v, resV _ _ = some v ∧ _
      exact ⟨.inr rfl, _, rfl, by unfold cmpI; rw [if_neg (by omega), if_pos (by omega)], rfl⟩
    · try simp only [decide_eq_true_eq, decide_eq_false_iff_not, beq_iff_eq, bne_iff_ne, beq_eq_false_iff_ne, bne_eq_false_iff_eq, Bool.not_eq_true', Bool.not_eq_false', Bool.not_eq_true, ne_eq, Decidable.not_not] at c19
      refine PW.skip ?_
      refine hK4 _ _ ?_
      refine PW.keep (T' := []) trivial ?_
      refine PW.seqOps ?_
      refine OL.det trivial (Yields.pure rfl) ?_
      refine OL.nil ?_
      refine PW.keep (T' := [(4, _)]) ⟨rfl, trivial⟩ ?_
      refine PW.ret ?_
      change (Exit.ret = Exit.normal ∨ Exit.ret = Exit.ret) ∧ ∃ v, resV _ _ = some v ∧ _
      exact ⟨.inr rfl, _, rfl, by unfold cmpI; rw [if_neg (by omega), if_neg (by omega)], rfl⟩
def el2 (x y : Int) (k : Nat) : Int := if k = 0 then x else y
theorem el_at {w0 : World} {S : SS} {a : Addr} {x y : Int} (h : Rd w0 S (some a) [.int .i64 x, .int .i64 y]) {k : Nat} (hk : k < 2) : Cell w0 S (a.add k) (.int .i64 (el2 x y k)) := by
  refine h.at ?_
  rcases k with _ | _ | k
  · rfl
  · rfl
  · omega
theorem or_fc {w0 : World} {S : SS} {a : Addr} {cap : Nat} {x y : Int} (hx : Rd w0 S (some a) [.int .i64 x, .int .i64 y]) : FC Tryd.prog w0 60 [.slice (some a) 2 cap] S (fun v S' => v = .int .i64 (if x ≠ 0 then x else y) ∧ S' = S) := by
  refine FC.of Tryd.known60 (by simp) ?_
  unfold Tryd.pc60
  simp only [argT]
  refine PW.seqOps ?_
  refine OL.det trivial (Yields.pure rfl) ?_
  refine OL.nil ?_
  refine PW.keep (T' := [(0, _)]) ⟨rfl, trivial⟩ ?_
  refine PW.seqOps ?_
  refine OL.det trivial (Yields.pure rfl) ?_
  refine OL.nil ?_
  refine PW.keep (T' := [(0, _), (3, _)]) ⟨rfl, rfl, trivial⟩ ?_
  refine PW.seq fun K1 hK1 => ?_
  refine PW.seqOps ?_
  refine OL.det trivial (Yields.pure rfl) ?_
  refine OL.det trivial (Yields.pure rfl) ?_
  refine OL.det trivial (Yields.pure rfl) ?_
  refine OL.nil ?_
  refine PW.keep (T' := [(3, _), (6, _), (7, _), (8, _)]) ⟨rfl, rfl, rfl, rfl, trivial⟩ ?_
  refine PW.block ?_
  refine PW.keep (T' := [(3, _), (6, _), (7, _), (8, _)]) ⟨rfl, rfl, rfl, rfl, trivial⟩ ?_
  refine PW.loopK (I := fun m T S' => ∃ (k : Nat), (k ≤ 2 ∧ m = 2 - k ∧ (1 ≤ k → x = 0) ∧ (2 ≤ k → y = 0)) ∧ T = ([(3, .int .i64 0), (6, .slice (some a) 2 cap), (7, .int .i64 2), (8, .int .i64 k)] : TT) ∧ S' = S) (m := 2) ⟨0, ⟨by omega, by omega, fun h => by omega, fun h => by omega⟩, rfl, rfl⟩ ?_
  rintro m _ _ ⟨k, ⟨hk, hm, h0, h1⟩, rfl, rfl⟩
  refine PW.seqOps ?_
  refine OL.det trivial (Yields.pure rfl) ?_
  refine OL.nil ?_
  refine PW.keep (T' := [(3, _), (6, _), (7, _), (8, _), (9, _)]) ⟨rfl, rfl, rfl, rfl, rfl, trivial⟩ ?_
  refine PW.seq fun K2 hK2 => ?_
  refine PW.cond rfl (fun c9 => ?_) (fun c9 => ?_)
  · try simp only [decide_eq_true_eq, decide_eq_false_iff_not, beq_iff_eq, bne_iff_ne, beq_eq_false_iff_ne, bne_eq_false_iff_eq, Bool.not_eq_true', Bool.not_eq_false', Bool.not_eq_true, ne_eq, Decidable.not_not] at c9
    have hkl : k < 2 := by omega
    refine PW.skip ?_
    refine hK2 _ _ ?_
    refine PW.keep (T' := [(3, _), (6, _), (7, _), (8, _)]) ⟨rfl, rfl, rfl, rfl, trivial⟩ ?_
    refine PW.seq fun K3 hK3 => ?_
    refine PW.block ?_
    refine PW.seqOps ?_
    refine OL.det trivial (Yields.ixN1 rfl rfl rfl (by omega)) ?_
    refine OL.det trivial (Yields.ld rfl (el_at hx hkl)) ?_
    refine OL.det trivial (Yields.pure rfl) ?_
    refine OL.nil ?_
    refine PW.keep (T' := [(3, _), (5, _), (6, _), (7, _), (8, _)]) ⟨rfl, rfl, rfl, rfl, rfl, trivial⟩ ?_
    refine PW.seqOps ?_
    refine OL.det trivial (Yields.pure rfl) ?_
    refine OL.det trivial (Yields.pure rfl) ?_
    refine OL.det trivial (Yields.pure rfl) ?_
    refine OL.nil ?_
    refine PW.keep (T' := [(3, _), (5, _), (6, _), (7, _), (8, _), (14, _)]) ⟨rfl, rfl, rfl, rfl, rfl, rfl, trivial⟩ ?_
    refine PW.cond rfl (fun c14 => ?_) (fun c14 => ?_)
    · try simp only [decide_eq_true_eq, decide_eq_false_iff_not, beq_iff_eq, bne_iff_ne, beq_eq_false_iff_ne, bne_eq_false_iff_eq, Bool.not_eq_true', Bool.not_eq_false', Bool.not_eq_true, ne_eq, Decidable.not_not] at c14
      refine PW.seqOps ?_
      refine OL.det trivial (Yields.pure rfl) ?_
      refine OL.det trivial (Yields.pure rfl) ?_
      refine OL.nil ?_
      refine PW.keep (T' := [(2, _)]) ⟨rfl, trivial⟩ ?_
      refine PW.ret ?_
      change (Exit.ret = Exit.normal ∨ Exit.ret = Exit.ret) ∧ ∃ v, resV _ _ = some v ∧ _
      refine ⟨.inr rfl, _, rfl, ?_, rfl⟩
      rcases k with _ | _ | k
      · have e : el2 x y 0 = x := rfl
        rw [e] at c14 ⊢
        rw [if_pos c14]
      · have e : el2 x y (0 + 1) = y := rfl
        rw [e]
        rw [if_neg (by have := h0 (by omega); omega)]
      · omega
    · try simp only [decide_eq_true_eq, decide_eq_false_iff_not, beq_iff_eq, bne_iff_ne, beq_eq_false_iff_ne, bne_eq_false_iff_eq, Bool.not_eq_true', Bool.not_eq_false', Bool.not_eq_true, ne_eq, Decidable.not_not] at c14
      refine PW.skip ?_
      refine hK3 _ _ ?_
      refine PW.keep (T' := [(3, _), (6, _), (7, _), (8, _)]) ⟨rfl, rfl, rfl, rfl, trivial⟩ ?_
      refine PW.ops ?_
      refine OL.det trivial (Yields.add64 rfl rfl (by omega) (by omega)) ?_
      refine OL.det trivial (Yields.pure rfl) ?_
      refine OL.nil ?_
      repeat rw [inBlk_n]
      rw [thenK_n]
      refine LoopEnd.mk (T'' := [(3, _), (6, _), (7, _), (8, _)]) ⟨rfl, rfl, rfl, rfl, trivial⟩ ?_
      refine ⟨2 - (k + 1), by omega, k + 1, ⟨by omega, rfl, fun h => ?_, fun h => ?_⟩, rfl, rfl⟩
      · rcases k with _ | k
        · have e : el2 x y 0 = x := rfl
          omega
        · exact h0 (by omega)
      · obtain rfl : k = 1 := by omega
        have e : el2 x y 1 = y := rfl
        omega
  · try simp only [decide_eq_true_eq, decide_eq_false_iff_not, beq_iff_eq, bne_iff_ne, beq_eq_false_iff_ne, bne_eq_false_iff_eq, Bool.not_eq_true', Bool.not_eq_false', Bool.not_eq_true, ne_eq, Decidable.not_not] at c9
    refine PW.exit ?_
    refine hK1 _ _ ?_
    refine PW.keep (T' := [(3, _)]) ⟨rfl, trivial⟩ ?_
    refine PW.seqOps ?_
    refine OL.det trivial (Yields.pure rfl) ?_
    refine OL.det trivial (Yields.pure rfl) ?_
    refine OL.nil ?_
    refine PW.keep (T' := [(2, _)]) ⟨rfl, trivial⟩ ?_
    refine PW.ret ?_
    change (Exit.ret = Exit.normal ∨ Exit.ret = Exit.ret) ∧ ∃ v, resV _ _ = some v ∧ _
    exact ⟨.inr rfl, _, rfl, by rw [if_neg (by have := h0 (by omega); omega)]; congr 1; exact (h1 (by omega)).symm, rfl⟩
theorem order_l {w0 : World} {S : SS} {a b : LabB} : FC Tryd.prog w0 25 [labB a, labB b] S (fun v S' => v = .int .i64 (orZ a b) ∧ S' = S) := by
  refine FC.ofD Tryd.known25 (by simp) ?_
  unfold Tryd.pc25
  simp only [argT]
  refine PW.seqOps ?_
  refine OL.cons trivial (OW.bx rfl) ?_
  rintro _ _ ⟨r2, rfl, rfl⟩
  change OL _ _ _ _ _ (lseg r2 a :: S) _
  refine OL.cons trivial (OW.bx rfl) ?_
  rintro _ _ ⟨r3, rfl, rfl⟩
  change OL _ _ _ _ _ (lseg r3 b :: lseg r2 a :: S) _
  refine OL.det trivial (Yields.pure rfl) ?_
  refine OL.nil ?_
  refine PW.keep (T' := [(2, _), (3, _)]) ⟨rfl, rfl, trivial⟩ ?_
  refine PW.seq fun K1 hK1 => ?_
  refine PW.quietK Tryd.mixed ?_
  refine QK.det trivial (Yields.pure rfl) ?_
  refine QK.det trivial (Yields.ld rfl (own_at (j := 0) (c := [.int .i64 a.1, .int .u64 (a.2.toNat : Int)]) (E := 24) (tot := 2) (by simp) rfl)) ?_
  refine QK.det trivial (Yields.pure rfl) ?_
  refine QK.det trivial (Yields.ld rfl (own_at (j := 0) (c := [.int .i64 b.1, .int .u64 (b.2.toNat : Int)]) (E := 24) (tot := 2) (by simp) rfl)) ?_
  refine QK.call trivial rfl (cmp_i64) ?_
  refine QK.det trivial (Yields.pure rfl) ?_
  refine QK.det trivial (Yields.ld rfl (own_at (j := 1) (c := [.int .i64 a.1, .int .u64 (a.2.toNat : Int)]) (E := 24) (tot := 2) (by simp) rfl)) ?_
  refine QK.det trivial (Yields.pure rfl) ?_
  refine QK.det trivial (Yields.ld rfl (own_at (j := 1) (c := [.int .i64 b.1, .int .u64 (b.2.toNat : Int)]) (E := 24) (tot := 2) (by simp) rfl)) ?_
  refine QK.nil ?_
  change OL _ _ _ [_, _, _, _] _ _ _
  refine OL.call trivial rfl (cmp_u64) ?_
  rintro _ Sx ⟨rfl, hSx⟩
  rw [hSx]
  clear hSx
  refine OL.cons trivial (OW.bsl rfl) ?_
  rintro _ _ ⟨r15, rfl, rfl⟩
  change OL _ _ _ _ _ ([(r15, .cells [.int .i64 (cmpI a.1 b.1), .int .i64 (cmpI (a.2.toNat : Int) (b.2.toNat : Int))] 3 2)] :: lseg r3 b :: lseg r2 a :: S) _
  refine OL.call trivial rfl (or_fc (x := cmpI a.1 b.1) (y := cmpI (a.2.toNat : Int) (b.2.toNat : Int)) (Rd.own (E := 3) (tot := 2) (by simp))) ?_
  rintro _ Sx ⟨rfl, hSx⟩
  rw [hSx]
  clear hSx
  refine OL.det trivial (Yields.pure rfl) ?_
  refine OL.nil ?_
  refine hK1 _ _ ?_
  refine PW.keep (T' := [(4, _)]) ⟨rfl, trivial⟩ ?_
  refine PW.ret ?_
  change (Exit.ret = Exit.normal ∨ Exit.ret = Exit.ret) ∧ ∃ v, resV _ _ = some v ∧ _
  exact ⟨.inr rfl, _, rfl, _, Sub.drop (Sub.drop (Sub.drop (Sub.refl _))), rfl, rfl⟩
end Go.Proofs.Lb

set_option linter.unusedVariables false
set_option linter.unusedSimpArgs false
namespace Go.Proofs
open Go.Shelf Go.RowKit Go.Lib Go.Sort
def Tryd.sortL_ren : Go.Shelf.Ren := ⟨fun | 6 => 79 | 15 => 98 | 14 => 97 | 28 => 120 | 29 => 121 | 20 => 112 | 21 => 113 | 22 => 114 | 23 => 115 | 24 => 116 | 25 => 117 | 26 => 118 | 27 => 119 | 46 => 139 | 47 => 140 | 48 => 141 | 49 => 142 | 50 => 143 | 57 => 155 | n => n, fun | 22 => 61 | 24 => 24 | 25 => 33 | 3 => 3 | 39 => 94 | 0 => 0 | 53 => 118 | 55 => 22 | 4 => 4 | 46 => 111 | 45 => 110 | 50 => 115 | 5 => 5 | 9 => 9 | 66 => 137 | 70 => 141 | 76 => 150 | 77 => 151 | n => n, fun | n => n⟩
theorem Tryd.sortL : Go.Proofs.SlLaysF0.n6 Tryd.prog Tryd.sortL_ren := {
  mixed := by kernel_rfl
  f6 := ⟨Tryd.f79.name, by decide, Tryd.func79.trans (congrArg some (by kernel_rfl))⟩
  f14 := ⟨Tryd.f97.name, by decide, Tryd.func97.trans (congrArg some (by kernel_rfl))⟩
  f15 := Tryd.func98.trans (congrArg some (by kernel_rfl))
  f20 := ⟨Tryd.f112.name, by decide, Tryd.func112.trans (congrArg some (by kernel_rfl))⟩
  f21 := ⟨Tryd.f113.name, by decide, Tryd.func113.trans (congrArg some (by kernel_rfl))⟩
  f22 := ⟨Tryd.f114.name, by decide, Tryd.func114.trans (congrArg some (by kernel_rfl))⟩
  f23 := ⟨Tryd.f115.name, by decide, Tryd.func115.trans (congrArg some (by kernel_rfl))⟩
  f24 := ⟨Tryd.f116.name, by decide, Tryd.func116.trans (congrArg some (by kernel_rfl))⟩
  f25 := ⟨Tryd.f117.name, by decide, Tryd.func117.trans (congrArg some (by kernel_rfl))⟩
  f26 := ⟨Tryd.f118.name, by decide, Tryd.func118.trans (congrArg some (by kernel_rfl))⟩
  f27 := ⟨Tryd.f119.name, by decide, Tryd.func119.trans (congrArg some (by kernel_rfl))⟩
  f28 := Tryd.func120.trans (congrArg some (by kernel_rfl))
  f29 := Tryd.func121.trans (congrArg some (by kernel_rfl))
  f46 := ⟨Tryd.f139.name, by decide, Tryd.func139.trans (congrArg some (by kernel_rfl))⟩
  f47 := Tryd.func140.trans (congrArg some (by kernel_rfl))
  f48 := Tryd.func141.trans (congrArg some (by kernel_rfl))
  f49 := ⟨Tryd.f142.name, by decide, Tryd.func142.trans (congrArg some (by kernel_rfl))⟩
  f50 := ⟨Tryd.f143.name, by decide, Tryd.func143.trans (congrArg some (by kernel_rfl))⟩
  f57 := ⟨Tryd.f155.name, by decide, Tryd.func155.trans (congrArg some (by kernel_rfl))⟩
  t0 := Tryd.underlying0
  a0 := Tryd.isAgg0
  z0 := Tryd.sizeOf0
  v0 := Tryd.zeroValue0
  t3 := Tryd.underlying3
  a3 := Tryd.isAgg3
  z3 := Tryd.sizeOf3
  v3 := Tryd.zeroValue3
  t4 := Tryd.underlying4
  a4 := Tryd.isAgg4
  z4 := Tryd.sizeOf4
  v4 := Tryd.zeroValue4
  t5 := Tryd.underlying5
  a5 := Tryd.isAgg5
  z5 := Tryd.sizeOf5
  v5 := Tryd.zeroValue5
  t9 := Tryd.underlying9
  a9 := Tryd.isAgg9
  z9 := Tryd.sizeOf9
  v9 := Tryd.zeroValue9
  t22 := Tryd.underlying61
  a22 := Tryd.isAgg61
  z22 := Tryd.sizeOf61
  v22 := Tryd.zeroValue61
  t25 := Tryd.underlying33
  a25 := Tryd.isAgg33
  z25 := Tryd.sizeOf33
  v25 := Tryd.zeroValue33
  t39 := Tryd.underlying94
  a39 := Tryd.isAgg94
  z39 := Tryd.sizeOf94
  v39 := Tryd.zeroValue94
  t45 := Tryd.underlying110
  a45 := Tryd.isAgg110
  z45 := Tryd.sizeOf110
  v45 := Tryd.zeroValue110
  t46 := Tryd.underlying111
  a46 := Tryd.isAgg111
  z46 := Tryd.sizeOf111
  v46 := Tryd.zeroValue111
  t50 := Tryd.underlying115
  a50 := Tryd.isAgg115
  z50 := Tryd.sizeOf115
  v50 := Tryd.zeroValue115
  t53 := Tryd.underlying118
  a53 := Tryd.isAgg118
  z53 := Tryd.sizeOf118
  v53 := Tryd.zeroValue118
  t55 := Tryd.underlying22
  a55 := Tryd.isAgg22
  z55 := Tryd.sizeOf22
  v55 := Tryd.zeroValue22
  t66 := Tryd.underlying137
  a66 := Tryd.isAgg137
  z66 := Tryd.sizeOf137
  v66 := Tryd.zeroValue137
  t70 := Tryd.underlying141
  a70 := Tryd.isAgg141
  z70 := Tryd.sizeOf141
  v70 := Tryd.zeroValue141
  t76 := Tryd.underlying150
  a76 := Tryd.isAgg150
  z76 := Tryd.sizeOf150
  v76 := Tryd.zeroValue150
  t77 := Tryd.underlying151
  a77 := Tryd.isAgg151
  z77 := Tryd.sizeOf151
  v77 := Tryd.zeroValue151 }
end Go.Proofs
namespace Go.SL
open Go.RowKit
theorem grow_of {w w' : World} (h : Below w.heap.size w w') (hd : w.drawn ≤ w'.drawn) : ∃ q os', w' = Go.Sort.grow (w.drewN q) os' := by
  refine ⟨w'.drawn - w.drawn, w'.heap.extract w.heap.size w'.heap.size, ?_⟩
  have e : w'.heap = w.heap ++ w'.heap.extract w.heap.size w'.heap.size := by
    apply Array.ext_getElem?
    intro i
    rw [Array.getElem?_append]
    split
    · rename_i hi; exact h.block i hi
    · rename_i hi
      rw [Array.getElem?_extract]
      have := h.size
      split
      · congr 1; omega
      · rw [Array.getElem?_eq_none (by omega)]
  obtain ⟨heap, tape, drawn, os, output⟩ := w
  obtain ⟨heap', tape', drawn', os', output'⟩ := w'
  obtain ⟨h1, h2, h3, h4, h5⟩ := h
  simp only at *
  subst h1 h2 h3
  simp only [Go.Sort.grow, World.drewN, World.mk.injEq, true_and, and_true]
  exact ⟨e, by omega⟩
section
variable {α : Type} [Inhabited α]
theorem flat_get {enc : α → List Value} {k : Nat} (hk : ∀ x, (enc x).length = k) : ∀ (l : List α) (t : Nat), t < l.length * k → (l.flatMap enc)[t]? = (enc l[t / k]!)[t % k]?
  | [], t, h => by simp at h
  | x :: l, t, h => by
    have h' : t < l.length * k + k := by simpa [Nat.add_mul] using h
    have k0 : 0 < k := by exact Nat.pos_of_ne_zero fun e => by subst e; simp at h
    rw [List.flatMap_cons]
    rcases Nat.lt_or_ge t k with a | a
    · rw [List.getElem?_append_left (by rw [hk]; exact a), Nat.div_eq_of_lt a, Nat.mod_eq_of_lt a]; simp
    · obtain ⟨u, rfl⟩ : ∃ u, t = u + k := ⟨t - k, by omega⟩
      rw [List.getElem?_append_right (by rw [hk]; omega), hk, Nat.add_sub_cancel, flat_get hk l u (by omega), Nat.add_div_right _ k0, Nat.add_mod_right]
      simp
theorem flatK_list {enc : α → List Value} {k : Nat} (hk : ∀ x, (enc x).length = k) (d : Array α) : (Go.Sort.flatK enc k d).toList = d.toList.flatMap enc := by
  apply List.ext_getElem?
  intro t
  by_cases ht : t < d.size * k
  · have k0 : 0 < k := by exact Nat.pos_of_ne_zero fun e => by subst e; simp at ht
    rw [flat_get hk _ _ (by simpa using ht)]
    have h1 := Go.Sort.get_flatK enc k d t ht
    have hs : t < (Go.Sort.flatK enc k d).size := by simpa using ht
    have hm : t % k < (enc d[t / k]!).length := by rw [hk]; exact Nat.mod_lt _ k0
    rw [getElem!_pos (Go.Sort.flatK enc k d) t hs, getElem!_pos (enc d[t / k]!) (t % k) hm] at h1
    have e2 : d.toList[t / k]! = d[t / k]! := by
      have : t / k < d.size := Nat.div_lt_of_lt_mul (by rwa [Nat.mul_comm] at ht)
      rw [getElem!_pos d.toList _ (by simpa using this), getElem!_pos d _ this]; simp
    rw [e2, List.getElem?_eq_getElem hm, ← h1]
    simp [hs]
  · rw [List.getElem?_eq_none (by simp; omega), List.getElem?_eq_none]
    rw [List.length_flatMap, show (List.map (fun a => (enc a).length) d.toList) = List.replicate d.size k from by simp only [hk]; rw [List.map_const']; simp]
    simp; omega
theorem Rep.sorted {w0 w : World} {S : SS} {k E sz blk cap n : Nat} {os : Array Obj} {enc : α → List Value} (hk : ∀ x, (enc x).length = sz) {d d' : Array α} (h : Rep w0 S w) (hs : S[k]? = some [(blk, .cells (d.toList.flatMap enc) E (cap * sz))]) (hd : d'.size = d.size)
    (hc : d.size ≤ cap) : Rep w0 (S.set k [(blk, .cells (d'.toList.flatMap enc) E (cap * sz))]) (Go.Proofs.sortWorldK enc sz w blk 0 n d' os) := by
  obtain ⟨hge, C, hC, htot, hpre⟩ := h.own (blk, .cells (d.toList.flatMap enc) E (cap * sz)) (List.mem_flatten.2 ⟨_, List.mem_of_getElem? hs, by simp⟩)
  have hlt : blk < w.heap.size := h.lt (List.mem_flatten.2 ⟨_, List.mem_of_getElem? hs, List.mem_singleton.2 rfl⟩)
  have hheap : ∀ i, i < w.heap.size → i ≠ blk → (Go.Proofs.sortWorldK enc sz w blk 0 n d' os).heap[i]? = w.heap[i]? := by
    intro i hi hne
    show (w.heap.modify blk _ ++ os)[i]? = _
    rw [Array.getElem?_append, if_pos (by simpa using hi), Array.getElem?_modify, if_neg (Ne.symm hne)]
  have hnew : (Go.Proofs.sortWorldK enc sz w blk 0 n d' os).heap[blk]? = some (.cells (Go.Sort.putCells id 0 (Go.Sort.flatK enc sz d') C) E (0, 0)) := by
    show (w.heap.modify blk _ ++ os)[blk]? = _
    rw [Array.getElem?_append, if_pos (by simpa using hlt), Array.getElem?_modify, if_pos rfl, hC]
    rfl
  refine h.replace hs ?_ (fun i hi hne => hheap i hi (by simpa using hne)) (by simp) ?_ (Nat.le_add_right _ _)
  · refine ⟨rfl, rfl, rfl, ?_, fun i hi => hheap i (by omega) (by omega)⟩
    show _ ≤ (w.heap.modify blk _ ++ os).size
    simp
  · intro p hp
    simp only [List.mem_singleton] at hp
    subst hp
    refine ⟨hge, ⟨_, hnew, ?_, ?_⟩, .inl (by simp)⟩
    · rw [← htot]; simp [Go.Sort.putCells]
    · have hsz : (d'.toList.flatMap enc).length = d.size * sz := by
        rw [← flatK_list hk, Array.length_toList, Go.Sort.size_flatK, hd]
      have hcs : d.size * sz ≤ C.size := by rw [htot]; exact Nat.mul_le_mul_right _ hc
      rw [hsz, ← flatK_list hk]
      apply List.ext_getElem?
      intro t
      rw [List.getElem?_take]
      split
      · rename_i ht
        have hF : t < (Go.Sort.flatK enc sz d').size := by simpa [hd] using ht
        have hF' : t < d'.size * sz := by simpa using hF
        rw [Array.getElem?_toList, Array.getElem?_toList]
        simp only [Go.Sort.putCells, Array.getElem?_mapIdx]
        rw [Array.getElem?_eq_getElem (by omega : t < C.size), Array.getElem?_eq_getElem hF]
        simp [getElem!_pos (Go.Sort.flatK enc sz d') t hF, hF']
      · rename_i ht
        rw [List.getElem?_eq_none (by simp [hd]; omega)]
end
end Go.SL
namespace Go.Proofs.Lb
open Go.SL Go.RowKit Go.Sort Go.Proofs
def labC (a : LabB) : List Value := [.int .i64 a.1, .int .u64 (a.2.toNat : Int)]
def sortL (l : List LabB) : List LabB := l.mergeSort fun x y => !(ltOf orZ) y x
theorem ltOf_orZ (a b : LabB) : ltOf orZ a b = decide (a.1 < b.1 ∨ (a.1 = b.1 ∧ a.2.toNat < b.2.toNat)) := by
  unfold ltOf orZ cmpI
  rw [decide_eq_decide]
  repeat' split
  all_goals omega
theorem orZ_swo : SWO (ltOf orZ) where
  irrefl x := by rw [ltOf_orZ]; simp
  trans x y z h1 h2 := by rw [ltOf_orZ, decide_eq_true_eq] at *; omega
  ntrans x y z h1 h2 := by rw [ltOf_orZ, decide_eq_false_iff_not] at *; omega
theorem orZ_tot (x y : LabB) (h1 : ltOf orZ x y = false) (h2 : ltOf orZ y x = false) : x = y := by
  rw [ltOf_orZ, decide_eq_false_iff_not] at h1 h2
  exact Prod.ext (by omega) (BitVec.eq_of_toNat_eq (by omega))
theorem labC_len (x : LabB) : (labC x).length = 2 := rfl
theorem order_lays (blk off size : Nat) (w : World) : CmpLays Tryd.prog 25 #[] labC 2 orZ blk off size w := by
  intro m os dk hs x y
  refine (order_l (a := x) (b := y) (S := []) _ (Rep.start _)).mono ?_
  rintro e w' ⟨u, S', rfl, hr, rfl, rfl⟩
  refine ⟨rfl, grow_of hr.below (hr.drawn.resolve_left ?_)⟩
  unfold Loose
  exact id
theorem sort_fc {w0 : World} {S : SS} {k : Nat} {v : Value} {seg : Seg} {l : List LabB} (hs : S[k]? = some seg) (hv : SlV 24 2 v l.length (l.flatMap labC) seg) (hm : l.length < 4611686018427387904) :
    FC Tryd.prog w0 79 [v, .func (.func 25) #[] #[]] S (fun u S' => u = .tuple #[] ∧ ∃ seg', SlV 24 2 v l.length ((sortL l).flatMap labC) seg' ∧ S' = S.set k seg') := by
  intro w hr
  obtain ⟨hl, ⟨rfl, h0, rfl⟩ | ⟨r, cap, rfl, rfl, h1, h2⟩⟩ := hv
  · obtain rfl : l = [] := List.length_eq_zero_iff.1 h0
    refine (AnyF.slices_SortFunc_none Tryd.sortL none 0 _ w).mono ?_
    rintro e w' ⟨rfl, rfl⟩
    have e0 : sortL [] = [] := by simp [sortL]
    rw [e0]
    refine ⟨_, S, rfl, hr, rfl, [], SlV.nil 24 2, ?_⟩
    apply List.ext_getElem?
    intro i
    rw [List.getElem?_set]
    split
    · rename_i h; subst h; rw [hs]; split
      · rfl
      · rename_i h; rw [List.getElem?_eq_none (by omega)] at hs; cases hs
    · rfl
  · have hlt : r < w.heap.size := hr.lt (List.mem_flatten.2 ⟨_, List.mem_of_getElem? hs, List.mem_singleton.2 rfl⟩)
    obtain ⟨hge, C, hC, htot, hpre⟩ := hr.own (r, .cells (l.flatMap labC) 24 (cap * 2)) (List.mem_flatten.2 ⟨_, List.mem_of_getElem? hs, by simp⟩)
    have hH : HoldsK labC 2 w r 0 l.toArray := by
      intro j hj
      have hj' : j < l.length * 2 := by simpa using hj
      have e1 : (flatK labC 2 l.toArray)[j]? = C[j]? := by
        have := congrArg (·[j]?) hpre
        simp only [List.getElem?_take, Array.getElem?_toList] at this
        rw [if_pos (by rw [hl]; exact hj')] at this
        rw [this, ← Array.getElem?_toList, flatK_list labC_len]
      rw [Array.getElem?_eq_getElem hj] at e1
      constructor
      · simp only [World.cell?, hC, Nat.zero_add]
        rw [getElem!_pos _ j hj]
        exact e1.symm
      · simp [World.frozen?, hC]
    have hcon := AnyQ.slices_SortFunc_total Tryd.sortL 2 Tryd.isAgg24 Tryd.sizeOf24 labC labC_len (fun x v hv => by simp [labC] at hv; rcases hv with rfl | rfl <;> rfl) orZ orZ_swo 25 #[] r 0 cap l.toArray w
      (enters_of Tryd.func25 (by kernel_rfl) rfl) (order_lays r 0 _ w) hH hlt (by simpa using hm) orZ_tot
    rw [List.size_toArray] at hcon
    refine hcon.mono ?_
    rintro e w' ⟨rfl, n, os, rfl⟩
    have hlen : (sortL l).length = l.length := by simp [sortL]
    refine ⟨_, _, rfl, hr.sorted (d := l.toArray) (d' := (sortL l).toArray) labC_len (by simpa using hs) (by simp [hlen]) (by simpa using h1), rfl, [(r, .cells ((sortL l).flatMap labC) 24 (cap * 2))], ?_, by simp⟩
    have := SlV.mk' (E := 24) (r := r) (xs := (sortL l).flatMap labC) (sz := 2) (m := l.length) (cap := cap) (by rw [List.length_flatMap]; simp [labC_len, List.map_const', hlen]) h1 h2
    exact this
end Go.Proofs.Lb

set_option linter.unusedVariables false
set_option linter.unusedSimpArgs false
namespace Go.SL
open Go.RowKit
section
variable {P : Program} {w0 : World} {n : Nat} {T : TT} {S : SS}
theorem QKs.call {base : SS} {f : FuncId} {args : List PV} {vs : List Value} {v : Value} {d : Option Nat} {g : Option (Nat × Bool)} {r : List PI} {K : TT → Prop} (hg : gOk T g) (hv : valsP T args = some vs) (h : ∀ S, Over base S → FC P w0 f vs S (fun v' S' => v' = v ∧ S' = S))
    (k : QKs P w0 n base r (put d v T) K) : QKs P w0 n base (⟨d, g, .call f args⟩ :: r) T K :=
  let ⟨T', vs', h1, h2⟩ := k; ⟨T', _, .step hg (fun S hS => OW.call hv (h S hS)) h1, h2⟩
end
end Go.SL

set_option linter.unusedVariables false
set_option linter.unusedSimpArgs false
namespace Go.Proofs.Lb
open Go.SL Go.RowKit Go.Proofs
set_option maxHeartbeats 1000000
def labs (l : List LabB) : List Value := l.flatMap labC
theorem labs_len (l : List LabB) : (labs l).length = l.length * 2 := by
  unfold labs
  rw [List.length_flatMap]
  simp [labC_len, List.map_const']
theorem labs_one (l : List LabB) : (labs l).all (·.oneCell') = true := by
  rw [List.all_eq_true]
  intro v hv
  obtain ⟨a, _, h⟩ := List.mem_flatMap.1 hv
  simp [labC] at h
  rcases h with rfl | rfl <;> rfl
theorem labs_get {l : List LabB} {k : Nat} (hk : k < l.length) {j : Nat} (hj : j < 2) : (labs l)[k * 2 + j]? = (labC l[k])[j]? := by
  unfold labs
  rw [flat_get labC_len l (k * 2 + j) (by omega), show (k * 2 + j) / 2 = k from by omega, show (k * 2 + j) % 2 = j from by omega, getElem!_pos l k hk]
theorem labs_at {w0 : World} {S : SS} {a : Addr} {l : List LabB} (h : Rd w0 S (some a) (labs l)) {k : Nat} (hk : k < l.length) :
    ∀ (j : Nat) (v : Value), [Value.int .i64 l[k].1, .int .u64 (l[k].2.toNat : Int)][j]? = some v → Cell w0 S ((a.add (k * 2)).add j) v := by
  intro j v hj
  have hj2 : j < 2 := by have := (List.getElem?_eq_some_iff.1 hj).1; simpa using this
  rw [addr_add_add]
  exact h.at (by rw [labs_get hk hj2]; exact hj)
theorem labs_some {w0 : World} {S : SS} {A : Option Addr} {l : List LabB} (h : Rd w0 S A (labs l)) (hk : 0 < l.length) : ∃ a, A = some a :=
  h.some (fun e => by have := labs_len l; rw [e] at this; simp at this; omega)
theorem clone_fc {w0 : World} {S : SS} {A : Option Addr} {c : Nat} {l : List LabB} (hx : Rd w0 S A (labs l)) (hb : l.length ≤ 1000000000000) :
    FC Tryd.prog w0 78 [.slice A l.length c] S (fun v S' => ∃ seg, S' = seg :: S ∧ SlV 24 2 v l.length (labs l) seg) := by
  refine FC.ofD Tryd.known78 (by simp) ?_
  unfold Tryd.pc78
  simp only [argT]
  refine PW.seqOps ?_
  refine OL.det trivial (Yields.pure rfl) ?_
  refine OL.nil ?_
  refine PW.keep (T' := [(0, _)]) ⟨rfl, trivial⟩ ?_
  refine PW.seq fun K1 hK1 => ?_
  refine PW.seqOps ?_
  refine OL.det trivial (Yields.pure rfl) ?_
  refine OL.det trivial (Yields.slNil rfl) ?_
  refine OL.nil ?_
  refine PW.keep (T' := [(0, _), (4, _)]) ⟨rfl, rfl, trivial⟩ ?_
  refine PW.cond rfl (fun c4 => ?_) (fun c4 => ?_)
  · try simp only [decide_eq_true_eq, decide_eq_false_iff_not, beq_iff_eq, bne_iff_ne, beq_eq_false_iff_ne, bne_eq_false_iff_eq, Bool.not_eq_true', Bool.not_eq_false', Bool.not_eq_true, ne_eq, Decidable.not_not] at c4
    refine PW.seqOps ?_
    refine OL.det trivial (Yields.pure rfl) ?_
    refine OL.nil ?_
    refine PW.keep (T' := [(2, _)]) ⟨rfl, trivial⟩ ?_
    refine PW.ret ?_
    change (Exit.ret = Exit.normal ∨ Exit.ret = Exit.ret) ∧ ∃ v, resV _ _ = some v ∧ _
    obtain rfl : A = none := by cases A with
      | none => rfl
      | some a => simp at c4
    have hl : l = [] := by
      cases l with
      | nil => rfl
      | cons x l => obtain ⟨a, e⟩ := labs_some hx (by simp); cases e
    subst hl
    exact ⟨.inr rfl, _, rfl, _, Sub.nilL (Sub.refl _), [], rfl, SlV.nil 24 2⟩
  · try simp only [decide_eq_true_eq, decide_eq_false_iff_not, beq_iff_eq, bne_iff_ne, beq_eq_false_iff_ne, bne_eq_false_iff_eq, Bool.not_eq_true', Bool.not_eq_false', Bool.not_eq_true, ne_eq, Decidable.not_not] at c4
    refine PW.skip ?_
    refine hK1 _ _ ?_
    refine PW.keep (T' := [(0, _)]) ⟨rfl, trivial⟩ ?_
    refine PW.seqOps ?_
    refine OL.cons trivial OW.bsl0 ?_
    rintro _ _ ⟨r5, rfl, rfl⟩
    refine OL.det trivial (Yields.pure rfl) ?_
    obtain ⟨a0, rfl⟩ : ∃ a, A = some a := by cases A with
      | none => simp at c4
      | some a => exact ⟨a, rfl⟩
    refine OL.cons trivial (OW.app (k := 0) (m := 0) (xs := []) rfl rfl (SlV.mk' (cap := 0) rfl (Nat.le_refl 0) (by decide)) rfl (labs_len l) (fun j u hj => hx.cons.at hj) (labs_one l) (by omega) (by unfold maxLen; omega)) ?_
    rintro v7 _ ⟨seg7, rfl, hsl7⟩
    change OL _ _ _ _ _ (seg7 :: S) _
    rw [Nat.zero_add, List.nil_append] at hsl7
    refine OL.det trivial (Yields.pure rfl) ?_
    refine OL.nil ?_
    refine PW.keep (T' := [(2, _)]) ⟨rfl, trivial⟩ ?_
    refine PW.ret ?_
    change (Exit.ret = Exit.normal ∨ Exit.ret = Exit.ret) ∧ ∃ v, resV _ _ = some v ∧ _
    exact ⟨.inr rfl, _, rfl, _, Sub.refl _, _, rfl, hsl7⟩
end Go.Proofs.Lb

set_option linter.unusedVariables false
set_option linter.unusedSimpArgs false
namespace Go.SL
open Go.RowKit
/-- numbers of the walk's own blocks begin here -/
def ownB : Nat := 1099511627776
/-- for each own block: where it lies, and how many cells it has -/
abbrev Rho := List (Nat × Nat)
def capOf (t o e : Nat) : Nat := match e % 4 with | 0 => (t - o) / (e / 4) | 1 => e / 4 | _ => t - o
def capFit (t e : Nat) : Prop := e % 4 ≠ 3 ∧ (e % 4 = 0 → (e = 0 ∧ t = 0) ∨ (0 < e / 4 ∧ t = t / (e / 4) * (e / 4) ∧ t / (e / 4) ≤ maxLen))
def flatV : Value → Bool
  | .bool _ | .int _ _ | .string _ | .pointer none | .slice none 0 0 | .map none | .nilFunc | .nilIface => true
  | .pointer (some a) => Nat.blt a.block ownB && a.spot.isNone
  | _ => false
inductive VR (ρ : Rho) : Value → Value → Prop
  | flat {v : Value} (h : flatV v = true) : VR ρ v v
  | ptr {i o b t : Nat} (h : ρ[i]? = some (b, t)) : VR ρ (.pointer (some ⟨ownB + i, o, none⟩)) (.pointer (some ⟨b, o, none⟩))
  | slice {i o b t l e : Nat} (h : ρ[i]? = some (b, t)) (hf : capFit t e) (hc : l ≤ capOf t o e) : VR ρ (.slice (some ⟨ownB + i, o, none⟩) l e) (.slice (some ⟨b, o, none⟩) l (capOf t o e))
  | empty {a : Addr} {c : Nat} : VR ρ (.slice (some ⟨0, 0, none⟩) 0 3) (.slice (some a) 0 c)
  | map {i b t : Nat} (h : ρ[i]? = some (b, t)) : VR ρ (.map (some (ownB + i))) (.map (some b))
  | func {f : Fn} {fi ca fi' ca' : List Value} (h1 : fi.length = fi'.length) (h2 : ∀ (j : Nat) (v u : Value), fi[j]? = some v → fi'[j]? = some u → VR ρ v u)
      (h3 : ca.length = ca'.length) (h4 : ∀ (j : Nat) (v u : Value), ca[j]? = some v → ca'[j]? = some u → VR ρ v u) : VR ρ (.func f fi.toArray ca.toArray) (.func f fi'.toArray ca'.toArray)
  | agg {cs cs' : List Value} (h1 : cs.length = cs'.length) (h2 : ∀ (j : Nat) (v u : Value), cs[j]? = some v → cs'[j]? = some u → VR ρ v u) : VR ρ (.agg cs.toArray) (.agg cs'.toArray)
  | tuple {cs cs' : List Value} (h1 : cs.length = cs'.length) (h2 : ∀ (j : Nat) (v u : Value), cs[j]? = some v → cs'[j]? = some u → VR ρ v u) : VR ρ (.tuple cs.toArray) (.tuple cs'.toArray)
  | iface {t : TypeId} {v v' : Value} (h : VR ρ v v') : VR ρ (.iface t v) (.iface t v')
  | opq {k : Option Nat} {a : Addr} : VR ρ (.chan k) (.pointer (some a))
def VRL (ρ : Rho) (cs cs' : List Value) : Prop := cs.length = cs'.length ∧ ∀ (j : Nat) (v u : Value), cs[j]? = some v → cs'[j]? = some u → VR ρ v u
theorem rho_mono {ρ ρ' : Rho} (h : ρ <+: ρ') {i : Nat} {x : Nat × Nat} (hi : ρ[i]? = some x) : ρ'[i]? = some x := by
  obtain ⟨r, rfl⟩ := h
  rw [List.getElem?_append_left (List.getElem?_eq_some_iff.1 hi).1]; exact hi
theorem VR.mono {ρ ρ' : Rho} (hp : ρ <+: ρ') {v u : Value} (h : VR ρ v u) : VR ρ' v u := by
  induction h with
  | flat h => exact .flat h
  | ptr h => exact .ptr (rho_mono hp h)
  | slice h hf hc => exact .slice (rho_mono hp h) hf hc
  | empty => exact .empty
  | map h => exact .map (rho_mono hp h)
  | func h1 _ h3 _ i2 i4 => exact .func h1 i2 h3 i4
  | agg h1 _ i2 => exact .agg h1 i2
  | tuple h1 _ i2 => exact .tuple h1 i2
  | iface _ ih => exact .iface ih
  | opq => exact .opq
theorem VRL.mono {ρ ρ' : Rho} (hp : ρ <+: ρ') {v u : List Value} (h : VRL ρ v u) : VRL ρ' v u := ⟨h.1, fun j a b h1 h2 => (h.2 j a b h1 h2).mono hp⟩
theorem VRL.nil {ρ : Rho} : VRL ρ [] [] := ⟨rfl, fun j v u h => by simp at h⟩
theorem VRL.cons {ρ : Rho} {v u : Value} {cs cs' : List Value} (h : VR ρ v u) (k : VRL ρ cs cs') : VRL ρ (v :: cs) (u :: cs') :=
  ⟨by simp [k.1], fun j a b h1 h2 => by
    cases j with
    | zero => simp at h1 h2; subst h1; subst h2; exact h
    | succ j => exact k.2 j a b (by simpa using h1) (by simpa using h2)⟩
theorem VRL.tail {ρ : Rho} {v u : Value} {cs cs' : List Value} (h : VRL ρ (v :: cs) (u :: cs')) : VR ρ v u ∧ VRL ρ cs cs' :=
  ⟨h.2 0 v u rfl rfl, by simpa using h.1, fun j a b h1 h2 => h.2 (j + 1) a b (by simpa using h1) (by simpa using h2)⟩
theorem VRL.cons_left {ρ : Rho} {v : Value} {cs us : List Value} (h : VRL ρ (v :: cs) us) : ∃ u cs', us = u :: cs' ∧ VR ρ v u ∧ VRL ρ cs cs' := by
  cases us with
  | nil => exact absurd h.1 (by simp)
  | cons u cs' => exact ⟨u, cs', rfl, h.tail.1, h.tail.2⟩
theorem VRL.nil_left {ρ : Rho} {us : List Value} (h : VRL ρ [] us) : us = [] := List.eq_nil_of_length_eq_zero (by have := h.1; simp at this; omega)
theorem VRL.get {ρ : Rho} {cs cs' : List Value} (h : VRL ρ cs cs') {j : Nat} {v : Value} (hj : cs[j]? = some v) : ∃ u, cs'[j]? = some u ∧ VR ρ v u := by
  have hl : j < cs'.length := by rw [← h.1]; exact (List.getElem?_eq_some_iff.1 hj).1
  exact ⟨cs'[j], by simp [hl], h.2 j v _ hj (by simp [hl])⟩
theorem VRL.append {ρ : Rho} {a b a' b' : List Value} (h : VRL ρ a a') (k : VRL ρ b b') : VRL ρ (a ++ b) (a' ++ b') := by
  refine ⟨by simp [h.1, k.1], fun j v u h1 h2 => ?_⟩
  by_cases hj : j < a.length
  · rw [List.getElem?_append_left hj] at h1
    rw [List.getElem?_append_left (by rw [← h.1]; exact hj)] at h2
    exact h.2 j v u h1 h2
  · rw [List.getElem?_append_right (by omega)] at h1
    rw [List.getElem?_append_right (by rw [← h.1]; omega), ← h.1] at h2
    exact k.2 _ v u h1 h2
theorem VRL.take {ρ : Rho} {a a' : List Value} (h : VRL ρ a a') (k : Nat) : VRL ρ (a.take k) (a'.take k) :=
  ⟨by simp [h.1], fun j v u h1 h2 => by
    rw [List.getElem?_take] at h1 h2
    split at h1
    · rename_i hj; rw [if_pos hj] at h2; exact h.2 j v u h1 h2
    · cases h1⟩
theorem VRL.drop {ρ : Rho} {a a' : List Value} (h : VRL ρ a a') (k : Nat) : VRL ρ (a.drop k) (a'.drop k) :=
  ⟨by simp [h.1], fun j v u h1 h2 => by rw [List.getElem?_drop] at h1 h2; exact h.2 _ v u h1 h2⟩
theorem VRL.setAt {ρ : Rho} : ∀ {a a' : List Value} (k : Nat) {b b' : List Value}, VRL ρ a a' → VRL ρ b b' → VRL ρ (setAt a k b) (setAt a' k b')
  | [], a', k, b, b', h, hb => by
    obtain rfl := h.nil_left
    rcases b with _ | ⟨v, b⟩ <;> rcases b' with _ | ⟨u, b'⟩ <;> cases k <;> simp [SL.setAt] <;> exact h
  | c :: a, a', k, b, b', h, hb => by
    obtain ⟨c', a', rfl, hc, ha⟩ := h.cons_left
    cases k with
    | zero =>
      cases b with
      | nil => obtain rfl := hb.nil_left; simpa [SL.setAt] using h
      | cons v b => obtain ⟨u, b', rfl, hv, hb'⟩ := hb.cons_left; simpa [SL.setAt] using VRL.cons hv (VRL.setAt 0 ha hb')
    | succ k => simpa [SL.setAt] using VRL.cons hc (VRL.setAt k ha hb)
theorem VRL.flat {ρ : Rho} {cs : List Value} (h : cs.all flatV = true) : VRL ρ cs cs :=
  ⟨rfl, fun j v u h1 h2 => by rw [h1] at h2; obtain rfl := Option.some.inj h2; exact .flat (List.all_eq_true.1 h v (List.mem_of_getElem? h1))⟩
/-- constants of a text -/
def litV : Value → Bool
  | .func (.func _) fi ca => fi.toList.all flatV && ca.toList.all flatV
  | .agg cs => cs.toList.all flatV
  | .iface _ v => flatV v
  | v => flatV v
theorem VR.lit {ρ : Rho} {v : Value} (h : litV v = true) : VR ρ v v := by
  cases v with
  | func f fi ca =>
    cases f with
    | func f =>
      simp only [litV, Bool.and_eq_true] at h
      have h1 := VRL.flat (ρ := ρ) h.1
      have h2 := VRL.flat (ρ := ρ) h.2
      have := VR.func (ρ := ρ) (f := .func f) h1.1 h1.2 h2.1 h2.2
      simpa using this
    | _ => simp [litV, flatV] at h
  | agg cs =>
    have h1 := VRL.flat (ρ := ρ) (cs := cs.toList) h
    have := VR.agg (ρ := ρ) h1.1 h1.2
    simpa using this
  | iface t v => exact .iface (.flat h)
  | _ => exact .flat h
inductive EO where
  | cells (c : List Value) (E : TypeId)
  | ro (c : List Value)
  | map (es : List (ByteArray × Value))
  | iter (s : ByteArray) (pos : Nat)
  | ext (c : List Value)
inductive Tr where
  | leaf
  | node (v : Option EO) (l r : Tr)
def Tr.get : Tr → Nat → Option EO
  | .leaf, _ => none
  | .node v l r, n => bif Nat.beq n 0 then v else bif Nat.beq (n % 2) 1 then l.get (n / 2) else r.get (n / 2 - 1)
def Tr.set : Nat → Tr → Nat → Option EO → Tr
  | 0, t, _, _ => t
  | f + 1, .leaf, n, o => bif Nat.beq n 0 then .node o .leaf .leaf else bif Nat.beq (n % 2) 1 then .node none (Tr.set f .leaf (n / 2) o) .leaf else .node none .leaf (Tr.set f .leaf (n / 2 - 1) o)
  | f + 1, .node v l r, n, o => bif Nat.beq n 0 then .node o l r else bif Nat.beq (n % 2) 1 then .node v (Tr.set f l (n / 2) o) r else .node v l (Tr.set f r (n / 2 - 1) o)
theorem beq_cases (n m : Nat) : (n = m ∧ Nat.beq n m = true) ∨ (n ≠ m ∧ Nat.beq n m = false) := by
  by_cases h : n = m
  · exact .inl ⟨h, by subst h; exact Nat.beq_refl n⟩
  · refine .inr ⟨h, ?_⟩
    cases e : Nat.beq n m with
    | false => rfl
    | true => exact absurd (Nat.eq_of_beq_eq_true e) h
theorem Tr.get_leaf (n : Nat) : Tr.leaf.get n = none := by cases n <;> rfl
theorem Tr.get_set (f : Nat) : ∀ (t : Tr) (n m : Nat) (o : Option EO), n + 1 < 2 ^ f → (Tr.set f t n o).get m = if m = n then o else t.get m := by
  induction f with
  | zero => intro t n m o h; simp at h
  | succ f ih =>
    intro t n m o h
    have hp : 2 ^ (f + 1) = 2 * 2 ^ f := by rw [Nat.pow_succ, Nat.mul_comm]
    cases t with
    | leaf =>
      simp only [Tr.set]
      rcases beq_cases n 0 with ⟨rfl, e⟩ | ⟨hn, e⟩
      · rw [e]; simp only [cond_true, Tr.get]
        rcases beq_cases m 0 with ⟨rfl, e2⟩ | ⟨hm, e2⟩ <;> rw [e2] <;> simp [Tr.get_leaf, *]
      · rw [e]; simp only [cond_false]
        rcases beq_cases (n % 2) 1 with ⟨h1, e1⟩ | ⟨h1, e1⟩
        · rw [e1]; simp only [cond_true, Tr.get]
          rcases beq_cases m 0 with ⟨rfl, e2⟩ | ⟨hm, e2⟩ <;> rw [e2] <;> simp only [cond_true, cond_false]
          · rw [if_neg (by omega)]
          · rcases beq_cases (m % 2) 1 with ⟨h3, e3⟩ | ⟨h3, e3⟩ <;> rw [e3] <;> simp only [cond_true, cond_false]
            · rw [ih _ _ _ _ (by omega)]
              by_cases hc : m = n
              · rw [if_pos hc, if_pos (by omega)]
              · rw [if_neg hc, if_neg (by omega)]; try simp [Tr.get_leaf]
            · rw [if_neg (by omega)]; try simp [Tr.get_leaf]
        · rw [e1]; simp only [cond_false, Tr.get]
          rcases beq_cases m 0 with ⟨rfl, e2⟩ | ⟨hm, e2⟩ <;> rw [e2] <;> simp only [cond_true, cond_false]
          · rw [if_neg (by omega)]
          · rcases beq_cases (m % 2) 1 with ⟨h3, e3⟩ | ⟨h3, e3⟩ <;> rw [e3] <;> simp only [cond_true, cond_false]
            · rw [if_neg (by omega)]; try simp [Tr.get_leaf]
            · rw [ih _ _ _ _ (by omega)]
              by_cases hc : m = n
              · rw [if_pos hc, if_pos (by omega)]
              · rw [if_neg hc, if_neg (by omega)]; try simp [Tr.get_leaf]
    | node v l r =>
      simp only [Tr.set]
      rcases beq_cases n 0 with ⟨rfl, e⟩ | ⟨hn, e⟩
      · rw [e]; simp only [cond_true, Tr.get]
        rcases beq_cases m 0 with ⟨rfl, e2⟩ | ⟨hm, e2⟩ <;> rw [e2] <;> simp [*]
      · rw [e]; simp only [cond_false]
        rcases beq_cases (n % 2) 1 with ⟨h1, e1⟩ | ⟨h1, e1⟩
        · rw [e1]; simp only [cond_true, Tr.get]
          rcases beq_cases m 0 with ⟨rfl, e2⟩ | ⟨hm, e2⟩ <;> rw [e2] <;> simp only [cond_true, cond_false]
          · rw [if_neg (by omega)]
          · rcases beq_cases (m % 2) 1 with ⟨h3, e3⟩ | ⟨h3, e3⟩ <;> rw [e3] <;> simp only [cond_true, cond_false]
            · rw [ih _ _ _ _ (by omega)]
              by_cases hc : m = n
              · rw [if_pos hc, if_pos (by omega)]
              · rw [if_neg hc, if_neg (by omega)]
            · rw [if_neg (by omega)]
        · rw [e1]; simp only [cond_false, Tr.get]
          rcases beq_cases m 0 with ⟨rfl, e2⟩ | ⟨hm, e2⟩ <;> rw [e2] <;> simp only [cond_true, cond_false]
          · rw [if_neg (by omega)]
          · rcases beq_cases (m % 2) 1 with ⟨h3, e3⟩ | ⟨h3, e3⟩ <;> rw [e3] <;> simp only [cond_true, cond_false]
            · rw [if_neg (by omega)]
            · rw [ih _ _ _ _ (by omega)]
              by_cases hc : m = n
              · rw [if_pos hc, if_pos (by omega)]
              · rw [if_neg hc, if_neg (by omega)]
structure EH where
  nx : Nat
  tr : Tr
  g : List (Nat × List Value)
def bigN : Nat := 1000000000000
def EH.push (H : EH) (o : EO) : EH := ⟨H.nx + 1, Tr.set 50 H.tr H.nx (some o), H.g⟩
def EH.upd (H : EH) (i : Nat) (o : EO) : EH := ⟨H.nx, Tr.set 50 H.tr i (some o), H.g⟩
def EH.del (H : EH) (i : Nat) : EH := ⟨H.nx, Tr.set 50 H.tr i none, H.g⟩
def mapR (ρ : Rho) (es : List (ByteArray × Value)) (es' : List (ByteArray × Value)) : Prop := es.map Prod.fst = es'.map Prod.fst ∧ VRL ρ (es.map Prod.snd) (es'.map Prod.snd)
/-- the block that is known so holds that -/
def OR (ρ : Rho) (t : Nat) : EO → AO → Prop
  | .cells c E, o => ∃ c', VRL ρ c c' ∧ o = .cells c' E t
  | .ro c, o => ∃ c', VRL ρ c c' ∧ o = .ro c'
  | .map es, o => ∃ es', mapR ρ es es' ∧ o = .map (skey es')
  | .iter s p, o => o = .obj (.stringIter s p)
  | .ext _, _ => False
abbrev LL := List (Nat × Seg)
def cs (L : LL) (S : SS) : SS := L.map Prod.snd ++ S
def extR (w0 : World) (ρ : Rho) (b : Nat) (c : List Value) : Prop := ∀ (j : Nat) (v : Value), c[j]? = some v → ∃ u, w0.cell? ⟨b, j, none⟩ = some u ∧ VR ρ v u
structure HR (w0 : World) (ρ : Rho) (H : EH) (L : LL) : Prop where
  nx : H.nx = ρ.length
  big : H.nx ≤ bigN
  nodup : (L.map Prod.fst).Nodup
  lt : ∀ p ∈ L, p.1 < H.nx
  at_ : ∀ i o, H.tr.get i = some o → i < H.nx ∧ ∃ b t, ρ[i]? = some (b, t) ∧ ((∃ c, o = .ext c ∧ extR w0 ρ b c) ∨ ∃ o', OR ρ t o o' ∧ (i, [(b, o')]) ∈ L)
  glob : ∀ p ∈ H.g, extR w0 ρ p.1 p.2
theorem nodup_set_new {xs : List Nat} {k x : Nat} (h : xs.Nodup) (hx : x ∉ xs) : (xs.set k x).Nodup := by
  induction xs generalizing k with
  | nil => simp
  | cons a xs ih =>
    rw [List.nodup_cons] at h
    cases k with
    | zero => rw [List.set_cons_zero, List.nodup_cons]; exact ⟨fun hm => hx (by simp [hm]), h.2⟩
    | succ k =>
      rw [List.set_cons_succ, List.nodup_cons]
      refine ⟨fun hm => ?_, ih h.2 fun hm => hx (by simp [hm])⟩
      rcases List.mem_or_eq_of_mem_set hm with hm | hm
      · exact h.1 hm
      · exact hx (by simp [hm])
theorem mapR.mono {ρ ρ' : Rho} (hp : ρ <+: ρ') {a b : List (ByteArray × Value)} (h : mapR ρ a b) : mapR ρ' a b := ⟨h.1, h.2.mono hp⟩
theorem OR.mono {ρ ρ' : Rho} (hp : ρ <+: ρ') {t : Nat} {o : EO} {o' : AO} (h : OR ρ t o o') : OR ρ' t o o' := by
  cases o with
  | cells c E => obtain ⟨c', h1, h2⟩ := h; exact ⟨c', h1.mono hp, h2⟩
  | ro c => obtain ⟨c', h1, h2⟩ := h; exact ⟨c', h1.mono hp, h2⟩
  | map es => obtain ⟨es', h1, h2⟩ := h; exact ⟨es', h1.mono hp, h2⟩
  | iter s p => exact h
  | ext c => exact h
theorem extR.mono {w0 : World} {ρ ρ' : Rho} (hp : ρ <+: ρ') {b : Nat} {c : List Value} (h : extR w0 ρ b c) : extR w0 ρ' b c :=
  fun j v hj => let ⟨u, h1, h2⟩ := h j v hj; ⟨u, h1, h2.mono hp⟩
section
variable {w0 : World} {ρ : Rho} {H : EH} {L : LL}
theorem HR.own (h : HR w0 ρ H L) {i : Nat} {o : EO} (hi : H.tr.get i = some o) (he : ∀ c, o ≠ .ext c) (S : SS) : ∃ (b t : Nat) (o' : AO) (k : Nat), ρ[i]? = some (b, t) ∧ OR ρ t o o' ∧ L[k]? = some (i, [(b, o')]) ∧ (cs L S)[k]? = some [(b, o')] := by
  obtain ⟨_, b, t, h1, ⟨c, h2, _⟩ | ⟨o', h2, h3⟩⟩ := h.at_ i o hi
  · exact absurd h2 (he c)
  · obtain ⟨k, hk⟩ := List.getElem?_of_mem h3
    refine ⟨b, t, o', k, h1, h2, hk, ?_⟩
    have hl : k < L.length := (List.getElem?_eq_some_iff.1 hk).1
    unfold cs
    rw [List.getElem?_append_left (by simpa using hl), List.getElem?_map, hk]
    rfl
theorem HR.push (h : HR w0 ρ H L) {o : EO} {o' : AO} {r t : Nat} (hn : H.nx < bigN) (ho : OR (ρ ++ [(r, t)]) t o o') : HR w0 (ρ ++ [(r, t)]) (H.push o) ((H.nx, [(r, o')]) :: L) := by
  have hp : ρ <+: ρ ++ [(r, t)] := List.prefix_append _ _
  refine ⟨by simp [EH.push, h.nx], by simp [EH.push]; omega, ?_, ?_, ?_, fun p hpm => (h.glob p hpm).mono hp⟩
  · simp only [List.map_cons, List.nodup_cons]
    refine ⟨fun hm => ?_, h.nodup⟩
    obtain ⟨p, hpm, he⟩ := List.mem_map.1 hm
    have := h.lt p hpm
    omega
  · intro p hpm
    simp only [EH.push]
    rcases List.mem_cons.1 hpm with rfl | hpm
    · simp
    · have := h.lt p hpm; omega
  · intro i x hi
    simp only [EH.push] at hi ⊢
    have hb : bigN = 1000000000000 := rfl
    rw [Tr.get_set 50 _ _ _ _ (by rw [hb] at hn; omega)] at hi
    split at hi
    · rename_i he
      subst he
      obtain rfl := Option.some.inj hi
      refine ⟨by omega, r, t, by rw [h.nx]; simp, .inr ⟨o', ho, by simp⟩⟩
    · obtain ⟨hlt, b, t', h1, h2⟩ := h.at_ i x hi
      refine ⟨by omega, b, t', rho_mono hp h1, ?_⟩
      rcases h2 with ⟨c, h2, h3⟩ | ⟨o'', h2, h3⟩
      · exact .inl ⟨c, h2, h3.mono hp⟩
      · exact .inr ⟨o'', h2.mono hp, by simp [h3]⟩
theorem HR.upd (h : HR w0 ρ H L) {o : EO} {o' o2 : AO} {i k b t : Nat} (hr : ρ[i]? = some (b, t)) (hk : L[k]? = some (i, [(b, o2)])) (ho : OR ρ t o o') : HR w0 ρ (H.upd i o) (L.set k (i, [(b, o')])) := by
  have hkl : k < L.length := (List.getElem?_eq_some_iff.1 hk).1
  have hfst : (L.set k (i, [(b, o')])).map Prod.fst = L.map Prod.fst := by
    rw [List.map_set]
    apply List.ext_getElem? 
    intro j
    by_cases e : k = j
    · subst e; rw [List.getElem?_set_self (by simpa using hkl)]; simp [hk]
    · rw [List.getElem?_set_ne e]
  have hil : i < H.nx := by have := h.lt _ (List.mem_of_getElem? hk); exact this
  refine ⟨h.nx, h.big, by rw [hfst]; exact h.nodup, ?_, ?_, h.glob⟩
  · intro p hp
    rcases List.mem_or_eq_of_mem_set hp with hp | rfl
    · exact h.lt p hp
    · exact hil
  · intro j x hj
    simp only [EH.upd] at hj ⊢
    have hb : bigN = 1000000000000 := rfl
    have := h.big
    rw [Tr.get_set 50 _ _ _ _ (by omega)] at hj
    split at hj
    · rename_i he
      subst he
      obtain rfl := Option.some.inj hj
      exact ⟨hil, b, t, hr, .inr ⟨o', ho, List.mem_set hkl _⟩⟩
    · rename_i he
      obtain ⟨hlt, b', t', h1, h2⟩ := h.at_ j x hj
      refine ⟨hlt, b', t', h1, ?_⟩
      rcases h2 with h2 | ⟨o'', h2, h3⟩
      · exact .inl h2
      · refine .inr ⟨o'', h2, ?_⟩
        obtain ⟨q, hq⟩ := List.getElem?_of_mem h3
        have : k ≠ q := fun e => by subst e; rw [hk] at hq; simp only [Option.some.injEq, Prod.mk.injEq] at hq; omega
        exact List.mem_of_getElem? (by rw [List.getElem?_set_ne this]; exact hq)
/-- an own block that grows: another one in its place -/
theorem HR.swap (h : HR w0 ρ H L) {o : EO} {i k r t : Nat} {seg : Seg} {o' : AO} (hn : H.nx < bigN) (hk : L[k]? = some (i, seg)) (ho : OR (ρ ++ [(r, t)]) t o o') : HR w0 (ρ ++ [(r, t)]) ((H.del i).push o) (L.set k (H.nx, [(r, o')])) := by
  have hp : ρ <+: ρ ++ [(r, t)] := List.prefix_append _ _
  have hkl : k < L.length := (List.getElem?_eq_some_iff.1 hk).1
  have hb : bigN = 1000000000000 := rfl
  have hil : i < H.nx := by have := h.lt _ (List.mem_of_getElem? hk); exact this
  refine ⟨by simp [EH.push, EH.del, h.nx], by simp [EH.push, EH.del]; omega, ?_, ?_, ?_, fun p hpm => (h.glob p hpm).mono hp⟩
  · rw [List.map_set]
    refine nodup_set_new h.nodup fun hm => ?_
    obtain ⟨p, hpm, he⟩ := List.mem_map.1 hm
    have := h.lt p hpm
    omega
  · intro p hpm
    simp only [EH.push, EH.del]
    rcases List.mem_or_eq_of_mem_set hpm with hpm | rfl
    · have := h.lt p hpm; omega
    · simp
  · intro j x hj
    simp only [EH.push, EH.del] at hj ⊢
    rw [Tr.get_set 50 _ _ _ _ (by omega)] at hj
    split at hj
    · rename_i he
      subst he
      obtain rfl := Option.some.inj hj
      exact ⟨by omega, r, t, by rw [h.nx]; simp, .inr ⟨o', ho, List.mem_set hkl _⟩⟩
    · rw [Tr.get_set 50 _ _ _ _ (by omega)] at hj
      split at hj
      · cases hj
      · rename_i he1 he2
        obtain ⟨hlt, b', t', h1, h2⟩ := h.at_ j x hj
        refine ⟨by omega, b', t', rho_mono hp h1, ?_⟩
        rcases h2 with ⟨c, h2, h3⟩ | ⟨o'', h2, h3⟩
        · exact .inl ⟨c, h2, h3.mono hp⟩
        · refine .inr ⟨o'', h2.mono hp, ?_⟩
          obtain ⟨q, hq⟩ := List.getElem?_of_mem h3
          have : k ≠ q := fun e => by subst e; rw [hk] at hq; simp only [Option.some.injEq, Prod.mk.injEq] at hq; omega
          exact List.mem_of_getElem? (by rw [List.getElem?_set_ne this]; exact hq)
theorem HR.del (h : HR w0 ρ H L) {i : Nat} (hi : i < H.nx) : HR w0 ρ (H.del i) L := by
  refine ⟨h.nx, h.big, h.nodup, h.lt, fun j x hj => ?_, h.glob⟩
  have hb : bigN = 1000000000000 := rfl
  have := h.big
  simp only [EH.del] at hj ⊢
  rw [Tr.get_set 50 _ _ _ _ (by omega)] at hj
  split at hj
  · cases hj
  · exact h.at_ j x hj
theorem HR.drop (h : HR w0 ρ H L) {i k : Nat} {seg : Seg} (hk : L[k]? = some (i, seg)) : HR w0 ρ (H.del i) (L.set k (i, [])) := by
  have hkl : k < L.length := (List.getElem?_eq_some_iff.1 hk).1
  have hfst : (L.set k (i, [])).map Prod.fst = L.map Prod.fst := by
    rw [List.map_set]
    apply List.ext_getElem? 
    intro j
    by_cases e : k = j
    · subst e; rw [List.getElem?_set_self (by simpa using hkl)]; simp [hk]
    · rw [List.getElem?_set_ne e]
  have hil : i < H.nx := by have := h.lt _ (List.mem_of_getElem? hk); exact this
  refine ⟨h.nx, h.big, by rw [hfst]; exact h.nodup, ?_, ?_, h.glob⟩
  · intro p hp
    rcases List.mem_or_eq_of_mem_set hp with hp | rfl
    · exact h.lt p hp
    · exact hil
  · intro j x hj
    simp only [EH.del] at hj ⊢
    have hb : bigN = 1000000000000 := rfl
    have := h.big
    rw [Tr.get_set 50 _ _ _ _ (by omega)] at hj
    split at hj
    · cases hj
    · rename_i he
      obtain ⟨hlt, b', t', h1, h2⟩ := h.at_ j x hj
      refine ⟨hlt, b', t', h1, ?_⟩
      rcases h2 with h2 | ⟨o'', h2, h3⟩
      · exact .inl h2
      · refine .inr ⟨o'', h2, ?_⟩
        obtain ⟨q, hq⟩ := List.getElem?_of_mem h3
        have : k ≠ q := fun e => by subst e; rw [hk] at hq; simp only [Option.some.injEq, Prod.mk.injEq] at hq; omega
        exact List.mem_of_getElem? (by rw [List.getElem?_set_ne this]; exact hq)
theorem cs_set {S : SS} {k : Nat} {x : Nat × Seg} (hk : k < L.length) : (cs L S).set k x.2 = cs (L.set k x) S := by
  unfold cs
  rw [List.set_append_left _ _ (by simpa using hk), List.map_set]
end
end Go.SL

set_option linter.unusedVariables false
set_option linter.unusedSimpArgs false
namespace Go.SL
open Go.RowKit
def PV.ev (T : TT) : PV → Option Value
  | .v x => bif litV x then some x else none
  | .t n => look T n
/-- the values of the slots are those -/
def TR (ρ : Rho) (T Tc : TT) : Prop := ∀ (i : Nat) (v : Value), look T i = some v → ∃ u, look Tc i = some u ∧ VR ρ v u
theorem TR.mono {ρ ρ' : Rho} {T Tc : TT} (hp : ρ <+: ρ') (h : TR ρ T Tc) : TR ρ' T Tc := fun i v hv => let ⟨u, h1, h2⟩ := h i v hv; ⟨u, h1, h2.mono hp⟩
theorem TR.put {ρ : Rho} {T Tc : TT} (h : TR ρ T Tc) {v u : Value} (hv : VR ρ v u) (d : Option Nat) : TR ρ (put d v T) (put d u Tc) := by
  cases d with
  | none => exact h
  | some d =>
    intro i x hx
    simp only [SL.put] at hx ⊢
    by_cases e : d = i
    · subst e
      rw [look_put_same] at hx ⊢
      obtain rfl := Option.some.inj hx
      exact ⟨u, rfl, hv⟩
    · rw [look_cons_ne _ _ e] at hx ⊢
      exact h i x hx
theorem TR.ev {ρ : Rho} {T Tc : TT} (h : TR ρ T Tc) {x : PV} {v : Value} (hx : x.ev T = some v) : ∃ u, x.val Tc = some u ∧ VR ρ v u := by
  cases x with
  | t n => exact h n v hx
  | v y =>
    simp only [PV.ev] at hx
    cases hl : litV y with
    | false => rw [hl] at hx; simp at hx
    | true =>
      rw [hl] at hx
      simp at hx
      subst hx
      exact ⟨y, rfl, VR.lit hl⟩
section inv
variable {ρ : Rho} {u : Value}
theorem VR.int_inv {k : IntKind} {n : Int} (h : VR ρ (.int k n) u) : u = .int k n := by cases h; rfl
theorem VR.bool_inv {b : Bool} (h : VR ρ (.bool b) u) : u = .bool b := by cases h; rfl
theorem VR.str_inv {s : ByteArray} (h : VR ρ (.string s) u) : u = .string s := by cases h; rfl
theorem VR.agg_inv {cs : Array Value} (h : VR ρ (.agg cs) u) : ∃ cs' : List Value, u = .agg cs'.toArray ∧ VRL ρ cs.toList cs' := by
  cases h with
  | flat h => simp [flatV] at h
  | agg h1 h2 => exact ⟨_, rfl, h1, h2⟩
theorem VR.tuple_inv {cs : Array Value} (h : VR ρ (.tuple cs) u) : ∃ cs' : List Value, u = .tuple cs'.toArray ∧ VRL ρ cs.toList cs' := by
  cases h with
  | flat h => simp [flatV] at h
  | tuple h1 h2 => exact ⟨_, rfl, h1, h2⟩
/-- the place is that one -/
def AR (ρ : Rho) (a a' : Addr) : Prop := a.spot = none ∧ a'.spot = none ∧ a.off = a'.off ∧ ((a.block < ownB ∧ a'.block = a.block) ∨ ∃ i t, a.block = ownB + i ∧ ρ[i]? = some (a'.block, t))
theorem VR.ptr_inv {a : Addr} (h : VR ρ (.pointer (some a)) u) : ∃ a', u = .pointer (some a') ∧ AR ρ a a' := by
  cases h with
  | flat h =>
    simp only [flatV, Bool.and_eq_true, Option.isNone_iff_eq_none] at h
    exact ⟨a, rfl, h.2, h.2, rfl, .inl ⟨by have := h.1; rwa [Nat.blt_eq] at this, rfl⟩⟩
  | @ptr i o b t h => exact ⟨⟨b, o, none⟩, rfl, rfl, rfl, rfl, .inr ⟨i, t, rfl, h⟩⟩
theorem AR.ptr {a a' : Addr} (h : AR ρ a a') : VR ρ (.pointer (some a)) (.pointer (some a')) := by
  obtain ⟨b, o, s⟩ := a
  obtain ⟨b', o', s'⟩ := a'
  obtain ⟨h1, h2, h3, h4⟩ := h
  simp only at h1 h2 h3 h4
  subst h1 h2 h3
  rcases h4 with ⟨h4, h5⟩ | ⟨i, t, h4, h5⟩
  · subst h5; exact .flat (by simp [flatV]; exact h4)
  · subst h4; exact .ptr h5
theorem AR.add {a a' : Addr} (h : AR ρ a a') (k : Nat) : AR ρ ⟨a.block, a.off + k, none⟩ (a'.add k) := by
  obtain ⟨b', o', s'⟩ := a'
  obtain ⟨h1, h2, h3, h4⟩ := h
  simp only at h2 h3 h4
  subst h2
  rw [Addr.add_lit]
  exact ⟨rfl, rfl, by simp [h3], h4⟩
theorem VR.nilptr_inv (h : VR ρ (.pointer none) u) : u = .pointer none := by cases h; rfl
theorem VR.map_inv {b : Nat} (h : VR ρ (.map (some b)) u) : ∃ i b' t, b = ownB + i ∧ u = .map (some b') ∧ ρ[i]? = some (b', t) := by
  cases h with
  | flat h => simp [flatV] at h
  | @map i b' t h => exact ⟨i, b', t, rfl, rfl, h⟩
theorem VR.slice_nil_inv {l e : Nat} (h : VR ρ (.slice none l e) u) : l = 0 ∧ e = 0 ∧ u = .slice none 0 0 := by
  cases h with
  | flat h =>
    cases l <;> cases e <;> simp [flatV] at h
    exact ⟨rfl, rfl, rfl⟩
theorem VR.slice_inv {a : Addr} {l e : Nat} (h : VR ρ (.slice (some a) l e) u) : (∃ i b t, a = ⟨ownB + i, a.off, none⟩ ∧ u = .slice (some ⟨b, a.off, none⟩) l (capOf t a.off e) ∧ ρ[i]? = some (b, t) ∧ capFit t e ∧ l ≤ capOf t a.off e) ∨
    (a = ⟨0, 0, none⟩ ∧ l = 0 ∧ e = 3 ∧ ∃ a' c, u = .slice (some a') 0 c) := by
  cases h with
  | flat h => cases l <;> cases e <;> simp [flatV] at h
  | @slice i o b t l e h hf hc => exact .inl ⟨i, b, t, rfl, rfl, h, hf, hc⟩
  | @empty a c => exact .inr ⟨rfl, rfl, rfl, a, c, rfl⟩
theorem VR.func_inv {f : Fn} {fi ca : Array Value} (h : VR ρ (.func f fi ca) u) : ∃ fi' ca' : List Value, u = .func f fi'.toArray ca'.toArray ∧ VRL ρ fi.toList fi' ∧ VRL ρ ca.toList ca' := by
  cases h with
  | flat h => simp [flatV] at h
  | func h1 h2 h3 h4 => exact ⟨_, _, rfl, ⟨h1, h2⟩, ⟨h3, h4⟩⟩
theorem VR.cells {v : Value} (h : VR ρ v u) : VRL ρ v.cells.toList u.cells.toList := by
  cases h with
  | agg h1 h2 => exact ⟨h1, h2⟩
  | flat h =>
    have : u.cells = #[u] := by cases u <;> simp [flatV] at h <;> rfl
    rw [this]; exact VRL.cons (.flat h) .nil
  | ptr h => exact VRL.cons (.ptr h) .nil
  | slice h hf hc => exact VRL.cons (.slice h hf hc) .nil
  | empty => exact VRL.cons .empty .nil
  | map h => exact VRL.cons (.map h) .nil
  | func h1 h2 h3 h4 => exact VRL.cons (.func h1 h2 h3 h4) .nil
  | tuple h1 h2 => exact VRL.cons (.tuple h1 h2) .nil
  | iface h => exact VRL.cons (.iface h) .nil
  | opq => exact VRL.cons .opq .nil
theorem VR.one {v : Value} (h : VR ρ v u) : u.oneCell' = v.oneCell' := by cases h <;> rfl
theorem VRL.one {a b : List Value} (h : VRL ρ a b) : b.all (·.oneCell') = a.all (·.oneCell') := by
  induction a generalizing b with
  | nil => rw [h.nil_left]
  | cons v a ih =>
    obtain ⟨u, b, rfl, h1, h2⟩ := h.cons_left
    simp only [List.all_cons, h1.one, ih h2]
end inv
def EH.cellsOf (H : EH) (b : Nat) : Option (List Value) :=
  bif Nat.ble ownB b then (match H.tr.get (b - ownB) with | some (.cells c _) => some c | some (.ro c) => some c | some (.ext c) => some c | _ => none)
  else H.g.lookup b
def EH.row (H : EH) (a : Addr) (m : Nat) : Option (List Value) :=
  match H.cellsOf a.block with
  | some c => bif Nat.ble (a.off + m) c.length then some ((c.drop a.off).take m) else none
  | none => none
def EH.cell (H : EH) (a : Addr) : Option Value := match H.cellsOf a.block with | some c => c[a.off]? | none => none
section
variable {P : Program} {w0 : World} {n : Nat} {T Tc : TT} {S : SS} {ρ : Rho} {H : EH} {L : LL}
theorem ownB_ble {b : Nat} : (Nat.ble ownB b = true ∧ ownB ≤ b) ∨ (Nat.ble ownB b = false ∧ b < ownB) := by
  cases h : Nat.ble ownB b with
  | true => exact .inl ⟨rfl, Nat.le_of_ble_eq_true h⟩
  | false => exact .inr ⟨rfl, by rcases Nat.lt_or_ge b ownB with h' | h'; exact h'; rw [Nat.ble_eq_true_of_le h'] at h; cases h⟩
theorem lookup_mem {l : List (Nat × List Value)} {b : Nat} {c : List Value} (h : l.lookup b = some c) : (b, c) ∈ l := by
  induction l with
  | nil => simp at h
  | cons p l ih =>
    obtain ⟨x, y⟩ := p
    rw [List.lookup_cons] at h
    split at h
    · rename_i hx
      obtain rfl := Option.some.inj h
      have : b = x := by simpa using hx
      subst this; simp
    · exact List.mem_cons_of_mem _ (ih h)
theorem HR.cellsOf (h : HR w0 ρ H L) {b b' : Nat} (hb : (b < ownB ∧ b' = b) ∨ ∃ i t, b = ownB + i ∧ ρ[i]? = some (b', t)) {c : List Value} (hc : H.cellsOf b = some c) {j : Nat} {v : Value} (hj : c[j]? = some v) : ∃ u, Cell w0 (cs L S) ⟨b', j, none⟩ u ∧ VR ρ v u := by
  unfold EH.cellsOf at hc
  rcases hb with ⟨hb, rfl⟩ | ⟨i, t, rfl, hi⟩
  · rcases ownB_ble (b := b') with ⟨e, h1⟩ | ⟨e, h1⟩
    · omega
    · rw [e] at hc
      simp only [cond_false] at hc
      obtain ⟨u, h2, h3⟩ := h.glob _ (lookup_mem hc) j v hj
      exact ⟨u, .inl h2, h3⟩
  · rcases ownB_ble (b := ownB + i) with ⟨e, h1⟩ | ⟨e, h1⟩
    · rw [e] at hc
      simp only [cond_true, Nat.add_sub_cancel_left] at hc
      have key : ∀ o, H.tr.get i = some o → (o = .ext c ∨ (∃ E, o = .cells c E) ∨ o = .ro c) → ∃ u, Cell w0 (cs L S) ⟨b', j, none⟩ u ∧ VR ρ v u := by
        intro o ho hoc
        rcases hoc with rfl | ⟨E, rfl⟩ | rfl
        · obtain ⟨_, b2, t2, h2, ⟨c', h3, h4⟩ | ⟨o', h3, _⟩⟩ := h.at_ i _ ho
          · cases h3
            rw [hi] at h2
            obtain ⟨rfl, rfl⟩ : b' = b2 ∧ t = t2 := by simpa using h2
            obtain ⟨u, h5, h6⟩ := h4 j v hj
            exact ⟨u, .inl h5, h6⟩
          · exact h3.elim
        · obtain ⟨b2, t2, o', k, h2, ⟨c', h3, rfl⟩, _, h5⟩ := h.own ho (by simp) S
          rw [hi] at h2
          obtain ⟨rfl, rfl⟩ : b' = b2 ∧ t = t2 := by simpa using h2
          obtain ⟨u, h6, h7⟩ := h3.get hj
          exact ⟨u, .inr (.inl ⟨c', E, t, List.mem_flatten.2 ⟨_, List.mem_of_getElem? h5, by simp⟩, rfl, h6⟩), h7⟩
        · obtain ⟨b2, t2, o', k, h2, ⟨c', h3, rfl⟩, _, h5⟩ := h.own ho (by simp) S
          rw [hi] at h2
          obtain ⟨rfl, rfl⟩ : b' = b2 ∧ t = t2 := by simpa using h2
          obtain ⟨u, h6, h7⟩ := h3.get hj
          exact ⟨u, .inr (.inr ⟨c', List.mem_flatten.2 ⟨_, List.mem_of_getElem? h5, by simp⟩, rfl, h6⟩), h7⟩
      cases ho : H.tr.get i with
      | none => rw [ho] at hc; simp at hc
      | some o =>
        rw [ho] at hc
        refine key o ho ?_
        cases o <;> simp at hc
        · subst hc; exact .inr (.inl ⟨_, rfl⟩)
        · subst hc; exact .inr (.inr rfl)
        · subst hc; exact .inl rfl
    · omega
theorem HR.cell (h : HR w0 ρ H L) {a a' : Addr} (ha : AR ρ a a') {v : Value} (hc : H.cell a = some v) : ∃ u, Cell w0 (cs L S) a' u ∧ VR ρ v u := by
  unfold EH.cell at hc
  cases e : H.cellsOf a.block with
  | none => rw [e] at hc; simp at hc
  | some c =>
    rw [e] at hc
    obtain ⟨h1, h2, h3, h4⟩ := ha
    obtain ⟨u, h5, h6⟩ := h.cellsOf (S := S) h4 e hc
    refine ⟨u, ?_, h6⟩
    have : a' = ⟨a'.block, a.off, none⟩ := by rw [h3, ← h2]
    rw [this]; exact h5
theorem choose_list {Q : Nat → Value → Prop} : ∀ (xs : List Value) (s : Nat), (∀ (j : Nat) (v : Value), xs[j]? = some v → ∃ u, Q (s + j) u ∧ VR ρ v u) → ∃ us, VRL ρ xs us ∧ ∀ (j : Nat) (u : Value), us[j]? = some u → Q (s + j) u
  | [], s, h => ⟨[], .nil, fun j u hu => by simp at hu⟩
  | x :: xs, s, h => by
    obtain ⟨u, h1, h2⟩ := h 0 x rfl
    obtain ⟨us, h3, h4⟩ := choose_list xs (s + 1) fun j v hj => by
      obtain ⟨u, h5, h6⟩ := h (j + 1) v (by simpa using hj)
      exact ⟨u, by rw [show s + 1 + j = s + (j + 1) by omega]; exact h5, h6⟩
    refine ⟨u :: us, VRL.cons h2 h3, fun j w hw => ?_⟩
    cases j with
    | zero => simp at hw; subst hw; exact h1
    | succ j => have := h4 j w (by simpa using hw); rwa [show s + 1 + j = s + (j + 1) by omega] at this
theorem HR.row (h : HR w0 ρ H L) {a a' : Addr} (ha : AR ρ a a') {m : Nat} {c : List Value} (hc : H.row a m = some c) : c.length = m ∧ ∃ us, VRL ρ c us ∧ ∀ (j : Nat) (u : Value), us[j]? = some u → Cell w0 (cs L S) (a'.add j) u := by
  unfold EH.row at hc
  cases e : H.cellsOf a.block with
  | none => rw [e] at hc; simp at hc
  | some d =>
    rw [e] at hc
    simp only at hc
    cases hb : Nat.ble (a.off + m) d.length with
    | false => rw [hb] at hc; simp at hc
    | true =>
      rw [hb] at hc
      simp only [cond_true, Option.some.injEq] at hc
      have hle := Nat.le_of_ble_eq_true hb
      subst hc
      refine ⟨by simp; omega, ?_⟩
      obtain ⟨h1, h2, h3, h4⟩ := ha
      have := choose_list (ρ := ρ) (Q := fun j u => Cell w0 (cs L S) (a'.add j) u) ((d.drop a.off).take m) 0 fun j v hj => by
        have hj' : d[a.off + j]? = some v := by
          rw [List.getElem?_take] at hj
          split at hj
          · rwa [List.getElem?_drop] at hj
          · cases hj
        obtain ⟨u, h5, h6⟩ := h.cellsOf (S := S) h4 e hj'
        refine ⟨u, ?_, h6⟩
        have e2 : a'.add (0 + j) = ⟨a'.block, a.off + j, none⟩ := by
          obtain ⟨b', o', s'⟩ := a'
          simp only at h2 h3
          subst h2
          rw [Nat.zero_add, Addr.add_lit, h3]
        rw [e2]; exact h5
      obtain ⟨us, h5, h6⟩ := this
      exact ⟨us, h5, fun j u hu => by have := h6 j u hu; rwa [Nat.zero_add] at this⟩
def Snd (P : Program) (w0 : World) (n : Nat) (S : SS) (po : PO) (Tc : TT) (ρ : Rho) (L : LL) (r : Value × EH) : Prop :=
  OW P w0 n po Tc (cs L S) (fun u S' => ∃ ρ' L', ρ <+: ρ' ∧ VR ρ' r.1 u ∧ S' = cs L' S ∧ HR w0 ρ' r.2 L')
theorem Snd.det {po : PO} {v u : Value} (h : Yields P w0 n po Tc (cs L S) u) (hv : VR ρ v u) (hH : HR w0 ρ H L) : Snd P w0 n S po Tc ρ L (v, H) :=
  (OW.of_yields h).mono fun _ _ ⟨h1, h2⟩ => ⟨ρ, L, List.prefix_refl _, h1 ▸ hv, h2, hH⟩
theorem Snd.new {po : PO} {v : Value} {o : EO} {F : Nat → Value → AO → Nat → Prop} (hn : H.nx < bigN) (hH : HR w0 ρ H L)
    (h : OW P w0 n po Tc (cs L S) (fun u S' => ∃ r o' t, F r u o' t ∧ S' = [(r, o')] :: cs L S)) (hF : ∀ r u o' t, F r u o' t → VR (ρ ++ [(r, t)]) v u ∧ OR (ρ ++ [(r, t)]) t o o') : Snd P w0 n S po Tc ρ L (v, H.push o) :=
  h.mono fun u S' ⟨r, o', t, h1, h2⟩ => ⟨ρ ++ [(r, t)], (H.nx, [(r, o')]) :: L, List.prefix_append _ _, (hF r u o' t h1).1, by rw [h2]; rfl, hH.push hn (hF r u o' t h1).2⟩
theorem nx_get (hH : HR w0 ρ H L) (x : Nat × Nat) : (ρ ++ [x])[H.nx]? = some x := by rw [hH.nx]; simp
end
end Go.SL

set_option linter.unusedVariables false
set_option linter.unusedSimpArgs false
namespace Go.SL
open Go.RowKit
def strL (s : ByteArray) : List UInt8 := s.data.toList
def mkStr (l : List UInt8) : ByteArray := ⟨l.toArray⟩
/-- operators of numbers and texts -/
def binE (op : BinOp) : Value → Value → Option Value
  | .int k a, .int k' b => match op with
    | .quo => if k = k' ∧ b ≠ 0 then some (.int k (k.wrap (a.tdiv b))) else none
    | .rem => if k = k' ∧ b ≠ 0 then some (.int k (a.tmod b)) else none
    | .shr => if 0 ≤ b ∧ b ≤ k.bits then some (.int k (a / 2 ^ b.toNat)) else none
    | .shl => if 0 ≤ b then some (.int k (k.wrap (a * 2 ^ (min b.toNat k.bits)))) else none
    | op => if k = k' then binI op k a b else none
  | .string a, .string b => match op with
    | .add => bif Nat.ble ((strL a).length + (strL b).length) 1000000000 then some (.string (mkStr (strL a ++ strL b))) else none
    | .eql => some (.bool (strL a == strL b))
    | .neq => some (.bool !(strL a == strL b))
    | .lss => some (.bool (Op.bytesLess (strL a) (strL b)))
    | .leq => some (.bool (Op.bytesLess (strL a) (strL b) || strL a == strL b))
    | .gtr => some (.bool !(Op.bytesLess (strL a) (strL b) || strL a == strL b))
    | .geq => some (.bool !(Op.bytesLess (strL a) (strL b)))
    | _ => none
  | _, _ => none
section
variable {P : Program} {w0 : World} {n : Nat} {T Tc : TT} {S : SS} {ρ : Rho} {H : EH} {L : LL}
theorem strL_eq (s : ByteArray) : s.toList = strL s := ByteArray.toList_eq s
theorem strL_append (a b : ByteArray) : a ++ b = mkStr (strL a ++ strL b) := by
  obtain ⟨a⟩ := a
  obtain ⟨b⟩ := b
  show ByteArray.mk _ ++ ByteArray.mk _ = _
  apply ByteArray.ext
  simp [mkStr, strL, ByteArray.data_append]
theorem strL_length (s : ByteArray) : (strL s).length = s.size := by simp [strL]
theorem bin_snd {op : BinOp} {x y : PV} {u v r : Value} (hx : x.val Tc = some u) (hy : y.val Tc = some v) (h : binE op u v = some r) : Yields P w0 n (.bin op x y) Tc S r := by
  unfold binE at h
  split at h
  · rename_i k a k' b
    split at h
    · split at h
      · rename_i hc; obtain ⟨rfl, hb⟩ := hc; obtain rfl := Option.some.inj h; exact Yields.quo hx hy hb
      · cases h
    · split at h
      · rename_i hc; obtain ⟨rfl, hb⟩ := hc; obtain rfl := Option.some.inj h; exact Yields.rem hx hy hb
      · cases h
    · split at h
      · rename_i hc; obtain rfl := Option.some.inj h; exact Yields.shr hx hy hc.1 hc.2
      · cases h
    · split at h
      · rename_i hc; obtain rfl := Option.some.inj h; exact Yields.shl hx hy hc
      · cases h
    · split at h
      · rename_i hk
        subst hk
        exact Yields.pure (by simp [evalP, hx, hy, binv, h])
      · cases h
  · rename_i a b
    have cmp : ∀ r', binS op a b = some r' → Yields P w0 n (.bin op x y) Tc S r' := fun r' hr => Yields.pure (by simp [evalP, hx, hy, binv, hr])
    split at h
    · cases hb : Nat.ble ((strL a).length + (strL b).length) 1000000000 with
      | false => rw [hb] at h; simp at h
      | true =>
        rw [hb] at h
        simp only [cond_true, Option.some.injEq] at h
        subst h
        have hle := Nat.le_of_ble_eq_true hb
        rw [strL_length, strL_length] at hle
        rw [← strL_append]
        refine Yields.binRaw hx hy (fun t a b w => by simp [eqGuard]) (fun t w => ?_)
        have : ¬ (((a.size + b.size : Nat) : Int) > IntKind.i64.max) := by
          have e : IntKind.i64.max = 9223372036854775807 := by decide
          rw [e]; omega
        simp only [binOp, Op.stringOp]
        rw [if_neg this]
        rfl
    all_goals (first | (cases h; done) | skip)
    all_goals (obtain rfl := Option.some.inj h; exact cmp _ (by simp [binS, strL_eq]))
  · cases h
def one (x : Option Value) (f : Value → Option Value) : Option Value := match x with | some v => f v | none => none
def evP : PO → TT → Option Value
  | .mov x, T => x.ev T
  | .bin op x y, T => match x.ev T, y.ev T with | some a, some b => binE op a b | _, _ => none
  | .binB op x y, T => match x.ev T, y.ev T with | some a, some b => binB op a b | _, _ => none
  | .not x, T => match x.ev T with | some (.bool b) => some (.bool !b) | _ => none
  | .cvt k x, T => match x.ev T with | some (.int _ a) => some (.int k (k.wrap a)) | _ => none
  | .pick c a b, T => match c.ev T with | some (.bool true) => a.ev T | some (.bool false) => b.ev T | _ => none
  | .lenS x, T => match x.ev T with | some (.slice _ m _) => some (.int .i64 m) | _ => none
  | .lenStr x, T => match x.ev T with | some (.string s) => some (.int .i64 (strL s).length) | _ => none
  | .ext i x, T => match x.ev T with | some (.tuple vs) => vs.toList[i]? | _ => none
  | .fa off x, T => match x.ev T with | some (.pointer (some a)) => some (.pointer (some ⟨a.block, a.off + off, none⟩)) | _ => none
  | .mnx mx [x, y], T => match x.ev T, y.ev T with
    | some (.int k a), some (.int _ b) => some (.int k (if mx then (if b > a then b else a) else (if b < a then b else a)))
    | _, _ => none
  | .nilc x, T => match x.ev T with | some (.pointer (some a)) => some (.pointer (some a)) | some (.func (.func f) fi ca) => some (.func (.func f) fi ca) | _ => none
  | .fld off x, T => match x.ev T with | some (.agg c) => c.toList[off]? | _ => none
  | .fldA off m x, T => match x.ev T with | some (.agg c) => some (.agg ((c.toList.drop off).take m).toArray) | _ => none
  | .ixS sz x i, T => match x.ev T, i.ev T with
    | some (.slice (some a) l e), some (.int _ j) => if 0 ≤ j ∧ j < (l : Int) then some (.pointer (some ⟨a.block, a.off + j.toNat * sz, none⟩)) else none
    | _, _ => none
  | .ixA len sz x i, T => match x.ev T, i.ev T with
    | some (.pointer (some a)), some (.int _ j) => if 0 ≤ j ∧ j < (len : Int) then some (.pointer (some ⟨a.block, a.off + j.toNat * sz, none⟩)) else none
    | _, _ => none
  | .ixStr x i, T => match x.ev T, i.ev T with
    | some (.string s), some (.int _ j) => if 0 ≤ j then (match (strL s)[j.toNat]? with | some b => some (.int .u8 b.toNat) | none => none) else none
    | _, _ => none
  | .slStr x lo hi, T => match x.ev T, ovE lo T, ovE hi T with
    | some (.string s), some l, some h => slStrE s (l.getD 0) (h.getD (strL s).length)
    | _, _, _ => none
  | .mkF f caps, T => match evs T caps with | some vs => some (.func (.func f) #[] vs.toArray) | none => none
  | .eqP neg x y, T => match x.ev T, y.ev T with
    | some (.pointer none), some (.pointer none) => some (.bool (if neg then false else true))
    | some (.pointer (some _)), some (.pointer none) => some (.bool (if neg then true else false))
    | _, _ => none
  | .eqA neg t sh x y, T => match x.ev T, y.ev T with
    | some (.agg a), some (.agg b) => match eqCells sh a.toList b.toList with | some r => some (.bool (if neg then !r else r)) | none => none
    | _, _ => none
  | _, _ => none
where
  ovE : Option PV → TT → Option (Option Int)
    | none, _ => some none
    | some x, T => match x.ev T with | some (.int _ i) => some (some i) | _ => none
  slStrE (s : ByteArray) (l h : Int) : Option Value :=
    if 0 ≤ l ∧ l ≤ h ∧ h ≤ ((strL s).length : Int) then some (.string (mkStr (((strL s).take h.toNat).drop l.toNat))) else none
  evs (T : TT) : List PV → Option (List Value)
    | [] => some []
    | x :: r => match x.ev T, evs T r with | some v, some vs => some (v :: vs) | _, _ => none
theorem evs_spec (hT : TR ρ T Tc) : ∀ {xs : List PV} {vs : List Value}, evP.evs T xs = some vs → ∃ us, valsP Tc xs = some us ∧ VRL ρ vs us
  | [], vs, h => by simp [evP.evs] at h; subst h; exact ⟨[], rfl, .nil⟩
  | x :: xs, vs, h => by
    simp only [evP.evs] at h
    cases h1 : x.ev T with
    | none => simp [h1] at h
    | some v =>
      cases h2 : evP.evs T xs with
      | none => simp [h1, h2] at h
      | some vs' =>
        simp [h1, h2] at h
        subst h
        obtain ⟨u, h3, h4⟩ := hT.ev h1
        obtain ⟨us, h5, h6⟩ := evs_spec hT h2
        exact ⟨u :: us, by simp [valsP, h3, h5], VRL.cons h4 h6⟩
theorem ovE_spec (hT : TR ρ T Tc) {x : Option PV} {i : Option Int} (h : evP.ovE x T = some i) : ovI x Tc = some i := by
  cases x with
  | none => simpa [evP.ovE, ovI] using h
  | some x =>
    simp only [evP.ovE] at h
    split at h
    · rename_i k j hx
      obtain ⟨u, h1, h2⟩ := hT.ev hx
      obtain rfl := h2.int_inv
      simp only [ovI, h1]; exact h
    · cases h
theorem extract_strL (s : ByteArray) (l h : Nat) : s.extract l h = mkStr (((strL s).take h).drop l) := by
  obtain ⟨s⟩ := s
  apply ByteArray.ext
  simp only [mkStr, strL, ByteArray.data_extract]
  apply Array.toList_inj.1
  simp [List.extract, List.drop_take]
theorem getElem?_strL {s : ByteArray} {j : Nat} {b : UInt8} (h : (strL s)[j]? = some b) : s[j]? = some b := by
  have hj : j < s.size := by have := (List.getElem?_eq_some_iff.1 h).1; rwa [strL_length] at this
  rw [getElem?_pos s j hj]
  obtain ⟨h1, h2⟩ := List.getElem?_eq_some_iff.1 h
  rw [← h2]
  rfl
theorem eqCell_VR {c : CK} {a b a' b' : Value} {r : Bool} (h : eqCell c a b = some r) (ha : VR ρ a a') (hb : VR ρ b b') : eqCell c a' b' = some r := by
  unfold eqCell at h
  split at h
  · obtain rfl := ha.int_inv; obtain rfl := hb.int_inv; simpa [eqCell] using h
  · obtain rfl := ha.str_inv; obtain rfl := hb.str_inv; simpa [eqCell] using h
  · obtain rfl := ha.bool_inv; obtain rfl := hb.bool_inv; simpa [eqCell] using h
  · cases h
theorem eqCells_VR : ∀ {sh : List CK} {a b a' b' : List Value} {r : Bool}, eqCells sh a b = some r → VRL ρ a a' → VRL ρ b b' → eqCells sh a' b' = some r
  | [], a, b, a', b', r, h, ha, hb => by
    cases a <;> cases b <;> simp [eqCells] at h
    obtain rfl := ha.nil_left
    obtain rfl := hb.nil_left
    simpa [eqCells] using h
  | [c], a, b, a', b', r, h, ha, hb => by
    rcases a with _ | ⟨x, _ | ⟨x2, a⟩⟩
    · simp [eqCells] at h
    · rcases b with _ | ⟨y, _ | ⟨y2, b⟩⟩
      · simp [eqCells] at h
      · obtain ⟨x', a', rfl, hx, ha⟩ := ha.cons_left
        obtain ⟨y', b', rfl, hy, hb⟩ := hb.cons_left
        obtain rfl := ha.nil_left
        obtain rfl := hb.nil_left
        simp only [eqCells] at h ⊢
        exact eqCell_VR h hx hy
      · exfalso
        simp only [eqCells] at h
        cases h1 : eqCell c x y <;> simp [h1] at h
    · exfalso
      rcases b with _ | ⟨y, _ | ⟨y2, b⟩⟩
      · simp [eqCells] at h
      · simp only [eqCells] at h
        cases h1 : eqCell c x y <;> simp [h1] at h
      · simp only [eqCells] at h
        cases h1 : eqCell c x y <;> simp [h1] at h
  | c :: c2 :: sh, a, b, a', b', r, h, ha, hb => by
    cases a with
    | nil => simp [eqCells] at h
    | cons x a =>
      cases b with
      | nil => simp [eqCells] at h
      | cons y b =>
        obtain ⟨x', a', rfl, hx, ha⟩ := ha.cons_left
        obtain ⟨y', b', rfl, hy, hb⟩ := hb.cons_left
        simp only [eqCells] at h ⊢
        cases h1 : eqCell c x y with
        | none => rw [h1] at h; simp at h
        | some r1 =>
          cases h2 : eqCells (c2 :: sh) a b with
          | none => rw [h1, h2] at h; simp at h
          | some r2 => rw [h1, h2] at h; rw [eqCell_VR h1 hx hy, eqCells_VR h2 ha hb]; exact h
end
end Go.SL
