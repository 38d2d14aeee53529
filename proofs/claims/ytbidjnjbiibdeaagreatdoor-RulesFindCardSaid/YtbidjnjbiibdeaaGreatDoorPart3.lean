/- Walks. -/
import Derived.Test.YtbidjnjbiibdeaaGreatDoorPart2
import Derived.Shelf.SlSortCmp.NoneTotal
import Derived.Shelf.SlicesG.Cmp
import Derived.Ground.SlsfProg
import Derived.Ground.SlgcProg
import Derived.WalkKit
import Derived.Test.YtbidjnjbiibdeaaGreatDoorChecked
import Derived.Maps.RangeRun
import Derived.DeepKeys4
set_option linter.unusedVariables false
set_option linter.unusedSimpArgs false
set_option linter.unusedSectionVars false

namespace Go.Proofs
open Go.SL Go.RowKit
set_option maxHeartbeats 1000000
def mayZ (z : Int) : Bool := (decide (97 <= z) && decide (z <= 122)) || (decide (65 <= z) && decide (z <= 90)) || (decide (48 <= z) && decide (z <= 57)) || decide (z = 95) || decide (z = 45) || decide (z = 46)
def mayB (b : UInt8) : Bool := mayZ b.toNat
def partP (s : ByteArray) : Bool := s.data.toList.all mayB && s.data.toList.any (fun b => b != 46)
theorem part_bad {s : ByteArray} {k : Nat} {b : UInt8} (h : s.data.toList[k]? = some b) (hb : mayB b = false) : partP s = false := by
 unfold partP
 have : s.data.toList.all mayB = false := by
  rw [List.all_eq_false]
  exact ⟨b, List.mem_of_getElem? h, by rw [hb]; simp⟩
 rw [this]; rfl
def dotN (l : List UInt8) : Nat := l.countP (fun b => b == 46)
theorem dot_cons (b : UInt8) (l : List UInt8) : dotN (b :: l) = dotN l + (if b == 46 then 1 else 0) := by unfold dotN; rw [List.countP_cons]
theorem dots_lt (l : List UInt8) : decide ((dotN l : Int) < (l.length : Int)) = l.any (fun b => b != 46) := by
 induction l with
 | nil => rfl
 | cons b l ih =>
  have hle : dotN l <= l.length := List.countP_le_length
  rw [List.any_cons, <- ih]
  have e := dot_cons b l
  have e2 : (b :: l).length = l.length + 1 := rfl
  by_cases hb : b = 46
  ·subst hb
   simp only [beq_self_eq_true, if_true] at e
   rw [bne_self_eq_false, Bool.false_or, decide_eq_decide]; omega
  have h1 : (b == 46) = false := by simpa using hb
  have h2 : (b != 46) = true := by simpa using hb
  rw [h1] at e
  simp only [Bool.false_eq_true, if_false] at e
  rw [h2, Bool.true_or, decide_eq_true_eq]
  omega
theorem part_all {s : ByteArray} {k : Nat} (hk : k = s.size) (h : (s.data.toList.take k).all mayB = true) : partP s = decide ((dotN (s.data.toList.take k) : Int) < (s.size : Int)) := by
 subst hk
 rw [List.take_of_length_le (by simp)] at h ⊢
 unfold partP
 rw [h, <- dots_lt]
 simp
theorem part_any {s : ByteArray} {k : Nat} (hk : k = s.size) (h : (s.data.toList.take k).all mayB = true) : partP s = (s.data.toList.take k).any (fun b => b != 46) := by
 subst hk
 rw [List.take_of_length_le (by simp)] at h ⊢
 unfold partP
 rw [h, Bool.true_and]
theorem may_fc {w0 : World} {S : SS} {z : Int} : FC Tryz.prog w0 98 [.int .i32 z] S (fun v S' => v = .bool (mayZ z) /\ S' = S) := by
 refine FC.of Tryz.known98 (by simp) ?_
 unfold Tryz.pc98
 simp only [argT]
 refine PW.seqOps (OL.dp rfl (OL.nil (PW.k1 0 rfl (PW.seqOps (OL.dp rfl (OL.dp rfl ?_))))))
 refine OL.bool trivial (Yields.pure rfl) (fun g5 => ?_) (fun g5 => ?_)
 ·try simp only [decide_eq_true_eq, decide_eq_false_iff_not, beq_iff_eq, bne_iff_ne, beq_eq_false_iff_ne, bne_eq_false_iff_eq, Bool.not_eq_true', Bool.not_eq_false', Bool.not_eq_true, ne_eq, Decidable.not_not] at g5
  refine OL.det rfl (.pure rfl) (OL.det rfl (.pure rfl) (OL.dp rfl ?_))
  refine OL.bool trivial (Yields.pure rfl) (fun g9 => ?_) (fun g9 => ?_)
  ·try simp only [decide_eq_true_eq, decide_eq_false_iff_not, beq_iff_eq, bne_iff_ne, beq_eq_false_iff_ne, bne_eq_false_iff_eq, Bool.not_eq_true', Bool.not_eq_false', Bool.not_eq_true, ne_eq, Decidable.not_not] at g9
   refine OL.off rfl rfl (OL.off rfl rfl (OL.off rfl rfl (OL.off rfl rfl (OL.off rfl rfl (OL.off rfl rfl (OL.dp rfl (OL.dp rfl (OL.off rfl rfl (OL.off rfl rfl (OL.off rfl rfl (OL.off rfl rfl ?_)))))))))))
   refine OL.off rfl rfl (OL.off rfl rfl (OL.dp rfl (OL.dp rfl (OL.off rfl rfl (OL.off rfl rfl (OL.dp rfl (OL.dp rfl (OL.off rfl rfl (OL.off rfl rfl (OL.dp rfl (OL.dp rfl ?_)))))))))))
   refine OL.off rfl rfl (OL.off rfl rfl (OL.dp rfl (OL.dp rfl (OL.nil (PW.k1 2 rfl (PW.ret ?_))))))
   change (Exit.ret = Exit.normal ∨ Exit.ret = Exit.ret) /\ ∃ v, resV _ _ = some v /\ _
   refine ⟨.inr rfl, _, rfl, congrArg Value.bool ?_, rfl⟩
   unfold mayZ
   rw [Bool.eq_iff_iff]
   simp only [Bool.or_eq_true, Bool.and_eq_true, decide_eq_true_eq, beq_iff_eq, Bool.false_eq_true, true_iff, false_iff]
   omega
  try simp only [decide_eq_true_eq, decide_eq_false_iff_not, beq_iff_eq, bne_iff_ne, beq_eq_false_iff_ne, bne_eq_false_iff_eq, Bool.not_eq_true', Bool.not_eq_false', Bool.not_eq_true, ne_eq, Decidable.not_not] at g9
  refine OL.det rfl (.pure rfl) (OL.det rfl (.pure rfl) ?_)
  refine OL.bool rfl (Yields.pure rfl) (fun g12 => ?_) (fun g12 => ?_)
  ·try simp only [decide_eq_true_eq, decide_eq_false_iff_not, beq_iff_eq, bne_iff_ne, beq_eq_false_iff_ne, bne_eq_false_iff_eq, Bool.not_eq_true', Bool.not_eq_false', Bool.not_eq_true, ne_eq, Decidable.not_not] at g12
   refine OL.det rfl (.pure rfl) (OL.det rfl (.pure rfl) (OL.det rfl (.pure rfl) (OL.dp rfl ?_)))
   refine OL.bool trivial (Yields.pure rfl) (fun g17 => ?_) (fun g17 => ?_)
   ·try simp only [decide_eq_true_eq, decide_eq_false_iff_not, beq_iff_eq, bne_iff_ne, beq_eq_false_iff_ne, bne_eq_false_iff_eq, Bool.not_eq_true', Bool.not_eq_false', Bool.not_eq_true, ne_eq, Decidable.not_not] at g17
    refine OL.off rfl rfl (OL.off rfl rfl (OL.off rfl rfl (OL.off rfl rfl (OL.off rfl rfl (OL.off rfl rfl (OL.dp rfl (OL.dp rfl (OL.off rfl rfl (OL.off rfl rfl (OL.dp rfl (OL.dp rfl ?_)))))))))))
    refine OL.off rfl rfl (OL.off rfl rfl (OL.dp rfl (OL.dp rfl (OL.off rfl rfl (OL.off rfl rfl (OL.dp rfl (OL.dp rfl (OL.nil (PW.k1 2 rfl (PW.ret ?_))))))))))
    change (Exit.ret = Exit.normal ∨ Exit.ret = Exit.ret) /\ ∃ v, resV _ _ = some v /\ _
    refine ⟨.inr rfl, _, rfl, congrArg Value.bool ?_, rfl⟩
    unfold mayZ
    rw [Bool.eq_iff_iff]
    simp only [Bool.or_eq_true, Bool.and_eq_true, decide_eq_true_eq, beq_iff_eq, Bool.false_eq_true, true_iff, false_iff]
    omega
   try simp only [decide_eq_true_eq, decide_eq_false_iff_not, beq_iff_eq, bne_iff_ne, beq_eq_false_iff_ne, bne_eq_false_iff_eq, Bool.not_eq_true', Bool.not_eq_false', Bool.not_eq_true, ne_eq, Decidable.not_not] at g17
   refine OL.det rfl (.pure rfl) (OL.det rfl (.pure rfl) ?_)
   refine OL.bool rfl (Yields.pure rfl) (fun g20 => ?_) (fun g20 => ?_)
   ·try simp only [decide_eq_true_eq, decide_eq_false_iff_not, beq_iff_eq, bne_iff_ne, beq_eq_false_iff_ne, bne_eq_false_iff_eq, Bool.not_eq_true', Bool.not_eq_false', Bool.not_eq_true, ne_eq, Decidable.not_not] at g20
    refine OL.det rfl (.pure rfl) (OL.det rfl (.pure rfl) (OL.det rfl (.pure rfl) (OL.dp rfl ?_)))
    refine OL.bool trivial (Yields.pure rfl) (fun g25 => ?_) (fun g25 => ?_)
    ·try simp only [decide_eq_true_eq, decide_eq_false_iff_not, beq_iff_eq, bne_iff_ne, beq_eq_false_iff_ne, bne_eq_false_iff_eq, Bool.not_eq_true', Bool.not_eq_false', Bool.not_eq_true, ne_eq, Decidable.not_not] at g25
     refine OL.off rfl rfl (OL.off rfl rfl (OL.dp rfl (OL.dp rfl (OL.off rfl rfl (OL.off rfl rfl (OL.dp rfl (OL.dp rfl (OL.off rfl rfl (OL.off rfl rfl (OL.dp rfl (OL.dp rfl ?_)))))))))))
     refine OL.nil (PW.k1 2 rfl (PW.ret ?_))
     change (Exit.ret = Exit.normal ∨ Exit.ret = Exit.ret) /\ ∃ v, resV _ _ = some v /\ _
     refine ⟨.inr rfl, _, rfl, congrArg Value.bool ?_, rfl⟩
     unfold mayZ
     rw [Bool.eq_iff_iff]
     simp only [Bool.or_eq_true, Bool.and_eq_true, decide_eq_true_eq, beq_iff_eq, Bool.false_eq_true, true_iff, false_iff]
     omega
    try simp only [decide_eq_true_eq, decide_eq_false_iff_not, beq_iff_eq, bne_iff_ne, beq_eq_false_iff_ne, bne_eq_false_iff_eq, Bool.not_eq_true', Bool.not_eq_false', Bool.not_eq_true, ne_eq, Decidable.not_not] at g25
    refine OL.det rfl (.pure rfl) (OL.det rfl (.pure rfl) (OL.dp rfl ?_))
    refine OL.bool trivial (Yields.pure rfl) (fun g29 => ?_) (fun g29 => ?_)
    ·try simp only [decide_eq_true_eq, decide_eq_false_iff_not, beq_iff_eq, bne_iff_ne, beq_eq_false_iff_ne, bne_eq_false_iff_eq, Bool.not_eq_true', Bool.not_eq_false', Bool.not_eq_true, ne_eq, Decidable.not_not] at g29
     refine OL.off rfl rfl (OL.off rfl rfl (OL.dp rfl (OL.dp rfl (OL.off rfl rfl (OL.off rfl rfl (OL.dp rfl (OL.dp rfl (OL.nil (PW.k1 2 rfl (PW.ret ?_))))))))))
     change (Exit.ret = Exit.normal ∨ Exit.ret = Exit.ret) /\ ∃ v, resV _ _ = some v /\ _
     refine ⟨.inr rfl, _, rfl, congrArg Value.bool ?_, rfl⟩
     unfold mayZ
     rw [Bool.eq_iff_iff]
     simp only [Bool.or_eq_true, Bool.and_eq_true, decide_eq_true_eq, beq_iff_eq, Bool.false_eq_true, true_iff, false_iff]
     omega
    try simp only [decide_eq_true_eq, decide_eq_false_iff_not, beq_iff_eq, bne_iff_ne, beq_eq_false_iff_ne, bne_eq_false_iff_eq, Bool.not_eq_true', Bool.not_eq_false', Bool.not_eq_true, ne_eq, Decidable.not_not] at g29
    refine OL.det rfl (.pure rfl) (OL.det rfl (.pure rfl) (OL.dp rfl ?_))
    refine OL.bool trivial (Yields.pure rfl) (fun g33 => ?_) (fun g33 => ?_)
    ·try simp only [decide_eq_true_eq, decide_eq_false_iff_not, beq_iff_eq, bne_iff_ne, beq_eq_false_iff_ne, bne_eq_false_iff_eq, Bool.not_eq_true', Bool.not_eq_false', Bool.not_eq_true, ne_eq, Decidable.not_not] at g33
     refine OL.off rfl rfl (OL.off rfl rfl (OL.dp rfl (OL.dp rfl (OL.nil (PW.k1 2 rfl (PW.ret ?_))))))
     change (Exit.ret = Exit.normal ∨ Exit.ret = Exit.ret) /\ ∃ v, resV _ _ = some v /\ _
     refine ⟨.inr rfl, _, rfl, congrArg Value.bool ?_, rfl⟩
     unfold mayZ
     rw [Bool.eq_iff_iff]
     simp only [Bool.or_eq_true, Bool.and_eq_true, decide_eq_true_eq, beq_iff_eq, Bool.false_eq_true, true_iff, false_iff]
     omega
    try simp only [decide_eq_true_eq, decide_eq_false_iff_not, beq_iff_eq, bne_iff_ne, beq_eq_false_iff_ne, bne_eq_false_iff_eq, Bool.not_eq_true', Bool.not_eq_false', Bool.not_eq_true, ne_eq, Decidable.not_not] at g33
    refine OL.det rfl (.pure rfl) (OL.det rfl (.pure rfl) (OL.dp rfl (OL.dp rfl (OL.nil (PW.k1 2 rfl (PW.ret ?_))))))
    change (Exit.ret = Exit.normal ∨ Exit.ret = Exit.ret) /\ ∃ v, resV _ _ = some v /\ _
    refine ⟨.inr rfl, _, rfl, congrArg Value.bool ?_, rfl⟩
    unfold mayZ
    rw [Bool.eq_iff_iff]
    simp only [Bool.or_eq_true, Bool.and_eq_true, decide_eq_true_eq, beq_iff_eq, Bool.false_eq_true, true_iff, false_iff]
    omega
   try simp only [decide_eq_true_eq, decide_eq_false_iff_not, beq_iff_eq, bne_iff_ne, beq_eq_false_iff_ne, bne_eq_false_iff_eq, Bool.not_eq_true', Bool.not_eq_false', Bool.not_eq_true, ne_eq, Decidable.not_not] at g20
   refine OL.off rfl rfl (OL.off rfl rfl (OL.det rfl (.pure rfl) (OL.dp rfl (OL.dp rfl (OL.det rfl (.pure rfl) (OL.det rfl (.pure rfl) (OL.dp rfl ?_)))))))
   refine OL.bool trivial (Yields.pure rfl) (fun g29 => ?_) (fun g29 => ?_)
   ·try simp only [decide_eq_true_eq, decide_eq_false_iff_not, beq_iff_eq, bne_iff_ne, beq_eq_false_iff_ne, bne_eq_false_iff_eq, Bool.not_eq_true', Bool.not_eq_false', Bool.not_eq_true, ne_eq, Decidable.not_not] at g29
    refine OL.off rfl rfl (OL.off rfl rfl (OL.dp rfl (OL.dp rfl (OL.off rfl rfl (OL.off rfl rfl (OL.dp rfl (OL.dp rfl (OL.nil (PW.k1 2 rfl (PW.ret ?_))))))))))
    change (Exit.ret = Exit.normal ∨ Exit.ret = Exit.ret) /\ ∃ v, resV _ _ = some v /\ _
    refine ⟨.inr rfl, _, rfl, congrArg Value.bool ?_, rfl⟩
    unfold mayZ
    rw [Bool.eq_iff_iff]
    simp only [Bool.or_eq_true, Bool.and_eq_true, decide_eq_true_eq, beq_iff_eq, Bool.false_eq_true, true_iff, false_iff]
    omega
   try simp only [decide_eq_true_eq, decide_eq_false_iff_not, beq_iff_eq, bne_iff_ne, beq_eq_false_iff_ne, bne_eq_false_iff_eq, Bool.not_eq_true', Bool.not_eq_false', Bool.not_eq_true, ne_eq, Decidable.not_not] at g29
   refine OL.det rfl (.pure rfl) (OL.det rfl (.pure rfl) (OL.dp rfl ?_))
   refine OL.bool trivial (Yields.pure rfl) (fun g33 => ?_) (fun g33 => ?_)
   ·try simp only [decide_eq_true_eq, decide_eq_false_iff_not, beq_iff_eq, bne_iff_ne, beq_eq_false_iff_ne, bne_eq_false_iff_eq, Bool.not_eq_true', Bool.not_eq_false', Bool.not_eq_true, ne_eq, Decidable.not_not] at g33
    refine OL.off rfl rfl (OL.off rfl rfl (OL.dp rfl (OL.dp rfl (OL.nil (PW.k1 2 rfl (PW.ret ?_))))))
    change (Exit.ret = Exit.normal ∨ Exit.ret = Exit.ret) /\ ∃ v, resV _ _ = some v /\ _
    refine ⟨.inr rfl, _, rfl, congrArg Value.bool ?_, rfl⟩
    unfold mayZ
    rw [Bool.eq_iff_iff]
    simp only [Bool.or_eq_true, Bool.and_eq_true, decide_eq_true_eq, beq_iff_eq, Bool.false_eq_true, true_iff, false_iff]
    omega
   try simp only [decide_eq_true_eq, decide_eq_false_iff_not, beq_iff_eq, bne_iff_ne, beq_eq_false_iff_ne, bne_eq_false_iff_eq, Bool.not_eq_true', Bool.not_eq_false', Bool.not_eq_true, ne_eq, Decidable.not_not] at g33
   refine OL.det rfl (.pure rfl) (OL.det rfl (.pure rfl) (OL.dp rfl (OL.dp rfl (OL.nil (PW.k1 2 rfl (PW.ret ?_))))))
   change (Exit.ret = Exit.normal ∨ Exit.ret = Exit.ret) /\ ∃ v, resV _ _ = some v /\ _
   refine ⟨.inr rfl, _, rfl, congrArg Value.bool ?_, rfl⟩
   unfold mayZ
   rw [Bool.eq_iff_iff]
   simp only [Bool.or_eq_true, Bool.and_eq_true, decide_eq_true_eq, beq_iff_eq, Bool.false_eq_true, true_iff, false_iff]
   omega
  try simp only [decide_eq_true_eq, decide_eq_false_iff_not, beq_iff_eq, bne_iff_ne, beq_eq_false_iff_ne, bne_eq_false_iff_eq, Bool.not_eq_true', Bool.not_eq_false', Bool.not_eq_true, ne_eq, Decidable.not_not] at g12
  refine OL.off rfl rfl (OL.off rfl rfl (OL.det rfl (.pure rfl) (OL.dp rfl (OL.dp rfl (OL.det rfl (.pure rfl) (OL.det rfl (.pure rfl) ?_))))))
  refine OL.bool rfl (Yields.pure rfl) (fun g20 => ?_) (fun g20 => ?_)
  ·try simp only [decide_eq_true_eq, decide_eq_false_iff_not, beq_iff_eq, bne_iff_ne, beq_eq_false_iff_ne, bne_eq_false_iff_eq, Bool.not_eq_true', Bool.not_eq_false', Bool.not_eq_true, ne_eq, Decidable.not_not] at g20
   refine OL.det rfl (.pure rfl) (OL.det rfl (.pure rfl) (OL.det rfl (.pure rfl) (OL.dp rfl ?_)))
   refine OL.bool trivial (Yields.pure rfl) (fun g25 => ?_) (fun g25 => ?_)
   ·try simp only [decide_eq_true_eq, decide_eq_false_iff_not, beq_iff_eq, bne_iff_ne, beq_eq_false_iff_ne, bne_eq_false_iff_eq, Bool.not_eq_true', Bool.not_eq_false', Bool.not_eq_true, ne_eq, Decidable.not_not] at g25
    refine OL.off rfl rfl (OL.off rfl rfl (OL.dp rfl (OL.dp rfl (OL.off rfl rfl (OL.off rfl rfl (OL.dp rfl (OL.dp rfl (OL.off rfl rfl (OL.off rfl rfl (OL.dp rfl (OL.dp rfl ?_)))))))))))
    refine OL.nil (PW.k1 2 rfl (PW.ret ?_))
    change (Exit.ret = Exit.normal ∨ Exit.ret = Exit.ret) /\ ∃ v, resV _ _ = some v /\ _
    refine ⟨.inr rfl, _, rfl, congrArg Value.bool ?_, rfl⟩
    unfold mayZ
    rw [Bool.eq_iff_iff]
    simp only [Bool.or_eq_true, Bool.and_eq_true, decide_eq_true_eq, beq_iff_eq, Bool.false_eq_true, true_iff, false_iff]
    omega
   try simp only [decide_eq_true_eq, decide_eq_false_iff_not, beq_iff_eq, bne_iff_ne, beq_eq_false_iff_ne, bne_eq_false_iff_eq, Bool.not_eq_true', Bool.not_eq_false', Bool.not_eq_true, ne_eq, Decidable.not_not] at g25
   refine OL.det rfl (.pure rfl) (OL.det rfl (.pure rfl) (OL.dp rfl ?_))
   refine OL.bool trivial (Yields.pure rfl) (fun g29 => ?_) (fun g29 => ?_)
   ·try simp only [decide_eq_true_eq, decide_eq_false_iff_not, beq_iff_eq, bne_iff_ne, beq_eq_false_iff_ne, bne_eq_false_iff_eq, Bool.not_eq_true', Bool.not_eq_false', Bool.not_eq_true, ne_eq, Decidable.not_not] at g29
    refine OL.off rfl rfl (OL.off rfl rfl (OL.dp rfl (OL.dp rfl (OL.off rfl rfl (OL.off rfl rfl (OL.dp rfl (OL.dp rfl (OL.nil (PW.k1 2 rfl (PW.ret ?_))))))))))
    change (Exit.ret = Exit.normal ∨ Exit.ret = Exit.ret) /\ ∃ v, resV _ _ = some v /\ _
    refine ⟨.inr rfl, _, rfl, congrArg Value.bool ?_, rfl⟩
    unfold mayZ
    rw [Bool.eq_iff_iff]
    simp only [Bool.or_eq_true, Bool.and_eq_true, decide_eq_true_eq, beq_iff_eq, Bool.false_eq_true, true_iff, false_iff]
    omega
   try simp only [decide_eq_true_eq, decide_eq_false_iff_not, beq_iff_eq, bne_iff_ne, beq_eq_false_iff_ne, bne_eq_false_iff_eq, Bool.not_eq_true', Bool.not_eq_false', Bool.not_eq_true, ne_eq, Decidable.not_not] at g29
   refine OL.det rfl (.pure rfl) (OL.det rfl (.pure rfl) (OL.dp rfl ?_))
   refine OL.bool trivial (Yields.pure rfl) (fun g33 => ?_) (fun g33 => ?_)
   ·try simp only [decide_eq_true_eq, decide_eq_false_iff_not, beq_iff_eq, bne_iff_ne, beq_eq_false_iff_ne, bne_eq_false_iff_eq, Bool.not_eq_true', Bool.not_eq_false', Bool.not_eq_true, ne_eq, Decidable.not_not] at g33
    refine OL.off rfl rfl (OL.off rfl rfl (OL.dp rfl (OL.dp rfl (OL.nil (PW.k1 2 rfl (PW.ret ?_))))))
    change (Exit.ret = Exit.normal ∨ Exit.ret = Exit.ret) /\ ∃ v, resV _ _ = some v /\ _
    refine ⟨.inr rfl, _, rfl, congrArg Value.bool ?_, rfl⟩
    unfold mayZ
    rw [Bool.eq_iff_iff]
    simp only [Bool.or_eq_true, Bool.and_eq_true, decide_eq_true_eq, beq_iff_eq, Bool.false_eq_true, true_iff, false_iff]
    omega
   try simp only [decide_eq_true_eq, decide_eq_false_iff_not, beq_iff_eq, bne_iff_ne, beq_eq_false_iff_ne, bne_eq_false_iff_eq, Bool.not_eq_true', Bool.not_eq_false', Bool.not_eq_true, ne_eq, Decidable.not_not] at g33
   refine OL.det rfl (.pure rfl) (OL.det rfl (.pure rfl) (OL.dp rfl (OL.dp rfl (OL.nil (PW.k1 2 rfl (PW.ret ?_))))))
   change (Exit.ret = Exit.normal ∨ Exit.ret = Exit.ret) /\ ∃ v, resV _ _ = some v /\ _
   refine ⟨.inr rfl, _, rfl, congrArg Value.bool ?_, rfl⟩
   unfold mayZ
   rw [Bool.eq_iff_iff]
   simp only [Bool.or_eq_true, Bool.and_eq_true, decide_eq_true_eq, beq_iff_eq, Bool.false_eq_true, true_iff, false_iff]
   omega
  try simp only [decide_eq_true_eq, decide_eq_false_iff_not, beq_iff_eq, bne_iff_ne, beq_eq_false_iff_ne, bne_eq_false_iff_eq, Bool.not_eq_true', Bool.not_eq_false', Bool.not_eq_true, ne_eq, Decidable.not_not] at g20
  refine OL.off rfl rfl (OL.off rfl rfl (OL.det rfl (.pure rfl) (OL.dp rfl (OL.dp rfl (OL.det rfl (.pure rfl) (OL.det rfl (.pure rfl) (OL.dp rfl ?_)))))))
  refine OL.bool trivial (Yields.pure rfl) (fun g29 => ?_) (fun g29 => ?_)
  ·try simp only [decide_eq_true_eq, decide_eq_false_iff_not, beq_iff_eq, bne_iff_ne, beq_eq_false_iff_ne, bne_eq_false_iff_eq, Bool.not_eq_true', Bool.not_eq_false', Bool.not_eq_true, ne_eq, Decidable.not_not] at g29
   refine OL.off rfl rfl (OL.off rfl rfl (OL.dp rfl (OL.dp rfl (OL.off rfl rfl (OL.off rfl rfl (OL.dp rfl (OL.dp rfl (OL.nil (PW.k1 2 rfl (PW.ret ?_))))))))))
   change (Exit.ret = Exit.normal ∨ Exit.ret = Exit.ret) /\ ∃ v, resV _ _ = some v /\ _
   refine ⟨.inr rfl, _, rfl, congrArg Value.bool ?_, rfl⟩
   unfold mayZ
   rw [Bool.eq_iff_iff]
   simp only [Bool.or_eq_true, Bool.and_eq_true, decide_eq_true_eq, beq_iff_eq, Bool.false_eq_true, true_iff, false_iff]
   omega
  try simp only [decide_eq_true_eq, decide_eq_false_iff_not, beq_iff_eq, bne_iff_ne, beq_eq_false_iff_ne, bne_eq_false_iff_eq, Bool.not_eq_true', Bool.not_eq_false', Bool.not_eq_true, ne_eq, Decidable.not_not] at g29
  refine OL.det rfl (.pure rfl) (OL.det rfl (.pure rfl) (OL.dp rfl ?_))
  refine OL.bool trivial (Yields.pure rfl) (fun g33 => ?_) (fun g33 => ?_)
  ·try simp only [decide_eq_true_eq, decide_eq_false_iff_not, beq_iff_eq, bne_iff_ne, beq_eq_false_iff_ne, bne_eq_false_iff_eq, Bool.not_eq_true', Bool.not_eq_false', Bool.not_eq_true, ne_eq, Decidable.not_not] at g33
   refine OL.off rfl rfl (OL.off rfl rfl (OL.dp rfl (OL.dp rfl (OL.nil (PW.k1 2 rfl (PW.ret ?_))))))
   change (Exit.ret = Exit.normal ∨ Exit.ret = Exit.ret) /\ ∃ v, resV _ _ = some v /\ _
   refine ⟨.inr rfl, _, rfl, congrArg Value.bool ?_, rfl⟩
   unfold mayZ
   rw [Bool.eq_iff_iff]
   simp only [Bool.or_eq_true, Bool.and_eq_true, decide_eq_true_eq, beq_iff_eq, Bool.false_eq_true, true_iff, false_iff]
   omega
  try simp only [decide_eq_true_eq, decide_eq_false_iff_not, beq_iff_eq, bne_iff_ne, beq_eq_false_iff_ne, bne_eq_false_iff_eq, Bool.not_eq_true', Bool.not_eq_false', Bool.not_eq_true, ne_eq, Decidable.not_not] at g33
  refine OL.det rfl (.pure rfl) (OL.det rfl (.pure rfl) (OL.dp rfl (OL.dp rfl (OL.nil (PW.k1 2 rfl (PW.ret ?_))))))
  change (Exit.ret = Exit.normal ∨ Exit.ret = Exit.ret) /\ ∃ v, resV _ _ = some v /\ _
  refine ⟨.inr rfl, _, rfl, congrArg Value.bool ?_, rfl⟩
  unfold mayZ
  rw [Bool.eq_iff_iff]
  simp only [Bool.or_eq_true, Bool.and_eq_true, decide_eq_true_eq, beq_iff_eq, Bool.false_eq_true, true_iff, false_iff]
  omega
 try simp only [decide_eq_true_eq, decide_eq_false_iff_not, beq_iff_eq, bne_iff_ne, beq_eq_false_iff_ne, bne_eq_false_iff_eq, Bool.not_eq_true', Bool.not_eq_false', Bool.not_eq_true, ne_eq, Decidable.not_not] at g5
 refine OL.off rfl rfl (OL.off rfl rfl (OL.dp rfl (OL.dp rfl (OL.det rfl (.pure rfl) (OL.det rfl (.pure rfl) ?_)))))
 refine OL.bool rfl (Yields.pure rfl) (fun g12 => ?_) (fun g12 => ?_)
 ·try simp only [decide_eq_true_eq, decide_eq_false_iff_not, beq_iff_eq, bne_iff_ne, beq_eq_false_iff_ne, bne_eq_false_iff_eq, Bool.not_eq_true', Bool.not_eq_false', Bool.not_eq_true, ne_eq, Decidable.not_not] at g12
  refine OL.det rfl (.pure rfl) (OL.det rfl (.pure rfl) (OL.det rfl (.pure rfl) (OL.dp rfl ?_)))
  refine OL.bool trivial (Yields.pure rfl) (fun g17 => ?_) (fun g17 => ?_)
  ·try simp only [decide_eq_true_eq, decide_eq_false_iff_not, beq_iff_eq, bne_iff_ne, beq_eq_false_iff_ne, bne_eq_false_iff_eq, Bool.not_eq_true', Bool.not_eq_false', Bool.not_eq_true, ne_eq, Decidable.not_not] at g17
   refine OL.off rfl rfl (OL.off rfl rfl (OL.off rfl rfl (OL.off rfl rfl (OL.off rfl rfl (OL.off rfl rfl (OL.dp rfl (OL.dp rfl (OL.off rfl rfl (OL.off rfl rfl (OL.dp rfl (OL.dp rfl ?_)))))))))))
   refine OL.off rfl rfl (OL.off rfl rfl (OL.dp rfl (OL.dp rfl (OL.off rfl rfl (OL.off rfl rfl (OL.dp rfl (OL.dp rfl (OL.nil (PW.k1 2 rfl (PW.ret ?_))))))))))
   change (Exit.ret = Exit.normal ∨ Exit.ret = Exit.ret) /\ ∃ v, resV _ _ = some v /\ _
   refine ⟨.inr rfl, _, rfl, congrArg Value.bool ?_, rfl⟩
   unfold mayZ
   rw [Bool.eq_iff_iff]
   simp only [Bool.or_eq_true, Bool.and_eq_true, decide_eq_true_eq, beq_iff_eq, Bool.false_eq_true, true_iff, false_iff]
   omega
  try simp only [decide_eq_true_eq, decide_eq_false_iff_not, beq_iff_eq, bne_iff_ne, beq_eq_false_iff_ne, bne_eq_false_iff_eq, Bool.not_eq_true', Bool.not_eq_false', Bool.not_eq_true, ne_eq, Decidable.not_not] at g17
  refine OL.det rfl (.pure rfl) (OL.det rfl (.pure rfl) ?_)
  refine OL.bool rfl (Yields.pure rfl) (fun g20 => ?_) (fun g20 => ?_)
  ·try simp only [decide_eq_true_eq, decide_eq_false_iff_not, beq_iff_eq, bne_iff_ne, beq_eq_false_iff_ne, bne_eq_false_iff_eq, Bool.not_eq_true', Bool.not_eq_false', Bool.not_eq_true, ne_eq, Decidable.not_not] at g20
   refine OL.det rfl (.pure rfl) (OL.det rfl (.pure rfl) (OL.det rfl (.pure rfl) (OL.dp rfl ?_)))
   refine OL.bool trivial (Yields.pure rfl) (fun g25 => ?_) (fun g25 => ?_)
   ·try simp only [decide_eq_true_eq, decide_eq_false_iff_not, beq_iff_eq, bne_iff_ne, beq_eq_false_iff_ne, bne_eq_false_iff_eq, Bool.not_eq_true', Bool.not_eq_false', Bool.not_eq_true, ne_eq, Decidable.not_not] at g25
    refine OL.off rfl rfl (OL.off rfl rfl (OL.dp rfl (OL.dp rfl (OL.off rfl rfl (OL.off rfl rfl (OL.dp rfl (OL.dp rfl (OL.off rfl rfl (OL.off rfl rfl (OL.dp rfl (OL.dp rfl ?_)))))))))))
    refine OL.nil (PW.k1 2 rfl (PW.ret ?_))
    change (Exit.ret = Exit.normal ∨ Exit.ret = Exit.ret) /\ ∃ v, resV _ _ = some v /\ _
    refine ⟨.inr rfl, _, rfl, congrArg Value.bool ?_, rfl⟩
    unfold mayZ
    rw [Bool.eq_iff_iff]
    simp only [Bool.or_eq_true, Bool.and_eq_true, decide_eq_true_eq, beq_iff_eq, Bool.false_eq_true, true_iff, false_iff]
    omega
   try simp only [decide_eq_true_eq, decide_eq_false_iff_not, beq_iff_eq, bne_iff_ne, beq_eq_false_iff_ne, bne_eq_false_iff_eq, Bool.not_eq_true', Bool.not_eq_false', Bool.not_eq_true, ne_eq, Decidable.not_not] at g25
   refine OL.det rfl (.pure rfl) (OL.det rfl (.pure rfl) (OL.dp rfl ?_))
   refine OL.bool trivial (Yields.pure rfl) (fun g29 => ?_) (fun g29 => ?_)
   ·try simp only [decide_eq_true_eq, decide_eq_false_iff_not, beq_iff_eq, bne_iff_ne, beq_eq_false_iff_ne, bne_eq_false_iff_eq, Bool.not_eq_true', Bool.not_eq_false', Bool.not_eq_true, ne_eq, Decidable.not_not] at g29
    refine OL.off rfl rfl (OL.off rfl rfl (OL.dp rfl (OL.dp rfl (OL.off rfl rfl (OL.off rfl rfl (OL.dp rfl (OL.dp rfl (OL.nil (PW.k1 2 rfl (PW.ret ?_))))))))))
    change (Exit.ret = Exit.normal ∨ Exit.ret = Exit.ret) /\ ∃ v, resV _ _ = some v /\ _
    refine ⟨.inr rfl, _, rfl, congrArg Value.bool ?_, rfl⟩
    unfold mayZ
    rw [Bool.eq_iff_iff]
    simp only [Bool.or_eq_true, Bool.and_eq_true, decide_eq_true_eq, beq_iff_eq, Bool.false_eq_true, true_iff, false_iff]
    omega
   try simp only [decide_eq_true_eq, decide_eq_false_iff_not, beq_iff_eq, bne_iff_ne, beq_eq_false_iff_ne, bne_eq_false_iff_eq, Bool.not_eq_true', Bool.not_eq_false', Bool.not_eq_true, ne_eq, Decidable.not_not] at g29
   refine OL.det rfl (.pure rfl) (OL.det rfl (.pure rfl) (OL.dp rfl ?_))
   refine OL.bool trivial (Yields.pure rfl) (fun g33 => ?_) (fun g33 => ?_)
   ·try simp only [decide_eq_true_eq, decide_eq_false_iff_not, beq_iff_eq, bne_iff_ne, beq_eq_false_iff_ne, bne_eq_false_iff_eq, Bool.not_eq_true', Bool.not_eq_false', Bool.not_eq_true, ne_eq, Decidable.not_not] at g33
    refine OL.off rfl rfl (OL.off rfl rfl (OL.dp rfl (OL.dp rfl (OL.nil (PW.k1 2 rfl (PW.ret ?_))))))
    change (Exit.ret = Exit.normal ∨ Exit.ret = Exit.ret) /\ ∃ v, resV _ _ = some v /\ _
    refine ⟨.inr rfl, _, rfl, congrArg Value.bool ?_, rfl⟩
    unfold mayZ
    rw [Bool.eq_iff_iff]
    simp only [Bool.or_eq_true, Bool.and_eq_true, decide_eq_true_eq, beq_iff_eq, Bool.false_eq_true, true_iff, false_iff]
    omega
   try simp only [decide_eq_true_eq, decide_eq_false_iff_not, beq_iff_eq, bne_iff_ne, beq_eq_false_iff_ne, bne_eq_false_iff_eq, Bool.not_eq_true', Bool.not_eq_false', Bool.not_eq_true, ne_eq, Decidable.not_not] at g33
   refine OL.det rfl (.pure rfl) (OL.det rfl (.pure rfl) (OL.dp rfl (OL.dp rfl (OL.nil (PW.k1 2 rfl (PW.ret ?_))))))
   change (Exit.ret = Exit.normal ∨ Exit.ret = Exit.ret) /\ ∃ v, resV _ _ = some v /\ _
   refine ⟨.inr rfl, _, rfl, congrArg Value.bool ?_, rfl⟩
   unfold mayZ
   rw [Bool.eq_iff_iff]
   simp only [Bool.or_eq_true, Bool.and_eq_true, decide_eq_true_eq, beq_iff_eq, Bool.false_eq_true, true_iff, false_iff]
   omega
  try simp only [decide_eq_true_eq, decide_eq_false_iff_not, beq_iff_eq, bne_iff_ne, beq_eq_false_iff_ne, bne_eq_false_iff_eq, Bool.not_eq_true', Bool.not_eq_false', Bool.not_eq_true, ne_eq, Decidable.not_not] at g20
  refine OL.off rfl rfl (OL.off rfl rfl (OL.det rfl (.pure rfl) (OL.dp rfl (OL.dp rfl (OL.det rfl (.pure rfl) (OL.det rfl (.pure rfl) (OL.dp rfl ?_)))))))
  refine OL.bool trivial (Yields.pure rfl) (fun g29 => ?_) (fun g29 => ?_)
  ·try simp only [decide_eq_true_eq, decide_eq_false_iff_not, beq_iff_eq, bne_iff_ne, beq_eq_false_iff_ne, bne_eq_false_iff_eq, Bool.not_eq_true', Bool.not_eq_false', Bool.not_eq_true, ne_eq, Decidable.not_not] at g29
   refine OL.off rfl rfl (OL.off rfl rfl (OL.dp rfl (OL.dp rfl (OL.off rfl rfl (OL.off rfl rfl (OL.dp rfl (OL.dp rfl (OL.nil (PW.k1 2 rfl (PW.ret ?_))))))))))
   change (Exit.ret = Exit.normal ∨ Exit.ret = Exit.ret) /\ ∃ v, resV _ _ = some v /\ _
   refine ⟨.inr rfl, _, rfl, congrArg Value.bool ?_, rfl⟩
   unfold mayZ
   rw [Bool.eq_iff_iff]
   simp only [Bool.or_eq_true, Bool.and_eq_true, decide_eq_true_eq, beq_iff_eq, Bool.false_eq_true, true_iff, false_iff]
   omega
  try simp only [decide_eq_true_eq, decide_eq_false_iff_not, beq_iff_eq, bne_iff_ne, beq_eq_false_iff_ne, bne_eq_false_iff_eq, Bool.not_eq_true', Bool.not_eq_false', Bool.not_eq_true, ne_eq, Decidable.not_not] at g29
  refine OL.det rfl (.pure rfl) (OL.det rfl (.pure rfl) (OL.dp rfl ?_))
  refine OL.bool trivial (Yields.pure rfl) (fun g33 => ?_) (fun g33 => ?_)
  ·try simp only [decide_eq_true_eq, decide_eq_false_iff_not, beq_iff_eq, bne_iff_ne, beq_eq_false_iff_ne, bne_eq_false_iff_eq, Bool.not_eq_true', Bool.not_eq_false', Bool.not_eq_true, ne_eq, Decidable.not_not] at g33
   refine OL.off rfl rfl (OL.off rfl rfl (OL.dp rfl (OL.dp rfl (OL.nil (PW.k1 2 rfl (PW.ret ?_))))))
   change (Exit.ret = Exit.normal ∨ Exit.ret = Exit.ret) /\ ∃ v, resV _ _ = some v /\ _
   refine ⟨.inr rfl, _, rfl, congrArg Value.bool ?_, rfl⟩
   unfold mayZ
   rw [Bool.eq_iff_iff]
   simp only [Bool.or_eq_true, Bool.and_eq_true, decide_eq_true_eq, beq_iff_eq, Bool.false_eq_true, true_iff, false_iff]
   omega
  try simp only [decide_eq_true_eq, decide_eq_false_iff_not, beq_iff_eq, bne_iff_ne, beq_eq_false_iff_ne, bne_eq_false_iff_eq, Bool.not_eq_true', Bool.not_eq_false', Bool.not_eq_true, ne_eq, Decidable.not_not] at g33
  refine OL.det rfl (.pure rfl) (OL.det rfl (.pure rfl) (OL.dp rfl (OL.dp rfl (OL.nil (PW.k1 2 rfl (PW.ret ?_))))))
  change (Exit.ret = Exit.normal ∨ Exit.ret = Exit.ret) /\ ∃ v, resV _ _ = some v /\ _
  refine ⟨.inr rfl, _, rfl, congrArg Value.bool ?_, rfl⟩
  unfold mayZ
  rw [Bool.eq_iff_iff]
  simp only [Bool.or_eq_true, Bool.and_eq_true, decide_eq_true_eq, beq_iff_eq, Bool.false_eq_true, true_iff, false_iff]
  omega
 try simp only [decide_eq_true_eq, decide_eq_false_iff_not, beq_iff_eq, bne_iff_ne, beq_eq_false_iff_ne, bne_eq_false_iff_eq, Bool.not_eq_true', Bool.not_eq_false', Bool.not_eq_true, ne_eq, Decidable.not_not] at g12
 refine OL.off rfl rfl (OL.off rfl rfl (OL.det rfl (.pure rfl) (OL.dp rfl (OL.dp rfl (OL.det rfl (.pure rfl) (OL.det rfl (.pure rfl) ?_))))))
 refine OL.bool rfl (Yields.pure rfl) (fun g20 => ?_) (fun g20 => ?_)
 ·try simp only [decide_eq_true_eq, decide_eq_false_iff_not, beq_iff_eq, bne_iff_ne, beq_eq_false_iff_ne, bne_eq_false_iff_eq, Bool.not_eq_true', Bool.not_eq_false', Bool.not_eq_true, ne_eq, Decidable.not_not] at g20
  refine OL.det rfl (.pure rfl) (OL.det rfl (.pure rfl) (OL.det rfl (.pure rfl) (OL.dp rfl ?_)))
  refine OL.bool trivial (Yields.pure rfl) (fun g25 => ?_) (fun g25 => ?_)
  ·try simp only [decide_eq_true_eq, decide_eq_false_iff_not, beq_iff_eq, bne_iff_ne, beq_eq_false_iff_ne, bne_eq_false_iff_eq, Bool.not_eq_true', Bool.not_eq_false', Bool.not_eq_true, ne_eq, Decidable.not_not] at g25
   refine OL.off rfl rfl (OL.off rfl rfl (OL.dp rfl (OL.dp rfl (OL.off rfl rfl (OL.off rfl rfl (OL.dp rfl (OL.dp rfl (OL.off rfl rfl (OL.off rfl rfl (OL.dp rfl (OL.dp rfl ?_)))))))))))
   refine OL.nil (PW.k1 2 rfl (PW.ret ?_))
   change (Exit.ret = Exit.normal ∨ Exit.ret = Exit.ret) /\ ∃ v, resV _ _ = some v /\ _
   refine ⟨.inr rfl, _, rfl, congrArg Value.bool ?_, rfl⟩
   unfold mayZ
   rw [Bool.eq_iff_iff]
   simp only [Bool.or_eq_true, Bool.and_eq_true, decide_eq_true_eq, beq_iff_eq, Bool.false_eq_true, true_iff, false_iff]
   omega
  try simp only [decide_eq_true_eq, decide_eq_false_iff_not, beq_iff_eq, bne_iff_ne, beq_eq_false_iff_ne, bne_eq_false_iff_eq, Bool.not_eq_true', Bool.not_eq_false', Bool.not_eq_true, ne_eq, Decidable.not_not] at g25
  refine OL.det rfl (.pure rfl) (OL.det rfl (.pure rfl) (OL.dp rfl ?_))
  refine OL.bool trivial (Yields.pure rfl) (fun g29 => ?_) (fun g29 => ?_)
  ·try simp only [decide_eq_true_eq, decide_eq_false_iff_not, beq_iff_eq, bne_iff_ne, beq_eq_false_iff_ne, bne_eq_false_iff_eq, Bool.not_eq_true', Bool.not_eq_false', Bool.not_eq_true, ne_eq, Decidable.not_not] at g29
   refine OL.off rfl rfl (OL.off rfl rfl (OL.dp rfl (OL.dp rfl (OL.off rfl rfl (OL.off rfl rfl (OL.dp rfl (OL.dp rfl (OL.nil (PW.k1 2 rfl (PW.ret ?_))))))))))
   change (Exit.ret = Exit.normal ∨ Exit.ret = Exit.ret) /\ ∃ v, resV _ _ = some v /\ _
   refine ⟨.inr rfl, _, rfl, congrArg Value.bool ?_, rfl⟩
   unfold mayZ
   rw [Bool.eq_iff_iff]
   simp only [Bool.or_eq_true, Bool.and_eq_true, decide_eq_true_eq, beq_iff_eq, Bool.false_eq_true, true_iff, false_iff]
   omega
  try simp only [decide_eq_true_eq, decide_eq_false_iff_not, beq_iff_eq, bne_iff_ne, beq_eq_false_iff_ne, bne_eq_false_iff_eq, Bool.not_eq_true', Bool.not_eq_false', Bool.not_eq_true, ne_eq, Decidable.not_not] at g29
  refine OL.det rfl (.pure rfl) (OL.det rfl (.pure rfl) (OL.dp rfl ?_))
  refine OL.bool trivial (Yields.pure rfl) (fun g33 => ?_) (fun g33 => ?_)
  ·try simp only [decide_eq_true_eq, decide_eq_false_iff_not, beq_iff_eq, bne_iff_ne, beq_eq_false_iff_ne, bne_eq_false_iff_eq, Bool.not_eq_true', Bool.not_eq_false', Bool.not_eq_true, ne_eq, Decidable.not_not] at g33
   refine OL.off rfl rfl (OL.off rfl rfl (OL.dp rfl (OL.dp rfl (OL.nil (PW.k1 2 rfl (PW.ret ?_))))))
   change (Exit.ret = Exit.normal ∨ Exit.ret = Exit.ret) /\ ∃ v, resV _ _ = some v /\ _
   refine ⟨.inr rfl, _, rfl, congrArg Value.bool ?_, rfl⟩
   unfold mayZ
   rw [Bool.eq_iff_iff]
   simp only [Bool.or_eq_true, Bool.and_eq_true, decide_eq_true_eq, beq_iff_eq, Bool.false_eq_true, true_iff, false_iff]
   omega
  try simp only [decide_eq_true_eq, decide_eq_false_iff_not, beq_iff_eq, bne_iff_ne, beq_eq_false_iff_ne, bne_eq_false_iff_eq, Bool.not_eq_true', Bool.not_eq_false', Bool.not_eq_true, ne_eq, Decidable.not_not] at g33
  refine OL.det rfl (.pure rfl) (OL.det rfl (.pure rfl) (OL.dp rfl (OL.dp rfl (OL.nil (PW.k1 2 rfl (PW.ret ?_))))))
  change (Exit.ret = Exit.normal ∨ Exit.ret = Exit.ret) /\ ∃ v, resV _ _ = some v /\ _
  refine ⟨.inr rfl, _, rfl, congrArg Value.bool ?_, rfl⟩
  unfold mayZ
  rw [Bool.eq_iff_iff]
  simp only [Bool.or_eq_true, Bool.and_eq_true, decide_eq_true_eq, beq_iff_eq, Bool.false_eq_true, true_iff, false_iff]
  omega
 try simp only [decide_eq_true_eq, decide_eq_false_iff_not, beq_iff_eq, bne_iff_ne, beq_eq_false_iff_ne, bne_eq_false_iff_eq, Bool.not_eq_true', Bool.not_eq_false', Bool.not_eq_true, ne_eq, Decidable.not_not] at g20
 refine OL.off rfl rfl (OL.off rfl rfl (OL.det rfl (.pure rfl) (OL.dp rfl (OL.dp rfl (OL.det rfl (.pure rfl) (OL.det rfl (.pure rfl) (OL.dp rfl ?_)))))))
 refine OL.bool trivial (Yields.pure rfl) (fun g29 => ?_) (fun g29 => ?_)
 ·try simp only [decide_eq_true_eq, decide_eq_false_iff_not, beq_iff_eq, bne_iff_ne, beq_eq_false_iff_ne, bne_eq_false_iff_eq, Bool.not_eq_true', Bool.not_eq_false', Bool.not_eq_true, ne_eq, Decidable.not_not] at g29
  refine OL.off rfl rfl (OL.off rfl rfl (OL.dp rfl (OL.dp rfl (OL.off rfl rfl (OL.off rfl rfl (OL.dp rfl (OL.dp rfl (OL.nil (PW.k1 2 rfl (PW.ret ?_))))))))))
  change (Exit.ret = Exit.normal ∨ Exit.ret = Exit.ret) /\ ∃ v, resV _ _ = some v /\ _
  refine ⟨.inr rfl, _, rfl, congrArg Value.bool ?_, rfl⟩
  unfold mayZ
  rw [Bool.eq_iff_iff]
  simp only [Bool.or_eq_true, Bool.and_eq_true, decide_eq_true_eq, beq_iff_eq, Bool.false_eq_true, true_iff, false_iff]
  omega
 try simp only [decide_eq_true_eq, decide_eq_false_iff_not, beq_iff_eq, bne_iff_ne, beq_eq_false_iff_ne, bne_eq_false_iff_eq, Bool.not_eq_true', Bool.not_eq_false', Bool.not_eq_true, ne_eq, Decidable.not_not] at g29
 refine OL.det rfl (.pure rfl) (OL.det rfl (.pure rfl) (OL.dp rfl ?_))
 refine OL.bool trivial (Yields.pure rfl) (fun g33 => ?_) (fun g33 => ?_)
 ·try simp only [decide_eq_true_eq, decide_eq_false_iff_not, beq_iff_eq, bne_iff_ne, beq_eq_false_iff_ne, bne_eq_false_iff_eq, Bool.not_eq_true', Bool.not_eq_false', Bool.not_eq_true, ne_eq, Decidable.not_not] at g33
  refine OL.off rfl rfl (OL.off rfl rfl (OL.dp rfl (OL.dp rfl (OL.nil (PW.k1 2 rfl (PW.ret ?_))))))
  change (Exit.ret = Exit.normal ∨ Exit.ret = Exit.ret) /\ ∃ v, resV _ _ = some v /\ _
  refine ⟨.inr rfl, _, rfl, congrArg Value.bool ?_, rfl⟩
  unfold mayZ
  rw [Bool.eq_iff_iff]
  simp only [Bool.or_eq_true, Bool.and_eq_true, decide_eq_true_eq, beq_iff_eq, Bool.false_eq_true, true_iff, false_iff]
  omega
 try simp only [decide_eq_true_eq, decide_eq_false_iff_not, beq_iff_eq, bne_iff_ne, beq_eq_false_iff_ne, bne_eq_false_iff_eq, Bool.not_eq_true', Bool.not_eq_false', Bool.not_eq_true, ne_eq, Decidable.not_not] at g33
 refine OL.det rfl (.pure rfl) (OL.det rfl (.pure rfl) (OL.dp rfl (OL.dp rfl (OL.nil (PW.k1 2 rfl (PW.ret ?_))))))
 change (Exit.ret = Exit.normal ∨ Exit.ret = Exit.ret) /\ ∃ v, resV _ _ = some v /\ _
 refine ⟨.inr rfl, _, rfl, congrArg Value.bool ?_, rfl⟩
 unfold mayZ
 rw [Bool.eq_iff_iff]
 simp only [Bool.or_eq_true, Bool.and_eq_true, decide_eq_true_eq, beq_iff_eq, Bool.false_eq_true, true_iff, false_iff]
 omega
theorem rmay_fc {w0 : World} {S : SS} {z : Int} : FC Tryz.prog w0 99 [.int .u8 z] S (fun v S' => v = .bool (mayZ z) /\ S' = S) := by
 refine FC.of Tryz.known99 (by simp) ?_
 unfold Tryz.pc99
 simp only [argT]
 refine PW.seqOps (OL.dp rfl (OL.nil (PW.k1 0 rfl (PW.seqOps (OL.dp rfl (OL.dp rfl ?_))))))
 refine OL.bool trivial (Yields.pure rfl) (fun g5 => ?_) (fun g5 => ?_)
 ·try simp only [decide_eq_true_eq, decide_eq_false_iff_not, beq_iff_eq, bne_iff_ne, beq_eq_false_iff_ne, bne_eq_false_iff_eq, Bool.not_eq_true', Bool.not_eq_false', Bool.not_eq_true, ne_eq, Decidable.not_not] at g5
  refine OL.det rfl (.pure rfl) (OL.det rfl (.pure rfl) (OL.dp rfl ?_))
  refine OL.bool trivial (Yields.pure rfl) (fun g9 => ?_) (fun g9 => ?_)
  ·try simp only [decide_eq_true_eq, decide_eq_false_iff_not, beq_iff_eq, bne_iff_ne, beq_eq_false_iff_ne, bne_eq_false_iff_eq, Bool.not_eq_true', Bool.not_eq_false', Bool.not_eq_true, ne_eq, Decidable.not_not] at g9
   refine OL.off rfl rfl (OL.off rfl rfl (OL.off rfl rfl (OL.off rfl rfl (OL.off rfl rfl (OL.off rfl rfl (OL.dp rfl (OL.dp rfl (OL.off rfl rfl (OL.off rfl rfl (OL.off rfl rfl (OL.off rfl rfl ?_)))))))))))
   refine OL.off rfl rfl (OL.off rfl rfl (OL.dp rfl (OL.dp rfl (OL.off rfl rfl (OL.off rfl rfl (OL.dp rfl (OL.dp rfl (OL.off rfl rfl (OL.off rfl rfl (OL.dp rfl (OL.dp rfl ?_)))))))))))
   refine OL.off rfl rfl (OL.off rfl rfl (OL.dp rfl (OL.dp rfl (OL.nil (PW.k1 2 rfl (PW.ret ?_))))))
   change (Exit.ret = Exit.normal ∨ Exit.ret = Exit.ret) /\ ∃ v, resV _ _ = some v /\ _
   refine ⟨.inr rfl, _, rfl, congrArg Value.bool ?_, rfl⟩
   unfold mayZ
   rw [Bool.eq_iff_iff]
   simp only [Bool.or_eq_true, Bool.and_eq_true, decide_eq_true_eq, beq_iff_eq, Bool.false_eq_true, true_iff, false_iff]
   omega
  try simp only [decide_eq_true_eq, decide_eq_false_iff_not, beq_iff_eq, bne_iff_ne, beq_eq_false_iff_ne, bne_eq_false_iff_eq, Bool.not_eq_true', Bool.not_eq_false', Bool.not_eq_true, ne_eq, Decidable.not_not] at g9
  refine OL.det rfl (.pure rfl) (OL.det rfl (.pure rfl) ?_)
  refine OL.bool rfl (Yields.pure rfl) (fun g12 => ?_) (fun g12 => ?_)
  ·try simp only [decide_eq_true_eq, decide_eq_false_iff_not, beq_iff_eq, bne_iff_ne, beq_eq_false_iff_ne, bne_eq_false_iff_eq, Bool.not_eq_true', Bool.not_eq_false', Bool.not_eq_true, ne_eq, Decidable.not_not] at g12
   refine OL.det rfl (.pure rfl) (OL.det rfl (.pure rfl) (OL.det rfl (.pure rfl) (OL.dp rfl ?_)))
   refine OL.bool trivial (Yields.pure rfl) (fun g17 => ?_) (fun g17 => ?_)
   ·try simp only [decide_eq_true_eq, decide_eq_false_iff_not, beq_iff_eq, bne_iff_ne, beq_eq_false_iff_ne, bne_eq_false_iff_eq, Bool.not_eq_true', Bool.not_eq_false', Bool.not_eq_true, ne_eq, Decidable.not_not] at g17
    refine OL.off rfl rfl (OL.off rfl rfl (OL.off rfl rfl (OL.off rfl rfl (OL.off rfl rfl (OL.off rfl rfl (OL.dp rfl (OL.dp rfl (OL.off rfl rfl (OL.off rfl rfl (OL.dp rfl (OL.dp rfl ?_)))))))))))
    refine OL.off rfl rfl (OL.off rfl rfl (OL.dp rfl (OL.dp rfl (OL.off rfl rfl (OL.off rfl rfl (OL.dp rfl (OL.dp rfl (OL.nil (PW.k1 2 rfl (PW.ret ?_))))))))))
    change (Exit.ret = Exit.normal ∨ Exit.ret = Exit.ret) /\ ∃ v, resV _ _ = some v /\ _
    refine ⟨.inr rfl, _, rfl, congrArg Value.bool ?_, rfl⟩
    unfold mayZ
    rw [Bool.eq_iff_iff]
    simp only [Bool.or_eq_true, Bool.and_eq_true, decide_eq_true_eq, beq_iff_eq, Bool.false_eq_true, true_iff, false_iff]
    omega
   try simp only [decide_eq_true_eq, decide_eq_false_iff_not, beq_iff_eq, bne_iff_ne, beq_eq_false_iff_ne, bne_eq_false_iff_eq, Bool.not_eq_true', Bool.not_eq_false', Bool.not_eq_true, ne_eq, Decidable.not_not] at g17
   refine OL.det rfl (.pure rfl) (OL.det rfl (.pure rfl) ?_)
   refine OL.bool rfl (Yields.pure rfl) (fun g20 => ?_) (fun g20 => ?_)
   ·try simp only [decide_eq_true_eq, decide_eq_false_iff_not, beq_iff_eq, bne_iff_ne, beq_eq_false_iff_ne, bne_eq_false_iff_eq, Bool.not_eq_true', Bool.not_eq_false', Bool.not_eq_true, ne_eq, Decidable.not_not] at g20
    refine OL.det rfl (.pure rfl) (OL.det rfl (.pure rfl) (OL.det rfl (.pure rfl) (OL.dp rfl ?_)))
    refine OL.bool trivial (Yields.pure rfl) (fun g25 => ?_) (fun g25 => ?_)
    ·try simp only [decide_eq_true_eq, decide_eq_false_iff_not, beq_iff_eq, bne_iff_ne, beq_eq_false_iff_ne, bne_eq_false_iff_eq, Bool.not_eq_true', Bool.not_eq_false', Bool.not_eq_true, ne_eq, Decidable.not_not] at g25
     refine OL.off rfl rfl (OL.off rfl rfl (OL.dp rfl (OL.dp rfl (OL.off rfl rfl (OL.off rfl rfl (OL.dp rfl (OL.dp rfl (OL.off rfl rfl (OL.off rfl rfl (OL.dp rfl (OL.dp rfl ?_)))))))))))
     refine OL.nil (PW.k1 2 rfl (PW.ret ?_))
     change (Exit.ret = Exit.normal ∨ Exit.ret = Exit.ret) /\ ∃ v, resV _ _ = some v /\ _
     refine ⟨.inr rfl, _, rfl, congrArg Value.bool ?_, rfl⟩
     unfold mayZ
     rw [Bool.eq_iff_iff]
     simp only [Bool.or_eq_true, Bool.and_eq_true, decide_eq_true_eq, beq_iff_eq, Bool.false_eq_true, true_iff, false_iff]
     omega
    try simp only [decide_eq_true_eq, decide_eq_false_iff_not, beq_iff_eq, bne_iff_ne, beq_eq_false_iff_ne, bne_eq_false_iff_eq, Bool.not_eq_true', Bool.not_eq_false', Bool.not_eq_true, ne_eq, Decidable.not_not] at g25
    refine OL.det rfl (.pure rfl) (OL.det rfl (.pure rfl) (OL.dp rfl ?_))
    refine OL.bool trivial (Yields.pure rfl) (fun g29 => ?_) (fun g29 => ?_)
    ·try simp only [decide_eq_true_eq, decide_eq_false_iff_not, beq_iff_eq, bne_iff_ne, beq_eq_false_iff_ne, bne_eq_false_iff_eq, Bool.not_eq_true', Bool.not_eq_false', Bool.not_eq_true, ne_eq, Decidable.not_not] at g29
     refine OL.off rfl rfl (OL.off rfl rfl (OL.dp rfl (OL.dp rfl (OL.off rfl rfl (OL.off rfl rfl (OL.dp rfl (OL.dp rfl (OL.nil (PW.k1 2 rfl (PW.ret ?_))))))))))
     change (Exit.ret = Exit.normal ∨ Exit.ret = Exit.ret) /\ ∃ v, resV _ _ = some v /\ _
     refine ⟨.inr rfl, _, rfl, congrArg Value.bool ?_, rfl⟩
     unfold mayZ
     rw [Bool.eq_iff_iff]
     simp only [Bool.or_eq_true, Bool.and_eq_true, decide_eq_true_eq, beq_iff_eq, Bool.false_eq_true, true_iff, false_iff]
     omega
    try simp only [decide_eq_true_eq, decide_eq_false_iff_not, beq_iff_eq, bne_iff_ne, beq_eq_false_iff_ne, bne_eq_false_iff_eq, Bool.not_eq_true', Bool.not_eq_false', Bool.not_eq_true, ne_eq, Decidable.not_not] at g29
    refine OL.det rfl (.pure rfl) (OL.det rfl (.pure rfl) (OL.dp rfl ?_))
    refine OL.bool trivial (Yields.pure rfl) (fun g33 => ?_) (fun g33 => ?_)
    ·try simp only [decide_eq_true_eq, decide_eq_false_iff_not, beq_iff_eq, bne_iff_ne, beq_eq_false_iff_ne, bne_eq_false_iff_eq, Bool.not_eq_true', Bool.not_eq_false', Bool.not_eq_true, ne_eq, Decidable.not_not] at g33
     refine OL.off rfl rfl (OL.off rfl rfl (OL.dp rfl (OL.dp rfl (OL.nil (PW.k1 2 rfl (PW.ret ?_))))))
     change (Exit.ret = Exit.normal ∨ Exit.ret = Exit.ret) /\ ∃ v, resV _ _ = some v /\ _
     refine ⟨.inr rfl, _, rfl, congrArg Value.bool ?_, rfl⟩
     unfold mayZ
     rw [Bool.eq_iff_iff]
     simp only [Bool.or_eq_true, Bool.and_eq_true, decide_eq_true_eq, beq_iff_eq, Bool.false_eq_true, true_iff, false_iff]
     omega
    try simp only [decide_eq_true_eq, decide_eq_false_iff_not, beq_iff_eq, bne_iff_ne, beq_eq_false_iff_ne, bne_eq_false_iff_eq, Bool.not_eq_true', Bool.not_eq_false', Bool.not_eq_true, ne_eq, Decidable.not_not] at g33
    refine OL.det rfl (.pure rfl) (OL.det rfl (.pure rfl) (OL.dp rfl (OL.dp rfl (OL.nil (PW.k1 2 rfl (PW.ret ?_))))))
    change (Exit.ret = Exit.normal ∨ Exit.ret = Exit.ret) /\ ∃ v, resV _ _ = some v /\ _
    refine ⟨.inr rfl, _, rfl, congrArg Value.bool ?_, rfl⟩
    unfold mayZ
    rw [Bool.eq_iff_iff]
    simp only [Bool.or_eq_true, Bool.and_eq_true, decide_eq_true_eq, beq_iff_eq, Bool.false_eq_true, true_iff, false_iff]
    omega
   try simp only [decide_eq_true_eq, decide_eq_false_iff_not, beq_iff_eq, bne_iff_ne, beq_eq_false_iff_ne, bne_eq_false_iff_eq, Bool.not_eq_true', Bool.not_eq_false', Bool.not_eq_true, ne_eq, Decidable.not_not] at g20
   refine OL.off rfl rfl (OL.off rfl rfl (OL.det rfl (.pure rfl) (OL.dp rfl (OL.dp rfl (OL.det rfl (.pure rfl) (OL.det rfl (.pure rfl) (OL.dp rfl ?_)))))))
   refine OL.bool trivial (Yields.pure rfl) (fun g29 => ?_) (fun g29 => ?_)
   ·try simp only [decide_eq_true_eq, decide_eq_false_iff_not, beq_iff_eq, bne_iff_ne, beq_eq_false_iff_ne, bne_eq_false_iff_eq, Bool.not_eq_true', Bool.not_eq_false', Bool.not_eq_true, ne_eq, Decidable.not_not] at g29
    refine OL.off rfl rfl (OL.off rfl rfl (OL.dp rfl (OL.dp rfl (OL.off rfl rfl (OL.off rfl rfl (OL.dp rfl (OL.dp rfl (OL.nil (PW.k1 2 rfl (PW.ret ?_))))))))))
    change (Exit.ret = Exit.normal ∨ Exit.ret = Exit.ret) /\ ∃ v, resV _ _ = some v /\ _
    refine ⟨.inr rfl, _, rfl, congrArg Value.bool ?_, rfl⟩
    unfold mayZ
    rw [Bool.eq_iff_iff]
    simp only [Bool.or_eq_true, Bool.and_eq_true, decide_eq_true_eq, beq_iff_eq, Bool.false_eq_true, true_iff, false_iff]
    omega
   try simp only [decide_eq_true_eq, decide_eq_false_iff_not, beq_iff_eq, bne_iff_ne, beq_eq_false_iff_ne, bne_eq_false_iff_eq, Bool.not_eq_true', Bool.not_eq_false', Bool.not_eq_true, ne_eq, Decidable.not_not] at g29
   refine OL.det rfl (.pure rfl) (OL.det rfl (.pure rfl) (OL.dp rfl ?_))
   refine OL.bool trivial (Yields.pure rfl) (fun g33 => ?_) (fun g33 => ?_)
   ·try simp only [decide_eq_true_eq, decide_eq_false_iff_not, beq_iff_eq, bne_iff_ne, beq_eq_false_iff_ne, bne_eq_false_iff_eq, Bool.not_eq_true', Bool.not_eq_false', Bool.not_eq_true, ne_eq, Decidable.not_not] at g33
    refine OL.off rfl rfl (OL.off rfl rfl (OL.dp rfl (OL.dp rfl (OL.nil (PW.k1 2 rfl (PW.ret ?_))))))
    change (Exit.ret = Exit.normal ∨ Exit.ret = Exit.ret) /\ ∃ v, resV _ _ = some v /\ _
    refine ⟨.inr rfl, _, rfl, congrArg Value.bool ?_, rfl⟩
    unfold mayZ
    rw [Bool.eq_iff_iff]
    simp only [Bool.or_eq_true, Bool.and_eq_true, decide_eq_true_eq, beq_iff_eq, Bool.false_eq_true, true_iff, false_iff]
    omega
   try simp only [decide_eq_true_eq, decide_eq_false_iff_not, beq_iff_eq, bne_iff_ne, beq_eq_false_iff_ne, bne_eq_false_iff_eq, Bool.not_eq_true', Bool.not_eq_false', Bool.not_eq_true, ne_eq, Decidable.not_not] at g33
   refine OL.det rfl (.pure rfl) (OL.det rfl (.pure rfl) (OL.dp rfl (OL.dp rfl (OL.nil (PW.k1 2 rfl (PW.ret ?_))))))
   change (Exit.ret = Exit.normal ∨ Exit.ret = Exit.ret) /\ ∃ v, resV _ _ = some v /\ _
   refine ⟨.inr rfl, _, rfl, congrArg Value.bool ?_, rfl⟩
   unfold mayZ
   rw [Bool.eq_iff_iff]
   simp only [Bool.or_eq_true, Bool.and_eq_true, decide_eq_true_eq, beq_iff_eq, Bool.false_eq_true, true_iff, false_iff]
   omega
  try simp only [decide_eq_true_eq, decide_eq_false_iff_not, beq_iff_eq, bne_iff_ne, beq_eq_false_iff_ne, bne_eq_false_iff_eq, Bool.not_eq_true', Bool.not_eq_false', Bool.not_eq_true, ne_eq, Decidable.not_not] at g12
  refine OL.off rfl rfl (OL.off rfl rfl (OL.det rfl (.pure rfl) (OL.dp rfl (OL.dp rfl (OL.det rfl (.pure rfl) (OL.det rfl (.pure rfl) ?_))))))
  refine OL.bool rfl (Yields.pure rfl) (fun g20 => ?_) (fun g20 => ?_)
  ·try simp only [decide_eq_true_eq, decide_eq_false_iff_not, beq_iff_eq, bne_iff_ne, beq_eq_false_iff_ne, bne_eq_false_iff_eq, Bool.not_eq_true', Bool.not_eq_false', Bool.not_eq_true, ne_eq, Decidable.not_not] at g20
   refine OL.det rfl (.pure rfl) (OL.det rfl (.pure rfl) (OL.det rfl (.pure rfl) (OL.dp rfl ?_)))
   refine OL.bool trivial (Yields.pure rfl) (fun g25 => ?_) (fun g25 => ?_)
   ·try simp only [decide_eq_true_eq, decide_eq_false_iff_not, beq_iff_eq, bne_iff_ne, beq_eq_false_iff_ne, bne_eq_false_iff_eq, Bool.not_eq_true', Bool.not_eq_false', Bool.not_eq_true, ne_eq, Decidable.not_not] at g25
    refine OL.off rfl rfl (OL.off rfl rfl (OL.dp rfl (OL.dp rfl (OL.off rfl rfl (OL.off rfl rfl (OL.dp rfl (OL.dp rfl (OL.off rfl rfl (OL.off rfl rfl (OL.dp rfl (OL.dp rfl ?_)))))))))))
    refine OL.nil (PW.k1 2 rfl (PW.ret ?_))
    change (Exit.ret = Exit.normal ∨ Exit.ret = Exit.ret) /\ ∃ v, resV _ _ = some v /\ _
    refine ⟨.inr rfl, _, rfl, congrArg Value.bool ?_, rfl⟩
    unfold mayZ
    rw [Bool.eq_iff_iff]
    simp only [Bool.or_eq_true, Bool.and_eq_true, decide_eq_true_eq, beq_iff_eq, Bool.false_eq_true, true_iff, false_iff]
    omega
   try simp only [decide_eq_true_eq, decide_eq_false_iff_not, beq_iff_eq, bne_iff_ne, beq_eq_false_iff_ne, bne_eq_false_iff_eq, Bool.not_eq_true', Bool.not_eq_false', Bool.not_eq_true, ne_eq, Decidable.not_not] at g25
   refine OL.det rfl (.pure rfl) (OL.det rfl (.pure rfl) (OL.dp rfl ?_))
   refine OL.bool trivial (Yields.pure rfl) (fun g29 => ?_) (fun g29 => ?_)
   ·try simp only [decide_eq_true_eq, decide_eq_false_iff_not, beq_iff_eq, bne_iff_ne, beq_eq_false_iff_ne, bne_eq_false_iff_eq, Bool.not_eq_true', Bool.not_eq_false', Bool.not_eq_true, ne_eq, Decidable.not_not] at g29
    refine OL.off rfl rfl (OL.off rfl rfl (OL.dp rfl (OL.dp rfl (OL.off rfl rfl (OL.off rfl rfl (OL.dp rfl (OL.dp rfl (OL.nil (PW.k1 2 rfl (PW.ret ?_))))))))))
    change (Exit.ret = Exit.normal ∨ Exit.ret = Exit.ret) /\ ∃ v, resV _ _ = some v /\ _
    refine ⟨.inr rfl, _, rfl, congrArg Value.bool ?_, rfl⟩
    unfold mayZ
    rw [Bool.eq_iff_iff]
    simp only [Bool.or_eq_true, Bool.and_eq_true, decide_eq_true_eq, beq_iff_eq, Bool.false_eq_true, true_iff, false_iff]
    omega
   try simp only [decide_eq_true_eq, decide_eq_false_iff_not, beq_iff_eq, bne_iff_ne, beq_eq_false_iff_ne, bne_eq_false_iff_eq, Bool.not_eq_true', Bool.not_eq_false', Bool.not_eq_true, ne_eq, Decidable.not_not] at g29
   refine OL.det rfl (.pure rfl) (OL.det rfl (.pure rfl) (OL.dp rfl ?_))
   refine OL.bool trivial (Yields.pure rfl) (fun g33 => ?_) (fun g33 => ?_)
   ·try simp only [decide_eq_true_eq, decide_eq_false_iff_not, beq_iff_eq, bne_iff_ne, beq_eq_false_iff_ne, bne_eq_false_iff_eq, Bool.not_eq_true', Bool.not_eq_false', Bool.not_eq_true, ne_eq, Decidable.not_not] at g33
    refine OL.off rfl rfl (OL.off rfl rfl (OL.dp rfl (OL.dp rfl (OL.nil (PW.k1 2 rfl (PW.ret ?_))))))
    change (Exit.ret = Exit.normal ∨ Exit.ret = Exit.ret) /\ ∃ v, resV _ _ = some v /\ _
    refine ⟨.inr rfl, _, rfl, congrArg Value.bool ?_, rfl⟩
    unfold mayZ
    rw [Bool.eq_iff_iff]
    simp only [Bool.or_eq_true, Bool.and_eq_true, decide_eq_true_eq, beq_iff_eq, Bool.false_eq_true, true_iff, false_iff]
    omega
   try simp only [decide_eq_true_eq, decide_eq_false_iff_not, beq_iff_eq, bne_iff_ne, beq_eq_false_iff_ne, bne_eq_false_iff_eq, Bool.not_eq_true', Bool.not_eq_false', Bool.not_eq_true, ne_eq, Decidable.not_not] at g33
   refine OL.det rfl (.pure rfl) (OL.det rfl (.pure rfl) (OL.dp rfl (OL.dp rfl (OL.nil (PW.k1 2 rfl (PW.ret ?_))))))
   change (Exit.ret = Exit.normal ∨ Exit.ret = Exit.ret) /\ ∃ v, resV _ _ = some v /\ _
   refine ⟨.inr rfl, _, rfl, congrArg Value.bool ?_, rfl⟩
   unfold mayZ
   rw [Bool.eq_iff_iff]
   simp only [Bool.or_eq_true, Bool.and_eq_true, decide_eq_true_eq, beq_iff_eq, Bool.false_eq_true, true_iff, false_iff]
   omega
  try simp only [decide_eq_true_eq, decide_eq_false_iff_not, beq_iff_eq, bne_iff_ne, beq_eq_false_iff_ne, bne_eq_false_iff_eq, Bool.not_eq_true', Bool.not_eq_false', Bool.not_eq_true, ne_eq, Decidable.not_not] at g20
  refine OL.off rfl rfl (OL.off rfl rfl (OL.det rfl (.pure rfl) (OL.dp rfl (OL.dp rfl (OL.det rfl (.pure rfl) (OL.det rfl (.pure rfl) (OL.dp rfl ?_)))))))
  refine OL.bool trivial (Yields.pure rfl) (fun g29 => ?_) (fun g29 => ?_)
  ·try simp only [decide_eq_true_eq, decide_eq_false_iff_not, beq_iff_eq, bne_iff_ne, beq_eq_false_iff_ne, bne_eq_false_iff_eq, Bool.not_eq_true', Bool.not_eq_false', Bool.not_eq_true, ne_eq, Decidable.not_not] at g29
   refine OL.off rfl rfl (OL.off rfl rfl (OL.dp rfl (OL.dp rfl (OL.off rfl rfl (OL.off rfl rfl (OL.dp rfl (OL.dp rfl (OL.nil (PW.k1 2 rfl (PW.ret ?_))))))))))
   change (Exit.ret = Exit.normal ∨ Exit.ret = Exit.ret) /\ ∃ v, resV _ _ = some v /\ _
   refine ⟨.inr rfl, _, rfl, congrArg Value.bool ?_, rfl⟩
   unfold mayZ
   rw [Bool.eq_iff_iff]
   simp only [Bool.or_eq_true, Bool.and_eq_true, decide_eq_true_eq, beq_iff_eq, Bool.false_eq_true, true_iff, false_iff]
   omega
  try simp only [decide_eq_true_eq, decide_eq_false_iff_not, beq_iff_eq, bne_iff_ne, beq_eq_false_iff_ne, bne_eq_false_iff_eq, Bool.not_eq_true', Bool.not_eq_false', Bool.not_eq_true, ne_eq, Decidable.not_not] at g29
  refine OL.det rfl (.pure rfl) (OL.det rfl (.pure rfl) (OL.dp rfl ?_))
  refine OL.bool trivial (Yields.pure rfl) (fun g33 => ?_) (fun g33 => ?_)
  ·try simp only [decide_eq_true_eq, decide_eq_false_iff_not, beq_iff_eq, bne_iff_ne, beq_eq_false_iff_ne, bne_eq_false_iff_eq, Bool.not_eq_true', Bool.not_eq_false', Bool.not_eq_true, ne_eq, Decidable.not_not] at g33
   refine OL.off rfl rfl (OL.off rfl rfl (OL.dp rfl (OL.dp rfl (OL.nil (PW.k1 2 rfl (PW.ret ?_))))))
   change (Exit.ret = Exit.normal ∨ Exit.ret = Exit.ret) /\ ∃ v, resV _ _ = some v /\ _
   refine ⟨.inr rfl, _, rfl, congrArg Value.bool ?_, rfl⟩
   unfold mayZ
   rw [Bool.eq_iff_iff]
   simp only [Bool.or_eq_true, Bool.and_eq_true, decide_eq_true_eq, beq_iff_eq, Bool.false_eq_true, true_iff, false_iff]
   omega
  try simp only [decide_eq_true_eq, decide_eq_false_iff_not, beq_iff_eq, bne_iff_ne, beq_eq_false_iff_ne, bne_eq_false_iff_eq, Bool.not_eq_true', Bool.not_eq_false', Bool.not_eq_true, ne_eq, Decidable.not_not] at g33
  refine OL.det rfl (.pure rfl) (OL.det rfl (.pure rfl) (OL.dp rfl (OL.dp rfl (OL.nil (PW.k1 2 rfl (PW.ret ?_))))))
  change (Exit.ret = Exit.normal ∨ Exit.ret = Exit.ret) /\ ∃ v, resV _ _ = some v /\ _
  refine ⟨.inr rfl, _, rfl, congrArg Value.bool ?_, rfl⟩
  unfold mayZ
  rw [Bool.eq_iff_iff]
  simp only [Bool.or_eq_true, Bool.and_eq_true, decide_eq_true_eq, beq_iff_eq, Bool.false_eq_true, true_iff, false_iff]
  omega
 try simp only [decide_eq_true_eq, decide_eq_false_iff_not, beq_iff_eq, bne_iff_ne, beq_eq_false_iff_ne, bne_eq_false_iff_eq, Bool.not_eq_true', Bool.not_eq_false', Bool.not_eq_true, ne_eq, Decidable.not_not] at g5
 refine OL.off rfl rfl (OL.off rfl rfl (OL.dp rfl (OL.dp rfl (OL.det rfl (.pure rfl) (OL.det rfl (.pure rfl) ?_)))))
 refine OL.bool rfl (Yields.pure rfl) (fun g12 => ?_) (fun g12 => ?_)
 ·try simp only [decide_eq_true_eq, decide_eq_false_iff_not, beq_iff_eq, bne_iff_ne, beq_eq_false_iff_ne, bne_eq_false_iff_eq, Bool.not_eq_true', Bool.not_eq_false', Bool.not_eq_true, ne_eq, Decidable.not_not] at g12
  refine OL.det rfl (.pure rfl) (OL.det rfl (.pure rfl) (OL.det rfl (.pure rfl) (OL.dp rfl ?_)))
  refine OL.bool trivial (Yields.pure rfl) (fun g17 => ?_) (fun g17 => ?_)
  ·try simp only [decide_eq_true_eq, decide_eq_false_iff_not, beq_iff_eq, bne_iff_ne, beq_eq_false_iff_ne, bne_eq_false_iff_eq, Bool.not_eq_true', Bool.not_eq_false', Bool.not_eq_true, ne_eq, Decidable.not_not] at g17
   refine OL.off rfl rfl (OL.off rfl rfl (OL.off rfl rfl (OL.off rfl rfl (OL.off rfl rfl (OL.off rfl rfl (OL.dp rfl (OL.dp rfl (OL.off rfl rfl (OL.off rfl rfl (OL.dp rfl (OL.dp rfl ?_)))))))))))
   refine OL.off rfl rfl (OL.off rfl rfl (OL.dp rfl (OL.dp rfl (OL.off rfl rfl (OL.off rfl rfl (OL.dp rfl (OL.dp rfl (OL.nil (PW.k1 2 rfl (PW.ret ?_))))))))))
   change (Exit.ret = Exit.normal ∨ Exit.ret = Exit.ret) /\ ∃ v, resV _ _ = some v /\ _
   refine ⟨.inr rfl, _, rfl, congrArg Value.bool ?_, rfl⟩
   unfold mayZ
   rw [Bool.eq_iff_iff]
   simp only [Bool.or_eq_true, Bool.and_eq_true, decide_eq_true_eq, beq_iff_eq, Bool.false_eq_true, true_iff, false_iff]
   omega
  try simp only [decide_eq_true_eq, decide_eq_false_iff_not, beq_iff_eq, bne_iff_ne, beq_eq_false_iff_ne, bne_eq_false_iff_eq, Bool.not_eq_true', Bool.not_eq_false', Bool.not_eq_true, ne_eq, Decidable.not_not] at g17
  refine OL.det rfl (.pure rfl) (OL.det rfl (.pure rfl) ?_)
  refine OL.bool rfl (Yields.pure rfl) (fun g20 => ?_) (fun g20 => ?_)
  ·try simp only [decide_eq_true_eq, decide_eq_false_iff_not, beq_iff_eq, bne_iff_ne, beq_eq_false_iff_ne, bne_eq_false_iff_eq, Bool.not_eq_true', Bool.not_eq_false', Bool.not_eq_true, ne_eq, Decidable.not_not] at g20
   refine OL.det rfl (.pure rfl) (OL.det rfl (.pure rfl) (OL.det rfl (.pure rfl) (OL.dp rfl ?_)))
   refine OL.bool trivial (Yields.pure rfl) (fun g25 => ?_) (fun g25 => ?_)
   ·try simp only [decide_eq_true_eq, decide_eq_false_iff_not, beq_iff_eq, bne_iff_ne, beq_eq_false_iff_ne, bne_eq_false_iff_eq, Bool.not_eq_true', Bool.not_eq_false', Bool.not_eq_true, ne_eq, Decidable.not_not] at g25
    refine OL.off rfl rfl (OL.off rfl rfl (OL.dp rfl (OL.dp rfl (OL.off rfl rfl (OL.off rfl rfl (OL.dp rfl (OL.dp rfl (OL.off rfl rfl (OL.off rfl rfl (OL.dp rfl (OL.dp rfl ?_)))))))))))
    refine OL.nil (PW.k1 2 rfl (PW.ret ?_))
    change (Exit.ret = Exit.normal ∨ Exit.ret = Exit.ret) /\ ∃ v, resV _ _ = some v /\ _
    refine ⟨.inr rfl, _, rfl, congrArg Value.bool ?_, rfl⟩
    unfold mayZ
    rw [Bool.eq_iff_iff]
    simp only [Bool.or_eq_true, Bool.and_eq_true, decide_eq_true_eq, beq_iff_eq, Bool.false_eq_true, true_iff, false_iff]
    omega
   try simp only [decide_eq_true_eq, decide_eq_false_iff_not, beq_iff_eq, bne_iff_ne, beq_eq_false_iff_ne, bne_eq_false_iff_eq, Bool.not_eq_true', Bool.not_eq_false', Bool.not_eq_true, ne_eq, Decidable.not_not] at g25
   refine OL.det rfl (.pure rfl) (OL.det rfl (.pure rfl) (OL.dp rfl ?_))
   refine OL.bool trivial (Yields.pure rfl) (fun g29 => ?_) (fun g29 => ?_)
   ·try simp only [decide_eq_true_eq, decide_eq_false_iff_not, beq_iff_eq, bne_iff_ne, beq_eq_false_iff_ne, bne_eq_false_iff_eq, Bool.not_eq_true', Bool.not_eq_false', Bool.not_eq_true, ne_eq, Decidable.not_not] at g29
    refine OL.off rfl rfl (OL.off rfl rfl (OL.dp rfl (OL.dp rfl (OL.off rfl rfl (OL.off rfl rfl (OL.dp rfl (OL.dp rfl (OL.nil (PW.k1 2 rfl (PW.ret ?_))))))))))
    change (Exit.ret = Exit.normal ∨ Exit.ret = Exit.ret) /\ ∃ v, resV _ _ = some v /\ _
    refine ⟨.inr rfl, _, rfl, congrArg Value.bool ?_, rfl⟩
    unfold mayZ
    rw [Bool.eq_iff_iff]
    simp only [Bool.or_eq_true, Bool.and_eq_true, decide_eq_true_eq, beq_iff_eq, Bool.false_eq_true, true_iff, false_iff]
    omega
   try simp only [decide_eq_true_eq, decide_eq_false_iff_not, beq_iff_eq, bne_iff_ne, beq_eq_false_iff_ne, bne_eq_false_iff_eq, Bool.not_eq_true', Bool.not_eq_false', Bool.not_eq_true, ne_eq, Decidable.not_not] at g29
   refine OL.det rfl (.pure rfl) (OL.det rfl (.pure rfl) (OL.dp rfl ?_))
   refine OL.bool trivial (Yields.pure rfl) (fun g33 => ?_) (fun g33 => ?_)
   ·try simp only [decide_eq_true_eq, decide_eq_false_iff_not, beq_iff_eq, bne_iff_ne, beq_eq_false_iff_ne, bne_eq_false_iff_eq, Bool.not_eq_true', Bool.not_eq_false', Bool.not_eq_true, ne_eq, Decidable.not_not] at g33
    refine OL.off rfl rfl (OL.off rfl rfl (OL.dp rfl (OL.dp rfl (OL.nil (PW.k1 2 rfl (PW.ret ?_))))))
    change (Exit.ret = Exit.normal ∨ Exit.ret = Exit.ret) /\ ∃ v, resV _ _ = some v /\ _
    refine ⟨.inr rfl, _, rfl, congrArg Value.bool ?_, rfl⟩
    unfold mayZ
    rw [Bool.eq_iff_iff]
    simp only [Bool.or_eq_true, Bool.and_eq_true, decide_eq_true_eq, beq_iff_eq, Bool.false_eq_true, true_iff, false_iff]
    omega
   try simp only [decide_eq_true_eq, decide_eq_false_iff_not, beq_iff_eq, bne_iff_ne, beq_eq_false_iff_ne, bne_eq_false_iff_eq, Bool.not_eq_true', Bool.not_eq_false', Bool.not_eq_true, ne_eq, Decidable.not_not] at g33
   refine OL.det rfl (.pure rfl) (OL.det rfl (.pure rfl) (OL.dp rfl (OL.dp rfl (OL.nil (PW.k1 2 rfl (PW.ret ?_))))))
   change (Exit.ret = Exit.normal ∨ Exit.ret = Exit.ret) /\ ∃ v, resV _ _ = some v /\ _
   refine ⟨.inr rfl, _, rfl, congrArg Value.bool ?_, rfl⟩
   unfold mayZ
   rw [Bool.eq_iff_iff]
   simp only [Bool.or_eq_true, Bool.and_eq_true, decide_eq_true_eq, beq_iff_eq, Bool.false_eq_true, true_iff, false_iff]
   omega
  try simp only [decide_eq_true_eq, decide_eq_false_iff_not, beq_iff_eq, bne_iff_ne, beq_eq_false_iff_ne, bne_eq_false_iff_eq, Bool.not_eq_true', Bool.not_eq_false', Bool.not_eq_true, ne_eq, Decidable.not_not] at g20
  refine OL.off rfl rfl (OL.off rfl rfl (OL.det rfl (.pure rfl) (OL.dp rfl (OL.dp rfl (OL.det rfl (.pure rfl) (OL.det rfl (.pure rfl) (OL.dp rfl ?_)))))))
  refine OL.bool trivial (Yields.pure rfl) (fun g29 => ?_) (fun g29 => ?_)
  ·try simp only [decide_eq_true_eq, decide_eq_false_iff_not, beq_iff_eq, bne_iff_ne, beq_eq_false_iff_ne, bne_eq_false_iff_eq, Bool.not_eq_true', Bool.not_eq_false', Bool.not_eq_true, ne_eq, Decidable.not_not] at g29
   refine OL.off rfl rfl (OL.off rfl rfl (OL.dp rfl (OL.dp rfl (OL.off rfl rfl (OL.off rfl rfl (OL.dp rfl (OL.dp rfl (OL.nil (PW.k1 2 rfl (PW.ret ?_))))))))))
   change (Exit.ret = Exit.normal ∨ Exit.ret = Exit.ret) /\ ∃ v, resV _ _ = some v /\ _
   refine ⟨.inr rfl, _, rfl, congrArg Value.bool ?_, rfl⟩
   unfold mayZ
   rw [Bool.eq_iff_iff]
   simp only [Bool.or_eq_true, Bool.and_eq_true, decide_eq_true_eq, beq_iff_eq, Bool.false_eq_true, true_iff, false_iff]
   omega
  try simp only [decide_eq_true_eq, decide_eq_false_iff_not, beq_iff_eq, bne_iff_ne, beq_eq_false_iff_ne, bne_eq_false_iff_eq, Bool.not_eq_true', Bool.not_eq_false', Bool.not_eq_true, ne_eq, Decidable.not_not] at g29
  refine OL.det rfl (.pure rfl) (OL.det rfl (.pure rfl) (OL.dp rfl ?_))
  refine OL.bool trivial (Yields.pure rfl) (fun g33 => ?_) (fun g33 => ?_)
  ·try simp only [decide_eq_true_eq, decide_eq_false_iff_not, beq_iff_eq, bne_iff_ne, beq_eq_false_iff_ne, bne_eq_false_iff_eq, Bool.not_eq_true', Bool.not_eq_false', Bool.not_eq_true, ne_eq, Decidable.not_not] at g33
   refine OL.off rfl rfl (OL.off rfl rfl (OL.dp rfl (OL.dp rfl (OL.nil (PW.k1 2 rfl (PW.ret ?_))))))
   change (Exit.ret = Exit.normal ∨ Exit.ret = Exit.ret) /\ ∃ v, resV _ _ = some v /\ _
   refine ⟨.inr rfl, _, rfl, congrArg Value.bool ?_, rfl⟩
   unfold mayZ
   rw [Bool.eq_iff_iff]
   simp only [Bool.or_eq_true, Bool.and_eq_true, decide_eq_true_eq, beq_iff_eq, Bool.false_eq_true, true_iff, false_iff]
   omega
  try simp only [decide_eq_true_eq, decide_eq_false_iff_not, beq_iff_eq, bne_iff_ne, beq_eq_false_iff_ne, bne_eq_false_iff_eq, Bool.not_eq_true', Bool.not_eq_false', Bool.not_eq_true, ne_eq, Decidable.not_not] at g33
  refine OL.det rfl (.pure rfl) (OL.det rfl (.pure rfl) (OL.dp rfl (OL.dp rfl (OL.nil (PW.k1 2 rfl (PW.ret ?_))))))
  change (Exit.ret = Exit.normal ∨ Exit.ret = Exit.ret) /\ ∃ v, resV _ _ = some v /\ _
  refine ⟨.inr rfl, _, rfl, congrArg Value.bool ?_, rfl⟩
  unfold mayZ
  rw [Bool.eq_iff_iff]
  simp only [Bool.or_eq_true, Bool.and_eq_true, decide_eq_true_eq, beq_iff_eq, Bool.false_eq_true, true_iff, false_iff]
  omega
 try simp only [decide_eq_true_eq, decide_eq_false_iff_not, beq_iff_eq, bne_iff_ne, beq_eq_false_iff_ne, bne_eq_false_iff_eq, Bool.not_eq_true', Bool.not_eq_false', Bool.not_eq_true, ne_eq, Decidable.not_not] at g12
 refine OL.off rfl rfl (OL.off rfl rfl (OL.det rfl (.pure rfl) (OL.dp rfl (OL.dp rfl (OL.det rfl (.pure rfl) (OL.det rfl (.pure rfl) ?_))))))
 refine OL.bool rfl (Yields.pure rfl) (fun g20 => ?_) (fun g20 => ?_)
 ·try simp only [decide_eq_true_eq, decide_eq_false_iff_not, beq_iff_eq, bne_iff_ne, beq_eq_false_iff_ne, bne_eq_false_iff_eq, Bool.not_eq_true', Bool.not_eq_false', Bool.not_eq_true, ne_eq, Decidable.not_not] at g20
  refine OL.det rfl (.pure rfl) (OL.det rfl (.pure rfl) (OL.det rfl (.pure rfl) (OL.dp rfl ?_)))
  refine OL.bool trivial (Yields.pure rfl) (fun g25 => ?_) (fun g25 => ?_)
  ·try simp only [decide_eq_true_eq, decide_eq_false_iff_not, beq_iff_eq, bne_iff_ne, beq_eq_false_iff_ne, bne_eq_false_iff_eq, Bool.not_eq_true', Bool.not_eq_false', Bool.not_eq_true, ne_eq, Decidable.not_not] at g25
   refine OL.off rfl rfl (OL.off rfl rfl (OL.dp rfl (OL.dp rfl (OL.off rfl rfl (OL.off rfl rfl (OL.dp rfl (OL.dp rfl (OL.off rfl rfl (OL.off rfl rfl (OL.dp rfl (OL.dp rfl ?_)))))))))))
   refine OL.nil (PW.k1 2 rfl (PW.ret ?_))
   change (Exit.ret = Exit.normal ∨ Exit.ret = Exit.ret) /\ ∃ v, resV _ _ = some v /\ _
   refine ⟨.inr rfl, _, rfl, congrArg Value.bool ?_, rfl⟩
   unfold mayZ
   rw [Bool.eq_iff_iff]
   simp only [Bool.or_eq_true, Bool.and_eq_true, decide_eq_true_eq, beq_iff_eq, Bool.false_eq_true, true_iff, false_iff]
   omega
  try simp only [decide_eq_true_eq, decide_eq_false_iff_not, beq_iff_eq, bne_iff_ne, beq_eq_false_iff_ne, bne_eq_false_iff_eq, Bool.not_eq_true', Bool.not_eq_false', Bool.not_eq_true, ne_eq, Decidable.not_not] at g25
  refine OL.det rfl (.pure rfl) (OL.det rfl (.pure rfl) (OL.dp rfl ?_))
  refine OL.bool trivial (Yields.pure rfl) (fun g29 => ?_) (fun g29 => ?_)
  ·try simp only [decide_eq_true_eq, decide_eq_false_iff_not, beq_iff_eq, bne_iff_ne, beq_eq_false_iff_ne, bne_eq_false_iff_eq, Bool.not_eq_true', Bool.not_eq_false', Bool.not_eq_true, ne_eq, Decidable.not_not] at g29
   refine OL.off rfl rfl (OL.off rfl rfl (OL.dp rfl (OL.dp rfl (OL.off rfl rfl (OL.off rfl rfl (OL.dp rfl (OL.dp rfl (OL.nil (PW.k1 2 rfl (PW.ret ?_))))))))))
   change (Exit.ret = Exit.normal ∨ Exit.ret = Exit.ret) /\ ∃ v, resV _ _ = some v /\ _
   refine ⟨.inr rfl, _, rfl, congrArg Value.bool ?_, rfl⟩
   unfold mayZ
   rw [Bool.eq_iff_iff]
   simp only [Bool.or_eq_true, Bool.and_eq_true, decide_eq_true_eq, beq_iff_eq, Bool.false_eq_true, true_iff, false_iff]
   omega
  try simp only [decide_eq_true_eq, decide_eq_false_iff_not, beq_iff_eq, bne_iff_ne, beq_eq_false_iff_ne, bne_eq_false_iff_eq, Bool.not_eq_true', Bool.not_eq_false', Bool.not_eq_true, ne_eq, Decidable.not_not] at g29
  refine OL.det rfl (.pure rfl) (OL.det rfl (.pure rfl) (OL.dp rfl ?_))
  refine OL.bool trivial (Yields.pure rfl) (fun g33 => ?_) (fun g33 => ?_)
  ·try simp only [decide_eq_true_eq, decide_eq_false_iff_not, beq_iff_eq, bne_iff_ne, beq_eq_false_iff_ne, bne_eq_false_iff_eq, Bool.not_eq_true', Bool.not_eq_false', Bool.not_eq_true, ne_eq, Decidable.not_not] at g33
   refine OL.off rfl rfl (OL.off rfl rfl (OL.dp rfl (OL.dp rfl (OL.nil (PW.k1 2 rfl (PW.ret ?_))))))
   change (Exit.ret = Exit.normal ∨ Exit.ret = Exit.ret) /\ ∃ v, resV _ _ = some v /\ _
   refine ⟨.inr rfl, _, rfl, congrArg Value.bool ?_, rfl⟩
   unfold mayZ
   rw [Bool.eq_iff_iff]
   simp only [Bool.or_eq_true, Bool.and_eq_true, decide_eq_true_eq, beq_iff_eq, Bool.false_eq_true, true_iff, false_iff]
   omega
  try simp only [decide_eq_true_eq, decide_eq_false_iff_not, beq_iff_eq, bne_iff_ne, beq_eq_false_iff_ne, bne_eq_false_iff_eq, Bool.not_eq_true', Bool.not_eq_false', Bool.not_eq_true, ne_eq, Decidable.not_not] at g33
  refine OL.det rfl (.pure rfl) (OL.det rfl (.pure rfl) (OL.dp rfl (OL.dp rfl (OL.nil (PW.k1 2 rfl (PW.ret ?_))))))
  change (Exit.ret = Exit.normal ∨ Exit.ret = Exit.ret) /\ ∃ v, resV _ _ = some v /\ _
  refine ⟨.inr rfl, _, rfl, congrArg Value.bool ?_, rfl⟩
  unfold mayZ
  rw [Bool.eq_iff_iff]
  simp only [Bool.or_eq_true, Bool.and_eq_true, decide_eq_true_eq, beq_iff_eq, Bool.false_eq_true, true_iff, false_iff]
  omega
 try simp only [decide_eq_true_eq, decide_eq_false_iff_not, beq_iff_eq, bne_iff_ne, beq_eq_false_iff_ne, bne_eq_false_iff_eq, Bool.not_eq_true', Bool.not_eq_false', Bool.not_eq_true, ne_eq, Decidable.not_not] at g20
 refine OL.off rfl rfl (OL.off rfl rfl (OL.det rfl (.pure rfl) (OL.dp rfl (OL.dp rfl (OL.det rfl (.pure rfl) (OL.det rfl (.pure rfl) (OL.dp rfl ?_)))))))
 refine OL.bool trivial (Yields.pure rfl) (fun g29 => ?_) (fun g29 => ?_)
 ·try simp only [decide_eq_true_eq, decide_eq_false_iff_not, beq_iff_eq, bne_iff_ne, beq_eq_false_iff_ne, bne_eq_false_iff_eq, Bool.not_eq_true', Bool.not_eq_false', Bool.not_eq_true, ne_eq, Decidable.not_not] at g29
  refine OL.off rfl rfl (OL.off rfl rfl (OL.dp rfl (OL.dp rfl (OL.off rfl rfl (OL.off rfl rfl (OL.dp rfl (OL.dp rfl (OL.nil (PW.k1 2 rfl (PW.ret ?_))))))))))
  change (Exit.ret = Exit.normal ∨ Exit.ret = Exit.ret) /\ ∃ v, resV _ _ = some v /\ _
  refine ⟨.inr rfl, _, rfl, congrArg Value.bool ?_, rfl⟩
  unfold mayZ
  rw [Bool.eq_iff_iff]
  simp only [Bool.or_eq_true, Bool.and_eq_true, decide_eq_true_eq, beq_iff_eq, Bool.false_eq_true, true_iff, false_iff]
  omega
 try simp only [decide_eq_true_eq, decide_eq_false_iff_not, beq_iff_eq, bne_iff_ne, beq_eq_false_iff_ne, bne_eq_false_iff_eq, Bool.not_eq_true', Bool.not_eq_false', Bool.not_eq_true, ne_eq, Decidable.not_not] at g29
 refine OL.det rfl (.pure rfl) (OL.det rfl (.pure rfl) (OL.dp rfl ?_))
 refine OL.bool trivial (Yields.pure rfl) (fun g33 => ?_) (fun g33 => ?_)
 ·try simp only [decide_eq_true_eq, decide_eq_false_iff_not, beq_iff_eq, bne_iff_ne, beq_eq_false_iff_ne, bne_eq_false_iff_eq, Bool.not_eq_true', Bool.not_eq_false', Bool.not_eq_true, ne_eq, Decidable.not_not] at g33
  refine OL.off rfl rfl (OL.off rfl rfl (OL.dp rfl (OL.dp rfl (OL.nil (PW.k1 2 rfl (PW.ret ?_))))))
  change (Exit.ret = Exit.normal ∨ Exit.ret = Exit.ret) /\ ∃ v, resV _ _ = some v /\ _
  refine ⟨.inr rfl, _, rfl, congrArg Value.bool ?_, rfl⟩
  unfold mayZ
  rw [Bool.eq_iff_iff]
  simp only [Bool.or_eq_true, Bool.and_eq_true, decide_eq_true_eq, beq_iff_eq, Bool.false_eq_true, true_iff, false_iff]
  omega
 try simp only [decide_eq_true_eq, decide_eq_false_iff_not, beq_iff_eq, bne_iff_ne, beq_eq_false_iff_ne, bne_eq_false_iff_eq, Bool.not_eq_true', Bool.not_eq_false', Bool.not_eq_true, ne_eq, Decidable.not_not] at g33
 refine OL.det rfl (.pure rfl) (OL.det rfl (.pure rfl) (OL.dp rfl (OL.dp rfl (OL.nil (PW.k1 2 rfl (PW.ret ?_))))))
 change (Exit.ret = Exit.normal ∨ Exit.ret = Exit.ret) /\ ∃ v, resV _ _ = some v /\ _
 refine ⟨.inr rfl, _, rfl, congrArg Value.bool ?_, rfl⟩
 unfold mayZ
 rw [Bool.eq_iff_iff]
 simp only [Bool.or_eq_true, Bool.and_eq_true, decide_eq_true_eq, beq_iff_eq, Bool.false_eq_true, true_iff, false_iff]
 omega
theorem part_fc {w0 : World} {S : SS} {s : ByteArray} (hs : s.size <= 1000000000) : FC Tryz.prog w0 73 [.string s] S (fun v S' => v = .bool (partP s) /\ S' = S) := by
 refine FC.ofD Tryz.known73 (by simp) ?_
 unfold Tryz.pc73
 simp only [argT]
 refine PW.seqOps (OL.dp rfl (OL.nil (PW.k1 0 rfl (PW.seqOps (OL.dp rfl (OL.nil (PW.k2 0 3 rfl ?_)))))))
 refine PW.seq fun K1 hK1 => ?_
 refine PW.seqOps (OL.dp rfl (OL.cons trivial (OW.rngS rfl) ?_))
 rintro _ _ ⟨r7, rfl, rfl⟩
 refine OL.nil (PW.k3 0 3 7 rfl (PW.block (PW.k3 0 3 7 rfl ?_)))
 refine PW.loopK (I := fun m T S' => ∃ (k d : Nat), (k <= s.size /\ m = s.size - k /\ (s.data.toList.take k).all mayB = true /\ d = dotN (s.data.toList.take k) /\ d <= k) /\ T = ([(0, .string s), (3, .int .i64 (d : Int)), (7, .pointer (some ⟨r7, 0, none⟩))] : TT) /\ S' = [(r7, .obj (.stringIter s k))] :: S) (m := s.size) ⟨0, 0, ⟨by omega, by omega, rfl, rfl, by omega⟩, rfl, rfl⟩ ?_
 rintro m _ _ ⟨k, d, ⟨hk, hm, hall, hd, hdk⟩, rfl, rfl⟩
 refine PW.seqOps ?_
 refine OL.nxt (k := 0) rfl rfl ?_ ?_
 ·intro hp
  refine OL.nil (PW.k5 0 3 7 8 9 rfl ?_)
  refine PW.seq fun K2 hK2 => ?_
  refine PW.ite (b := true) rfl ?_
  rw [if_pos rfl]
  refine PW.skip (hK2 _ _ (PW.k4 0 3 7 8 rfl (PW.block (PW.seqOps ?_))))
  obtain ⟨b, hb, hb2, htk, hbe⟩ := ba_get hp
  have hdec := dec_ok hp hbe
  refine OL.dp rfl (OL.dp rfl (OL.nil (PW.k4 0 3 5 7 rfl ?_)))
  refine PW.seq fun K3 hK3 => ?_
  refine PW.seqOps (OL.dp rfl (OL.call trivial rfl (may_fc) ?_))
  rintro _ Sx ⟨rfl, hSx⟩
  rw [hSx]
  clear hSx
  refine OL.dp rfl (OL.nil (PW.k5 0 3 5 7 13 rfl ?_))
  refine PW.cond rfl (fun c13 => ?_) (fun c13 => ?_)
  ·try simp only [decide_eq_true_eq, decide_eq_false_iff_not, beq_iff_eq, bne_iff_ne, beq_eq_false_iff_ne, bne_eq_false_iff_eq, Bool.not_eq_true', Bool.not_eq_false', Bool.not_eq_true, ne_eq, Decidable.not_not] at c13
   refine PW.seqOps (OL.dp rfl (OL.nil (PW.k1 2 rfl (PW.ret ?_))))
   change (Exit.ret = Exit.normal ∨ Exit.ret = Exit.ret) /\ ∃ v, resV _ _ = some v /\ _
   have hbad : mayB b = false := by
    rcases hdec with ⟨e0, e1, _⟩ | ⟨e0, e1⟩
    ·rw [e1] at c13; exact c13
    unfold mayB mayZ; rw [Bool.eq_iff_iff]; simp only [Bool.or_eq_true, Bool.and_eq_true, decide_eq_true_eq, Bool.false_eq_true, iff_false]; omega
   exact ⟨.inr rfl, _, rfl, _, Sub.drop (Sub.refl _), by rw [part_bad hb2 hbad], rfl⟩
  try simp only [decide_eq_true_eq, decide_eq_false_iff_not, beq_iff_eq, bne_iff_ne, beq_eq_false_iff_ne, bne_eq_false_iff_eq, Bool.not_eq_true', Bool.not_eq_false', Bool.not_eq_true, ne_eq, Decidable.not_not] at c13
  have hmz : mayZ ((Utf8.decode s k).1 : Int) = true := c13
  have hdec2 : (Utf8.decode s k).1 = b.toNat /\ (Utf8.decode s k).2 = 1 := by
   rcases hdec with ⟨_, e1, e2⟩ | ⟨e0, e1⟩
   ·exact ⟨e1, e2⟩
   exfalso
   revert hmz
   unfold mayZ; simp only [Bool.or_eq_true, Bool.and_eq_true, decide_eq_true_eq]; omega
  obtain ⟨h1, h2⟩ := hdec2
  refine PW.skip (hK3 _ _ (PW.k4 0 3 5 7 rfl (PW.seqOps (OL.dp rfl (OL.dp rfl (OL.nil (PW.k4 0 3 7 15 rfl ?_)))))))
  refine PW.cond rfl (fun c15 => ?_) (fun c15 => ?_)
  ·try simp only [decide_eq_true_eq, decide_eq_false_iff_not, beq_iff_eq, bne_iff_ne, beq_eq_false_iff_ne, bne_eq_false_iff_eq, Bool.not_eq_true', Bool.not_eq_false', Bool.not_eq_true, ne_eq, Decidable.not_not] at c15
   refine PW.ops (OL.dp rfl ?_)
   refine OL.det trivial (.add64 rfl rfl (by omega) (by omega)) ?_
   refine OL.dp rfl (OL.nil ?_)
   repeat rw [inBlk_n]
   try rw [thenK_n]
   refine LoopEnd.mk (T'' := [(0, _), (3, _), (7, _)]) (wi rfl) ?_
   have hz : mayB b = true := by rw [<- hmz]; unfold mayB; rw [h1]
   rw [h1] at c15
   refine ⟨s.size - (k + 1), by omega, k + 1, d + 1, ⟨by omega, rfl, ?_, ?_, by omega⟩, rfl, by rw [h2]; rfl⟩
   ·rw [htk, List.all_append, hall]; simp [hz]
   rw [htk]; unfold dotN at hd ⊢; rw [List.countP_append, <- hd]
   have : b = 46 := UInt8.toNat_inj.1 (by show b.toNat = 46; omega)
   simp [this]
  try simp only [decide_eq_true_eq, decide_eq_false_iff_not, beq_iff_eq, bne_iff_ne, beq_eq_false_iff_ne, bne_eq_false_iff_eq, Bool.not_eq_true', Bool.not_eq_false', Bool.not_eq_true, ne_eq, Decidable.not_not] at c15
  refine PW.skip ?_
  repeat rw [inBlk_n]
  try rw [thenK_n]
  refine LoopEnd.mk (T'' := [(0, _), (3, _), (7, _)]) (wi rfl) ?_
  have hz : mayB b = true := by rw [<- hmz]; unfold mayB; rw [h1]
  rw [h1] at c15
  refine ⟨s.size - (k + 1), by omega, k + 1, d, ⟨by omega, rfl, ?_, ?_, by omega⟩, rfl, by rw [h2]; rfl⟩
  ·rw [htk, List.all_append, hall]; simp [hz]
  rw [htk]; unfold dotN at hd ⊢; rw [List.countP_append, <- hd]
  have : b ≠ 46 := fun e => c15 (by rw [e]; rfl)
  simp [this]
 intro hp
 refine OL.nil (PW.k5 0 3 7 8 9 rfl ?_)
 refine PW.seq fun K4 hK4 => ?_
 refine PW.ite (b := false) rfl ?_
 rw [if_neg Bool.false_ne_true]
 refine PW.exit (hK1 _ _ (PW.k2 0 3 rfl (PW.seqOps (OL.dp rfl (OL.dp rfl (OL.dp rfl (OL.dp rfl (OL.dp rfl (OL.nil (PW.k1 2 rfl (PW.ret ?_)))))))))))
 change (Exit.ret = Exit.normal ∨ Exit.ret = Exit.ret) /\ ∃ v, resV _ _ = some v /\ _
 exact ⟨.inr rfl, _, rfl, _, Sub.drop (Sub.refl _), by rw [part_all (k := k) (by omega) hall, <- hd], rfl⟩
theorem rpart_fc {w0 : World} {S : SS} {s : ByteArray} (hs : s.size <= 1000000000) : FC Tryz.prog w0 75 [.string s] S (fun v S' => v = .bool (partP s) /\ S' = S) := by
 refine FC.of Tryz.known75 (by simp) ?_
 unfold Tryz.pc75
 simp only [argT]
 refine PW.seqOps (OL.dp rfl (OL.nil (PW.k1 0 rfl (PW.seqOps (OL.dp rfl (OL.nil (PW.k2 0 3 rfl ?_)))))))
 refine PW.seq fun K1 hK1 => ?_
 refine PW.seqOps (OL.dp rfl (OL.nil (PW.k3 0 3 4 rfl (PW.block (PW.k3 0 3 4 rfl ?_)))))
 refine PW.loopK (I := fun m T S' => ∃ (k : Nat) (d : Bool), (k <= s.size /\ m = s.size - k /\ (s.data.toList.take k).all mayB = true /\ d = (s.data.toList.take k).any (fun b => b != 46)) /\ T = ([(0, .string s), (3, .bool d), (4, .int .i64 k)] : TT) /\ S' = S) (m := s.size) ⟨0, false, ⟨by omega, by omega, rfl, rfl⟩, rfl, rfl⟩ ?_
 rintro m _ _ ⟨k, d, ⟨hk, hm, hall, hd⟩, rfl, rfl⟩
 refine PW.seq fun K2 hK2 => ?_
 refine PW.seqOps (OL.dp rfl (OL.dp rfl (OL.dp rfl (OL.dp rfl (OL.nil (PW.k4 0 3 4 8 rfl ?_))))))
 refine PW.cond rfl (fun c8 => ?_) (fun c8 => ?_)
 ·try simp only [decide_eq_true_eq, decide_eq_false_iff_not, beq_iff_eq, bne_iff_ne, beq_eq_false_iff_ne, bne_eq_false_iff_eq, Bool.not_eq_true', Bool.not_eq_false', Bool.not_eq_true, ne_eq, Decidable.not_not] at c8
  have hkl : k < s.size := by omega
  obtain ⟨b, hb, hb2, htk, _⟩ := ba_get hkl
  refine PW.skip (hK2 _ _ (PW.k3 0 3 4 rfl ?_))
  refine PW.seq fun K3 hK3 => ?_
  refine PW.block ?_
  refine PW.seq fun K4 hK4 => ?_
  refine PW.seqOps (OL.dp rfl (OL.dp rfl (OL.det trivial (Yields.ixStr rfl rfl hb) (OL.call trivial rfl (rmay_fc) ?_))))
  rintro _ Sx ⟨rfl, hSx⟩
  rw [hSx]
  clear hSx
  refine OL.dp rfl (OL.nil (PW.k4 0 3 4 15 rfl ?_))
  refine PW.cond rfl (fun c15 => ?_) (fun c15 => ?_)
  ·try simp only [decide_eq_true_eq, decide_eq_false_iff_not, beq_iff_eq, bne_iff_ne, beq_eq_false_iff_ne, bne_eq_false_iff_eq, Bool.not_eq_true', Bool.not_eq_false', Bool.not_eq_true, ne_eq, Decidable.not_not] at c15
   refine PW.seqOps (OL.dp rfl (OL.nil (PW.k1 2 rfl (PW.ret ?_))))
   change (Exit.ret = Exit.normal ∨ Exit.ret = Exit.ret) /\ ∃ v, resV _ _ = some v /\ _
   exact ⟨.inr rfl, _, rfl, by rw [part_bad hb2 c15], rfl⟩
  try simp only [decide_eq_true_eq, decide_eq_false_iff_not, beq_iff_eq, bne_iff_ne, beq_eq_false_iff_ne, bne_eq_false_iff_eq, Bool.not_eq_true', Bool.not_eq_false', Bool.not_eq_true, ne_eq, Decidable.not_not] at c15
  refine PW.skip (hK4 _ _ (PW.k3 0 3 4 rfl (PW.ops (OL.dp rfl ?_))))
  refine OL.bool trivial (Yields.pure rfl) (fun g17 => ?_) (fun g17 => ?_)
  ·try simp only [decide_eq_true_eq, decide_eq_false_iff_not, beq_iff_eq, bne_iff_ne, beq_eq_false_iff_ne, bne_eq_false_iff_eq, Bool.not_eq_true', Bool.not_eq_false', Bool.not_eq_true, ne_eq, Decidable.not_not] at g17
   refine OL.off rfl rfl (OL.off rfl rfl (OL.off rfl rfl (OL.off rfl rfl (OL.dp rfl (OL.dp rfl (OL.nil (hK3 _ _ (PW.k3 0 3 4 rfl (PW.ops (OL.dp rfl ?_))))))))))
   refine OL.det trivial (.add64 rfl rfl (by omega) (by omega)) ?_
   refine OL.dp rfl (OL.nil ?_)
   repeat rw [inBlk_n]
   try rw [thenK_n]
   refine LoopEnd.mk (T'' := [(0, _), (3, _), (4, _)]) (wi rfl) ?_
   refine ⟨s.size - (k + 1), by omega, k + 1, _, ⟨by omega, rfl, ?_, ?_⟩, rfl, rfl⟩
   ·rw [htk, List.all_append, hall]
    have : mayB b = true := c15
    simp [this]
   rw [htk, List.any_append, <- hd, g17]; rfl
  try simp only [decide_eq_true_eq, decide_eq_false_iff_not, beq_iff_eq, bne_iff_ne, beq_eq_false_iff_ne, bne_eq_false_iff_eq, Bool.not_eq_true', Bool.not_eq_false', Bool.not_eq_true, ne_eq, Decidable.not_not] at g17
  refine OL.det rfl (.pure rfl) (OL.det rfl (.pure rfl) (OL.det rfl (Yields.ixStr rfl rfl hb) (OL.det rfl (.pure rfl) (OL.dp rfl (OL.dp rfl (OL.nil (hK3 _ _ (PW.k3 0 3 4 rfl (PW.ops (OL.dp rfl ?_))))))))))
  refine OL.det trivial (.add64 rfl rfl (by omega) (by omega)) ?_
  refine OL.dp rfl (OL.nil ?_)
  repeat rw [inBlk_n]
  try rw [thenK_n]
  refine LoopEnd.mk (T'' := [(0, _), (3, _), (4, _)]) (wi rfl) ?_
  refine ⟨s.size - (k + 1), by omega, k + 1, _, ⟨by omega, rfl, ?_, ?_⟩, rfl, rfl⟩
  ·rw [htk, List.all_append, hall]
   have : mayB b = true := c15
   simp [this]
  rw [htk, List.any_append, <- hd, g17, Bool.false_or]
  rw [Bool.eq_iff_iff]
  simp only [decide_eq_true_eq, List.any_cons, List.any_nil, Bool.or_false, bne_iff_ne, ne_eq, <- UInt8.toNat_inj]
  show ¬ ((b.toNat : Int) = 46) ↔ ¬ b.toNat = 46
  omega
 try simp only [decide_eq_true_eq, decide_eq_false_iff_not, beq_iff_eq, bne_iff_ne, beq_eq_false_iff_ne, bne_eq_false_iff_eq, Bool.not_eq_true', Bool.not_eq_false', Bool.not_eq_true, ne_eq, Decidable.not_not] at c8
 refine PW.exit (hK1 _ _ (PW.k1 3 rfl (PW.seqOps (OL.dp rfl (OL.dp rfl (OL.nil (PW.k1 2 rfl (PW.ret ?_))))))))
 change (Exit.ret = Exit.normal ∨ Exit.ret = Exit.ret) /\ ∃ v, resV _ _ = some v /\ _
 exact ⟨.inr rfl, _, rfl, by rw [part_any (k := k) (by omega) hall, <- hd], rfl⟩
theorem is1_fc {w0 : World} {S : SS} {s : ByteArray} (hs : s.size <= 1000000000) : FC Tryz.prog w0 72 [.string s] S (fun v S' => v = .bool (!(partP s)) /\ S' = S) := by
 refine FC.of Tryz.known72 (by simp) ?_
 unfold Tryz.pc72
 simp only [argT]
 refine PW.seqOps (OL.dp rfl (OL.nil (PW.k1 0 rfl (PW.seqOps (OL.dp rfl (OL.call trivial rfl (part_fc hs) ?_))))))
 rintro _ Sx ⟨rfl, hSx⟩
 rw [hSx]
 clear hSx
 refine OL.dp rfl (OL.dp rfl (OL.nil (PW.k1 2 rfl (PW.ret ?_))))
 change (Exit.ret = Exit.normal ∨ Exit.ret = Exit.ret) /\ ∃ v, resV _ _ = some v /\ _
 exact ⟨.inr rfl, _, rfl, rfl, rfl⟩
def idxQ (q : ByteArray -> Bool) (ls : List ByteArray) (z : Int) : Prop := (0 <= z ↔ ls.any q = true)
theorem any_take {q : ByteArray -> Bool} {ls : List ByteArray} {k : Nat} (h : k < ls.length) : (ls.take (k + 1)).any q = ((ls.take k).any q || q ls[k]) := by
 rw [List.take_add_one, List.getElem?_eq_getElem h, List.any_append]
 simp only [Option.toList, List.any_cons, List.any_nil, Bool.or_false]
theorem indexF_fc {w0 : World} {S : SS} {A : Option Addr} {cap g : Nat} {ls : List ByteArray} {q : ByteArray -> Bool} (hx : Rd w0 S A (strs ls)) (hb : ls.length <= 1000000000) (hok : fnOk Tryz.prog g = true) (hq : ∀ s ∈ ls, FC Tryz.prog w0 g [.string s] S (fun v S' => v = .bool (q s) /\ S' = S)) :
  FC Tryz.prog w0 97 [.slice A ls.length cap, .func (.func g) #[] #[]] S (fun v S' => ∃ z, v = .int .i64 z /\ idxQ q ls z /\ S' = S) := by
 refine FC.of Tryz.known97 (by simp) ?_
 unfold Tryz.pc97
 simp only [argT]
 refine PW.seqOps (OL.dp rfl (OL.nil (PW.k2 0 1 rfl ?_)))
 refine PW.seq fun K1 hK1 => ?_
 refine PW.seqOps (OL.dp rfl (OL.dp rfl (OL.dp rfl (OL.nil (PW.k4 0 1 7 8 rfl (PW.block (PW.k4 0 1 7 8 rfl ?_)))))))
 refine PW.loopK (I := fun m T S' => ∃ (k : Nat), (k <= ls.length /\ m = ls.length - k /\ (ls.take k).any q = false) /\ T = ([(0, .slice A ls.length cap), (1, .func (.func g) #[] #[]), (7, .int .i64 (ls.length : Int)), (8, .int .i64 k)] : TT) /\ S' = S) (m := ls.length) ⟨0, ⟨by omega, by omega, rfl⟩, rfl, rfl⟩ ?_
 rintro m _ _ ⟨k, ⟨hk, hm, hall⟩, rfl, rfl⟩
 refine PW.seqOps (OL.dp rfl (OL.nil (PW.k5 0 1 7 8 9 rfl ?_)))
 refine PW.seq fun K2 hK2 => ?_
 refine PW.cond rfl (fun c9 => ?_) (fun c9 => ?_)
 ·try simp only [decide_eq_true_eq, decide_eq_false_iff_not, beq_iff_eq, bne_iff_ne, beq_eq_false_iff_ne, bne_eq_false_iff_eq, Bool.not_eq_true', Bool.not_eq_false', Bool.not_eq_true, ne_eq, Decidable.not_not] at c9
  have hkl : k < ls.length := by omega
  obtain ⟨b0, rfl⟩ := hx.some (strs_ne (by omega))
  refine PW.skip (hK2 _ _ (PW.k4 0 1 7 8 rfl ?_))
  refine PW.seq fun K3 hK3 => ?_
  refine PW.block (PW.seqOps (OL.dp rfl (OL.dp rfl (OL.nil (PW.k5 0 1 5 7 8 rfl (PW.seqOps (OL.dp rfl (OL.dp rfl (OL.dp rfl ?_)))))))))
  refine OL.det trivial (.ixN1 rfl rfl rfl (by omega)) ?_
  refine OL.det trivial (.ld rfl (strs_at hx hkl)) (OL.cons trivial (OW.callv (fi := []) (ca := []) rfl hok rfl (hq _ (List.getElem_mem hkl))) ?_)
  rintro _ Sx ⟨rfl, hSx⟩
  rw [hSx]
  clear hSx
  refine OL.nil (PW.k6 0 1 5 7 8 16 rfl ?_)
  refine PW.cond rfl (fun c16 => ?_) (fun c16 => ?_)
  ·try simp only [decide_eq_true_eq, decide_eq_false_iff_not, beq_iff_eq, bne_iff_ne, beq_eq_false_iff_ne, bne_eq_false_iff_eq, Bool.not_eq_true', Bool.not_eq_false', Bool.not_eq_true, ne_eq, Decidable.not_not] at c16
   refine PW.seqOps (OL.dp rfl (OL.dp rfl (OL.nil (PW.k1 4 rfl (PW.ret ?_)))))
   change (Exit.ret = Exit.normal ∨ Exit.ret = Exit.ret) /\ ∃ v, resV _ _ = some v /\ _
   exact ⟨.inr rfl, _, rfl, _, rfl, ⟨fun _ => List.any_eq_true.2 ⟨_, List.getElem_mem hkl, c16⟩, fun _ => by omega⟩, rfl⟩
  try simp only [decide_eq_true_eq, decide_eq_false_iff_not, beq_iff_eq, bne_iff_ne, beq_eq_false_iff_ne, bne_eq_false_iff_eq, Bool.not_eq_true', Bool.not_eq_false', Bool.not_eq_true, ne_eq, Decidable.not_not] at c16
  refine PW.skip (hK3 _ _ (PW.k4 0 1 7 8 rfl (PW.ops ?_)))
  refine OL.det trivial (.add64 rfl rfl (by omega) (by omega)) ?_
  refine OL.dp rfl (OL.nil ?_)
  repeat rw [inBlk_n]
  try rw [thenK_n]
  refine LoopEnd.mk (T'' := [(0, _), (1, _), (7, _), (8, _)]) (wi rfl) ?_
  refine ⟨ls.length - (k + 1), by omega, k + 1, ⟨by omega, rfl, ?_⟩, by simp, rfl⟩
  rw [any_take hkl, hall, c16]; rfl
 try simp only [decide_eq_true_eq, decide_eq_false_iff_not, beq_iff_eq, bne_iff_ne, beq_eq_false_iff_ne, bne_eq_false_iff_eq, Bool.not_eq_true', Bool.not_eq_false', Bool.not_eq_true, ne_eq, Decidable.not_not] at c9
 refine PW.exit (hK1 _ _ (PW.keep (T' := []) trivial (PW.seqOps (OL.dp rfl (OL.nil (PW.k1 4 rfl (PW.ret ?_)))))))
 change (Exit.ret = Exit.normal ∨ Exit.ret = Exit.ret) /\ ∃ v, resV _ _ = some v /\ _
 obtain rfl : k = ls.length := by omega
 rw [List.take_length] at hall
 exact ⟨.inr rfl, _, rfl, _, rfl, ⟨fun h => absurd h (by omega), fun h => by rw [hall] at h; cases h⟩, rfl⟩
theorem contains_fc {w0 : World} {S : SS} {A : Option Addr} {cap g : Nat} {ls : List ByteArray} {q : ByteArray -> Bool} (hx : Rd w0 S A (strs ls)) (hb : ls.length <= 1000000000) (hok : fnOk Tryz.prog g = true) (hq : ∀ s ∈ ls, FC Tryz.prog w0 g [.string s] S (fun v S' => v = .bool (q s) /\ S' = S)) :
  FC Tryz.prog w0 71 [.slice A ls.length cap, .func (.func g) #[] #[]] S (fun v S' => v = .bool (ls.any q) /\ S' = S) := by
 refine FC.of Tryz.known71 (by simp) ?_
 unfold Tryz.pc71
 simp only [argT]
 refine PW.seqOps (OL.dp rfl (OL.nil (PW.k2 0 1 rfl (PW.seqOps (OL.dp rfl (OL.dp rfl (OL.call trivial rfl (indexF_fc hx hb hok hq) ?_)))))))
 rintro _ Sx ⟨z, rfl, hz, hSx⟩
 rw [hSx]
 clear hSx
 refine OL.dp rfl (OL.dp rfl (OL.nil (PW.k1 4 rfl (PW.ret ?_))))
 change (Exit.ret = Exit.normal ∨ Exit.ret = Exit.ret) /\ ∃ v, resV _ _ = some v /\ _
 exact ⟨.inr rfl, _, rfl, congrArg Value.bool (by rw [Bool.eq_iff_iff, <- (show 0 <= z ↔ ls.any q = true from hz)]; simp), rfl⟩
def resL (w0 : World) (ls : List ByteArray) (S : SS) (v : Value) (S' : SS) : Prop := ∃ A cap seg, v = .slice A ls.length cap /\ S' = seg :: S /\ ∀ S2, Rd w0 (seg :: S2) A (strs ls)
theorem setAt_mid (ds : List ByteArray) (x : ByteArray) (e : Value) (k : Nat) : setAt (strs ds ++ List.replicate (k + 1) e) ds.length (Value.string x).cells.toList = strs (ds ++ [x]) ++ List.replicate k e := by
 rw [show (Value.string x).cells.toList = [Value.string x] from rfl, setAt_eq _ _ _ (by simp [strs])]
 rw [List.take_left' (by simp [strs])]
 have e1 : ds.length + [Value.string x].length = (strs ds).length + 1 := by simp [strs]
 rw [e1, <- List.drop_drop, List.drop_left, List.replicate_succ]
 simp [strs]
theorem num_cons {p r : List UInt8} (h : ∀ b ∈ p, b ≠ 47) : Lib.countByte (p ++ 47 :: r) 47 = Lib.countByte r 47 + 1 := by
 unfold Lib.countByte
 rw [List.count_append, List.count_cons_self, List.count_eq_zero.2 (fun hm => h 47 hm rfl)]
 omega
theorem num_no {l : List UInt8} (h : ∀ b ∈ l, b ≠ 47) : Lib.countByte l 47 = 0 := List.count_eq_zero.2 (fun hm => h 47 hm rfl)
theorem num_le (s : ByteArray) : numP s <= s.size := by
 have : Lib.countByte s.data.toList 47 <= s.data.toList.length := List.count_le_length
 simpa [numP] using this
theorem no_of_num {s : ByteArray} (h : numP s = 0) : ∀ b ∈ s.data.toList, b ≠ 47 := fun b hb e => by
 subst e
 have := List.count_pos_iff.2 hb
 unfold numP Lib.countByte at h
 omega
def partsP (s : ByteArray) : List ByteArray := cutL s.data.toList
theorem parts_len (s : ByteArray) : (partsP s).length = numP s + 1 := cut_len _
theorem gen_fc {w0 : World} {S : SS} {s : ByteArray} (hs : s.size <= 1000000000) : FC Tryz.prog w0 96 [.string s, .string slB, .int .i64 0, .int .i64 (-1)] S (resL w0 (partsP s) S) := by
 have hnum := num_le s
 have hsl : slB.size = 1 := rfl
 refine FC.of Tryz.known96 (by simp) ?_
 unfold Tryz.pc96
 simp only [argT]
 refine PW.seqOps (OL.dp rfl (OL.nil (PW.k4 0 1 2 3 rfl ?_)))
 refine PW.seq fun K1 hK1 => ?_
 refine PW.seqOps (OL.dp rfl (OL.dp rfl (OL.nil (PW.k5 0 1 2 3 13 rfl ?_))))
 refine PW.cond rfl (fun c13 => ?_) (fun c13 => ?_)
 ·try simp only [decide_eq_true_eq, decide_eq_false_iff_not, beq_iff_eq, bne_iff_ne, beq_eq_false_iff_ne, bne_eq_false_iff_eq, Bool.not_eq_true', Bool.not_eq_false', Bool.not_eq_true, ne_eq, Decidable.not_not] at c13
  exfalso; revert c13; decide
  -- done
 try simp only [decide_eq_true_eq, decide_eq_false_iff_not, beq_iff_eq, bne_iff_ne, beq_eq_false_iff_ne, bne_eq_false_iff_eq, Bool.not_eq_true', Bool.not_eq_false', Bool.not_eq_true, ne_eq, Decidable.not_not] at c13
 refine PW.skip (hK1 _ _ (PW.k4 0 1 2 3 rfl ?_))
 refine PW.seq fun K2 hK2 => ?_
 refine PW.seqOps (OL.dp rfl (OL.dp rfl (OL.nil (PW.k5 0 1 2 3 15 rfl ?_))))
 refine PW.cond rfl (fun c15 => ?_) (fun c15 => ?_)
 ·try simp only [decide_eq_true_eq, decide_eq_false_iff_not, beq_iff_eq, bne_iff_ne, beq_eq_false_iff_ne, bne_eq_false_iff_eq, Bool.not_eq_true', Bool.not_eq_false', Bool.not_eq_true, ne_eq, Decidable.not_not] at c15
  exfalso; have c := toL_inj.1 c15; revert c; decide
  -- done
 try simp only [decide_eq_true_eq, decide_eq_false_iff_not, beq_iff_eq, bne_iff_ne, beq_eq_false_iff_ne, bne_eq_false_iff_eq, Bool.not_eq_true', Bool.not_eq_false', Bool.not_eq_true, ne_eq, Decidable.not_not] at c15
 refine PW.skip (hK2 _ _ (PW.k4 0 1 2 3 rfl ?_))
 refine PW.seq fun K3 hK3 => ?_
 refine PW.seqOps (OL.dp rfl (OL.dp rfl (OL.nil (PW.k5 0 1 2 3 20 rfl ?_))))
 refine PW.cond rfl (fun c20 => ?_) (fun c20 => ?_)
 ·try simp only [decide_eq_true_eq, decide_eq_false_iff_not, beq_iff_eq, bne_iff_ne, beq_eq_false_iff_ne, bne_eq_false_iff_eq, Bool.not_eq_true', Bool.not_eq_false', Bool.not_eq_true, ne_eq, Decidable.not_not] at c20
  refine PW.ops (OL.dp rfl (OL.dp rfl (OL.call trivial rfl (count_fc) ?_)))
  rintro _ Sx ⟨rfl, hSx⟩
  rw [hSx]
  clear hSx
  refine OL.det trivial (.add64 rfl rfl (by omega) (by omega)) ?_
  refine OL.dp rfl (OL.nil (hK3 _ _ (PW.k4 0 1 2 3 rfl (PW.seqOps (OL.dp rfl (OL.dp rfl (OL.dp rfl ?_)))))))
  refine OL.det trivial (.add64 rfl rfl (by omega) (by omega)) ?_
  refine OL.det trivial (.to (v' := .int .i64 ((numP s + 1 : Nat) : Int)) (Yields.pure rfl) (by congr 1; simp only [Bool.false_eq_true, if_false]; split <;> omega)) ?_
  refine OL.dp rfl (OL.nil (PW.k4 0 1 2 3 rfl (PW.seqOps (OL.dp rfl ?_))))
  refine OL.cons trivial (OW.mkS_full (m := numP s + 1) rfl rfl (by omega) (by unfold maxLen; omega)) ?_
  rintro _ _ ⟨r9, rfl, rfl⟩
  rw [made1 _ rfl]
  refine OL.dp rfl (OL.nil (PW.k5 0 1 2 3 9 rfl (PW.seqOps (OL.dp rfl ?_))))
  refine OL.det trivial (.to (v' := .int .i64 (numP s : Int)) (Yields.sub64 rfl rfl (by omega) (by omega)) (by congr 1; omega)) ?_
  refine OL.dp rfl (OL.nil (PW.k5 0 1 2 3 9 rfl (PW.seqOps (OL.dp rfl (OL.nil (PW.k6 0 1 2 3 9 10 rfl ?_))))))
  refine PW.seq fun K4 hK4 => ?_
  refine PW.block (PW.k6 0 1 2 3 9 10 rfl ?_)
  refine PW.loopK (I := fun m T S' => ∃ (t : ByteArray) (ds : List ByteArray), (cutL s.data.toList = ds ++ cutL t.data.toList /\ ds.length + numP t = numP s /\ t.size <= s.size /\ m = numP t) /\ T = ([(0, .string t), (1, .string slB), (2, .int .i64 0), (3, .int .i64 (numP s : Int)), (9, .slice (some ⟨r9, 0, none⟩) (numP s + 1) (numP s + 1)), (10, .int .i64 (ds.length : Int))] : TT) /\ S' = [(r9, .cells (strs ds ++ List.replicate (numP t + 1) (.string ⟨#[]⟩)) 9 ((numP s + 1) * 1))] :: S) (m := numP s) ⟨s, [], ⟨rfl, by simp, by omega, rfl⟩, rfl, rfl⟩ ?_
  rintro m _ _ ⟨t, ds, ⟨hcut, hdn, hts, hm⟩, rfl, rfl⟩
  refine PW.seq fun K5 hK5 => ?_
  refine PW.seqOps (OL.dp rfl (OL.dp rfl (OL.dp rfl (OL.nil (PW.k7 0 1 2 3 9 10 36 rfl ?_)))))
  refine PW.cond rfl (fun c36 => ?_) (fun c36 => ?_)
  ·try simp only [decide_eq_true_eq, decide_eq_false_iff_not, beq_iff_eq, bne_iff_ne, beq_eq_false_iff_ne, bne_eq_false_iff_eq, Bool.not_eq_true', Bool.not_eq_false', Bool.not_eq_true, ne_eq, Decidable.not_not] at c36
   refine PW.skip (hK5 _ _ (PW.k6 0 1 2 3 9 10 rfl (PW.block (PW.seqOps (OL.dp rfl (OL.dp rfl (OL.call trivial rfl (sindex_fc) ?_)))))))
   rintro _ _ ⟨rfl, rfl⟩
   refine OL.dp rfl (OL.nil (PW.k7 0 1 2 3 9 10 11 rfl ?_))
   refine PW.seq fun K6 hK6 => ?_
   refine PW.seqOps (OL.dp rfl (OL.dp rfl (OL.nil (PW.k8 0 1 2 3 9 10 11 41 rfl ?_))))
   refine PW.cond rfl (fun c41 => ?_) (fun c41 => ?_)
   ·try simp only [decide_eq_true_eq, decide_eq_false_iff_not, beq_iff_eq, bne_iff_ne, beq_eq_false_iff_ne, bne_eq_false_iff_eq, Bool.not_eq_true', Bool.not_eq_false', Bool.not_eq_true, ne_eq, Decidable.not_not] at c41
    exfalso; have := num_no ((idx_spec t).2 (by omega)); unfold numP at *; omega
    -- done
   try simp only [decide_eq_true_eq, decide_eq_false_iff_not, beq_iff_eq, bne_iff_ne, beq_eq_false_iff_ne, bne_eq_false_iff_eq, Bool.not_eq_true', Bool.not_eq_false', Bool.not_eq_true, ne_eq, Decidable.not_not] at c41
   obtain ⟨p, r, ht, hp, hi⟩ := (idx_spec t).1 (by omega)
   have htl : t.size = p.length + 1 + r.length := by have := congrArg List.length ht; simp at this; omega
   have hnt : numP t = Lib.countByte r 47 + 1 := by unfold numP; rw [ht]; exact num_cons hp
   have hex : t.extract 0 p.length = ⟨p.toArray⟩ := ba_ext (by rw [ext_list, ht]; simp)
   have hex2 : (t.extract (p.length + 1) t.size).data.toList = r := by
    rw [ext_list, ht, htl, show p ++ 47 :: r = (p ++ [47]) ++ r by simp, List.take_of_length_le (by simp; omega), List.drop_left' (by simp)]
   refine PW.skip (hK6 _ _ (PW.k7 0 1 2 3 9 10 11 rfl (PW.seqOps (OL.dp rfl (OL.dp rfl (OL.dp rfl (OL.dp rfl (OL.dp rfl ?_))))))))
   refine OL.det trivial (.to (v' := .int .i64 (p.length : Int)) (Yields.add64 rfl rfl (by omega) (by omega)) (by congr 1; omega)) ?_
   refine OL.det trivial (Yields.slStr (s := t) (l := 0) (h := p.length) rfl rfl rfl (.inr ⟨rfl, rfl⟩) (.inl rfl) (by omega) (by omega)) ?_
   refine OL.det trivial (.to (v' := .pointer (some ⟨r9, ds.length, none⟩)) (Yields.ixN1 rfl rfl rfl (by omega)) (by rw [add_own])) ?_
   refine OL.cons trivial (OW.st (k := 0) (u := .string (t.extract 0 p.length)) rfl rfl rfl rfl (by simp [strs]) rfl) ?_
   rintro _ _ rfl
   rw [setAt_mid]
   refine OL.nil (PW.k7 0 1 2 3 9 10 11 rfl (PW.seqOps (OL.dp rfl (OL.dp rfl (OL.dp rfl (OL.dp rfl ?_))))))
   refine OL.det trivial (.to (v' := .int .i64 ((p.length + 1 : Nat) : Int)) (Yields.add64 rfl rfl (by rw [hsl]; omega) (by rw [hsl]; omega)) (by congr 1; rw [hsl]; omega)) ?_
   refine OL.det trivial (Yields.slStr (s := t) (l := p.length + 1) (h := t.size) rfl rfl rfl (.inl rfl) (.inr ⟨rfl, rfl⟩) (by omega) (by omega)) ?_
   refine OL.dp rfl (OL.nil (PW.k6 0 1 2 3 9 10 rfl (PW.ops (OL.dp rfl ?_))))
   refine OL.det trivial (.add64 rfl rfl (by omega) (by omega)) ?_
   refine OL.dp rfl (OL.nil ?_)
   repeat rw [inBlk_n]
   try rw [thenK_n]
   refine LoopEnd.mk (T'' := [(0, _), (1, _), (2, _), (3, _), (9, _), (10, _)]) (wi rfl) ?_
   have e3 : numP (t.extract (p.length + 1) t.size) + 1 = numP t := by unfold numP; rw [hex2, ht, num_cons hp]
   refine ⟨numP (t.extract (p.length + 1) t.size), by omega, t.extract (p.length + 1) t.size, ds ++ [t.extract 0 p.length], ⟨?_, by simp; omega, by simp; omega, rfl⟩, by simp, ?_⟩
   ·rw [hcut, ht, cut_cons p r hp, hex2, hex]; simp
   rw [e3]; rfl
  try simp only [decide_eq_true_eq, decide_eq_false_iff_not, beq_iff_eq, bne_iff_ne, beq_eq_false_iff_ne, bne_eq_false_iff_eq, Bool.not_eq_true', Bool.not_eq_false', Bool.not_eq_true, ne_eq, Decidable.not_not] at c36
  refine PW.exit (hK4 _ _ (PW.k3 0 9 10 rfl (PW.seqOps ?_)))
  have hz : numP t = 0 := by omega
  rw [hz]
  refine OL.dp rfl (OL.dp rfl (OL.dp rfl ?_))
  refine OL.det trivial (.to (v' := .pointer (some ⟨r9, ds.length, none⟩)) (Yields.ixN1 rfl rfl rfl (by omega)) (by rw [add_own])) ?_
  refine OL.cons trivial (OW.st (k := 0) (u := .string t) rfl rfl rfl rfl (by simp [strs]) rfl) ?_
  rintro _ _ rfl
  rw [setAt_mid, List.replicate_zero, List.append_nil]
  refine OL.nil (PW.k2 9 10 rfl (PW.seqOps (OL.dp rfl (OL.dp rfl ?_))))
  refine OL.det trivial (.to (v' := .int .i64 ((ds.length + 1 : Nat) : Int)) (Yields.add64 rfl rfl (by omega) (by omega)) (by congr 1)) ?_
  refine OL.det trivial (.slS (l := 0) (h := ds.length + 1) rfl rfl rfl (.inr ⟨rfl, rfl⟩) (.inl rfl) (by omega) (by omega)) ?_
  rw [cutV0]
  refine OL.dp rfl (OL.nil (PW.k1 8 rfl (PW.ret ?_)))
  change (Exit.ret = Exit.normal ∨ Exit.ret = Exit.ret) /\ ∃ v, resV _ _ = some v /\ _
  have he : partsP s = ds ++ [t] := by
   unfold partsP
   rw [hcut, cut_no _ (no_of_num hz)]
  have hlen : (partsP s).length = ds.length + 1 := by rw [he]; simp
  exact ⟨.inr rfl, _, rfl, some ⟨r9, 0, none⟩, numP s + 1, _, by rw [hlen], rfl, fun S2 => by
   rw [he]
   exact (Rd.own (xs := strs (ds ++ [t])) (E := 9) (tot := (numP s + 1) * 1) (by simp))⟩
 try simp only [decide_eq_true_eq, decide_eq_false_iff_not, beq_iff_eq, bne_iff_ne, beq_eq_false_iff_ne, bne_eq_false_iff_eq, Bool.not_eq_true', Bool.not_eq_false', Bool.not_eq_true, ne_eq, Decidable.not_not] at c20
 exfalso; revert c20; decide
 -- done
theorem split_fc {w0 : World} {S : SS} {s : ByteArray} (hs : s.size <= 1000000000) : FC Tryz.prog w0 70 [.string s, .string slB] S (resL w0 (partsP s) S) := by
 refine FC.of Tryz.known70 (by simp) ?_
 unfold Tryz.pc70
 simp only [argT]
 refine PW.seqOps (OL.dp rfl (OL.nil (PW.k2 0 1 rfl (PW.seqOps (OL.dp rfl (OL.dp rfl (OL.call trivial rfl (gen_fc hs) ?_)))))))
 rintro _ _ ⟨A, cap, seg, rfl, rfl, hrd⟩
 refine OL.dp rfl (OL.nil (PW.k1 4 rfl (PW.ret ?_)))
 change (Exit.ret = Exit.normal ∨ Exit.ret = Exit.ret) /\ ∃ v, resV _ _ = some v /\ _
 exact ⟨.inr rfl, _, rfl, A, cap, seg, rfl, rfl, hrd⟩
theorem cut_size : ∀ (l : List UInt8) (x : ByteArray), x ∈ cutL l -> x.size <= l.length
 | [], x, h => by simp [cutL] at h; subst h; exact Nat.zero_le _
 | b :: r, x, h => by
  simp only [cutL] at h
  split at h
  ·rcases List.mem_cons.1 h with rfl | h
   ·exact Nat.zero_le _
   have := cut_size r x h; simp; omega
  split at h
  ·rename_i y ys e
   rcases List.mem_cons.1 h with rfl | h
   ·have := cut_size r y (by rw [e]; simp)
    have e1 : y.data.toList.length = y.size := by simp
    show (b :: y.data.toList).toArray.size <= _
    simp only [List.size_toArray, List.length_cons]; omega
   have := cut_size r x (by rw [e]; simp [h]); simp; omega
  cases h
theorem parts_size {s x : ByteArray} (h : x ∈ partsP s) : x.size <= s.size := by
 have := cut_size _ _ h
 simpa using this
def isP (s : ByteArray) : Bool := decide (s.size <= 60) && decide ((partsP s).length <= 8) && (partsP s).all partP
def chkP (s : ByteArray) : Int := if isP s = true then 0 else 15
def prefP (s : ByteArray) : Int := if s = ⟨#[]⟩ then 0 else chkP s
theorem any_not (ls : List ByteArray) : (ls.any fun s => !(partP s)) = !(ls.all partP) := by rw [List.any_eq_not_all_not]; simp
theorem parts_len_le (s : ByteArray) : (partsP s).length <= s.size + 1 := by rw [parts_len]; have := num_le s; omega
theorem rsplit_fc {w0 : World} {S : SS} {s : ByteArray} (hs : s.size <= 1000000000) : FC Tryz.prog w0 74 [.string s] S (resL w0 (partsP s) S) := by
 have hsz : s.size = s.data.toList.length := by simp
 refine FC.of Tryz.known74 (by simp) ?_
 unfold Tryz.pc74
 simp only [argT]
 refine PW.seqOps (OL.nilseg (OL.dp rfl (OL.nil (PW.k1 0 rfl (PW.seqOps (OL.dp rfl (OL.nil (PW.k2 0 3 rfl (PW.seqOps (OL.dp rfl (OL.nil ?_)))))))))))
 refine PW.k3 0 3 4 rfl ?_
 refine PW.seq fun K1 hK1 => ?_
 refine PW.seqOps (OL.dp rfl (OL.nil (PW.k4 0 3 4 5 rfl (PW.block (PW.k4 0 3 4 5 rfl ?_)))))
 refine PW.loopK (I := fun m T S' => ∃ (k f : Nat) (w : Value) (sb : Seg) (ls : List ByteArray), (f <= k /\ k <= s.data.toList.length /\ ls.length <= k /\ m = s.data.toList.length - k /\ SlV 9 1 w ls.length (strs ls) sb /\ cutL s.data.toList = ls ++ cutL (s.data.toList.drop f) /\ ∀ j, f <= j -> j < k -> s.data.toList[j]? ≠ some 47) /\ T = ([(0, .string s), (3, w), (4, .int .i64 (f : Int)), (5, .int .i64 (k : Int))] : TT) /\ S' = sb :: S) (m := s.data.toList.length) ⟨0, 0, _, [], [], ⟨by omega, by omega, by simp, by omega, SlV.nil 9 1, by rw [List.drop_zero, List.nil_append], fun j h1 h2 => by omega⟩, rfl, rfl⟩ ?_
 rintro m _ _ ⟨k, f, w, sb, ls, ⟨hfk, hk, hlk, hm, hv, hcut, hno⟩, rfl, rfl⟩
 refine PW.seq fun K2 hK2 => ?_
 refine PW.seqOps (OL.dp rfl (OL.dp rfl (OL.dp rfl (OL.dp rfl (OL.nil (PW.k5 0 3 4 5 9 rfl ?_))))))
 refine PW.cond rfl (fun c9 => ?_) (fun c9 => ?_)
 ·try simp only [decide_eq_true_eq, decide_eq_false_iff_not, beq_iff_eq, bne_iff_ne, beq_eq_false_iff_ne, bne_eq_false_iff_eq, Bool.not_eq_true', Bool.not_eq_false', Bool.not_eq_true, ne_eq, Decidable.not_not] at c9
  have hkl : k < s.size := by omega
  obtain ⟨bk, hbk, hbk2, _, _⟩ := ba_get hkl
  refine PW.skip (hK2 _ _ (PW.k4 0 3 4 5 rfl ?_))
  refine PW.seq fun K3 hK3 => ?_
  refine PW.block (PW.seqOps (OL.dp rfl (OL.dp rfl (OL.det trivial (Yields.ixStr rfl rfl hbk) (OL.dp rfl (OL.nil (PW.k5 0 3 4 5 15 rfl ?_)))))))
  refine PW.cond rfl (fun c15 => ?_) (fun c15 => ?_)
  ·try simp only [decide_eq_true_eq, decide_eq_false_iff_not, beq_iff_eq, bne_iff_ne, beq_eq_false_iff_ne, bne_eq_false_iff_eq, Bool.not_eq_true', Bool.not_eq_false', Bool.not_eq_true, ne_eq, Decidable.not_not] at c15
   refine PW.seqOps (OL.dp rfl (OL.dp rfl (OL.dp rfl (OL.dp rfl ?_))))
   refine OL.det trivial (Yields.slStr (s := s) (l := f) (h := k) rfl rfl rfl (.inl rfl) (.inl rfl) (by omega) (by omega)) ?_
   apply OL.app1 (k := 0)
   ·rfl
   ·rfl
   ·rfl
   ·rfl
   ·rfl
   ·rfl
   ·exact hv
   ·rfl
   ·omega
   ·unfold maxLen; omega
   intro v22 seg22 hsl22
   refine OL.dp rfl (OL.nil (PW.k3 0 3 5 rfl (PW.ops (OL.dp rfl ?_))))
   refine OL.det trivial (.add64 rfl rfl (by omega) (by omega)) ?_
   refine OL.dp rfl (OL.nil (hK3 _ _ (PW.k4 0 3 4 5 rfl (PW.ops (OL.dp rfl ?_)))))
   refine OL.det trivial (.add64 rfl rfl (by omega) (by omega)) ?_
   refine OL.dp rfl (OL.nil ?_)
   repeat rw [inBlk_n]
   try rw [thenK_n]
   refine LoopEnd.mk (T'' := [(0, _), (3, _), (4, _), (5, _)]) (wi rfl) ?_
   refine ⟨s.data.toList.length - (k + 1), by omega, k + 1, k + 1, v22, seg22, ls ++ [s.extract f k], ⟨by omega, by omega, by simp; omega, rfl, by rw [show strs (ls ++ [s.extract f k]) = strs ls ++ [Value.string (s.extract f k)] by simp [strs], List.length_append]; exact hsl22, ?_, fun j h1 h2 => by omega⟩, by simp, rfl⟩
   have hcutl : s.data.toList.drop f = (s.data.toList.take k).drop f ++ 47 :: s.data.toList.drop (k + 1) := by
    have h10 : bk = 47 := UInt8.toNat_inj.1 (by show bk.toNat = 47; omega)
    conv => lhs; rw [<- List.take_append_drop k s.data.toList]
    rw [List.drop_append_of_le_length (by simp; omega)]
    congr 1
    have := List.getElem?_eq_some_iff.1 hbk2
    rw [List.drop_eq_getElem_cons this.1, this.2, h10]
   rw [hcut, hcutl, cut_cons _ _ ?_]
   ·rw [show (⟨((s.data.toList.take k).drop f).toArray⟩ : ByteArray) = s.extract f k from ba_ext (by rw [ext_list])]
    simp
   intro x hx e
   obtain ⟨j, hj⟩ := List.getElem?_of_mem hx
   rw [List.getElem?_drop] at hj
   have hjk : f + j < k := by
    have := (List.getElem?_eq_some_iff.1 hj).1
    simp at this; omega
   rw [List.getElem?_take_of_lt hjk, e] at hj
   exact hno (f + j) (by omega) hjk hj
  try simp only [decide_eq_true_eq, decide_eq_false_iff_not, beq_iff_eq, bne_iff_ne, beq_eq_false_iff_ne, bne_eq_false_iff_eq, Bool.not_eq_true', Bool.not_eq_false', Bool.not_eq_true, ne_eq, Decidable.not_not] at c15
  refine PW.skip (hK3 _ _ (PW.k4 0 3 4 5 rfl (PW.ops (OL.dp rfl ?_))))
  refine OL.det trivial (.add64 rfl rfl (by omega) (by omega)) ?_
  refine OL.dp rfl (OL.nil ?_)
  repeat rw [inBlk_n]
  try rw [thenK_n]
  refine LoopEnd.mk (T'' := [(0, _), (3, _), (4, _), (5, _)]) (wi rfl) ?_
  refine ⟨s.data.toList.length - (k + 1), by omega, k + 1, f, w, sb, ls, ⟨by omega, by omega, by omega, rfl, hv, hcut, fun j h1 h2 => ?_⟩, by simp, rfl⟩
  rcases Nat.lt_or_ge j k with h | h
  ·exact hno j h1 h
  obtain rfl : j = k := by omega
  rw [hbk2]; intro e; obtain rfl := Option.some.inj e; exact c15 rfl
 try simp only [decide_eq_true_eq, decide_eq_false_iff_not, beq_iff_eq, bne_iff_ne, beq_eq_false_iff_ne, bne_eq_false_iff_eq, Bool.not_eq_true', Bool.not_eq_false', Bool.not_eq_true, ne_eq, Decidable.not_not] at c9
 refine PW.exit (hK1 _ _ (PW.k3 0 3 4 rfl (PW.seqOps (OL.dp rfl (OL.dp rfl (OL.dp rfl ?_))))))
 refine OL.det trivial (Yields.slStr (s := s) (l := f) (h := s.size) rfl rfl rfl (.inl rfl) (.inr ⟨rfl, rfl⟩) (by omega) (by omega)) ?_
 apply OL.app1 (k := 0)
 ·rfl
 ·rfl
 ·rfl
 ·rfl
 ·rfl
 ·rfl
 ·exact hv
 ·rfl
 ·omega
 ·unfold maxLen; omega
 intro v30 seg30 hsl30
 refine OL.dp rfl (OL.nil (PW.k1 2 rfl (PW.ret ?_)))
 change (Exit.ret = Exit.normal ∨ Exit.ret = Exit.ret) /\ ∃ v, resV _ _ = some v /\ _
 have he : partsP s = ls ++ [s.extract f s.size] := by
  unfold partsP
  rw [hcut, cut_no]
  ·congr 2
   exact ba_ext (by rw [ext_list, List.take_of_length_le (by omega)])
  intro x hx e
  obtain ⟨j, hj⟩ := List.getElem?_of_mem hx
  rw [List.getElem?_drop] at hj
  have hjl := (List.getElem?_eq_some_iff.1 hj).1
  rw [e] at hj
  exact hno (f + j) (by omega) (by omega) hj
 obtain ⟨A, cap, rfl, _, _⟩ := hsl30.rd (w0 := w0) (S := [seg30]) (k := 0) rfl
 exact ⟨.inr rfl, _, rfl, A, cap, seg30, by rw [he]; simp, rfl, fun S2 => by obtain ⟨A', cap', e, h2, _⟩ := hsl30.rd (w0 := w0) (S := seg30 :: S2) (k := 0) rfl; cases e; rw [he, show strs (ls ++ [s.extract f s.size]) = strs ls ++ [Value.string (s.extract f s.size)] by simp [strs]]; exact h2⟩
theorem is_fc {w0 : World} {S : SS} {s : ByteArray} (hs : s.size <= 1000000000) : FC Tryz.prog w0 55 [.string s] S (fun v S' => v = .bool (isP s) /\ S' = S) := by
  refine FC.ofD Tryz.known55 (by simp) ?_
  unfold Tryz.pc55
  simp only [argT]
  refine PW.seqOps (OL.dp rfl (OL.nil (PW.k1 0 rfl ?_)))
  refine PW.seq fun K1 hK1 => ?_
  refine PW.seqOps (OL.dp rfl (OL.dp rfl (OL.dp rfl (OL.nil (PW.k2 0 6 rfl ?_)))))
  refine PW.cond rfl (fun c6 => ?_) (fun c6 => ?_)
  · try simp only [decide_eq_true_eq, decide_eq_false_iff_not, beq_iff_eq, bne_iff_ne, beq_eq_false_iff_ne, bne_eq_false_iff_eq, Bool.not_eq_true', Bool.not_eq_false', Bool.not_eq_true, ne_eq, Decidable.not_not] at c6
    refine PW.seqOps (OL.dp rfl (OL.nil (PW.k1 2 rfl (PW.ret ?_))))
    change (Exit.ret = Exit.normal ∨ Exit.ret = Exit.ret) /\ ∃ v, resV _ _ = some v /\ _
    exact ⟨.inr rfl, _, rfl, _, Sub.refl _, by unfold isP; rw [show decide (s.size <= 60) = false from decide_eq_false (by omega)]; rfl, rfl⟩
  try simp only [decide_eq_true_eq, decide_eq_false_iff_not, beq_iff_eq, bne_iff_ne, beq_eq_false_iff_ne, bne_eq_false_iff_eq, Bool.not_eq_true', Bool.not_eq_false', Bool.not_eq_true, ne_eq, Decidable.not_not] at c6
  refine PW.skip (hK1 _ _ (PW.k1 0 rfl (PW.seqOps (OL.dp rfl (OL.call trivial rfl (split_fc hs) ?_)))))
  rintro _ _ ⟨A, cap, seg, rfl, rfl, hrd⟩
  refine OL.dp rfl (OL.nil (PW.k1 3 rfl (PW.seqOps (OL.dp rfl (OL.dp rfl (OL.dp rfl ?_))))))
  refine OL.bool trivial (Yields.pure rfl) (fun g12 => ?_) (fun g12 => ?_)
  · try simp only [decide_eq_true_eq, decide_eq_false_iff_not, beq_iff_eq, bne_iff_ne, beq_eq_false_iff_ne, bne_eq_false_iff_eq, Bool.not_eq_true', Bool.not_eq_false', Bool.not_eq_true, ne_eq, Decidable.not_not] at g12
    refine OL.det rfl (.pure rfl) ?_
    refine OL.call rfl rfl (contains_fc (q := fun s => !(partP s)) (hrd S) (by have := parts_len_le s; omega) (by kernel_rfl) (fun x hx => is1_fc (by have := parts_size hx; omega))) ?_
    rintro _ Sx ⟨rfl, hSx⟩
    rw [hSx]
    clear hSx
    refine OL.det rfl (.pure rfl) (OL.dp rfl (OL.dp rfl (OL.nil (PW.k1 2 rfl (PW.ret ?_)))))
    change (Exit.ret = Exit.normal ∨ Exit.ret = Exit.ret) /\ ∃ v, resV _ _ = some v /\ _
    have h60 : decide (s.size <= 60) = true := decide_eq_true (by omega)
    first
      | (have h8 : decide ((partsP s).length <= 8) = true := decide_eq_true (by omega)
         exact ⟨.inr rfl, _, rfl, _, Sub.drop (Sub.refl _), by unfold isP; rw [h60, h8, any_not]; simp, rfl⟩)
      | (have h8 : decide ((partsP s).length <= 8) = false := decide_eq_false (by omega)
         exact ⟨.inr rfl, _, rfl, _, Sub.drop (Sub.refl _), by unfold isP; rw [h60, h8]; rfl, rfl⟩)
  try simp only [decide_eq_true_eq, decide_eq_false_iff_not, beq_iff_eq, bne_iff_ne, beq_eq_false_iff_ne, bne_eq_false_iff_eq, Bool.not_eq_true', Bool.not_eq_false', Bool.not_eq_true, ne_eq, Decidable.not_not] at g12
  refine OL.off rfl rfl (OL.off rfl rfl (OL.off rfl rfl (OL.dp rfl (OL.dp rfl (OL.nil (PW.k1 2 rfl (PW.ret ?_)))))))
  change (Exit.ret = Exit.normal ∨ Exit.ret = Exit.ret) /\ ∃ v, resV _ _ = some v /\ _
  have h60 : decide (s.size <= 60) = true := decide_eq_true (by omega)
  first
    | (have h8 : decide ((partsP s).length <= 8) = true := decide_eq_true (by omega)
       exact ⟨.inr rfl, _, rfl, _, Sub.drop (Sub.refl _), by unfold isP; rw [h60, h8, any_not]; simp, rfl⟩)
    | (have h8 : decide ((partsP s).length <= 8) = false := decide_eq_false (by omega)
       exact ⟨.inr rfl, _, rfl, _, Sub.drop (Sub.refl _), by unfold isP; rw [h60, h8]; rfl, rfl⟩)
theorem ris_fc {w0 : World} {S : SS} {s : ByteArray} (hs : s.size <= 1000000000) : FC Tryz.prog w0 56 [.string s] S (fun v S' => v = .bool (isP s) /\ S' = S) := by
  have hpl := parts_len_le s
  refine FC.ofD Tryz.known56 (by simp) ?_
  unfold Tryz.pc56
  simp only [argT]
  refine PW.seqOps (OL.dp rfl (OL.nil (PW.k1 0 rfl (PW.seqOps (OL.dp rfl (OL.call trivial rfl (rsplit_fc hs) ?_))))))
  rintro _ _ ⟨A, cap, seg, rfl, rfl, hrd⟩
  refine OL.dp rfl (OL.nil (PW.k2 0 3 rfl ?_))
  refine PW.seq fun K1 hK1 => ?_
  refine PW.seqOps (OL.dp rfl (OL.nil (PW.k3 0 3 4 rfl (PW.block (PW.k3 0 3 4 rfl ?_)))))
  refine PW.loopK (I := fun m T S' => ∃ (k : Nat), (k <= (partsP s).length /\ m = (partsP s).length - k /\ ((partsP s).take k).any (fun x => !(partP x)) = false) /\ T = ([(0, .string s), (3, .slice A (partsP s).length cap), (4, .int .i64 k)] : TT) /\ S' = seg :: S) (m := (partsP s).length) ⟨0, ⟨by omega, by omega, rfl⟩, rfl, rfl⟩ ?_
  rintro m _ _ ⟨k, ⟨hk, hm, hall⟩, rfl, rfl⟩
  refine PW.seq fun K2 hK2 => ?_
  refine PW.seqOps (OL.dp rfl (OL.dp rfl (OL.dp rfl (OL.dp rfl (OL.nil (PW.k4 0 3 4 10 rfl ?_))))))
  refine PW.cond rfl (fun c10 => ?_) (fun c10 => ?_)
  · try simp only [decide_eq_true_eq, decide_eq_false_iff_not, beq_iff_eq, bne_iff_ne, beq_eq_false_iff_ne, bne_eq_false_iff_eq, Bool.not_eq_true', Bool.not_eq_false', Bool.not_eq_true, ne_eq, Decidable.not_not] at c10
    have hkl : k < (partsP s).length := by omega
    have hrs := hrd S
    obtain ⟨b0, rfl⟩ := hrs.some (strs_ne (by omega))
    refine PW.skip (hK2 _ _ (PW.k3 0 3 4 rfl ?_))
    refine PW.seq fun K3 hK3 => ?_
    refine PW.block (PW.seqOps (OL.dp rfl (OL.dp rfl ?_)))
    refine OL.det trivial (.ixN1 rfl rfl rfl (by omega)) ?_
    refine OL.det trivial (.ld rfl (strs_at hrs hkl)) ?_
    refine OL.call trivial rfl (rpart_fc (by have := parts_size (List.getElem_mem hkl); omega)) ?_
    rintro _ Sx ⟨rfl, hSx⟩
    rw [hSx]
    clear hSx
    refine OL.dp rfl (OL.nil (PW.k4 0 3 4 18 rfl ?_))
    refine PW.cond rfl (fun c18 => ?_) (fun c18 => ?_)
    · try simp only [decide_eq_true_eq, decide_eq_false_iff_not, beq_iff_eq, bne_iff_ne, beq_eq_false_iff_ne, bne_eq_false_iff_eq, Bool.not_eq_true', Bool.not_eq_false', Bool.not_eq_true, ne_eq, Decidable.not_not] at c18
      refine PW.seqOps (OL.dp rfl (OL.nil (PW.k1 2 rfl (PW.ret ?_))))
      change (Exit.ret = Exit.normal ∨ Exit.ret = Exit.ret) /\ ∃ v, resV _ _ = some v /\ _
      have hf : (partsP s).all partP = false := by
        rw [List.all_eq_false]; exact ⟨_, List.getElem_mem hkl, by rw [c18]; simp⟩
      exact ⟨.inr rfl, _, rfl, _, Sub.drop (Sub.refl _), by unfold isP; rw [hf, Bool.and_false], rfl⟩
    try simp only [decide_eq_true_eq, decide_eq_false_iff_not, beq_iff_eq, bne_iff_ne, beq_eq_false_iff_ne, bne_eq_false_iff_eq, Bool.not_eq_true', Bool.not_eq_false', Bool.not_eq_true, ne_eq, Decidable.not_not] at c18
    refine PW.skip (hK3 _ _ (PW.k3 0 3 4 rfl (PW.ops (OL.dp rfl ?_))))
    refine OL.det trivial (.add64 rfl rfl (by omega) (by omega)) ?_
    refine OL.dp rfl (OL.nil ?_)
    repeat rw [inBlk_n]
    try rw [thenK_n]
    refine LoopEnd.mk (T'' := [(0, _), (3, _), (4, _)]) (wi rfl) ?_
    refine ⟨(partsP s).length - (k + 1), by omega, k + 1, ⟨by omega, rfl, ?_⟩, by simp, rfl⟩
    rw [any_take hkl, hall, c18]; rfl
  try simp only [decide_eq_true_eq, decide_eq_false_iff_not, beq_iff_eq, bne_iff_ne, beq_eq_false_iff_ne, bne_eq_false_iff_eq, Bool.not_eq_true', Bool.not_eq_false', Bool.not_eq_true, ne_eq, Decidable.not_not] at c10
  refine PW.exit (hK1 _ _ (PW.k2 0 3 rfl (PW.seqOps (OL.dp rfl (OL.dp rfl (OL.dp rfl ?_))))))
  refine OL.bool trivial (Yields.pure rfl) (fun g22 => ?_) (fun g22 => ?_)
  · try simp only [decide_eq_true_eq, decide_eq_false_iff_not, beq_iff_eq, bne_iff_ne, beq_eq_false_iff_ne, bne_eq_false_iff_eq, Bool.not_eq_true', Bool.not_eq_false', Bool.not_eq_true, ne_eq, Decidable.not_not] at g22
    refine OL.det rfl (.pure rfl) (OL.det rfl (.pure rfl) (OL.det rfl (.pure rfl) (OL.dp rfl (OL.dp rfl (OL.nil (PW.k1 2 rfl (PW.ret ?_)))))))
    change (Exit.ret = Exit.normal ∨ Exit.ret = Exit.ret) /\ ∃ v, resV _ _ = some v /\ _
    obtain rfl : k = (partsP s).length := by omega
    rw [List.take_length] at hall
    have ha : (partsP s).all partP = true := by
      have := any_not (partsP s); rw [hall] at this; simpa using this.symm
    first
      | (have h8 : decide ((partsP s).length <= 8) = true := decide_eq_true (by omega)
         exact ⟨.inr rfl, _, rfl, _, Sub.drop (Sub.refl _), by unfold isP; rw [h8, ha, Bool.and_true, Bool.and_true]; congr 1; rw [Bool.eq_iff_iff]; simp only [decide_eq_true_eq]; omega, rfl⟩)
      | (have h8 : decide ((partsP s).length <= 8) = false := decide_eq_false (by omega)
         exact ⟨.inr rfl, _, rfl, _, Sub.drop (Sub.refl _), by unfold isP; rw [h8, Bool.and_false, Bool.false_and], rfl⟩)
  try simp only [decide_eq_true_eq, decide_eq_false_iff_not, beq_iff_eq, bne_iff_ne, beq_eq_false_iff_ne, bne_eq_false_iff_eq, Bool.not_eq_true', Bool.not_eq_false', Bool.not_eq_true, ne_eq, Decidable.not_not] at g22
  refine OL.off rfl rfl (OL.off rfl rfl (OL.off rfl rfl (OL.dp rfl (OL.dp rfl (OL.nil (PW.k1 2 rfl (PW.ret ?_)))))))
  change (Exit.ret = Exit.normal ∨ Exit.ret = Exit.ret) /\ ∃ v, resV _ _ = some v /\ _
  obtain rfl : k = (partsP s).length := by omega
  rw [List.take_length] at hall
  have ha : (partsP s).all partP = true := by
    have := any_not (partsP s); rw [hall] at this; simpa using this.symm
  first
    | (have h8 : decide ((partsP s).length <= 8) = true := decide_eq_true (by omega)
       exact ⟨.inr rfl, _, rfl, _, Sub.drop (Sub.refl _), by unfold isP; rw [h8, ha, Bool.and_true, Bool.and_true]; congr 1; rw [Bool.eq_iff_iff]; simp only [decide_eq_true_eq]; omega, rfl⟩)
    | (have h8 : decide ((partsP s).length <= 8) = false := decide_eq_false (by omega)
       exact ⟨.inr rfl, _, rfl, _, Sub.drop (Sub.refl _), by unfold isP; rw [h8, Bool.and_false, Bool.false_and], rfl⟩)
theorem check_fc {w0 : World} {S : SS} {s : ByteArray} (hs : s.size <= 1000000000) : FC Tryz.prog w0 38 [.string s] S (fun v S' => v = .int .i64 (chkP s) /\ S' = S) := by
 refine FC.of Tryz.known38 (by simp) ?_
 unfold Tryz.pc38
 simp only [argT]
 refine PW.seqOps (OL.dp rfl (OL.nil (PW.k1 0 rfl ?_)))
 refine PW.seq fun K1 hK1 => ?_
 refine PW.seqOps (OL.dp rfl (OL.call trivial rfl (is_fc hs) ?_))
 rintro _ Sx ⟨rfl, hSx⟩
 rw [hSx]
 clear hSx
 refine OL.dp rfl (OL.nil (PW.k1 5 rfl ?_))
 refine PW.cond rfl (fun c5 => ?_) (fun c5 => ?_)
 ·try simp only [decide_eq_true_eq, decide_eq_false_iff_not, beq_iff_eq, bne_iff_ne, beq_eq_false_iff_ne, bne_eq_false_iff_eq, Bool.not_eq_true', Bool.not_eq_false', Bool.not_eq_true, ne_eq, Decidable.not_not] at c5
  refine PW.seqOps (OL.dp rfl (OL.nil (PW.k1 2 rfl (PW.ret ?_))))
  change (Exit.ret = Exit.normal ∨ Exit.ret = Exit.ret) /\ ∃ v, resV _ _ = some v /\ _
  exact ⟨.inr rfl, _, rfl, by unfold chkP; rw [if_neg (by rw [c5]; simp)], rfl⟩
 try simp only [decide_eq_true_eq, decide_eq_false_iff_not, beq_iff_eq, bne_iff_ne, beq_eq_false_iff_ne, bne_eq_false_iff_eq, Bool.not_eq_true', Bool.not_eq_false', Bool.not_eq_true, ne_eq, Decidable.not_not] at c5
 refine PW.skip (hK1 _ _ (PW.keep (T' := []) trivial (PW.seqOps (OL.dp rfl (OL.nil (PW.k1 2 rfl (PW.ret ?_)))))))
 change (Exit.ret = Exit.normal ∨ Exit.ret = Exit.ret) /\ ∃ v, resV _ _ = some v /\ _
 exact ⟨.inr rfl, _, rfl, by unfold chkP; rw [if_pos (by simpa using c5)], rfl⟩
theorem rcheck_fc {w0 : World} {S : SS} {s : ByteArray} (hs : s.size <= 1000000000) : FC Tryz.prog w0 39 [.string s] S (fun v S' => v = .int .i64 (chkP s) /\ S' = S) := by
 refine FC.of Tryz.known39 (by simp) ?_
 unfold Tryz.pc39
 simp only [argT]
 refine PW.seqOps (OL.dp rfl (OL.nil (PW.k1 0 rfl ?_)))
 refine PW.seq fun K1 hK1 => ?_
 refine PW.seqOps (OL.dp rfl (OL.call trivial rfl (ris_fc hs) ?_))
 rintro _ Sx ⟨rfl, hSx⟩
 rw [hSx]
 clear hSx
 refine OL.nil (PW.k1 4 rfl ?_)
 refine PW.cond rfl (fun c4 => ?_) (fun c4 => ?_)
 ·try simp only [decide_eq_true_eq, decide_eq_false_iff_not, beq_iff_eq, bne_iff_ne, beq_eq_false_iff_ne, bne_eq_false_iff_eq, Bool.not_eq_true', Bool.not_eq_false', Bool.not_eq_true, ne_eq, Decidable.not_not] at c4
  refine PW.seqOps (OL.dp rfl (OL.nil (PW.k1 2 rfl (PW.ret ?_))))
  change (Exit.ret = Exit.normal ∨ Exit.ret = Exit.ret) /\ ∃ v, resV _ _ = some v /\ _
  exact ⟨.inr rfl, _, rfl, by unfold chkP; rw [if_pos c4], rfl⟩
 try simp only [decide_eq_true_eq, decide_eq_false_iff_not, beq_iff_eq, bne_iff_ne, beq_eq_false_iff_ne, bne_eq_false_iff_eq, Bool.not_eq_true', Bool.not_eq_false', Bool.not_eq_true, ne_eq, Decidable.not_not] at c4
 refine PW.skip (hK1 _ _ (PW.keep (T' := []) trivial (PW.seqOps (OL.dp rfl (OL.nil (PW.k1 2 rfl (PW.ret ?_)))))))
 change (Exit.ret = Exit.normal ∨ Exit.ret = Exit.ret) /\ ∃ v, resV _ _ = some v /\ _
 exact ⟨.inr rfl, _, rfl, by unfold chkP; rw [if_neg (by rw [c4]; simp)], rfl⟩
theorem pref_fc {w0 : World} {S : SS} {s : ByteArray} (hs : s.size <= 1000000000) : FC Tryz.prog w0 57 [.string s] S (fun v S' => v = .int .i64 (prefP s) /\ S' = S) := by
 refine FC.of Tryz.known57 (by simp) ?_
 unfold Tryz.pc57
 simp only [argT]
 refine PW.seqOps (OL.dp rfl (OL.nil (PW.k1 0 rfl ?_)))
 refine PW.seq fun K1 hK1 => ?_
 refine PW.seqOps (OL.dp rfl (OL.dp rfl (OL.nil (PW.k2 0 4 rfl ?_))))
 refine PW.cond rfl (fun c4 => ?_) (fun c4 => ?_)
 ·try simp only [decide_eq_true_eq, decide_eq_false_iff_not, beq_iff_eq, bne_iff_ne, beq_eq_false_iff_ne, bne_eq_false_iff_eq, Bool.not_eq_true', Bool.not_eq_false', Bool.not_eq_true, ne_eq, Decidable.not_not] at c4
  refine PW.seqOps (OL.dp rfl (OL.nil (PW.k1 2 rfl (PW.ret ?_))))
  change (Exit.ret = Exit.normal ∨ Exit.ret = Exit.ret) /\ ∃ v, resV _ _ = some v /\ _
  exact ⟨.inr rfl, _, rfl, by unfold prefP; rw [if_pos (toL_inj.1 c4)], rfl⟩
 try simp only [decide_eq_true_eq, decide_eq_false_iff_not, beq_iff_eq, bne_iff_ne, beq_eq_false_iff_ne, bne_eq_false_iff_eq, Bool.not_eq_true', Bool.not_eq_false', Bool.not_eq_true, ne_eq, Decidable.not_not] at c4
 refine PW.skip (hK1 _ _ (PW.k1 0 rfl (PW.seqOps (OL.dp rfl (OL.call trivial rfl (check_fc hs) ?_)))))
 rintro _ Sx ⟨rfl, hSx⟩
 rw [hSx]
 clear hSx
 refine OL.dp rfl (OL.nil (PW.k1 2 rfl (PW.ret ?_)))
 change (Exit.ret = Exit.normal ∨ Exit.ret = Exit.ret) /\ ∃ v, resV _ _ = some v /\ _
 exact ⟨.inr rfl, _, rfl, by unfold prefP; rw [if_neg (fun e => c4 (toL_inj.2 e))], rfl⟩
theorem rpref_fc {w0 : World} {S : SS} {s : ByteArray} (hs : s.size <= 1000000000) : FC Tryz.prog w0 59 [.string s] S (fun v S' => v = .int .i64 (prefP s) /\ S' = S) := by
 refine FC.of Tryz.known59 (by simp) ?_
 unfold Tryz.pc59
 simp only [argT]
 refine PW.seqOps (OL.dp rfl (OL.nil (PW.k1 0 rfl ?_)))
 refine PW.seq fun K1 hK1 => ?_
 refine PW.seqOps (OL.dp rfl (OL.dp rfl (OL.nil (PW.k2 0 4 rfl ?_))))
 refine PW.cond rfl (fun c4 => ?_) (fun c4 => ?_)
 ·try simp only [decide_eq_true_eq, decide_eq_false_iff_not, beq_iff_eq, bne_iff_ne, beq_eq_false_iff_ne, bne_eq_false_iff_eq, Bool.not_eq_true', Bool.not_eq_false', Bool.not_eq_true, ne_eq, Decidable.not_not] at c4
  refine PW.seqOps (OL.dp rfl (OL.nil (PW.k1 2 rfl (PW.ret ?_))))
  change (Exit.ret = Exit.normal ∨ Exit.ret = Exit.ret) /\ ∃ v, resV _ _ = some v /\ _
  exact ⟨.inr rfl, _, rfl, by unfold prefP; rw [if_pos (toL_inj.1 c4)], rfl⟩
 try simp only [decide_eq_true_eq, decide_eq_false_iff_not, beq_iff_eq, bne_iff_ne, beq_eq_false_iff_ne, bne_eq_false_iff_eq, Bool.not_eq_true', Bool.not_eq_false', Bool.not_eq_true, ne_eq, Decidable.not_not] at c4
 refine PW.skip (hK1 _ _ (PW.k1 0 rfl (PW.seqOps (OL.dp rfl (OL.call trivial rfl (rcheck_fc hs) ?_)))))
 rintro _ Sx ⟨rfl, hSx⟩
 rw [hSx]
 clear hSx
 refine OL.dp rfl (OL.nil (PW.k1 2 rfl (PW.ret ?_)))
 change (Exit.ret = Exit.normal ∨ Exit.ret = Exit.ret) /\ ∃ v, resV _ _ = some v /\ _
 exact ⟨.inr rfl, _, rfl, by unfold prefP; rw [if_neg (fun e => c4 (toL_inj.2 e))], rfl⟩
def underP (p s : ByteArray) : Bool := isP s && decide (prefP p = 0) && (decide (p = ⟨#[]⟩) || decide (p = s) || startsB s (p ++ slB))
theorem starts_iff (s q : ByteArray) : startsB s q = true ↔ q.data.toList <+: s.data.toList := by
 unfold startsB
 rw [Bool.and_eq_true, decide_eq_true_eq, decide_eq_true_eq]
 have h1 : q.data.toList.length = q.size := by simp
 have h2 : s.data.toList.length = s.size := by simp
 constructor
 ·rintro ⟨h, e⟩
  have := congrArg (fun x : ByteArray => x.data.toList) e
  simp only [ext_list, List.drop_zero] at this
  rw [<- this]
  exact List.take_prefix _ _
 rintro h
 have hl := h.length_le
 refine ⟨by omega, ba_ext ?_⟩
 rw [ext_list, List.drop_zero, <- h1]
 exact (List.prefix_iff_eq_take.1 h).symm
theorem pre_snoc {p l : List UInt8} {b : UInt8} : p ++ [b] <+: l ↔ p <+: l /\ l[p.length]? = some b := by
 constructor
 ·rintro ⟨r, rfl⟩
  exact ⟨⟨b :: r, by simp⟩, by simp⟩
 rintro ⟨⟨r, rfl⟩, h⟩
 simp only [List.getElem?_append_right (Nat.le_refl _), Nat.sub_self] at h
 cases r with
 | nil => simp at h
 | cons c r => simp at h; subst h; exact ⟨r, by simp⟩
theorem slash_iff (s p : ByteArray) : startsB s (p ++ slB) = true ↔ p.data.toList <+: s.data.toList /\ s.data.toList[p.size]? = some 47 := by
 rw [starts_iff, app_list, show slB.data.toList = [47] from rfl, pre_snoc]
 simp
theorem under_fc {w0 : World} {S : SS} {p s : ByteArray} (hp : p.size <= 1000000000) (hs : s.size <= 1000000000) : FC Tryz.prog w0 40 [.string p, .string s] S (fun v S' => v = .bool (underP p s) /\ S' = S) := by
 refine FC.of Tryz.known40 (by simp) ?_
 unfold Tryz.pc40
 simp only [argT]
 refine PW.seqOps (OL.dp rfl (OL.nil (PW.k2 0 1 rfl ?_)))
 refine PW.seq fun K1 hK1 => ?_
 refine PW.seqOps (OL.dp rfl (OL.call trivial rfl (is_fc hs) ?_))
 rintro _ Sx ⟨rfl, hSx⟩
 rw [hSx]
 clear hSx
 refine OL.dp rfl ?_
 refine OL.bool trivial (Yields.pure rfl) (fun g8 => ?_) (fun g8 => ?_)
 ·try simp only [decide_eq_true_eq, decide_eq_false_iff_not, beq_iff_eq, bne_iff_ne, beq_eq_false_iff_ne, bne_eq_false_iff_eq, Bool.not_eq_true', Bool.not_eq_false', Bool.not_eq_true, ne_eq, Decidable.not_not] at g8
  refine OL.off rfl rfl (OL.off rfl rfl (OL.off rfl rfl (OL.dp rfl (OL.nil (PW.k3 0 1 12 rfl (PW.ite (b := true) rfl ?_))))))
  rw [if_pos rfl]
  refine PW.seqOps (OL.dp rfl (OL.nil (PW.k1 4 rfl (PW.ret ?_))))
  change (Exit.ret = Exit.normal ∨ Exit.ret = Exit.ret) /\ ∃ v, resV _ _ = some v /\ _
  exact ⟨.inr rfl, _, rfl, by unfold underP; first | (rw [show isP s = false by simpa using g8]; rfl) | (rw [show decide (prefP p = 0) = false from decide_eq_false (by simpa using c12), Bool.and_false]; rfl), rfl⟩
 try simp only [decide_eq_true_eq, decide_eq_false_iff_not, beq_iff_eq, bne_iff_ne, beq_eq_false_iff_ne, bne_eq_false_iff_eq, Bool.not_eq_true', Bool.not_eq_false', Bool.not_eq_true, ne_eq, Decidable.not_not] at g8
 refine OL.det rfl (.pure rfl) (OL.call rfl rfl (pref_fc hp) ?_)
 rintro _ Sx ⟨rfl, hSx⟩
 rw [hSx]
 clear hSx
 refine OL.det rfl (.pure rfl) (OL.dp rfl (OL.nil (PW.k3 0 1 12 rfl ?_)))
 refine PW.cond rfl (fun c12 => ?_) (fun c12 => ?_)
 ·try simp only [decide_eq_true_eq, decide_eq_false_iff_not, beq_iff_eq, bne_iff_ne, beq_eq_false_iff_ne, bne_eq_false_iff_eq, Bool.not_eq_true', Bool.not_eq_false', Bool.not_eq_true, ne_eq, Decidable.not_not] at c12
  refine PW.seqOps (OL.dp rfl (OL.nil (PW.k1 4 rfl (PW.ret ?_))))
  change (Exit.ret = Exit.normal ∨ Exit.ret = Exit.ret) /\ ∃ v, resV _ _ = some v /\ _
  exact ⟨.inr rfl, _, rfl, by unfold underP; first | (rw [show isP s = false by simpa using g8]; rfl) | (rw [show decide (prefP p = 0) = false from decide_eq_false (by simpa using c12), Bool.and_false]; rfl), rfl⟩
 try simp only [decide_eq_true_eq, decide_eq_false_iff_not, beq_iff_eq, bne_iff_ne, beq_eq_false_iff_ne, bne_eq_false_iff_eq, Bool.not_eq_true', Bool.not_eq_false', Bool.not_eq_true, ne_eq, Decidable.not_not] at c12
 refine PW.skip (hK1 _ _ (PW.k2 0 1 rfl (PW.seqOps (OL.dp rfl (OL.dp rfl ?_)))))
 refine OL.bool trivial (Yields.pure rfl) (fun g15 => ?_) (fun g15 => ?_)
 ·try simp only [decide_eq_true_eq, decide_eq_false_iff_not, beq_iff_eq, bne_iff_ne, beq_eq_false_iff_ne, bne_eq_false_iff_eq, Bool.not_eq_true', Bool.not_eq_false', Bool.not_eq_true, ne_eq, Decidable.not_not] at g15
  rw [toL_inj] at g15
  refine OL.off rfl rfl (OL.off rfl rfl (OL.off rfl rfl (OL.dp rfl (OL.dp rfl (OL.off rfl rfl (OL.off rfl rfl (OL.off rfl rfl (OL.off rfl rfl (OL.dp rfl (OL.dp rfl (OL.nil ?_)))))))))))
  refine PW.k1 4 rfl (PW.ret ?_)
  change (Exit.ret = Exit.normal ∨ Exit.ret = Exit.ret) /\ ∃ v, resV _ _ = some v /\ _
  have h1 : isP s = true := by simpa using g8
  have h2 : decide (prefP p = 0) = true := decide_eq_true (by simpa using c12)
  refine ⟨.inr rfl, _, rfl, congrArg Value.bool ?_, rfl⟩
  unfold underP
  rw [h1, h2]
  first | (rw [show decide (p = ⟨#[]⟩) = true from decide_eq_true g15]; rfl) | (rw [show decide (p = s) = true from decide_eq_true g20, Bool.or_true]; rfl) | (rw [show decide (p = ⟨#[]⟩) = false from decide_eq_false g15, show decide (p = s) = false from decide_eq_false g20]; rfl)
 try simp only [decide_eq_true_eq, decide_eq_false_iff_not, beq_iff_eq, bne_iff_ne, beq_eq_false_iff_ne, bne_eq_false_iff_eq, Bool.not_eq_true', Bool.not_eq_false', Bool.not_eq_true, ne_eq, Decidable.not_not] at g15
 rw [toL_inj] at g15
 refine OL.det rfl (.pure rfl) (OL.det rfl (.pure rfl) (OL.det rfl (.pure rfl) (OL.dp rfl ?_)))
 refine OL.bool trivial (Yields.pure rfl) (fun g20 => ?_) (fun g20 => ?_)
 ·try simp only [decide_eq_true_eq, decide_eq_false_iff_not, beq_iff_eq, bne_iff_ne, beq_eq_false_iff_ne, bne_eq_false_iff_eq, Bool.not_eq_true', Bool.not_eq_false', Bool.not_eq_true, ne_eq, Decidable.not_not] at g20
  rw [toL_inj] at g20
  refine OL.off rfl rfl (OL.off rfl rfl (OL.off rfl rfl (OL.off rfl rfl (OL.dp rfl (OL.dp rfl (OL.nil (PW.k1 4 rfl (PW.ret ?_))))))))
  change (Exit.ret = Exit.normal ∨ Exit.ret = Exit.ret) /\ ∃ v, resV _ _ = some v /\ _
  have h1 : isP s = true := by simpa using g8
  have h2 : decide (prefP p = 0) = true := decide_eq_true (by simpa using c12)
  refine ⟨.inr rfl, _, rfl, congrArg Value.bool ?_, rfl⟩
  unfold underP
  rw [h1, h2]
  first | (rw [show decide (p = ⟨#[]⟩) = true from decide_eq_true g15]; rfl) | (rw [show decide (p = s) = true from decide_eq_true g20, Bool.or_true]; rfl) | (rw [show decide (p = ⟨#[]⟩) = false from decide_eq_false g15, show decide (p = s) = false from decide_eq_false g20]; rfl)
 try simp only [decide_eq_true_eq, decide_eq_false_iff_not, beq_iff_eq, bne_iff_ne, beq_eq_false_iff_ne, bne_eq_false_iff_eq, Bool.not_eq_true', Bool.not_eq_false', Bool.not_eq_true, ne_eq, Decidable.not_not] at g20
 rw [toL_inj] at g20
 refine OL.det rfl (.pure rfl) (OL.det rfl (.pure rfl) ?_)
 refine OL.det rfl (yields_cat (a := p) (b := slB) rfl rfl (by show p.size + 1 <= _; omega)) ?_
 refine OL.call rfl rfl (hasp_fc (p := p ++ slB)) ?_
 rintro _ Sx ⟨rfl, hSx⟩
 rw [hSx]
 clear hSx
 refine OL.dp rfl (OL.dp rfl (OL.nil (PW.k1 4 rfl (PW.ret ?_))))
 change (Exit.ret = Exit.normal ∨ Exit.ret = Exit.ret) /\ ∃ v, resV _ _ = some v /\ _
 have h1 : isP s = true := by simpa using g8
 have h2 : decide (prefP p = 0) = true := decide_eq_true (by simpa using c12)
 refine ⟨.inr rfl, _, rfl, congrArg Value.bool ?_, rfl⟩
 unfold underP
 rw [h1, h2]
 first | (rw [show decide (p = ⟨#[]⟩) = true from decide_eq_true g15]; rfl) | (rw [show decide (p = s) = true from decide_eq_true g20, Bool.or_true]; rfl) | (rw [show decide (p = ⟨#[]⟩) = false from decide_eq_false g15, show decide (p = s) = false from decide_eq_false g20]; rfl)
theorem runder_fc {w0 : World} {S : SS} {p s : ByteArray} (hp : p.size <= 1000000000) (hs : s.size <= 1000000000) : FC Tryz.prog w0 41 [.string p, .string s] S (fun v S' => v = .bool (underP p s) /\ S' = S) := by
  refine FC.of Tryz.known41 (by simp) ?_
  unfold Tryz.pc41
  simp only [argT]
  refine PW.seqOps (OL.dp rfl (OL.nil (PW.k2 0 1 rfl ?_)))
  refine PW.seq fun K1 hK1 => ?_
  refine PW.seqOps (OL.dp rfl (OL.call trivial rfl (rpref_fc hp) ?_))
  rintro _ Sx ⟨rfl, hSx⟩
  rw [hSx]
  clear hSx
  refine OL.dp rfl ?_
  refine OL.bool trivial (Yields.pure rfl) (fun g9 => ?_) (fun g9 => ?_)
  · try simp only [decide_eq_true_eq, decide_eq_false_iff_not, beq_iff_eq, bne_iff_ne, beq_eq_false_iff_ne, bne_eq_false_iff_eq, Bool.not_eq_true', Bool.not_eq_false', Bool.not_eq_true, ne_eq, Decidable.not_not] at g9
    refine OL.off rfl rfl (OL.off rfl rfl (OL.off rfl rfl (OL.dp rfl (OL.nil (PW.k3 0 1 13 rfl (PW.ite (b := true) rfl ?_))))))
    rw [if_pos rfl]
    refine PW.seqOps (OL.dp rfl (OL.nil (PW.k1 4 rfl (PW.ret ?_))))
    change (Exit.ret = Exit.normal ∨ Exit.ret = Exit.ret) /\ ∃ v, resV _ _ = some v /\ _
    exact ⟨.inr rfl, _, rfl, by unfold underP; first | (rw [show isP s = false by simpa using c13]; rfl) | (rw [show decide (prefP p = 0) = false from decide_eq_false (by simpa using g9), Bool.and_false]; rfl), rfl⟩
  try simp only [decide_eq_true_eq, decide_eq_false_iff_not, beq_iff_eq, bne_iff_ne, beq_eq_false_iff_ne, bne_eq_false_iff_eq, Bool.not_eq_true', Bool.not_eq_false', Bool.not_eq_true, ne_eq, Decidable.not_not] at g9
  refine OL.det rfl (.pure rfl) (OL.call rfl rfl (ris_fc hs) ?_)
  rintro _ Sx ⟨rfl, hSx⟩
  rw [hSx]
  clear hSx
  refine OL.det rfl (.pure rfl) (OL.dp rfl (OL.nil (PW.k3 0 1 13 rfl ?_)))
  refine PW.cond rfl (fun c13 => ?_) (fun c13 => ?_)
  · try simp only [decide_eq_true_eq, decide_eq_false_iff_not, beq_iff_eq, bne_iff_ne, beq_eq_false_iff_ne, bne_eq_false_iff_eq, Bool.not_eq_true', Bool.not_eq_false', Bool.not_eq_true, ne_eq, Decidable.not_not] at c13
    refine PW.seqOps (OL.dp rfl (OL.nil (PW.k1 4 rfl (PW.ret ?_))))
    change (Exit.ret = Exit.normal ∨ Exit.ret = Exit.ret) /\ ∃ v, resV _ _ = some v /\ _
    exact ⟨.inr rfl, _, rfl, by unfold underP; first | (rw [show isP s = false by simpa using c13]; rfl) | (rw [show decide (prefP p = 0) = false from decide_eq_false (by simpa using g9), Bool.and_false]; rfl), rfl⟩
  try simp only [decide_eq_true_eq, decide_eq_false_iff_not, beq_iff_eq, bne_iff_ne, beq_eq_false_iff_ne, bne_eq_false_iff_eq, Bool.not_eq_true', Bool.not_eq_false', Bool.not_eq_true, ne_eq, Decidable.not_not] at c13
  refine PW.skip (hK1 _ _ (PW.k2 0 1 rfl ?_))
  refine PW.seq fun K2 hK2 => ?_
  refine PW.seqOps (OL.dp rfl (OL.dp rfl ?_))
  refine OL.bool trivial (Yields.pure rfl) (fun g16 => ?_) (fun g16 => ?_)
  · try simp only [decide_eq_true_eq, decide_eq_false_iff_not, beq_iff_eq, bne_iff_ne, beq_eq_false_iff_ne, bne_eq_false_iff_eq, Bool.not_eq_true', Bool.not_eq_false', Bool.not_eq_true, ne_eq, Decidable.not_not] at g16
    rw [toL_inj] at g16
    refine OL.off rfl rfl (OL.off rfl rfl (OL.off rfl rfl (OL.dp rfl (OL.nil (PW.k3 0 1 20 rfl (PW.ite (b := true) rfl ?_))))))
    rw [if_pos rfl]
    refine PW.seqOps (OL.dp rfl (OL.nil (PW.k1 4 rfl (PW.ret ?_))))
    change (Exit.ret = Exit.normal ∨ Exit.ret = Exit.ret) /\ ∃ v, resV _ _ = some v /\ _
    have h1 : isP s = true := by simpa using c13
    have h2 : decide (prefP p = 0) = true := decide_eq_true (by simpa using g9)
    refine ⟨.inr rfl, _, rfl, congrArg Value.bool ?_, rfl⟩
    unfold underP
    rw [h1, h2]
    first | (rw [show decide (p = ⟨#[]⟩) = true from decide_eq_true g16]; rfl) | (rw [show decide (p = s) = true from decide_eq_true c20, Bool.or_true]; rfl)
  try simp only [decide_eq_true_eq, decide_eq_false_iff_not, beq_iff_eq, bne_iff_ne, beq_eq_false_iff_ne, bne_eq_false_iff_eq, Bool.not_eq_true', Bool.not_eq_false', Bool.not_eq_true, ne_eq, Decidable.not_not] at g16
  rw [toL_inj] at g16
  refine OL.det rfl (.pure rfl) (OL.det rfl (.pure rfl) (OL.det rfl (.pure rfl) (OL.dp rfl (OL.nil (PW.k3 0 1 20 rfl ?_)))))
  refine PW.cond rfl (fun c20 => ?_) (fun c20 => ?_)
  · try simp only [decide_eq_true_eq, decide_eq_false_iff_not, beq_iff_eq, bne_iff_ne, beq_eq_false_iff_ne, bne_eq_false_iff_eq, Bool.not_eq_true', Bool.not_eq_false', Bool.not_eq_true, ne_eq, Decidable.not_not] at c20
    rw [toL_inj] at c20
    refine PW.seqOps (OL.dp rfl (OL.nil (PW.k1 4 rfl (PW.ret ?_))))
    change (Exit.ret = Exit.normal ∨ Exit.ret = Exit.ret) /\ ∃ v, resV _ _ = some v /\ _
    have h1 : isP s = true := by simpa using c13
    have h2 : decide (prefP p = 0) = true := decide_eq_true (by simpa using g9)
    refine ⟨.inr rfl, _, rfl, congrArg Value.bool ?_, rfl⟩
    unfold underP
    rw [h1, h2]
    first | (rw [show decide (p = ⟨#[]⟩) = true from decide_eq_true g16]; rfl) | (rw [show decide (p = s) = true from decide_eq_true c20, Bool.or_true]; rfl)
  try simp only [decide_eq_true_eq, decide_eq_false_iff_not, beq_iff_eq, bne_iff_ne, beq_eq_false_iff_ne, bne_eq_false_iff_eq, Bool.not_eq_true', Bool.not_eq_false', Bool.not_eq_true, ne_eq, Decidable.not_not] at c20
  rw [toL_inj] at c20
  refine PW.skip (hK2 _ _ (PW.k2 0 1 rfl (PW.seqOps (OL.dp rfl (OL.dp rfl (OL.dp rfl (OL.nil (PW.k3 0 1 5 rfl (PW.seqOps (OL.dp rfl (OL.dp rfl ?_)))))))))))
  refine OL.dp rfl (OL.dp rfl ?_)
  refine OL.bool trivial (Yields.pure rfl) (fun g27 => ?_) (fun g27 => ?_)
  · try simp only [decide_eq_true_eq, decide_eq_false_iff_not, beq_iff_eq, bne_iff_ne, beq_eq_false_iff_ne, bne_eq_false_iff_eq, Bool.not_eq_true', Bool.not_eq_false', Bool.not_eq_true, ne_eq, Decidable.not_not] at g27
    refine OL.det rfl (.pure rfl) (OL.det rfl (.pure rfl) ?_)
    refine OL.det rfl (Yields.slStr (s := s) (l := 0) (h := p.size) rfl rfl rfl (.inr ⟨rfl, rfl⟩) (.inl rfl) (by omega) (by omega)) ?_
    refine OL.det rfl (.pure rfl) (OL.det rfl (.pure rfl) (OL.dp rfl ?_))
    refine OL.bool trivial (Yields.pure rfl) (fun g34 => ?_) (fun g34 => ?_)
    · try simp only [decide_eq_true_eq, decide_eq_false_iff_not, beq_iff_eq, bne_iff_ne, beq_eq_false_iff_ne, bne_eq_false_iff_eq, Bool.not_eq_true', Bool.not_eq_false', Bool.not_eq_true, ne_eq, Decidable.not_not] at g34
      rw [toL_inj] at g34
      refine OL.det rfl (.pure rfl) (OL.det rfl (.pure rfl) ?_)
      obtain ⟨b, hb, hb2, _, _⟩ := ba_get (s := s) (k := p.size) (by omega)
      refine OL.det rfl (Yields.ixStr rfl rfl hb) (OL.det rfl (.pure rfl) (OL.dp rfl (OL.dp rfl (OL.nil (PW.k1 4 rfl (PW.ret ?_))))))
      change (Exit.ret = Exit.normal ∨ Exit.ret = Exit.ret) /\ ∃ v, resV _ _ = some v /\ _
      have h1 : isP s = true := by simpa using c13
      have h2 : decide (prefP p = 0) = true := decide_eq_true (by simpa using g9)
      refine ⟨.inr rfl, _, rfl, congrArg Value.bool ?_, rfl⟩
      unfold underP
      rw [h1, h2, show decide (p = ⟨#[]⟩) = false from decide_eq_false g16, show decide (p = s) = false from decide_eq_false c20]
      simp only [Bool.and_self, Bool.or_self, Bool.true_and, Bool.false_or]
      rw [Bool.eq_iff_iff, slash_iff]
      have hpl : p.data.toList.length = p.size := by simp
      first
        | (have e34 : s.extract 0 p.size = p := g34
           have hpre : p.data.toList <+: s.data.toList := by rw [<- e34, ext_list, List.drop_zero]; exact List.take_prefix _ _
           simp only [hpre, true_and, hb2, Option.some.injEq, decide_eq_true_eq, beq_iff_eq, <- UInt8.toNat_inj, show (47 : UInt8).toNat = 47 from rfl]
           omega)
        | (simp only [Bool.false_eq_true, false_iff]
           rintro ⟨hpre, h47⟩
           have hlt := (List.getElem?_eq_some_iff.1 h47).1
           have hsl : s.data.toList.length = s.size := by simp
           first
             | omega
             | exact g34 (ba_ext (by rw [ext_list, List.drop_zero, <- hpl]; exact (List.prefix_iff_eq_take.1 hpre).symm)))
    try simp only [decide_eq_true_eq, decide_eq_false_iff_not, beq_iff_eq, bne_iff_ne, beq_eq_false_iff_ne, bne_eq_false_iff_eq, Bool.not_eq_true', Bool.not_eq_false', Bool.not_eq_true, ne_eq, Decidable.not_not] at g34
    rw [toL_inj] at g34
    refine OL.off rfl rfl (OL.off rfl rfl (OL.off rfl rfl (OL.off rfl rfl (OL.dp rfl (OL.dp rfl (OL.nil (PW.k1 4 rfl (PW.ret ?_))))))))
    change (Exit.ret = Exit.normal ∨ Exit.ret = Exit.ret) /\ ∃ v, resV _ _ = some v /\ _
    have h1 : isP s = true := by simpa using c13
    have h2 : decide (prefP p = 0) = true := decide_eq_true (by simpa using g9)
    refine ⟨.inr rfl, _, rfl, congrArg Value.bool ?_, rfl⟩
    unfold underP
    rw [h1, h2, show decide (p = ⟨#[]⟩) = false from decide_eq_false g16, show decide (p = s) = false from decide_eq_false c20]
    simp only [Bool.and_self, Bool.or_self, Bool.true_and, Bool.false_or]
    rw [Bool.eq_iff_iff, slash_iff]
    have hpl : p.data.toList.length = p.size := by simp
    first
      | (have e34 : s.extract 0 p.size = p := g34
         have hpre : p.data.toList <+: s.data.toList := by rw [<- e34, ext_list, List.drop_zero]; exact List.take_prefix _ _
         simp only [hpre, true_and, hb2, Option.some.injEq, decide_eq_true_eq, beq_iff_eq, <- UInt8.toNat_inj, show (47 : UInt8).toNat = 47 from rfl]
         omega)
      | (simp only [Bool.false_eq_true, false_iff]
         rintro ⟨hpre, h47⟩
         have hlt := (List.getElem?_eq_some_iff.1 h47).1
         have hsl : s.data.toList.length = s.size := by simp
         first
           | omega
           | exact g34 (ba_ext (by rw [ext_list, List.drop_zero, <- hpl]; exact (List.prefix_iff_eq_take.1 hpre).symm)))
  try simp only [decide_eq_true_eq, decide_eq_false_iff_not, beq_iff_eq, bne_iff_ne, beq_eq_false_iff_ne, bne_eq_false_iff_eq, Bool.not_eq_true', Bool.not_eq_false', Bool.not_eq_true, ne_eq, Decidable.not_not] at g27
  refine OL.off rfl rfl (OL.off rfl rfl (OL.off rfl rfl (OL.off rfl rfl (OL.off rfl rfl (OL.dp rfl (OL.dp rfl (OL.off rfl rfl (OL.off rfl rfl (OL.off rfl rfl (OL.off rfl rfl (OL.dp rfl ?_)))))))))))
  refine OL.dp rfl (OL.nil (PW.k1 4 rfl (PW.ret ?_)))
  change (Exit.ret = Exit.normal ∨ Exit.ret = Exit.ret) /\ ∃ v, resV _ _ = some v /\ _
  have h1 : isP s = true := by simpa using c13
  have h2 : decide (prefP p = 0) = true := decide_eq_true (by simpa using g9)
  refine ⟨.inr rfl, _, rfl, congrArg Value.bool ?_, rfl⟩
  unfold underP
  rw [h1, h2, show decide (p = ⟨#[]⟩) = false from decide_eq_false g16, show decide (p = s) = false from decide_eq_false c20]
  simp only [Bool.and_self, Bool.or_self, Bool.true_and, Bool.false_or]
  rw [Bool.eq_iff_iff, slash_iff]
  have hpl : p.data.toList.length = p.size := by simp
  first
    | (have e34 : s.extract 0 p.size = p := g34
       have hpre : p.data.toList <+: s.data.toList := by rw [<- e34, ext_list, List.drop_zero]; exact List.take_prefix _ _
       simp only [hpre, true_and, hb2, Option.some.injEq, decide_eq_true_eq, beq_iff_eq, <- UInt8.toNat_inj, show (47 : UInt8).toNat = 47 from rfl]
       omega)
    | (simp only [Bool.false_eq_true, false_iff]
       rintro ⟨hpre, h47⟩
       have hlt := (List.getElem?_eq_some_iff.1 h47).1
       have hsl : s.data.toList.length = s.size := by simp
       first
         | omega
         | exact g34 (ba_ext (by rw [ext_list, List.drop_zero, <- hpl]; exact (List.prefix_iff_eq_take.1 hpre).symm)))
theorem isP_ne {s : ByteArray} (h : isP s = true) : s ≠ ⟨#[]⟩ := by
 rintro rfl
 revert h
 decide +kernel
theorem under_iff (p s : ByteArray) : underP p s = true ↔ isP s = true /\ prefP p = 0 /\ (p = ⟨#[]⟩ ∨ p = s ∨ p.data.toList ++ [47] <+: s.data.toList) := by
 unfold underP
 simp only [Bool.and_eq_true, Bool.or_eq_true, decide_eq_true_eq, starts_iff, app_list, show slB.data.toList = [47] from rfl, and_assoc, or_assoc]
end Go.Proofs

namespace Go.Proofs.Lb
open Go.SL Go.RowKit Go.Proofs
set_option maxHeartbeats 1000000
abbrev Lab := Int × Nat
def labV (a : Lab) : Value := .agg #[.int .i64 a.1, .int .u64 (a.2 : Int)]
def labVI (l c : Int) : Value := .agg #[.int .i64 l, .int .u64 c]
theorem lab_read {w0 : World} {S : SS} {r : Nat} {l c : Int} (hm : (r, AO.cells [.int .i64 l, .int .u64 c] 34 2) ∈ S.flatten) : ReadsAs w0 S (some 2) ⟨r, 0, none⟩ (labVI l c) :=
 ⟨[.int .i64 l, .int .u64 c], rfl, rfl, fun j u hj => (Rd.own hm).at hj⟩
def chkP (l : Int) : Int := if l < 0 ∨ l > 15 then 2 else 0
theorem check_lab {w0 : World} {S : SS} {a : Lab} : FC Tryz.prog w0 21 [labV a] S (fun v S' => v = .int .i64 (chkP a.1) /\ S' = S) := by
 refine FC.ofD Tryz.known21 (by simp) ?_
 unfold Tryz.pc21
 simp only [argT]
 refine PW.seqOps (OL.cons trivial (OW.bx rfl) ?_)
 rintro _ _ ⟨r1, rfl, rfl⟩
 change OL _ _ _ _ _ ([(r1, .cells [.int .i64 a.1, .int .u64 (a.2 : Int)] 34 2)] :: S) _
 refine OL.dp rfl (OL.nil (PW.k1 1 rfl ?_))
 refine PW.seq fun K1 hK1 => ?_
 refine PW.seqOps (OL.dp rfl ?_)
 refine OL.det trivial (.ld rfl (own_at (j := 0) (c := [.int .i64 a.1, .int .u64 (a.2 : Int)]) (E := 34) (tot := 2) (by simp) rfl)) ?_
 refine OL.dp rfl ?_
 refine OL.bool trivial (Yields.pure rfl) (fun g6 => ?_) (fun g6 => ?_)
 ·try simp only [decide_eq_true_eq, decide_eq_false_iff_not, beq_iff_eq, bne_iff_ne, beq_eq_false_iff_ne, bne_eq_false_iff_eq, Bool.not_eq_true', Bool.not_eq_false', Bool.not_eq_true, ne_eq, Decidable.not_not] at g6
  refine OL.off rfl rfl (OL.off rfl rfl (OL.off rfl rfl (OL.dp rfl (OL.nil (PW.k1 10 rfl (PW.ite (b := true) rfl ?_))))))
  rw [if_pos rfl]
  refine PW.seqOps (OL.dp rfl (OL.nil (PW.k1 2 rfl (PW.ret ?_))))
  change (Exit.ret = Exit.normal ∨ Exit.ret = Exit.ret) /\ ∃ v, resV _ _ = some v /\ _
  exact ⟨.inr rfl, _, rfl, _, Sub.drop (Sub.refl _), by unfold chkP; rw [if_pos (by omega)], rfl⟩
 try simp only [decide_eq_true_eq, decide_eq_false_iff_not, beq_iff_eq, bne_iff_ne, beq_eq_false_iff_ne, bne_eq_false_iff_eq, Bool.not_eq_true', Bool.not_eq_false', Bool.not_eq_true, ne_eq, Decidable.not_not] at g6
 refine OL.det rfl (.pure rfl) ?_
 refine OL.det rfl (.ld rfl (own_at (j := 0) (c := [.int .i64 a.1, .int .u64 (a.2 : Int)]) (E := 34) (tot := 2) (by simp) rfl)) ?_
 refine OL.det rfl (.pure rfl) (OL.dp rfl (OL.nil (PW.k1 10 rfl ?_)))
 refine PW.cond rfl (fun c10 => ?_) (fun c10 => ?_)
 ·try simp only [decide_eq_true_eq, decide_eq_false_iff_not, beq_iff_eq, bne_iff_ne, beq_eq_false_iff_ne, bne_eq_false_iff_eq, Bool.not_eq_true', Bool.not_eq_false', Bool.not_eq_true, ne_eq, Decidable.not_not] at c10
  refine PW.seqOps (OL.dp rfl (OL.nil (PW.k1 2 rfl (PW.ret ?_))))
  change (Exit.ret = Exit.normal ∨ Exit.ret = Exit.ret) /\ ∃ v, resV _ _ = some v /\ _
  exact ⟨.inr rfl, _, rfl, _, Sub.drop (Sub.refl _), by unfold chkP; rw [if_pos (by omega)], rfl⟩
 try simp only [decide_eq_true_eq, decide_eq_false_iff_not, beq_iff_eq, bne_iff_ne, beq_eq_false_iff_ne, bne_eq_false_iff_eq, Bool.not_eq_true', Bool.not_eq_false', Bool.not_eq_true, ne_eq, Decidable.not_not] at c10
 refine PW.skip (hK1 _ _ (PW.keep (T' := []) trivial (PW.seqOps (OL.dp rfl (OL.nil (PW.k1 2 rfl (PW.ret ?_)))))))
 change (Exit.ret = Exit.normal ∨ Exit.ret = Exit.ret) /\ ∃ v, resV _ _ = some v /\ _
 exact ⟨.inr rfl, _, rfl, _, Sub.drop (Sub.refl _), by unfold chkP; rw [if_neg (by omega)], rfl⟩
abbrev LabB := Int × BitVec 64
abbrev lseg (r : Nat) (a : Int × BitVec 64) : Seg := [(r, .cells [.int .i64 a.1, .int .u64 (a.2.toNat : Int)] 34 2)]
def labB (a : LabB) : Value := .agg #[.int .i64 a.1, .int .u64 (a.2.toNat : Int)]
theorem nat_zero (x : BitVec 64) : ((x.toNat : Int) == 0) = (x == 0#64) := by
 rw [Bool.eq_iff_iff]
 simp only [beq_iff_eq]
 constructor
 ·intro h
  apply BitVec.eq_of_toNat_eq
  simp; omega
 rintro rfl; rfl
section
variable {w0 : World} {S : SS} {a b : LabB}
theorem check_b : FC Tryz.prog w0 21 [labB a] S (fun v S' => v = .int .i64 (chkP a.1) /\ S' = S) := check_lab (a := (a.1, a.2.toNat))
end
theorem lab_at {w0 : World} {S : SS} {r : Nat} {a : LabB} (hm : (r, AO.cells [.int .i64 a.1, .int .u64 (a.2.toNat : Int)] 34 2) ∈ S.flatten) : ∀ (j : Nat) (v : Value), [Value.int .i64 a.1, .int .u64 (a.2.toNat : Int)][j]? = some v -> Cell w0 S ((⟨r, 0, none⟩ : Addr).add j) v :=
 fun j u hj => (Rd.own hm).at hj
theorem eq_lab (a b : LabB) : eqCells [.int .i64, .int .u64] [.int .i64 a.1, .int .u64 (a.2.toNat : Int)] [.int .i64 b.1, .int .u64 (b.2.toNat : Int)] = some (decide (a = b)) := by
 have e : decide (a = b) = (a.1 == b.1 && (a.2.toNat : Int) == (b.2.toNat : Int)) := by
  rw [Bool.eq_iff_iff]
  simp only [decide_eq_true_eq, Bool.and_eq_true, beq_iff_eq]
  constructor
  ·rintro rfl; exact ⟨rfl, rfl⟩
  rintro ⟨h1, h2⟩; exact Prod.ext h1 (BitVec.eq_of_toNat_eq (by omega))
 rw [e]
 simp [eqCells, eqCell]
def cmpI (x y : Int) : Int := if x < y then -1 else if y < x then 1 else 0
def orZ (a b : LabB) : Int := if cmpI a.1 b.1 ≠ 0 then cmpI a.1 b.1 else cmpI (a.2.toNat : Int) (b.2.toNat : Int)
def mayP (a : LabB) : Bool := decide (0 <= a.1) && decide (a.1 <= 15)
theorem may_fc {w0 : World} {S : SS} {a : LabB} : FC Tryz.prog w0 23 [labB a] S (fun v S' => v = .bool (mayP a) /\ S' = S) := by
 refine FC.ofD Tryz.known23 (by simp) ?_
 unfold Tryz.pc23
 simp only [argT]
 refine PW.seqOps (OL.cons trivial (OW.bx rfl) ?_)
 rintro _ _ ⟨r1, rfl, rfl⟩
 change OL _ _ _ _ _ (lseg r1 a :: S) _
 refine OL.dp rfl (OL.nil (PW.k1 1 rfl (PW.seqOps (OL.dp rfl ?_))))
 refine OL.det trivial (.ld rfl (own_at (j := 0) (c := [.int .i64 a.1, .int .u64 (a.2.toNat : Int)]) (E := 34) (tot := 2) (by simp) rfl)) ?_
 refine OL.dp rfl ?_
 refine OL.bool trivial (Yields.pure rfl) (fun g6 => ?_) (fun g6 => ?_)
 ·try simp only [decide_eq_true_eq, decide_eq_false_iff_not, beq_iff_eq, bne_iff_ne, beq_eq_false_iff_ne, bne_eq_false_iff_eq, Bool.not_eq_true', Bool.not_eq_false', Bool.not_eq_true, ne_eq, Decidable.not_not] at g6
  refine OL.det rfl (.pure rfl) ?_
  refine OL.det rfl (.ld rfl (own_at (j := 0) (c := [.int .i64 a.1, .int .u64 (a.2.toNat : Int)]) (E := 34) (tot := 2) (by simp) rfl)) ?_
  refine OL.det rfl (.pure rfl) (OL.dp rfl (OL.dp rfl (OL.nil (PW.k1 2 rfl (PW.ret ?_)))))
  change (Exit.ret = Exit.normal ∨ Exit.ret = Exit.ret) /\ ∃ v, resV _ _ = some v /\ _
  exact ⟨.inr rfl, _, rfl, _, Sub.drop (Sub.refl _), by unfold mayP; first | (rw [show decide (0 <= a.1) = true by simpa using g6]; rfl) | (rw [show decide (0 <= a.1) = false by simpa using g6]; rfl), rfl⟩
 try simp only [decide_eq_true_eq, decide_eq_false_iff_not, beq_iff_eq, bne_iff_ne, beq_eq_false_iff_ne, bne_eq_false_iff_eq, Bool.not_eq_true', Bool.not_eq_false', Bool.not_eq_true, ne_eq, Decidable.not_not] at g6
 refine OL.off rfl rfl (OL.off rfl rfl (OL.off rfl rfl (OL.dp rfl (OL.dp rfl (OL.nil (PW.k1 2 rfl (PW.ret ?_)))))))
 change (Exit.ret = Exit.normal ∨ Exit.ret = Exit.ret) /\ ∃ v, resV _ _ = some v /\ _
 exact ⟨.inr rfl, _, rfl, _, Sub.drop (Sub.refl _), by unfold mayP; first | (rw [show decide (0 <= a.1) = true by simpa using g6]; rfl) | (rw [show decide (0 <= a.1) = false by simpa using g6]; rfl), rfl⟩
theorem nan_i64 {w0 : World} {S : SS} {z : Int} : FC Tryz.prog w0 87 [.int .i64 z] S (fun v S' => v = .bool false /\ S' = S) := by
 refine FC.of Tryz.known87 (by simp) ?_
 unfold Tryz.pc87
 simp only [argT]
 refine PW.seqOps (OL.dp rfl (OL.nil (PW.k1 0 rfl (PW.seqOps (OL.dp rfl (OL.dp rfl (OL.dp rfl (OL.dp rfl (OL.nil (PW.k1 2 rfl (PW.ret ?_)))))))))))
 change (Exit.ret = Exit.normal ∨ Exit.ret = Exit.ret) /\ ∃ v, resV _ _ = some v /\ _
 exact ⟨.inr rfl, _, rfl, congrArg Value.bool (by simp), rfl⟩
theorem cmp_i64 {w0 : World} {S : SS} {x y : Int} : FC Tryz.prog w0 63 [.int .i64 x, .int .i64 y] S (fun v S' => v = .int .i64 (cmpI x y) /\ S' = S) := by
 refine FC.of Tryz.known63 (by simp) ?_
 unfold Tryz.pc63
 simp only [argT]
 refine PW.seqOps (OL.dp rfl (OL.nil (PW.k2 0 1 rfl (PW.seqOps (OL.dp rfl (OL.call trivial rfl (nan_i64) ?_))))))
 rintro _ Sx ⟨rfl, hSx⟩
 rw [hSx]
 clear hSx
 refine OL.dp rfl (OL.nil (PW.k3 0 1 5 rfl (PW.seqOps (OL.dp rfl (OL.call trivial rfl (nan_i64) ?_)))))
 rintro _ Sx ⟨rfl, hSx⟩
 rw [hSx]
 clear hSx
 refine OL.dp rfl (OL.nil (PW.k4 0 1 5 6 rfl ?_))
 refine PW.seq fun K1 hK1 => ?_
 refine PW.seqOps (OL.dp rfl (OL.nil (PW.k4 0 1 6 11 rfl (PW.ite (b := false) rfl ?_))))
 rw [if_neg Bool.false_ne_true]
 refine PW.skip (hK1 _ _ (PW.k3 0 1 6 rfl ?_))
 refine PW.seq fun K2 hK2 => ?_
 refine PW.seqOps (OL.dp rfl (OL.nil (PW.k3 0 1 13 rfl (PW.ite (b := false) rfl ?_))))
 rw [if_neg Bool.false_ne_true]
 refine PW.skip (hK2 _ _ (PW.k2 0 1 rfl ?_))
 refine PW.seq fun K3 hK3 => ?_
 refine PW.seqOps (OL.dp rfl (OL.dp rfl (OL.dp rfl (OL.nil (PW.k3 0 1 16 rfl ?_)))))
 refine PW.cond rfl (fun c16 => ?_) (fun c16 => ?_)
 ·try simp only [decide_eq_true_eq, decide_eq_false_iff_not, beq_iff_eq, bne_iff_ne, beq_eq_false_iff_ne, bne_eq_false_iff_eq, Bool.not_eq_true', Bool.not_eq_false', Bool.not_eq_true, ne_eq, Decidable.not_not] at c16
  refine PW.seqOps (OL.dp rfl (OL.nil (PW.k1 4 rfl (PW.ret ?_))))
  change (Exit.ret = Exit.normal ∨ Exit.ret = Exit.ret) /\ ∃ v, resV _ _ = some v /\ _
  exact ⟨.inr rfl, _, rfl, by unfold cmpI; rw [if_pos (by omega)], rfl⟩
 try simp only [decide_eq_true_eq, decide_eq_false_iff_not, beq_iff_eq, bne_iff_ne, beq_eq_false_iff_ne, bne_eq_false_iff_eq, Bool.not_eq_true', Bool.not_eq_false', Bool.not_eq_true, ne_eq, Decidable.not_not] at c16
 refine PW.skip (hK3 _ _ (PW.k2 0 1 rfl ?_))
 refine PW.seq fun K4 hK4 => ?_
 refine PW.seqOps (OL.dp rfl (OL.dp rfl (OL.dp rfl (OL.nil (PW.k1 19 rfl ?_)))))
 refine PW.cond rfl (fun c19 => ?_) (fun c19 => ?_)
 ·try simp only [decide_eq_true_eq, decide_eq_false_iff_not, beq_iff_eq, bne_iff_ne, beq_eq_false_iff_ne, bne_eq_false_iff_eq, Bool.not_eq_true', Bool.not_eq_false', Bool.not_eq_true, ne_eq, Decidable.not_not] at c19
  refine PW.seqOps (OL.dp rfl (OL.nil (PW.k1 4 rfl (PW.ret ?_))))
  change (Exit.ret = Exit.normal ∨ Exit.ret = Exit.ret) /\ ∃ v, resV _ _ = some v /\ _
  exact ⟨.inr rfl, _, rfl, by unfold cmpI; rw [if_neg (by omega), if_pos (by omega)], rfl⟩
 try simp only [decide_eq_true_eq, decide_eq_false_iff_not, beq_iff_eq, bne_iff_ne, beq_eq_false_iff_ne, bne_eq_false_iff_eq, Bool.not_eq_true', Bool.not_eq_false', Bool.not_eq_true, ne_eq, Decidable.not_not] at c19
 refine PW.skip (hK4 _ _ (PW.keep (T' := []) trivial (PW.seqOps (OL.dp rfl (OL.nil (PW.k1 4 rfl (PW.ret ?_)))))))
 change (Exit.ret = Exit.normal ∨ Exit.ret = Exit.ret) /\ ∃ v, resV _ _ = some v /\ _
 exact ⟨.inr rfl, _, rfl, by unfold cmpI; rw [if_neg (by omega), if_neg (by omega)], rfl⟩
theorem nan_u64 {w0 : World} {S : SS} {z : Int} : FC Tryz.prog w0 88 [.int .u64 z] S (fun v S' => v = .bool false /\ S' = S) := by
 refine FC.of Tryz.known88 (by simp) ?_
 unfold Tryz.pc88
 simp only [argT]
 refine PW.seqOps (OL.dp rfl (OL.nil (PW.k1 0 rfl (PW.seqOps (OL.dp rfl (OL.dp rfl (OL.dp rfl (OL.dp rfl (OL.nil (PW.k1 2 rfl (PW.ret ?_)))))))))))
 change (Exit.ret = Exit.normal ∨ Exit.ret = Exit.ret) /\ ∃ v, resV _ _ = some v /\ _
 exact ⟨.inr rfl, _, rfl, congrArg Value.bool (by simp), rfl⟩
theorem cmp_u64 {w0 : World} {S : SS} {x y : Int} : FC Tryz.prog w0 64 [.int .u64 x, .int .u64 y] S (fun v S' => v = .int .i64 (cmpI x y) /\ S' = S) := by
 refine FC.of Tryz.known64 (by simp) ?_
 unfold Tryz.pc64
 simp only [argT]
 refine PW.seqOps (OL.dp rfl (OL.nil (PW.k2 0 1 rfl (PW.seqOps (OL.dp rfl (OL.call trivial rfl (nan_u64) ?_))))))
 rintro _ Sx ⟨rfl, hSx⟩
 rw [hSx]
 clear hSx
 refine OL.dp rfl (OL.nil (PW.k3 0 1 5 rfl (PW.seqOps (OL.dp rfl (OL.call trivial rfl (nan_u64) ?_)))))
 rintro _ Sx ⟨rfl, hSx⟩
 rw [hSx]
 clear hSx
 refine OL.dp rfl (OL.nil (PW.k4 0 1 5 6 rfl ?_))
 refine PW.seq fun K1 hK1 => ?_
 refine PW.seqOps (OL.dp rfl (OL.nil (PW.k4 0 1 6 11 rfl (PW.ite (b := false) rfl ?_))))
 rw [if_neg Bool.false_ne_true]
 refine PW.skip (hK1 _ _ (PW.k3 0 1 6 rfl ?_))
 refine PW.seq fun K2 hK2 => ?_
 refine PW.seqOps (OL.dp rfl (OL.nil (PW.k3 0 1 13 rfl (PW.ite (b := false) rfl ?_))))
 rw [if_neg Bool.false_ne_true]
 refine PW.skip (hK2 _ _ (PW.k2 0 1 rfl ?_))
 refine PW.seq fun K3 hK3 => ?_
 refine PW.seqOps (OL.dp rfl (OL.dp rfl (OL.dp rfl (OL.nil (PW.k3 0 1 16 rfl ?_)))))
 refine PW.cond rfl (fun c16 => ?_) (fun c16 => ?_)
 ·try simp only [decide_eq_true_eq, decide_eq_false_iff_not, beq_iff_eq, bne_iff_ne, beq_eq_false_iff_ne, bne_eq_false_iff_eq, Bool.not_eq_true', Bool.not_eq_false', Bool.not_eq_true, ne_eq, Decidable.not_not] at c16
  refine PW.seqOps (OL.dp rfl (OL.nil (PW.k1 4 rfl (PW.ret ?_))))
  change (Exit.ret = Exit.normal ∨ Exit.ret = Exit.ret) /\ ∃ v, resV _ _ = some v /\ _
  exact ⟨.inr rfl, _, rfl, by unfold cmpI; rw [if_pos (by omega)], rfl⟩
 try simp only [decide_eq_true_eq, decide_eq_false_iff_not, beq_iff_eq, bne_iff_ne, beq_eq_false_iff_ne, bne_eq_false_iff_eq, Bool.not_eq_true', Bool.not_eq_false', Bool.not_eq_true, ne_eq, Decidable.not_not] at c16
 refine PW.skip (hK3 _ _ (PW.k2 0 1 rfl ?_))
 refine PW.seq fun K4 hK4 => ?_
 refine PW.seqOps (OL.dp rfl (OL.dp rfl (OL.dp rfl (OL.nil (PW.k1 19 rfl ?_)))))
 refine PW.cond rfl (fun c19 => ?_) (fun c19 => ?_)
 ·try simp only [decide_eq_true_eq, decide_eq_false_iff_not, beq_iff_eq, bne_iff_ne, beq_eq_false_iff_ne, bne_eq_false_iff_eq, Bool.not_eq_true', Bool.not_eq_false', Bool.not_eq_true, ne_eq, Decidable.not_not] at c19
  refine PW.seqOps (OL.dp rfl (OL.nil (PW.k1 4 rfl (PW.ret ?_))))
  change (Exit.ret = Exit.normal ∨ Exit.ret = Exit.ret) /\ ∃ v, resV _ _ = some v /\ _
  exact ⟨.inr rfl, _, rfl, by unfold cmpI; rw [if_neg (by omega), if_pos (by omega)], rfl⟩
 try simp only [decide_eq_true_eq, decide_eq_false_iff_not, beq_iff_eq, bne_iff_ne, beq_eq_false_iff_ne, bne_eq_false_iff_eq, Bool.not_eq_true', Bool.not_eq_false', Bool.not_eq_true, ne_eq, Decidable.not_not] at c19
 refine PW.skip (hK4 _ _ (PW.keep (T' := []) trivial (PW.seqOps (OL.dp rfl (OL.nil (PW.k1 4 rfl (PW.ret ?_)))))))
 change (Exit.ret = Exit.normal ∨ Exit.ret = Exit.ret) /\ ∃ v, resV _ _ = some v /\ _
 exact ⟨.inr rfl, _, rfl, by unfold cmpI; rw [if_neg (by omega), if_neg (by omega)], rfl⟩
def el2 (x y : Int) (k : Nat) : Int := if k = 0 then x else y
theorem el_at {w0 : World} {S : SS} {a : Addr} {x y : Int} (h : Rd w0 S (some a) [.int .i64 x, .int .i64 y]) {k : Nat} (hk : k < 2) : Cell w0 S (a.add k) (.int .i64 (el2 x y k)) := by
 refine h.at ?_
 rcases k with _ | _ | k
 ·rfl
 ·rfl
 omega
theorem or_fc {w0 : World} {S : SS} {a : Addr} {cap : Nat} {x y : Int} (hx : Rd w0 S (some a) [.int .i64 x, .int .i64 y]) : FC Tryz.prog w0 62 [.slice (some a) 2 cap] S (fun v S' => v = .int .i64 (if x ≠ 0 then x else y) /\ S' = S) := by
 refine FC.of Tryz.known62 (by simp) ?_
 unfold Tryz.pc62
 simp only [argT]
 refine PW.seqOps (OL.dp rfl (OL.nil (PW.k1 0 rfl (PW.seqOps (OL.dp rfl (OL.nil (PW.k2 0 3 rfl ?_)))))))
 refine PW.seq fun K1 hK1 => ?_
 refine PW.seqOps (OL.dp rfl (OL.dp rfl (OL.dp rfl (OL.nil (PW.k4 3 6 7 8 rfl (PW.block (PW.k4 3 6 7 8 rfl ?_)))))))
 refine PW.loopK (I := fun m T S' => ∃ (k : Nat), (k <= 2 /\ m = 2 - k /\ (1 <= k -> x = 0) /\ (2 <= k -> y = 0)) /\ T = ([(3, .int .i64 0), (6, .slice (some a) 2 cap), (7, .int .i64 2), (8, .int .i64 k)] : TT) /\ S' = S) (m := 2) ⟨0, ⟨by omega, by omega, fun h => by omega, fun h => by omega⟩, rfl, rfl⟩ ?_
 rintro m _ _ ⟨k, ⟨hk, hm, h0, h1⟩, rfl, rfl⟩
 refine PW.seqOps (OL.dp rfl (OL.nil (PW.k5 3 6 7 8 9 rfl ?_)))
 refine PW.seq fun K2 hK2 => ?_
 refine PW.cond rfl (fun c9 => ?_) (fun c9 => ?_)
 ·try simp only [decide_eq_true_eq, decide_eq_false_iff_not, beq_iff_eq, bne_iff_ne, beq_eq_false_iff_ne, bne_eq_false_iff_eq, Bool.not_eq_true', Bool.not_eq_false', Bool.not_eq_true, ne_eq, Decidable.not_not] at c9
  have hkl : k < 2 := by omega
  refine PW.skip (hK2 _ _ (PW.k4 3 6 7 8 rfl ?_))
  refine PW.seq fun K3 hK3 => ?_
  refine PW.block (PW.seqOps ?_)
  refine OL.det trivial (.ixN1 rfl rfl rfl (by omega)) ?_
  refine OL.det trivial (.ld rfl (el_at hx hkl)) (OL.dp rfl (OL.nil (PW.k5 3 5 6 7 8 rfl (PW.seqOps (OL.dp rfl (OL.dp rfl (OL.dp rfl (OL.nil (PW.k6 3 5 6 7 8 14 rfl ?_)))))))))
  refine PW.cond rfl (fun c14 => ?_) (fun c14 => ?_)
  ·try simp only [decide_eq_true_eq, decide_eq_false_iff_not, beq_iff_eq, bne_iff_ne, beq_eq_false_iff_ne, bne_eq_false_iff_eq, Bool.not_eq_true', Bool.not_eq_false', Bool.not_eq_true, ne_eq, Decidable.not_not] at c14
   refine PW.seqOps (OL.dp rfl (OL.dp rfl (OL.nil (PW.k1 2 rfl (PW.ret ?_)))))
   change (Exit.ret = Exit.normal ∨ Exit.ret = Exit.ret) /\ ∃ v, resV _ _ = some v /\ _
   refine ⟨.inr rfl, _, rfl, ?_, rfl⟩
   rcases k with _ | _ | k
   ·have e : el2 x y 0 = x := rfl
    rw [e] at c14 ⊢
    rw [if_pos c14]
   ·have e : el2 x y (0 + 1) = y := rfl
    rw [e]
    rw [if_neg (by have := h0 (by omega); omega)]
   omega
  try simp only [decide_eq_true_eq, decide_eq_false_iff_not, beq_iff_eq, bne_iff_ne, beq_eq_false_iff_ne, bne_eq_false_iff_eq, Bool.not_eq_true', Bool.not_eq_false', Bool.not_eq_true, ne_eq, Decidable.not_not] at c14
  refine PW.skip (hK3 _ _ (PW.k4 3 6 7 8 rfl (PW.ops ?_)))
  refine OL.det trivial (.add64 rfl rfl (by omega) (by omega)) ?_
  refine OL.dp rfl (OL.nil ?_)
  repeat rw [inBlk_n]
  try rw [thenK_n]
  refine LoopEnd.mk (T'' := [(3, _), (6, _), (7, _), (8, _)]) (wi rfl) ?_
  refine ⟨2 - (k + 1), by omega, k + 1, ⟨by omega, rfl, fun h => ?_, fun h => ?_⟩, rfl, rfl⟩
  ·rcases k with _ | k
   ·have e : el2 x y 0 = x := rfl
    omega
   exact h0 (by omega)
  obtain rfl : k = 1 := by omega
  have e : el2 x y 1 = y := rfl
  omega
 try simp only [decide_eq_true_eq, decide_eq_false_iff_not, beq_iff_eq, bne_iff_ne, beq_eq_false_iff_ne, bne_eq_false_iff_eq, Bool.not_eq_true', Bool.not_eq_false', Bool.not_eq_true, ne_eq, Decidable.not_not] at c9
 refine PW.exit (hK1 _ _ (PW.k1 3 rfl (PW.seqOps (OL.dp rfl (OL.dp rfl (OL.nil (PW.k1 2 rfl (PW.ret ?_))))))))
 change (Exit.ret = Exit.normal ∨ Exit.ret = Exit.ret) /\ ∃ v, resV _ _ = some v /\ _
 exact ⟨.inr rfl, _, rfl, by rw [if_neg (by have := h0 (by omega); omega)]; congr 1; exact (h1 (by omega)).symm, rfl⟩
theorem order_l {w0 : World} {S : SS} {a b : LabB} : FC Tryz.prog w0 44 [labB a, labB b] S (fun v S' => v = .int .i64 (orZ a b) /\ S' = S) := by
 refine FC.ofD Tryz.known44 (by simp) ?_
 unfold Tryz.pc44
 simp only [argT]
 refine PW.seqOps (OL.cons trivial (OW.bx rfl) ?_)
 rintro _ _ ⟨r2, rfl, rfl⟩
 change OL _ _ _ _ _ (lseg r2 a :: S) _
 refine OL.cons trivial (OW.bx rfl) ?_
 rintro _ _ ⟨r3, rfl, rfl⟩
 change OL _ _ _ _ _ (lseg r3 b :: lseg r2 a :: S) _
 refine OL.dp rfl (OL.nil (PW.k2 2 3 rfl ?_))
 refine PW.seq fun K1 hK1 => ?_
 refine PW.quietK Tryz.mixed (QK.dp rfl ?_)
 refine QK.det trivial (.ld rfl (own_at (j := 0) (c := [.int .i64 a.1, .int .u64 (a.2.toNat : Int)]) (E := 34) (tot := 2) (by simp) rfl)) ?_
 refine QK.dp rfl ?_
 refine QK.det trivial (.ld rfl (own_at (j := 0) (c := [.int .i64 b.1, .int .u64 (b.2.toNat : Int)]) (E := 34) (tot := 2) (by simp) rfl)) ?_
 refine QK.call trivial rfl (cmp_i64) (QK.dp rfl ?_)
 refine QK.det trivial (.ld rfl (own_at (j := 1) (c := [.int .i64 a.1, .int .u64 (a.2.toNat : Int)]) (E := 34) (tot := 2) (by simp) rfl)) ?_
 refine QK.dp rfl ?_
 refine QK.det trivial (.ld rfl (own_at (j := 1) (c := [.int .i64 b.1, .int .u64 (b.2.toNat : Int)]) (E := 34) (tot := 2) (by simp) rfl)) ?_
 refine QK.nil ?_
 change OL _ _ _ [_, _, _, _] _ _ _
 refine OL.call trivial rfl (cmp_u64) ?_
 rintro _ Sx ⟨rfl, hSx⟩
 rw [hSx]
 clear hSx
 refine OL.cons trivial (OW.bsl rfl) ?_
 rintro _ _ ⟨r15, rfl, rfl⟩
 change OL _ _ _ _ _ ([(r15, .cells [.int .i64 (cmpI a.1 b.1), .int .i64 (cmpI (a.2.toNat : Int) (b.2.toNat : Int))] 3 2)] :: lseg r3 b :: lseg r2 a :: S) _
 refine OL.call trivial rfl (or_fc (x := cmpI a.1 b.1) (y := cmpI (a.2.toNat : Int) (b.2.toNat : Int)) (Rd.own (E := 3) (tot := 2) (by simp))) ?_
 rintro _ Sx ⟨rfl, hSx⟩
 rw [hSx]
 clear hSx
 refine OL.dp rfl (OL.nil (hK1 _ _ (PW.k1 4 rfl (PW.ret ?_))))
 change (Exit.ret = Exit.normal ∨ Exit.ret = Exit.ret) /\ ∃ v, resV _ _ = some v /\ _
 exact ⟨.inr rfl, _, rfl, _, Sub.drop (Sub.drop (Sub.drop (Sub.refl _))), rfl, rfl⟩
theorem or_lt {a b : LabB} (h : a.1 < b.1) : orZ a b = -1 := by unfold orZ cmpI; simp [h]
theorem or_gt {a b : LabB} (h : b.1 < a.1) : orZ a b = 1 := by
 have : ¬ a.1 < b.1 := by omega
 unfold orZ cmpI; simp [h, this]
theorem or_eq {a b : LabB} (h : a.1 = b.1) : orZ a b = cmpI (a.2.toNat : Int) (b.2.toNat : Int) := by
 unfold orZ
 rw [if_neg]
 unfold cmpI
 rw [if_neg (by omega), if_neg (by omega)]
 simp
theorem rorder_l {w0 : World} {S : SS} {a b : LabB} : FC Tryz.prog w0 46 [labB a, labB b] S (fun v S' => v = .int .i64 (orZ a b) /\ S' = S) := by
 refine FC.ofD Tryz.known46 (by simp) ?_
 unfold Tryz.pc46
 simp only [argT]
 refine PW.seqOps (OL.cons trivial (OW.bx rfl) ?_)
 rintro _ _ ⟨r2, rfl, rfl⟩
 change OL _ _ _ _ _ (lseg r2 a :: S) _
 refine OL.cons trivial (OW.bx rfl) ?_
 rintro _ _ ⟨r3, rfl, rfl⟩
 change OL _ _ _ _ _ (lseg r3 b :: lseg r2 a :: S) _
 refine OL.dp rfl (OL.nil (PW.k2 2 3 rfl ?_))
 refine PW.seq fun K1 hK1 => ?_
 refine PW.seqOps (OL.dp rfl ?_)
 refine OL.det trivial (.ld rfl (own_at (j := 0) (c := [.int .i64 a.1, .int .u64 (a.2.toNat : Int)]) (E := 34) (tot := 2) (by simp) rfl)) ?_
 refine OL.dp rfl ?_
 refine OL.det trivial (.ld rfl (own_at (j := 0) (c := [.int .i64 b.1, .int .u64 (b.2.toNat : Int)]) (E := 34) (tot := 2) (by simp) rfl)) ?_
 refine OL.dp rfl (OL.nil (PW.k3 2 3 9 rfl ?_))
 refine PW.cond rfl (fun c9 => ?_) (fun c9 => ?_)
 ·try simp only [decide_eq_true_eq, decide_eq_false_iff_not, beq_iff_eq, bne_iff_ne, beq_eq_false_iff_ne, bne_eq_false_iff_eq, Bool.not_eq_true', Bool.not_eq_false', Bool.not_eq_true, ne_eq, Decidable.not_not] at c9
  refine PW.seq fun K2 hK2 => ?_
  refine PW.seqOps (OL.dp rfl ?_)
  refine OL.det trivial (.ld rfl (own_at (j := 0) (c := [.int .i64 a.1, .int .u64 (a.2.toNat : Int)]) (E := 34) (tot := 2) (by simp) rfl)) ?_
  refine OL.dp rfl ?_
  refine OL.det trivial (.ld rfl (own_at (j := 0) (c := [.int .i64 b.1, .int .u64 (b.2.toNat : Int)]) (E := 34) (tot := 2) (by simp) rfl)) ?_
  refine OL.dp rfl (OL.nil (PW.k1 14 rfl ?_))
  refine PW.cond rfl (fun c14 => ?_) (fun c14 => ?_)
  ·try simp only [decide_eq_true_eq, decide_eq_false_iff_not, beq_iff_eq, bne_iff_ne, beq_eq_false_iff_ne, bne_eq_false_iff_eq, Bool.not_eq_true', Bool.not_eq_false', Bool.not_eq_true, ne_eq, Decidable.not_not] at c14
   refine PW.seqOps (OL.dp rfl (OL.nil (PW.k1 4 rfl (PW.ret ?_))))
   change (Exit.ret = Exit.normal ∨ Exit.ret = Exit.ret) /\ ∃ v, resV _ _ = some v /\ _
   exact ⟨.inr rfl, _, rfl, _, Sub.drop (Sub.drop (Sub.refl _)), by rw [or_lt (by omega)], rfl⟩
  try simp only [decide_eq_true_eq, decide_eq_false_iff_not, beq_iff_eq, bne_iff_ne, beq_eq_false_iff_ne, bne_eq_false_iff_eq, Bool.not_eq_true', Bool.not_eq_false', Bool.not_eq_true, ne_eq, Decidable.not_not] at c14
  refine PW.skip (hK2 _ _ (PW.keep (T' := []) trivial (PW.seqOps (OL.dp rfl (OL.nil (PW.k1 4 rfl (PW.ret ?_)))))))
  change (Exit.ret = Exit.normal ∨ Exit.ret = Exit.ret) /\ ∃ v, resV _ _ = some v /\ _
  exact ⟨.inr rfl, _, rfl, _, Sub.drop (Sub.drop (Sub.refl _)), by rw [or_gt (by omega)], rfl⟩
 try simp only [decide_eq_true_eq, decide_eq_false_iff_not, beq_iff_eq, bne_iff_ne, beq_eq_false_iff_ne, bne_eq_false_iff_eq, Bool.not_eq_true', Bool.not_eq_false', Bool.not_eq_true, ne_eq, Decidable.not_not] at c9
 refine PW.skip (hK1 _ _ (PW.k2 2 3 rfl ?_))
 refine PW.seq fun K3 hK3 => ?_
 refine PW.seqOps (OL.dp rfl ?_)
 refine OL.det trivial (.ld rfl (own_at (j := 1) (c := [.int .i64 a.1, .int .u64 (a.2.toNat : Int)]) (E := 34) (tot := 2) (by simp) rfl)) ?_
 refine OL.dp rfl ?_
 refine OL.det trivial (.ld rfl (own_at (j := 1) (c := [.int .i64 b.1, .int .u64 (b.2.toNat : Int)]) (E := 34) (tot := 2) (by simp) rfl)) ?_
 refine OL.dp rfl (OL.nil (PW.k3 2 3 19 rfl ?_))
 refine PW.cond rfl (fun c19 => ?_) (fun c19 => ?_)
 ·try simp only [decide_eq_true_eq, decide_eq_false_iff_not, beq_iff_eq, bne_iff_ne, beq_eq_false_iff_ne, bne_eq_false_iff_eq, Bool.not_eq_true', Bool.not_eq_false', Bool.not_eq_true, ne_eq, Decidable.not_not] at c19
  refine PW.seqOps (OL.dp rfl (OL.nil (PW.k1 4 rfl (PW.ret ?_))))
  change (Exit.ret = Exit.normal ∨ Exit.ret = Exit.ret) /\ ∃ v, resV _ _ = some v /\ _
  exact ⟨.inr rfl, _, rfl, _, Sub.drop (Sub.drop (Sub.refl _)), by rw [or_eq (by omega), show cmpI _ _ = -1 from by unfold cmpI; rw [if_pos (by omega)]], rfl⟩
 try simp only [decide_eq_true_eq, decide_eq_false_iff_not, beq_iff_eq, bne_iff_ne, beq_eq_false_iff_ne, bne_eq_false_iff_eq, Bool.not_eq_true', Bool.not_eq_false', Bool.not_eq_true, ne_eq, Decidable.not_not] at c19
 refine PW.skip (hK3 _ _ (PW.k2 2 3 rfl ?_))
 refine PW.seq fun K4 hK4 => ?_
 refine PW.seqOps (OL.dp rfl ?_)
 refine OL.det trivial (.ld rfl (own_at (j := 1) (c := [.int .i64 a.1, .int .u64 (a.2.toNat : Int)]) (E := 34) (tot := 2) (by simp) rfl)) ?_
 refine OL.dp rfl ?_
 refine OL.det trivial (.ld rfl (own_at (j := 1) (c := [.int .i64 b.1, .int .u64 (b.2.toNat : Int)]) (E := 34) (tot := 2) (by simp) rfl)) ?_
 refine OL.dp rfl (OL.nil (PW.k1 24 rfl ?_))
 refine PW.cond rfl (fun c24 => ?_) (fun c24 => ?_)
 ·try simp only [decide_eq_true_eq, decide_eq_false_iff_not, beq_iff_eq, bne_iff_ne, beq_eq_false_iff_ne, bne_eq_false_iff_eq, Bool.not_eq_true', Bool.not_eq_false', Bool.not_eq_true, ne_eq, Decidable.not_not] at c24
  refine PW.seqOps (OL.dp rfl (OL.nil (PW.k1 4 rfl (PW.ret ?_))))
  change (Exit.ret = Exit.normal ∨ Exit.ret = Exit.ret) /\ ∃ v, resV _ _ = some v /\ _
  exact ⟨.inr rfl, _, rfl, _, Sub.drop (Sub.drop (Sub.refl _)), by rw [or_eq (by omega), show cmpI _ _ = 1 from by unfold cmpI; rw [if_neg (by omega), if_pos (by omega)]], rfl⟩
 try simp only [decide_eq_true_eq, decide_eq_false_iff_not, beq_iff_eq, bne_iff_ne, beq_eq_false_iff_ne, bne_eq_false_iff_eq, Bool.not_eq_true', Bool.not_eq_false', Bool.not_eq_true, ne_eq, Decidable.not_not] at c24
 refine PW.skip (hK4 _ _ (PW.keep (T' := []) trivial (PW.seqOps (OL.dp rfl (OL.nil (PW.k1 4 rfl (PW.ret ?_)))))))
 change (Exit.ret = Exit.normal ∨ Exit.ret = Exit.ret) /\ ∃ v, resV _ _ = some v /\ _
 exact ⟨.inr rfl, _, rfl, _, Sub.drop (Sub.drop (Sub.refl _)), by rw [or_eq (by omega), show cmpI _ _ = 0 from by unfold cmpI; rw [if_neg (by omega), if_neg (by omega)]], rfl⟩
end Go.Proofs.Lb

namespace Go.SL
open Go.RowKit
theorem grow_of {w w' : World} (h : Below w.heap.size w w') (hd : w.drawn <= w'.drawn) : ∃ q os', w' = Go.Sort.grow (w.drewN q) os' := by
 refine ⟨w'.drawn - w.drawn, w'.heap.extract w.heap.size w'.heap.size, ?_⟩
 have e : w'.heap = w.heap ++ w'.heap.extract w.heap.size w'.heap.size := by
  apply Array.ext_getElem?
  intro i
  rw [Array.getElem?_append]
  split
  ·rename_i hi; exact h.block i hi
  rename_i hi
  rw [Array.getElem?_extract]
  have := h.size
  split
  ·congr 1; omega
  rw [Array.getElem?_eq_none (by omega)]
 obtain ⟨heap, tape, drawn, os, output⟩ := w
 obtain ⟨heap', tape', drawn', os', output'⟩ := w'
 obtain ⟨h1, h2, h3, h4, h5⟩ := h
 simp only at *
 subst h1 h2 h3
 simp only [Go.Sort.grow, World.drewN, World.mk.injEq, true_and, and_true]
 exact ⟨e, by omega⟩
section
variable {α : Type} [Inhabited α]
theorem flat_get {enc : α -> List Value} {k : Nat} (hk : ∀ x, (enc x).length = k) : ∀ (l : List α) (t : Nat), t < l.length * k -> (l.flatMap enc)[t]? = (enc l[t / k]!)[t % k]?
 | [], t, h => by simp at h
 | x :: l, t, h => by
  have h' : t < l.length * k + k := by simpa [Nat.add_mul] using h
  have k0 : 0 < k := by exact Nat.pos_of_ne_zero fun e => by subst e; simp at h
  rw [List.flatMap_cons]
  rcases Nat.lt_or_ge t k with a | a
  ·rw [List.getElem?_append_left (by rw [hk]; exact a), Nat.div_eq_of_lt a, Nat.mod_eq_of_lt a]; simp
  obtain ⟨u, rfl⟩ : ∃ u, t = u + k := ⟨t - k, by omega⟩
  rw [List.getElem?_append_right (by rw [hk]; omega), hk, Nat.add_sub_cancel, flat_get hk l u (by omega), Nat.add_div_right _ k0, Nat.add_mod_right]
  simp
theorem flatK_list {enc : α -> List Value} {k : Nat} (hk : ∀ x, (enc x).length = k) (d : Array α) : (Go.Sort.flatK enc k d).toList = d.toList.flatMap enc := by
 apply List.ext_getElem?
 intro t
 by_cases ht : t < d.size * k
 ·have k0 : 0 < k := by exact Nat.pos_of_ne_zero fun e => by subst e; simp at ht
  rw [flat_get hk _ _ (by simpa using ht)]
  have h1 := Go.Sort.get_flatK enc k d t ht
  have hs : t < (Go.Sort.flatK enc k d).size := by simpa using ht
  have hm : t % k < (enc d[t / k]!).length := by rw [hk]; exact Nat.mod_lt _ k0
  rw [getElem!_pos (Go.Sort.flatK enc k d) t hs, getElem!_pos (enc d[t / k]!) (t % k) hm] at h1
  have e2 : d.toList[t / k]! = d[t / k]! := by
   have : t / k < d.size := Nat.div_lt_of_lt_mul (by rwa [Nat.mul_comm] at ht)
   rw [getElem!_pos d.toList _ (by simpa using this), getElem!_pos d _ this]; simp
  rw [e2, List.getElem?_eq_getElem hm, <- h1]
  simp [hs]
 rw [List.getElem?_eq_none (by simp; omega), List.getElem?_eq_none]
 rw [List.length_flatMap, show (List.map (fun a => (enc a).length) d.toList) = List.replicate d.size k from by simp only [hk]; rw [List.map_const']; simp]
 simp; omega
theorem Rep.sorted {w0 w : World} {S : SS} {k E sz blk cap n : Nat} {os : Array Obj} {enc : α -> List Value} (hk : ∀ x, (enc x).length = sz) {d d' : Array α} (h : Rep w0 S w) (hs : S[k]? = some [(blk, .cells (d.toList.flatMap enc) E (cap * sz))]) (hd : d'.size = d.size)
  (hc : d.size <= cap) : Rep w0 (S.set k [(blk, .cells (d'.toList.flatMap enc) E (cap * sz))]) (Go.Proofs.sortWorldK enc sz w blk 0 n d' os) := by
 obtain ⟨hge, C, hC, htot, hpre⟩ := h.own (blk, .cells (d.toList.flatMap enc) E (cap * sz)) (List.mem_flatten.2 ⟨_, List.mem_of_getElem? hs, by simp⟩)
 have hlt : blk < w.heap.size := h.lt (List.mem_flatten.2 ⟨_, List.mem_of_getElem? hs, List.mem_singleton.2 rfl⟩)
 have hheap : ∀ i, i < w.heap.size -> i ≠ blk -> (Go.Proofs.sortWorldK enc sz w blk 0 n d' os).heap[i]? = w.heap[i]? := by
  intro i hi hne
  show (w.heap.modify blk _ ++ os)[i]? = _
  rw [Array.getElem?_append, if_pos (by simpa using hi), Array.getElem?_modify, if_neg (Ne.symm hne)]
 have hnew : (Go.Proofs.sortWorldK enc sz w blk 0 n d' os).heap[blk]? = some (.cells (Go.Sort.putCells id 0 (Go.Sort.flatK enc sz d') C) E (0, 0)) := by
  show (w.heap.modify blk _ ++ os)[blk]? = _
  rw [Array.getElem?_append, if_pos (by simpa using hlt), Array.getElem?_modify, if_pos rfl, hC]
  rfl
 refine h.replace hs ?_ (fun i hi hne => hheap i hi (by simpa using hne)) (by simp) ?_ (Nat.le_add_right _ _)
 ·refine ⟨rfl, rfl, rfl, ?_, fun i hi => hheap i (by omega) (by omega)⟩
  show _ <= (w.heap.modify blk _ ++ os).size
  simp
 intro p hp
 simp only [List.mem_singleton] at hp
 subst hp
 refine ⟨hge, ⟨_, hnew, ?_, ?_⟩, .inl (by simp)⟩
 ·rw [<- htot]; simp [Go.Sort.putCells]
 have hsz : (d'.toList.flatMap enc).length = d.size * sz := by
  rw [<- flatK_list hk, Array.length_toList, Go.Sort.size_flatK, hd]
 have hcs : d.size * sz <= C.size := by rw [htot]; exact Nat.mul_le_mul_right _ hc
 rw [hsz, <- flatK_list hk]
 apply List.ext_getElem?
 intro t
 rw [List.getElem?_take]
 split
 ·rename_i ht
  have hF : t < (Go.Sort.flatK enc sz d').size := by simpa [hd] using ht
  have hF' : t < d'.size * sz := by simpa using hF
  rw [Array.getElem?_toList, Array.getElem?_toList]
  simp only [Go.Sort.putCells, Array.getElem?_mapIdx]
  rw [Array.getElem?_eq_getElem (by omega : t < C.size), Array.getElem?_eq_getElem hF]
  simp [getElem!_pos (Go.Sort.flatK enc sz d') t hF, hF']
 rename_i ht
 rw [List.getElem?_eq_none (by simp [hd]; omega)]
end
end Go.SL

namespace Go.Proofs
open Go.Shelf Go.RowKit Go.Lib Go.Sort
def Tryz.sortL_ren : Go.Shelf.Ren := ⟨fun | 6 => 43 | 15 => 61 | 14 => 60 | 28 => 85 | 29 => 86 | 20 => 77 | 21 => 78 | 22 => 79 | 23 => 80 | 24 => 81 | 25 => 82 | 26 => 83 | 27 => 84 | 46 => 100 | 47 => 101 | 48 => 102 | 49 => 103 | 50 => 104 | 57 => 112 | n => n, fun | 22 => 38 | 24 => 34 | 25 => 66 | 3 => 3 | 39 => 83 | 0 => 0 | 53 => 101 | 55 => 32 | 4 => 4 | 46 => 94 | 45 => 93 | 50 => 98 | 5 => 5 | 9 => 9 | 66 => 118 | 70 => 122 | 76 => 130 | 77 => 131 | n => n, fun | n => n⟩
theorem Tryz.sortL : Go.Proofs.SlLaysF0.n6 Tryz.prog Tryz.sortL_ren := {
 mixed := by kernel_rfl
 f6 := ⟨Tryz.f43.name, by decide, Tryz.func43.trans (congrArg some (by kernel_rfl))⟩
 f14 := ⟨Tryz.f60.name, by decide, Tryz.func60.trans (congrArg some (by kernel_rfl))⟩
 f15 := Tryz.func61.trans (congrArg some (by kernel_rfl))
 f20 := ⟨Tryz.f77.name, by decide, Tryz.func77.trans (congrArg some (by kernel_rfl))⟩
 f21 := ⟨Tryz.f78.name, by decide, Tryz.func78.trans (congrArg some (by kernel_rfl))⟩
 f22 := ⟨Tryz.f79.name, by decide, Tryz.func79.trans (congrArg some (by kernel_rfl))⟩
 f23 := ⟨Tryz.f80.name, by decide, Tryz.func80.trans (congrArg some (by kernel_rfl))⟩
 f24 := ⟨Tryz.f81.name, by decide, Tryz.func81.trans (congrArg some (by kernel_rfl))⟩
 f25 := ⟨Tryz.f82.name, by decide, Tryz.func82.trans (congrArg some (by kernel_rfl))⟩
 f26 := ⟨Tryz.f83.name, by decide, Tryz.func83.trans (congrArg some (by kernel_rfl))⟩
 f27 := ⟨Tryz.f84.name, by decide, Tryz.func84.trans (congrArg some (by kernel_rfl))⟩
 f28 := Tryz.func85.trans (congrArg some (by kernel_rfl))
 f29 := Tryz.func86.trans (congrArg some (by kernel_rfl))
 f46 := ⟨Tryz.f100.name, by decide, Tryz.func100.trans (congrArg some (by kernel_rfl))⟩
 f47 := Tryz.func101.trans (congrArg some (by kernel_rfl))
 f48 := Tryz.func102.trans (congrArg some (by kernel_rfl))
 f49 := ⟨Tryz.f103.name, by decide, Tryz.func103.trans (congrArg some (by kernel_rfl))⟩
 f50 := ⟨Tryz.f104.name, by decide, Tryz.func104.trans (congrArg some (by kernel_rfl))⟩
 f57 := ⟨Tryz.f112.name, by decide, Tryz.func112.trans (congrArg some (by kernel_rfl))⟩
 t0 := Tryz.underlying0
 a0 := Tryz.isAgg0
 z0 := Tryz.sizeOf0
 v0 := Tryz.zeroValue0
 t3 := Tryz.underlying3
 a3 := Tryz.isAgg3
 z3 := Tryz.sizeOf3
 v3 := Tryz.zeroValue3
 t4 := Tryz.underlying4
 a4 := Tryz.isAgg4
 z4 := Tryz.sizeOf4
 v4 := Tryz.zeroValue4
 t5 := Tryz.underlying5
 a5 := Tryz.isAgg5
 z5 := Tryz.sizeOf5
 v5 := Tryz.zeroValue5
 t9 := Tryz.underlying9
 a9 := Tryz.isAgg9
 z9 := Tryz.sizeOf9
 v9 := Tryz.zeroValue9
 t22 := Tryz.underlying38
 a22 := Tryz.isAgg38
 z22 := Tryz.sizeOf38
 v22 := Tryz.zeroValue38
 t25 := Tryz.underlying66
 a25 := Tryz.isAgg66
 z25 := Tryz.sizeOf66
 v25 := Tryz.zeroValue66
 t39 := Tryz.underlying83
 a39 := Tryz.isAgg83
 z39 := Tryz.sizeOf83
 v39 := Tryz.zeroValue83
 t45 := Tryz.underlying93
 a45 := Tryz.isAgg93
 z45 := Tryz.sizeOf93
 v45 := Tryz.zeroValue93
 t46 := Tryz.underlying94
 a46 := Tryz.isAgg94
 z46 := Tryz.sizeOf94
 v46 := Tryz.zeroValue94
 t50 := Tryz.underlying98
 a50 := Tryz.isAgg98
 z50 := Tryz.sizeOf98
 v50 := Tryz.zeroValue98
 t53 := Tryz.underlying101
 a53 := Tryz.isAgg101
 z53 := Tryz.sizeOf101
 v53 := Tryz.zeroValue101
 t55 := Tryz.underlying32
 a55 := Tryz.isAgg32
 z55 := Tryz.sizeOf32
 v55 := Tryz.zeroValue32
 t66 := Tryz.underlying118
 a66 := Tryz.isAgg118
 z66 := Tryz.sizeOf118
 v66 := Tryz.zeroValue118
 t70 := Tryz.underlying122
 a70 := Tryz.isAgg122
 z70 := Tryz.sizeOf122
 v70 := Tryz.zeroValue122
 t76 := Tryz.underlying130
 a76 := Tryz.isAgg130
 z76 := Tryz.sizeOf130
 v76 := Tryz.zeroValue130
 t77 := Tryz.underlying131
 a77 := Tryz.isAgg131
 z77 := Tryz.sizeOf131
 v77 := Tryz.zeroValue131 }
end Go.Proofs
namespace Go.Proofs.Lb
open Go.SL Go.RowKit Go.Sort Go.Proofs
def labC (a : LabB) : List Value := [.int .i64 a.1, .int .u64 (a.2.toNat : Int)]
def sortL (l : List LabB) : List LabB := l.mergeSort fun x y => !(ltOf orZ) y x
theorem ltOf_orZ (a b : LabB) : ltOf orZ a b = decide (a.1 < b.1 ∨ (a.1 = b.1 /\ a.2.toNat < b.2.toNat)) := by
 unfold ltOf orZ cmpI
 rw [decide_eq_decide]
 repeat' split
 all_goals omega
theorem orZ_swo : SWO (ltOf orZ) where
 irrefl x := by rw [ltOf_orZ]; simp
 trans x y z h1 h2 := by rw [ltOf_orZ, decide_eq_true_eq] at *; omega
 ntrans x y z h1 h2 := by rw [ltOf_orZ, decide_eq_false_iff_not] at *; omega
theorem orZ_tot (x y : LabB) (h1 : ltOf orZ x y = false) (h2 : ltOf orZ y x = false) : x = y := by
 rw [ltOf_orZ, decide_eq_false_iff_not] at h1 h2
 exact Prod.ext (by omega) (BitVec.eq_of_toNat_eq (by omega))
theorem labC_len (x : LabB) : (labC x).length = 2 := rfl
theorem order_lays (blk off size : Nat) (w : World) : CmpLays Tryz.prog 44 #[] labC 2 orZ blk off size w := by
 intro m os dk hs x y
 refine (order_l (a := x) (b := y) (S := []) _ (Rep.start _)).mono ?_
 rintro e w' ⟨u, S', rfl, hr, rfl, rfl⟩
 refine ⟨rfl, grow_of hr.below (hr.drawn.resolve_left ?_)⟩
 unfold Loose
 exact id
theorem sort_fc {w0 : World} {S : SS} {k : Nat} {v : Value} {seg : Seg} {l : List LabB} (hs : S[k]? = some seg) (hv : SlV 34 2 v l.length (l.flatMap labC) seg) (hm : l.length < 4611686018427387904) :
  FC Tryz.prog w0 43 [v, .func (.func 44) #[] #[]] S (fun u S' => u = .tuple #[] /\ ∃ seg', SlV 34 2 v l.length ((sortL l).flatMap labC) seg' /\ S' = S.set k seg') := by
 intro w hr
 obtain ⟨hl, ⟨rfl, h0, rfl⟩ | ⟨r, cap, rfl, rfl, h1, h2⟩⟩ := hv
 ·obtain rfl : l = [] := List.length_eq_zero_iff.1 h0
  refine (AnyF.slices_SortFunc_none Tryz.sortL none 0 _ w).mono ?_
  rintro e w' ⟨rfl, rfl⟩
  have e0 : sortL [] = [] := by simp [sortL]
  rw [e0]
  refine ⟨_, S, rfl, hr, rfl, [], SlV.nil 34 2, ?_⟩
  apply List.ext_getElem?
  intro i
  rw [List.getElem?_set]
  split
  ·rename_i h; subst h; rw [hs]; split
   ·rfl
   rename_i h; rw [List.getElem?_eq_none (by omega)] at hs; cases hs
  rfl
 have hlt : r < w.heap.size := hr.lt (List.mem_flatten.2 ⟨_, List.mem_of_getElem? hs, List.mem_singleton.2 rfl⟩)
 obtain ⟨hge, C, hC, htot, hpre⟩ := hr.own (r, .cells (l.flatMap labC) 34 (cap * 2)) (List.mem_flatten.2 ⟨_, List.mem_of_getElem? hs, by simp⟩)
 have hH : HoldsK labC 2 w r 0 l.toArray := by
  intro j hj
  have hj' : j < l.length * 2 := by simpa using hj
  have e1 : (flatK labC 2 l.toArray)[j]? = C[j]? := by
   have := congrArg (·[j]?) hpre
   simp only [List.getElem?_take, Array.getElem?_toList] at this
   rw [if_pos (by rw [hl]; exact hj')] at this
   rw [this, <- Array.getElem?_toList, flatK_list labC_len]
  rw [Array.getElem?_eq_getElem hj] at e1
  constructor
  ·simp only [World.cell?, hC, Nat.zero_add]
   rw [getElem!_pos _ j hj]
   exact e1.symm
  simp [World.frozen?, hC]
 have hcon := AnyQ.slices_SortFunc_total Tryz.sortL 2 Tryz.isAgg34 Tryz.sizeOf34 labC labC_len (fun x v hv => by simp [labC] at hv; rcases hv with rfl | rfl <;> rfl) orZ orZ_swo 44 #[] r 0 cap l.toArray w
  (enters_of Tryz.func44 (by kernel_rfl) rfl) (order_lays r 0 _ w) hH hlt (by simpa using hm) orZ_tot
 rw [List.size_toArray] at hcon
 refine hcon.mono ?_
 rintro e w' ⟨rfl, n, os, rfl⟩
 have hlen : (sortL l).length = l.length := by simp [sortL]
 refine ⟨_, _, rfl, hr.sorted (d := l.toArray) (d' := (sortL l).toArray) labC_len (by simpa using hs) (by simp [hlen]) (by simpa using h1), rfl, [(r, .cells ((sortL l).flatMap labC) 34 (cap * 2))], ?_, by simp⟩
 have := SlV.mk' (E := 34) (r := r) (xs := (sortL l).flatMap labC) (sz := 2) (m := l.length) (cap := cap) (by rw [List.length_flatMap]; simp [labC_len, List.map_const', hlen]) h1 h2
 exact this
end Go.Proofs.Lb

namespace Go.SL
open Go.RowKit Go.ChangeShapes
section plain
variable {α β γ : Type} [DecidableEq α]
end plain
section
variable {P : Program} {w0 : World} {n : Nat} {T : TT} {S : SS}
variable {α β : Type} [DecidableEq α] {f : α -> Value} {g : β -> Value} {kt et t : TypeId} {ok : α -> Prop}
theorem mem_at {S : SS} {j b : Nat} {o : AO} (hk : S[j]? = some [(b, o)]) : (b, o) ∈ S.flatten := List.mem_flatten.2 ⟨_, List.mem_of_getElem? hk, List.mem_singleton.2 rfl⟩
theorem OW.mkG : OW P w0 n .mkM T S (fun v S' => ∃ r, v = .map (some r) /\ S' = [(r, .gm [])] :: S) := by
 intro op a w Q hco hs hr
 obtain ⟨t, ho⟩ := cOp_spec P hco
 have hrun : (execOp a.eval op).run P w = .ok (.value (.map (some w.heap.size))) (w.alloc (.map #[] 0)) := by
  simp [execOp, ho, Instr.makeMap, newObj, Sem.run]
 unfold Oper.wp
 rw [hrun]
 refine ⟨_, _, rfl, ?_, w.heap.size, rfl, rfl⟩
 refine hr.push (below_alloc hr _) (fun i hi => alloc_heap_lt w _ i hi) (by simp) ?_
 intro p hp
 simp only [List.mem_singleton] at hp
 subst hp
 exact ⟨⟨#[], 0, alloc_heap_new w _, by simp⟩, Nat.le_refl _⟩
theorem Rep.tell {w : World} {k b : Nat} {o o' : AO} (h : Rep w0 S w) (hk : S[k]? = some [(b, o)]) (ho : ∀ w, Owns w b o -> Owns w b o') : Rep w0 (S.set k [(b, o')]) w := by
 obtain ⟨hge, how⟩ := h.own (b, o) (mem_at hk)
 refine h.replace hk (Below.refl _ _) (fun _ _ _ => rfl) (by simp) (by
  intro p hp
  simp only [List.mem_singleton] at hp
  subst hp
  exact ⟨hge, ho _ how, .inl (by simp)⟩)
theorem OW.xfW {k : FuncId} {args : List PV} {vs : List Value} {K : Value -> SS -> Prop} (hv : valsP T args = some vs) (h : ∀ w, Rep w0 S w -> ∃ v w' S', (callFunc k vs.toArray).run P w = .ok (.value v) w' /\ Rep w0 S' w' /\ K v S') :
  OW P w0 n (.more (.other (.xf k args))) T S K := by
 intro o a w Q hco hs hr
 obtain ⟨c, ho, hca, rfl⟩ := cOp_spec P hco
 have hargs : c.args.map a.eval = vs.toArray := by
  apply Array.toList_inj.1
  simpa using valsP_spec hs hv
 obtain ⟨v, w', S', h1, h2, h3⟩ := h w hr
 unfold Oper.wp
 have hrun : (execOp a.eval o).run P w = .ok (.value v) w' := by
  simp only [execOp, ho]
  simp [resolve, hca, Act.eval, Deferred.ofValue, invoke, hargs, h1]
 rw [hrun]
 exact ⟨v, S', rfl, h2, h3⟩
end
end Go.SL





namespace Go.Proofs.Lb
open Go.SL Go.RowKit Go.Proofs
set_option maxHeartbeats 1000000
def labs (l : List LabB) : List Value := l.flatMap labC
theorem labs_len (l : List LabB) : (labs l).length = l.length * 2 := by
 unfold labs
 rw [List.length_flatMap]
 simp [labC_len, List.map_const']
theorem labs_one (l : List LabB) : (labs l).all (·.oneCell') = true := by
 rw [List.all_eq_true]
 intro v hv
 obtain ⟨a, _, h⟩ := List.mem_flatMap.1 hv
 simp [labC] at h
 rcases h with rfl | rfl <;> rfl
theorem labs_get {l : List LabB} {k : Nat} (hk : k < l.length) {j : Nat} (hj : j < 2) : (labs l)[k * 2 + j]? = (labC l[k])[j]? := by
 unfold labs
 rw [flat_get labC_len l (k * 2 + j) (by omega), show (k * 2 + j) / 2 = k from by omega, show (k * 2 + j) % 2 = j from by omega, getElem!_pos l k hk]
theorem labs_at {w0 : World} {S : SS} {a : Addr} {l : List LabB} (h : Rd w0 S (some a) (labs l)) {k : Nat} (hk : k < l.length) :
  ∀ (j : Nat) (v : Value), [Value.int .i64 l[k].1, .int .u64 (l[k].2.toNat : Int)][j]? = some v -> Cell w0 S ((a.add (k * 2)).add j) v := by
 intro j v hj
 have hj2 : j < 2 := by have := (List.getElem?_eq_some_iff.1 hj).1; simpa using this
 rw [addr_add_add]
 exact h.at (by rw [labs_get hk hj2]; exact hj)
theorem labs_some {w0 : World} {S : SS} {A : Option Addr} {l : List LabB} (h : Rd w0 S A (labs l)) (hk : 0 < l.length) : ∃ a, A = some a :=
 h.some (fun e => by have := labs_len l; rw [e] at this; simp at this; omega)
theorem take_eq {α : Type} {l l' : List α} {k : Nat} (hk : k < l.length) (hk' : k < l'.length) (h : l.take k = l'.take k) (he : l[k] = l'[k]) : l.take (k + 1) = l'.take (k + 1) := by
 rw [List.take_add_one, List.take_add_one, h, List.getElem?_eq_getElem hk, List.getElem?_eq_getElem hk', he]
theorem same_fc {w0 : World} {S : SS} {A B : Option Addr} {cA cB : Nat} {l l' : List LabB} (hx : Rd w0 S A (labs l)) (hy : Rd w0 S B (labs l')) (hb : l.length <= 1000000000000) (hb' : l'.length <= 1000000000000) :
  FC Tryz.prog w0 12 [.slice A l.length cA, .slice B l'.length cB] S (fun v S' => v = .bool (decide (l = l')) /\ S' = S) := by
 refine FC.of Tryz.known12 (by simp) ?_
 unfold Tryz.pc12
 simp only [argT]
 refine PW.seqOps (OL.dp rfl (OL.nil (PW.k2 0 1 rfl ?_)))
 refine PW.seq fun K1 hK1 => ?_
 refine PW.seqOps (OL.dp rfl (OL.dp rfl (OL.dp rfl (OL.dp rfl (OL.dp rfl (OL.nil (PW.k3 0 1 10 rfl ?_)))))))
 refine PW.cond rfl (fun c10 => ?_) (fun c10 => ?_)
 ·try simp only [decide_eq_true_eq, decide_eq_false_iff_not, beq_iff_eq, bne_iff_ne, beq_eq_false_iff_ne, bne_eq_false_iff_eq, Bool.not_eq_true', Bool.not_eq_false', Bool.not_eq_true, ne_eq, Decidable.not_not] at c10
  refine PW.seqOps (OL.dp rfl (OL.nil (PW.k1 4 rfl (PW.ret ?_))))
  change (Exit.ret = Exit.normal ∨ Exit.ret = Exit.ret) /\ ∃ v, resV _ _ = some v /\ _
  exact ⟨.inr rfl, _, rfl, by rw [decide_eq_false]; intro e; subst e; omega, rfl⟩
 try simp only [decide_eq_true_eq, decide_eq_false_iff_not, beq_iff_eq, bne_iff_ne, beq_eq_false_iff_ne, bne_eq_false_iff_eq, Bool.not_eq_true', Bool.not_eq_false', Bool.not_eq_true, ne_eq, Decidable.not_not] at c10
 refine PW.skip (hK1 _ _ (PW.k2 0 1 rfl ?_))
 refine PW.seq fun K2 hK2 => ?_
 refine PW.seqOps (OL.dp rfl (OL.nil (PW.k3 0 1 5 rfl (PW.block (PW.k3 0 1 5 rfl ?_)))))
 refine PW.loopK (I := fun m T S' => ∃ (k : Nat), (k <= l.length /\ m = l.length - k /\ l.take k = l'.take k) /\ T = ([(0, .slice A l.length cA), (1, (.slice B l'.length cB)), (5, .int .i64 k)] : TT) /\ S' = S) (m := l.length) ⟨0, ⟨by omega, by omega, rfl⟩, rfl, rfl⟩ ?_
 rintro m _ _ ⟨k, ⟨hk, hm, ht⟩, rfl, rfl⟩
 refine PW.seq fun K3 hK3 => ?_
 refine PW.seqOps (OL.dp rfl (OL.dp rfl (OL.dp rfl (OL.dp rfl (OL.nil (PW.k4 0 1 5 14 rfl ?_))))))
 refine PW.cond rfl (fun c14 => ?_) (fun c14 => ?_)
 ·try simp only [decide_eq_true_eq, decide_eq_false_iff_not, beq_iff_eq, bne_iff_ne, beq_eq_false_iff_ne, bne_eq_false_iff_eq, Bool.not_eq_true', Bool.not_eq_false', Bool.not_eq_true, ne_eq, Decidable.not_not] at c14
  have hkl : k < l.length := by omega
  have hkl' : k < l'.length := by omega
  obtain ⟨a0, rfl⟩ := labs_some hx (by omega)
  obtain ⟨b0, rfl⟩ := labs_some hy (by omega)
  refine PW.skip (hK3 _ _ (PW.k3 0 1 5 rfl ?_))
  refine PW.seq fun K4 hK4 => ?_
  refine PW.block ?_
  refine PW.seq fun K5 hK5 => ?_
  refine PW.quietK Tryz.mixed (QK.dp rfl (QK.dp rfl ?_))
  refine QK.det trivial (.ixN rfl rfl rfl (by omega)) ?_
  refine QK.det trivial (.ldA rfl rfl (labs_at hx hkl)) (QK.dp rfl (QK.dp rfl ?_))
  refine QK.det trivial (.ixN rfl rfl rfl (by omega)) ?_
  refine QK.det trivial (.ldA rfl rfl (labs_at hy hkl')) (QK.nil ?_)
  change OL _ _ _ [_] _ _ _
  refine OL.det trivial (Yields.eqA rfl rfl (eq_lab (l[k]) (l'[k]))) (OL.nil (hK5 _ _ (PW.k4 0 1 5 25 rfl ?_)))
  refine PW.cond rfl (fun c25 => ?_) (fun c25 => ?_)
  ·try simp only [decide_eq_true_eq, decide_eq_false_iff_not, beq_iff_eq, bne_iff_ne, beq_eq_false_iff_ne, bne_eq_false_iff_eq, Bool.not_eq_true', Bool.not_eq_false', Bool.not_eq_true, ne_eq, Decidable.not_not] at c25
   refine PW.seqOps (OL.dp rfl (OL.nil (PW.k1 4 rfl (PW.ret ?_))))
   change (Exit.ret = Exit.normal ∨ Exit.ret = Exit.ret) /\ ∃ v, resV _ _ = some v /\ _
   exact ⟨.inr rfl, _, rfl, by rw [decide_eq_false]; intro e; subst e; simp at c25, rfl⟩
  try simp only [decide_eq_true_eq, decide_eq_false_iff_not, beq_iff_eq, bne_iff_ne, beq_eq_false_iff_ne, bne_eq_false_iff_eq, Bool.not_eq_true', Bool.not_eq_false', Bool.not_eq_true, ne_eq, Decidable.not_not] at c25
  refine PW.skip (hK4 _ _ (PW.k3 0 1 5 rfl (PW.ops (OL.dp rfl ?_))))
  refine OL.det trivial (.add64 rfl rfl (by omega) (by omega)) ?_
  refine OL.dp rfl (OL.nil ?_)
  repeat rw [inBlk_n]
  try rw [thenK_n]
  refine LoopEnd.mk (T'' := [(0, _), (1, _), (5, _)]) (wi rfl) ?_
  refine ⟨l.length - (k + 1), by omega, k + 1, ⟨by omega, rfl, take_eq hkl hkl' ht (by simpa using c25)⟩, rfl, rfl⟩
 try simp only [decide_eq_true_eq, decide_eq_false_iff_not, beq_iff_eq, bne_iff_ne, beq_eq_false_iff_ne, bne_eq_false_iff_eq, Bool.not_eq_true', Bool.not_eq_false', Bool.not_eq_true, ne_eq, Decidable.not_not] at c14
 refine PW.exit (hK2 _ _ (PW.keep (T' := []) trivial (PW.seqOps (OL.dp rfl (OL.nil (PW.k1 4 rfl (PW.ret ?_)))))))
 change (Exit.ret = Exit.normal ∨ Exit.ret = Exit.ret) /\ ∃ v, resV _ _ = some v /\ _
 obtain rfl : k = l.length := by omega
 rw [List.take_length, show l.length = l'.length from by omega, List.take_length] at ht
 exact ⟨.inr rfl, _, rfl, by rw [decide_eq_true ht], rfl⟩
theorem clone_fc {w0 : World} {S : SS} {A : Option Addr} {c : Nat} {l : List LabB} (hx : Rd w0 S A (labs l)) (hb : l.length <= 1000000000000) :
  FC Tryz.prog w0 42 [.slice A l.length c] S (fun v S' => ∃ seg, S' = seg :: S /\ SlV 34 2 v l.length (labs l) seg) := by
 refine FC.ofD Tryz.known42 (by simp) ?_
 unfold Tryz.pc42
 simp only [argT]
 refine PW.seqOps (OL.dp rfl (OL.nil (PW.k1 0 rfl ?_)))
 refine PW.seq fun K1 hK1 => ?_
 refine PW.seqOps (OL.dp rfl (OL.det trivial (Yields.slNil rfl) (OL.nil (PW.k2 0 4 rfl ?_))))
 refine PW.cond rfl (fun c4 => ?_) (fun c4 => ?_)
 ·try simp only [decide_eq_true_eq, decide_eq_false_iff_not, beq_iff_eq, bne_iff_ne, beq_eq_false_iff_ne, bne_eq_false_iff_eq, Bool.not_eq_true', Bool.not_eq_false', Bool.not_eq_true, ne_eq, Decidable.not_not] at c4
  refine PW.seqOps (OL.dp rfl (OL.nil (PW.k1 2 rfl (PW.ret ?_))))
  change (Exit.ret = Exit.normal ∨ Exit.ret = Exit.ret) /\ ∃ v, resV _ _ = some v /\ _
  obtain rfl : A = none := by cases A with
   | none => rfl
   | some a => simp at c4
  have hl : l = [] := by
   cases l with
   | nil => rfl
   | cons x l => obtain ⟨a, e⟩ := labs_some hx (by simp); cases e
  subst hl
  exact ⟨.inr rfl, _, rfl, _, Sub.nilL (Sub.refl _), [], rfl, SlV.nil 34 2⟩
 try simp only [decide_eq_true_eq, decide_eq_false_iff_not, beq_iff_eq, bne_iff_ne, beq_eq_false_iff_ne, bne_eq_false_iff_eq, Bool.not_eq_true', Bool.not_eq_false', Bool.not_eq_true, ne_eq, Decidable.not_not] at c4
 refine PW.skip (hK1 _ _ (PW.k1 0 rfl (PW.seqOps (OL.cons trivial OW.bsl0 ?_))))
 rintro _ _ ⟨r5, rfl, rfl⟩
 refine OL.dp rfl ?_
 obtain ⟨a0, rfl⟩ : ∃ a, A = some a := by cases A with
  | none => simp at c4
  | some a => exact ⟨a, rfl⟩
 refine OL.cons trivial (OW.app (k := 0) (m := 0) (xs := []) rfl rfl (SlV.mk' (cap := 0) rfl (Nat.le_refl 0) (by decide)) rfl (labs_len l) (fun j u hj => hx.cons.at hj) (labs_one l) (by omega) (by unfold maxLen; omega)) ?_
 rintro v7 _ ⟨seg7, rfl, hsl7⟩
 change OL _ _ _ _ _ (seg7 :: S) _
 rw [Nat.zero_add, List.nil_append] at hsl7
 refine OL.dp rfl (OL.nil (PW.k1 2 rfl (PW.ret ?_)))
 change (Exit.ret = Exit.normal ∨ Exit.ret = Exit.ret) /\ ∃ v, resV _ _ = some v /\ _
 exact ⟨.inr rfl, _, rfl, _, Sub.refl _, _, rfl, hsl7⟩
end Go.Proofs.Lb

namespace Go.SL
open Go.RowKit
section
variable {P : Program} {w0 : World} {n : Nat} {T : TT} {S : SS}
def madeL (z : List Value) (n : Nat) : List Value := (List.range n).map fun i => z.getD (i % z.length) undef
theorem zeroCells_eq {z : Array Value} (h : 0 < z.size) (k : Nat) : (Builtin.zeroCells z k).toList = madeL z.toList (k * z.size) := by
 simp only [Builtin.zeroCells, madeL, Array.toList_map, Array.toList_range]
 apply List.map_congr_left
 intro i _
 have : i % z.size < z.size := Nat.mod_lt _ h
 rw [getElem!_pos z (i % z.size) this]
 simp [List.getD_eq_getElem?_getD, this]
theorem OW.clr {E E' sz b o l cp tot k : Nat} {z : Value} {x : PV} {c news : List Value} (hx : x.val T = some (.slice (some ⟨b, o, none⟩) l cp)) (hk : S[k]? = some [(b, .cells c E' tot)]) (hl : 0 < l) (hz : 0 < z.cells.size)
  (hn : news = madeL z.cells.toList (l * z.cells.size)) (hb : o + news.length <= c.length) (h1 : news.all (·.oneCell') = true) :
  OW P w0 n (.more (.clr E sz z x)) T S (fun v S' => v = .tuple #[] /\ S' = S.set k [(b, .cells (setAt c o news) E' tot)]) := by
 intro op a w Q hco hs hr
 obtain ⟨t, y, cl, i, ho, hca, hat, har, rfl, hu, hi, hiz, hsz, hzs, hs0⟩ := cOp_spec P hco
 obtain ⟨hge, C, hC, htot, hpre⟩ := hr.own (b, .cells c E' tot) (List.mem_flatten.2 ⟨_, List.mem_of_getElem? hk, by simp⟩)
 simp only at hge hC
 have hlen : c.length <= C.size := by
  have := congrArg List.length hpre
  simp at this
  omega
 have hst := run_storeCells_at P b o E' news 0 C w hC (by omega) (fun v hv => (List.all_eq_true.1 h1) v hv)
 simp only [Nat.add_zero] at hst
 unfold Oper.wp
 have hrun : (execOp a.eval op).run P w = .ok (.value (.tuple #[])) (w.setRow b (C.toList.take o ++ news ++ C.toList.drop (o + news.length)).toArray) := by
  simp only [execOp, ho, resolve, hca, invoke, builtin, hat, har]
  obtain ⟨l', rfl⟩ : ∃ l', l = l' + 1 := ⟨l - 1, by omega⟩
  simp [Builtin.clear_, hs.eval hx, run_underlying hu, zeroValue, typeInfo, program, Sem.run, hi, hiz, zeroCells_eq hz, <- hn, hst]
 rw [hrun]
 refine ⟨_, _, rfl, ?_, rfl, rfl⟩
 have hheap := setRow_heap w b C (C.toList.take o ++ news ++ C.toList.drop (o + news.length)).toArray E' (0, 0) hC
 refine hr.replace hk (below_setRow w b _ hge) (fun i _ hne => setRow_heap_other w b i _ (by simpa using hne)) (by simp) ?_
 intro p hp
 simp only [List.mem_singleton] at hp
 subst hp
 refine ⟨hge, ⟨_, hheap, ?_, ?_⟩, .inl (by simp)⟩
 ·simp only [List.size_toArray, List.length_append, List.length_take, List.length_drop, Array.length_toList]; omega
 rw [setAt_length, setAt_eq c o _ (by omega)]
 have := take_lay C.toList o news c.length (by omega) (by simp; omega)
 simp only at this ⊢
 rw [hpre] at this
 simpa using this
end
end Go.SL
