/- Walks and plain facts for the laws of this seat: what each function answers, for every input. -/
import Derived.Test.YtbidjnjbiibdeaaDoorPaW4
set_option linter.unusedVariables false
set_option linter.unusedSimpArgs false
namespace Go.Proofs
open Go.SL Go.RowKit
set_option maxHeartbeats 1000000

def underP (p s : ByteArray) : Bool := isP s && decide (prefP p = 0) && (decide (p = ⟨#[]⟩) || decide (p = s) || startsB s (p ++ slB))
theorem starts_iff (s q : ByteArray) : startsB s q = true ↔ q.data.toList <+: s.data.toList := by
  unfold startsB
  rw [Bool.and_eq_true, decide_eq_true_eq, decide_eq_true_eq]
  have h1 : q.data.toList.length = q.size := by simp
  have h2 : s.data.toList.length = s.size := by simp
  constructor
  · rintro ⟨h, e⟩
    have := congrArg (fun x : ByteArray => x.data.toList) e
    simp only [ext_list, List.drop_zero] at this
    rw [← this]
    exact List.take_prefix _ _
  · rintro h
    have hl := h.length_le
    refine ⟨by omega, ba_ext ?_⟩
    rw [ext_list, List.drop_zero, ← h1]
    exact (List.prefix_iff_eq_take.1 h).symm
theorem pre_snoc {p l : List UInt8} {b : UInt8} : p ++ [b] <+: l ↔ p <+: l ∧ l[p.length]? = some b := by
  constructor
  · rintro ⟨r, rfl⟩
    exact ⟨⟨b :: r, by simp⟩, by simp⟩
  · rintro ⟨⟨r, rfl⟩, h⟩
    simp only [List.getElem?_append_right (Nat.le_refl _), Nat.sub_self] at h
    cases r with
    | nil => simp at h
    | cons c r => simp at h; subst h; exact ⟨r, by simp⟩
theorem slash_iff (s p : ByteArray) : startsB s (p ++ slB) = true ↔ p.data.toList <+: s.data.toList ∧ s.data.toList[p.size]? = some 47 := by
  rw [starts_iff, app_list, show slB.data.toList = [47] from rfl, pre_snoc]
  simp
theorem under_fc {w0 : World} {S : SS} {p s : ByteArray} (hp : p.size ≤ 1000000000) (hs : s.size ≤ 1000000000) : FC Tryd.prog w0 36 [.string p, .string s] S (fun v S' => v = .bool (underP p s) ∧ S' = S) := by
  refine FC.of Tryd.known36 (by simp) ?_
  unfold Tryd.pc36
  simp only [argT]
  refine PW.seqOps ?_
  refine OL.det trivial (Yields.pure rfl) ?_
  refine OL.nil ?_
  refine PW.keep (T' := [(0, _), (1, _)]) ⟨rfl, rfl, trivial⟩ ?_
  refine PW.seq fun K1 hK1 => ?_
  refine PW.seqOps ?_
  refine OL.det trivial (Yields.pure rfl) ?_
  refine OL.call trivial rfl (is_fc hs) ?_
  rintro _ Sx ⟨rfl, hSx⟩
  rw [hSx]
  clear hSx
  refine OL.det trivial (Yields.pure rfl) ?_
  refine OL.bool trivial (Yields.pure rfl) (fun g8 => ?_) (fun g8 => ?_)
  · try simp only [decide_eq_true_eq, decide_eq_false_iff_not, beq_iff_eq, bne_iff_ne, beq_eq_false_iff_ne, bne_eq_false_iff_eq, Bool.not_eq_true', Bool.not_eq_false', Bool.not_eq_true, ne_eq, Decidable.not_not] at g8
    refine OL.off rfl rfl ?_
    refine OL.off rfl rfl ?_
    refine OL.off rfl rfl ?_
    refine OL.det trivial (Yields.pure rfl) ?_
    refine OL.nil ?_
    refine PW.keep (T' := [(0, _), (1, _), (12, _)]) ⟨rfl, rfl, rfl, trivial⟩ ?_
    refine PW.ite (b := true) rfl ?_
    rw [if_pos rfl]
    refine PW.seqOps ?_
    refine OL.det trivial (Yields.pure rfl) ?_
    refine OL.nil ?_
    refine PW.keep (T' := [(4, _)]) ⟨rfl, trivial⟩ ?_
    refine PW.ret ?_
    change (Exit.ret = Exit.normal ∨ Exit.ret = Exit.ret) ∧ ∃ v, resV _ _ = some v ∧ _
    exact ⟨.inr rfl, _, rfl, by unfold underP; first | (rw [show isP s = false by simpa using g8]; rfl) | (rw [show decide (prefP p = 0) = false from decide_eq_false (by simpa using c12), Bool.and_false]; rfl), rfl⟩
  · try simp only [decide_eq_true_eq, decide_eq_false_iff_not, beq_iff_eq, bne_iff_ne, beq_eq_false_iff_ne, bne_eq_false_iff_eq, Bool.not_eq_true', Bool.not_eq_false', Bool.not_eq_true, ne_eq, Decidable.not_not] at g8
    refine OL.det rfl (Yields.pure rfl) ?_
    refine OL.call rfl rfl (pref_fc hp) ?_
    rintro _ Sx ⟨rfl, hSx⟩
    rw [hSx]
    clear hSx
    refine OL.det rfl (Yields.pure rfl) ?_
    refine OL.det trivial (Yields.pure rfl) ?_
    refine OL.nil ?_
    refine PW.keep (T' := [(0, _), (1, _), (12, _)]) ⟨rfl, rfl, rfl, trivial⟩ ?_
    refine PW.cond rfl (fun c12 => ?_) (fun c12 => ?_)
    · try simp only [decide_eq_true_eq, decide_eq_false_iff_not, beq_iff_eq, bne_iff_ne, beq_eq_false_iff_ne, bne_eq_false_iff_eq, Bool.not_eq_true', Bool.not_eq_false', Bool.not_eq_true, ne_eq, Decidable.not_not] at c12
      refine PW.seqOps ?_
      refine OL.det trivial (Yields.pure rfl) ?_
      refine OL.nil ?_
      refine PW.keep (T' := [(4, _)]) ⟨rfl, trivial⟩ ?_
      refine PW.ret ?_
      change (Exit.ret = Exit.normal ∨ Exit.ret = Exit.ret) ∧ ∃ v, resV _ _ = some v ∧ _
      exact ⟨.inr rfl, _, rfl, by unfold underP; first | (rw [show isP s = false by simpa using g8]; rfl) | (rw [show decide (prefP p = 0) = false from decide_eq_false (by simpa using c12), Bool.and_false]; rfl), rfl⟩
    · try simp only [decide_eq_true_eq, decide_eq_false_iff_not, beq_iff_eq, bne_iff_ne, beq_eq_false_iff_ne, bne_eq_false_iff_eq, Bool.not_eq_true', Bool.not_eq_false', Bool.not_eq_true, ne_eq, Decidable.not_not] at c12
      refine PW.skip ?_
      refine hK1 _ _ ?_
      refine PW.keep (T' := [(0, _), (1, _)]) ⟨rfl, rfl, trivial⟩ ?_
      refine PW.seqOps ?_
      refine OL.det trivial (Yields.pure rfl) ?_
      refine OL.det trivial (Yields.pure rfl) ?_
      refine OL.bool trivial (Yields.pure rfl) (fun g15 => ?_) (fun g15 => ?_)
      · try simp only [decide_eq_true_eq, decide_eq_false_iff_not, beq_iff_eq, bne_iff_ne, beq_eq_false_iff_ne, bne_eq_false_iff_eq, Bool.not_eq_true', Bool.not_eq_false', Bool.not_eq_true, ne_eq, Decidable.not_not] at g15
        rw [toL_inj] at g15
        refine OL.off rfl rfl ?_
        refine OL.off rfl rfl ?_
        refine OL.off rfl rfl ?_
        refine OL.det trivial (Yields.pure rfl) ?_
        refine OL.det trivial (Yields.pure rfl) ?_
        refine OL.off rfl rfl ?_
        refine OL.off rfl rfl ?_
        refine OL.off rfl rfl ?_
        refine OL.off rfl rfl ?_
        refine OL.det trivial (Yields.pure rfl) ?_
        refine OL.det trivial (Yields.pure rfl) ?_
        refine OL.nil ?_
        refine PW.keep (T' := [(4, _)]) ⟨rfl, trivial⟩ ?_
        refine PW.ret ?_
        change (Exit.ret = Exit.normal ∨ Exit.ret = Exit.ret) ∧ ∃ v, resV _ _ = some v ∧ _
        have h1 : isP s = true := by simpa using g8
        have h2 : decide (prefP p = 0) = true := decide_eq_true (by simpa using c12)
        refine ⟨.inr rfl, _, rfl, congrArg Value.bool ?_, rfl⟩
        unfold underP
        rw [h1, h2]
        first | (rw [show decide (p = ⟨#[]⟩) = true from decide_eq_true g15]; rfl) | (rw [show decide (p = s) = true from decide_eq_true g20, Bool.or_true]; rfl) | (rw [show decide (p = ⟨#[]⟩) = false from decide_eq_false g15, show decide (p = s) = false from decide_eq_false g20]; rfl)
      · try simp only [decide_eq_true_eq, decide_eq_false_iff_not, beq_iff_eq, bne_iff_ne, beq_eq_false_iff_ne, bne_eq_false_iff_eq, Bool.not_eq_true', Bool.not_eq_false', Bool.not_eq_true, ne_eq, Decidable.not_not] at g15
        rw [toL_inj] at g15
        refine OL.det rfl (Yields.pure rfl) ?_
        refine OL.det rfl (Yields.pure rfl) ?_
        refine OL.det rfl (Yields.pure rfl) ?_
        refine OL.det trivial (Yields.pure rfl) ?_
        refine OL.bool trivial (Yields.pure rfl) (fun g20 => ?_) (fun g20 => ?_)
        · try simp only [decide_eq_true_eq, decide_eq_false_iff_not, beq_iff_eq, bne_iff_ne, beq_eq_false_iff_ne, bne_eq_false_iff_eq, Bool.not_eq_true', Bool.not_eq_false', Bool.not_eq_true, ne_eq, Decidable.not_not] at g20
          rw [toL_inj] at g20
          refine OL.off rfl rfl ?_
          refine OL.off rfl rfl ?_
          refine OL.off rfl rfl ?_
          refine OL.off rfl rfl ?_
          refine OL.det trivial (Yields.pure rfl) ?_
          refine OL.det trivial (Yields.pure rfl) ?_
          refine OL.nil ?_
          refine PW.keep (T' := [(4, _)]) ⟨rfl, trivial⟩ ?_
          refine PW.ret ?_
          change (Exit.ret = Exit.normal ∨ Exit.ret = Exit.ret) ∧ ∃ v, resV _ _ = some v ∧ _
          have h1 : isP s = true := by simpa using g8
          have h2 : decide (prefP p = 0) = true := decide_eq_true (by simpa using c12)
          refine ⟨.inr rfl, _, rfl, congrArg Value.bool ?_, rfl⟩
          unfold underP
          rw [h1, h2]
          first | (rw [show decide (p = ⟨#[]⟩) = true from decide_eq_true g15]; rfl) | (rw [show decide (p = s) = true from decide_eq_true g20, Bool.or_true]; rfl) | (rw [show decide (p = ⟨#[]⟩) = false from decide_eq_false g15, show decide (p = s) = false from decide_eq_false g20]; rfl)
        · try simp only [decide_eq_true_eq, decide_eq_false_iff_not, beq_iff_eq, bne_iff_ne, beq_eq_false_iff_ne, bne_eq_false_iff_eq, Bool.not_eq_true', Bool.not_eq_false', Bool.not_eq_true, ne_eq, Decidable.not_not] at g20
          rw [toL_inj] at g20
          refine OL.det rfl (Yields.pure rfl) ?_
          refine OL.det rfl (Yields.pure rfl) ?_
          refine OL.det rfl (yields_cat (a := p) (b := slB) rfl rfl (by show p.size + 1 ≤ _; omega)) ?_
          refine OL.call rfl rfl (hasp_fc (p := p ++ slB)) ?_
          rintro _ Sx ⟨rfl, hSx⟩
          rw [hSx]
          clear hSx
          refine OL.det trivial (Yields.pure rfl) ?_
          refine OL.det trivial (Yields.pure rfl) ?_
          refine OL.nil ?_
          refine PW.keep (T' := [(4, _)]) ⟨rfl, trivial⟩ ?_
          refine PW.ret ?_
          change (Exit.ret = Exit.normal ∨ Exit.ret = Exit.ret) ∧ ∃ v, resV _ _ = some v ∧ _
          have h1 : isP s = true := by simpa using g8
          have h2 : decide (prefP p = 0) = true := decide_eq_true (by simpa using c12)
          refine ⟨.inr rfl, _, rfl, congrArg Value.bool ?_, rfl⟩
          unfold underP
          rw [h1, h2]
          first | (rw [show decide (p = ⟨#[]⟩) = true from decide_eq_true g15]; rfl) | (rw [show decide (p = s) = true from decide_eq_true g20, Bool.or_true]; rfl) | (rw [show decide (p = ⟨#[]⟩) = false from decide_eq_false g15, show decide (p = s) = false from decide_eq_false g20]; rfl)
theorem runder_fc {w0 : World} {S : SS} {p s : ByteArray} (hp : p.size ≤ 1000000000) (hs : s.size ≤ 1000000000) : FC Tryd.prog w0 37 [.string p, .string s] S (fun v S' => v = .bool (underP p s) ∧ S' = S) := by
  refine FC.of Tryd.known37 (by simp) ?_
  unfold Tryd.pc37
  simp only [argT]
  refine PW.seqOps ?_
  refine OL.det trivial (Yields.pure rfl) ?_
  refine OL.nil ?_
  refine PW.keep (T' := [(0, _), (1, _)]) ⟨rfl, rfl, trivial⟩ ?_
  refine PW.seq fun K1 hK1 => ?_
  refine PW.seqOps ?_
  refine OL.det trivial (Yields.pure rfl) ?_
  refine OL.call trivial rfl (rpref_fc hp) ?_
  rintro _ Sx ⟨rfl, hSx⟩
  rw [hSx]
  clear hSx
  refine OL.det trivial (Yields.pure rfl) ?_
  refine OL.bool trivial (Yields.pure rfl) (fun g9 => ?_) (fun g9 => ?_)
  · try simp only [decide_eq_true_eq, decide_eq_false_iff_not, beq_iff_eq, bne_iff_ne, beq_eq_false_iff_ne, bne_eq_false_iff_eq, Bool.not_eq_true', Bool.not_eq_false', Bool.not_eq_true, ne_eq, Decidable.not_not] at g9
    refine OL.off rfl rfl ?_
    refine OL.off rfl rfl ?_
    refine OL.off rfl rfl ?_
    refine OL.det trivial (Yields.pure rfl) ?_
    refine OL.nil ?_
    refine PW.keep (T' := [(0, _), (1, _), (13, _)]) ⟨rfl, rfl, rfl, trivial⟩ ?_
    refine PW.ite (b := true) rfl ?_
    rw [if_pos rfl]
    refine PW.seqOps ?_
    refine OL.det trivial (Yields.pure rfl) ?_
    refine OL.nil ?_
    refine PW.keep (T' := [(4, _)]) ⟨rfl, trivial⟩ ?_
    refine PW.ret ?_
    change (Exit.ret = Exit.normal ∨ Exit.ret = Exit.ret) ∧ ∃ v, resV _ _ = some v ∧ _
    exact ⟨.inr rfl, _, rfl, by unfold underP; first | (rw [show isP s = false by simpa using c13]; rfl) | (rw [show decide (prefP p = 0) = false from decide_eq_false (by simpa using g9), Bool.and_false]; rfl), rfl⟩
  · try simp only [decide_eq_true_eq, decide_eq_false_iff_not, beq_iff_eq, bne_iff_ne, beq_eq_false_iff_ne, bne_eq_false_iff_eq, Bool.not_eq_true', Bool.not_eq_false', Bool.not_eq_true, ne_eq, Decidable.not_not] at g9
    refine OL.det rfl (Yields.pure rfl) ?_
    refine OL.call rfl rfl (ris_fc hs) ?_
    rintro _ Sx ⟨rfl, hSx⟩
    rw [hSx]
    clear hSx
    refine OL.det rfl (Yields.pure rfl) ?_
    refine OL.det trivial (Yields.pure rfl) ?_
    refine OL.nil ?_
    refine PW.keep (T' := [(0, _), (1, _), (13, _)]) ⟨rfl, rfl, rfl, trivial⟩ ?_
    refine PW.cond rfl (fun c13 => ?_) (fun c13 => ?_)
    · try simp only [decide_eq_true_eq, decide_eq_false_iff_not, beq_iff_eq, bne_iff_ne, beq_eq_false_iff_ne, bne_eq_false_iff_eq, Bool.not_eq_true', Bool.not_eq_false', Bool.not_eq_true, ne_eq, Decidable.not_not] at c13
      refine PW.seqOps ?_
      refine OL.det trivial (Yields.pure rfl) ?_
      refine OL.nil ?_
      refine PW.keep (T' := [(4, _)]) ⟨rfl, trivial⟩ ?_
      refine PW.ret ?_
      change (Exit.ret = Exit.normal ∨ Exit.ret = Exit.ret) ∧ ∃ v, resV _ _ = some v ∧ _
      exact ⟨.inr rfl, _, rfl, by unfold underP; first | (rw [show isP s = false by simpa using c13]; rfl) | (rw [show decide (prefP p = 0) = false from decide_eq_false (by simpa using g9), Bool.and_false]; rfl), rfl⟩
    · try simp only [decide_eq_true_eq, decide_eq_false_iff_not, beq_iff_eq, bne_iff_ne, beq_eq_false_iff_ne, bne_eq_false_iff_eq, Bool.not_eq_true', Bool.not_eq_false', Bool.not_eq_true, ne_eq, Decidable.not_not] at c13
      refine PW.skip ?_
      refine hK1 _ _ ?_
      refine PW.keep (T' := [(0, _), (1, _)]) ⟨rfl, rfl, trivial⟩ ?_
      refine PW.seq fun K2 hK2 => ?_
      refine PW.seqOps ?_
      refine OL.det trivial (Yields.pure rfl) ?_
      refine OL.det trivial (Yields.pure rfl) ?_
      refine OL.bool trivial (Yields.pure rfl) (fun g16 => ?_) (fun g16 => ?_)
      · try simp only [decide_eq_true_eq, decide_eq_false_iff_not, beq_iff_eq, bne_iff_ne, beq_eq_false_iff_ne, bne_eq_false_iff_eq, Bool.not_eq_true', Bool.not_eq_false', Bool.not_eq_true, ne_eq, Decidable.not_not] at g16
        rw [toL_inj] at g16
        refine OL.off rfl rfl ?_
        refine OL.off rfl rfl ?_
        refine OL.off rfl rfl ?_
        refine OL.det trivial (Yields.pure rfl) ?_
        refine OL.nil ?_
        refine PW.keep (T' := [(0, _), (1, _), (20, _)]) ⟨rfl, rfl, rfl, trivial⟩ ?_
        refine PW.ite (b := true) rfl ?_
        rw [if_pos rfl]
        refine PW.seqOps ?_
        refine OL.det trivial (Yields.pure rfl) ?_
        refine OL.nil ?_
        refine PW.keep (T' := [(4, _)]) ⟨rfl, trivial⟩ ?_
        refine PW.ret ?_
        change (Exit.ret = Exit.normal ∨ Exit.ret = Exit.ret) ∧ ∃ v, resV _ _ = some v ∧ _
        have h1 : isP s = true := by simpa using c13
        have h2 : decide (prefP p = 0) = true := decide_eq_true (by simpa using g9)
        refine ⟨.inr rfl, _, rfl, congrArg Value.bool ?_, rfl⟩
        unfold underP
        rw [h1, h2]
        first | (rw [show decide (p = ⟨#[]⟩) = true from decide_eq_true g16]; rfl) | (rw [show decide (p = s) = true from decide_eq_true c20, Bool.or_true]; rfl)
      · try simp only [decide_eq_true_eq, decide_eq_false_iff_not, beq_iff_eq, bne_iff_ne, beq_eq_false_iff_ne, bne_eq_false_iff_eq, Bool.not_eq_true', Bool.not_eq_false', Bool.not_eq_true, ne_eq, Decidable.not_not] at g16
        rw [toL_inj] at g16
        refine OL.det rfl (Yields.pure rfl) ?_
        refine OL.det rfl (Yields.pure rfl) ?_
        refine OL.det rfl (Yields.pure rfl) ?_
        refine OL.det trivial (Yields.pure rfl) ?_
        refine OL.nil ?_
        refine PW.keep (T' := [(0, _), (1, _), (20, _)]) ⟨rfl, rfl, rfl, trivial⟩ ?_
        refine PW.cond rfl (fun c20 => ?_) (fun c20 => ?_)
        · try simp only [decide_eq_true_eq, decide_eq_false_iff_not, beq_iff_eq, bne_iff_ne, beq_eq_false_iff_ne, bne_eq_false_iff_eq, Bool.not_eq_true', Bool.not_eq_false', Bool.not_eq_true, ne_eq, Decidable.not_not] at c20
          rw [toL_inj] at c20
          refine PW.seqOps ?_
          refine OL.det trivial (Yields.pure rfl) ?_
          refine OL.nil ?_
          refine PW.keep (T' := [(4, _)]) ⟨rfl, trivial⟩ ?_
          refine PW.ret ?_
          change (Exit.ret = Exit.normal ∨ Exit.ret = Exit.ret) ∧ ∃ v, resV _ _ = some v ∧ _
          have h1 : isP s = true := by simpa using c13
          have h2 : decide (prefP p = 0) = true := decide_eq_true (by simpa using g9)
          refine ⟨.inr rfl, _, rfl, congrArg Value.bool ?_, rfl⟩
          unfold underP
          rw [h1, h2]
          first | (rw [show decide (p = ⟨#[]⟩) = true from decide_eq_true g16]; rfl) | (rw [show decide (p = s) = true from decide_eq_true c20, Bool.or_true]; rfl)
        · try simp only [decide_eq_true_eq, decide_eq_false_iff_not, beq_iff_eq, bne_iff_ne, beq_eq_false_iff_ne, bne_eq_false_iff_eq, Bool.not_eq_true', Bool.not_eq_false', Bool.not_eq_true, ne_eq, Decidable.not_not] at c20
          rw [toL_inj] at c20
          refine PW.skip ?_
          refine hK2 _ _ ?_
          refine PW.keep (T' := [(0, _), (1, _)]) ⟨rfl, rfl, trivial⟩ ?_
          refine PW.seqOps ?_
          refine OL.det trivial (Yields.pure rfl) ?_
          refine OL.det trivial (Yields.pure rfl) ?_
          refine OL.det trivial (Yields.pure rfl) ?_
          refine OL.nil ?_
          refine PW.keep (T' := [(0, _), (1, _), (5, _)]) ⟨rfl, rfl, rfl, trivial⟩ ?_
          refine PW.seqOps ?_
          refine OL.det trivial (Yields.pure rfl) ?_
          refine OL.det trivial (Yields.pure rfl) ?_
          refine OL.det trivial (Yields.pure rfl) ?_
          refine OL.det trivial (Yields.pure rfl) ?_
          refine OL.bool trivial (Yields.pure rfl) (fun g27 => ?_) (fun g27 => ?_)
          · try simp only [decide_eq_true_eq, decide_eq_false_iff_not, beq_iff_eq, bne_iff_ne, beq_eq_false_iff_ne, bne_eq_false_iff_eq, Bool.not_eq_true', Bool.not_eq_false', Bool.not_eq_true, ne_eq, Decidable.not_not] at g27
            refine OL.det rfl (Yields.pure rfl) ?_
            refine OL.det rfl (Yields.pure rfl) ?_
            refine OL.det rfl (Yields.slStr (s := s) (l := 0) (h := p.size) rfl rfl rfl (.inr ⟨rfl, rfl⟩) (.inl rfl) (by omega) (by omega)) ?_
            refine OL.det rfl (Yields.pure rfl) ?_
            refine OL.det rfl (Yields.pure rfl) ?_
            refine OL.det trivial (Yields.pure rfl) ?_
            refine OL.bool trivial (Yields.pure rfl) (fun g34 => ?_) (fun g34 => ?_)
            · try simp only [decide_eq_true_eq, decide_eq_false_iff_not, beq_iff_eq, bne_iff_ne, beq_eq_false_iff_ne, bne_eq_false_iff_eq, Bool.not_eq_true', Bool.not_eq_false', Bool.not_eq_true, ne_eq, Decidable.not_not] at g34
              rw [toL_inj] at g34
              refine OL.det rfl (Yields.pure rfl) ?_
              refine OL.det rfl (Yields.pure rfl) ?_
              obtain ⟨b, hb, hb2, _, _⟩ := ba_get (s := s) (k := p.size) (by omega)
              refine OL.det rfl (Yields.ixStr rfl rfl hb) ?_
              refine OL.det rfl (Yields.pure rfl) ?_
              refine OL.det trivial (Yields.pure rfl) ?_
              refine OL.det trivial (Yields.pure rfl) ?_
              refine OL.nil ?_
              refine PW.keep (T' := [(4, _)]) ⟨rfl, trivial⟩ ?_
              refine PW.ret ?_
              change (Exit.ret = Exit.normal ∨ Exit.ret = Exit.ret) ∧ ∃ v, resV _ _ = some v ∧ _
              have h1 : isP s = true := by simpa using c13
              have h2 : decide (prefP p = 0) = true := decide_eq_true (by simpa using g9)
              refine ⟨.inr rfl, _, rfl, congrArg Value.bool ?_, rfl⟩
              unfold underP
              rw [h1, h2, show decide (p = ⟨#[]⟩) = false from decide_eq_false g16, show decide (p = s) = false from decide_eq_false c20]
              simp only [Bool.and_self, Bool.or_self, Bool.true_and, Bool.false_or]
              rw [Bool.eq_iff_iff, slash_iff]
              have hpl : p.data.toList.length = p.size := by simp
              first
                | (have e34 : s.extract 0 p.size = p := g34
                   have hpre : p.data.toList <+: s.data.toList := by rw [← e34, ext_list, List.drop_zero]; exact List.take_prefix _ _
                   simp only [hpre, true_and, hb2, Option.some.injEq, decide_eq_true_eq, beq_iff_eq, ← UInt8.toNat_inj, show (47 : UInt8).toNat = 47 from rfl]
                   omega)
                | (simp only [Bool.false_eq_true, false_iff]
                   rintro ⟨hpre, h47⟩
                   have hlt := (List.getElem?_eq_some_iff.1 h47).1
                   have hsl : s.data.toList.length = s.size := by simp
                   first
                     | omega
                     | exact g34 (ba_ext (by rw [ext_list, List.drop_zero, ← hpl]; exact (List.prefix_iff_eq_take.1 hpre).symm)))
            · try simp only [decide_eq_true_eq, decide_eq_false_iff_not, beq_iff_eq, bne_iff_ne, beq_eq_false_iff_ne, bne_eq_false_iff_eq, Bool.not_eq_true', Bool.not_eq_false', Bool.not_eq_true, ne_eq, Decidable.not_not] at g34
              rw [toL_inj] at g34
              refine OL.off rfl rfl ?_
              refine OL.off rfl rfl ?_
              refine OL.off rfl rfl ?_
              refine OL.off rfl rfl ?_
              refine OL.det trivial (Yields.pure rfl) ?_
              refine OL.det trivial (Yields.pure rfl) ?_
              refine OL.nil ?_
              refine PW.keep (T' := [(4, _)]) ⟨rfl, trivial⟩ ?_
              refine PW.ret ?_
              change (Exit.ret = Exit.normal ∨ Exit.ret = Exit.ret) ∧ ∃ v, resV _ _ = some v ∧ _
              have h1 : isP s = true := by simpa using c13
              have h2 : decide (prefP p = 0) = true := decide_eq_true (by simpa using g9)
              refine ⟨.inr rfl, _, rfl, congrArg Value.bool ?_, rfl⟩
              unfold underP
              rw [h1, h2, show decide (p = ⟨#[]⟩) = false from decide_eq_false g16, show decide (p = s) = false from decide_eq_false c20]
              simp only [Bool.and_self, Bool.or_self, Bool.true_and, Bool.false_or]
              rw [Bool.eq_iff_iff, slash_iff]
              have hpl : p.data.toList.length = p.size := by simp
              first
                | (have e34 : s.extract 0 p.size = p := g34
                   have hpre : p.data.toList <+: s.data.toList := by rw [← e34, ext_list, List.drop_zero]; exact List.take_prefix _ _
                   simp only [hpre, true_and, hb2, Option.some.injEq, decide_eq_true_eq, beq_iff_eq, ← UInt8.toNat_inj, show (47 : UInt8).toNat = 47 from rfl]
                   omega)
                | (simp only [Bool.false_eq_true, false_iff]
                   rintro ⟨hpre, h47⟩
                   have hlt := (List.getElem?_eq_some_iff.1 h47).1
                   have hsl : s.data.toList.length = s.size := by simp
                   first
                     | omega
                     | exact g34 (ba_ext (by rw [ext_list, List.drop_zero, ← hpl]; exact (List.prefix_iff_eq_take.1 hpre).symm)))
          · try simp only [decide_eq_true_eq, decide_eq_false_iff_not, beq_iff_eq, bne_iff_ne, beq_eq_false_iff_ne, bne_eq_false_iff_eq, Bool.not_eq_true', Bool.not_eq_false', Bool.not_eq_true, ne_eq, Decidable.not_not] at g27
            refine OL.off rfl rfl ?_
            refine OL.off rfl rfl ?_
            refine OL.off rfl rfl ?_
            refine OL.off rfl rfl ?_
            refine OL.off rfl rfl ?_
            refine OL.det trivial (Yields.pure rfl) ?_
            refine OL.det trivial (Yields.pure rfl) ?_
            refine OL.off rfl rfl ?_
            refine OL.off rfl rfl ?_
            refine OL.off rfl rfl ?_
            refine OL.off rfl rfl ?_
            refine OL.det trivial (Yields.pure rfl) ?_
            refine OL.det trivial (Yields.pure rfl) ?_
            refine OL.nil ?_
            refine PW.keep (T' := [(4, _)]) ⟨rfl, trivial⟩ ?_
            refine PW.ret ?_
            change (Exit.ret = Exit.normal ∨ Exit.ret = Exit.ret) ∧ ∃ v, resV _ _ = some v ∧ _
            have h1 : isP s = true := by simpa using c13
            have h2 : decide (prefP p = 0) = true := decide_eq_true (by simpa using g9)
            refine ⟨.inr rfl, _, rfl, congrArg Value.bool ?_, rfl⟩
            unfold underP
            rw [h1, h2, show decide (p = ⟨#[]⟩) = false from decide_eq_false g16, show decide (p = s) = false from decide_eq_false c20]
            simp only [Bool.and_self, Bool.or_self, Bool.true_and, Bool.false_or]
            rw [Bool.eq_iff_iff, slash_iff]
            have hpl : p.data.toList.length = p.size := by simp
            first
              | (have e34 : s.extract 0 p.size = p := g34
                 have hpre : p.data.toList <+: s.data.toList := by rw [← e34, ext_list, List.drop_zero]; exact List.take_prefix _ _
                 simp only [hpre, true_and, hb2, Option.some.injEq, decide_eq_true_eq, beq_iff_eq, ← UInt8.toNat_inj, show (47 : UInt8).toNat = 47 from rfl]
                 omega)
              | (simp only [Bool.false_eq_true, false_iff]
                 rintro ⟨hpre, h47⟩
                 have hlt := (List.getElem?_eq_some_iff.1 h47).1
                 have hsl : s.data.toList.length = s.size := by simp
                 first
                   | omega
                   | exact g34 (ba_ext (by rw [ext_list, List.drop_zero, ← hpl]; exact (List.prefix_iff_eq_take.1 hpre).symm)))

theorem cmp_drop {a b : ByteArray} {k : Nat} {x y : UInt8} (hx : a.data.toList[k]? = some x) (hy : b.data.toList[k]? = some y) : Lib.compareBytes (a.data.toList.drop k) (b.data.toList.drop k) = if x < y then -1 else if y < x then 1 else Lib.compareBytes (a.data.toList.drop (k + 1)) (b.data.toList.drop (k + 1)) := by
  have h1 := List.getElem?_eq_some_iff.1 hx
  have h2 := List.getElem?_eq_some_iff.1 hy
  rw [List.drop_eq_getElem_cons h1.1, List.drop_eq_getElem_cons h2.1, h1.2, h2.2]
  rfl
theorem cmp_lt {l : List UInt8} (h : l ≠ []) : Lib.compareBytes [] l = -1 := by cases l with | nil => exact absurd rfl h | cons b l => rfl
theorem cmp_gt {l : List UInt8} (h : l ≠ []) : Lib.compareBytes l [] = 1 := by cases l with | nil => exact absurd rfl h | cons b l => rfl
theorem rorder_fc {w0 : World} {S : SS} {a b : ByteArray} (ha : a.size ≤ 1000000000) (hb : b.size ≤ 1000000000) : FC Tryd.prog w0 39 [.string a, .string b] S (fun v S' => v = .int .i64 (Lib.compareBytes a.data.toList b.data.toList) ∧ S' = S) := by
  have hal : a.data.toList.length = a.size := by simp
  have hbl : b.data.toList.length = b.size := by simp
  refine FC.of Tryd.known39 (by simp) ?_
  unfold Tryd.pc39
  simp only [argT]
  refine PW.seqOps ?_
  refine OL.det trivial (Yields.pure rfl) ?_
  refine OL.nil ?_
  refine PW.keep (T' := [(0, _), (1, _)]) ⟨rfl, rfl, trivial⟩ ?_
  refine PW.seq fun K1 hK1 => ?_
  refine PW.seqOps ?_
  refine OL.det trivial (Yields.pure rfl) ?_
  refine OL.nil ?_
  refine PW.keep (T' := [(0, _), (1, _), (5, _)]) ⟨rfl, rfl, rfl, trivial⟩ ?_
  refine PW.block ?_
  refine PW.keep (T' := [(0, _), (1, _), (5, _)]) ⟨rfl, rfl, rfl, trivial⟩ ?_
  refine PW.loopK (I := fun m T S' => ∃ (k : Nat), (k ≤ a.size ∧ k ≤ b.size ∧ m = a.size - k ∧ Lib.compareBytes a.data.toList b.data.toList = Lib.compareBytes (a.data.toList.drop k) (b.data.toList.drop k)) ∧ T = ([(0, .string a), (1, .string b), (5, .int .i64 k)] : TT) ∧ S' = S) (m := a.size) ⟨0, ⟨by omega, by omega, by omega, rfl⟩, rfl, rfl⟩ ?_
  rintro m _ _ ⟨k, ⟨hka, hkb, hm, hcmp⟩, rfl, rfl⟩
  refine PW.seq fun K2 hK2 => ?_
  refine PW.seqOps ?_
  refine OL.det trivial (Yields.pure rfl) ?_
  refine OL.det trivial (Yields.pure rfl) ?_
  refine OL.det trivial (Yields.pure rfl) ?_
  refine OL.det trivial (Yields.pure rfl) ?_
  refine OL.bool trivial (Yields.pure rfl) (fun g10 => ?_) (fun g10 => ?_)
  · try simp only [decide_eq_true_eq, decide_eq_false_iff_not, beq_iff_eq, bne_iff_ne, beq_eq_false_iff_ne, bne_eq_false_iff_eq, Bool.not_eq_true', Bool.not_eq_false', Bool.not_eq_true, ne_eq, Decidable.not_not] at g10
    refine OL.det rfl (Yields.pure rfl) ?_
    refine OL.det rfl (Yields.pure rfl) ?_
    refine OL.det rfl (Yields.pure rfl) ?_
    refine OL.det rfl (Yields.pure rfl) ?_
    refine OL.det trivial (Yields.pure rfl) ?_
    refine OL.nil ?_
    refine PW.keep (T' := [(0, _), (1, _), (5, _), (15, _)]) ⟨rfl, rfl, rfl, rfl, trivial⟩ ?_
    refine PW.cond rfl (fun c15 => ?_) (fun c15 => ?_)
    · try simp only [decide_eq_true_eq, decide_eq_false_iff_not, beq_iff_eq, bne_iff_ne, beq_eq_false_iff_ne, bne_eq_false_iff_eq, Bool.not_eq_true', Bool.not_eq_false', Bool.not_eq_true, ne_eq, Decidable.not_not] at c15
      have hka2 : k < a.size := by omega
      have hkb2 : k < b.size := by omega
      obtain ⟨x, hx, hx2, _, _⟩ := ba_get hka2
      obtain ⟨y, hy, hy2, _, _⟩ := ba_get hkb2
      refine PW.skip ?_
      refine hK2 _ _ ?_
      refine PW.keep (T' := [(0, _), (1, _), (5, _)]) ⟨rfl, rfl, rfl, trivial⟩ ?_
      refine PW.seq fun K3 hK3 => ?_
      refine PW.block ?_
      refine PW.seq fun K4 hK4 => ?_
      refine PW.seq fun K5 hK5 => ?_
      refine PW.quietK Tryd.mixed ?_
      refine QK.det trivial (Yields.pure rfl) ?_
      refine QK.det trivial (Yields.pure rfl) ?_
      refine QK.det trivial (Yields.ixStr rfl rfl hx) ?_
      refine QK.det trivial (Yields.pure rfl) ?_
      refine QK.det trivial (Yields.pure rfl) ?_
      refine QK.det trivial (Yields.ixStr rfl rfl hy) ?_
      refine QK.nil ?_
      change OL _ _ _ [_] _ _ _
      refine OL.det trivial (Yields.pure rfl) ?_
      refine OL.nil ?_
      refine hK5 _ _ ?_
      refine PW.keep (T' := [(0, _), (1, _), (5, _), (24, _)]) ⟨rfl, rfl, rfl, rfl, trivial⟩ ?_
      refine PW.cond rfl (fun c24 => ?_) (fun c24 => ?_)
      · try simp only [decide_eq_true_eq, decide_eq_false_iff_not, beq_iff_eq, bne_iff_ne, beq_eq_false_iff_ne, bne_eq_false_iff_eq, Bool.not_eq_true', Bool.not_eq_false', Bool.not_eq_true, ne_eq, Decidable.not_not] at c24
        refine PW.seqOps ?_
        refine OL.det trivial (Yields.pure rfl) ?_
        refine OL.nil ?_
        refine PW.keep (T' := [(4, _)]) ⟨rfl, trivial⟩ ?_
        refine PW.ret ?_
        change (Exit.ret = Exit.normal ∨ Exit.ret = Exit.ret) ∧ ∃ v, resV _ _ = some v ∧ _
        exact ⟨.inr rfl, _, rfl, by rw [hcmp, cmp_drop hx2 hy2, if_pos (UInt8.lt_iff_toNat_lt.2 (by omega))], rfl⟩
      · try simp only [decide_eq_true_eq, decide_eq_false_iff_not, beq_iff_eq, bne_iff_ne, beq_eq_false_iff_ne, bne_eq_false_iff_eq, Bool.not_eq_true', Bool.not_eq_false', Bool.not_eq_true, ne_eq, Decidable.not_not] at c24
        refine PW.skip ?_
        refine hK4 _ _ ?_
        refine PW.keep (T' := [(0, _), (1, _), (5, _)]) ⟨rfl, rfl, rfl, trivial⟩ ?_
        refine PW.seq fun K6 hK6 => ?_
        refine PW.quietK Tryd.mixed ?_
        refine QK.det trivial (Yields.pure rfl) ?_
        refine QK.det trivial (Yields.pure rfl) ?_
        refine QK.det trivial (Yields.ixStr rfl rfl hx) ?_
        refine QK.det trivial (Yields.pure rfl) ?_
        refine QK.det trivial (Yields.pure rfl) ?_
        refine QK.det trivial (Yields.ixStr rfl rfl hy) ?_
        refine QK.nil ?_
        change OL _ _ _ [_] _ _ _
        refine OL.det trivial (Yields.pure rfl) ?_
        refine OL.nil ?_
        refine hK6 _ _ ?_
        refine PW.keep (T' := [(0, _), (1, _), (5, _), (31, _)]) ⟨rfl, rfl, rfl, rfl, trivial⟩ ?_
        refine PW.cond rfl (fun c31 => ?_) (fun c31 => ?_)
        · try simp only [decide_eq_true_eq, decide_eq_false_iff_not, beq_iff_eq, bne_iff_ne, beq_eq_false_iff_ne, bne_eq_false_iff_eq, Bool.not_eq_true', Bool.not_eq_false', Bool.not_eq_true, ne_eq, Decidable.not_not] at c31
          refine PW.seqOps ?_
          refine OL.det trivial (Yields.pure rfl) ?_
          refine OL.nil ?_
          refine PW.keep (T' := [(4, _)]) ⟨rfl, trivial⟩ ?_
          refine PW.ret ?_
          change (Exit.ret = Exit.normal ∨ Exit.ret = Exit.ret) ∧ ∃ v, resV _ _ = some v ∧ _
          exact ⟨.inr rfl, _, rfl, by rw [hcmp, cmp_drop hx2 hy2, if_neg (fun e => by have := UInt8.lt_iff_toNat_lt.1 e; omega), if_pos (UInt8.lt_iff_toNat_lt.2 (by omega))], rfl⟩
        · try simp only [decide_eq_true_eq, decide_eq_false_iff_not, beq_iff_eq, bne_iff_ne, beq_eq_false_iff_ne, bne_eq_false_iff_eq, Bool.not_eq_true', Bool.not_eq_false', Bool.not_eq_true, ne_eq, Decidable.not_not] at c31
          refine PW.skip ?_
          refine hK3 _ _ ?_
          refine PW.keep (T' := [(0, _), (1, _), (5, _)]) ⟨rfl, rfl, rfl, trivial⟩ ?_
          refine PW.ops ?_
          refine OL.det trivial (Yields.pure rfl) ?_
          refine OL.det trivial (Yields.add64 rfl rfl (by omega) (by omega)) ?_
          refine OL.det trivial (Yields.pure rfl) ?_
          refine OL.nil ?_
          repeat rw [inBlk_n]
          rw [thenK_n]
          refine LoopEnd.mk (T'' := [(0, _), (1, _), (5, _)]) ⟨rfl, rfl, rfl, trivial⟩ ?_
          refine ⟨a.size - (k + 1), by omega, k + 1, ⟨by omega, by omega, rfl, ?_⟩, rfl, rfl⟩
          rw [hcmp, cmp_drop hx2 hy2, if_neg (fun e => by have := UInt8.lt_iff_toNat_lt.1 e; omega), if_neg (fun e => by have := UInt8.lt_iff_toNat_lt.1 e; omega)]
    · try simp only [decide_eq_true_eq, decide_eq_false_iff_not, beq_iff_eq, bne_iff_ne, beq_eq_false_iff_ne, bne_eq_false_iff_eq, Bool.not_eq_true', Bool.not_eq_false', Bool.not_eq_true, ne_eq, Decidable.not_not] at c15
      refine PW.exit ?_
      refine hK1 _ _ ?_
      refine PW.keep (T' := [(0, _), (1, _)]) ⟨rfl, rfl, trivial⟩ ?_
      refine PW.seq fun K7 hK7 => ?_
      refine PW.seqOps ?_
      refine OL.det trivial (Yields.pure rfl) ?_
      refine OL.det trivial (Yields.pure rfl) ?_
      refine OL.det trivial (Yields.pure rfl) ?_
      refine OL.det trivial (Yields.pure rfl) ?_
      refine OL.det trivial (Yields.pure rfl) ?_
      refine OL.nil ?_
      refine PW.keep (T' := [(0, _), (1, _), (36, _)]) ⟨rfl, rfl, rfl, trivial⟩ ?_
      refine PW.cond rfl (fun c36 => ?_) (fun c36 => ?_)
      · try simp only [decide_eq_true_eq, decide_eq_false_iff_not, beq_iff_eq, bne_iff_ne, beq_eq_false_iff_ne, bne_eq_false_iff_eq, Bool.not_eq_true', Bool.not_eq_false', Bool.not_eq_true, ne_eq, Decidable.not_not] at c36
        refine PW.seqOps ?_
        refine OL.det trivial (Yields.pure rfl) ?_
        refine OL.nil ?_
        refine PW.keep (T' := [(4, _)]) ⟨rfl, trivial⟩ ?_
        refine PW.ret ?_
        change (Exit.ret = Exit.normal ∨ Exit.ret = Exit.ret) ∧ ∃ v, resV _ _ = some v ∧ _
        obtain rfl : k = a.size := by omega
        exact ⟨.inr rfl, _, rfl, by rw [hcmp, ← hal, List.drop_length, cmp_lt (by intro e; have := congrArg List.length e; simp at this; omega)], rfl⟩
      · try simp only [decide_eq_true_eq, decide_eq_false_iff_not, beq_iff_eq, bne_iff_ne, beq_eq_false_iff_ne, bne_eq_false_iff_eq, Bool.not_eq_true', Bool.not_eq_false', Bool.not_eq_true, ne_eq, Decidable.not_not] at c36
        refine PW.skip ?_
        refine hK7 _ _ ?_
        refine PW.keep (T' := [(0, _), (1, _)]) ⟨rfl, rfl, trivial⟩ ?_
        refine PW.seq fun K8 hK8 => ?_
        refine PW.seqOps ?_
        refine OL.det trivial (Yields.pure rfl) ?_
        refine OL.det trivial (Yields.pure rfl) ?_
        refine OL.det trivial (Yields.pure rfl) ?_
        refine OL.det trivial (Yields.pure rfl) ?_
        refine OL.det trivial (Yields.pure rfl) ?_
        refine OL.nil ?_
        refine PW.keep (T' := [(41, _)]) ⟨rfl, trivial⟩ ?_
        refine PW.cond rfl (fun c41 => ?_) (fun c41 => ?_)
        · try simp only [decide_eq_true_eq, decide_eq_false_iff_not, beq_iff_eq, bne_iff_ne, beq_eq_false_iff_ne, bne_eq_false_iff_eq, Bool.not_eq_true', Bool.not_eq_false', Bool.not_eq_true, ne_eq, Decidable.not_not] at c41
          refine PW.seqOps ?_
          refine OL.det trivial (Yields.pure rfl) ?_
          refine OL.nil ?_
          refine PW.keep (T' := [(4, _)]) ⟨rfl, trivial⟩ ?_
          refine PW.ret ?_
          change (Exit.ret = Exit.normal ∨ Exit.ret = Exit.ret) ∧ ∃ v, resV _ _ = some v ∧ _
          obtain rfl : k = b.size := by omega
          exact ⟨.inr rfl, _, rfl, by rw [hcmp, ← hbl, List.drop_length, cmp_gt (by intro e; have := congrArg List.length e; simp at this; omega)], rfl⟩
        · try simp only [decide_eq_true_eq, decide_eq_false_iff_not, beq_iff_eq, bne_iff_ne, beq_eq_false_iff_ne, bne_eq_false_iff_eq, Bool.not_eq_true', Bool.not_eq_false', Bool.not_eq_true, ne_eq, Decidable.not_not] at c41
          refine PW.skip ?_
          refine hK8 _ _ ?_
          refine PW.keep (T' := []) trivial ?_
          refine PW.seqOps ?_
          refine OL.det trivial (Yields.pure rfl) ?_
          refine OL.nil ?_
          refine PW.keep (T' := [(4, _)]) ⟨rfl, trivial⟩ ?_
          refine PW.ret ?_
          change (Exit.ret = Exit.normal ∨ Exit.ret = Exit.ret) ∧ ∃ v, resV _ _ = some v ∧ _
          have e1 : k = a.data.toList.length := by omega
          have e2 : k = b.data.toList.length := by omega
          exact ⟨.inr rfl, _, rfl, by rw [hcmp, e1, List.drop_length, ← e1, e2, List.drop_length]; rfl, rfl⟩
  · try simp only [decide_eq_true_eq, decide_eq_false_iff_not, beq_iff_eq, bne_iff_ne, beq_eq_false_iff_ne, bne_eq_false_iff_eq, Bool.not_eq_true', Bool.not_eq_false', Bool.not_eq_true, ne_eq, Decidable.not_not] at g10
    refine OL.off rfl rfl ?_
    refine OL.off rfl rfl ?_
    refine OL.off rfl rfl ?_
    refine OL.off rfl rfl ?_
    refine OL.det trivial (Yields.pure rfl) ?_
    refine OL.nil ?_
    refine PW.keep (T' := [(0, _), (1, _), (5, _), (15, _)]) ⟨rfl, rfl, rfl, rfl, trivial⟩ ?_
    refine PW.ite (b := false) rfl ?_
    rw [if_neg Bool.false_ne_true]
    refine PW.exit ?_
    refine hK1 _ _ ?_
    refine PW.keep (T' := [(0, _), (1, _)]) ⟨rfl, rfl, trivial⟩ ?_
    refine PW.seq fun K9 hK9 => ?_
    refine PW.seqOps ?_
    refine OL.det trivial (Yields.pure rfl) ?_
    refine OL.det trivial (Yields.pure rfl) ?_
    refine OL.det trivial (Yields.pure rfl) ?_
    refine OL.det trivial (Yields.pure rfl) ?_
    refine OL.det trivial (Yields.pure rfl) ?_
    refine OL.nil ?_
    refine PW.keep (T' := [(0, _), (1, _), (36, _)]) ⟨rfl, rfl, rfl, trivial⟩ ?_
    refine PW.cond rfl (fun c36 => ?_) (fun c36 => ?_)
    · try simp only [decide_eq_true_eq, decide_eq_false_iff_not, beq_iff_eq, bne_iff_ne, beq_eq_false_iff_ne, bne_eq_false_iff_eq, Bool.not_eq_true', Bool.not_eq_false', Bool.not_eq_true, ne_eq, Decidable.not_not] at c36
      refine PW.seqOps ?_
      refine OL.det trivial (Yields.pure rfl) ?_
      refine OL.nil ?_
      refine PW.keep (T' := [(4, _)]) ⟨rfl, trivial⟩ ?_
      refine PW.ret ?_
      change (Exit.ret = Exit.normal ∨ Exit.ret = Exit.ret) ∧ ∃ v, resV _ _ = some v ∧ _
      obtain rfl : k = a.size := by omega
      exact ⟨.inr rfl, _, rfl, by rw [hcmp, ← hal, List.drop_length, cmp_lt (by intro e; have := congrArg List.length e; simp at this; omega)], rfl⟩
    · try simp only [decide_eq_true_eq, decide_eq_false_iff_not, beq_iff_eq, bne_iff_ne, beq_eq_false_iff_ne, bne_eq_false_iff_eq, Bool.not_eq_true', Bool.not_eq_false', Bool.not_eq_true, ne_eq, Decidable.not_not] at c36
      refine PW.skip ?_
      refine hK9 _ _ ?_
      refine PW.keep (T' := [(0, _), (1, _)]) ⟨rfl, rfl, trivial⟩ ?_
      refine PW.seq fun K10 hK10 => ?_
      refine PW.seqOps ?_
      refine OL.det trivial (Yields.pure rfl) ?_
      refine OL.det trivial (Yields.pure rfl) ?_
      refine OL.det trivial (Yields.pure rfl) ?_
      refine OL.det trivial (Yields.pure rfl) ?_
      refine OL.det trivial (Yields.pure rfl) ?_
      refine OL.nil ?_
      refine PW.keep (T' := [(41, _)]) ⟨rfl, trivial⟩ ?_
      refine PW.cond rfl (fun c41 => ?_) (fun c41 => ?_)
      · try simp only [decide_eq_true_eq, decide_eq_false_iff_not, beq_iff_eq, bne_iff_ne, beq_eq_false_iff_ne, bne_eq_false_iff_eq, Bool.not_eq_true', Bool.not_eq_false', Bool.not_eq_true, ne_eq, Decidable.not_not] at c41
        refine PW.seqOps ?_
        refine OL.det trivial (Yields.pure rfl) ?_
        refine OL.nil ?_
        refine PW.keep (T' := [(4, _)]) ⟨rfl, trivial⟩ ?_
        refine PW.ret ?_
        change (Exit.ret = Exit.normal ∨ Exit.ret = Exit.ret) ∧ ∃ v, resV _ _ = some v ∧ _
        obtain rfl : k = b.size := by omega
        exact ⟨.inr rfl, _, rfl, by rw [hcmp, ← hbl, List.drop_length, cmp_gt (by intro e; have := congrArg List.length e; simp at this; omega)], rfl⟩
      · try simp only [decide_eq_true_eq, decide_eq_false_iff_not, beq_iff_eq, bne_iff_ne, beq_eq_false_iff_ne, bne_eq_false_iff_eq, Bool.not_eq_true', Bool.not_eq_false', Bool.not_eq_true, ne_eq, Decidable.not_not] at c41
        refine PW.skip ?_
        refine hK10 _ _ ?_
        refine PW.keep (T' := []) trivial ?_
        refine PW.seqOps ?_
        refine OL.det trivial (Yields.pure rfl) ?_
        refine OL.nil ?_
        refine PW.keep (T' := [(4, _)]) ⟨rfl, trivial⟩ ?_
        refine PW.ret ?_
        change (Exit.ret = Exit.normal ∨ Exit.ret = Exit.ret) ∧ ∃ v, resV _ _ = some v ∧ _
        have e1 : k = a.data.toList.length := by omega
        have e2 : k = b.data.toList.length := by omega
        exact ⟨.inr rfl, _, rfl, by rw [hcmp, e1, List.drop_length, ← e1, e2, List.drop_length]; rfl, rfl⟩

end Go.Proofs
