/- Walks and plain facts for the laws of this seat: what each function answers, for every input. -/
import Derived.Test.YteidpegjehdneaaLnPc
set_option linter.unusedVariables false
set_option linter.unusedSimpArgs false
namespace Go.Proofs
open Go.SL Go.RowKit
set_option maxHeartbeats 1000000

def bN : ByteArray := ⟨#[10]⟩
theorem bN_size : bN.size = 1 := rfl
def endsN (s : ByteArray) : Bool := if 1 ≤ s.size then (s.extract (s.size - 1) s.size).toList == bN.toList else false
theorem hasSuf_fc {w0 : World} {S : SS} {s : ByteArray} (hs : s.size ≤ 9223372036854775807) :
    FC Try.prog w0 42 [.string s, .string bN] S (fun v S' => v = .bool (endsN s) ∧ S' = S) := by
  refine FC.of Try.known42 (by simp) ?_
  unfold Try.pc42
  simp only [argT]
  refine PW.seqOps ?_
  refine OL.det trivial (Yields.pure rfl) ?_
  refine OL.nil ?_
  refine PW.keep (T' := [(0, _), (1, _)]) ⟨rfl, rfl, trivial⟩ ?_
  refine PW.seqOps ?_
  refine OL.det trivial (Yields.pure rfl) ?_
  refine OL.det trivial (Yields.pure rfl) ?_
  refine OL.det trivial (Yields.pure rfl) ?_
  refine OL.det trivial (Yields.pure rfl) ?_
  refine OL.det trivial (Yields.pure rfl) ?_
  refine OL.bool trivial (Yields.pure rfl) (fun g10 => ?_) (fun g10 => ?_)
  · try simp only [decide_eq_true_eq, decide_eq_false_iff_not, beq_iff_eq, bne_iff_ne, beq_eq_false_iff_ne, bne_eq_false_iff_eq, Bool.not_eq_true', Bool.not_eq_false', Bool.not_eq_true, ne_eq, Decidable.not_not] at g10
    have h1 : 1 ≤ s.size := by rw [bN_size] at g10; omega
    refine OL.det rfl (Yields.pure rfl) ?_
    refine OL.det rfl (Yields.pure rfl) ?_
    refine OL.det rfl (Yields.pure rfl) ?_
    refine OL.det rfl (Yields.pure rfl) ?_
    refine OL.det rfl (Yields.pure rfl) ?_
    refine OL.det rfl (Yields.to (v' := .int .i64 ((s.size - 1 : Nat) : Int)) (Yields.sub64 rfl rfl (by rw [bN_size]; omega) (by rw [bN_size]; omega)) (by rw [bN_size]; congr 1; omega)) ?_
    refine OL.det rfl (Yields.slStr (s := s) (l := s.size - 1) (h := s.size) rfl rfl rfl (.inl rfl) (.inr ⟨rfl, rfl⟩) (by omega) (by omega)) ?_
    refine OL.det rfl (Yields.pure rfl) ?_
    refine OL.det rfl (Yields.pure rfl) ?_
    refine OL.det trivial (Yields.pure rfl) ?_
    refine OL.det trivial (Yields.pure rfl) ?_
    refine OL.nil ?_
    refine PW.keep (T' := [(4, _)]) ⟨rfl, trivial⟩ ?_
    refine PW.ret ?_
    change (Exit.ret = Exit.normal ∨ Exit.ret = Exit.ret) ∧ ∃ v, resV _ _ = some v ∧ _
    first | exact ⟨.inr rfl, _, rfl, by rw [endsN, if_pos h1], rfl⟩ | exact ⟨.inr rfl, _, rfl, by rw [endsN, if_neg h1], rfl⟩
  · try simp only [decide_eq_true_eq, decide_eq_false_iff_not, beq_iff_eq, bne_iff_ne, beq_eq_false_iff_ne, bne_eq_false_iff_eq, Bool.not_eq_true', Bool.not_eq_false', Bool.not_eq_true, ne_eq, Decidable.not_not] at g10
    have h1 : ¬ 1 ≤ s.size := by rw [bN_size] at g10; omega
    refine OL.off rfl rfl ?_
    refine OL.off rfl rfl ?_
    refine OL.off rfl rfl ?_
    refine OL.off rfl rfl ?_
    refine OL.off rfl rfl ?_
    refine OL.off rfl rfl ?_
    refine OL.off rfl rfl ?_
    refine OL.off rfl rfl ?_
    refine OL.off rfl rfl ?_
    refine OL.det trivial (Yields.pure rfl) ?_
    refine OL.det trivial (Yields.pure rfl) ?_
    refine OL.nil ?_
    refine PW.keep (T' := [(4, _)]) ⟨rfl, trivial⟩ ?_
    refine PW.ret ?_
    change (Exit.ret = Exit.normal ∨ Exit.ret = Exit.ret) ∧ ∃ v, resV _ _ = some v ∧ _
    first | exact ⟨.inr rfl, _, rfl, by rw [endsN, if_pos h1], rfl⟩ | exact ⟨.inr rfl, _, rfl, by rw [endsN, if_neg h1], rfl⟩
theorem endsN_pos {s : ByteArray} (h : endsN s = true) : 1 ≤ s.size := by
  unfold endsN at h
  split at h
  · assumption
  · cases h
/-- what stands ahead of the last byte -/
def cutN (s : ByteArray) : ByteArray := if endsN s then s.extract 0 (s.size - 1) else s
theorem cut_fc {w0 : World} {S : SS} {s : ByteArray} (hs : s.size ≤ 9223372036854775807) :
    FC Try.prog w0 39 [.string s, .string bN] S (fun v S' => v = .tuple #[.string (cutN s), .bool (endsN s)] ∧ S' = S) := by
  refine FC.of Try.known39 (by simp) ?_
  unfold Try.pc39
  simp only [argT]
  refine PW.seqOps ?_
  refine OL.det trivial (Yields.pure rfl) ?_
  refine OL.det trivial (Yields.pure rfl) ?_
  refine OL.nil ?_
  refine PW.keep (T' := [(0, _), (1, _)]) ⟨rfl, rfl, trivial⟩ ?_
  refine PW.seq fun K1 hK1 => ?_
  refine PW.seqOps ?_
  refine OL.det trivial (Yields.pure rfl) ?_
  refine OL.det trivial (Yields.pure rfl) ?_
  refine OL.call trivial rfl (hasSuf_fc hs) ?_
  rintro _ _ ⟨rfl, rfl⟩
  refine OL.det trivial (Yields.pure rfl) ?_
  refine OL.nil ?_
  refine PW.keep (T' := [(0, _), (1, _), (9, _)]) ⟨rfl, rfl, rfl, trivial⟩ ?_
  refine PW.cond rfl (fun c9 => ?_) (fun c9 => ?_)
  · simp only [Bool.not_eq_true', Bool.not_eq_false'] at c9
    refine PW.seqOps ?_
    refine OL.det trivial (Yields.pure rfl) ?_
    refine OL.det trivial (Yields.pure rfl) ?_
    refine OL.det trivial (Yields.pure rfl) ?_
    refine OL.nil ?_
    refine PW.keep (T' := [(4, _), (5, _)]) ⟨rfl, rfl, trivial⟩ ?_
    refine PW.ret ?_
    change (Exit.ret = Exit.normal ∨ Exit.ret = Exit.ret) ∧ ∃ v, resV _ _ = some v ∧ _
    exact ⟨.inr rfl, _, rfl, by rw [cutN, c9]; rfl, rfl⟩
  · simp only [Bool.not_eq_true', Bool.not_eq_false'] at c9
    have h1 := endsN_pos c9
    refine PW.skip ?_
    refine hK1 _ _ ?_
    refine PW.keep (T' := [(0, _), (1, _)]) ⟨rfl, rfl, trivial⟩ ?_
    refine PW.seqOps ?_
    refine OL.det trivial (Yields.pure rfl) ?_
    refine OL.det trivial (Yields.pure rfl) ?_
    refine OL.det trivial (Yields.pure rfl) ?_
    refine OL.det trivial (Yields.pure rfl) ?_
    refine OL.det trivial (Yields.pure rfl) ?_
    refine OL.det trivial (Yields.to (v' := .int .i64 ((s.size - 1 : Nat) : Int)) (Yields.sub64 rfl rfl (by rw [bN_size]; omega) (by rw [bN_size]; omega)) (by rw [bN_size]; congr 1; omega)) ?_
    refine OL.det trivial (Yields.slStr (s := s) (l := 0) (h := s.size - 1) rfl rfl rfl (.inr ⟨rfl, rfl⟩) (.inl rfl) (by omega) (by omega)) ?_
    refine OL.det trivial (Yields.pure rfl) ?_
    refine OL.det trivial (Yields.pure rfl) ?_
    refine OL.nil ?_
    refine PW.keep (T' := [(4, _), (5, _)]) ⟨rfl, rfl, trivial⟩ ?_
    refine PW.ret ?_
    change (Exit.ret = Exit.normal ∨ Exit.ret = Exit.ret) ∧ ∃ v, resV _ _ = some v ∧ _
    exact ⟨.inr rfl, _, rfl, by rw [cutN, c9]; rfl, rfl⟩
theorem cutS_fc {w0 : World} {S : SS} {s : ByteArray} (hs : s.size ≤ 9223372036854775807) :
    FC Try.prog w0 34 [.string s, .string bN] S (fun v S' => v = .tuple #[.string (cutN s), .bool (endsN s)] ∧ S' = S) := by
  refine FC.of Try.known34 (by simp) ?_
  unfold Try.pc34
  simp only [argT]
  refine PW.seqOps ?_
  refine OL.det trivial (Yields.pure rfl) ?_
  refine OL.det trivial (Yields.pure rfl) ?_
  refine OL.nil ?_
  refine PW.keep (T' := [(0, _), (1, _)]) ⟨rfl, rfl, trivial⟩ ?_
  refine PW.seqOps ?_
  refine OL.det trivial (Yields.pure rfl) ?_
  refine OL.det trivial (Yields.pure rfl) ?_
  refine OL.call trivial rfl (cut_fc hs) ?_
  rintro _ _ ⟨rfl, rfl⟩
  refine OL.det trivial (Yields.pure rfl) ?_
  refine OL.det trivial (Yields.pure rfl) ?_
  refine OL.det trivial (Yields.pure rfl) ?_
  refine OL.det trivial (Yields.pure rfl) ?_
  refine OL.nil ?_
  refine PW.keep (T' := [(4, _), (5, _)]) ⟨rfl, rfl, trivial⟩ ?_
  refine PW.ret ?_
  change (Exit.ret = Exit.normal ∨ Exit.ret = Exit.ret) ∧ ∃ v, resV _ _ = some v ∧ _
  exact ⟨.inr rfl, _, rfl, rfl, rfl⟩

end Go.Proofs
