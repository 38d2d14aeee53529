/- Walks and plain facts for the laws of this seat: what each function answers, for every input. -/
import Derived.Test.YtefefmogjmimdaaSl8
import Derived.Test.YtefefmogjmimdaaMyW9
set_option linter.unusedVariables false
set_option linter.unusedSimpArgs false
namespace Go.Proofs
open Go.SL Go.RowKit

open Go.MyPlain
set_option maxHeartbeats 1000000
theorem scr_works : scr [(⟨#[120]⟩ : ByteArray), ⟨#[121]⟩] [(⟨#[121]⟩ : ByteArray), ⟨#[122]⟩] = [(1, 0, 0), (0, 1, 0), (2, 0, 1)] := by decide
theorem works_fc {w0 : World} {S : SS} : FC Try.prog w0 12 [] S (fun v S' => v = .bool true ∧ S' = S) := by
  refine FC.ofD Try.known12 (by simp) ?_
  unfold Try.pc12
  simp only [argT]
  refine PW.seqOps ?_
  refine OL.det trivial (Yields.pure rfl) ?_
  refine OL.nil ?_
  refine PW.keep (T' := []) trivial ?_
  refine PW.seqOps ?_
  refine OL.cons trivial (OW.bsl rfl) ?_
  rintro _ _ ⟨r4, rfl, rfl⟩
  refine OL.cons trivial (OW.bsl rfl) ?_
  rintro _ _ ⟨r5, rfl, rfl⟩
  refine OL.call trivial rfl (diff_fc (xs := [⟨#[120]⟩, ⟨#[121]⟩]) (ys := [⟨#[121]⟩, ⟨#[122]⟩]) (Rd.own (E := 9) (tot := 2) (by simp [setAt, Value.cells])) (Rd.own (E := 9) (tot := 2) (by simp [setAt, Value.cells])) (by decide) (by decide)) ?_
  rintro _ _ ⟨u, seg, rfl, rfl, hsl⟩
  rw [scr_works] at hsl
  obtain ⟨aU, capU, rfl, hrd, hlU⟩ := hsl.rd (S := seg :: [(r5, .cells [.string ⟨#[121]⟩, .string ⟨#[122]⟩] 9 2)] :: [(r4, .cells [.string ⟨#[120]⟩, .string ⟨#[121]⟩] 9 2)] :: S) (k := 0) rfl
  obtain ⟨a, rfl⟩ := hrd.some (by simp [stsC, stC])
  refine OL.det trivial (Yields.pure rfl) ?_
  refine OL.det trivial (Yields.pure rfl) ?_
  refine OL.det trivial (Yields.pure rfl) ?_
  refine OL.det trivial (Yields.pure rfl) ?_
  refine OL.det trivial (Yields.pure rfl) ?_
  refine OL.nil ?_
  refine PW.keep (T' := [(1, _), (2, _)]) ⟨rfl, rfl, trivial⟩ ?_
  refine PW.seqOps ?_
  refine OL.det trivial (Yields.pure rfl) ?_
  refine OL.det trivial (Yields.pure rfl) ?_
  refine OL.bool trivial (Yields.pure rfl) (fun g11 => ?_) (fun g11 => ?_)
  · try simp only [decide_eq_true_eq, decide_eq_false_iff_not, beq_iff_eq, bne_iff_ne, beq_eq_false_iff_ne, bne_eq_false_iff_eq, Bool.not_eq_true', Bool.not_eq_false', Bool.not_eq_true, ne_eq, Decidable.not_not] at g11
    refine OL.det rfl (Yields.pure rfl) ?_
    refine OL.det rfl (Yields.pure rfl) ?_
    refine OL.det rfl (Yields.pure rfl) ?_
    refine OL.det trivial (Yields.pure rfl) ?_
    refine OL.bool trivial (Yields.pure rfl) (fun g16 => ?_) (fun g16 => ?_)
    · try simp only [decide_eq_true_eq, decide_eq_false_iff_not, beq_iff_eq, bne_iff_ne, beq_eq_false_iff_ne, bne_eq_false_iff_eq, Bool.not_eq_true', Bool.not_eq_false', Bool.not_eq_true, ne_eq, Decidable.not_not] at g16
      refine OL.det rfl (Yields.pure rfl) ?_
      refine OL.det rfl (Yields.ixN rfl rfl (show _ = ((0 : Nat) : Int) from rfl) (by omega)) ?_
      refine OL.det rfl (Yields.ldA rfl (by first | rfl | simp) (st_all (l := [((1, 0, 0) : Int × Int × Int), (0, 1, 0), (2, 0, 1)]) hrd (k := 0) (by decide))) ?_
      refine OL.det rfl (Yields.build rfl) ?_
      refine OL.det rfl (Yields.eqA rfl rfl rfl) ?_
      refine OL.det trivial (Yields.pure rfl) ?_
      refine OL.bool trivial (Yields.pure rfl) (fun g23 => ?_) (fun g23 => ?_)
      · try simp only [decide_eq_true_eq, decide_eq_false_iff_not, beq_iff_eq, bne_iff_ne, beq_eq_false_iff_ne, bne_eq_false_iff_eq, Bool.not_eq_true', Bool.not_eq_false', Bool.not_eq_true, ne_eq, Decidable.not_not] at g23
        refine OL.det rfl (Yields.pure rfl) ?_
        refine OL.det rfl (Yields.ixN rfl rfl (show _ = ((1 : Nat) : Int) from rfl) (by omega)) ?_
        refine OL.det rfl (Yields.ldA rfl (by first | rfl | simp) (st_all (l := [((1, 0, 0) : Int × Int × Int), (0, 1, 0), (2, 0, 1)]) hrd (k := 1) (by decide))) ?_
        refine OL.det rfl (Yields.build rfl) ?_
        refine OL.det rfl (Yields.eqA rfl rfl rfl) ?_
        refine OL.det trivial (Yields.pure rfl) ?_
        refine OL.bool trivial (Yields.pure rfl) (fun g30 => ?_) (fun g30 => ?_)
        · try simp only [decide_eq_true_eq, decide_eq_false_iff_not, beq_iff_eq, bne_iff_ne, beq_eq_false_iff_ne, bne_eq_false_iff_eq, Bool.not_eq_true', Bool.not_eq_false', Bool.not_eq_true, ne_eq, Decidable.not_not] at g30
          refine OL.det rfl (Yields.pure rfl) ?_
          refine OL.det rfl (Yields.ixN rfl rfl (show _ = ((2 : Nat) : Int) from rfl) (by omega)) ?_
          refine OL.det rfl (Yields.ldA rfl (by first | rfl | simp) (st_all (l := [((1, 0, 0) : Int × Int × Int), (0, 1, 0), (2, 0, 1)]) hrd (k := 2) (by decide))) ?_
          refine OL.det rfl (Yields.build rfl) ?_
          refine OL.det rfl (Yields.eqA rfl rfl rfl) ?_
          refine OL.det trivial (Yields.pure rfl) ?_
          refine OL.det trivial (Yields.pure rfl) ?_
          refine OL.nil ?_
          refine PW.keep (T' := [(0, _)]) ⟨rfl, trivial⟩ ?_
          refine PW.ret ?_
          change (Exit.ret = Exit.normal ∨ Exit.ret = Exit.ret) ∧ ∃ v, resV _ _ = some v ∧ _
          refine ⟨.inr rfl, _, rfl, S, ?_, rfl, rfl⟩
          exact Sub.drop (Sub.drop (Sub.drop (Sub.refl S)))
        · try simp only [decide_eq_true_eq, decide_eq_false_iff_not, beq_iff_eq, bne_iff_ne, beq_eq_false_iff_ne, bne_eq_false_iff_eq, Bool.not_eq_true', Bool.not_eq_false', Bool.not_eq_true, ne_eq, Decidable.not_not] at g30
          first | omega | (simp at g30; done) | exact absurd g30 (by decide) -- done
      · try simp only [decide_eq_true_eq, decide_eq_false_iff_not, beq_iff_eq, bne_iff_ne, beq_eq_false_iff_ne, bne_eq_false_iff_eq, Bool.not_eq_true', Bool.not_eq_false', Bool.not_eq_true, ne_eq, Decidable.not_not] at g23
        first | omega | (simp at g23; done) | exact absurd g23 (by decide) -- done
    · try simp only [decide_eq_true_eq, decide_eq_false_iff_not, beq_iff_eq, bne_iff_ne, beq_eq_false_iff_ne, bne_eq_false_iff_eq, Bool.not_eq_true', Bool.not_eq_false', Bool.not_eq_true, ne_eq, Decidable.not_not] at g16
      first | omega | (simp at g16; done) | exact absurd g16 (by decide) -- done
  · try simp only [decide_eq_true_eq, decide_eq_false_iff_not, beq_iff_eq, bne_iff_ne, beq_eq_false_iff_ne, bne_eq_false_iff_eq, Bool.not_eq_true', Bool.not_eq_false', Bool.not_eq_true, ne_eq, Decidable.not_not] at g11
    first | omega | (simp at g11; done) | exact absurd g11 (by decide) -- done

/-- a text's bytes as texts -/
def letF (s : ByteArray) : List ByteArray := (List.range s.size).map fun i => s.extract i (i + 1)
theorem letters_fc {w0 : World} {S : SS} {s : ByteArray} (hs : s.size ≤ 100000) : FC Try.prog w0 18 [.string s] S (fun v S' => ∃ seg, S' = seg :: S ∧ SlV 9 1 v s.size ((letF s).map .string) seg) := by
  refine FC.of Try.known18 (by simp) ?_
  unfold Try.pc18
  simp only [argT]
  refine PW.nilseg ?_
  refine PW.seqOps ?_
  refine OL.det trivial (Yields.pure rfl) ?_
  refine OL.nil ?_
  refine PW.keep (T' := [(0, _)]) ⟨rfl, trivial⟩ ?_
  refine PW.seqOps ?_
  refine OL.det trivial (Yields.pure rfl) ?_
  refine OL.nil ?_
  refine PW.keep (T' := [(0, _), (3, _)]) ⟨rfl, rfl, trivial⟩ ?_
  refine PW.seq fun K1 hK1 => ?_
  refine PW.seqOps ?_
  refine OL.det trivial (Yields.pure rfl) ?_
  refine OL.nil ?_
  refine PW.keep (T' := [(0, _), (3, _), (4, _)]) ⟨rfl, rfl, rfl, trivial⟩ ?_
  refine PW.block ?_
  refine PW.keep (T' := [(0, _), (3, _), (4, _)]) ⟨rfl, rfl, rfl, trivial⟩ ?_
  refine PW.loopK (I := fun m T S' => ∃ (k : Nat) (v : Value) (seg : Seg), (k ≤ s.size ∧ m = s.size - k ∧ SlV 9 1 v k (((List.range k).map fun i => s.extract i (i + 1)).map .string) seg) ∧ T = ([(0, .string s), (3, v), (4, .int .i64 k)] : TT) ∧ S' = seg :: S) (m := s.size) ⟨0, _, [], ⟨by omega, by omega, by simpa using SlV.nil 9 1⟩, rfl, rfl⟩ ?_
  rintro m _ _ ⟨k, v, seg, ⟨hk, hm, hsl⟩, rfl, rfl⟩
  refine PW.seq fun K2 hK2 => ?_
  refine PW.seqOps ?_
  refine OL.det trivial (Yields.pure rfl) ?_
  refine OL.det trivial (Yields.pure rfl) ?_
  refine OL.det trivial (Yields.pure rfl) ?_
  refine OL.det trivial (Yields.pure rfl) ?_
  refine OL.nil ?_
  refine PW.keep (T' := [(0, _), (3, _), (4, _), (8, _)]) ⟨rfl, rfl, rfl, rfl, trivial⟩ ?_
  refine PW.cond rfl (fun c8 => ?_) (fun c8 => ?_)
  · try simp only [decide_eq_true_eq, decide_eq_false_iff_not, beq_iff_eq, bne_iff_ne, beq_eq_false_iff_ne, bne_eq_false_iff_eq, Bool.not_eq_true', Bool.not_eq_false', Bool.not_eq_true, ne_eq, Decidable.not_not] at c8
    refine PW.skip ?_
    refine hK2 _ _ ?_
    refine PW.keep (T' := [(0, _), (3, _), (4, _)]) ⟨rfl, rfl, rfl, trivial⟩ ?_
    refine PW.seq fun K3 hK3 => ?_
    refine PW.block ?_
    refine PW.ops ?_
    refine OL.det trivial (Yields.pure rfl) ?_
    refine OL.det trivial (Yields.pure rfl) ?_
    refine OL.det trivial (Yields.pure rfl) ?_
    refine OL.det trivial (Yields.pure rfl) ?_
    refine OL.det trivial (Yields.add64 rfl rfl (by omega) (by omega)) ?_
    refine OL.det trivial (Yields.slStr (l := k) (h := k + 1) rfl rfl rfl (.inl rfl) (.inl rfl) (by omega) (by omega)) ?_
    apply OL.app1 (k := 0)
    · rfl
    · rfl
    · rfl
    · rfl
    · rfl
    · rfl
    · exact hsl
    · rfl
    · omega
    · unfold maxLen; omega
    intro v18 seg18 hsl18
    refine OL.det trivial (Yields.pure rfl) ?_
    refine OL.nil ?_
    refine hK3 _ _ ?_
    refine PW.keep (T' := [(0, _), (3, _), (4, _)]) ⟨rfl, rfl, rfl, trivial⟩ ?_
    refine PW.ops ?_
    refine OL.det trivial (Yields.pure rfl) ?_
    refine OL.det trivial (Yields.add64 rfl rfl (by omega) (by omega)) ?_
    refine OL.det trivial (Yields.pure rfl) ?_
    refine OL.nil ?_
    repeat rw [inBlk_n]
    rw [thenK_n]
    refine LoopEnd.mk (T'' := [(0, _), (3, _), (4, _)]) ⟨rfl, rfl, rfl, trivial⟩ ?_
    refine ⟨s.size - (k + 1), by omega, k + 1, v18, seg18, ⟨by omega, rfl, ?_⟩, rfl, rfl⟩
    rw [List.range_succ, List.map_append, List.map_append]
    exact hsl18
  · try simp only [decide_eq_true_eq, decide_eq_false_iff_not, beq_iff_eq, bne_iff_ne, beq_eq_false_iff_ne, bne_eq_false_iff_eq, Bool.not_eq_true', Bool.not_eq_false', Bool.not_eq_true, ne_eq, Decidable.not_not] at c8
    refine PW.exit ?_
    refine hK1 _ _ ?_
    refine PW.keep (T' := [(3, _)]) ⟨rfl, trivial⟩ ?_
    refine PW.seqOps ?_
    refine OL.det trivial (Yields.pure rfl) ?_
    refine OL.det trivial (Yields.pure rfl) ?_
    refine OL.nil ?_
    refine PW.keep (T' := [(2, _)]) ⟨rfl, trivial⟩ ?_
    refine PW.ret ?_
    change (Exit.ret = Exit.normal ∨ Exit.ret = Exit.ret) ∧ ∃ v, resV _ _ = some v ∧ _
    obtain rfl : k = s.size := by omega
    exact ⟨.inr rfl, _, rfl, seg, rfl, hsl⟩

end Go.Proofs
