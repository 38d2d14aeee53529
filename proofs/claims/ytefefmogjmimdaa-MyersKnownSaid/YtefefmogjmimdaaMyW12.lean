/- Walks and plain facts for the laws of this seat: what each function answers, for every input. -/
import Derived.Test.YtefefmogjmimdaaSl8
import Derived.Test.YtefefmogjmimdaaMyW11
set_option linter.unusedVariables false
set_option linter.unusedSimpArgs false
namespace Go.Proofs
open Go.SL Go.RowKit

open Go.MyPlain
set_option maxHeartbeats 1000000
theorem mysteps_fc {w0 : World} {A B : Option Addr} {ca cb : Nat} {xs ys : List ByteArray} (hx : Rd w0 [] A (xs.map .string)) (hy : Rd w0 [] B (ys.map .string)) (hX : xs.length ≤ 1000000000000000) (hY : ys.length ≤ 1000000000000000) (hsx : ∀ s ∈ xs, s.size ≤ 9223372036854775807) (hsy : ∀ s ∈ ys, s.size ≤ 9223372036854775807) :
    FC Try.prog w0 3 [.slice A xs.length ca, .slice B ys.length cb] [] (fun v _ => v = .bool true) := by
  have hcx := cutF_le xs
  have hcy := cutF_le ys
  have hln := scr_length (cutF xs) (cutF ys)
  generalize hscr : scr (cutF xs) (cutF ys) = sc at *
  refine FC.ofD Try.known3 (by simp) ?_
  unfold Try.pc3
  simp only [argT]
  refine PW.seqOps ?_
  refine OL.det trivial (Yields.pure rfl) ?_
  refine OL.nil ?_
  refine PW.keep (T' := [(0, _), (1, _)]) ⟨rfl, rfl, trivial⟩ ?_
  refine PW.seqOps ?_
  refine OL.det trivial (Yields.pure rfl) ?_
  refine OL.call trivial rfl (cut_fc hx hX hsx) ?_
  rintro vA _ ⟨segA, rfl, hslA⟩
  refine OL.det trivial (Yields.pure rfl) ?_
  refine OL.call trivial rfl (cut_fc hy.cons hY hsy) ?_
  rintro vB _ ⟨segB, rfl, hslB⟩
  obtain ⟨AX, cX, rfl, hrX, _⟩ := hslA.rd (S := segB :: segA :: []) (k := 1) rfl
  obtain ⟨AY, cY, rfl, hrY, _⟩ := hslB.rd (S := segB :: segA :: []) (k := 0) rfl
  refine OL.det trivial (Yields.pure rfl) ?_
  refine OL.det trivial (Yields.pure rfl) ?_
  refine OL.nil ?_
  refine PW.keep (T' := [(0, _), (1, _)]) ⟨rfl, rfl, trivial⟩ ?_
  refine PW.seqOps ?_
  refine OL.det trivial (Yields.pure rfl) ?_
  refine OL.det trivial (Yields.pure rfl) ?_
  refine OL.call trivial rfl (diff_fc hrX hrY (by omega) (by omega)) ?_
  rintro _ _ ⟨u1, seg1, rfl, rfl, hsl1⟩
  rw [hscr] at hsl1
  obtain ⟨A1, c1, rfl, hr1, _⟩ := hsl1.rd (S := seg1 :: segB :: segA :: []) (k := 0) rfl
  refine OL.det trivial (Yields.pure rfl) ?_
  refine OL.det trivial (Yields.pure rfl) ?_
  refine OL.det trivial (Yields.pure rfl) ?_
  refine OL.det trivial (Yields.pure rfl) ?_
  refine OL.det trivial (Yields.pure rfl) ?_
  refine OL.nil ?_
  refine PW.keep (T' := [(0, _), (1, _), (5, _), (6, _)]) ⟨rfl, rfl, rfl, rfl, trivial⟩ ?_
  refine PW.seqOps ?_
  refine OL.det trivial (Yields.pure rfl) ?_
  refine OL.det trivial (Yields.pure rfl) ?_
  refine OL.call trivial rfl (rdiff_fc hrX.cons hrY.cons (by omega) (by omega)) ?_
  rintro _ _ ⟨u2, seg2, rfl, rfl, hsl2⟩
  rw [hscr] at hsl2
  obtain ⟨AM, cM, rfl, hrM0, _⟩ := hsl2.rd (S := seg2 :: seg1 :: segB :: segA :: []) (k := 0) rfl
  refine OL.det trivial (Yields.pure rfl) ?_
  refine OL.det trivial (Yields.pure rfl) ?_
  refine OL.det trivial (Yields.pure rfl) ?_
  refine OL.det trivial (Yields.pure rfl) ?_
  refine OL.det trivial (Yields.pure rfl) ?_
  refine OL.nil ?_
  refine PW.keep (T' := [(5, _), (6, _), (7, _), (8, _)]) ⟨rfl, rfl, rfl, rfl, trivial⟩ ?_
  refine PW.seqOps ?_
  refine OL.det trivial (Yields.pure rfl) ?_
  refine OL.call trivial rfl (steps_fc hr1.cons (by omega)) ?_
  rintro vN _ ⟨segN, rfl, hslN⟩
  obtain ⟨AN, cN, rfl, hrN, _⟩ := hslN.rd (S := segN :: seg2 :: seg1 :: segB :: segA :: []) (k := 0) rfl
  have hrM : Rd w0 (segN :: seg2 :: seg1 :: segB :: segA :: []) AM (stsC sc) := hrM0.cons
  refine OL.det trivial (Yields.pure rfl) ?_
  refine OL.nil ?_
  refine PW.keep (T' := [(6, _), (7, _), (8, _), (9, _)]) ⟨rfl, rfl, rfl, rfl, trivial⟩ ?_
  refine PW.seq fun K1 hK1 => ?_
  refine PW.seqOps ?_
  refine OL.det trivial (Yields.pure rfl) ?_
  refine OL.det trivial (Yields.pure rfl) ?_
  refine OL.det trivial (Yields.pure rfl) ?_
  refine OL.bool trivial (Yields.pure rfl) (fun g32 => ?_) (fun g32 => ?_)
  · try simp only [decide_eq_true_eq, decide_eq_false_iff_not, beq_iff_eq, bne_iff_ne, beq_eq_false_iff_ne, bne_eq_false_iff_eq, Bool.not_eq_true', Bool.not_eq_false', Bool.not_eq_true, ne_eq, Decidable.not_not] at g32
    exact absurd trivial g32 -- done
  · try simp only [decide_eq_true_eq, decide_eq_false_iff_not, beq_iff_eq, bne_iff_ne, beq_eq_false_iff_ne, bne_eq_false_iff_eq, Bool.not_eq_true', Bool.not_eq_false', Bool.not_eq_true, ne_eq, Decidable.not_not] at g32
    refine OL.det rfl (Yields.pure rfl) ?_
    refine OL.det rfl (Yields.pure rfl) ?_
    refine OL.det rfl (Yields.pure rfl) ?_
    refine OL.det rfl (Yields.pure rfl) ?_
    refine OL.det rfl (Yields.pure rfl) ?_
    refine OL.det trivial (Yields.pure rfl) ?_
    refine OL.nil ?_
    refine PW.keep (T' := [(7, _), (9, _), (38, _)]) ⟨rfl, rfl, rfl, trivial⟩ ?_
    refine PW.cond rfl (fun c38 => ?_) (fun c38 => ?_)
    · try simp only [decide_eq_true_eq, decide_eq_false_iff_not, beq_iff_eq, bne_iff_ne, beq_eq_false_iff_ne, bne_eq_false_iff_eq, Bool.not_eq_true', Bool.not_eq_false', Bool.not_eq_true, ne_eq, Decidable.not_not] at c38
      exact absurd trivial c38 -- done
    · try simp only [decide_eq_true_eq, decide_eq_false_iff_not, beq_iff_eq, bne_iff_ne, beq_eq_false_iff_ne, bne_eq_false_iff_eq, Bool.not_eq_true', Bool.not_eq_false', Bool.not_eq_true, ne_eq, Decidable.not_not] at c38
      refine PW.skip ?_
      refine hK1 _ _ ?_
      refine PW.keep (T' := [(7, _), (9, _)]) ⟨rfl, rfl, trivial⟩ ?_
      refine PW.seq fun K2 hK2 => ?_
      refine PW.seqOps ?_
      refine OL.det trivial (Yields.pure rfl) ?_
      refine OL.nil ?_
      refine PW.keep (T' := [(7, _), (9, _), (10, _)]) ⟨rfl, rfl, rfl, trivial⟩ ?_
      refine PW.block ?_
      refine PW.keep (T' := [(7, _), (9, _), (10, _)]) ⟨rfl, rfl, rfl, trivial⟩ ?_
      refine PW.loopK (I := fun m T S' => ∃ (k : Nat), (k ≤ sc.length ∧ m = sc.length - k) ∧ T = ([(7, .slice AM sc.length cM), (9, .slice AN sc.length cN), (10, .int .i64 k)] : TT) ∧ S' = segN :: seg2 :: seg1 :: segB :: segA :: []) (m := sc.length) ⟨0, ⟨by omega, by omega⟩, rfl, rfl⟩ ?_
      rintro m _ _ ⟨k, ⟨hk, hm⟩, rfl, rfl⟩
      refine PW.seq fun K3 hK3 => ?_
      refine PW.seqOps ?_
      refine OL.det trivial (Yields.pure rfl) ?_
      refine OL.det trivial (Yields.pure rfl) ?_
      refine OL.det trivial (Yields.pure rfl) ?_
      refine OL.det trivial (Yields.pure rfl) ?_
      refine OL.nil ?_
      refine PW.keep (T' := [(7, _), (9, _), (10, _), (42, _)]) ⟨rfl, rfl, rfl, rfl, trivial⟩ ?_
      refine PW.cond rfl (fun c42 => ?_) (fun c42 => ?_)
      · try simp only [decide_eq_true_eq, decide_eq_false_iff_not, beq_iff_eq, bne_iff_ne, beq_eq_false_iff_ne, bne_eq_false_iff_eq, Bool.not_eq_true', Bool.not_eq_false', Bool.not_eq_true, ne_eq, Decidable.not_not] at c42
        have hlt : k < sc.length := by omega
        obtain ⟨aN, rfl⟩ := hrN.some (stsC_ne (by omega))
        obtain ⟨aM, rfl⟩ := hrM.some (stsC_ne (by omega))
        refine PW.skip ?_
        refine hK3 _ _ ?_
        refine PW.keep (T' := [(7, _), (9, _), (10, _)]) ⟨rfl, rfl, rfl, trivial⟩ ?_
        refine PW.seq fun K4 hK4 => ?_
        refine PW.block ?_
        refine PW.seq fun K5 hK5 => ?_
        refine PW.quietK Try.mixed ?_
        refine QK.det trivial (Yields.pure rfl) ?_
        refine QK.det trivial (Yields.pure rfl) ?_
        refine QK.det trivial (Yields.ixN rfl rfl rfl (by omega)) ?_
        refine QK.det trivial (Yields.ldA rfl (by first | rfl | simp) (st_all hrN hlt)) ?_
        refine QK.det trivial (Yields.pure rfl) ?_
        refine QK.det trivial (Yields.pure rfl) ?_
        refine QK.det trivial (Yields.ixN rfl rfl rfl (by omega)) ?_
        refine QK.det trivial (Yields.ldA rfl (by first | rfl | simp) (st_all hrM hlt)) ?_
        refine QK.nil ?_
        change OL _ _ _ [_] _ _ _
        refine OL.det trivial (Yields.eqA rfl rfl rfl) ?_
        refine OL.nil ?_
        refine hK5 _ _ ?_
        refine PW.keep (T' := [(7, _), (9, _), (10, _), (53, _)]) ⟨rfl, rfl, rfl, rfl, trivial⟩ ?_
        refine PW.cond rfl (fun c53 => ?_) (fun c53 => ?_)
        · try simp only [decide_eq_true_eq, decide_eq_false_iff_not, beq_iff_eq, bne_iff_ne, beq_eq_false_iff_ne, bne_eq_false_iff_eq, Bool.not_eq_true', Bool.not_eq_false', Bool.not_eq_true, ne_eq, Decidable.not_not] at c53
          simp at c53 -- done
        · try simp only [decide_eq_true_eq, decide_eq_false_iff_not, beq_iff_eq, bne_iff_ne, beq_eq_false_iff_ne, bne_eq_false_iff_eq, Bool.not_eq_true', Bool.not_eq_false', Bool.not_eq_true, ne_eq, Decidable.not_not] at c53
          refine PW.skip ?_
          refine hK4 _ _ ?_
          refine PW.keep (T' := [(7, _), (9, _), (10, _)]) ⟨rfl, rfl, rfl, trivial⟩ ?_
          refine PW.ops ?_
          refine OL.det trivial (Yields.pure rfl) ?_
          refine OL.det trivial (Yields.add64 rfl rfl (by omega) (by omega)) ?_
          refine OL.det trivial (Yields.pure rfl) ?_
          refine OL.nil ?_
          repeat rw [inBlk_n]
          rw [thenK_n]
          refine LoopEnd.mk (T'' := [(7, _), (9, _), (10, _)]) ⟨rfl, rfl, rfl, trivial⟩ ?_
          exact ⟨sc.length - (k + 1), by omega, k + 1, ⟨by omega, rfl⟩, rfl, rfl⟩
      · try simp only [decide_eq_true_eq, decide_eq_false_iff_not, beq_iff_eq, bne_iff_ne, beq_eq_false_iff_ne, bne_eq_false_iff_eq, Bool.not_eq_true', Bool.not_eq_false', Bool.not_eq_true, ne_eq, Decidable.not_not] at c42
        refine PW.exit ?_
        refine hK2 _ _ ?_
        refine PW.keep (T' := []) trivial ?_
        refine PW.seqOps ?_
        refine OL.call trivial rfl (works_fc) ?_
        rintro _ _ ⟨rfl, rfl⟩
        refine OL.det trivial (Yields.pure rfl) ?_
        refine OL.nil ?_
        refine PW.keep (T' := [(4, _)]) ⟨rfl, trivial⟩ ?_
        refine PW.ret ?_
        change (Exit.ret = Exit.normal ∨ Exit.ret = Exit.ret) ∧ ∃ v, resV _ _ = some v ∧ _
        exact ⟨.inr rfl, _, rfl, _, Sub.refl _, rfl⟩

end Go.Proofs
