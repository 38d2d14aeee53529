/- Walks and plain facts for the laws of this seat: what each function answers, for every input. -/
import Derived.Test.YtefefmogjmimdaaSl8
import Derived.Test.YtefefmogjmimdaaMyW6
set_option linter.unusedVariables false
set_option linter.unusedSimpArgs false
namespace Go.Proofs
open Go.SL Go.RowKit

open Go.MyPlain
set_option maxHeartbeats 1000000
theorem rdiff_fc {w0 : World} {S : SS} {A B : Option Addr} {ca cb : Nat} {xs ys : List ByteArray} (hx : Rd w0 S A (xs.map .string)) (hy : Rd w0 S B (ys.map .string)) (hX : xs.length ≤ 1024) (hY : ys.length ≤ 1024) :
    FC Try.prog w0 10 [.slice A xs.length ca, .slice B ys.length cb] S (fun v S' => ∃ u seg, v = .tuple #[u, .int .i64 0] ∧ S' = seg :: S ∧ SlV 33 3 u (scr xs ys).length (stsC (scr xs ys)) seg) := by
  obtain ⟨w, hw⟩ : ∃ w, w = ys.length + 1 := ⟨_, rfl⟩
  have hnw : (xs.length + 1) * w ≤ 1025 * 1025 := Nat.mul_le_mul (by omega) (by omega)
  refine FC.ofD Try.known10 (by simp) ?_
  unfold Try.pc10
  simp only [argT]
  refine PW.seqOps ?_
  refine OL.det trivial (Yields.pure rfl) ?_
  refine OL.det trivial (Yields.pure rfl) ?_
  refine OL.nil ?_
  refine PW.keep (T' := [(0, _), (1, _)]) ⟨rfl, rfl, trivial⟩ ?_
  refine PW.seq fun K1 hK1 => ?_
  refine PW.seqOps ?_
  refine OL.det trivial (Yields.pure rfl) ?_
  refine OL.det trivial (Yields.pure rfl) ?_
  refine OL.det trivial (Yields.pure rfl) ?_
  refine OL.bool trivial (Yields.pure rfl) (fun g14 => ?_) (fun g14 => ?_)
  · try simp only [decide_eq_true_eq, decide_eq_false_iff_not, beq_iff_eq, bne_iff_ne, beq_eq_false_iff_ne, bne_eq_false_iff_eq, Bool.not_eq_true', Bool.not_eq_false', Bool.not_eq_true, ne_eq, Decidable.not_not] at g14
    exfalso; omega -- done
  · try simp only [decide_eq_true_eq, decide_eq_false_iff_not, beq_iff_eq, bne_iff_ne, beq_eq_false_iff_ne, bne_eq_false_iff_eq, Bool.not_eq_true', Bool.not_eq_false', Bool.not_eq_true, ne_eq, Decidable.not_not] at g14
    refine OL.det rfl (Yields.pure rfl) ?_
    refine OL.det rfl (Yields.pure rfl) ?_
    refine OL.det rfl (Yields.pure rfl) ?_
    refine OL.det trivial (Yields.pure rfl) ?_
    refine OL.nil ?_
    refine PW.keep (T' := [(0, _), (1, _), (18, _)]) ⟨rfl, rfl, rfl, trivial⟩ ?_
    refine PW.cond rfl (fun c18 => ?_) (fun c18 => ?_)
    · try simp only [decide_eq_true_eq, decide_eq_false_iff_not, beq_iff_eq, bne_iff_ne, beq_eq_false_iff_ne, bne_eq_false_iff_eq, Bool.not_eq_true', Bool.not_eq_false', Bool.not_eq_true, ne_eq, Decidable.not_not] at c18
      exfalso; omega -- done
    · try simp only [decide_eq_true_eq, decide_eq_false_iff_not, beq_iff_eq, bne_iff_ne, beq_eq_false_iff_ne, bne_eq_false_iff_eq, Bool.not_eq_true', Bool.not_eq_false', Bool.not_eq_true, ne_eq, Decidable.not_not] at c18
      refine PW.skip ?_
      refine hK1 _ _ ?_
      refine PW.keep (T' := [(0, _), (1, _)]) ⟨rfl, rfl, trivial⟩ ?_
      refine PW.seqOps ?_
      refine OL.det trivial (Yields.pure rfl) ?_
      refine OL.det trivial (Yields.pure rfl) ?_
      refine OL.call trivial rfl (keeps_fc hx hy hX hY) ?_
      rintro _ _ ⟨r21, c, rfl, rfl, hrow⟩
      rw [← hw] at hrow ⊢
      refine OL.det trivial (Yields.pure rfl) ?_
      refine OL.nil ?_
      refine PW.keep (T' := [(0, _), (1, _), (6, _)]) ⟨rfl, rfl, rfl, trivial⟩ ?_
      refine PW.seqOps ?_
      refine OL.det trivial (Yields.pure rfl) ?_
      refine OL.det trivial (Yields.pure rfl) ?_
      refine OL.det trivial (Yields.add64 rfl rfl (by omega) (by omega)) ?_
      rw [show ((ys.length : Int) + 1) = (w : Int) by rw [hw]; rfl]
      refine OL.det trivial (Yields.pure rfl) ?_
      refine OL.nil ?_
      refine PW.keep (T' := [(0, _), (1, _), (6, _), (7, _)]) ⟨rfl, rfl, rfl, rfl, trivial⟩ ?_
      refine PW.seqOps ?_
      refine OL.det trivial (Yields.pure rfl) ?_
      refine OL.nil ?_
      refine PW.keep (T' := [(0, _), (1, _), (6, _), (7, _), (8, _)]) ⟨rfl, rfl, rfl, rfl, rfl, trivial⟩ ?_
      refine PW.seqOps ?_
      refine OL.det trivial (Yields.pure rfl) ?_
      refine OL.nil ?_
      refine PW.keep (T' := [(0, _), (1, _), (6, _), (7, _), (8, _), (9, _)]) ⟨rfl, rfl, rfl, rfl, rfl, rfl, trivial⟩ ?_
      refine PW.seqOps ?_
      refine OL.nilseg ?_
      refine OL.det trivial (Yields.pure rfl) ?_
      refine OL.nil ?_
      refine PW.keep (T' := [(0, _), (1, _), (6, _), (7, _), (8, _), (9, _), (10, _)]) ⟨rfl, rfl, rfl, rfl, rfl, rfl, rfl, trivial⟩ ?_
      refine PW.seq fun K2 hK2 => ?_
      refine PW.block ?_
      refine PW.keep (T' := [(0, _), (1, _), (6, _), (7, _), (8, _), (9, _), (10, _)]) ⟨rfl, rfl, rfl, rfl, rfl, rfl, rfl, trivial⟩ ?_
      refine PW.loopK (I := fun m T S' => ∃ (i j : Nat) (o : List (Int × Int × Int)) (v : Value) (seg : Seg), (i ≤ xs.length ∧ j ≤ ys.length ∧ m = (xs.length - i) + (ys.length - j) ∧ o ++ rest xs ys i j = scr xs ys ∧ o.length ≤ i + j ∧ SlV 33 3 v o.length (stsC o) seg) ∧ T = ([(0, .slice A xs.length ca), (1, .slice B ys.length cb), (6, .slice (some ⟨r21, 0, none⟩) ((xs.length + 1) * w) ((xs.length + 1) * w)), (7, .int .i64 (w : Int)), (8, .int .i64 i), (9, .int .i64 j), (10, v)] : TT) ∧ S' = seg :: [(r21, .cells c 3 (((xs.length + 1) * w) * 1))] :: S) (m := xs.length + ys.length) ⟨0, 0, [], _, [], ⟨by omega, by omega, by omega, by rw [rest_zero]; rfl, by simp, by simpa [stsC] using SlV.nil 33 3⟩, rfl, rfl⟩ ?_
      rintro m _ _ ⟨i, j, o, v, seg, ⟨hi, hj, hm, hrest, holen, hsl⟩, rfl, rfl⟩
      refine PW.seq fun K3 hK3 => ?_
      refine PW.seqOps ?_
      refine OL.det trivial (Yields.pure rfl) ?_
      refine OL.det trivial (Yields.pure rfl) ?_
      refine OL.det trivial (Yields.pure rfl) ?_
      refine OL.det trivial (Yields.pure rfl) ?_
      refine OL.bool trivial (Yields.pure rfl) (fun g29 => ?_) (fun g29 => ?_)
      · try simp only [decide_eq_true_eq, decide_eq_false_iff_not, beq_iff_eq, bne_iff_ne, beq_eq_false_iff_ne, bne_eq_false_iff_eq, Bool.not_eq_true', Bool.not_eq_false', Bool.not_eq_true, ne_eq, Decidable.not_not] at g29
        refine OL.off rfl rfl ?_
        refine OL.off rfl rfl ?_
        refine OL.off rfl rfl ?_
        refine OL.off rfl rfl ?_
        refine OL.det trivial (Yields.pure rfl) ?_
        refine OL.nil ?_
        refine PW.keep (T' := [(0, _), (1, _), (6, _), (7, _), (8, _), (9, _), (10, _), (34, _)]) ⟨rfl, rfl, rfl, rfl, rfl, rfl, rfl, rfl, trivial⟩ ?_
        refine PW.ite (b := true) rfl ?_
        rw [if_pos rfl]
        refine PW.skip ?_
        refine hK3 _ _ ?_
        refine PW.keep (T' := [(0, _), (1, _), (6, _), (7, _), (8, _), (9, _), (10, _)]) ⟨rfl, rfl, rfl, rfl, rfl, rfl, rfl, trivial⟩ ?_
        refine PW.block ?_
        refine PW.seq fun K4 hK4 => ?_
        refine PW.quietK Try.mixed ?_
        refine QK.det trivial (Yields.pure rfl) ?_
        refine QK.det trivial (Yields.pure rfl) ?_
        refine QK.det trivial (Yields.pure rfl) ?_
        refine QK.det trivial (Yields.pure rfl) ?_
        refine QK.bool trivial (Yields.pure rfl) (fun g39 => ?_) (fun g39 => ?_)
        · try simp only [decide_eq_true_eq, decide_eq_false_iff_not, beq_iff_eq, bne_iff_ne, beq_eq_false_iff_ne, bne_eq_false_iff_eq, Bool.not_eq_true', Bool.not_eq_false', Bool.not_eq_true, ne_eq, Decidable.not_not] at g39
          obtain ⟨aX, rfl⟩ := hx.some (strs_ne (by omega))
          refine QK.det rfl (Yields.pure rfl) ?_
          refine QK.det rfl (Yields.pure rfl) ?_
          refine QK.det rfl (Yields.pure rfl) ?_
          refine QK.det rfl (Yields.pure rfl) ?_
          refine QK.det trivial (Yields.pure rfl) ?_
          refine QK.bool trivial (Yields.pure rfl) (fun g45 => ?_) (fun g45 => ?_)
          · try simp only [decide_eq_true_eq, decide_eq_false_iff_not, beq_iff_eq, bne_iff_ne, beq_eq_false_iff_ne, bne_eq_false_iff_eq, Bool.not_eq_true', Bool.not_eq_false', Bool.not_eq_true, ne_eq, Decidable.not_not] at g45
            obtain ⟨aY, rfl⟩ := hy.some (strs_ne (by omega))
            refine QK.det rfl (Yields.pure rfl) ?_
            refine QK.det rfl (Yields.pure rfl) ?_
            refine QK.det rfl (Yields.ixN1 rfl rfl rfl (by omega)) ?_
            refine QK.det rfl (Yields.ld rfl (str_at hx.cons.cons (by omega))) ?_
            refine QK.det rfl (Yields.pure rfl) ?_
            refine QK.det rfl (Yields.pure rfl) ?_
            refine QK.det rfl (Yields.ixN1 rfl rfl rfl (by omega)) ?_
            refine QK.det rfl (Yields.ld rfl (str_at hy.cons.cons (by omega))) ?_
            refine QK.nil ?_
            change OL _ _ _ [_, _] _ _ _
            refine OL.det rfl (Yields.pure rfl) ?_
            refine OL.det trivial (Yields.pure rfl) ?_
            refine OL.nil ?_
            refine hK4 _ _ ?_
            refine PW.keep (T' := [(0, _), (1, _), (6, _), (7, _), (8, _), (9, _), (10, _), (55, _)]) ⟨rfl, rfl, rfl, rfl, rfl, rfl, rfl, rfl, trivial⟩ ?_
            refine PW.cond rfl (fun c55 => ?_) (fun c55 => ?_)
            · try simp only [decide_eq_true_eq, decide_eq_false_iff_not, beq_iff_eq, bne_iff_ne, beq_eq_false_iff_ne, bne_eq_false_iff_eq, Bool.not_eq_true', Bool.not_eq_false', Bool.not_eq_true, ne_eq, Decidable.not_not] at c55
              refine PW.seqOps ?_
              refine OL.det trivial (Yields.pure rfl) ?_
              refine OL.det trivial (Yields.pure rfl) ?_
              refine OL.det trivial (Yields.pure rfl) ?_
              refine OL.det trivial (Yields.build rfl) ?_
              apply OL.app1 (k := 0)
              · rfl
              · rfl
              · rfl
              · rfl
              · rfl
              · rfl
              · exact hsl
              · rfl
              · omega
              · unfold maxLen; omega
              intro v61 seg61 hsl61
              refine OL.det trivial (Yields.pure rfl) ?_
              refine OL.nil ?_
              refine PW.keep (T' := [(0, _), (1, _), (6, _), (7, _), (8, _), (9, _), (10, _)]) ⟨rfl, rfl, rfl, rfl, rfl, rfl, rfl, trivial⟩ ?_
              refine PW.seqOps ?_
              refine OL.det trivial (Yields.pure rfl) ?_
              refine OL.det trivial (Yields.add64 rfl rfl (by omega) (by omega)) ?_
              refine OL.det trivial (Yields.pure rfl) ?_
              refine OL.nil ?_
              refine PW.keep (T' := [(0, _), (1, _), (6, _), (7, _), (8, _), (9, _), (10, _)]) ⟨rfl, rfl, rfl, rfl, rfl, rfl, rfl, trivial⟩ ?_
              refine PW.ops ?_
              refine OL.det trivial (Yields.pure rfl) ?_
              refine OL.det trivial (Yields.add64 rfl rfl (by omega) (by omega)) ?_
              refine OL.det trivial (Yields.pure rfl) ?_
              refine OL.nil ?_
              repeat rw [inBlk_n]
              rw [thenK_n]
              refine LoopEnd.mk (T'' := [(0, _), (1, _), (6, _), (7, _), (8, _), (9, _), (10, _)]) ⟨rfl, rfl, rfl, rfl, rfl, rfl, rfl, trivial⟩ ?_
              refine ⟨(xs.length - (i + 1)) + (ys.length - (j + 1)), by omega, i + 1, j + 1, o ++ [(0, (i : Int), (j : Int))], v61, seg61, ⟨by omega, by omega, rfl, ?_, by simp; omega, ?_⟩, rfl, rfl⟩
              · rw [← hrest, rest_keep (i := i) (j := j) (by omega) (by omega) (bytes_ext c55), List.append_assoc]; rfl
              · rw [stsC_append, List.length_append]; exact hsl61
            · try simp only [decide_eq_true_eq, decide_eq_false_iff_not, beq_iff_eq, bne_iff_ne, beq_eq_false_iff_ne, bne_eq_false_iff_eq, Bool.not_eq_true', Bool.not_eq_false', Bool.not_eq_true, ne_eq, Decidable.not_not] at c55
              refine PW.seq fun K5 hK5 => ?_
              refine PW.quietK Try.mixed ?_
              refine QK.det trivial (Yields.pure rfl) ?_
              refine QK.det trivial (Yields.pure rfl) ?_
              refine QK.det trivial (Yields.pure rfl) ?_
              refine QK.det trivial (Yields.pure rfl) ?_
              refine QK.bool trivial (Yields.pure rfl) (fun g70 => ?_) (fun g70 => ?_)
              · try simp only [decide_eq_true_eq, decide_eq_false_iff_not, beq_iff_eq, bne_iff_ne, beq_eq_false_iff_ne, bne_eq_false_iff_eq, Bool.not_eq_true', Bool.not_eq_false', Bool.not_eq_true, ne_eq, Decidable.not_not] at g70
                refine QK.det rfl (Yields.pure rfl) ?_
                refine QK.det rfl (Yields.pure rfl) ?_
                refine QK.det rfl (Yields.pure rfl) ?_
                refine QK.det rfl (Yields.pure rfl) ?_
                refine QK.bool rfl (Yields.pure rfl) (fun g75 => ?_) (fun g75 => ?_)
                · try simp only [decide_eq_true_eq, decide_eq_false_iff_not, beq_iff_eq, bne_iff_ne, beq_eq_false_iff_ne, bne_eq_false_iff_eq, Bool.not_eq_true', Bool.not_eq_false', Bool.not_eq_true, ne_eq, Decidable.not_not] at g75
                  exfalso; omega
                · try simp only [decide_eq_true_eq, decide_eq_false_iff_not, beq_iff_eq, bne_iff_ne, beq_eq_false_iff_ne, bne_eq_false_iff_eq, Bool.not_eq_true', Bool.not_eq_false', Bool.not_eq_true, ne_eq, Decidable.not_not] at g75
                  have hp1 : (i + 1) * w = i * w + w := Nat.succ_mul ..
                  have hp2 : (i + 1) * w + w ≤ (xs.length + 1) * w := by rw [← Nat.succ_mul]; exact Nat.mul_le_mul_right _ (by omega)
                  have hc1 : (i : Int) * (w : Int) = ((i * w : Nat) : Int) := rfl
                  have hc2 : ((i : Int) + 1) * (w : Int) = (((i + 1) * w : Nat) : Int) := rfl
                  refine QK.det rfl (Yields.pure rfl) ?_
                  refine QK.det rfl (Yields.pure rfl) ?_
                  refine QK.det rfl (Yields.add64 rfl rfl (by omega) (by omega)) ?_
                  refine QK.det rfl (Yields.pure rfl) ?_
                  refine QK.det rfl (Yields.mul64 rfl rfl (by omega) (by omega)) ?_
                  refine QK.det rfl (Yields.pure rfl) ?_
                  refine QK.det rfl (Yields.add64 rfl rfl (by omega) (by omega)) ?_
                  refine QK.det rfl (Yields.ixO1 rfl rfl (show _ = (((i + 1) * w + j : Nat) : Int) from rfl) (by omega)) ?_
                  refine QK.det rfl (Yields.ld rfl (hrow.cell (tot := ((xs.length + 1) * w) * 1) (by simp) (i + 1) j (by omega) (by omega) (by omega))) ?_
                  refine QK.det rfl (Yields.pure rfl) ?_
                  refine QK.det rfl (Yields.pure rfl) ?_
                  refine QK.det rfl (Yields.pure rfl) ?_
                  refine QK.det rfl (Yields.mul64 rfl rfl (by omega) (by omega)) ?_
                  refine QK.det rfl (Yields.pure rfl) ?_
                  refine QK.det rfl (Yields.add64 rfl rfl (by omega) (by omega)) ?_
                  refine QK.det rfl (Yields.add64 rfl rfl (by omega) (by omega)) ?_
                  refine QK.det rfl (Yields.ixO1 rfl rfl (show _ = ((i * w + (j + 1) : Nat) : Int) from rfl) (by omega)) ?_
                  refine QK.det rfl (Yields.ld rfl (hrow.cell (tot := ((xs.length + 1) * w) * 1) (by simp) i (j + 1) (by omega) (by omega) (by omega))) ?_
                  refine QK.nil ?_
                  change OL _ _ _ [_, _, _] _ _ _
                  refine OL.det rfl (Yields.pure rfl) ?_
                  refine OL.det rfl (Yields.pure rfl) ?_
                  refine OL.det trivial (Yields.pure rfl) ?_
                  refine OL.nil ?_
                  refine hK5 _ _ ?_
                  refine PW.keep (T' := [(0, _), (1, _), (6, _), (7, _), (8, _), (9, _), (10, _), (96, _)]) ⟨rfl, rfl, rfl, rfl, rfl, rfl, rfl, rfl, trivial⟩ ?_
                  refine PW.cond rfl (fun c96 => ?_) (fun c96 => ?_)
                  · try simp only [decide_eq_true_eq, decide_eq_false_iff_not, beq_iff_eq, bne_iff_ne, beq_eq_false_iff_ne, bne_eq_false_iff_eq, Bool.not_eq_true', Bool.not_eq_false', Bool.not_eq_true, ne_eq, Decidable.not_not] at c96
                    refine PW.seqOps ?_
                    refine OL.det trivial (Yields.pure rfl) ?_
                    refine OL.det trivial (Yields.pure rfl) ?_
                    refine OL.det trivial (Yields.build rfl) ?_
                    apply OL.app1 (k := 0)
                    · rfl
                    · rfl
                    · rfl
                    · rfl
                    · rfl
                    · rfl
                    · exact hsl
                    · rfl
                    · omega
                    · unfold maxLen; omega
                    intro v101 seg101 hsl101
                    refine OL.det trivial (Yields.pure rfl) ?_
                    refine OL.nil ?_
                    refine PW.keep (T' := [(0, _), (1, _), (6, _), (7, _), (8, _), (9, _), (10, _)]) ⟨rfl, rfl, rfl, rfl, rfl, rfl, rfl, trivial⟩ ?_
                    refine PW.ops ?_
                    refine OL.det trivial (Yields.pure rfl) ?_
                    refine OL.det trivial (Yields.add64 rfl rfl (by omega) (by omega)) ?_
                    refine OL.det trivial (Yields.pure rfl) ?_
                    refine OL.nil ?_
                    repeat rw [inBlk_n]
                    rw [thenK_n]
                    refine LoopEnd.mk (T'' := [(0, _), (1, _), (6, _), (7, _), (8, _), (9, _), (10, _)]) ⟨rfl, rfl, rfl, rfl, rfl, rfl, rfl, trivial⟩ ?_
                    refine ⟨(xs.length - (i + 1)) + (ys.length - (j)), by omega, i + 1, j, o ++ [(1, (i : Int), 0)], v101, seg101, ⟨by omega, by omega, rfl, ?_, by simp; omega, ?_⟩, rfl, rfl⟩
                    · rw [← hrest, rest_gone (i := i) (j := j) (by omega) (by omega) (fun h => by first | omega | exact ⟨fun e => c55 (by rw [e]), by omega⟩), List.append_assoc]; rfl
                    · rw [stsC_append, List.length_append]; exact hsl101
                  · try simp only [decide_eq_true_eq, decide_eq_false_iff_not, beq_iff_eq, bne_iff_ne, beq_eq_false_iff_ne, bne_eq_false_iff_eq, Bool.not_eq_true', Bool.not_eq_false', Bool.not_eq_true, ne_eq, Decidable.not_not] at c96
                    refine PW.seqOps ?_
                    refine OL.det trivial (Yields.pure rfl) ?_
                    refine OL.det trivial (Yields.pure rfl) ?_
                    refine OL.det trivial (Yields.build rfl) ?_
                    apply OL.app1 (k := 0)
                    · rfl
                    · rfl
                    · rfl
                    · rfl
                    · rfl
                    · rfl
                    · exact hsl
                    · rfl
                    · omega
                    · unfold maxLen; omega
                    intro v108 seg108 hsl108
                    refine OL.det trivial (Yields.pure rfl) ?_
                    refine OL.nil ?_
                    refine PW.keep (T' := [(0, _), (1, _), (6, _), (7, _), (8, _), (9, _), (10, _)]) ⟨rfl, rfl, rfl, rfl, rfl, rfl, rfl, trivial⟩ ?_
                    refine PW.ops ?_
                    refine OL.det trivial (Yields.pure rfl) ?_
                    refine OL.det trivial (Yields.add64 rfl rfl (by omega) (by omega)) ?_
                    refine OL.det trivial (Yields.pure rfl) ?_
                    refine OL.nil ?_
                    repeat rw [inBlk_n]
                    rw [thenK_n]
                    refine LoopEnd.mk (T'' := [(0, _), (1, _), (6, _), (7, _), (8, _), (9, _), (10, _)]) ⟨rfl, rfl, rfl, rfl, rfl, rfl, rfl, trivial⟩ ?_
                    refine ⟨(xs.length - (i)) + (ys.length - (j + 1)), by omega, i, j + 1, o ++ [(2, 0, (j : Int))], v108, seg108, ⟨by omega, by omega, rfl, ?_, by simp; omega, ?_⟩, rfl, rfl⟩
                    · rw [← hrest, rest_new (i := i) (j := j) (by omega) (by omega) (fun h => by first | omega | exact ⟨fun e => c55 (by rw [e]), by omega⟩), List.append_assoc]; rfl
                    · rw [stsC_append, List.length_append]; exact hsl108
              · try simp only [decide_eq_true_eq, decide_eq_false_iff_not, beq_iff_eq, bne_iff_ne, beq_eq_false_iff_ne, bne_eq_false_iff_eq, Bool.not_eq_true', Bool.not_eq_false', Bool.not_eq_true, ne_eq, Decidable.not_not] at g70
                exfalso; omega
          · try simp only [decide_eq_true_eq, decide_eq_false_iff_not, beq_iff_eq, bne_iff_ne, beq_eq_false_iff_ne, bne_eq_false_iff_eq, Bool.not_eq_true', Bool.not_eq_false', Bool.not_eq_true, ne_eq, Decidable.not_not] at g45
            refine QK.off rfl rfl ?_
            refine QK.off rfl rfl ?_
            refine QK.off rfl rfl ?_
            refine QK.off rfl rfl ?_
            refine QK.off rfl rfl ?_
            refine QK.off rfl rfl ?_
            refine QK.off rfl rfl ?_
            refine QK.off rfl rfl ?_
            refine QK.nil ?_
            change OL _ _ _ [_, _] _ _ _
            refine OL.off rfl rfl ?_
            refine OL.det trivial (Yields.pure rfl) ?_
            refine OL.nil ?_
            refine hK4 _ _ ?_
            refine PW.keep (T' := [(0, _), (1, _), (6, _), (7, _), (8, _), (9, _), (10, _), (55, _)]) ⟨rfl, rfl, rfl, rfl, rfl, rfl, rfl, rfl, trivial⟩ ?_
            refine PW.ite (b := false) rfl ?_
            rw [if_neg Bool.false_ne_true]
            refine PW.seq fun K6 hK6 => ?_
            refine PW.quietK Try.mixed ?_
            refine QK.det trivial (Yields.pure rfl) ?_
            refine QK.det trivial (Yields.pure rfl) ?_
            refine QK.det trivial (Yields.pure rfl) ?_
            refine QK.det trivial (Yields.pure rfl) ?_
            refine QK.bool trivial (Yields.pure rfl) (fun g70 => ?_) (fun g70 => ?_)
            · try simp only [decide_eq_true_eq, decide_eq_false_iff_not, beq_iff_eq, bne_iff_ne, beq_eq_false_iff_ne, bne_eq_false_iff_eq, Bool.not_eq_true', Bool.not_eq_false', Bool.not_eq_true, ne_eq, Decidable.not_not] at g70
              refine QK.det rfl (Yields.pure rfl) ?_
              refine QK.det rfl (Yields.pure rfl) ?_
              refine QK.det rfl (Yields.pure rfl) ?_
              refine QK.det rfl (Yields.pure rfl) ?_
              refine QK.bool rfl (Yields.pure rfl) (fun g75 => ?_) (fun g75 => ?_)
              · try simp only [decide_eq_true_eq, decide_eq_false_iff_not, beq_iff_eq, bne_iff_ne, beq_eq_false_iff_ne, bne_eq_false_iff_eq, Bool.not_eq_true', Bool.not_eq_false', Bool.not_eq_true, ne_eq, Decidable.not_not] at g75
                refine QK.off rfl rfl ?_
                refine QK.off rfl rfl ?_
                refine QK.off rfl rfl ?_
                refine QK.off rfl rfl ?_
                refine QK.off rfl rfl ?_
                refine QK.off rfl rfl ?_
                refine QK.off rfl rfl ?_
                refine QK.off rfl rfl ?_
                refine QK.off rfl rfl ?_
                refine QK.off rfl rfl ?_
                refine QK.off rfl rfl ?_
                refine QK.off rfl rfl ?_
                refine QK.off rfl rfl ?_
                refine QK.off rfl rfl ?_
                refine QK.off rfl rfl ?_
                refine QK.off rfl rfl ?_
                refine QK.off rfl rfl ?_
                refine QK.off rfl rfl ?_
                refine QK.nil ?_
                change OL _ _ _ [_, _, _] _ _ _
                refine OL.off rfl rfl ?_
                refine OL.det rfl (Yields.pure rfl) ?_
                refine OL.det trivial (Yields.pure rfl) ?_
                refine OL.nil ?_
                refine hK6 _ _ ?_
                refine PW.keep (T' := [(0, _), (1, _), (6, _), (7, _), (8, _), (9, _), (10, _), (96, _)]) ⟨rfl, rfl, rfl, rfl, rfl, rfl, rfl, rfl, trivial⟩ ?_
                refine PW.ite (b := true) rfl ?_
                rw [if_pos rfl]
                refine PW.seqOps ?_
                refine OL.det trivial (Yields.pure rfl) ?_
                refine OL.det trivial (Yields.pure rfl) ?_
                refine OL.det trivial (Yields.build rfl) ?_
                apply OL.app1 (k := 0)
                · rfl
                · rfl
                · rfl
                · rfl
                · rfl
                · rfl
                · exact hsl
                · rfl
                · omega
                · unfold maxLen; omega
                intro v101 seg101 hsl101
                refine OL.det trivial (Yields.pure rfl) ?_
                refine OL.nil ?_
                refine PW.keep (T' := [(0, _), (1, _), (6, _), (7, _), (8, _), (9, _), (10, _)]) ⟨rfl, rfl, rfl, rfl, rfl, rfl, rfl, trivial⟩ ?_
                refine PW.ops ?_
                refine OL.det trivial (Yields.pure rfl) ?_
                refine OL.det trivial (Yields.add64 rfl rfl (by omega) (by omega)) ?_
                refine OL.det trivial (Yields.pure rfl) ?_
                refine OL.nil ?_
                repeat rw [inBlk_n]
                rw [thenK_n]
                refine LoopEnd.mk (T'' := [(0, _), (1, _), (6, _), (7, _), (8, _), (9, _), (10, _)]) ⟨rfl, rfl, rfl, rfl, rfl, rfl, rfl, trivial⟩ ?_
                refine ⟨(xs.length - (i + 1)) + (ys.length - (j)), by omega, i + 1, j, o ++ [(1, (i : Int), 0)], v101, seg101, ⟨by omega, by omega, rfl, ?_, by simp; omega, ?_⟩, rfl, rfl⟩
                · rw [← hrest, rest_gone (i := i) (j := j) (by omega) (by omega) (fun h => by first | omega | exact ⟨fun e => c55 (by rw [e]), by omega⟩), List.append_assoc]; rfl
                · rw [stsC_append, List.length_append]; exact hsl101
              · try simp only [decide_eq_true_eq, decide_eq_false_iff_not, beq_iff_eq, bne_iff_ne, beq_eq_false_iff_ne, bne_eq_false_iff_eq, Bool.not_eq_true', Bool.not_eq_false', Bool.not_eq_true, ne_eq, Decidable.not_not] at g75
                exfalso; omega
            · try simp only [decide_eq_true_eq, decide_eq_false_iff_not, beq_iff_eq, bne_iff_ne, beq_eq_false_iff_ne, bne_eq_false_iff_eq, Bool.not_eq_true', Bool.not_eq_false', Bool.not_eq_true, ne_eq, Decidable.not_not] at g70
              exfalso; omega
        · try simp only [decide_eq_true_eq, decide_eq_false_iff_not, beq_iff_eq, bne_iff_ne, beq_eq_false_iff_ne, bne_eq_false_iff_eq, Bool.not_eq_true', Bool.not_eq_false', Bool.not_eq_true, ne_eq, Decidable.not_not] at g39
          exfalso; omega
      · try simp only [decide_eq_true_eq, decide_eq_false_iff_not, beq_iff_eq, bne_iff_ne, beq_eq_false_iff_ne, bne_eq_false_iff_eq, Bool.not_eq_true', Bool.not_eq_false', Bool.not_eq_true, ne_eq, Decidable.not_not] at g29
        refine OL.det rfl (Yields.pure rfl) ?_
        refine OL.det rfl (Yields.pure rfl) ?_
        refine OL.det rfl (Yields.pure rfl) ?_
        refine OL.det rfl (Yields.pure rfl) ?_
        refine OL.det trivial (Yields.pure rfl) ?_
        refine OL.nil ?_
        refine PW.keep (T' := [(0, _), (1, _), (6, _), (7, _), (8, _), (9, _), (10, _), (34, _)]) ⟨rfl, rfl, rfl, rfl, rfl, rfl, rfl, rfl, trivial⟩ ?_
        refine PW.cond rfl (fun c34 => ?_) (fun c34 => ?_)
        · try simp only [decide_eq_true_eq, decide_eq_false_iff_not, beq_iff_eq, bne_iff_ne, beq_eq_false_iff_ne, bne_eq_false_iff_eq, Bool.not_eq_true', Bool.not_eq_false', Bool.not_eq_true, ne_eq, Decidable.not_not] at c34
          refine PW.skip ?_
          refine hK3 _ _ ?_
          refine PW.keep (T' := [(0, _), (1, _), (6, _), (7, _), (8, _), (9, _), (10, _)]) ⟨rfl, rfl, rfl, rfl, rfl, rfl, rfl, trivial⟩ ?_
          refine PW.block ?_
          refine PW.seq fun K7 hK7 => ?_
          refine PW.quietK Try.mixed ?_
          refine QK.det trivial (Yields.pure rfl) ?_
          refine QK.det trivial (Yields.pure rfl) ?_
          refine QK.det trivial (Yields.pure rfl) ?_
          refine QK.det trivial (Yields.pure rfl) ?_
          refine QK.bool trivial (Yields.pure rfl) (fun g39 => ?_) (fun g39 => ?_)
          · try simp only [decide_eq_true_eq, decide_eq_false_iff_not, beq_iff_eq, bne_iff_ne, beq_eq_false_iff_ne, bne_eq_false_iff_eq, Bool.not_eq_true', Bool.not_eq_false', Bool.not_eq_true, ne_eq, Decidable.not_not] at g39
            exfalso; omega
          · try simp only [decide_eq_true_eq, decide_eq_false_iff_not, beq_iff_eq, bne_iff_ne, beq_eq_false_iff_ne, bne_eq_false_iff_eq, Bool.not_eq_true', Bool.not_eq_false', Bool.not_eq_true, ne_eq, Decidable.not_not] at g39
            refine QK.off rfl rfl ?_
            refine QK.off rfl rfl ?_
            refine QK.off rfl rfl ?_
            refine QK.off rfl rfl ?_
            refine QK.det trivial (Yields.pure rfl) ?_
            refine QK.det trivial (Yields.pure rfl) ?_
            refine QK.off rfl rfl ?_
            refine QK.off rfl rfl ?_
            refine QK.off rfl rfl ?_
            refine QK.off rfl rfl ?_
            refine QK.off rfl rfl ?_
            refine QK.off rfl rfl ?_
            refine QK.off rfl rfl ?_
            refine QK.off rfl rfl ?_
            refine QK.nil ?_
            change OL _ _ _ [_, _] _ _ _
            refine OL.off rfl rfl ?_
            refine OL.det trivial (Yields.pure rfl) ?_
            refine OL.nil ?_
            refine hK7 _ _ ?_
            refine PW.keep (T' := [(0, _), (1, _), (6, _), (7, _), (8, _), (9, _), (10, _), (55, _)]) ⟨rfl, rfl, rfl, rfl, rfl, rfl, rfl, rfl, trivial⟩ ?_
            refine PW.ite (b := false) rfl ?_
            rw [if_neg Bool.false_ne_true]
            refine PW.seq fun K8 hK8 => ?_
            refine PW.quietK Try.mixed ?_
            refine QK.det trivial (Yields.pure rfl) ?_
            refine QK.det trivial (Yields.pure rfl) ?_
            refine QK.det trivial (Yields.pure rfl) ?_
            refine QK.det trivial (Yields.pure rfl) ?_
            refine QK.bool trivial (Yields.pure rfl) (fun g70 => ?_) (fun g70 => ?_)
            · try simp only [decide_eq_true_eq, decide_eq_false_iff_not, beq_iff_eq, bne_iff_ne, beq_eq_false_iff_ne, bne_eq_false_iff_eq, Bool.not_eq_true', Bool.not_eq_false', Bool.not_eq_true, ne_eq, Decidable.not_not] at g70
              exfalso; omega
            · try simp only [decide_eq_true_eq, decide_eq_false_iff_not, beq_iff_eq, bne_iff_ne, beq_eq_false_iff_ne, bne_eq_false_iff_eq, Bool.not_eq_true', Bool.not_eq_false', Bool.not_eq_true, ne_eq, Decidable.not_not] at g70
              refine QK.off rfl rfl ?_
              refine QK.off rfl rfl ?_
              refine QK.off rfl rfl ?_
              refine QK.off rfl rfl ?_
              refine QK.off rfl rfl ?_
              refine QK.off rfl rfl ?_
              refine QK.off rfl rfl ?_
              refine QK.off rfl rfl ?_
              refine QK.off rfl rfl ?_
              refine QK.off rfl rfl ?_
              refine QK.off rfl rfl ?_
              refine QK.off rfl rfl ?_
              refine QK.off rfl rfl ?_
              refine QK.off rfl rfl ?_
              refine QK.off rfl rfl ?_
              refine QK.off rfl rfl ?_
              refine QK.off rfl rfl ?_
              refine QK.off rfl rfl ?_
              refine QK.off rfl rfl ?_
              refine QK.off rfl rfl ?_
              refine QK.off rfl rfl ?_
              refine QK.off rfl rfl ?_
              refine QK.off rfl rfl ?_
              refine QK.nil ?_
              change OL _ _ _ [_, _, _] _ _ _
              refine OL.off rfl rfl ?_
              refine OL.off rfl rfl ?_
              refine OL.det trivial (Yields.pure rfl) ?_
              refine OL.nil ?_
              refine hK8 _ _ ?_
              refine PW.keep (T' := [(0, _), (1, _), (6, _), (7, _), (8, _), (9, _), (10, _), (96, _)]) ⟨rfl, rfl, rfl, rfl, rfl, rfl, rfl, rfl, trivial⟩ ?_
              refine PW.ite (b := false) rfl ?_
              rw [if_neg Bool.false_ne_true]
              refine PW.seqOps ?_
              refine OL.det trivial (Yields.pure rfl) ?_
              refine OL.det trivial (Yields.pure rfl) ?_
              refine OL.det trivial (Yields.build rfl) ?_
              apply OL.app1 (k := 0)
              · rfl
              · rfl
              · rfl
              · rfl
              · rfl
              · rfl
              · exact hsl
              · rfl
              · omega
              · unfold maxLen; omega
              intro v108 seg108 hsl108
              refine OL.det trivial (Yields.pure rfl) ?_
              refine OL.nil ?_
              refine PW.keep (T' := [(0, _), (1, _), (6, _), (7, _), (8, _), (9, _), (10, _)]) ⟨rfl, rfl, rfl, rfl, rfl, rfl, rfl, trivial⟩ ?_
              refine PW.ops ?_
              refine OL.det trivial (Yields.pure rfl) ?_
              refine OL.det trivial (Yields.add64 rfl rfl (by omega) (by omega)) ?_
              refine OL.det trivial (Yields.pure rfl) ?_
              refine OL.nil ?_
              repeat rw [inBlk_n]
              rw [thenK_n]
              refine LoopEnd.mk (T'' := [(0, _), (1, _), (6, _), (7, _), (8, _), (9, _), (10, _)]) ⟨rfl, rfl, rfl, rfl, rfl, rfl, rfl, trivial⟩ ?_
              refine ⟨(xs.length - (i)) + (ys.length - (j + 1)), by omega, i, j + 1, o ++ [(2, 0, (j : Int))], v108, seg108, ⟨by omega, by omega, rfl, ?_, by simp; omega, ?_⟩, rfl, rfl⟩
              · rw [← hrest, rest_new (i := i) (j := j) (by omega) (by omega) (fun h => by first | omega | exact ⟨fun e => c55 (by rw [e]), by omega⟩), List.append_assoc]; rfl
              · rw [stsC_append, List.length_append]; exact hsl108
        · try simp only [decide_eq_true_eq, decide_eq_false_iff_not, beq_iff_eq, bne_iff_ne, beq_eq_false_iff_ne, bne_eq_false_iff_eq, Bool.not_eq_true', Bool.not_eq_false', Bool.not_eq_true, ne_eq, Decidable.not_not] at c34
          refine PW.exit ?_
          refine hK2 _ _ ?_
          refine PW.keep (T' := [(10, _)]) ⟨rfl, trivial⟩ ?_
          refine PW.seqOps ?_
          refine OL.det trivial (Yields.pure rfl) ?_
          refine OL.det trivial (Yields.pure rfl) ?_
          refine OL.det trivial (Yields.pure rfl) ?_
          refine OL.nil ?_
          refine PW.keep (T' := [(4, _), (5, _)]) ⟨rfl, rfl, trivial⟩ ?_
          refine PW.ret ?_
          change (Exit.ret = Exit.normal ∨ Exit.ret = Exit.ret) ∧ ∃ v, resV _ _ = some v ∧ _
          have e1 := rest_end (X := xs) (Y := ys) (show i = xs.length by omega) (show j = ys.length by omega)
          rw [e1, List.append_nil] at hrest
          refine ⟨.inr rfl, _, rfl, seg :: S, ?_, v, seg, rfl, rfl, by rw [← hrest]; exact hsl⟩
          exact Sub.cons (Sub.drop (Sub.refl S))

end Go.Proofs
