/- Walks and plain facts for the laws of this seat: what each function answers, for every input. -/
import Derived.Test.YtbidjnjbiibdeaaDoorSl23
import Derived.Test.YtbidjnjbiibdeaaDoorLbW4
import Derived.Test.YtbidjnjbiibdeaaDoorLbAw
set_option linter.unusedVariables false
set_option linter.unusedSimpArgs false
namespace Go.Proofs
open Go.SL Go.RowKit
set_option maxHeartbeats 1000000

theorem may_of {l : Int} (h : chkP l = 0) : 0 ≤ l ∧ l ≤ 15 := by
  unfold chkP at h
  split at h
  · cases h
  · omega
theorem lattice_fc {w0 : World} {S : SS} {a b c : LabB} (hg : GlobOk w0 labG) : FC Tryd.prog w0 3 [labB a, labB b, labB c] S (fun v S' => v = .bool true) := by
  refine FC.of Tryd.known3 (by simp) ?_
  unfold Tryd.pc3
  simp only [argT]
  refine PW.seqOps ?_
  refine OL.cons trivial (OW.bx rfl) ?_
  rintro _ _ ⟨r3, rfl, rfl⟩
  change OL _ _ _ _ _ (lseg r3 a :: S) _
  refine OL.cons trivial (OW.bx rfl) ?_
  rintro _ _ ⟨r4, rfl, rfl⟩
  change OL _ _ _ _ _ (lseg r4 b :: lseg r3 a :: S) _
  refine OL.cons trivial (OW.bx rfl) ?_
  rintro _ _ ⟨r5, rfl, rfl⟩
  change OL _ _ _ _ _ (lseg r5 c :: lseg r4 b :: lseg r3 a :: S) _
  refine OL.det trivial (Yields.pure rfl) ?_
  refine OL.nil ?_
  refine PW.keep (T' := [(3, _), (4, _), (5, _)]) ⟨rfl, rfl, rfl, trivial⟩ ?_
  refine PW.seq fun K1 hK1 => ?_
  refine PW.quietAlK (p := 6) (al := [(7, 24, [.int .i64 0, .int .u64 0]), (8, 24, [.int .i64 0, .int .u64 0])]) Tryd.mixed rfl ?_
  refine QKs.det trivial (fun Sx hSx => Yields.ldA rfl rfl (lab_at (a := a) (hSx _ (by simp)))) ?_
  refine QKs.det trivial (fun Sx hSx => Yields.ldA rfl rfl (lab_at (a := b) (hSx _ (by simp)))) ?_
  refine QKs.call trivial rfl (fun Sx hSx => join_b (a := a) (b := b)) ?_
  refine QKs.det trivial (fun Sx hSx => Yields.ldA rfl rfl (lab_at (a := a) (hSx _ (by simp)))) ?_
  refine QKs.det trivial (fun Sx hSx => Yields.ldA rfl rfl (lab_at (a := b) (hSx _ (by simp)))) ?_
  refine QKs.call trivial rfl (fun Sx hSx => meet_b (a := a) (b := b)) ?_
  refine QKs.nil ?_
  intro rs hrs
  obtain ⟨r7, r8, rfl⟩ : ∃ r7 r8, rs = [r7, r8] := by
    match rs, hrs with
    | [r7, r8], _ => exact ⟨_, _, rfl⟩
  change OL _ _ _ _ _ ([(r7, .cells [.int .i64 0, .int .u64 0] 24 2)] :: [(r8, .cells [.int .i64 0, .int .u64 0] 24 2)] :: lseg r5 c :: lseg r4 b :: lseg r3 a :: S) _
  change OL _ _ _ [_, _] _ _ _
  refine OL.cons trivial (OW.st (k := 0) (u := labB (joinB a b)) rfl rfl rfl rfl (by show (2 : Nat) ≤ 2; omega) rfl) ?_
  rintro _ _ rfl
  refine OL.cons trivial (OW.st (k := 1) (u := labB (meetB a b)) rfl rfl rfl rfl (by show (2 : Nat) ≤ 2; omega) rfl) ?_
  rintro _ _ rfl
  change OL _ _ _ _ _ (lseg r7 (joinB a b) :: lseg r8 (meetB a b) :: lseg r5 c :: lseg r4 b :: lseg r3 a :: S) _
  refine OL.nil ?_
  refine hK1 _ _ ?_
  refine PW.keep (T' := [(3, _), (4, _), (5, _), (7, _), (8, _)]) ⟨rfl, rfl, rfl, rfl, rfl, trivial⟩ ?_
  refine PW.seq fun K2 hK2 => ?_
  refine PW.seqOps ?_
  refine OL.det trivial (Yields.ldA rfl rfl (lab_at (a := a) (by simp))) ?_
  refine OL.det trivial (Yields.ldA rfl rfl (lab_at (a := a) (by simp))) ?_
  refine OL.call trivial rfl (below_b (a := a) (b := a)) ?_
  rintro _ _ ⟨rfl, rfl⟩
  refine OL.det trivial (Yields.pure rfl) ?_
  refine OL.bool trivial (Yields.pure rfl) (fun g20 => ?_) (fun g20 => ?_)
  · try simp only [bne_iff_ne, beq_iff_eq, Bool.not_eq_true', Bool.not_eq_false', ne_eq, Decidable.not_not] at g20
    exfalso; rw [below_refl] at g20; revert g20; simp
    -- done
  · try simp only [bne_iff_ne, beq_iff_eq, Bool.not_eq_true', Bool.not_eq_false', ne_eq, Decidable.not_not] at g20
    refine OL.det rfl (Yields.ldA rfl rfl (lab_at (a := a) (by simp))) ?_
    refine OL.det rfl (Yields.ldA rfl rfl (lab_at (a := b) (by simp))) ?_
    refine OL.call rfl rfl (below_b (a := a) (b := b)) ?_
    rintro _ _ ⟨rfl, rfl⟩
    refine OL.bool rfl (Yields.pure rfl) (fun g24 => ?_) (fun g24 => ?_)
    · try simp only [bne_iff_ne, beq_iff_eq, Bool.not_eq_true', Bool.not_eq_false', ne_eq, Decidable.not_not] at g24
      refine OL.det rfl (Yields.ldA rfl rfl (lab_at (a := b) (by simp))) ?_
      refine OL.det rfl (Yields.ldA rfl rfl (lab_at (a := c) (by simp))) ?_
      refine OL.call rfl rfl (below_b (a := b) (b := c)) ?_
      rintro _ _ ⟨rfl, rfl⟩
      refine OL.det rfl (Yields.pure rfl) ?_
      refine OL.bool rfl (Yields.pure rfl) (fun g29 => ?_) (fun g29 => ?_)
      · try simp only [bne_iff_ne, beq_iff_eq, Bool.not_eq_true', Bool.not_eq_false', ne_eq, Decidable.not_not] at g29
        refine OL.det rfl (Yields.ldA rfl rfl (lab_at (a := a) (by simp))) ?_
        refine OL.det rfl (Yields.ldA rfl rfl (lab_at (a := c) (by simp))) ?_
        refine OL.call rfl rfl (below_b (a := a) (b := c)) ?_
        rintro _ _ ⟨rfl, rfl⟩
        refine OL.det rfl (Yields.pure rfl) ?_
        refine OL.det rfl (Yields.pure rfl) ?_
        refine OL.det trivial (Yields.pure rfl) ?_
        refine OL.bool trivial (Yields.pure rfl) (fun g36 => ?_) (fun g36 => ?_)
        · try simp only [bne_iff_ne, beq_iff_eq, Bool.not_eq_true', Bool.not_eq_false', ne_eq, Decidable.not_not] at g36
          exfalso; rw [below_trans g24 g29] at g36; revert g36; simp
          -- done
        · try simp only [bne_iff_ne, beq_iff_eq, Bool.not_eq_true', Bool.not_eq_false', ne_eq, Decidable.not_not] at g36
          refine OL.det rfl (Yields.ldA rfl rfl (lab_at (a := a) (by simp))) ?_
          refine OL.det rfl (Yields.ldA rfl rfl (lab_at (a := b) (by simp))) ?_
          refine OL.call rfl rfl (below_b (a := a) (b := b)) ?_
          rintro _ _ ⟨rfl, rfl⟩
          refine OL.bool rfl (Yields.pure rfl) (fun g40 => ?_) (fun g40 => ?_)
          · try simp only [bne_iff_ne, beq_iff_eq, Bool.not_eq_true', Bool.not_eq_false', ne_eq, Decidable.not_not] at g40
            refine OL.det rfl (Yields.ldA rfl rfl (lab_at (a := b) (by simp))) ?_
            refine OL.det rfl (Yields.ldA rfl rfl (lab_at (a := a) (by simp))) ?_
            refine OL.call rfl rfl (below_b (a := b) (b := a)) ?_
            rintro _ _ ⟨rfl, rfl⟩
            refine OL.det rfl (Yields.pure rfl) ?_
            refine OL.bool rfl (Yields.pure rfl) (fun g45 => ?_) (fun g45 => ?_)
            · try simp only [bne_iff_ne, beq_iff_eq, Bool.not_eq_true', Bool.not_eq_false', ne_eq, Decidable.not_not] at g45
              refine OL.det rfl (Yields.ldA rfl rfl (lab_at (a := a) (by simp))) ?_
              refine OL.det rfl (Yields.ldA rfl rfl (lab_at (a := b) (by simp))) ?_
              refine OL.det rfl (Yields.eqA rfl rfl (eq_lab (a) (b))) ?_
              refine OL.det rfl (Yields.pure rfl) ?_
              refine OL.det trivial (Yields.pure rfl) ?_
              refine OL.nil ?_
              refine PW.keep (T' := [(3, _), (4, _), (5, _), (7, _), (8, _), (50, _)]) ⟨rfl, rfl, rfl, rfl, rfl, rfl, trivial⟩ ?_
              refine PW.cond rfl (fun c50 => ?_) (fun c50 => ?_)
              · try simp only [bne_iff_ne, beq_iff_eq, Bool.not_eq_true', Bool.not_eq_false', ne_eq, Decidable.not_not] at c50
                exfalso; have e := below_anti g40 g45; revert c50; simp [e]
                -- done
              · try simp only [bne_iff_ne, beq_iff_eq, Bool.not_eq_true', Bool.not_eq_false', ne_eq, Decidable.not_not] at c50
                refine PW.skip ?_
                refine hK2 _ _ ?_
                refine PW.keep (T' := [(3, _), (4, _), (5, _), (7, _), (8, _)]) ⟨rfl, rfl, rfl, rfl, rfl, trivial⟩ ?_
                refine PW.seq fun K3 hK3 => ?_
                refine PW.seqOps ?_
                refine OL.det trivial (Yields.ldA rfl rfl (lab_at (a := a) (by simp))) ?_
                refine OL.det trivial (Yields.ldA rfl rfl (lab_at (a := joinB a b) (by simp))) ?_
                refine OL.call trivial rfl (below_b (a := a) (b := joinB a b)) ?_
                rintro _ _ ⟨rfl, rfl⟩
                refine OL.det trivial (Yields.pure rfl) ?_
                refine OL.bool trivial (Yields.pure rfl) (fun g55 => ?_) (fun g55 => ?_)
                · try simp only [bne_iff_ne, beq_iff_eq, Bool.not_eq_true', Bool.not_eq_false', ne_eq, Decidable.not_not] at g55
                  exfalso; rw [below_join_l] at g55; revert g55; simp
                  -- done
                · try simp only [bne_iff_ne, beq_iff_eq, Bool.not_eq_true', Bool.not_eq_false', ne_eq, Decidable.not_not] at g55
                  refine OL.det rfl (Yields.ldA rfl rfl (lab_at (a := b) (by simp))) ?_
                  refine OL.det rfl (Yields.ldA rfl rfl (lab_at (a := joinB a b) (by simp))) ?_
                  refine OL.call rfl rfl (below_b (a := b) (b := joinB a b)) ?_
                  rintro _ _ ⟨rfl, rfl⟩
                  refine OL.det rfl (Yields.pure rfl) ?_
                  refine OL.det trivial (Yields.pure rfl) ?_
                  refine OL.bool trivial (Yields.pure rfl) (fun g61 => ?_) (fun g61 => ?_)
                  · try simp only [bne_iff_ne, beq_iff_eq, Bool.not_eq_true', Bool.not_eq_false', ne_eq, Decidable.not_not] at g61
                    exfalso; rw [below_join_r] at g61; revert g61; simp
                    -- done
                  · try simp only [bne_iff_ne, beq_iff_eq, Bool.not_eq_true', Bool.not_eq_false', ne_eq, Decidable.not_not] at g61
                    refine OL.det rfl (Yields.ldA rfl rfl (lab_at (a := meetB a b) (by simp))) ?_
                    refine OL.det rfl (Yields.ldA rfl rfl (lab_at (a := a) (by simp))) ?_
                    refine OL.call rfl rfl (below_b (a := meetB a b) (b := a)) ?_
                    rintro _ _ ⟨rfl, rfl⟩
                    refine OL.det rfl (Yields.pure rfl) ?_
                    refine OL.det trivial (Yields.pure rfl) ?_
                    refine OL.bool trivial (Yields.pure rfl) (fun g67 => ?_) (fun g67 => ?_)
                    · try simp only [bne_iff_ne, beq_iff_eq, Bool.not_eq_true', Bool.not_eq_false', ne_eq, Decidable.not_not] at g67
                      exfalso; rw [meet_below_l] at g67; revert g67; simp
                      -- done
                    · try simp only [bne_iff_ne, beq_iff_eq, Bool.not_eq_true', Bool.not_eq_false', ne_eq, Decidable.not_not] at g67
                      refine OL.det rfl (Yields.ldA rfl rfl (lab_at (a := meetB a b) (by simp))) ?_
                      refine OL.det rfl (Yields.ldA rfl rfl (lab_at (a := b) (by simp))) ?_
                      refine OL.call rfl rfl (below_b (a := meetB a b) (b := b)) ?_
                      rintro _ _ ⟨rfl, rfl⟩
                      refine OL.det rfl (Yields.pure rfl) ?_
                      refine OL.det trivial (Yields.pure rfl) ?_
                      refine OL.nil ?_
                      refine PW.keep (T' := [(3, _), (4, _), (5, _), (7, _), (8, _), (72, _)]) ⟨rfl, rfl, rfl, rfl, rfl, rfl, trivial⟩ ?_
                      refine PW.cond rfl (fun c72 => ?_) (fun c72 => ?_)
                      · try simp only [bne_iff_ne, beq_iff_eq, Bool.not_eq_true', Bool.not_eq_false', ne_eq, Decidable.not_not] at c72
                        exfalso; rw [meet_below_r] at c72; revert c72; simp
                        -- done
                      · try simp only [bne_iff_ne, beq_iff_eq, Bool.not_eq_true', Bool.not_eq_false', ne_eq, Decidable.not_not] at c72
                        refine PW.skip ?_
                        refine hK3 _ _ ?_
                        refine PW.keep (T' := [(3, _), (4, _), (5, _), (7, _), (8, _)]) ⟨rfl, rfl, rfl, rfl, rfl, trivial⟩ ?_
                        refine PW.seq fun K4 hK4 => ?_
                        refine PW.seq fun K5 hK5 => ?_
                        refine PW.quiet2QK Tryd.mixed ?_
                        refine QK.det trivial (Yields.ldA rfl rfl (lab_at (a := a) (by simp))) ?_
                        refine QK.det trivial (Yields.ldA rfl rfl (lab_at (a := c) (by simp))) ?_
                        refine QK.call trivial rfl (below_b (a := a) (b := c)) ?_
                        refine QK.bool trivial (Yields.pure rfl) (fun g76 => ?_) (fun g76 => ?_)
                        · try simp only [bne_iff_ne, beq_iff_eq, Bool.not_eq_true', Bool.not_eq_false', ne_eq, Decidable.not_not] at g76
                          refine QK.det rfl (Yields.ldA rfl rfl (lab_at (a := b) (by simp))) ?_
                          refine QK.det rfl (Yields.ldA rfl rfl (lab_at (a := c) (by simp))) ?_
                          refine QK.call rfl rfl (below_b (a := b) (b := c)) ?_
                          refine QK.det rfl (Yields.ldA rfl rfl (lab_at (a := joinB a b) (by simp))) ?_
                          refine QK.det rfl (Yields.ldA rfl rfl (lab_at (a := c) (by simp))) ?_
                          refine QK.call rfl rfl (below_b (a := joinB a b) (b := c)) ?_
                          refine QK.det rfl (Yields.pure rfl) ?_
                          refine QK.det trivial (Yields.pure rfl) ?_
                          refine QK.bool trivial (Yields.pure rfl) (fun g85 => ?_) (fun g85 => ?_)
                          · try simp only [bne_iff_ne, beq_iff_eq, Bool.not_eq_true', Bool.not_eq_false', ne_eq, Decidable.not_not] at g85
                            exfalso; rw [join_least g76, beq_self_eq_true] at g85; cases g85
                            -- done
                          · try simp only [bne_iff_ne, beq_iff_eq, Bool.not_eq_true', Bool.not_eq_false', ne_eq, Decidable.not_not] at g85
                            refine QK.det rfl (Yields.ldA rfl rfl (lab_at (a := c) (by simp))) ?_
                            refine QK.det rfl (Yields.ldA rfl rfl (lab_at (a := a) (by simp))) ?_
                            refine QK.call rfl rfl (below_b (a := c) (b := a)) ?_
                            refine QK.bool rfl (Yields.pure rfl) (fun g89 => ?_) (fun g89 => ?_)
                            · try simp only [bne_iff_ne, beq_iff_eq, Bool.not_eq_true', Bool.not_eq_false', ne_eq, Decidable.not_not] at g89
                              refine QK.det rfl (Yields.ldA rfl rfl (lab_at (a := c) (by simp))) ?_
                              refine QK.det rfl (Yields.ldA rfl rfl (lab_at (a := b) (by simp))) ?_
                              refine QK.call rfl rfl (below_b (a := c) (b := b)) ?_
                              refine QK.det rfl (Yields.ldA rfl rfl (lab_at (a := c) (by simp))) ?_
                              refine QK.det rfl (Yields.ldA rfl rfl (lab_at (a := meetB a b) (by simp))) ?_
                              refine QK.nil ?_
                              change OL _ _ _ [_, _, _, _] _ _ _
                              refine OL.call rfl rfl (below_b (a := c) (b := meetB a b)) ?_
                              rintro _ _ ⟨rfl, rfl⟩
                              refine OL.det rfl (Yields.pure rfl) ?_
                              refine OL.det rfl (Yields.pure rfl) ?_
                              refine OL.det trivial (Yields.pure rfl) ?_
                              refine OL.nil ?_
                              refine hK5 _ _ ?_
                              refine PW.keep (T' := [(3, _), (4, _), (7, _), (8, _), (98, _)]) ⟨rfl, rfl, rfl, rfl, rfl, trivial⟩ ?_
                              refine PW.cond rfl (fun c98 => ?_) (fun c98 => ?_)
                              · try simp only [bne_iff_ne, beq_iff_eq, Bool.not_eq_true', Bool.not_eq_false', ne_eq, Decidable.not_not] at c98
                                exfalso; rw [meet_most g89, beq_self_eq_true] at c98; cases c98
                                -- done
                              · try simp only [bne_iff_ne, beq_iff_eq, Bool.not_eq_true', Bool.not_eq_false', ne_eq, Decidable.not_not] at c98
                                refine PW.skip ?_
                                refine hK4 _ _ ?_
                                refine PW.keep (T' := [(3, _), (4, _), (7, _), (8, _)]) ⟨rfl, rfl, rfl, rfl, trivial⟩ ?_
                                refine PW.seqOps ?_
                                refine OL.det trivial (Yields.ldA rfl rfl (lab_at (a := a) (by simp))) ?_
                                refine OL.call trivial rfl (check_b (a := a)) ?_
                                rintro _ _ ⟨rfl, rfl⟩
                                refine OL.det trivial (Yields.pure rfl) ?_
                                refine OL.det trivial (Yields.pure rfl) ?_
                                refine OL.nil ?_
                                refine PW.keep (T' := [(3, _), (4, _), (7, _), (8, _), (9, _)]) ⟨rfl, rfl, rfl, rfl, rfl, trivial⟩ ?_
                                refine PW.seq fun K6 hK6 => ?_
                                refine PW.quietK Tryd.mixed ?_
                                refine QK.det trivial (Yields.ldA rfl rfl (lab_at (a := a) (by simp))) ?_
                                refine QK.det trivial (Yields.ldA rfl rfl (lab_at (a := meetB a b) (by simp))) ?_
                                refine QK.call trivial rfl (join_b (a := a) (b := meetB a b)) ?_
                                refine QK.det trivial (Yields.ldA rfl rfl (lab_at (a := a) (by simp))) ?_
                                refine QK.det trivial (Yields.eqA rfl rfl (eq_lab (joinB (a) (meetB a b)) (a))) ?_
                                refine QK.bool trivial (Yields.pure rfl) (fun g107 => ?_) (fun g107 => ?_)
                                · try simp only [bne_iff_ne, beq_iff_eq, Bool.not_eq_true', Bool.not_eq_false', ne_eq, Decidable.not_not] at g107
                                  refine QK.det rfl (Yields.ldA rfl rfl (lab_at (a := a) (by simp))) ?_
                                  refine QK.det rfl (Yields.ldA rfl rfl (lab_at (a := joinB a b) (by simp))) ?_
                                  refine QK.call rfl rfl (meet_b (a := a) (b := joinB a b)) ?_
                                  refine QK.det rfl (Yields.ldA rfl rfl (lab_at (a := a) (by simp))) ?_
                                  refine QK.det rfl (Yields.eqA rfl rfl (eq_lab (meetB (a) (joinB a b)) (a))) ?_
                                  refine QK.det trivial (Yields.pure rfl) ?_
                                  refine QK.bool trivial (Yields.pure rfl) (fun g114 => ?_) (fun g114 => ?_)
                                  · try simp only [bne_iff_ne, beq_iff_eq, Bool.not_eq_true', Bool.not_eq_false', ne_eq, Decidable.not_not] at g114
                                    refine QK.det rfl (Yields.ldA rfl rfl (lab_at (a := a) (by simp))) ?_
                                    refine QK.det rfl (Yields.ldA rfl rfl (lab_at (a := b) (by simp))) ?_
                                    refine QK.call rfl rfl (below_b (a := a) (b := b)) ?_
                                    refine QK.det rfl (Yields.ldA rfl rfl (lab_at (a := joinB a b) (by simp))) ?_
                                    refine QK.det rfl (Yields.ldA rfl rfl (lab_at (a := b) (by simp))) ?_
                                    refine QK.det rfl (Yields.eqA rfl rfl (eq_lab (joinB a b) (b))) ?_
                                    refine QK.det rfl (Yields.pure rfl) ?_
                                    refine QK.det trivial (Yields.pure rfl) ?_
                                    refine QK.bool trivial (Yields.pure rfl) (fun g123 => ?_) (fun g123 => ?_)
                                    · try simp only [bne_iff_ne, beq_iff_eq, Bool.not_eq_true', Bool.not_eq_false', ne_eq, Decidable.not_not] at g123
                                      refine QK.det rfl (Yields.pure rfl) ?_
                                      refine QK.det rfl (Yields.pure rfl) ?_
                                      refine QK.bool rfl (Yields.pure rfl) (fun g126 => ?_) (fun g126 => ?_)
                                      · try simp only [bne_iff_ne, beq_iff_eq, Bool.not_eq_true', Bool.not_eq_false', ne_eq, Decidable.not_not] at g126
                                        refine QK.off rfl rfl ?_
                                        refine QK.off rfl rfl ?_
                                        refine QK.off rfl rfl ?_
                                        refine QK.off rfl rfl ?_
                                        refine QK.off rfl rfl ?_
                                        refine QK.off rfl rfl ?_
                                        refine QK.nil ?_
                                        change OL _ _ _ [_, _, _, _, _, _, _, _] _ _ _
                                        refine OL.off rfl rfl ?_
                                        refine OL.off rfl rfl ?_
                                        refine OL.det rfl (Yields.pure rfl) ?_
                                        refine OL.det trivial (Yields.pure rfl) ?_
                                        refine OL.det trivial (Yields.pure rfl) ?_
                                        refine OL.call rfl rfl (awake_fc hg) ?_
                                        rintro _ _ ⟨rfl, rfl⟩
                                        refine OL.det trivial (Yields.pure rfl) ?_
                                        refine OL.det trivial (Yields.pure rfl) ?_
                                        refine OL.nil ?_
                                        refine hK6 _ _ ?_
                                        refine PW.keep (T' := [(6, _)]) ⟨rfl, trivial⟩ ?_
                                        refine PW.ret ?_
                                        change (Exit.ret = Exit.normal ∨ Exit.ret = Exit.ret) ∧ ∃ v, resV _ _ = some v ∧ _
                                        exact ⟨.inr rfl, _, rfl, rfl⟩
                                      · try simp only [bne_iff_ne, beq_iff_eq, Bool.not_eq_true', Bool.not_eq_false', ne_eq, Decidable.not_not] at g126
                                        refine QK.det rfl (Yields.build rfl) ?_
                                        refine QK.det rfl (Yields.ldA rfl rfl (lab_at (a := a) (by simp))) ?_
                                        refine QK.call rfl rfl (below_b (a := botB) (b := a)) ?_
                                        refine QK.bool rfl (Yields.pure rfl) (fun g130 => ?_) (fun g130 => ?_)
                                        · try simp only [bne_iff_ne, beq_iff_eq, Bool.not_eq_true', Bool.not_eq_false', ne_eq, Decidable.not_not] at g130
                                          refine QK.det rfl (Yields.ldA rfl rfl (lab_at (a := a) (by simp))) ?_
                                          refine QK.call rfl rfl (top_b) ?_
                                          refine QK.nil ?_
                                          change OL _ _ _ [_, _, _, _, _, _, _, _] _ _ _
                                          refine OL.call rfl rfl (below_b (a := a) (b := topB)) ?_
                                          rintro _ _ ⟨rfl, rfl⟩
                                          refine OL.det rfl (Yields.pure rfl) ?_
                                          refine OL.det rfl (Yields.pure rfl) ?_
                                          refine OL.det trivial (Yields.pure rfl) ?_
                                          refine OL.bool trivial (Yields.pure rfl) (fun g137 => ?_) (fun g137 => ?_)
                                          · try simp only [bne_iff_ne, beq_iff_eq, Bool.not_eq_true', Bool.not_eq_false', ne_eq, Decidable.not_not] at g137
                                            refine OL.call rfl rfl (awake_fc hg) ?_
                                            rintro _ _ ⟨rfl, rfl⟩
                                            refine OL.det trivial (Yields.pure rfl) ?_
                                            refine OL.det trivial (Yields.pure rfl) ?_
                                            refine OL.nil ?_
                                            refine hK6 _ _ ?_
                                            refine PW.keep (T' := [(6, _)]) ⟨rfl, trivial⟩ ?_
                                            refine PW.ret ?_
                                            change (Exit.ret = Exit.normal ∨ Exit.ret = Exit.ret) ∧ ∃ v, resV _ _ = some v ∧ _
                                            exact ⟨.inr rfl, _, rfl, rfl⟩
                                          · try simp only [bne_iff_ne, beq_iff_eq, Bool.not_eq_true', Bool.not_eq_false', ne_eq, Decidable.not_not] at g137
                                            exfalso; rw [below_top (may_of g126).2] at g137; cases g137
                                            -- done
                                        · try simp only [bne_iff_ne, beq_iff_eq, Bool.not_eq_true', Bool.not_eq_false', ne_eq, Decidable.not_not] at g130
                                          exfalso; rw [bot_below (may_of g126).1] at g130; cases g130
                                          -- done
                                    · try simp only [bne_iff_ne, beq_iff_eq, Bool.not_eq_true', Bool.not_eq_false', ne_eq, Decidable.not_not] at g123
                                      exfalso; rw [below_is_join a b] at g123; revert g123; simp
                                      -- done
                                  · try simp only [bne_iff_ne, beq_iff_eq, Bool.not_eq_true', Bool.not_eq_false', ne_eq, Decidable.not_not] at g114
                                    exfalso; rw [show meetB a (joinB a b) = a from meet_join a b] at g114; revert g114; simp
                                    -- done
                                · try simp only [bne_iff_ne, beq_iff_eq, Bool.not_eq_true', Bool.not_eq_false', ne_eq, Decidable.not_not] at g107
                                  exfalso; rw [show joinB a (meetB a b) = a from join_meet a b] at g107; revert g107; simp
                                  -- done
                            · try simp only [bne_iff_ne, beq_iff_eq, Bool.not_eq_true', Bool.not_eq_false', ne_eq, Decidable.not_not] at g89
                              refine QK.off rfl rfl ?_
                              refine QK.off rfl rfl ?_
                              refine QK.off rfl rfl ?_
                              refine QK.off rfl rfl ?_
                              refine QK.off rfl rfl ?_
                              refine QK.nil ?_
                              change OL _ _ _ [_, _, _, _] _ _ _
                              refine OL.off rfl rfl ?_
                              refine OL.off rfl rfl ?_
                              refine OL.det rfl (Yields.pure rfl) ?_
                              refine OL.det trivial (Yields.pure rfl) ?_
                              refine OL.nil ?_
                              refine hK5 _ _ ?_
                              refine PW.keep (T' := [(3, _), (4, _), (7, _), (8, _), (98, _)]) ⟨rfl, rfl, rfl, rfl, rfl, trivial⟩ ?_
                              refine PW.ite (b := false) rfl ?_
                              rw [if_neg Bool.false_ne_true]
                              refine PW.skip ?_
                              refine hK4 _ _ ?_
                              refine PW.keep (T' := [(3, _), (4, _), (7, _), (8, _)]) ⟨rfl, rfl, rfl, rfl, trivial⟩ ?_
                              refine PW.seqOps ?_
                              refine OL.det trivial (Yields.ldA rfl rfl (lab_at (a := a) (by simp))) ?_
                              refine OL.call trivial rfl (check_b (a := a)) ?_
                              rintro _ _ ⟨rfl, rfl⟩
                              refine OL.det trivial (Yields.pure rfl) ?_
                              refine OL.det trivial (Yields.pure rfl) ?_
                              refine OL.nil ?_
                              refine PW.keep (T' := [(3, _), (4, _), (7, _), (8, _), (9, _)]) ⟨rfl, rfl, rfl, rfl, rfl, trivial⟩ ?_
                              refine PW.seq fun K7 hK7 => ?_
                              refine PW.quietK Tryd.mixed ?_
                              refine QK.det trivial (Yields.ldA rfl rfl (lab_at (a := a) (by simp))) ?_
                              refine QK.det trivial (Yields.ldA rfl rfl (lab_at (a := meetB a b) (by simp))) ?_
                              refine QK.call trivial rfl (join_b (a := a) (b := meetB a b)) ?_
                              refine QK.det trivial (Yields.ldA rfl rfl (lab_at (a := a) (by simp))) ?_
                              refine QK.det trivial (Yields.eqA rfl rfl (eq_lab (joinB (a) (meetB a b)) (a))) ?_
                              refine QK.bool trivial (Yields.pure rfl) (fun g107 => ?_) (fun g107 => ?_)
                              · try simp only [bne_iff_ne, beq_iff_eq, Bool.not_eq_true', Bool.not_eq_false', ne_eq, Decidable.not_not] at g107
                                refine QK.det rfl (Yields.ldA rfl rfl (lab_at (a := a) (by simp))) ?_
                                refine QK.det rfl (Yields.ldA rfl rfl (lab_at (a := joinB a b) (by simp))) ?_
                                refine QK.call rfl rfl (meet_b (a := a) (b := joinB a b)) ?_
                                refine QK.det rfl (Yields.ldA rfl rfl (lab_at (a := a) (by simp))) ?_
                                refine QK.det rfl (Yields.eqA rfl rfl (eq_lab (meetB (a) (joinB a b)) (a))) ?_
                                refine QK.det trivial (Yields.pure rfl) ?_
                                refine QK.bool trivial (Yields.pure rfl) (fun g114 => ?_) (fun g114 => ?_)
                                · try simp only [bne_iff_ne, beq_iff_eq, Bool.not_eq_true', Bool.not_eq_false', ne_eq, Decidable.not_not] at g114
                                  refine QK.det rfl (Yields.ldA rfl rfl (lab_at (a := a) (by simp))) ?_
                                  refine QK.det rfl (Yields.ldA rfl rfl (lab_at (a := b) (by simp))) ?_
                                  refine QK.call rfl rfl (below_b (a := a) (b := b)) ?_
                                  refine QK.det rfl (Yields.ldA rfl rfl (lab_at (a := joinB a b) (by simp))) ?_
                                  refine QK.det rfl (Yields.ldA rfl rfl (lab_at (a := b) (by simp))) ?_
                                  refine QK.det rfl (Yields.eqA rfl rfl (eq_lab (joinB a b) (b))) ?_
                                  refine QK.det rfl (Yields.pure rfl) ?_
                                  refine QK.det trivial (Yields.pure rfl) ?_
                                  refine QK.bool trivial (Yields.pure rfl) (fun g123 => ?_) (fun g123 => ?_)
                                  · try simp only [bne_iff_ne, beq_iff_eq, Bool.not_eq_true', Bool.not_eq_false', ne_eq, Decidable.not_not] at g123
                                    refine QK.det rfl (Yields.pure rfl) ?_
                                    refine QK.det rfl (Yields.pure rfl) ?_
                                    refine QK.bool rfl (Yields.pure rfl) (fun g126 => ?_) (fun g126 => ?_)
                                    · try simp only [bne_iff_ne, beq_iff_eq, Bool.not_eq_true', Bool.not_eq_false', ne_eq, Decidable.not_not] at g126
                                      refine QK.off rfl rfl ?_
                                      refine QK.off rfl rfl ?_
                                      refine QK.off rfl rfl ?_
                                      refine QK.off rfl rfl ?_
                                      refine QK.off rfl rfl ?_
                                      refine QK.off rfl rfl ?_
                                      refine QK.nil ?_
                                      change OL _ _ _ [_, _, _, _, _, _, _, _] _ _ _
                                      refine OL.off rfl rfl ?_
                                      refine OL.off rfl rfl ?_
                                      refine OL.det rfl (Yields.pure rfl) ?_
                                      refine OL.det trivial (Yields.pure rfl) ?_
                                      refine OL.det trivial (Yields.pure rfl) ?_
                                      refine OL.call rfl rfl (awake_fc hg) ?_
                                      rintro _ _ ⟨rfl, rfl⟩
                                      refine OL.det trivial (Yields.pure rfl) ?_
                                      refine OL.det trivial (Yields.pure rfl) ?_
                                      refine OL.nil ?_
                                      refine hK7 _ _ ?_
                                      refine PW.keep (T' := [(6, _)]) ⟨rfl, trivial⟩ ?_
                                      refine PW.ret ?_
                                      change (Exit.ret = Exit.normal ∨ Exit.ret = Exit.ret) ∧ ∃ v, resV _ _ = some v ∧ _
                                      exact ⟨.inr rfl, _, rfl, rfl⟩
                                    · try simp only [bne_iff_ne, beq_iff_eq, Bool.not_eq_true', Bool.not_eq_false', ne_eq, Decidable.not_not] at g126
                                      refine QK.det rfl (Yields.build rfl) ?_
                                      refine QK.det rfl (Yields.ldA rfl rfl (lab_at (a := a) (by simp))) ?_
                                      refine QK.call rfl rfl (below_b (a := botB) (b := a)) ?_
                                      refine QK.bool rfl (Yields.pure rfl) (fun g130 => ?_) (fun g130 => ?_)
                                      · try simp only [bne_iff_ne, beq_iff_eq, Bool.not_eq_true', Bool.not_eq_false', ne_eq, Decidable.not_not] at g130
                                        refine QK.det rfl (Yields.ldA rfl rfl (lab_at (a := a) (by simp))) ?_
                                        refine QK.call rfl rfl (top_b) ?_
                                        refine QK.nil ?_
                                        change OL _ _ _ [_, _, _, _, _, _, _, _] _ _ _
                                        refine OL.call rfl rfl (below_b (a := a) (b := topB)) ?_
                                        rintro _ _ ⟨rfl, rfl⟩
                                        refine OL.det rfl (Yields.pure rfl) ?_
                                        refine OL.det rfl (Yields.pure rfl) ?_
                                        refine OL.det trivial (Yields.pure rfl) ?_
                                        refine OL.bool trivial (Yields.pure rfl) (fun g137 => ?_) (fun g137 => ?_)
                                        · try simp only [bne_iff_ne, beq_iff_eq, Bool.not_eq_true', Bool.not_eq_false', ne_eq, Decidable.not_not] at g137
                                          refine OL.call rfl rfl (awake_fc hg) ?_
                                          rintro _ _ ⟨rfl, rfl⟩
                                          refine OL.det trivial (Yields.pure rfl) ?_
                                          refine OL.det trivial (Yields.pure rfl) ?_
                                          refine OL.nil ?_
                                          refine hK7 _ _ ?_
                                          refine PW.keep (T' := [(6, _)]) ⟨rfl, trivial⟩ ?_
                                          refine PW.ret ?_
                                          change (Exit.ret = Exit.normal ∨ Exit.ret = Exit.ret) ∧ ∃ v, resV _ _ = some v ∧ _
                                          exact ⟨.inr rfl, _, rfl, rfl⟩
                                        · try simp only [bne_iff_ne, beq_iff_eq, Bool.not_eq_true', Bool.not_eq_false', ne_eq, Decidable.not_not] at g137
                                          exfalso; rw [below_top (may_of g126).2] at g137; cases g137
                                          -- done
                                      · try simp only [bne_iff_ne, beq_iff_eq, Bool.not_eq_true', Bool.not_eq_false', ne_eq, Decidable.not_not] at g130
                                        exfalso; rw [bot_below (may_of g126).1] at g130; cases g130
                                        -- done
                                  · try simp only [bne_iff_ne, beq_iff_eq, Bool.not_eq_true', Bool.not_eq_false', ne_eq, Decidable.not_not] at g123
                                    exfalso; rw [below_is_join a b] at g123; revert g123; simp
                                    -- done
                                · try simp only [bne_iff_ne, beq_iff_eq, Bool.not_eq_true', Bool.not_eq_false', ne_eq, Decidable.not_not] at g114
                                  exfalso; rw [show meetB a (joinB a b) = a from meet_join a b] at g114; revert g114; simp
                                  -- done
                              · try simp only [bne_iff_ne, beq_iff_eq, Bool.not_eq_true', Bool.not_eq_false', ne_eq, Decidable.not_not] at g107
                                exfalso; rw [show joinB a (meetB a b) = a from join_meet a b] at g107; revert g107; simp
                                -- done
                        · try simp only [bne_iff_ne, beq_iff_eq, Bool.not_eq_true', Bool.not_eq_false', ne_eq, Decidable.not_not] at g76
                          refine QK.off rfl rfl ?_
                          refine QK.off rfl rfl ?_
                          refine QK.off rfl rfl ?_
                          refine QK.off rfl rfl ?_
                          refine QK.off rfl rfl ?_
                          refine QK.off rfl rfl ?_
                          refine QK.off rfl rfl ?_
                          refine QK.det trivial (Yields.pure rfl) ?_
                          refine QK.det trivial (Yields.pure rfl) ?_
                          refine QK.det rfl (Yields.ldA rfl rfl (lab_at (a := c) (by simp))) ?_
                          refine QK.det rfl (Yields.ldA rfl rfl (lab_at (a := a) (by simp))) ?_
                          refine QK.call rfl rfl (below_b (a := c) (b := a)) ?_
                          refine QK.bool rfl (Yields.pure rfl) (fun g89 => ?_) (fun g89 => ?_)
                          · try simp only [bne_iff_ne, beq_iff_eq, Bool.not_eq_true', Bool.not_eq_false', ne_eq, Decidable.not_not] at g89
                            refine QK.det rfl (Yields.ldA rfl rfl (lab_at (a := c) (by simp))) ?_
                            refine QK.det rfl (Yields.ldA rfl rfl (lab_at (a := b) (by simp))) ?_
                            refine QK.call rfl rfl (below_b (a := c) (b := b)) ?_
                            refine QK.det rfl (Yields.ldA rfl rfl (lab_at (a := c) (by simp))) ?_
                            refine QK.det rfl (Yields.ldA rfl rfl (lab_at (a := meetB a b) (by simp))) ?_
                            refine QK.nil ?_
                            change OL _ _ _ [_, _, _, _] _ _ _
                            refine OL.call rfl rfl (below_b (a := c) (b := meetB a b)) ?_
                            rintro _ _ ⟨rfl, rfl⟩
                            refine OL.det rfl (Yields.pure rfl) ?_
                            refine OL.det rfl (Yields.pure rfl) ?_
                            refine OL.det trivial (Yields.pure rfl) ?_
                            refine OL.nil ?_
                            refine hK5 _ _ ?_
                            refine PW.keep (T' := [(3, _), (4, _), (7, _), (8, _), (98, _)]) ⟨rfl, rfl, rfl, rfl, rfl, trivial⟩ ?_
                            refine PW.cond rfl (fun c98 => ?_) (fun c98 => ?_)
                            · try simp only [bne_iff_ne, beq_iff_eq, Bool.not_eq_true', Bool.not_eq_false', ne_eq, Decidable.not_not] at c98
                              exfalso; rw [meet_most g89, beq_self_eq_true] at c98; cases c98
                              -- done
                            · try simp only [bne_iff_ne, beq_iff_eq, Bool.not_eq_true', Bool.not_eq_false', ne_eq, Decidable.not_not] at c98
                              refine PW.skip ?_
                              refine hK4 _ _ ?_
                              refine PW.keep (T' := [(3, _), (4, _), (7, _), (8, _)]) ⟨rfl, rfl, rfl, rfl, trivial⟩ ?_
                              refine PW.seqOps ?_
                              refine OL.det trivial (Yields.ldA rfl rfl (lab_at (a := a) (by simp))) ?_
                              refine OL.call trivial rfl (check_b (a := a)) ?_
                              rintro _ _ ⟨rfl, rfl⟩
                              refine OL.det trivial (Yields.pure rfl) ?_
                              refine OL.det trivial (Yields.pure rfl) ?_
                              refine OL.nil ?_
                              refine PW.keep (T' := [(3, _), (4, _), (7, _), (8, _), (9, _)]) ⟨rfl, rfl, rfl, rfl, rfl, trivial⟩ ?_
                              refine PW.seq fun K8 hK8 => ?_
                              refine PW.quietK Tryd.mixed ?_
                              refine QK.det trivial (Yields.ldA rfl rfl (lab_at (a := a) (by simp))) ?_
                              refine QK.det trivial (Yields.ldA rfl rfl (lab_at (a := meetB a b) (by simp))) ?_
                              refine QK.call trivial rfl (join_b (a := a) (b := meetB a b)) ?_
                              refine QK.det trivial (Yields.ldA rfl rfl (lab_at (a := a) (by simp))) ?_
                              refine QK.det trivial (Yields.eqA rfl rfl (eq_lab (joinB (a) (meetB a b)) (a))) ?_
                              refine QK.bool trivial (Yields.pure rfl) (fun g107 => ?_) (fun g107 => ?_)
                              · try simp only [bne_iff_ne, beq_iff_eq, Bool.not_eq_true', Bool.not_eq_false', ne_eq, Decidable.not_not] at g107
                                refine QK.det rfl (Yields.ldA rfl rfl (lab_at (a := a) (by simp))) ?_
                                refine QK.det rfl (Yields.ldA rfl rfl (lab_at (a := joinB a b) (by simp))) ?_
                                refine QK.call rfl rfl (meet_b (a := a) (b := joinB a b)) ?_
                                refine QK.det rfl (Yields.ldA rfl rfl (lab_at (a := a) (by simp))) ?_
                                refine QK.det rfl (Yields.eqA rfl rfl (eq_lab (meetB (a) (joinB a b)) (a))) ?_
                                refine QK.det trivial (Yields.pure rfl) ?_
                                refine QK.bool trivial (Yields.pure rfl) (fun g114 => ?_) (fun g114 => ?_)
                                · try simp only [bne_iff_ne, beq_iff_eq, Bool.not_eq_true', Bool.not_eq_false', ne_eq, Decidable.not_not] at g114
                                  refine QK.det rfl (Yields.ldA rfl rfl (lab_at (a := a) (by simp))) ?_
                                  refine QK.det rfl (Yields.ldA rfl rfl (lab_at (a := b) (by simp))) ?_
                                  refine QK.call rfl rfl (below_b (a := a) (b := b)) ?_
                                  refine QK.det rfl (Yields.ldA rfl rfl (lab_at (a := joinB a b) (by simp))) ?_
                                  refine QK.det rfl (Yields.ldA rfl rfl (lab_at (a := b) (by simp))) ?_
                                  refine QK.det rfl (Yields.eqA rfl rfl (eq_lab (joinB a b) (b))) ?_
                                  refine QK.det rfl (Yields.pure rfl) ?_
                                  refine QK.det trivial (Yields.pure rfl) ?_
                                  refine QK.bool trivial (Yields.pure rfl) (fun g123 => ?_) (fun g123 => ?_)
                                  · try simp only [bne_iff_ne, beq_iff_eq, Bool.not_eq_true', Bool.not_eq_false', ne_eq, Decidable.not_not] at g123
                                    refine QK.det rfl (Yields.pure rfl) ?_
                                    refine QK.det rfl (Yields.pure rfl) ?_
                                    refine QK.bool rfl (Yields.pure rfl) (fun g126 => ?_) (fun g126 => ?_)
                                    · try simp only [bne_iff_ne, beq_iff_eq, Bool.not_eq_true', Bool.not_eq_false', ne_eq, Decidable.not_not] at g126
                                      refine QK.off rfl rfl ?_
                                      refine QK.off rfl rfl ?_
                                      refine QK.off rfl rfl ?_
                                      refine QK.off rfl rfl ?_
                                      refine QK.off rfl rfl ?_
                                      refine QK.off rfl rfl ?_
                                      refine QK.nil ?_
                                      change OL _ _ _ [_, _, _, _, _, _, _, _] _ _ _
                                      refine OL.off rfl rfl ?_
                                      refine OL.off rfl rfl ?_
                                      refine OL.det rfl (Yields.pure rfl) ?_
                                      refine OL.det trivial (Yields.pure rfl) ?_
                                      refine OL.det trivial (Yields.pure rfl) ?_
                                      refine OL.call rfl rfl (awake_fc hg) ?_
                                      rintro _ _ ⟨rfl, rfl⟩
                                      refine OL.det trivial (Yields.pure rfl) ?_
                                      refine OL.det trivial (Yields.pure rfl) ?_
                                      refine OL.nil ?_
                                      refine hK8 _ _ ?_
                                      refine PW.keep (T' := [(6, _)]) ⟨rfl, trivial⟩ ?_
                                      refine PW.ret ?_
                                      change (Exit.ret = Exit.normal ∨ Exit.ret = Exit.ret) ∧ ∃ v, resV _ _ = some v ∧ _
                                      exact ⟨.inr rfl, _, rfl, rfl⟩
                                    · try simp only [bne_iff_ne, beq_iff_eq, Bool.not_eq_true', Bool.not_eq_false', ne_eq, Decidable.not_not] at g126
                                      refine QK.det rfl (Yields.build rfl) ?_
                                      refine QK.det rfl (Yields.ldA rfl rfl (lab_at (a := a) (by simp))) ?_
                                      refine QK.call rfl rfl (below_b (a := botB) (b := a)) ?_
                                      refine QK.bool rfl (Yields.pure rfl) (fun g130 => ?_) (fun g130 => ?_)
                                      · try simp only [bne_iff_ne, beq_iff_eq, Bool.not_eq_true', Bool.not_eq_false', ne_eq, Decidable.not_not] at g130
                                        refine QK.det rfl (Yields.ldA rfl rfl (lab_at (a := a) (by simp))) ?_
                                        refine QK.call rfl rfl (top_b) ?_
                                        refine QK.nil ?_
                                        change OL _ _ _ [_, _, _, _, _, _, _, _] _ _ _
                                        refine OL.call rfl rfl (below_b (a := a) (b := topB)) ?_
                                        rintro _ _ ⟨rfl, rfl⟩
                                        refine OL.det rfl (Yields.pure rfl) ?_
                                        refine OL.det rfl (Yields.pure rfl) ?_
                                        refine OL.det trivial (Yields.pure rfl) ?_
                                        refine OL.bool trivial (Yields.pure rfl) (fun g137 => ?_) (fun g137 => ?_)
                                        · try simp only [bne_iff_ne, beq_iff_eq, Bool.not_eq_true', Bool.not_eq_false', ne_eq, Decidable.not_not] at g137
                                          refine OL.call rfl rfl (awake_fc hg) ?_
                                          rintro _ _ ⟨rfl, rfl⟩
                                          refine OL.det trivial (Yields.pure rfl) ?_
                                          refine OL.det trivial (Yields.pure rfl) ?_
                                          refine OL.nil ?_
                                          refine hK8 _ _ ?_
                                          refine PW.keep (T' := [(6, _)]) ⟨rfl, trivial⟩ ?_
                                          refine PW.ret ?_
                                          change (Exit.ret = Exit.normal ∨ Exit.ret = Exit.ret) ∧ ∃ v, resV _ _ = some v ∧ _
                                          exact ⟨.inr rfl, _, rfl, rfl⟩
                                        · try simp only [bne_iff_ne, beq_iff_eq, Bool.not_eq_true', Bool.not_eq_false', ne_eq, Decidable.not_not] at g137
                                          exfalso; rw [below_top (may_of g126).2] at g137; cases g137
                                          -- done
                                      · try simp only [bne_iff_ne, beq_iff_eq, Bool.not_eq_true', Bool.not_eq_false', ne_eq, Decidable.not_not] at g130
                                        exfalso; rw [bot_below (may_of g126).1] at g130; cases g130
                                        -- done
                                  · try simp only [bne_iff_ne, beq_iff_eq, Bool.not_eq_true', Bool.not_eq_false', ne_eq, Decidable.not_not] at g123
                                    exfalso; rw [below_is_join a b] at g123; revert g123; simp
                                    -- done
                                · try simp only [bne_iff_ne, beq_iff_eq, Bool.not_eq_true', Bool.not_eq_false', ne_eq, Decidable.not_not] at g114
                                  exfalso; rw [show meetB a (joinB a b) = a from meet_join a b] at g114; revert g114; simp
                                  -- done
                              · try simp only [bne_iff_ne, beq_iff_eq, Bool.not_eq_true', Bool.not_eq_false', ne_eq, Decidable.not_not] at g107
                                exfalso; rw [show joinB a (meetB a b) = a from join_meet a b] at g107; revert g107; simp
                                -- done
                          · try simp only [bne_iff_ne, beq_iff_eq, Bool.not_eq_true', Bool.not_eq_false', ne_eq, Decidable.not_not] at g89
                            refine QK.off rfl rfl ?_
                            refine QK.off rfl rfl ?_
                            refine QK.off rfl rfl ?_
                            refine QK.off rfl rfl ?_
                            refine QK.off rfl rfl ?_
                            refine QK.nil ?_
                            change OL _ _ _ [_, _, _, _] _ _ _
                            refine OL.off rfl rfl ?_
                            refine OL.off rfl rfl ?_
                            refine OL.det rfl (Yields.pure rfl) ?_
                            refine OL.det trivial (Yields.pure rfl) ?_
                            refine OL.nil ?_
                            refine hK5 _ _ ?_
                            refine PW.keep (T' := [(3, _), (4, _), (7, _), (8, _), (98, _)]) ⟨rfl, rfl, rfl, rfl, rfl, trivial⟩ ?_
                            refine PW.ite (b := false) rfl ?_
                            rw [if_neg Bool.false_ne_true]
                            refine PW.skip ?_
                            refine hK4 _ _ ?_
                            refine PW.keep (T' := [(3, _), (4, _), (7, _), (8, _)]) ⟨rfl, rfl, rfl, rfl, trivial⟩ ?_
                            refine PW.seqOps ?_
                            refine OL.det trivial (Yields.ldA rfl rfl (lab_at (a := a) (by simp))) ?_
                            refine OL.call trivial rfl (check_b (a := a)) ?_
                            rintro _ _ ⟨rfl, rfl⟩
                            refine OL.det trivial (Yields.pure rfl) ?_
                            refine OL.det trivial (Yields.pure rfl) ?_
                            refine OL.nil ?_
                            refine PW.keep (T' := [(3, _), (4, _), (7, _), (8, _), (9, _)]) ⟨rfl, rfl, rfl, rfl, rfl, trivial⟩ ?_
                            refine PW.seq fun K9 hK9 => ?_
                            refine PW.quietK Tryd.mixed ?_
                            refine QK.det trivial (Yields.ldA rfl rfl (lab_at (a := a) (by simp))) ?_
                            refine QK.det trivial (Yields.ldA rfl rfl (lab_at (a := meetB a b) (by simp))) ?_
                            refine QK.call trivial rfl (join_b (a := a) (b := meetB a b)) ?_
                            refine QK.det trivial (Yields.ldA rfl rfl (lab_at (a := a) (by simp))) ?_
                            refine QK.det trivial (Yields.eqA rfl rfl (eq_lab (joinB (a) (meetB a b)) (a))) ?_
                            refine QK.bool trivial (Yields.pure rfl) (fun g107 => ?_) (fun g107 => ?_)
                            · try simp only [bne_iff_ne, beq_iff_eq, Bool.not_eq_true', Bool.not_eq_false', ne_eq, Decidable.not_not] at g107
                              refine QK.det rfl (Yields.ldA rfl rfl (lab_at (a := a) (by simp))) ?_
                              refine QK.det rfl (Yields.ldA rfl rfl (lab_at (a := joinB a b) (by simp))) ?_
                              refine QK.call rfl rfl (meet_b (a := a) (b := joinB a b)) ?_
                              refine QK.det rfl (Yields.ldA rfl rfl (lab_at (a := a) (by simp))) ?_
                              refine QK.det rfl (Yields.eqA rfl rfl (eq_lab (meetB (a) (joinB a b)) (a))) ?_
                              refine QK.det trivial (Yields.pure rfl) ?_
                              refine QK.bool trivial (Yields.pure rfl) (fun g114 => ?_) (fun g114 => ?_)
                              · try simp only [bne_iff_ne, beq_iff_eq, Bool.not_eq_true', Bool.not_eq_false', ne_eq, Decidable.not_not] at g114
                                refine QK.det rfl (Yields.ldA rfl rfl (lab_at (a := a) (by simp))) ?_
                                refine QK.det rfl (Yields.ldA rfl rfl (lab_at (a := b) (by simp))) ?_
                                refine QK.call rfl rfl (below_b (a := a) (b := b)) ?_
                                refine QK.det rfl (Yields.ldA rfl rfl (lab_at (a := joinB a b) (by simp))) ?_
                                refine QK.det rfl (Yields.ldA rfl rfl (lab_at (a := b) (by simp))) ?_
                                refine QK.det rfl (Yields.eqA rfl rfl (eq_lab (joinB a b) (b))) ?_
                                refine QK.det rfl (Yields.pure rfl) ?_
                                refine QK.det trivial (Yields.pure rfl) ?_
                                refine QK.bool trivial (Yields.pure rfl) (fun g123 => ?_) (fun g123 => ?_)
                                · try simp only [bne_iff_ne, beq_iff_eq, Bool.not_eq_true', Bool.not_eq_false', ne_eq, Decidable.not_not] at g123
                                  refine QK.det rfl (Yields.pure rfl) ?_
                                  refine QK.det rfl (Yields.pure rfl) ?_
                                  refine QK.bool rfl (Yields.pure rfl) (fun g126 => ?_) (fun g126 => ?_)
                                  · try simp only [bne_iff_ne, beq_iff_eq, Bool.not_eq_true', Bool.not_eq_false', ne_eq, Decidable.not_not] at g126
                                    refine QK.off rfl rfl ?_
                                    refine QK.off rfl rfl ?_
                                    refine QK.off rfl rfl ?_
                                    refine QK.off rfl rfl ?_
                                    refine QK.off rfl rfl ?_
                                    refine QK.off rfl rfl ?_
                                    refine QK.nil ?_
                                    change OL _ _ _ [_, _, _, _, _, _, _, _] _ _ _
                                    refine OL.off rfl rfl ?_
                                    refine OL.off rfl rfl ?_
                                    refine OL.det rfl (Yields.pure rfl) ?_
                                    refine OL.det trivial (Yields.pure rfl) ?_
                                    refine OL.det trivial (Yields.pure rfl) ?_
                                    refine OL.call rfl rfl (awake_fc hg) ?_
                                    rintro _ _ ⟨rfl, rfl⟩
                                    refine OL.det trivial (Yields.pure rfl) ?_
                                    refine OL.det trivial (Yields.pure rfl) ?_
                                    refine OL.nil ?_
                                    refine hK9 _ _ ?_
                                    refine PW.keep (T' := [(6, _)]) ⟨rfl, trivial⟩ ?_
                                    refine PW.ret ?_
                                    change (Exit.ret = Exit.normal ∨ Exit.ret = Exit.ret) ∧ ∃ v, resV _ _ = some v ∧ _
                                    exact ⟨.inr rfl, _, rfl, rfl⟩
                                  · try simp only [bne_iff_ne, beq_iff_eq, Bool.not_eq_true', Bool.not_eq_false', ne_eq, Decidable.not_not] at g126
                                    refine QK.det rfl (Yields.build rfl) ?_
                                    refine QK.det rfl (Yields.ldA rfl rfl (lab_at (a := a) (by simp))) ?_
                                    refine QK.call rfl rfl (below_b (a := botB) (b := a)) ?_
                                    refine QK.bool rfl (Yields.pure rfl) (fun g130 => ?_) (fun g130 => ?_)
                                    · try simp only [bne_iff_ne, beq_iff_eq, Bool.not_eq_true', Bool.not_eq_false', ne_eq, Decidable.not_not] at g130
                                      refine QK.det rfl (Yields.ldA rfl rfl (lab_at (a := a) (by simp))) ?_
                                      refine QK.call rfl rfl (top_b) ?_
                                      refine QK.nil ?_
                                      change OL _ _ _ [_, _, _, _, _, _, _, _] _ _ _
                                      refine OL.call rfl rfl (below_b (a := a) (b := topB)) ?_
                                      rintro _ _ ⟨rfl, rfl⟩
                                      refine OL.det rfl (Yields.pure rfl) ?_
                                      refine OL.det rfl (Yields.pure rfl) ?_
                                      refine OL.det trivial (Yields.pure rfl) ?_
                                      refine OL.bool trivial (Yields.pure rfl) (fun g137 => ?_) (fun g137 => ?_)
                                      · try simp only [bne_iff_ne, beq_iff_eq, Bool.not_eq_true', Bool.not_eq_false', ne_eq, Decidable.not_not] at g137
                                        refine OL.call rfl rfl (awake_fc hg) ?_
                                        rintro _ _ ⟨rfl, rfl⟩
                                        refine OL.det trivial (Yields.pure rfl) ?_
                                        refine OL.det trivial (Yields.pure rfl) ?_
                                        refine OL.nil ?_
                                        refine hK9 _ _ ?_
                                        refine PW.keep (T' := [(6, _)]) ⟨rfl, trivial⟩ ?_
                                        refine PW.ret ?_
                                        change (Exit.ret = Exit.normal ∨ Exit.ret = Exit.ret) ∧ ∃ v, resV _ _ = some v ∧ _
                                        exact ⟨.inr rfl, _, rfl, rfl⟩
                                      · try simp only [bne_iff_ne, beq_iff_eq, Bool.not_eq_true', Bool.not_eq_false', ne_eq, Decidable.not_not] at g137
                                        exfalso; rw [below_top (may_of g126).2] at g137; cases g137
                                        -- done
                                    · try simp only [bne_iff_ne, beq_iff_eq, Bool.not_eq_true', Bool.not_eq_false', ne_eq, Decidable.not_not] at g130
                                      exfalso; rw [bot_below (may_of g126).1] at g130; cases g130
                                      -- done
                                · try simp only [bne_iff_ne, beq_iff_eq, Bool.not_eq_true', Bool.not_eq_false', ne_eq, Decidable.not_not] at g123
                                  exfalso; rw [below_is_join a b] at g123; revert g123; simp
                                  -- done
                              · try simp only [bne_iff_ne, beq_iff_eq, Bool.not_eq_true', Bool.not_eq_false', ne_eq, Decidable.not_not] at g114
                                exfalso; rw [show meetB a (joinB a b) = a from meet_join a b] at g114; revert g114; simp
                                -- done
                            · try simp only [bne_iff_ne, beq_iff_eq, Bool.not_eq_true', Bool.not_eq_false', ne_eq, Decidable.not_not] at g107
                              exfalso; rw [show joinB a (meetB a b) = a from join_meet a b] at g107; revert g107; simp
                              -- done
            · try simp only [bne_iff_ne, beq_iff_eq, Bool.not_eq_true', Bool.not_eq_false', ne_eq, Decidable.not_not] at g45
              refine OL.off rfl rfl ?_
              refine OL.off rfl rfl ?_
              refine OL.off rfl rfl ?_
              refine OL.det rfl (Yields.pure rfl) ?_
              refine OL.det trivial (Yields.pure rfl) ?_
              refine OL.nil ?_
              refine PW.keep (T' := [(3, _), (4, _), (5, _), (7, _), (8, _), (50, _)]) ⟨rfl, rfl, rfl, rfl, rfl, rfl, trivial⟩ ?_
              refine PW.ite (b := false) rfl ?_
              rw [if_neg Bool.false_ne_true]
              refine PW.skip ?_
              refine hK2 _ _ ?_
              refine PW.keep (T' := [(3, _), (4, _), (5, _), (7, _), (8, _)]) ⟨rfl, rfl, rfl, rfl, rfl, trivial⟩ ?_
              refine PW.seq fun K10 hK10 => ?_
              refine PW.seqOps ?_
              refine OL.det trivial (Yields.ldA rfl rfl (lab_at (a := a) (by simp))) ?_
              refine OL.det trivial (Yields.ldA rfl rfl (lab_at (a := joinB a b) (by simp))) ?_
              refine OL.call trivial rfl (below_b (a := a) (b := joinB a b)) ?_
              rintro _ _ ⟨rfl, rfl⟩
              refine OL.det trivial (Yields.pure rfl) ?_
              refine OL.bool trivial (Yields.pure rfl) (fun g55 => ?_) (fun g55 => ?_)
              · try simp only [bne_iff_ne, beq_iff_eq, Bool.not_eq_true', Bool.not_eq_false', ne_eq, Decidable.not_not] at g55
                exfalso; rw [below_join_l] at g55; revert g55; simp
                -- done
              · try simp only [bne_iff_ne, beq_iff_eq, Bool.not_eq_true', Bool.not_eq_false', ne_eq, Decidable.not_not] at g55
                refine OL.det rfl (Yields.ldA rfl rfl (lab_at (a := b) (by simp))) ?_
                refine OL.det rfl (Yields.ldA rfl rfl (lab_at (a := joinB a b) (by simp))) ?_
                refine OL.call rfl rfl (below_b (a := b) (b := joinB a b)) ?_
                rintro _ _ ⟨rfl, rfl⟩
                refine OL.det rfl (Yields.pure rfl) ?_
                refine OL.det trivial (Yields.pure rfl) ?_
                refine OL.bool trivial (Yields.pure rfl) (fun g61 => ?_) (fun g61 => ?_)
                · try simp only [bne_iff_ne, beq_iff_eq, Bool.not_eq_true', Bool.not_eq_false', ne_eq, Decidable.not_not] at g61
                  exfalso; rw [below_join_r] at g61; revert g61; simp
                  -- done
                · try simp only [bne_iff_ne, beq_iff_eq, Bool.not_eq_true', Bool.not_eq_false', ne_eq, Decidable.not_not] at g61
                  refine OL.det rfl (Yields.ldA rfl rfl (lab_at (a := meetB a b) (by simp))) ?_
                  refine OL.det rfl (Yields.ldA rfl rfl (lab_at (a := a) (by simp))) ?_
                  refine OL.call rfl rfl (below_b (a := meetB a b) (b := a)) ?_
                  rintro _ _ ⟨rfl, rfl⟩
                  refine OL.det rfl (Yields.pure rfl) ?_
                  refine OL.det trivial (Yields.pure rfl) ?_
                  refine OL.bool trivial (Yields.pure rfl) (fun g67 => ?_) (fun g67 => ?_)
                  · try simp only [bne_iff_ne, beq_iff_eq, Bool.not_eq_true', Bool.not_eq_false', ne_eq, Decidable.not_not] at g67
                    exfalso; rw [meet_below_l] at g67; revert g67; simp
                    -- done
                  · try simp only [bne_iff_ne, beq_iff_eq, Bool.not_eq_true', Bool.not_eq_false', ne_eq, Decidable.not_not] at g67
                    refine OL.det rfl (Yields.ldA rfl rfl (lab_at (a := meetB a b) (by simp))) ?_
                    refine OL.det rfl (Yields.ldA rfl rfl (lab_at (a := b) (by simp))) ?_
                    refine OL.call rfl rfl (below_b (a := meetB a b) (b := b)) ?_
                    rintro _ _ ⟨rfl, rfl⟩
                    refine OL.det rfl (Yields.pure rfl) ?_
                    refine OL.det trivial (Yields.pure rfl) ?_
                    refine OL.nil ?_
                    refine PW.keep (T' := [(3, _), (4, _), (5, _), (7, _), (8, _), (72, _)]) ⟨rfl, rfl, rfl, rfl, rfl, rfl, trivial⟩ ?_
                    refine PW.cond rfl (fun c72 => ?_) (fun c72 => ?_)
                    · try simp only [bne_iff_ne, beq_iff_eq, Bool.not_eq_true', Bool.not_eq_false', ne_eq, Decidable.not_not] at c72
                      exfalso; rw [meet_below_r] at c72; revert c72; simp
                      -- done
                    · try simp only [bne_iff_ne, beq_iff_eq, Bool.not_eq_true', Bool.not_eq_false', ne_eq, Decidable.not_not] at c72
                      refine PW.skip ?_
                      refine hK10 _ _ ?_
                      refine PW.keep (T' := [(3, _), (4, _), (5, _), (7, _), (8, _)]) ⟨rfl, rfl, rfl, rfl, rfl, trivial⟩ ?_
                      refine PW.seq fun K11 hK11 => ?_
                      refine PW.seq fun K12 hK12 => ?_
                      refine PW.quiet2QK Tryd.mixed ?_
                      refine QK.det trivial (Yields.ldA rfl rfl (lab_at (a := a) (by simp))) ?_
                      refine QK.det trivial (Yields.ldA rfl rfl (lab_at (a := c) (by simp))) ?_
                      refine QK.call trivial rfl (below_b (a := a) (b := c)) ?_
                      refine QK.bool trivial (Yields.pure rfl) (fun g76 => ?_) (fun g76 => ?_)
                      · try simp only [bne_iff_ne, beq_iff_eq, Bool.not_eq_true', Bool.not_eq_false', ne_eq, Decidable.not_not] at g76
                        refine QK.det rfl (Yields.ldA rfl rfl (lab_at (a := b) (by simp))) ?_
                        refine QK.det rfl (Yields.ldA rfl rfl (lab_at (a := c) (by simp))) ?_
                        refine QK.call rfl rfl (below_b (a := b) (b := c)) ?_
                        refine QK.det rfl (Yields.ldA rfl rfl (lab_at (a := joinB a b) (by simp))) ?_
                        refine QK.det rfl (Yields.ldA rfl rfl (lab_at (a := c) (by simp))) ?_
                        refine QK.call rfl rfl (below_b (a := joinB a b) (b := c)) ?_
                        refine QK.det rfl (Yields.pure rfl) ?_
                        refine QK.det trivial (Yields.pure rfl) ?_
                        refine QK.bool trivial (Yields.pure rfl) (fun g85 => ?_) (fun g85 => ?_)
                        · try simp only [bne_iff_ne, beq_iff_eq, Bool.not_eq_true', Bool.not_eq_false', ne_eq, Decidable.not_not] at g85
                          exfalso; rw [join_least g76, beq_self_eq_true] at g85; cases g85
                          -- done
                        · try simp only [bne_iff_ne, beq_iff_eq, Bool.not_eq_true', Bool.not_eq_false', ne_eq, Decidable.not_not] at g85
                          refine QK.det rfl (Yields.ldA rfl rfl (lab_at (a := c) (by simp))) ?_
                          refine QK.det rfl (Yields.ldA rfl rfl (lab_at (a := a) (by simp))) ?_
                          refine QK.call rfl rfl (below_b (a := c) (b := a)) ?_
                          refine QK.bool rfl (Yields.pure rfl) (fun g89 => ?_) (fun g89 => ?_)
                          · try simp only [bne_iff_ne, beq_iff_eq, Bool.not_eq_true', Bool.not_eq_false', ne_eq, Decidable.not_not] at g89
                            refine QK.det rfl (Yields.ldA rfl rfl (lab_at (a := c) (by simp))) ?_
                            refine QK.det rfl (Yields.ldA rfl rfl (lab_at (a := b) (by simp))) ?_
                            refine QK.call rfl rfl (below_b (a := c) (b := b)) ?_
                            refine QK.det rfl (Yields.ldA rfl rfl (lab_at (a := c) (by simp))) ?_
                            refine QK.det rfl (Yields.ldA rfl rfl (lab_at (a := meetB a b) (by simp))) ?_
                            refine QK.nil ?_
                            change OL _ _ _ [_, _, _, _] _ _ _
                            refine OL.call rfl rfl (below_b (a := c) (b := meetB a b)) ?_
                            rintro _ _ ⟨rfl, rfl⟩
                            refine OL.det rfl (Yields.pure rfl) ?_
                            refine OL.det rfl (Yields.pure rfl) ?_
                            refine OL.det trivial (Yields.pure rfl) ?_
                            refine OL.nil ?_
                            refine hK12 _ _ ?_
                            refine PW.keep (T' := [(3, _), (4, _), (7, _), (8, _), (98, _)]) ⟨rfl, rfl, rfl, rfl, rfl, trivial⟩ ?_
                            refine PW.cond rfl (fun c98 => ?_) (fun c98 => ?_)
                            · try simp only [bne_iff_ne, beq_iff_eq, Bool.not_eq_true', Bool.not_eq_false', ne_eq, Decidable.not_not] at c98
                              exfalso; rw [meet_most g89, beq_self_eq_true] at c98; cases c98
                              -- done
                            · try simp only [bne_iff_ne, beq_iff_eq, Bool.not_eq_true', Bool.not_eq_false', ne_eq, Decidable.not_not] at c98
                              refine PW.skip ?_
                              refine hK11 _ _ ?_
                              refine PW.keep (T' := [(3, _), (4, _), (7, _), (8, _)]) ⟨rfl, rfl, rfl, rfl, trivial⟩ ?_
                              refine PW.seqOps ?_
                              refine OL.det trivial (Yields.ldA rfl rfl (lab_at (a := a) (by simp))) ?_
                              refine OL.call trivial rfl (check_b (a := a)) ?_
                              rintro _ _ ⟨rfl, rfl⟩
                              refine OL.det trivial (Yields.pure rfl) ?_
                              refine OL.det trivial (Yields.pure rfl) ?_
                              refine OL.nil ?_
                              refine PW.keep (T' := [(3, _), (4, _), (7, _), (8, _), (9, _)]) ⟨rfl, rfl, rfl, rfl, rfl, trivial⟩ ?_
                              refine PW.seq fun K13 hK13 => ?_
                              refine PW.quietK Tryd.mixed ?_
                              refine QK.det trivial (Yields.ldA rfl rfl (lab_at (a := a) (by simp))) ?_
                              refine QK.det trivial (Yields.ldA rfl rfl (lab_at (a := meetB a b) (by simp))) ?_
                              refine QK.call trivial rfl (join_b (a := a) (b := meetB a b)) ?_
                              refine QK.det trivial (Yields.ldA rfl rfl (lab_at (a := a) (by simp))) ?_
                              refine QK.det trivial (Yields.eqA rfl rfl (eq_lab (joinB (a) (meetB a b)) (a))) ?_
                              refine QK.bool trivial (Yields.pure rfl) (fun g107 => ?_) (fun g107 => ?_)
                              · try simp only [bne_iff_ne, beq_iff_eq, Bool.not_eq_true', Bool.not_eq_false', ne_eq, Decidable.not_not] at g107
                                refine QK.det rfl (Yields.ldA rfl rfl (lab_at (a := a) (by simp))) ?_
                                refine QK.det rfl (Yields.ldA rfl rfl (lab_at (a := joinB a b) (by simp))) ?_
                                refine QK.call rfl rfl (meet_b (a := a) (b := joinB a b)) ?_
                                refine QK.det rfl (Yields.ldA rfl rfl (lab_at (a := a) (by simp))) ?_
                                refine QK.det rfl (Yields.eqA rfl rfl (eq_lab (meetB (a) (joinB a b)) (a))) ?_
                                refine QK.det trivial (Yields.pure rfl) ?_
                                refine QK.bool trivial (Yields.pure rfl) (fun g114 => ?_) (fun g114 => ?_)
                                · try simp only [bne_iff_ne, beq_iff_eq, Bool.not_eq_true', Bool.not_eq_false', ne_eq, Decidable.not_not] at g114
                                  refine QK.det rfl (Yields.ldA rfl rfl (lab_at (a := a) (by simp))) ?_
                                  refine QK.det rfl (Yields.ldA rfl rfl (lab_at (a := b) (by simp))) ?_
                                  refine QK.call rfl rfl (below_b (a := a) (b := b)) ?_
                                  refine QK.det rfl (Yields.ldA rfl rfl (lab_at (a := joinB a b) (by simp))) ?_
                                  refine QK.det rfl (Yields.ldA rfl rfl (lab_at (a := b) (by simp))) ?_
                                  refine QK.det rfl (Yields.eqA rfl rfl (eq_lab (joinB a b) (b))) ?_
                                  refine QK.det rfl (Yields.pure rfl) ?_
                                  refine QK.det trivial (Yields.pure rfl) ?_
                                  refine QK.bool trivial (Yields.pure rfl) (fun g123 => ?_) (fun g123 => ?_)
                                  · try simp only [bne_iff_ne, beq_iff_eq, Bool.not_eq_true', Bool.not_eq_false', ne_eq, Decidable.not_not] at g123
                                    refine QK.det rfl (Yields.pure rfl) ?_
                                    refine QK.det rfl (Yields.pure rfl) ?_
                                    refine QK.bool rfl (Yields.pure rfl) (fun g126 => ?_) (fun g126 => ?_)
                                    · try simp only [bne_iff_ne, beq_iff_eq, Bool.not_eq_true', Bool.not_eq_false', ne_eq, Decidable.not_not] at g126
                                      refine QK.off rfl rfl ?_
                                      refine QK.off rfl rfl ?_
                                      refine QK.off rfl rfl ?_
                                      refine QK.off rfl rfl ?_
                                      refine QK.off rfl rfl ?_
                                      refine QK.off rfl rfl ?_
                                      refine QK.nil ?_
                                      change OL _ _ _ [_, _, _, _, _, _, _, _] _ _ _
                                      refine OL.off rfl rfl ?_
                                      refine OL.off rfl rfl ?_
                                      refine OL.det rfl (Yields.pure rfl) ?_
                                      refine OL.det trivial (Yields.pure rfl) ?_
                                      refine OL.det trivial (Yields.pure rfl) ?_
                                      refine OL.call rfl rfl (awake_fc hg) ?_
                                      rintro _ _ ⟨rfl, rfl⟩
                                      refine OL.det trivial (Yields.pure rfl) ?_
                                      refine OL.det trivial (Yields.pure rfl) ?_
                                      refine OL.nil ?_
                                      refine hK13 _ _ ?_
                                      refine PW.keep (T' := [(6, _)]) ⟨rfl, trivial⟩ ?_
                                      refine PW.ret ?_
                                      change (Exit.ret = Exit.normal ∨ Exit.ret = Exit.ret) ∧ ∃ v, resV _ _ = some v ∧ _
                                      exact ⟨.inr rfl, _, rfl, rfl⟩
                                    · try simp only [bne_iff_ne, beq_iff_eq, Bool.not_eq_true', Bool.not_eq_false', ne_eq, Decidable.not_not] at g126
                                      refine QK.det rfl (Yields.build rfl) ?_
                                      refine QK.det rfl (Yields.ldA rfl rfl (lab_at (a := a) (by simp))) ?_
                                      refine QK.call rfl rfl (below_b (a := botB) (b := a)) ?_
                                      refine QK.bool rfl (Yields.pure rfl) (fun g130 => ?_) (fun g130 => ?_)
                                      · try simp only [bne_iff_ne, beq_iff_eq, Bool.not_eq_true', Bool.not_eq_false', ne_eq, Decidable.not_not] at g130
                                        refine QK.det rfl (Yields.ldA rfl rfl (lab_at (a := a) (by simp))) ?_
                                        refine QK.call rfl rfl (top_b) ?_
                                        refine QK.nil ?_
                                        change OL _ _ _ [_, _, _, _, _, _, _, _] _ _ _
                                        refine OL.call rfl rfl (below_b (a := a) (b := topB)) ?_
                                        rintro _ _ ⟨rfl, rfl⟩
                                        refine OL.det rfl (Yields.pure rfl) ?_
                                        refine OL.det rfl (Yields.pure rfl) ?_
                                        refine OL.det trivial (Yields.pure rfl) ?_
                                        refine OL.bool trivial (Yields.pure rfl) (fun g137 => ?_) (fun g137 => ?_)
                                        · try simp only [bne_iff_ne, beq_iff_eq, Bool.not_eq_true', Bool.not_eq_false', ne_eq, Decidable.not_not] at g137
                                          refine OL.call rfl rfl (awake_fc hg) ?_
                                          rintro _ _ ⟨rfl, rfl⟩
                                          refine OL.det trivial (Yields.pure rfl) ?_
                                          refine OL.det trivial (Yields.pure rfl) ?_
                                          refine OL.nil ?_
                                          refine hK13 _ _ ?_
                                          refine PW.keep (T' := [(6, _)]) ⟨rfl, trivial⟩ ?_
                                          refine PW.ret ?_
                                          change (Exit.ret = Exit.normal ∨ Exit.ret = Exit.ret) ∧ ∃ v, resV _ _ = some v ∧ _
                                          exact ⟨.inr rfl, _, rfl, rfl⟩
                                        · try simp only [bne_iff_ne, beq_iff_eq, Bool.not_eq_true', Bool.not_eq_false', ne_eq, Decidable.not_not] at g137
                                          exfalso; rw [below_top (may_of g126).2] at g137; cases g137
                                          -- done
                                      · try simp only [bne_iff_ne, beq_iff_eq, Bool.not_eq_true', Bool.not_eq_false', ne_eq, Decidable.not_not] at g130
                                        exfalso; rw [bot_below (may_of g126).1] at g130; cases g130
                                        -- done
                                  · try simp only [bne_iff_ne, beq_iff_eq, Bool.not_eq_true', Bool.not_eq_false', ne_eq, Decidable.not_not] at g123
                                    exfalso; rw [below_is_join a b] at g123; revert g123; simp
                                    -- done
                                · try simp only [bne_iff_ne, beq_iff_eq, Bool.not_eq_true', Bool.not_eq_false', ne_eq, Decidable.not_not] at g114
                                  exfalso; rw [show meetB a (joinB a b) = a from meet_join a b] at g114; revert g114; simp
                                  -- done
                              · try simp only [bne_iff_ne, beq_iff_eq, Bool.not_eq_true', Bool.not_eq_false', ne_eq, Decidable.not_not] at g107
                                exfalso; rw [show joinB a (meetB a b) = a from join_meet a b] at g107; revert g107; simp
                                -- done
                          · try simp only [bne_iff_ne, beq_iff_eq, Bool.not_eq_true', Bool.not_eq_false', ne_eq, Decidable.not_not] at g89
                            refine QK.off rfl rfl ?_
                            refine QK.off rfl rfl ?_
                            refine QK.off rfl rfl ?_
                            refine QK.off rfl rfl ?_
                            refine QK.off rfl rfl ?_
                            refine QK.nil ?_
                            change OL _ _ _ [_, _, _, _] _ _ _
                            refine OL.off rfl rfl ?_
                            refine OL.off rfl rfl ?_
                            refine OL.det rfl (Yields.pure rfl) ?_
                            refine OL.det trivial (Yields.pure rfl) ?_
                            refine OL.nil ?_
                            refine hK12 _ _ ?_
                            refine PW.keep (T' := [(3, _), (4, _), (7, _), (8, _), (98, _)]) ⟨rfl, rfl, rfl, rfl, rfl, trivial⟩ ?_
                            refine PW.ite (b := false) rfl ?_
                            rw [if_neg Bool.false_ne_true]
                            refine PW.skip ?_
                            refine hK11 _ _ ?_
                            refine PW.keep (T' := [(3, _), (4, _), (7, _), (8, _)]) ⟨rfl, rfl, rfl, rfl, trivial⟩ ?_
                            refine PW.seqOps ?_
                            refine OL.det trivial (Yields.ldA rfl rfl (lab_at (a := a) (by simp))) ?_
                            refine OL.call trivial rfl (check_b (a := a)) ?_
                            rintro _ _ ⟨rfl, rfl⟩
                            refine OL.det trivial (Yields.pure rfl) ?_
                            refine OL.det trivial (Yields.pure rfl) ?_
                            refine OL.nil ?_
                            refine PW.keep (T' := [(3, _), (4, _), (7, _), (8, _), (9, _)]) ⟨rfl, rfl, rfl, rfl, rfl, trivial⟩ ?_
                            refine PW.seq fun K14 hK14 => ?_
                            refine PW.quietK Tryd.mixed ?_
                            refine QK.det trivial (Yields.ldA rfl rfl (lab_at (a := a) (by simp))) ?_
                            refine QK.det trivial (Yields.ldA rfl rfl (lab_at (a := meetB a b) (by simp))) ?_
                            refine QK.call trivial rfl (join_b (a := a) (b := meetB a b)) ?_
                            refine QK.det trivial (Yields.ldA rfl rfl (lab_at (a := a) (by simp))) ?_
                            refine QK.det trivial (Yields.eqA rfl rfl (eq_lab (joinB (a) (meetB a b)) (a))) ?_
                            refine QK.bool trivial (Yields.pure rfl) (fun g107 => ?_) (fun g107 => ?_)
                            · try simp only [bne_iff_ne, beq_iff_eq, Bool.not_eq_true', Bool.not_eq_false', ne_eq, Decidable.not_not] at g107
                              refine QK.det rfl (Yields.ldA rfl rfl (lab_at (a := a) (by simp))) ?_
                              refine QK.det rfl (Yields.ldA rfl rfl (lab_at (a := joinB a b) (by simp))) ?_
                              refine QK.call rfl rfl (meet_b (a := a) (b := joinB a b)) ?_
                              refine QK.det rfl (Yields.ldA rfl rfl (lab_at (a := a) (by simp))) ?_
                              refine QK.det rfl (Yields.eqA rfl rfl (eq_lab (meetB (a) (joinB a b)) (a))) ?_
                              refine QK.det trivial (Yields.pure rfl) ?_
                              refine QK.bool trivial (Yields.pure rfl) (fun g114 => ?_) (fun g114 => ?_)
                              · try simp only [bne_iff_ne, beq_iff_eq, Bool.not_eq_true', Bool.not_eq_false', ne_eq, Decidable.not_not] at g114
                                refine QK.det rfl (Yields.ldA rfl rfl (lab_at (a := a) (by simp))) ?_
                                refine QK.det rfl (Yields.ldA rfl rfl (lab_at (a := b) (by simp))) ?_
                                refine QK.call rfl rfl (below_b (a := a) (b := b)) ?_
                                refine QK.det rfl (Yields.ldA rfl rfl (lab_at (a := joinB a b) (by simp))) ?_
                                refine QK.det rfl (Yields.ldA rfl rfl (lab_at (a := b) (by simp))) ?_
                                refine QK.det rfl (Yields.eqA rfl rfl (eq_lab (joinB a b) (b))) ?_
                                refine QK.det rfl (Yields.pure rfl) ?_
                                refine QK.det trivial (Yields.pure rfl) ?_
                                refine QK.bool trivial (Yields.pure rfl) (fun g123 => ?_) (fun g123 => ?_)
                                · try simp only [bne_iff_ne, beq_iff_eq, Bool.not_eq_true', Bool.not_eq_false', ne_eq, Decidable.not_not] at g123
                                  refine QK.det rfl (Yields.pure rfl) ?_
                                  refine QK.det rfl (Yields.pure rfl) ?_
                                  refine QK.bool rfl (Yields.pure rfl) (fun g126 => ?_) (fun g126 => ?_)
                                  · try simp only [bne_iff_ne, beq_iff_eq, Bool.not_eq_true', Bool.not_eq_false', ne_eq, Decidable.not_not] at g126
                                    refine QK.off rfl rfl ?_
                                    refine QK.off rfl rfl ?_
                                    refine QK.off rfl rfl ?_
                                    refine QK.off rfl rfl ?_
                                    refine QK.off rfl rfl ?_
                                    refine QK.off rfl rfl ?_
                                    refine QK.nil ?_
                                    change OL _ _ _ [_, _, _, _, _, _, _, _] _ _ _
                                    refine OL.off rfl rfl ?_
                                    refine OL.off rfl rfl ?_
                                    refine OL.det rfl (Yields.pure rfl) ?_
                                    refine OL.det trivial (Yields.pure rfl) ?_
                                    refine OL.det trivial (Yields.pure rfl) ?_
                                    refine OL.call rfl rfl (awake_fc hg) ?_
                                    rintro _ _ ⟨rfl, rfl⟩
                                    refine OL.det trivial (Yields.pure rfl) ?_
                                    refine OL.det trivial (Yields.pure rfl) ?_
                                    refine OL.nil ?_
                                    refine hK14 _ _ ?_
                                    refine PW.keep (T' := [(6, _)]) ⟨rfl, trivial⟩ ?_
                                    refine PW.ret ?_
                                    change (Exit.ret = Exit.normal ∨ Exit.ret = Exit.ret) ∧ ∃ v, resV _ _ = some v ∧ _
                                    exact ⟨.inr rfl, _, rfl, rfl⟩
                                  · try simp only [bne_iff_ne, beq_iff_eq, Bool.not_eq_true', Bool.not_eq_false', ne_eq, Decidable.not_not] at g126
                                    refine QK.det rfl (Yields.build rfl) ?_
                                    refine QK.det rfl (Yields.ldA rfl rfl (lab_at (a := a) (by simp))) ?_
                                    refine QK.call rfl rfl (below_b (a := botB) (b := a)) ?_
                                    refine QK.bool rfl (Yields.pure rfl) (fun g130 => ?_) (fun g130 => ?_)
                                    · try simp only [bne_iff_ne, beq_iff_eq, Bool.not_eq_true', Bool.not_eq_false', ne_eq, Decidable.not_not] at g130
                                      refine QK.det rfl (Yields.ldA rfl rfl (lab_at (a := a) (by simp))) ?_
                                      refine QK.call rfl rfl (top_b) ?_
                                      refine QK.nil ?_
                                      change OL _ _ _ [_, _, _, _, _, _, _, _] _ _ _
                                      refine OL.call rfl rfl (below_b (a := a) (b := topB)) ?_
                                      rintro _ _ ⟨rfl, rfl⟩
                                      refine OL.det rfl (Yields.pure rfl) ?_
                                      refine OL.det rfl (Yields.pure rfl) ?_
                                      refine OL.det trivial (Yields.pure rfl) ?_
                                      refine OL.bool trivial (Yields.pure rfl) (fun g137 => ?_) (fun g137 => ?_)
                                      · try simp only [bne_iff_ne, beq_iff_eq, Bool.not_eq_true', Bool.not_eq_false', ne_eq, Decidable.not_not] at g137
                                        refine OL.call rfl rfl (awake_fc hg) ?_
                                        rintro _ _ ⟨rfl, rfl⟩
                                        refine OL.det trivial (Yields.pure rfl) ?_
                                        refine OL.det trivial (Yields.pure rfl) ?_
                                        refine OL.nil ?_
                                        refine hK14 _ _ ?_
                                        refine PW.keep (T' := [(6, _)]) ⟨rfl, trivial⟩ ?_
                                        refine PW.ret ?_
                                        change (Exit.ret = Exit.normal ∨ Exit.ret = Exit.ret) ∧ ∃ v, resV _ _ = some v ∧ _
                                        exact ⟨.inr rfl, _, rfl, rfl⟩
                                      · try simp only [bne_iff_ne, beq_iff_eq, Bool.not_eq_true', Bool.not_eq_false', ne_eq, Decidable.not_not] at g137
                                        exfalso; rw [below_top (may_of g126).2] at g137; cases g137
                                        -- done
                                    · try simp only [bne_iff_ne, beq_iff_eq, Bool.not_eq_true', Bool.not_eq_false', ne_eq, Decidable.not_not] at g130
                                      exfalso; rw [bot_below (may_of g126).1] at g130; cases g130
                                      -- done
                                · try simp only [bne_iff_ne, beq_iff_eq, Bool.not_eq_true', Bool.not_eq_false', ne_eq, Decidable.not_not] at g123
                                  exfalso; rw [below_is_join a b] at g123; revert g123; simp
                                  -- done
                              · try simp only [bne_iff_ne, beq_iff_eq, Bool.not_eq_true', Bool.not_eq_false', ne_eq, Decidable.not_not] at g114
                                exfalso; rw [show meetB a (joinB a b) = a from meet_join a b] at g114; revert g114; simp
                                -- done
                            · try simp only [bne_iff_ne, beq_iff_eq, Bool.not_eq_true', Bool.not_eq_false', ne_eq, Decidable.not_not] at g107
                              exfalso; rw [show joinB a (meetB a b) = a from join_meet a b] at g107; revert g107; simp
                              -- done
                      · try simp only [bne_iff_ne, beq_iff_eq, Bool.not_eq_true', Bool.not_eq_false', ne_eq, Decidable.not_not] at g76
                        refine QK.off rfl rfl ?_
                        refine QK.off rfl rfl ?_
                        refine QK.off rfl rfl ?_
                        refine QK.off rfl rfl ?_
                        refine QK.off rfl rfl ?_
                        refine QK.off rfl rfl ?_
                        refine QK.off rfl rfl ?_
                        refine QK.det trivial (Yields.pure rfl) ?_
                        refine QK.det trivial (Yields.pure rfl) ?_
                        refine QK.det rfl (Yields.ldA rfl rfl (lab_at (a := c) (by simp))) ?_
                        refine QK.det rfl (Yields.ldA rfl rfl (lab_at (a := a) (by simp))) ?_
                        refine QK.call rfl rfl (below_b (a := c) (b := a)) ?_
                        refine QK.bool rfl (Yields.pure rfl) (fun g89 => ?_) (fun g89 => ?_)
                        · try simp only [bne_iff_ne, beq_iff_eq, Bool.not_eq_true', Bool.not_eq_false', ne_eq, Decidable.not_not] at g89
                          refine QK.det rfl (Yields.ldA rfl rfl (lab_at (a := c) (by simp))) ?_
                          refine QK.det rfl (Yields.ldA rfl rfl (lab_at (a := b) (by simp))) ?_
                          refine QK.call rfl rfl (below_b (a := c) (b := b)) ?_
                          refine QK.det rfl (Yields.ldA rfl rfl (lab_at (a := c) (by simp))) ?_
                          refine QK.det rfl (Yields.ldA rfl rfl (lab_at (a := meetB a b) (by simp))) ?_
                          refine QK.nil ?_
                          change OL _ _ _ [_, _, _, _] _ _ _
                          refine OL.call rfl rfl (below_b (a := c) (b := meetB a b)) ?_
                          rintro _ _ ⟨rfl, rfl⟩
                          refine OL.det rfl (Yields.pure rfl) ?_
                          refine OL.det rfl (Yields.pure rfl) ?_
                          refine OL.det trivial (Yields.pure rfl) ?_
                          refine OL.nil ?_
                          refine hK12 _ _ ?_
                          refine PW.keep (T' := [(3, _), (4, _), (7, _), (8, _), (98, _)]) ⟨rfl, rfl, rfl, rfl, rfl, trivial⟩ ?_
                          refine PW.cond rfl (fun c98 => ?_) (fun c98 => ?_)
                          · try simp only [bne_iff_ne, beq_iff_eq, Bool.not_eq_true', Bool.not_eq_false', ne_eq, Decidable.not_not] at c98
                            exfalso; rw [meet_most g89, beq_self_eq_true] at c98; cases c98
                            -- done
                          · try simp only [bne_iff_ne, beq_iff_eq, Bool.not_eq_true', Bool.not_eq_false', ne_eq, Decidable.not_not] at c98
                            refine PW.skip ?_
                            refine hK11 _ _ ?_
                            refine PW.keep (T' := [(3, _), (4, _), (7, _), (8, _)]) ⟨rfl, rfl, rfl, rfl, trivial⟩ ?_
                            refine PW.seqOps ?_
                            refine OL.det trivial (Yields.ldA rfl rfl (lab_at (a := a) (by simp))) ?_
                            refine OL.call trivial rfl (check_b (a := a)) ?_
                            rintro _ _ ⟨rfl, rfl⟩
                            refine OL.det trivial (Yields.pure rfl) ?_
                            refine OL.det trivial (Yields.pure rfl) ?_
                            refine OL.nil ?_
                            refine PW.keep (T' := [(3, _), (4, _), (7, _), (8, _), (9, _)]) ⟨rfl, rfl, rfl, rfl, rfl, trivial⟩ ?_
                            refine PW.seq fun K15 hK15 => ?_
                            refine PW.quietK Tryd.mixed ?_
                            refine QK.det trivial (Yields.ldA rfl rfl (lab_at (a := a) (by simp))) ?_
                            refine QK.det trivial (Yields.ldA rfl rfl (lab_at (a := meetB a b) (by simp))) ?_
                            refine QK.call trivial rfl (join_b (a := a) (b := meetB a b)) ?_
                            refine QK.det trivial (Yields.ldA rfl rfl (lab_at (a := a) (by simp))) ?_
                            refine QK.det trivial (Yields.eqA rfl rfl (eq_lab (joinB (a) (meetB a b)) (a))) ?_
                            refine QK.bool trivial (Yields.pure rfl) (fun g107 => ?_) (fun g107 => ?_)
                            · try simp only [bne_iff_ne, beq_iff_eq, Bool.not_eq_true', Bool.not_eq_false', ne_eq, Decidable.not_not] at g107
                              refine QK.det rfl (Yields.ldA rfl rfl (lab_at (a := a) (by simp))) ?_
                              refine QK.det rfl (Yields.ldA rfl rfl (lab_at (a := joinB a b) (by simp))) ?_
                              refine QK.call rfl rfl (meet_b (a := a) (b := joinB a b)) ?_
                              refine QK.det rfl (Yields.ldA rfl rfl (lab_at (a := a) (by simp))) ?_
                              refine QK.det rfl (Yields.eqA rfl rfl (eq_lab (meetB (a) (joinB a b)) (a))) ?_
                              refine QK.det trivial (Yields.pure rfl) ?_
                              refine QK.bool trivial (Yields.pure rfl) (fun g114 => ?_) (fun g114 => ?_)
                              · try simp only [bne_iff_ne, beq_iff_eq, Bool.not_eq_true', Bool.not_eq_false', ne_eq, Decidable.not_not] at g114
                                refine QK.det rfl (Yields.ldA rfl rfl (lab_at (a := a) (by simp))) ?_
                                refine QK.det rfl (Yields.ldA rfl rfl (lab_at (a := b) (by simp))) ?_
                                refine QK.call rfl rfl (below_b (a := a) (b := b)) ?_
                                refine QK.det rfl (Yields.ldA rfl rfl (lab_at (a := joinB a b) (by simp))) ?_
                                refine QK.det rfl (Yields.ldA rfl rfl (lab_at (a := b) (by simp))) ?_
                                refine QK.det rfl (Yields.eqA rfl rfl (eq_lab (joinB a b) (b))) ?_
                                refine QK.det rfl (Yields.pure rfl) ?_
                                refine QK.det trivial (Yields.pure rfl) ?_
                                refine QK.bool trivial (Yields.pure rfl) (fun g123 => ?_) (fun g123 => ?_)
                                · try simp only [bne_iff_ne, beq_iff_eq, Bool.not_eq_true', Bool.not_eq_false', ne_eq, Decidable.not_not] at g123
                                  refine QK.det rfl (Yields.pure rfl) ?_
                                  refine QK.det rfl (Yields.pure rfl) ?_
                                  refine QK.bool rfl (Yields.pure rfl) (fun g126 => ?_) (fun g126 => ?_)
                                  · try simp only [bne_iff_ne, beq_iff_eq, Bool.not_eq_true', Bool.not_eq_false', ne_eq, Decidable.not_not] at g126
                                    refine QK.off rfl rfl ?_
                                    refine QK.off rfl rfl ?_
                                    refine QK.off rfl rfl ?_
                                    refine QK.off rfl rfl ?_
                                    refine QK.off rfl rfl ?_
                                    refine QK.off rfl rfl ?_
                                    refine QK.nil ?_
                                    change OL _ _ _ [_, _, _, _, _, _, _, _] _ _ _
                                    refine OL.off rfl rfl ?_
                                    refine OL.off rfl rfl ?_
                                    refine OL.det rfl (Yields.pure rfl) ?_
                                    refine OL.det trivial (Yields.pure rfl) ?_
                                    refine OL.det trivial (Yields.pure rfl) ?_
                                    refine OL.call rfl rfl (awake_fc hg) ?_
                                    rintro _ _ ⟨rfl, rfl⟩
                                    refine OL.det trivial (Yields.pure rfl) ?_
                                    refine OL.det trivial (Yields.pure rfl) ?_
                                    refine OL.nil ?_
                                    refine hK15 _ _ ?_
                                    refine PW.keep (T' := [(6, _)]) ⟨rfl, trivial⟩ ?_
                                    refine PW.ret ?_
                                    change (Exit.ret = Exit.normal ∨ Exit.ret = Exit.ret) ∧ ∃ v, resV _ _ = some v ∧ _
                                    exact ⟨.inr rfl, _, rfl, rfl⟩
                                  · try simp only [bne_iff_ne, beq_iff_eq, Bool.not_eq_true', Bool.not_eq_false', ne_eq, Decidable.not_not] at g126
                                    refine QK.det rfl (Yields.build rfl) ?_
                                    refine QK.det rfl (Yields.ldA rfl rfl (lab_at (a := a) (by simp))) ?_
                                    refine QK.call rfl rfl (below_b (a := botB) (b := a)) ?_
                                    refine QK.bool rfl (Yields.pure rfl) (fun g130 => ?_) (fun g130 => ?_)
                                    · try simp only [bne_iff_ne, beq_iff_eq, Bool.not_eq_true', Bool.not_eq_false', ne_eq, Decidable.not_not] at g130
                                      refine QK.det rfl (Yields.ldA rfl rfl (lab_at (a := a) (by simp))) ?_
                                      refine QK.call rfl rfl (top_b) ?_
                                      refine QK.nil ?_
                                      change OL _ _ _ [_, _, _, _, _, _, _, _] _ _ _
                                      refine OL.call rfl rfl (below_b (a := a) (b := topB)) ?_
                                      rintro _ _ ⟨rfl, rfl⟩
                                      refine OL.det rfl (Yields.pure rfl) ?_
                                      refine OL.det rfl (Yields.pure rfl) ?_
                                      refine OL.det trivial (Yields.pure rfl) ?_
                                      refine OL.bool trivial (Yields.pure rfl) (fun g137 => ?_) (fun g137 => ?_)
                                      · try simp only [bne_iff_ne, beq_iff_eq, Bool.not_eq_true', Bool.not_eq_false', ne_eq, Decidable.not_not] at g137
                                        refine OL.call rfl rfl (awake_fc hg) ?_
                                        rintro _ _ ⟨rfl, rfl⟩
                                        refine OL.det trivial (Yields.pure rfl) ?_
                                        refine OL.det trivial (Yields.pure rfl) ?_
                                        refine OL.nil ?_
                                        refine hK15 _ _ ?_
                                        refine PW.keep (T' := [(6, _)]) ⟨rfl, trivial⟩ ?_
                                        refine PW.ret ?_
                                        change (Exit.ret = Exit.normal ∨ Exit.ret = Exit.ret) ∧ ∃ v, resV _ _ = some v ∧ _
                                        exact ⟨.inr rfl, _, rfl, rfl⟩
                                      · try simp only [bne_iff_ne, beq_iff_eq, Bool.not_eq_true', Bool.not_eq_false', ne_eq, Decidable.not_not] at g137
                                        exfalso; rw [below_top (may_of g126).2] at g137; cases g137
                                        -- done
                                    · try simp only [bne_iff_ne, beq_iff_eq, Bool.not_eq_true', Bool.not_eq_false', ne_eq, Decidable.not_not] at g130
                                      exfalso; rw [bot_below (may_of g126).1] at g130; cases g130
                                      -- done
                                · try simp only [bne_iff_ne, beq_iff_eq, Bool.not_eq_true', Bool.not_eq_false', ne_eq, Decidable.not_not] at g123
                                  exfalso; rw [below_is_join a b] at g123; revert g123; simp
                                  -- done
                              · try simp only [bne_iff_ne, beq_iff_eq, Bool.not_eq_true', Bool.not_eq_false', ne_eq, Decidable.not_not] at g114
                                exfalso; rw [show meetB a (joinB a b) = a from meet_join a b] at g114; revert g114; simp
                                -- done
                            · try simp only [bne_iff_ne, beq_iff_eq, Bool.not_eq_true', Bool.not_eq_false', ne_eq, Decidable.not_not] at g107
                              exfalso; rw [show joinB a (meetB a b) = a from join_meet a b] at g107; revert g107; simp
                              -- done
                        · try simp only [bne_iff_ne, beq_iff_eq, Bool.not_eq_true', Bool.not_eq_false', ne_eq, Decidable.not_not] at g89
                          refine QK.off rfl rfl ?_
                          refine QK.off rfl rfl ?_
                          refine QK.off rfl rfl ?_
                          refine QK.off rfl rfl ?_
                          refine QK.off rfl rfl ?_
                          refine QK.nil ?_
                          change OL _ _ _ [_, _, _, _] _ _ _
                          refine OL.off rfl rfl ?_
                          refine OL.off rfl rfl ?_
                          refine OL.det rfl (Yields.pure rfl) ?_
                          refine OL.det trivial (Yields.pure rfl) ?_
                          refine OL.nil ?_
                          refine hK12 _ _ ?_
                          refine PW.keep (T' := [(3, _), (4, _), (7, _), (8, _), (98, _)]) ⟨rfl, rfl, rfl, rfl, rfl, trivial⟩ ?_
                          refine PW.ite (b := false) rfl ?_
                          rw [if_neg Bool.false_ne_true]
                          refine PW.skip ?_
                          refine hK11 _ _ ?_
                          refine PW.keep (T' := [(3, _), (4, _), (7, _), (8, _)]) ⟨rfl, rfl, rfl, rfl, trivial⟩ ?_
                          refine PW.seqOps ?_
                          refine OL.det trivial (Yields.ldA rfl rfl (lab_at (a := a) (by simp))) ?_
                          refine OL.call trivial rfl (check_b (a := a)) ?_
                          rintro _ _ ⟨rfl, rfl⟩
                          refine OL.det trivial (Yields.pure rfl) ?_
                          refine OL.det trivial (Yields.pure rfl) ?_
                          refine OL.nil ?_
                          refine PW.keep (T' := [(3, _), (4, _), (7, _), (8, _), (9, _)]) ⟨rfl, rfl, rfl, rfl, rfl, trivial⟩ ?_
                          refine PW.seq fun K16 hK16 => ?_
                          refine PW.quietK Tryd.mixed ?_
                          refine QK.det trivial (Yields.ldA rfl rfl (lab_at (a := a) (by simp))) ?_
                          refine QK.det trivial (Yields.ldA rfl rfl (lab_at (a := meetB a b) (by simp))) ?_
                          refine QK.call trivial rfl (join_b (a := a) (b := meetB a b)) ?_
                          refine QK.det trivial (Yields.ldA rfl rfl (lab_at (a := a) (by simp))) ?_
                          refine QK.det trivial (Yields.eqA rfl rfl (eq_lab (joinB (a) (meetB a b)) (a))) ?_
                          refine QK.bool trivial (Yields.pure rfl) (fun g107 => ?_) (fun g107 => ?_)
                          · try simp only [bne_iff_ne, beq_iff_eq, Bool.not_eq_true', Bool.not_eq_false', ne_eq, Decidable.not_not] at g107
                            refine QK.det rfl (Yields.ldA rfl rfl (lab_at (a := a) (by simp))) ?_
                            refine QK.det rfl (Yields.ldA rfl rfl (lab_at (a := joinB a b) (by simp))) ?_
                            refine QK.call rfl rfl (meet_b (a := a) (b := joinB a b)) ?_
                            refine QK.det rfl (Yields.ldA rfl rfl (lab_at (a := a) (by simp))) ?_
                            refine QK.det rfl (Yields.eqA rfl rfl (eq_lab (meetB (a) (joinB a b)) (a))) ?_
                            refine QK.det trivial (Yields.pure rfl) ?_
                            refine QK.bool trivial (Yields.pure rfl) (fun g114 => ?_) (fun g114 => ?_)
                            · try simp only [bne_iff_ne, beq_iff_eq, Bool.not_eq_true', Bool.not_eq_false', ne_eq, Decidable.not_not] at g114
                              refine QK.det rfl (Yields.ldA rfl rfl (lab_at (a := a) (by simp))) ?_
                              refine QK.det rfl (Yields.ldA rfl rfl (lab_at (a := b) (by simp))) ?_
                              refine QK.call rfl rfl (below_b (a := a) (b := b)) ?_
                              refine QK.det rfl (Yields.ldA rfl rfl (lab_at (a := joinB a b) (by simp))) ?_
                              refine QK.det rfl (Yields.ldA rfl rfl (lab_at (a := b) (by simp))) ?_
                              refine QK.det rfl (Yields.eqA rfl rfl (eq_lab (joinB a b) (b))) ?_
                              refine QK.det rfl (Yields.pure rfl) ?_
                              refine QK.det trivial (Yields.pure rfl) ?_
                              refine QK.bool trivial (Yields.pure rfl) (fun g123 => ?_) (fun g123 => ?_)
                              · try simp only [bne_iff_ne, beq_iff_eq, Bool.not_eq_true', Bool.not_eq_false', ne_eq, Decidable.not_not] at g123
                                refine QK.det rfl (Yields.pure rfl) ?_
                                refine QK.det rfl (Yields.pure rfl) ?_
                                refine QK.bool rfl (Yields.pure rfl) (fun g126 => ?_) (fun g126 => ?_)
                                · try simp only [bne_iff_ne, beq_iff_eq, Bool.not_eq_true', Bool.not_eq_false', ne_eq, Decidable.not_not] at g126
                                  refine QK.off rfl rfl ?_
                                  refine QK.off rfl rfl ?_
                                  refine QK.off rfl rfl ?_
                                  refine QK.off rfl rfl ?_
                                  refine QK.off rfl rfl ?_
                                  refine QK.off rfl rfl ?_
                                  refine QK.nil ?_
                                  change OL _ _ _ [_, _, _, _, _, _, _, _] _ _ _
                                  refine OL.off rfl rfl ?_
                                  refine OL.off rfl rfl ?_
                                  refine OL.det rfl (Yields.pure rfl) ?_
                                  refine OL.det trivial (Yields.pure rfl) ?_
                                  refine OL.det trivial (Yields.pure rfl) ?_
                                  refine OL.call rfl rfl (awake_fc hg) ?_
                                  rintro _ _ ⟨rfl, rfl⟩
                                  refine OL.det trivial (Yields.pure rfl) ?_
                                  refine OL.det trivial (Yields.pure rfl) ?_
                                  refine OL.nil ?_
                                  refine hK16 _ _ ?_
                                  refine PW.keep (T' := [(6, _)]) ⟨rfl, trivial⟩ ?_
                                  refine PW.ret ?_
                                  change (Exit.ret = Exit.normal ∨ Exit.ret = Exit.ret) ∧ ∃ v, resV _ _ = some v ∧ _
                                  exact ⟨.inr rfl, _, rfl, rfl⟩
                                · try simp only [bne_iff_ne, beq_iff_eq, Bool.not_eq_true', Bool.not_eq_false', ne_eq, Decidable.not_not] at g126
                                  refine QK.det rfl (Yields.build rfl) ?_
                                  refine QK.det rfl (Yields.ldA rfl rfl (lab_at (a := a) (by simp))) ?_
                                  refine QK.call rfl rfl (below_b (a := botB) (b := a)) ?_
                                  refine QK.bool rfl (Yields.pure rfl) (fun g130 => ?_) (fun g130 => ?_)
                                  · try simp only [bne_iff_ne, beq_iff_eq, Bool.not_eq_true', Bool.not_eq_false', ne_eq, Decidable.not_not] at g130
                                    refine QK.det rfl (Yields.ldA rfl rfl (lab_at (a := a) (by simp))) ?_
                                    refine QK.call rfl rfl (top_b) ?_
                                    refine QK.nil ?_
                                    change OL _ _ _ [_, _, _, _, _, _, _, _] _ _ _
                                    refine OL.call rfl rfl (below_b (a := a) (b := topB)) ?_
                                    rintro _ _ ⟨rfl, rfl⟩
                                    refine OL.det rfl (Yields.pure rfl) ?_
                                    refine OL.det rfl (Yields.pure rfl) ?_
                                    refine OL.det trivial (Yields.pure rfl) ?_
                                    refine OL.bool trivial (Yields.pure rfl) (fun g137 => ?_) (fun g137 => ?_)
                                    · try simp only [bne_iff_ne, beq_iff_eq, Bool.not_eq_true', Bool.not_eq_false', ne_eq, Decidable.not_not] at g137
                                      refine OL.call rfl rfl (awake_fc hg) ?_
                                      rintro _ _ ⟨rfl, rfl⟩
                                      refine OL.det trivial (Yields.pure rfl) ?_
                                      refine OL.det trivial (Yields.pure rfl) ?_
                                      refine OL.nil ?_
                                      refine hK16 _ _ ?_
                                      refine PW.keep (T' := [(6, _)]) ⟨rfl, trivial⟩ ?_
                                      refine PW.ret ?_
                                      change (Exit.ret = Exit.normal ∨ Exit.ret = Exit.ret) ∧ ∃ v, resV _ _ = some v ∧ _
                                      exact ⟨.inr rfl, _, rfl, rfl⟩
                                    · try simp only [bne_iff_ne, beq_iff_eq, Bool.not_eq_true', Bool.not_eq_false', ne_eq, Decidable.not_not] at g137
                                      exfalso; rw [below_top (may_of g126).2] at g137; cases g137
                                      -- done
                                  · try simp only [bne_iff_ne, beq_iff_eq, Bool.not_eq_true', Bool.not_eq_false', ne_eq, Decidable.not_not] at g130
                                    exfalso; rw [bot_below (may_of g126).1] at g130; cases g130
                                    -- done
                              · try simp only [bne_iff_ne, beq_iff_eq, Bool.not_eq_true', Bool.not_eq_false', ne_eq, Decidable.not_not] at g123
                                exfalso; rw [below_is_join a b] at g123; revert g123; simp
                                -- done
                            · try simp only [bne_iff_ne, beq_iff_eq, Bool.not_eq_true', Bool.not_eq_false', ne_eq, Decidable.not_not] at g114
                              exfalso; rw [show meetB a (joinB a b) = a from meet_join a b] at g114; revert g114; simp
                              -- done
                          · try simp only [bne_iff_ne, beq_iff_eq, Bool.not_eq_true', Bool.not_eq_false', ne_eq, Decidable.not_not] at g107
                            exfalso; rw [show joinB a (meetB a b) = a from join_meet a b] at g107; revert g107; simp
                            -- done
          · exfalso; rw [g24] at g40; cases g40
      · try simp only [bne_iff_ne, beq_iff_eq, Bool.not_eq_true', Bool.not_eq_false', ne_eq, Decidable.not_not] at g29
        refine OL.off rfl rfl ?_
        refine OL.off rfl rfl ?_
        refine OL.off rfl rfl ?_
        refine OL.off rfl rfl ?_
        refine OL.det rfl (Yields.pure rfl) ?_
        refine OL.det trivial (Yields.pure rfl) ?_
        refine OL.det trivial (Yields.pure rfl) ?_
        refine OL.det rfl (Yields.ldA rfl rfl (lab_at (a := a) (by simp))) ?_
        refine OL.det rfl (Yields.ldA rfl rfl (lab_at (a := b) (by simp))) ?_
        refine OL.call rfl rfl (below_b (a := a) (b := b)) ?_
        rintro _ _ ⟨rfl, rfl⟩
        refine OL.bool rfl (Yields.pure rfl) (fun g40 => ?_) (fun g40 => ?_)
        · try simp only [bne_iff_ne, beq_iff_eq, Bool.not_eq_true', Bool.not_eq_false', ne_eq, Decidable.not_not] at g40
          refine OL.det rfl (Yields.ldA rfl rfl (lab_at (a := b) (by simp))) ?_
          refine OL.det rfl (Yields.ldA rfl rfl (lab_at (a := a) (by simp))) ?_
          refine OL.call rfl rfl (below_b (a := b) (b := a)) ?_
          rintro _ _ ⟨rfl, rfl⟩
          refine OL.det rfl (Yields.pure rfl) ?_
          refine OL.bool rfl (Yields.pure rfl) (fun g45 => ?_) (fun g45 => ?_)
          · try simp only [bne_iff_ne, beq_iff_eq, Bool.not_eq_true', Bool.not_eq_false', ne_eq, Decidable.not_not] at g45
            refine OL.det rfl (Yields.ldA rfl rfl (lab_at (a := a) (by simp))) ?_
            refine OL.det rfl (Yields.ldA rfl rfl (lab_at (a := b) (by simp))) ?_
            refine OL.det rfl (Yields.eqA rfl rfl (eq_lab (a) (b))) ?_
            refine OL.det rfl (Yields.pure rfl) ?_
            refine OL.det trivial (Yields.pure rfl) ?_
            refine OL.nil ?_
            refine PW.keep (T' := [(3, _), (4, _), (5, _), (7, _), (8, _), (50, _)]) ⟨rfl, rfl, rfl, rfl, rfl, rfl, trivial⟩ ?_
            refine PW.cond rfl (fun c50 => ?_) (fun c50 => ?_)
            · try simp only [bne_iff_ne, beq_iff_eq, Bool.not_eq_true', Bool.not_eq_false', ne_eq, Decidable.not_not] at c50
              exfalso; have e := below_anti g40 g45; revert c50; simp [e]
              -- done
            · try simp only [bne_iff_ne, beq_iff_eq, Bool.not_eq_true', Bool.not_eq_false', ne_eq, Decidable.not_not] at c50
              refine PW.skip ?_
              refine hK2 _ _ ?_
              refine PW.keep (T' := [(3, _), (4, _), (5, _), (7, _), (8, _)]) ⟨rfl, rfl, rfl, rfl, rfl, trivial⟩ ?_
              refine PW.seq fun K17 hK17 => ?_
              refine PW.seqOps ?_
              refine OL.det trivial (Yields.ldA rfl rfl (lab_at (a := a) (by simp))) ?_
              refine OL.det trivial (Yields.ldA rfl rfl (lab_at (a := joinB a b) (by simp))) ?_
              refine OL.call trivial rfl (below_b (a := a) (b := joinB a b)) ?_
              rintro _ _ ⟨rfl, rfl⟩
              refine OL.det trivial (Yields.pure rfl) ?_
              refine OL.bool trivial (Yields.pure rfl) (fun g55 => ?_) (fun g55 => ?_)
              · try simp only [bne_iff_ne, beq_iff_eq, Bool.not_eq_true', Bool.not_eq_false', ne_eq, Decidable.not_not] at g55
                exfalso; rw [below_join_l] at g55; revert g55; simp
                -- done
              · try simp only [bne_iff_ne, beq_iff_eq, Bool.not_eq_true', Bool.not_eq_false', ne_eq, Decidable.not_not] at g55
                refine OL.det rfl (Yields.ldA rfl rfl (lab_at (a := b) (by simp))) ?_
                refine OL.det rfl (Yields.ldA rfl rfl (lab_at (a := joinB a b) (by simp))) ?_
                refine OL.call rfl rfl (below_b (a := b) (b := joinB a b)) ?_
                rintro _ _ ⟨rfl, rfl⟩
                refine OL.det rfl (Yields.pure rfl) ?_
                refine OL.det trivial (Yields.pure rfl) ?_
                refine OL.bool trivial (Yields.pure rfl) (fun g61 => ?_) (fun g61 => ?_)
                · try simp only [bne_iff_ne, beq_iff_eq, Bool.not_eq_true', Bool.not_eq_false', ne_eq, Decidable.not_not] at g61
                  exfalso; rw [below_join_r] at g61; revert g61; simp
                  -- done
                · try simp only [bne_iff_ne, beq_iff_eq, Bool.not_eq_true', Bool.not_eq_false', ne_eq, Decidable.not_not] at g61
                  refine OL.det rfl (Yields.ldA rfl rfl (lab_at (a := meetB a b) (by simp))) ?_
                  refine OL.det rfl (Yields.ldA rfl rfl (lab_at (a := a) (by simp))) ?_
                  refine OL.call rfl rfl (below_b (a := meetB a b) (b := a)) ?_
                  rintro _ _ ⟨rfl, rfl⟩
                  refine OL.det rfl (Yields.pure rfl) ?_
                  refine OL.det trivial (Yields.pure rfl) ?_
                  refine OL.bool trivial (Yields.pure rfl) (fun g67 => ?_) (fun g67 => ?_)
                  · try simp only [bne_iff_ne, beq_iff_eq, Bool.not_eq_true', Bool.not_eq_false', ne_eq, Decidable.not_not] at g67
                    exfalso; rw [meet_below_l] at g67; revert g67; simp
                    -- done
                  · try simp only [bne_iff_ne, beq_iff_eq, Bool.not_eq_true', Bool.not_eq_false', ne_eq, Decidable.not_not] at g67
                    refine OL.det rfl (Yields.ldA rfl rfl (lab_at (a := meetB a b) (by simp))) ?_
                    refine OL.det rfl (Yields.ldA rfl rfl (lab_at (a := b) (by simp))) ?_
                    refine OL.call rfl rfl (below_b (a := meetB a b) (b := b)) ?_
                    rintro _ _ ⟨rfl, rfl⟩
                    refine OL.det rfl (Yields.pure rfl) ?_
                    refine OL.det trivial (Yields.pure rfl) ?_
                    refine OL.nil ?_
                    refine PW.keep (T' := [(3, _), (4, _), (5, _), (7, _), (8, _), (72, _)]) ⟨rfl, rfl, rfl, rfl, rfl, rfl, trivial⟩ ?_
                    refine PW.cond rfl (fun c72 => ?_) (fun c72 => ?_)
                    · try simp only [bne_iff_ne, beq_iff_eq, Bool.not_eq_true', Bool.not_eq_false', ne_eq, Decidable.not_not] at c72
                      exfalso; rw [meet_below_r] at c72; revert c72; simp
                      -- done
                    · try simp only [bne_iff_ne, beq_iff_eq, Bool.not_eq_true', Bool.not_eq_false', ne_eq, Decidable.not_not] at c72
                      refine PW.skip ?_
                      refine hK17 _ _ ?_
                      refine PW.keep (T' := [(3, _), (4, _), (5, _), (7, _), (8, _)]) ⟨rfl, rfl, rfl, rfl, rfl, trivial⟩ ?_
                      refine PW.seq fun K18 hK18 => ?_
                      refine PW.seq fun K19 hK19 => ?_
                      refine PW.quiet2QK Tryd.mixed ?_
                      refine QK.det trivial (Yields.ldA rfl rfl (lab_at (a := a) (by simp))) ?_
                      refine QK.det trivial (Yields.ldA rfl rfl (lab_at (a := c) (by simp))) ?_
                      refine QK.call trivial rfl (below_b (a := a) (b := c)) ?_
                      refine QK.bool trivial (Yields.pure rfl) (fun g76 => ?_) (fun g76 => ?_)
                      · try simp only [bne_iff_ne, beq_iff_eq, Bool.not_eq_true', Bool.not_eq_false', ne_eq, Decidable.not_not] at g76
                        refine QK.det rfl (Yields.ldA rfl rfl (lab_at (a := b) (by simp))) ?_
                        refine QK.det rfl (Yields.ldA rfl rfl (lab_at (a := c) (by simp))) ?_
                        refine QK.call rfl rfl (below_b (a := b) (b := c)) ?_
                        refine QK.det rfl (Yields.ldA rfl rfl (lab_at (a := joinB a b) (by simp))) ?_
                        refine QK.det rfl (Yields.ldA rfl rfl (lab_at (a := c) (by simp))) ?_
                        refine QK.call rfl rfl (below_b (a := joinB a b) (b := c)) ?_
                        refine QK.det rfl (Yields.pure rfl) ?_
                        refine QK.det trivial (Yields.pure rfl) ?_
                        refine QK.bool trivial (Yields.pure rfl) (fun g85 => ?_) (fun g85 => ?_)
                        · try simp only [bne_iff_ne, beq_iff_eq, Bool.not_eq_true', Bool.not_eq_false', ne_eq, Decidable.not_not] at g85
                          exfalso; rw [join_least g76, beq_self_eq_true] at g85; cases g85
                          -- done
                        · try simp only [bne_iff_ne, beq_iff_eq, Bool.not_eq_true', Bool.not_eq_false', ne_eq, Decidable.not_not] at g85
                          refine QK.det rfl (Yields.ldA rfl rfl (lab_at (a := c) (by simp))) ?_
                          refine QK.det rfl (Yields.ldA rfl rfl (lab_at (a := a) (by simp))) ?_
                          refine QK.call rfl rfl (below_b (a := c) (b := a)) ?_
                          refine QK.bool rfl (Yields.pure rfl) (fun g89 => ?_) (fun g89 => ?_)
                          · try simp only [bne_iff_ne, beq_iff_eq, Bool.not_eq_true', Bool.not_eq_false', ne_eq, Decidable.not_not] at g89
                            refine QK.det rfl (Yields.ldA rfl rfl (lab_at (a := c) (by simp))) ?_
                            refine QK.det rfl (Yields.ldA rfl rfl (lab_at (a := b) (by simp))) ?_
                            refine QK.call rfl rfl (below_b (a := c) (b := b)) ?_
                            refine QK.det rfl (Yields.ldA rfl rfl (lab_at (a := c) (by simp))) ?_
                            refine QK.det rfl (Yields.ldA rfl rfl (lab_at (a := meetB a b) (by simp))) ?_
                            refine QK.nil ?_
                            change OL _ _ _ [_, _, _, _] _ _ _
                            refine OL.call rfl rfl (below_b (a := c) (b := meetB a b)) ?_
                            rintro _ _ ⟨rfl, rfl⟩
                            refine OL.det rfl (Yields.pure rfl) ?_
                            refine OL.det rfl (Yields.pure rfl) ?_
                            refine OL.det trivial (Yields.pure rfl) ?_
                            refine OL.nil ?_
                            refine hK19 _ _ ?_
                            refine PW.keep (T' := [(3, _), (4, _), (7, _), (8, _), (98, _)]) ⟨rfl, rfl, rfl, rfl, rfl, trivial⟩ ?_
                            refine PW.cond rfl (fun c98 => ?_) (fun c98 => ?_)
                            · try simp only [bne_iff_ne, beq_iff_eq, Bool.not_eq_true', Bool.not_eq_false', ne_eq, Decidable.not_not] at c98
                              exfalso; rw [meet_most g89, beq_self_eq_true] at c98; cases c98
                              -- done
                            · try simp only [bne_iff_ne, beq_iff_eq, Bool.not_eq_true', Bool.not_eq_false', ne_eq, Decidable.not_not] at c98
                              refine PW.skip ?_
                              refine hK18 _ _ ?_
                              refine PW.keep (T' := [(3, _), (4, _), (7, _), (8, _)]) ⟨rfl, rfl, rfl, rfl, trivial⟩ ?_
                              refine PW.seqOps ?_
                              refine OL.det trivial (Yields.ldA rfl rfl (lab_at (a := a) (by simp))) ?_
                              refine OL.call trivial rfl (check_b (a := a)) ?_
                              rintro _ _ ⟨rfl, rfl⟩
                              refine OL.det trivial (Yields.pure rfl) ?_
                              refine OL.det trivial (Yields.pure rfl) ?_
                              refine OL.nil ?_
                              refine PW.keep (T' := [(3, _), (4, _), (7, _), (8, _), (9, _)]) ⟨rfl, rfl, rfl, rfl, rfl, trivial⟩ ?_
                              refine PW.seq fun K20 hK20 => ?_
                              refine PW.quietK Tryd.mixed ?_
                              refine QK.det trivial (Yields.ldA rfl rfl (lab_at (a := a) (by simp))) ?_
                              refine QK.det trivial (Yields.ldA rfl rfl (lab_at (a := meetB a b) (by simp))) ?_
                              refine QK.call trivial rfl (join_b (a := a) (b := meetB a b)) ?_
                              refine QK.det trivial (Yields.ldA rfl rfl (lab_at (a := a) (by simp))) ?_
                              refine QK.det trivial (Yields.eqA rfl rfl (eq_lab (joinB (a) (meetB a b)) (a))) ?_
                              refine QK.bool trivial (Yields.pure rfl) (fun g107 => ?_) (fun g107 => ?_)
                              · try simp only [bne_iff_ne, beq_iff_eq, Bool.not_eq_true', Bool.not_eq_false', ne_eq, Decidable.not_not] at g107
                                refine QK.det rfl (Yields.ldA rfl rfl (lab_at (a := a) (by simp))) ?_
                                refine QK.det rfl (Yields.ldA rfl rfl (lab_at (a := joinB a b) (by simp))) ?_
                                refine QK.call rfl rfl (meet_b (a := a) (b := joinB a b)) ?_
                                refine QK.det rfl (Yields.ldA rfl rfl (lab_at (a := a) (by simp))) ?_
                                refine QK.det rfl (Yields.eqA rfl rfl (eq_lab (meetB (a) (joinB a b)) (a))) ?_
                                refine QK.det trivial (Yields.pure rfl) ?_
                                refine QK.bool trivial (Yields.pure rfl) (fun g114 => ?_) (fun g114 => ?_)
                                · try simp only [bne_iff_ne, beq_iff_eq, Bool.not_eq_true', Bool.not_eq_false', ne_eq, Decidable.not_not] at g114
                                  refine QK.det rfl (Yields.ldA rfl rfl (lab_at (a := a) (by simp))) ?_
                                  refine QK.det rfl (Yields.ldA rfl rfl (lab_at (a := b) (by simp))) ?_
                                  refine QK.call rfl rfl (below_b (a := a) (b := b)) ?_
                                  refine QK.det rfl (Yields.ldA rfl rfl (lab_at (a := joinB a b) (by simp))) ?_
                                  refine QK.det rfl (Yields.ldA rfl rfl (lab_at (a := b) (by simp))) ?_
                                  refine QK.det rfl (Yields.eqA rfl rfl (eq_lab (joinB a b) (b))) ?_
                                  refine QK.det rfl (Yields.pure rfl) ?_
                                  refine QK.det trivial (Yields.pure rfl) ?_
                                  refine QK.bool trivial (Yields.pure rfl) (fun g123 => ?_) (fun g123 => ?_)
                                  · try simp only [bne_iff_ne, beq_iff_eq, Bool.not_eq_true', Bool.not_eq_false', ne_eq, Decidable.not_not] at g123
                                    refine QK.det rfl (Yields.pure rfl) ?_
                                    refine QK.det rfl (Yields.pure rfl) ?_
                                    refine QK.bool rfl (Yields.pure rfl) (fun g126 => ?_) (fun g126 => ?_)
                                    · try simp only [bne_iff_ne, beq_iff_eq, Bool.not_eq_true', Bool.not_eq_false', ne_eq, Decidable.not_not] at g126
                                      refine QK.off rfl rfl ?_
                                      refine QK.off rfl rfl ?_
                                      refine QK.off rfl rfl ?_
                                      refine QK.off rfl rfl ?_
                                      refine QK.off rfl rfl ?_
                                      refine QK.off rfl rfl ?_
                                      refine QK.nil ?_
                                      change OL _ _ _ [_, _, _, _, _, _, _, _] _ _ _
                                      refine OL.off rfl rfl ?_
                                      refine OL.off rfl rfl ?_
                                      refine OL.det rfl (Yields.pure rfl) ?_
                                      refine OL.det trivial (Yields.pure rfl) ?_
                                      refine OL.det trivial (Yields.pure rfl) ?_
                                      refine OL.call rfl rfl (awake_fc hg) ?_
                                      rintro _ _ ⟨rfl, rfl⟩
                                      refine OL.det trivial (Yields.pure rfl) ?_
                                      refine OL.det trivial (Yields.pure rfl) ?_
                                      refine OL.nil ?_
                                      refine hK20 _ _ ?_
                                      refine PW.keep (T' := [(6, _)]) ⟨rfl, trivial⟩ ?_
                                      refine PW.ret ?_
                                      change (Exit.ret = Exit.normal ∨ Exit.ret = Exit.ret) ∧ ∃ v, resV _ _ = some v ∧ _
                                      exact ⟨.inr rfl, _, rfl, rfl⟩
                                    · try simp only [bne_iff_ne, beq_iff_eq, Bool.not_eq_true', Bool.not_eq_false', ne_eq, Decidable.not_not] at g126
                                      refine QK.det rfl (Yields.build rfl) ?_
                                      refine QK.det rfl (Yields.ldA rfl rfl (lab_at (a := a) (by simp))) ?_
                                      refine QK.call rfl rfl (below_b (a := botB) (b := a)) ?_
                                      refine QK.bool rfl (Yields.pure rfl) (fun g130 => ?_) (fun g130 => ?_)
                                      · try simp only [bne_iff_ne, beq_iff_eq, Bool.not_eq_true', Bool.not_eq_false', ne_eq, Decidable.not_not] at g130
                                        refine QK.det rfl (Yields.ldA rfl rfl (lab_at (a := a) (by simp))) ?_
                                        refine QK.call rfl rfl (top_b) ?_
                                        refine QK.nil ?_
                                        change OL _ _ _ [_, _, _, _, _, _, _, _] _ _ _
                                        refine OL.call rfl rfl (below_b (a := a) (b := topB)) ?_
                                        rintro _ _ ⟨rfl, rfl⟩
                                        refine OL.det rfl (Yields.pure rfl) ?_
                                        refine OL.det rfl (Yields.pure rfl) ?_
                                        refine OL.det trivial (Yields.pure rfl) ?_
                                        refine OL.bool trivial (Yields.pure rfl) (fun g137 => ?_) (fun g137 => ?_)
                                        · try simp only [bne_iff_ne, beq_iff_eq, Bool.not_eq_true', Bool.not_eq_false', ne_eq, Decidable.not_not] at g137
                                          refine OL.call rfl rfl (awake_fc hg) ?_
                                          rintro _ _ ⟨rfl, rfl⟩
                                          refine OL.det trivial (Yields.pure rfl) ?_
                                          refine OL.det trivial (Yields.pure rfl) ?_
                                          refine OL.nil ?_
                                          refine hK20 _ _ ?_
                                          refine PW.keep (T' := [(6, _)]) ⟨rfl, trivial⟩ ?_
                                          refine PW.ret ?_
                                          change (Exit.ret = Exit.normal ∨ Exit.ret = Exit.ret) ∧ ∃ v, resV _ _ = some v ∧ _
                                          exact ⟨.inr rfl, _, rfl, rfl⟩
                                        · try simp only [bne_iff_ne, beq_iff_eq, Bool.not_eq_true', Bool.not_eq_false', ne_eq, Decidable.not_not] at g137
                                          exfalso; rw [below_top (may_of g126).2] at g137; cases g137
                                          -- done
                                      · try simp only [bne_iff_ne, beq_iff_eq, Bool.not_eq_true', Bool.not_eq_false', ne_eq, Decidable.not_not] at g130
                                        exfalso; rw [bot_below (may_of g126).1] at g130; cases g130
                                        -- done
                                  · try simp only [bne_iff_ne, beq_iff_eq, Bool.not_eq_true', Bool.not_eq_false', ne_eq, Decidable.not_not] at g123
                                    exfalso; rw [below_is_join a b] at g123; revert g123; simp
                                    -- done
                                · try simp only [bne_iff_ne, beq_iff_eq, Bool.not_eq_true', Bool.not_eq_false', ne_eq, Decidable.not_not] at g114
                                  exfalso; rw [show meetB a (joinB a b) = a from meet_join a b] at g114; revert g114; simp
                                  -- done
                              · try simp only [bne_iff_ne, beq_iff_eq, Bool.not_eq_true', Bool.not_eq_false', ne_eq, Decidable.not_not] at g107
                                exfalso; rw [show joinB a (meetB a b) = a from join_meet a b] at g107; revert g107; simp
                                -- done
                          · try simp only [bne_iff_ne, beq_iff_eq, Bool.not_eq_true', Bool.not_eq_false', ne_eq, Decidable.not_not] at g89
                            refine QK.off rfl rfl ?_
                            refine QK.off rfl rfl ?_
                            refine QK.off rfl rfl ?_
                            refine QK.off rfl rfl ?_
                            refine QK.off rfl rfl ?_
                            refine QK.nil ?_
                            change OL _ _ _ [_, _, _, _] _ _ _
                            refine OL.off rfl rfl ?_
                            refine OL.off rfl rfl ?_
                            refine OL.det rfl (Yields.pure rfl) ?_
                            refine OL.det trivial (Yields.pure rfl) ?_
                            refine OL.nil ?_
                            refine hK19 _ _ ?_
                            refine PW.keep (T' := [(3, _), (4, _), (7, _), (8, _), (98, _)]) ⟨rfl, rfl, rfl, rfl, rfl, trivial⟩ ?_
                            refine PW.ite (b := false) rfl ?_
                            rw [if_neg Bool.false_ne_true]
                            refine PW.skip ?_
                            refine hK18 _ _ ?_
                            refine PW.keep (T' := [(3, _), (4, _), (7, _), (8, _)]) ⟨rfl, rfl, rfl, rfl, trivial⟩ ?_
                            refine PW.seqOps ?_
                            refine OL.det trivial (Yields.ldA rfl rfl (lab_at (a := a) (by simp))) ?_
                            refine OL.call trivial rfl (check_b (a := a)) ?_
                            rintro _ _ ⟨rfl, rfl⟩
                            refine OL.det trivial (Yields.pure rfl) ?_
                            refine OL.det trivial (Yields.pure rfl) ?_
                            refine OL.nil ?_
                            refine PW.keep (T' := [(3, _), (4, _), (7, _), (8, _), (9, _)]) ⟨rfl, rfl, rfl, rfl, rfl, trivial⟩ ?_
                            refine PW.seq fun K21 hK21 => ?_
                            refine PW.quietK Tryd.mixed ?_
                            refine QK.det trivial (Yields.ldA rfl rfl (lab_at (a := a) (by simp))) ?_
                            refine QK.det trivial (Yields.ldA rfl rfl (lab_at (a := meetB a b) (by simp))) ?_
                            refine QK.call trivial rfl (join_b (a := a) (b := meetB a b)) ?_
                            refine QK.det trivial (Yields.ldA rfl rfl (lab_at (a := a) (by simp))) ?_
                            refine QK.det trivial (Yields.eqA rfl rfl (eq_lab (joinB (a) (meetB a b)) (a))) ?_
                            refine QK.bool trivial (Yields.pure rfl) (fun g107 => ?_) (fun g107 => ?_)
                            · try simp only [bne_iff_ne, beq_iff_eq, Bool.not_eq_true', Bool.not_eq_false', ne_eq, Decidable.not_not] at g107
                              refine QK.det rfl (Yields.ldA rfl rfl (lab_at (a := a) (by simp))) ?_
                              refine QK.det rfl (Yields.ldA rfl rfl (lab_at (a := joinB a b) (by simp))) ?_
                              refine QK.call rfl rfl (meet_b (a := a) (b := joinB a b)) ?_
                              refine QK.det rfl (Yields.ldA rfl rfl (lab_at (a := a) (by simp))) ?_
                              refine QK.det rfl (Yields.eqA rfl rfl (eq_lab (meetB (a) (joinB a b)) (a))) ?_
                              refine QK.det trivial (Yields.pure rfl) ?_
                              refine QK.bool trivial (Yields.pure rfl) (fun g114 => ?_) (fun g114 => ?_)
                              · try simp only [bne_iff_ne, beq_iff_eq, Bool.not_eq_true', Bool.not_eq_false', ne_eq, Decidable.not_not] at g114
                                refine QK.det rfl (Yields.ldA rfl rfl (lab_at (a := a) (by simp))) ?_
                                refine QK.det rfl (Yields.ldA rfl rfl (lab_at (a := b) (by simp))) ?_
                                refine QK.call rfl rfl (below_b (a := a) (b := b)) ?_
                                refine QK.det rfl (Yields.ldA rfl rfl (lab_at (a := joinB a b) (by simp))) ?_
                                refine QK.det rfl (Yields.ldA rfl rfl (lab_at (a := b) (by simp))) ?_
                                refine QK.det rfl (Yields.eqA rfl rfl (eq_lab (joinB a b) (b))) ?_
                                refine QK.det rfl (Yields.pure rfl) ?_
                                refine QK.det trivial (Yields.pure rfl) ?_
                                refine QK.bool trivial (Yields.pure rfl) (fun g123 => ?_) (fun g123 => ?_)
                                · try simp only [bne_iff_ne, beq_iff_eq, Bool.not_eq_true', Bool.not_eq_false', ne_eq, Decidable.not_not] at g123
                                  refine QK.det rfl (Yields.pure rfl) ?_
                                  refine QK.det rfl (Yields.pure rfl) ?_
                                  refine QK.bool rfl (Yields.pure rfl) (fun g126 => ?_) (fun g126 => ?_)
                                  · try simp only [bne_iff_ne, beq_iff_eq, Bool.not_eq_true', Bool.not_eq_false', ne_eq, Decidable.not_not] at g126
                                    refine QK.off rfl rfl ?_
                                    refine QK.off rfl rfl ?_
                                    refine QK.off rfl rfl ?_
                                    refine QK.off rfl rfl ?_
                                    refine QK.off rfl rfl ?_
                                    refine QK.off rfl rfl ?_
                                    refine QK.nil ?_
                                    change OL _ _ _ [_, _, _, _, _, _, _, _] _ _ _
                                    refine OL.off rfl rfl ?_
                                    refine OL.off rfl rfl ?_
                                    refine OL.det rfl (Yields.pure rfl) ?_
                                    refine OL.det trivial (Yields.pure rfl) ?_
                                    refine OL.det trivial (Yields.pure rfl) ?_
                                    refine OL.call rfl rfl (awake_fc hg) ?_
                                    rintro _ _ ⟨rfl, rfl⟩
                                    refine OL.det trivial (Yields.pure rfl) ?_
                                    refine OL.det trivial (Yields.pure rfl) ?_
                                    refine OL.nil ?_
                                    refine hK21 _ _ ?_
                                    refine PW.keep (T' := [(6, _)]) ⟨rfl, trivial⟩ ?_
                                    refine PW.ret ?_
                                    change (Exit.ret = Exit.normal ∨ Exit.ret = Exit.ret) ∧ ∃ v, resV _ _ = some v ∧ _
                                    exact ⟨.inr rfl, _, rfl, rfl⟩
                                  · try simp only [bne_iff_ne, beq_iff_eq, Bool.not_eq_true', Bool.not_eq_false', ne_eq, Decidable.not_not] at g126
                                    refine QK.det rfl (Yields.build rfl) ?_
                                    refine QK.det rfl (Yields.ldA rfl rfl (lab_at (a := a) (by simp))) ?_
                                    refine QK.call rfl rfl (below_b (a := botB) (b := a)) ?_
                                    refine QK.bool rfl (Yields.pure rfl) (fun g130 => ?_) (fun g130 => ?_)
                                    · try simp only [bne_iff_ne, beq_iff_eq, Bool.not_eq_true', Bool.not_eq_false', ne_eq, Decidable.not_not] at g130
                                      refine QK.det rfl (Yields.ldA rfl rfl (lab_at (a := a) (by simp))) ?_
                                      refine QK.call rfl rfl (top_b) ?_
                                      refine QK.nil ?_
                                      change OL _ _ _ [_, _, _, _, _, _, _, _] _ _ _
                                      refine OL.call rfl rfl (below_b (a := a) (b := topB)) ?_
                                      rintro _ _ ⟨rfl, rfl⟩
                                      refine OL.det rfl (Yields.pure rfl) ?_
                                      refine OL.det rfl (Yields.pure rfl) ?_
                                      refine OL.det trivial (Yields.pure rfl) ?_
                                      refine OL.bool trivial (Yields.pure rfl) (fun g137 => ?_) (fun g137 => ?_)
                                      · try simp only [bne_iff_ne, beq_iff_eq, Bool.not_eq_true', Bool.not_eq_false', ne_eq, Decidable.not_not] at g137
                                        refine OL.call rfl rfl (awake_fc hg) ?_
                                        rintro _ _ ⟨rfl, rfl⟩
                                        refine OL.det trivial (Yields.pure rfl) ?_
                                        refine OL.det trivial (Yields.pure rfl) ?_
                                        refine OL.nil ?_
                                        refine hK21 _ _ ?_
                                        refine PW.keep (T' := [(6, _)]) ⟨rfl, trivial⟩ ?_
                                        refine PW.ret ?_
                                        change (Exit.ret = Exit.normal ∨ Exit.ret = Exit.ret) ∧ ∃ v, resV _ _ = some v ∧ _
                                        exact ⟨.inr rfl, _, rfl, rfl⟩
                                      · try simp only [bne_iff_ne, beq_iff_eq, Bool.not_eq_true', Bool.not_eq_false', ne_eq, Decidable.not_not] at g137
                                        exfalso; rw [below_top (may_of g126).2] at g137; cases g137
                                        -- done
                                    · try simp only [bne_iff_ne, beq_iff_eq, Bool.not_eq_true', Bool.not_eq_false', ne_eq, Decidable.not_not] at g130
                                      exfalso; rw [bot_below (may_of g126).1] at g130; cases g130
                                      -- done
                                · try simp only [bne_iff_ne, beq_iff_eq, Bool.not_eq_true', Bool.not_eq_false', ne_eq, Decidable.not_not] at g123
                                  exfalso; rw [below_is_join a b] at g123; revert g123; simp
                                  -- done
                              · try simp only [bne_iff_ne, beq_iff_eq, Bool.not_eq_true', Bool.not_eq_false', ne_eq, Decidable.not_not] at g114
                                exfalso; rw [show meetB a (joinB a b) = a from meet_join a b] at g114; revert g114; simp
                                -- done
                            · try simp only [bne_iff_ne, beq_iff_eq, Bool.not_eq_true', Bool.not_eq_false', ne_eq, Decidable.not_not] at g107
                              exfalso; rw [show joinB a (meetB a b) = a from join_meet a b] at g107; revert g107; simp
                              -- done
                      · try simp only [bne_iff_ne, beq_iff_eq, Bool.not_eq_true', Bool.not_eq_false', ne_eq, Decidable.not_not] at g76
                        refine QK.off rfl rfl ?_
                        refine QK.off rfl rfl ?_
                        refine QK.off rfl rfl ?_
                        refine QK.off rfl rfl ?_
                        refine QK.off rfl rfl ?_
                        refine QK.off rfl rfl ?_
                        refine QK.off rfl rfl ?_
                        refine QK.det trivial (Yields.pure rfl) ?_
                        refine QK.det trivial (Yields.pure rfl) ?_
                        refine QK.det rfl (Yields.ldA rfl rfl (lab_at (a := c) (by simp))) ?_
                        refine QK.det rfl (Yields.ldA rfl rfl (lab_at (a := a) (by simp))) ?_
                        refine QK.call rfl rfl (below_b (a := c) (b := a)) ?_
                        refine QK.bool rfl (Yields.pure rfl) (fun g89 => ?_) (fun g89 => ?_)
                        · try simp only [bne_iff_ne, beq_iff_eq, Bool.not_eq_true', Bool.not_eq_false', ne_eq, Decidable.not_not] at g89
                          refine QK.det rfl (Yields.ldA rfl rfl (lab_at (a := c) (by simp))) ?_
                          refine QK.det rfl (Yields.ldA rfl rfl (lab_at (a := b) (by simp))) ?_
                          refine QK.call rfl rfl (below_b (a := c) (b := b)) ?_
                          refine QK.det rfl (Yields.ldA rfl rfl (lab_at (a := c) (by simp))) ?_
                          refine QK.det rfl (Yields.ldA rfl rfl (lab_at (a := meetB a b) (by simp))) ?_
                          refine QK.nil ?_
                          change OL _ _ _ [_, _, _, _] _ _ _
                          refine OL.call rfl rfl (below_b (a := c) (b := meetB a b)) ?_
                          rintro _ _ ⟨rfl, rfl⟩
                          refine OL.det rfl (Yields.pure rfl) ?_
                          refine OL.det rfl (Yields.pure rfl) ?_
                          refine OL.det trivial (Yields.pure rfl) ?_
                          refine OL.nil ?_
                          refine hK19 _ _ ?_
                          refine PW.keep (T' := [(3, _), (4, _), (7, _), (8, _), (98, _)]) ⟨rfl, rfl, rfl, rfl, rfl, trivial⟩ ?_
                          refine PW.cond rfl (fun c98 => ?_) (fun c98 => ?_)
                          · try simp only [bne_iff_ne, beq_iff_eq, Bool.not_eq_true', Bool.not_eq_false', ne_eq, Decidable.not_not] at c98
                            exfalso; rw [meet_most g89, beq_self_eq_true] at c98; cases c98
                            -- done
                          · try simp only [bne_iff_ne, beq_iff_eq, Bool.not_eq_true', Bool.not_eq_false', ne_eq, Decidable.not_not] at c98
                            refine PW.skip ?_
                            refine hK18 _ _ ?_
                            refine PW.keep (T' := [(3, _), (4, _), (7, _), (8, _)]) ⟨rfl, rfl, rfl, rfl, trivial⟩ ?_
                            refine PW.seqOps ?_
                            refine OL.det trivial (Yields.ldA rfl rfl (lab_at (a := a) (by simp))) ?_
                            refine OL.call trivial rfl (check_b (a := a)) ?_
                            rintro _ _ ⟨rfl, rfl⟩
                            refine OL.det trivial (Yields.pure rfl) ?_
                            refine OL.det trivial (Yields.pure rfl) ?_
                            refine OL.nil ?_
                            refine PW.keep (T' := [(3, _), (4, _), (7, _), (8, _), (9, _)]) ⟨rfl, rfl, rfl, rfl, rfl, trivial⟩ ?_
                            refine PW.seq fun K22 hK22 => ?_
                            refine PW.quietK Tryd.mixed ?_
                            refine QK.det trivial (Yields.ldA rfl rfl (lab_at (a := a) (by simp))) ?_
                            refine QK.det trivial (Yields.ldA rfl rfl (lab_at (a := meetB a b) (by simp))) ?_
                            refine QK.call trivial rfl (join_b (a := a) (b := meetB a b)) ?_
                            refine QK.det trivial (Yields.ldA rfl rfl (lab_at (a := a) (by simp))) ?_
                            refine QK.det trivial (Yields.eqA rfl rfl (eq_lab (joinB (a) (meetB a b)) (a))) ?_
                            refine QK.bool trivial (Yields.pure rfl) (fun g107 => ?_) (fun g107 => ?_)
                            · try simp only [bne_iff_ne, beq_iff_eq, Bool.not_eq_true', Bool.not_eq_false', ne_eq, Decidable.not_not] at g107
                              refine QK.det rfl (Yields.ldA rfl rfl (lab_at (a := a) (by simp))) ?_
                              refine QK.det rfl (Yields.ldA rfl rfl (lab_at (a := joinB a b) (by simp))) ?_
                              refine QK.call rfl rfl (meet_b (a := a) (b := joinB a b)) ?_
                              refine QK.det rfl (Yields.ldA rfl rfl (lab_at (a := a) (by simp))) ?_
                              refine QK.det rfl (Yields.eqA rfl rfl (eq_lab (meetB (a) (joinB a b)) (a))) ?_
                              refine QK.det trivial (Yields.pure rfl) ?_
                              refine QK.bool trivial (Yields.pure rfl) (fun g114 => ?_) (fun g114 => ?_)
                              · try simp only [bne_iff_ne, beq_iff_eq, Bool.not_eq_true', Bool.not_eq_false', ne_eq, Decidable.not_not] at g114
                                refine QK.det rfl (Yields.ldA rfl rfl (lab_at (a := a) (by simp))) ?_
                                refine QK.det rfl (Yields.ldA rfl rfl (lab_at (a := b) (by simp))) ?_
                                refine QK.call rfl rfl (below_b (a := a) (b := b)) ?_
                                refine QK.det rfl (Yields.ldA rfl rfl (lab_at (a := joinB a b) (by simp))) ?_
                                refine QK.det rfl (Yields.ldA rfl rfl (lab_at (a := b) (by simp))) ?_
                                refine QK.det rfl (Yields.eqA rfl rfl (eq_lab (joinB a b) (b))) ?_
                                refine QK.det rfl (Yields.pure rfl) ?_
                                refine QK.det trivial (Yields.pure rfl) ?_
                                refine QK.bool trivial (Yields.pure rfl) (fun g123 => ?_) (fun g123 => ?_)
                                · try simp only [bne_iff_ne, beq_iff_eq, Bool.not_eq_true', Bool.not_eq_false', ne_eq, Decidable.not_not] at g123
                                  refine QK.det rfl (Yields.pure rfl) ?_
                                  refine QK.det rfl (Yields.pure rfl) ?_
                                  refine QK.bool rfl (Yields.pure rfl) (fun g126 => ?_) (fun g126 => ?_)
                                  · try simp only [bne_iff_ne, beq_iff_eq, Bool.not_eq_true', Bool.not_eq_false', ne_eq, Decidable.not_not] at g126
                                    refine QK.off rfl rfl ?_
                                    refine QK.off rfl rfl ?_
                                    refine QK.off rfl rfl ?_
                                    refine QK.off rfl rfl ?_
                                    refine QK.off rfl rfl ?_
                                    refine QK.off rfl rfl ?_
                                    refine QK.nil ?_
                                    change OL _ _ _ [_, _, _, _, _, _, _, _] _ _ _
                                    refine OL.off rfl rfl ?_
                                    refine OL.off rfl rfl ?_
                                    refine OL.det rfl (Yields.pure rfl) ?_
                                    refine OL.det trivial (Yields.pure rfl) ?_
                                    refine OL.det trivial (Yields.pure rfl) ?_
                                    refine OL.call rfl rfl (awake_fc hg) ?_
                                    rintro _ _ ⟨rfl, rfl⟩
                                    refine OL.det trivial (Yields.pure rfl) ?_
                                    refine OL.det trivial (Yields.pure rfl) ?_
                                    refine OL.nil ?_
                                    refine hK22 _ _ ?_
                                    refine PW.keep (T' := [(6, _)]) ⟨rfl, trivial⟩ ?_
                                    refine PW.ret ?_
                                    change (Exit.ret = Exit.normal ∨ Exit.ret = Exit.ret) ∧ ∃ v, resV _ _ = some v ∧ _
                                    exact ⟨.inr rfl, _, rfl, rfl⟩
                                  · try simp only [bne_iff_ne, beq_iff_eq, Bool.not_eq_true', Bool.not_eq_false', ne_eq, Decidable.not_not] at g126
                                    refine QK.det rfl (Yields.build rfl) ?_
                                    refine QK.det rfl (Yields.ldA rfl rfl (lab_at (a := a) (by simp))) ?_
                                    refine QK.call rfl rfl (below_b (a := botB) (b := a)) ?_
                                    refine QK.bool rfl (Yields.pure rfl) (fun g130 => ?_) (fun g130 => ?_)
                                    · try simp only [bne_iff_ne, beq_iff_eq, Bool.not_eq_true', Bool.not_eq_false', ne_eq, Decidable.not_not] at g130
                                      refine QK.det rfl (Yields.ldA rfl rfl (lab_at (a := a) (by simp))) ?_
                                      refine QK.call rfl rfl (top_b) ?_
                                      refine QK.nil ?_
                                      change OL _ _ _ [_, _, _, _, _, _, _, _] _ _ _
                                      refine OL.call rfl rfl (below_b (a := a) (b := topB)) ?_
                                      rintro _ _ ⟨rfl, rfl⟩
                                      refine OL.det rfl (Yields.pure rfl) ?_
                                      refine OL.det rfl (Yields.pure rfl) ?_
                                      refine OL.det trivial (Yields.pure rfl) ?_
                                      refine OL.bool trivial (Yields.pure rfl) (fun g137 => ?_) (fun g137 => ?_)
                                      · try simp only [bne_iff_ne, beq_iff_eq, Bool.not_eq_true', Bool.not_eq_false', ne_eq, Decidable.not_not] at g137
                                        refine OL.call rfl rfl (awake_fc hg) ?_
                                        rintro _ _ ⟨rfl, rfl⟩
                                        refine OL.det trivial (Yields.pure rfl) ?_
                                        refine OL.det trivial (Yields.pure rfl) ?_
                                        refine OL.nil ?_
                                        refine hK22 _ _ ?_
                                        refine PW.keep (T' := [(6, _)]) ⟨rfl, trivial⟩ ?_
                                        refine PW.ret ?_
                                        change (Exit.ret = Exit.normal ∨ Exit.ret = Exit.ret) ∧ ∃ v, resV _ _ = some v ∧ _
                                        exact ⟨.inr rfl, _, rfl, rfl⟩
                                      · try simp only [bne_iff_ne, beq_iff_eq, Bool.not_eq_true', Bool.not_eq_false', ne_eq, Decidable.not_not] at g137
                                        exfalso; rw [below_top (may_of g126).2] at g137; cases g137
                                        -- done
                                    · try simp only [bne_iff_ne, beq_iff_eq, Bool.not_eq_true', Bool.not_eq_false', ne_eq, Decidable.not_not] at g130
                                      exfalso; rw [bot_below (may_of g126).1] at g130; cases g130
                                      -- done
                                · try simp only [bne_iff_ne, beq_iff_eq, Bool.not_eq_true', Bool.not_eq_false', ne_eq, Decidable.not_not] at g123
                                  exfalso; rw [below_is_join a b] at g123; revert g123; simp
                                  -- done
                              · try simp only [bne_iff_ne, beq_iff_eq, Bool.not_eq_true', Bool.not_eq_false', ne_eq, Decidable.not_not] at g114
                                exfalso; rw [show meetB a (joinB a b) = a from meet_join a b] at g114; revert g114; simp
                                -- done
                            · try simp only [bne_iff_ne, beq_iff_eq, Bool.not_eq_true', Bool.not_eq_false', ne_eq, Decidable.not_not] at g107
                              exfalso; rw [show joinB a (meetB a b) = a from join_meet a b] at g107; revert g107; simp
                              -- done
                        · try simp only [bne_iff_ne, beq_iff_eq, Bool.not_eq_true', Bool.not_eq_false', ne_eq, Decidable.not_not] at g89
                          refine QK.off rfl rfl ?_
                          refine QK.off rfl rfl ?_
                          refine QK.off rfl rfl ?_
                          refine QK.off rfl rfl ?_
                          refine QK.off rfl rfl ?_
                          refine QK.nil ?_
                          change OL _ _ _ [_, _, _, _] _ _ _
                          refine OL.off rfl rfl ?_
                          refine OL.off rfl rfl ?_
                          refine OL.det rfl (Yields.pure rfl) ?_
                          refine OL.det trivial (Yields.pure rfl) ?_
                          refine OL.nil ?_
                          refine hK19 _ _ ?_
                          refine PW.keep (T' := [(3, _), (4, _), (7, _), (8, _), (98, _)]) ⟨rfl, rfl, rfl, rfl, rfl, trivial⟩ ?_
                          refine PW.ite (b := false) rfl ?_
                          rw [if_neg Bool.false_ne_true]
                          refine PW.skip ?_
                          refine hK18 _ _ ?_
                          refine PW.keep (T' := [(3, _), (4, _), (7, _), (8, _)]) ⟨rfl, rfl, rfl, rfl, trivial⟩ ?_
                          refine PW.seqOps ?_
                          refine OL.det trivial (Yields.ldA rfl rfl (lab_at (a := a) (by simp))) ?_
                          refine OL.call trivial rfl (check_b (a := a)) ?_
                          rintro _ _ ⟨rfl, rfl⟩
                          refine OL.det trivial (Yields.pure rfl) ?_
                          refine OL.det trivial (Yields.pure rfl) ?_
                          refine OL.nil ?_
                          refine PW.keep (T' := [(3, _), (4, _), (7, _), (8, _), (9, _)]) ⟨rfl, rfl, rfl, rfl, rfl, trivial⟩ ?_
                          refine PW.seq fun K23 hK23 => ?_
                          refine PW.quietK Tryd.mixed ?_
                          refine QK.det trivial (Yields.ldA rfl rfl (lab_at (a := a) (by simp))) ?_
                          refine QK.det trivial (Yields.ldA rfl rfl (lab_at (a := meetB a b) (by simp))) ?_
                          refine QK.call trivial rfl (join_b (a := a) (b := meetB a b)) ?_
                          refine QK.det trivial (Yields.ldA rfl rfl (lab_at (a := a) (by simp))) ?_
                          refine QK.det trivial (Yields.eqA rfl rfl (eq_lab (joinB (a) (meetB a b)) (a))) ?_
                          refine QK.bool trivial (Yields.pure rfl) (fun g107 => ?_) (fun g107 => ?_)
                          · try simp only [bne_iff_ne, beq_iff_eq, Bool.not_eq_true', Bool.not_eq_false', ne_eq, Decidable.not_not] at g107
                            refine QK.det rfl (Yields.ldA rfl rfl (lab_at (a := a) (by simp))) ?_
                            refine QK.det rfl (Yields.ldA rfl rfl (lab_at (a := joinB a b) (by simp))) ?_
                            refine QK.call rfl rfl (meet_b (a := a) (b := joinB a b)) ?_
                            refine QK.det rfl (Yields.ldA rfl rfl (lab_at (a := a) (by simp))) ?_
                            refine QK.det rfl (Yields.eqA rfl rfl (eq_lab (meetB (a) (joinB a b)) (a))) ?_
                            refine QK.det trivial (Yields.pure rfl) ?_
                            refine QK.bool trivial (Yields.pure rfl) (fun g114 => ?_) (fun g114 => ?_)
                            · try simp only [bne_iff_ne, beq_iff_eq, Bool.not_eq_true', Bool.not_eq_false', ne_eq, Decidable.not_not] at g114
                              refine QK.det rfl (Yields.ldA rfl rfl (lab_at (a := a) (by simp))) ?_
                              refine QK.det rfl (Yields.ldA rfl rfl (lab_at (a := b) (by simp))) ?_
                              refine QK.call rfl rfl (below_b (a := a) (b := b)) ?_
                              refine QK.det rfl (Yields.ldA rfl rfl (lab_at (a := joinB a b) (by simp))) ?_
                              refine QK.det rfl (Yields.ldA rfl rfl (lab_at (a := b) (by simp))) ?_
                              refine QK.det rfl (Yields.eqA rfl rfl (eq_lab (joinB a b) (b))) ?_
                              refine QK.det rfl (Yields.pure rfl) ?_
                              refine QK.det trivial (Yields.pure rfl) ?_
                              refine QK.bool trivial (Yields.pure rfl) (fun g123 => ?_) (fun g123 => ?_)
                              · try simp only [bne_iff_ne, beq_iff_eq, Bool.not_eq_true', Bool.not_eq_false', ne_eq, Decidable.not_not] at g123
                                refine QK.det rfl (Yields.pure rfl) ?_
                                refine QK.det rfl (Yields.pure rfl) ?_
                                refine QK.bool rfl (Yields.pure rfl) (fun g126 => ?_) (fun g126 => ?_)
                                · try simp only [bne_iff_ne, beq_iff_eq, Bool.not_eq_true', Bool.not_eq_false', ne_eq, Decidable.not_not] at g126
                                  refine QK.off rfl rfl ?_
                                  refine QK.off rfl rfl ?_
                                  refine QK.off rfl rfl ?_
                                  refine QK.off rfl rfl ?_
                                  refine QK.off rfl rfl ?_
                                  refine QK.off rfl rfl ?_
                                  refine QK.nil ?_
                                  change OL _ _ _ [_, _, _, _, _, _, _, _] _ _ _
                                  refine OL.off rfl rfl ?_
                                  refine OL.off rfl rfl ?_
                                  refine OL.det rfl (Yields.pure rfl) ?_
                                  refine OL.det trivial (Yields.pure rfl) ?_
                                  refine OL.det trivial (Yields.pure rfl) ?_
                                  refine OL.call rfl rfl (awake_fc hg) ?_
                                  rintro _ _ ⟨rfl, rfl⟩
                                  refine OL.det trivial (Yields.pure rfl) ?_
                                  refine OL.det trivial (Yields.pure rfl) ?_
                                  refine OL.nil ?_
                                  refine hK23 _ _ ?_
                                  refine PW.keep (T' := [(6, _)]) ⟨rfl, trivial⟩ ?_
                                  refine PW.ret ?_
                                  change (Exit.ret = Exit.normal ∨ Exit.ret = Exit.ret) ∧ ∃ v, resV _ _ = some v ∧ _
                                  exact ⟨.inr rfl, _, rfl, rfl⟩
                                · try simp only [bne_iff_ne, beq_iff_eq, Bool.not_eq_true', Bool.not_eq_false', ne_eq, Decidable.not_not] at g126
                                  refine QK.det rfl (Yields.build rfl) ?_
                                  refine QK.det rfl (Yields.ldA rfl rfl (lab_at (a := a) (by simp))) ?_
                                  refine QK.call rfl rfl (below_b (a := botB) (b := a)) ?_
                                  refine QK.bool rfl (Yields.pure rfl) (fun g130 => ?_) (fun g130 => ?_)
                                  · try simp only [bne_iff_ne, beq_iff_eq, Bool.not_eq_true', Bool.not_eq_false', ne_eq, Decidable.not_not] at g130
                                    refine QK.det rfl (Yields.ldA rfl rfl (lab_at (a := a) (by simp))) ?_
                                    refine QK.call rfl rfl (top_b) ?_
                                    refine QK.nil ?_
                                    change OL _ _ _ [_, _, _, _, _, _, _, _] _ _ _
                                    refine OL.call rfl rfl (below_b (a := a) (b := topB)) ?_
                                    rintro _ _ ⟨rfl, rfl⟩
                                    refine OL.det rfl (Yields.pure rfl) ?_
                                    refine OL.det rfl (Yields.pure rfl) ?_
                                    refine OL.det trivial (Yields.pure rfl) ?_
                                    refine OL.bool trivial (Yields.pure rfl) (fun g137 => ?_) (fun g137 => ?_)
                                    · try simp only [bne_iff_ne, beq_iff_eq, Bool.not_eq_true', Bool.not_eq_false', ne_eq, Decidable.not_not] at g137
                                      refine OL.call rfl rfl (awake_fc hg) ?_
                                      rintro _ _ ⟨rfl, rfl⟩
                                      refine OL.det trivial (Yields.pure rfl) ?_
                                      refine OL.det trivial (Yields.pure rfl) ?_
                                      refine OL.nil ?_
                                      refine hK23 _ _ ?_
                                      refine PW.keep (T' := [(6, _)]) ⟨rfl, trivial⟩ ?_
                                      refine PW.ret ?_
                                      change (Exit.ret = Exit.normal ∨ Exit.ret = Exit.ret) ∧ ∃ v, resV _ _ = some v ∧ _
                                      exact ⟨.inr rfl, _, rfl, rfl⟩
                                    · try simp only [bne_iff_ne, beq_iff_eq, Bool.not_eq_true', Bool.not_eq_false', ne_eq, Decidable.not_not] at g137
                                      exfalso; rw [below_top (may_of g126).2] at g137; cases g137
                                      -- done
                                  · try simp only [bne_iff_ne, beq_iff_eq, Bool.not_eq_true', Bool.not_eq_false', ne_eq, Decidable.not_not] at g130
                                    exfalso; rw [bot_below (may_of g126).1] at g130; cases g130
                                    -- done
                              · try simp only [bne_iff_ne, beq_iff_eq, Bool.not_eq_true', Bool.not_eq_false', ne_eq, Decidable.not_not] at g123
                                exfalso; rw [below_is_join a b] at g123; revert g123; simp
                                -- done
                            · try simp only [bne_iff_ne, beq_iff_eq, Bool.not_eq_true', Bool.not_eq_false', ne_eq, Decidable.not_not] at g114
                              exfalso; rw [show meetB a (joinB a b) = a from meet_join a b] at g114; revert g114; simp
                              -- done
                          · try simp only [bne_iff_ne, beq_iff_eq, Bool.not_eq_true', Bool.not_eq_false', ne_eq, Decidable.not_not] at g107
                            exfalso; rw [show joinB a (meetB a b) = a from join_meet a b] at g107; revert g107; simp
                            -- done
          · try simp only [bne_iff_ne, beq_iff_eq, Bool.not_eq_true', Bool.not_eq_false', ne_eq, Decidable.not_not] at g45
            refine OL.off rfl rfl ?_
            refine OL.off rfl rfl ?_
            refine OL.off rfl rfl ?_
            refine OL.det rfl (Yields.pure rfl) ?_
            refine OL.det trivial (Yields.pure rfl) ?_
            refine OL.nil ?_
            refine PW.keep (T' := [(3, _), (4, _), (5, _), (7, _), (8, _), (50, _)]) ⟨rfl, rfl, rfl, rfl, rfl, rfl, trivial⟩ ?_
            refine PW.ite (b := false) rfl ?_
            rw [if_neg Bool.false_ne_true]
            refine PW.skip ?_
            refine hK2 _ _ ?_
            refine PW.keep (T' := [(3, _), (4, _), (5, _), (7, _), (8, _)]) ⟨rfl, rfl, rfl, rfl, rfl, trivial⟩ ?_
            refine PW.seq fun K24 hK24 => ?_
            refine PW.seqOps ?_
            refine OL.det trivial (Yields.ldA rfl rfl (lab_at (a := a) (by simp))) ?_
            refine OL.det trivial (Yields.ldA rfl rfl (lab_at (a := joinB a b) (by simp))) ?_
            refine OL.call trivial rfl (below_b (a := a) (b := joinB a b)) ?_
            rintro _ _ ⟨rfl, rfl⟩
            refine OL.det trivial (Yields.pure rfl) ?_
            refine OL.bool trivial (Yields.pure rfl) (fun g55 => ?_) (fun g55 => ?_)
            · try simp only [bne_iff_ne, beq_iff_eq, Bool.not_eq_true', Bool.not_eq_false', ne_eq, Decidable.not_not] at g55
              exfalso; rw [below_join_l] at g55; revert g55; simp
              -- done
            · try simp only [bne_iff_ne, beq_iff_eq, Bool.not_eq_true', Bool.not_eq_false', ne_eq, Decidable.not_not] at g55
              refine OL.det rfl (Yields.ldA rfl rfl (lab_at (a := b) (by simp))) ?_
              refine OL.det rfl (Yields.ldA rfl rfl (lab_at (a := joinB a b) (by simp))) ?_
              refine OL.call rfl rfl (below_b (a := b) (b := joinB a b)) ?_
              rintro _ _ ⟨rfl, rfl⟩
              refine OL.det rfl (Yields.pure rfl) ?_
              refine OL.det trivial (Yields.pure rfl) ?_
              refine OL.bool trivial (Yields.pure rfl) (fun g61 => ?_) (fun g61 => ?_)
              · try simp only [bne_iff_ne, beq_iff_eq, Bool.not_eq_true', Bool.not_eq_false', ne_eq, Decidable.not_not] at g61
                exfalso; rw [below_join_r] at g61; revert g61; simp
                -- done
              · try simp only [bne_iff_ne, beq_iff_eq, Bool.not_eq_true', Bool.not_eq_false', ne_eq, Decidable.not_not] at g61
                refine OL.det rfl (Yields.ldA rfl rfl (lab_at (a := meetB a b) (by simp))) ?_
                refine OL.det rfl (Yields.ldA rfl rfl (lab_at (a := a) (by simp))) ?_
                refine OL.call rfl rfl (below_b (a := meetB a b) (b := a)) ?_
                rintro _ _ ⟨rfl, rfl⟩
                refine OL.det rfl (Yields.pure rfl) ?_
                refine OL.det trivial (Yields.pure rfl) ?_
                refine OL.bool trivial (Yields.pure rfl) (fun g67 => ?_) (fun g67 => ?_)
                · try simp only [bne_iff_ne, beq_iff_eq, Bool.not_eq_true', Bool.not_eq_false', ne_eq, Decidable.not_not] at g67
                  exfalso; rw [meet_below_l] at g67; revert g67; simp
                  -- done
                · try simp only [bne_iff_ne, beq_iff_eq, Bool.not_eq_true', Bool.not_eq_false', ne_eq, Decidable.not_not] at g67
                  refine OL.det rfl (Yields.ldA rfl rfl (lab_at (a := meetB a b) (by simp))) ?_
                  refine OL.det rfl (Yields.ldA rfl rfl (lab_at (a := b) (by simp))) ?_
                  refine OL.call rfl rfl (below_b (a := meetB a b) (b := b)) ?_
                  rintro _ _ ⟨rfl, rfl⟩
                  refine OL.det rfl (Yields.pure rfl) ?_
                  refine OL.det trivial (Yields.pure rfl) ?_
                  refine OL.nil ?_
                  refine PW.keep (T' := [(3, _), (4, _), (5, _), (7, _), (8, _), (72, _)]) ⟨rfl, rfl, rfl, rfl, rfl, rfl, trivial⟩ ?_
                  refine PW.cond rfl (fun c72 => ?_) (fun c72 => ?_)
                  · try simp only [bne_iff_ne, beq_iff_eq, Bool.not_eq_true', Bool.not_eq_false', ne_eq, Decidable.not_not] at c72
                    exfalso; rw [meet_below_r] at c72; revert c72; simp
                    -- done
                  · try simp only [bne_iff_ne, beq_iff_eq, Bool.not_eq_true', Bool.not_eq_false', ne_eq, Decidable.not_not] at c72
                    refine PW.skip ?_
                    refine hK24 _ _ ?_
                    refine PW.keep (T' := [(3, _), (4, _), (5, _), (7, _), (8, _)]) ⟨rfl, rfl, rfl, rfl, rfl, trivial⟩ ?_
                    refine PW.seq fun K25 hK25 => ?_
                    refine PW.seq fun K26 hK26 => ?_
                    refine PW.quiet2QK Tryd.mixed ?_
                    refine QK.det trivial (Yields.ldA rfl rfl (lab_at (a := a) (by simp))) ?_
                    refine QK.det trivial (Yields.ldA rfl rfl (lab_at (a := c) (by simp))) ?_
                    refine QK.call trivial rfl (below_b (a := a) (b := c)) ?_
                    refine QK.bool trivial (Yields.pure rfl) (fun g76 => ?_) (fun g76 => ?_)
                    · try simp only [bne_iff_ne, beq_iff_eq, Bool.not_eq_true', Bool.not_eq_false', ne_eq, Decidable.not_not] at g76
                      refine QK.det rfl (Yields.ldA rfl rfl (lab_at (a := b) (by simp))) ?_
                      refine QK.det rfl (Yields.ldA rfl rfl (lab_at (a := c) (by simp))) ?_
                      refine QK.call rfl rfl (below_b (a := b) (b := c)) ?_
                      refine QK.det rfl (Yields.ldA rfl rfl (lab_at (a := joinB a b) (by simp))) ?_
                      refine QK.det rfl (Yields.ldA rfl rfl (lab_at (a := c) (by simp))) ?_
                      refine QK.call rfl rfl (below_b (a := joinB a b) (b := c)) ?_
                      refine QK.det rfl (Yields.pure rfl) ?_
                      refine QK.det trivial (Yields.pure rfl) ?_
                      refine QK.bool trivial (Yields.pure rfl) (fun g85 => ?_) (fun g85 => ?_)
                      · try simp only [bne_iff_ne, beq_iff_eq, Bool.not_eq_true', Bool.not_eq_false', ne_eq, Decidable.not_not] at g85
                        exfalso; rw [join_least g76, beq_self_eq_true] at g85; cases g85
                        -- done
                      · try simp only [bne_iff_ne, beq_iff_eq, Bool.not_eq_true', Bool.not_eq_false', ne_eq, Decidable.not_not] at g85
                        refine QK.det rfl (Yields.ldA rfl rfl (lab_at (a := c) (by simp))) ?_
                        refine QK.det rfl (Yields.ldA rfl rfl (lab_at (a := a) (by simp))) ?_
                        refine QK.call rfl rfl (below_b (a := c) (b := a)) ?_
                        refine QK.bool rfl (Yields.pure rfl) (fun g89 => ?_) (fun g89 => ?_)
                        · try simp only [bne_iff_ne, beq_iff_eq, Bool.not_eq_true', Bool.not_eq_false', ne_eq, Decidable.not_not] at g89
                          refine QK.det rfl (Yields.ldA rfl rfl (lab_at (a := c) (by simp))) ?_
                          refine QK.det rfl (Yields.ldA rfl rfl (lab_at (a := b) (by simp))) ?_
                          refine QK.call rfl rfl (below_b (a := c) (b := b)) ?_
                          refine QK.det rfl (Yields.ldA rfl rfl (lab_at (a := c) (by simp))) ?_
                          refine QK.det rfl (Yields.ldA rfl rfl (lab_at (a := meetB a b) (by simp))) ?_
                          refine QK.nil ?_
                          change OL _ _ _ [_, _, _, _] _ _ _
                          refine OL.call rfl rfl (below_b (a := c) (b := meetB a b)) ?_
                          rintro _ _ ⟨rfl, rfl⟩
                          refine OL.det rfl (Yields.pure rfl) ?_
                          refine OL.det rfl (Yields.pure rfl) ?_
                          refine OL.det trivial (Yields.pure rfl) ?_
                          refine OL.nil ?_
                          refine hK26 _ _ ?_
                          refine PW.keep (T' := [(3, _), (4, _), (7, _), (8, _), (98, _)]) ⟨rfl, rfl, rfl, rfl, rfl, trivial⟩ ?_
                          refine PW.cond rfl (fun c98 => ?_) (fun c98 => ?_)
                          · try simp only [bne_iff_ne, beq_iff_eq, Bool.not_eq_true', Bool.not_eq_false', ne_eq, Decidable.not_not] at c98
                            exfalso; rw [meet_most g89, beq_self_eq_true] at c98; cases c98
                            -- done
                          · try simp only [bne_iff_ne, beq_iff_eq, Bool.not_eq_true', Bool.not_eq_false', ne_eq, Decidable.not_not] at c98
                            refine PW.skip ?_
                            refine hK25 _ _ ?_
                            refine PW.keep (T' := [(3, _), (4, _), (7, _), (8, _)]) ⟨rfl, rfl, rfl, rfl, trivial⟩ ?_
                            refine PW.seqOps ?_
                            refine OL.det trivial (Yields.ldA rfl rfl (lab_at (a := a) (by simp))) ?_
                            refine OL.call trivial rfl (check_b (a := a)) ?_
                            rintro _ _ ⟨rfl, rfl⟩
                            refine OL.det trivial (Yields.pure rfl) ?_
                            refine OL.det trivial (Yields.pure rfl) ?_
                            refine OL.nil ?_
                            refine PW.keep (T' := [(3, _), (4, _), (7, _), (8, _), (9, _)]) ⟨rfl, rfl, rfl, rfl, rfl, trivial⟩ ?_
                            refine PW.seq fun K27 hK27 => ?_
                            refine PW.quietK Tryd.mixed ?_
                            refine QK.det trivial (Yields.ldA rfl rfl (lab_at (a := a) (by simp))) ?_
                            refine QK.det trivial (Yields.ldA rfl rfl (lab_at (a := meetB a b) (by simp))) ?_
                            refine QK.call trivial rfl (join_b (a := a) (b := meetB a b)) ?_
                            refine QK.det trivial (Yields.ldA rfl rfl (lab_at (a := a) (by simp))) ?_
                            refine QK.det trivial (Yields.eqA rfl rfl (eq_lab (joinB (a) (meetB a b)) (a))) ?_
                            refine QK.bool trivial (Yields.pure rfl) (fun g107 => ?_) (fun g107 => ?_)
                            · try simp only [bne_iff_ne, beq_iff_eq, Bool.not_eq_true', Bool.not_eq_false', ne_eq, Decidable.not_not] at g107
                              refine QK.det rfl (Yields.ldA rfl rfl (lab_at (a := a) (by simp))) ?_
                              refine QK.det rfl (Yields.ldA rfl rfl (lab_at (a := joinB a b) (by simp))) ?_
                              refine QK.call rfl rfl (meet_b (a := a) (b := joinB a b)) ?_
                              refine QK.det rfl (Yields.ldA rfl rfl (lab_at (a := a) (by simp))) ?_
                              refine QK.det rfl (Yields.eqA rfl rfl (eq_lab (meetB (a) (joinB a b)) (a))) ?_
                              refine QK.det trivial (Yields.pure rfl) ?_
                              refine QK.bool trivial (Yields.pure rfl) (fun g114 => ?_) (fun g114 => ?_)
                              · try simp only [bne_iff_ne, beq_iff_eq, Bool.not_eq_true', Bool.not_eq_false', ne_eq, Decidable.not_not] at g114
                                refine QK.det rfl (Yields.ldA rfl rfl (lab_at (a := a) (by simp))) ?_
                                refine QK.det rfl (Yields.ldA rfl rfl (lab_at (a := b) (by simp))) ?_
                                refine QK.call rfl rfl (below_b (a := a) (b := b)) ?_
                                refine QK.det rfl (Yields.ldA rfl rfl (lab_at (a := joinB a b) (by simp))) ?_
                                refine QK.det rfl (Yields.ldA rfl rfl (lab_at (a := b) (by simp))) ?_
                                refine QK.det rfl (Yields.eqA rfl rfl (eq_lab (joinB a b) (b))) ?_
                                refine QK.det rfl (Yields.pure rfl) ?_
                                refine QK.det trivial (Yields.pure rfl) ?_
                                refine QK.bool trivial (Yields.pure rfl) (fun g123 => ?_) (fun g123 => ?_)
                                · try simp only [bne_iff_ne, beq_iff_eq, Bool.not_eq_true', Bool.not_eq_false', ne_eq, Decidable.not_not] at g123
                                  refine QK.det rfl (Yields.pure rfl) ?_
                                  refine QK.det rfl (Yields.pure rfl) ?_
                                  refine QK.bool rfl (Yields.pure rfl) (fun g126 => ?_) (fun g126 => ?_)
                                  · try simp only [bne_iff_ne, beq_iff_eq, Bool.not_eq_true', Bool.not_eq_false', ne_eq, Decidable.not_not] at g126
                                    refine QK.off rfl rfl ?_
                                    refine QK.off rfl rfl ?_
                                    refine QK.off rfl rfl ?_
                                    refine QK.off rfl rfl ?_
                                    refine QK.off rfl rfl ?_
                                    refine QK.off rfl rfl ?_
                                    refine QK.nil ?_
                                    change OL _ _ _ [_, _, _, _, _, _, _, _] _ _ _
                                    refine OL.off rfl rfl ?_
                                    refine OL.off rfl rfl ?_
                                    refine OL.det rfl (Yields.pure rfl) ?_
                                    refine OL.det trivial (Yields.pure rfl) ?_
                                    refine OL.det trivial (Yields.pure rfl) ?_
                                    refine OL.call rfl rfl (awake_fc hg) ?_
                                    rintro _ _ ⟨rfl, rfl⟩
                                    refine OL.det trivial (Yields.pure rfl) ?_
                                    refine OL.det trivial (Yields.pure rfl) ?_
                                    refine OL.nil ?_
                                    refine hK27 _ _ ?_
                                    refine PW.keep (T' := [(6, _)]) ⟨rfl, trivial⟩ ?_
                                    refine PW.ret ?_
                                    change (Exit.ret = Exit.normal ∨ Exit.ret = Exit.ret) ∧ ∃ v, resV _ _ = some v ∧ _
                                    exact ⟨.inr rfl, _, rfl, rfl⟩
                                  · try simp only [bne_iff_ne, beq_iff_eq, Bool.not_eq_true', Bool.not_eq_false', ne_eq, Decidable.not_not] at g126
                                    refine QK.det rfl (Yields.build rfl) ?_
                                    refine QK.det rfl (Yields.ldA rfl rfl (lab_at (a := a) (by simp))) ?_
                                    refine QK.call rfl rfl (below_b (a := botB) (b := a)) ?_
                                    refine QK.bool rfl (Yields.pure rfl) (fun g130 => ?_) (fun g130 => ?_)
                                    · try simp only [bne_iff_ne, beq_iff_eq, Bool.not_eq_true', Bool.not_eq_false', ne_eq, Decidable.not_not] at g130
                                      refine QK.det rfl (Yields.ldA rfl rfl (lab_at (a := a) (by simp))) ?_
                                      refine QK.call rfl rfl (top_b) ?_
                                      refine QK.nil ?_
                                      change OL _ _ _ [_, _, _, _, _, _, _, _] _ _ _
                                      refine OL.call rfl rfl (below_b (a := a) (b := topB)) ?_
                                      rintro _ _ ⟨rfl, rfl⟩
                                      refine OL.det rfl (Yields.pure rfl) ?_
                                      refine OL.det rfl (Yields.pure rfl) ?_
                                      refine OL.det trivial (Yields.pure rfl) ?_
                                      refine OL.bool trivial (Yields.pure rfl) (fun g137 => ?_) (fun g137 => ?_)
                                      · try simp only [bne_iff_ne, beq_iff_eq, Bool.not_eq_true', Bool.not_eq_false', ne_eq, Decidable.not_not] at g137
                                        refine OL.call rfl rfl (awake_fc hg) ?_
                                        rintro _ _ ⟨rfl, rfl⟩
                                        refine OL.det trivial (Yields.pure rfl) ?_
                                        refine OL.det trivial (Yields.pure rfl) ?_
                                        refine OL.nil ?_
                                        refine hK27 _ _ ?_
                                        refine PW.keep (T' := [(6, _)]) ⟨rfl, trivial⟩ ?_
                                        refine PW.ret ?_
                                        change (Exit.ret = Exit.normal ∨ Exit.ret = Exit.ret) ∧ ∃ v, resV _ _ = some v ∧ _
                                        exact ⟨.inr rfl, _, rfl, rfl⟩
                                      · try simp only [bne_iff_ne, beq_iff_eq, Bool.not_eq_true', Bool.not_eq_false', ne_eq, Decidable.not_not] at g137
                                        exfalso; rw [below_top (may_of g126).2] at g137; cases g137
                                        -- done
                                    · try simp only [bne_iff_ne, beq_iff_eq, Bool.not_eq_true', Bool.not_eq_false', ne_eq, Decidable.not_not] at g130
                                      exfalso; rw [bot_below (may_of g126).1] at g130; cases g130
                                      -- done
                                · try simp only [bne_iff_ne, beq_iff_eq, Bool.not_eq_true', Bool.not_eq_false', ne_eq, Decidable.not_not] at g123
                                  exfalso; rw [below_is_join a b] at g123; revert g123; simp
                                  -- done
                              · try simp only [bne_iff_ne, beq_iff_eq, Bool.not_eq_true', Bool.not_eq_false', ne_eq, Decidable.not_not] at g114
                                exfalso; rw [show meetB a (joinB a b) = a from meet_join a b] at g114; revert g114; simp
                                -- done
                            · try simp only [bne_iff_ne, beq_iff_eq, Bool.not_eq_true', Bool.not_eq_false', ne_eq, Decidable.not_not] at g107
                              exfalso; rw [show joinB a (meetB a b) = a from join_meet a b] at g107; revert g107; simp
                              -- done
                        · try simp only [bne_iff_ne, beq_iff_eq, Bool.not_eq_true', Bool.not_eq_false', ne_eq, Decidable.not_not] at g89
                          refine QK.off rfl rfl ?_
                          refine QK.off rfl rfl ?_
                          refine QK.off rfl rfl ?_
                          refine QK.off rfl rfl ?_
                          refine QK.off rfl rfl ?_
                          refine QK.nil ?_
                          change OL _ _ _ [_, _, _, _] _ _ _
                          refine OL.off rfl rfl ?_
                          refine OL.off rfl rfl ?_
                          refine OL.det rfl (Yields.pure rfl) ?_
                          refine OL.det trivial (Yields.pure rfl) ?_
                          refine OL.nil ?_
                          refine hK26 _ _ ?_
                          refine PW.keep (T' := [(3, _), (4, _), (7, _), (8, _), (98, _)]) ⟨rfl, rfl, rfl, rfl, rfl, trivial⟩ ?_
                          refine PW.ite (b := false) rfl ?_
                          rw [if_neg Bool.false_ne_true]
                          refine PW.skip ?_
                          refine hK25 _ _ ?_
                          refine PW.keep (T' := [(3, _), (4, _), (7, _), (8, _)]) ⟨rfl, rfl, rfl, rfl, trivial⟩ ?_
                          refine PW.seqOps ?_
                          refine OL.det trivial (Yields.ldA rfl rfl (lab_at (a := a) (by simp))) ?_
                          refine OL.call trivial rfl (check_b (a := a)) ?_
                          rintro _ _ ⟨rfl, rfl⟩
                          refine OL.det trivial (Yields.pure rfl) ?_
                          refine OL.det trivial (Yields.pure rfl) ?_
                          refine OL.nil ?_
                          refine PW.keep (T' := [(3, _), (4, _), (7, _), (8, _), (9, _)]) ⟨rfl, rfl, rfl, rfl, rfl, trivial⟩ ?_
                          refine PW.seq fun K28 hK28 => ?_
                          refine PW.quietK Tryd.mixed ?_
                          refine QK.det trivial (Yields.ldA rfl rfl (lab_at (a := a) (by simp))) ?_
                          refine QK.det trivial (Yields.ldA rfl rfl (lab_at (a := meetB a b) (by simp))) ?_
                          refine QK.call trivial rfl (join_b (a := a) (b := meetB a b)) ?_
                          refine QK.det trivial (Yields.ldA rfl rfl (lab_at (a := a) (by simp))) ?_
                          refine QK.det trivial (Yields.eqA rfl rfl (eq_lab (joinB (a) (meetB a b)) (a))) ?_
                          refine QK.bool trivial (Yields.pure rfl) (fun g107 => ?_) (fun g107 => ?_)
                          · try simp only [bne_iff_ne, beq_iff_eq, Bool.not_eq_true', Bool.not_eq_false', ne_eq, Decidable.not_not] at g107
                            refine QK.det rfl (Yields.ldA rfl rfl (lab_at (a := a) (by simp))) ?_
                            refine QK.det rfl (Yields.ldA rfl rfl (lab_at (a := joinB a b) (by simp))) ?_
                            refine QK.call rfl rfl (meet_b (a := a) (b := joinB a b)) ?_
                            refine QK.det rfl (Yields.ldA rfl rfl (lab_at (a := a) (by simp))) ?_
                            refine QK.det rfl (Yields.eqA rfl rfl (eq_lab (meetB (a) (joinB a b)) (a))) ?_
                            refine QK.det trivial (Yields.pure rfl) ?_
                            refine QK.bool trivial (Yields.pure rfl) (fun g114 => ?_) (fun g114 => ?_)
                            · try simp only [bne_iff_ne, beq_iff_eq, Bool.not_eq_true', Bool.not_eq_false', ne_eq, Decidable.not_not] at g114
                              refine QK.det rfl (Yields.ldA rfl rfl (lab_at (a := a) (by simp))) ?_
                              refine QK.det rfl (Yields.ldA rfl rfl (lab_at (a := b) (by simp))) ?_
                              refine QK.call rfl rfl (below_b (a := a) (b := b)) ?_
                              refine QK.det rfl (Yields.ldA rfl rfl (lab_at (a := joinB a b) (by simp))) ?_
                              refine QK.det rfl (Yields.ldA rfl rfl (lab_at (a := b) (by simp))) ?_
                              refine QK.det rfl (Yields.eqA rfl rfl (eq_lab (joinB a b) (b))) ?_
                              refine QK.det rfl (Yields.pure rfl) ?_
                              refine QK.det trivial (Yields.pure rfl) ?_
                              refine QK.bool trivial (Yields.pure rfl) (fun g123 => ?_) (fun g123 => ?_)
                              · try simp only [bne_iff_ne, beq_iff_eq, Bool.not_eq_true', Bool.not_eq_false', ne_eq, Decidable.not_not] at g123
                                refine QK.det rfl (Yields.pure rfl) ?_
                                refine QK.det rfl (Yields.pure rfl) ?_
                                refine QK.bool rfl (Yields.pure rfl) (fun g126 => ?_) (fun g126 => ?_)
                                · try simp only [bne_iff_ne, beq_iff_eq, Bool.not_eq_true', Bool.not_eq_false', ne_eq, Decidable.not_not] at g126
                                  refine QK.off rfl rfl ?_
                                  refine QK.off rfl rfl ?_
                                  refine QK.off rfl rfl ?_
                                  refine QK.off rfl rfl ?_
                                  refine QK.off rfl rfl ?_
                                  refine QK.off rfl rfl ?_
                                  refine QK.nil ?_
                                  change OL _ _ _ [_, _, _, _, _, _, _, _] _ _ _
                                  refine OL.off rfl rfl ?_
                                  refine OL.off rfl rfl ?_
                                  refine OL.det rfl (Yields.pure rfl) ?_
                                  refine OL.det trivial (Yields.pure rfl) ?_
                                  refine OL.det trivial (Yields.pure rfl) ?_
                                  refine OL.call rfl rfl (awake_fc hg) ?_
                                  rintro _ _ ⟨rfl, rfl⟩
                                  refine OL.det trivial (Yields.pure rfl) ?_
                                  refine OL.det trivial (Yields.pure rfl) ?_
                                  refine OL.nil ?_
                                  refine hK28 _ _ ?_
                                  refine PW.keep (T' := [(6, _)]) ⟨rfl, trivial⟩ ?_
                                  refine PW.ret ?_
                                  change (Exit.ret = Exit.normal ∨ Exit.ret = Exit.ret) ∧ ∃ v, resV _ _ = some v ∧ _
                                  exact ⟨.inr rfl, _, rfl, rfl⟩
                                · try simp only [bne_iff_ne, beq_iff_eq, Bool.not_eq_true', Bool.not_eq_false', ne_eq, Decidable.not_not] at g126
                                  refine QK.det rfl (Yields.build rfl) ?_
                                  refine QK.det rfl (Yields.ldA rfl rfl (lab_at (a := a) (by simp))) ?_
                                  refine QK.call rfl rfl (below_b (a := botB) (b := a)) ?_
                                  refine QK.bool rfl (Yields.pure rfl) (fun g130 => ?_) (fun g130 => ?_)
                                  · try simp only [bne_iff_ne, beq_iff_eq, Bool.not_eq_true', Bool.not_eq_false', ne_eq, Decidable.not_not] at g130
                                    refine QK.det rfl (Yields.ldA rfl rfl (lab_at (a := a) (by simp))) ?_
                                    refine QK.call rfl rfl (top_b) ?_
                                    refine QK.nil ?_
                                    change OL _ _ _ [_, _, _, _, _, _, _, _] _ _ _
                                    refine OL.call rfl rfl (below_b (a := a) (b := topB)) ?_
                                    rintro _ _ ⟨rfl, rfl⟩
                                    refine OL.det rfl (Yields.pure rfl) ?_
                                    refine OL.det rfl (Yields.pure rfl) ?_
                                    refine OL.det trivial (Yields.pure rfl) ?_
                                    refine OL.bool trivial (Yields.pure rfl) (fun g137 => ?_) (fun g137 => ?_)
                                    · try simp only [bne_iff_ne, beq_iff_eq, Bool.not_eq_true', Bool.not_eq_false', ne_eq, Decidable.not_not] at g137
                                      refine OL.call rfl rfl (awake_fc hg) ?_
                                      rintro _ _ ⟨rfl, rfl⟩
                                      refine OL.det trivial (Yields.pure rfl) ?_
                                      refine OL.det trivial (Yields.pure rfl) ?_
                                      refine OL.nil ?_
                                      refine hK28 _ _ ?_
                                      refine PW.keep (T' := [(6, _)]) ⟨rfl, trivial⟩ ?_
                                      refine PW.ret ?_
                                      change (Exit.ret = Exit.normal ∨ Exit.ret = Exit.ret) ∧ ∃ v, resV _ _ = some v ∧ _
                                      exact ⟨.inr rfl, _, rfl, rfl⟩
                                    · try simp only [bne_iff_ne, beq_iff_eq, Bool.not_eq_true', Bool.not_eq_false', ne_eq, Decidable.not_not] at g137
                                      exfalso; rw [below_top (may_of g126).2] at g137; cases g137
                                      -- done
                                  · try simp only [bne_iff_ne, beq_iff_eq, Bool.not_eq_true', Bool.not_eq_false', ne_eq, Decidable.not_not] at g130
                                    exfalso; rw [bot_below (may_of g126).1] at g130; cases g130
                                    -- done
                              · try simp only [bne_iff_ne, beq_iff_eq, Bool.not_eq_true', Bool.not_eq_false', ne_eq, Decidable.not_not] at g123
                                exfalso; rw [below_is_join a b] at g123; revert g123; simp
                                -- done
                            · try simp only [bne_iff_ne, beq_iff_eq, Bool.not_eq_true', Bool.not_eq_false', ne_eq, Decidable.not_not] at g114
                              exfalso; rw [show meetB a (joinB a b) = a from meet_join a b] at g114; revert g114; simp
                              -- done
                          · try simp only [bne_iff_ne, beq_iff_eq, Bool.not_eq_true', Bool.not_eq_false', ne_eq, Decidable.not_not] at g107
                            exfalso; rw [show joinB a (meetB a b) = a from join_meet a b] at g107; revert g107; simp
                            -- done
                    · try simp only [bne_iff_ne, beq_iff_eq, Bool.not_eq_true', Bool.not_eq_false', ne_eq, Decidable.not_not] at g76
                      refine QK.off rfl rfl ?_
                      refine QK.off rfl rfl ?_
                      refine QK.off rfl rfl ?_
                      refine QK.off rfl rfl ?_
                      refine QK.off rfl rfl ?_
                      refine QK.off rfl rfl ?_
                      refine QK.off rfl rfl ?_
                      refine QK.det trivial (Yields.pure rfl) ?_
                      refine QK.det trivial (Yields.pure rfl) ?_
                      refine QK.det rfl (Yields.ldA rfl rfl (lab_at (a := c) (by simp))) ?_
                      refine QK.det rfl (Yields.ldA rfl rfl (lab_at (a := a) (by simp))) ?_
                      refine QK.call rfl rfl (below_b (a := c) (b := a)) ?_
                      refine QK.bool rfl (Yields.pure rfl) (fun g89 => ?_) (fun g89 => ?_)
                      · try simp only [bne_iff_ne, beq_iff_eq, Bool.not_eq_true', Bool.not_eq_false', ne_eq, Decidable.not_not] at g89
                        refine QK.det rfl (Yields.ldA rfl rfl (lab_at (a := c) (by simp))) ?_
                        refine QK.det rfl (Yields.ldA rfl rfl (lab_at (a := b) (by simp))) ?_
                        refine QK.call rfl rfl (below_b (a := c) (b := b)) ?_
                        refine QK.det rfl (Yields.ldA rfl rfl (lab_at (a := c) (by simp))) ?_
                        refine QK.det rfl (Yields.ldA rfl rfl (lab_at (a := meetB a b) (by simp))) ?_
                        refine QK.nil ?_
                        change OL _ _ _ [_, _, _, _] _ _ _
                        refine OL.call rfl rfl (below_b (a := c) (b := meetB a b)) ?_
                        rintro _ _ ⟨rfl, rfl⟩
                        refine OL.det rfl (Yields.pure rfl) ?_
                        refine OL.det rfl (Yields.pure rfl) ?_
                        refine OL.det trivial (Yields.pure rfl) ?_
                        refine OL.nil ?_
                        refine hK26 _ _ ?_
                        refine PW.keep (T' := [(3, _), (4, _), (7, _), (8, _), (98, _)]) ⟨rfl, rfl, rfl, rfl, rfl, trivial⟩ ?_
                        refine PW.cond rfl (fun c98 => ?_) (fun c98 => ?_)
                        · try simp only [bne_iff_ne, beq_iff_eq, Bool.not_eq_true', Bool.not_eq_false', ne_eq, Decidable.not_not] at c98
                          exfalso; rw [meet_most g89, beq_self_eq_true] at c98; cases c98
                          -- done
                        · try simp only [bne_iff_ne, beq_iff_eq, Bool.not_eq_true', Bool.not_eq_false', ne_eq, Decidable.not_not] at c98
                          refine PW.skip ?_
                          refine hK25 _ _ ?_
                          refine PW.keep (T' := [(3, _), (4, _), (7, _), (8, _)]) ⟨rfl, rfl, rfl, rfl, trivial⟩ ?_
                          refine PW.seqOps ?_
                          refine OL.det trivial (Yields.ldA rfl rfl (lab_at (a := a) (by simp))) ?_
                          refine OL.call trivial rfl (check_b (a := a)) ?_
                          rintro _ _ ⟨rfl, rfl⟩
                          refine OL.det trivial (Yields.pure rfl) ?_
                          refine OL.det trivial (Yields.pure rfl) ?_
                          refine OL.nil ?_
                          refine PW.keep (T' := [(3, _), (4, _), (7, _), (8, _), (9, _)]) ⟨rfl, rfl, rfl, rfl, rfl, trivial⟩ ?_
                          refine PW.seq fun K29 hK29 => ?_
                          refine PW.quietK Tryd.mixed ?_
                          refine QK.det trivial (Yields.ldA rfl rfl (lab_at (a := a) (by simp))) ?_
                          refine QK.det trivial (Yields.ldA rfl rfl (lab_at (a := meetB a b) (by simp))) ?_
                          refine QK.call trivial rfl (join_b (a := a) (b := meetB a b)) ?_
                          refine QK.det trivial (Yields.ldA rfl rfl (lab_at (a := a) (by simp))) ?_
                          refine QK.det trivial (Yields.eqA rfl rfl (eq_lab (joinB (a) (meetB a b)) (a))) ?_
                          refine QK.bool trivial (Yields.pure rfl) (fun g107 => ?_) (fun g107 => ?_)
                          · try simp only [bne_iff_ne, beq_iff_eq, Bool.not_eq_true', Bool.not_eq_false', ne_eq, Decidable.not_not] at g107
                            refine QK.det rfl (Yields.ldA rfl rfl (lab_at (a := a) (by simp))) ?_
                            refine QK.det rfl (Yields.ldA rfl rfl (lab_at (a := joinB a b) (by simp))) ?_
                            refine QK.call rfl rfl (meet_b (a := a) (b := joinB a b)) ?_
                            refine QK.det rfl (Yields.ldA rfl rfl (lab_at (a := a) (by simp))) ?_
                            refine QK.det rfl (Yields.eqA rfl rfl (eq_lab (meetB (a) (joinB a b)) (a))) ?_
                            refine QK.det trivial (Yields.pure rfl) ?_
                            refine QK.bool trivial (Yields.pure rfl) (fun g114 => ?_) (fun g114 => ?_)
                            · try simp only [bne_iff_ne, beq_iff_eq, Bool.not_eq_true', Bool.not_eq_false', ne_eq, Decidable.not_not] at g114
                              refine QK.det rfl (Yields.ldA rfl rfl (lab_at (a := a) (by simp))) ?_
                              refine QK.det rfl (Yields.ldA rfl rfl (lab_at (a := b) (by simp))) ?_
                              refine QK.call rfl rfl (below_b (a := a) (b := b)) ?_
                              refine QK.det rfl (Yields.ldA rfl rfl (lab_at (a := joinB a b) (by simp))) ?_
                              refine QK.det rfl (Yields.ldA rfl rfl (lab_at (a := b) (by simp))) ?_
                              refine QK.det rfl (Yields.eqA rfl rfl (eq_lab (joinB a b) (b))) ?_
                              refine QK.det rfl (Yields.pure rfl) ?_
                              refine QK.det trivial (Yields.pure rfl) ?_
                              refine QK.bool trivial (Yields.pure rfl) (fun g123 => ?_) (fun g123 => ?_)
                              · try simp only [bne_iff_ne, beq_iff_eq, Bool.not_eq_true', Bool.not_eq_false', ne_eq, Decidable.not_not] at g123
                                refine QK.det rfl (Yields.pure rfl) ?_
                                refine QK.det rfl (Yields.pure rfl) ?_
                                refine QK.bool rfl (Yields.pure rfl) (fun g126 => ?_) (fun g126 => ?_)
                                · try simp only [bne_iff_ne, beq_iff_eq, Bool.not_eq_true', Bool.not_eq_false', ne_eq, Decidable.not_not] at g126
                                  refine QK.off rfl rfl ?_
                                  refine QK.off rfl rfl ?_
                                  refine QK.off rfl rfl ?_
                                  refine QK.off rfl rfl ?_
                                  refine QK.off rfl rfl ?_
                                  refine QK.off rfl rfl ?_
                                  refine QK.nil ?_
                                  change OL _ _ _ [_, _, _, _, _, _, _, _] _ _ _
                                  refine OL.off rfl rfl ?_
                                  refine OL.off rfl rfl ?_
                                  refine OL.det rfl (Yields.pure rfl) ?_
                                  refine OL.det trivial (Yields.pure rfl) ?_
                                  refine OL.det trivial (Yields.pure rfl) ?_
                                  refine OL.call rfl rfl (awake_fc hg) ?_
                                  rintro _ _ ⟨rfl, rfl⟩
                                  refine OL.det trivial (Yields.pure rfl) ?_
                                  refine OL.det trivial (Yields.pure rfl) ?_
                                  refine OL.nil ?_
                                  refine hK29 _ _ ?_
                                  refine PW.keep (T' := [(6, _)]) ⟨rfl, trivial⟩ ?_
                                  refine PW.ret ?_
                                  change (Exit.ret = Exit.normal ∨ Exit.ret = Exit.ret) ∧ ∃ v, resV _ _ = some v ∧ _
                                  exact ⟨.inr rfl, _, rfl, rfl⟩
                                · try simp only [bne_iff_ne, beq_iff_eq, Bool.not_eq_true', Bool.not_eq_false', ne_eq, Decidable.not_not] at g126
                                  refine QK.det rfl (Yields.build rfl) ?_
                                  refine QK.det rfl (Yields.ldA rfl rfl (lab_at (a := a) (by simp))) ?_
                                  refine QK.call rfl rfl (below_b (a := botB) (b := a)) ?_
                                  refine QK.bool rfl (Yields.pure rfl) (fun g130 => ?_) (fun g130 => ?_)
                                  · try simp only [bne_iff_ne, beq_iff_eq, Bool.not_eq_true', Bool.not_eq_false', ne_eq, Decidable.not_not] at g130
                                    refine QK.det rfl (Yields.ldA rfl rfl (lab_at (a := a) (by simp))) ?_
                                    refine QK.call rfl rfl (top_b) ?_
                                    refine QK.nil ?_
                                    change OL _ _ _ [_, _, _, _, _, _, _, _] _ _ _
                                    refine OL.call rfl rfl (below_b (a := a) (b := topB)) ?_
                                    rintro _ _ ⟨rfl, rfl⟩
                                    refine OL.det rfl (Yields.pure rfl) ?_
                                    refine OL.det rfl (Yields.pure rfl) ?_
                                    refine OL.det trivial (Yields.pure rfl) ?_
                                    refine OL.bool trivial (Yields.pure rfl) (fun g137 => ?_) (fun g137 => ?_)
                                    · try simp only [bne_iff_ne, beq_iff_eq, Bool.not_eq_true', Bool.not_eq_false', ne_eq, Decidable.not_not] at g137
                                      refine OL.call rfl rfl (awake_fc hg) ?_
                                      rintro _ _ ⟨rfl, rfl⟩
                                      refine OL.det trivial (Yields.pure rfl) ?_
                                      refine OL.det trivial (Yields.pure rfl) ?_
                                      refine OL.nil ?_
                                      refine hK29 _ _ ?_
                                      refine PW.keep (T' := [(6, _)]) ⟨rfl, trivial⟩ ?_
                                      refine PW.ret ?_
                                      change (Exit.ret = Exit.normal ∨ Exit.ret = Exit.ret) ∧ ∃ v, resV _ _ = some v ∧ _
                                      exact ⟨.inr rfl, _, rfl, rfl⟩
                                    · try simp only [bne_iff_ne, beq_iff_eq, Bool.not_eq_true', Bool.not_eq_false', ne_eq, Decidable.not_not] at g137
                                      exfalso; rw [below_top (may_of g126).2] at g137; cases g137
                                      -- done
                                  · try simp only [bne_iff_ne, beq_iff_eq, Bool.not_eq_true', Bool.not_eq_false', ne_eq, Decidable.not_not] at g130
                                    exfalso; rw [bot_below (may_of g126).1] at g130; cases g130
                                    -- done
                              · try simp only [bne_iff_ne, beq_iff_eq, Bool.not_eq_true', Bool.not_eq_false', ne_eq, Decidable.not_not] at g123
                                exfalso; rw [below_is_join a b] at g123; revert g123; simp
                                -- done
                            · try simp only [bne_iff_ne, beq_iff_eq, Bool.not_eq_true', Bool.not_eq_false', ne_eq, Decidable.not_not] at g114
                              exfalso; rw [show meetB a (joinB a b) = a from meet_join a b] at g114; revert g114; simp
                              -- done
                          · try simp only [bne_iff_ne, beq_iff_eq, Bool.not_eq_true', Bool.not_eq_false', ne_eq, Decidable.not_not] at g107
                            exfalso; rw [show joinB a (meetB a b) = a from join_meet a b] at g107; revert g107; simp
                            -- done
                      · try simp only [bne_iff_ne, beq_iff_eq, Bool.not_eq_true', Bool.not_eq_false', ne_eq, Decidable.not_not] at g89
                        refine QK.off rfl rfl ?_
                        refine QK.off rfl rfl ?_
                        refine QK.off rfl rfl ?_
                        refine QK.off rfl rfl ?_
                        refine QK.off rfl rfl ?_
                        refine QK.nil ?_
                        change OL _ _ _ [_, _, _, _] _ _ _
                        refine OL.off rfl rfl ?_
                        refine OL.off rfl rfl ?_
                        refine OL.det rfl (Yields.pure rfl) ?_
                        refine OL.det trivial (Yields.pure rfl) ?_
                        refine OL.nil ?_
                        refine hK26 _ _ ?_
                        refine PW.keep (T' := [(3, _), (4, _), (7, _), (8, _), (98, _)]) ⟨rfl, rfl, rfl, rfl, rfl, trivial⟩ ?_
                        refine PW.ite (b := false) rfl ?_
                        rw [if_neg Bool.false_ne_true]
                        refine PW.skip ?_
                        refine hK25 _ _ ?_
                        refine PW.keep (T' := [(3, _), (4, _), (7, _), (8, _)]) ⟨rfl, rfl, rfl, rfl, trivial⟩ ?_
                        refine PW.seqOps ?_
                        refine OL.det trivial (Yields.ldA rfl rfl (lab_at (a := a) (by simp))) ?_
                        refine OL.call trivial rfl (check_b (a := a)) ?_
                        rintro _ _ ⟨rfl, rfl⟩
                        refine OL.det trivial (Yields.pure rfl) ?_
                        refine OL.det trivial (Yields.pure rfl) ?_
                        refine OL.nil ?_
                        refine PW.keep (T' := [(3, _), (4, _), (7, _), (8, _), (9, _)]) ⟨rfl, rfl, rfl, rfl, rfl, trivial⟩ ?_
                        refine PW.seq fun K30 hK30 => ?_
                        refine PW.quietK Tryd.mixed ?_
                        refine QK.det trivial (Yields.ldA rfl rfl (lab_at (a := a) (by simp))) ?_
                        refine QK.det trivial (Yields.ldA rfl rfl (lab_at (a := meetB a b) (by simp))) ?_
                        refine QK.call trivial rfl (join_b (a := a) (b := meetB a b)) ?_
                        refine QK.det trivial (Yields.ldA rfl rfl (lab_at (a := a) (by simp))) ?_
                        refine QK.det trivial (Yields.eqA rfl rfl (eq_lab (joinB (a) (meetB a b)) (a))) ?_
                        refine QK.bool trivial (Yields.pure rfl) (fun g107 => ?_) (fun g107 => ?_)
                        · try simp only [bne_iff_ne, beq_iff_eq, Bool.not_eq_true', Bool.not_eq_false', ne_eq, Decidable.not_not] at g107
                          refine QK.det rfl (Yields.ldA rfl rfl (lab_at (a := a) (by simp))) ?_
                          refine QK.det rfl (Yields.ldA rfl rfl (lab_at (a := joinB a b) (by simp))) ?_
                          refine QK.call rfl rfl (meet_b (a := a) (b := joinB a b)) ?_
                          refine QK.det rfl (Yields.ldA rfl rfl (lab_at (a := a) (by simp))) ?_
                          refine QK.det rfl (Yields.eqA rfl rfl (eq_lab (meetB (a) (joinB a b)) (a))) ?_
                          refine QK.det trivial (Yields.pure rfl) ?_
                          refine QK.bool trivial (Yields.pure rfl) (fun g114 => ?_) (fun g114 => ?_)
                          · try simp only [bne_iff_ne, beq_iff_eq, Bool.not_eq_true', Bool.not_eq_false', ne_eq, Decidable.not_not] at g114
                            refine QK.det rfl (Yields.ldA rfl rfl (lab_at (a := a) (by simp))) ?_
                            refine QK.det rfl (Yields.ldA rfl rfl (lab_at (a := b) (by simp))) ?_
                            refine QK.call rfl rfl (below_b (a := a) (b := b)) ?_
                            refine QK.det rfl (Yields.ldA rfl rfl (lab_at (a := joinB a b) (by simp))) ?_
                            refine QK.det rfl (Yields.ldA rfl rfl (lab_at (a := b) (by simp))) ?_
                            refine QK.det rfl (Yields.eqA rfl rfl (eq_lab (joinB a b) (b))) ?_
                            refine QK.det rfl (Yields.pure rfl) ?_
                            refine QK.det trivial (Yields.pure rfl) ?_
                            refine QK.bool trivial (Yields.pure rfl) (fun g123 => ?_) (fun g123 => ?_)
                            · try simp only [bne_iff_ne, beq_iff_eq, Bool.not_eq_true', Bool.not_eq_false', ne_eq, Decidable.not_not] at g123
                              refine QK.det rfl (Yields.pure rfl) ?_
                              refine QK.det rfl (Yields.pure rfl) ?_
                              refine QK.bool rfl (Yields.pure rfl) (fun g126 => ?_) (fun g126 => ?_)
                              · try simp only [bne_iff_ne, beq_iff_eq, Bool.not_eq_true', Bool.not_eq_false', ne_eq, Decidable.not_not] at g126
                                refine QK.off rfl rfl ?_
                                refine QK.off rfl rfl ?_
                                refine QK.off rfl rfl ?_
                                refine QK.off rfl rfl ?_
                                refine QK.off rfl rfl ?_
                                refine QK.off rfl rfl ?_
                                refine QK.nil ?_
                                change OL _ _ _ [_, _, _, _, _, _, _, _] _ _ _
                                refine OL.off rfl rfl ?_
                                refine OL.off rfl rfl ?_
                                refine OL.det rfl (Yields.pure rfl) ?_
                                refine OL.det trivial (Yields.pure rfl) ?_
                                refine OL.det trivial (Yields.pure rfl) ?_
                                refine OL.call rfl rfl (awake_fc hg) ?_
                                rintro _ _ ⟨rfl, rfl⟩
                                refine OL.det trivial (Yields.pure rfl) ?_
                                refine OL.det trivial (Yields.pure rfl) ?_
                                refine OL.nil ?_
                                refine hK30 _ _ ?_
                                refine PW.keep (T' := [(6, _)]) ⟨rfl, trivial⟩ ?_
                                refine PW.ret ?_
                                change (Exit.ret = Exit.normal ∨ Exit.ret = Exit.ret) ∧ ∃ v, resV _ _ = some v ∧ _
                                exact ⟨.inr rfl, _, rfl, rfl⟩
                              · try simp only [bne_iff_ne, beq_iff_eq, Bool.not_eq_true', Bool.not_eq_false', ne_eq, Decidable.not_not] at g126
                                refine QK.det rfl (Yields.build rfl) ?_
                                refine QK.det rfl (Yields.ldA rfl rfl (lab_at (a := a) (by simp))) ?_
                                refine QK.call rfl rfl (below_b (a := botB) (b := a)) ?_
                                refine QK.bool rfl (Yields.pure rfl) (fun g130 => ?_) (fun g130 => ?_)
                                · try simp only [bne_iff_ne, beq_iff_eq, Bool.not_eq_true', Bool.not_eq_false', ne_eq, Decidable.not_not] at g130
                                  refine QK.det rfl (Yields.ldA rfl rfl (lab_at (a := a) (by simp))) ?_
                                  refine QK.call rfl rfl (top_b) ?_
                                  refine QK.nil ?_
                                  change OL _ _ _ [_, _, _, _, _, _, _, _] _ _ _
                                  refine OL.call rfl rfl (below_b (a := a) (b := topB)) ?_
                                  rintro _ _ ⟨rfl, rfl⟩
                                  refine OL.det rfl (Yields.pure rfl) ?_
                                  refine OL.det rfl (Yields.pure rfl) ?_
                                  refine OL.det trivial (Yields.pure rfl) ?_
                                  refine OL.bool trivial (Yields.pure rfl) (fun g137 => ?_) (fun g137 => ?_)
                                  · try simp only [bne_iff_ne, beq_iff_eq, Bool.not_eq_true', Bool.not_eq_false', ne_eq, Decidable.not_not] at g137
                                    refine OL.call rfl rfl (awake_fc hg) ?_
                                    rintro _ _ ⟨rfl, rfl⟩
                                    refine OL.det trivial (Yields.pure rfl) ?_
                                    refine OL.det trivial (Yields.pure rfl) ?_
                                    refine OL.nil ?_
                                    refine hK30 _ _ ?_
                                    refine PW.keep (T' := [(6, _)]) ⟨rfl, trivial⟩ ?_
                                    refine PW.ret ?_
                                    change (Exit.ret = Exit.normal ∨ Exit.ret = Exit.ret) ∧ ∃ v, resV _ _ = some v ∧ _
                                    exact ⟨.inr rfl, _, rfl, rfl⟩
                                  · try simp only [bne_iff_ne, beq_iff_eq, Bool.not_eq_true', Bool.not_eq_false', ne_eq, Decidable.not_not] at g137
                                    exfalso; rw [below_top (may_of g126).2] at g137; cases g137
                                    -- done
                                · try simp only [bne_iff_ne, beq_iff_eq, Bool.not_eq_true', Bool.not_eq_false', ne_eq, Decidable.not_not] at g130
                                  exfalso; rw [bot_below (may_of g126).1] at g130; cases g130
                                  -- done
                            · try simp only [bne_iff_ne, beq_iff_eq, Bool.not_eq_true', Bool.not_eq_false', ne_eq, Decidable.not_not] at g123
                              exfalso; rw [below_is_join a b] at g123; revert g123; simp
                              -- done
                          · try simp only [bne_iff_ne, beq_iff_eq, Bool.not_eq_true', Bool.not_eq_false', ne_eq, Decidable.not_not] at g114
                            exfalso; rw [show meetB a (joinB a b) = a from meet_join a b] at g114; revert g114; simp
                            -- done
                        · try simp only [bne_iff_ne, beq_iff_eq, Bool.not_eq_true', Bool.not_eq_false', ne_eq, Decidable.not_not] at g107
                          exfalso; rw [show joinB a (meetB a b) = a from join_meet a b] at g107; revert g107; simp
                          -- done
        · exfalso; rw [g24] at g40; cases g40
    · try simp only [bne_iff_ne, beq_iff_eq, Bool.not_eq_true', Bool.not_eq_false', ne_eq, Decidable.not_not] at g24
      refine OL.off rfl rfl ?_
      refine OL.off rfl rfl ?_
      refine OL.off rfl rfl ?_
      refine OL.det rfl (Yields.pure rfl) ?_
      refine OL.det rfl (Yields.pure rfl) ?_
      refine OL.off rfl rfl ?_
      refine OL.off rfl rfl ?_
      refine OL.off rfl rfl ?_
      refine OL.off rfl rfl ?_
      refine OL.det rfl (Yields.pure rfl) ?_
      refine OL.det trivial (Yields.pure rfl) ?_
      refine OL.det trivial (Yields.pure rfl) ?_
      refine OL.det rfl (Yields.ldA rfl rfl (lab_at (a := a) (by simp))) ?_
      refine OL.det rfl (Yields.ldA rfl rfl (lab_at (a := b) (by simp))) ?_
      refine OL.call rfl rfl (below_b (a := a) (b := b)) ?_
      rintro _ _ ⟨rfl, rfl⟩
      refine OL.bool rfl (Yields.pure rfl) (fun g40 => ?_) (fun g40 => ?_)
      · exfalso; rw [g24] at g40; cases g40
      · try simp only [bne_iff_ne, beq_iff_eq, Bool.not_eq_true', Bool.not_eq_false', ne_eq, Decidable.not_not] at g40
        refine OL.off rfl rfl ?_
        refine OL.off rfl rfl ?_
        refine OL.off rfl rfl ?_
        refine OL.det rfl (Yields.pure rfl) ?_
        refine OL.det rfl (Yields.pure rfl) ?_
        refine OL.off rfl rfl ?_
        refine OL.off rfl rfl ?_
        refine OL.off rfl rfl ?_
        refine OL.det rfl (Yields.pure rfl) ?_
        refine OL.det trivial (Yields.pure rfl) ?_
        refine OL.nil ?_
        refine PW.keep (T' := [(3, _), (4, _), (5, _), (7, _), (8, _), (50, _)]) ⟨rfl, rfl, rfl, rfl, rfl, rfl, trivial⟩ ?_
        refine PW.ite (b := false) rfl ?_
        rw [if_neg Bool.false_ne_true]
        refine PW.skip ?_
        refine hK2 _ _ ?_
        refine PW.keep (T' := [(3, _), (4, _), (5, _), (7, _), (8, _)]) ⟨rfl, rfl, rfl, rfl, rfl, trivial⟩ ?_
        refine PW.seq fun K31 hK31 => ?_
        refine PW.seqOps ?_
        refine OL.det trivial (Yields.ldA rfl rfl (lab_at (a := a) (by simp))) ?_
        refine OL.det trivial (Yields.ldA rfl rfl (lab_at (a := joinB a b) (by simp))) ?_
        refine OL.call trivial rfl (below_b (a := a) (b := joinB a b)) ?_
        rintro _ _ ⟨rfl, rfl⟩
        refine OL.det trivial (Yields.pure rfl) ?_
        refine OL.bool trivial (Yields.pure rfl) (fun g55 => ?_) (fun g55 => ?_)
        · try simp only [bne_iff_ne, beq_iff_eq, Bool.not_eq_true', Bool.not_eq_false', ne_eq, Decidable.not_not] at g55
          exfalso; rw [below_join_l] at g55; revert g55; simp
          -- done
        · try simp only [bne_iff_ne, beq_iff_eq, Bool.not_eq_true', Bool.not_eq_false', ne_eq, Decidable.not_not] at g55
          refine OL.det rfl (Yields.ldA rfl rfl (lab_at (a := b) (by simp))) ?_
          refine OL.det rfl (Yields.ldA rfl rfl (lab_at (a := joinB a b) (by simp))) ?_
          refine OL.call rfl rfl (below_b (a := b) (b := joinB a b)) ?_
          rintro _ _ ⟨rfl, rfl⟩
          refine OL.det rfl (Yields.pure rfl) ?_
          refine OL.det trivial (Yields.pure rfl) ?_
          refine OL.bool trivial (Yields.pure rfl) (fun g61 => ?_) (fun g61 => ?_)
          · try simp only [bne_iff_ne, beq_iff_eq, Bool.not_eq_true', Bool.not_eq_false', ne_eq, Decidable.not_not] at g61
            exfalso; rw [below_join_r] at g61; revert g61; simp
            -- done
          · try simp only [bne_iff_ne, beq_iff_eq, Bool.not_eq_true', Bool.not_eq_false', ne_eq, Decidable.not_not] at g61
            refine OL.det rfl (Yields.ldA rfl rfl (lab_at (a := meetB a b) (by simp))) ?_
            refine OL.det rfl (Yields.ldA rfl rfl (lab_at (a := a) (by simp))) ?_
            refine OL.call rfl rfl (below_b (a := meetB a b) (b := a)) ?_
            rintro _ _ ⟨rfl, rfl⟩
            refine OL.det rfl (Yields.pure rfl) ?_
            refine OL.det trivial (Yields.pure rfl) ?_
            refine OL.bool trivial (Yields.pure rfl) (fun g67 => ?_) (fun g67 => ?_)
            · try simp only [bne_iff_ne, beq_iff_eq, Bool.not_eq_true', Bool.not_eq_false', ne_eq, Decidable.not_not] at g67
              exfalso; rw [meet_below_l] at g67; revert g67; simp
              -- done
            · try simp only [bne_iff_ne, beq_iff_eq, Bool.not_eq_true', Bool.not_eq_false', ne_eq, Decidable.not_not] at g67
              refine OL.det rfl (Yields.ldA rfl rfl (lab_at (a := meetB a b) (by simp))) ?_
              refine OL.det rfl (Yields.ldA rfl rfl (lab_at (a := b) (by simp))) ?_
              refine OL.call rfl rfl (below_b (a := meetB a b) (b := b)) ?_
              rintro _ _ ⟨rfl, rfl⟩
              refine OL.det rfl (Yields.pure rfl) ?_
              refine OL.det trivial (Yields.pure rfl) ?_
              refine OL.nil ?_
              refine PW.keep (T' := [(3, _), (4, _), (5, _), (7, _), (8, _), (72, _)]) ⟨rfl, rfl, rfl, rfl, rfl, rfl, trivial⟩ ?_
              refine PW.cond rfl (fun c72 => ?_) (fun c72 => ?_)
              · try simp only [bne_iff_ne, beq_iff_eq, Bool.not_eq_true', Bool.not_eq_false', ne_eq, Decidable.not_not] at c72
                exfalso; rw [meet_below_r] at c72; revert c72; simp
                -- done
              · try simp only [bne_iff_ne, beq_iff_eq, Bool.not_eq_true', Bool.not_eq_false', ne_eq, Decidable.not_not] at c72
                refine PW.skip ?_
                refine hK31 _ _ ?_
                refine PW.keep (T' := [(3, _), (4, _), (5, _), (7, _), (8, _)]) ⟨rfl, rfl, rfl, rfl, rfl, trivial⟩ ?_
                refine PW.seq fun K32 hK32 => ?_
                refine PW.seq fun K33 hK33 => ?_
                refine PW.quiet2QK Tryd.mixed ?_
                refine QK.det trivial (Yields.ldA rfl rfl (lab_at (a := a) (by simp))) ?_
                refine QK.det trivial (Yields.ldA rfl rfl (lab_at (a := c) (by simp))) ?_
                refine QK.call trivial rfl (below_b (a := a) (b := c)) ?_
                refine QK.bool trivial (Yields.pure rfl) (fun g76 => ?_) (fun g76 => ?_)
                · try simp only [bne_iff_ne, beq_iff_eq, Bool.not_eq_true', Bool.not_eq_false', ne_eq, Decidable.not_not] at g76
                  refine QK.det rfl (Yields.ldA rfl rfl (lab_at (a := b) (by simp))) ?_
                  refine QK.det rfl (Yields.ldA rfl rfl (lab_at (a := c) (by simp))) ?_
                  refine QK.call rfl rfl (below_b (a := b) (b := c)) ?_
                  refine QK.det rfl (Yields.ldA rfl rfl (lab_at (a := joinB a b) (by simp))) ?_
                  refine QK.det rfl (Yields.ldA rfl rfl (lab_at (a := c) (by simp))) ?_
                  refine QK.call rfl rfl (below_b (a := joinB a b) (b := c)) ?_
                  refine QK.det rfl (Yields.pure rfl) ?_
                  refine QK.det trivial (Yields.pure rfl) ?_
                  refine QK.bool trivial (Yields.pure rfl) (fun g85 => ?_) (fun g85 => ?_)
                  · try simp only [bne_iff_ne, beq_iff_eq, Bool.not_eq_true', Bool.not_eq_false', ne_eq, Decidable.not_not] at g85
                    exfalso; rw [join_least g76, beq_self_eq_true] at g85; cases g85
                    -- done
                  · try simp only [bne_iff_ne, beq_iff_eq, Bool.not_eq_true', Bool.not_eq_false', ne_eq, Decidable.not_not] at g85
                    refine QK.det rfl (Yields.ldA rfl rfl (lab_at (a := c) (by simp))) ?_
                    refine QK.det rfl (Yields.ldA rfl rfl (lab_at (a := a) (by simp))) ?_
                    refine QK.call rfl rfl (below_b (a := c) (b := a)) ?_
                    refine QK.bool rfl (Yields.pure rfl) (fun g89 => ?_) (fun g89 => ?_)
                    · try simp only [bne_iff_ne, beq_iff_eq, Bool.not_eq_true', Bool.not_eq_false', ne_eq, Decidable.not_not] at g89
                      refine QK.det rfl (Yields.ldA rfl rfl (lab_at (a := c) (by simp))) ?_
                      refine QK.det rfl (Yields.ldA rfl rfl (lab_at (a := b) (by simp))) ?_
                      refine QK.call rfl rfl (below_b (a := c) (b := b)) ?_
                      refine QK.det rfl (Yields.ldA rfl rfl (lab_at (a := c) (by simp))) ?_
                      refine QK.det rfl (Yields.ldA rfl rfl (lab_at (a := meetB a b) (by simp))) ?_
                      refine QK.nil ?_
                      change OL _ _ _ [_, _, _, _] _ _ _
                      refine OL.call rfl rfl (below_b (a := c) (b := meetB a b)) ?_
                      rintro _ _ ⟨rfl, rfl⟩
                      refine OL.det rfl (Yields.pure rfl) ?_
                      refine OL.det rfl (Yields.pure rfl) ?_
                      refine OL.det trivial (Yields.pure rfl) ?_
                      refine OL.nil ?_
                      refine hK33 _ _ ?_
                      refine PW.keep (T' := [(3, _), (4, _), (7, _), (8, _), (98, _)]) ⟨rfl, rfl, rfl, rfl, rfl, trivial⟩ ?_
                      refine PW.cond rfl (fun c98 => ?_) (fun c98 => ?_)
                      · try simp only [bne_iff_ne, beq_iff_eq, Bool.not_eq_true', Bool.not_eq_false', ne_eq, Decidable.not_not] at c98
                        exfalso; rw [meet_most g89, beq_self_eq_true] at c98; cases c98
                        -- done
                      · try simp only [bne_iff_ne, beq_iff_eq, Bool.not_eq_true', Bool.not_eq_false', ne_eq, Decidable.not_not] at c98
                        refine PW.skip ?_
                        refine hK32 _ _ ?_
                        refine PW.keep (T' := [(3, _), (4, _), (7, _), (8, _)]) ⟨rfl, rfl, rfl, rfl, trivial⟩ ?_
                        refine PW.seqOps ?_
                        refine OL.det trivial (Yields.ldA rfl rfl (lab_at (a := a) (by simp))) ?_
                        refine OL.call trivial rfl (check_b (a := a)) ?_
                        rintro _ _ ⟨rfl, rfl⟩
                        refine OL.det trivial (Yields.pure rfl) ?_
                        refine OL.det trivial (Yields.pure rfl) ?_
                        refine OL.nil ?_
                        refine PW.keep (T' := [(3, _), (4, _), (7, _), (8, _), (9, _)]) ⟨rfl, rfl, rfl, rfl, rfl, trivial⟩ ?_
                        refine PW.seq fun K34 hK34 => ?_
                        refine PW.quietK Tryd.mixed ?_
                        refine QK.det trivial (Yields.ldA rfl rfl (lab_at (a := a) (by simp))) ?_
                        refine QK.det trivial (Yields.ldA rfl rfl (lab_at (a := meetB a b) (by simp))) ?_
                        refine QK.call trivial rfl (join_b (a := a) (b := meetB a b)) ?_
                        refine QK.det trivial (Yields.ldA rfl rfl (lab_at (a := a) (by simp))) ?_
                        refine QK.det trivial (Yields.eqA rfl rfl (eq_lab (joinB (a) (meetB a b)) (a))) ?_
                        refine QK.bool trivial (Yields.pure rfl) (fun g107 => ?_) (fun g107 => ?_)
                        · try simp only [bne_iff_ne, beq_iff_eq, Bool.not_eq_true', Bool.not_eq_false', ne_eq, Decidable.not_not] at g107
                          refine QK.det rfl (Yields.ldA rfl rfl (lab_at (a := a) (by simp))) ?_
                          refine QK.det rfl (Yields.ldA rfl rfl (lab_at (a := joinB a b) (by simp))) ?_
                          refine QK.call rfl rfl (meet_b (a := a) (b := joinB a b)) ?_
                          refine QK.det rfl (Yields.ldA rfl rfl (lab_at (a := a) (by simp))) ?_
                          refine QK.det rfl (Yields.eqA rfl rfl (eq_lab (meetB (a) (joinB a b)) (a))) ?_
                          refine QK.det trivial (Yields.pure rfl) ?_
                          refine QK.bool trivial (Yields.pure rfl) (fun g114 => ?_) (fun g114 => ?_)
                          · try simp only [bne_iff_ne, beq_iff_eq, Bool.not_eq_true', Bool.not_eq_false', ne_eq, Decidable.not_not] at g114
                            refine QK.det rfl (Yields.ldA rfl rfl (lab_at (a := a) (by simp))) ?_
                            refine QK.det rfl (Yields.ldA rfl rfl (lab_at (a := b) (by simp))) ?_
                            refine QK.call rfl rfl (below_b (a := a) (b := b)) ?_
                            refine QK.det rfl (Yields.ldA rfl rfl (lab_at (a := joinB a b) (by simp))) ?_
                            refine QK.det rfl (Yields.ldA rfl rfl (lab_at (a := b) (by simp))) ?_
                            refine QK.det rfl (Yields.eqA rfl rfl (eq_lab (joinB a b) (b))) ?_
                            refine QK.det rfl (Yields.pure rfl) ?_
                            refine QK.det trivial (Yields.pure rfl) ?_
                            refine QK.bool trivial (Yields.pure rfl) (fun g123 => ?_) (fun g123 => ?_)
                            · try simp only [bne_iff_ne, beq_iff_eq, Bool.not_eq_true', Bool.not_eq_false', ne_eq, Decidable.not_not] at g123
                              refine QK.det rfl (Yields.pure rfl) ?_
                              refine QK.det rfl (Yields.pure rfl) ?_
                              refine QK.bool rfl (Yields.pure rfl) (fun g126 => ?_) (fun g126 => ?_)
                              · try simp only [bne_iff_ne, beq_iff_eq, Bool.not_eq_true', Bool.not_eq_false', ne_eq, Decidable.not_not] at g126
                                refine QK.off rfl rfl ?_
                                refine QK.off rfl rfl ?_
                                refine QK.off rfl rfl ?_
                                refine QK.off rfl rfl ?_
                                refine QK.off rfl rfl ?_
                                refine QK.off rfl rfl ?_
                                refine QK.nil ?_
                                change OL _ _ _ [_, _, _, _, _, _, _, _] _ _ _
                                refine OL.off rfl rfl ?_
                                refine OL.off rfl rfl ?_
                                refine OL.det rfl (Yields.pure rfl) ?_
                                refine OL.det trivial (Yields.pure rfl) ?_
                                refine OL.det trivial (Yields.pure rfl) ?_
                                refine OL.call rfl rfl (awake_fc hg) ?_
                                rintro _ _ ⟨rfl, rfl⟩
                                refine OL.det trivial (Yields.pure rfl) ?_
                                refine OL.det trivial (Yields.pure rfl) ?_
                                refine OL.nil ?_
                                refine hK34 _ _ ?_
                                refine PW.keep (T' := [(6, _)]) ⟨rfl, trivial⟩ ?_
                                refine PW.ret ?_
                                change (Exit.ret = Exit.normal ∨ Exit.ret = Exit.ret) ∧ ∃ v, resV _ _ = some v ∧ _
                                exact ⟨.inr rfl, _, rfl, rfl⟩
                              · try simp only [bne_iff_ne, beq_iff_eq, Bool.not_eq_true', Bool.not_eq_false', ne_eq, Decidable.not_not] at g126
                                refine QK.det rfl (Yields.build rfl) ?_
                                refine QK.det rfl (Yields.ldA rfl rfl (lab_at (a := a) (by simp))) ?_
                                refine QK.call rfl rfl (below_b (a := botB) (b := a)) ?_
                                refine QK.bool rfl (Yields.pure rfl) (fun g130 => ?_) (fun g130 => ?_)
                                · try simp only [bne_iff_ne, beq_iff_eq, Bool.not_eq_true', Bool.not_eq_false', ne_eq, Decidable.not_not] at g130
                                  refine QK.det rfl (Yields.ldA rfl rfl (lab_at (a := a) (by simp))) ?_
                                  refine QK.call rfl rfl (top_b) ?_
                                  refine QK.nil ?_
                                  change OL _ _ _ [_, _, _, _, _, _, _, _] _ _ _
                                  refine OL.call rfl rfl (below_b (a := a) (b := topB)) ?_
                                  rintro _ _ ⟨rfl, rfl⟩
                                  refine OL.det rfl (Yields.pure rfl) ?_
                                  refine OL.det rfl (Yields.pure rfl) ?_
                                  refine OL.det trivial (Yields.pure rfl) ?_
                                  refine OL.bool trivial (Yields.pure rfl) (fun g137 => ?_) (fun g137 => ?_)
                                  · try simp only [bne_iff_ne, beq_iff_eq, Bool.not_eq_true', Bool.not_eq_false', ne_eq, Decidable.not_not] at g137
                                    refine OL.call rfl rfl (awake_fc hg) ?_
                                    rintro _ _ ⟨rfl, rfl⟩
                                    refine OL.det trivial (Yields.pure rfl) ?_
                                    refine OL.det trivial (Yields.pure rfl) ?_
                                    refine OL.nil ?_
                                    refine hK34 _ _ ?_
                                    refine PW.keep (T' := [(6, _)]) ⟨rfl, trivial⟩ ?_
                                    refine PW.ret ?_
                                    change (Exit.ret = Exit.normal ∨ Exit.ret = Exit.ret) ∧ ∃ v, resV _ _ = some v ∧ _
                                    exact ⟨.inr rfl, _, rfl, rfl⟩
                                  · try simp only [bne_iff_ne, beq_iff_eq, Bool.not_eq_true', Bool.not_eq_false', ne_eq, Decidable.not_not] at g137
                                    exfalso; rw [below_top (may_of g126).2] at g137; cases g137
                                    -- done
                                · try simp only [bne_iff_ne, beq_iff_eq, Bool.not_eq_true', Bool.not_eq_false', ne_eq, Decidable.not_not] at g130
                                  exfalso; rw [bot_below (may_of g126).1] at g130; cases g130
                                  -- done
                            · try simp only [bne_iff_ne, beq_iff_eq, Bool.not_eq_true', Bool.not_eq_false', ne_eq, Decidable.not_not] at g123
                              exfalso; rw [below_is_join a b] at g123; revert g123; simp
                              -- done
                          · try simp only [bne_iff_ne, beq_iff_eq, Bool.not_eq_true', Bool.not_eq_false', ne_eq, Decidable.not_not] at g114
                            exfalso; rw [show meetB a (joinB a b) = a from meet_join a b] at g114; revert g114; simp
                            -- done
                        · try simp only [bne_iff_ne, beq_iff_eq, Bool.not_eq_true', Bool.not_eq_false', ne_eq, Decidable.not_not] at g107
                          exfalso; rw [show joinB a (meetB a b) = a from join_meet a b] at g107; revert g107; simp
                          -- done
                    · try simp only [bne_iff_ne, beq_iff_eq, Bool.not_eq_true', Bool.not_eq_false', ne_eq, Decidable.not_not] at g89
                      refine QK.off rfl rfl ?_
                      refine QK.off rfl rfl ?_
                      refine QK.off rfl rfl ?_
                      refine QK.off rfl rfl ?_
                      refine QK.off rfl rfl ?_
                      refine QK.nil ?_
                      change OL _ _ _ [_, _, _, _] _ _ _
                      refine OL.off rfl rfl ?_
                      refine OL.off rfl rfl ?_
                      refine OL.det rfl (Yields.pure rfl) ?_
                      refine OL.det trivial (Yields.pure rfl) ?_
                      refine OL.nil ?_
                      refine hK33 _ _ ?_
                      refine PW.keep (T' := [(3, _), (4, _), (7, _), (8, _), (98, _)]) ⟨rfl, rfl, rfl, rfl, rfl, trivial⟩ ?_
                      refine PW.ite (b := false) rfl ?_
                      rw [if_neg Bool.false_ne_true]
                      refine PW.skip ?_
                      refine hK32 _ _ ?_
                      refine PW.keep (T' := [(3, _), (4, _), (7, _), (8, _)]) ⟨rfl, rfl, rfl, rfl, trivial⟩ ?_
                      refine PW.seqOps ?_
                      refine OL.det trivial (Yields.ldA rfl rfl (lab_at (a := a) (by simp))) ?_
                      refine OL.call trivial rfl (check_b (a := a)) ?_
                      rintro _ _ ⟨rfl, rfl⟩
                      refine OL.det trivial (Yields.pure rfl) ?_
                      refine OL.det trivial (Yields.pure rfl) ?_
                      refine OL.nil ?_
                      refine PW.keep (T' := [(3, _), (4, _), (7, _), (8, _), (9, _)]) ⟨rfl, rfl, rfl, rfl, rfl, trivial⟩ ?_
                      refine PW.seq fun K35 hK35 => ?_
                      refine PW.quietK Tryd.mixed ?_
                      refine QK.det trivial (Yields.ldA rfl rfl (lab_at (a := a) (by simp))) ?_
                      refine QK.det trivial (Yields.ldA rfl rfl (lab_at (a := meetB a b) (by simp))) ?_
                      refine QK.call trivial rfl (join_b (a := a) (b := meetB a b)) ?_
                      refine QK.det trivial (Yields.ldA rfl rfl (lab_at (a := a) (by simp))) ?_
                      refine QK.det trivial (Yields.eqA rfl rfl (eq_lab (joinB (a) (meetB a b)) (a))) ?_
                      refine QK.bool trivial (Yields.pure rfl) (fun g107 => ?_) (fun g107 => ?_)
                      · try simp only [bne_iff_ne, beq_iff_eq, Bool.not_eq_true', Bool.not_eq_false', ne_eq, Decidable.not_not] at g107
                        refine QK.det rfl (Yields.ldA rfl rfl (lab_at (a := a) (by simp))) ?_
                        refine QK.det rfl (Yields.ldA rfl rfl (lab_at (a := joinB a b) (by simp))) ?_
                        refine QK.call rfl rfl (meet_b (a := a) (b := joinB a b)) ?_
                        refine QK.det rfl (Yields.ldA rfl rfl (lab_at (a := a) (by simp))) ?_
                        refine QK.det rfl (Yields.eqA rfl rfl (eq_lab (meetB (a) (joinB a b)) (a))) ?_
                        refine QK.det trivial (Yields.pure rfl) ?_
                        refine QK.bool trivial (Yields.pure rfl) (fun g114 => ?_) (fun g114 => ?_)
                        · try simp only [bne_iff_ne, beq_iff_eq, Bool.not_eq_true', Bool.not_eq_false', ne_eq, Decidable.not_not] at g114
                          refine QK.det rfl (Yields.ldA rfl rfl (lab_at (a := a) (by simp))) ?_
                          refine QK.det rfl (Yields.ldA rfl rfl (lab_at (a := b) (by simp))) ?_
                          refine QK.call rfl rfl (below_b (a := a) (b := b)) ?_
                          refine QK.det rfl (Yields.ldA rfl rfl (lab_at (a := joinB a b) (by simp))) ?_
                          refine QK.det rfl (Yields.ldA rfl rfl (lab_at (a := b) (by simp))) ?_
                          refine QK.det rfl (Yields.eqA rfl rfl (eq_lab (joinB a b) (b))) ?_
                          refine QK.det rfl (Yields.pure rfl) ?_
                          refine QK.det trivial (Yields.pure rfl) ?_
                          refine QK.bool trivial (Yields.pure rfl) (fun g123 => ?_) (fun g123 => ?_)
                          · try simp only [bne_iff_ne, beq_iff_eq, Bool.not_eq_true', Bool.not_eq_false', ne_eq, Decidable.not_not] at g123
                            refine QK.det rfl (Yields.pure rfl) ?_
                            refine QK.det rfl (Yields.pure rfl) ?_
                            refine QK.bool rfl (Yields.pure rfl) (fun g126 => ?_) (fun g126 => ?_)
                            · try simp only [bne_iff_ne, beq_iff_eq, Bool.not_eq_true', Bool.not_eq_false', ne_eq, Decidable.not_not] at g126
                              refine QK.off rfl rfl ?_
                              refine QK.off rfl rfl ?_
                              refine QK.off rfl rfl ?_
                              refine QK.off rfl rfl ?_
                              refine QK.off rfl rfl ?_
                              refine QK.off rfl rfl ?_
                              refine QK.nil ?_
                              change OL _ _ _ [_, _, _, _, _, _, _, _] _ _ _
                              refine OL.off rfl rfl ?_
                              refine OL.off rfl rfl ?_
                              refine OL.det rfl (Yields.pure rfl) ?_
                              refine OL.det trivial (Yields.pure rfl) ?_
                              refine OL.det trivial (Yields.pure rfl) ?_
                              refine OL.call rfl rfl (awake_fc hg) ?_
                              rintro _ _ ⟨rfl, rfl⟩
                              refine OL.det trivial (Yields.pure rfl) ?_
                              refine OL.det trivial (Yields.pure rfl) ?_
                              refine OL.nil ?_
                              refine hK35 _ _ ?_
                              refine PW.keep (T' := [(6, _)]) ⟨rfl, trivial⟩ ?_
                              refine PW.ret ?_
                              change (Exit.ret = Exit.normal ∨ Exit.ret = Exit.ret) ∧ ∃ v, resV _ _ = some v ∧ _
                              exact ⟨.inr rfl, _, rfl, rfl⟩
                            · try simp only [bne_iff_ne, beq_iff_eq, Bool.not_eq_true', Bool.not_eq_false', ne_eq, Decidable.not_not] at g126
                              refine QK.det rfl (Yields.build rfl) ?_
                              refine QK.det rfl (Yields.ldA rfl rfl (lab_at (a := a) (by simp))) ?_
                              refine QK.call rfl rfl (below_b (a := botB) (b := a)) ?_
                              refine QK.bool rfl (Yields.pure rfl) (fun g130 => ?_) (fun g130 => ?_)
                              · try simp only [bne_iff_ne, beq_iff_eq, Bool.not_eq_true', Bool.not_eq_false', ne_eq, Decidable.not_not] at g130
                                refine QK.det rfl (Yields.ldA rfl rfl (lab_at (a := a) (by simp))) ?_
                                refine QK.call rfl rfl (top_b) ?_
                                refine QK.nil ?_
                                change OL _ _ _ [_, _, _, _, _, _, _, _] _ _ _
                                refine OL.call rfl rfl (below_b (a := a) (b := topB)) ?_
                                rintro _ _ ⟨rfl, rfl⟩
                                refine OL.det rfl (Yields.pure rfl) ?_
                                refine OL.det rfl (Yields.pure rfl) ?_
                                refine OL.det trivial (Yields.pure rfl) ?_
                                refine OL.bool trivial (Yields.pure rfl) (fun g137 => ?_) (fun g137 => ?_)
                                · try simp only [bne_iff_ne, beq_iff_eq, Bool.not_eq_true', Bool.not_eq_false', ne_eq, Decidable.not_not] at g137
                                  refine OL.call rfl rfl (awake_fc hg) ?_
                                  rintro _ _ ⟨rfl, rfl⟩
                                  refine OL.det trivial (Yields.pure rfl) ?_
                                  refine OL.det trivial (Yields.pure rfl) ?_
                                  refine OL.nil ?_
                                  refine hK35 _ _ ?_
                                  refine PW.keep (T' := [(6, _)]) ⟨rfl, trivial⟩ ?_
                                  refine PW.ret ?_
                                  change (Exit.ret = Exit.normal ∨ Exit.ret = Exit.ret) ∧ ∃ v, resV _ _ = some v ∧ _
                                  exact ⟨.inr rfl, _, rfl, rfl⟩
                                · try simp only [bne_iff_ne, beq_iff_eq, Bool.not_eq_true', Bool.not_eq_false', ne_eq, Decidable.not_not] at g137
                                  exfalso; rw [below_top (may_of g126).2] at g137; cases g137
                                  -- done
                              · try simp only [bne_iff_ne, beq_iff_eq, Bool.not_eq_true', Bool.not_eq_false', ne_eq, Decidable.not_not] at g130
                                exfalso; rw [bot_below (may_of g126).1] at g130; cases g130
                                -- done
                          · try simp only [bne_iff_ne, beq_iff_eq, Bool.not_eq_true', Bool.not_eq_false', ne_eq, Decidable.not_not] at g123
                            exfalso; rw [below_is_join a b] at g123; revert g123; simp
                            -- done
                        · try simp only [bne_iff_ne, beq_iff_eq, Bool.not_eq_true', Bool.not_eq_false', ne_eq, Decidable.not_not] at g114
                          exfalso; rw [show meetB a (joinB a b) = a from meet_join a b] at g114; revert g114; simp
                          -- done
                      · try simp only [bne_iff_ne, beq_iff_eq, Bool.not_eq_true', Bool.not_eq_false', ne_eq, Decidable.not_not] at g107
                        exfalso; rw [show joinB a (meetB a b) = a from join_meet a b] at g107; revert g107; simp
                        -- done
                · try simp only [bne_iff_ne, beq_iff_eq, Bool.not_eq_true', Bool.not_eq_false', ne_eq, Decidable.not_not] at g76
                  refine QK.off rfl rfl ?_
                  refine QK.off rfl rfl ?_
                  refine QK.off rfl rfl ?_
                  refine QK.off rfl rfl ?_
                  refine QK.off rfl rfl ?_
                  refine QK.off rfl rfl ?_
                  refine QK.off rfl rfl ?_
                  refine QK.det trivial (Yields.pure rfl) ?_
                  refine QK.det trivial (Yields.pure rfl) ?_
                  refine QK.det rfl (Yields.ldA rfl rfl (lab_at (a := c) (by simp))) ?_
                  refine QK.det rfl (Yields.ldA rfl rfl (lab_at (a := a) (by simp))) ?_
                  refine QK.call rfl rfl (below_b (a := c) (b := a)) ?_
                  refine QK.bool rfl (Yields.pure rfl) (fun g89 => ?_) (fun g89 => ?_)
                  · try simp only [bne_iff_ne, beq_iff_eq, Bool.not_eq_true', Bool.not_eq_false', ne_eq, Decidable.not_not] at g89
                    refine QK.det rfl (Yields.ldA rfl rfl (lab_at (a := c) (by simp))) ?_
                    refine QK.det rfl (Yields.ldA rfl rfl (lab_at (a := b) (by simp))) ?_
                    refine QK.call rfl rfl (below_b (a := c) (b := b)) ?_
                    refine QK.det rfl (Yields.ldA rfl rfl (lab_at (a := c) (by simp))) ?_
                    refine QK.det rfl (Yields.ldA rfl rfl (lab_at (a := meetB a b) (by simp))) ?_
                    refine QK.nil ?_
                    change OL _ _ _ [_, _, _, _] _ _ _
                    refine OL.call rfl rfl (below_b (a := c) (b := meetB a b)) ?_
                    rintro _ _ ⟨rfl, rfl⟩
                    refine OL.det rfl (Yields.pure rfl) ?_
                    refine OL.det rfl (Yields.pure rfl) ?_
                    refine OL.det trivial (Yields.pure rfl) ?_
                    refine OL.nil ?_
                    refine hK33 _ _ ?_
                    refine PW.keep (T' := [(3, _), (4, _), (7, _), (8, _), (98, _)]) ⟨rfl, rfl, rfl, rfl, rfl, trivial⟩ ?_
                    refine PW.cond rfl (fun c98 => ?_) (fun c98 => ?_)
                    · try simp only [bne_iff_ne, beq_iff_eq, Bool.not_eq_true', Bool.not_eq_false', ne_eq, Decidable.not_not] at c98
                      exfalso; rw [meet_most g89, beq_self_eq_true] at c98; cases c98
                      -- done
                    · try simp only [bne_iff_ne, beq_iff_eq, Bool.not_eq_true', Bool.not_eq_false', ne_eq, Decidable.not_not] at c98
                      refine PW.skip ?_
                      refine hK32 _ _ ?_
                      refine PW.keep (T' := [(3, _), (4, _), (7, _), (8, _)]) ⟨rfl, rfl, rfl, rfl, trivial⟩ ?_
                      refine PW.seqOps ?_
                      refine OL.det trivial (Yields.ldA rfl rfl (lab_at (a := a) (by simp))) ?_
                      refine OL.call trivial rfl (check_b (a := a)) ?_
                      rintro _ _ ⟨rfl, rfl⟩
                      refine OL.det trivial (Yields.pure rfl) ?_
                      refine OL.det trivial (Yields.pure rfl) ?_
                      refine OL.nil ?_
                      refine PW.keep (T' := [(3, _), (4, _), (7, _), (8, _), (9, _)]) ⟨rfl, rfl, rfl, rfl, rfl, trivial⟩ ?_
                      refine PW.seq fun K36 hK36 => ?_
                      refine PW.quietK Tryd.mixed ?_
                      refine QK.det trivial (Yields.ldA rfl rfl (lab_at (a := a) (by simp))) ?_
                      refine QK.det trivial (Yields.ldA rfl rfl (lab_at (a := meetB a b) (by simp))) ?_
                      refine QK.call trivial rfl (join_b (a := a) (b := meetB a b)) ?_
                      refine QK.det trivial (Yields.ldA rfl rfl (lab_at (a := a) (by simp))) ?_
                      refine QK.det trivial (Yields.eqA rfl rfl (eq_lab (joinB (a) (meetB a b)) (a))) ?_
                      refine QK.bool trivial (Yields.pure rfl) (fun g107 => ?_) (fun g107 => ?_)
                      · try simp only [bne_iff_ne, beq_iff_eq, Bool.not_eq_true', Bool.not_eq_false', ne_eq, Decidable.not_not] at g107
                        refine QK.det rfl (Yields.ldA rfl rfl (lab_at (a := a) (by simp))) ?_
                        refine QK.det rfl (Yields.ldA rfl rfl (lab_at (a := joinB a b) (by simp))) ?_
                        refine QK.call rfl rfl (meet_b (a := a) (b := joinB a b)) ?_
                        refine QK.det rfl (Yields.ldA rfl rfl (lab_at (a := a) (by simp))) ?_
                        refine QK.det rfl (Yields.eqA rfl rfl (eq_lab (meetB (a) (joinB a b)) (a))) ?_
                        refine QK.det trivial (Yields.pure rfl) ?_
                        refine QK.bool trivial (Yields.pure rfl) (fun g114 => ?_) (fun g114 => ?_)
                        · try simp only [bne_iff_ne, beq_iff_eq, Bool.not_eq_true', Bool.not_eq_false', ne_eq, Decidable.not_not] at g114
                          refine QK.det rfl (Yields.ldA rfl rfl (lab_at (a := a) (by simp))) ?_
                          refine QK.det rfl (Yields.ldA rfl rfl (lab_at (a := b) (by simp))) ?_
                          refine QK.call rfl rfl (below_b (a := a) (b := b)) ?_
                          refine QK.det rfl (Yields.ldA rfl rfl (lab_at (a := joinB a b) (by simp))) ?_
                          refine QK.det rfl (Yields.ldA rfl rfl (lab_at (a := b) (by simp))) ?_
                          refine QK.det rfl (Yields.eqA rfl rfl (eq_lab (joinB a b) (b))) ?_
                          refine QK.det rfl (Yields.pure rfl) ?_
                          refine QK.det trivial (Yields.pure rfl) ?_
                          refine QK.bool trivial (Yields.pure rfl) (fun g123 => ?_) (fun g123 => ?_)
                          · try simp only [bne_iff_ne, beq_iff_eq, Bool.not_eq_true', Bool.not_eq_false', ne_eq, Decidable.not_not] at g123
                            refine QK.det rfl (Yields.pure rfl) ?_
                            refine QK.det rfl (Yields.pure rfl) ?_
                            refine QK.bool rfl (Yields.pure rfl) (fun g126 => ?_) (fun g126 => ?_)
                            · try simp only [bne_iff_ne, beq_iff_eq, Bool.not_eq_true', Bool.not_eq_false', ne_eq, Decidable.not_not] at g126
                              refine QK.off rfl rfl ?_
                              refine QK.off rfl rfl ?_
                              refine QK.off rfl rfl ?_
                              refine QK.off rfl rfl ?_
                              refine QK.off rfl rfl ?_
                              refine QK.off rfl rfl ?_
                              refine QK.nil ?_
                              change OL _ _ _ [_, _, _, _, _, _, _, _] _ _ _
                              refine OL.off rfl rfl ?_
                              refine OL.off rfl rfl ?_
                              refine OL.det rfl (Yields.pure rfl) ?_
                              refine OL.det trivial (Yields.pure rfl) ?_
                              refine OL.det trivial (Yields.pure rfl) ?_
                              refine OL.call rfl rfl (awake_fc hg) ?_
                              rintro _ _ ⟨rfl, rfl⟩
                              refine OL.det trivial (Yields.pure rfl) ?_
                              refine OL.det trivial (Yields.pure rfl) ?_
                              refine OL.nil ?_
                              refine hK36 _ _ ?_
                              refine PW.keep (T' := [(6, _)]) ⟨rfl, trivial⟩ ?_
                              refine PW.ret ?_
                              change (Exit.ret = Exit.normal ∨ Exit.ret = Exit.ret) ∧ ∃ v, resV _ _ = some v ∧ _
                              exact ⟨.inr rfl, _, rfl, rfl⟩
                            · try simp only [bne_iff_ne, beq_iff_eq, Bool.not_eq_true', Bool.not_eq_false', ne_eq, Decidable.not_not] at g126
                              refine QK.det rfl (Yields.build rfl) ?_
                              refine QK.det rfl (Yields.ldA rfl rfl (lab_at (a := a) (by simp))) ?_
                              refine QK.call rfl rfl (below_b (a := botB) (b := a)) ?_
                              refine QK.bool rfl (Yields.pure rfl) (fun g130 => ?_) (fun g130 => ?_)
                              · try simp only [bne_iff_ne, beq_iff_eq, Bool.not_eq_true', Bool.not_eq_false', ne_eq, Decidable.not_not] at g130
                                refine QK.det rfl (Yields.ldA rfl rfl (lab_at (a := a) (by simp))) ?_
                                refine QK.call rfl rfl (top_b) ?_
                                refine QK.nil ?_
                                change OL _ _ _ [_, _, _, _, _, _, _, _] _ _ _
                                refine OL.call rfl rfl (below_b (a := a) (b := topB)) ?_
                                rintro _ _ ⟨rfl, rfl⟩
                                refine OL.det rfl (Yields.pure rfl) ?_
                                refine OL.det rfl (Yields.pure rfl) ?_
                                refine OL.det trivial (Yields.pure rfl) ?_
                                refine OL.bool trivial (Yields.pure rfl) (fun g137 => ?_) (fun g137 => ?_)
                                · try simp only [bne_iff_ne, beq_iff_eq, Bool.not_eq_true', Bool.not_eq_false', ne_eq, Decidable.not_not] at g137
                                  refine OL.call rfl rfl (awake_fc hg) ?_
                                  rintro _ _ ⟨rfl, rfl⟩
                                  refine OL.det trivial (Yields.pure rfl) ?_
                                  refine OL.det trivial (Yields.pure rfl) ?_
                                  refine OL.nil ?_
                                  refine hK36 _ _ ?_
                                  refine PW.keep (T' := [(6, _)]) ⟨rfl, trivial⟩ ?_
                                  refine PW.ret ?_
                                  change (Exit.ret = Exit.normal ∨ Exit.ret = Exit.ret) ∧ ∃ v, resV _ _ = some v ∧ _
                                  exact ⟨.inr rfl, _, rfl, rfl⟩
                                · try simp only [bne_iff_ne, beq_iff_eq, Bool.not_eq_true', Bool.not_eq_false', ne_eq, Decidable.not_not] at g137
                                  exfalso; rw [below_top (may_of g126).2] at g137; cases g137
                                  -- done
                              · try simp only [bne_iff_ne, beq_iff_eq, Bool.not_eq_true', Bool.not_eq_false', ne_eq, Decidable.not_not] at g130
                                exfalso; rw [bot_below (may_of g126).1] at g130; cases g130
                                -- done
                          · try simp only [bne_iff_ne, beq_iff_eq, Bool.not_eq_true', Bool.not_eq_false', ne_eq, Decidable.not_not] at g123
                            exfalso; rw [below_is_join a b] at g123; revert g123; simp
                            -- done
                        · try simp only [bne_iff_ne, beq_iff_eq, Bool.not_eq_true', Bool.not_eq_false', ne_eq, Decidable.not_not] at g114
                          exfalso; rw [show meetB a (joinB a b) = a from meet_join a b] at g114; revert g114; simp
                          -- done
                      · try simp only [bne_iff_ne, beq_iff_eq, Bool.not_eq_true', Bool.not_eq_false', ne_eq, Decidable.not_not] at g107
                        exfalso; rw [show joinB a (meetB a b) = a from join_meet a b] at g107; revert g107; simp
                        -- done
                  · try simp only [bne_iff_ne, beq_iff_eq, Bool.not_eq_true', Bool.not_eq_false', ne_eq, Decidable.not_not] at g89
                    refine QK.off rfl rfl ?_
                    refine QK.off rfl rfl ?_
                    refine QK.off rfl rfl ?_
                    refine QK.off rfl rfl ?_
                    refine QK.off rfl rfl ?_
                    refine QK.nil ?_
                    change OL _ _ _ [_, _, _, _] _ _ _
                    refine OL.off rfl rfl ?_
                    refine OL.off rfl rfl ?_
                    refine OL.det rfl (Yields.pure rfl) ?_
                    refine OL.det trivial (Yields.pure rfl) ?_
                    refine OL.nil ?_
                    refine hK33 _ _ ?_
                    refine PW.keep (T' := [(3, _), (4, _), (7, _), (8, _), (98, _)]) ⟨rfl, rfl, rfl, rfl, rfl, trivial⟩ ?_
                    refine PW.ite (b := false) rfl ?_
                    rw [if_neg Bool.false_ne_true]
                    refine PW.skip ?_
                    refine hK32 _ _ ?_
                    refine PW.keep (T' := [(3, _), (4, _), (7, _), (8, _)]) ⟨rfl, rfl, rfl, rfl, trivial⟩ ?_
                    refine PW.seqOps ?_
                    refine OL.det trivial (Yields.ldA rfl rfl (lab_at (a := a) (by simp))) ?_
                    refine OL.call trivial rfl (check_b (a := a)) ?_
                    rintro _ _ ⟨rfl, rfl⟩
                    refine OL.det trivial (Yields.pure rfl) ?_
                    refine OL.det trivial (Yields.pure rfl) ?_
                    refine OL.nil ?_
                    refine PW.keep (T' := [(3, _), (4, _), (7, _), (8, _), (9, _)]) ⟨rfl, rfl, rfl, rfl, rfl, trivial⟩ ?_
                    refine PW.seq fun K37 hK37 => ?_
                    refine PW.quietK Tryd.mixed ?_
                    refine QK.det trivial (Yields.ldA rfl rfl (lab_at (a := a) (by simp))) ?_
                    refine QK.det trivial (Yields.ldA rfl rfl (lab_at (a := meetB a b) (by simp))) ?_
                    refine QK.call trivial rfl (join_b (a := a) (b := meetB a b)) ?_
                    refine QK.det trivial (Yields.ldA rfl rfl (lab_at (a := a) (by simp))) ?_
                    refine QK.det trivial (Yields.eqA rfl rfl (eq_lab (joinB (a) (meetB a b)) (a))) ?_
                    refine QK.bool trivial (Yields.pure rfl) (fun g107 => ?_) (fun g107 => ?_)
                    · try simp only [bne_iff_ne, beq_iff_eq, Bool.not_eq_true', Bool.not_eq_false', ne_eq, Decidable.not_not] at g107
                      refine QK.det rfl (Yields.ldA rfl rfl (lab_at (a := a) (by simp))) ?_
                      refine QK.det rfl (Yields.ldA rfl rfl (lab_at (a := joinB a b) (by simp))) ?_
                      refine QK.call rfl rfl (meet_b (a := a) (b := joinB a b)) ?_
                      refine QK.det rfl (Yields.ldA rfl rfl (lab_at (a := a) (by simp))) ?_
                      refine QK.det rfl (Yields.eqA rfl rfl (eq_lab (meetB (a) (joinB a b)) (a))) ?_
                      refine QK.det trivial (Yields.pure rfl) ?_
                      refine QK.bool trivial (Yields.pure rfl) (fun g114 => ?_) (fun g114 => ?_)
                      · try simp only [bne_iff_ne, beq_iff_eq, Bool.not_eq_true', Bool.not_eq_false', ne_eq, Decidable.not_not] at g114
                        refine QK.det rfl (Yields.ldA rfl rfl (lab_at (a := a) (by simp))) ?_
                        refine QK.det rfl (Yields.ldA rfl rfl (lab_at (a := b) (by simp))) ?_
                        refine QK.call rfl rfl (below_b (a := a) (b := b)) ?_
                        refine QK.det rfl (Yields.ldA rfl rfl (lab_at (a := joinB a b) (by simp))) ?_
                        refine QK.det rfl (Yields.ldA rfl rfl (lab_at (a := b) (by simp))) ?_
                        refine QK.det rfl (Yields.eqA rfl rfl (eq_lab (joinB a b) (b))) ?_
                        refine QK.det rfl (Yields.pure rfl) ?_
                        refine QK.det trivial (Yields.pure rfl) ?_
                        refine QK.bool trivial (Yields.pure rfl) (fun g123 => ?_) (fun g123 => ?_)
                        · try simp only [bne_iff_ne, beq_iff_eq, Bool.not_eq_true', Bool.not_eq_false', ne_eq, Decidable.not_not] at g123
                          refine QK.det rfl (Yields.pure rfl) ?_
                          refine QK.det rfl (Yields.pure rfl) ?_
                          refine QK.bool rfl (Yields.pure rfl) (fun g126 => ?_) (fun g126 => ?_)
                          · try simp only [bne_iff_ne, beq_iff_eq, Bool.not_eq_true', Bool.not_eq_false', ne_eq, Decidable.not_not] at g126
                            refine QK.off rfl rfl ?_
                            refine QK.off rfl rfl ?_
                            refine QK.off rfl rfl ?_
                            refine QK.off rfl rfl ?_
                            refine QK.off rfl rfl ?_
                            refine QK.off rfl rfl ?_
                            refine QK.nil ?_
                            change OL _ _ _ [_, _, _, _, _, _, _, _] _ _ _
                            refine OL.off rfl rfl ?_
                            refine OL.off rfl rfl ?_
                            refine OL.det rfl (Yields.pure rfl) ?_
                            refine OL.det trivial (Yields.pure rfl) ?_
                            refine OL.det trivial (Yields.pure rfl) ?_
                            refine OL.call rfl rfl (awake_fc hg) ?_
                            rintro _ _ ⟨rfl, rfl⟩
                            refine OL.det trivial (Yields.pure rfl) ?_
                            refine OL.det trivial (Yields.pure rfl) ?_
                            refine OL.nil ?_
                            refine hK37 _ _ ?_
                            refine PW.keep (T' := [(6, _)]) ⟨rfl, trivial⟩ ?_
                            refine PW.ret ?_
                            change (Exit.ret = Exit.normal ∨ Exit.ret = Exit.ret) ∧ ∃ v, resV _ _ = some v ∧ _
                            exact ⟨.inr rfl, _, rfl, rfl⟩
                          · try simp only [bne_iff_ne, beq_iff_eq, Bool.not_eq_true', Bool.not_eq_false', ne_eq, Decidable.not_not] at g126
                            refine QK.det rfl (Yields.build rfl) ?_
                            refine QK.det rfl (Yields.ldA rfl rfl (lab_at (a := a) (by simp))) ?_
                            refine QK.call rfl rfl (below_b (a := botB) (b := a)) ?_
                            refine QK.bool rfl (Yields.pure rfl) (fun g130 => ?_) (fun g130 => ?_)
                            · try simp only [bne_iff_ne, beq_iff_eq, Bool.not_eq_true', Bool.not_eq_false', ne_eq, Decidable.not_not] at g130
                              refine QK.det rfl (Yields.ldA rfl rfl (lab_at (a := a) (by simp))) ?_
                              refine QK.call rfl rfl (top_b) ?_
                              refine QK.nil ?_
                              change OL _ _ _ [_, _, _, _, _, _, _, _] _ _ _
                              refine OL.call rfl rfl (below_b (a := a) (b := topB)) ?_
                              rintro _ _ ⟨rfl, rfl⟩
                              refine OL.det rfl (Yields.pure rfl) ?_
                              refine OL.det rfl (Yields.pure rfl) ?_
                              refine OL.det trivial (Yields.pure rfl) ?_
                              refine OL.bool trivial (Yields.pure rfl) (fun g137 => ?_) (fun g137 => ?_)
                              · try simp only [bne_iff_ne, beq_iff_eq, Bool.not_eq_true', Bool.not_eq_false', ne_eq, Decidable.not_not] at g137
                                refine OL.call rfl rfl (awake_fc hg) ?_
                                rintro _ _ ⟨rfl, rfl⟩
                                refine OL.det trivial (Yields.pure rfl) ?_
                                refine OL.det trivial (Yields.pure rfl) ?_
                                refine OL.nil ?_
                                refine hK37 _ _ ?_
                                refine PW.keep (T' := [(6, _)]) ⟨rfl, trivial⟩ ?_
                                refine PW.ret ?_
                                change (Exit.ret = Exit.normal ∨ Exit.ret = Exit.ret) ∧ ∃ v, resV _ _ = some v ∧ _
                                exact ⟨.inr rfl, _, rfl, rfl⟩
                              · try simp only [bne_iff_ne, beq_iff_eq, Bool.not_eq_true', Bool.not_eq_false', ne_eq, Decidable.not_not] at g137
                                exfalso; rw [below_top (may_of g126).2] at g137; cases g137
                                -- done
                            · try simp only [bne_iff_ne, beq_iff_eq, Bool.not_eq_true', Bool.not_eq_false', ne_eq, Decidable.not_not] at g130
                              exfalso; rw [bot_below (may_of g126).1] at g130; cases g130
                              -- done
                        · try simp only [bne_iff_ne, beq_iff_eq, Bool.not_eq_true', Bool.not_eq_false', ne_eq, Decidable.not_not] at g123
                          exfalso; rw [below_is_join a b] at g123; revert g123; simp
                          -- done
                      · try simp only [bne_iff_ne, beq_iff_eq, Bool.not_eq_true', Bool.not_eq_false', ne_eq, Decidable.not_not] at g114
                        exfalso; rw [show meetB a (joinB a b) = a from meet_join a b] at g114; revert g114; simp
                        -- done
                    · try simp only [bne_iff_ne, beq_iff_eq, Bool.not_eq_true', Bool.not_eq_false', ne_eq, Decidable.not_not] at g107
                      exfalso; rw [show joinB a (meetB a b) = a from join_meet a b] at g107; revert g107; simp
                      -- done

end Go.Proofs
