/- Walks and plain facts for the laws of this seat: what each function answers, for every input. -/
import Derived.Test.YtefefmogjmimdaaSl8
import Derived.Test.YtefefmogjmimdaaMyW15
set_option linter.unusedVariables false
set_option linter.unusedSimpArgs false
namespace Go.Proofs
open Go.SL Go.RowKit

open Go.MyPlain
set_option maxHeartbeats 1000000
theorem play_scr_fc {w0 : World} {S : SS} {A B L : Option Addr} {ca cb cl : Nat} {xs ys : List ByteArray} {l : List (Int × Int × Int)} (hx : Rd w0 S A (xs.map .string)) (hy : Rd w0 S B (ys.map .string)) (hl : Rd w0 S L (stsC l)) (hX : xs.length ≤ 100000) (hY : ys.length ≤ 100000) (hL : l.length ≤ 100000) (hp : playF xs ys l = some ys) :
    FC Try.prog w0 14 [.slice A xs.length ca, .slice B ys.length cb, .slice L l.length cl] S (fun v S' => ∃ u seg, v = .tuple #[u, .int .i64 0] ∧ S' = seg :: S ∧ SlV 9 1 u ys.length (ys.map .string) seg) :=
  (play_fc hx hy hl hX hY hL).mono (fun v S' h => by rw [hp] at h; exact h)
theorem myleast_fc {w0 : World} {A B : Option Addr} {ca cb : Nat} {xs ys : List ByteArray} (hx : Rd w0 [] A (xs.map .string)) (hy : Rd w0 [] B (ys.map .string)) (hX : xs.length ≤ 1000000000000000) (hY : ys.length ≤ 1000000000000000) (hsx : ∀ s ∈ xs, s.size ≤ 9223372036854775807) (hsy : ∀ s ∈ ys, s.size ≤ 9223372036854775807) :
    FC Try.prog w0 6 [.slice A xs.length ca, .slice B ys.length cb] [] (fun v _ => v = .bool true) := by
  have hcx := cutF_le xs
  have hcy := cutF_le ys
  generalize hXs : cutF xs = X at *
  generalize hYs : cutF ys = Y at *
  obtain ⟨hk1, hl1⟩ := scr_kept X Y
  obtain ⟨hk2, hl2⟩ := scr_kept Y X
  obtain ⟨hk3, hl3⟩ := scr_kept X X
  have hp1 := scr_play X Y
  rw [lcs_symm Y X] at hk2 hl2
  rw [lcs_self X] at hk3 hl3
  have hle := lcs_le X Y
  generalize hsc1 : scr X Y = sc1 at *
  generalize hsc2 : scr Y X = sc2 at *
  generalize hsc3 : scr X X = sc3 at *
  refine FC.ofD Try.known6 (by simp) ?_
  unfold Try.pc6
  simp only [argT]
  refine PW.seqOps ?_
  refine OL.det trivial (Yields.pure rfl) ?_
  refine OL.nil ?_
  refine PW.keep (T' := [(0, _), (1, _)]) ⟨rfl, rfl, trivial⟩ ?_
  refine PW.seqOps ?_
  refine OL.det trivial (Yields.pure rfl) ?_
  refine OL.call trivial rfl (cut_fc hx hX hsx) ?_
  rintro vA _ ⟨segA, rfl, hslA⟩
  rw [hXs] at hslA
  refine OL.det trivial (Yields.pure rfl) ?_
  refine OL.call trivial rfl (cut_fc hy.cons hY hsy) ?_
  rintro vB _ ⟨segB, rfl, hslB⟩
  rw [hYs] at hslB
  obtain ⟨AX, cX, rfl, hrX, _⟩ := hslA.rd (S := segB :: segA :: []) (k := 1) rfl
  obtain ⟨AY, cY, rfl, hrY, _⟩ := hslB.rd (S := segB :: segA :: []) (k := 0) rfl
  refine OL.det trivial (Yields.pure rfl) ?_
  refine OL.det trivial (Yields.pure rfl) ?_
  refine OL.nil ?_
  refine PW.keep (T' := [(0, _), (1, _)]) ⟨rfl, rfl, trivial⟩ ?_
  refine PW.seqOps ?_
  refine OL.det trivial (Yields.pure rfl) ?_
  refine OL.det trivial (Yields.pure rfl) ?_
  refine OL.call trivial rfl (diff_fc hrX hrY (by omega) (by omega)) ?_
  rintro _ _ ⟨u1, seg1, rfl, rfl, hsl1⟩
  rw [hsc1] at hsl1
  obtain ⟨A1, c1, rfl, hr1, _⟩ := hsl1.rd (S := seg1 :: segB :: segA :: []) (k := 0) rfl
  refine OL.det trivial (Yields.pure rfl) ?_
  refine OL.det trivial (Yields.pure rfl) ?_
  refine OL.det trivial (Yields.pure rfl) ?_
  refine OL.det trivial (Yields.pure rfl) ?_
  refine OL.det trivial (Yields.pure rfl) ?_
  refine OL.nil ?_
  refine PW.keep (T' := [(0, _), (1, _), (5, _), (6, _)]) ⟨rfl, rfl, rfl, rfl, trivial⟩ ?_
  refine PW.seqOps ?_
  refine OL.det trivial (Yields.pure rfl) ?_
  refine OL.det trivial (Yields.pure rfl) ?_
  refine OL.call trivial rfl (diff_fc hrY.cons hrX.cons (by omega) (by omega)) ?_
  rintro _ _ ⟨u2, seg2, rfl, rfl, hsl2⟩
  rw [hsc2] at hsl2
  obtain ⟨A2, c2, rfl, hr2, _⟩ := hsl2.rd (S := seg2 :: seg1 :: segB :: segA :: []) (k := 0) rfl
  refine OL.det trivial (Yields.pure rfl) ?_
  refine OL.det trivial (Yields.pure rfl) ?_
  refine OL.det trivial (Yields.pure rfl) ?_
  refine OL.det trivial (Yields.pure rfl) ?_
  refine OL.det trivial (Yields.pure rfl) ?_
  refine OL.nil ?_
  refine PW.keep (T' := [(0, _), (1, _), (5, _), (6, _), (7, _), (8, _)]) ⟨rfl, rfl, rfl, rfl, rfl, rfl, trivial⟩ ?_
  refine PW.seqOps ?_
  refine OL.det trivial (Yields.pure rfl) ?_
  refine OL.det trivial (Yields.pure rfl) ?_
  refine OL.call trivial rfl (diff_fc hrX.cons.cons hrX.cons.cons (by omega) (by omega)) ?_
  rintro _ _ ⟨u3, seg3, rfl, rfl, hsl3⟩
  rw [hsc3] at hsl3
  obtain ⟨A3, c3, rfl, hr3, _⟩ := hsl3.rd (S := seg3 :: seg2 :: seg1 :: segB :: segA :: []) (k := 0) rfl
  refine OL.det trivial (Yields.pure rfl) ?_
  refine OL.det trivial (Yields.pure rfl) ?_
  refine OL.det trivial (Yields.pure rfl) ?_
  refine OL.det trivial (Yields.pure rfl) ?_
  refine OL.det trivial (Yields.pure rfl) ?_
  refine OL.nil ?_
  refine PW.keep (T' := [(0, _), (1, _), (5, _), (6, _), (7, _), (8, _), (9, _), (10, _)]) ⟨rfl, rfl, rfl, rfl, rfl, rfl, rfl, rfl, trivial⟩ ?_
  refine PW.seq fun K1 hK1 => ?_
  refine PW.seqOps ?_
  refine OL.det trivial (Yields.pure rfl) ?_
  refine OL.det trivial (Yields.pure rfl) ?_
  refine OL.bool trivial (Yields.pure rfl) (fun g38 => ?_) (fun g38 => ?_)
  · try simp only [decide_eq_true_eq, decide_eq_false_iff_not, beq_iff_eq, bne_iff_ne, beq_eq_false_iff_ne, bne_eq_false_iff_eq, Bool.not_eq_true', Bool.not_eq_false', Bool.not_eq_true, ne_eq, Decidable.not_not] at g38
    exact absurd trivial g38 -- done
  · try simp only [decide_eq_true_eq, decide_eq_false_iff_not, beq_iff_eq, bne_iff_ne, beq_eq_false_iff_ne, bne_eq_false_iff_eq, Bool.not_eq_true', Bool.not_eq_false', Bool.not_eq_true, ne_eq, Decidable.not_not] at g38
    refine OL.det rfl (Yields.pure rfl) ?_
    refine OL.det rfl (Yields.pure rfl) ?_
    refine OL.det trivial (Yields.pure rfl) ?_
    refine OL.bool trivial (Yields.pure rfl) (fun g42 => ?_) (fun g42 => ?_)
    · try simp only [decide_eq_true_eq, decide_eq_false_iff_not, beq_iff_eq, bne_iff_ne, beq_eq_false_iff_ne, bne_eq_false_iff_eq, Bool.not_eq_true', Bool.not_eq_false', Bool.not_eq_true, ne_eq, Decidable.not_not] at g42
      exact absurd trivial g42 -- done
    · try simp only [decide_eq_true_eq, decide_eq_false_iff_not, beq_iff_eq, bne_iff_ne, beq_eq_false_iff_ne, bne_eq_false_iff_eq, Bool.not_eq_true', Bool.not_eq_false', Bool.not_eq_true, ne_eq, Decidable.not_not] at g42
      refine OL.det rfl (Yields.pure rfl) ?_
      refine OL.det rfl (Yields.pure rfl) ?_
      refine OL.det trivial (Yields.pure rfl) ?_
      refine OL.nil ?_
      refine PW.keep (T' := [(0, _), (1, _), (5, _), (7, _), (9, _), (45, _)]) ⟨rfl, rfl, rfl, rfl, rfl, rfl, trivial⟩ ?_
      refine PW.cond rfl (fun c45 => ?_) (fun c45 => ?_)
      · try simp only [decide_eq_true_eq, decide_eq_false_iff_not, beq_iff_eq, bne_iff_ne, beq_eq_false_iff_ne, bne_eq_false_iff_eq, Bool.not_eq_true', Bool.not_eq_false', Bool.not_eq_true, ne_eq, Decidable.not_not] at c45
        exact absurd trivial c45 -- done
      · try simp only [decide_eq_true_eq, decide_eq_false_iff_not, beq_iff_eq, bne_iff_ne, beq_eq_false_iff_ne, bne_eq_false_iff_eq, Bool.not_eq_true', Bool.not_eq_false', Bool.not_eq_true, ne_eq, Decidable.not_not] at c45
        refine PW.skip ?_
        refine hK1 _ _ ?_
        refine PW.keep (T' := [(0, _), (1, _), (5, _), (7, _), (9, _)]) ⟨rfl, rfl, rfl, rfl, rfl, trivial⟩ ?_
        refine PW.seqOps ?_
        refine OL.det trivial (Yields.pure rfl) ?_
        refine OL.det trivial (Yields.pure rfl) ?_
        refine OL.det trivial (Yields.pure rfl) ?_
        refine OL.call trivial rfl (play_scr_fc hrX.cons.cons.cons hrY.cons.cons.cons hr1.cons.cons (by omega) (by omega) (by omega) hp1) ?_
        rintro _ _ ⟨u4, seg4, rfl, rfl, hsl4⟩
        obtain ⟨A4, c4, rfl, hr4, _⟩ := hsl4.rd (S := seg4 :: seg3 :: seg2 :: seg1 :: segB :: segA :: []) (k := 0) rfl
        refine OL.det trivial (Yields.pure rfl) ?_
        refine OL.det trivial (Yields.pure rfl) ?_
        refine OL.det trivial (Yields.pure rfl) ?_
        refine OL.det trivial (Yields.pure rfl) ?_
        refine OL.det trivial (Yields.pure rfl) ?_
        refine OL.nil ?_
        refine PW.keep (T' := [(0, _), (1, _), (5, _), (7, _), (9, _), (11, _), (12, _)]) ⟨rfl, rfl, rfl, rfl, rfl, rfl, rfl, trivial⟩ ?_
        refine PW.seqOps ?_
        refine OL.det trivial (Yields.pure rfl) ?_
        refine OL.det trivial (Yields.pure rfl) ?_
        refine OL.call trivial rfl (common_fc hrX.cons.cons.cons.cons hrY.cons.cons.cons.cons (by omega) (by omega)) ?_
        rintro _ _ ⟨rfl, rfl⟩
        refine OL.det trivial (Yields.pure rfl) ?_
        refine OL.nil ?_
        refine PW.keep (T' := [(0, _), (1, _), (5, _), (7, _), (9, _), (11, _), (12, _), (13, _)]) ⟨rfl, rfl, rfl, rfl, rfl, rfl, rfl, rfl, trivial⟩ ?_
        refine PW.seqOps ?_
        refine OL.det trivial (Yields.pure rfl) ?_
        refine OL.det trivial (Yields.pure rfl) ?_
        refine OL.bool trivial (Yields.pure rfl) (fun g58 => ?_) (fun g58 => ?_)
        · try simp only [decide_eq_true_eq, decide_eq_false_iff_not, beq_iff_eq, bne_iff_ne, beq_eq_false_iff_ne, bne_eq_false_iff_eq, Bool.not_eq_true', Bool.not_eq_false', Bool.not_eq_true, ne_eq, Decidable.not_not] at g58
          refine OL.det rfl (Yields.pure rfl) ?_
          refine OL.det rfl (Yields.pure rfl) ?_
          refine OL.call rfl rfl (same_rfl hr4 hrY.cons.cons.cons.cons (by omega)) ?_
          rintro _ _ ⟨rfl, rfl⟩
          refine OL.det trivial (Yields.pure rfl) ?_
          refine OL.det trivial (Yields.pure rfl) ?_
          refine OL.det rfl (Yields.pure rfl) ?_
          refine OL.call rfl rfl (kept_fc hr1.cons.cons.cons (by omega)) ?_
          rintro _ _ ⟨rfl, rfl⟩
          refine OL.det rfl (Yields.pure rfl) ?_
          refine OL.det rfl (Yields.pure rfl) ?_
          refine OL.det trivial (Yields.pure rfl) ?_
          refine OL.bool trivial (Yields.pure rfl) (fun g69 => ?_) (fun g69 => ?_)
          · try simp only [decide_eq_true_eq, decide_eq_false_iff_not, beq_iff_eq, bne_iff_ne, beq_eq_false_iff_ne, bne_eq_false_iff_eq, Bool.not_eq_true', Bool.not_eq_false', Bool.not_eq_true, ne_eq, Decidable.not_not] at g69
            refine OL.det rfl (Yields.pure rfl) ?_
            refine OL.call rfl rfl (kept_fc hr2.cons.cons (by omega)) ?_
            rintro _ _ ⟨rfl, rfl⟩
            refine OL.det rfl (Yields.pure rfl) ?_
            refine OL.det rfl (Yields.pure rfl) ?_
            refine OL.det trivial (Yields.pure rfl) ?_
            refine OL.bool trivial (Yields.pure rfl) (fun g75 => ?_) (fun g75 => ?_)
            · try simp only [decide_eq_true_eq, decide_eq_false_iff_not, beq_iff_eq, bne_iff_ne, beq_eq_false_iff_ne, bne_eq_false_iff_eq, Bool.not_eq_true', Bool.not_eq_false', Bool.not_eq_true, ne_eq, Decidable.not_not] at g75
              refine OL.det rfl (Yields.pure rfl) ?_
              refine OL.det rfl (Yields.pure rfl) ?_
              refine OL.det rfl (Yields.pure rfl) ?_
              refine OL.det rfl (Yields.pure rfl) ?_
              refine OL.det rfl (Yields.pure rfl) ?_
              refine OL.det rfl (Yields.pure rfl) ?_
              refine OL.det rfl (Yields.add64 rfl rfl (by omega) (by omega)) ?_
              refine OL.det rfl (Yields.pure rfl) ?_
              refine OL.det rfl (Yields.sub64 rfl rfl (by omega) (by omega)) ?_
              refine OL.det rfl (Yields.pure rfl) ?_
              refine OL.det trivial (Yields.pure rfl) ?_
              refine OL.bool trivial (Yields.pure rfl) (fun g87 => ?_) (fun g87 => ?_)
              · try simp only [decide_eq_true_eq, decide_eq_false_iff_not, beq_iff_eq, bne_iff_ne, beq_eq_false_iff_ne, bne_eq_false_iff_eq, Bool.not_eq_true', Bool.not_eq_false', Bool.not_eq_true, ne_eq, Decidable.not_not] at g87
                refine OL.det rfl (Yields.pure rfl) ?_
                refine OL.call rfl rfl (kept_fc hr3.cons (by omega)) ?_
                rintro _ _ ⟨rfl, rfl⟩
                refine OL.det rfl (Yields.pure rfl) ?_
                refine OL.det rfl (Yields.pure rfl) ?_
                refine OL.det rfl (Yields.pure rfl) ?_
                refine OL.det trivial (Yields.pure rfl) ?_
                refine OL.bool trivial (Yields.pure rfl) (fun g94 => ?_) (fun g94 => ?_)
                · try simp only [decide_eq_true_eq, decide_eq_false_iff_not, beq_iff_eq, bne_iff_ne, beq_eq_false_iff_ne, bne_eq_false_iff_eq, Bool.not_eq_true', Bool.not_eq_false', Bool.not_eq_true, ne_eq, Decidable.not_not] at g94
                  refine OL.det rfl (Yields.pure rfl) ?_
                  refine OL.det rfl (Yields.pure rfl) ?_
                  refine OL.det rfl (Yields.pure rfl) ?_
                  refine OL.det rfl (Yields.pure rfl) ?_
                  refine OL.det rfl (Yields.pure rfl) ?_
                  refine OL.det trivial (Yields.pure rfl) ?_
                  refine OL.bool trivial (Yields.pure rfl) (fun g101 => ?_) (fun g101 => ?_)
                  · try simp only [decide_eq_true_eq, decide_eq_false_iff_not, beq_iff_eq, bne_iff_ne, beq_eq_false_iff_ne, bne_eq_false_iff_eq, Bool.not_eq_true', Bool.not_eq_false', Bool.not_eq_true, ne_eq, Decidable.not_not] at g101
                    refine OL.call rfl rfl (works_fc) ?_
                    rintro _ _ ⟨rfl, rfl⟩
                    refine OL.det trivial (Yields.pure rfl) ?_
                    refine OL.det trivial (Yields.pure rfl) ?_
                    refine OL.nil ?_
                    refine PW.keep (T' := [(4, _)]) ⟨rfl, trivial⟩ ?_
                    refine PW.ret ?_
                    change (Exit.ret = Exit.normal ∨ Exit.ret = Exit.ret) ∧ ∃ v, resV _ _ = some v ∧ _
                    exact ⟨.inr rfl, _, rfl, _, Sub.refl _, rfl⟩
                  · try simp only [decide_eq_true_eq, decide_eq_false_iff_not, beq_iff_eq, bne_iff_ne, beq_eq_false_iff_ne, bne_eq_false_iff_eq, Bool.not_eq_true', Bool.not_eq_false', Bool.not_eq_true, ne_eq, Decidable.not_not] at g101
                    exfalso; omega -- done
                · try simp only [decide_eq_true_eq, decide_eq_false_iff_not, beq_iff_eq, bne_iff_ne, beq_eq_false_iff_ne, bne_eq_false_iff_eq, Bool.not_eq_true', Bool.not_eq_false', Bool.not_eq_true, ne_eq, Decidable.not_not] at g94
                  exfalso; omega -- done
              · try simp only [decide_eq_true_eq, decide_eq_false_iff_not, beq_iff_eq, bne_iff_ne, beq_eq_false_iff_ne, bne_eq_false_iff_eq, Bool.not_eq_true', Bool.not_eq_false', Bool.not_eq_true, ne_eq, Decidable.not_not] at g87
                exfalso; omega -- done
            · try simp only [decide_eq_true_eq, decide_eq_false_iff_not, beq_iff_eq, bne_iff_ne, beq_eq_false_iff_ne, bne_eq_false_iff_eq, Bool.not_eq_true', Bool.not_eq_false', Bool.not_eq_true, ne_eq, Decidable.not_not] at g75
              exfalso; omega -- done
          · try simp only [decide_eq_true_eq, decide_eq_false_iff_not, beq_iff_eq, bne_iff_ne, beq_eq_false_iff_ne, bne_eq_false_iff_eq, Bool.not_eq_true', Bool.not_eq_false', Bool.not_eq_true, ne_eq, Decidable.not_not] at g69
            exfalso; omega -- done
        · try simp only [decide_eq_true_eq, decide_eq_false_iff_not, beq_iff_eq, bne_iff_ne, beq_eq_false_iff_ne, bne_eq_false_iff_eq, Bool.not_eq_true', Bool.not_eq_false', Bool.not_eq_true, ne_eq, Decidable.not_not] at g58
          exact absurd trivial g58 -- done

end Go.Proofs
