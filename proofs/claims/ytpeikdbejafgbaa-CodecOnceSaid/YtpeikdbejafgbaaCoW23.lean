/- Walks and plain facts for the laws of this seat: what each function answers, for every input. -/
import Derived.Test.YtpeikdbejafgbaaSl19
import Derived.Test.YtpeikdbejafgbaaCoW22
set_option linter.unusedVariables false
set_option linter.unusedSimpArgs false
namespace Go.Proofs
open Go.SL Go.RowKit
set_option maxHeartbeats 1000000

theorem Rd.take2 {w0 : World} {S : SS} {A : Option Addr} {l ys : List UInt8} (h : Rd w0 S A (bytesC ys)) (hp : l <+: ys) : Rd w0 S A (bytesC l) := h.pre (List.IsPrefix.map _ hp)
theorem once_fc {w0 : World} {S : SS} {A B : Option Addr} {ca cb : Nat} {a kk : List UInt8} (ha : Rd w0 S A (bytesC a)) (hac : a.length ≤ ca) (hk : Rd w0 S B (bytesC kk)) (hb : kk.length ≤ 1000000000000000) :
    FC Try.prog w0 7 [.slice A a.length ca, .slice B kk.length cb] S (fun v S' => v = .bool true) := by
  refine FC.ofD Try.known7 (by simp) ?_
  unfold Try.pc7
  simp only [argT]
  refine PW.seqOps ?_
  refine OL.det trivial (Yields.pure rfl) ?_
  refine OL.nil ?_
  refine PW.keep (T' := [(0, _), (1, _)]) ⟨rfl, rfl, trivial⟩ ?_
  refine PW.seqOps ?_
  refine OL.det trivial (Yields.pure rfl) ?_
  refine OL.det trivial (Yields.pure rfl) ?_
  refine OL.det trivial (Yields.pure rfl) ?_
  refine OL.det trivial (Yields.pure rfl) ?_
  refine OL.det trivial (Yields.slS (l := 0) (h := min a.length 400) rfl rfl rfl (.inr ⟨rfl, rfl⟩) (.inl (congrArg some (by simp only [Bool.false_eq_true, if_false]; split <;> omega))) (by omega) (by omega)) ?_
  rw [cutV0, show min a.length 400 = (a.take (min a.length 400)).length by simp]
  have hlt : Rd w0 S A (bytesC (a.take (min a.length 400))) := Rd.take ha
  have hll : (a.take (min a.length 400)).length ≤ 400 := by simp; omega
  have hlc : (a.take (min a.length 400)).length ≤ ca := by simp; omega
  generalize a.take (min a.length 400) = lt at *
  refine OL.det trivial (Yields.pure rfl) ?_
  refine OL.nil ?_
  refine PW.keep (T' := [(0, _), (1, _)]) ⟨rfl, rfl, trivial⟩ ?_
  refine PW.seqOps ?_
  refine OL.det trivial (Yields.pure rfl) ?_
  refine OL.call trivial rfl (open_fc) ?_
  rintro _ _ ⟨r15, rfl, rfl⟩
  refine OL.det trivial (Yields.pure rfl) ?_
  refine OL.nil ?_
  refine PW.keep (T' := [(0, _), (1, _), (5, _)]) ⟨rfl, rfl, rfl, trivial⟩ ?_
  refine PW.seqOps ?_
  refine OL.nilseg ?_
  refine OL.det trivial (Yields.pure rfl) ?_
  refine OL.nil ?_
  refine PW.keep (T' := [(0, _), (1, _), (5, _), (6, _)]) ⟨rfl, rfl, rfl, rfl, trivial⟩ ?_
  refine PW.seq fun K1 hK1 => ?_
  refine PW.seqOps ?_
  refine OL.det trivial (Yields.pure rfl) ?_
  refine OL.nil ?_
  refine PW.keep (T' := [(0, _), (1, _), (5, _), (6, _), (7, _)]) ⟨rfl, rfl, rfl, rfl, rfl, trivial⟩ ?_
  refine PW.block ?_
  refine PW.keep (T' := [(0, _), (1, _), (5, _), (6, _), (7, _)]) ⟨rfl, rfl, rfl, rfl, rfl, trivial⟩ ?_
  refine PW.loopK (I := fun m T S' => ∃ (k at_ : Nat) (w : Value) (sb : Seg), (k ≤ kk.length ∧ m = kk.length - k ∧ at_ ≤ lt.length ∧ SlV 5 1 w (lt.take at_).length (bytesC (lt.take at_)) sb) ∧ T = ([(0, .slice A lt.length ca), (1, .slice B kk.length cb), (5, .pointer (some ⟨r15, 0, none⟩)), (6, w), (7, .int .i64 k)] : TT) ∧ S' = sb :: RB r15 A lt.length ca at_ 0 :: S) (m := kk.length) ⟨0, 0, _, [], ⟨by omega, by omega, by omega, SlV.nil 5 1⟩, rfl, rfl⟩ ?_
  rintro m _ _ ⟨k, at_, w, sb, ⟨hk1, hm, hat, hsb⟩, rfl, rfl⟩
  have hs0 := hsb
  obtain ⟨Ay, cy, rfl, _, hcy, qy⟩ := SlV.rd0 (w0 := w0) hs0
  have hql : (lt.take at_).length ≤ lt.length := by rw [List.length_take]; omega
  have hqa : (lt.take at_).length = at_ := by rw [List.length_take]; omega
  refine PW.seq fun K2 hK2 => ?_
  refine PW.seqOps ?_
  refine OL.det trivial (Yields.pure rfl) ?_
  refine OL.det trivial (Yields.pure rfl) ?_
  refine OL.det trivial (Yields.pure rfl) ?_
  refine OL.det trivial (Yields.pure rfl) ?_
  refine OL.bool trivial (Yields.pure rfl) (fun g20 => ?_) (fun g20 => ?_)
  · try simp only [decide_eq_true_eq, decide_eq_false_iff_not, beq_iff_eq, bne_iff_ne, beq_eq_false_iff_ne, bne_eq_false_iff_eq, Bool.not_eq_true', Bool.not_eq_false', Bool.not_eq_true, ne_eq, Decidable.not_not] at g20
    refine OL.det rfl (Yields.pure rfl) ?_
    refine OL.det rfl (Yields.pure rfl) ?_
    refine OL.det trivial (Yields.pure rfl) ?_
    refine OL.nil ?_
    refine PW.keep (T' := [(0, _), (1, _), (5, _), (6, _), (7, _), (23, _)]) ⟨rfl, rfl, rfl, rfl, rfl, rfl, trivial⟩ ?_
    refine PW.cond rfl (fun c23 => ?_) (fun c23 => ?_)
    · try simp only [decide_eq_true_eq, decide_eq_false_iff_not, beq_iff_eq, bne_iff_ne, beq_eq_false_iff_ne, bne_eq_false_iff_eq, Bool.not_eq_true', Bool.not_eq_false', Bool.not_eq_true, ne_eq, Decidable.not_not] at c23
      have hkl : k < kk.length := by omega
      obtain ⟨b0, rfl⟩ := hk.some (bytesC_ne (by omega))
      refine PW.skip ?_
      refine hK2 _ _ ?_
      refine PW.keep (T' := [(0, _), (1, _), (5, _), (6, _), (7, _)]) ⟨rfl, rfl, rfl, rfl, rfl, trivial⟩ ?_
      refine PW.seq fun K3 hK3 => ?_
      refine PW.block ?_
      refine PW.seqOps ?_
      refine OL.det trivial (Yields.pure rfl) ?_
      refine OL.det trivial (Yields.pure rfl) ?_
      refine OL.det trivial (Yields.pure rfl) ?_
      refine OL.nil ?_
      refine PW.keep (T' := [(0, _), (1, _), (5, _), (6, _), (7, _), (8, _)]) ⟨rfl, rfl, rfl, rfl, rfl, rfl, trivial⟩ ?_
      refine PW.seq fun K4 hK4 => ?_
      refine PW.seqOps ?_
      refine OL.det trivial (Yields.pure rfl) ?_
      refine OL.det trivial (Yields.pure rfl) ?_
      refine OL.det trivial (Yields.ixN1 rfl rfl rfl (by omega)) ?_
      refine OL.det trivial (Yields.ld rfl (bytes_at hk.cons.cons hkl)) ?_
      refine OL.det trivial (Yields.rem rfl rfl (by omega)) ?_
      refine OL.nil ?_
      refine PW.keep (T' := [(0, _), (1, _), (5, _), (6, _), (7, _), (8, _), (32, _)]) ⟨rfl, rfl, rfl, rfl, rfl, rfl, rfl, trivial⟩ ?_
      refine PW.block ?_
      refine PW.seqOps ?_
      refine OL.det trivial (Yields.pure rfl) ?_
      refine OL.det trivial (Yields.pure rfl) ?_
      refine OL.nil ?_
      refine PW.keep (T' := [(0, _), (1, _), (5, _), (6, _), (7, _), (8, _), (32, _), (37, _)]) ⟨rfl, rfl, rfl, rfl, rfl, rfl, rfl, rfl, trivial⟩ ?_
      refine PW.cond rfl (fun c37 => ?_) (fun c37 => ?_)
      · try simp only [decide_eq_true_eq, decide_eq_false_iff_not, beq_iff_eq, bne_iff_ne, beq_eq_false_iff_ne, bne_eq_false_iff_eq, Bool.not_eq_true', Bool.not_eq_false', Bool.not_eq_true, ne_eq, Decidable.not_not] at c37
        refine PW.ops ?_
        refine OL.det trivial (Yields.pure rfl) ?_
        refine OL.det trivial (Yields.pure rfl) ?_
        refine OL.call trivial rfl (FC.sel [1, 0] 2 rfl (num1_fc hlt.cons (by omega) hlc (by omega))) ?_
        rintro _ _ ⟨n, at2, e2, rfl, rfl, hat2, hn, hE⟩
        change OL _ _ _ _ _ (RB r15 A lt.length ca at2 e2 :: sb :: S) _
        refine OL.call trivial rfl (FC.sel [1, 0] 2 rfl (num_fc hsb hn (by omega))) ?_
        rintro v6 _ ⟨seg8, rfl, hs8⟩
        change OL _ _ _ _ _ (seg8 :: RB r15 A lt.length ca at2 e2 :: S) _
        obtain ⟨ys, hys⟩ : ∃ ys, ys = lt.take at_ ++ numB n := ⟨_, rfl⟩
        rw [← hys] at hs8 hE
        have hpre : lt.take at_ <+: ys := by rw [hys]; exact List.prefix_append _ _
        refine OL.det trivial (Yields.pure rfl) ?_
        refine OL.nil ?_
        refine hK4 _ _ ?_
        refine PW.keep (T' := [(0, _), (1, _), (5, _), (6, _), (7, _), (8, _)]) ⟨rfl, rfl, rfl, rfl, rfl, rfl, trivial⟩ ?_
        refine PW.seqOps ?_
        obtain ⟨Ay, cy, rfl, _, hcy, qy⟩ := SlV.rd0 (w0 := w0) hs8
        refine OL.det trivial (Yields.pure rfl) ?_
        refine OL.call trivial rfl (err_fc (rb := r15) (List.mem_flatten.2 ⟨_, List.mem_cons_of_mem _ List.mem_cons_self, List.mem_singleton.2 rfl⟩)) ?_
        rintro _ _ ⟨rfl, rfl⟩
        refine OL.det trivial (Yields.pure rfl) ?_
        refine OL.nil ?_
        refine PW.keep (T' := [(0, _), (1, _), (5, _), (6, _), (7, _), (8, _), (63, _)]) ⟨rfl, rfl, rfl, rfl, rfl, rfl, rfl, trivial⟩ ?_
        refine PW.cond rfl (fun c63 => ?_) (fun c63 => ?_)
        · try simp only [decide_eq_true_eq, decide_eq_false_iff_not, beq_iff_eq, bne_iff_ne, beq_eq_false_iff_ne, bne_eq_false_iff_eq, Bool.not_eq_true', Bool.not_eq_false', Bool.not_eq_true, ne_eq, Decidable.not_not] at c63
          have hyl : (lt.take at_).length ≤ ys.length := hpre.length_le
          refine PW.seqOps ?_
          refine OL.det trivial (Yields.pure rfl) ?_
          refine OL.det trivial (Yields.pure rfl) ?_
          refine OL.det trivial (Yields.pure rfl) ?_
          refine OL.det trivial (Yields.pure rfl) ?_
          refine OL.det trivial (Yields.pure rfl) ?_
          refine OL.det trivial (Yields.slS (l := 0) (h := (lt.take at_).length) rfl rfl rfl (.inr ⟨rfl, rfl⟩) (.inl (congrArg some (by simp only [Bool.false_eq_true, if_false]; split <;> omega))) (by omega) (by omega)) ?_
          rw [cutV0]
          have qy := fun S2 => Rd.take2 (qy S2) hpre
          refine OL.det trivial (Yields.pure rfl) ?_
          refine OL.nil ?_
          refine PW.keep (T' := [(0, _), (5, _), (6, _)]) ⟨rfl, rfl, rfl, trivial⟩ ?_
          refine PW.exit ?_
          refine hK1 _ _ ?_
          refine PW.keep (T' := [(0, _), (5, _), (6, _)]) ⟨rfl, rfl, rfl, trivial⟩ ?_
          refine PW.seq fun K5 hK5 => ?_
          refine PW.quiet2QK Try.mixed ?_
          refine QK.det trivial (Yields.pure rfl) ?_
          refine QK.det trivial (Yields.pure rfl) ?_
          refine QK.det trivial (Yields.pure rfl) ?_
          refine QK.det trivial (Yields.pure rfl) ?_
          refine QK.det trivial (Yields.to (v' := .bool true) (Yields.pure rfl) (congrArg Value.bool (decide_eq_true (by omega)))) ?_
          refine QK.det trivial (Yields.pure rfl) ?_
          refine QK.det rfl (Yields.pure rfl) ?_
          refine QK.det rfl (Yields.strOf rfl rfl (qy _)) ?_
          refine QK.det rfl (Yields.pure rfl) ?_
          refine QK.det rfl (Yields.pure rfl) ?_
          refine QK.det rfl (Yields.pure rfl) ?_
          refine QK.det rfl (Yields.slS (l := 0) (h := (lt.take at_).length) rfl rfl rfl (.inr ⟨rfl, rfl⟩) (.inl rfl) (by omega) (by omega)) ?_
          rw [cutV0]
          refine QK.det rfl (Yields.strOf rfl rfl (Rd.take (k := at_) hlt).cons.cons) ?_
          refine QK.det rfl (Yields.to (v' := .bool true) (Yields.pure rfl) (by simp)) ?_
          refine QK.det trivial (Yields.pure rfl) ?_
          refine QK.det trivial (Yields.pure rfl) ?_
          refine QK.det rfl (Yields.pure rfl) ?_
          refine QK.call rfl rfl (err_fc (rb := r15) (List.mem_flatten.2 ⟨_, List.mem_cons_of_mem _ List.mem_cons_self, List.mem_singleton.2 rfl⟩)) ?_
          refine QK.det rfl (Yields.pure rfl) ?_
          refine QK.bool rfl (Yields.pure rfl) (fun g89 => ?_) (fun g89 => ?_)
          · try simp only [decide_eq_true_eq, decide_eq_false_iff_not, beq_iff_eq, bne_iff_ne, beq_eq_false_iff_ne, bne_eq_false_iff_eq, Bool.not_eq_true', Bool.not_eq_false', Bool.not_eq_true, ne_eq, Decidable.not_not] at g89
            refine QK.off rfl rfl ?_
            refine QK.off rfl rfl ?_
            refine QK.off rfl rfl ?_
            refine QK.off rfl rfl ?_
            refine QK.off rfl rfl ?_
            refine QK.off rfl rfl ?_
            refine QK.off rfl rfl ?_
            refine QK.off rfl rfl ?_
            refine QK.nil ?_
            change OL _ _ _ [_, _, _, _, _, _, _] _ _ _
            refine OL.off rfl rfl ?_
            refine OL.det rfl (Yields.pure rfl) ?_
            refine OL.det trivial (Yields.pure rfl) ?_
            refine OL.det trivial (Yields.pure rfl) ?_
            refine OL.call rfl rfl (works_fc) ?_
            rintro _ _ ⟨rfl, rfl⟩
            refine OL.det trivial (Yields.pure rfl) ?_
            refine OL.det trivial (Yields.pure rfl) ?_
            refine OL.nil ?_
            refine hK5 _ _ ?_
            refine PW.keep (T' := [(4, _)]) ⟨rfl, trivial⟩ ?_
            refine PW.ret ?_
            change (Exit.ret = Exit.normal ∨ Exit.ret = Exit.ret) ∧ ∃ v, resV _ _ = some v ∧ _
            exact ⟨.inr rfl, _, rfl, _, Sub.refl _, rfl⟩
          · (try simp only [decide_eq_true_eq, decide_eq_false_iff_not, beq_iff_eq, bne_iff_ne, beq_eq_false_iff_ne, bne_eq_false_iff_eq, Bool.not_eq_true', Bool.not_eq_false', Bool.not_eq_true, ne_eq, Decidable.not_not] at g89) <;> (exfalso; first | omega | (simp at g89; done) | (revert g89; simp; done))
        · try simp only [decide_eq_true_eq, decide_eq_false_iff_not, beq_iff_eq, bne_iff_ne, beq_eq_false_iff_ne, bne_eq_false_iff_eq, Bool.not_eq_true', Bool.not_eq_false', Bool.not_eq_true, ne_eq, Decidable.not_not] at c63
          refine PW.skip ?_
          refine hK3 _ _ ?_
          refine PW.keep (T' := [(0, _), (1, _), (5, _), (6, _), (7, _)]) ⟨rfl, rfl, rfl, rfl, rfl, trivial⟩ ?_
          refine PW.ops ?_
          refine OL.det trivial (Yields.pure rfl) ?_
          refine OL.det trivial (Yields.add64 rfl rfl (by omega) (by omega)) ?_
          refine OL.det trivial (Yields.pure rfl) ?_
          refine OL.nil ?_
          repeat rw [inBlk_n]
          rw [thenK_n]
          refine LoopEnd.mk (T'' := [(0, _), (1, _), (5, _), (6, _), (7, _)]) ⟨rfl, rfl, rfl, rfl, rfl, trivial⟩ ?_
          obtain rfl : e2 = 0 := by omega
          have hE' := hE rfl
          subst hE'
          exact ⟨kk.length - (k + 1), by omega, k + 1, at2, _, seg8, ⟨by omega, rfl, hat2, hs8⟩, by simp, rfl⟩
      · try simp only [decide_eq_true_eq, decide_eq_false_iff_not, beq_iff_eq, bne_iff_ne, beq_eq_false_iff_ne, bne_eq_false_iff_eq, Bool.not_eq_true', Bool.not_eq_false', Bool.not_eq_true, ne_eq, Decidable.not_not] at c37
        refine PW.seqOps ?_
        refine OL.det trivial (Yields.pure rfl) ?_
        refine OL.det trivial (Yields.pure rfl) ?_
        refine OL.nil ?_
        refine PW.keep (T' := [(0, _), (1, _), (5, _), (6, _), (7, _), (8, _), (32, _), (43, _)]) ⟨rfl, rfl, rfl, rfl, rfl, rfl, rfl, rfl, trivial⟩ ?_
        refine PW.cond rfl (fun c43 => ?_) (fun c43 => ?_)
        · try simp only [decide_eq_true_eq, decide_eq_false_iff_not, beq_iff_eq, bne_iff_ne, beq_eq_false_iff_ne, bne_eq_false_iff_eq, Bool.not_eq_true', Bool.not_eq_false', Bool.not_eq_true, ne_eq, Decidable.not_not] at c43
          refine PW.ops ?_
          refine OL.det trivial (Yields.pure rfl) ?_
          refine OL.det trivial (Yields.pure rfl) ?_
          refine OL.call trivial rfl (FC.sel [1, 0] 2 rfl (text1_fc hlt.cons (by omega) hlc (by omega))) ?_
          rintro _ _ ⟨s, at2, e2, rfl, rfl, hat2, hn, hE⟩
          change OL _ _ _ _ _ (RB r15 A lt.length ca at2 e2 :: sb :: S) _
          refine OL.call trivial rfl (FC.sel [1, 0] 2 rfl (text_fc hsb (by omega) (by omega))) ?_
          rintro v6 _ ⟨seg8, rfl, hs8⟩
          change OL _ _ _ _ _ (seg8 :: RB r15 A lt.length ca at2 e2 :: S) _
          obtain ⟨ys, hys⟩ : ∃ ys, ys = lt.take at_ ++ textB s := ⟨_, rfl⟩
          rw [← hys] at hs8 hE
          have hpre : lt.take at_ <+: ys := by rw [hys]; exact List.prefix_append _ _
          refine OL.det trivial (Yields.pure rfl) ?_
          refine OL.nil ?_
          refine hK4 _ _ ?_
          refine PW.keep (T' := [(0, _), (1, _), (5, _), (6, _), (7, _), (8, _)]) ⟨rfl, rfl, rfl, rfl, rfl, rfl, trivial⟩ ?_
          refine PW.seqOps ?_
          obtain ⟨Ay, cy, rfl, _, hcy, qy⟩ := SlV.rd0 (w0 := w0) hs8
          refine OL.det trivial (Yields.pure rfl) ?_
          refine OL.call trivial rfl (err_fc (rb := r15) (List.mem_flatten.2 ⟨_, List.mem_cons_of_mem _ List.mem_cons_self, List.mem_singleton.2 rfl⟩)) ?_
          rintro _ _ ⟨rfl, rfl⟩
          refine OL.det trivial (Yields.pure rfl) ?_
          refine OL.nil ?_
          refine PW.keep (T' := [(0, _), (1, _), (5, _), (6, _), (7, _), (8, _), (63, _)]) ⟨rfl, rfl, rfl, rfl, rfl, rfl, rfl, trivial⟩ ?_
          refine PW.cond rfl (fun c63 => ?_) (fun c63 => ?_)
          · try simp only [decide_eq_true_eq, decide_eq_false_iff_not, beq_iff_eq, bne_iff_ne, beq_eq_false_iff_ne, bne_eq_false_iff_eq, Bool.not_eq_true', Bool.not_eq_false', Bool.not_eq_true, ne_eq, Decidable.not_not] at c63
            have hyl : (lt.take at_).length ≤ ys.length := hpre.length_le
            refine PW.seqOps ?_
            refine OL.det trivial (Yields.pure rfl) ?_
            refine OL.det trivial (Yields.pure rfl) ?_
            refine OL.det trivial (Yields.pure rfl) ?_
            refine OL.det trivial (Yields.pure rfl) ?_
            refine OL.det trivial (Yields.pure rfl) ?_
            refine OL.det trivial (Yields.slS (l := 0) (h := (lt.take at_).length) rfl rfl rfl (.inr ⟨rfl, rfl⟩) (.inl (congrArg some (by simp only [Bool.false_eq_true, if_false]; split <;> omega))) (by omega) (by omega)) ?_
            rw [cutV0]
            have qy := fun S2 => Rd.take2 (qy S2) hpre
            refine OL.det trivial (Yields.pure rfl) ?_
            refine OL.nil ?_
            refine PW.keep (T' := [(0, _), (5, _), (6, _)]) ⟨rfl, rfl, rfl, trivial⟩ ?_
            refine PW.exit ?_
            refine hK1 _ _ ?_
            refine PW.keep (T' := [(0, _), (5, _), (6, _)]) ⟨rfl, rfl, rfl, trivial⟩ ?_
            refine PW.seq fun K6 hK6 => ?_
            refine PW.quiet2QK Try.mixed ?_
            refine QK.det trivial (Yields.pure rfl) ?_
            refine QK.det trivial (Yields.pure rfl) ?_
            refine QK.det trivial (Yields.pure rfl) ?_
            refine QK.det trivial (Yields.pure rfl) ?_
            refine QK.det trivial (Yields.to (v' := .bool true) (Yields.pure rfl) (congrArg Value.bool (decide_eq_true (by omega)))) ?_
            refine QK.det trivial (Yields.pure rfl) ?_
            refine QK.det rfl (Yields.pure rfl) ?_
            refine QK.det rfl (Yields.strOf rfl rfl (qy _)) ?_
            refine QK.det rfl (Yields.pure rfl) ?_
            refine QK.det rfl (Yields.pure rfl) ?_
            refine QK.det rfl (Yields.pure rfl) ?_
            refine QK.det rfl (Yields.slS (l := 0) (h := (lt.take at_).length) rfl rfl rfl (.inr ⟨rfl, rfl⟩) (.inl rfl) (by omega) (by omega)) ?_
            rw [cutV0]
            refine QK.det rfl (Yields.strOf rfl rfl (Rd.take (k := at_) hlt).cons.cons) ?_
            refine QK.det rfl (Yields.to (v' := .bool true) (Yields.pure rfl) (by simp)) ?_
            refine QK.det trivial (Yields.pure rfl) ?_
            refine QK.det trivial (Yields.pure rfl) ?_
            refine QK.det rfl (Yields.pure rfl) ?_
            refine QK.call rfl rfl (err_fc (rb := r15) (List.mem_flatten.2 ⟨_, List.mem_cons_of_mem _ List.mem_cons_self, List.mem_singleton.2 rfl⟩)) ?_
            refine QK.det rfl (Yields.pure rfl) ?_
            refine QK.bool rfl (Yields.pure rfl) (fun g89 => ?_) (fun g89 => ?_)
            · try simp only [decide_eq_true_eq, decide_eq_false_iff_not, beq_iff_eq, bne_iff_ne, beq_eq_false_iff_ne, bne_eq_false_iff_eq, Bool.not_eq_true', Bool.not_eq_false', Bool.not_eq_true, ne_eq, Decidable.not_not] at g89
              refine QK.off rfl rfl ?_
              refine QK.off rfl rfl ?_
              refine QK.off rfl rfl ?_
              refine QK.off rfl rfl ?_
              refine QK.off rfl rfl ?_
              refine QK.off rfl rfl ?_
              refine QK.off rfl rfl ?_
              refine QK.off rfl rfl ?_
              refine QK.nil ?_
              change OL _ _ _ [_, _, _, _, _, _, _] _ _ _
              refine OL.off rfl rfl ?_
              refine OL.det rfl (Yields.pure rfl) ?_
              refine OL.det trivial (Yields.pure rfl) ?_
              refine OL.det trivial (Yields.pure rfl) ?_
              refine OL.call rfl rfl (works_fc) ?_
              rintro _ _ ⟨rfl, rfl⟩
              refine OL.det trivial (Yields.pure rfl) ?_
              refine OL.det trivial (Yields.pure rfl) ?_
              refine OL.nil ?_
              refine hK6 _ _ ?_
              refine PW.keep (T' := [(4, _)]) ⟨rfl, trivial⟩ ?_
              refine PW.ret ?_
              change (Exit.ret = Exit.normal ∨ Exit.ret = Exit.ret) ∧ ∃ v, resV _ _ = some v ∧ _
              exact ⟨.inr rfl, _, rfl, _, Sub.refl _, rfl⟩
            · (try simp only [decide_eq_true_eq, decide_eq_false_iff_not, beq_iff_eq, bne_iff_ne, beq_eq_false_iff_ne, bne_eq_false_iff_eq, Bool.not_eq_true', Bool.not_eq_false', Bool.not_eq_true, ne_eq, Decidable.not_not] at g89) <;> (exfalso; first | omega | (simp at g89; done) | (revert g89; simp; done))
          · try simp only [decide_eq_true_eq, decide_eq_false_iff_not, beq_iff_eq, bne_iff_ne, beq_eq_false_iff_ne, bne_eq_false_iff_eq, Bool.not_eq_true', Bool.not_eq_false', Bool.not_eq_true, ne_eq, Decidable.not_not] at c63
            refine PW.skip ?_
            refine hK3 _ _ ?_
            refine PW.keep (T' := [(0, _), (1, _), (5, _), (6, _), (7, _)]) ⟨rfl, rfl, rfl, rfl, rfl, trivial⟩ ?_
            refine PW.ops ?_
            refine OL.det trivial (Yields.pure rfl) ?_
            refine OL.det trivial (Yields.add64 rfl rfl (by omega) (by omega)) ?_
            refine OL.det trivial (Yields.pure rfl) ?_
            refine OL.nil ?_
            repeat rw [inBlk_n]
            rw [thenK_n]
            refine LoopEnd.mk (T'' := [(0, _), (1, _), (5, _), (6, _), (7, _)]) ⟨rfl, rfl, rfl, rfl, rfl, trivial⟩ ?_
            obtain rfl : e2 = 0 := by omega
            have hE' := hE rfl
            subst hE'
            exact ⟨kk.length - (k + 1), by omega, k + 1, at2, _, seg8, ⟨by omega, rfl, hat2, hs8⟩, by simp, rfl⟩
        · try simp only [decide_eq_true_eq, decide_eq_false_iff_not, beq_iff_eq, bne_iff_ne, beq_eq_false_iff_ne, bne_eq_false_iff_eq, Bool.not_eq_true', Bool.not_eq_false', Bool.not_eq_true, ne_eq, Decidable.not_not] at c43
          refine PW.seqOps ?_
          refine OL.det trivial (Yields.pure rfl) ?_
          refine OL.det trivial (Yields.pure rfl) ?_
          refine OL.nil ?_
          refine PW.keep (T' := [(0, _), (1, _), (5, _), (6, _), (7, _), (8, _), (32, _), (49, _)]) ⟨rfl, rfl, rfl, rfl, rfl, rfl, rfl, rfl, trivial⟩ ?_
          refine PW.cond rfl (fun c49 => ?_) (fun c49 => ?_)
          · try simp only [decide_eq_true_eq, decide_eq_false_iff_not, beq_iff_eq, bne_iff_ne, beq_eq_false_iff_ne, bne_eq_false_iff_eq, Bool.not_eq_true', Bool.not_eq_false', Bool.not_eq_true, ne_eq, Decidable.not_not] at c49
            refine PW.ops ?_
            refine OL.det trivial (Yields.pure rfl) ?_
            refine OL.det trivial (Yields.pure rfl) ?_
            refine OL.call trivial rfl (FC.sel [1, 0] 2 rfl (hash1_fc hlt.cons (by omega) hlc (by omega))) ?_
            rintro _ _ ⟨h, at2, e2, rfl, rfl, hat2, hn, hE⟩
            change OL _ _ _ _ _ (RB r15 A lt.length ca at2 e2 :: sb :: S) _
            refine OL.call trivial rfl (FC.sel [1, 0] 2 rfl (hash_fc hsb hn (by omega))) ?_
            rintro v6 _ ⟨seg8, rfl, hs8⟩
            change OL _ _ _ _ _ (seg8 :: RB r15 A lt.length ca at2 e2 :: S) _
            obtain ⟨ys, hys⟩ : ∃ ys, ys = lt.take at_ ++ h := ⟨_, rfl⟩
            rw [← hys] at hs8 hE
            have hpre : lt.take at_ <+: ys := by rw [hys]; exact List.prefix_append _ _
            refine OL.det trivial (Yields.pure rfl) ?_
            refine OL.nil ?_
            refine hK4 _ _ ?_
            refine PW.keep (T' := [(0, _), (1, _), (5, _), (6, _), (7, _), (8, _)]) ⟨rfl, rfl, rfl, rfl, rfl, rfl, trivial⟩ ?_
            refine PW.seqOps ?_
            obtain ⟨Ay, cy, rfl, _, hcy, qy⟩ := SlV.rd0 (w0 := w0) hs8
            refine OL.det trivial (Yields.pure rfl) ?_
            refine OL.call trivial rfl (err_fc (rb := r15) (List.mem_flatten.2 ⟨_, List.mem_cons_of_mem _ List.mem_cons_self, List.mem_singleton.2 rfl⟩)) ?_
            rintro _ _ ⟨rfl, rfl⟩
            refine OL.det trivial (Yields.pure rfl) ?_
            refine OL.nil ?_
            refine PW.keep (T' := [(0, _), (1, _), (5, _), (6, _), (7, _), (8, _), (63, _)]) ⟨rfl, rfl, rfl, rfl, rfl, rfl, rfl, trivial⟩ ?_
            refine PW.cond rfl (fun c63 => ?_) (fun c63 => ?_)
            · try simp only [decide_eq_true_eq, decide_eq_false_iff_not, beq_iff_eq, bne_iff_ne, beq_eq_false_iff_ne, bne_eq_false_iff_eq, Bool.not_eq_true', Bool.not_eq_false', Bool.not_eq_true, ne_eq, Decidable.not_not] at c63
              have hyl : (lt.take at_).length ≤ ys.length := hpre.length_le
              refine PW.seqOps ?_
              refine OL.det trivial (Yields.pure rfl) ?_
              refine OL.det trivial (Yields.pure rfl) ?_
              refine OL.det trivial (Yields.pure rfl) ?_
              refine OL.det trivial (Yields.pure rfl) ?_
              refine OL.det trivial (Yields.pure rfl) ?_
              refine OL.det trivial (Yields.slS (l := 0) (h := (lt.take at_).length) rfl rfl rfl (.inr ⟨rfl, rfl⟩) (.inl (congrArg some (by simp only [Bool.false_eq_true, if_false]; split <;> omega))) (by omega) (by omega)) ?_
              rw [cutV0]
              have qy := fun S2 => Rd.take2 (qy S2) hpre
              refine OL.det trivial (Yields.pure rfl) ?_
              refine OL.nil ?_
              refine PW.keep (T' := [(0, _), (5, _), (6, _)]) ⟨rfl, rfl, rfl, trivial⟩ ?_
              refine PW.exit ?_
              refine hK1 _ _ ?_
              refine PW.keep (T' := [(0, _), (5, _), (6, _)]) ⟨rfl, rfl, rfl, trivial⟩ ?_
              refine PW.seq fun K7 hK7 => ?_
              refine PW.quiet2QK Try.mixed ?_
              refine QK.det trivial (Yields.pure rfl) ?_
              refine QK.det trivial (Yields.pure rfl) ?_
              refine QK.det trivial (Yields.pure rfl) ?_
              refine QK.det trivial (Yields.pure rfl) ?_
              refine QK.det trivial (Yields.to (v' := .bool true) (Yields.pure rfl) (congrArg Value.bool (decide_eq_true (by omega)))) ?_
              refine QK.det trivial (Yields.pure rfl) ?_
              refine QK.det rfl (Yields.pure rfl) ?_
              refine QK.det rfl (Yields.strOf rfl rfl (qy _)) ?_
              refine QK.det rfl (Yields.pure rfl) ?_
              refine QK.det rfl (Yields.pure rfl) ?_
              refine QK.det rfl (Yields.pure rfl) ?_
              refine QK.det rfl (Yields.slS (l := 0) (h := (lt.take at_).length) rfl rfl rfl (.inr ⟨rfl, rfl⟩) (.inl rfl) (by omega) (by omega)) ?_
              rw [cutV0]
              refine QK.det rfl (Yields.strOf rfl rfl (Rd.take (k := at_) hlt).cons.cons) ?_
              refine QK.det rfl (Yields.to (v' := .bool true) (Yields.pure rfl) (by simp)) ?_
              refine QK.det trivial (Yields.pure rfl) ?_
              refine QK.det trivial (Yields.pure rfl) ?_
              refine QK.det rfl (Yields.pure rfl) ?_
              refine QK.call rfl rfl (err_fc (rb := r15) (List.mem_flatten.2 ⟨_, List.mem_cons_of_mem _ List.mem_cons_self, List.mem_singleton.2 rfl⟩)) ?_
              refine QK.det rfl (Yields.pure rfl) ?_
              refine QK.bool rfl (Yields.pure rfl) (fun g89 => ?_) (fun g89 => ?_)
              · try simp only [decide_eq_true_eq, decide_eq_false_iff_not, beq_iff_eq, bne_iff_ne, beq_eq_false_iff_ne, bne_eq_false_iff_eq, Bool.not_eq_true', Bool.not_eq_false', Bool.not_eq_true, ne_eq, Decidable.not_not] at g89
                refine QK.off rfl rfl ?_
                refine QK.off rfl rfl ?_
                refine QK.off rfl rfl ?_
                refine QK.off rfl rfl ?_
                refine QK.off rfl rfl ?_
                refine QK.off rfl rfl ?_
                refine QK.off rfl rfl ?_
                refine QK.off rfl rfl ?_
                refine QK.nil ?_
                change OL _ _ _ [_, _, _, _, _, _, _] _ _ _
                refine OL.off rfl rfl ?_
                refine OL.det rfl (Yields.pure rfl) ?_
                refine OL.det trivial (Yields.pure rfl) ?_
                refine OL.det trivial (Yields.pure rfl) ?_
                refine OL.call rfl rfl (works_fc) ?_
                rintro _ _ ⟨rfl, rfl⟩
                refine OL.det trivial (Yields.pure rfl) ?_
                refine OL.det trivial (Yields.pure rfl) ?_
                refine OL.nil ?_
                refine hK7 _ _ ?_
                refine PW.keep (T' := [(4, _)]) ⟨rfl, trivial⟩ ?_
                refine PW.ret ?_
                change (Exit.ret = Exit.normal ∨ Exit.ret = Exit.ret) ∧ ∃ v, resV _ _ = some v ∧ _
                exact ⟨.inr rfl, _, rfl, _, Sub.refl _, rfl⟩
              · (try simp only [decide_eq_true_eq, decide_eq_false_iff_not, beq_iff_eq, bne_iff_ne, beq_eq_false_iff_ne, bne_eq_false_iff_eq, Bool.not_eq_true', Bool.not_eq_false', Bool.not_eq_true, ne_eq, Decidable.not_not] at g89) <;> (exfalso; first | omega | (simp at g89; done) | (revert g89; simp; done))
            · try simp only [decide_eq_true_eq, decide_eq_false_iff_not, beq_iff_eq, bne_iff_ne, beq_eq_false_iff_ne, bne_eq_false_iff_eq, Bool.not_eq_true', Bool.not_eq_false', Bool.not_eq_true, ne_eq, Decidable.not_not] at c63
              refine PW.skip ?_
              refine hK3 _ _ ?_
              refine PW.keep (T' := [(0, _), (1, _), (5, _), (6, _), (7, _)]) ⟨rfl, rfl, rfl, rfl, rfl, trivial⟩ ?_
              refine PW.ops ?_
              refine OL.det trivial (Yields.pure rfl) ?_
              refine OL.det trivial (Yields.add64 rfl rfl (by omega) (by omega)) ?_
              refine OL.det trivial (Yields.pure rfl) ?_
              refine OL.nil ?_
              repeat rw [inBlk_n]
              rw [thenK_n]
              refine LoopEnd.mk (T'' := [(0, _), (1, _), (5, _), (6, _), (7, _)]) ⟨rfl, rfl, rfl, rfl, rfl, trivial⟩ ?_
              obtain rfl : e2 = 0 := by omega
              have hE' := hE rfl
              subst hE'
              exact ⟨kk.length - (k + 1), by omega, k + 1, at2, _, seg8, ⟨by omega, rfl, hat2, hs8⟩, by simp, rfl⟩
          · try simp only [decide_eq_true_eq, decide_eq_false_iff_not, beq_iff_eq, bne_iff_ne, beq_eq_false_iff_ne, bne_eq_false_iff_eq, Bool.not_eq_true', Bool.not_eq_false', Bool.not_eq_true, ne_eq, Decidable.not_not] at c49
            refine PW.seqOps ?_
            refine OL.det trivial (Yields.pure rfl) ?_
            refine OL.det trivial (Yields.pure rfl) ?_
            refine OL.nil ?_
            refine PW.keep (T' := [(0, _), (1, _), (5, _), (6, _), (7, _), (8, _), (55, _)]) ⟨rfl, rfl, rfl, rfl, rfl, rfl, rfl, trivial⟩ ?_
            refine PW.cond rfl (fun c55 => ?_) (fun c55 => ?_)
            · try simp only [decide_eq_true_eq, decide_eq_false_iff_not, beq_iff_eq, bne_iff_ne, beq_eq_false_iff_ne, bne_eq_false_iff_eq, Bool.not_eq_true', Bool.not_eq_false', Bool.not_eq_true, ne_eq, Decidable.not_not] at c55
              refine PW.ops ?_
              refine OL.det trivial (Yields.pure rfl) ?_
              refine OL.det trivial (Yields.pure rfl) ?_
              refine OL.call trivial rfl (FC.sel [1, 0] 2 rfl (label1_fc hlt.cons (by omega) hlc (by omega))) ?_
              rintro _ _ ⟨lv, c, at2, e2, rfl, rfl, hat2, hn, hE⟩
              change OL _ _ _ _ _ (RB r15 A lt.length ca at2 e2 :: sb :: S) _
              refine OL.call trivial rfl (FC.sel [1, 0] 2 rfl (label_fc hsb hn (by omega))) ?_
              rintro v6 _ ⟨seg8, rfl, hs8⟩
              change OL _ _ _ _ _ (seg8 :: RB r15 A lt.length ca at2 e2 :: S) _
              obtain ⟨ys, hys⟩ : ∃ ys, ys = lt.take at_ ++ labelB lv c := ⟨_, rfl⟩
              rw [← hys] at hs8 hE
              have hpre : lt.take at_ <+: ys := by rw [hys]; exact List.prefix_append _ _
              refine OL.det trivial (Yields.pure rfl) ?_
              refine OL.nil ?_
              refine hK4 _ _ ?_
              refine PW.keep (T' := [(0, _), (1, _), (5, _), (6, _), (7, _), (8, _)]) ⟨rfl, rfl, rfl, rfl, rfl, rfl, trivial⟩ ?_
              refine PW.seqOps ?_
              obtain ⟨Ay, cy, rfl, _, hcy, qy⟩ := SlV.rd0 (w0 := w0) hs8
              refine OL.det trivial (Yields.pure rfl) ?_
              refine OL.call trivial rfl (err_fc (rb := r15) (List.mem_flatten.2 ⟨_, List.mem_cons_of_mem _ List.mem_cons_self, List.mem_singleton.2 rfl⟩)) ?_
              rintro _ _ ⟨rfl, rfl⟩
              refine OL.det trivial (Yields.pure rfl) ?_
              refine OL.nil ?_
              refine PW.keep (T' := [(0, _), (1, _), (5, _), (6, _), (7, _), (8, _), (63, _)]) ⟨rfl, rfl, rfl, rfl, rfl, rfl, rfl, trivial⟩ ?_
              refine PW.cond rfl (fun c63 => ?_) (fun c63 => ?_)
              · try simp only [decide_eq_true_eq, decide_eq_false_iff_not, beq_iff_eq, bne_iff_ne, beq_eq_false_iff_ne, bne_eq_false_iff_eq, Bool.not_eq_true', Bool.not_eq_false', Bool.not_eq_true, ne_eq, Decidable.not_not] at c63
                have hyl : (lt.take at_).length ≤ ys.length := hpre.length_le
                refine PW.seqOps ?_
                refine OL.det trivial (Yields.pure rfl) ?_
                refine OL.det trivial (Yields.pure rfl) ?_
                refine OL.det trivial (Yields.pure rfl) ?_
                refine OL.det trivial (Yields.pure rfl) ?_
                refine OL.det trivial (Yields.pure rfl) ?_
                refine OL.det trivial (Yields.slS (l := 0) (h := (lt.take at_).length) rfl rfl rfl (.inr ⟨rfl, rfl⟩) (.inl (congrArg some (by simp only [Bool.false_eq_true, if_false]; split <;> omega))) (by omega) (by omega)) ?_
                rw [cutV0]
                have qy := fun S2 => Rd.take2 (qy S2) hpre
                refine OL.det trivial (Yields.pure rfl) ?_
                refine OL.nil ?_
                refine PW.keep (T' := [(0, _), (5, _), (6, _)]) ⟨rfl, rfl, rfl, trivial⟩ ?_
                refine PW.exit ?_
                refine hK1 _ _ ?_
                refine PW.keep (T' := [(0, _), (5, _), (6, _)]) ⟨rfl, rfl, rfl, trivial⟩ ?_
                refine PW.seq fun K8 hK8 => ?_
                refine PW.quiet2QK Try.mixed ?_
                refine QK.det trivial (Yields.pure rfl) ?_
                refine QK.det trivial (Yields.pure rfl) ?_
                refine QK.det trivial (Yields.pure rfl) ?_
                refine QK.det trivial (Yields.pure rfl) ?_
                refine QK.det trivial (Yields.to (v' := .bool true) (Yields.pure rfl) (congrArg Value.bool (decide_eq_true (by omega)))) ?_
                refine QK.det trivial (Yields.pure rfl) ?_
                refine QK.det rfl (Yields.pure rfl) ?_
                refine QK.det rfl (Yields.strOf rfl rfl (qy _)) ?_
                refine QK.det rfl (Yields.pure rfl) ?_
                refine QK.det rfl (Yields.pure rfl) ?_
                refine QK.det rfl (Yields.pure rfl) ?_
                refine QK.det rfl (Yields.slS (l := 0) (h := (lt.take at_).length) rfl rfl rfl (.inr ⟨rfl, rfl⟩) (.inl rfl) (by omega) (by omega)) ?_
                rw [cutV0]
                refine QK.det rfl (Yields.strOf rfl rfl (Rd.take (k := at_) hlt).cons.cons) ?_
                refine QK.det rfl (Yields.to (v' := .bool true) (Yields.pure rfl) (by simp)) ?_
                refine QK.det trivial (Yields.pure rfl) ?_
                refine QK.det trivial (Yields.pure rfl) ?_
                refine QK.det rfl (Yields.pure rfl) ?_
                refine QK.call rfl rfl (err_fc (rb := r15) (List.mem_flatten.2 ⟨_, List.mem_cons_of_mem _ List.mem_cons_self, List.mem_singleton.2 rfl⟩)) ?_
                refine QK.det rfl (Yields.pure rfl) ?_
                refine QK.bool rfl (Yields.pure rfl) (fun g89 => ?_) (fun g89 => ?_)
                · try simp only [decide_eq_true_eq, decide_eq_false_iff_not, beq_iff_eq, bne_iff_ne, beq_eq_false_iff_ne, bne_eq_false_iff_eq, Bool.not_eq_true', Bool.not_eq_false', Bool.not_eq_true, ne_eq, Decidable.not_not] at g89
                  refine QK.off rfl rfl ?_
                  refine QK.off rfl rfl ?_
                  refine QK.off rfl rfl ?_
                  refine QK.off rfl rfl ?_
                  refine QK.off rfl rfl ?_
                  refine QK.off rfl rfl ?_
                  refine QK.off rfl rfl ?_
                  refine QK.off rfl rfl ?_
                  refine QK.nil ?_
                  change OL _ _ _ [_, _, _, _, _, _, _] _ _ _
                  refine OL.off rfl rfl ?_
                  refine OL.det rfl (Yields.pure rfl) ?_
                  refine OL.det trivial (Yields.pure rfl) ?_
                  refine OL.det trivial (Yields.pure rfl) ?_
                  refine OL.call rfl rfl (works_fc) ?_
                  rintro _ _ ⟨rfl, rfl⟩
                  refine OL.det trivial (Yields.pure rfl) ?_
                  refine OL.det trivial (Yields.pure rfl) ?_
                  refine OL.nil ?_
                  refine hK8 _ _ ?_
                  refine PW.keep (T' := [(4, _)]) ⟨rfl, trivial⟩ ?_
                  refine PW.ret ?_
                  change (Exit.ret = Exit.normal ∨ Exit.ret = Exit.ret) ∧ ∃ v, resV _ _ = some v ∧ _
                  exact ⟨.inr rfl, _, rfl, _, Sub.refl _, rfl⟩
                · (try simp only [decide_eq_true_eq, decide_eq_false_iff_not, beq_iff_eq, bne_iff_ne, beq_eq_false_iff_ne, bne_eq_false_iff_eq, Bool.not_eq_true', Bool.not_eq_false', Bool.not_eq_true, ne_eq, Decidable.not_not] at g89) <;> (exfalso; first | omega | (simp at g89; done) | (revert g89; simp; done))
              · try simp only [decide_eq_true_eq, decide_eq_false_iff_not, beq_iff_eq, bne_iff_ne, beq_eq_false_iff_ne, bne_eq_false_iff_eq, Bool.not_eq_true', Bool.not_eq_false', Bool.not_eq_true, ne_eq, Decidable.not_not] at c63
                refine PW.skip ?_
                refine hK3 _ _ ?_
                refine PW.keep (T' := [(0, _), (1, _), (5, _), (6, _), (7, _)]) ⟨rfl, rfl, rfl, rfl, rfl, trivial⟩ ?_
                refine PW.ops ?_
                refine OL.det trivial (Yields.pure rfl) ?_
                refine OL.det trivial (Yields.add64 rfl rfl (by omega) (by omega)) ?_
                refine OL.det trivial (Yields.pure rfl) ?_
                refine OL.nil ?_
                repeat rw [inBlk_n]
                rw [thenK_n]
                refine LoopEnd.mk (T'' := [(0, _), (1, _), (5, _), (6, _), (7, _)]) ⟨rfl, rfl, rfl, rfl, rfl, trivial⟩ ?_
                obtain rfl : e2 = 0 := by omega
                have hE' := hE rfl
                subst hE'
                exact ⟨kk.length - (k + 1), by omega, k + 1, at2, _, seg8, ⟨by omega, rfl, hat2, hs8⟩, by simp, rfl⟩
            · try simp only [decide_eq_true_eq, decide_eq_false_iff_not, beq_iff_eq, bne_iff_ne, beq_eq_false_iff_ne, bne_eq_false_iff_eq, Bool.not_eq_true', Bool.not_eq_false', Bool.not_eq_true, ne_eq, Decidable.not_not] at c55
              refine PW.ops ?_
              refine OL.det trivial (Yields.pure rfl) ?_
              refine OL.det trivial (Yields.pure rfl) ?_
              refine OL.call trivial rfl (FC.sel [1, 0] 2 rfl (vertex1_fc hlt.cons (by omega) hlc (by omega))) ?_
              rintro _ _ ⟨h, z, at2, e2, rfl, rfl, hat2, hn, hE⟩
              change OL _ _ _ _ _ (RB r15 A lt.length ca at2 e2 :: sb :: S) _
              refine OL.call trivial rfl (FC.sel [1, 0] 2 rfl (vertex_fc hsb hn (by omega))) ?_
              rintro v6 _ ⟨seg8, rfl, hs8⟩
              change OL _ _ _ _ _ (seg8 :: RB r15 A lt.length ca at2 e2 :: S) _
              obtain ⟨ys, hys⟩ : ∃ ys, ys = lt.take at_ ++ vertexB h z := ⟨_, rfl⟩
              rw [← hys] at hs8 hE
              have hpre : lt.take at_ <+: ys := by rw [hys]; exact List.prefix_append _ _
              refine OL.det trivial (Yields.pure rfl) ?_
              refine OL.nil ?_
              refine hK4 _ _ ?_
              refine PW.keep (T' := [(0, _), (1, _), (5, _), (6, _), (7, _), (8, _)]) ⟨rfl, rfl, rfl, rfl, rfl, rfl, trivial⟩ ?_
              refine PW.seqOps ?_
              obtain ⟨Ay, cy, rfl, _, hcy, qy⟩ := SlV.rd0 (w0 := w0) hs8
              refine OL.det trivial (Yields.pure rfl) ?_
              refine OL.call trivial rfl (err_fc (rb := r15) (List.mem_flatten.2 ⟨_, List.mem_cons_of_mem _ List.mem_cons_self, List.mem_singleton.2 rfl⟩)) ?_
              rintro _ _ ⟨rfl, rfl⟩
              refine OL.det trivial (Yields.pure rfl) ?_
              refine OL.nil ?_
              refine PW.keep (T' := [(0, _), (1, _), (5, _), (6, _), (7, _), (8, _), (63, _)]) ⟨rfl, rfl, rfl, rfl, rfl, rfl, rfl, trivial⟩ ?_
              refine PW.cond rfl (fun c63 => ?_) (fun c63 => ?_)
              · try simp only [decide_eq_true_eq, decide_eq_false_iff_not, beq_iff_eq, bne_iff_ne, beq_eq_false_iff_ne, bne_eq_false_iff_eq, Bool.not_eq_true', Bool.not_eq_false', Bool.not_eq_true, ne_eq, Decidable.not_not] at c63
                have hyl : (lt.take at_).length ≤ ys.length := hpre.length_le
                refine PW.seqOps ?_
                refine OL.det trivial (Yields.pure rfl) ?_
                refine OL.det trivial (Yields.pure rfl) ?_
                refine OL.det trivial (Yields.pure rfl) ?_
                refine OL.det trivial (Yields.pure rfl) ?_
                refine OL.det trivial (Yields.pure rfl) ?_
                refine OL.det trivial (Yields.slS (l := 0) (h := (lt.take at_).length) rfl rfl rfl (.inr ⟨rfl, rfl⟩) (.inl (congrArg some (by simp only [Bool.false_eq_true, if_false]; split <;> omega))) (by omega) (by omega)) ?_
                rw [cutV0]
                have qy := fun S2 => Rd.take2 (qy S2) hpre
                refine OL.det trivial (Yields.pure rfl) ?_
                refine OL.nil ?_
                refine PW.keep (T' := [(0, _), (5, _), (6, _)]) ⟨rfl, rfl, rfl, trivial⟩ ?_
                refine PW.exit ?_
                refine hK1 _ _ ?_
                refine PW.keep (T' := [(0, _), (5, _), (6, _)]) ⟨rfl, rfl, rfl, trivial⟩ ?_
                refine PW.seq fun K9 hK9 => ?_
                refine PW.quiet2QK Try.mixed ?_
                refine QK.det trivial (Yields.pure rfl) ?_
                refine QK.det trivial (Yields.pure rfl) ?_
                refine QK.det trivial (Yields.pure rfl) ?_
                refine QK.det trivial (Yields.pure rfl) ?_
                refine QK.det trivial (Yields.to (v' := .bool true) (Yields.pure rfl) (congrArg Value.bool (decide_eq_true (by omega)))) ?_
                refine QK.det trivial (Yields.pure rfl) ?_
                refine QK.det rfl (Yields.pure rfl) ?_
                refine QK.det rfl (Yields.strOf rfl rfl (qy _)) ?_
                refine QK.det rfl (Yields.pure rfl) ?_
                refine QK.det rfl (Yields.pure rfl) ?_
                refine QK.det rfl (Yields.pure rfl) ?_
                refine QK.det rfl (Yields.slS (l := 0) (h := (lt.take at_).length) rfl rfl rfl (.inr ⟨rfl, rfl⟩) (.inl rfl) (by omega) (by omega)) ?_
                rw [cutV0]
                refine QK.det rfl (Yields.strOf rfl rfl (Rd.take (k := at_) hlt).cons.cons) ?_
                refine QK.det rfl (Yields.to (v' := .bool true) (Yields.pure rfl) (by simp)) ?_
                refine QK.det trivial (Yields.pure rfl) ?_
                refine QK.det trivial (Yields.pure rfl) ?_
                refine QK.det rfl (Yields.pure rfl) ?_
                refine QK.call rfl rfl (err_fc (rb := r15) (List.mem_flatten.2 ⟨_, List.mem_cons_of_mem _ List.mem_cons_self, List.mem_singleton.2 rfl⟩)) ?_
                refine QK.det rfl (Yields.pure rfl) ?_
                refine QK.bool rfl (Yields.pure rfl) (fun g89 => ?_) (fun g89 => ?_)
                · try simp only [decide_eq_true_eq, decide_eq_false_iff_not, beq_iff_eq, bne_iff_ne, beq_eq_false_iff_ne, bne_eq_false_iff_eq, Bool.not_eq_true', Bool.not_eq_false', Bool.not_eq_true, ne_eq, Decidable.not_not] at g89
                  refine QK.off rfl rfl ?_
                  refine QK.off rfl rfl ?_
                  refine QK.off rfl rfl ?_
                  refine QK.off rfl rfl ?_
                  refine QK.off rfl rfl ?_
                  refine QK.off rfl rfl ?_
                  refine QK.off rfl rfl ?_
                  refine QK.off rfl rfl ?_
                  refine QK.nil ?_
                  change OL _ _ _ [_, _, _, _, _, _, _] _ _ _
                  refine OL.off rfl rfl ?_
                  refine OL.det rfl (Yields.pure rfl) ?_
                  refine OL.det trivial (Yields.pure rfl) ?_
                  refine OL.det trivial (Yields.pure rfl) ?_
                  refine OL.call rfl rfl (works_fc) ?_
                  rintro _ _ ⟨rfl, rfl⟩
                  refine OL.det trivial (Yields.pure rfl) ?_
                  refine OL.det trivial (Yields.pure rfl) ?_
                  refine OL.nil ?_
                  refine hK9 _ _ ?_
                  refine PW.keep (T' := [(4, _)]) ⟨rfl, trivial⟩ ?_
                  refine PW.ret ?_
                  change (Exit.ret = Exit.normal ∨ Exit.ret = Exit.ret) ∧ ∃ v, resV _ _ = some v ∧ _
                  exact ⟨.inr rfl, _, rfl, _, Sub.refl _, rfl⟩
                · (try simp only [decide_eq_true_eq, decide_eq_false_iff_not, beq_iff_eq, bne_iff_ne, beq_eq_false_iff_ne, bne_eq_false_iff_eq, Bool.not_eq_true', Bool.not_eq_false', Bool.not_eq_true, ne_eq, Decidable.not_not] at g89) <;> (exfalso; first | omega | (simp at g89; done) | (revert g89; simp; done))
              · try simp only [decide_eq_true_eq, decide_eq_false_iff_not, beq_iff_eq, bne_iff_ne, beq_eq_false_iff_ne, bne_eq_false_iff_eq, Bool.not_eq_true', Bool.not_eq_false', Bool.not_eq_true, ne_eq, Decidable.not_not] at c63
                refine PW.skip ?_
                refine hK3 _ _ ?_
                refine PW.keep (T' := [(0, _), (1, _), (5, _), (6, _), (7, _)]) ⟨rfl, rfl, rfl, rfl, rfl, trivial⟩ ?_
                refine PW.ops ?_
                refine OL.det trivial (Yields.pure rfl) ?_
                refine OL.det trivial (Yields.add64 rfl rfl (by omega) (by omega)) ?_
                refine OL.det trivial (Yields.pure rfl) ?_
                refine OL.nil ?_
                repeat rw [inBlk_n]
                rw [thenK_n]
                refine LoopEnd.mk (T'' := [(0, _), (1, _), (5, _), (6, _), (7, _)]) ⟨rfl, rfl, rfl, rfl, rfl, trivial⟩ ?_
                obtain rfl : e2 = 0 := by omega
                have hE' := hE rfl
                subst hE'
                exact ⟨kk.length - (k + 1), by omega, k + 1, at2, _, seg8, ⟨by omega, rfl, hat2, hs8⟩, by simp, rfl⟩
    · try simp only [decide_eq_true_eq, decide_eq_false_iff_not, beq_iff_eq, bne_iff_ne, beq_eq_false_iff_ne, bne_eq_false_iff_eq, Bool.not_eq_true', Bool.not_eq_false', Bool.not_eq_true, ne_eq, Decidable.not_not] at c23
      refine PW.exit ?_
      refine hK1 _ _ ?_
      refine PW.keep (T' := [(0, _), (5, _), (6, _)]) ⟨rfl, rfl, rfl, trivial⟩ ?_
      refine PW.seq fun K10 hK10 => ?_
      refine PW.quiet2QK Try.mixed ?_
      refine QK.det trivial (Yields.pure rfl) ?_
      refine QK.det trivial (Yields.pure rfl) ?_
      refine QK.det trivial (Yields.pure rfl) ?_
      refine QK.det trivial (Yields.pure rfl) ?_
      refine QK.det trivial (Yields.to (v' := .bool true) (Yields.pure rfl) (congrArg Value.bool (decide_eq_true (by omega)))) ?_
      refine QK.det trivial (Yields.pure rfl) ?_
      refine QK.det rfl (Yields.pure rfl) ?_
      refine QK.det rfl (Yields.strOf rfl rfl (qy _)) ?_
      refine QK.det rfl (Yields.pure rfl) ?_
      refine QK.det rfl (Yields.pure rfl) ?_
      refine QK.det rfl (Yields.pure rfl) ?_
      refine QK.det rfl (Yields.slS (l := 0) (h := (lt.take at_).length) rfl rfl rfl (.inr ⟨rfl, rfl⟩) (.inl rfl) (by omega) (by omega)) ?_
      rw [cutV0]
      refine QK.det rfl (Yields.strOf rfl rfl (Rd.take (k := at_) hlt).cons.cons) ?_
      refine QK.det rfl (Yields.to (v' := .bool true) (Yields.pure rfl) (by simp)) ?_
      refine QK.det trivial (Yields.pure rfl) ?_
      refine QK.det trivial (Yields.pure rfl) ?_
      refine QK.det rfl (Yields.pure rfl) ?_
      refine QK.call rfl rfl (err_fc (rb := r15) (List.mem_flatten.2 ⟨_, List.mem_cons_of_mem _ List.mem_cons_self, List.mem_singleton.2 rfl⟩)) ?_
      refine QK.det rfl (Yields.pure rfl) ?_
      refine QK.bool rfl (Yields.pure rfl) (fun g89 => ?_) (fun g89 => ?_)
      · (try simp only [decide_eq_true_eq, decide_eq_false_iff_not, beq_iff_eq, bne_iff_ne, beq_eq_false_iff_ne, bne_eq_false_iff_eq, Bool.not_eq_true', Bool.not_eq_false', Bool.not_eq_true, ne_eq, Decidable.not_not] at g89) <;> (exfalso; first | omega | (simp at g89; done) | (revert g89; simp; done))
      · try simp only [decide_eq_true_eq, decide_eq_false_iff_not, beq_iff_eq, bne_iff_ne, beq_eq_false_iff_ne, bne_eq_false_iff_eq, Bool.not_eq_true', Bool.not_eq_false', Bool.not_eq_true, ne_eq, Decidable.not_not] at g89
        refine QK.det rfl (Yields.pure rfl) ?_
        refine QK.call rfl rfl (done_fc (rb := r15) (List.mem_flatten.2 ⟨_, List.mem_cons_of_mem _ List.mem_cons_self, List.mem_singleton.2 rfl⟩)) ?_
        refine QK.det rfl (Yields.pure rfl) ?_
        refine QK.det rfl (Yields.pure rfl) ?_
        refine QK.det rfl (Yields.pure rfl) ?_
        refine QK.det rfl (Yields.pure rfl) ?_
        refine QK.det rfl (Yields.pure rfl) ?_
        refine QK.det rfl (Yields.pure rfl) ?_
        refine QK.nil ?_
        change OL _ _ _ [_, _, _, _, _, _, _] _ _ _
        refine OL.det rfl (Yields.to (v' := .bool true) (Yields.pure rfl) (by
          rw [if_neg (by decide)]
          by_cases hz : at_ < lt.length
          · rw [if_pos hz]; have : ¬ min at_ lt.length = lt.length := by omega
            simp; omega
          · rw [if_neg hz]; simp; omega)) ?_
        refine OL.det rfl (Yields.pure rfl) ?_
        refine OL.det trivial (Yields.pure rfl) ?_
        refine OL.det trivial (Yields.pure rfl) ?_
        refine OL.call rfl rfl (works_fc) ?_
        rintro _ _ ⟨rfl, rfl⟩
        refine OL.det trivial (Yields.pure rfl) ?_
        refine OL.det trivial (Yields.pure rfl) ?_
        refine OL.nil ?_
        refine hK10 _ _ ?_
        refine PW.keep (T' := [(4, _)]) ⟨rfl, trivial⟩ ?_
        refine PW.ret ?_
        change (Exit.ret = Exit.normal ∨ Exit.ret = Exit.ret) ∧ ∃ v, resV _ _ = some v ∧ _
        exact ⟨.inr rfl, _, rfl, _, Sub.refl _, rfl⟩
  · try simp only [decide_eq_true_eq, decide_eq_false_iff_not, beq_iff_eq, bne_iff_ne, beq_eq_false_iff_ne, bne_eq_false_iff_eq, Bool.not_eq_true', Bool.not_eq_false', Bool.not_eq_true, ne_eq, Decidable.not_not] at g20
    refine OL.off rfl rfl ?_
    refine OL.off rfl rfl ?_
    refine OL.det trivial (Yields.pure rfl) ?_
    refine OL.nil ?_
    refine PW.keep (T' := [(0, _), (1, _), (5, _), (6, _), (7, _), (23, _)]) ⟨rfl, rfl, rfl, rfl, rfl, rfl, trivial⟩ ?_
    refine PW.ite (b := false) rfl ?_
    rw [if_neg Bool.false_ne_true]
    refine PW.exit ?_
    refine hK1 _ _ ?_
    refine PW.keep (T' := [(0, _), (5, _), (6, _)]) ⟨rfl, rfl, rfl, trivial⟩ ?_
    refine PW.seq fun K11 hK11 => ?_
    refine PW.quiet2QK Try.mixed ?_
    refine QK.det trivial (Yields.pure rfl) ?_
    refine QK.det trivial (Yields.pure rfl) ?_
    refine QK.det trivial (Yields.pure rfl) ?_
    refine QK.det trivial (Yields.pure rfl) ?_
    refine QK.det trivial (Yields.to (v' := .bool true) (Yields.pure rfl) (congrArg Value.bool (decide_eq_true (by omega)))) ?_
    refine QK.det trivial (Yields.pure rfl) ?_
    refine QK.det rfl (Yields.pure rfl) ?_
    refine QK.det rfl (Yields.strOf rfl rfl (qy _)) ?_
    refine QK.det rfl (Yields.pure rfl) ?_
    refine QK.det rfl (Yields.pure rfl) ?_
    refine QK.det rfl (Yields.pure rfl) ?_
    refine QK.det rfl (Yields.slS (l := 0) (h := (lt.take at_).length) rfl rfl rfl (.inr ⟨rfl, rfl⟩) (.inl rfl) (by omega) (by omega)) ?_
    rw [cutV0]
    refine QK.det rfl (Yields.strOf rfl rfl (Rd.take (k := at_) hlt).cons.cons) ?_
    refine QK.det rfl (Yields.to (v' := .bool true) (Yields.pure rfl) (by simp)) ?_
    refine QK.det trivial (Yields.pure rfl) ?_
    refine QK.det trivial (Yields.pure rfl) ?_
    refine QK.det rfl (Yields.pure rfl) ?_
    refine QK.call rfl rfl (err_fc (rb := r15) (List.mem_flatten.2 ⟨_, List.mem_cons_of_mem _ List.mem_cons_self, List.mem_singleton.2 rfl⟩)) ?_
    refine QK.det rfl (Yields.pure rfl) ?_
    refine QK.bool rfl (Yields.pure rfl) (fun g89 => ?_) (fun g89 => ?_)
    · (try simp only [decide_eq_true_eq, decide_eq_false_iff_not, beq_iff_eq, bne_iff_ne, beq_eq_false_iff_ne, bne_eq_false_iff_eq, Bool.not_eq_true', Bool.not_eq_false', Bool.not_eq_true, ne_eq, Decidable.not_not] at g89) <;> (exfalso; first | omega | (simp at g89; done) | (revert g89; simp; done))
    · try simp only [decide_eq_true_eq, decide_eq_false_iff_not, beq_iff_eq, bne_iff_ne, beq_eq_false_iff_ne, bne_eq_false_iff_eq, Bool.not_eq_true', Bool.not_eq_false', Bool.not_eq_true, ne_eq, Decidable.not_not] at g89
      refine QK.det rfl (Yields.pure rfl) ?_
      refine QK.call rfl rfl (done_fc (rb := r15) (List.mem_flatten.2 ⟨_, List.mem_cons_of_mem _ List.mem_cons_self, List.mem_singleton.2 rfl⟩)) ?_
      refine QK.det rfl (Yields.pure rfl) ?_
      refine QK.det rfl (Yields.pure rfl) ?_
      refine QK.det rfl (Yields.pure rfl) ?_
      refine QK.det rfl (Yields.pure rfl) ?_
      refine QK.det rfl (Yields.pure rfl) ?_
      refine QK.det rfl (Yields.pure rfl) ?_
      refine QK.nil ?_
      change OL _ _ _ [_, _, _, _, _, _, _] _ _ _
      refine OL.det rfl (Yields.to (v' := .bool true) (Yields.pure rfl) (by
        rw [if_neg (by decide)]
        by_cases hz : at_ < lt.length
        · rw [if_pos hz]; have : ¬ min at_ lt.length = lt.length := by omega
          simp; omega
        · rw [if_neg hz]; simp; omega)) ?_
      refine OL.det rfl (Yields.pure rfl) ?_
      refine OL.det trivial (Yields.pure rfl) ?_
      refine OL.det trivial (Yields.pure rfl) ?_
      refine OL.call rfl rfl (works_fc) ?_
      rintro _ _ ⟨rfl, rfl⟩
      refine OL.det trivial (Yields.pure rfl) ?_
      refine OL.det trivial (Yields.pure rfl) ?_
      refine OL.nil ?_
      refine hK11 _ _ ?_
      refine PW.keep (T' := [(4, _)]) ⟨rfl, trivial⟩ ?_
      refine PW.ret ?_
      change (Exit.ret = Exit.normal ∨ Exit.ret = Exit.ret) ∧ ∃ v, resV _ _ = some v ∧ _
      exact ⟨.inr rfl, _, rfl, _, Sub.refl _, rfl⟩

end Go.Proofs
