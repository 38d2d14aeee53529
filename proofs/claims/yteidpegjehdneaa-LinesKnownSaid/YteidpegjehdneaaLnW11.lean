/- Walks and plain facts for the laws of this seat: what each function answers, for every input. -/
import Derived.Test.YteidpegjehdneaaLnW10
set_option linter.unusedVariables false
set_option linter.unusedSimpArgs false
namespace Go.Proofs
open Go.SL Go.RowKit
set_option maxHeartbeats 1000000
theorem isl_fc {w0 : World} {S : SS} {tb : ByteArray} {B : Option Addr} {cb : Nat} {ls : List ByteArray} (htb : tb.size ≤ 100000) (hsp : splP tb = (ls, 0)) (hy : Rd w0 S B (strs ls)) (hb : ls.length ≤ 1000000000) :
    FC Try.prog w0 23 [.string tb, .slice B ls.length cb] S (fun v S' => v = .bool true ∧ S' = S) := by
  have hsf : FC Try.prog w0 8 [.string tb] S (resP w0 ls (.int .i64 0) S) := by have := split_fc (w0 := w0) (S := S) htb; rw [hsp] at this; exact this
  refine FC.ofD Try.known23 (by simp) ?_
  unfold Try.pc23
  simp only [argT]
  refine PW.seqOps ?_
  refine OL.det trivial (Yields.pure rfl) ?_
  refine OL.nil ?_
  refine PW.keep (T' := [(0, _), (1, _)]) ⟨rfl, rfl, trivial⟩ ?_
  refine PW.seqOps ?_
  refine OL.det trivial (Yields.pure rfl) ?_
  refine OL.call trivial rfl (hsf) ?_
  rintro _ _ ⟨A, cap, seg, rfl, rfl, hrd⟩
  refine OL.det trivial (Yields.pure rfl) ?_
  refine OL.det trivial (Yields.pure rfl) ?_
  refine OL.det trivial (Yields.pure rfl) ?_
  refine OL.det trivial (Yields.pure rfl) ?_
  refine OL.det trivial (Yields.pure rfl) ?_
  refine OL.nil ?_
  refine PW.keep (T' := [(1, _), (5, _), (6, _)]) ⟨rfl, rfl, rfl, trivial⟩ ?_
  refine PW.seq fun K1 hK1 => ?_
  refine PW.seqOps ?_
  refine OL.det trivial (Yields.pure rfl) ?_
  refine OL.det trivial (Yields.to (v' := .bool false) (Yields.pure rfl) rfl) ?_
  refine OL.det trivial (Yields.pure rfl) ?_
  refine OL.det rfl (Yields.pure rfl) ?_
  refine OL.det rfl (Yields.pure rfl) ?_
  refine OL.det rfl (Yields.pure rfl) ?_
  refine OL.det rfl (Yields.pure rfl) ?_
  refine OL.det rfl (Yields.to (v' := .bool false) (Yields.pure rfl) (by simp)) ?_
  refine OL.det trivial (Yields.pure rfl) ?_
  refine OL.nil ?_
  refine PW.keep (T' := [(1, _), (5, _), (21, _)]) ⟨rfl, rfl, rfl, trivial⟩ ?_
  refine PW.ite (b := false) rfl ?_
  rw [if_neg Bool.false_ne_true]
  refine PW.skip ?_
  refine hK1 _ _ ?_
  refine PW.keep (T' := [(1, _), (5, _)]) ⟨rfl, rfl, trivial⟩ ?_
  refine PW.seq fun K2 hK2 => ?_
  refine PW.seqOps ?_
  refine OL.det trivial (Yields.pure rfl) ?_
  refine OL.nil ?_
  refine PW.keep (T' := [(1, _), (5, _), (7, _)]) ⟨rfl, rfl, rfl, trivial⟩ ?_
  refine PW.block ?_
  refine PW.keep (T' := [(1, _), (5, _), (7, _)]) ⟨rfl, rfl, rfl, trivial⟩ ?_
  refine PW.loopK (I := fun m T S' => ∃ (k : Nat), (k ≤ ls.length ∧ m = ls.length - k) ∧ T = ([(1, .slice B ls.length cb), (5, .slice A ls.length cap), (7, .int .i64 k)] : TT) ∧ S' = seg :: S) (m := ls.length) ⟨0, ⟨by omega, by omega⟩, rfl, rfl⟩ ?_
  rintro m _ _ ⟨k, ⟨hk, hm⟩, rfl, rfl⟩
  refine PW.seq fun K3 hK3 => ?_
  refine PW.seqOps ?_
  refine OL.det trivial (Yields.pure rfl) ?_
  refine OL.det trivial (Yields.pure rfl) ?_
  refine OL.det trivial (Yields.pure rfl) ?_
  refine OL.det trivial (Yields.pure rfl) ?_
  refine OL.nil ?_
  refine PW.keep (T' := [(1, _), (5, _), (7, _), (25, _)]) ⟨rfl, rfl, rfl, rfl, trivial⟩ ?_
  refine PW.cond rfl (fun c25 => ?_) (fun c25 => ?_)
  · try simp only [decide_eq_true_eq, decide_eq_false_iff_not, beq_iff_eq, bne_iff_ne, beq_eq_false_iff_ne, bne_eq_false_iff_eq, Bool.not_eq_true', Bool.not_eq_false', Bool.not_eq_true, ne_eq, Decidable.not_not] at c25
    have hkl : k < ls.length := by omega
    obtain ⟨b0, rfl⟩ := (hrd []).some (strs_ne (by omega))
    obtain ⟨b1, rfl⟩ := hy.some (strs_ne (by omega))
    refine PW.skip ?_
    refine hK3 _ _ ?_
    refine PW.keep (T' := [(1, _), (5, _), (7, _)]) ⟨rfl, rfl, rfl, trivial⟩ ?_
    refine PW.seq fun K4 hK4 => ?_
    refine PW.block ?_
    refine PW.seq fun K5 hK5 => ?_
    refine PW.quietK Try.mixed ?_
    refine QK.det trivial (Yields.pure rfl) ?_
    refine QK.det trivial (Yields.pure rfl) ?_
    refine QK.det trivial (Yields.ixN1 rfl rfl rfl (by omega)) ?_
    refine QK.det trivial (Yields.ld rfl (strs_at (hrd S) hkl)) ?_
    refine QK.det trivial (Yields.pure rfl) ?_
    refine QK.det trivial (Yields.pure rfl) ?_
    refine QK.det trivial (Yields.ixN1 rfl rfl rfl (by omega)) ?_
    refine QK.det trivial (Yields.ld rfl (strs_at hy.cons hkl)) ?_
    refine QK.nil ?_
    change OL _ _ _ [_] _ _ _
    refine OL.det trivial (Yields.pure rfl) ?_
    refine OL.nil ?_
    refine hK5 _ _ ?_
    refine PW.keep (T' := [(1, _), (5, _), (7, _), (36, _)]) ⟨rfl, rfl, rfl, rfl, trivial⟩ ?_
    refine PW.cond rfl (fun c36 => ?_) (fun c36 => ?_)
    · have c36 := c36
      exfalso; simp at c36 -- done
    · have c36 := c36
      refine PW.skip ?_
      refine hK4 _ _ ?_
      refine PW.keep (T' := [(1, _), (5, _), (7, _)]) ⟨rfl, rfl, rfl, trivial⟩ ?_
      refine PW.ops ?_
      refine OL.det trivial (Yields.pure rfl) ?_
      refine OL.det trivial (Yields.add64 rfl rfl (by omega) (by omega)) ?_
      refine OL.det trivial (Yields.pure rfl) ?_
      refine OL.nil ?_
      repeat rw [inBlk_n]
      rw [thenK_n]
      refine LoopEnd.mk (T'' := [(1, _), (5, _), (7, _)]) ⟨rfl, rfl, rfl, trivial⟩ ?_
      exact ⟨ls.length - (k + 1), by omega, k + 1, ⟨by omega, rfl⟩, by simp, rfl⟩
  · try simp only [decide_eq_true_eq, decide_eq_false_iff_not, beq_iff_eq, bne_iff_ne, beq_eq_false_iff_ne, bne_eq_false_iff_eq, Bool.not_eq_true', Bool.not_eq_false', Bool.not_eq_true, ne_eq, Decidable.not_not] at c25
    refine PW.exit ?_
    refine hK2 _ _ ?_
    refine PW.keep (T' := []) trivial ?_
    refine PW.seqOps ?_
    refine OL.det trivial (Yields.pure rfl) ?_
    refine OL.nil ?_
    refine PW.keep (T' := [(4, _)]) ⟨rfl, trivial⟩ ?_
    refine PW.ret ?_
    change (Exit.ret = Exit.normal ∨ Exit.ret = Exit.ret) ∧ ∃ v, resV _ _ = some v ∧ _
    exact ⟨.inr rfl, _, rfl, _, Sub.drop (Sub.refl _), rfl, rfl⟩
theorem no_fc {w0 : World} {S : SS} {tb : ByteArray} (htb : tb.size ≤ 100000) (hsp : splP tb = ([], 4)) :
    FC Try.prog w0 22 [.string tb, .int .i64 4] S (fun v S' => v = .bool true ∧ S' = S) := by
  have hsf : FC Try.prog w0 8 [.string tb] S (resP w0 [] (.int .i64 4) S) := by have := split_fc (w0 := w0) (S := S) htb; rw [hsp] at this; exact this
  refine FC.ofD Try.known22 (by simp) ?_
  unfold Try.pc22
  simp only [argT]
  refine PW.seqOps ?_
  refine OL.det trivial (Yields.pure rfl) ?_
  refine OL.nil ?_
  refine PW.keep (T' := [(0, _), (1, _)]) ⟨rfl, rfl, trivial⟩ ?_
  refine PW.seqOps ?_
  refine OL.det trivial (Yields.pure rfl) ?_
  refine OL.call trivial rfl (hsf) ?_
  rintro _ _ ⟨A, cap, seg, rfl, rfl, hrd⟩
  refine OL.det trivial (Yields.pure rfl) ?_
  refine OL.det trivial (Yields.pure rfl) ?_
  refine OL.det trivial (Yields.pure rfl) ?_
  refine OL.det trivial (Yields.pure rfl) ?_
  refine OL.det trivial (Yields.pure rfl) ?_
  refine OL.nil ?_
  refine PW.keep (T' := [(1, _), (5, _), (6, _)]) ⟨rfl, rfl, rfl, trivial⟩ ?_
  refine PW.seqOps ?_
  refine OL.det trivial (Yields.pure rfl) ?_
  refine OL.det trivial (Yields.pure rfl) ?_
  refine OL.det trivial (Yields.to (v' := .bool true) (Yields.pure rfl) rfl) ?_
  refine OL.det trivial (Yields.pure rfl) ?_
  refine OL.det rfl (Yields.pure rfl) ?_
  refine OL.det rfl (Yields.pure rfl) ?_
  refine OL.det rfl (Yields.to (v' := .bool true) (Yields.pure rfl) rfl) ?_
  refine OL.det trivial (Yields.pure rfl) ?_
  refine OL.det trivial (Yields.pure rfl) ?_
  refine OL.nil ?_
  refine PW.keep (T' := [(4, _)]) ⟨rfl, trivial⟩ ?_
  refine PW.ret ?_
  change (Exit.ret = Exit.normal ∨ Exit.ret = Exit.ret) ∧ ∃ v, resV _ _ = some v ∧ _
  exact ⟨.inr rfl, _, rfl, _, Sub.drop (Sub.refl _), rfl, rfl⟩

theorem sp1 : splP ⟨#[97, 10, 98, 10]⟩ = ([⟨#[97]⟩, ⟨#[98]⟩], 0) := by
  unfold splP checkP isP; rw [mark_eq]; kernel_rfl
theorem sp2 : splP ⟨#[]⟩ = ([], 0) := by
  unfold splP checkP isP; rw [mark_eq]; kernel_rfl
theorem sp3 : splP ⟨#[10]⟩ = ([⟨#[]⟩], 0) := by
  unfold splP checkP isP; rw [mark_eq]; kernel_rfl
theorem sp4 : splP ⟨#[97]⟩ = ([], 4) := by
  unfold splP checkP isP; rw [mark_eq]; kernel_rfl
theorem awake_fc {w0 : World} {S : SS} : FC Try.prog w0 7 [] S (fun v S' => v = .bool true ∧ S' = S) := by
  refine FC.ofD Try.known7 (by simp) ?_
  unfold Try.pc7
  simp only [argT]
  refine PW.seqOps ?_
  refine OL.det trivial (Yields.pure rfl) ?_
  refine OL.nil ?_
  refine PW.keep (T' := []) trivial ?_
  refine PW.seqOps ?_
  refine OL.cons trivial (OW.bsl rfl) ?_
  rintro _ _ ⟨r1, rfl, rfl⟩
  refine OL.call trivial rfl (isl_fc (ls := [⟨#[97]⟩, ⟨#[98]⟩]) (by decide) sp1 (Rd.own (r := r1) (E := 9) (tot := 2) (List.mem_flatten.2 ⟨_, List.mem_cons_self, List.mem_singleton.2 rfl⟩)) (by decide)) ?_
  rintro _ _ ⟨rfl, rfl⟩
  refine OL.det trivial (Yields.pure rfl) ?_
  refine OL.call rfl rfl (isl_fc (ls := []) (by decide) sp2 Rd.nil (by decide)) ?_
  rintro _ _ ⟨rfl, rfl⟩
  refine OL.det trivial (Yields.pure rfl) ?_
  refine OL.det trivial (Yields.pure rfl) ?_
  refine OL.cons rfl (OW.bsl rfl) ?_
  rintro _ _ ⟨r7, rfl, rfl⟩
  refine OL.call rfl rfl (isl_fc (ls := [⟨#[]⟩]) (by decide) sp3 (Rd.own (r := r7) (E := 9) (tot := 1) (List.mem_flatten.2 ⟨_, List.mem_cons_self, List.mem_singleton.2 rfl⟩)) (by decide)) ?_
  rintro _ _ ⟨rfl, rfl⟩
  refine OL.det trivial (Yields.pure rfl) ?_
  refine OL.det trivial (Yields.pure rfl) ?_
  refine OL.call rfl rfl (no_fc (by decide) sp4) ?_
  rintro _ _ ⟨rfl, rfl⟩
  refine OL.det trivial (Yields.pure rfl) ?_
  refine OL.det trivial (Yields.pure rfl) ?_
  refine OL.nil ?_
  refine PW.keep (T' := [(0, _)]) ⟨rfl, trivial⟩ ?_
  refine PW.ret ?_
  change (Exit.ret = Exit.normal ∨ Exit.ret = Exit.ret) ∧ ∃ v, resV _ _ = some v ∧ _
  exact ⟨.inr rfl, _, rfl, _, Sub.drop (Sub.drop (Sub.refl _)), rfl, rfl⟩
theorem splP_len (tb : ByteArray) : (splP tb).1.length ≤ tb.size := by
  have := lst_len tb
  unfold splP
  split
  · simp
  · split <;> simp <;> omega
theorem toldP_len (tb : ByteArray) : (toldP tb).1.length ≤ tb.size := by
  have := lst_len tb
  unfold toldP
  split <;> simp <;> omega
theorem linesSplit_fc {w0 : World} {S : SS} {tb : ByteArray} (htb : tb.size ≤ 140737488351232) : FC Try.prog w0 3 [.string tb] S (fun v S' => v = .bool true) := by
  refine FC.ofD Try.known3 (by simp) ?_
  unfold Try.pc3
  simp only [argT]
  refine PW.seqOps ?_
  refine OL.det trivial (Yields.pure rfl) ?_
  refine OL.nil ?_
  refine PW.keep (T' := [(0, _)]) ⟨rfl, trivial⟩ ?_
  refine PW.seq fun K1 hK1 => ?_
  refine PW.seqOps ?_
  refine OL.det trivial (Yields.pure rfl) ?_
  refine OL.det trivial (Yields.pure rfl) ?_
  refine OL.det trivial (Yields.pure rfl) ?_
  refine OL.nil ?_
  refine PW.keep (T' := [(0, _), (13, _)]) ⟨rfl, rfl, trivial⟩ ?_
  refine PW.cond rfl (fun c13 => ?_) (fun c13 => ?_)
  · try simp only [decide_eq_true_eq, decide_eq_false_iff_not, beq_iff_eq, bne_iff_ne, beq_eq_false_iff_ne, bne_eq_false_iff_eq, Bool.not_eq_true', Bool.not_eq_false', Bool.not_eq_true, ne_eq, Decidable.not_not] at c13
    refine PW.seqOps ?_
    refine OL.call trivial rfl (awake_fc) ?_
    rintro _ Sx ⟨rfl, hSx⟩
    rw [hSx]
    clear hSx
    refine OL.det trivial (Yields.pure rfl) ?_
    refine OL.nil ?_
    refine PW.keep (T' := [(2, _)]) ⟨rfl, trivial⟩ ?_
    refine PW.ret ?_
    change (Exit.ret = Exit.normal ∨ Exit.ret = Exit.ret) ∧ ∃ v, resV _ _ = some v ∧ _
    exact ⟨.inr rfl, _, rfl, _, Sub.refl _, rfl⟩
  · try simp only [decide_eq_true_eq, decide_eq_false_iff_not, beq_iff_eq, bne_iff_ne, beq_eq_false_iff_ne, bne_eq_false_iff_eq, Bool.not_eq_true', Bool.not_eq_false', Bool.not_eq_true, ne_eq, Decidable.not_not] at c13
    have hts : tb.size ≤ 100000 := by omega
    refine PW.skip ?_
    refine hK1 _ _ ?_
    refine PW.keep (T' := [(0, _)]) ⟨rfl, trivial⟩ ?_
    refine PW.seqOps ?_
    refine OL.det trivial (Yields.pure rfl) ?_
    refine OL.call trivial rfl (split_fc hts) ?_
    rintro _ _ ⟨A1, c1, s1, rfl, rfl, hr1⟩
    refine OL.det trivial (Yields.pure rfl) ?_
    refine OL.det trivial (Yields.pure rfl) ?_
    refine OL.det trivial (Yields.pure rfl) ?_
    refine OL.det trivial (Yields.pure rfl) ?_
    refine OL.det trivial (Yields.pure rfl) ?_
    refine OL.nil ?_
    refine PW.keep (T' := [(0, _), (3, _), (4, _)]) ⟨rfl, rfl, rfl, trivial⟩ ?_
    refine PW.seqOps ?_
    refine OL.det trivial (Yields.pure rfl) ?_
    refine OL.call trivial rfl (rsplit_fc hts) ?_
    rintro _ _ ⟨A2, c2, s2, rfl, rfl, hr2⟩
    refine OL.det trivial (Yields.pure rfl) ?_
    refine OL.det trivial (Yields.pure rfl) ?_
    refine OL.det trivial (Yields.pure rfl) ?_
    refine OL.det trivial (Yields.pure rfl) ?_
    refine OL.det trivial (Yields.pure rfl) ?_
    refine OL.nil ?_
    refine PW.keep (T' := [(0, _), (3, _), (4, _), (5, _), (6, _)]) ⟨rfl, rfl, rfl, rfl, rfl, trivial⟩ ?_
    refine PW.seqOps ?_
    refine OL.det trivial (Yields.pure rfl) ?_
    refine OL.call trivial rfl (told_fc hts) ?_
    rintro _ _ ⟨A3, c3, s3, rfl, rfl, hr3⟩
    refine OL.det trivial (Yields.pure rfl) ?_
    refine OL.det trivial (Yields.pure rfl) ?_
    refine OL.det trivial (Yields.pure rfl) ?_
    refine OL.det trivial (Yields.pure rfl) ?_
    refine OL.det trivial (Yields.pure rfl) ?_
    refine OL.nil ?_
    refine PW.keep (T' := [(0, _), (3, _), (4, _), (5, _), (6, _), (7, _), (8, _)]) ⟨rfl, rfl, rfl, rfl, rfl, rfl, rfl, trivial⟩ ?_
    refine PW.seqOps ?_
    refine OL.det trivial (Yields.pure rfl) ?_
    refine OL.call trivial rfl (rtold_fc hts) ?_
    rintro _ _ ⟨A4, c4, s4, rfl, rfl, hr4⟩
    refine OL.det trivial (Yields.pure rfl) ?_
    refine OL.det trivial (Yields.pure rfl) ?_
    refine OL.det trivial (Yields.pure rfl) ?_
    refine OL.det trivial (Yields.pure rfl) ?_
    refine OL.det trivial (Yields.pure rfl) ?_
    refine OL.nil ?_
    refine PW.keep (T' := [(3, _), (4, _), (5, _), (6, _), (7, _), (8, _), (9, _), (10, _)]) ⟨rfl, rfl, rfl, rfl, rfl, rfl, rfl, rfl, trivial⟩ ?_
    refine PW.seqOps ?_
    refine OL.det trivial (Yields.pure rfl) ?_
    refine OL.det trivial (Yields.pure rfl) ?_
    refine OL.det trivial (Yields.to (v' := .bool true) (Yields.pure rfl) (by simp)) ?_
    refine OL.det trivial (Yields.pure rfl) ?_
    refine OL.det rfl (Yields.pure rfl) ?_
    refine OL.det rfl (Yields.pure rfl) ?_
    refine OL.det rfl (Yields.to (v' := .bool true) (Yields.pure rfl) (by simp)) ?_
    refine OL.det trivial (Yields.pure rfl) ?_
    refine OL.det trivial (Yields.pure rfl) ?_
    refine OL.det rfl (Yields.pure rfl) ?_
    refine OL.det rfl (Yields.pure rfl) ?_
    refine OL.call rfl rfl (same_fc (hr1 _).cons.cons.cons (hr2 _).cons.cons (by have := splP_len tb; omega)) ?_
    rintro _ _ ⟨rfl, rfl⟩
    refine OL.det trivial (Yields.pure rfl) ?_
    refine OL.det trivial (Yields.pure rfl) ?_
    refine OL.det rfl (Yields.pure rfl) ?_
    refine OL.det rfl (Yields.pure rfl) ?_
    refine OL.call rfl rfl (same_fc (hr3 _).cons (hr4 _) (by have := toldP_len tb; omega)) ?_
    rintro _ _ ⟨rfl, rfl⟩
    refine OL.det trivial (Yields.pure rfl) ?_
    refine OL.det trivial (Yields.pure rfl) ?_
    refine OL.call rfl rfl (awake_fc) ?_
    rintro _ _ ⟨rfl, rfl⟩
    refine OL.det trivial (Yields.pure rfl) ?_
    refine OL.det trivial (Yields.pure rfl) ?_
    refine OL.nil ?_
    refine PW.keep (T' := [(2, _)]) ⟨rfl, trivial⟩ ?_
    refine PW.ret ?_
    change (Exit.ret = Exit.normal ∨ Exit.ret = Exit.ret) ∧ ∃ v, resV _ _ = some v ∧ _
    exact ⟨.inr rfl, _, rfl, _, Sub.refl _, rfl⟩

end Go.Proofs
