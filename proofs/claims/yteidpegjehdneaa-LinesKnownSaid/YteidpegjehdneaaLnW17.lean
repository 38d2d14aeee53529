/- Walks and plain facts for the laws of this seat: what each function answers, for every input. -/
import Derived.Test.YteidpegjehdneaaLnW16
set_option linter.unusedVariables false
set_option linter.unusedSimpArgs false
namespace Go.Proofs
open Go.SL Go.RowKit
set_option maxHeartbeats 1000000
theorem linesBack_fc {w0 : World} {S : SS} {tb : ByteArray} {A : Option Addr} {cap : Nat} {ls : List ByteArray} (htb0 : tb.size ≤ 140737488351232) (hx : Rd w0 S A (strs ls)) (hb : ls.length ≤ 1000000000000000) (hs : ∀ s ∈ ls, s.size ≤ 1000000000000000) :
    FC Try.prog w0 6 [.string tb, .slice A ls.length cap] S (fun v S' => v = .bool true) := by
  refine FC.ofD Try.known6 (by simp) ?_
  unfold Try.pc6
  simp only [argT]
  refine PW.seqOps ?_
  refine OL.det trivial (Yields.pure rfl) ?_
  refine OL.nil ?_
  refine PW.keep (T' := [(0, _), (1, _)]) ⟨rfl, rfl, trivial⟩ ?_
  refine PW.seq fun K1 hK1 => ?_
  refine PW.seqOps ?_
  refine OL.det trivial (Yields.pure rfl) ?_
  refine OL.det trivial (Yields.pure rfl) ?_
  refine OL.det trivial (Yields.pure rfl) ?_
  refine OL.bool trivial (Yields.pure rfl) (fun g17 => ?_) (fun g17 => ?_)
  · try simp only [decide_eq_true_eq, decide_eq_false_iff_not, beq_iff_eq, bne_iff_ne, beq_eq_false_iff_ne, bne_eq_false_iff_eq, Bool.not_eq_true', Bool.not_eq_false', Bool.not_eq_true, ne_eq, Decidable.not_not] at g17
    refine OL.off rfl rfl ?_
    refine OL.off rfl rfl ?_
    refine OL.off rfl rfl ?_
    refine OL.det trivial (Yields.pure rfl) ?_
    refine OL.nil ?_
    refine PW.keep (T' := [(0, _), (1, _), (21, _)]) ⟨rfl, rfl, rfl, trivial⟩ ?_
    refine PW.ite (b := true) rfl ?_
    rw [if_pos rfl]
    refine PW.seqOps ?_
    refine OL.call trivial rfl (awake_fc) ?_
    rintro _ Sx ⟨rfl, hSx⟩
    rw [hSx]
    clear hSx
    refine OL.det trivial (Yields.pure rfl) ?_
    refine OL.nil ?_
    refine PW.keep (T' := [(4, _)]) ⟨rfl, trivial⟩ ?_
    refine PW.ret ?_
    change (Exit.ret = Exit.normal ∨ Exit.ret = Exit.ret) ∧ ∃ v, resV _ _ = some v ∧ _
    exact ⟨.inr rfl, _, rfl, _, Sub.refl _, rfl⟩
  · try simp only [decide_eq_true_eq, decide_eq_false_iff_not, beq_iff_eq, bne_iff_ne, beq_eq_false_iff_ne, bne_eq_false_iff_eq, Bool.not_eq_true', Bool.not_eq_false', Bool.not_eq_true, ne_eq, Decidable.not_not] at g17
    refine OL.det rfl (Yields.pure rfl) ?_
    refine OL.call rfl rfl (bytes_fc hx hb hs) ?_
    rintro _ Sx ⟨z, rfl, hz, hSx⟩
    rw [hSx]
    clear hSx
    refine OL.det rfl (Yields.pure rfl) ?_
    refine OL.det trivial (Yields.pure rfl) ?_
    refine OL.nil ?_
    refine PW.keep (T' := [(0, _), (1, _), (21, _)]) ⟨rfl, rfl, rfl, trivial⟩ ?_
    refine PW.cond rfl (fun c21 => ?_) (fun c21 => ?_)
    · try simp only [decide_eq_true_eq, decide_eq_false_iff_not, beq_iff_eq, bne_iff_ne, beq_eq_false_iff_ne, bne_eq_false_iff_eq, Bool.not_eq_true', Bool.not_eq_false', Bool.not_eq_true, ne_eq, Decidable.not_not] at c21
      refine PW.seqOps ?_
      refine OL.call trivial rfl (awake_fc) ?_
      rintro _ Sx ⟨rfl, hSx⟩
      rw [hSx]
      clear hSx
      refine OL.det trivial (Yields.pure rfl) ?_
      refine OL.nil ?_
      refine PW.keep (T' := [(4, _)]) ⟨rfl, trivial⟩ ?_
      refine PW.ret ?_
      change (Exit.ret = Exit.normal ∨ Exit.ret = Exit.ret) ∧ ∃ v, resV _ _ = some v ∧ _
      exact ⟨.inr rfl, _, rfl, _, Sub.refl _, rfl⟩
    · try simp only [decide_eq_true_eq, decide_eq_false_iff_not, beq_iff_eq, bne_iff_ne, beq_eq_false_iff_ne, bne_eq_false_iff_eq, Bool.not_eq_true', Bool.not_eq_false', Bool.not_eq_true, ne_eq, Decidable.not_not] at c21
      have htb : tb.size ≤ 100000 := by omega
      have htl : tb.data.toList.length = tb.size := by simp
      have hj := hz (by omega)
      have hjb := join_bounds (ls := ls)
      have hsz : ∀ s ∈ ls, s.size ≤ 1000000000 := fun s h => by have := hjb.2 s h; omega
      have hjt : (⟨(joinL ls).toArray⟩ : ByteArray).size ≤ 100000 := by show (joinL ls).toArray.size ≤ _; rw [List.size_toArray]; omega
      have hLa := splP_len tb
      have hLt := toldP_len tb
      refine PW.skip ?_
      refine hK1 _ _ ?_
      refine PW.keep (T' := [(0, _), (1, _)]) ⟨rfl, rfl, trivial⟩ ?_
      refine PW.seqOps ?_
      refine OL.det trivial (Yields.pure rfl) ?_
      refine OL.call trivial rfl (split_fc htb) ?_
      rintro _ _ ⟨A1, c1, s1, rfl, rfl, hr1⟩
      refine OL.det trivial (Yields.pure rfl) ?_
      refine OL.det trivial (Yields.pure rfl) ?_
      refine OL.det trivial (Yields.pure rfl) ?_
      refine OL.det trivial (Yields.pure rfl) ?_
      refine OL.det trivial (Yields.pure rfl) ?_
      refine OL.nil ?_
      refine PW.keep (T' := [(0, _), (1, _), (5, _), (6, _)]) ⟨rfl, rfl, rfl, rfl, trivial⟩ ?_
      refine PW.seq fun K2 hK2 => ?_
      refine PW.seqOps ?_
      refine OL.det trivial (Yields.pure rfl) ?_
      refine OL.det trivial (Yields.pure rfl) ?_
      refine OL.bool trivial (Yields.pure rfl) (fun g30 => ?_) (fun g30 => ?_)
      · try simp only [decide_eq_true_eq, decide_eq_false_iff_not, beq_iff_eq, bne_iff_ne, beq_eq_false_iff_ne, bne_eq_false_iff_eq, Bool.not_eq_true', Bool.not_eq_false', Bool.not_eq_true, ne_eq, Decidable.not_not] at g30
        refine OL.det rfl (Yields.pure rfl) ?_
        refine OL.call rfl rfl (join_fc (hr1 S) (by omega) (by rw [(sp_ok g30).1, (sp_ok g30).2.1]; omega)) ?_
        rintro _ _ ⟨rfl, rfl⟩
        refine OL.det rfl (Yields.pure rfl) ?_
        refine OL.det rfl (Yields.to (v' := .bool false) (Yields.pure rfl) (by rw [(sp_ok g30).1, (sp_ok g30).2.1, ba_eta]; simp)) ?_
        refine OL.det trivial (Yields.pure rfl) ?_
        refine OL.nil ?_
        refine PW.keep (T' := [(0, _), (1, _), (5, _), (6, _), (35, _)]) ⟨rfl, rfl, rfl, rfl, rfl, trivial⟩ ?_
        refine PW.ite (b := false) rfl ?_
        rw [if_neg Bool.false_ne_true]
        refine PW.skip ?_
        refine hK2 _ _ ?_
        refine PW.keep (T' := [(0, _), (1, _), (5, _), (6, _)]) ⟨rfl, rfl, rfl, rfl, trivial⟩ ?_
        refine PW.seqOps ?_
        refine OL.det trivial (Yields.pure rfl) ?_
        refine OL.call trivial rfl (told_fc htb) ?_
        rintro _ _ ⟨A3, c3, s3, rfl, rfl, hr3⟩
        refine OL.det trivial (Yields.pure rfl) ?_
        refine OL.det trivial (Yields.pure rfl) ?_
        refine OL.det trivial (Yields.pure rfl) ?_
        refine OL.det trivial (Yields.pure rfl) ?_
        refine OL.det trivial (Yields.pure rfl) ?_
        refine OL.nil ?_
        refine PW.keep (T' := [(0, _), (1, _), (5, _), (6, _), (7, _), (8, _)]) ⟨rfl, rfl, rfl, rfl, rfl, rfl, trivial⟩ ?_
        refine PW.seqOps ?_
        refine OL.det trivial (Yields.pure rfl) ?_
        refine OL.nil ?_
        refine PW.keep (T' := [(0, _), (1, _), (5, _), (6, _), (7, _), (8, _), (9, _)]) ⟨rfl, rfl, rfl, rfl, rfl, rfl, rfl, trivial⟩ ?_
        refine PW.seq fun K3 hK3 => ?_
        refine PW.seqOps ?_
        refine OL.det trivial (Yields.pure rfl) ?_
        refine OL.nil ?_
        refine PW.keep (T' := [(0, _), (1, _), (5, _), (6, _), (7, _), (8, _), (9, _), (10, _)]) ⟨rfl, rfl, rfl, rfl, rfl, rfl, rfl, rfl, trivial⟩ ?_
        refine PW.block ?_
        refine PW.keep (T' := [(0, _), (1, _), (5, _), (6, _), (7, _), (8, _), (9, _), (10, _)]) ⟨rfl, rfl, rfl, rfl, rfl, rfl, rfl, rfl, trivial⟩ ?_
        refine PW.loopK (I := fun m T S' => ∃ (k : Nat), (k ≤ tb.size ∧ m = tb.size - k) ∧ T = ([(0, .string tb), (1, .slice A ls.length cap), (5, .slice A1 (splP tb).1.length c1), (6, .int .i64 (splP tb).2), (7, .slice A3 (toldP tb).1.length c3), (8, .int .i64 (toldP tb).2), (9, .int .i64 (((tb.data.toList.take k).count 10 : Nat) : Int)), (10, .int .i64 k)] : TT) ∧ S' = s3 :: s1 :: S) (m := tb.size) ⟨0, ⟨by omega, by omega⟩, by simp, rfl⟩ ?_
        rintro m _ _ ⟨k, ⟨hk, hm⟩, rfl, rfl⟩
        refine PW.seq fun K4 hK4 => ?_
        refine PW.seqOps ?_
        refine OL.det trivial (Yields.pure rfl) ?_
        refine OL.det trivial (Yields.pure rfl) ?_
        refine OL.det trivial (Yields.pure rfl) ?_
        refine OL.det trivial (Yields.pure rfl) ?_
        refine OL.nil ?_
        refine PW.keep (T' := [(0, _), (1, _), (5, _), (6, _), (7, _), (8, _), (9, _), (10, _), (44, _)]) ⟨rfl, rfl, rfl, rfl, rfl, rfl, rfl, rfl, rfl, trivial⟩ ?_
        refine PW.cond rfl (fun c44 => ?_) (fun c44 => ?_)
        · try simp only [decide_eq_true_eq, decide_eq_false_iff_not, beq_iff_eq, bne_iff_ne, beq_eq_false_iff_ne, bne_eq_false_iff_eq, Bool.not_eq_true', Bool.not_eq_false', Bool.not_eq_true, ne_eq, Decidable.not_not] at c44
          have hkl : k < tb.size := by omega
          obtain ⟨b, hbb, hb2, htk, _⟩ := ba_get hkl
          have hcl : (tb.data.toList.take k).count 10 ≤ tb.size := Nat.le_trans List.count_le_length (by rw [List.length_take]; omega)
          refine PW.skip ?_
          refine hK4 _ _ ?_
          refine PW.keep (T' := [(0, _), (1, _), (5, _), (6, _), (7, _), (8, _), (9, _), (10, _)]) ⟨rfl, rfl, rfl, rfl, rfl, rfl, rfl, rfl, trivial⟩ ?_
          refine PW.seq fun K5 hK5 => ?_
          refine PW.block ?_
          refine PW.seqOps ?_
          refine OL.det trivial (Yields.pure rfl) ?_
          refine OL.det trivial (Yields.pure rfl) ?_
          refine OL.det trivial (Yields.ixStr rfl rfl hbb) ?_
          refine OL.det trivial (Yields.pure rfl) ?_
          refine OL.nil ?_
          refine PW.keep (T' := [(0, _), (1, _), (5, _), (6, _), (7, _), (8, _), (9, _), (10, _), (50, _)]) ⟨rfl, rfl, rfl, rfl, rfl, rfl, rfl, rfl, rfl, trivial⟩ ?_
          refine PW.cond rfl (fun c50 => ?_) (fun c50 => ?_)
          · try simp only [decide_eq_true_eq, decide_eq_false_iff_not, beq_iff_eq, bne_iff_ne, beq_eq_false_iff_ne, bne_eq_false_iff_eq, Bool.not_eq_true', Bool.not_eq_false', Bool.not_eq_true, ne_eq, Decidable.not_not] at c50
            refine PW.ops ?_
            refine OL.det trivial (Yields.pure rfl) ?_
            refine OL.det trivial (Yields.add64 rfl rfl (by omega) (by omega)) ?_
            refine OL.det trivial (Yields.pure rfl) ?_
            refine OL.nil ?_
            refine hK5 _ _ ?_
            refine PW.keep (T' := [(0, _), (1, _), (5, _), (6, _), (7, _), (8, _), (9, _), (10, _)]) ⟨rfl, rfl, rfl, rfl, rfl, rfl, rfl, rfl, trivial⟩ ?_
            refine PW.ops ?_
            refine OL.det trivial (Yields.pure rfl) ?_
            refine OL.det trivial (Yields.add64 rfl rfl (by omega) (by omega)) ?_
            refine OL.det trivial (Yields.pure rfl) ?_
            refine OL.nil ?_
            repeat rw [inBlk_n]
            rw [thenK_n]
            refine LoopEnd.mk (T'' := [(0, _), (1, _), (5, _), (6, _), (7, _), (8, _), (9, _), (10, _)]) ⟨rfl, rfl, rfl, rfl, rfl, rfl, rfl, rfl, trivial⟩ ?_
            have hc : (tb.data.toList.take (k + 1)).count 10 = (tb.data.toList.take k).count 10 + 1 := by
              rw [htk, List.count_append, show b = 10 from UInt8.toNat_inj.1 (by show b.toNat = 10; omega)]; simp
            exact ⟨tb.size - (k + 1), by omega, k + 1, ⟨by omega, rfl⟩, by rw [hc]; simp, rfl⟩
          · try simp only [decide_eq_true_eq, decide_eq_false_iff_not, beq_iff_eq, bne_iff_ne, beq_eq_false_iff_ne, bne_eq_false_iff_eq, Bool.not_eq_true', Bool.not_eq_false', Bool.not_eq_true, ne_eq, Decidable.not_not] at c50
            refine PW.skip ?_
            refine hK5 _ _ ?_
            refine PW.keep (T' := [(0, _), (1, _), (5, _), (6, _), (7, _), (8, _), (9, _), (10, _)]) ⟨rfl, rfl, rfl, rfl, rfl, rfl, rfl, rfl, trivial⟩ ?_
            refine PW.ops ?_
            refine OL.det trivial (Yields.pure rfl) ?_
            refine OL.det trivial (Yields.add64 rfl rfl (by omega) (by omega)) ?_
            refine OL.det trivial (Yields.pure rfl) ?_
            refine OL.nil ?_
            repeat rw [inBlk_n]
            rw [thenK_n]
            refine LoopEnd.mk (T'' := [(0, _), (1, _), (5, _), (6, _), (7, _), (8, _), (9, _), (10, _)]) ⟨rfl, rfl, rfl, rfl, rfl, rfl, rfl, rfl, trivial⟩ ?_
            have hc : (tb.data.toList.take (k + 1)).count 10 = (tb.data.toList.take k).count 10 := by
              rw [htk, List.count_append, List.count_singleton, if_neg (by intro e; have := eq_of_beq e; subst this; exact c50 rfl), Nat.add_zero]
            exact ⟨tb.size - (k + 1), by omega, k + 1, ⟨by omega, rfl⟩, by rw [hc]; simp, rfl⟩
        · try simp only [decide_eq_true_eq, decide_eq_false_iff_not, beq_iff_eq, bne_iff_ne, beq_eq_false_iff_ne, bne_eq_false_iff_eq, Bool.not_eq_true', Bool.not_eq_false', Bool.not_eq_true, ne_eq, Decidable.not_not] at c44
          refine PW.exit ?_
          refine hK3 _ _ ?_
          refine PW.keep (T' := [(0, _), (1, _), (5, _), (6, _), (7, _), (8, _), (9, _)]) ⟨rfl, rfl, rfl, rfl, rfl, rfl, rfl, trivial⟩ ?_
          refine PW.seq fun K6 hK6 => ?_
          refine PW.seqOps ?_
          refine OL.det trivial (Yields.pure rfl) ?_
          refine OL.det trivial (Yields.pure rfl) ?_
          refine OL.bool trivial (Yields.pure rfl) (fun g55 => ?_) (fun g55 => ?_)
          · try simp only [decide_eq_true_eq, decide_eq_false_iff_not, beq_iff_eq, bne_iff_ne, beq_eq_false_iff_ne, bne_eq_false_iff_eq, Bool.not_eq_true', Bool.not_eq_false', Bool.not_eq_true, ne_eq, Decidable.not_not] at g55
            refine OL.det rfl (Yields.pure rfl) ?_
            refine OL.det rfl (Yields.pure rfl) ?_
            refine OL.det rfl (Yields.pure rfl) ?_
            have hkk : tb.data.toList.take k = tb.data.toList := List.take_of_length_le (by omega)
            refine OL.det rfl (Yields.to (v' := .bool false) (Yields.pure rfl) (by rw [(told_ok g55).1, (told_ok g55).2.2, hkk]; simp)) ?_
            refine OL.det rfl (Yields.pure rfl) ?_
            refine OL.det rfl (Yields.pure rfl) ?_
            refine OL.call rfl rfl (join_fc (hr3 (s1 :: S)) (by omega) (by rw [(told_ok g55).1, (told_ok g55).2.1]; omega)) ?_
            rintro _ _ ⟨rfl, rfl⟩
            refine OL.det rfl (Yields.pure rfl) ?_
            refine OL.det rfl (Yields.to (v' := .bool false) (Yields.pure rfl) (by rw [(told_ok g55).1, (told_ok g55).2.1, ba_eta]; simp)) ?_
            refine OL.det rfl (Yields.pure rfl) ?_
            refine OL.det trivial (Yields.pure rfl) ?_
            refine OL.det trivial (Yields.pure rfl) ?_
            refine OL.det rfl (Yields.pure rfl) ?_
            refine OL.det rfl (Yields.pure rfl) ?_
            refine OL.bool rfl (Yields.pure rfl) (fun g70 => ?_) (fun g70 => ?_)
            · try simp only [decide_eq_true_eq, decide_eq_false_iff_not, beq_iff_eq, bne_iff_ne, beq_eq_false_iff_ne, bne_eq_false_iff_eq, Bool.not_eq_true', Bool.not_eq_false', Bool.not_eq_true, ne_eq, Decidable.not_not] at g70
              refine OL.det rfl (Yields.pure rfl) ?_
              refine OL.det rfl (Yields.to (v' := .bool false) (Yields.pure rfl) (by rw [(sp_ok g70).2.2.2]; rfl)) ?_
              refine OL.det rfl (Yields.pure rfl) ?_
              refine OL.det rfl (Yields.pure rfl) ?_
              refine OL.det rfl (Yields.pure rfl) ?_
              refine OL.det rfl (Yields.pure rfl) ?_
              have hkk : tb.data.toList.take k = tb.data.toList := List.take_of_length_le (by omega)
              refine OL.det rfl (Yields.to (v' := .bool false) (Yields.pure rfl) (by rw [(sp_ok g70).1, (sp_ok g70).2.2.1, hkk]; simp)) ?_
              refine OL.det rfl (Yields.pure rfl) ?_
              refine OL.det rfl (Yields.pure rfl) ?_
              refine OL.det trivial (Yields.pure rfl) ?_
              refine OL.nil ?_
              refine PW.keep (T' := [(1, _), (80, _)]) ⟨rfl, rfl, trivial⟩ ?_
              refine PW.ite (b := false) rfl ?_
              rw [if_neg Bool.false_ne_true]
              refine PW.skip ?_
              refine hK6 _ _ ?_
              refine PW.keep (T' := [(1, _)]) ⟨rfl, trivial⟩ ?_
              refine PW.seqOps ?_
              refine OL.det trivial (Yields.pure rfl) ?_
              refine OL.call trivial rfl (join_fc hx.cons.cons (by omega) (by omega)) ?_
              rintro _ _ ⟨rfl, rfl⟩
              refine OL.call trivial rfl (split_fc hjt) ?_
              rintro _ _ ⟨A5, c5, s5, rfl, rfl, hr5⟩
              refine OL.det trivial (Yields.pure rfl) ?_
              refine OL.det trivial (Yields.pure rfl) ?_
              refine OL.det trivial (Yields.pure rfl) ?_
              refine OL.det trivial (Yields.pure rfl) ?_
              refine OL.det trivial (Yields.pure rfl) ?_
              refine OL.nil ?_
              refine PW.keep (T' := [(1, _), (11, _), (12, _)]) ⟨rfl, rfl, rfl, trivial⟩ ?_
              refine PW.seq fun K7 hK7 => ?_
              refine PW.seqOps ?_
              refine OL.det trivial (Yields.pure rfl) ?_
              refine OL.call trivial rfl (check_fc hx.cons.cons.cons (by omega) hsz) ?_
              rintro _ _ ⟨rfl, rfl⟩
              refine OL.det trivial (Yields.pure rfl) ?_
              refine OL.nil ?_
              refine PW.keep (T' := [(1, _), (11, _), (12, _), (89, _)]) ⟨rfl, rfl, rfl, rfl, trivial⟩ ?_
              refine PW.cond rfl (fun c89 => ?_) (fun c89 => ?_)
              · try simp only [decide_eq_true_eq, decide_eq_false_iff_not, beq_iff_eq, bne_iff_ne, beq_eq_false_iff_ne, bne_eq_false_iff_eq, Bool.not_eq_true', Bool.not_eq_false', Bool.not_eq_true, ne_eq, Decidable.not_not] at c89
                refine PW.seqOps ?_
                refine OL.call trivial rfl (awake_fc) ?_
                rintro _ _ ⟨rfl, rfl⟩
                refine OL.det trivial (Yields.pure rfl) ?_
                refine OL.nil ?_
                refine PW.keep (T' := [(4, _)]) ⟨rfl, trivial⟩ ?_
                refine PW.ret ?_
                change (Exit.ret = Exit.normal ∨ Exit.ret = Exit.ret) ∧ ∃ v, resV _ _ = some v ∧ _
                exact ⟨.inr rfl, _, rfl, _, Sub.refl _, rfl⟩
              · try simp only [decide_eq_true_eq, decide_eq_false_iff_not, beq_iff_eq, bne_iff_ne, beq_eq_false_iff_ne, bne_eq_false_iff_eq, Bool.not_eq_true', Bool.not_eq_false', Bool.not_eq_true, ne_eq, Decidable.not_not] at c89
                have hsp := sp_back (ls := ls) (by omega)
                rw [hsp] at hr5
                have hr5' : ∀ S2, Rd w0 (s5 :: S2) A5 (strs ls) := hr5
                rw [hsp]
                refine PW.skip ?_
                refine hK7 _ _ ?_
                refine PW.keep (T' := [(1, _), (11, _), (12, _)]) ⟨rfl, rfl, rfl, trivial⟩ ?_
                refine PW.seq fun K8 hK8 => ?_
                refine PW.seqOps ?_
                refine OL.det trivial (Yields.pure rfl) ?_
                refine OL.det trivial (Yields.to (v' := .bool false) (Yields.pure rfl) rfl) ?_
                refine OL.det trivial (Yields.pure rfl) ?_
                refine OL.det rfl (Yields.pure rfl) ?_
                refine OL.det rfl (Yields.pure rfl) ?_
                refine OL.det rfl (Yields.pure rfl) ?_
                refine OL.det rfl (Yields.pure rfl) ?_
                refine OL.det rfl (Yields.to (v' := .bool false) (Yields.pure rfl) (by simp)) ?_
                refine OL.det trivial (Yields.pure rfl) ?_
                refine OL.nil ?_
                refine PW.keep (T' := [(1, _), (11, _), (99, _)]) ⟨rfl, rfl, rfl, trivial⟩ ?_
                refine PW.ite (b := false) rfl ?_
                rw [if_neg Bool.false_ne_true]
                refine PW.skip ?_
                refine hK8 _ _ ?_
                refine PW.keep (T' := [(1, _), (11, _)]) ⟨rfl, rfl, trivial⟩ ?_
                refine PW.seq fun K9 hK9 => ?_
                refine PW.seqOps ?_
                refine OL.det trivial (Yields.pure rfl) ?_
                refine OL.nil ?_
                refine PW.keep (T' := [(1, _), (11, _), (13, _)]) ⟨rfl, rfl, rfl, trivial⟩ ?_
                refine PW.block ?_
                refine PW.keep (T' := [(1, _), (11, _), (13, _)]) ⟨rfl, rfl, rfl, trivial⟩ ?_
                refine PW.loopK (I := fun m T S' => ∃ (k : Nat), (k ≤ ls.length ∧ m = ls.length - k) ∧ T = ([(1, .slice A ls.length cap), (11, .slice A5 ls.length c5), (13, .int .i64 k)] : TT) ∧ S' = s5 :: s3 :: s1 :: S) (m := ls.length) ⟨0, ⟨by omega, by omega⟩, rfl, rfl⟩ ?_
                rintro m _ _ ⟨k, ⟨hk, hm⟩, rfl, rfl⟩
                refine PW.seq fun K10 hK10 => ?_
                refine PW.seqOps ?_
                refine OL.det trivial (Yields.pure rfl) ?_
                refine OL.det trivial (Yields.pure rfl) ?_
                refine OL.det trivial (Yields.pure rfl) ?_
                refine OL.det trivial (Yields.pure rfl) ?_
                refine OL.nil ?_
                refine PW.keep (T' := [(1, _), (11, _), (13, _), (103, _)]) ⟨rfl, rfl, rfl, rfl, trivial⟩ ?_
                refine PW.cond rfl (fun c103 => ?_) (fun c103 => ?_)
                · try simp only [decide_eq_true_eq, decide_eq_false_iff_not, beq_iff_eq, bne_iff_ne, beq_eq_false_iff_ne, bne_eq_false_iff_eq, Bool.not_eq_true', Bool.not_eq_false', Bool.not_eq_true, ne_eq, Decidable.not_not] at c103
                  have hkl : k < ls.length := by omega
                  obtain ⟨b0, rfl⟩ := hx.some (strs_ne (by omega))
                  obtain ⟨b1, rfl⟩ := (hr5' []).some (strs_ne (by omega))
                  refine PW.skip ?_
                  refine hK10 _ _ ?_
                  refine PW.keep (T' := [(1, _), (11, _), (13, _)]) ⟨rfl, rfl, rfl, trivial⟩ ?_
                  refine PW.seq fun K11 hK11 => ?_
                  refine PW.block ?_
                  refine PW.seq fun K12 hK12 => ?_
                  refine PW.quietK Try.mixed ?_
                  refine QK.det trivial (Yields.pure rfl) ?_
                  refine QK.det trivial (Yields.pure rfl) ?_
                  refine QK.det trivial (Yields.ixN1 rfl rfl rfl (by omega)) ?_
                  refine QK.det trivial (Yields.ld rfl (strs_at (hr5' _) hkl)) ?_
                  refine QK.det trivial (Yields.pure rfl) ?_
                  refine QK.det trivial (Yields.pure rfl) ?_
                  refine QK.det trivial (Yields.ixN1 rfl rfl rfl (by omega)) ?_
                  refine QK.det trivial (Yields.ld rfl (strs_at hx.cons.cons.cons hkl)) ?_
                  refine QK.nil ?_
                  change OL _ _ _ [_] _ _ _
                  refine OL.det trivial (Yields.pure rfl) ?_
                  refine OL.nil ?_
                  refine hK12 _ _ ?_
                  refine PW.keep (T' := [(1, _), (11, _), (13, _), (114, _)]) ⟨rfl, rfl, rfl, rfl, trivial⟩ ?_
                  refine PW.cond rfl (fun c114 => ?_) (fun c114 => ?_)
                  · have c114 := c114
                    exfalso; simp at c114 -- done
                  · have c114 := c114
                    refine PW.skip ?_
                    refine hK11 _ _ ?_
                    refine PW.keep (T' := [(1, _), (11, _), (13, _)]) ⟨rfl, rfl, rfl, trivial⟩ ?_
                    refine PW.ops ?_
                    refine OL.det trivial (Yields.pure rfl) ?_
                    refine OL.det trivial (Yields.add64 rfl rfl (by omega) (by omega)) ?_
                    refine OL.det trivial (Yields.pure rfl) ?_
                    refine OL.nil ?_
                    repeat rw [inBlk_n]
                    rw [thenK_n]
                    refine LoopEnd.mk (T'' := [(1, _), (11, _), (13, _)]) ⟨rfl, rfl, rfl, trivial⟩ ?_
                    exact ⟨ls.length - (k + 1), by omega, k + 1, ⟨by omega, rfl⟩, by simp, rfl⟩
                · try simp only [decide_eq_true_eq, decide_eq_false_iff_not, beq_iff_eq, bne_iff_ne, beq_eq_false_iff_ne, bne_eq_false_iff_eq, Bool.not_eq_true', Bool.not_eq_false', Bool.not_eq_true, ne_eq, Decidable.not_not] at c103
                  refine PW.exit ?_
                  refine hK9 _ _ ?_
                  refine PW.keep (T' := []) trivial ?_
                  refine PW.seqOps ?_
                  refine OL.call trivial rfl (awake_fc) ?_
                  rintro _ _ ⟨rfl, rfl⟩
                  refine OL.det trivial (Yields.pure rfl) ?_
                  refine OL.nil ?_
                  refine PW.keep (T' := [(4, _)]) ⟨rfl, trivial⟩ ?_
                  refine PW.ret ?_
                  change (Exit.ret = Exit.normal ∨ Exit.ret = Exit.ret) ∧ ∃ v, resV _ _ = some v ∧ _
                  exact ⟨.inr rfl, _, rfl, _, Sub.refl _, rfl⟩
            · try simp only [decide_eq_true_eq, decide_eq_false_iff_not, beq_iff_eq, bne_iff_ne, beq_eq_false_iff_ne, bne_eq_false_iff_eq, Bool.not_eq_true', Bool.not_eq_false', Bool.not_eq_true, ne_eq, Decidable.not_not] at g70
              refine OL.off rfl rfl ?_
              refine OL.off rfl rfl ?_
              refine OL.off rfl rfl ?_
              refine OL.off rfl rfl ?_
              refine OL.off rfl rfl ?_
              refine OL.off rfl rfl ?_
              refine OL.off rfl rfl ?_
              refine OL.off rfl rfl ?_
              refine OL.det rfl (Yields.pure rfl) ?_
              refine OL.det trivial (Yields.pure rfl) ?_
              refine OL.nil ?_
              refine PW.keep (T' := [(1, _), (80, _)]) ⟨rfl, rfl, trivial⟩ ?_
              refine PW.ite (b := false) rfl ?_
              rw [if_neg Bool.false_ne_true]
              refine PW.skip ?_
              refine hK6 _ _ ?_
              refine PW.keep (T' := [(1, _)]) ⟨rfl, trivial⟩ ?_
              refine PW.seqOps ?_
              refine OL.det trivial (Yields.pure rfl) ?_
              refine OL.call trivial rfl (join_fc hx.cons.cons (by omega) (by omega)) ?_
              rintro _ _ ⟨rfl, rfl⟩
              refine OL.call trivial rfl (split_fc hjt) ?_
              rintro _ _ ⟨A5, c5, s5, rfl, rfl, hr5⟩
              refine OL.det trivial (Yields.pure rfl) ?_
              refine OL.det trivial (Yields.pure rfl) ?_
              refine OL.det trivial (Yields.pure rfl) ?_
              refine OL.det trivial (Yields.pure rfl) ?_
              refine OL.det trivial (Yields.pure rfl) ?_
              refine OL.nil ?_
              refine PW.keep (T' := [(1, _), (11, _), (12, _)]) ⟨rfl, rfl, rfl, trivial⟩ ?_
              refine PW.seq fun K13 hK13 => ?_
              refine PW.seqOps ?_
              refine OL.det trivial (Yields.pure rfl) ?_
              refine OL.call trivial rfl (check_fc hx.cons.cons.cons (by omega) hsz) ?_
              rintro _ _ ⟨rfl, rfl⟩
              refine OL.det trivial (Yields.pure rfl) ?_
              refine OL.nil ?_
              refine PW.keep (T' := [(1, _), (11, _), (12, _), (89, _)]) ⟨rfl, rfl, rfl, rfl, trivial⟩ ?_
              refine PW.cond rfl (fun c89 => ?_) (fun c89 => ?_)
              · try simp only [decide_eq_true_eq, decide_eq_false_iff_not, beq_iff_eq, bne_iff_ne, beq_eq_false_iff_ne, bne_eq_false_iff_eq, Bool.not_eq_true', Bool.not_eq_false', Bool.not_eq_true, ne_eq, Decidable.not_not] at c89
                refine PW.seqOps ?_
                refine OL.call trivial rfl (awake_fc) ?_
                rintro _ _ ⟨rfl, rfl⟩
                refine OL.det trivial (Yields.pure rfl) ?_
                refine OL.nil ?_
                refine PW.keep (T' := [(4, _)]) ⟨rfl, trivial⟩ ?_
                refine PW.ret ?_
                change (Exit.ret = Exit.normal ∨ Exit.ret = Exit.ret) ∧ ∃ v, resV _ _ = some v ∧ _
                exact ⟨.inr rfl, _, rfl, _, Sub.refl _, rfl⟩
              · try simp only [decide_eq_true_eq, decide_eq_false_iff_not, beq_iff_eq, bne_iff_ne, beq_eq_false_iff_ne, bne_eq_false_iff_eq, Bool.not_eq_true', Bool.not_eq_false', Bool.not_eq_true, ne_eq, Decidable.not_not] at c89
                have hsp := sp_back (ls := ls) (by omega)
                rw [hsp] at hr5
                have hr5' : ∀ S2, Rd w0 (s5 :: S2) A5 (strs ls) := hr5
                rw [hsp]
                refine PW.skip ?_
                refine hK13 _ _ ?_
                refine PW.keep (T' := [(1, _), (11, _), (12, _)]) ⟨rfl, rfl, rfl, trivial⟩ ?_
                refine PW.seq fun K14 hK14 => ?_
                refine PW.seqOps ?_
                refine OL.det trivial (Yields.pure rfl) ?_
                refine OL.det trivial (Yields.to (v' := .bool false) (Yields.pure rfl) rfl) ?_
                refine OL.det trivial (Yields.pure rfl) ?_
                refine OL.det rfl (Yields.pure rfl) ?_
                refine OL.det rfl (Yields.pure rfl) ?_
                refine OL.det rfl (Yields.pure rfl) ?_
                refine OL.det rfl (Yields.pure rfl) ?_
                refine OL.det rfl (Yields.to (v' := .bool false) (Yields.pure rfl) (by simp)) ?_
                refine OL.det trivial (Yields.pure rfl) ?_
                refine OL.nil ?_
                refine PW.keep (T' := [(1, _), (11, _), (99, _)]) ⟨rfl, rfl, rfl, trivial⟩ ?_
                refine PW.ite (b := false) rfl ?_
                rw [if_neg Bool.false_ne_true]
                refine PW.skip ?_
                refine hK14 _ _ ?_
                refine PW.keep (T' := [(1, _), (11, _)]) ⟨rfl, rfl, trivial⟩ ?_
                refine PW.seq fun K15 hK15 => ?_
                refine PW.seqOps ?_
                refine OL.det trivial (Yields.pure rfl) ?_
                refine OL.nil ?_
                refine PW.keep (T' := [(1, _), (11, _), (13, _)]) ⟨rfl, rfl, rfl, trivial⟩ ?_
                refine PW.block ?_
                refine PW.keep (T' := [(1, _), (11, _), (13, _)]) ⟨rfl, rfl, rfl, trivial⟩ ?_
                refine PW.loopK (I := fun m T S' => ∃ (k : Nat), (k ≤ ls.length ∧ m = ls.length - k) ∧ T = ([(1, .slice A ls.length cap), (11, .slice A5 ls.length c5), (13, .int .i64 k)] : TT) ∧ S' = s5 :: s3 :: s1 :: S) (m := ls.length) ⟨0, ⟨by omega, by omega⟩, rfl, rfl⟩ ?_
                rintro m _ _ ⟨k, ⟨hk, hm⟩, rfl, rfl⟩
                refine PW.seq fun K16 hK16 => ?_
                refine PW.seqOps ?_
                refine OL.det trivial (Yields.pure rfl) ?_
                refine OL.det trivial (Yields.pure rfl) ?_
                refine OL.det trivial (Yields.pure rfl) ?_
                refine OL.det trivial (Yields.pure rfl) ?_
                refine OL.nil ?_
                refine PW.keep (T' := [(1, _), (11, _), (13, _), (103, _)]) ⟨rfl, rfl, rfl, rfl, trivial⟩ ?_
                refine PW.cond rfl (fun c103 => ?_) (fun c103 => ?_)
                · try simp only [decide_eq_true_eq, decide_eq_false_iff_not, beq_iff_eq, bne_iff_ne, beq_eq_false_iff_ne, bne_eq_false_iff_eq, Bool.not_eq_true', Bool.not_eq_false', Bool.not_eq_true, ne_eq, Decidable.not_not] at c103
                  have hkl : k < ls.length := by omega
                  obtain ⟨b0, rfl⟩ := hx.some (strs_ne (by omega))
                  obtain ⟨b1, rfl⟩ := (hr5' []).some (strs_ne (by omega))
                  refine PW.skip ?_
                  refine hK16 _ _ ?_
                  refine PW.keep (T' := [(1, _), (11, _), (13, _)]) ⟨rfl, rfl, rfl, trivial⟩ ?_
                  refine PW.seq fun K17 hK17 => ?_
                  refine PW.block ?_
                  refine PW.seq fun K18 hK18 => ?_
                  refine PW.quietK Try.mixed ?_
                  refine QK.det trivial (Yields.pure rfl) ?_
                  refine QK.det trivial (Yields.pure rfl) ?_
                  refine QK.det trivial (Yields.ixN1 rfl rfl rfl (by omega)) ?_
                  refine QK.det trivial (Yields.ld rfl (strs_at (hr5' _) hkl)) ?_
                  refine QK.det trivial (Yields.pure rfl) ?_
                  refine QK.det trivial (Yields.pure rfl) ?_
                  refine QK.det trivial (Yields.ixN1 rfl rfl rfl (by omega)) ?_
                  refine QK.det trivial (Yields.ld rfl (strs_at hx.cons.cons.cons hkl)) ?_
                  refine QK.nil ?_
                  change OL _ _ _ [_] _ _ _
                  refine OL.det trivial (Yields.pure rfl) ?_
                  refine OL.nil ?_
                  refine hK18 _ _ ?_
                  refine PW.keep (T' := [(1, _), (11, _), (13, _), (114, _)]) ⟨rfl, rfl, rfl, rfl, trivial⟩ ?_
                  refine PW.cond rfl (fun c114 => ?_) (fun c114 => ?_)
                  · have c114 := c114
                    exfalso; simp at c114 -- done
                  · have c114 := c114
                    refine PW.skip ?_
                    refine hK17 _ _ ?_
                    refine PW.keep (T' := [(1, _), (11, _), (13, _)]) ⟨rfl, rfl, rfl, trivial⟩ ?_
                    refine PW.ops ?_
                    refine OL.det trivial (Yields.pure rfl) ?_
                    refine OL.det trivial (Yields.add64 rfl rfl (by omega) (by omega)) ?_
                    refine OL.det trivial (Yields.pure rfl) ?_
                    refine OL.nil ?_
                    repeat rw [inBlk_n]
                    rw [thenK_n]
                    refine LoopEnd.mk (T'' := [(1, _), (11, _), (13, _)]) ⟨rfl, rfl, rfl, trivial⟩ ?_
                    exact ⟨ls.length - (k + 1), by omega, k + 1, ⟨by omega, rfl⟩, by simp, rfl⟩
                · try simp only [decide_eq_true_eq, decide_eq_false_iff_not, beq_iff_eq, bne_iff_ne, beq_eq_false_iff_ne, bne_eq_false_iff_eq, Bool.not_eq_true', Bool.not_eq_false', Bool.not_eq_true, ne_eq, Decidable.not_not] at c103
                  refine PW.exit ?_
                  refine hK15 _ _ ?_
                  refine PW.keep (T' := []) trivial ?_
                  refine PW.seqOps ?_
                  refine OL.call trivial rfl (awake_fc) ?_
                  rintro _ _ ⟨rfl, rfl⟩
                  refine OL.det trivial (Yields.pure rfl) ?_
                  refine OL.nil ?_
                  refine PW.keep (T' := [(4, _)]) ⟨rfl, trivial⟩ ?_
                  refine PW.ret ?_
                  change (Exit.ret = Exit.normal ∨ Exit.ret = Exit.ret) ∧ ∃ v, resV _ _ = some v ∧ _
                  exact ⟨.inr rfl, _, rfl, _, Sub.refl _, rfl⟩
          · try simp only [decide_eq_true_eq, decide_eq_false_iff_not, beq_iff_eq, bne_iff_ne, beq_eq_false_iff_ne, bne_eq_false_iff_eq, Bool.not_eq_true', Bool.not_eq_false', Bool.not_eq_true, ne_eq, Decidable.not_not] at g55
            refine OL.off rfl rfl ?_
            refine OL.off rfl rfl ?_
            refine OL.off rfl rfl ?_
            refine OL.off rfl rfl ?_
            refine OL.off rfl rfl ?_
            refine OL.off rfl rfl ?_
            refine OL.off rfl rfl ?_
            refine OL.off rfl rfl ?_
            refine OL.off rfl rfl ?_
            refine OL.off rfl rfl ?_
            refine OL.det trivial (Yields.pure rfl) ?_
            refine OL.det trivial (Yields.pure rfl) ?_
            refine OL.det rfl (Yields.pure rfl) ?_
            refine OL.det rfl (Yields.pure rfl) ?_
            refine OL.bool rfl (Yields.pure rfl) (fun g70 => ?_) (fun g70 => ?_)
            · try simp only [decide_eq_true_eq, decide_eq_false_iff_not, beq_iff_eq, bne_iff_ne, beq_eq_false_iff_ne, bne_eq_false_iff_eq, Bool.not_eq_true', Bool.not_eq_false', Bool.not_eq_true, ne_eq, Decidable.not_not] at g70
              refine OL.det rfl (Yields.pure rfl) ?_
              refine OL.det rfl (Yields.to (v' := .bool false) (Yields.pure rfl) (by rw [(sp_ok g70).2.2.2]; rfl)) ?_
              refine OL.det rfl (Yields.pure rfl) ?_
              refine OL.det rfl (Yields.pure rfl) ?_
              refine OL.det rfl (Yields.pure rfl) ?_
              refine OL.det rfl (Yields.pure rfl) ?_
              have hkk : tb.data.toList.take k = tb.data.toList := List.take_of_length_le (by omega)
              refine OL.det rfl (Yields.to (v' := .bool false) (Yields.pure rfl) (by rw [(sp_ok g70).1, (sp_ok g70).2.2.1, hkk]; simp)) ?_
              refine OL.det rfl (Yields.pure rfl) ?_
              refine OL.det rfl (Yields.pure rfl) ?_
              refine OL.det trivial (Yields.pure rfl) ?_
              refine OL.nil ?_
              refine PW.keep (T' := [(1, _), (80, _)]) ⟨rfl, rfl, trivial⟩ ?_
              refine PW.ite (b := false) rfl ?_
              rw [if_neg Bool.false_ne_true]
              refine PW.skip ?_
              refine hK6 _ _ ?_
              refine PW.keep (T' := [(1, _)]) ⟨rfl, trivial⟩ ?_
              refine PW.seqOps ?_
              refine OL.det trivial (Yields.pure rfl) ?_
              refine OL.call trivial rfl (join_fc hx.cons.cons (by omega) (by omega)) ?_
              rintro _ _ ⟨rfl, rfl⟩
              refine OL.call trivial rfl (split_fc hjt) ?_
              rintro _ _ ⟨A5, c5, s5, rfl, rfl, hr5⟩
              refine OL.det trivial (Yields.pure rfl) ?_
              refine OL.det trivial (Yields.pure rfl) ?_
              refine OL.det trivial (Yields.pure rfl) ?_
              refine OL.det trivial (Yields.pure rfl) ?_
              refine OL.det trivial (Yields.pure rfl) ?_
              refine OL.nil ?_
              refine PW.keep (T' := [(1, _), (11, _), (12, _)]) ⟨rfl, rfl, rfl, trivial⟩ ?_
              refine PW.seq fun K19 hK19 => ?_
              refine PW.seqOps ?_
              refine OL.det trivial (Yields.pure rfl) ?_
              refine OL.call trivial rfl (check_fc hx.cons.cons.cons (by omega) hsz) ?_
              rintro _ _ ⟨rfl, rfl⟩
              refine OL.det trivial (Yields.pure rfl) ?_
              refine OL.nil ?_
              refine PW.keep (T' := [(1, _), (11, _), (12, _), (89, _)]) ⟨rfl, rfl, rfl, rfl, trivial⟩ ?_
              refine PW.cond rfl (fun c89 => ?_) (fun c89 => ?_)
              · try simp only [decide_eq_true_eq, decide_eq_false_iff_not, beq_iff_eq, bne_iff_ne, beq_eq_false_iff_ne, bne_eq_false_iff_eq, Bool.not_eq_true', Bool.not_eq_false', Bool.not_eq_true, ne_eq, Decidable.not_not] at c89
                refine PW.seqOps ?_
                refine OL.call trivial rfl (awake_fc) ?_
                rintro _ _ ⟨rfl, rfl⟩
                refine OL.det trivial (Yields.pure rfl) ?_
                refine OL.nil ?_
                refine PW.keep (T' := [(4, _)]) ⟨rfl, trivial⟩ ?_
                refine PW.ret ?_
                change (Exit.ret = Exit.normal ∨ Exit.ret = Exit.ret) ∧ ∃ v, resV _ _ = some v ∧ _
                exact ⟨.inr rfl, _, rfl, _, Sub.refl _, rfl⟩
              · try simp only [decide_eq_true_eq, decide_eq_false_iff_not, beq_iff_eq, bne_iff_ne, beq_eq_false_iff_ne, bne_eq_false_iff_eq, Bool.not_eq_true', Bool.not_eq_false', Bool.not_eq_true, ne_eq, Decidable.not_not] at c89
                have hsp := sp_back (ls := ls) (by omega)
                rw [hsp] at hr5
                have hr5' : ∀ S2, Rd w0 (s5 :: S2) A5 (strs ls) := hr5
                rw [hsp]
                refine PW.skip ?_
                refine hK19 _ _ ?_
                refine PW.keep (T' := [(1, _), (11, _), (12, _)]) ⟨rfl, rfl, rfl, trivial⟩ ?_
                refine PW.seq fun K20 hK20 => ?_
                refine PW.seqOps ?_
                refine OL.det trivial (Yields.pure rfl) ?_
                refine OL.det trivial (Yields.to (v' := .bool false) (Yields.pure rfl) rfl) ?_
                refine OL.det trivial (Yields.pure rfl) ?_
                refine OL.det rfl (Yields.pure rfl) ?_
                refine OL.det rfl (Yields.pure rfl) ?_
                refine OL.det rfl (Yields.pure rfl) ?_
                refine OL.det rfl (Yields.pure rfl) ?_
                refine OL.det rfl (Yields.to (v' := .bool false) (Yields.pure rfl) (by simp)) ?_
                refine OL.det trivial (Yields.pure rfl) ?_
                refine OL.nil ?_
                refine PW.keep (T' := [(1, _), (11, _), (99, _)]) ⟨rfl, rfl, rfl, trivial⟩ ?_
                refine PW.ite (b := false) rfl ?_
                rw [if_neg Bool.false_ne_true]
                refine PW.skip ?_
                refine hK20 _ _ ?_
                refine PW.keep (T' := [(1, _), (11, _)]) ⟨rfl, rfl, trivial⟩ ?_
                refine PW.seq fun K21 hK21 => ?_
                refine PW.seqOps ?_
                refine OL.det trivial (Yields.pure rfl) ?_
                refine OL.nil ?_
                refine PW.keep (T' := [(1, _), (11, _), (13, _)]) ⟨rfl, rfl, rfl, trivial⟩ ?_
                refine PW.block ?_
                refine PW.keep (T' := [(1, _), (11, _), (13, _)]) ⟨rfl, rfl, rfl, trivial⟩ ?_
                refine PW.loopK (I := fun m T S' => ∃ (k : Nat), (k ≤ ls.length ∧ m = ls.length - k) ∧ T = ([(1, .slice A ls.length cap), (11, .slice A5 ls.length c5), (13, .int .i64 k)] : TT) ∧ S' = s5 :: s3 :: s1 :: S) (m := ls.length) ⟨0, ⟨by omega, by omega⟩, rfl, rfl⟩ ?_
                rintro m _ _ ⟨k, ⟨hk, hm⟩, rfl, rfl⟩
                refine PW.seq fun K22 hK22 => ?_
                refine PW.seqOps ?_
                refine OL.det trivial (Yields.pure rfl) ?_
                refine OL.det trivial (Yields.pure rfl) ?_
                refine OL.det trivial (Yields.pure rfl) ?_
                refine OL.det trivial (Yields.pure rfl) ?_
                refine OL.nil ?_
                refine PW.keep (T' := [(1, _), (11, _), (13, _), (103, _)]) ⟨rfl, rfl, rfl, rfl, trivial⟩ ?_
                refine PW.cond rfl (fun c103 => ?_) (fun c103 => ?_)
                · try simp only [decide_eq_true_eq, decide_eq_false_iff_not, beq_iff_eq, bne_iff_ne, beq_eq_false_iff_ne, bne_eq_false_iff_eq, Bool.not_eq_true', Bool.not_eq_false', Bool.not_eq_true, ne_eq, Decidable.not_not] at c103
                  have hkl : k < ls.length := by omega
                  obtain ⟨b0, rfl⟩ := hx.some (strs_ne (by omega))
                  obtain ⟨b1, rfl⟩ := (hr5' []).some (strs_ne (by omega))
                  refine PW.skip ?_
                  refine hK22 _ _ ?_
                  refine PW.keep (T' := [(1, _), (11, _), (13, _)]) ⟨rfl, rfl, rfl, trivial⟩ ?_
                  refine PW.seq fun K23 hK23 => ?_
                  refine PW.block ?_
                  refine PW.seq fun K24 hK24 => ?_
                  refine PW.quietK Try.mixed ?_
                  refine QK.det trivial (Yields.pure rfl) ?_
                  refine QK.det trivial (Yields.pure rfl) ?_
                  refine QK.det trivial (Yields.ixN1 rfl rfl rfl (by omega)) ?_
                  refine QK.det trivial (Yields.ld rfl (strs_at (hr5' _) hkl)) ?_
                  refine QK.det trivial (Yields.pure rfl) ?_
                  refine QK.det trivial (Yields.pure rfl) ?_
                  refine QK.det trivial (Yields.ixN1 rfl rfl rfl (by omega)) ?_
                  refine QK.det trivial (Yields.ld rfl (strs_at hx.cons.cons.cons hkl)) ?_
                  refine QK.nil ?_
                  change OL _ _ _ [_] _ _ _
                  refine OL.det trivial (Yields.pure rfl) ?_
                  refine OL.nil ?_
                  refine hK24 _ _ ?_
                  refine PW.keep (T' := [(1, _), (11, _), (13, _), (114, _)]) ⟨rfl, rfl, rfl, rfl, trivial⟩ ?_
                  refine PW.cond rfl (fun c114 => ?_) (fun c114 => ?_)
                  · have c114 := c114
                    exfalso; simp at c114 -- done
                  · have c114 := c114
                    refine PW.skip ?_
                    refine hK23 _ _ ?_
                    refine PW.keep (T' := [(1, _), (11, _), (13, _)]) ⟨rfl, rfl, rfl, trivial⟩ ?_
                    refine PW.ops ?_
                    refine OL.det trivial (Yields.pure rfl) ?_
                    refine OL.det trivial (Yields.add64 rfl rfl (by omega) (by omega)) ?_
                    refine OL.det trivial (Yields.pure rfl) ?_
                    refine OL.nil ?_
                    repeat rw [inBlk_n]
                    rw [thenK_n]
                    refine LoopEnd.mk (T'' := [(1, _), (11, _), (13, _)]) ⟨rfl, rfl, rfl, trivial⟩ ?_
                    exact ⟨ls.length - (k + 1), by omega, k + 1, ⟨by omega, rfl⟩, by simp, rfl⟩
                · try simp only [decide_eq_true_eq, decide_eq_false_iff_not, beq_iff_eq, bne_iff_ne, beq_eq_false_iff_ne, bne_eq_false_iff_eq, Bool.not_eq_true', Bool.not_eq_false', Bool.not_eq_true, ne_eq, Decidable.not_not] at c103
                  refine PW.exit ?_
                  refine hK21 _ _ ?_
                  refine PW.keep (T' := []) trivial ?_
                  refine PW.seqOps ?_
                  refine OL.call trivial rfl (awake_fc) ?_
                  rintro _ _ ⟨rfl, rfl⟩
                  refine OL.det trivial (Yields.pure rfl) ?_
                  refine OL.nil ?_
                  refine PW.keep (T' := [(4, _)]) ⟨rfl, trivial⟩ ?_
                  refine PW.ret ?_
                  change (Exit.ret = Exit.normal ∨ Exit.ret = Exit.ret) ∧ ∃ v, resV _ _ = some v ∧ _
                  exact ⟨.inr rfl, _, rfl, _, Sub.refl _, rfl⟩
            · try simp only [decide_eq_true_eq, decide_eq_false_iff_not, beq_iff_eq, bne_iff_ne, beq_eq_false_iff_ne, bne_eq_false_iff_eq, Bool.not_eq_true', Bool.not_eq_false', Bool.not_eq_true, ne_eq, Decidable.not_not] at g70
              refine OL.off rfl rfl ?_
              refine OL.off rfl rfl ?_
              refine OL.off rfl rfl ?_
              refine OL.off rfl rfl ?_
              refine OL.off rfl rfl ?_
              refine OL.off rfl rfl ?_
              refine OL.off rfl rfl ?_
              refine OL.off rfl rfl ?_
              refine OL.det rfl (Yields.pure rfl) ?_
              refine OL.det trivial (Yields.pure rfl) ?_
              refine OL.nil ?_
              refine PW.keep (T' := [(1, _), (80, _)]) ⟨rfl, rfl, trivial⟩ ?_
              refine PW.ite (b := false) rfl ?_
              rw [if_neg Bool.false_ne_true]
              refine PW.skip ?_
              refine hK6 _ _ ?_
              refine PW.keep (T' := [(1, _)]) ⟨rfl, trivial⟩ ?_
              refine PW.seqOps ?_
              refine OL.det trivial (Yields.pure rfl) ?_
              refine OL.call trivial rfl (join_fc hx.cons.cons (by omega) (by omega)) ?_
              rintro _ _ ⟨rfl, rfl⟩
              refine OL.call trivial rfl (split_fc hjt) ?_
              rintro _ _ ⟨A5, c5, s5, rfl, rfl, hr5⟩
              refine OL.det trivial (Yields.pure rfl) ?_
              refine OL.det trivial (Yields.pure rfl) ?_
              refine OL.det trivial (Yields.pure rfl) ?_
              refine OL.det trivial (Yields.pure rfl) ?_
              refine OL.det trivial (Yields.pure rfl) ?_
              refine OL.nil ?_
              refine PW.keep (T' := [(1, _), (11, _), (12, _)]) ⟨rfl, rfl, rfl, trivial⟩ ?_
              refine PW.seq fun K25 hK25 => ?_
              refine PW.seqOps ?_
              refine OL.det trivial (Yields.pure rfl) ?_
              refine OL.call trivial rfl (check_fc hx.cons.cons.cons (by omega) hsz) ?_
              rintro _ _ ⟨rfl, rfl⟩
              refine OL.det trivial (Yields.pure rfl) ?_
              refine OL.nil ?_
              refine PW.keep (T' := [(1, _), (11, _), (12, _), (89, _)]) ⟨rfl, rfl, rfl, rfl, trivial⟩ ?_
              refine PW.cond rfl (fun c89 => ?_) (fun c89 => ?_)
              · try simp only [decide_eq_true_eq, decide_eq_false_iff_not, beq_iff_eq, bne_iff_ne, beq_eq_false_iff_ne, bne_eq_false_iff_eq, Bool.not_eq_true', Bool.not_eq_false', Bool.not_eq_true, ne_eq, Decidable.not_not] at c89
                refine PW.seqOps ?_
                refine OL.call trivial rfl (awake_fc) ?_
                rintro _ _ ⟨rfl, rfl⟩
                refine OL.det trivial (Yields.pure rfl) ?_
                refine OL.nil ?_
                refine PW.keep (T' := [(4, _)]) ⟨rfl, trivial⟩ ?_
                refine PW.ret ?_
                change (Exit.ret = Exit.normal ∨ Exit.ret = Exit.ret) ∧ ∃ v, resV _ _ = some v ∧ _
                exact ⟨.inr rfl, _, rfl, _, Sub.refl _, rfl⟩
              · try simp only [decide_eq_true_eq, decide_eq_false_iff_not, beq_iff_eq, bne_iff_ne, beq_eq_false_iff_ne, bne_eq_false_iff_eq, Bool.not_eq_true', Bool.not_eq_false', Bool.not_eq_true, ne_eq, Decidable.not_not] at c89
                have hsp := sp_back (ls := ls) (by omega)
                rw [hsp] at hr5
                have hr5' : ∀ S2, Rd w0 (s5 :: S2) A5 (strs ls) := hr5
                rw [hsp]
                refine PW.skip ?_
                refine hK25 _ _ ?_
                refine PW.keep (T' := [(1, _), (11, _), (12, _)]) ⟨rfl, rfl, rfl, trivial⟩ ?_
                refine PW.seq fun K26 hK26 => ?_
                refine PW.seqOps ?_
                refine OL.det trivial (Yields.pure rfl) ?_
                refine OL.det trivial (Yields.to (v' := .bool false) (Yields.pure rfl) rfl) ?_
                refine OL.det trivial (Yields.pure rfl) ?_
                refine OL.det rfl (Yields.pure rfl) ?_
                refine OL.det rfl (Yields.pure rfl) ?_
                refine OL.det rfl (Yields.pure rfl) ?_
                refine OL.det rfl (Yields.pure rfl) ?_
                refine OL.det rfl (Yields.to (v' := .bool false) (Yields.pure rfl) (by simp)) ?_
                refine OL.det trivial (Yields.pure rfl) ?_
                refine OL.nil ?_
                refine PW.keep (T' := [(1, _), (11, _), (99, _)]) ⟨rfl, rfl, rfl, trivial⟩ ?_
                refine PW.ite (b := false) rfl ?_
                rw [if_neg Bool.false_ne_true]
                refine PW.skip ?_
                refine hK26 _ _ ?_
                refine PW.keep (T' := [(1, _), (11, _)]) ⟨rfl, rfl, trivial⟩ ?_
                refine PW.seq fun K27 hK27 => ?_
                refine PW.seqOps ?_
                refine OL.det trivial (Yields.pure rfl) ?_
                refine OL.nil ?_
                refine PW.keep (T' := [(1, _), (11, _), (13, _)]) ⟨rfl, rfl, rfl, trivial⟩ ?_
                refine PW.block ?_
                refine PW.keep (T' := [(1, _), (11, _), (13, _)]) ⟨rfl, rfl, rfl, trivial⟩ ?_
                refine PW.loopK (I := fun m T S' => ∃ (k : Nat), (k ≤ ls.length ∧ m = ls.length - k) ∧ T = ([(1, .slice A ls.length cap), (11, .slice A5 ls.length c5), (13, .int .i64 k)] : TT) ∧ S' = s5 :: s3 :: s1 :: S) (m := ls.length) ⟨0, ⟨by omega, by omega⟩, rfl, rfl⟩ ?_
                rintro m _ _ ⟨k, ⟨hk, hm⟩, rfl, rfl⟩
                refine PW.seq fun K28 hK28 => ?_
                refine PW.seqOps ?_
                refine OL.det trivial (Yields.pure rfl) ?_
                refine OL.det trivial (Yields.pure rfl) ?_
                refine OL.det trivial (Yields.pure rfl) ?_
                refine OL.det trivial (Yields.pure rfl) ?_
                refine OL.nil ?_
                refine PW.keep (T' := [(1, _), (11, _), (13, _), (103, _)]) ⟨rfl, rfl, rfl, rfl, trivial⟩ ?_
                refine PW.cond rfl (fun c103 => ?_) (fun c103 => ?_)
                · try simp only [decide_eq_true_eq, decide_eq_false_iff_not, beq_iff_eq, bne_iff_ne, beq_eq_false_iff_ne, bne_eq_false_iff_eq, Bool.not_eq_true', Bool.not_eq_false', Bool.not_eq_true, ne_eq, Decidable.not_not] at c103
                  have hkl : k < ls.length := by omega
                  obtain ⟨b0, rfl⟩ := hx.some (strs_ne (by omega))
                  obtain ⟨b1, rfl⟩ := (hr5' []).some (strs_ne (by omega))
                  refine PW.skip ?_
                  refine hK28 _ _ ?_
                  refine PW.keep (T' := [(1, _), (11, _), (13, _)]) ⟨rfl, rfl, rfl, trivial⟩ ?_
                  refine PW.seq fun K29 hK29 => ?_
                  refine PW.block ?_
                  refine PW.seq fun K30 hK30 => ?_
                  refine PW.quietK Try.mixed ?_
                  refine QK.det trivial (Yields.pure rfl) ?_
                  refine QK.det trivial (Yields.pure rfl) ?_
                  refine QK.det trivial (Yields.ixN1 rfl rfl rfl (by omega)) ?_
                  refine QK.det trivial (Yields.ld rfl (strs_at (hr5' _) hkl)) ?_
                  refine QK.det trivial (Yields.pure rfl) ?_
                  refine QK.det trivial (Yields.pure rfl) ?_
                  refine QK.det trivial (Yields.ixN1 rfl rfl rfl (by omega)) ?_
                  refine QK.det trivial (Yields.ld rfl (strs_at hx.cons.cons.cons hkl)) ?_
                  refine QK.nil ?_
                  change OL _ _ _ [_] _ _ _
                  refine OL.det trivial (Yields.pure rfl) ?_
                  refine OL.nil ?_
                  refine hK30 _ _ ?_
                  refine PW.keep (T' := [(1, _), (11, _), (13, _), (114, _)]) ⟨rfl, rfl, rfl, rfl, trivial⟩ ?_
                  refine PW.cond rfl (fun c114 => ?_) (fun c114 => ?_)
                  · have c114 := c114
                    exfalso; simp at c114 -- done
                  · have c114 := c114
                    refine PW.skip ?_
                    refine hK29 _ _ ?_
                    refine PW.keep (T' := [(1, _), (11, _), (13, _)]) ⟨rfl, rfl, rfl, trivial⟩ ?_
                    refine PW.ops ?_
                    refine OL.det trivial (Yields.pure rfl) ?_
                    refine OL.det trivial (Yields.add64 rfl rfl (by omega) (by omega)) ?_
                    refine OL.det trivial (Yields.pure rfl) ?_
                    refine OL.nil ?_
                    repeat rw [inBlk_n]
                    rw [thenK_n]
                    refine LoopEnd.mk (T'' := [(1, _), (11, _), (13, _)]) ⟨rfl, rfl, rfl, trivial⟩ ?_
                    exact ⟨ls.length - (k + 1), by omega, k + 1, ⟨by omega, rfl⟩, by simp, rfl⟩
                · try simp only [decide_eq_true_eq, decide_eq_false_iff_not, beq_iff_eq, bne_iff_ne, beq_eq_false_iff_ne, bne_eq_false_iff_eq, Bool.not_eq_true', Bool.not_eq_false', Bool.not_eq_true, ne_eq, Decidable.not_not] at c103
                  refine PW.exit ?_
                  refine hK27 _ _ ?_
                  refine PW.keep (T' := []) trivial ?_
                  refine PW.seqOps ?_
                  refine OL.call trivial rfl (awake_fc) ?_
                  rintro _ _ ⟨rfl, rfl⟩
                  refine OL.det trivial (Yields.pure rfl) ?_
                  refine OL.nil ?_
                  refine PW.keep (T' := [(4, _)]) ⟨rfl, trivial⟩ ?_
                  refine PW.ret ?_
                  change (Exit.ret = Exit.normal ∨ Exit.ret = Exit.ret) ∧ ∃ v, resV _ _ = some v ∧ _
                  exact ⟨.inr rfl, _, rfl, _, Sub.refl _, rfl⟩
      · try simp only [decide_eq_true_eq, decide_eq_false_iff_not, beq_iff_eq, bne_iff_ne, beq_eq_false_iff_ne, bne_eq_false_iff_eq, Bool.not_eq_true', Bool.not_eq_false', Bool.not_eq_true, ne_eq, Decidable.not_not] at g30
        refine OL.off rfl rfl ?_
        refine OL.off rfl rfl ?_
        refine OL.off rfl rfl ?_
        refine OL.off rfl rfl ?_
        refine OL.det trivial (Yields.pure rfl) ?_
        refine OL.nil ?_
        refine PW.keep (T' := [(0, _), (1, _), (5, _), (6, _), (35, _)]) ⟨rfl, rfl, rfl, rfl, rfl, trivial⟩ ?_
        refine PW.ite (b := false) rfl ?_
        rw [if_neg Bool.false_ne_true]
        refine PW.skip ?_
        refine hK2 _ _ ?_
        refine PW.keep (T' := [(0, _), (1, _), (5, _), (6, _)]) ⟨rfl, rfl, rfl, rfl, trivial⟩ ?_
        refine PW.seqOps ?_
        refine OL.det trivial (Yields.pure rfl) ?_
        refine OL.call trivial rfl (told_fc htb) ?_
        rintro _ _ ⟨A3, c3, s3, rfl, rfl, hr3⟩
        refine OL.det trivial (Yields.pure rfl) ?_
        refine OL.det trivial (Yields.pure rfl) ?_
        refine OL.det trivial (Yields.pure rfl) ?_
        refine OL.det trivial (Yields.pure rfl) ?_
        refine OL.det trivial (Yields.pure rfl) ?_
        refine OL.nil ?_
        refine PW.keep (T' := [(0, _), (1, _), (5, _), (6, _), (7, _), (8, _)]) ⟨rfl, rfl, rfl, rfl, rfl, rfl, trivial⟩ ?_
        refine PW.seqOps ?_
        refine OL.det trivial (Yields.pure rfl) ?_
        refine OL.nil ?_
        refine PW.keep (T' := [(0, _), (1, _), (5, _), (6, _), (7, _), (8, _), (9, _)]) ⟨rfl, rfl, rfl, rfl, rfl, rfl, rfl, trivial⟩ ?_
        refine PW.seq fun K31 hK31 => ?_
        refine PW.seqOps ?_
        refine OL.det trivial (Yields.pure rfl) ?_
        refine OL.nil ?_
        refine PW.keep (T' := [(0, _), (1, _), (5, _), (6, _), (7, _), (8, _), (9, _), (10, _)]) ⟨rfl, rfl, rfl, rfl, rfl, rfl, rfl, rfl, trivial⟩ ?_
        refine PW.block ?_
        refine PW.keep (T' := [(0, _), (1, _), (5, _), (6, _), (7, _), (8, _), (9, _), (10, _)]) ⟨rfl, rfl, rfl, rfl, rfl, rfl, rfl, rfl, trivial⟩ ?_
        refine PW.loopK (I := fun m T S' => ∃ (k : Nat), (k ≤ tb.size ∧ m = tb.size - k) ∧ T = ([(0, .string tb), (1, .slice A ls.length cap), (5, .slice A1 (splP tb).1.length c1), (6, .int .i64 (splP tb).2), (7, .slice A3 (toldP tb).1.length c3), (8, .int .i64 (toldP tb).2), (9, .int .i64 (((tb.data.toList.take k).count 10 : Nat) : Int)), (10, .int .i64 k)] : TT) ∧ S' = s3 :: s1 :: S) (m := tb.size) ⟨0, ⟨by omega, by omega⟩, by simp, rfl⟩ ?_
        rintro m _ _ ⟨k, ⟨hk, hm⟩, rfl, rfl⟩
        refine PW.seq fun K32 hK32 => ?_
        refine PW.seqOps ?_
        refine OL.det trivial (Yields.pure rfl) ?_
        refine OL.det trivial (Yields.pure rfl) ?_
        refine OL.det trivial (Yields.pure rfl) ?_
        refine OL.det trivial (Yields.pure rfl) ?_
        refine OL.nil ?_
        refine PW.keep (T' := [(0, _), (1, _), (5, _), (6, _), (7, _), (8, _), (9, _), (10, _), (44, _)]) ⟨rfl, rfl, rfl, rfl, rfl, rfl, rfl, rfl, rfl, trivial⟩ ?_
        refine PW.cond rfl (fun c44 => ?_) (fun c44 => ?_)
        · try simp only [decide_eq_true_eq, decide_eq_false_iff_not, beq_iff_eq, bne_iff_ne, beq_eq_false_iff_ne, bne_eq_false_iff_eq, Bool.not_eq_true', Bool.not_eq_false', Bool.not_eq_true, ne_eq, Decidable.not_not] at c44
          have hkl : k < tb.size := by omega
          obtain ⟨b, hbb, hb2, htk, _⟩ := ba_get hkl
          have hcl : (tb.data.toList.take k).count 10 ≤ tb.size := Nat.le_trans List.count_le_length (by rw [List.length_take]; omega)
          refine PW.skip ?_
          refine hK32 _ _ ?_
          refine PW.keep (T' := [(0, _), (1, _), (5, _), (6, _), (7, _), (8, _), (9, _), (10, _)]) ⟨rfl, rfl, rfl, rfl, rfl, rfl, rfl, rfl, trivial⟩ ?_
          refine PW.seq fun K33 hK33 => ?_
          refine PW.block ?_
          refine PW.seqOps ?_
          refine OL.det trivial (Yields.pure rfl) ?_
          refine OL.det trivial (Yields.pure rfl) ?_
          refine OL.det trivial (Yields.ixStr rfl rfl hbb) ?_
          refine OL.det trivial (Yields.pure rfl) ?_
          refine OL.nil ?_
          refine PW.keep (T' := [(0, _), (1, _), (5, _), (6, _), (7, _), (8, _), (9, _), (10, _), (50, _)]) ⟨rfl, rfl, rfl, rfl, rfl, rfl, rfl, rfl, rfl, trivial⟩ ?_
          refine PW.cond rfl (fun c50 => ?_) (fun c50 => ?_)
          · try simp only [decide_eq_true_eq, decide_eq_false_iff_not, beq_iff_eq, bne_iff_ne, beq_eq_false_iff_ne, bne_eq_false_iff_eq, Bool.not_eq_true', Bool.not_eq_false', Bool.not_eq_true, ne_eq, Decidable.not_not] at c50
            refine PW.ops ?_
            refine OL.det trivial (Yields.pure rfl) ?_
            refine OL.det trivial (Yields.add64 rfl rfl (by omega) (by omega)) ?_
            refine OL.det trivial (Yields.pure rfl) ?_
            refine OL.nil ?_
            refine hK33 _ _ ?_
            refine PW.keep (T' := [(0, _), (1, _), (5, _), (6, _), (7, _), (8, _), (9, _), (10, _)]) ⟨rfl, rfl, rfl, rfl, rfl, rfl, rfl, rfl, trivial⟩ ?_
            refine PW.ops ?_
            refine OL.det trivial (Yields.pure rfl) ?_
            refine OL.det trivial (Yields.add64 rfl rfl (by omega) (by omega)) ?_
            refine OL.det trivial (Yields.pure rfl) ?_
            refine OL.nil ?_
            repeat rw [inBlk_n]
            rw [thenK_n]
            refine LoopEnd.mk (T'' := [(0, _), (1, _), (5, _), (6, _), (7, _), (8, _), (9, _), (10, _)]) ⟨rfl, rfl, rfl, rfl, rfl, rfl, rfl, rfl, trivial⟩ ?_
            have hc : (tb.data.toList.take (k + 1)).count 10 = (tb.data.toList.take k).count 10 + 1 := by
              rw [htk, List.count_append, show b = 10 from UInt8.toNat_inj.1 (by show b.toNat = 10; omega)]; simp
            exact ⟨tb.size - (k + 1), by omega, k + 1, ⟨by omega, rfl⟩, by rw [hc]; simp, rfl⟩
          · try simp only [decide_eq_true_eq, decide_eq_false_iff_not, beq_iff_eq, bne_iff_ne, beq_eq_false_iff_ne, bne_eq_false_iff_eq, Bool.not_eq_true', Bool.not_eq_false', Bool.not_eq_true, ne_eq, Decidable.not_not] at c50
            refine PW.skip ?_
            refine hK33 _ _ ?_
            refine PW.keep (T' := [(0, _), (1, _), (5, _), (6, _), (7, _), (8, _), (9, _), (10, _)]) ⟨rfl, rfl, rfl, rfl, rfl, rfl, rfl, rfl, trivial⟩ ?_
            refine PW.ops ?_
            refine OL.det trivial (Yields.pure rfl) ?_
            refine OL.det trivial (Yields.add64 rfl rfl (by omega) (by omega)) ?_
            refine OL.det trivial (Yields.pure rfl) ?_
            refine OL.nil ?_
            repeat rw [inBlk_n]
            rw [thenK_n]
            refine LoopEnd.mk (T'' := [(0, _), (1, _), (5, _), (6, _), (7, _), (8, _), (9, _), (10, _)]) ⟨rfl, rfl, rfl, rfl, rfl, rfl, rfl, rfl, trivial⟩ ?_
            have hc : (tb.data.toList.take (k + 1)).count 10 = (tb.data.toList.take k).count 10 := by
              rw [htk, List.count_append, List.count_singleton, if_neg (by intro e; have := eq_of_beq e; subst this; exact c50 rfl), Nat.add_zero]
            exact ⟨tb.size - (k + 1), by omega, k + 1, ⟨by omega, rfl⟩, by rw [hc]; simp, rfl⟩
        · try simp only [decide_eq_true_eq, decide_eq_false_iff_not, beq_iff_eq, bne_iff_ne, beq_eq_false_iff_ne, bne_eq_false_iff_eq, Bool.not_eq_true', Bool.not_eq_false', Bool.not_eq_true, ne_eq, Decidable.not_not] at c44
          refine PW.exit ?_
          refine hK31 _ _ ?_
          refine PW.keep (T' := [(0, _), (1, _), (5, _), (6, _), (7, _), (8, _), (9, _)]) ⟨rfl, rfl, rfl, rfl, rfl, rfl, rfl, trivial⟩ ?_
          refine PW.seq fun K34 hK34 => ?_
          refine PW.seqOps ?_
          refine OL.det trivial (Yields.pure rfl) ?_
          refine OL.det trivial (Yields.pure rfl) ?_
          refine OL.bool trivial (Yields.pure rfl) (fun g55 => ?_) (fun g55 => ?_)
          · try simp only [decide_eq_true_eq, decide_eq_false_iff_not, beq_iff_eq, bne_iff_ne, beq_eq_false_iff_ne, bne_eq_false_iff_eq, Bool.not_eq_true', Bool.not_eq_false', Bool.not_eq_true, ne_eq, Decidable.not_not] at g55
            refine OL.det rfl (Yields.pure rfl) ?_
            refine OL.det rfl (Yields.pure rfl) ?_
            refine OL.det rfl (Yields.pure rfl) ?_
            have hkk : tb.data.toList.take k = tb.data.toList := List.take_of_length_le (by omega)
            refine OL.det rfl (Yields.to (v' := .bool false) (Yields.pure rfl) (by rw [(told_ok g55).1, (told_ok g55).2.2, hkk]; simp)) ?_
            refine OL.det rfl (Yields.pure rfl) ?_
            refine OL.det rfl (Yields.pure rfl) ?_
            refine OL.call rfl rfl (join_fc (hr3 (s1 :: S)) (by omega) (by rw [(told_ok g55).1, (told_ok g55).2.1]; omega)) ?_
            rintro _ _ ⟨rfl, rfl⟩
            refine OL.det rfl (Yields.pure rfl) ?_
            refine OL.det rfl (Yields.to (v' := .bool false) (Yields.pure rfl) (by rw [(told_ok g55).1, (told_ok g55).2.1, ba_eta]; simp)) ?_
            refine OL.det rfl (Yields.pure rfl) ?_
            refine OL.det trivial (Yields.pure rfl) ?_
            refine OL.det trivial (Yields.pure rfl) ?_
            refine OL.det rfl (Yields.pure rfl) ?_
            refine OL.det rfl (Yields.pure rfl) ?_
            refine OL.bool rfl (Yields.pure rfl) (fun g70 => ?_) (fun g70 => ?_)
            · try simp only [decide_eq_true_eq, decide_eq_false_iff_not, beq_iff_eq, bne_iff_ne, beq_eq_false_iff_ne, bne_eq_false_iff_eq, Bool.not_eq_true', Bool.not_eq_false', Bool.not_eq_true, ne_eq, Decidable.not_not] at g70
              refine OL.det rfl (Yields.pure rfl) ?_
              refine OL.det rfl (Yields.to (v' := .bool false) (Yields.pure rfl) (by rw [(sp_ok g70).2.2.2]; rfl)) ?_
              refine OL.det rfl (Yields.pure rfl) ?_
              refine OL.det rfl (Yields.pure rfl) ?_
              refine OL.det rfl (Yields.pure rfl) ?_
              refine OL.det rfl (Yields.pure rfl) ?_
              have hkk : tb.data.toList.take k = tb.data.toList := List.take_of_length_le (by omega)
              refine OL.det rfl (Yields.to (v' := .bool false) (Yields.pure rfl) (by rw [(sp_ok g70).1, (sp_ok g70).2.2.1, hkk]; simp)) ?_
              refine OL.det rfl (Yields.pure rfl) ?_
              refine OL.det rfl (Yields.pure rfl) ?_
              refine OL.det trivial (Yields.pure rfl) ?_
              refine OL.nil ?_
              refine PW.keep (T' := [(1, _), (80, _)]) ⟨rfl, rfl, trivial⟩ ?_
              refine PW.ite (b := false) rfl ?_
              rw [if_neg Bool.false_ne_true]
              refine PW.skip ?_
              refine hK34 _ _ ?_
              refine PW.keep (T' := [(1, _)]) ⟨rfl, trivial⟩ ?_
              refine PW.seqOps ?_
              refine OL.det trivial (Yields.pure rfl) ?_
              refine OL.call trivial rfl (join_fc hx.cons.cons (by omega) (by omega)) ?_
              rintro _ _ ⟨rfl, rfl⟩
              refine OL.call trivial rfl (split_fc hjt) ?_
              rintro _ _ ⟨A5, c5, s5, rfl, rfl, hr5⟩
              refine OL.det trivial (Yields.pure rfl) ?_
              refine OL.det trivial (Yields.pure rfl) ?_
              refine OL.det trivial (Yields.pure rfl) ?_
              refine OL.det trivial (Yields.pure rfl) ?_
              refine OL.det trivial (Yields.pure rfl) ?_
              refine OL.nil ?_
              refine PW.keep (T' := [(1, _), (11, _), (12, _)]) ⟨rfl, rfl, rfl, trivial⟩ ?_
              refine PW.seq fun K35 hK35 => ?_
              refine PW.seqOps ?_
              refine OL.det trivial (Yields.pure rfl) ?_
              refine OL.call trivial rfl (check_fc hx.cons.cons.cons (by omega) hsz) ?_
              rintro _ _ ⟨rfl, rfl⟩
              refine OL.det trivial (Yields.pure rfl) ?_
              refine OL.nil ?_
              refine PW.keep (T' := [(1, _), (11, _), (12, _), (89, _)]) ⟨rfl, rfl, rfl, rfl, trivial⟩ ?_
              refine PW.cond rfl (fun c89 => ?_) (fun c89 => ?_)
              · try simp only [decide_eq_true_eq, decide_eq_false_iff_not, beq_iff_eq, bne_iff_ne, beq_eq_false_iff_ne, bne_eq_false_iff_eq, Bool.not_eq_true', Bool.not_eq_false', Bool.not_eq_true, ne_eq, Decidable.not_not] at c89
                refine PW.seqOps ?_
                refine OL.call trivial rfl (awake_fc) ?_
                rintro _ _ ⟨rfl, rfl⟩
                refine OL.det trivial (Yields.pure rfl) ?_
                refine OL.nil ?_
                refine PW.keep (T' := [(4, _)]) ⟨rfl, trivial⟩ ?_
                refine PW.ret ?_
                change (Exit.ret = Exit.normal ∨ Exit.ret = Exit.ret) ∧ ∃ v, resV _ _ = some v ∧ _
                exact ⟨.inr rfl, _, rfl, _, Sub.refl _, rfl⟩
              · try simp only [decide_eq_true_eq, decide_eq_false_iff_not, beq_iff_eq, bne_iff_ne, beq_eq_false_iff_ne, bne_eq_false_iff_eq, Bool.not_eq_true', Bool.not_eq_false', Bool.not_eq_true, ne_eq, Decidable.not_not] at c89
                have hsp := sp_back (ls := ls) (by omega)
                rw [hsp] at hr5
                have hr5' : ∀ S2, Rd w0 (s5 :: S2) A5 (strs ls) := hr5
                rw [hsp]
                refine PW.skip ?_
                refine hK35 _ _ ?_
                refine PW.keep (T' := [(1, _), (11, _), (12, _)]) ⟨rfl, rfl, rfl, trivial⟩ ?_
                refine PW.seq fun K36 hK36 => ?_
                refine PW.seqOps ?_
                refine OL.det trivial (Yields.pure rfl) ?_
                refine OL.det trivial (Yields.to (v' := .bool false) (Yields.pure rfl) rfl) ?_
                refine OL.det trivial (Yields.pure rfl) ?_
                refine OL.det rfl (Yields.pure rfl) ?_
                refine OL.det rfl (Yields.pure rfl) ?_
                refine OL.det rfl (Yields.pure rfl) ?_
                refine OL.det rfl (Yields.pure rfl) ?_
                refine OL.det rfl (Yields.to (v' := .bool false) (Yields.pure rfl) (by simp)) ?_
                refine OL.det trivial (Yields.pure rfl) ?_
                refine OL.nil ?_
                refine PW.keep (T' := [(1, _), (11, _), (99, _)]) ⟨rfl, rfl, rfl, trivial⟩ ?_
                refine PW.ite (b := false) rfl ?_
                rw [if_neg Bool.false_ne_true]
                refine PW.skip ?_
                refine hK36 _ _ ?_
                refine PW.keep (T' := [(1, _), (11, _)]) ⟨rfl, rfl, trivial⟩ ?_
                refine PW.seq fun K37 hK37 => ?_
                refine PW.seqOps ?_
                refine OL.det trivial (Yields.pure rfl) ?_
                refine OL.nil ?_
                refine PW.keep (T' := [(1, _), (11, _), (13, _)]) ⟨rfl, rfl, rfl, trivial⟩ ?_
                refine PW.block ?_
                refine PW.keep (T' := [(1, _), (11, _), (13, _)]) ⟨rfl, rfl, rfl, trivial⟩ ?_
                refine PW.loopK (I := fun m T S' => ∃ (k : Nat), (k ≤ ls.length ∧ m = ls.length - k) ∧ T = ([(1, .slice A ls.length cap), (11, .slice A5 ls.length c5), (13, .int .i64 k)] : TT) ∧ S' = s5 :: s3 :: s1 :: S) (m := ls.length) ⟨0, ⟨by omega, by omega⟩, rfl, rfl⟩ ?_
                rintro m _ _ ⟨k, ⟨hk, hm⟩, rfl, rfl⟩
                refine PW.seq fun K38 hK38 => ?_
                refine PW.seqOps ?_
                refine OL.det trivial (Yields.pure rfl) ?_
                refine OL.det trivial (Yields.pure rfl) ?_
                refine OL.det trivial (Yields.pure rfl) ?_
                refine OL.det trivial (Yields.pure rfl) ?_
                refine OL.nil ?_
                refine PW.keep (T' := [(1, _), (11, _), (13, _), (103, _)]) ⟨rfl, rfl, rfl, rfl, trivial⟩ ?_
                refine PW.cond rfl (fun c103 => ?_) (fun c103 => ?_)
                · try simp only [decide_eq_true_eq, decide_eq_false_iff_not, beq_iff_eq, bne_iff_ne, beq_eq_false_iff_ne, bne_eq_false_iff_eq, Bool.not_eq_true', Bool.not_eq_false', Bool.not_eq_true, ne_eq, Decidable.not_not] at c103
                  have hkl : k < ls.length := by omega
                  obtain ⟨b0, rfl⟩ := hx.some (strs_ne (by omega))
                  obtain ⟨b1, rfl⟩ := (hr5' []).some (strs_ne (by omega))
                  refine PW.skip ?_
                  refine hK38 _ _ ?_
                  refine PW.keep (T' := [(1, _), (11, _), (13, _)]) ⟨rfl, rfl, rfl, trivial⟩ ?_
                  refine PW.seq fun K39 hK39 => ?_
                  refine PW.block ?_
                  refine PW.seq fun K40 hK40 => ?_
                  refine PW.quietK Try.mixed ?_
                  refine QK.det trivial (Yields.pure rfl) ?_
                  refine QK.det trivial (Yields.pure rfl) ?_
                  refine QK.det trivial (Yields.ixN1 rfl rfl rfl (by omega)) ?_
                  refine QK.det trivial (Yields.ld rfl (strs_at (hr5' _) hkl)) ?_
                  refine QK.det trivial (Yields.pure rfl) ?_
                  refine QK.det trivial (Yields.pure rfl) ?_
                  refine QK.det trivial (Yields.ixN1 rfl rfl rfl (by omega)) ?_
                  refine QK.det trivial (Yields.ld rfl (strs_at hx.cons.cons.cons hkl)) ?_
                  refine QK.nil ?_
                  change OL _ _ _ [_] _ _ _
                  refine OL.det trivial (Yields.pure rfl) ?_
                  refine OL.nil ?_
                  refine hK40 _ _ ?_
                  refine PW.keep (T' := [(1, _), (11, _), (13, _), (114, _)]) ⟨rfl, rfl, rfl, rfl, trivial⟩ ?_
                  refine PW.cond rfl (fun c114 => ?_) (fun c114 => ?_)
                  · have c114 := c114
                    exfalso; simp at c114 -- done
                  · have c114 := c114
                    refine PW.skip ?_
                    refine hK39 _ _ ?_
                    refine PW.keep (T' := [(1, _), (11, _), (13, _)]) ⟨rfl, rfl, rfl, trivial⟩ ?_
                    refine PW.ops ?_
                    refine OL.det trivial (Yields.pure rfl) ?_
                    refine OL.det trivial (Yields.add64 rfl rfl (by omega) (by omega)) ?_
                    refine OL.det trivial (Yields.pure rfl) ?_
                    refine OL.nil ?_
                    repeat rw [inBlk_n]
                    rw [thenK_n]
                    refine LoopEnd.mk (T'' := [(1, _), (11, _), (13, _)]) ⟨rfl, rfl, rfl, trivial⟩ ?_
                    exact ⟨ls.length - (k + 1), by omega, k + 1, ⟨by omega, rfl⟩, by simp, rfl⟩
                · try simp only [decide_eq_true_eq, decide_eq_false_iff_not, beq_iff_eq, bne_iff_ne, beq_eq_false_iff_ne, bne_eq_false_iff_eq, Bool.not_eq_true', Bool.not_eq_false', Bool.not_eq_true, ne_eq, Decidable.not_not] at c103
                  refine PW.exit ?_
                  refine hK37 _ _ ?_
                  refine PW.keep (T' := []) trivial ?_
                  refine PW.seqOps ?_
                  refine OL.call trivial rfl (awake_fc) ?_
                  rintro _ _ ⟨rfl, rfl⟩
                  refine OL.det trivial (Yields.pure rfl) ?_
                  refine OL.nil ?_
                  refine PW.keep (T' := [(4, _)]) ⟨rfl, trivial⟩ ?_
                  refine PW.ret ?_
                  change (Exit.ret = Exit.normal ∨ Exit.ret = Exit.ret) ∧ ∃ v, resV _ _ = some v ∧ _
                  exact ⟨.inr rfl, _, rfl, _, Sub.refl _, rfl⟩
            · try simp only [decide_eq_true_eq, decide_eq_false_iff_not, beq_iff_eq, bne_iff_ne, beq_eq_false_iff_ne, bne_eq_false_iff_eq, Bool.not_eq_true', Bool.not_eq_false', Bool.not_eq_true, ne_eq, Decidable.not_not] at g70
              refine OL.off rfl rfl ?_
              refine OL.off rfl rfl ?_
              refine OL.off rfl rfl ?_
              refine OL.off rfl rfl ?_
              refine OL.off rfl rfl ?_
              refine OL.off rfl rfl ?_
              refine OL.off rfl rfl ?_
              refine OL.off rfl rfl ?_
              refine OL.det rfl (Yields.pure rfl) ?_
              refine OL.det trivial (Yields.pure rfl) ?_
              refine OL.nil ?_
              refine PW.keep (T' := [(1, _), (80, _)]) ⟨rfl, rfl, trivial⟩ ?_
              refine PW.ite (b := false) rfl ?_
              rw [if_neg Bool.false_ne_true]
              refine PW.skip ?_
              refine hK34 _ _ ?_
              refine PW.keep (T' := [(1, _)]) ⟨rfl, trivial⟩ ?_
              refine PW.seqOps ?_
              refine OL.det trivial (Yields.pure rfl) ?_
              refine OL.call trivial rfl (join_fc hx.cons.cons (by omega) (by omega)) ?_
              rintro _ _ ⟨rfl, rfl⟩
              refine OL.call trivial rfl (split_fc hjt) ?_
              rintro _ _ ⟨A5, c5, s5, rfl, rfl, hr5⟩
              refine OL.det trivial (Yields.pure rfl) ?_
              refine OL.det trivial (Yields.pure rfl) ?_
              refine OL.det trivial (Yields.pure rfl) ?_
              refine OL.det trivial (Yields.pure rfl) ?_
              refine OL.det trivial (Yields.pure rfl) ?_
              refine OL.nil ?_
              refine PW.keep (T' := [(1, _), (11, _), (12, _)]) ⟨rfl, rfl, rfl, trivial⟩ ?_
              refine PW.seq fun K41 hK41 => ?_
              refine PW.seqOps ?_
              refine OL.det trivial (Yields.pure rfl) ?_
              refine OL.call trivial rfl (check_fc hx.cons.cons.cons (by omega) hsz) ?_
              rintro _ _ ⟨rfl, rfl⟩
              refine OL.det trivial (Yields.pure rfl) ?_
              refine OL.nil ?_
              refine PW.keep (T' := [(1, _), (11, _), (12, _), (89, _)]) ⟨rfl, rfl, rfl, rfl, trivial⟩ ?_
              refine PW.cond rfl (fun c89 => ?_) (fun c89 => ?_)
              · try simp only [decide_eq_true_eq, decide_eq_false_iff_not, beq_iff_eq, bne_iff_ne, beq_eq_false_iff_ne, bne_eq_false_iff_eq, Bool.not_eq_true', Bool.not_eq_false', Bool.not_eq_true, ne_eq, Decidable.not_not] at c89
                refine PW.seqOps ?_
                refine OL.call trivial rfl (awake_fc) ?_
                rintro _ _ ⟨rfl, rfl⟩
                refine OL.det trivial (Yields.pure rfl) ?_
                refine OL.nil ?_
                refine PW.keep (T' := [(4, _)]) ⟨rfl, trivial⟩ ?_
                refine PW.ret ?_
                change (Exit.ret = Exit.normal ∨ Exit.ret = Exit.ret) ∧ ∃ v, resV _ _ = some v ∧ _
                exact ⟨.inr rfl, _, rfl, _, Sub.refl _, rfl⟩
              · try simp only [decide_eq_true_eq, decide_eq_false_iff_not, beq_iff_eq, bne_iff_ne, beq_eq_false_iff_ne, bne_eq_false_iff_eq, Bool.not_eq_true', Bool.not_eq_false', Bool.not_eq_true, ne_eq, Decidable.not_not] at c89
                have hsp := sp_back (ls := ls) (by omega)
                rw [hsp] at hr5
                have hr5' : ∀ S2, Rd w0 (s5 :: S2) A5 (strs ls) := hr5
                rw [hsp]
                refine PW.skip ?_
                refine hK41 _ _ ?_
                refine PW.keep (T' := [(1, _), (11, _), (12, _)]) ⟨rfl, rfl, rfl, trivial⟩ ?_
                refine PW.seq fun K42 hK42 => ?_
                refine PW.seqOps ?_
                refine OL.det trivial (Yields.pure rfl) ?_
                refine OL.det trivial (Yields.to (v' := .bool false) (Yields.pure rfl) rfl) ?_
                refine OL.det trivial (Yields.pure rfl) ?_
                refine OL.det rfl (Yields.pure rfl) ?_
                refine OL.det rfl (Yields.pure rfl) ?_
                refine OL.det rfl (Yields.pure rfl) ?_
                refine OL.det rfl (Yields.pure rfl) ?_
                refine OL.det rfl (Yields.to (v' := .bool false) (Yields.pure rfl) (by simp)) ?_
                refine OL.det trivial (Yields.pure rfl) ?_
                refine OL.nil ?_
                refine PW.keep (T' := [(1, _), (11, _), (99, _)]) ⟨rfl, rfl, rfl, trivial⟩ ?_
                refine PW.ite (b := false) rfl ?_
                rw [if_neg Bool.false_ne_true]
                refine PW.skip ?_
                refine hK42 _ _ ?_
                refine PW.keep (T' := [(1, _), (11, _)]) ⟨rfl, rfl, trivial⟩ ?_
                refine PW.seq fun K43 hK43 => ?_
                refine PW.seqOps ?_
                refine OL.det trivial (Yields.pure rfl) ?_
                refine OL.nil ?_
                refine PW.keep (T' := [(1, _), (11, _), (13, _)]) ⟨rfl, rfl, rfl, trivial⟩ ?_
                refine PW.block ?_
                refine PW.keep (T' := [(1, _), (11, _), (13, _)]) ⟨rfl, rfl, rfl, trivial⟩ ?_
                refine PW.loopK (I := fun m T S' => ∃ (k : Nat), (k ≤ ls.length ∧ m = ls.length - k) ∧ T = ([(1, .slice A ls.length cap), (11, .slice A5 ls.length c5), (13, .int .i64 k)] : TT) ∧ S' = s5 :: s3 :: s1 :: S) (m := ls.length) ⟨0, ⟨by omega, by omega⟩, rfl, rfl⟩ ?_
                rintro m _ _ ⟨k, ⟨hk, hm⟩, rfl, rfl⟩
                refine PW.seq fun K44 hK44 => ?_
                refine PW.seqOps ?_
                refine OL.det trivial (Yields.pure rfl) ?_
                refine OL.det trivial (Yields.pure rfl) ?_
                refine OL.det trivial (Yields.pure rfl) ?_
                refine OL.det trivial (Yields.pure rfl) ?_
                refine OL.nil ?_
                refine PW.keep (T' := [(1, _), (11, _), (13, _), (103, _)]) ⟨rfl, rfl, rfl, rfl, trivial⟩ ?_
                refine PW.cond rfl (fun c103 => ?_) (fun c103 => ?_)
                · try simp only [decide_eq_true_eq, decide_eq_false_iff_not, beq_iff_eq, bne_iff_ne, beq_eq_false_iff_ne, bne_eq_false_iff_eq, Bool.not_eq_true', Bool.not_eq_false', Bool.not_eq_true, ne_eq, Decidable.not_not] at c103
                  have hkl : k < ls.length := by omega
                  obtain ⟨b0, rfl⟩ := hx.some (strs_ne (by omega))
                  obtain ⟨b1, rfl⟩ := (hr5' []).some (strs_ne (by omega))
                  refine PW.skip ?_
                  refine hK44 _ _ ?_
                  refine PW.keep (T' := [(1, _), (11, _), (13, _)]) ⟨rfl, rfl, rfl, trivial⟩ ?_
                  refine PW.seq fun K45 hK45 => ?_
                  refine PW.block ?_
                  refine PW.seq fun K46 hK46 => ?_
                  refine PW.quietK Try.mixed ?_
                  refine QK.det trivial (Yields.pure rfl) ?_
                  refine QK.det trivial (Yields.pure rfl) ?_
                  refine QK.det trivial (Yields.ixN1 rfl rfl rfl (by omega)) ?_
                  refine QK.det trivial (Yields.ld rfl (strs_at (hr5' _) hkl)) ?_
                  refine QK.det trivial (Yields.pure rfl) ?_
                  refine QK.det trivial (Yields.pure rfl) ?_
                  refine QK.det trivial (Yields.ixN1 rfl rfl rfl (by omega)) ?_
                  refine QK.det trivial (Yields.ld rfl (strs_at hx.cons.cons.cons hkl)) ?_
                  refine QK.nil ?_
                  change OL _ _ _ [_] _ _ _
                  refine OL.det trivial (Yields.pure rfl) ?_
                  refine OL.nil ?_
                  refine hK46 _ _ ?_
                  refine PW.keep (T' := [(1, _), (11, _), (13, _), (114, _)]) ⟨rfl, rfl, rfl, rfl, trivial⟩ ?_
                  refine PW.cond rfl (fun c114 => ?_) (fun c114 => ?_)
                  · have c114 := c114
                    exfalso; simp at c114 -- done
                  · have c114 := c114
                    refine PW.skip ?_
                    refine hK45 _ _ ?_
                    refine PW.keep (T' := [(1, _), (11, _), (13, _)]) ⟨rfl, rfl, rfl, trivial⟩ ?_
                    refine PW.ops ?_
                    refine OL.det trivial (Yields.pure rfl) ?_
                    refine OL.det trivial (Yields.add64 rfl rfl (by omega) (by omega)) ?_
                    refine OL.det trivial (Yields.pure rfl) ?_
                    refine OL.nil ?_
                    repeat rw [inBlk_n]
                    rw [thenK_n]
                    refine LoopEnd.mk (T'' := [(1, _), (11, _), (13, _)]) ⟨rfl, rfl, rfl, trivial⟩ ?_
                    exact ⟨ls.length - (k + 1), by omega, k + 1, ⟨by omega, rfl⟩, by simp, rfl⟩
                · try simp only [decide_eq_true_eq, decide_eq_false_iff_not, beq_iff_eq, bne_iff_ne, beq_eq_false_iff_ne, bne_eq_false_iff_eq, Bool.not_eq_true', Bool.not_eq_false', Bool.not_eq_true, ne_eq, Decidable.not_not] at c103
                  refine PW.exit ?_
                  refine hK43 _ _ ?_
                  refine PW.keep (T' := []) trivial ?_
                  refine PW.seqOps ?_
                  refine OL.call trivial rfl (awake_fc) ?_
                  rintro _ _ ⟨rfl, rfl⟩
                  refine OL.det trivial (Yields.pure rfl) ?_
                  refine OL.nil ?_
                  refine PW.keep (T' := [(4, _)]) ⟨rfl, trivial⟩ ?_
                  refine PW.ret ?_
                  change (Exit.ret = Exit.normal ∨ Exit.ret = Exit.ret) ∧ ∃ v, resV _ _ = some v ∧ _
                  exact ⟨.inr rfl, _, rfl, _, Sub.refl _, rfl⟩
          · try simp only [decide_eq_true_eq, decide_eq_false_iff_not, beq_iff_eq, bne_iff_ne, beq_eq_false_iff_ne, bne_eq_false_iff_eq, Bool.not_eq_true', Bool.not_eq_false', Bool.not_eq_true, ne_eq, Decidable.not_not] at g55
            refine OL.off rfl rfl ?_
            refine OL.off rfl rfl ?_
            refine OL.off rfl rfl ?_
            refine OL.off rfl rfl ?_
            refine OL.off rfl rfl ?_
            refine OL.off rfl rfl ?_
            refine OL.off rfl rfl ?_
            refine OL.off rfl rfl ?_
            refine OL.off rfl rfl ?_
            refine OL.off rfl rfl ?_
            refine OL.det trivial (Yields.pure rfl) ?_
            refine OL.det trivial (Yields.pure rfl) ?_
            refine OL.det rfl (Yields.pure rfl) ?_
            refine OL.det rfl (Yields.pure rfl) ?_
            refine OL.bool rfl (Yields.pure rfl) (fun g70 => ?_) (fun g70 => ?_)
            · try simp only [decide_eq_true_eq, decide_eq_false_iff_not, beq_iff_eq, bne_iff_ne, beq_eq_false_iff_ne, bne_eq_false_iff_eq, Bool.not_eq_true', Bool.not_eq_false', Bool.not_eq_true, ne_eq, Decidable.not_not] at g70
              refine OL.det rfl (Yields.pure rfl) ?_
              refine OL.det rfl (Yields.to (v' := .bool false) (Yields.pure rfl) (by rw [(sp_ok g70).2.2.2]; rfl)) ?_
              refine OL.det rfl (Yields.pure rfl) ?_
              refine OL.det rfl (Yields.pure rfl) ?_
              refine OL.det rfl (Yields.pure rfl) ?_
              refine OL.det rfl (Yields.pure rfl) ?_
              have hkk : tb.data.toList.take k = tb.data.toList := List.take_of_length_le (by omega)
              refine OL.det rfl (Yields.to (v' := .bool false) (Yields.pure rfl) (by rw [(sp_ok g70).1, (sp_ok g70).2.2.1, hkk]; simp)) ?_
              refine OL.det rfl (Yields.pure rfl) ?_
              refine OL.det rfl (Yields.pure rfl) ?_
              refine OL.det trivial (Yields.pure rfl) ?_
              refine OL.nil ?_
              refine PW.keep (T' := [(1, _), (80, _)]) ⟨rfl, rfl, trivial⟩ ?_
              refine PW.ite (b := false) rfl ?_
              rw [if_neg Bool.false_ne_true]
              refine PW.skip ?_
              refine hK34 _ _ ?_
              refine PW.keep (T' := [(1, _)]) ⟨rfl, trivial⟩ ?_
              refine PW.seqOps ?_
              refine OL.det trivial (Yields.pure rfl) ?_
              refine OL.call trivial rfl (join_fc hx.cons.cons (by omega) (by omega)) ?_
              rintro _ _ ⟨rfl, rfl⟩
              refine OL.call trivial rfl (split_fc hjt) ?_
              rintro _ _ ⟨A5, c5, s5, rfl, rfl, hr5⟩
              refine OL.det trivial (Yields.pure rfl) ?_
              refine OL.det trivial (Yields.pure rfl) ?_
              refine OL.det trivial (Yields.pure rfl) ?_
              refine OL.det trivial (Yields.pure rfl) ?_
              refine OL.det trivial (Yields.pure rfl) ?_
              refine OL.nil ?_
              refine PW.keep (T' := [(1, _), (11, _), (12, _)]) ⟨rfl, rfl, rfl, trivial⟩ ?_
              refine PW.seq fun K47 hK47 => ?_
              refine PW.seqOps ?_
              refine OL.det trivial (Yields.pure rfl) ?_
              refine OL.call trivial rfl (check_fc hx.cons.cons.cons (by omega) hsz) ?_
              rintro _ _ ⟨rfl, rfl⟩
              refine OL.det trivial (Yields.pure rfl) ?_
              refine OL.nil ?_
              refine PW.keep (T' := [(1, _), (11, _), (12, _), (89, _)]) ⟨rfl, rfl, rfl, rfl, trivial⟩ ?_
              refine PW.cond rfl (fun c89 => ?_) (fun c89 => ?_)
              · try simp only [decide_eq_true_eq, decide_eq_false_iff_not, beq_iff_eq, bne_iff_ne, beq_eq_false_iff_ne, bne_eq_false_iff_eq, Bool.not_eq_true', Bool.not_eq_false', Bool.not_eq_true, ne_eq, Decidable.not_not] at c89
                refine PW.seqOps ?_
                refine OL.call trivial rfl (awake_fc) ?_
                rintro _ _ ⟨rfl, rfl⟩
                refine OL.det trivial (Yields.pure rfl) ?_
                refine OL.nil ?_
                refine PW.keep (T' := [(4, _)]) ⟨rfl, trivial⟩ ?_
                refine PW.ret ?_
                change (Exit.ret = Exit.normal ∨ Exit.ret = Exit.ret) ∧ ∃ v, resV _ _ = some v ∧ _
                exact ⟨.inr rfl, _, rfl, _, Sub.refl _, rfl⟩
              · try simp only [decide_eq_true_eq, decide_eq_false_iff_not, beq_iff_eq, bne_iff_ne, beq_eq_false_iff_ne, bne_eq_false_iff_eq, Bool.not_eq_true', Bool.not_eq_false', Bool.not_eq_true, ne_eq, Decidable.not_not] at c89
                have hsp := sp_back (ls := ls) (by omega)
                rw [hsp] at hr5
                have hr5' : ∀ S2, Rd w0 (s5 :: S2) A5 (strs ls) := hr5
                rw [hsp]
                refine PW.skip ?_
                refine hK47 _ _ ?_
                refine PW.keep (T' := [(1, _), (11, _), (12, _)]) ⟨rfl, rfl, rfl, trivial⟩ ?_
                refine PW.seq fun K48 hK48 => ?_
                refine PW.seqOps ?_
                refine OL.det trivial (Yields.pure rfl) ?_
                refine OL.det trivial (Yields.to (v' := .bool false) (Yields.pure rfl) rfl) ?_
                refine OL.det trivial (Yields.pure rfl) ?_
                refine OL.det rfl (Yields.pure rfl) ?_
                refine OL.det rfl (Yields.pure rfl) ?_
                refine OL.det rfl (Yields.pure rfl) ?_
                refine OL.det rfl (Yields.pure rfl) ?_
                refine OL.det rfl (Yields.to (v' := .bool false) (Yields.pure rfl) (by simp)) ?_
                refine OL.det trivial (Yields.pure rfl) ?_
                refine OL.nil ?_
                refine PW.keep (T' := [(1, _), (11, _), (99, _)]) ⟨rfl, rfl, rfl, trivial⟩ ?_
                refine PW.ite (b := false) rfl ?_
                rw [if_neg Bool.false_ne_true]
                refine PW.skip ?_
                refine hK48 _ _ ?_
                refine PW.keep (T' := [(1, _), (11, _)]) ⟨rfl, rfl, trivial⟩ ?_
                refine PW.seq fun K49 hK49 => ?_
                refine PW.seqOps ?_
                refine OL.det trivial (Yields.pure rfl) ?_
                refine OL.nil ?_
                refine PW.keep (T' := [(1, _), (11, _), (13, _)]) ⟨rfl, rfl, rfl, trivial⟩ ?_
                refine PW.block ?_
                refine PW.keep (T' := [(1, _), (11, _), (13, _)]) ⟨rfl, rfl, rfl, trivial⟩ ?_
                refine PW.loopK (I := fun m T S' => ∃ (k : Nat), (k ≤ ls.length ∧ m = ls.length - k) ∧ T = ([(1, .slice A ls.length cap), (11, .slice A5 ls.length c5), (13, .int .i64 k)] : TT) ∧ S' = s5 :: s3 :: s1 :: S) (m := ls.length) ⟨0, ⟨by omega, by omega⟩, rfl, rfl⟩ ?_
                rintro m _ _ ⟨k, ⟨hk, hm⟩, rfl, rfl⟩
                refine PW.seq fun K50 hK50 => ?_
                refine PW.seqOps ?_
                refine OL.det trivial (Yields.pure rfl) ?_
                refine OL.det trivial (Yields.pure rfl) ?_
                refine OL.det trivial (Yields.pure rfl) ?_
                refine OL.det trivial (Yields.pure rfl) ?_
                refine OL.nil ?_
                refine PW.keep (T' := [(1, _), (11, _), (13, _), (103, _)]) ⟨rfl, rfl, rfl, rfl, trivial⟩ ?_
                refine PW.cond rfl (fun c103 => ?_) (fun c103 => ?_)
                · try simp only [decide_eq_true_eq, decide_eq_false_iff_not, beq_iff_eq, bne_iff_ne, beq_eq_false_iff_ne, bne_eq_false_iff_eq, Bool.not_eq_true', Bool.not_eq_false', Bool.not_eq_true, ne_eq, Decidable.not_not] at c103
                  have hkl : k < ls.length := by omega
                  obtain ⟨b0, rfl⟩ := hx.some (strs_ne (by omega))
                  obtain ⟨b1, rfl⟩ := (hr5' []).some (strs_ne (by omega))
                  refine PW.skip ?_
                  refine hK50 _ _ ?_
                  refine PW.keep (T' := [(1, _), (11, _), (13, _)]) ⟨rfl, rfl, rfl, trivial⟩ ?_
                  refine PW.seq fun K51 hK51 => ?_
                  refine PW.block ?_
                  refine PW.seq fun K52 hK52 => ?_
                  refine PW.quietK Try.mixed ?_
                  refine QK.det trivial (Yields.pure rfl) ?_
                  refine QK.det trivial (Yields.pure rfl) ?_
                  refine QK.det trivial (Yields.ixN1 rfl rfl rfl (by omega)) ?_
                  refine QK.det trivial (Yields.ld rfl (strs_at (hr5' _) hkl)) ?_
                  refine QK.det trivial (Yields.pure rfl) ?_
                  refine QK.det trivial (Yields.pure rfl) ?_
                  refine QK.det trivial (Yields.ixN1 rfl rfl rfl (by omega)) ?_
                  refine QK.det trivial (Yields.ld rfl (strs_at hx.cons.cons.cons hkl)) ?_
                  refine QK.nil ?_
                  change OL _ _ _ [_] _ _ _
                  refine OL.det trivial (Yields.pure rfl) ?_
                  refine OL.nil ?_
                  refine hK52 _ _ ?_
                  refine PW.keep (T' := [(1, _), (11, _), (13, _), (114, _)]) ⟨rfl, rfl, rfl, rfl, trivial⟩ ?_
                  refine PW.cond rfl (fun c114 => ?_) (fun c114 => ?_)
                  · have c114 := c114
                    exfalso; simp at c114 -- done
                  · have c114 := c114
                    refine PW.skip ?_
                    refine hK51 _ _ ?_
                    refine PW.keep (T' := [(1, _), (11, _), (13, _)]) ⟨rfl, rfl, rfl, trivial⟩ ?_
                    refine PW.ops ?_
                    refine OL.det trivial (Yields.pure rfl) ?_
                    refine OL.det trivial (Yields.add64 rfl rfl (by omega) (by omega)) ?_
                    refine OL.det trivial (Yields.pure rfl) ?_
                    refine OL.nil ?_
                    repeat rw [inBlk_n]
                    rw [thenK_n]
                    refine LoopEnd.mk (T'' := [(1, _), (11, _), (13, _)]) ⟨rfl, rfl, rfl, trivial⟩ ?_
                    exact ⟨ls.length - (k + 1), by omega, k + 1, ⟨by omega, rfl⟩, by simp, rfl⟩
                · try simp only [decide_eq_true_eq, decide_eq_false_iff_not, beq_iff_eq, bne_iff_ne, beq_eq_false_iff_ne, bne_eq_false_iff_eq, Bool.not_eq_true', Bool.not_eq_false', Bool.not_eq_true, ne_eq, Decidable.not_not] at c103
                  refine PW.exit ?_
                  refine hK49 _ _ ?_
                  refine PW.keep (T' := []) trivial ?_
                  refine PW.seqOps ?_
                  refine OL.call trivial rfl (awake_fc) ?_
                  rintro _ _ ⟨rfl, rfl⟩
                  refine OL.det trivial (Yields.pure rfl) ?_
                  refine OL.nil ?_
                  refine PW.keep (T' := [(4, _)]) ⟨rfl, trivial⟩ ?_
                  refine PW.ret ?_
                  change (Exit.ret = Exit.normal ∨ Exit.ret = Exit.ret) ∧ ∃ v, resV _ _ = some v ∧ _
                  exact ⟨.inr rfl, _, rfl, _, Sub.refl _, rfl⟩
            · try simp only [decide_eq_true_eq, decide_eq_false_iff_not, beq_iff_eq, bne_iff_ne, beq_eq_false_iff_ne, bne_eq_false_iff_eq, Bool.not_eq_true', Bool.not_eq_false', Bool.not_eq_true, ne_eq, Decidable.not_not] at g70
              refine OL.off rfl rfl ?_
              refine OL.off rfl rfl ?_
              refine OL.off rfl rfl ?_
              refine OL.off rfl rfl ?_
              refine OL.off rfl rfl ?_
              refine OL.off rfl rfl ?_
              refine OL.off rfl rfl ?_
              refine OL.off rfl rfl ?_
              refine OL.det rfl (Yields.pure rfl) ?_
              refine OL.det trivial (Yields.pure rfl) ?_
              refine OL.nil ?_
              refine PW.keep (T' := [(1, _), (80, _)]) ⟨rfl, rfl, trivial⟩ ?_
              refine PW.ite (b := false) rfl ?_
              rw [if_neg Bool.false_ne_true]
              refine PW.skip ?_
              refine hK34 _ _ ?_
              refine PW.keep (T' := [(1, _)]) ⟨rfl, trivial⟩ ?_
              refine PW.seqOps ?_
              refine OL.det trivial (Yields.pure rfl) ?_
              refine OL.call trivial rfl (join_fc hx.cons.cons (by omega) (by omega)) ?_
              rintro _ _ ⟨rfl, rfl⟩
              refine OL.call trivial rfl (split_fc hjt) ?_
              rintro _ _ ⟨A5, c5, s5, rfl, rfl, hr5⟩
              refine OL.det trivial (Yields.pure rfl) ?_
              refine OL.det trivial (Yields.pure rfl) ?_
              refine OL.det trivial (Yields.pure rfl) ?_
              refine OL.det trivial (Yields.pure rfl) ?_
              refine OL.det trivial (Yields.pure rfl) ?_
              refine OL.nil ?_
              refine PW.keep (T' := [(1, _), (11, _), (12, _)]) ⟨rfl, rfl, rfl, trivial⟩ ?_
              refine PW.seq fun K53 hK53 => ?_
              refine PW.seqOps ?_
              refine OL.det trivial (Yields.pure rfl) ?_
              refine OL.call trivial rfl (check_fc hx.cons.cons.cons (by omega) hsz) ?_
              rintro _ _ ⟨rfl, rfl⟩
              refine OL.det trivial (Yields.pure rfl) ?_
              refine OL.nil ?_
              refine PW.keep (T' := [(1, _), (11, _), (12, _), (89, _)]) ⟨rfl, rfl, rfl, rfl, trivial⟩ ?_
              refine PW.cond rfl (fun c89 => ?_) (fun c89 => ?_)
              · try simp only [decide_eq_true_eq, decide_eq_false_iff_not, beq_iff_eq, bne_iff_ne, beq_eq_false_iff_ne, bne_eq_false_iff_eq, Bool.not_eq_true', Bool.not_eq_false', Bool.not_eq_true, ne_eq, Decidable.not_not] at c89
                refine PW.seqOps ?_
                refine OL.call trivial rfl (awake_fc) ?_
                rintro _ _ ⟨rfl, rfl⟩
                refine OL.det trivial (Yields.pure rfl) ?_
                refine OL.nil ?_
                refine PW.keep (T' := [(4, _)]) ⟨rfl, trivial⟩ ?_
                refine PW.ret ?_
                change (Exit.ret = Exit.normal ∨ Exit.ret = Exit.ret) ∧ ∃ v, resV _ _ = some v ∧ _
                exact ⟨.inr rfl, _, rfl, _, Sub.refl _, rfl⟩
              · try simp only [decide_eq_true_eq, decide_eq_false_iff_not, beq_iff_eq, bne_iff_ne, beq_eq_false_iff_ne, bne_eq_false_iff_eq, Bool.not_eq_true', Bool.not_eq_false', Bool.not_eq_true, ne_eq, Decidable.not_not] at c89
                have hsp := sp_back (ls := ls) (by omega)
                rw [hsp] at hr5
                have hr5' : ∀ S2, Rd w0 (s5 :: S2) A5 (strs ls) := hr5
                rw [hsp]
                refine PW.skip ?_
                refine hK53 _ _ ?_
                refine PW.keep (T' := [(1, _), (11, _), (12, _)]) ⟨rfl, rfl, rfl, trivial⟩ ?_
                refine PW.seq fun K54 hK54 => ?_
                refine PW.seqOps ?_
                refine OL.det trivial (Yields.pure rfl) ?_
                refine OL.det trivial (Yields.to (v' := .bool false) (Yields.pure rfl) rfl) ?_
                refine OL.det trivial (Yields.pure rfl) ?_
                refine OL.det rfl (Yields.pure rfl) ?_
                refine OL.det rfl (Yields.pure rfl) ?_
                refine OL.det rfl (Yields.pure rfl) ?_
                refine OL.det rfl (Yields.pure rfl) ?_
                refine OL.det rfl (Yields.to (v' := .bool false) (Yields.pure rfl) (by simp)) ?_
                refine OL.det trivial (Yields.pure rfl) ?_
                refine OL.nil ?_
                refine PW.keep (T' := [(1, _), (11, _), (99, _)]) ⟨rfl, rfl, rfl, trivial⟩ ?_
                refine PW.ite (b := false) rfl ?_
                rw [if_neg Bool.false_ne_true]
                refine PW.skip ?_
                refine hK54 _ _ ?_
                refine PW.keep (T' := [(1, _), (11, _)]) ⟨rfl, rfl, trivial⟩ ?_
                refine PW.seq fun K55 hK55 => ?_
                refine PW.seqOps ?_
                refine OL.det trivial (Yields.pure rfl) ?_
                refine OL.nil ?_
                refine PW.keep (T' := [(1, _), (11, _), (13, _)]) ⟨rfl, rfl, rfl, trivial⟩ ?_
                refine PW.block ?_
                refine PW.keep (T' := [(1, _), (11, _), (13, _)]) ⟨rfl, rfl, rfl, trivial⟩ ?_
                refine PW.loopK (I := fun m T S' => ∃ (k : Nat), (k ≤ ls.length ∧ m = ls.length - k) ∧ T = ([(1, .slice A ls.length cap), (11, .slice A5 ls.length c5), (13, .int .i64 k)] : TT) ∧ S' = s5 :: s3 :: s1 :: S) (m := ls.length) ⟨0, ⟨by omega, by omega⟩, rfl, rfl⟩ ?_
                rintro m _ _ ⟨k, ⟨hk, hm⟩, rfl, rfl⟩
                refine PW.seq fun K56 hK56 => ?_
                refine PW.seqOps ?_
                refine OL.det trivial (Yields.pure rfl) ?_
                refine OL.det trivial (Yields.pure rfl) ?_
                refine OL.det trivial (Yields.pure rfl) ?_
                refine OL.det trivial (Yields.pure rfl) ?_
                refine OL.nil ?_
                refine PW.keep (T' := [(1, _), (11, _), (13, _), (103, _)]) ⟨rfl, rfl, rfl, rfl, trivial⟩ ?_
                refine PW.cond rfl (fun c103 => ?_) (fun c103 => ?_)
                · try simp only [decide_eq_true_eq, decide_eq_false_iff_not, beq_iff_eq, bne_iff_ne, beq_eq_false_iff_ne, bne_eq_false_iff_eq, Bool.not_eq_true', Bool.not_eq_false', Bool.not_eq_true, ne_eq, Decidable.not_not] at c103
                  have hkl : k < ls.length := by omega
                  obtain ⟨b0, rfl⟩ := hx.some (strs_ne (by omega))
                  obtain ⟨b1, rfl⟩ := (hr5' []).some (strs_ne (by omega))
                  refine PW.skip ?_
                  refine hK56 _ _ ?_
                  refine PW.keep (T' := [(1, _), (11, _), (13, _)]) ⟨rfl, rfl, rfl, trivial⟩ ?_
                  refine PW.seq fun K57 hK57 => ?_
                  refine PW.block ?_
                  refine PW.seq fun K58 hK58 => ?_
                  refine PW.quietK Try.mixed ?_
                  refine QK.det trivial (Yields.pure rfl) ?_
                  refine QK.det trivial (Yields.pure rfl) ?_
                  refine QK.det trivial (Yields.ixN1 rfl rfl rfl (by omega)) ?_
                  refine QK.det trivial (Yields.ld rfl (strs_at (hr5' _) hkl)) ?_
                  refine QK.det trivial (Yields.pure rfl) ?_
                  refine QK.det trivial (Yields.pure rfl) ?_
                  refine QK.det trivial (Yields.ixN1 rfl rfl rfl (by omega)) ?_
                  refine QK.det trivial (Yields.ld rfl (strs_at hx.cons.cons.cons hkl)) ?_
                  refine QK.nil ?_
                  change OL _ _ _ [_] _ _ _
                  refine OL.det trivial (Yields.pure rfl) ?_
                  refine OL.nil ?_
                  refine hK58 _ _ ?_
                  refine PW.keep (T' := [(1, _), (11, _), (13, _), (114, _)]) ⟨rfl, rfl, rfl, rfl, trivial⟩ ?_
                  refine PW.cond rfl (fun c114 => ?_) (fun c114 => ?_)
                  · have c114 := c114
                    exfalso; simp at c114 -- done
                  · have c114 := c114
                    refine PW.skip ?_
                    refine hK57 _ _ ?_
                    refine PW.keep (T' := [(1, _), (11, _), (13, _)]) ⟨rfl, rfl, rfl, trivial⟩ ?_
                    refine PW.ops ?_
                    refine OL.det trivial (Yields.pure rfl) ?_
                    refine OL.det trivial (Yields.add64 rfl rfl (by omega) (by omega)) ?_
                    refine OL.det trivial (Yields.pure rfl) ?_
                    refine OL.nil ?_
                    repeat rw [inBlk_n]
                    rw [thenK_n]
                    refine LoopEnd.mk (T'' := [(1, _), (11, _), (13, _)]) ⟨rfl, rfl, rfl, trivial⟩ ?_
                    exact ⟨ls.length - (k + 1), by omega, k + 1, ⟨by omega, rfl⟩, by simp, rfl⟩
                · try simp only [decide_eq_true_eq, decide_eq_false_iff_not, beq_iff_eq, bne_iff_ne, beq_eq_false_iff_ne, bne_eq_false_iff_eq, Bool.not_eq_true', Bool.not_eq_false', Bool.not_eq_true, ne_eq, Decidable.not_not] at c103
                  refine PW.exit ?_
                  refine hK55 _ _ ?_
                  refine PW.keep (T' := []) trivial ?_
                  refine PW.seqOps ?_
                  refine OL.call trivial rfl (awake_fc) ?_
                  rintro _ _ ⟨rfl, rfl⟩
                  refine OL.det trivial (Yields.pure rfl) ?_
                  refine OL.nil ?_
                  refine PW.keep (T' := [(4, _)]) ⟨rfl, trivial⟩ ?_
                  refine PW.ret ?_
                  change (Exit.ret = Exit.normal ∨ Exit.ret = Exit.ret) ∧ ∃ v, resV _ _ = some v ∧ _
                  exact ⟨.inr rfl, _, rfl, _, Sub.refl _, rfl⟩

end Go.Proofs
