/- Walks and plain facts for the laws of this seat: what each function answers, for every input. -/
import Derived.Test.YtbidjnjbiibdeaaDoorPart5

set_option linter.unusedVariables false
set_option linter.unusedSimpArgs false
namespace Go.Proofs.Rl
open Go.SL Go.RowKit Go.Proofs Go.Proofs.Lb
set_option maxHeartbeats 1000000
theorem rulesTouched_fc {w0 : World} {A : Option Addr} {c : Nat} {tv : Int} {l : List RuleB} {p s : ByteArray} (hx : Rd w0 [] A (ruls l)) (hw : ∀ x ∈ l, x.1.size ≤ maxLen) (hp : p.size ≤ maxLen) (hs : s.size ≤ maxLen) (hl : l.length ≤ maxLen) :
    FC Tryd.prog w0 13 [tabV tv A l.length c, .string p, .string s] [] (fun v _ => v = .bool true) := by
  refine FC.of Tryd.known13 (by simp) ?_
  unfold Tryd.pc13
  simp only [argT]
  refine PW.seqOps ?_
  refine OL.cons trivial (OW.bx rfl) ?_
  rintro _ _ ⟨r3, rfl, rfl⟩
  change OL _ _ _ _ _ (tseg r3 tv A l.length c :: []) _
  refine OL.det trivial (Yields.pure rfl) ?_
  refine OL.nil ?_
  refine PW.keep (T' := [(1, _), (2, _), (3, _)]) ⟨rfl, rfl, rfl, trivial⟩ ?_
  refine PW.seq fun K1 hK1 => ?_
  refine PW.seqOps ?_
  refine OL.det trivial (Yields.ldA rfl rfl (tab_at (tv := tv) (A := A) (n := l.length) (c := c) (r := r3) (List.mem_flatten.2 ⟨_, .head _, List.mem_singleton.2 rfl⟩))) ?_
  refine OL.det trivial (Yields.pure rfl) ?_
  refine OL.call trivial rfl (large_fc hx.cons hw hs hl) ?_
  rintro _ Sx ⟨b14, rfl, hSx, hb14⟩
  rw [hSx]
  clear hSx
  refine OL.bool trivial (Yields.pure rfl) (fun g15 => ?_) (fun g15 => ?_)
  · try simp only [decide_eq_true_eq, decide_eq_false_iff_not, beq_iff_eq, bne_iff_ne, beq_eq_false_iff_ne, bne_eq_false_iff_eq, Bool.not_eq_true', Bool.not_eq_false', Bool.not_eq_true, ne_eq, Decidable.not_not] at g15
    refine OL.off rfl rfl ?_
    refine OL.off rfl rfl ?_
    refine OL.off rfl rfl ?_
    refine OL.det trivial (Yields.pure rfl) ?_
    refine OL.det trivial (Yields.pure rfl) ?_
    refine OL.off rfl rfl ?_
    refine OL.off rfl rfl ?_
    refine OL.off rfl rfl ?_
    refine OL.off rfl rfl ?_
    refine OL.off rfl rfl ?_
    refine OL.off rfl rfl ?_
    refine OL.off rfl rfl ?_
    refine OL.det trivial (Yields.pure rfl) ?_
    refine OL.nil ?_
    refine PW.keep (T' := [(1, _), (2, _), (3, _), (28, _)]) ⟨rfl, rfl, rfl, rfl, trivial⟩ ?_
    refine PW.ite (b := true) rfl ?_
    rw [if_pos rfl]
    refine PW.seqOps ?_
    refine OL.call trivial rfl (rawake_fc) ?_
    rintro _ _ ⟨rfl, _⟩
    refine OL.det trivial (Yields.pure rfl) ?_
    refine OL.nil ?_
    refine PW.keep (T' := [(6, _)]) ⟨rfl, trivial⟩ ?_
    refine PW.ret ?_
    change (Exit.ret = Exit.normal ∨ Exit.ret = Exit.ret) ∧ ∃ v, resV _ _ = some v ∧ _
    exact ⟨.inr rfl, _, rfl, rfl⟩
  · try simp only [decide_eq_true_eq, decide_eq_false_iff_not, beq_iff_eq, bne_iff_ne, beq_eq_false_iff_ne, bne_eq_false_iff_eq, Bool.not_eq_true', Bool.not_eq_false', Bool.not_eq_true, ne_eq, Decidable.not_not] at g15
    obtain ⟨hl60, hs200, hw200, htv1, htv2⟩ := hb14 g15
    have hw9 : ∀ x ∈ l, x.1.size ≤ 1000000000 := fun x h => by have := hw200 x h; omega
    refine OL.det rfl (Yields.pure rfl) ?_
    refine OL.det rfl (Yields.pure rfl) ?_
    refine OL.det rfl (Yields.pure rfl) ?_
    refine OL.det trivial (Yields.pure rfl) ?_
    refine OL.bool trivial (Yields.pure rfl) (fun g20 => ?_) (fun g20 => ?_)
    · try simp only [decide_eq_true_eq, decide_eq_false_iff_not, beq_iff_eq, bne_iff_ne, beq_eq_false_iff_ne, bne_eq_false_iff_eq, Bool.not_eq_true', Bool.not_eq_false', Bool.not_eq_true, ne_eq, Decidable.not_not] at g20
      refine OL.off rfl rfl ?_
      refine OL.off rfl rfl ?_
      refine OL.off rfl rfl ?_
      refine OL.off rfl rfl ?_
      refine OL.off rfl rfl ?_
      refine OL.off rfl rfl ?_
      refine OL.off rfl rfl ?_
      refine OL.det trivial (Yields.pure rfl) ?_
      refine OL.nil ?_
      refine PW.keep (T' := [(1, _), (2, _), (3, _), (28, _)]) ⟨rfl, rfl, rfl, rfl, trivial⟩ ?_
      refine PW.ite (b := true) rfl ?_
      rw [if_pos rfl]
      refine PW.seqOps ?_
      refine OL.call trivial rfl (rawake_fc) ?_
      rintro _ _ ⟨rfl, _⟩
      refine OL.det trivial (Yields.pure rfl) ?_
      refine OL.nil ?_
      refine PW.keep (T' := [(6, _)]) ⟨rfl, trivial⟩ ?_
      refine PW.ret ?_
      change (Exit.ret = Exit.normal ∨ Exit.ret = Exit.ret) ∧ ∃ v, resV _ _ = some v ∧ _
      exact ⟨.inr rfl, _, rfl, rfl⟩
    · try simp only [decide_eq_true_eq, decide_eq_false_iff_not, beq_iff_eq, bne_iff_ne, beq_eq_false_iff_ne, bne_eq_false_iff_eq, Bool.not_eq_true', Bool.not_eq_false', Bool.not_eq_true, ne_eq, Decidable.not_not] at g20
      refine OL.det rfl (Yields.pure rfl) ?_
      refine OL.det rfl (Yields.pure rfl) ?_
      refine OL.bool rfl (Yields.pure rfl) (fun g23 => ?_) (fun g23 => ?_)
      · try simp only [decide_eq_true_eq, decide_eq_false_iff_not, beq_iff_eq, bne_iff_ne, beq_eq_false_iff_ne, bne_eq_false_iff_eq, Bool.not_eq_true', Bool.not_eq_false', Bool.not_eq_true, ne_eq, Decidable.not_not] at g23
        rw [toL_inj] at g23
        refine OL.det rfl (Yields.pure rfl) ?_
        refine OL.call rfl rfl (check_fc (by omega)) ?_
        rintro _ Sx ⟨rfl, hSx⟩
        rw [hSx]
        clear hSx
        refine OL.det rfl (Yields.pure rfl) ?_
        refine OL.det rfl (Yields.pure rfl) ?_
        refine OL.det trivial (Yields.pure rfl) ?_
        refine OL.nil ?_
        refine PW.keep (T' := [(1, _), (2, _), (3, _), (28, _)]) ⟨rfl, rfl, rfl, rfl, trivial⟩ ?_
        refine PW.cond rfl (fun c28 => ?_) (fun c28 => ?_)
        · try simp only [decide_eq_true_eq, decide_eq_false_iff_not, beq_iff_eq, bne_iff_ne, beq_eq_false_iff_ne, bne_eq_false_iff_eq, Bool.not_eq_true', Bool.not_eq_false', Bool.not_eq_true, ne_eq, Decidable.not_not] at c28
          refine PW.seqOps ?_
          refine OL.call trivial rfl (rawake_fc) ?_
          rintro _ _ ⟨rfl, _⟩
          refine OL.det trivial (Yields.pure rfl) ?_
          refine OL.nil ?_
          refine PW.keep (T' := [(6, _)]) ⟨rfl, trivial⟩ ?_
          refine PW.ret ?_
          change (Exit.ret = Exit.normal ∨ Exit.ret = Exit.ret) ∧ ∃ v, resV _ _ = some v ∧ _
          exact ⟨.inr rfl, _, rfl, rfl⟩
        · try simp only [decide_eq_true_eq, decide_eq_false_iff_not, beq_iff_eq, bne_iff_ne, beq_eq_false_iff_ne, bne_eq_false_iff_eq, Bool.not_eq_true', Bool.not_eq_false', Bool.not_eq_true, ne_eq, Decidable.not_not] at c28
          have hp0 : p = ⟨#[]⟩ ∨ isP p = true := .inr (by unfold chkP at c28; cases hi : isP p with | true => rfl | false => rw [hi] at c28; simp at c28)
          refine PW.skip ?_
          refine hK1 _ _ ?_
          refine PW.keep (T' := [(1, _), (2, _), (3, _)]) ⟨rfl, rfl, rfl, trivial⟩ ?_
          refine PW.seqOps ?_
          have hl9 : l.length ≤ 1000000000 := by omega
          have hp9 : p.size ≤ 1000000000 := by omega
          have hs9 : s.size ≤ 1000000000 := by omega
          refine OL.det trivial (Yields.ldA rfl rfl (tab_at (tv := tv) (A := A) (n := l.length) (c := c) (r := r3) (List.mem_flatten.2 ⟨_, .head _, List.mem_singleton.2 rfl⟩))) ?_
          refine OL.det trivial (Yields.pure rfl) ?_
          refine OL.call trivial rfl (touched_fc hx.cons hw9 hp9 hl9) ?_
          rintro _ _ ⟨A7, c7, seg32, rfl, rfl, hrd32⟩
          have hkall : ∀ x ∈ refS (touP l p), knownP l p x l.length = true := fun x h => known_all h
          have hmall : mineP l p s (refS (touP l p)) (refS (touP l p)).length = true := mine_all hp0
          have hLb : (refS (touP l p)).length ≤ l.length + 1 := by
            have h1 := refS_len (l := touP l p) _ (Nat.le_refl _)
            have h2 := touK_len (l := l) (p := p) (Nat.le_refl _)
            rw [List.take_length] at h1
            exact Nat.le_trans h1 h2
          generalize refS (touP l p) = L at *
          refine OL.det trivial (Yields.pure rfl) ?_
          refine OL.nil ?_
          refine PW.keep (T' := [(1, _), (2, _), (3, _), (7, _)]) ⟨rfl, rfl, rfl, rfl, trivial⟩ ?_
          refine PW.seqOps ?_
          refine OL.det trivial (Yields.pure rfl) ?_
          refine OL.det trivial (Yields.pure rfl) ?_
          refine OL.call trivial rfl (over_fc hp9 hs9) ?_
          rintro _ Sx ⟨rfl, hSx⟩
          rw [hSx]
          clear hSx
          refine OL.det trivial (Yields.pure rfl) ?_
          refine OL.det trivial (Yields.pure rfl) ?_
          refine OL.nil ?_
          refine PW.keep (T' := [(1, _), (2, _), (3, _), (7, _), (8, _)]) ⟨rfl, rfl, rfl, rfl, rfl, trivial⟩ ?_
          refine PW.seq fun K2 hK2 => ?_
          refine PW.seqOps ?_
          refine OL.det trivial (Yields.pure rfl) ?_
          refine OL.nil ?_
          refine PW.keep (T' := [(1, _), (2, _), (3, _), (7, _), (8, _), (9, _)]) ⟨rfl, rfl, rfl, rfl, rfl, rfl, trivial⟩ ?_
          refine PW.block ?_
          refine PW.keep (T' := [(1, _), (2, _), (3, _), (7, _), (8, _), (9, _)]) ⟨rfl, rfl, rfl, rfl, rfl, rfl, trivial⟩ ?_
          refine PW.loopK (I := fun m T S' => ∃ (k : Nat) (b : Bool), (k ≤ L.length ∧ m = L.length - k ∧ b = mineP l p s L k) ∧ T = ([(1, .string p), (2, .string s), (3, .pointer (some ⟨r3, 0, none⟩)), (7, .slice A7 L.length c7), (8, .bool b), (9, .int .i64 k)] : TT) ∧ S' = seg32 :: tseg r3 tv A l.length c :: []) (m := L.length) ⟨0, _, ⟨by omega, by omega, by unfold mineP; simp⟩, rfl, rfl⟩ ?_
          rintro m _ _ ⟨k, b, ⟨hk, hm, hb⟩, rfl, rfl⟩
          refine PW.seq fun K3 hK3 => ?_
          refine PW.seqOps ?_
          refine OL.det trivial (Yields.pure rfl) ?_
          refine OL.det trivial (Yields.pure rfl) ?_
          refine OL.det trivial (Yields.pure rfl) ?_
          refine OL.det trivial (Yields.pure rfl) ?_
          refine OL.nil ?_
          refine PW.keep (T' := [(1, _), (2, _), (3, _), (7, _), (8, _), (9, _), (40, _)]) ⟨rfl, rfl, rfl, rfl, rfl, rfl, rfl, trivial⟩ ?_
          refine PW.cond rfl (fun c40 => ?_) (fun c40 => ?_)
          · try simp only [decide_eq_true_eq, decide_eq_false_iff_not, beq_iff_eq, bne_iff_ne, beq_eq_false_iff_ne, bne_eq_false_iff_eq, Bool.not_eq_true', Bool.not_eq_false', Bool.not_eq_true, ne_eq, Decidable.not_not] at c40
            have hkl : k < L.length := by omega
            obtain ⟨a7, rfl⟩ := labs_some (hrd32 []) (by omega)
            refine PW.skip ?_
            refine hK3 _ _ ?_
            refine PW.keep (T' := [(1, _), (2, _), (3, _), (7, _), (8, _), (9, _)]) ⟨rfl, rfl, rfl, rfl, rfl, rfl, trivial⟩ ?_
            refine PW.seq fun K4 hK4 => ?_
            refine PW.block ?_
            refine PW.seq fun K5 hK5 => ?_
            refine PW.quietK Tryd.mixed ?_
            refine QK.det trivial (Yields.pure rfl) ?_
            refine QK.bool trivial (Yields.pure rfl) (fun g44 => ?_) (fun g44 => ?_)
            · try simp only [decide_eq_true_eq, decide_eq_false_iff_not, beq_iff_eq, bne_iff_ne, beq_eq_false_iff_ne, bne_eq_false_iff_eq, Bool.not_eq_true', Bool.not_eq_false', Bool.not_eq_true, ne_eq, Decidable.not_not] at g44
              refine QK.off rfl rfl ?_
              refine QK.off rfl rfl ?_
              refine QK.off rfl rfl ?_
              refine QK.off rfl rfl ?_
              refine QK.off rfl rfl ?_
              refine QK.off rfl rfl ?_
              refine QK.off rfl rfl ?_
              refine QK.nil ?_
              change OL _ _ _ [_, _, _] _ _ _
              refine OL.off rfl rfl ?_
              refine OL.det trivial (Yields.pure rfl) ?_
              refine OL.det trivial (Yields.pure rfl) ?_
              refine OL.nil ?_
              refine hK5 _ _ ?_
              refine PW.keep (T' := [(1, _), (2, _), (3, _), (7, _), (8, _), (9, _)]) ⟨rfl, rfl, rfl, rfl, rfl, rfl, trivial⟩ ?_
              refine PW.seq fun K6 hK6 => ?_
              refine PW.quietK Tryd.mixed ?_
              refine QK.det trivial (Yields.pure rfl) ?_
              refine QK.det trivial (Yields.pure rfl) ?_
              refine QK.det trivial (Yields.ixN rfl rfl rfl (by omega)) ?_
              refine QK.det trivial (Yields.ldA rfl rfl (labs_at (hrd32 _) hkl)) ?_
              refine QK.det trivial (Yields.ldA rfl rfl (tab_at (tv := tv) (A := A) (n := l.length) (c := c) (r := r3) (List.mem_flatten.2 ⟨_, .tail _ (.head _), List.mem_singleton.2 rfl⟩))) ?_
              refine QK.det trivial (Yields.pure rfl) ?_
              refine QK.call trivial rfl (find_fc (hx.cons.cons) hw9 hp9 hl9) ?_
              refine QK.nil ?_
              change OL _ _ _ [_, _] _ _ _
              refine OL.det trivial (Yields.eqA rfl rfl (eq_lab L[k] (findP l p))) ?_
              refine OL.det trivial (Yields.pure rfl) ?_
              refine OL.nil ?_
              refine hK6 _ _ ?_
              refine PW.keep (T' := [(1, _), (2, _), (3, _), (7, _), (8, _), (9, _), (10, _)]) ⟨rfl, rfl, rfl, rfl, rfl, rfl, rfl, trivial⟩ ?_
              refine PW.seq fun K7 hK7 => ?_
              refine PW.seqOps ?_
              refine OL.det trivial (Yields.pure rfl) ?_
              refine OL.nil ?_
              refine PW.keep (T' := [(1, _), (2, _), (3, _), (7, _), (8, _), (9, _), (10, _), (11, _)]) ⟨rfl, rfl, rfl, rfl, rfl, rfl, rfl, rfl, trivial⟩ ?_
              refine PW.block ?_
              refine PW.keep (T' := [(1, _), (2, _), (3, _), (7, _), (8, _), (9, _), (10, _), (11, _)]) ⟨rfl, rfl, rfl, rfl, rfl, rfl, rfl, rfl, trivial⟩ ?_
              refine PW.loopK (I := fun m T S' => ∃ (i : Nat) (b2 b3 : Bool), (i ≤ l.length ∧ m = l.length - i ∧ b2 = mineP l p s L (k + 1) ∧ b3 = knownP l p L[k] i) ∧ T = ([(1, .string p), (2, .string s), (3, .pointer (some ⟨r3, 0, none⟩)), (7, .slice (some a7) L.length c7), (8, .bool b2), (9, .int .i64 k), (10, .bool b3), (11, .int .i64 i)] : TT) ∧ S' = seg32 :: tseg r3 tv A l.length c :: []) (m := l.length) ⟨0, _, _, ⟨by omega, by omega, by rw [mine_succ hkl, ← hb]; simp [g44], by unfold knownP; simp⟩, rfl, rfl⟩ ?_
              rintro m _ _ ⟨i, b2, b3, ⟨hi, hm2, hb2, hb3⟩, rfl, rfl⟩
              refine PW.seq fun K8 hK8 => ?_
              refine PW.seqOps ?_
              refine OL.det trivial (Yields.pure rfl) ?_
              refine OL.det trivial (Yields.pure rfl) ?_
              refine OL.det trivial (Yields.ld rfl (own_at (j := 1) (c := [.int .i64 tv, .slice A l.length c]) (E := 45) (tot := 2) (List.mem_flatten.2 ⟨_, .tail _ (.head _), List.mem_singleton.2 rfl⟩) rfl)) ?_
              refine OL.det trivial (Yields.pure rfl) ?_
              refine OL.det trivial (Yields.pure rfl) ?_
              refine OL.nil ?_
              refine PW.keep (T' := [(1, _), (2, _), (3, _), (7, _), (8, _), (9, _), (10, _), (11, _), (66, _)]) ⟨rfl, rfl, rfl, rfl, rfl, rfl, rfl, rfl, rfl, trivial⟩ ?_
              refine PW.cond rfl (fun c66 => ?_) (fun c66 => ?_)
              · try simp only [decide_eq_true_eq, decide_eq_false_iff_not, beq_iff_eq, bne_iff_ne, beq_eq_false_iff_ne, bne_eq_false_iff_eq, Bool.not_eq_true', Bool.not_eq_false', Bool.not_eq_true, ne_eq, Decidable.not_not] at c66
                have hil : i < l.length := by omega
                obtain ⟨a0, rfl⟩ := ruls_some hx (by omega)
                have hwi := hw9 _ (List.getElem_mem hil)
                refine PW.skip ?_
                refine hK8 _ _ ?_
                refine PW.keep (T' := [(1, _), (2, _), (3, _), (7, _), (8, _), (9, _), (10, _), (11, _)]) ⟨rfl, rfl, rfl, rfl, rfl, rfl, rfl, rfl, trivial⟩ ?_
                refine PW.seq fun K9 hK9 => ?_
                refine PW.block ?_
                refine PW.quietK Tryd.mixed ?_
                refine QK.det trivial (Yields.pure rfl) ?_
                refine QK.bool trivial (Yields.pure rfl) (fun g70 => ?_) (fun g70 => ?_)
                · try simp only [decide_eq_true_eq, decide_eq_false_iff_not, beq_iff_eq, bne_iff_ne, beq_eq_false_iff_ne, bne_eq_false_iff_eq, Bool.not_eq_true', Bool.not_eq_false', Bool.not_eq_true, ne_eq, Decidable.not_not] at g70
                  refine QK.off rfl rfl ?_
                  refine QK.off rfl rfl ?_
                  refine QK.off rfl rfl ?_
                  refine QK.off rfl rfl ?_
                  refine QK.off rfl rfl ?_
                  refine QK.off rfl rfl ?_
                  refine QK.off rfl rfl ?_
                  refine QK.off rfl rfl ?_
                  refine QK.off rfl rfl ?_
                  refine QK.off rfl rfl ?_
                  refine QK.off rfl rfl ?_
                  refine QK.off rfl rfl ?_
                  refine QK.off rfl rfl ?_
                  refine QK.off rfl rfl ?_
                  refine QK.off rfl rfl ?_
                  refine QK.off rfl rfl ?_
                  refine QK.off rfl rfl ?_
                  refine QK.off rfl rfl ?_
                  refine QK.off rfl rfl ?_
                  refine QK.nil ?_
                  change OL _ _ _ [_, _, _, _] _ _ _
                  refine OL.off rfl rfl ?_
                  refine OL.off rfl rfl ?_
                  refine OL.det trivial (Yields.pure rfl) ?_
                  refine OL.det trivial (Yields.pure rfl) ?_
                  refine OL.nil ?_
                  refine hK9 _ _ ?_
                  refine PW.keep (T' := [(1, _), (2, _), (3, _), (7, _), (8, _), (9, _), (10, _), (11, _)]) ⟨rfl, rfl, rfl, rfl, rfl, rfl, rfl, rfl, trivial⟩ ?_
                  refine PW.ops ?_
                  refine OL.det trivial (Yields.pure rfl) ?_
                  refine OL.det trivial (Yields.add64 rfl rfl (by omega) (by omega)) ?_
                  refine OL.det trivial (Yields.pure rfl) ?_
                  refine OL.nil ?_
                  repeat rw [inBlk_n]
                  rw [thenK_n]
                  refine LoopEnd.mk (T'' := [(1, _), (2, _), (3, _), (7, _), (8, _), (9, _), (10, _), (11, _)]) ⟨rfl, rfl, rfl, rfl, rfl, rfl, rfl, rfl, trivial⟩ ?_
                  refine ⟨l.length - (i + 1), by omega, i + 1, b2, _, ⟨by omega, rfl, hb2, ?_⟩, rfl, rfl⟩
                  rw [known_succ hil, ← hb3]
                  simp [g70, *]
                · try simp only [decide_eq_true_eq, decide_eq_false_iff_not, beq_iff_eq, bne_iff_ne, beq_eq_false_iff_ne, bne_eq_false_iff_eq, Bool.not_eq_true', Bool.not_eq_false', Bool.not_eq_true, ne_eq, Decidable.not_not] at g70
                  refine QK.det rfl (Yields.pure rfl) ?_
                  refine QK.det rfl (Yields.ld rfl (own_at (j := 1) (c := [.int .i64 tv, .slice (some a0) l.length c]) (E := 45) (tot := 2) (List.mem_flatten.2 ⟨_, .tail _ (.head _), List.mem_singleton.2 rfl⟩) rfl)) ?_
                  refine QK.det rfl (Yields.pure rfl) ?_
                  refine QK.det rfl (Yields.ixN rfl rfl rfl (by omega)) ?_
                  refine QK.det rfl (Yields.pure rfl) ?_
                  refine QK.det rfl (Yields.ldA rfl rfl (rlab_at (hx.cons.cons) hil)) ?_
                  refine QK.det rfl (Yields.pure rfl) ?_
                  refine QK.det rfl (Yields.pure rfl) ?_
                  refine QK.det rfl (Yields.ixN rfl rfl rfl (by omega)) ?_
                  refine QK.det rfl (Yields.ldA rfl rfl (labs_at (hrd32 _) hkl)) ?_
                  refine QK.det rfl (Yields.eqA rfl rfl (eq_lab l[i].2 L[k])) ?_
                  refine QK.bool rfl (Yields.pure rfl) (fun g82 => ?_) (fun g82 => ?_)
                  · try simp only [decide_eq_true_eq, decide_eq_false_iff_not, beq_iff_eq, bne_iff_ne, beq_eq_false_iff_ne, bne_eq_false_iff_eq, Bool.not_eq_true', Bool.not_eq_false', Bool.not_eq_true, ne_eq, Decidable.not_not] at g82
                    simp at g82
                    refine QK.det rfl (Yields.pure rfl) ?_
                    refine QK.det rfl (Yields.pure rfl) ?_
                    refine QK.det rfl (Yields.ld rfl (own_at (j := 1) (c := [.int .i64 tv, .slice (some a0) l.length c]) (E := 45) (tot := 2) (List.mem_flatten.2 ⟨_, .tail _ (.head _), List.mem_singleton.2 rfl⟩) rfl)) ?_
                    refine QK.det rfl (Yields.pure rfl) ?_
                    refine QK.det rfl (Yields.ixN rfl rfl rfl (by omega)) ?_
                    refine QK.det rfl (Yields.pure rfl) ?_
                    refine QK.det rfl (Yields.ld rfl (rule_at (hx.cons.cons) hil 0 _ rfl)) ?_
                    refine QK.nil ?_
                    change OL _ _ _ [_, _, _, _] _ _ _
                    refine OL.call rfl rfl (over_fc hp9 hwi) ?_
                    rintro _ Sx ⟨rfl, hSx⟩
                    rw [hSx]
                    clear hSx
                    refine OL.det rfl (Yields.pure rfl) ?_
                    refine OL.det trivial (Yields.pure rfl) ?_
                    refine OL.det trivial (Yields.pure rfl) ?_
                    refine OL.nil ?_
                    refine hK9 _ _ ?_
                    refine PW.keep (T' := [(1, _), (2, _), (3, _), (7, _), (8, _), (9, _), (10, _), (11, _)]) ⟨rfl, rfl, rfl, rfl, rfl, rfl, rfl, rfl, trivial⟩ ?_
                    refine PW.ops ?_
                    refine OL.det trivial (Yields.pure rfl) ?_
                    refine OL.det trivial (Yields.add64 rfl rfl (by omega) (by omega)) ?_
                    refine OL.det trivial (Yields.pure rfl) ?_
                    refine OL.nil ?_
                    repeat rw [inBlk_n]
                    rw [thenK_n]
                    refine LoopEnd.mk (T'' := [(1, _), (2, _), (3, _), (7, _), (8, _), (9, _), (10, _), (11, _)]) ⟨rfl, rfl, rfl, rfl, rfl, rfl, rfl, rfl, trivial⟩ ?_
                    refine ⟨l.length - (i + 1), by omega, i + 1, b2, _, ⟨by omega, rfl, hb2, ?_⟩, rfl, rfl⟩
                    rw [known_succ hil, ← hb3]
                    simp [g70, *]
                  · try simp only [decide_eq_true_eq, decide_eq_false_iff_not, beq_iff_eq, bne_iff_ne, beq_eq_false_iff_ne, bne_eq_false_iff_eq, Bool.not_eq_true', Bool.not_eq_false', Bool.not_eq_true, ne_eq, Decidable.not_not] at g82
                    simp at g82
                    refine QK.off rfl rfl ?_
                    refine QK.off rfl rfl ?_
                    refine QK.off rfl rfl ?_
                    refine QK.off rfl rfl ?_
                    refine QK.off rfl rfl ?_
                    refine QK.off rfl rfl ?_
                    refine QK.off rfl rfl ?_
                    refine QK.nil ?_
                    change OL _ _ _ [_, _, _, _] _ _ _
                    refine OL.off rfl rfl ?_
                    refine OL.det rfl (Yields.pure rfl) ?_
                    refine OL.det trivial (Yields.pure rfl) ?_
                    refine OL.det trivial (Yields.pure rfl) ?_
                    refine OL.nil ?_
                    refine hK9 _ _ ?_
                    refine PW.keep (T' := [(1, _), (2, _), (3, _), (7, _), (8, _), (9, _), (10, _), (11, _)]) ⟨rfl, rfl, rfl, rfl, rfl, rfl, rfl, rfl, trivial⟩ ?_
                    refine PW.ops ?_
                    refine OL.det trivial (Yields.pure rfl) ?_
                    refine OL.det trivial (Yields.add64 rfl rfl (by omega) (by omega)) ?_
                    refine OL.det trivial (Yields.pure rfl) ?_
                    refine OL.nil ?_
                    repeat rw [inBlk_n]
                    rw [thenK_n]
                    refine LoopEnd.mk (T'' := [(1, _), (2, _), (3, _), (7, _), (8, _), (9, _), (10, _), (11, _)]) ⟨rfl, rfl, rfl, rfl, rfl, rfl, rfl, rfl, trivial⟩ ?_
                    refine ⟨l.length - (i + 1), by omega, i + 1, b2, _, ⟨by omega, rfl, hb2, ?_⟩, rfl, rfl⟩
                    rw [known_succ hil, ← hb3]
                    simp [g70, *]
              · try simp only [decide_eq_true_eq, decide_eq_false_iff_not, beq_iff_eq, bne_iff_ne, beq_eq_false_iff_ne, bne_eq_false_iff_eq, Bool.not_eq_true', Bool.not_eq_false', Bool.not_eq_true, ne_eq, Decidable.not_not] at c66
                refine PW.exit ?_
                refine hK7 _ _ ?_
                refine PW.keep (T' := [(1, _), (2, _), (3, _), (7, _), (8, _), (9, _), (10, _)]) ⟨rfl, rfl, rfl, rfl, rfl, rfl, rfl, trivial⟩ ?_
                refine PW.seqOps ?_
                refine OL.det trivial (Yields.pure rfl) ?_
                refine OL.det trivial (Yields.pure rfl) ?_
                refine OL.nil ?_
                refine PW.keep (T' := [(1, _), (2, _), (3, _), (7, _), (8, _), (9, _), (94, _)]) ⟨rfl, rfl, rfl, rfl, rfl, rfl, rfl, trivial⟩ ?_
                refine PW.cond rfl (fun c94 => ?_) (fun c94 => ?_)
                · try simp only [decide_eq_true_eq, decide_eq_false_iff_not, beq_iff_eq, bne_iff_ne, beq_eq_false_iff_ne, bne_eq_false_iff_eq, Bool.not_eq_true', Bool.not_eq_false', Bool.not_eq_true, ne_eq, Decidable.not_not] at c94
                  exfalso
                  obtain rfl : i = l.length := by omega
                  rw [hb3, hkall _ (List.getElem_mem hkl)] at c94
                  simp at c94
                  -- done
                · try simp only [decide_eq_true_eq, decide_eq_false_iff_not, beq_iff_eq, bne_iff_ne, beq_eq_false_iff_ne, bne_eq_false_iff_eq, Bool.not_eq_true', Bool.not_eq_false', Bool.not_eq_true, ne_eq, Decidable.not_not] at c94
                  refine PW.skip ?_
                  refine hK4 _ _ ?_
                  refine PW.keep (T' := [(1, _), (2, _), (3, _), (7, _), (8, _), (9, _)]) ⟨rfl, rfl, rfl, rfl, rfl, rfl, trivial⟩ ?_
                  refine PW.ops ?_
                  refine OL.det trivial (Yields.pure rfl) ?_
                  refine OL.det trivial (Yields.add64 rfl rfl (by omega) (by omega)) ?_
                  refine OL.det trivial (Yields.pure rfl) ?_
                  refine OL.nil ?_
                  repeat rw [inBlk_n]
                  rw [thenK_n]
                  refine LoopEnd.mk (T'' := [(1, _), (2, _), (3, _), (7, _), (8, _), (9, _)]) ⟨rfl, rfl, rfl, rfl, rfl, rfl, trivial⟩ ?_
                  exact ⟨L.length - (k + 1), by omega, k + 1, b2, ⟨by omega, rfl, hb2⟩, rfl, rfl⟩
            · try simp only [decide_eq_true_eq, decide_eq_false_iff_not, beq_iff_eq, bne_iff_ne, beq_eq_false_iff_ne, bne_eq_false_iff_eq, Bool.not_eq_true', Bool.not_eq_false', Bool.not_eq_true, ne_eq, Decidable.not_not] at g44
              refine QK.det rfl (Yields.pure rfl) ?_
              refine QK.det rfl (Yields.pure rfl) ?_
              refine QK.det rfl (Yields.ixN rfl rfl rfl (by omega)) ?_
              refine QK.det rfl (Yields.ldA rfl rfl (labs_at (hrd32 _) hkl)) ?_
              refine QK.det rfl (Yields.ldA rfl rfl (tab_at (tv := tv) (A := A) (n := l.length) (c := c) (r := r3) (List.mem_flatten.2 ⟨_, .tail _ (.head _), List.mem_singleton.2 rfl⟩))) ?_
              refine QK.det rfl (Yields.pure rfl) ?_
              refine QK.call rfl rfl (find_fc (hx.cons.cons) hw9 hs9 hl9) ?_
              refine QK.nil ?_
              change OL _ _ _ [_, _, _] _ _ _
              refine OL.det rfl (Yields.eqA rfl rfl (eq_lab L[k] (findP l s))) ?_
              refine OL.det trivial (Yields.pure rfl) ?_
              refine OL.det trivial (Yields.pure rfl) ?_
              refine OL.nil ?_
              refine hK5 _ _ ?_
              refine PW.keep (T' := [(1, _), (2, _), (3, _), (7, _), (8, _), (9, _)]) ⟨rfl, rfl, rfl, rfl, rfl, rfl, trivial⟩ ?_
              refine PW.seq fun K10 hK10 => ?_
              refine PW.quietK Tryd.mixed ?_
              refine QK.det trivial (Yields.pure rfl) ?_
              refine QK.det trivial (Yields.pure rfl) ?_
              refine QK.det trivial (Yields.ixN rfl rfl rfl (by omega)) ?_
              refine QK.det trivial (Yields.ldA rfl rfl (labs_at (hrd32 _) hkl)) ?_
              refine QK.det trivial (Yields.ldA rfl rfl (tab_at (tv := tv) (A := A) (n := l.length) (c := c) (r := r3) (List.mem_flatten.2 ⟨_, .tail _ (.head _), List.mem_singleton.2 rfl⟩))) ?_
              refine QK.det trivial (Yields.pure rfl) ?_
              refine QK.call trivial rfl (find_fc (hx.cons.cons) hw9 hp9 hl9) ?_
              refine QK.nil ?_
              change OL _ _ _ [_, _] _ _ _
              refine OL.det trivial (Yields.eqA rfl rfl (eq_lab L[k] (findP l p))) ?_
              refine OL.det trivial (Yields.pure rfl) ?_
              refine OL.nil ?_
              refine hK10 _ _ ?_
              refine PW.keep (T' := [(1, _), (2, _), (3, _), (7, _), (8, _), (9, _), (10, _)]) ⟨rfl, rfl, rfl, rfl, rfl, rfl, rfl, trivial⟩ ?_
              refine PW.seq fun K11 hK11 => ?_
              refine PW.seqOps ?_
              refine OL.det trivial (Yields.pure rfl) ?_
              refine OL.nil ?_
              refine PW.keep (T' := [(1, _), (2, _), (3, _), (7, _), (8, _), (9, _), (10, _), (11, _)]) ⟨rfl, rfl, rfl, rfl, rfl, rfl, rfl, rfl, trivial⟩ ?_
              refine PW.block ?_
              refine PW.keep (T' := [(1, _), (2, _), (3, _), (7, _), (8, _), (9, _), (10, _), (11, _)]) ⟨rfl, rfl, rfl, rfl, rfl, rfl, rfl, rfl, trivial⟩ ?_
              refine PW.loopK (I := fun m T S' => ∃ (i : Nat) (b2 b3 : Bool), (i ≤ l.length ∧ m = l.length - i ∧ b2 = mineP l p s L (k + 1) ∧ b3 = knownP l p L[k] i) ∧ T = ([(1, .string p), (2, .string s), (3, .pointer (some ⟨r3, 0, none⟩)), (7, .slice (some a7) L.length c7), (8, .bool b2), (9, .int .i64 k), (10, .bool b3), (11, .int .i64 i)] : TT) ∧ S' = seg32 :: tseg r3 tv A l.length c :: []) (m := l.length) ⟨0, _, _, ⟨by omega, by omega, by rw [mine_succ hkl, ← hb]; simp [g44], by unfold knownP; simp⟩, rfl, rfl⟩ ?_
              rintro m _ _ ⟨i, b2, b3, ⟨hi, hm2, hb2, hb3⟩, rfl, rfl⟩
              refine PW.seq fun K12 hK12 => ?_
              refine PW.seqOps ?_
              refine OL.det trivial (Yields.pure rfl) ?_
              refine OL.det trivial (Yields.pure rfl) ?_
              refine OL.det trivial (Yields.ld rfl (own_at (j := 1) (c := [.int .i64 tv, .slice A l.length c]) (E := 45) (tot := 2) (List.mem_flatten.2 ⟨_, .tail _ (.head _), List.mem_singleton.2 rfl⟩) rfl)) ?_
              refine OL.det trivial (Yields.pure rfl) ?_
              refine OL.det trivial (Yields.pure rfl) ?_
              refine OL.nil ?_
              refine PW.keep (T' := [(1, _), (2, _), (3, _), (7, _), (8, _), (9, _), (10, _), (11, _), (66, _)]) ⟨rfl, rfl, rfl, rfl, rfl, rfl, rfl, rfl, rfl, trivial⟩ ?_
              refine PW.cond rfl (fun c66 => ?_) (fun c66 => ?_)
              · try simp only [decide_eq_true_eq, decide_eq_false_iff_not, beq_iff_eq, bne_iff_ne, beq_eq_false_iff_ne, bne_eq_false_iff_eq, Bool.not_eq_true', Bool.not_eq_false', Bool.not_eq_true, ne_eq, Decidable.not_not] at c66
                have hil : i < l.length := by omega
                obtain ⟨a0, rfl⟩ := ruls_some hx (by omega)
                have hwi := hw9 _ (List.getElem_mem hil)
                refine PW.skip ?_
                refine hK12 _ _ ?_
                refine PW.keep (T' := [(1, _), (2, _), (3, _), (7, _), (8, _), (9, _), (10, _), (11, _)]) ⟨rfl, rfl, rfl, rfl, rfl, rfl, rfl, rfl, trivial⟩ ?_
                refine PW.seq fun K13 hK13 => ?_
                refine PW.block ?_
                refine PW.quietK Tryd.mixed ?_
                refine QK.det trivial (Yields.pure rfl) ?_
                refine QK.bool trivial (Yields.pure rfl) (fun g70 => ?_) (fun g70 => ?_)
                · try simp only [decide_eq_true_eq, decide_eq_false_iff_not, beq_iff_eq, bne_iff_ne, beq_eq_false_iff_ne, bne_eq_false_iff_eq, Bool.not_eq_true', Bool.not_eq_false', Bool.not_eq_true, ne_eq, Decidable.not_not] at g70
                  refine QK.off rfl rfl ?_
                  refine QK.off rfl rfl ?_
                  refine QK.off rfl rfl ?_
                  refine QK.off rfl rfl ?_
                  refine QK.off rfl rfl ?_
                  refine QK.off rfl rfl ?_
                  refine QK.off rfl rfl ?_
                  refine QK.off rfl rfl ?_
                  refine QK.off rfl rfl ?_
                  refine QK.off rfl rfl ?_
                  refine QK.off rfl rfl ?_
                  refine QK.off rfl rfl ?_
                  refine QK.off rfl rfl ?_
                  refine QK.off rfl rfl ?_
                  refine QK.off rfl rfl ?_
                  refine QK.off rfl rfl ?_
                  refine QK.off rfl rfl ?_
                  refine QK.off rfl rfl ?_
                  refine QK.off rfl rfl ?_
                  refine QK.nil ?_
                  change OL _ _ _ [_, _, _, _] _ _ _
                  refine OL.off rfl rfl ?_
                  refine OL.off rfl rfl ?_
                  refine OL.det trivial (Yields.pure rfl) ?_
                  refine OL.det trivial (Yields.pure rfl) ?_
                  refine OL.nil ?_
                  refine hK13 _ _ ?_
                  refine PW.keep (T' := [(1, _), (2, _), (3, _), (7, _), (8, _), (9, _), (10, _), (11, _)]) ⟨rfl, rfl, rfl, rfl, rfl, rfl, rfl, rfl, trivial⟩ ?_
                  refine PW.ops ?_
                  refine OL.det trivial (Yields.pure rfl) ?_
                  refine OL.det trivial (Yields.add64 rfl rfl (by omega) (by omega)) ?_
                  refine OL.det trivial (Yields.pure rfl) ?_
                  refine OL.nil ?_
                  repeat rw [inBlk_n]
                  rw [thenK_n]
                  refine LoopEnd.mk (T'' := [(1, _), (2, _), (3, _), (7, _), (8, _), (9, _), (10, _), (11, _)]) ⟨rfl, rfl, rfl, rfl, rfl, rfl, rfl, rfl, trivial⟩ ?_
                  refine ⟨l.length - (i + 1), by omega, i + 1, b2, _, ⟨by omega, rfl, hb2, ?_⟩, rfl, rfl⟩
                  rw [known_succ hil, ← hb3]
                  simp [g70, *]
                · try simp only [decide_eq_true_eq, decide_eq_false_iff_not, beq_iff_eq, bne_iff_ne, beq_eq_false_iff_ne, bne_eq_false_iff_eq, Bool.not_eq_true', Bool.not_eq_false', Bool.not_eq_true, ne_eq, Decidable.not_not] at g70
                  refine QK.det rfl (Yields.pure rfl) ?_
                  refine QK.det rfl (Yields.ld rfl (own_at (j := 1) (c := [.int .i64 tv, .slice (some a0) l.length c]) (E := 45) (tot := 2) (List.mem_flatten.2 ⟨_, .tail _ (.head _), List.mem_singleton.2 rfl⟩) rfl)) ?_
                  refine QK.det rfl (Yields.pure rfl) ?_
                  refine QK.det rfl (Yields.ixN rfl rfl rfl (by omega)) ?_
                  refine QK.det rfl (Yields.pure rfl) ?_
                  refine QK.det rfl (Yields.ldA rfl rfl (rlab_at (hx.cons.cons) hil)) ?_
                  refine QK.det rfl (Yields.pure rfl) ?_
                  refine QK.det rfl (Yields.pure rfl) ?_
                  refine QK.det rfl (Yields.ixN rfl rfl rfl (by omega)) ?_
                  refine QK.det rfl (Yields.ldA rfl rfl (labs_at (hrd32 _) hkl)) ?_
                  refine QK.det rfl (Yields.eqA rfl rfl (eq_lab l[i].2 L[k])) ?_
                  refine QK.bool rfl (Yields.pure rfl) (fun g82 => ?_) (fun g82 => ?_)
                  · try simp only [decide_eq_true_eq, decide_eq_false_iff_not, beq_iff_eq, bne_iff_ne, beq_eq_false_iff_ne, bne_eq_false_iff_eq, Bool.not_eq_true', Bool.not_eq_false', Bool.not_eq_true, ne_eq, Decidable.not_not] at g82
                    simp at g82
                    refine QK.det rfl (Yields.pure rfl) ?_
                    refine QK.det rfl (Yields.pure rfl) ?_
                    refine QK.det rfl (Yields.ld rfl (own_at (j := 1) (c := [.int .i64 tv, .slice (some a0) l.length c]) (E := 45) (tot := 2) (List.mem_flatten.2 ⟨_, .tail _ (.head _), List.mem_singleton.2 rfl⟩) rfl)) ?_
                    refine QK.det rfl (Yields.pure rfl) ?_
                    refine QK.det rfl (Yields.ixN rfl rfl rfl (by omega)) ?_
                    refine QK.det rfl (Yields.pure rfl) ?_
                    refine QK.det rfl (Yields.ld rfl (rule_at (hx.cons.cons) hil 0 _ rfl)) ?_
                    refine QK.nil ?_
                    change OL _ _ _ [_, _, _, _] _ _ _
                    refine OL.call rfl rfl (over_fc hp9 hwi) ?_
                    rintro _ Sx ⟨rfl, hSx⟩
                    rw [hSx]
                    clear hSx
                    refine OL.det rfl (Yields.pure rfl) ?_
                    refine OL.det trivial (Yields.pure rfl) ?_
                    refine OL.det trivial (Yields.pure rfl) ?_
                    refine OL.nil ?_
                    refine hK13 _ _ ?_
                    refine PW.keep (T' := [(1, _), (2, _), (3, _), (7, _), (8, _), (9, _), (10, _), (11, _)]) ⟨rfl, rfl, rfl, rfl, rfl, rfl, rfl, rfl, trivial⟩ ?_
                    refine PW.ops ?_
                    refine OL.det trivial (Yields.pure rfl) ?_
                    refine OL.det trivial (Yields.add64 rfl rfl (by omega) (by omega)) ?_
                    refine OL.det trivial (Yields.pure rfl) ?_
                    refine OL.nil ?_
                    repeat rw [inBlk_n]
                    rw [thenK_n]
                    refine LoopEnd.mk (T'' := [(1, _), (2, _), (3, _), (7, _), (8, _), (9, _), (10, _), (11, _)]) ⟨rfl, rfl, rfl, rfl, rfl, rfl, rfl, rfl, trivial⟩ ?_
                    refine ⟨l.length - (i + 1), by omega, i + 1, b2, _, ⟨by omega, rfl, hb2, ?_⟩, rfl, rfl⟩
                    rw [known_succ hil, ← hb3]
                    simp [g70, *]
                  · try simp only [decide_eq_true_eq, decide_eq_false_iff_not, beq_iff_eq, bne_iff_ne, beq_eq_false_iff_ne, bne_eq_false_iff_eq, Bool.not_eq_true', Bool.not_eq_false', Bool.not_eq_true, ne_eq, Decidable.not_not] at g82
                    simp at g82
                    refine QK.off rfl rfl ?_
                    refine QK.off rfl rfl ?_
                    refine QK.off rfl rfl ?_
                    refine QK.off rfl rfl ?_
                    refine QK.off rfl rfl ?_
                    refine QK.off rfl rfl ?_
                    refine QK.off rfl rfl ?_
                    refine QK.nil ?_
                    change OL _ _ _ [_, _, _, _] _ _ _
                    refine OL.off rfl rfl ?_
                    refine OL.det rfl (Yields.pure rfl) ?_
                    refine OL.det trivial (Yields.pure rfl) ?_
                    refine OL.det trivial (Yields.pure rfl) ?_
                    refine OL.nil ?_
                    refine hK13 _ _ ?_
                    refine PW.keep (T' := [(1, _), (2, _), (3, _), (7, _), (8, _), (9, _), (10, _), (11, _)]) ⟨rfl, rfl, rfl, rfl, rfl, rfl, rfl, rfl, trivial⟩ ?_
                    refine PW.ops ?_
                    refine OL.det trivial (Yields.pure rfl) ?_
                    refine OL.det trivial (Yields.add64 rfl rfl (by omega) (by omega)) ?_
                    refine OL.det trivial (Yields.pure rfl) ?_
                    refine OL.nil ?_
                    repeat rw [inBlk_n]
                    rw [thenK_n]
                    refine LoopEnd.mk (T'' := [(1, _), (2, _), (3, _), (7, _), (8, _), (9, _), (10, _), (11, _)]) ⟨rfl, rfl, rfl, rfl, rfl, rfl, rfl, rfl, trivial⟩ ?_
                    refine ⟨l.length - (i + 1), by omega, i + 1, b2, _, ⟨by omega, rfl, hb2, ?_⟩, rfl, rfl⟩
                    rw [known_succ hil, ← hb3]
                    simp [g70, *]
              · try simp only [decide_eq_true_eq, decide_eq_false_iff_not, beq_iff_eq, bne_iff_ne, beq_eq_false_iff_ne, bne_eq_false_iff_eq, Bool.not_eq_true', Bool.not_eq_false', Bool.not_eq_true, ne_eq, Decidable.not_not] at c66
                refine PW.exit ?_
                refine hK11 _ _ ?_
                refine PW.keep (T' := [(1, _), (2, _), (3, _), (7, _), (8, _), (9, _), (10, _)]) ⟨rfl, rfl, rfl, rfl, rfl, rfl, rfl, trivial⟩ ?_
                refine PW.seqOps ?_
                refine OL.det trivial (Yields.pure rfl) ?_
                refine OL.det trivial (Yields.pure rfl) ?_
                refine OL.nil ?_
                refine PW.keep (T' := [(1, _), (2, _), (3, _), (7, _), (8, _), (9, _), (94, _)]) ⟨rfl, rfl, rfl, rfl, rfl, rfl, rfl, trivial⟩ ?_
                refine PW.cond rfl (fun c94 => ?_) (fun c94 => ?_)
                · try simp only [decide_eq_true_eq, decide_eq_false_iff_not, beq_iff_eq, bne_iff_ne, beq_eq_false_iff_ne, bne_eq_false_iff_eq, Bool.not_eq_true', Bool.not_eq_false', Bool.not_eq_true, ne_eq, Decidable.not_not] at c94
                  exfalso
                  obtain rfl : i = l.length := by omega
                  rw [hb3, hkall _ (List.getElem_mem hkl)] at c94
                  simp at c94
                  -- done
                · try simp only [decide_eq_true_eq, decide_eq_false_iff_not, beq_iff_eq, bne_iff_ne, beq_eq_false_iff_ne, bne_eq_false_iff_eq, Bool.not_eq_true', Bool.not_eq_false', Bool.not_eq_true, ne_eq, Decidable.not_not] at c94
                  refine PW.skip ?_
                  refine hK4 _ _ ?_
                  refine PW.keep (T' := [(1, _), (2, _), (3, _), (7, _), (8, _), (9, _)]) ⟨rfl, rfl, rfl, rfl, rfl, rfl, trivial⟩ ?_
                  refine PW.ops ?_
                  refine OL.det trivial (Yields.pure rfl) ?_
                  refine OL.det trivial (Yields.add64 rfl rfl (by omega) (by omega)) ?_
                  refine OL.det trivial (Yields.pure rfl) ?_
                  refine OL.nil ?_
                  repeat rw [inBlk_n]
                  rw [thenK_n]
                  refine LoopEnd.mk (T'' := [(1, _), (2, _), (3, _), (7, _), (8, _), (9, _)]) ⟨rfl, rfl, rfl, rfl, rfl, rfl, trivial⟩ ?_
                  exact ⟨L.length - (k + 1), by omega, k + 1, b2, ⟨by omega, rfl, hb2⟩, rfl, rfl⟩
          · try simp only [decide_eq_true_eq, decide_eq_false_iff_not, beq_iff_eq, bne_iff_ne, beq_eq_false_iff_ne, bne_eq_false_iff_eq, Bool.not_eq_true', Bool.not_eq_false', Bool.not_eq_true, ne_eq, Decidable.not_not] at c40
            refine PW.exit ?_
            refine hK2 _ _ ?_
            refine PW.keep (T' := [(8, _)]) ⟨rfl, trivial⟩ ?_
            refine PW.seqOps ?_
            refine OL.det trivial (Yields.pure rfl) ?_
            refine OL.bool trivial (Yields.pure rfl) (fun g96 => ?_) (fun g96 => ?_)
            · try simp only [decide_eq_true_eq, decide_eq_false_iff_not, beq_iff_eq, bne_iff_ne, beq_eq_false_iff_ne, bne_eq_false_iff_eq, Bool.not_eq_true', Bool.not_eq_false', Bool.not_eq_true, ne_eq, Decidable.not_not] at g96
              refine OL.call rfl rfl (rawake_fc) ?_
              rintro _ _ ⟨rfl, _⟩
              refine OL.det trivial (Yields.pure rfl) ?_
              refine OL.det trivial (Yields.pure rfl) ?_
              refine OL.nil ?_
              refine PW.keep (T' := [(6, _)]) ⟨rfl, trivial⟩ ?_
              refine PW.ret ?_
              change (Exit.ret = Exit.normal ∨ Exit.ret = Exit.ret) ∧ ∃ v, resV _ _ = some v ∧ _
              exact ⟨.inr rfl, _, rfl, rfl⟩
            · try simp only [decide_eq_true_eq, decide_eq_false_iff_not, beq_iff_eq, bne_iff_ne, beq_eq_false_iff_ne, bne_eq_false_iff_eq, Bool.not_eq_true', Bool.not_eq_false', Bool.not_eq_true, ne_eq, Decidable.not_not] at g96
              exfalso
              obtain rfl : k = L.length := by omega
              rw [hb, hmall] at g96
              cases g96
              -- done
      · try simp only [decide_eq_true_eq, decide_eq_false_iff_not, beq_iff_eq, bne_iff_ne, beq_eq_false_iff_ne, bne_eq_false_iff_eq, Bool.not_eq_true', Bool.not_eq_false', Bool.not_eq_true, ne_eq, Decidable.not_not] at g23
        rw [toL_inj] at g23
        have hp0 : p = ⟨#[]⟩ ∨ isP p = true := .inl g23
        refine OL.off rfl rfl ?_
        refine OL.off rfl rfl ?_
        refine OL.off rfl rfl ?_
        refine OL.det rfl (Yields.pure rfl) ?_
        refine OL.det trivial (Yields.pure rfl) ?_
        refine OL.nil ?_
        refine PW.keep (T' := [(1, _), (2, _), (3, _), (28, _)]) ⟨rfl, rfl, rfl, rfl, trivial⟩ ?_
        refine PW.ite (b := false) rfl ?_
        rw [if_neg Bool.false_ne_true]
        refine PW.skip ?_
        refine hK1 _ _ ?_
        refine PW.keep (T' := [(1, _), (2, _), (3, _)]) ⟨rfl, rfl, rfl, trivial⟩ ?_
        refine PW.seqOps ?_
        have hl9 : l.length ≤ 1000000000 := by omega
        have hp9 : p.size ≤ 1000000000 := by omega
        have hs9 : s.size ≤ 1000000000 := by omega
        refine OL.det trivial (Yields.ldA rfl rfl (tab_at (tv := tv) (A := A) (n := l.length) (c := c) (r := r3) (List.mem_flatten.2 ⟨_, .head _, List.mem_singleton.2 rfl⟩))) ?_
        refine OL.det trivial (Yields.pure rfl) ?_
        refine OL.call trivial rfl (touched_fc hx.cons hw9 hp9 hl9) ?_
        rintro _ _ ⟨A7, c7, seg32, rfl, rfl, hrd32⟩
        have hkall : ∀ x ∈ refS (touP l p), knownP l p x l.length = true := fun x h => known_all h
        have hmall : mineP l p s (refS (touP l p)) (refS (touP l p)).length = true := mine_all hp0
        have hLb : (refS (touP l p)).length ≤ l.length + 1 := by
          have h1 := refS_len (l := touP l p) _ (Nat.le_refl _)
          have h2 := touK_len (l := l) (p := p) (Nat.le_refl _)
          rw [List.take_length] at h1
          exact Nat.le_trans h1 h2
        generalize refS (touP l p) = L at *
        refine OL.det trivial (Yields.pure rfl) ?_
        refine OL.nil ?_
        refine PW.keep (T' := [(1, _), (2, _), (3, _), (7, _)]) ⟨rfl, rfl, rfl, rfl, trivial⟩ ?_
        refine PW.seqOps ?_
        refine OL.det trivial (Yields.pure rfl) ?_
        refine OL.det trivial (Yields.pure rfl) ?_
        refine OL.call trivial rfl (over_fc hp9 hs9) ?_
        rintro _ Sx ⟨rfl, hSx⟩
        rw [hSx]
        clear hSx
        refine OL.det trivial (Yields.pure rfl) ?_
        refine OL.det trivial (Yields.pure rfl) ?_
        refine OL.nil ?_
        refine PW.keep (T' := [(1, _), (2, _), (3, _), (7, _), (8, _)]) ⟨rfl, rfl, rfl, rfl, rfl, trivial⟩ ?_
        refine PW.seq fun K14 hK14 => ?_
        refine PW.seqOps ?_
        refine OL.det trivial (Yields.pure rfl) ?_
        refine OL.nil ?_
        refine PW.keep (T' := [(1, _), (2, _), (3, _), (7, _), (8, _), (9, _)]) ⟨rfl, rfl, rfl, rfl, rfl, rfl, trivial⟩ ?_
        refine PW.block ?_
        refine PW.keep (T' := [(1, _), (2, _), (3, _), (7, _), (8, _), (9, _)]) ⟨rfl, rfl, rfl, rfl, rfl, rfl, trivial⟩ ?_
        refine PW.loopK (I := fun m T S' => ∃ (k : Nat) (b : Bool), (k ≤ L.length ∧ m = L.length - k ∧ b = mineP l p s L k) ∧ T = ([(1, .string p), (2, .string s), (3, .pointer (some ⟨r3, 0, none⟩)), (7, .slice A7 L.length c7), (8, .bool b), (9, .int .i64 k)] : TT) ∧ S' = seg32 :: tseg r3 tv A l.length c :: []) (m := L.length) ⟨0, _, ⟨by omega, by omega, by unfold mineP; simp⟩, rfl, rfl⟩ ?_
        rintro m _ _ ⟨k, b, ⟨hk, hm, hb⟩, rfl, rfl⟩
        refine PW.seq fun K15 hK15 => ?_
        refine PW.seqOps ?_
        refine OL.det trivial (Yields.pure rfl) ?_
        refine OL.det trivial (Yields.pure rfl) ?_
        refine OL.det trivial (Yields.pure rfl) ?_
        refine OL.det trivial (Yields.pure rfl) ?_
        refine OL.nil ?_
        refine PW.keep (T' := [(1, _), (2, _), (3, _), (7, _), (8, _), (9, _), (40, _)]) ⟨rfl, rfl, rfl, rfl, rfl, rfl, rfl, trivial⟩ ?_
        refine PW.cond rfl (fun c40 => ?_) (fun c40 => ?_)
        · try simp only [decide_eq_true_eq, decide_eq_false_iff_not, beq_iff_eq, bne_iff_ne, beq_eq_false_iff_ne, bne_eq_false_iff_eq, Bool.not_eq_true', Bool.not_eq_false', Bool.not_eq_true, ne_eq, Decidable.not_not] at c40
          have hkl : k < L.length := by omega
          obtain ⟨a7, rfl⟩ := labs_some (hrd32 []) (by omega)
          refine PW.skip ?_
          refine hK15 _ _ ?_
          refine PW.keep (T' := [(1, _), (2, _), (3, _), (7, _), (8, _), (9, _)]) ⟨rfl, rfl, rfl, rfl, rfl, rfl, trivial⟩ ?_
          refine PW.seq fun K16 hK16 => ?_
          refine PW.block ?_
          refine PW.seq fun K17 hK17 => ?_
          refine PW.quietK Tryd.mixed ?_
          refine QK.det trivial (Yields.pure rfl) ?_
          refine QK.bool trivial (Yields.pure rfl) (fun g44 => ?_) (fun g44 => ?_)
          · try simp only [decide_eq_true_eq, decide_eq_false_iff_not, beq_iff_eq, bne_iff_ne, beq_eq_false_iff_ne, bne_eq_false_iff_eq, Bool.not_eq_true', Bool.not_eq_false', Bool.not_eq_true, ne_eq, Decidable.not_not] at g44
            refine QK.off rfl rfl ?_
            refine QK.off rfl rfl ?_
            refine QK.off rfl rfl ?_
            refine QK.off rfl rfl ?_
            refine QK.off rfl rfl ?_
            refine QK.off rfl rfl ?_
            refine QK.off rfl rfl ?_
            refine QK.nil ?_
            change OL _ _ _ [_, _, _] _ _ _
            refine OL.off rfl rfl ?_
            refine OL.det trivial (Yields.pure rfl) ?_
            refine OL.det trivial (Yields.pure rfl) ?_
            refine OL.nil ?_
            refine hK17 _ _ ?_
            refine PW.keep (T' := [(1, _), (2, _), (3, _), (7, _), (8, _), (9, _)]) ⟨rfl, rfl, rfl, rfl, rfl, rfl, trivial⟩ ?_
            refine PW.seq fun K18 hK18 => ?_
            refine PW.quietK Tryd.mixed ?_
            refine QK.det trivial (Yields.pure rfl) ?_
            refine QK.det trivial (Yields.pure rfl) ?_
            refine QK.det trivial (Yields.ixN rfl rfl rfl (by omega)) ?_
            refine QK.det trivial (Yields.ldA rfl rfl (labs_at (hrd32 _) hkl)) ?_
            refine QK.det trivial (Yields.ldA rfl rfl (tab_at (tv := tv) (A := A) (n := l.length) (c := c) (r := r3) (List.mem_flatten.2 ⟨_, .tail _ (.head _), List.mem_singleton.2 rfl⟩))) ?_
            refine QK.det trivial (Yields.pure rfl) ?_
            refine QK.call trivial rfl (find_fc (hx.cons.cons) hw9 hp9 hl9) ?_
            refine QK.nil ?_
            change OL _ _ _ [_, _] _ _ _
            refine OL.det trivial (Yields.eqA rfl rfl (eq_lab L[k] (findP l p))) ?_
            refine OL.det trivial (Yields.pure rfl) ?_
            refine OL.nil ?_
            refine hK18 _ _ ?_
            refine PW.keep (T' := [(1, _), (2, _), (3, _), (7, _), (8, _), (9, _), (10, _)]) ⟨rfl, rfl, rfl, rfl, rfl, rfl, rfl, trivial⟩ ?_
            refine PW.seq fun K19 hK19 => ?_
            refine PW.seqOps ?_
            refine OL.det trivial (Yields.pure rfl) ?_
            refine OL.nil ?_
            refine PW.keep (T' := [(1, _), (2, _), (3, _), (7, _), (8, _), (9, _), (10, _), (11, _)]) ⟨rfl, rfl, rfl, rfl, rfl, rfl, rfl, rfl, trivial⟩ ?_
            refine PW.block ?_
            refine PW.keep (T' := [(1, _), (2, _), (3, _), (7, _), (8, _), (9, _), (10, _), (11, _)]) ⟨rfl, rfl, rfl, rfl, rfl, rfl, rfl, rfl, trivial⟩ ?_
            refine PW.loopK (I := fun m T S' => ∃ (i : Nat) (b2 b3 : Bool), (i ≤ l.length ∧ m = l.length - i ∧ b2 = mineP l p s L (k + 1) ∧ b3 = knownP l p L[k] i) ∧ T = ([(1, .string p), (2, .string s), (3, .pointer (some ⟨r3, 0, none⟩)), (7, .slice (some a7) L.length c7), (8, .bool b2), (9, .int .i64 k), (10, .bool b3), (11, .int .i64 i)] : TT) ∧ S' = seg32 :: tseg r3 tv A l.length c :: []) (m := l.length) ⟨0, _, _, ⟨by omega, by omega, by rw [mine_succ hkl, ← hb]; simp [g44], by unfold knownP; simp⟩, rfl, rfl⟩ ?_
            rintro m _ _ ⟨i, b2, b3, ⟨hi, hm2, hb2, hb3⟩, rfl, rfl⟩
            refine PW.seq fun K20 hK20 => ?_
            refine PW.seqOps ?_
            refine OL.det trivial (Yields.pure rfl) ?_
            refine OL.det trivial (Yields.pure rfl) ?_
            refine OL.det trivial (Yields.ld rfl (own_at (j := 1) (c := [.int .i64 tv, .slice A l.length c]) (E := 45) (tot := 2) (List.mem_flatten.2 ⟨_, .tail _ (.head _), List.mem_singleton.2 rfl⟩) rfl)) ?_
            refine OL.det trivial (Yields.pure rfl) ?_
            refine OL.det trivial (Yields.pure rfl) ?_
            refine OL.nil ?_
            refine PW.keep (T' := [(1, _), (2, _), (3, _), (7, _), (8, _), (9, _), (10, _), (11, _), (66, _)]) ⟨rfl, rfl, rfl, rfl, rfl, rfl, rfl, rfl, rfl, trivial⟩ ?_
            refine PW.cond rfl (fun c66 => ?_) (fun c66 => ?_)
            · try simp only [decide_eq_true_eq, decide_eq_false_iff_not, beq_iff_eq, bne_iff_ne, beq_eq_false_iff_ne, bne_eq_false_iff_eq, Bool.not_eq_true', Bool.not_eq_false', Bool.not_eq_true, ne_eq, Decidable.not_not] at c66
              have hil : i < l.length := by omega
              obtain ⟨a0, rfl⟩ := ruls_some hx (by omega)
              have hwi := hw9 _ (List.getElem_mem hil)
              refine PW.skip ?_
              refine hK20 _ _ ?_
              refine PW.keep (T' := [(1, _), (2, _), (3, _), (7, _), (8, _), (9, _), (10, _), (11, _)]) ⟨rfl, rfl, rfl, rfl, rfl, rfl, rfl, rfl, trivial⟩ ?_
              refine PW.seq fun K21 hK21 => ?_
              refine PW.block ?_
              refine PW.quietK Tryd.mixed ?_
              refine QK.det trivial (Yields.pure rfl) ?_
              refine QK.bool trivial (Yields.pure rfl) (fun g70 => ?_) (fun g70 => ?_)
              · try simp only [decide_eq_true_eq, decide_eq_false_iff_not, beq_iff_eq, bne_iff_ne, beq_eq_false_iff_ne, bne_eq_false_iff_eq, Bool.not_eq_true', Bool.not_eq_false', Bool.not_eq_true, ne_eq, Decidable.not_not] at g70
                refine QK.off rfl rfl ?_
                refine QK.off rfl rfl ?_
                refine QK.off rfl rfl ?_
                refine QK.off rfl rfl ?_
                refine QK.off rfl rfl ?_
                refine QK.off rfl rfl ?_
                refine QK.off rfl rfl ?_
                refine QK.off rfl rfl ?_
                refine QK.off rfl rfl ?_
                refine QK.off rfl rfl ?_
                refine QK.off rfl rfl ?_
                refine QK.off rfl rfl ?_
                refine QK.off rfl rfl ?_
                refine QK.off rfl rfl ?_
                refine QK.off rfl rfl ?_
                refine QK.off rfl rfl ?_
                refine QK.off rfl rfl ?_
                refine QK.off rfl rfl ?_
                refine QK.off rfl rfl ?_
                refine QK.nil ?_
                change OL _ _ _ [_, _, _, _] _ _ _
                refine OL.off rfl rfl ?_
                refine OL.off rfl rfl ?_
                refine OL.det trivial (Yields.pure rfl) ?_
                refine OL.det trivial (Yields.pure rfl) ?_
                refine OL.nil ?_
                refine hK21 _ _ ?_
                refine PW.keep (T' := [(1, _), (2, _), (3, _), (7, _), (8, _), (9, _), (10, _), (11, _)]) ⟨rfl, rfl, rfl, rfl, rfl, rfl, rfl, rfl, trivial⟩ ?_
                refine PW.ops ?_
                refine OL.det trivial (Yields.pure rfl) ?_
                refine OL.det trivial (Yields.add64 rfl rfl (by omega) (by omega)) ?_
                refine OL.det trivial (Yields.pure rfl) ?_
                refine OL.nil ?_
                repeat rw [inBlk_n]
                rw [thenK_n]
                refine LoopEnd.mk (T'' := [(1, _), (2, _), (3, _), (7, _), (8, _), (9, _), (10, _), (11, _)]) ⟨rfl, rfl, rfl, rfl, rfl, rfl, rfl, rfl, trivial⟩ ?_
                refine ⟨l.length - (i + 1), by omega, i + 1, b2, _, ⟨by omega, rfl, hb2, ?_⟩, rfl, rfl⟩
                rw [known_succ hil, ← hb3]
                simp [g70, *]
              · try simp only [decide_eq_true_eq, decide_eq_false_iff_not, beq_iff_eq, bne_iff_ne, beq_eq_false_iff_ne, bne_eq_false_iff_eq, Bool.not_eq_true', Bool.not_eq_false', Bool.not_eq_true, ne_eq, Decidable.not_not] at g70
                refine QK.det rfl (Yields.pure rfl) ?_
                refine QK.det rfl (Yields.ld rfl (own_at (j := 1) (c := [.int .i64 tv, .slice (some a0) l.length c]) (E := 45) (tot := 2) (List.mem_flatten.2 ⟨_, .tail _ (.head _), List.mem_singleton.2 rfl⟩) rfl)) ?_
                refine QK.det rfl (Yields.pure rfl) ?_
                refine QK.det rfl (Yields.ixN rfl rfl rfl (by omega)) ?_
                refine QK.det rfl (Yields.pure rfl) ?_
                refine QK.det rfl (Yields.ldA rfl rfl (rlab_at (hx.cons.cons) hil)) ?_
                refine QK.det rfl (Yields.pure rfl) ?_
                refine QK.det rfl (Yields.pure rfl) ?_
                refine QK.det rfl (Yields.ixN rfl rfl rfl (by omega)) ?_
                refine QK.det rfl (Yields.ldA rfl rfl (labs_at (hrd32 _) hkl)) ?_
                refine QK.det rfl (Yields.eqA rfl rfl (eq_lab l[i].2 L[k])) ?_
                refine QK.bool rfl (Yields.pure rfl) (fun g82 => ?_) (fun g82 => ?_)
                · try simp only [decide_eq_true_eq, decide_eq_false_iff_not, beq_iff_eq, bne_iff_ne, beq_eq_false_iff_ne, bne_eq_false_iff_eq, Bool.not_eq_true', Bool.not_eq_false', Bool.not_eq_true, ne_eq, Decidable.not_not] at g82
                  simp at g82
                  refine QK.det rfl (Yields.pure rfl) ?_
                  refine QK.det rfl (Yields.pure rfl) ?_
                  refine QK.det rfl (Yields.ld rfl (own_at (j := 1) (c := [.int .i64 tv, .slice (some a0) l.length c]) (E := 45) (tot := 2) (List.mem_flatten.2 ⟨_, .tail _ (.head _), List.mem_singleton.2 rfl⟩) rfl)) ?_
                  refine QK.det rfl (Yields.pure rfl) ?_
                  refine QK.det rfl (Yields.ixN rfl rfl rfl (by omega)) ?_
                  refine QK.det rfl (Yields.pure rfl) ?_
                  refine QK.det rfl (Yields.ld rfl (rule_at (hx.cons.cons) hil 0 _ rfl)) ?_
                  refine QK.nil ?_
                  change OL _ _ _ [_, _, _, _] _ _ _
                  refine OL.call rfl rfl (over_fc hp9 hwi) ?_
                  rintro _ Sx ⟨rfl, hSx⟩
                  rw [hSx]
                  clear hSx
                  refine OL.det rfl (Yields.pure rfl) ?_
                  refine OL.det trivial (Yields.pure rfl) ?_
                  refine OL.det trivial (Yields.pure rfl) ?_
                  refine OL.nil ?_
                  refine hK21 _ _ ?_
                  refine PW.keep (T' := [(1, _), (2, _), (3, _), (7, _), (8, _), (9, _), (10, _), (11, _)]) ⟨rfl, rfl, rfl, rfl, rfl, rfl, rfl, rfl, trivial⟩ ?_
                  refine PW.ops ?_
                  refine OL.det trivial (Yields.pure rfl) ?_
                  refine OL.det trivial (Yields.add64 rfl rfl (by omega) (by omega)) ?_
                  refine OL.det trivial (Yields.pure rfl) ?_
                  refine OL.nil ?_
                  repeat rw [inBlk_n]
                  rw [thenK_n]
                  refine LoopEnd.mk (T'' := [(1, _), (2, _), (3, _), (7, _), (8, _), (9, _), (10, _), (11, _)]) ⟨rfl, rfl, rfl, rfl, rfl, rfl, rfl, rfl, trivial⟩ ?_
                  refine ⟨l.length - (i + 1), by omega, i + 1, b2, _, ⟨by omega, rfl, hb2, ?_⟩, rfl, rfl⟩
                  rw [known_succ hil, ← hb3]
                  simp [g70, *]
                · try simp only [decide_eq_true_eq, decide_eq_false_iff_not, beq_iff_eq, bne_iff_ne, beq_eq_false_iff_ne, bne_eq_false_iff_eq, Bool.not_eq_true', Bool.not_eq_false', Bool.not_eq_true, ne_eq, Decidable.not_not] at g82
                  simp at g82
                  refine QK.off rfl rfl ?_
                  refine QK.off rfl rfl ?_
                  refine QK.off rfl rfl ?_
                  refine QK.off rfl rfl ?_
                  refine QK.off rfl rfl ?_
                  refine QK.off rfl rfl ?_
                  refine QK.off rfl rfl ?_
                  refine QK.nil ?_
                  change OL _ _ _ [_, _, _, _] _ _ _
                  refine OL.off rfl rfl ?_
                  refine OL.det rfl (Yields.pure rfl) ?_
                  refine OL.det trivial (Yields.pure rfl) ?_
                  refine OL.det trivial (Yields.pure rfl) ?_
                  refine OL.nil ?_
                  refine hK21 _ _ ?_
                  refine PW.keep (T' := [(1, _), (2, _), (3, _), (7, _), (8, _), (9, _), (10, _), (11, _)]) ⟨rfl, rfl, rfl, rfl, rfl, rfl, rfl, rfl, trivial⟩ ?_
                  refine PW.ops ?_
                  refine OL.det trivial (Yields.pure rfl) ?_
                  refine OL.det trivial (Yields.add64 rfl rfl (by omega) (by omega)) ?_
                  refine OL.det trivial (Yields.pure rfl) ?_
                  refine OL.nil ?_
                  repeat rw [inBlk_n]
                  rw [thenK_n]
                  refine LoopEnd.mk (T'' := [(1, _), (2, _), (3, _), (7, _), (8, _), (9, _), (10, _), (11, _)]) ⟨rfl, rfl, rfl, rfl, rfl, rfl, rfl, rfl, trivial⟩ ?_
                  refine ⟨l.length - (i + 1), by omega, i + 1, b2, _, ⟨by omega, rfl, hb2, ?_⟩, rfl, rfl⟩
                  rw [known_succ hil, ← hb3]
                  simp [g70, *]
            · try simp only [decide_eq_true_eq, decide_eq_false_iff_not, beq_iff_eq, bne_iff_ne, beq_eq_false_iff_ne, bne_eq_false_iff_eq, Bool.not_eq_true', Bool.not_eq_false', Bool.not_eq_true, ne_eq, Decidable.not_not] at c66
              refine PW.exit ?_
              refine hK19 _ _ ?_
              refine PW.keep (T' := [(1, _), (2, _), (3, _), (7, _), (8, _), (9, _), (10, _)]) ⟨rfl, rfl, rfl, rfl, rfl, rfl, rfl, trivial⟩ ?_
              refine PW.seqOps ?_
              refine OL.det trivial (Yields.pure rfl) ?_
              refine OL.det trivial (Yields.pure rfl) ?_
              refine OL.nil ?_
              refine PW.keep (T' := [(1, _), (2, _), (3, _), (7, _), (8, _), (9, _), (94, _)]) ⟨rfl, rfl, rfl, rfl, rfl, rfl, rfl, trivial⟩ ?_
              refine PW.cond rfl (fun c94 => ?_) (fun c94 => ?_)
              · try simp only [decide_eq_true_eq, decide_eq_false_iff_not, beq_iff_eq, bne_iff_ne, beq_eq_false_iff_ne, bne_eq_false_iff_eq, Bool.not_eq_true', Bool.not_eq_false', Bool.not_eq_true, ne_eq, Decidable.not_not] at c94
                exfalso
                obtain rfl : i = l.length := by omega
                rw [hb3, hkall _ (List.getElem_mem hkl)] at c94
                simp at c94
                -- done
              · try simp only [decide_eq_true_eq, decide_eq_false_iff_not, beq_iff_eq, bne_iff_ne, beq_eq_false_iff_ne, bne_eq_false_iff_eq, Bool.not_eq_true', Bool.not_eq_false', Bool.not_eq_true, ne_eq, Decidable.not_not] at c94
                refine PW.skip ?_
                refine hK16 _ _ ?_
                refine PW.keep (T' := [(1, _), (2, _), (3, _), (7, _), (8, _), (9, _)]) ⟨rfl, rfl, rfl, rfl, rfl, rfl, trivial⟩ ?_
                refine PW.ops ?_
                refine OL.det trivial (Yields.pure rfl) ?_
                refine OL.det trivial (Yields.add64 rfl rfl (by omega) (by omega)) ?_
                refine OL.det trivial (Yields.pure rfl) ?_
                refine OL.nil ?_
                repeat rw [inBlk_n]
                rw [thenK_n]
                refine LoopEnd.mk (T'' := [(1, _), (2, _), (3, _), (7, _), (8, _), (9, _)]) ⟨rfl, rfl, rfl, rfl, rfl, rfl, trivial⟩ ?_
                exact ⟨L.length - (k + 1), by omega, k + 1, b2, ⟨by omega, rfl, hb2⟩, rfl, rfl⟩
          · try simp only [decide_eq_true_eq, decide_eq_false_iff_not, beq_iff_eq, bne_iff_ne, beq_eq_false_iff_ne, bne_eq_false_iff_eq, Bool.not_eq_true', Bool.not_eq_false', Bool.not_eq_true, ne_eq, Decidable.not_not] at g44
            refine QK.det rfl (Yields.pure rfl) ?_
            refine QK.det rfl (Yields.pure rfl) ?_
            refine QK.det rfl (Yields.ixN rfl rfl rfl (by omega)) ?_
            refine QK.det rfl (Yields.ldA rfl rfl (labs_at (hrd32 _) hkl)) ?_
            refine QK.det rfl (Yields.ldA rfl rfl (tab_at (tv := tv) (A := A) (n := l.length) (c := c) (r := r3) (List.mem_flatten.2 ⟨_, .tail _ (.head _), List.mem_singleton.2 rfl⟩))) ?_
            refine QK.det rfl (Yields.pure rfl) ?_
            refine QK.call rfl rfl (find_fc (hx.cons.cons) hw9 hs9 hl9) ?_
            refine QK.nil ?_
            change OL _ _ _ [_, _, _] _ _ _
            refine OL.det rfl (Yields.eqA rfl rfl (eq_lab L[k] (findP l s))) ?_
            refine OL.det trivial (Yields.pure rfl) ?_
            refine OL.det trivial (Yields.pure rfl) ?_
            refine OL.nil ?_
            refine hK17 _ _ ?_
            refine PW.keep (T' := [(1, _), (2, _), (3, _), (7, _), (8, _), (9, _)]) ⟨rfl, rfl, rfl, rfl, rfl, rfl, trivial⟩ ?_
            refine PW.seq fun K22 hK22 => ?_
            refine PW.quietK Tryd.mixed ?_
            refine QK.det trivial (Yields.pure rfl) ?_
            refine QK.det trivial (Yields.pure rfl) ?_
            refine QK.det trivial (Yields.ixN rfl rfl rfl (by omega)) ?_
            refine QK.det trivial (Yields.ldA rfl rfl (labs_at (hrd32 _) hkl)) ?_
            refine QK.det trivial (Yields.ldA rfl rfl (tab_at (tv := tv) (A := A) (n := l.length) (c := c) (r := r3) (List.mem_flatten.2 ⟨_, .tail _ (.head _), List.mem_singleton.2 rfl⟩))) ?_
            refine QK.det trivial (Yields.pure rfl) ?_
            refine QK.call trivial rfl (find_fc (hx.cons.cons) hw9 hp9 hl9) ?_
            refine QK.nil ?_
            change OL _ _ _ [_, _] _ _ _
            refine OL.det trivial (Yields.eqA rfl rfl (eq_lab L[k] (findP l p))) ?_
            refine OL.det trivial (Yields.pure rfl) ?_
            refine OL.nil ?_
            refine hK22 _ _ ?_
            refine PW.keep (T' := [(1, _), (2, _), (3, _), (7, _), (8, _), (9, _), (10, _)]) ⟨rfl, rfl, rfl, rfl, rfl, rfl, rfl, trivial⟩ ?_
            refine PW.seq fun K23 hK23 => ?_
            refine PW.seqOps ?_
            refine OL.det trivial (Yields.pure rfl) ?_
            refine OL.nil ?_
            refine PW.keep (T' := [(1, _), (2, _), (3, _), (7, _), (8, _), (9, _), (10, _), (11, _)]) ⟨rfl, rfl, rfl, rfl, rfl, rfl, rfl, rfl, trivial⟩ ?_
            refine PW.block ?_
            refine PW.keep (T' := [(1, _), (2, _), (3, _), (7, _), (8, _), (9, _), (10, _), (11, _)]) ⟨rfl, rfl, rfl, rfl, rfl, rfl, rfl, rfl, trivial⟩ ?_
            refine PW.loopK (I := fun m T S' => ∃ (i : Nat) (b2 b3 : Bool), (i ≤ l.length ∧ m = l.length - i ∧ b2 = mineP l p s L (k + 1) ∧ b3 = knownP l p L[k] i) ∧ T = ([(1, .string p), (2, .string s), (3, .pointer (some ⟨r3, 0, none⟩)), (7, .slice (some a7) L.length c7), (8, .bool b2), (9, .int .i64 k), (10, .bool b3), (11, .int .i64 i)] : TT) ∧ S' = seg32 :: tseg r3 tv A l.length c :: []) (m := l.length) ⟨0, _, _, ⟨by omega, by omega, by rw [mine_succ hkl, ← hb]; simp [g44], by unfold knownP; simp⟩, rfl, rfl⟩ ?_
            rintro m _ _ ⟨i, b2, b3, ⟨hi, hm2, hb2, hb3⟩, rfl, rfl⟩
            refine PW.seq fun K24 hK24 => ?_
            refine PW.seqOps ?_
            refine OL.det trivial (Yields.pure rfl) ?_
            refine OL.det trivial (Yields.pure rfl) ?_
            refine OL.det trivial (Yields.ld rfl (own_at (j := 1) (c := [.int .i64 tv, .slice A l.length c]) (E := 45) (tot := 2) (List.mem_flatten.2 ⟨_, .tail _ (.head _), List.mem_singleton.2 rfl⟩) rfl)) ?_
            refine OL.det trivial (Yields.pure rfl) ?_
            refine OL.det trivial (Yields.pure rfl) ?_
            refine OL.nil ?_
            refine PW.keep (T' := [(1, _), (2, _), (3, _), (7, _), (8, _), (9, _), (10, _), (11, _), (66, _)]) ⟨rfl, rfl, rfl, rfl, rfl, rfl, rfl, rfl, rfl, trivial⟩ ?_
            refine PW.cond rfl (fun c66 => ?_) (fun c66 => ?_)
            · try simp only [decide_eq_true_eq, decide_eq_false_iff_not, beq_iff_eq, bne_iff_ne, beq_eq_false_iff_ne, bne_eq_false_iff_eq, Bool.not_eq_true', Bool.not_eq_false', Bool.not_eq_true, ne_eq, Decidable.not_not] at c66
              have hil : i < l.length := by omega
              obtain ⟨a0, rfl⟩ := ruls_some hx (by omega)
              have hwi := hw9 _ (List.getElem_mem hil)
              refine PW.skip ?_
              refine hK24 _ _ ?_
              refine PW.keep (T' := [(1, _), (2, _), (3, _), (7, _), (8, _), (9, _), (10, _), (11, _)]) ⟨rfl, rfl, rfl, rfl, rfl, rfl, rfl, rfl, trivial⟩ ?_
              refine PW.seq fun K25 hK25 => ?_
              refine PW.block ?_
              refine PW.quietK Tryd.mixed ?_
              refine QK.det trivial (Yields.pure rfl) ?_
              refine QK.bool trivial (Yields.pure rfl) (fun g70 => ?_) (fun g70 => ?_)
              · try simp only [decide_eq_true_eq, decide_eq_false_iff_not, beq_iff_eq, bne_iff_ne, beq_eq_false_iff_ne, bne_eq_false_iff_eq, Bool.not_eq_true', Bool.not_eq_false', Bool.not_eq_true, ne_eq, Decidable.not_not] at g70
                refine QK.off rfl rfl ?_
                refine QK.off rfl rfl ?_
                refine QK.off rfl rfl ?_
                refine QK.off rfl rfl ?_
                refine QK.off rfl rfl ?_
                refine QK.off rfl rfl ?_
                refine QK.off rfl rfl ?_
                refine QK.off rfl rfl ?_
                refine QK.off rfl rfl ?_
                refine QK.off rfl rfl ?_
                refine QK.off rfl rfl ?_
                refine QK.off rfl rfl ?_
                refine QK.off rfl rfl ?_
                refine QK.off rfl rfl ?_
                refine QK.off rfl rfl ?_
                refine QK.off rfl rfl ?_
                refine QK.off rfl rfl ?_
                refine QK.off rfl rfl ?_
                refine QK.off rfl rfl ?_
                refine QK.nil ?_
                change OL _ _ _ [_, _, _, _] _ _ _
                refine OL.off rfl rfl ?_
                refine OL.off rfl rfl ?_
                refine OL.det trivial (Yields.pure rfl) ?_
                refine OL.det trivial (Yields.pure rfl) ?_
                refine OL.nil ?_
                refine hK25 _ _ ?_
                refine PW.keep (T' := [(1, _), (2, _), (3, _), (7, _), (8, _), (9, _), (10, _), (11, _)]) ⟨rfl, rfl, rfl, rfl, rfl, rfl, rfl, rfl, trivial⟩ ?_
                refine PW.ops ?_
                refine OL.det trivial (Yields.pure rfl) ?_
                refine OL.det trivial (Yields.add64 rfl rfl (by omega) (by omega)) ?_
                refine OL.det trivial (Yields.pure rfl) ?_
                refine OL.nil ?_
                repeat rw [inBlk_n]
                rw [thenK_n]
                refine LoopEnd.mk (T'' := [(1, _), (2, _), (3, _), (7, _), (8, _), (9, _), (10, _), (11, _)]) ⟨rfl, rfl, rfl, rfl, rfl, rfl, rfl, rfl, trivial⟩ ?_
                refine ⟨l.length - (i + 1), by omega, i + 1, b2, _, ⟨by omega, rfl, hb2, ?_⟩, rfl, rfl⟩
                rw [known_succ hil, ← hb3]
                simp [g70, *]
              · try simp only [decide_eq_true_eq, decide_eq_false_iff_not, beq_iff_eq, bne_iff_ne, beq_eq_false_iff_ne, bne_eq_false_iff_eq, Bool.not_eq_true', Bool.not_eq_false', Bool.not_eq_true, ne_eq, Decidable.not_not] at g70
                refine QK.det rfl (Yields.pure rfl) ?_
                refine QK.det rfl (Yields.ld rfl (own_at (j := 1) (c := [.int .i64 tv, .slice (some a0) l.length c]) (E := 45) (tot := 2) (List.mem_flatten.2 ⟨_, .tail _ (.head _), List.mem_singleton.2 rfl⟩) rfl)) ?_
                refine QK.det rfl (Yields.pure rfl) ?_
                refine QK.det rfl (Yields.ixN rfl rfl rfl (by omega)) ?_
                refine QK.det rfl (Yields.pure rfl) ?_
                refine QK.det rfl (Yields.ldA rfl rfl (rlab_at (hx.cons.cons) hil)) ?_
                refine QK.det rfl (Yields.pure rfl) ?_
                refine QK.det rfl (Yields.pure rfl) ?_
                refine QK.det rfl (Yields.ixN rfl rfl rfl (by omega)) ?_
                refine QK.det rfl (Yields.ldA rfl rfl (labs_at (hrd32 _) hkl)) ?_
                refine QK.det rfl (Yields.eqA rfl rfl (eq_lab l[i].2 L[k])) ?_
                refine QK.bool rfl (Yields.pure rfl) (fun g82 => ?_) (fun g82 => ?_)
                · try simp only [decide_eq_true_eq, decide_eq_false_iff_not, beq_iff_eq, bne_iff_ne, beq_eq_false_iff_ne, bne_eq_false_iff_eq, Bool.not_eq_true', Bool.not_eq_false', Bool.not_eq_true, ne_eq, Decidable.not_not] at g82
                  simp at g82
                  refine QK.det rfl (Yields.pure rfl) ?_
                  refine QK.det rfl (Yields.pure rfl) ?_
                  refine QK.det rfl (Yields.ld rfl (own_at (j := 1) (c := [.int .i64 tv, .slice (some a0) l.length c]) (E := 45) (tot := 2) (List.mem_flatten.2 ⟨_, .tail _ (.head _), List.mem_singleton.2 rfl⟩) rfl)) ?_
                  refine QK.det rfl (Yields.pure rfl) ?_
                  refine QK.det rfl (Yields.ixN rfl rfl rfl (by omega)) ?_
                  refine QK.det rfl (Yields.pure rfl) ?_
                  refine QK.det rfl (Yields.ld rfl (rule_at (hx.cons.cons) hil 0 _ rfl)) ?_
                  refine QK.nil ?_
                  change OL _ _ _ [_, _, _, _] _ _ _
                  refine OL.call rfl rfl (over_fc hp9 hwi) ?_
                  rintro _ Sx ⟨rfl, hSx⟩
                  rw [hSx]
                  clear hSx
                  refine OL.det rfl (Yields.pure rfl) ?_
                  refine OL.det trivial (Yields.pure rfl) ?_
                  refine OL.det trivial (Yields.pure rfl) ?_
                  refine OL.nil ?_
                  refine hK25 _ _ ?_
                  refine PW.keep (T' := [(1, _), (2, _), (3, _), (7, _), (8, _), (9, _), (10, _), (11, _)]) ⟨rfl, rfl, rfl, rfl, rfl, rfl, rfl, rfl, trivial⟩ ?_
                  refine PW.ops ?_
                  refine OL.det trivial (Yields.pure rfl) ?_
                  refine OL.det trivial (Yields.add64 rfl rfl (by omega) (by omega)) ?_
                  refine OL.det trivial (Yields.pure rfl) ?_
                  refine OL.nil ?_
                  repeat rw [inBlk_n]
                  rw [thenK_n]
                  refine LoopEnd.mk (T'' := [(1, _), (2, _), (3, _), (7, _), (8, _), (9, _), (10, _), (11, _)]) ⟨rfl, rfl, rfl, rfl, rfl, rfl, rfl, rfl, trivial⟩ ?_
                  refine ⟨l.length - (i + 1), by omega, i + 1, b2, _, ⟨by omega, rfl, hb2, ?_⟩, rfl, rfl⟩
                  rw [known_succ hil, ← hb3]
                  simp [g70, *]
                · try simp only [decide_eq_true_eq, decide_eq_false_iff_not, beq_iff_eq, bne_iff_ne, beq_eq_false_iff_ne, bne_eq_false_iff_eq, Bool.not_eq_true', Bool.not_eq_false', Bool.not_eq_true, ne_eq, Decidable.not_not] at g82
                  simp at g82
                  refine QK.off rfl rfl ?_
                  refine QK.off rfl rfl ?_
                  refine QK.off rfl rfl ?_
                  refine QK.off rfl rfl ?_
                  refine QK.off rfl rfl ?_
                  refine QK.off rfl rfl ?_
                  refine QK.off rfl rfl ?_
                  refine QK.nil ?_
                  change OL _ _ _ [_, _, _, _] _ _ _
                  refine OL.off rfl rfl ?_
                  refine OL.det rfl (Yields.pure rfl) ?_
                  refine OL.det trivial (Yields.pure rfl) ?_
                  refine OL.det trivial (Yields.pure rfl) ?_
                  refine OL.nil ?_
                  refine hK25 _ _ ?_
                  refine PW.keep (T' := [(1, _), (2, _), (3, _), (7, _), (8, _), (9, _), (10, _), (11, _)]) ⟨rfl, rfl, rfl, rfl, rfl, rfl, rfl, rfl, trivial⟩ ?_
                  refine PW.ops ?_
                  refine OL.det trivial (Yields.pure rfl) ?_
                  refine OL.det trivial (Yields.add64 rfl rfl (by omega) (by omega)) ?_
                  refine OL.det trivial (Yields.pure rfl) ?_
                  refine OL.nil ?_
                  repeat rw [inBlk_n]
                  rw [thenK_n]
                  refine LoopEnd.mk (T'' := [(1, _), (2, _), (3, _), (7, _), (8, _), (9, _), (10, _), (11, _)]) ⟨rfl, rfl, rfl, rfl, rfl, rfl, rfl, rfl, trivial⟩ ?_
                  refine ⟨l.length - (i + 1), by omega, i + 1, b2, _, ⟨by omega, rfl, hb2, ?_⟩, rfl, rfl⟩
                  rw [known_succ hil, ← hb3]
                  simp [g70, *]
            · try simp only [decide_eq_true_eq, decide_eq_false_iff_not, beq_iff_eq, bne_iff_ne, beq_eq_false_iff_ne, bne_eq_false_iff_eq, Bool.not_eq_true', Bool.not_eq_false', Bool.not_eq_true, ne_eq, Decidable.not_not] at c66
              refine PW.exit ?_
              refine hK23 _ _ ?_
              refine PW.keep (T' := [(1, _), (2, _), (3, _), (7, _), (8, _), (9, _), (10, _)]) ⟨rfl, rfl, rfl, rfl, rfl, rfl, rfl, trivial⟩ ?_
              refine PW.seqOps ?_
              refine OL.det trivial (Yields.pure rfl) ?_
              refine OL.det trivial (Yields.pure rfl) ?_
              refine OL.nil ?_
              refine PW.keep (T' := [(1, _), (2, _), (3, _), (7, _), (8, _), (9, _), (94, _)]) ⟨rfl, rfl, rfl, rfl, rfl, rfl, rfl, trivial⟩ ?_
              refine PW.cond rfl (fun c94 => ?_) (fun c94 => ?_)
              · try simp only [decide_eq_true_eq, decide_eq_false_iff_not, beq_iff_eq, bne_iff_ne, beq_eq_false_iff_ne, bne_eq_false_iff_eq, Bool.not_eq_true', Bool.not_eq_false', Bool.not_eq_true, ne_eq, Decidable.not_not] at c94
                exfalso
                obtain rfl : i = l.length := by omega
                rw [hb3, hkall _ (List.getElem_mem hkl)] at c94
                simp at c94
                -- done
              · try simp only [decide_eq_true_eq, decide_eq_false_iff_not, beq_iff_eq, bne_iff_ne, beq_eq_false_iff_ne, bne_eq_false_iff_eq, Bool.not_eq_true', Bool.not_eq_false', Bool.not_eq_true, ne_eq, Decidable.not_not] at c94
                refine PW.skip ?_
                refine hK16 _ _ ?_
                refine PW.keep (T' := [(1, _), (2, _), (3, _), (7, _), (8, _), (9, _)]) ⟨rfl, rfl, rfl, rfl, rfl, rfl, trivial⟩ ?_
                refine PW.ops ?_
                refine OL.det trivial (Yields.pure rfl) ?_
                refine OL.det trivial (Yields.add64 rfl rfl (by omega) (by omega)) ?_
                refine OL.det trivial (Yields.pure rfl) ?_
                refine OL.nil ?_
                repeat rw [inBlk_n]
                rw [thenK_n]
                refine LoopEnd.mk (T'' := [(1, _), (2, _), (3, _), (7, _), (8, _), (9, _)]) ⟨rfl, rfl, rfl, rfl, rfl, rfl, trivial⟩ ?_
                exact ⟨L.length - (k + 1), by omega, k + 1, b2, ⟨by omega, rfl, hb2⟩, rfl, rfl⟩
        · try simp only [decide_eq_true_eq, decide_eq_false_iff_not, beq_iff_eq, bne_iff_ne, beq_eq_false_iff_ne, bne_eq_false_iff_eq, Bool.not_eq_true', Bool.not_eq_false', Bool.not_eq_true, ne_eq, Decidable.not_not] at c40
          refine PW.exit ?_
          refine hK14 _ _ ?_
          refine PW.keep (T' := [(8, _)]) ⟨rfl, trivial⟩ ?_
          refine PW.seqOps ?_
          refine OL.det trivial (Yields.pure rfl) ?_
          refine OL.bool trivial (Yields.pure rfl) (fun g96 => ?_) (fun g96 => ?_)
          · try simp only [decide_eq_true_eq, decide_eq_false_iff_not, beq_iff_eq, bne_iff_ne, beq_eq_false_iff_ne, bne_eq_false_iff_eq, Bool.not_eq_true', Bool.not_eq_false', Bool.not_eq_true, ne_eq, Decidable.not_not] at g96
            refine OL.call rfl rfl (rawake_fc) ?_
            rintro _ _ ⟨rfl, _⟩
            refine OL.det trivial (Yields.pure rfl) ?_
            refine OL.det trivial (Yields.pure rfl) ?_
            refine OL.nil ?_
            refine PW.keep (T' := [(6, _)]) ⟨rfl, trivial⟩ ?_
            refine PW.ret ?_
            change (Exit.ret = Exit.normal ∨ Exit.ret = Exit.ret) ∧ ∃ v, resV _ _ = some v ∧ _
            exact ⟨.inr rfl, _, rfl, rfl⟩
          · try simp only [decide_eq_true_eq, decide_eq_false_iff_not, beq_iff_eq, bne_iff_ne, beq_eq_false_iff_ne, bne_eq_false_iff_eq, Bool.not_eq_true', Bool.not_eq_false', Bool.not_eq_true, ne_eq, Decidable.not_not] at g96
            exfalso
            obtain rfl : k = L.length := by omega
            rw [hb, hmall] at g96
            cases g96
            -- done
end Go.Proofs.Rl
