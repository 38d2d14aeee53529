/- Walks and plain facts for the laws of this seat: what each function answers, for every input. -/
import Derived.Test.YtbidjnjbiibdeaaDoorPaW5
import Derived.Test.YtbidjnjbiibdeaaDoorPaKn
set_option linter.unusedVariables false
set_option linter.unusedSimpArgs false
namespace Go.Proofs
open Go.SL Go.RowKit
set_option maxHeartbeats 1000000

theorem cut_le (s : ByteArray) : (cutB s).size ≤ 200 := by
  have : (cutB s).data.toList.length = (cutB s).size := by simp
  rw [← this]
  unfold cutB
  rw [ext_list]
  simp; omega
theorem isP_ne {s : ByteArray} (h : isP s = true) : s ≠ ⟨#[]⟩ := by
  rintro rfl
  revert h
  decide +kernel
theorem pref_is {p : ByteArray} (h : prefP p = 0) (h0 : p ≠ ⟨#[]⟩) : isP p = true := by
  unfold prefP at h
  rw [if_neg h0] at h
  unfold chkP at h
  split at h
  · assumption
  · cases h
theorem is_pref {p : ByteArray} (h : isP p = true) : prefP p = 0 := by
  unfold prefP chkP
  rw [if_pos h]
  split <;> rfl
theorem under_iff (p s : ByteArray) : underP p s = true ↔ isP s = true ∧ prefP p = 0 ∧ (p = ⟨#[]⟩ ∨ p = s ∨ p.data.toList ++ [47] <+: s.data.toList) := by
  unfold underP
  simp only [Bool.and_eq_true, Bool.or_eq_true, decide_eq_true_eq, starts_iff, app_list, show slB.data.toList = [47] from rfl, and_assoc, or_assoc]
theorem under_trans {a b c : ByteArray} (h : underP a b = true) (k : underP b c = true) : underP a c = true := by
  rw [under_iff] at *
  obtain ⟨h1, h2, h3⟩ := h
  obtain ⟨k1, k2, k3⟩ := k
  refine ⟨k1, h2, ?_⟩
  rcases k3 with k3 | rfl | k3
  · exact absurd k3 (isP_ne h1)
  · exact h3
  · rcases h3 with h3 | rfl | h3
    · exact .inl h3
    · exact .inr (.inr k3)
    · exact .inr (.inr (h3.trans ((List.prefix_append _ _).trans k3)))
theorem snoc_pre {p q l : List UInt8} {b : UInt8} (h : p ++ [b] <+: l) (k : q ++ [b] <+: l) (hl : p.length ≤ q.length) : p = q ∨ p ++ [b] <+: q := by
  rcases Nat.lt_or_ge p.length q.length with hlt | hge
  · right
    have hq : q <+: l := (List.prefix_append _ _).trans k
    exact List.prefix_of_prefix_length_le h hq (by simp; omega)
  · left
    have e1 := List.prefix_iff_eq_take.1 ((List.prefix_append p [b]).trans h)
    have e2 := List.prefix_iff_eq_take.1 ((List.prefix_append q [b]).trans k)
    rw [e1, e2, show p.length = q.length by omega]
theorem under_tot {a b c : ByteArray} (h : underP a c = true) (k : underP b c = true) (ha : a ≠ ⟨#[]⟩) (hb : b ≠ ⟨#[]⟩) : underP a b = true ∨ underP b a = true := by
  rw [under_iff] at *
  obtain ⟨h1, h2, h3⟩ := h
  obtain ⟨k1, k2, k3⟩ := k
  rw [under_iff]
  have ia := pref_is h2 ha
  have ib := pref_is k2 hb
  rcases h3 with h3 | rfl | h3
  · exact absurd h3 ha
  · exact .inr ⟨h1, k2, k3⟩
  · rcases k3 with k3 | rfl | k3
    · exact absurd k3 hb
    · exact .inl ⟨k1, h2, .inr (.inr h3)⟩
    · rcases Nat.le_total a.data.toList.length b.data.toList.length with hl | hl
      · rcases snoc_pre h3 k3 hl with e | e
        · exact .inl ⟨ib, h2, .inr (.inl (ba_ext e))⟩
        · exact .inl ⟨ib, h2, .inr (.inr e)⟩
      · rcases snoc_pre k3 h3 hl with e | e
        · exact .inr ⟨ia, k2, .inr (.inl (ba_ext e))⟩
        · exact .inr ⟨ia, k2, .inr (.inr e)⟩
theorem cmp_anti : ∀ a b : List UInt8, Lib.compareBytes b a = -Lib.compareBytes a b
  | [], [] => rfl
  | [], _ :: _ => rfl
  | _ :: _, [] => rfl
  | x :: a, y :: b => by
    unfold Lib.compareBytes
    by_cases h : x < y
    · have : ¬ y < x := fun e => by rw [UInt8.lt_iff_toNat_lt] at *; omega
      rw [if_pos h, if_neg this, if_pos h]; rfl
    · by_cases h2 : y < x
      · rw [if_pos h2, if_neg h, if_pos h2]
      · rw [if_neg h, if_neg h2, if_neg h2, if_neg h]; exact cmp_anti a b
theorem cmp_zero : ∀ a b : List UInt8, Lib.compareBytes a b = 0 ↔ a = b
  | [], [] => by simp [Lib.compareBytes]
  | [], _ :: _ => by simp [Lib.compareBytes]
  | _ :: _, [] => by simp [Lib.compareBytes]
  | x :: a, y :: b => by
    unfold Lib.compareBytes
    by_cases h : x < y
    · rw [if_pos h]
      refine ⟨fun e => by omega, fun e => ?_⟩
      simp only [List.cons.injEq] at e
      rw [e.1, UInt8.lt_iff_toNat_lt] at h; omega
    · by_cases h2 : y < x
      · rw [if_neg h, if_pos h2]
        refine ⟨fun e => by omega, fun e => ?_⟩
        simp only [List.cons.injEq] at e
        rw [e.1, UInt8.lt_iff_toNat_lt] at h2; omega
      · rw [if_neg h, if_neg h2, cmp_zero a b, List.cons.injEq]
        have : x = y := by rw [UInt8.lt_iff_toNat_lt] at *; exact UInt8.toNat_inj.1 (by omega)
        simp [this]
theorem cmp_range : ∀ a b : List UInt8, -1 ≤ Lib.compareBytes a b ∧ Lib.compareBytes a b ≤ 1
  | [], [] => by simp [Lib.compareBytes]
  | [], _ :: _ => by simp [Lib.compareBytes]
  | _ :: _, [] => by simp [Lib.compareBytes]
  | x :: a, y :: b => by
    have := cmp_range a b
    unfold Lib.compareBytes
    split
    · omega
    · split
      · omega
      · exact this
theorem cmp_trans : ∀ a b c : List UInt8, Lib.compareBytes a b ≤ 0 → Lib.compareBytes b c ≤ 0 → Lib.compareBytes a c ≤ 0
  | [], b, [], _, _ => by simp [Lib.compareBytes]
  | [], b, _ :: _, _, _ => by simp [Lib.compareBytes]
  | _ :: _, [], c, h, _ => by simp [Lib.compareBytes] at h
  | _ :: _, _ :: _, [], _, h => by simp [Lib.compareBytes] at h
  | x :: a, y :: b, z :: c, h, k => by
    have ih := cmp_trans a b c
    unfold Lib.compareBytes at h k ⊢
    simp only [UInt8.lt_iff_toNat_lt] at h k ⊢
    split at h
    · split at k
      · rw [if_pos (by omega)]; omega
      · split at k
        · omega
        · rw [if_pos (by omega)]; omega
    · split at h
      · omega
      · split at k
        · rw [if_pos (by omega)]; omega
        · split at k
          · omega
          · rw [if_neg (by omega), if_neg (by omega)]; exact ih h k
theorem pathsAre_fc {w0 : World} {s0 : ByteArray} (hs0 : s0.size ≤ 140737488351232) : FC Tryd.prog w0 5 [.string s0] [] (fun v _ => v = .bool true) := by
  refine FC.of Tryd.known5 (by simp) ?_
  unfold Tryd.pc5
  simp only [argT]
  refine PW.seqOps ?_
  refine OL.det trivial (Yields.pure rfl) ?_
  refine OL.nil ?_
  refine PW.keep (T' := [(0, _)]) ⟨rfl, trivial⟩ ?_
  refine PW.seqOps ?_
  refine OL.det trivial (Yields.pure rfl) ?_
  refine OL.call trivial rfl (cut_fc (by omega)) ?_
  rintro _ Sx ⟨rfl, hSx⟩
  rw [hSx]
  clear hSx
  have hs := cut_le s0
  have hpls := parts_len_le (cutB s0)
  generalize cutB s0 = s at *
  refine OL.det trivial (Yields.pure rfl) ?_
  refine OL.nil ?_
  refine PW.keep (T' := [(0, _)]) ⟨rfl, trivial⟩ ?_
  refine PW.seqOps ?_
  refine OL.det trivial (Yields.pure rfl) ?_
  refine OL.call trivial rfl (parts_fc (by omega)) ?_
  rintro _ _ ⟨A1, cap1, seg1, rfl, rfl, hrd1⟩
  refine OL.det trivial (Yields.pure rfl) ?_
  refine OL.nil ?_
  refine PW.keep (T' := [(0, _), (3, _)]) ⟨rfl, rfl, trivial⟩ ?_
  refine PW.seq fun K1 hK1 => ?_
  refine PW.seqOps ?_
  refine OL.det trivial (Yields.pure rfl) ?_
  refine OL.call trivial rfl (check_fc (by omega)) ?_
  rintro _ Sx ⟨rfl, hSx⟩
  rw [hSx]
  clear hSx
  refine OL.det trivial (Yields.pure rfl) ?_
  refine OL.call trivial rfl (rcheck_fc (by omega)) ?_
  rintro _ Sx ⟨rfl, hSx⟩
  rw [hSx]
  clear hSx
  refine OL.det trivial (Yields.pure rfl) ?_
  refine OL.bool trivial (Yields.pure rfl) (fun g15 => ?_) (fun g15 => ?_)
  · try simp only [decide_eq_true_eq, decide_eq_false_iff_not, beq_iff_eq, bne_iff_ne, beq_eq_false_iff_ne, bne_eq_false_iff_eq, Bool.not_eq_true', Bool.not_eq_false', Bool.not_eq_true, ne_eq, Decidable.not_not] at g15
    exact absurd trivial g15
    -- done
  · try simp only [decide_eq_true_eq, decide_eq_false_iff_not, beq_iff_eq, bne_iff_ne, beq_eq_false_iff_ne, bne_eq_false_iff_eq, Bool.not_eq_true', Bool.not_eq_false', Bool.not_eq_true, ne_eq, Decidable.not_not] at g15
    refine OL.det rfl (Yields.pure rfl) ?_
    refine OL.call rfl rfl (pref_fc (by omega)) ?_
    rintro _ Sx ⟨rfl, hSx⟩
    rw [hSx]
    clear hSx
    refine OL.det rfl (Yields.pure rfl) ?_
    refine OL.call rfl rfl (rpref_fc (by omega)) ?_
    rintro _ Sx ⟨rfl, hSx⟩
    rw [hSx]
    clear hSx
    refine OL.det rfl (Yields.pure rfl) ?_
    refine OL.det trivial (Yields.pure rfl) ?_
    refine OL.nil ?_
    refine PW.keep (T' := [(0, _), (3, _), (21, _)]) ⟨rfl, rfl, rfl, trivial⟩ ?_
    refine PW.cond rfl (fun c21 => ?_) (fun c21 => ?_)
    · try simp only [decide_eq_true_eq, decide_eq_false_iff_not, beq_iff_eq, bne_iff_ne, beq_eq_false_iff_ne, bne_eq_false_iff_eq, Bool.not_eq_true', Bool.not_eq_false', Bool.not_eq_true, ne_eq, Decidable.not_not] at c21
      exact absurd trivial c21
      -- done
    · try simp only [decide_eq_true_eq, decide_eq_false_iff_not, beq_iff_eq, bne_iff_ne, beq_eq_false_iff_ne, bne_eq_false_iff_eq, Bool.not_eq_true', Bool.not_eq_false', Bool.not_eq_true, ne_eq, Decidable.not_not] at c21
      refine PW.skip ?_
      refine hK1 _ _ ?_
      refine PW.keep (T' := [(0, _), (3, _)]) ⟨rfl, rfl, trivial⟩ ?_
      refine PW.seq fun K2 hK2 => ?_
      refine PW.seqOps ?_
      refine OL.det trivial (Yields.pure rfl) ?_
      refine OL.call trivial rfl (ris_fc (by omega)) ?_
      rintro _ Sx ⟨rfl, hSx⟩
      rw [hSx]
      clear hSx
      refine OL.det trivial (Yields.pure rfl) ?_
      refine OL.nil ?_
      refine PW.keep (T' := [(0, _), (3, _), (24, _)]) ⟨rfl, rfl, rfl, trivial⟩ ?_
      refine PW.cond rfl (fun c24 => ?_) (fun c24 => ?_)
      · try simp only [decide_eq_true_eq, decide_eq_false_iff_not, beq_iff_eq, bne_iff_ne, beq_eq_false_iff_ne, bne_eq_false_iff_eq, Bool.not_eq_true', Bool.not_eq_false', Bool.not_eq_true, ne_eq, Decidable.not_not] at c24
        refine PW.seqOps ?_
        refine OL.det trivial (Yields.pure rfl) ?_
        refine OL.det trivial (Yields.pure rfl) ?_
        refine OL.det trivial (Yields.pure rfl) ?_
        refine OL.bool trivial (Yields.pure rfl) (fun g28 => ?_) (fun g28 => ?_)
        · try simp only [decide_eq_true_eq, decide_eq_false_iff_not, beq_iff_eq, bne_iff_ne, beq_eq_false_iff_ne, bne_eq_false_iff_eq, Bool.not_eq_true', Bool.not_eq_false', Bool.not_eq_true, ne_eq, Decidable.not_not] at g28
          refine OL.call rfl rfl (works_fc) ?_
          rintro _ _ ⟨rfl, _⟩
          refine OL.det trivial (Yields.pure rfl) ?_
          refine OL.det trivial (Yields.pure rfl) ?_
          refine OL.nil ?_
          refine PW.keep (T' := [(2, _)]) ⟨rfl, trivial⟩ ?_
          refine PW.ret ?_
          change (Exit.ret = Exit.normal ∨ Exit.ret = Exit.ret) ∧ ∃ v, resV _ _ = some v ∧ _
          exact ⟨.inr rfl, _, rfl, rfl⟩
        · try simp only [decide_eq_true_eq, decide_eq_false_iff_not, beq_iff_eq, bne_iff_ne, beq_eq_false_iff_ne, bne_eq_false_iff_eq, Bool.not_eq_true', Bool.not_eq_false', Bool.not_eq_true, ne_eq, Decidable.not_not] at g28
          exfalso; apply g28; unfold partsQ; rw [if_neg (by rw [c24]; simp)]; rfl
          -- done
      · try simp only [decide_eq_true_eq, decide_eq_false_iff_not, beq_iff_eq, bne_iff_ne, beq_eq_false_iff_ne, bne_eq_false_iff_eq, Bool.not_eq_true', Bool.not_eq_false', Bool.not_eq_true, ne_eq, Decidable.not_not] at c24
        have hq : partsQ s = partsP s := by unfold partsQ; rw [if_pos (by simpa using c24)]
        rw [hq] at hrd1 ⊢
        refine PW.skip ?_
        refine hK2 _ _ ?_
        refine PW.keep (T' := [(0, _), (3, _)]) ⟨rfl, rfl, trivial⟩ ?_
        refine PW.seqOps ?_
        refine OL.det trivial (Yields.pure rfl) ?_
        refine OL.call trivial rfl (rsplit_fc (by omega)) ?_
        rintro _ _ ⟨A2, cap2, seg2, rfl, rfl, hrd2⟩
        refine OL.det trivial (Yields.pure rfl) ?_
        refine OL.nil ?_
        refine PW.keep (T' := [(3, _), (4, _)]) ⟨rfl, rfl, trivial⟩ ?_
        refine PW.seq fun K3 hK3 => ?_
        refine PW.seqOps ?_
        refine OL.det trivial (Yields.pure rfl) ?_
        refine OL.det trivial (Yields.pure rfl) ?_
        refine OL.det trivial (Yields.pure rfl) ?_
        refine OL.det trivial (Yields.pure rfl) ?_
        refine OL.det trivial (Yields.pure rfl) ?_
        refine OL.nil ?_
        refine PW.keep (T' := [(3, _), (4, _), (37, _)]) ⟨rfl, rfl, rfl, trivial⟩ ?_
        refine PW.cond rfl (fun c37 => ?_) (fun c37 => ?_)
        · try simp only [decide_eq_true_eq, decide_eq_false_iff_not, beq_iff_eq, bne_iff_ne, beq_eq_false_iff_ne, bne_eq_false_iff_eq, Bool.not_eq_true', Bool.not_eq_false', Bool.not_eq_true, ne_eq, Decidable.not_not] at c37
          exact absurd trivial c37
          -- done
        · try simp only [decide_eq_true_eq, decide_eq_false_iff_not, beq_iff_eq, bne_iff_ne, beq_eq_false_iff_ne, bne_eq_false_iff_eq, Bool.not_eq_true', Bool.not_eq_false', Bool.not_eq_true, ne_eq, Decidable.not_not] at c37
          refine PW.skip ?_
          refine hK3 _ _ ?_
          refine PW.keep (T' := [(3, _), (4, _)]) ⟨rfl, rfl, trivial⟩ ?_
          refine PW.seq fun K4 hK4 => ?_
          refine PW.seqOps ?_
          refine OL.det trivial (Yields.pure rfl) ?_
          refine OL.nil ?_
          refine PW.keep (T' := [(3, _), (4, _), (5, _)]) ⟨rfl, rfl, rfl, trivial⟩ ?_
          refine PW.block ?_
          refine PW.keep (T' := [(3, _), (4, _), (5, _)]) ⟨rfl, rfl, rfl, trivial⟩ ?_
          refine PW.loopK (I := fun m T S' => ∃ (k : Nat), (k ≤ (partsP s).length ∧ m = (partsP s).length - k) ∧ T = ([(3, .slice A1 (partsP s).length cap1), (4, .slice A2 (partsP s).length cap2), (5, .int .i64 k)] : TT) ∧ S' = seg2 :: seg1 :: []) (m := (partsP s).length) ⟨0, ⟨by omega, by omega⟩, rfl, rfl⟩ ?_
          rintro m _ _ ⟨k, ⟨hk, hm⟩, rfl, rfl⟩
          refine PW.seq fun K5 hK5 => ?_
          refine PW.seqOps ?_
          refine OL.det trivial (Yields.pure rfl) ?_
          refine OL.det trivial (Yields.pure rfl) ?_
          refine OL.det trivial (Yields.pure rfl) ?_
          refine OL.det trivial (Yields.pure rfl) ?_
          refine OL.nil ?_
          refine PW.keep (T' := [(3, _), (4, _), (5, _), (41, _)]) ⟨rfl, rfl, rfl, rfl, trivial⟩ ?_
          refine PW.cond rfl (fun c41 => ?_) (fun c41 => ?_)
          · try simp only [decide_eq_true_eq, decide_eq_false_iff_not, beq_iff_eq, bne_iff_ne, beq_eq_false_iff_ne, bne_eq_false_iff_eq, Bool.not_eq_true', Bool.not_eq_false', Bool.not_eq_true, ne_eq, Decidable.not_not] at c41
            have hkl : k < (partsP s).length := by omega
            obtain ⟨b1, rfl⟩ := (hrd1 []).some (strs_ne (by omega))
            obtain ⟨b2, rfl⟩ := (hrd2 [seg1]).some (strs_ne (by omega))
            refine PW.skip ?_
            refine hK5 _ _ ?_
            refine PW.keep (T' := [(3, _), (4, _), (5, _)]) ⟨rfl, rfl, rfl, trivial⟩ ?_
            refine PW.seq fun K6 hK6 => ?_
            refine PW.block ?_
            refine PW.seq fun K7 hK7 => ?_
            refine PW.quietK Tryd.mixed ?_
            refine QK.det trivial (Yields.pure rfl) ?_
            refine QK.det trivial (Yields.pure rfl) ?_
            refine QK.det trivial (Yields.ixN1 rfl rfl rfl (by omega)) ?_
            refine QK.det trivial (Yields.ld rfl (strs_at (Rd.cons (hrd1 [])) hkl)) ?_
            refine QK.det trivial (Yields.pure rfl) ?_
            refine QK.det trivial (Yields.pure rfl) ?_
            refine QK.det trivial (Yields.ixN1 rfl rfl rfl (by omega)) ?_
            refine QK.det trivial (Yields.ld rfl (strs_at (hrd2 [seg1]) hkl)) ?_
            refine QK.nil ?_
            change OL _ _ _ [_] _ _ _
            refine OL.det trivial (Yields.pure rfl) ?_
            refine OL.nil ?_
            refine hK7 _ _ ?_
            refine PW.keep (T' := [(3, _), (4, _), (5, _), (52, _)]) ⟨rfl, rfl, rfl, rfl, trivial⟩ ?_
            refine PW.cond rfl (fun c52 => ?_) (fun c52 => ?_)
            · try simp only [decide_eq_true_eq, decide_eq_false_iff_not, beq_iff_eq, bne_iff_ne, beq_eq_false_iff_ne, bne_eq_false_iff_eq, Bool.not_eq_true', Bool.not_eq_false', Bool.not_eq_true, ne_eq, Decidable.not_not] at c52
              exact absurd trivial c52
              -- done
            · try simp only [decide_eq_true_eq, decide_eq_false_iff_not, beq_iff_eq, bne_iff_ne, beq_eq_false_iff_ne, bne_eq_false_iff_eq, Bool.not_eq_true', Bool.not_eq_false', Bool.not_eq_true, ne_eq, Decidable.not_not] at c52
              refine PW.skip ?_
              refine hK6 _ _ ?_
              refine PW.keep (T' := [(3, _), (4, _), (5, _)]) ⟨rfl, rfl, rfl, trivial⟩ ?_
              refine PW.ops ?_
              refine OL.det trivial (Yields.pure rfl) ?_
              refine OL.det trivial (Yields.add64 rfl rfl (by omega) (by omega)) ?_
              refine OL.det trivial (Yields.pure rfl) ?_
              refine OL.nil ?_
              repeat rw [inBlk_n]
              rw [thenK_n]
              refine LoopEnd.mk (T'' := [(3, _), (4, _), (5, _)]) ⟨rfl, rfl, rfl, trivial⟩ ?_
              exact ⟨(partsP s).length - (k + 1), by omega, k + 1, ⟨by omega, rfl⟩, rfl, rfl⟩
          · try simp only [decide_eq_true_eq, decide_eq_false_iff_not, beq_iff_eq, bne_iff_ne, beq_eq_false_iff_ne, bne_eq_false_iff_eq, Bool.not_eq_true', Bool.not_eq_false', Bool.not_eq_true, ne_eq, Decidable.not_not] at c41
            refine PW.exit ?_
            refine hK4 _ _ ?_
            refine PW.keep (T' := []) trivial ?_
            refine PW.seqOps ?_
            refine OL.call trivial rfl (works_fc) ?_
            rintro _ _ ⟨rfl, _⟩
            refine OL.det trivial (Yields.pure rfl) ?_
            refine OL.nil ?_
            refine PW.keep (T' := [(2, _)]) ⟨rfl, trivial⟩ ?_
            refine PW.ret ?_
            change (Exit.ret = Exit.normal ∨ Exit.ret = Exit.ret) ∧ ∃ v, resV _ _ = some v ∧ _
            exact ⟨.inr rfl, _, rfl, rfl⟩
theorem pathsUnder_fc {w0 : World} {a0 b0 : ByteArray} (ha0 : a0.size ≤ 140737488351232) (hb0 : b0.size ≤ 140737488351232) : FC Tryd.prog w0 6 [.string a0, .string b0] [] (fun v _ => v = .bool true) := by
  refine FC.of Tryd.known6 (by simp) ?_
  unfold Tryd.pc6
  simp only [argT]
  refine PW.seqOps ?_
  refine OL.det trivial (Yields.pure rfl) ?_
  refine OL.nil ?_
  refine PW.keep (T' := [(0, _), (1, _)]) ⟨rfl, rfl, trivial⟩ ?_
  refine PW.seqOps ?_
  refine OL.det trivial (Yields.pure rfl) ?_
  refine OL.call trivial rfl (cut_fc (by omega)) ?_
  rintro _ Sx ⟨rfl, hSx⟩
  rw [hSx]
  clear hSx
  have ha := cut_le a0
  have hpla := parts_len_le (cutB a0)
  generalize cutB a0 = a at *
  refine OL.det trivial (Yields.pure rfl) ?_
  refine OL.call trivial rfl (cut_fc (by omega)) ?_
  rintro _ Sx ⟨rfl, hSx⟩
  rw [hSx]
  clear hSx
  have hb := cut_le b0
  have hplb := parts_len_le (cutB b0)
  generalize cutB b0 = b at *
  refine OL.det trivial (Yields.pure rfl) ?_
  refine OL.det trivial (Yields.pure rfl) ?_
  refine OL.nil ?_
  refine PW.keep (T' := [(0, _), (1, _)]) ⟨rfl, rfl, trivial⟩ ?_
  refine PW.seqOps ?_
  refine OL.det trivial (Yields.pure rfl) ?_
  refine OL.det trivial (Yields.pure rfl) ?_
  refine OL.call trivial rfl (under_fc (by omega) (by omega)) ?_
  rintro _ Sx ⟨rfl, hSx⟩
  rw [hSx]
  clear hSx
  refine OL.det trivial (Yields.pure rfl) ?_
  refine OL.det trivial (Yields.pure rfl) ?_
  refine OL.call trivial rfl (runder_fc (by omega) (by omega)) ?_
  rintro _ Sx ⟨rfl, hSx⟩
  rw [hSx]
  clear hSx
  refine OL.det trivial (Yields.pure rfl) ?_
  refine OL.bool trivial (Yields.pure rfl) (fun g16 => ?_) (fun g16 => ?_)
  · try simp only [decide_eq_true_eq, decide_eq_false_iff_not, beq_iff_eq, bne_iff_ne, beq_eq_false_iff_ne, bne_eq_false_iff_eq, Bool.not_eq_true', Bool.not_eq_false', Bool.not_eq_true, ne_eq, Decidable.not_not] at g16
    refine OL.det rfl (Yields.pure rfl) ?_
    refine OL.det rfl (Yields.pure rfl) ?_
    refine OL.call rfl rfl (order_fc) ?_
    rintro _ Sx ⟨rfl, hSx⟩
    rw [hSx]
    clear hSx
    refine OL.det rfl (Yields.pure rfl) ?_
    refine OL.det rfl (Yields.pure rfl) ?_
    refine OL.call rfl rfl (rorder_fc (by omega) (by omega)) ?_
    rintro _ Sx ⟨rfl, hSx⟩
    rw [hSx]
    clear hSx
    refine OL.det rfl (Yields.pure rfl) ?_
    refine OL.det trivial (Yields.pure rfl) ?_
    refine OL.bool trivial (Yields.pure rfl) (fun g25 => ?_) (fun g25 => ?_)
    · try simp only [decide_eq_true_eq, decide_eq_false_iff_not, beq_iff_eq, bne_iff_ne, beq_eq_false_iff_ne, bne_eq_false_iff_eq, Bool.not_eq_true', Bool.not_eq_false', Bool.not_eq_true, ne_eq, Decidable.not_not] at g25
      refine OL.call rfl rfl (works_fc) ?_
      rintro _ _ ⟨rfl, _⟩
      refine OL.det trivial (Yields.pure rfl) ?_
      refine OL.det trivial (Yields.pure rfl) ?_
      refine OL.nil ?_
      refine PW.keep (T' := [(4, _)]) ⟨rfl, trivial⟩ ?_
      refine PW.ret ?_
      change (Exit.ret = Exit.normal ∨ Exit.ret = Exit.ret) ∧ ∃ v, resV _ _ = some v ∧ _
      exact ⟨.inr rfl, _, rfl, rfl⟩
    · try simp only [decide_eq_true_eq, decide_eq_false_iff_not, beq_iff_eq, bne_iff_ne, beq_eq_false_iff_ne, bne_eq_false_iff_eq, Bool.not_eq_true', Bool.not_eq_false', Bool.not_eq_true, ne_eq, Decidable.not_not] at g25
      exact absurd trivial g25
      -- done
  · try simp only [decide_eq_true_eq, decide_eq_false_iff_not, beq_iff_eq, bne_iff_ne, beq_eq_false_iff_ne, bne_eq_false_iff_eq, Bool.not_eq_true', Bool.not_eq_false', Bool.not_eq_true, ne_eq, Decidable.not_not] at g16
    exact absurd trivial g16
    -- done
theorem pathsChain_fc {w0 : World} {a0 b0 c0 : ByteArray} (ha0 : a0.size ≤ 140737488351232) (hb0 : b0.size ≤ 140737488351232) (hc0 : c0.size ≤ 140737488351232) : FC Tryd.prog w0 8 [.string a0, .string b0, .string c0] [] (fun v _ => v = .bool true) := by
  refine FC.of Tryd.known8 (by simp) ?_
  unfold Tryd.pc8
  simp only [argT]
  refine PW.seqOps ?_
  refine OL.det trivial (Yields.pure rfl) ?_
  refine OL.nil ?_
  refine PW.keep (T' := [(0, _), (1, _), (2, _)]) ⟨rfl, rfl, rfl, trivial⟩ ?_
  refine PW.seqOps ?_
  refine OL.det trivial (Yields.pure rfl) ?_
  refine OL.call trivial rfl (cut_fc (by omega)) ?_
  rintro _ Sx ⟨rfl, hSx⟩
  rw [hSx]
  clear hSx
  have ha := cut_le a0
  have hpla := parts_len_le (cutB a0)
  generalize cutB a0 = a at *
  refine OL.det trivial (Yields.pure rfl) ?_
  refine OL.call trivial rfl (cut_fc (by omega)) ?_
  rintro _ Sx ⟨rfl, hSx⟩
  rw [hSx]
  clear hSx
  have hb := cut_le b0
  have hplb := parts_len_le (cutB b0)
  generalize cutB b0 = b at *
  refine OL.det trivial (Yields.pure rfl) ?_
  refine OL.call trivial rfl (cut_fc (by omega)) ?_
  rintro _ Sx ⟨rfl, hSx⟩
  rw [hSx]
  clear hSx
  have hc := cut_le c0
  have hplc := parts_len_le (cutB c0)
  generalize cutB c0 = c at *
  refine OL.det trivial (Yields.pure rfl) ?_
  refine OL.det trivial (Yields.pure rfl) ?_
  refine OL.det trivial (Yields.pure rfl) ?_
  refine OL.nil ?_
  refine PW.keep (T' := [(0, _), (1, _), (2, _)]) ⟨rfl, rfl, rfl, trivial⟩ ?_
  refine PW.seq fun K1 hK1 => ?_
  refine PW.seqOps ?_
  refine OL.det trivial (Yields.pure rfl) ?_
  refine OL.det trivial (Yields.pure rfl) ?_
  refine OL.call trivial rfl (under_fc (by omega) (by omega)) ?_
  rintro _ Sx ⟨rfl, hSx⟩
  rw [hSx]
  clear hSx
  refine OL.bool trivial (Yields.pure rfl) (fun g19 => ?_) (fun g19 => ?_)
  · try simp only [decide_eq_true_eq, decide_eq_false_iff_not, beq_iff_eq, bne_iff_ne, beq_eq_false_iff_ne, bne_eq_false_iff_eq, Bool.not_eq_true', Bool.not_eq_false', Bool.not_eq_true, ne_eq, Decidable.not_not] at g19
    refine OL.det rfl (Yields.pure rfl) ?_
    refine OL.det rfl (Yields.pure rfl) ?_
    refine OL.call rfl rfl (under_fc (by omega) (by omega)) ?_
    rintro _ Sx ⟨rfl, hSx⟩
    rw [hSx]
    clear hSx
    refine OL.det trivial (Yields.pure rfl) ?_
    refine OL.bool trivial (Yields.pure rfl) (fun g24 => ?_) (fun g24 => ?_)
    · try simp only [decide_eq_true_eq, decide_eq_false_iff_not, beq_iff_eq, bne_iff_ne, beq_eq_false_iff_ne, bne_eq_false_iff_eq, Bool.not_eq_true', Bool.not_eq_false', Bool.not_eq_true, ne_eq, Decidable.not_not] at g24
      refine OL.det rfl (Yields.pure rfl) ?_
      refine OL.det rfl (Yields.pure rfl) ?_
      refine OL.call rfl rfl (under_fc (by omega) (by omega)) ?_
      rintro _ Sx ⟨rfl, hSx⟩
      rw [hSx]
      clear hSx
      refine OL.det rfl (Yields.pure rfl) ?_
      refine OL.det trivial (Yields.pure rfl) ?_
      refine OL.nil ?_
      refine PW.keep (T' := [(0, _), (1, _), (2, _), (29, _)]) ⟨rfl, rfl, rfl, rfl, trivial⟩ ?_
      refine PW.cond rfl (fun c29 => ?_) (fun c29 => ?_)
      · try simp only [decide_eq_true_eq, decide_eq_false_iff_not, beq_iff_eq, bne_iff_ne, beq_eq_false_iff_ne, bne_eq_false_iff_eq, Bool.not_eq_true', Bool.not_eq_false', Bool.not_eq_true, ne_eq, Decidable.not_not] at c29
        exact absurd (under_trans g19 g24) (by rw [c29]; simp)
        -- done
      · try simp only [decide_eq_true_eq, decide_eq_false_iff_not, beq_iff_eq, bne_iff_ne, beq_eq_false_iff_ne, bne_eq_false_iff_eq, Bool.not_eq_true', Bool.not_eq_false', Bool.not_eq_true, ne_eq, Decidable.not_not] at c29
        refine PW.skip ?_
        refine hK1 _ _ ?_
        refine PW.keep (T' := [(0, _), (1, _), (2, _)]) ⟨rfl, rfl, rfl, trivial⟩ ?_
        refine PW.seq fun K2 hK2 => ?_
        refine PW.seqOps ?_
        refine OL.det trivial (Yields.pure rfl) ?_
        refine OL.det trivial (Yields.pure rfl) ?_
        refine OL.call trivial rfl (under_fc (by omega) (by omega)) ?_
        rintro _ Sx ⟨rfl, hSx⟩
        rw [hSx]
        clear hSx
        refine OL.bool trivial (Yields.pure rfl) (fun g33 => ?_) (fun g33 => ?_)
        · try simp only [decide_eq_true_eq, decide_eq_false_iff_not, beq_iff_eq, bne_iff_ne, beq_eq_false_iff_ne, bne_eq_false_iff_eq, Bool.not_eq_true', Bool.not_eq_false', Bool.not_eq_true, ne_eq, Decidable.not_not] at g33
          refine OL.det rfl (Yields.pure rfl) ?_
          refine OL.det rfl (Yields.pure rfl) ?_
          refine OL.call rfl rfl (under_fc (by omega) (by omega)) ?_
          rintro _ Sx ⟨rfl, hSx⟩
          rw [hSx]
          clear hSx
          refine OL.det trivial (Yields.pure rfl) ?_
          refine OL.bool trivial (Yields.pure rfl) (fun g38 => ?_) (fun g38 => ?_)
          · try simp only [decide_eq_true_eq, decide_eq_false_iff_not, beq_iff_eq, bne_iff_ne, beq_eq_false_iff_ne, bne_eq_false_iff_eq, Bool.not_eq_true', Bool.not_eq_false', Bool.not_eq_true, ne_eq, Decidable.not_not] at g38
            refine OL.det rfl (Yields.pure rfl) ?_
            refine OL.det rfl (Yields.pure rfl) ?_
            refine OL.det trivial (Yields.pure rfl) ?_
            refine OL.bool trivial (Yields.pure rfl) (fun g42 => ?_) (fun g42 => ?_)
            · try simp only [decide_eq_true_eq, decide_eq_false_iff_not, beq_iff_eq, bne_iff_ne, beq_eq_false_iff_ne, bne_eq_false_iff_eq, Bool.not_eq_true', Bool.not_eq_false', Bool.not_eq_true, ne_eq, Decidable.not_not] at g42
              rw [toL_inj] at g42
              refine OL.det rfl (Yields.pure rfl) ?_
              refine OL.det rfl (Yields.pure rfl) ?_
              refine OL.det trivial (Yields.pure rfl) ?_
              refine OL.bool trivial (Yields.pure rfl) (fun g46 => ?_) (fun g46 => ?_)
              · try simp only [decide_eq_true_eq, decide_eq_false_iff_not, beq_iff_eq, bne_iff_ne, beq_eq_false_iff_ne, bne_eq_false_iff_eq, Bool.not_eq_true', Bool.not_eq_false', Bool.not_eq_true, ne_eq, Decidable.not_not] at g46
                rw [toL_inj] at g46
                refine OL.det rfl (Yields.pure rfl) ?_
                refine OL.det rfl (Yields.pure rfl) ?_
                refine OL.call rfl rfl (under_fc (by omega) (by omega)) ?_
                rintro _ Sx ⟨rfl, hSx⟩
                rw [hSx]
                clear hSx
                refine OL.det rfl (Yields.pure rfl) ?_
                refine OL.det trivial (Yields.pure rfl) ?_
                refine OL.bool trivial (Yields.pure rfl) (fun g52 => ?_) (fun g52 => ?_)
                · try simp only [decide_eq_true_eq, decide_eq_false_iff_not, beq_iff_eq, bne_iff_ne, beq_eq_false_iff_ne, bne_eq_false_iff_eq, Bool.not_eq_true', Bool.not_eq_false', Bool.not_eq_true, ne_eq, Decidable.not_not] at g52
                  refine OL.det rfl (Yields.pure rfl) ?_
                  refine OL.det rfl (Yields.pure rfl) ?_
                  refine OL.call rfl rfl (under_fc (by omega) (by omega)) ?_
                  rintro _ Sx ⟨rfl, hSx⟩
                  rw [hSx]
                  clear hSx
                  refine OL.det rfl (Yields.pure rfl) ?_
                  refine OL.det trivial (Yields.pure rfl) ?_
                  refine OL.nil ?_
                  refine PW.keep (T' := [(0, _), (1, _), (2, _), (57, _)]) ⟨rfl, rfl, rfl, rfl, trivial⟩ ?_
                  refine PW.cond rfl (fun c57 => ?_) (fun c57 => ?_)
                  · try simp only [decide_eq_true_eq, decide_eq_false_iff_not, beq_iff_eq, bne_iff_ne, beq_eq_false_iff_ne, bne_eq_false_iff_eq, Bool.not_eq_true', Bool.not_eq_false', Bool.not_eq_true, ne_eq, Decidable.not_not] at c57
                    rcases under_tot g33 g38 g42 g46 with h | h
                    · rw [h] at g52; cases g52
                    · rw [h] at c57; cases c57
                    -- done
                  · try simp only [decide_eq_true_eq, decide_eq_false_iff_not, beq_iff_eq, bne_iff_ne, beq_eq_false_iff_ne, bne_eq_false_iff_eq, Bool.not_eq_true', Bool.not_eq_false', Bool.not_eq_true, ne_eq, Decidable.not_not] at c57
                    refine PW.skip ?_
                    refine hK2 _ _ ?_
                    refine PW.keep (T' := [(0, _), (1, _), (2, _)]) ⟨rfl, rfl, rfl, trivial⟩ ?_
                    refine PW.seqOps ?_
                    refine OL.det trivial (Yields.pure rfl) ?_
                    refine OL.det trivial (Yields.pure rfl) ?_
                    refine OL.call trivial rfl (order_fc) ?_
                    rintro _ Sx ⟨rfl, hSx⟩
                    rw [hSx]
                    clear hSx
                    refine OL.det trivial (Yields.pure rfl) ?_
                    refine OL.det trivial (Yields.pure rfl) ?_
                    refine OL.call trivial rfl (order_fc) ?_
                    rintro _ Sx ⟨rfl, hSx⟩
                    rw [hSx]
                    clear hSx
                    refine OL.det trivial (Yields.pure rfl) ?_
                    refine OL.det trivial (Yields.pure rfl) ?_
                    refine OL.call trivial rfl (order_fc) ?_
                    rintro _ Sx ⟨rfl, hSx⟩
                    rw [hSx]
                    clear hSx
                    refine OL.det trivial (Yields.pure rfl) ?_
                    refine OL.det trivial (Yields.pure rfl) ?_
                    refine OL.det trivial (Yields.pure rfl) ?_
                    refine OL.nil ?_
                    refine PW.keep (T' := [(0, _), (1, _), (7, _), (8, _), (9, _)]) ⟨rfl, rfl, rfl, rfl, rfl, trivial⟩ ?_
                    refine PW.seqOps ?_
                    refine OL.det trivial (Yields.pure rfl) ?_
                    refine OL.det trivial (Yields.pure rfl) ?_
                    refine OL.call trivial rfl (order_fc) ?_
                    rintro _ Sx ⟨rfl, hSx⟩
                    rw [hSx]
                    clear hSx
                    refine OL.det trivial (Yields.pure rfl) ?_
                    refine OL.det trivial (Yields.to (v' := .int .i64 (-Lib.compareBytes a.data.toList b.data.toList)) (Yields.neg rfl) (by have := cmp_range a.data.toList b.data.toList; rw [wrap_i64 (by omega) (by omega)]; congr 1; omega)) ?_
                    refine OL.det trivial (Yields.pure rfl) ?_
                    refine OL.bool trivial (Yields.pure rfl) (fun g73 => ?_) (fun g73 => ?_)
                    · try simp only [decide_eq_true_eq, decide_eq_false_iff_not, beq_iff_eq, bne_iff_ne, beq_eq_false_iff_ne, bne_eq_false_iff_eq, Bool.not_eq_true', Bool.not_eq_false', Bool.not_eq_true, ne_eq, Decidable.not_not] at g73
                      refine OL.det rfl (Yields.pure rfl) ?_
                      refine OL.det rfl (Yields.pure rfl) ?_
                      refine OL.det rfl (Yields.pure rfl) ?_
                      refine OL.det rfl (Yields.pure rfl) ?_
                      refine OL.det rfl (Yields.pure rfl) ?_
                      refine OL.det rfl (Yields.pure rfl) ?_
                      refine OL.det trivial (Yields.pure rfl) ?_
                      refine OL.bool trivial (Yields.pure rfl) (fun g81 => ?_) (fun g81 => ?_)
                      · try simp only [decide_eq_true_eq, decide_eq_false_iff_not, beq_iff_eq, bne_iff_ne, beq_eq_false_iff_ne, bne_eq_false_iff_eq, Bool.not_eq_true', Bool.not_eq_false', Bool.not_eq_true, ne_eq, Decidable.not_not] at g81
                        refine OL.det rfl (Yields.pure rfl) ?_
                        refine OL.det rfl (Yields.pure rfl) ?_
                        refine OL.bool rfl (Yields.pure rfl) (fun g84 => ?_) (fun g84 => ?_)
                        · try simp only [decide_eq_true_eq, decide_eq_false_iff_not, beq_iff_eq, bne_iff_ne, beq_eq_false_iff_ne, bne_eq_false_iff_eq, Bool.not_eq_true', Bool.not_eq_false', Bool.not_eq_true, ne_eq, Decidable.not_not] at g84
                          refine OL.off rfl rfl ?_
                          refine OL.off rfl rfl ?_
                          refine OL.det rfl (Yields.pure rfl) ?_
                          refine OL.det rfl (Yields.pure rfl) ?_
                          refine OL.off rfl rfl ?_
                          refine OL.off rfl rfl ?_
                          refine OL.det rfl (Yields.pure rfl) ?_
                          refine OL.det trivial (Yields.pure rfl) ?_
                          refine OL.det trivial (Yields.pure rfl) ?_
                          refine OL.call rfl rfl (works_fc) ?_
                          rintro _ _ ⟨rfl, _⟩
                          refine OL.det trivial (Yields.pure rfl) ?_
                          refine OL.det trivial (Yields.pure rfl) ?_
                          refine OL.nil ?_
                          refine PW.keep (T' := [(6, _)]) ⟨rfl, trivial⟩ ?_
                          refine PW.ret ?_
                          change (Exit.ret = Exit.normal ∨ Exit.ret = Exit.ret) ∧ ∃ v, resV _ _ = some v ∧ _
                          exact ⟨.inr rfl, _, rfl, rfl⟩
                        · try simp only [decide_eq_true_eq, decide_eq_false_iff_not, beq_iff_eq, bne_iff_ne, beq_eq_false_iff_ne, bne_eq_false_iff_eq, Bool.not_eq_true', Bool.not_eq_false', Bool.not_eq_true, ne_eq, Decidable.not_not] at g84
                          refine OL.det rfl (Yields.pure rfl) ?_
                          refine OL.det rfl (Yields.pure rfl) ?_
                          refine OL.det rfl (Yields.pure rfl) ?_
                          refine OL.bool rfl (Yields.pure rfl) (fun g88 => ?_) (fun g88 => ?_)
                          · try simp only [decide_eq_true_eq, decide_eq_false_iff_not, beq_iff_eq, bne_iff_ne, beq_eq_false_iff_ne, bne_eq_false_iff_eq, Bool.not_eq_true', Bool.not_eq_false', Bool.not_eq_true, ne_eq, Decidable.not_not] at g88
                            refine OL.off rfl rfl ?_
                            refine OL.off rfl rfl ?_
                            refine OL.det rfl (Yields.pure rfl) ?_
                            refine OL.det trivial (Yields.pure rfl) ?_
                            refine OL.det trivial (Yields.pure rfl) ?_
                            refine OL.call rfl rfl (works_fc) ?_
                            rintro _ _ ⟨rfl, _⟩
                            refine OL.det trivial (Yields.pure rfl) ?_
                            refine OL.det trivial (Yields.pure rfl) ?_
                            refine OL.nil ?_
                            refine PW.keep (T' := [(6, _)]) ⟨rfl, trivial⟩ ?_
                            refine PW.ret ?_
                            change (Exit.ret = Exit.normal ∨ Exit.ret = Exit.ret) ∧ ∃ v, resV _ _ = some v ∧ _
                            exact ⟨.inr rfl, _, rfl, rfl⟩
                          · try simp only [decide_eq_true_eq, decide_eq_false_iff_not, beq_iff_eq, bne_iff_ne, beq_eq_false_iff_ne, bne_eq_false_iff_eq, Bool.not_eq_true', Bool.not_eq_false', Bool.not_eq_true, ne_eq, Decidable.not_not] at g88
                            refine OL.det rfl (Yields.pure rfl) ?_
                            refine OL.det rfl (Yields.pure rfl) ?_
                            refine OL.det rfl (Yields.pure rfl) ?_
                            refine OL.det trivial (Yields.pure rfl) ?_
                            refine OL.bool trivial (Yields.pure rfl) (fun g93 => ?_) (fun g93 => ?_)
                            · try simp only [decide_eq_true_eq, decide_eq_false_iff_not, beq_iff_eq, bne_iff_ne, beq_eq_false_iff_ne, bne_eq_false_iff_eq, Bool.not_eq_true', Bool.not_eq_false', Bool.not_eq_true, ne_eq, Decidable.not_not] at g93
                              refine OL.call rfl rfl (works_fc) ?_
                              rintro _ _ ⟨rfl, _⟩
                              refine OL.det trivial (Yields.pure rfl) ?_
                              refine OL.det trivial (Yields.pure rfl) ?_
                              refine OL.nil ?_
                              refine PW.keep (T' := [(6, _)]) ⟨rfl, trivial⟩ ?_
                              refine PW.ret ?_
                              change (Exit.ret = Exit.normal ∨ Exit.ret = Exit.ret) ∧ ∃ v, resV _ _ = some v ∧ _
                              exact ⟨.inr rfl, _, rfl, rfl⟩
                            · try simp only [decide_eq_true_eq, decide_eq_false_iff_not, beq_iff_eq, bne_iff_ne, beq_eq_false_iff_ne, bne_eq_false_iff_eq, Bool.not_eq_true', Bool.not_eq_false', Bool.not_eq_true, ne_eq, Decidable.not_not] at g93
                              exact absurd (cmp_trans a.data.toList b.data.toList c.data.toList (by omega) (by omega)) (by omega)
                              -- done
                      · try simp only [decide_eq_true_eq, decide_eq_false_iff_not, beq_iff_eq, bne_iff_ne, beq_eq_false_iff_ne, bne_eq_false_iff_eq, Bool.not_eq_true', Bool.not_eq_false', Bool.not_eq_true, ne_eq, Decidable.not_not] at g81
                        exfalso; apply g81; rw [eqS, Bool.eq_iff_iff]; simp only [beq_iff_eq, decide_eq_true_eq]; rw [cmp_zero]; exact ⟨ba_ext, fun e => by rw [e]⟩
                        -- done
                    · try simp only [decide_eq_true_eq, decide_eq_false_iff_not, beq_iff_eq, bne_iff_ne, beq_eq_false_iff_ne, bne_eq_false_iff_eq, Bool.not_eq_true', Bool.not_eq_false', Bool.not_eq_true, ne_eq, Decidable.not_not] at g73
                      exact absurd (cmp_anti _ _) g73
                      -- done
                · try simp only [decide_eq_true_eq, decide_eq_false_iff_not, beq_iff_eq, bne_iff_ne, beq_eq_false_iff_ne, bne_eq_false_iff_eq, Bool.not_eq_true', Bool.not_eq_false', Bool.not_eq_true, ne_eq, Decidable.not_not] at g52
                  refine OL.off rfl rfl ?_
                  refine OL.off rfl rfl ?_
                  refine OL.off rfl rfl ?_
                  refine OL.off rfl rfl ?_
                  refine OL.det trivial (Yields.pure rfl) ?_
                  refine OL.nil ?_
                  refine PW.keep (T' := [(0, _), (1, _), (2, _), (57, _)]) ⟨rfl, rfl, rfl, rfl, trivial⟩ ?_
                  refine PW.ite (b := false) rfl ?_
                  rw [if_neg Bool.false_ne_true]
                  refine PW.skip ?_
                  refine hK2 _ _ ?_
                  refine PW.keep (T' := [(0, _), (1, _), (2, _)]) ⟨rfl, rfl, rfl, trivial⟩ ?_
                  refine PW.seqOps ?_
                  refine OL.det trivial (Yields.pure rfl) ?_
                  refine OL.det trivial (Yields.pure rfl) ?_
                  refine OL.call trivial rfl (order_fc) ?_
                  rintro _ Sx ⟨rfl, hSx⟩
                  rw [hSx]
                  clear hSx
                  refine OL.det trivial (Yields.pure rfl) ?_
                  refine OL.det trivial (Yields.pure rfl) ?_
                  refine OL.call trivial rfl (order_fc) ?_
                  rintro _ Sx ⟨rfl, hSx⟩
                  rw [hSx]
                  clear hSx
                  refine OL.det trivial (Yields.pure rfl) ?_
                  refine OL.det trivial (Yields.pure rfl) ?_
                  refine OL.call trivial rfl (order_fc) ?_
                  rintro _ Sx ⟨rfl, hSx⟩
                  rw [hSx]
                  clear hSx
                  refine OL.det trivial (Yields.pure rfl) ?_
                  refine OL.det trivial (Yields.pure rfl) ?_
                  refine OL.det trivial (Yields.pure rfl) ?_
                  refine OL.nil ?_
                  refine PW.keep (T' := [(0, _), (1, _), (7, _), (8, _), (9, _)]) ⟨rfl, rfl, rfl, rfl, rfl, trivial⟩ ?_
                  refine PW.seqOps ?_
                  refine OL.det trivial (Yields.pure rfl) ?_
                  refine OL.det trivial (Yields.pure rfl) ?_
                  refine OL.call trivial rfl (order_fc) ?_
                  rintro _ Sx ⟨rfl, hSx⟩
                  rw [hSx]
                  clear hSx
                  refine OL.det trivial (Yields.pure rfl) ?_
                  refine OL.det trivial (Yields.to (v' := .int .i64 (-Lib.compareBytes a.data.toList b.data.toList)) (Yields.neg rfl) (by have := cmp_range a.data.toList b.data.toList; rw [wrap_i64 (by omega) (by omega)]; congr 1; omega)) ?_
                  refine OL.det trivial (Yields.pure rfl) ?_
                  refine OL.bool trivial (Yields.pure rfl) (fun g73 => ?_) (fun g73 => ?_)
                  · try simp only [decide_eq_true_eq, decide_eq_false_iff_not, beq_iff_eq, bne_iff_ne, beq_eq_false_iff_ne, bne_eq_false_iff_eq, Bool.not_eq_true', Bool.not_eq_false', Bool.not_eq_true, ne_eq, Decidable.not_not] at g73
                    refine OL.det rfl (Yields.pure rfl) ?_
                    refine OL.det rfl (Yields.pure rfl) ?_
                    refine OL.det rfl (Yields.pure rfl) ?_
                    refine OL.det rfl (Yields.pure rfl) ?_
                    refine OL.det rfl (Yields.pure rfl) ?_
                    refine OL.det rfl (Yields.pure rfl) ?_
                    refine OL.det trivial (Yields.pure rfl) ?_
                    refine OL.bool trivial (Yields.pure rfl) (fun g81 => ?_) (fun g81 => ?_)
                    · try simp only [decide_eq_true_eq, decide_eq_false_iff_not, beq_iff_eq, bne_iff_ne, beq_eq_false_iff_ne, bne_eq_false_iff_eq, Bool.not_eq_true', Bool.not_eq_false', Bool.not_eq_true, ne_eq, Decidable.not_not] at g81
                      refine OL.det rfl (Yields.pure rfl) ?_
                      refine OL.det rfl (Yields.pure rfl) ?_
                      refine OL.bool rfl (Yields.pure rfl) (fun g84 => ?_) (fun g84 => ?_)
                      · try simp only [decide_eq_true_eq, decide_eq_false_iff_not, beq_iff_eq, bne_iff_ne, beq_eq_false_iff_ne, bne_eq_false_iff_eq, Bool.not_eq_true', Bool.not_eq_false', Bool.not_eq_true, ne_eq, Decidable.not_not] at g84
                        refine OL.off rfl rfl ?_
                        refine OL.off rfl rfl ?_
                        refine OL.det rfl (Yields.pure rfl) ?_
                        refine OL.det rfl (Yields.pure rfl) ?_
                        refine OL.off rfl rfl ?_
                        refine OL.off rfl rfl ?_
                        refine OL.det rfl (Yields.pure rfl) ?_
                        refine OL.det trivial (Yields.pure rfl) ?_
                        refine OL.det trivial (Yields.pure rfl) ?_
                        refine OL.call rfl rfl (works_fc) ?_
                        rintro _ _ ⟨rfl, _⟩
                        refine OL.det trivial (Yields.pure rfl) ?_
                        refine OL.det trivial (Yields.pure rfl) ?_
                        refine OL.nil ?_
                        refine PW.keep (T' := [(6, _)]) ⟨rfl, trivial⟩ ?_
                        refine PW.ret ?_
                        change (Exit.ret = Exit.normal ∨ Exit.ret = Exit.ret) ∧ ∃ v, resV _ _ = some v ∧ _
                        exact ⟨.inr rfl, _, rfl, rfl⟩
                      · try simp only [decide_eq_true_eq, decide_eq_false_iff_not, beq_iff_eq, bne_iff_ne, beq_eq_false_iff_ne, bne_eq_false_iff_eq, Bool.not_eq_true', Bool.not_eq_false', Bool.not_eq_true, ne_eq, Decidable.not_not] at g84
                        refine OL.det rfl (Yields.pure rfl) ?_
                        refine OL.det rfl (Yields.pure rfl) ?_
                        refine OL.det rfl (Yields.pure rfl) ?_
                        refine OL.bool rfl (Yields.pure rfl) (fun g88 => ?_) (fun g88 => ?_)
                        · try simp only [decide_eq_true_eq, decide_eq_false_iff_not, beq_iff_eq, bne_iff_ne, beq_eq_false_iff_ne, bne_eq_false_iff_eq, Bool.not_eq_true', Bool.not_eq_false', Bool.not_eq_true, ne_eq, Decidable.not_not] at g88
                          refine OL.off rfl rfl ?_
                          refine OL.off rfl rfl ?_
                          refine OL.det rfl (Yields.pure rfl) ?_
                          refine OL.det trivial (Yields.pure rfl) ?_
                          refine OL.det trivial (Yields.pure rfl) ?_
                          refine OL.call rfl rfl (works_fc) ?_
                          rintro _ _ ⟨rfl, _⟩
                          refine OL.det trivial (Yields.pure rfl) ?_
                          refine OL.det trivial (Yields.pure rfl) ?_
                          refine OL.nil ?_
                          refine PW.keep (T' := [(6, _)]) ⟨rfl, trivial⟩ ?_
                          refine PW.ret ?_
                          change (Exit.ret = Exit.normal ∨ Exit.ret = Exit.ret) ∧ ∃ v, resV _ _ = some v ∧ _
                          exact ⟨.inr rfl, _, rfl, rfl⟩
                        · try simp only [decide_eq_true_eq, decide_eq_false_iff_not, beq_iff_eq, bne_iff_ne, beq_eq_false_iff_ne, bne_eq_false_iff_eq, Bool.not_eq_true', Bool.not_eq_false', Bool.not_eq_true, ne_eq, Decidable.not_not] at g88
                          refine OL.det rfl (Yields.pure rfl) ?_
                          refine OL.det rfl (Yields.pure rfl) ?_
                          refine OL.det rfl (Yields.pure rfl) ?_
                          refine OL.det trivial (Yields.pure rfl) ?_
                          refine OL.bool trivial (Yields.pure rfl) (fun g93 => ?_) (fun g93 => ?_)
                          · try simp only [decide_eq_true_eq, decide_eq_false_iff_not, beq_iff_eq, bne_iff_ne, beq_eq_false_iff_ne, bne_eq_false_iff_eq, Bool.not_eq_true', Bool.not_eq_false', Bool.not_eq_true, ne_eq, Decidable.not_not] at g93
                            refine OL.call rfl rfl (works_fc) ?_
                            rintro _ _ ⟨rfl, _⟩
                            refine OL.det trivial (Yields.pure rfl) ?_
                            refine OL.det trivial (Yields.pure rfl) ?_
                            refine OL.nil ?_
                            refine PW.keep (T' := [(6, _)]) ⟨rfl, trivial⟩ ?_
                            refine PW.ret ?_
                            change (Exit.ret = Exit.normal ∨ Exit.ret = Exit.ret) ∧ ∃ v, resV _ _ = some v ∧ _
                            exact ⟨.inr rfl, _, rfl, rfl⟩
                          · try simp only [decide_eq_true_eq, decide_eq_false_iff_not, beq_iff_eq, bne_iff_ne, beq_eq_false_iff_ne, bne_eq_false_iff_eq, Bool.not_eq_true', Bool.not_eq_false', Bool.not_eq_true, ne_eq, Decidable.not_not] at g93
                            exact absurd (cmp_trans a.data.toList b.data.toList c.data.toList (by omega) (by omega)) (by omega)
                            -- done
                    · try simp only [decide_eq_true_eq, decide_eq_false_iff_not, beq_iff_eq, bne_iff_ne, beq_eq_false_iff_ne, bne_eq_false_iff_eq, Bool.not_eq_true', Bool.not_eq_false', Bool.not_eq_true, ne_eq, Decidable.not_not] at g81
                      exfalso; apply g81; rw [eqS, Bool.eq_iff_iff]; simp only [beq_iff_eq, decide_eq_true_eq]; rw [cmp_zero]; exact ⟨ba_ext, fun e => by rw [e]⟩
                      -- done
                  · try simp only [decide_eq_true_eq, decide_eq_false_iff_not, beq_iff_eq, bne_iff_ne, beq_eq_false_iff_ne, bne_eq_false_iff_eq, Bool.not_eq_true', Bool.not_eq_false', Bool.not_eq_true, ne_eq, Decidable.not_not] at g73
                    exact absurd (cmp_anti _ _) g73
                    -- done
              · try simp only [decide_eq_true_eq, decide_eq_false_iff_not, beq_iff_eq, bne_iff_ne, beq_eq_false_iff_ne, bne_eq_false_iff_eq, Bool.not_eq_true', Bool.not_eq_false', Bool.not_eq_true, ne_eq, Decidable.not_not] at g46
                refine OL.off rfl rfl ?_
                refine OL.off rfl rfl ?_
                refine OL.off rfl rfl ?_
                refine OL.off rfl rfl ?_
                refine OL.det trivial (Yields.pure rfl) ?_
                refine OL.det trivial (Yields.pure rfl) ?_
                refine OL.off rfl rfl ?_
                refine OL.off rfl rfl ?_
                refine OL.off rfl rfl ?_
                refine OL.off rfl rfl ?_
                refine OL.det trivial (Yields.pure rfl) ?_
                refine OL.nil ?_
                refine PW.keep (T' := [(0, _), (1, _), (2, _), (57, _)]) ⟨rfl, rfl, rfl, rfl, trivial⟩ ?_
                refine PW.ite (b := false) rfl ?_
                rw [if_neg Bool.false_ne_true]
                refine PW.skip ?_
                refine hK2 _ _ ?_
                refine PW.keep (T' := [(0, _), (1, _), (2, _)]) ⟨rfl, rfl, rfl, trivial⟩ ?_
                refine PW.seqOps ?_
                refine OL.det trivial (Yields.pure rfl) ?_
                refine OL.det trivial (Yields.pure rfl) ?_
                refine OL.call trivial rfl (order_fc) ?_
                rintro _ Sx ⟨rfl, hSx⟩
                rw [hSx]
                clear hSx
                refine OL.det trivial (Yields.pure rfl) ?_
                refine OL.det trivial (Yields.pure rfl) ?_
                refine OL.call trivial rfl (order_fc) ?_
                rintro _ Sx ⟨rfl, hSx⟩
                rw [hSx]
                clear hSx
                refine OL.det trivial (Yields.pure rfl) ?_
                refine OL.det trivial (Yields.pure rfl) ?_
                refine OL.call trivial rfl (order_fc) ?_
                rintro _ Sx ⟨rfl, hSx⟩
                rw [hSx]
                clear hSx
                refine OL.det trivial (Yields.pure rfl) ?_
                refine OL.det trivial (Yields.pure rfl) ?_
                refine OL.det trivial (Yields.pure rfl) ?_
                refine OL.nil ?_
                refine PW.keep (T' := [(0, _), (1, _), (7, _), (8, _), (9, _)]) ⟨rfl, rfl, rfl, rfl, rfl, trivial⟩ ?_
                refine PW.seqOps ?_
                refine OL.det trivial (Yields.pure rfl) ?_
                refine OL.det trivial (Yields.pure rfl) ?_
                refine OL.call trivial rfl (order_fc) ?_
                rintro _ Sx ⟨rfl, hSx⟩
                rw [hSx]
                clear hSx
                refine OL.det trivial (Yields.pure rfl) ?_
                refine OL.det trivial (Yields.to (v' := .int .i64 (-Lib.compareBytes a.data.toList b.data.toList)) (Yields.neg rfl) (by have := cmp_range a.data.toList b.data.toList; rw [wrap_i64 (by omega) (by omega)]; congr 1; omega)) ?_
                refine OL.det trivial (Yields.pure rfl) ?_
                refine OL.bool trivial (Yields.pure rfl) (fun g73 => ?_) (fun g73 => ?_)
                · try simp only [decide_eq_true_eq, decide_eq_false_iff_not, beq_iff_eq, bne_iff_ne, beq_eq_false_iff_ne, bne_eq_false_iff_eq, Bool.not_eq_true', Bool.not_eq_false', Bool.not_eq_true, ne_eq, Decidable.not_not] at g73
                  refine OL.det rfl (Yields.pure rfl) ?_
                  refine OL.det rfl (Yields.pure rfl) ?_
                  refine OL.det rfl (Yields.pure rfl) ?_
                  refine OL.det rfl (Yields.pure rfl) ?_
                  refine OL.det rfl (Yields.pure rfl) ?_
                  refine OL.det rfl (Yields.pure rfl) ?_
                  refine OL.det trivial (Yields.pure rfl) ?_
                  refine OL.bool trivial (Yields.pure rfl) (fun g81 => ?_) (fun g81 => ?_)
                  · try simp only [decide_eq_true_eq, decide_eq_false_iff_not, beq_iff_eq, bne_iff_ne, beq_eq_false_iff_ne, bne_eq_false_iff_eq, Bool.not_eq_true', Bool.not_eq_false', Bool.not_eq_true, ne_eq, Decidable.not_not] at g81
                    refine OL.det rfl (Yields.pure rfl) ?_
                    refine OL.det rfl (Yields.pure rfl) ?_
                    refine OL.bool rfl (Yields.pure rfl) (fun g84 => ?_) (fun g84 => ?_)
                    · try simp only [decide_eq_true_eq, decide_eq_false_iff_not, beq_iff_eq, bne_iff_ne, beq_eq_false_iff_ne, bne_eq_false_iff_eq, Bool.not_eq_true', Bool.not_eq_false', Bool.not_eq_true, ne_eq, Decidable.not_not] at g84
                      refine OL.off rfl rfl ?_
                      refine OL.off rfl rfl ?_
                      refine OL.det rfl (Yields.pure rfl) ?_
                      refine OL.det rfl (Yields.pure rfl) ?_
                      refine OL.off rfl rfl ?_
                      refine OL.off rfl rfl ?_
                      refine OL.det rfl (Yields.pure rfl) ?_
                      refine OL.det trivial (Yields.pure rfl) ?_
                      refine OL.det trivial (Yields.pure rfl) ?_
                      refine OL.call rfl rfl (works_fc) ?_
                      rintro _ _ ⟨rfl, _⟩
                      refine OL.det trivial (Yields.pure rfl) ?_
                      refine OL.det trivial (Yields.pure rfl) ?_
                      refine OL.nil ?_
                      refine PW.keep (T' := [(6, _)]) ⟨rfl, trivial⟩ ?_
                      refine PW.ret ?_
                      change (Exit.ret = Exit.normal ∨ Exit.ret = Exit.ret) ∧ ∃ v, resV _ _ = some v ∧ _
                      exact ⟨.inr rfl, _, rfl, rfl⟩
                    · try simp only [decide_eq_true_eq, decide_eq_false_iff_not, beq_iff_eq, bne_iff_ne, beq_eq_false_iff_ne, bne_eq_false_iff_eq, Bool.not_eq_true', Bool.not_eq_false', Bool.not_eq_true, ne_eq, Decidable.not_not] at g84
                      refine OL.det rfl (Yields.pure rfl) ?_
                      refine OL.det rfl (Yields.pure rfl) ?_
                      refine OL.det rfl (Yields.pure rfl) ?_
                      refine OL.bool rfl (Yields.pure rfl) (fun g88 => ?_) (fun g88 => ?_)
                      · try simp only [decide_eq_true_eq, decide_eq_false_iff_not, beq_iff_eq, bne_iff_ne, beq_eq_false_iff_ne, bne_eq_false_iff_eq, Bool.not_eq_true', Bool.not_eq_false', Bool.not_eq_true, ne_eq, Decidable.not_not] at g88
                        refine OL.off rfl rfl ?_
                        refine OL.off rfl rfl ?_
                        refine OL.det rfl (Yields.pure rfl) ?_
                        refine OL.det trivial (Yields.pure rfl) ?_
                        refine OL.det trivial (Yields.pure rfl) ?_
                        refine OL.call rfl rfl (works_fc) ?_
                        rintro _ _ ⟨rfl, _⟩
                        refine OL.det trivial (Yields.pure rfl) ?_
                        refine OL.det trivial (Yields.pure rfl) ?_
                        refine OL.nil ?_
                        refine PW.keep (T' := [(6, _)]) ⟨rfl, trivial⟩ ?_
                        refine PW.ret ?_
                        change (Exit.ret = Exit.normal ∨ Exit.ret = Exit.ret) ∧ ∃ v, resV _ _ = some v ∧ _
                        exact ⟨.inr rfl, _, rfl, rfl⟩
                      · try simp only [decide_eq_true_eq, decide_eq_false_iff_not, beq_iff_eq, bne_iff_ne, beq_eq_false_iff_ne, bne_eq_false_iff_eq, Bool.not_eq_true', Bool.not_eq_false', Bool.not_eq_true, ne_eq, Decidable.not_not] at g88
                        refine OL.det rfl (Yields.pure rfl) ?_
                        refine OL.det rfl (Yields.pure rfl) ?_
                        refine OL.det rfl (Yields.pure rfl) ?_
                        refine OL.det trivial (Yields.pure rfl) ?_
                        refine OL.bool trivial (Yields.pure rfl) (fun g93 => ?_) (fun g93 => ?_)
                        · try simp only [decide_eq_true_eq, decide_eq_false_iff_not, beq_iff_eq, bne_iff_ne, beq_eq_false_iff_ne, bne_eq_false_iff_eq, Bool.not_eq_true', Bool.not_eq_false', Bool.not_eq_true, ne_eq, Decidable.not_not] at g93
                          refine OL.call rfl rfl (works_fc) ?_
                          rintro _ _ ⟨rfl, _⟩
                          refine OL.det trivial (Yields.pure rfl) ?_
                          refine OL.det trivial (Yields.pure rfl) ?_
                          refine OL.nil ?_
                          refine PW.keep (T' := [(6, _)]) ⟨rfl, trivial⟩ ?_
                          refine PW.ret ?_
                          change (Exit.ret = Exit.normal ∨ Exit.ret = Exit.ret) ∧ ∃ v, resV _ _ = some v ∧ _
                          exact ⟨.inr rfl, _, rfl, rfl⟩
                        · try simp only [decide_eq_true_eq, decide_eq_false_iff_not, beq_iff_eq, bne_iff_ne, beq_eq_false_iff_ne, bne_eq_false_iff_eq, Bool.not_eq_true', Bool.not_eq_false', Bool.not_eq_true, ne_eq, Decidable.not_not] at g93
                          exact absurd (cmp_trans a.data.toList b.data.toList c.data.toList (by omega) (by omega)) (by omega)
                          -- done
                  · try simp only [decide_eq_true_eq, decide_eq_false_iff_not, beq_iff_eq, bne_iff_ne, beq_eq_false_iff_ne, bne_eq_false_iff_eq, Bool.not_eq_true', Bool.not_eq_false', Bool.not_eq_true, ne_eq, Decidable.not_not] at g81
                    exfalso; apply g81; rw [eqS, Bool.eq_iff_iff]; simp only [beq_iff_eq, decide_eq_true_eq]; rw [cmp_zero]; exact ⟨ba_ext, fun e => by rw [e]⟩
                    -- done
                · try simp only [decide_eq_true_eq, decide_eq_false_iff_not, beq_iff_eq, bne_iff_ne, beq_eq_false_iff_ne, bne_eq_false_iff_eq, Bool.not_eq_true', Bool.not_eq_false', Bool.not_eq_true, ne_eq, Decidable.not_not] at g73
                  exact absurd (cmp_anti _ _) g73
                  -- done
            · try simp only [decide_eq_true_eq, decide_eq_false_iff_not, beq_iff_eq, bne_iff_ne, beq_eq_false_iff_ne, bne_eq_false_iff_eq, Bool.not_eq_true', Bool.not_eq_false', Bool.not_eq_true, ne_eq, Decidable.not_not] at g42
              refine OL.off rfl rfl ?_
              refine OL.off rfl rfl ?_
              refine OL.det trivial (Yields.pure rfl) ?_
              refine OL.det trivial (Yields.pure rfl) ?_
              refine OL.off rfl rfl ?_
              refine OL.off rfl rfl ?_
              refine OL.off rfl rfl ?_
              refine OL.off rfl rfl ?_
              refine OL.det trivial (Yields.pure rfl) ?_
              refine OL.det trivial (Yields.pure rfl) ?_
              refine OL.off rfl rfl ?_
              refine OL.off rfl rfl ?_
              refine OL.off rfl rfl ?_
              refine OL.off rfl rfl ?_
              refine OL.det trivial (Yields.pure rfl) ?_
              refine OL.nil ?_
              refine PW.keep (T' := [(0, _), (1, _), (2, _), (57, _)]) ⟨rfl, rfl, rfl, rfl, trivial⟩ ?_
              refine PW.ite (b := false) rfl ?_
              rw [if_neg Bool.false_ne_true]
              refine PW.skip ?_
              refine hK2 _ _ ?_
              refine PW.keep (T' := [(0, _), (1, _), (2, _)]) ⟨rfl, rfl, rfl, trivial⟩ ?_
              refine PW.seqOps ?_
              refine OL.det trivial (Yields.pure rfl) ?_
              refine OL.det trivial (Yields.pure rfl) ?_
              refine OL.call trivial rfl (order_fc) ?_
              rintro _ Sx ⟨rfl, hSx⟩
              rw [hSx]
              clear hSx
              refine OL.det trivial (Yields.pure rfl) ?_
              refine OL.det trivial (Yields.pure rfl) ?_
              refine OL.call trivial rfl (order_fc) ?_
              rintro _ Sx ⟨rfl, hSx⟩
              rw [hSx]
              clear hSx
              refine OL.det trivial (Yields.pure rfl) ?_
              refine OL.det trivial (Yields.pure rfl) ?_
              refine OL.call trivial rfl (order_fc) ?_
              rintro _ Sx ⟨rfl, hSx⟩
              rw [hSx]
              clear hSx
              refine OL.det trivial (Yields.pure rfl) ?_
              refine OL.det trivial (Yields.pure rfl) ?_
              refine OL.det trivial (Yields.pure rfl) ?_
              refine OL.nil ?_
              refine PW.keep (T' := [(0, _), (1, _), (7, _), (8, _), (9, _)]) ⟨rfl, rfl, rfl, rfl, rfl, trivial⟩ ?_
              refine PW.seqOps ?_
              refine OL.det trivial (Yields.pure rfl) ?_
              refine OL.det trivial (Yields.pure rfl) ?_
              refine OL.call trivial rfl (order_fc) ?_
              rintro _ Sx ⟨rfl, hSx⟩
              rw [hSx]
              clear hSx
              refine OL.det trivial (Yields.pure rfl) ?_
              refine OL.det trivial (Yields.to (v' := .int .i64 (-Lib.compareBytes a.data.toList b.data.toList)) (Yields.neg rfl) (by have := cmp_range a.data.toList b.data.toList; rw [wrap_i64 (by omega) (by omega)]; congr 1; omega)) ?_
              refine OL.det trivial (Yields.pure rfl) ?_
              refine OL.bool trivial (Yields.pure rfl) (fun g73 => ?_) (fun g73 => ?_)
              · try simp only [decide_eq_true_eq, decide_eq_false_iff_not, beq_iff_eq, bne_iff_ne, beq_eq_false_iff_ne, bne_eq_false_iff_eq, Bool.not_eq_true', Bool.not_eq_false', Bool.not_eq_true, ne_eq, Decidable.not_not] at g73
                refine OL.det rfl (Yields.pure rfl) ?_
                refine OL.det rfl (Yields.pure rfl) ?_
                refine OL.det rfl (Yields.pure rfl) ?_
                refine OL.det rfl (Yields.pure rfl) ?_
                refine OL.det rfl (Yields.pure rfl) ?_
                refine OL.det rfl (Yields.pure rfl) ?_
                refine OL.det trivial (Yields.pure rfl) ?_
                refine OL.bool trivial (Yields.pure rfl) (fun g81 => ?_) (fun g81 => ?_)
                · try simp only [decide_eq_true_eq, decide_eq_false_iff_not, beq_iff_eq, bne_iff_ne, beq_eq_false_iff_ne, bne_eq_false_iff_eq, Bool.not_eq_true', Bool.not_eq_false', Bool.not_eq_true, ne_eq, Decidable.not_not] at g81
                  refine OL.det rfl (Yields.pure rfl) ?_
                  refine OL.det rfl (Yields.pure rfl) ?_
                  refine OL.bool rfl (Yields.pure rfl) (fun g84 => ?_) (fun g84 => ?_)
                  · try simp only [decide_eq_true_eq, decide_eq_false_iff_not, beq_iff_eq, bne_iff_ne, beq_eq_false_iff_ne, bne_eq_false_iff_eq, Bool.not_eq_true', Bool.not_eq_false', Bool.not_eq_true, ne_eq, Decidable.not_not] at g84
                    refine OL.off rfl rfl ?_
                    refine OL.off rfl rfl ?_
                    refine OL.det rfl (Yields.pure rfl) ?_
                    refine OL.det rfl (Yields.pure rfl) ?_
                    refine OL.off rfl rfl ?_
                    refine OL.off rfl rfl ?_
                    refine OL.det rfl (Yields.pure rfl) ?_
                    refine OL.det trivial (Yields.pure rfl) ?_
                    refine OL.det trivial (Yields.pure rfl) ?_
                    refine OL.call rfl rfl (works_fc) ?_
                    rintro _ _ ⟨rfl, _⟩
                    refine OL.det trivial (Yields.pure rfl) ?_
                    refine OL.det trivial (Yields.pure rfl) ?_
                    refine OL.nil ?_
                    refine PW.keep (T' := [(6, _)]) ⟨rfl, trivial⟩ ?_
                    refine PW.ret ?_
                    change (Exit.ret = Exit.normal ∨ Exit.ret = Exit.ret) ∧ ∃ v, resV _ _ = some v ∧ _
                    exact ⟨.inr rfl, _, rfl, rfl⟩
                  · try simp only [decide_eq_true_eq, decide_eq_false_iff_not, beq_iff_eq, bne_iff_ne, beq_eq_false_iff_ne, bne_eq_false_iff_eq, Bool.not_eq_true', Bool.not_eq_false', Bool.not_eq_true, ne_eq, Decidable.not_not] at g84
                    refine OL.det rfl (Yields.pure rfl) ?_
                    refine OL.det rfl (Yields.pure rfl) ?_
                    refine OL.det rfl (Yields.pure rfl) ?_
                    refine OL.bool rfl (Yields.pure rfl) (fun g88 => ?_) (fun g88 => ?_)
                    · try simp only [decide_eq_true_eq, decide_eq_false_iff_not, beq_iff_eq, bne_iff_ne, beq_eq_false_iff_ne, bne_eq_false_iff_eq, Bool.not_eq_true', Bool.not_eq_false', Bool.not_eq_true, ne_eq, Decidable.not_not] at g88
                      refine OL.off rfl rfl ?_
                      refine OL.off rfl rfl ?_
                      refine OL.det rfl (Yields.pure rfl) ?_
                      refine OL.det trivial (Yields.pure rfl) ?_
                      refine OL.det trivial (Yields.pure rfl) ?_
                      refine OL.call rfl rfl (works_fc) ?_
                      rintro _ _ ⟨rfl, _⟩
                      refine OL.det trivial (Yields.pure rfl) ?_
                      refine OL.det trivial (Yields.pure rfl) ?_
                      refine OL.nil ?_
                      refine PW.keep (T' := [(6, _)]) ⟨rfl, trivial⟩ ?_
                      refine PW.ret ?_
                      change (Exit.ret = Exit.normal ∨ Exit.ret = Exit.ret) ∧ ∃ v, resV _ _ = some v ∧ _
                      exact ⟨.inr rfl, _, rfl, rfl⟩
                    · try simp only [decide_eq_true_eq, decide_eq_false_iff_not, beq_iff_eq, bne_iff_ne, beq_eq_false_iff_ne, bne_eq_false_iff_eq, Bool.not_eq_true', Bool.not_eq_false', Bool.not_eq_true, ne_eq, Decidable.not_not] at g88
                      refine OL.det rfl (Yields.pure rfl) ?_
                      refine OL.det rfl (Yields.pure rfl) ?_
                      refine OL.det rfl (Yields.pure rfl) ?_
                      refine OL.det trivial (Yields.pure rfl) ?_
                      refine OL.bool trivial (Yields.pure rfl) (fun g93 => ?_) (fun g93 => ?_)
                      · try simp only [decide_eq_true_eq, decide_eq_false_iff_not, beq_iff_eq, bne_iff_ne, beq_eq_false_iff_ne, bne_eq_false_iff_eq, Bool.not_eq_true', Bool.not_eq_false', Bool.not_eq_true, ne_eq, Decidable.not_not] at g93
                        refine OL.call rfl rfl (works_fc) ?_
                        rintro _ _ ⟨rfl, _⟩
                        refine OL.det trivial (Yields.pure rfl) ?_
                        refine OL.det trivial (Yields.pure rfl) ?_
                        refine OL.nil ?_
                        refine PW.keep (T' := [(6, _)]) ⟨rfl, trivial⟩ ?_
                        refine PW.ret ?_
                        change (Exit.ret = Exit.normal ∨ Exit.ret = Exit.ret) ∧ ∃ v, resV _ _ = some v ∧ _
                        exact ⟨.inr rfl, _, rfl, rfl⟩
                      · try simp only [decide_eq_true_eq, decide_eq_false_iff_not, beq_iff_eq, bne_iff_ne, beq_eq_false_iff_ne, bne_eq_false_iff_eq, Bool.not_eq_true', Bool.not_eq_false', Bool.not_eq_true, ne_eq, Decidable.not_not] at g93
                        exact absurd (cmp_trans a.data.toList b.data.toList c.data.toList (by omega) (by omega)) (by omega)
                        -- done
                · try simp only [decide_eq_true_eq, decide_eq_false_iff_not, beq_iff_eq, bne_iff_ne, beq_eq_false_iff_ne, bne_eq_false_iff_eq, Bool.not_eq_true', Bool.not_eq_false', Bool.not_eq_true, ne_eq, Decidable.not_not] at g81
                  exfalso; apply g81; rw [eqS, Bool.eq_iff_iff]; simp only [beq_iff_eq, decide_eq_true_eq]; rw [cmp_zero]; exact ⟨ba_ext, fun e => by rw [e]⟩
                  -- done
              · try simp only [decide_eq_true_eq, decide_eq_false_iff_not, beq_iff_eq, bne_iff_ne, beq_eq_false_iff_ne, bne_eq_false_iff_eq, Bool.not_eq_true', Bool.not_eq_false', Bool.not_eq_true, ne_eq, Decidable.not_not] at g73
                exact absurd (cmp_anti _ _) g73
                -- done
          · try simp only [decide_eq_true_eq, decide_eq_false_iff_not, beq_iff_eq, bne_iff_ne, beq_eq_false_iff_ne, bne_eq_false_iff_eq, Bool.not_eq_true', Bool.not_eq_false', Bool.not_eq_true, ne_eq, Decidable.not_not] at g38
            refine OL.off rfl rfl ?_
            refine OL.off rfl rfl ?_
            refine OL.det trivial (Yields.pure rfl) ?_
            refine OL.det trivial (Yields.pure rfl) ?_
            refine OL.off rfl rfl ?_
            refine OL.off rfl rfl ?_
            refine OL.det trivial (Yields.pure rfl) ?_
            refine OL.det trivial (Yields.pure rfl) ?_
            refine OL.off rfl rfl ?_
            refine OL.off rfl rfl ?_
            refine OL.off rfl rfl ?_
            refine OL.off rfl rfl ?_
            refine OL.det trivial (Yields.pure rfl) ?_
            refine OL.det trivial (Yields.pure rfl) ?_
            refine OL.off rfl rfl ?_
            refine OL.off rfl rfl ?_
            refine OL.off rfl rfl ?_
            refine OL.off rfl rfl ?_
            refine OL.det trivial (Yields.pure rfl) ?_
            refine OL.nil ?_
            refine PW.keep (T' := [(0, _), (1, _), (2, _), (57, _)]) ⟨rfl, rfl, rfl, rfl, trivial⟩ ?_
            refine PW.ite (b := false) rfl ?_
            rw [if_neg Bool.false_ne_true]
            refine PW.skip ?_
            refine hK2 _ _ ?_
            refine PW.keep (T' := [(0, _), (1, _), (2, _)]) ⟨rfl, rfl, rfl, trivial⟩ ?_
            refine PW.seqOps ?_
            refine OL.det trivial (Yields.pure rfl) ?_
            refine OL.det trivial (Yields.pure rfl) ?_
            refine OL.call trivial rfl (order_fc) ?_
            rintro _ Sx ⟨rfl, hSx⟩
            rw [hSx]
            clear hSx
            refine OL.det trivial (Yields.pure rfl) ?_
            refine OL.det trivial (Yields.pure rfl) ?_
            refine OL.call trivial rfl (order_fc) ?_
            rintro _ Sx ⟨rfl, hSx⟩
            rw [hSx]
            clear hSx
            refine OL.det trivial (Yields.pure rfl) ?_
            refine OL.det trivial (Yields.pure rfl) ?_
            refine OL.call trivial rfl (order_fc) ?_
            rintro _ Sx ⟨rfl, hSx⟩
            rw [hSx]
            clear hSx
            refine OL.det trivial (Yields.pure rfl) ?_
            refine OL.det trivial (Yields.pure rfl) ?_
            refine OL.det trivial (Yields.pure rfl) ?_
            refine OL.nil ?_
            refine PW.keep (T' := [(0, _), (1, _), (7, _), (8, _), (9, _)]) ⟨rfl, rfl, rfl, rfl, rfl, trivial⟩ ?_
            refine PW.seqOps ?_
            refine OL.det trivial (Yields.pure rfl) ?_
            refine OL.det trivial (Yields.pure rfl) ?_
            refine OL.call trivial rfl (order_fc) ?_
            rintro _ Sx ⟨rfl, hSx⟩
            rw [hSx]
            clear hSx
            refine OL.det trivial (Yields.pure rfl) ?_
            refine OL.det trivial (Yields.to (v' := .int .i64 (-Lib.compareBytes a.data.toList b.data.toList)) (Yields.neg rfl) (by have := cmp_range a.data.toList b.data.toList; rw [wrap_i64 (by omega) (by omega)]; congr 1; omega)) ?_
            refine OL.det trivial (Yields.pure rfl) ?_
            refine OL.bool trivial (Yields.pure rfl) (fun g73 => ?_) (fun g73 => ?_)
            · try simp only [decide_eq_true_eq, decide_eq_false_iff_not, beq_iff_eq, bne_iff_ne, beq_eq_false_iff_ne, bne_eq_false_iff_eq, Bool.not_eq_true', Bool.not_eq_false', Bool.not_eq_true, ne_eq, Decidable.not_not] at g73
              refine OL.det rfl (Yields.pure rfl) ?_
              refine OL.det rfl (Yields.pure rfl) ?_
              refine OL.det rfl (Yields.pure rfl) ?_
              refine OL.det rfl (Yields.pure rfl) ?_
              refine OL.det rfl (Yields.pure rfl) ?_
              refine OL.det rfl (Yields.pure rfl) ?_
              refine OL.det trivial (Yields.pure rfl) ?_
              refine OL.bool trivial (Yields.pure rfl) (fun g81 => ?_) (fun g81 => ?_)
              · try simp only [decide_eq_true_eq, decide_eq_false_iff_not, beq_iff_eq, bne_iff_ne, beq_eq_false_iff_ne, bne_eq_false_iff_eq, Bool.not_eq_true', Bool.not_eq_false', Bool.not_eq_true, ne_eq, Decidable.not_not] at g81
                refine OL.det rfl (Yields.pure rfl) ?_
                refine OL.det rfl (Yields.pure rfl) ?_
                refine OL.bool rfl (Yields.pure rfl) (fun g84 => ?_) (fun g84 => ?_)
                · try simp only [decide_eq_true_eq, decide_eq_false_iff_not, beq_iff_eq, bne_iff_ne, beq_eq_false_iff_ne, bne_eq_false_iff_eq, Bool.not_eq_true', Bool.not_eq_false', Bool.not_eq_true, ne_eq, Decidable.not_not] at g84
                  refine OL.off rfl rfl ?_
                  refine OL.off rfl rfl ?_
                  refine OL.det rfl (Yields.pure rfl) ?_
                  refine OL.det rfl (Yields.pure rfl) ?_
                  refine OL.off rfl rfl ?_
                  refine OL.off rfl rfl ?_
                  refine OL.det rfl (Yields.pure rfl) ?_
                  refine OL.det trivial (Yields.pure rfl) ?_
                  refine OL.det trivial (Yields.pure rfl) ?_
                  refine OL.call rfl rfl (works_fc) ?_
                  rintro _ _ ⟨rfl, _⟩
                  refine OL.det trivial (Yields.pure rfl) ?_
                  refine OL.det trivial (Yields.pure rfl) ?_
                  refine OL.nil ?_
                  refine PW.keep (T' := [(6, _)]) ⟨rfl, trivial⟩ ?_
                  refine PW.ret ?_
                  change (Exit.ret = Exit.normal ∨ Exit.ret = Exit.ret) ∧ ∃ v, resV _ _ = some v ∧ _
                  exact ⟨.inr rfl, _, rfl, rfl⟩
                · try simp only [decide_eq_true_eq, decide_eq_false_iff_not, beq_iff_eq, bne_iff_ne, beq_eq_false_iff_ne, bne_eq_false_iff_eq, Bool.not_eq_true', Bool.not_eq_false', Bool.not_eq_true, ne_eq, Decidable.not_not] at g84
                  refine OL.det rfl (Yields.pure rfl) ?_
                  refine OL.det rfl (Yields.pure rfl) ?_
                  refine OL.det rfl (Yields.pure rfl) ?_
                  refine OL.bool rfl (Yields.pure rfl) (fun g88 => ?_) (fun g88 => ?_)
                  · try simp only [decide_eq_true_eq, decide_eq_false_iff_not, beq_iff_eq, bne_iff_ne, beq_eq_false_iff_ne, bne_eq_false_iff_eq, Bool.not_eq_true', Bool.not_eq_false', Bool.not_eq_true, ne_eq, Decidable.not_not] at g88
                    refine OL.off rfl rfl ?_
                    refine OL.off rfl rfl ?_
                    refine OL.det rfl (Yields.pure rfl) ?_
                    refine OL.det trivial (Yields.pure rfl) ?_
                    refine OL.det trivial (Yields.pure rfl) ?_
                    refine OL.call rfl rfl (works_fc) ?_
                    rintro _ _ ⟨rfl, _⟩
                    refine OL.det trivial (Yields.pure rfl) ?_
                    refine OL.det trivial (Yields.pure rfl) ?_
                    refine OL.nil ?_
                    refine PW.keep (T' := [(6, _)]) ⟨rfl, trivial⟩ ?_
                    refine PW.ret ?_
                    change (Exit.ret = Exit.normal ∨ Exit.ret = Exit.ret) ∧ ∃ v, resV _ _ = some v ∧ _
                    exact ⟨.inr rfl, _, rfl, rfl⟩
                  · try simp only [decide_eq_true_eq, decide_eq_false_iff_not, beq_iff_eq, bne_iff_ne, beq_eq_false_iff_ne, bne_eq_false_iff_eq, Bool.not_eq_true', Bool.not_eq_false', Bool.not_eq_true, ne_eq, Decidable.not_not] at g88
                    refine OL.det rfl (Yields.pure rfl) ?_
                    refine OL.det rfl (Yields.pure rfl) ?_
                    refine OL.det rfl (Yields.pure rfl) ?_
                    refine OL.det trivial (Yields.pure rfl) ?_
                    refine OL.bool trivial (Yields.pure rfl) (fun g93 => ?_) (fun g93 => ?_)
                    · try simp only [decide_eq_true_eq, decide_eq_false_iff_not, beq_iff_eq, bne_iff_ne, beq_eq_false_iff_ne, bne_eq_false_iff_eq, Bool.not_eq_true', Bool.not_eq_false', Bool.not_eq_true, ne_eq, Decidable.not_not] at g93
                      refine OL.call rfl rfl (works_fc) ?_
                      rintro _ _ ⟨rfl, _⟩
                      refine OL.det trivial (Yields.pure rfl) ?_
                      refine OL.det trivial (Yields.pure rfl) ?_
                      refine OL.nil ?_
                      refine PW.keep (T' := [(6, _)]) ⟨rfl, trivial⟩ ?_
                      refine PW.ret ?_
                      change (Exit.ret = Exit.normal ∨ Exit.ret = Exit.ret) ∧ ∃ v, resV _ _ = some v ∧ _
                      exact ⟨.inr rfl, _, rfl, rfl⟩
                    · try simp only [decide_eq_true_eq, decide_eq_false_iff_not, beq_iff_eq, bne_iff_ne, beq_eq_false_iff_ne, bne_eq_false_iff_eq, Bool.not_eq_true', Bool.not_eq_false', Bool.not_eq_true, ne_eq, Decidable.not_not] at g93
                      exact absurd (cmp_trans a.data.toList b.data.toList c.data.toList (by omega) (by omega)) (by omega)
                      -- done
              · try simp only [decide_eq_true_eq, decide_eq_false_iff_not, beq_iff_eq, bne_iff_ne, beq_eq_false_iff_ne, bne_eq_false_iff_eq, Bool.not_eq_true', Bool.not_eq_false', Bool.not_eq_true, ne_eq, Decidable.not_not] at g81
                exfalso; apply g81; rw [eqS, Bool.eq_iff_iff]; simp only [beq_iff_eq, decide_eq_true_eq]; rw [cmp_zero]; exact ⟨ba_ext, fun e => by rw [e]⟩
                -- done
            · try simp only [decide_eq_true_eq, decide_eq_false_iff_not, beq_iff_eq, bne_iff_ne, beq_eq_false_iff_ne, bne_eq_false_iff_eq, Bool.not_eq_true', Bool.not_eq_false', Bool.not_eq_true, ne_eq, Decidable.not_not] at g73
              exact absurd (cmp_anti _ _) g73
              -- done
        · try simp only [decide_eq_true_eq, decide_eq_false_iff_not, beq_iff_eq, bne_iff_ne, beq_eq_false_iff_ne, bne_eq_false_iff_eq, Bool.not_eq_true', Bool.not_eq_false', Bool.not_eq_true, ne_eq, Decidable.not_not] at g33
          refine OL.off rfl rfl ?_
          refine OL.off rfl rfl ?_
          refine OL.off rfl rfl ?_
          refine OL.det trivial (Yields.pure rfl) ?_
          refine OL.det trivial (Yields.pure rfl) ?_
          refine OL.off rfl rfl ?_
          refine OL.off rfl rfl ?_
          refine OL.det trivial (Yields.pure rfl) ?_
          refine OL.det trivial (Yields.pure rfl) ?_
          refine OL.off rfl rfl ?_
          refine OL.off rfl rfl ?_
          refine OL.det trivial (Yields.pure rfl) ?_
          refine OL.det trivial (Yields.pure rfl) ?_
          refine OL.off rfl rfl ?_
          refine OL.off rfl rfl ?_
          refine OL.off rfl rfl ?_
          refine OL.off rfl rfl ?_
          refine OL.det trivial (Yields.pure rfl) ?_
          refine OL.det trivial (Yields.pure rfl) ?_
          refine OL.off rfl rfl ?_
          refine OL.off rfl rfl ?_
          refine OL.off rfl rfl ?_
          refine OL.off rfl rfl ?_
          refine OL.det trivial (Yields.pure rfl) ?_
          refine OL.nil ?_
          refine PW.keep (T' := [(0, _), (1, _), (2, _), (57, _)]) ⟨rfl, rfl, rfl, rfl, trivial⟩ ?_
          refine PW.ite (b := false) rfl ?_
          rw [if_neg Bool.false_ne_true]
          refine PW.skip ?_
          refine hK2 _ _ ?_
          refine PW.keep (T' := [(0, _), (1, _), (2, _)]) ⟨rfl, rfl, rfl, trivial⟩ ?_
          refine PW.seqOps ?_
          refine OL.det trivial (Yields.pure rfl) ?_
          refine OL.det trivial (Yields.pure rfl) ?_
          refine OL.call trivial rfl (order_fc) ?_
          rintro _ Sx ⟨rfl, hSx⟩
          rw [hSx]
          clear hSx
          refine OL.det trivial (Yields.pure rfl) ?_
          refine OL.det trivial (Yields.pure rfl) ?_
          refine OL.call trivial rfl (order_fc) ?_
          rintro _ Sx ⟨rfl, hSx⟩
          rw [hSx]
          clear hSx
          refine OL.det trivial (Yields.pure rfl) ?_
          refine OL.det trivial (Yields.pure rfl) ?_
          refine OL.call trivial rfl (order_fc) ?_
          rintro _ Sx ⟨rfl, hSx⟩
          rw [hSx]
          clear hSx
          refine OL.det trivial (Yields.pure rfl) ?_
          refine OL.det trivial (Yields.pure rfl) ?_
          refine OL.det trivial (Yields.pure rfl) ?_
          refine OL.nil ?_
          refine PW.keep (T' := [(0, _), (1, _), (7, _), (8, _), (9, _)]) ⟨rfl, rfl, rfl, rfl, rfl, trivial⟩ ?_
          refine PW.seqOps ?_
          refine OL.det trivial (Yields.pure rfl) ?_
          refine OL.det trivial (Yields.pure rfl) ?_
          refine OL.call trivial rfl (order_fc) ?_
          rintro _ Sx ⟨rfl, hSx⟩
          rw [hSx]
          clear hSx
          refine OL.det trivial (Yields.pure rfl) ?_
          refine OL.det trivial (Yields.to (v' := .int .i64 (-Lib.compareBytes a.data.toList b.data.toList)) (Yields.neg rfl) (by have := cmp_range a.data.toList b.data.toList; rw [wrap_i64 (by omega) (by omega)]; congr 1; omega)) ?_
          refine OL.det trivial (Yields.pure rfl) ?_
          refine OL.bool trivial (Yields.pure rfl) (fun g73 => ?_) (fun g73 => ?_)
          · try simp only [decide_eq_true_eq, decide_eq_false_iff_not, beq_iff_eq, bne_iff_ne, beq_eq_false_iff_ne, bne_eq_false_iff_eq, Bool.not_eq_true', Bool.not_eq_false', Bool.not_eq_true, ne_eq, Decidable.not_not] at g73
            refine OL.det rfl (Yields.pure rfl) ?_
            refine OL.det rfl (Yields.pure rfl) ?_
            refine OL.det rfl (Yields.pure rfl) ?_
            refine OL.det rfl (Yields.pure rfl) ?_
            refine OL.det rfl (Yields.pure rfl) ?_
            refine OL.det rfl (Yields.pure rfl) ?_
            refine OL.det trivial (Yields.pure rfl) ?_
            refine OL.bool trivial (Yields.pure rfl) (fun g81 => ?_) (fun g81 => ?_)
            · try simp only [decide_eq_true_eq, decide_eq_false_iff_not, beq_iff_eq, bne_iff_ne, beq_eq_false_iff_ne, bne_eq_false_iff_eq, Bool.not_eq_true', Bool.not_eq_false', Bool.not_eq_true, ne_eq, Decidable.not_not] at g81
              refine OL.det rfl (Yields.pure rfl) ?_
              refine OL.det rfl (Yields.pure rfl) ?_
              refine OL.bool rfl (Yields.pure rfl) (fun g84 => ?_) (fun g84 => ?_)
              · try simp only [decide_eq_true_eq, decide_eq_false_iff_not, beq_iff_eq, bne_iff_ne, beq_eq_false_iff_ne, bne_eq_false_iff_eq, Bool.not_eq_true', Bool.not_eq_false', Bool.not_eq_true, ne_eq, Decidable.not_not] at g84
                refine OL.off rfl rfl ?_
                refine OL.off rfl rfl ?_
                refine OL.det rfl (Yields.pure rfl) ?_
                refine OL.det rfl (Yields.pure rfl) ?_
                refine OL.off rfl rfl ?_
                refine OL.off rfl rfl ?_
                refine OL.det rfl (Yields.pure rfl) ?_
                refine OL.det trivial (Yields.pure rfl) ?_
                refine OL.det trivial (Yields.pure rfl) ?_
                refine OL.call rfl rfl (works_fc) ?_
                rintro _ _ ⟨rfl, _⟩
                refine OL.det trivial (Yields.pure rfl) ?_
                refine OL.det trivial (Yields.pure rfl) ?_
                refine OL.nil ?_
                refine PW.keep (T' := [(6, _)]) ⟨rfl, trivial⟩ ?_
                refine PW.ret ?_
                change (Exit.ret = Exit.normal ∨ Exit.ret = Exit.ret) ∧ ∃ v, resV _ _ = some v ∧ _
                exact ⟨.inr rfl, _, rfl, rfl⟩
              · try simp only [decide_eq_true_eq, decide_eq_false_iff_not, beq_iff_eq, bne_iff_ne, beq_eq_false_iff_ne, bne_eq_false_iff_eq, Bool.not_eq_true', Bool.not_eq_false', Bool.not_eq_true, ne_eq, Decidable.not_not] at g84
                refine OL.det rfl (Yields.pure rfl) ?_
                refine OL.det rfl (Yields.pure rfl) ?_
                refine OL.det rfl (Yields.pure rfl) ?_
                refine OL.bool rfl (Yields.pure rfl) (fun g88 => ?_) (fun g88 => ?_)
                · try simp only [decide_eq_true_eq, decide_eq_false_iff_not, beq_iff_eq, bne_iff_ne, beq_eq_false_iff_ne, bne_eq_false_iff_eq, Bool.not_eq_true', Bool.not_eq_false', Bool.not_eq_true, ne_eq, Decidable.not_not] at g88
                  refine OL.off rfl rfl ?_
                  refine OL.off rfl rfl ?_
                  refine OL.det rfl (Yields.pure rfl) ?_
                  refine OL.det trivial (Yields.pure rfl) ?_
                  refine OL.det trivial (Yields.pure rfl) ?_
                  refine OL.call rfl rfl (works_fc) ?_
                  rintro _ _ ⟨rfl, _⟩
                  refine OL.det trivial (Yields.pure rfl) ?_
                  refine OL.det trivial (Yields.pure rfl) ?_
                  refine OL.nil ?_
                  refine PW.keep (T' := [(6, _)]) ⟨rfl, trivial⟩ ?_
                  refine PW.ret ?_
                  change (Exit.ret = Exit.normal ∨ Exit.ret = Exit.ret) ∧ ∃ v, resV _ _ = some v ∧ _
                  exact ⟨.inr rfl, _, rfl, rfl⟩
                · try simp only [decide_eq_true_eq, decide_eq_false_iff_not, beq_iff_eq, bne_iff_ne, beq_eq_false_iff_ne, bne_eq_false_iff_eq, Bool.not_eq_true', Bool.not_eq_false', Bool.not_eq_true, ne_eq, Decidable.not_not] at g88
                  refine OL.det rfl (Yields.pure rfl) ?_
                  refine OL.det rfl (Yields.pure rfl) ?_
                  refine OL.det rfl (Yields.pure rfl) ?_
                  refine OL.det trivial (Yields.pure rfl) ?_
                  refine OL.bool trivial (Yields.pure rfl) (fun g93 => ?_) (fun g93 => ?_)
                  · try simp only [decide_eq_true_eq, decide_eq_false_iff_not, beq_iff_eq, bne_iff_ne, beq_eq_false_iff_ne, bne_eq_false_iff_eq, Bool.not_eq_true', Bool.not_eq_false', Bool.not_eq_true, ne_eq, Decidable.not_not] at g93
                    refine OL.call rfl rfl (works_fc) ?_
                    rintro _ _ ⟨rfl, _⟩
                    refine OL.det trivial (Yields.pure rfl) ?_
                    refine OL.det trivial (Yields.pure rfl) ?_
                    refine OL.nil ?_
                    refine PW.keep (T' := [(6, _)]) ⟨rfl, trivial⟩ ?_
                    refine PW.ret ?_
                    change (Exit.ret = Exit.normal ∨ Exit.ret = Exit.ret) ∧ ∃ v, resV _ _ = some v ∧ _
                    exact ⟨.inr rfl, _, rfl, rfl⟩
                  · try simp only [decide_eq_true_eq, decide_eq_false_iff_not, beq_iff_eq, bne_iff_ne, beq_eq_false_iff_ne, bne_eq_false_iff_eq, Bool.not_eq_true', Bool.not_eq_false', Bool.not_eq_true, ne_eq, Decidable.not_not] at g93
                    exact absurd (cmp_trans a.data.toList b.data.toList c.data.toList (by omega) (by omega)) (by omega)
                    -- done
            · try simp only [decide_eq_true_eq, decide_eq_false_iff_not, beq_iff_eq, bne_iff_ne, beq_eq_false_iff_ne, bne_eq_false_iff_eq, Bool.not_eq_true', Bool.not_eq_false', Bool.not_eq_true, ne_eq, Decidable.not_not] at g81
              exfalso; apply g81; rw [eqS, Bool.eq_iff_iff]; simp only [beq_iff_eq, decide_eq_true_eq]; rw [cmp_zero]; exact ⟨ba_ext, fun e => by rw [e]⟩
              -- done
          · try simp only [decide_eq_true_eq, decide_eq_false_iff_not, beq_iff_eq, bne_iff_ne, beq_eq_false_iff_ne, bne_eq_false_iff_eq, Bool.not_eq_true', Bool.not_eq_false', Bool.not_eq_true, ne_eq, Decidable.not_not] at g73
            exact absurd (cmp_anti _ _) g73
            -- done
    · try simp only [decide_eq_true_eq, decide_eq_false_iff_not, beq_iff_eq, bne_iff_ne, beq_eq_false_iff_ne, bne_eq_false_iff_eq, Bool.not_eq_true', Bool.not_eq_false', Bool.not_eq_true, ne_eq, Decidable.not_not] at g24
      refine OL.off rfl rfl ?_
      refine OL.off rfl rfl ?_
      refine OL.off rfl rfl ?_
      refine OL.off rfl rfl ?_
      refine OL.det trivial (Yields.pure rfl) ?_
      refine OL.nil ?_
      refine PW.keep (T' := [(0, _), (1, _), (2, _), (29, _)]) ⟨rfl, rfl, rfl, rfl, trivial⟩ ?_
      refine PW.ite (b := false) rfl ?_
      rw [if_neg Bool.false_ne_true]
      refine PW.skip ?_
      refine hK1 _ _ ?_
      refine PW.keep (T' := [(0, _), (1, _), (2, _)]) ⟨rfl, rfl, rfl, trivial⟩ ?_
      refine PW.seq fun K3 hK3 => ?_
      refine PW.seqOps ?_
      refine OL.det trivial (Yields.pure rfl) ?_
      refine OL.det trivial (Yields.pure rfl) ?_
      refine OL.call trivial rfl (under_fc (by omega) (by omega)) ?_
      rintro _ Sx ⟨rfl, hSx⟩
      rw [hSx]
      clear hSx
      refine OL.bool trivial (Yields.pure rfl) (fun g33 => ?_) (fun g33 => ?_)
      · try simp only [decide_eq_true_eq, decide_eq_false_iff_not, beq_iff_eq, bne_iff_ne, beq_eq_false_iff_ne, bne_eq_false_iff_eq, Bool.not_eq_true', Bool.not_eq_false', Bool.not_eq_true, ne_eq, Decidable.not_not] at g33
        refine OL.det rfl (Yields.pure rfl) ?_
        refine OL.det rfl (Yields.pure rfl) ?_
        refine OL.call rfl rfl (under_fc (by omega) (by omega)) ?_
        rintro _ Sx ⟨rfl, hSx⟩
        rw [hSx]
        clear hSx
        refine OL.det trivial (Yields.pure rfl) ?_
        refine OL.bool trivial (Yields.pure rfl) (fun g38 => ?_) (fun g38 => ?_)
        · try simp only [decide_eq_true_eq, decide_eq_false_iff_not, beq_iff_eq, bne_iff_ne, beq_eq_false_iff_ne, bne_eq_false_iff_eq, Bool.not_eq_true', Bool.not_eq_false', Bool.not_eq_true, ne_eq, Decidable.not_not] at g38
          refine OL.det rfl (Yields.pure rfl) ?_
          refine OL.det rfl (Yields.pure rfl) ?_
          refine OL.det trivial (Yields.pure rfl) ?_
          refine OL.bool trivial (Yields.pure rfl) (fun g42 => ?_) (fun g42 => ?_)
          · try simp only [decide_eq_true_eq, decide_eq_false_iff_not, beq_iff_eq, bne_iff_ne, beq_eq_false_iff_ne, bne_eq_false_iff_eq, Bool.not_eq_true', Bool.not_eq_false', Bool.not_eq_true, ne_eq, Decidable.not_not] at g42
            rw [toL_inj] at g42
            refine OL.det rfl (Yields.pure rfl) ?_
            refine OL.det rfl (Yields.pure rfl) ?_
            refine OL.det trivial (Yields.pure rfl) ?_
            refine OL.bool trivial (Yields.pure rfl) (fun g46 => ?_) (fun g46 => ?_)
            · try simp only [decide_eq_true_eq, decide_eq_false_iff_not, beq_iff_eq, bne_iff_ne, beq_eq_false_iff_ne, bne_eq_false_iff_eq, Bool.not_eq_true', Bool.not_eq_false', Bool.not_eq_true, ne_eq, Decidable.not_not] at g46
              rw [toL_inj] at g46
              refine OL.det rfl (Yields.pure rfl) ?_
              refine OL.det rfl (Yields.pure rfl) ?_
              refine OL.call rfl rfl (under_fc (by omega) (by omega)) ?_
              rintro _ Sx ⟨rfl, hSx⟩
              rw [hSx]
              clear hSx
              refine OL.det rfl (Yields.pure rfl) ?_
              refine OL.det trivial (Yields.pure rfl) ?_
              refine OL.bool trivial (Yields.pure rfl) (fun g52 => ?_) (fun g52 => ?_)
              · try simp only [decide_eq_true_eq, decide_eq_false_iff_not, beq_iff_eq, bne_iff_ne, beq_eq_false_iff_ne, bne_eq_false_iff_eq, Bool.not_eq_true', Bool.not_eq_false', Bool.not_eq_true, ne_eq, Decidable.not_not] at g52
                refine OL.det rfl (Yields.pure rfl) ?_
                refine OL.det rfl (Yields.pure rfl) ?_
                refine OL.call rfl rfl (under_fc (by omega) (by omega)) ?_
                rintro _ Sx ⟨rfl, hSx⟩
                rw [hSx]
                clear hSx
                refine OL.det rfl (Yields.pure rfl) ?_
                refine OL.det trivial (Yields.pure rfl) ?_
                refine OL.nil ?_
                refine PW.keep (T' := [(0, _), (1, _), (2, _), (57, _)]) ⟨rfl, rfl, rfl, rfl, trivial⟩ ?_
                refine PW.cond rfl (fun c57 => ?_) (fun c57 => ?_)
                · try simp only [decide_eq_true_eq, decide_eq_false_iff_not, beq_iff_eq, bne_iff_ne, beq_eq_false_iff_ne, bne_eq_false_iff_eq, Bool.not_eq_true', Bool.not_eq_false', Bool.not_eq_true, ne_eq, Decidable.not_not] at c57
                  rcases under_tot g33 g38 g42 g46 with h | h
                  · rw [h] at g52; cases g52
                  · rw [h] at c57; cases c57
                  -- done
                · try simp only [decide_eq_true_eq, decide_eq_false_iff_not, beq_iff_eq, bne_iff_ne, beq_eq_false_iff_ne, bne_eq_false_iff_eq, Bool.not_eq_true', Bool.not_eq_false', Bool.not_eq_true, ne_eq, Decidable.not_not] at c57
                  refine PW.skip ?_
                  refine hK3 _ _ ?_
                  refine PW.keep (T' := [(0, _), (1, _), (2, _)]) ⟨rfl, rfl, rfl, trivial⟩ ?_
                  refine PW.seqOps ?_
                  refine OL.det trivial (Yields.pure rfl) ?_
                  refine OL.det trivial (Yields.pure rfl) ?_
                  refine OL.call trivial rfl (order_fc) ?_
                  rintro _ Sx ⟨rfl, hSx⟩
                  rw [hSx]
                  clear hSx
                  refine OL.det trivial (Yields.pure rfl) ?_
                  refine OL.det trivial (Yields.pure rfl) ?_
                  refine OL.call trivial rfl (order_fc) ?_
                  rintro _ Sx ⟨rfl, hSx⟩
                  rw [hSx]
                  clear hSx
                  refine OL.det trivial (Yields.pure rfl) ?_
                  refine OL.det trivial (Yields.pure rfl) ?_
                  refine OL.call trivial rfl (order_fc) ?_
                  rintro _ Sx ⟨rfl, hSx⟩
                  rw [hSx]
                  clear hSx
                  refine OL.det trivial (Yields.pure rfl) ?_
                  refine OL.det trivial (Yields.pure rfl) ?_
                  refine OL.det trivial (Yields.pure rfl) ?_
                  refine OL.nil ?_
                  refine PW.keep (T' := [(0, _), (1, _), (7, _), (8, _), (9, _)]) ⟨rfl, rfl, rfl, rfl, rfl, trivial⟩ ?_
                  refine PW.seqOps ?_
                  refine OL.det trivial (Yields.pure rfl) ?_
                  refine OL.det trivial (Yields.pure rfl) ?_
                  refine OL.call trivial rfl (order_fc) ?_
                  rintro _ Sx ⟨rfl, hSx⟩
                  rw [hSx]
                  clear hSx
                  refine OL.det trivial (Yields.pure rfl) ?_
                  refine OL.det trivial (Yields.to (v' := .int .i64 (-Lib.compareBytes a.data.toList b.data.toList)) (Yields.neg rfl) (by have := cmp_range a.data.toList b.data.toList; rw [wrap_i64 (by omega) (by omega)]; congr 1; omega)) ?_
                  refine OL.det trivial (Yields.pure rfl) ?_
                  refine OL.bool trivial (Yields.pure rfl) (fun g73 => ?_) (fun g73 => ?_)
                  · try simp only [decide_eq_true_eq, decide_eq_false_iff_not, beq_iff_eq, bne_iff_ne, beq_eq_false_iff_ne, bne_eq_false_iff_eq, Bool.not_eq_true', Bool.not_eq_false', Bool.not_eq_true, ne_eq, Decidable.not_not] at g73
                    refine OL.det rfl (Yields.pure rfl) ?_
                    refine OL.det rfl (Yields.pure rfl) ?_
                    refine OL.det rfl (Yields.pure rfl) ?_
                    refine OL.det rfl (Yields.pure rfl) ?_
                    refine OL.det rfl (Yields.pure rfl) ?_
                    refine OL.det rfl (Yields.pure rfl) ?_
                    refine OL.det trivial (Yields.pure rfl) ?_
                    refine OL.bool trivial (Yields.pure rfl) (fun g81 => ?_) (fun g81 => ?_)
                    · try simp only [decide_eq_true_eq, decide_eq_false_iff_not, beq_iff_eq, bne_iff_ne, beq_eq_false_iff_ne, bne_eq_false_iff_eq, Bool.not_eq_true', Bool.not_eq_false', Bool.not_eq_true, ne_eq, Decidable.not_not] at g81
                      refine OL.det rfl (Yields.pure rfl) ?_
                      refine OL.det rfl (Yields.pure rfl) ?_
                      refine OL.bool rfl (Yields.pure rfl) (fun g84 => ?_) (fun g84 => ?_)
                      · try simp only [decide_eq_true_eq, decide_eq_false_iff_not, beq_iff_eq, bne_iff_ne, beq_eq_false_iff_ne, bne_eq_false_iff_eq, Bool.not_eq_true', Bool.not_eq_false', Bool.not_eq_true, ne_eq, Decidable.not_not] at g84
                        refine OL.off rfl rfl ?_
                        refine OL.off rfl rfl ?_
                        refine OL.det rfl (Yields.pure rfl) ?_
                        refine OL.det rfl (Yields.pure rfl) ?_
                        refine OL.off rfl rfl ?_
                        refine OL.off rfl rfl ?_
                        refine OL.det rfl (Yields.pure rfl) ?_
                        refine OL.det trivial (Yields.pure rfl) ?_
                        refine OL.det trivial (Yields.pure rfl) ?_
                        refine OL.call rfl rfl (works_fc) ?_
                        rintro _ _ ⟨rfl, _⟩
                        refine OL.det trivial (Yields.pure rfl) ?_
                        refine OL.det trivial (Yields.pure rfl) ?_
                        refine OL.nil ?_
                        refine PW.keep (T' := [(6, _)]) ⟨rfl, trivial⟩ ?_
                        refine PW.ret ?_
                        change (Exit.ret = Exit.normal ∨ Exit.ret = Exit.ret) ∧ ∃ v, resV _ _ = some v ∧ _
                        exact ⟨.inr rfl, _, rfl, rfl⟩
                      · try simp only [decide_eq_true_eq, decide_eq_false_iff_not, beq_iff_eq, bne_iff_ne, beq_eq_false_iff_ne, bne_eq_false_iff_eq, Bool.not_eq_true', Bool.not_eq_false', Bool.not_eq_true, ne_eq, Decidable.not_not] at g84
                        refine OL.det rfl (Yields.pure rfl) ?_
                        refine OL.det rfl (Yields.pure rfl) ?_
                        refine OL.det rfl (Yields.pure rfl) ?_
                        refine OL.bool rfl (Yields.pure rfl) (fun g88 => ?_) (fun g88 => ?_)
                        · try simp only [decide_eq_true_eq, decide_eq_false_iff_not, beq_iff_eq, bne_iff_ne, beq_eq_false_iff_ne, bne_eq_false_iff_eq, Bool.not_eq_true', Bool.not_eq_false', Bool.not_eq_true, ne_eq, Decidable.not_not] at g88
                          refine OL.off rfl rfl ?_
                          refine OL.off rfl rfl ?_
                          refine OL.det rfl (Yields.pure rfl) ?_
                          refine OL.det trivial (Yields.pure rfl) ?_
                          refine OL.det trivial (Yields.pure rfl) ?_
                          refine OL.call rfl rfl (works_fc) ?_
                          rintro _ _ ⟨rfl, _⟩
                          refine OL.det trivial (Yields.pure rfl) ?_
                          refine OL.det trivial (Yields.pure rfl) ?_
                          refine OL.nil ?_
                          refine PW.keep (T' := [(6, _)]) ⟨rfl, trivial⟩ ?_
                          refine PW.ret ?_
                          change (Exit.ret = Exit.normal ∨ Exit.ret = Exit.ret) ∧ ∃ v, resV _ _ = some v ∧ _
                          exact ⟨.inr rfl, _, rfl, rfl⟩
                        · try simp only [decide_eq_true_eq, decide_eq_false_iff_not, beq_iff_eq, bne_iff_ne, beq_eq_false_iff_ne, bne_eq_false_iff_eq, Bool.not_eq_true', Bool.not_eq_false', Bool.not_eq_true, ne_eq, Decidable.not_not] at g88
                          refine OL.det rfl (Yields.pure rfl) ?_
                          refine OL.det rfl (Yields.pure rfl) ?_
                          refine OL.det rfl (Yields.pure rfl) ?_
                          refine OL.det trivial (Yields.pure rfl) ?_
                          refine OL.bool trivial (Yields.pure rfl) (fun g93 => ?_) (fun g93 => ?_)
                          · try simp only [decide_eq_true_eq, decide_eq_false_iff_not, beq_iff_eq, bne_iff_ne, beq_eq_false_iff_ne, bne_eq_false_iff_eq, Bool.not_eq_true', Bool.not_eq_false', Bool.not_eq_true, ne_eq, Decidable.not_not] at g93
                            refine OL.call rfl rfl (works_fc) ?_
                            rintro _ _ ⟨rfl, _⟩
                            refine OL.det trivial (Yields.pure rfl) ?_
                            refine OL.det trivial (Yields.pure rfl) ?_
                            refine OL.nil ?_
                            refine PW.keep (T' := [(6, _)]) ⟨rfl, trivial⟩ ?_
                            refine PW.ret ?_
                            change (Exit.ret = Exit.normal ∨ Exit.ret = Exit.ret) ∧ ∃ v, resV _ _ = some v ∧ _
                            exact ⟨.inr rfl, _, rfl, rfl⟩
                          · try simp only [decide_eq_true_eq, decide_eq_false_iff_not, beq_iff_eq, bne_iff_ne, beq_eq_false_iff_ne, bne_eq_false_iff_eq, Bool.not_eq_true', Bool.not_eq_false', Bool.not_eq_true, ne_eq, Decidable.not_not] at g93
                            exact absurd (cmp_trans a.data.toList b.data.toList c.data.toList (by omega) (by omega)) (by omega)
                            -- done
                    · try simp only [decide_eq_true_eq, decide_eq_false_iff_not, beq_iff_eq, bne_iff_ne, beq_eq_false_iff_ne, bne_eq_false_iff_eq, Bool.not_eq_true', Bool.not_eq_false', Bool.not_eq_true, ne_eq, Decidable.not_not] at g81
                      exfalso; apply g81; rw [eqS, Bool.eq_iff_iff]; simp only [beq_iff_eq, decide_eq_true_eq]; rw [cmp_zero]; exact ⟨ba_ext, fun e => by rw [e]⟩
                      -- done
                  · try simp only [decide_eq_true_eq, decide_eq_false_iff_not, beq_iff_eq, bne_iff_ne, beq_eq_false_iff_ne, bne_eq_false_iff_eq, Bool.not_eq_true', Bool.not_eq_false', Bool.not_eq_true, ne_eq, Decidable.not_not] at g73
                    exact absurd (cmp_anti _ _) g73
                    -- done
              · try simp only [decide_eq_true_eq, decide_eq_false_iff_not, beq_iff_eq, bne_iff_ne, beq_eq_false_iff_ne, bne_eq_false_iff_eq, Bool.not_eq_true', Bool.not_eq_false', Bool.not_eq_true, ne_eq, Decidable.not_not] at g52
                refine OL.off rfl rfl ?_
                refine OL.off rfl rfl ?_
                refine OL.off rfl rfl ?_
                refine OL.off rfl rfl ?_
                refine OL.det trivial (Yields.pure rfl) ?_
                refine OL.nil ?_
                refine PW.keep (T' := [(0, _), (1, _), (2, _), (57, _)]) ⟨rfl, rfl, rfl, rfl, trivial⟩ ?_
                refine PW.ite (b := false) rfl ?_
                rw [if_neg Bool.false_ne_true]
                refine PW.skip ?_
                refine hK3 _ _ ?_
                refine PW.keep (T' := [(0, _), (1, _), (2, _)]) ⟨rfl, rfl, rfl, trivial⟩ ?_
                refine PW.seqOps ?_
                refine OL.det trivial (Yields.pure rfl) ?_
                refine OL.det trivial (Yields.pure rfl) ?_
                refine OL.call trivial rfl (order_fc) ?_
                rintro _ Sx ⟨rfl, hSx⟩
                rw [hSx]
                clear hSx
                refine OL.det trivial (Yields.pure rfl) ?_
                refine OL.det trivial (Yields.pure rfl) ?_
                refine OL.call trivial rfl (order_fc) ?_
                rintro _ Sx ⟨rfl, hSx⟩
                rw [hSx]
                clear hSx
                refine OL.det trivial (Yields.pure rfl) ?_
                refine OL.det trivial (Yields.pure rfl) ?_
                refine OL.call trivial rfl (order_fc) ?_
                rintro _ Sx ⟨rfl, hSx⟩
                rw [hSx]
                clear hSx
                refine OL.det trivial (Yields.pure rfl) ?_
                refine OL.det trivial (Yields.pure rfl) ?_
                refine OL.det trivial (Yields.pure rfl) ?_
                refine OL.nil ?_
                refine PW.keep (T' := [(0, _), (1, _), (7, _), (8, _), (9, _)]) ⟨rfl, rfl, rfl, rfl, rfl, trivial⟩ ?_
                refine PW.seqOps ?_
                refine OL.det trivial (Yields.pure rfl) ?_
                refine OL.det trivial (Yields.pure rfl) ?_
                refine OL.call trivial rfl (order_fc) ?_
                rintro _ Sx ⟨rfl, hSx⟩
                rw [hSx]
                clear hSx
                refine OL.det trivial (Yields.pure rfl) ?_
                refine OL.det trivial (Yields.to (v' := .int .i64 (-Lib.compareBytes a.data.toList b.data.toList)) (Yields.neg rfl) (by have := cmp_range a.data.toList b.data.toList; rw [wrap_i64 (by omega) (by omega)]; congr 1; omega)) ?_
                refine OL.det trivial (Yields.pure rfl) ?_
                refine OL.bool trivial (Yields.pure rfl) (fun g73 => ?_) (fun g73 => ?_)
                · try simp only [decide_eq_true_eq, decide_eq_false_iff_not, beq_iff_eq, bne_iff_ne, beq_eq_false_iff_ne, bne_eq_false_iff_eq, Bool.not_eq_true', Bool.not_eq_false', Bool.not_eq_true, ne_eq, Decidable.not_not] at g73
                  refine OL.det rfl (Yields.pure rfl) ?_
                  refine OL.det rfl (Yields.pure rfl) ?_
                  refine OL.det rfl (Yields.pure rfl) ?_
                  refine OL.det rfl (Yields.pure rfl) ?_
                  refine OL.det rfl (Yields.pure rfl) ?_
                  refine OL.det rfl (Yields.pure rfl) ?_
                  refine OL.det trivial (Yields.pure rfl) ?_
                  refine OL.bool trivial (Yields.pure rfl) (fun g81 => ?_) (fun g81 => ?_)
                  · try simp only [decide_eq_true_eq, decide_eq_false_iff_not, beq_iff_eq, bne_iff_ne, beq_eq_false_iff_ne, bne_eq_false_iff_eq, Bool.not_eq_true', Bool.not_eq_false', Bool.not_eq_true, ne_eq, Decidable.not_not] at g81
                    refine OL.det rfl (Yields.pure rfl) ?_
                    refine OL.det rfl (Yields.pure rfl) ?_
                    refine OL.bool rfl (Yields.pure rfl) (fun g84 => ?_) (fun g84 => ?_)
                    · try simp only [decide_eq_true_eq, decide_eq_false_iff_not, beq_iff_eq, bne_iff_ne, beq_eq_false_iff_ne, bne_eq_false_iff_eq, Bool.not_eq_true', Bool.not_eq_false', Bool.not_eq_true, ne_eq, Decidable.not_not] at g84
                      refine OL.off rfl rfl ?_
                      refine OL.off rfl rfl ?_
                      refine OL.det rfl (Yields.pure rfl) ?_
                      refine OL.det rfl (Yields.pure rfl) ?_
                      refine OL.off rfl rfl ?_
                      refine OL.off rfl rfl ?_
                      refine OL.det rfl (Yields.pure rfl) ?_
                      refine OL.det trivial (Yields.pure rfl) ?_
                      refine OL.det trivial (Yields.pure rfl) ?_
                      refine OL.call rfl rfl (works_fc) ?_
                      rintro _ _ ⟨rfl, _⟩
                      refine OL.det trivial (Yields.pure rfl) ?_
                      refine OL.det trivial (Yields.pure rfl) ?_
                      refine OL.nil ?_
                      refine PW.keep (T' := [(6, _)]) ⟨rfl, trivial⟩ ?_
                      refine PW.ret ?_
                      change (Exit.ret = Exit.normal ∨ Exit.ret = Exit.ret) ∧ ∃ v, resV _ _ = some v ∧ _
                      exact ⟨.inr rfl, _, rfl, rfl⟩
                    · try simp only [decide_eq_true_eq, decide_eq_false_iff_not, beq_iff_eq, bne_iff_ne, beq_eq_false_iff_ne, bne_eq_false_iff_eq, Bool.not_eq_true', Bool.not_eq_false', Bool.not_eq_true, ne_eq, Decidable.not_not] at g84
                      refine OL.det rfl (Yields.pure rfl) ?_
                      refine OL.det rfl (Yields.pure rfl) ?_
                      refine OL.det rfl (Yields.pure rfl) ?_
                      refine OL.bool rfl (Yields.pure rfl) (fun g88 => ?_) (fun g88 => ?_)
                      · try simp only [decide_eq_true_eq, decide_eq_false_iff_not, beq_iff_eq, bne_iff_ne, beq_eq_false_iff_ne, bne_eq_false_iff_eq, Bool.not_eq_true', Bool.not_eq_false', Bool.not_eq_true, ne_eq, Decidable.not_not] at g88
                        refine OL.off rfl rfl ?_
                        refine OL.off rfl rfl ?_
                        refine OL.det rfl (Yields.pure rfl) ?_
                        refine OL.det trivial (Yields.pure rfl) ?_
                        refine OL.det trivial (Yields.pure rfl) ?_
                        refine OL.call rfl rfl (works_fc) ?_
                        rintro _ _ ⟨rfl, _⟩
                        refine OL.det trivial (Yields.pure rfl) ?_
                        refine OL.det trivial (Yields.pure rfl) ?_
                        refine OL.nil ?_
                        refine PW.keep (T' := [(6, _)]) ⟨rfl, trivial⟩ ?_
                        refine PW.ret ?_
                        change (Exit.ret = Exit.normal ∨ Exit.ret = Exit.ret) ∧ ∃ v, resV _ _ = some v ∧ _
                        exact ⟨.inr rfl, _, rfl, rfl⟩
                      · try simp only [decide_eq_true_eq, decide_eq_false_iff_not, beq_iff_eq, bne_iff_ne, beq_eq_false_iff_ne, bne_eq_false_iff_eq, Bool.not_eq_true', Bool.not_eq_false', Bool.not_eq_true, ne_eq, Decidable.not_not] at g88
                        refine OL.det rfl (Yields.pure rfl) ?_
                        refine OL.det rfl (Yields.pure rfl) ?_
                        refine OL.det rfl (Yields.pure rfl) ?_
                        refine OL.det trivial (Yields.pure rfl) ?_
                        refine OL.bool trivial (Yields.pure rfl) (fun g93 => ?_) (fun g93 => ?_)
                        · try simp only [decide_eq_true_eq, decide_eq_false_iff_not, beq_iff_eq, bne_iff_ne, beq_eq_false_iff_ne, bne_eq_false_iff_eq, Bool.not_eq_true', Bool.not_eq_false', Bool.not_eq_true, ne_eq, Decidable.not_not] at g93
                          refine OL.call rfl rfl (works_fc) ?_
                          rintro _ _ ⟨rfl, _⟩
                          refine OL.det trivial (Yields.pure rfl) ?_
                          refine OL.det trivial (Yields.pure rfl) ?_
                          refine OL.nil ?_
                          refine PW.keep (T' := [(6, _)]) ⟨rfl, trivial⟩ ?_
                          refine PW.ret ?_
                          change (Exit.ret = Exit.normal ∨ Exit.ret = Exit.ret) ∧ ∃ v, resV _ _ = some v ∧ _
                          exact ⟨.inr rfl, _, rfl, rfl⟩
                        · try simp only [decide_eq_true_eq, decide_eq_false_iff_not, beq_iff_eq, bne_iff_ne, beq_eq_false_iff_ne, bne_eq_false_iff_eq, Bool.not_eq_true', Bool.not_eq_false', Bool.not_eq_true, ne_eq, Decidable.not_not] at g93
                          exact absurd (cmp_trans a.data.toList b.data.toList c.data.toList (by omega) (by omega)) (by omega)
                          -- done
                  · try simp only [decide_eq_true_eq, decide_eq_false_iff_not, beq_iff_eq, bne_iff_ne, beq_eq_false_iff_ne, bne_eq_false_iff_eq, Bool.not_eq_true', Bool.not_eq_false', Bool.not_eq_true, ne_eq, Decidable.not_not] at g81
                    exfalso; apply g81; rw [eqS, Bool.eq_iff_iff]; simp only [beq_iff_eq, decide_eq_true_eq]; rw [cmp_zero]; exact ⟨ba_ext, fun e => by rw [e]⟩
                    -- done
                · try simp only [decide_eq_true_eq, decide_eq_false_iff_not, beq_iff_eq, bne_iff_ne, beq_eq_false_iff_ne, bne_eq_false_iff_eq, Bool.not_eq_true', Bool.not_eq_false', Bool.not_eq_true, ne_eq, Decidable.not_not] at g73
                  exact absurd (cmp_anti _ _) g73
                  -- done
            · try simp only [decide_eq_true_eq, decide_eq_false_iff_not, beq_iff_eq, bne_iff_ne, beq_eq_false_iff_ne, bne_eq_false_iff_eq, Bool.not_eq_true', Bool.not_eq_false', Bool.not_eq_true, ne_eq, Decidable.not_not] at g46
              refine OL.off rfl rfl ?_
              refine OL.off rfl rfl ?_
              refine OL.off rfl rfl ?_
              refine OL.off rfl rfl ?_
              refine OL.det trivial (Yields.pure rfl) ?_
              refine OL.det trivial (Yields.pure rfl) ?_
              refine OL.off rfl rfl ?_
              refine OL.off rfl rfl ?_
              refine OL.off rfl rfl ?_
              refine OL.off rfl rfl ?_
              refine OL.det trivial (Yields.pure rfl) ?_
              refine OL.nil ?_
              refine PW.keep (T' := [(0, _), (1, _), (2, _), (57, _)]) ⟨rfl, rfl, rfl, rfl, trivial⟩ ?_
              refine PW.ite (b := false) rfl ?_
              rw [if_neg Bool.false_ne_true]
              refine PW.skip ?_
              refine hK3 _ _ ?_
              refine PW.keep (T' := [(0, _), (1, _), (2, _)]) ⟨rfl, rfl, rfl, trivial⟩ ?_
              refine PW.seqOps ?_
              refine OL.det trivial (Yields.pure rfl) ?_
              refine OL.det trivial (Yields.pure rfl) ?_
              refine OL.call trivial rfl (order_fc) ?_
              rintro _ Sx ⟨rfl, hSx⟩
              rw [hSx]
              clear hSx
              refine OL.det trivial (Yields.pure rfl) ?_
              refine OL.det trivial (Yields.pure rfl) ?_
              refine OL.call trivial rfl (order_fc) ?_
              rintro _ Sx ⟨rfl, hSx⟩
              rw [hSx]
              clear hSx
              refine OL.det trivial (Yields.pure rfl) ?_
              refine OL.det trivial (Yields.pure rfl) ?_
              refine OL.call trivial rfl (order_fc) ?_
              rintro _ Sx ⟨rfl, hSx⟩
              rw [hSx]
              clear hSx
              refine OL.det trivial (Yields.pure rfl) ?_
              refine OL.det trivial (Yields.pure rfl) ?_
              refine OL.det trivial (Yields.pure rfl) ?_
              refine OL.nil ?_
              refine PW.keep (T' := [(0, _), (1, _), (7, _), (8, _), (9, _)]) ⟨rfl, rfl, rfl, rfl, rfl, trivial⟩ ?_
              refine PW.seqOps ?_
              refine OL.det trivial (Yields.pure rfl) ?_
              refine OL.det trivial (Yields.pure rfl) ?_
              refine OL.call trivial rfl (order_fc) ?_
              rintro _ Sx ⟨rfl, hSx⟩
              rw [hSx]
              clear hSx
              refine OL.det trivial (Yields.pure rfl) ?_
              refine OL.det trivial (Yields.to (v' := .int .i64 (-Lib.compareBytes a.data.toList b.data.toList)) (Yields.neg rfl) (by have := cmp_range a.data.toList b.data.toList; rw [wrap_i64 (by omega) (by omega)]; congr 1; omega)) ?_
              refine OL.det trivial (Yields.pure rfl) ?_
              refine OL.bool trivial (Yields.pure rfl) (fun g73 => ?_) (fun g73 => ?_)
              · try simp only [decide_eq_true_eq, decide_eq_false_iff_not, beq_iff_eq, bne_iff_ne, beq_eq_false_iff_ne, bne_eq_false_iff_eq, Bool.not_eq_true', Bool.not_eq_false', Bool.not_eq_true, ne_eq, Decidable.not_not] at g73
                refine OL.det rfl (Yields.pure rfl) ?_
                refine OL.det rfl (Yields.pure rfl) ?_
                refine OL.det rfl (Yields.pure rfl) ?_
                refine OL.det rfl (Yields.pure rfl) ?_
                refine OL.det rfl (Yields.pure rfl) ?_
                refine OL.det rfl (Yields.pure rfl) ?_
                refine OL.det trivial (Yields.pure rfl) ?_
                refine OL.bool trivial (Yields.pure rfl) (fun g81 => ?_) (fun g81 => ?_)
                · try simp only [decide_eq_true_eq, decide_eq_false_iff_not, beq_iff_eq, bne_iff_ne, beq_eq_false_iff_ne, bne_eq_false_iff_eq, Bool.not_eq_true', Bool.not_eq_false', Bool.not_eq_true, ne_eq, Decidable.not_not] at g81
                  refine OL.det rfl (Yields.pure rfl) ?_
                  refine OL.det rfl (Yields.pure rfl) ?_
                  refine OL.bool rfl (Yields.pure rfl) (fun g84 => ?_) (fun g84 => ?_)
                  · try simp only [decide_eq_true_eq, decide_eq_false_iff_not, beq_iff_eq, bne_iff_ne, beq_eq_false_iff_ne, bne_eq_false_iff_eq, Bool.not_eq_true', Bool.not_eq_false', Bool.not_eq_true, ne_eq, Decidable.not_not] at g84
                    refine OL.off rfl rfl ?_
                    refine OL.off rfl rfl ?_
                    refine OL.det rfl (Yields.pure rfl) ?_
                    refine OL.det rfl (Yields.pure rfl) ?_
                    refine OL.off rfl rfl ?_
                    refine OL.off rfl rfl ?_
                    refine OL.det rfl (Yields.pure rfl) ?_
                    refine OL.det trivial (Yields.pure rfl) ?_
                    refine OL.det trivial (Yields.pure rfl) ?_
                    refine OL.call rfl rfl (works_fc) ?_
                    rintro _ _ ⟨rfl, _⟩
                    refine OL.det trivial (Yields.pure rfl) ?_
                    refine OL.det trivial (Yields.pure rfl) ?_
                    refine OL.nil ?_
                    refine PW.keep (T' := [(6, _)]) ⟨rfl, trivial⟩ ?_
                    refine PW.ret ?_
                    change (Exit.ret = Exit.normal ∨ Exit.ret = Exit.ret) ∧ ∃ v, resV _ _ = some v ∧ _
                    exact ⟨.inr rfl, _, rfl, rfl⟩
                  · try simp only [decide_eq_true_eq, decide_eq_false_iff_not, beq_iff_eq, bne_iff_ne, beq_eq_false_iff_ne, bne_eq_false_iff_eq, Bool.not_eq_true', Bool.not_eq_false', Bool.not_eq_true, ne_eq, Decidable.not_not] at g84
                    refine OL.det rfl (Yields.pure rfl) ?_
                    refine OL.det rfl (Yields.pure rfl) ?_
                    refine OL.det rfl (Yields.pure rfl) ?_
                    refine OL.bool rfl (Yields.pure rfl) (fun g88 => ?_) (fun g88 => ?_)
                    · try simp only [decide_eq_true_eq, decide_eq_false_iff_not, beq_iff_eq, bne_iff_ne, beq_eq_false_iff_ne, bne_eq_false_iff_eq, Bool.not_eq_true', Bool.not_eq_false', Bool.not_eq_true, ne_eq, Decidable.not_not] at g88
                      refine OL.off rfl rfl ?_
                      refine OL.off rfl rfl ?_
                      refine OL.det rfl (Yields.pure rfl) ?_
                      refine OL.det trivial (Yields.pure rfl) ?_
                      refine OL.det trivial (Yields.pure rfl) ?_
                      refine OL.call rfl rfl (works_fc) ?_
                      rintro _ _ ⟨rfl, _⟩
                      refine OL.det trivial (Yields.pure rfl) ?_
                      refine OL.det trivial (Yields.pure rfl) ?_
                      refine OL.nil ?_
                      refine PW.keep (T' := [(6, _)]) ⟨rfl, trivial⟩ ?_
                      refine PW.ret ?_
                      change (Exit.ret = Exit.normal ∨ Exit.ret = Exit.ret) ∧ ∃ v, resV _ _ = some v ∧ _
                      exact ⟨.inr rfl, _, rfl, rfl⟩
                    · try simp only [decide_eq_true_eq, decide_eq_false_iff_not, beq_iff_eq, bne_iff_ne, beq_eq_false_iff_ne, bne_eq_false_iff_eq, Bool.not_eq_true', Bool.not_eq_false', Bool.not_eq_true, ne_eq, Decidable.not_not] at g88
                      refine OL.det rfl (Yields.pure rfl) ?_
                      refine OL.det rfl (Yields.pure rfl) ?_
                      refine OL.det rfl (Yields.pure rfl) ?_
                      refine OL.det trivial (Yields.pure rfl) ?_
                      refine OL.bool trivial (Yields.pure rfl) (fun g93 => ?_) (fun g93 => ?_)
                      · try simp only [decide_eq_true_eq, decide_eq_false_iff_not, beq_iff_eq, bne_iff_ne, beq_eq_false_iff_ne, bne_eq_false_iff_eq, Bool.not_eq_true', Bool.not_eq_false', Bool.not_eq_true, ne_eq, Decidable.not_not] at g93
                        refine OL.call rfl rfl (works_fc) ?_
                        rintro _ _ ⟨rfl, _⟩
                        refine OL.det trivial (Yields.pure rfl) ?_
                        refine OL.det trivial (Yields.pure rfl) ?_
                        refine OL.nil ?_
                        refine PW.keep (T' := [(6, _)]) ⟨rfl, trivial⟩ ?_
                        refine PW.ret ?_
                        change (Exit.ret = Exit.normal ∨ Exit.ret = Exit.ret) ∧ ∃ v, resV _ _ = some v ∧ _
                        exact ⟨.inr rfl, _, rfl, rfl⟩
                      · try simp only [decide_eq_true_eq, decide_eq_false_iff_not, beq_iff_eq, bne_iff_ne, beq_eq_false_iff_ne, bne_eq_false_iff_eq, Bool.not_eq_true', Bool.not_eq_false', Bool.not_eq_true, ne_eq, Decidable.not_not] at g93
                        exact absurd (cmp_trans a.data.toList b.data.toList c.data.toList (by omega) (by omega)) (by omega)
                        -- done
                · try simp only [decide_eq_true_eq, decide_eq_false_iff_not, beq_iff_eq, bne_iff_ne, beq_eq_false_iff_ne, bne_eq_false_iff_eq, Bool.not_eq_true', Bool.not_eq_false', Bool.not_eq_true, ne_eq, Decidable.not_not] at g81
                  exfalso; apply g81; rw [eqS, Bool.eq_iff_iff]; simp only [beq_iff_eq, decide_eq_true_eq]; rw [cmp_zero]; exact ⟨ba_ext, fun e => by rw [e]⟩
                  -- done
              · try simp only [decide_eq_true_eq, decide_eq_false_iff_not, beq_iff_eq, bne_iff_ne, beq_eq_false_iff_ne, bne_eq_false_iff_eq, Bool.not_eq_true', Bool.not_eq_false', Bool.not_eq_true, ne_eq, Decidable.not_not] at g73
                exact absurd (cmp_anti _ _) g73
                -- done
          · try simp only [decide_eq_true_eq, decide_eq_false_iff_not, beq_iff_eq, bne_iff_ne, beq_eq_false_iff_ne, bne_eq_false_iff_eq, Bool.not_eq_true', Bool.not_eq_false', Bool.not_eq_true, ne_eq, Decidable.not_not] at g42
            refine OL.off rfl rfl ?_
            refine OL.off rfl rfl ?_
            refine OL.det trivial (Yields.pure rfl) ?_
            refine OL.det trivial (Yields.pure rfl) ?_
            refine OL.off rfl rfl ?_
            refine OL.off rfl rfl ?_
            refine OL.off rfl rfl ?_
            refine OL.off rfl rfl ?_
            refine OL.det trivial (Yields.pure rfl) ?_
            refine OL.det trivial (Yields.pure rfl) ?_
            refine OL.off rfl rfl ?_
            refine OL.off rfl rfl ?_
            refine OL.off rfl rfl ?_
            refine OL.off rfl rfl ?_
            refine OL.det trivial (Yields.pure rfl) ?_
            refine OL.nil ?_
            refine PW.keep (T' := [(0, _), (1, _), (2, _), (57, _)]) ⟨rfl, rfl, rfl, rfl, trivial⟩ ?_
            refine PW.ite (b := false) rfl ?_
            rw [if_neg Bool.false_ne_true]
            refine PW.skip ?_
            refine hK3 _ _ ?_
            refine PW.keep (T' := [(0, _), (1, _), (2, _)]) ⟨rfl, rfl, rfl, trivial⟩ ?_
            refine PW.seqOps ?_
            refine OL.det trivial (Yields.pure rfl) ?_
            refine OL.det trivial (Yields.pure rfl) ?_
            refine OL.call trivial rfl (order_fc) ?_
            rintro _ Sx ⟨rfl, hSx⟩
            rw [hSx]
            clear hSx
            refine OL.det trivial (Yields.pure rfl) ?_
            refine OL.det trivial (Yields.pure rfl) ?_
            refine OL.call trivial rfl (order_fc) ?_
            rintro _ Sx ⟨rfl, hSx⟩
            rw [hSx]
            clear hSx
            refine OL.det trivial (Yields.pure rfl) ?_
            refine OL.det trivial (Yields.pure rfl) ?_
            refine OL.call trivial rfl (order_fc) ?_
            rintro _ Sx ⟨rfl, hSx⟩
            rw [hSx]
            clear hSx
            refine OL.det trivial (Yields.pure rfl) ?_
            refine OL.det trivial (Yields.pure rfl) ?_
            refine OL.det trivial (Yields.pure rfl) ?_
            refine OL.nil ?_
            refine PW.keep (T' := [(0, _), (1, _), (7, _), (8, _), (9, _)]) ⟨rfl, rfl, rfl, rfl, rfl, trivial⟩ ?_
            refine PW.seqOps ?_
            refine OL.det trivial (Yields.pure rfl) ?_
            refine OL.det trivial (Yields.pure rfl) ?_
            refine OL.call trivial rfl (order_fc) ?_
            rintro _ Sx ⟨rfl, hSx⟩
            rw [hSx]
            clear hSx
            refine OL.det trivial (Yields.pure rfl) ?_
            refine OL.det trivial (Yields.to (v' := .int .i64 (-Lib.compareBytes a.data.toList b.data.toList)) (Yields.neg rfl) (by have := cmp_range a.data.toList b.data.toList; rw [wrap_i64 (by omega) (by omega)]; congr 1; omega)) ?_
            refine OL.det trivial (Yields.pure rfl) ?_
            refine OL.bool trivial (Yields.pure rfl) (fun g73 => ?_) (fun g73 => ?_)
            · try simp only [decide_eq_true_eq, decide_eq_false_iff_not, beq_iff_eq, bne_iff_ne, beq_eq_false_iff_ne, bne_eq_false_iff_eq, Bool.not_eq_true', Bool.not_eq_false', Bool.not_eq_true, ne_eq, Decidable.not_not] at g73
              refine OL.det rfl (Yields.pure rfl) ?_
              refine OL.det rfl (Yields.pure rfl) ?_
              refine OL.det rfl (Yields.pure rfl) ?_
              refine OL.det rfl (Yields.pure rfl) ?_
              refine OL.det rfl (Yields.pure rfl) ?_
              refine OL.det rfl (Yields.pure rfl) ?_
              refine OL.det trivial (Yields.pure rfl) ?_
              refine OL.bool trivial (Yields.pure rfl) (fun g81 => ?_) (fun g81 => ?_)
              · try simp only [decide_eq_true_eq, decide_eq_false_iff_not, beq_iff_eq, bne_iff_ne, beq_eq_false_iff_ne, bne_eq_false_iff_eq, Bool.not_eq_true', Bool.not_eq_false', Bool.not_eq_true, ne_eq, Decidable.not_not] at g81
                refine OL.det rfl (Yields.pure rfl) ?_
                refine OL.det rfl (Yields.pure rfl) ?_
                refine OL.bool rfl (Yields.pure rfl) (fun g84 => ?_) (fun g84 => ?_)
                · try simp only [decide_eq_true_eq, decide_eq_false_iff_not, beq_iff_eq, bne_iff_ne, beq_eq_false_iff_ne, bne_eq_false_iff_eq, Bool.not_eq_true', Bool.not_eq_false', Bool.not_eq_true, ne_eq, Decidable.not_not] at g84
                  refine OL.off rfl rfl ?_
                  refine OL.off rfl rfl ?_
                  refine OL.det rfl (Yields.pure rfl) ?_
                  refine OL.det rfl (Yields.pure rfl) ?_
                  refine OL.off rfl rfl ?_
                  refine OL.off rfl rfl ?_
                  refine OL.det rfl (Yields.pure rfl) ?_
                  refine OL.det trivial (Yields.pure rfl) ?_
                  refine OL.det trivial (Yields.pure rfl) ?_
                  refine OL.call rfl rfl (works_fc) ?_
                  rintro _ _ ⟨rfl, _⟩
                  refine OL.det trivial (Yields.pure rfl) ?_
                  refine OL.det trivial (Yields.pure rfl) ?_
                  refine OL.nil ?_
                  refine PW.keep (T' := [(6, _)]) ⟨rfl, trivial⟩ ?_
                  refine PW.ret ?_
                  change (Exit.ret = Exit.normal ∨ Exit.ret = Exit.ret) ∧ ∃ v, resV _ _ = some v ∧ _
                  exact ⟨.inr rfl, _, rfl, rfl⟩
                · try simp only [decide_eq_true_eq, decide_eq_false_iff_not, beq_iff_eq, bne_iff_ne, beq_eq_false_iff_ne, bne_eq_false_iff_eq, Bool.not_eq_true', Bool.not_eq_false', Bool.not_eq_true, ne_eq, Decidable.not_not] at g84
                  refine OL.det rfl (Yields.pure rfl) ?_
                  refine OL.det rfl (Yields.pure rfl) ?_
                  refine OL.det rfl (Yields.pure rfl) ?_
                  refine OL.bool rfl (Yields.pure rfl) (fun g88 => ?_) (fun g88 => ?_)
                  · try simp only [decide_eq_true_eq, decide_eq_false_iff_not, beq_iff_eq, bne_iff_ne, beq_eq_false_iff_ne, bne_eq_false_iff_eq, Bool.not_eq_true', Bool.not_eq_false', Bool.not_eq_true, ne_eq, Decidable.not_not] at g88
                    refine OL.off rfl rfl ?_
                    refine OL.off rfl rfl ?_
                    refine OL.det rfl (Yields.pure rfl) ?_
                    refine OL.det trivial (Yields.pure rfl) ?_
                    refine OL.det trivial (Yields.pure rfl) ?_
                    refine OL.call rfl rfl (works_fc) ?_
                    rintro _ _ ⟨rfl, _⟩
                    refine OL.det trivial (Yields.pure rfl) ?_
                    refine OL.det trivial (Yields.pure rfl) ?_
                    refine OL.nil ?_
                    refine PW.keep (T' := [(6, _)]) ⟨rfl, trivial⟩ ?_
                    refine PW.ret ?_
                    change (Exit.ret = Exit.normal ∨ Exit.ret = Exit.ret) ∧ ∃ v, resV _ _ = some v ∧ _
                    exact ⟨.inr rfl, _, rfl, rfl⟩
                  · try simp only [decide_eq_true_eq, decide_eq_false_iff_not, beq_iff_eq, bne_iff_ne, beq_eq_false_iff_ne, bne_eq_false_iff_eq, Bool.not_eq_true', Bool.not_eq_false', Bool.not_eq_true, ne_eq, Decidable.not_not] at g88
                    refine OL.det rfl (Yields.pure rfl) ?_
                    refine OL.det rfl (Yields.pure rfl) ?_
                    refine OL.det rfl (Yields.pure rfl) ?_
                    refine OL.det trivial (Yields.pure rfl) ?_
                    refine OL.bool trivial (Yields.pure rfl) (fun g93 => ?_) (fun g93 => ?_)
                    · try simp only [decide_eq_true_eq, decide_eq_false_iff_not, beq_iff_eq, bne_iff_ne, beq_eq_false_iff_ne, bne_eq_false_iff_eq, Bool.not_eq_true', Bool.not_eq_false', Bool.not_eq_true, ne_eq, Decidable.not_not] at g93
                      refine OL.call rfl rfl (works_fc) ?_
                      rintro _ _ ⟨rfl, _⟩
                      refine OL.det trivial (Yields.pure rfl) ?_
                      refine OL.det trivial (Yields.pure rfl) ?_
                      refine OL.nil ?_
                      refine PW.keep (T' := [(6, _)]) ⟨rfl, trivial⟩ ?_
                      refine PW.ret ?_
                      change (Exit.ret = Exit.normal ∨ Exit.ret = Exit.ret) ∧ ∃ v, resV _ _ = some v ∧ _
                      exact ⟨.inr rfl, _, rfl, rfl⟩
                    · try simp only [decide_eq_true_eq, decide_eq_false_iff_not, beq_iff_eq, bne_iff_ne, beq_eq_false_iff_ne, bne_eq_false_iff_eq, Bool.not_eq_true', Bool.not_eq_false', Bool.not_eq_true, ne_eq, Decidable.not_not] at g93
                      exact absurd (cmp_trans a.data.toList b.data.toList c.data.toList (by omega) (by omega)) (by omega)
                      -- done
              · try simp only [decide_eq_true_eq, decide_eq_false_iff_not, beq_iff_eq, bne_iff_ne, beq_eq_false_iff_ne, bne_eq_false_iff_eq, Bool.not_eq_true', Bool.not_eq_false', Bool.not_eq_true, ne_eq, Decidable.not_not] at g81
                exfalso; apply g81; rw [eqS, Bool.eq_iff_iff]; simp only [beq_iff_eq, decide_eq_true_eq]; rw [cmp_zero]; exact ⟨ba_ext, fun e => by rw [e]⟩
                -- done
            · try simp only [decide_eq_true_eq, decide_eq_false_iff_not, beq_iff_eq, bne_iff_ne, beq_eq_false_iff_ne, bne_eq_false_iff_eq, Bool.not_eq_true', Bool.not_eq_false', Bool.not_eq_true, ne_eq, Decidable.not_not] at g73
              exact absurd (cmp_anti _ _) g73
              -- done
        · try simp only [decide_eq_true_eq, decide_eq_false_iff_not, beq_iff_eq, bne_iff_ne, beq_eq_false_iff_ne, bne_eq_false_iff_eq, Bool.not_eq_true', Bool.not_eq_false', Bool.not_eq_true, ne_eq, Decidable.not_not] at g38
          refine OL.off rfl rfl ?_
          refine OL.off rfl rfl ?_
          refine OL.det trivial (Yields.pure rfl) ?_
          refine OL.det trivial (Yields.pure rfl) ?_
          refine OL.off rfl rfl ?_
          refine OL.off rfl rfl ?_
          refine OL.det trivial (Yields.pure rfl) ?_
          refine OL.det trivial (Yields.pure rfl) ?_
          refine OL.off rfl rfl ?_
          refine OL.off rfl rfl ?_
          refine OL.off rfl rfl ?_
          refine OL.off rfl rfl ?_
          refine OL.det trivial (Yields.pure rfl) ?_
          refine OL.det trivial (Yields.pure rfl) ?_
          refine OL.off rfl rfl ?_
          refine OL.off rfl rfl ?_
          refine OL.off rfl rfl ?_
          refine OL.off rfl rfl ?_
          refine OL.det trivial (Yields.pure rfl) ?_
          refine OL.nil ?_
          refine PW.keep (T' := [(0, _), (1, _), (2, _), (57, _)]) ⟨rfl, rfl, rfl, rfl, trivial⟩ ?_
          refine PW.ite (b := false) rfl ?_
          rw [if_neg Bool.false_ne_true]
          refine PW.skip ?_
          refine hK3 _ _ ?_
          refine PW.keep (T' := [(0, _), (1, _), (2, _)]) ⟨rfl, rfl, rfl, trivial⟩ ?_
          refine PW.seqOps ?_
          refine OL.det trivial (Yields.pure rfl) ?_
          refine OL.det trivial (Yields.pure rfl) ?_
          refine OL.call trivial rfl (order_fc) ?_
          rintro _ Sx ⟨rfl, hSx⟩
          rw [hSx]
          clear hSx
          refine OL.det trivial (Yields.pure rfl) ?_
          refine OL.det trivial (Yields.pure rfl) ?_
          refine OL.call trivial rfl (order_fc) ?_
          rintro _ Sx ⟨rfl, hSx⟩
          rw [hSx]
          clear hSx
          refine OL.det trivial (Yields.pure rfl) ?_
          refine OL.det trivial (Yields.pure rfl) ?_
          refine OL.call trivial rfl (order_fc) ?_
          rintro _ Sx ⟨rfl, hSx⟩
          rw [hSx]
          clear hSx
          refine OL.det trivial (Yields.pure rfl) ?_
          refine OL.det trivial (Yields.pure rfl) ?_
          refine OL.det trivial (Yields.pure rfl) ?_
          refine OL.nil ?_
          refine PW.keep (T' := [(0, _), (1, _), (7, _), (8, _), (9, _)]) ⟨rfl, rfl, rfl, rfl, rfl, trivial⟩ ?_
          refine PW.seqOps ?_
          refine OL.det trivial (Yields.pure rfl) ?_
          refine OL.det trivial (Yields.pure rfl) ?_
          refine OL.call trivial rfl (order_fc) ?_
          rintro _ Sx ⟨rfl, hSx⟩
          rw [hSx]
          clear hSx
          refine OL.det trivial (Yields.pure rfl) ?_
          refine OL.det trivial (Yields.to (v' := .int .i64 (-Lib.compareBytes a.data.toList b.data.toList)) (Yields.neg rfl) (by have := cmp_range a.data.toList b.data.toList; rw [wrap_i64 (by omega) (by omega)]; congr 1; omega)) ?_
          refine OL.det trivial (Yields.pure rfl) ?_
          refine OL.bool trivial (Yields.pure rfl) (fun g73 => ?_) (fun g73 => ?_)
          · try simp only [decide_eq_true_eq, decide_eq_false_iff_not, beq_iff_eq, bne_iff_ne, beq_eq_false_iff_ne, bne_eq_false_iff_eq, Bool.not_eq_true', Bool.not_eq_false', Bool.not_eq_true, ne_eq, Decidable.not_not] at g73
            refine OL.det rfl (Yields.pure rfl) ?_
            refine OL.det rfl (Yields.pure rfl) ?_
            refine OL.det rfl (Yields.pure rfl) ?_
            refine OL.det rfl (Yields.pure rfl) ?_
            refine OL.det rfl (Yields.pure rfl) ?_
            refine OL.det rfl (Yields.pure rfl) ?_
            refine OL.det trivial (Yields.pure rfl) ?_
            refine OL.bool trivial (Yields.pure rfl) (fun g81 => ?_) (fun g81 => ?_)
            · try simp only [decide_eq_true_eq, decide_eq_false_iff_not, beq_iff_eq, bne_iff_ne, beq_eq_false_iff_ne, bne_eq_false_iff_eq, Bool.not_eq_true', Bool.not_eq_false', Bool.not_eq_true, ne_eq, Decidable.not_not] at g81
              refine OL.det rfl (Yields.pure rfl) ?_
              refine OL.det rfl (Yields.pure rfl) ?_
              refine OL.bool rfl (Yields.pure rfl) (fun g84 => ?_) (fun g84 => ?_)
              · try simp only [decide_eq_true_eq, decide_eq_false_iff_not, beq_iff_eq, bne_iff_ne, beq_eq_false_iff_ne, bne_eq_false_iff_eq, Bool.not_eq_true', Bool.not_eq_false', Bool.not_eq_true, ne_eq, Decidable.not_not] at g84
                refine OL.off rfl rfl ?_
                refine OL.off rfl rfl ?_
                refine OL.det rfl (Yields.pure rfl) ?_
                refine OL.det rfl (Yields.pure rfl) ?_
                refine OL.off rfl rfl ?_
                refine OL.off rfl rfl ?_
                refine OL.det rfl (Yields.pure rfl) ?_
                refine OL.det trivial (Yields.pure rfl) ?_
                refine OL.det trivial (Yields.pure rfl) ?_
                refine OL.call rfl rfl (works_fc) ?_
                rintro _ _ ⟨rfl, _⟩
                refine OL.det trivial (Yields.pure rfl) ?_
                refine OL.det trivial (Yields.pure rfl) ?_
                refine OL.nil ?_
                refine PW.keep (T' := [(6, _)]) ⟨rfl, trivial⟩ ?_
                refine PW.ret ?_
                change (Exit.ret = Exit.normal ∨ Exit.ret = Exit.ret) ∧ ∃ v, resV _ _ = some v ∧ _
                exact ⟨.inr rfl, _, rfl, rfl⟩
              · try simp only [decide_eq_true_eq, decide_eq_false_iff_not, beq_iff_eq, bne_iff_ne, beq_eq_false_iff_ne, bne_eq_false_iff_eq, Bool.not_eq_true', Bool.not_eq_false', Bool.not_eq_true, ne_eq, Decidable.not_not] at g84
                refine OL.det rfl (Yields.pure rfl) ?_
                refine OL.det rfl (Yields.pure rfl) ?_
                refine OL.det rfl (Yields.pure rfl) ?_
                refine OL.bool rfl (Yields.pure rfl) (fun g88 => ?_) (fun g88 => ?_)
                · try simp only [decide_eq_true_eq, decide_eq_false_iff_not, beq_iff_eq, bne_iff_ne, beq_eq_false_iff_ne, bne_eq_false_iff_eq, Bool.not_eq_true', Bool.not_eq_false', Bool.not_eq_true, ne_eq, Decidable.not_not] at g88
                  refine OL.off rfl rfl ?_
                  refine OL.off rfl rfl ?_
                  refine OL.det rfl (Yields.pure rfl) ?_
                  refine OL.det trivial (Yields.pure rfl) ?_
                  refine OL.det trivial (Yields.pure rfl) ?_
                  refine OL.call rfl rfl (works_fc) ?_
                  rintro _ _ ⟨rfl, _⟩
                  refine OL.det trivial (Yields.pure rfl) ?_
                  refine OL.det trivial (Yields.pure rfl) ?_
                  refine OL.nil ?_
                  refine PW.keep (T' := [(6, _)]) ⟨rfl, trivial⟩ ?_
                  refine PW.ret ?_
                  change (Exit.ret = Exit.normal ∨ Exit.ret = Exit.ret) ∧ ∃ v, resV _ _ = some v ∧ _
                  exact ⟨.inr rfl, _, rfl, rfl⟩
                · try simp only [decide_eq_true_eq, decide_eq_false_iff_not, beq_iff_eq, bne_iff_ne, beq_eq_false_iff_ne, bne_eq_false_iff_eq, Bool.not_eq_true', Bool.not_eq_false', Bool.not_eq_true, ne_eq, Decidable.not_not] at g88
                  refine OL.det rfl (Yields.pure rfl) ?_
                  refine OL.det rfl (Yields.pure rfl) ?_
                  refine OL.det rfl (Yields.pure rfl) ?_
                  refine OL.det trivial (Yields.pure rfl) ?_
                  refine OL.bool trivial (Yields.pure rfl) (fun g93 => ?_) (fun g93 => ?_)
                  · try simp only [decide_eq_true_eq, decide_eq_false_iff_not, beq_iff_eq, bne_iff_ne, beq_eq_false_iff_ne, bne_eq_false_iff_eq, Bool.not_eq_true', Bool.not_eq_false', Bool.not_eq_true, ne_eq, Decidable.not_not] at g93
                    refine OL.call rfl rfl (works_fc) ?_
                    rintro _ _ ⟨rfl, _⟩
                    refine OL.det trivial (Yields.pure rfl) ?_
                    refine OL.det trivial (Yields.pure rfl) ?_
                    refine OL.nil ?_
                    refine PW.keep (T' := [(6, _)]) ⟨rfl, trivial⟩ ?_
                    refine PW.ret ?_
                    change (Exit.ret = Exit.normal ∨ Exit.ret = Exit.ret) ∧ ∃ v, resV _ _ = some v ∧ _
                    exact ⟨.inr rfl, _, rfl, rfl⟩
                  · try simp only [decide_eq_true_eq, decide_eq_false_iff_not, beq_iff_eq, bne_iff_ne, beq_eq_false_iff_ne, bne_eq_false_iff_eq, Bool.not_eq_true', Bool.not_eq_false', Bool.not_eq_true, ne_eq, Decidable.not_not] at g93
                    exact absurd (cmp_trans a.data.toList b.data.toList c.data.toList (by omega) (by omega)) (by omega)
                    -- done
            · try simp only [decide_eq_true_eq, decide_eq_false_iff_not, beq_iff_eq, bne_iff_ne, beq_eq_false_iff_ne, bne_eq_false_iff_eq, Bool.not_eq_true', Bool.not_eq_false', Bool.not_eq_true, ne_eq, Decidable.not_not] at g81
              exfalso; apply g81; rw [eqS, Bool.eq_iff_iff]; simp only [beq_iff_eq, decide_eq_true_eq]; rw [cmp_zero]; exact ⟨ba_ext, fun e => by rw [e]⟩
              -- done
          · try simp only [decide_eq_true_eq, decide_eq_false_iff_not, beq_iff_eq, bne_iff_ne, beq_eq_false_iff_ne, bne_eq_false_iff_eq, Bool.not_eq_true', Bool.not_eq_false', Bool.not_eq_true, ne_eq, Decidable.not_not] at g73
            exact absurd (cmp_anti _ _) g73
            -- done
      · try simp only [decide_eq_true_eq, decide_eq_false_iff_not, beq_iff_eq, bne_iff_ne, beq_eq_false_iff_ne, bne_eq_false_iff_eq, Bool.not_eq_true', Bool.not_eq_false', Bool.not_eq_true, ne_eq, Decidable.not_not] at g33
        refine OL.off rfl rfl ?_
        refine OL.off rfl rfl ?_
        refine OL.off rfl rfl ?_
        refine OL.det trivial (Yields.pure rfl) ?_
        refine OL.det trivial (Yields.pure rfl) ?_
        refine OL.off rfl rfl ?_
        refine OL.off rfl rfl ?_
        refine OL.det trivial (Yields.pure rfl) ?_
        refine OL.det trivial (Yields.pure rfl) ?_
        refine OL.off rfl rfl ?_
        refine OL.off rfl rfl ?_
        refine OL.det trivial (Yields.pure rfl) ?_
        refine OL.det trivial (Yields.pure rfl) ?_
        refine OL.off rfl rfl ?_
        refine OL.off rfl rfl ?_
        refine OL.off rfl rfl ?_
        refine OL.off rfl rfl ?_
        refine OL.det trivial (Yields.pure rfl) ?_
        refine OL.det trivial (Yields.pure rfl) ?_
        refine OL.off rfl rfl ?_
        refine OL.off rfl rfl ?_
        refine OL.off rfl rfl ?_
        refine OL.off rfl rfl ?_
        refine OL.det trivial (Yields.pure rfl) ?_
        refine OL.nil ?_
        refine PW.keep (T' := [(0, _), (1, _), (2, _), (57, _)]) ⟨rfl, rfl, rfl, rfl, trivial⟩ ?_
        refine PW.ite (b := false) rfl ?_
        rw [if_neg Bool.false_ne_true]
        refine PW.skip ?_
        refine hK3 _ _ ?_
        refine PW.keep (T' := [(0, _), (1, _), (2, _)]) ⟨rfl, rfl, rfl, trivial⟩ ?_
        refine PW.seqOps ?_
        refine OL.det trivial (Yields.pure rfl) ?_
        refine OL.det trivial (Yields.pure rfl) ?_
        refine OL.call trivial rfl (order_fc) ?_
        rintro _ Sx ⟨rfl, hSx⟩
        rw [hSx]
        clear hSx
        refine OL.det trivial (Yields.pure rfl) ?_
        refine OL.det trivial (Yields.pure rfl) ?_
        refine OL.call trivial rfl (order_fc) ?_
        rintro _ Sx ⟨rfl, hSx⟩
        rw [hSx]
        clear hSx
        refine OL.det trivial (Yields.pure rfl) ?_
        refine OL.det trivial (Yields.pure rfl) ?_
        refine OL.call trivial rfl (order_fc) ?_
        rintro _ Sx ⟨rfl, hSx⟩
        rw [hSx]
        clear hSx
        refine OL.det trivial (Yields.pure rfl) ?_
        refine OL.det trivial (Yields.pure rfl) ?_
        refine OL.det trivial (Yields.pure rfl) ?_
        refine OL.nil ?_
        refine PW.keep (T' := [(0, _), (1, _), (7, _), (8, _), (9, _)]) ⟨rfl, rfl, rfl, rfl, rfl, trivial⟩ ?_
        refine PW.seqOps ?_
        refine OL.det trivial (Yields.pure rfl) ?_
        refine OL.det trivial (Yields.pure rfl) ?_
        refine OL.call trivial rfl (order_fc) ?_
        rintro _ Sx ⟨rfl, hSx⟩
        rw [hSx]
        clear hSx
        refine OL.det trivial (Yields.pure rfl) ?_
        refine OL.det trivial (Yields.to (v' := .int .i64 (-Lib.compareBytes a.data.toList b.data.toList)) (Yields.neg rfl) (by have := cmp_range a.data.toList b.data.toList; rw [wrap_i64 (by omega) (by omega)]; congr 1; omega)) ?_
        refine OL.det trivial (Yields.pure rfl) ?_
        refine OL.bool trivial (Yields.pure rfl) (fun g73 => ?_) (fun g73 => ?_)
        · try simp only [decide_eq_true_eq, decide_eq_false_iff_not, beq_iff_eq, bne_iff_ne, beq_eq_false_iff_ne, bne_eq_false_iff_eq, Bool.not_eq_true', Bool.not_eq_false', Bool.not_eq_true, ne_eq, Decidable.not_not] at g73
          refine OL.det rfl (Yields.pure rfl) ?_
          refine OL.det rfl (Yields.pure rfl) ?_
          refine OL.det rfl (Yields.pure rfl) ?_
          refine OL.det rfl (Yields.pure rfl) ?_
          refine OL.det rfl (Yields.pure rfl) ?_
          refine OL.det rfl (Yields.pure rfl) ?_
          refine OL.det trivial (Yields.pure rfl) ?_
          refine OL.bool trivial (Yields.pure rfl) (fun g81 => ?_) (fun g81 => ?_)
          · try simp only [decide_eq_true_eq, decide_eq_false_iff_not, beq_iff_eq, bne_iff_ne, beq_eq_false_iff_ne, bne_eq_false_iff_eq, Bool.not_eq_true', Bool.not_eq_false', Bool.not_eq_true, ne_eq, Decidable.not_not] at g81
            refine OL.det rfl (Yields.pure rfl) ?_
            refine OL.det rfl (Yields.pure rfl) ?_
            refine OL.bool rfl (Yields.pure rfl) (fun g84 => ?_) (fun g84 => ?_)
            · try simp only [decide_eq_true_eq, decide_eq_false_iff_not, beq_iff_eq, bne_iff_ne, beq_eq_false_iff_ne, bne_eq_false_iff_eq, Bool.not_eq_true', Bool.not_eq_false', Bool.not_eq_true, ne_eq, Decidable.not_not] at g84
              refine OL.off rfl rfl ?_
              refine OL.off rfl rfl ?_
              refine OL.det rfl (Yields.pure rfl) ?_
              refine OL.det rfl (Yields.pure rfl) ?_
              refine OL.off rfl rfl ?_
              refine OL.off rfl rfl ?_
              refine OL.det rfl (Yields.pure rfl) ?_
              refine OL.det trivial (Yields.pure rfl) ?_
              refine OL.det trivial (Yields.pure rfl) ?_
              refine OL.call rfl rfl (works_fc) ?_
              rintro _ _ ⟨rfl, _⟩
              refine OL.det trivial (Yields.pure rfl) ?_
              refine OL.det trivial (Yields.pure rfl) ?_
              refine OL.nil ?_
              refine PW.keep (T' := [(6, _)]) ⟨rfl, trivial⟩ ?_
              refine PW.ret ?_
              change (Exit.ret = Exit.normal ∨ Exit.ret = Exit.ret) ∧ ∃ v, resV _ _ = some v ∧ _
              exact ⟨.inr rfl, _, rfl, rfl⟩
            · try simp only [decide_eq_true_eq, decide_eq_false_iff_not, beq_iff_eq, bne_iff_ne, beq_eq_false_iff_ne, bne_eq_false_iff_eq, Bool.not_eq_true', Bool.not_eq_false', Bool.not_eq_true, ne_eq, Decidable.not_not] at g84
              refine OL.det rfl (Yields.pure rfl) ?_
              refine OL.det rfl (Yields.pure rfl) ?_
              refine OL.det rfl (Yields.pure rfl) ?_
              refine OL.bool rfl (Yields.pure rfl) (fun g88 => ?_) (fun g88 => ?_)
              · try simp only [decide_eq_true_eq, decide_eq_false_iff_not, beq_iff_eq, bne_iff_ne, beq_eq_false_iff_ne, bne_eq_false_iff_eq, Bool.not_eq_true', Bool.not_eq_false', Bool.not_eq_true, ne_eq, Decidable.not_not] at g88
                refine OL.off rfl rfl ?_
                refine OL.off rfl rfl ?_
                refine OL.det rfl (Yields.pure rfl) ?_
                refine OL.det trivial (Yields.pure rfl) ?_
                refine OL.det trivial (Yields.pure rfl) ?_
                refine OL.call rfl rfl (works_fc) ?_
                rintro _ _ ⟨rfl, _⟩
                refine OL.det trivial (Yields.pure rfl) ?_
                refine OL.det trivial (Yields.pure rfl) ?_
                refine OL.nil ?_
                refine PW.keep (T' := [(6, _)]) ⟨rfl, trivial⟩ ?_
                refine PW.ret ?_
                change (Exit.ret = Exit.normal ∨ Exit.ret = Exit.ret) ∧ ∃ v, resV _ _ = some v ∧ _
                exact ⟨.inr rfl, _, rfl, rfl⟩
              · try simp only [decide_eq_true_eq, decide_eq_false_iff_not, beq_iff_eq, bne_iff_ne, beq_eq_false_iff_ne, bne_eq_false_iff_eq, Bool.not_eq_true', Bool.not_eq_false', Bool.not_eq_true, ne_eq, Decidable.not_not] at g88
                refine OL.det rfl (Yields.pure rfl) ?_
                refine OL.det rfl (Yields.pure rfl) ?_
                refine OL.det rfl (Yields.pure rfl) ?_
                refine OL.det trivial (Yields.pure rfl) ?_
                refine OL.bool trivial (Yields.pure rfl) (fun g93 => ?_) (fun g93 => ?_)
                · try simp only [decide_eq_true_eq, decide_eq_false_iff_not, beq_iff_eq, bne_iff_ne, beq_eq_false_iff_ne, bne_eq_false_iff_eq, Bool.not_eq_true', Bool.not_eq_false', Bool.not_eq_true, ne_eq, Decidable.not_not] at g93
                  refine OL.call rfl rfl (works_fc) ?_
                  rintro _ _ ⟨rfl, _⟩
                  refine OL.det trivial (Yields.pure rfl) ?_
                  refine OL.det trivial (Yields.pure rfl) ?_
                  refine OL.nil ?_
                  refine PW.keep (T' := [(6, _)]) ⟨rfl, trivial⟩ ?_
                  refine PW.ret ?_
                  change (Exit.ret = Exit.normal ∨ Exit.ret = Exit.ret) ∧ ∃ v, resV _ _ = some v ∧ _
                  exact ⟨.inr rfl, _, rfl, rfl⟩
                · try simp only [decide_eq_true_eq, decide_eq_false_iff_not, beq_iff_eq, bne_iff_ne, beq_eq_false_iff_ne, bne_eq_false_iff_eq, Bool.not_eq_true', Bool.not_eq_false', Bool.not_eq_true, ne_eq, Decidable.not_not] at g93
                  exact absurd (cmp_trans a.data.toList b.data.toList c.data.toList (by omega) (by omega)) (by omega)
                  -- done
          · try simp only [decide_eq_true_eq, decide_eq_false_iff_not, beq_iff_eq, bne_iff_ne, beq_eq_false_iff_ne, bne_eq_false_iff_eq, Bool.not_eq_true', Bool.not_eq_false', Bool.not_eq_true, ne_eq, Decidable.not_not] at g81
            exfalso; apply g81; rw [eqS, Bool.eq_iff_iff]; simp only [beq_iff_eq, decide_eq_true_eq]; rw [cmp_zero]; exact ⟨ba_ext, fun e => by rw [e]⟩
            -- done
        · try simp only [decide_eq_true_eq, decide_eq_false_iff_not, beq_iff_eq, bne_iff_ne, beq_eq_false_iff_ne, bne_eq_false_iff_eq, Bool.not_eq_true', Bool.not_eq_false', Bool.not_eq_true, ne_eq, Decidable.not_not] at g73
          exact absurd (cmp_anti _ _) g73
          -- done
  · try simp only [decide_eq_true_eq, decide_eq_false_iff_not, beq_iff_eq, bne_iff_ne, beq_eq_false_iff_ne, bne_eq_false_iff_eq, Bool.not_eq_true', Bool.not_eq_false', Bool.not_eq_true, ne_eq, Decidable.not_not] at g19
    refine OL.off rfl rfl ?_
    refine OL.off rfl rfl ?_
    refine OL.off rfl rfl ?_
    refine OL.det trivial (Yields.pure rfl) ?_
    refine OL.det trivial (Yields.pure rfl) ?_
    refine OL.off rfl rfl ?_
    refine OL.off rfl rfl ?_
    refine OL.off rfl rfl ?_
    refine OL.off rfl rfl ?_
    refine OL.det trivial (Yields.pure rfl) ?_
    refine OL.nil ?_
    refine PW.keep (T' := [(0, _), (1, _), (2, _), (29, _)]) ⟨rfl, rfl, rfl, rfl, trivial⟩ ?_
    refine PW.ite (b := false) rfl ?_
    rw [if_neg Bool.false_ne_true]
    refine PW.skip ?_
    refine hK1 _ _ ?_
    refine PW.keep (T' := [(0, _), (1, _), (2, _)]) ⟨rfl, rfl, rfl, trivial⟩ ?_
    refine PW.seq fun K4 hK4 => ?_
    refine PW.seqOps ?_
    refine OL.det trivial (Yields.pure rfl) ?_
    refine OL.det trivial (Yields.pure rfl) ?_
    refine OL.call trivial rfl (under_fc (by omega) (by omega)) ?_
    rintro _ Sx ⟨rfl, hSx⟩
    rw [hSx]
    clear hSx
    refine OL.bool trivial (Yields.pure rfl) (fun g33 => ?_) (fun g33 => ?_)
    · try simp only [decide_eq_true_eq, decide_eq_false_iff_not, beq_iff_eq, bne_iff_ne, beq_eq_false_iff_ne, bne_eq_false_iff_eq, Bool.not_eq_true', Bool.not_eq_false', Bool.not_eq_true, ne_eq, Decidable.not_not] at g33
      refine OL.det rfl (Yields.pure rfl) ?_
      refine OL.det rfl (Yields.pure rfl) ?_
      refine OL.call rfl rfl (under_fc (by omega) (by omega)) ?_
      rintro _ Sx ⟨rfl, hSx⟩
      rw [hSx]
      clear hSx
      refine OL.det trivial (Yields.pure rfl) ?_
      refine OL.bool trivial (Yields.pure rfl) (fun g38 => ?_) (fun g38 => ?_)
      · try simp only [decide_eq_true_eq, decide_eq_false_iff_not, beq_iff_eq, bne_iff_ne, beq_eq_false_iff_ne, bne_eq_false_iff_eq, Bool.not_eq_true', Bool.not_eq_false', Bool.not_eq_true, ne_eq, Decidable.not_not] at g38
        refine OL.det rfl (Yields.pure rfl) ?_
        refine OL.det rfl (Yields.pure rfl) ?_
        refine OL.det trivial (Yields.pure rfl) ?_
        refine OL.bool trivial (Yields.pure rfl) (fun g42 => ?_) (fun g42 => ?_)
        · try simp only [decide_eq_true_eq, decide_eq_false_iff_not, beq_iff_eq, bne_iff_ne, beq_eq_false_iff_ne, bne_eq_false_iff_eq, Bool.not_eq_true', Bool.not_eq_false', Bool.not_eq_true, ne_eq, Decidable.not_not] at g42
          rw [toL_inj] at g42
          refine OL.det rfl (Yields.pure rfl) ?_
          refine OL.det rfl (Yields.pure rfl) ?_
          refine OL.det trivial (Yields.pure rfl) ?_
          refine OL.bool trivial (Yields.pure rfl) (fun g46 => ?_) (fun g46 => ?_)
          · try simp only [decide_eq_true_eq, decide_eq_false_iff_not, beq_iff_eq, bne_iff_ne, beq_eq_false_iff_ne, bne_eq_false_iff_eq, Bool.not_eq_true', Bool.not_eq_false', Bool.not_eq_true, ne_eq, Decidable.not_not] at g46
            rw [toL_inj] at g46
            refine OL.det rfl (Yields.pure rfl) ?_
            refine OL.det rfl (Yields.pure rfl) ?_
            refine OL.call rfl rfl (under_fc (by omega) (by omega)) ?_
            rintro _ Sx ⟨rfl, hSx⟩
            rw [hSx]
            clear hSx
            refine OL.det rfl (Yields.pure rfl) ?_
            refine OL.det trivial (Yields.pure rfl) ?_
            refine OL.bool trivial (Yields.pure rfl) (fun g52 => ?_) (fun g52 => ?_)
            · try simp only [decide_eq_true_eq, decide_eq_false_iff_not, beq_iff_eq, bne_iff_ne, beq_eq_false_iff_ne, bne_eq_false_iff_eq, Bool.not_eq_true', Bool.not_eq_false', Bool.not_eq_true, ne_eq, Decidable.not_not] at g52
              refine OL.det rfl (Yields.pure rfl) ?_
              refine OL.det rfl (Yields.pure rfl) ?_
              refine OL.call rfl rfl (under_fc (by omega) (by omega)) ?_
              rintro _ Sx ⟨rfl, hSx⟩
              rw [hSx]
              clear hSx
              refine OL.det rfl (Yields.pure rfl) ?_
              refine OL.det trivial (Yields.pure rfl) ?_
              refine OL.nil ?_
              refine PW.keep (T' := [(0, _), (1, _), (2, _), (57, _)]) ⟨rfl, rfl, rfl, rfl, trivial⟩ ?_
              refine PW.cond rfl (fun c57 => ?_) (fun c57 => ?_)
              · try simp only [decide_eq_true_eq, decide_eq_false_iff_not, beq_iff_eq, bne_iff_ne, beq_eq_false_iff_ne, bne_eq_false_iff_eq, Bool.not_eq_true', Bool.not_eq_false', Bool.not_eq_true, ne_eq, Decidable.not_not] at c57
                rcases under_tot g33 g38 g42 g46 with h | h
                · rw [h] at g52; cases g52
                · rw [h] at c57; cases c57
                -- done
              · try simp only [decide_eq_true_eq, decide_eq_false_iff_not, beq_iff_eq, bne_iff_ne, beq_eq_false_iff_ne, bne_eq_false_iff_eq, Bool.not_eq_true', Bool.not_eq_false', Bool.not_eq_true, ne_eq, Decidable.not_not] at c57
                refine PW.skip ?_
                refine hK4 _ _ ?_
                refine PW.keep (T' := [(0, _), (1, _), (2, _)]) ⟨rfl, rfl, rfl, trivial⟩ ?_
                refine PW.seqOps ?_
                refine OL.det trivial (Yields.pure rfl) ?_
                refine OL.det trivial (Yields.pure rfl) ?_
                refine OL.call trivial rfl (order_fc) ?_
                rintro _ Sx ⟨rfl, hSx⟩
                rw [hSx]
                clear hSx
                refine OL.det trivial (Yields.pure rfl) ?_
                refine OL.det trivial (Yields.pure rfl) ?_
                refine OL.call trivial rfl (order_fc) ?_
                rintro _ Sx ⟨rfl, hSx⟩
                rw [hSx]
                clear hSx
                refine OL.det trivial (Yields.pure rfl) ?_
                refine OL.det trivial (Yields.pure rfl) ?_
                refine OL.call trivial rfl (order_fc) ?_
                rintro _ Sx ⟨rfl, hSx⟩
                rw [hSx]
                clear hSx
                refine OL.det trivial (Yields.pure rfl) ?_
                refine OL.det trivial (Yields.pure rfl) ?_
                refine OL.det trivial (Yields.pure rfl) ?_
                refine OL.nil ?_
                refine PW.keep (T' := [(0, _), (1, _), (7, _), (8, _), (9, _)]) ⟨rfl, rfl, rfl, rfl, rfl, trivial⟩ ?_
                refine PW.seqOps ?_
                refine OL.det trivial (Yields.pure rfl) ?_
                refine OL.det trivial (Yields.pure rfl) ?_
                refine OL.call trivial rfl (order_fc) ?_
                rintro _ Sx ⟨rfl, hSx⟩
                rw [hSx]
                clear hSx
                refine OL.det trivial (Yields.pure rfl) ?_
                refine OL.det trivial (Yields.to (v' := .int .i64 (-Lib.compareBytes a.data.toList b.data.toList)) (Yields.neg rfl) (by have := cmp_range a.data.toList b.data.toList; rw [wrap_i64 (by omega) (by omega)]; congr 1; omega)) ?_
                refine OL.det trivial (Yields.pure rfl) ?_
                refine OL.bool trivial (Yields.pure rfl) (fun g73 => ?_) (fun g73 => ?_)
                · try simp only [decide_eq_true_eq, decide_eq_false_iff_not, beq_iff_eq, bne_iff_ne, beq_eq_false_iff_ne, bne_eq_false_iff_eq, Bool.not_eq_true', Bool.not_eq_false', Bool.not_eq_true, ne_eq, Decidable.not_not] at g73
                  refine OL.det rfl (Yields.pure rfl) ?_
                  refine OL.det rfl (Yields.pure rfl) ?_
                  refine OL.det rfl (Yields.pure rfl) ?_
                  refine OL.det rfl (Yields.pure rfl) ?_
                  refine OL.det rfl (Yields.pure rfl) ?_
                  refine OL.det rfl (Yields.pure rfl) ?_
                  refine OL.det trivial (Yields.pure rfl) ?_
                  refine OL.bool trivial (Yields.pure rfl) (fun g81 => ?_) (fun g81 => ?_)
                  · try simp only [decide_eq_true_eq, decide_eq_false_iff_not, beq_iff_eq, bne_iff_ne, beq_eq_false_iff_ne, bne_eq_false_iff_eq, Bool.not_eq_true', Bool.not_eq_false', Bool.not_eq_true, ne_eq, Decidable.not_not] at g81
                    refine OL.det rfl (Yields.pure rfl) ?_
                    refine OL.det rfl (Yields.pure rfl) ?_
                    refine OL.bool rfl (Yields.pure rfl) (fun g84 => ?_) (fun g84 => ?_)
                    · try simp only [decide_eq_true_eq, decide_eq_false_iff_not, beq_iff_eq, bne_iff_ne, beq_eq_false_iff_ne, bne_eq_false_iff_eq, Bool.not_eq_true', Bool.not_eq_false', Bool.not_eq_true, ne_eq, Decidable.not_not] at g84
                      refine OL.off rfl rfl ?_
                      refine OL.off rfl rfl ?_
                      refine OL.det rfl (Yields.pure rfl) ?_
                      refine OL.det rfl (Yields.pure rfl) ?_
                      refine OL.off rfl rfl ?_
                      refine OL.off rfl rfl ?_
                      refine OL.det rfl (Yields.pure rfl) ?_
                      refine OL.det trivial (Yields.pure rfl) ?_
                      refine OL.det trivial (Yields.pure rfl) ?_
                      refine OL.call rfl rfl (works_fc) ?_
                      rintro _ _ ⟨rfl, _⟩
                      refine OL.det trivial (Yields.pure rfl) ?_
                      refine OL.det trivial (Yields.pure rfl) ?_
                      refine OL.nil ?_
                      refine PW.keep (T' := [(6, _)]) ⟨rfl, trivial⟩ ?_
                      refine PW.ret ?_
                      change (Exit.ret = Exit.normal ∨ Exit.ret = Exit.ret) ∧ ∃ v, resV _ _ = some v ∧ _
                      exact ⟨.inr rfl, _, rfl, rfl⟩
                    · try simp only [decide_eq_true_eq, decide_eq_false_iff_not, beq_iff_eq, bne_iff_ne, beq_eq_false_iff_ne, bne_eq_false_iff_eq, Bool.not_eq_true', Bool.not_eq_false', Bool.not_eq_true, ne_eq, Decidable.not_not] at g84
                      refine OL.det rfl (Yields.pure rfl) ?_
                      refine OL.det rfl (Yields.pure rfl) ?_
                      refine OL.det rfl (Yields.pure rfl) ?_
                      refine OL.bool rfl (Yields.pure rfl) (fun g88 => ?_) (fun g88 => ?_)
                      · try simp only [decide_eq_true_eq, decide_eq_false_iff_not, beq_iff_eq, bne_iff_ne, beq_eq_false_iff_ne, bne_eq_false_iff_eq, Bool.not_eq_true', Bool.not_eq_false', Bool.not_eq_true, ne_eq, Decidable.not_not] at g88
                        refine OL.off rfl rfl ?_
                        refine OL.off rfl rfl ?_
                        refine OL.det rfl (Yields.pure rfl) ?_
                        refine OL.det trivial (Yields.pure rfl) ?_
                        refine OL.det trivial (Yields.pure rfl) ?_
                        refine OL.call rfl rfl (works_fc) ?_
                        rintro _ _ ⟨rfl, _⟩
                        refine OL.det trivial (Yields.pure rfl) ?_
                        refine OL.det trivial (Yields.pure rfl) ?_
                        refine OL.nil ?_
                        refine PW.keep (T' := [(6, _)]) ⟨rfl, trivial⟩ ?_
                        refine PW.ret ?_
                        change (Exit.ret = Exit.normal ∨ Exit.ret = Exit.ret) ∧ ∃ v, resV _ _ = some v ∧ _
                        exact ⟨.inr rfl, _, rfl, rfl⟩
                      · try simp only [decide_eq_true_eq, decide_eq_false_iff_not, beq_iff_eq, bne_iff_ne, beq_eq_false_iff_ne, bne_eq_false_iff_eq, Bool.not_eq_true', Bool.not_eq_false', Bool.not_eq_true, ne_eq, Decidable.not_not] at g88
                        refine OL.det rfl (Yields.pure rfl) ?_
                        refine OL.det rfl (Yields.pure rfl) ?_
                        refine OL.det rfl (Yields.pure rfl) ?_
                        refine OL.det trivial (Yields.pure rfl) ?_
                        refine OL.bool trivial (Yields.pure rfl) (fun g93 => ?_) (fun g93 => ?_)
                        · try simp only [decide_eq_true_eq, decide_eq_false_iff_not, beq_iff_eq, bne_iff_ne, beq_eq_false_iff_ne, bne_eq_false_iff_eq, Bool.not_eq_true', Bool.not_eq_false', Bool.not_eq_true, ne_eq, Decidable.not_not] at g93
                          refine OL.call rfl rfl (works_fc) ?_
                          rintro _ _ ⟨rfl, _⟩
                          refine OL.det trivial (Yields.pure rfl) ?_
                          refine OL.det trivial (Yields.pure rfl) ?_
                          refine OL.nil ?_
                          refine PW.keep (T' := [(6, _)]) ⟨rfl, trivial⟩ ?_
                          refine PW.ret ?_
                          change (Exit.ret = Exit.normal ∨ Exit.ret = Exit.ret) ∧ ∃ v, resV _ _ = some v ∧ _
                          exact ⟨.inr rfl, _, rfl, rfl⟩
                        · try simp only [decide_eq_true_eq, decide_eq_false_iff_not, beq_iff_eq, bne_iff_ne, beq_eq_false_iff_ne, bne_eq_false_iff_eq, Bool.not_eq_true', Bool.not_eq_false', Bool.not_eq_true, ne_eq, Decidable.not_not] at g93
                          exact absurd (cmp_trans a.data.toList b.data.toList c.data.toList (by omega) (by omega)) (by omega)
                          -- done
                  · try simp only [decide_eq_true_eq, decide_eq_false_iff_not, beq_iff_eq, bne_iff_ne, beq_eq_false_iff_ne, bne_eq_false_iff_eq, Bool.not_eq_true', Bool.not_eq_false', Bool.not_eq_true, ne_eq, Decidable.not_not] at g81
                    exfalso; apply g81; rw [eqS, Bool.eq_iff_iff]; simp only [beq_iff_eq, decide_eq_true_eq]; rw [cmp_zero]; exact ⟨ba_ext, fun e => by rw [e]⟩
                    -- done
                · try simp only [decide_eq_true_eq, decide_eq_false_iff_not, beq_iff_eq, bne_iff_ne, beq_eq_false_iff_ne, bne_eq_false_iff_eq, Bool.not_eq_true', Bool.not_eq_false', Bool.not_eq_true, ne_eq, Decidable.not_not] at g73
                  exact absurd (cmp_anti _ _) g73
                  -- done
            · try simp only [decide_eq_true_eq, decide_eq_false_iff_not, beq_iff_eq, bne_iff_ne, beq_eq_false_iff_ne, bne_eq_false_iff_eq, Bool.not_eq_true', Bool.not_eq_false', Bool.not_eq_true, ne_eq, Decidable.not_not] at g52
              refine OL.off rfl rfl ?_
              refine OL.off rfl rfl ?_
              refine OL.off rfl rfl ?_
              refine OL.off rfl rfl ?_
              refine OL.det trivial (Yields.pure rfl) ?_
              refine OL.nil ?_
              refine PW.keep (T' := [(0, _), (1, _), (2, _), (57, _)]) ⟨rfl, rfl, rfl, rfl, trivial⟩ ?_
              refine PW.ite (b := false) rfl ?_
              rw [if_neg Bool.false_ne_true]
              refine PW.skip ?_
              refine hK4 _ _ ?_
              refine PW.keep (T' := [(0, _), (1, _), (2, _)]) ⟨rfl, rfl, rfl, trivial⟩ ?_
              refine PW.seqOps ?_
              refine OL.det trivial (Yields.pure rfl) ?_
              refine OL.det trivial (Yields.pure rfl) ?_
              refine OL.call trivial rfl (order_fc) ?_
              rintro _ Sx ⟨rfl, hSx⟩
              rw [hSx]
              clear hSx
              refine OL.det trivial (Yields.pure rfl) ?_
              refine OL.det trivial (Yields.pure rfl) ?_
              refine OL.call trivial rfl (order_fc) ?_
              rintro _ Sx ⟨rfl, hSx⟩
              rw [hSx]
              clear hSx
              refine OL.det trivial (Yields.pure rfl) ?_
              refine OL.det trivial (Yields.pure rfl) ?_
              refine OL.call trivial rfl (order_fc) ?_
              rintro _ Sx ⟨rfl, hSx⟩
              rw [hSx]
              clear hSx
              refine OL.det trivial (Yields.pure rfl) ?_
              refine OL.det trivial (Yields.pure rfl) ?_
              refine OL.det trivial (Yields.pure rfl) ?_
              refine OL.nil ?_
              refine PW.keep (T' := [(0, _), (1, _), (7, _), (8, _), (9, _)]) ⟨rfl, rfl, rfl, rfl, rfl, trivial⟩ ?_
              refine PW.seqOps ?_
              refine OL.det trivial (Yields.pure rfl) ?_
              refine OL.det trivial (Yields.pure rfl) ?_
              refine OL.call trivial rfl (order_fc) ?_
              rintro _ Sx ⟨rfl, hSx⟩
              rw [hSx]
              clear hSx
              refine OL.det trivial (Yields.pure rfl) ?_
              refine OL.det trivial (Yields.to (v' := .int .i64 (-Lib.compareBytes a.data.toList b.data.toList)) (Yields.neg rfl) (by have := cmp_range a.data.toList b.data.toList; rw [wrap_i64 (by omega) (by omega)]; congr 1; omega)) ?_
              refine OL.det trivial (Yields.pure rfl) ?_
              refine OL.bool trivial (Yields.pure rfl) (fun g73 => ?_) (fun g73 => ?_)
              · try simp only [decide_eq_true_eq, decide_eq_false_iff_not, beq_iff_eq, bne_iff_ne, beq_eq_false_iff_ne, bne_eq_false_iff_eq, Bool.not_eq_true', Bool.not_eq_false', Bool.not_eq_true, ne_eq, Decidable.not_not] at g73
                refine OL.det rfl (Yields.pure rfl) ?_
                refine OL.det rfl (Yields.pure rfl) ?_
                refine OL.det rfl (Yields.pure rfl) ?_
                refine OL.det rfl (Yields.pure rfl) ?_
                refine OL.det rfl (Yields.pure rfl) ?_
                refine OL.det rfl (Yields.pure rfl) ?_
                refine OL.det trivial (Yields.pure rfl) ?_
                refine OL.bool trivial (Yields.pure rfl) (fun g81 => ?_) (fun g81 => ?_)
                · try simp only [decide_eq_true_eq, decide_eq_false_iff_not, beq_iff_eq, bne_iff_ne, beq_eq_false_iff_ne, bne_eq_false_iff_eq, Bool.not_eq_true', Bool.not_eq_false', Bool.not_eq_true, ne_eq, Decidable.not_not] at g81
                  refine OL.det rfl (Yields.pure rfl) ?_
                  refine OL.det rfl (Yields.pure rfl) ?_
                  refine OL.bool rfl (Yields.pure rfl) (fun g84 => ?_) (fun g84 => ?_)
                  · try simp only [decide_eq_true_eq, decide_eq_false_iff_not, beq_iff_eq, bne_iff_ne, beq_eq_false_iff_ne, bne_eq_false_iff_eq, Bool.not_eq_true', Bool.not_eq_false', Bool.not_eq_true, ne_eq, Decidable.not_not] at g84
                    refine OL.off rfl rfl ?_
                    refine OL.off rfl rfl ?_
                    refine OL.det rfl (Yields.pure rfl) ?_
                    refine OL.det rfl (Yields.pure rfl) ?_
                    refine OL.off rfl rfl ?_
                    refine OL.off rfl rfl ?_
                    refine OL.det rfl (Yields.pure rfl) ?_
                    refine OL.det trivial (Yields.pure rfl) ?_
                    refine OL.det trivial (Yields.pure rfl) ?_
                    refine OL.call rfl rfl (works_fc) ?_
                    rintro _ _ ⟨rfl, _⟩
                    refine OL.det trivial (Yields.pure rfl) ?_
                    refine OL.det trivial (Yields.pure rfl) ?_
                    refine OL.nil ?_
                    refine PW.keep (T' := [(6, _)]) ⟨rfl, trivial⟩ ?_
                    refine PW.ret ?_
                    change (Exit.ret = Exit.normal ∨ Exit.ret = Exit.ret) ∧ ∃ v, resV _ _ = some v ∧ _
                    exact ⟨.inr rfl, _, rfl, rfl⟩
                  · try simp only [decide_eq_true_eq, decide_eq_false_iff_not, beq_iff_eq, bne_iff_ne, beq_eq_false_iff_ne, bne_eq_false_iff_eq, Bool.not_eq_true', Bool.not_eq_false', Bool.not_eq_true, ne_eq, Decidable.not_not] at g84
                    refine OL.det rfl (Yields.pure rfl) ?_
                    refine OL.det rfl (Yields.pure rfl) ?_
                    refine OL.det rfl (Yields.pure rfl) ?_
                    refine OL.bool rfl (Yields.pure rfl) (fun g88 => ?_) (fun g88 => ?_)
                    · try simp only [decide_eq_true_eq, decide_eq_false_iff_not, beq_iff_eq, bne_iff_ne, beq_eq_false_iff_ne, bne_eq_false_iff_eq, Bool.not_eq_true', Bool.not_eq_false', Bool.not_eq_true, ne_eq, Decidable.not_not] at g88
                      refine OL.off rfl rfl ?_
                      refine OL.off rfl rfl ?_
                      refine OL.det rfl (Yields.pure rfl) ?_
                      refine OL.det trivial (Yields.pure rfl) ?_
                      refine OL.det trivial (Yields.pure rfl) ?_
                      refine OL.call rfl rfl (works_fc) ?_
                      rintro _ _ ⟨rfl, _⟩
                      refine OL.det trivial (Yields.pure rfl) ?_
                      refine OL.det trivial (Yields.pure rfl) ?_
                      refine OL.nil ?_
                      refine PW.keep (T' := [(6, _)]) ⟨rfl, trivial⟩ ?_
                      refine PW.ret ?_
                      change (Exit.ret = Exit.normal ∨ Exit.ret = Exit.ret) ∧ ∃ v, resV _ _ = some v ∧ _
                      exact ⟨.inr rfl, _, rfl, rfl⟩
                    · try simp only [decide_eq_true_eq, decide_eq_false_iff_not, beq_iff_eq, bne_iff_ne, beq_eq_false_iff_ne, bne_eq_false_iff_eq, Bool.not_eq_true', Bool.not_eq_false', Bool.not_eq_true, ne_eq, Decidable.not_not] at g88
                      refine OL.det rfl (Yields.pure rfl) ?_
                      refine OL.det rfl (Yields.pure rfl) ?_
                      refine OL.det rfl (Yields.pure rfl) ?_
                      refine OL.det trivial (Yields.pure rfl) ?_
                      refine OL.bool trivial (Yields.pure rfl) (fun g93 => ?_) (fun g93 => ?_)
                      · try simp only [decide_eq_true_eq, decide_eq_false_iff_not, beq_iff_eq, bne_iff_ne, beq_eq_false_iff_ne, bne_eq_false_iff_eq, Bool.not_eq_true', Bool.not_eq_false', Bool.not_eq_true, ne_eq, Decidable.not_not] at g93
                        refine OL.call rfl rfl (works_fc) ?_
                        rintro _ _ ⟨rfl, _⟩
                        refine OL.det trivial (Yields.pure rfl) ?_
                        refine OL.det trivial (Yields.pure rfl) ?_
                        refine OL.nil ?_
                        refine PW.keep (T' := [(6, _)]) ⟨rfl, trivial⟩ ?_
                        refine PW.ret ?_
                        change (Exit.ret = Exit.normal ∨ Exit.ret = Exit.ret) ∧ ∃ v, resV _ _ = some v ∧ _
                        exact ⟨.inr rfl, _, rfl, rfl⟩
                      · try simp only [decide_eq_true_eq, decide_eq_false_iff_not, beq_iff_eq, bne_iff_ne, beq_eq_false_iff_ne, bne_eq_false_iff_eq, Bool.not_eq_true', Bool.not_eq_false', Bool.not_eq_true, ne_eq, Decidable.not_not] at g93
                        exact absurd (cmp_trans a.data.toList b.data.toList c.data.toList (by omega) (by omega)) (by omega)
                        -- done
                · try simp only [decide_eq_true_eq, decide_eq_false_iff_not, beq_iff_eq, bne_iff_ne, beq_eq_false_iff_ne, bne_eq_false_iff_eq, Bool.not_eq_true', Bool.not_eq_false', Bool.not_eq_true, ne_eq, Decidable.not_not] at g81
                  exfalso; apply g81; rw [eqS, Bool.eq_iff_iff]; simp only [beq_iff_eq, decide_eq_true_eq]; rw [cmp_zero]; exact ⟨ba_ext, fun e => by rw [e]⟩
                  -- done
              · try simp only [decide_eq_true_eq, decide_eq_false_iff_not, beq_iff_eq, bne_iff_ne, beq_eq_false_iff_ne, bne_eq_false_iff_eq, Bool.not_eq_true', Bool.not_eq_false', Bool.not_eq_true, ne_eq, Decidable.not_not] at g73
                exact absurd (cmp_anti _ _) g73
                -- done
          · try simp only [decide_eq_true_eq, decide_eq_false_iff_not, beq_iff_eq, bne_iff_ne, beq_eq_false_iff_ne, bne_eq_false_iff_eq, Bool.not_eq_true', Bool.not_eq_false', Bool.not_eq_true, ne_eq, Decidable.not_not] at g46
            refine OL.off rfl rfl ?_
            refine OL.off rfl rfl ?_
            refine OL.off rfl rfl ?_
            refine OL.off rfl rfl ?_
            refine OL.det trivial (Yields.pure rfl) ?_
            refine OL.det trivial (Yields.pure rfl) ?_
            refine OL.off rfl rfl ?_
            refine OL.off rfl rfl ?_
            refine OL.off rfl rfl ?_
            refine OL.off rfl rfl ?_
            refine OL.det trivial (Yields.pure rfl) ?_
            refine OL.nil ?_
            refine PW.keep (T' := [(0, _), (1, _), (2, _), (57, _)]) ⟨rfl, rfl, rfl, rfl, trivial⟩ ?_
            refine PW.ite (b := false) rfl ?_
            rw [if_neg Bool.false_ne_true]
            refine PW.skip ?_
            refine hK4 _ _ ?_
            refine PW.keep (T' := [(0, _), (1, _), (2, _)]) ⟨rfl, rfl, rfl, trivial⟩ ?_
            refine PW.seqOps ?_
            refine OL.det trivial (Yields.pure rfl) ?_
            refine OL.det trivial (Yields.pure rfl) ?_
            refine OL.call trivial rfl (order_fc) ?_
            rintro _ Sx ⟨rfl, hSx⟩
            rw [hSx]
            clear hSx
            refine OL.det trivial (Yields.pure rfl) ?_
            refine OL.det trivial (Yields.pure rfl) ?_
            refine OL.call trivial rfl (order_fc) ?_
            rintro _ Sx ⟨rfl, hSx⟩
            rw [hSx]
            clear hSx
            refine OL.det trivial (Yields.pure rfl) ?_
            refine OL.det trivial (Yields.pure rfl) ?_
            refine OL.call trivial rfl (order_fc) ?_
            rintro _ Sx ⟨rfl, hSx⟩
            rw [hSx]
            clear hSx
            refine OL.det trivial (Yields.pure rfl) ?_
            refine OL.det trivial (Yields.pure rfl) ?_
            refine OL.det trivial (Yields.pure rfl) ?_
            refine OL.nil ?_
            refine PW.keep (T' := [(0, _), (1, _), (7, _), (8, _), (9, _)]) ⟨rfl, rfl, rfl, rfl, rfl, trivial⟩ ?_
            refine PW.seqOps ?_
            refine OL.det trivial (Yields.pure rfl) ?_
            refine OL.det trivial (Yields.pure rfl) ?_
            refine OL.call trivial rfl (order_fc) ?_
            rintro _ Sx ⟨rfl, hSx⟩
            rw [hSx]
            clear hSx
            refine OL.det trivial (Yields.pure rfl) ?_
            refine OL.det trivial (Yields.to (v' := .int .i64 (-Lib.compareBytes a.data.toList b.data.toList)) (Yields.neg rfl) (by have := cmp_range a.data.toList b.data.toList; rw [wrap_i64 (by omega) (by omega)]; congr 1; omega)) ?_
            refine OL.det trivial (Yields.pure rfl) ?_
            refine OL.bool trivial (Yields.pure rfl) (fun g73 => ?_) (fun g73 => ?_)
            · try simp only [decide_eq_true_eq, decide_eq_false_iff_not, beq_iff_eq, bne_iff_ne, beq_eq_false_iff_ne, bne_eq_false_iff_eq, Bool.not_eq_true', Bool.not_eq_false', Bool.not_eq_true, ne_eq, Decidable.not_not] at g73
              refine OL.det rfl (Yields.pure rfl) ?_
              refine OL.det rfl (Yields.pure rfl) ?_
              refine OL.det rfl (Yields.pure rfl) ?_
              refine OL.det rfl (Yields.pure rfl) ?_
              refine OL.det rfl (Yields.pure rfl) ?_
              refine OL.det rfl (Yields.pure rfl) ?_
              refine OL.det trivial (Yields.pure rfl) ?_
              refine OL.bool trivial (Yields.pure rfl) (fun g81 => ?_) (fun g81 => ?_)
              · try simp only [decide_eq_true_eq, decide_eq_false_iff_not, beq_iff_eq, bne_iff_ne, beq_eq_false_iff_ne, bne_eq_false_iff_eq, Bool.not_eq_true', Bool.not_eq_false', Bool.not_eq_true, ne_eq, Decidable.not_not] at g81
                refine OL.det rfl (Yields.pure rfl) ?_
                refine OL.det rfl (Yields.pure rfl) ?_
                refine OL.bool rfl (Yields.pure rfl) (fun g84 => ?_) (fun g84 => ?_)
                · try simp only [decide_eq_true_eq, decide_eq_false_iff_not, beq_iff_eq, bne_iff_ne, beq_eq_false_iff_ne, bne_eq_false_iff_eq, Bool.not_eq_true', Bool.not_eq_false', Bool.not_eq_true, ne_eq, Decidable.not_not] at g84
                  refine OL.off rfl rfl ?_
                  refine OL.off rfl rfl ?_
                  refine OL.det rfl (Yields.pure rfl) ?_
                  refine OL.det rfl (Yields.pure rfl) ?_
                  refine OL.off rfl rfl ?_
                  refine OL.off rfl rfl ?_
                  refine OL.det rfl (Yields.pure rfl) ?_
                  refine OL.det trivial (Yields.pure rfl) ?_
                  refine OL.det trivial (Yields.pure rfl) ?_
                  refine OL.call rfl rfl (works_fc) ?_
                  rintro _ _ ⟨rfl, _⟩
                  refine OL.det trivial (Yields.pure rfl) ?_
                  refine OL.det trivial (Yields.pure rfl) ?_
                  refine OL.nil ?_
                  refine PW.keep (T' := [(6, _)]) ⟨rfl, trivial⟩ ?_
                  refine PW.ret ?_
                  change (Exit.ret = Exit.normal ∨ Exit.ret = Exit.ret) ∧ ∃ v, resV _ _ = some v ∧ _
                  exact ⟨.inr rfl, _, rfl, rfl⟩
                · try simp only [decide_eq_true_eq, decide_eq_false_iff_not, beq_iff_eq, bne_iff_ne, beq_eq_false_iff_ne, bne_eq_false_iff_eq, Bool.not_eq_true', Bool.not_eq_false', Bool.not_eq_true, ne_eq, Decidable.not_not] at g84
                  refine OL.det rfl (Yields.pure rfl) ?_
                  refine OL.det rfl (Yields.pure rfl) ?_
                  refine OL.det rfl (Yields.pure rfl) ?_
                  refine OL.bool rfl (Yields.pure rfl) (fun g88 => ?_) (fun g88 => ?_)
                  · try simp only [decide_eq_true_eq, decide_eq_false_iff_not, beq_iff_eq, bne_iff_ne, beq_eq_false_iff_ne, bne_eq_false_iff_eq, Bool.not_eq_true', Bool.not_eq_false', Bool.not_eq_true, ne_eq, Decidable.not_not] at g88
                    refine OL.off rfl rfl ?_
                    refine OL.off rfl rfl ?_
                    refine OL.det rfl (Yields.pure rfl) ?_
                    refine OL.det trivial (Yields.pure rfl) ?_
                    refine OL.det trivial (Yields.pure rfl) ?_
                    refine OL.call rfl rfl (works_fc) ?_
                    rintro _ _ ⟨rfl, _⟩
                    refine OL.det trivial (Yields.pure rfl) ?_
                    refine OL.det trivial (Yields.pure rfl) ?_
                    refine OL.nil ?_
                    refine PW.keep (T' := [(6, _)]) ⟨rfl, trivial⟩ ?_
                    refine PW.ret ?_
                    change (Exit.ret = Exit.normal ∨ Exit.ret = Exit.ret) ∧ ∃ v, resV _ _ = some v ∧ _
                    exact ⟨.inr rfl, _, rfl, rfl⟩
                  · try simp only [decide_eq_true_eq, decide_eq_false_iff_not, beq_iff_eq, bne_iff_ne, beq_eq_false_iff_ne, bne_eq_false_iff_eq, Bool.not_eq_true', Bool.not_eq_false', Bool.not_eq_true, ne_eq, Decidable.not_not] at g88
                    refine OL.det rfl (Yields.pure rfl) ?_
                    refine OL.det rfl (Yields.pure rfl) ?_
                    refine OL.det rfl (Yields.pure rfl) ?_
                    refine OL.det trivial (Yields.pure rfl) ?_
                    refine OL.bool trivial (Yields.pure rfl) (fun g93 => ?_) (fun g93 => ?_)
                    · try simp only [decide_eq_true_eq, decide_eq_false_iff_not, beq_iff_eq, bne_iff_ne, beq_eq_false_iff_ne, bne_eq_false_iff_eq, Bool.not_eq_true', Bool.not_eq_false', Bool.not_eq_true, ne_eq, Decidable.not_not] at g93
                      refine OL.call rfl rfl (works_fc) ?_
                      rintro _ _ ⟨rfl, _⟩
                      refine OL.det trivial (Yields.pure rfl) ?_
                      refine OL.det trivial (Yields.pure rfl) ?_
                      refine OL.nil ?_
                      refine PW.keep (T' := [(6, _)]) ⟨rfl, trivial⟩ ?_
                      refine PW.ret ?_
                      change (Exit.ret = Exit.normal ∨ Exit.ret = Exit.ret) ∧ ∃ v, resV _ _ = some v ∧ _
                      exact ⟨.inr rfl, _, rfl, rfl⟩
                    · try simp only [decide_eq_true_eq, decide_eq_false_iff_not, beq_iff_eq, bne_iff_ne, beq_eq_false_iff_ne, bne_eq_false_iff_eq, Bool.not_eq_true', Bool.not_eq_false', Bool.not_eq_true, ne_eq, Decidable.not_not] at g93
                      exact absurd (cmp_trans a.data.toList b.data.toList c.data.toList (by omega) (by omega)) (by omega)
                      -- done
              · try simp only [decide_eq_true_eq, decide_eq_false_iff_not, beq_iff_eq, bne_iff_ne, beq_eq_false_iff_ne, bne_eq_false_iff_eq, Bool.not_eq_true', Bool.not_eq_false', Bool.not_eq_true, ne_eq, Decidable.not_not] at g81
                exfalso; apply g81; rw [eqS, Bool.eq_iff_iff]; simp only [beq_iff_eq, decide_eq_true_eq]; rw [cmp_zero]; exact ⟨ba_ext, fun e => by rw [e]⟩
                -- done
            · try simp only [decide_eq_true_eq, decide_eq_false_iff_not, beq_iff_eq, bne_iff_ne, beq_eq_false_iff_ne, bne_eq_false_iff_eq, Bool.not_eq_true', Bool.not_eq_false', Bool.not_eq_true, ne_eq, Decidable.not_not] at g73
              exact absurd (cmp_anti _ _) g73
              -- done
        · try simp only [decide_eq_true_eq, decide_eq_false_iff_not, beq_iff_eq, bne_iff_ne, beq_eq_false_iff_ne, bne_eq_false_iff_eq, Bool.not_eq_true', Bool.not_eq_false', Bool.not_eq_true, ne_eq, Decidable.not_not] at g42
          refine OL.off rfl rfl ?_
          refine OL.off rfl rfl ?_
          refine OL.det trivial (Yields.pure rfl) ?_
          refine OL.det trivial (Yields.pure rfl) ?_
          refine OL.off rfl rfl ?_
          refine OL.off rfl rfl ?_
          refine OL.off rfl rfl ?_
          refine OL.off rfl rfl ?_
          refine OL.det trivial (Yields.pure rfl) ?_
          refine OL.det trivial (Yields.pure rfl) ?_
          refine OL.off rfl rfl ?_
          refine OL.off rfl rfl ?_
          refine OL.off rfl rfl ?_
          refine OL.off rfl rfl ?_
          refine OL.det trivial (Yields.pure rfl) ?_
          refine OL.nil ?_
          refine PW.keep (T' := [(0, _), (1, _), (2, _), (57, _)]) ⟨rfl, rfl, rfl, rfl, trivial⟩ ?_
          refine PW.ite (b := false) rfl ?_
          rw [if_neg Bool.false_ne_true]
          refine PW.skip ?_
          refine hK4 _ _ ?_
          refine PW.keep (T' := [(0, _), (1, _), (2, _)]) ⟨rfl, rfl, rfl, trivial⟩ ?_
          refine PW.seqOps ?_
          refine OL.det trivial (Yields.pure rfl) ?_
          refine OL.det trivial (Yields.pure rfl) ?_
          refine OL.call trivial rfl (order_fc) ?_
          rintro _ Sx ⟨rfl, hSx⟩
          rw [hSx]
          clear hSx
          refine OL.det trivial (Yields.pure rfl) ?_
          refine OL.det trivial (Yields.pure rfl) ?_
          refine OL.call trivial rfl (order_fc) ?_
          rintro _ Sx ⟨rfl, hSx⟩
          rw [hSx]
          clear hSx
          refine OL.det trivial (Yields.pure rfl) ?_
          refine OL.det trivial (Yields.pure rfl) ?_
          refine OL.call trivial rfl (order_fc) ?_
          rintro _ Sx ⟨rfl, hSx⟩
          rw [hSx]
          clear hSx
          refine OL.det trivial (Yields.pure rfl) ?_
          refine OL.det trivial (Yields.pure rfl) ?_
          refine OL.det trivial (Yields.pure rfl) ?_
          refine OL.nil ?_
          refine PW.keep (T' := [(0, _), (1, _), (7, _), (8, _), (9, _)]) ⟨rfl, rfl, rfl, rfl, rfl, trivial⟩ ?_
          refine PW.seqOps ?_
          refine OL.det trivial (Yields.pure rfl) ?_
          refine OL.det trivial (Yields.pure rfl) ?_
          refine OL.call trivial rfl (order_fc) ?_
          rintro _ Sx ⟨rfl, hSx⟩
          rw [hSx]
          clear hSx
          refine OL.det trivial (Yields.pure rfl) ?_
          refine OL.det trivial (Yields.to (v' := .int .i64 (-Lib.compareBytes a.data.toList b.data.toList)) (Yields.neg rfl) (by have := cmp_range a.data.toList b.data.toList; rw [wrap_i64 (by omega) (by omega)]; congr 1; omega)) ?_
          refine OL.det trivial (Yields.pure rfl) ?_
          refine OL.bool trivial (Yields.pure rfl) (fun g73 => ?_) (fun g73 => ?_)
          · try simp only [decide_eq_true_eq, decide_eq_false_iff_not, beq_iff_eq, bne_iff_ne, beq_eq_false_iff_ne, bne_eq_false_iff_eq, Bool.not_eq_true', Bool.not_eq_false', Bool.not_eq_true, ne_eq, Decidable.not_not] at g73
            refine OL.det rfl (Yields.pure rfl) ?_
            refine OL.det rfl (Yields.pure rfl) ?_
            refine OL.det rfl (Yields.pure rfl) ?_
            refine OL.det rfl (Yields.pure rfl) ?_
            refine OL.det rfl (Yields.pure rfl) ?_
            refine OL.det rfl (Yields.pure rfl) ?_
            refine OL.det trivial (Yields.pure rfl) ?_
            refine OL.bool trivial (Yields.pure rfl) (fun g81 => ?_) (fun g81 => ?_)
            · try simp only [decide_eq_true_eq, decide_eq_false_iff_not, beq_iff_eq, bne_iff_ne, beq_eq_false_iff_ne, bne_eq_false_iff_eq, Bool.not_eq_true', Bool.not_eq_false', Bool.not_eq_true, ne_eq, Decidable.not_not] at g81
              refine OL.det rfl (Yields.pure rfl) ?_
              refine OL.det rfl (Yields.pure rfl) ?_
              refine OL.bool rfl (Yields.pure rfl) (fun g84 => ?_) (fun g84 => ?_)
              · try simp only [decide_eq_true_eq, decide_eq_false_iff_not, beq_iff_eq, bne_iff_ne, beq_eq_false_iff_ne, bne_eq_false_iff_eq, Bool.not_eq_true', Bool.not_eq_false', Bool.not_eq_true, ne_eq, Decidable.not_not] at g84
                refine OL.off rfl rfl ?_
                refine OL.off rfl rfl ?_
                refine OL.det rfl (Yields.pure rfl) ?_
                refine OL.det rfl (Yields.pure rfl) ?_
                refine OL.off rfl rfl ?_
                refine OL.off rfl rfl ?_
                refine OL.det rfl (Yields.pure rfl) ?_
                refine OL.det trivial (Yields.pure rfl) ?_
                refine OL.det trivial (Yields.pure rfl) ?_
                refine OL.call rfl rfl (works_fc) ?_
                rintro _ _ ⟨rfl, _⟩
                refine OL.det trivial (Yields.pure rfl) ?_
                refine OL.det trivial (Yields.pure rfl) ?_
                refine OL.nil ?_
                refine PW.keep (T' := [(6, _)]) ⟨rfl, trivial⟩ ?_
                refine PW.ret ?_
                change (Exit.ret = Exit.normal ∨ Exit.ret = Exit.ret) ∧ ∃ v, resV _ _ = some v ∧ _
                exact ⟨.inr rfl, _, rfl, rfl⟩
              · try simp only [decide_eq_true_eq, decide_eq_false_iff_not, beq_iff_eq, bne_iff_ne, beq_eq_false_iff_ne, bne_eq_false_iff_eq, Bool.not_eq_true', Bool.not_eq_false', Bool.not_eq_true, ne_eq, Decidable.not_not] at g84
                refine OL.det rfl (Yields.pure rfl) ?_
                refine OL.det rfl (Yields.pure rfl) ?_
                refine OL.det rfl (Yields.pure rfl) ?_
                refine OL.bool rfl (Yields.pure rfl) (fun g88 => ?_) (fun g88 => ?_)
                · try simp only [decide_eq_true_eq, decide_eq_false_iff_not, beq_iff_eq, bne_iff_ne, beq_eq_false_iff_ne, bne_eq_false_iff_eq, Bool.not_eq_true', Bool.not_eq_false', Bool.not_eq_true, ne_eq, Decidable.not_not] at g88
                  refine OL.off rfl rfl ?_
                  refine OL.off rfl rfl ?_
                  refine OL.det rfl (Yields.pure rfl) ?_
                  refine OL.det trivial (Yields.pure rfl) ?_
                  refine OL.det trivial (Yields.pure rfl) ?_
                  refine OL.call rfl rfl (works_fc) ?_
                  rintro _ _ ⟨rfl, _⟩
                  refine OL.det trivial (Yields.pure rfl) ?_
                  refine OL.det trivial (Yields.pure rfl) ?_
                  refine OL.nil ?_
                  refine PW.keep (T' := [(6, _)]) ⟨rfl, trivial⟩ ?_
                  refine PW.ret ?_
                  change (Exit.ret = Exit.normal ∨ Exit.ret = Exit.ret) ∧ ∃ v, resV _ _ = some v ∧ _
                  exact ⟨.inr rfl, _, rfl, rfl⟩
                · try simp only [decide_eq_true_eq, decide_eq_false_iff_not, beq_iff_eq, bne_iff_ne, beq_eq_false_iff_ne, bne_eq_false_iff_eq, Bool.not_eq_true', Bool.not_eq_false', Bool.not_eq_true, ne_eq, Decidable.not_not] at g88
                  refine OL.det rfl (Yields.pure rfl) ?_
                  refine OL.det rfl (Yields.pure rfl) ?_
                  refine OL.det rfl (Yields.pure rfl) ?_
                  refine OL.det trivial (Yields.pure rfl) ?_
                  refine OL.bool trivial (Yields.pure rfl) (fun g93 => ?_) (fun g93 => ?_)
                  · try simp only [decide_eq_true_eq, decide_eq_false_iff_not, beq_iff_eq, bne_iff_ne, beq_eq_false_iff_ne, bne_eq_false_iff_eq, Bool.not_eq_true', Bool.not_eq_false', Bool.not_eq_true, ne_eq, Decidable.not_not] at g93
                    refine OL.call rfl rfl (works_fc) ?_
                    rintro _ _ ⟨rfl, _⟩
                    refine OL.det trivial (Yields.pure rfl) ?_
                    refine OL.det trivial (Yields.pure rfl) ?_
                    refine OL.nil ?_
                    refine PW.keep (T' := [(6, _)]) ⟨rfl, trivial⟩ ?_
                    refine PW.ret ?_
                    change (Exit.ret = Exit.normal ∨ Exit.ret = Exit.ret) ∧ ∃ v, resV _ _ = some v ∧ _
                    exact ⟨.inr rfl, _, rfl, rfl⟩
                  · try simp only [decide_eq_true_eq, decide_eq_false_iff_not, beq_iff_eq, bne_iff_ne, beq_eq_false_iff_ne, bne_eq_false_iff_eq, Bool.not_eq_true', Bool.not_eq_false', Bool.not_eq_true, ne_eq, Decidable.not_not] at g93
                    exact absurd (cmp_trans a.data.toList b.data.toList c.data.toList (by omega) (by omega)) (by omega)
                    -- done
            · try simp only [decide_eq_true_eq, decide_eq_false_iff_not, beq_iff_eq, bne_iff_ne, beq_eq_false_iff_ne, bne_eq_false_iff_eq, Bool.not_eq_true', Bool.not_eq_false', Bool.not_eq_true, ne_eq, Decidable.not_not] at g81
              exfalso; apply g81; rw [eqS, Bool.eq_iff_iff]; simp only [beq_iff_eq, decide_eq_true_eq]; rw [cmp_zero]; exact ⟨ba_ext, fun e => by rw [e]⟩
              -- done
          · try simp only [decide_eq_true_eq, decide_eq_false_iff_not, beq_iff_eq, bne_iff_ne, beq_eq_false_iff_ne, bne_eq_false_iff_eq, Bool.not_eq_true', Bool.not_eq_false', Bool.not_eq_true, ne_eq, Decidable.not_not] at g73
            exact absurd (cmp_anti _ _) g73
            -- done
      · try simp only [decide_eq_true_eq, decide_eq_false_iff_not, beq_iff_eq, bne_iff_ne, beq_eq_false_iff_ne, bne_eq_false_iff_eq, Bool.not_eq_true', Bool.not_eq_false', Bool.not_eq_true, ne_eq, Decidable.not_not] at g38
        refine OL.off rfl rfl ?_
        refine OL.off rfl rfl ?_
        refine OL.det trivial (Yields.pure rfl) ?_
        refine OL.det trivial (Yields.pure rfl) ?_
        refine OL.off rfl rfl ?_
        refine OL.off rfl rfl ?_
        refine OL.det trivial (Yields.pure rfl) ?_
        refine OL.det trivial (Yields.pure rfl) ?_
        refine OL.off rfl rfl ?_
        refine OL.off rfl rfl ?_
        refine OL.off rfl rfl ?_
        refine OL.off rfl rfl ?_
        refine OL.det trivial (Yields.pure rfl) ?_
        refine OL.det trivial (Yields.pure rfl) ?_
        refine OL.off rfl rfl ?_
        refine OL.off rfl rfl ?_
        refine OL.off rfl rfl ?_
        refine OL.off rfl rfl ?_
        refine OL.det trivial (Yields.pure rfl) ?_
        refine OL.nil ?_
        refine PW.keep (T' := [(0, _), (1, _), (2, _), (57, _)]) ⟨rfl, rfl, rfl, rfl, trivial⟩ ?_
        refine PW.ite (b := false) rfl ?_
        rw [if_neg Bool.false_ne_true]
        refine PW.skip ?_
        refine hK4 _ _ ?_
        refine PW.keep (T' := [(0, _), (1, _), (2, _)]) ⟨rfl, rfl, rfl, trivial⟩ ?_
        refine PW.seqOps ?_
        refine OL.det trivial (Yields.pure rfl) ?_
        refine OL.det trivial (Yields.pure rfl) ?_
        refine OL.call trivial rfl (order_fc) ?_
        rintro _ Sx ⟨rfl, hSx⟩
        rw [hSx]
        clear hSx
        refine OL.det trivial (Yields.pure rfl) ?_
        refine OL.det trivial (Yields.pure rfl) ?_
        refine OL.call trivial rfl (order_fc) ?_
        rintro _ Sx ⟨rfl, hSx⟩
        rw [hSx]
        clear hSx
        refine OL.det trivial (Yields.pure rfl) ?_
        refine OL.det trivial (Yields.pure rfl) ?_
        refine OL.call trivial rfl (order_fc) ?_
        rintro _ Sx ⟨rfl, hSx⟩
        rw [hSx]
        clear hSx
        refine OL.det trivial (Yields.pure rfl) ?_
        refine OL.det trivial (Yields.pure rfl) ?_
        refine OL.det trivial (Yields.pure rfl) ?_
        refine OL.nil ?_
        refine PW.keep (T' := [(0, _), (1, _), (7, _), (8, _), (9, _)]) ⟨rfl, rfl, rfl, rfl, rfl, trivial⟩ ?_
        refine PW.seqOps ?_
        refine OL.det trivial (Yields.pure rfl) ?_
        refine OL.det trivial (Yields.pure rfl) ?_
        refine OL.call trivial rfl (order_fc) ?_
        rintro _ Sx ⟨rfl, hSx⟩
        rw [hSx]
        clear hSx
        refine OL.det trivial (Yields.pure rfl) ?_
        refine OL.det trivial (Yields.to (v' := .int .i64 (-Lib.compareBytes a.data.toList b.data.toList)) (Yields.neg rfl) (by have := cmp_range a.data.toList b.data.toList; rw [wrap_i64 (by omega) (by omega)]; congr 1; omega)) ?_
        refine OL.det trivial (Yields.pure rfl) ?_
        refine OL.bool trivial (Yields.pure rfl) (fun g73 => ?_) (fun g73 => ?_)
        · try simp only [decide_eq_true_eq, decide_eq_false_iff_not, beq_iff_eq, bne_iff_ne, beq_eq_false_iff_ne, bne_eq_false_iff_eq, Bool.not_eq_true', Bool.not_eq_false', Bool.not_eq_true, ne_eq, Decidable.not_not] at g73
          refine OL.det rfl (Yields.pure rfl) ?_
          refine OL.det rfl (Yields.pure rfl) ?_
          refine OL.det rfl (Yields.pure rfl) ?_
          refine OL.det rfl (Yields.pure rfl) ?_
          refine OL.det rfl (Yields.pure rfl) ?_
          refine OL.det rfl (Yields.pure rfl) ?_
          refine OL.det trivial (Yields.pure rfl) ?_
          refine OL.bool trivial (Yields.pure rfl) (fun g81 => ?_) (fun g81 => ?_)
          · try simp only [decide_eq_true_eq, decide_eq_false_iff_not, beq_iff_eq, bne_iff_ne, beq_eq_false_iff_ne, bne_eq_false_iff_eq, Bool.not_eq_true', Bool.not_eq_false', Bool.not_eq_true, ne_eq, Decidable.not_not] at g81
            refine OL.det rfl (Yields.pure rfl) ?_
            refine OL.det rfl (Yields.pure rfl) ?_
            refine OL.bool rfl (Yields.pure rfl) (fun g84 => ?_) (fun g84 => ?_)
            · try simp only [decide_eq_true_eq, decide_eq_false_iff_not, beq_iff_eq, bne_iff_ne, beq_eq_false_iff_ne, bne_eq_false_iff_eq, Bool.not_eq_true', Bool.not_eq_false', Bool.not_eq_true, ne_eq, Decidable.not_not] at g84
              refine OL.off rfl rfl ?_
              refine OL.off rfl rfl ?_
              refine OL.det rfl (Yields.pure rfl) ?_
              refine OL.det rfl (Yields.pure rfl) ?_
              refine OL.off rfl rfl ?_
              refine OL.off rfl rfl ?_
              refine OL.det rfl (Yields.pure rfl) ?_
              refine OL.det trivial (Yields.pure rfl) ?_
              refine OL.det trivial (Yields.pure rfl) ?_
              refine OL.call rfl rfl (works_fc) ?_
              rintro _ _ ⟨rfl, _⟩
              refine OL.det trivial (Yields.pure rfl) ?_
              refine OL.det trivial (Yields.pure rfl) ?_
              refine OL.nil ?_
              refine PW.keep (T' := [(6, _)]) ⟨rfl, trivial⟩ ?_
              refine PW.ret ?_
              change (Exit.ret = Exit.normal ∨ Exit.ret = Exit.ret) ∧ ∃ v, resV _ _ = some v ∧ _
              exact ⟨.inr rfl, _, rfl, rfl⟩
            · try simp only [decide_eq_true_eq, decide_eq_false_iff_not, beq_iff_eq, bne_iff_ne, beq_eq_false_iff_ne, bne_eq_false_iff_eq, Bool.not_eq_true', Bool.not_eq_false', Bool.not_eq_true, ne_eq, Decidable.not_not] at g84
              refine OL.det rfl (Yields.pure rfl) ?_
              refine OL.det rfl (Yields.pure rfl) ?_
              refine OL.det rfl (Yields.pure rfl) ?_
              refine OL.bool rfl (Yields.pure rfl) (fun g88 => ?_) (fun g88 => ?_)
              · try simp only [decide_eq_true_eq, decide_eq_false_iff_not, beq_iff_eq, bne_iff_ne, beq_eq_false_iff_ne, bne_eq_false_iff_eq, Bool.not_eq_true', Bool.not_eq_false', Bool.not_eq_true, ne_eq, Decidable.not_not] at g88
                refine OL.off rfl rfl ?_
                refine OL.off rfl rfl ?_
                refine OL.det rfl (Yields.pure rfl) ?_
                refine OL.det trivial (Yields.pure rfl) ?_
                refine OL.det trivial (Yields.pure rfl) ?_
                refine OL.call rfl rfl (works_fc) ?_
                rintro _ _ ⟨rfl, _⟩
                refine OL.det trivial (Yields.pure rfl) ?_
                refine OL.det trivial (Yields.pure rfl) ?_
                refine OL.nil ?_
                refine PW.keep (T' := [(6, _)]) ⟨rfl, trivial⟩ ?_
                refine PW.ret ?_
                change (Exit.ret = Exit.normal ∨ Exit.ret = Exit.ret) ∧ ∃ v, resV _ _ = some v ∧ _
                exact ⟨.inr rfl, _, rfl, rfl⟩
              · try simp only [decide_eq_true_eq, decide_eq_false_iff_not, beq_iff_eq, bne_iff_ne, beq_eq_false_iff_ne, bne_eq_false_iff_eq, Bool.not_eq_true', Bool.not_eq_false', Bool.not_eq_true, ne_eq, Decidable.not_not] at g88
                refine OL.det rfl (Yields.pure rfl) ?_
                refine OL.det rfl (Yields.pure rfl) ?_
                refine OL.det rfl (Yields.pure rfl) ?_
                refine OL.det trivial (Yields.pure rfl) ?_
                refine OL.bool trivial (Yields.pure rfl) (fun g93 => ?_) (fun g93 => ?_)
                · try simp only [decide_eq_true_eq, decide_eq_false_iff_not, beq_iff_eq, bne_iff_ne, beq_eq_false_iff_ne, bne_eq_false_iff_eq, Bool.not_eq_true', Bool.not_eq_false', Bool.not_eq_true, ne_eq, Decidable.not_not] at g93
                  refine OL.call rfl rfl (works_fc) ?_
                  rintro _ _ ⟨rfl, _⟩
                  refine OL.det trivial (Yields.pure rfl) ?_
                  refine OL.det trivial (Yields.pure rfl) ?_
                  refine OL.nil ?_
                  refine PW.keep (T' := [(6, _)]) ⟨rfl, trivial⟩ ?_
                  refine PW.ret ?_
                  change (Exit.ret = Exit.normal ∨ Exit.ret = Exit.ret) ∧ ∃ v, resV _ _ = some v ∧ _
                  exact ⟨.inr rfl, _, rfl, rfl⟩
                · try simp only [decide_eq_true_eq, decide_eq_false_iff_not, beq_iff_eq, bne_iff_ne, beq_eq_false_iff_ne, bne_eq_false_iff_eq, Bool.not_eq_true', Bool.not_eq_false', Bool.not_eq_true, ne_eq, Decidable.not_not] at g93
                  exact absurd (cmp_trans a.data.toList b.data.toList c.data.toList (by omega) (by omega)) (by omega)
                  -- done
          · try simp only [decide_eq_true_eq, decide_eq_false_iff_not, beq_iff_eq, bne_iff_ne, beq_eq_false_iff_ne, bne_eq_false_iff_eq, Bool.not_eq_true', Bool.not_eq_false', Bool.not_eq_true, ne_eq, Decidable.not_not] at g81
            exfalso; apply g81; rw [eqS, Bool.eq_iff_iff]; simp only [beq_iff_eq, decide_eq_true_eq]; rw [cmp_zero]; exact ⟨ba_ext, fun e => by rw [e]⟩
            -- done
        · try simp only [decide_eq_true_eq, decide_eq_false_iff_not, beq_iff_eq, bne_iff_ne, beq_eq_false_iff_ne, bne_eq_false_iff_eq, Bool.not_eq_true', Bool.not_eq_false', Bool.not_eq_true, ne_eq, Decidable.not_not] at g73
          exact absurd (cmp_anti _ _) g73
          -- done
    · try simp only [decide_eq_true_eq, decide_eq_false_iff_not, beq_iff_eq, bne_iff_ne, beq_eq_false_iff_ne, bne_eq_false_iff_eq, Bool.not_eq_true', Bool.not_eq_false', Bool.not_eq_true, ne_eq, Decidable.not_not] at g33
      refine OL.off rfl rfl ?_
      refine OL.off rfl rfl ?_
      refine OL.off rfl rfl ?_
      refine OL.det trivial (Yields.pure rfl) ?_
      refine OL.det trivial (Yields.pure rfl) ?_
      refine OL.off rfl rfl ?_
      refine OL.off rfl rfl ?_
      refine OL.det trivial (Yields.pure rfl) ?_
      refine OL.det trivial (Yields.pure rfl) ?_
      refine OL.off rfl rfl ?_
      refine OL.off rfl rfl ?_
      refine OL.det trivial (Yields.pure rfl) ?_
      refine OL.det trivial (Yields.pure rfl) ?_
      refine OL.off rfl rfl ?_
      refine OL.off rfl rfl ?_
      refine OL.off rfl rfl ?_
      refine OL.off rfl rfl ?_
      refine OL.det trivial (Yields.pure rfl) ?_
      refine OL.det trivial (Yields.pure rfl) ?_
      refine OL.off rfl rfl ?_
      refine OL.off rfl rfl ?_
      refine OL.off rfl rfl ?_
      refine OL.off rfl rfl ?_
      refine OL.det trivial (Yields.pure rfl) ?_
      refine OL.nil ?_
      refine PW.keep (T' := [(0, _), (1, _), (2, _), (57, _)]) ⟨rfl, rfl, rfl, rfl, trivial⟩ ?_
      refine PW.ite (b := false) rfl ?_
      rw [if_neg Bool.false_ne_true]
      refine PW.skip ?_
      refine hK4 _ _ ?_
      refine PW.keep (T' := [(0, _), (1, _), (2, _)]) ⟨rfl, rfl, rfl, trivial⟩ ?_
      refine PW.seqOps ?_
      refine OL.det trivial (Yields.pure rfl) ?_
      refine OL.det trivial (Yields.pure rfl) ?_
      refine OL.call trivial rfl (order_fc) ?_
      rintro _ Sx ⟨rfl, hSx⟩
      rw [hSx]
      clear hSx
      refine OL.det trivial (Yields.pure rfl) ?_
      refine OL.det trivial (Yields.pure rfl) ?_
      refine OL.call trivial rfl (order_fc) ?_
      rintro _ Sx ⟨rfl, hSx⟩
      rw [hSx]
      clear hSx
      refine OL.det trivial (Yields.pure rfl) ?_
      refine OL.det trivial (Yields.pure rfl) ?_
      refine OL.call trivial rfl (order_fc) ?_
      rintro _ Sx ⟨rfl, hSx⟩
      rw [hSx]
      clear hSx
      refine OL.det trivial (Yields.pure rfl) ?_
      refine OL.det trivial (Yields.pure rfl) ?_
      refine OL.det trivial (Yields.pure rfl) ?_
      refine OL.nil ?_
      refine PW.keep (T' := [(0, _), (1, _), (7, _), (8, _), (9, _)]) ⟨rfl, rfl, rfl, rfl, rfl, trivial⟩ ?_
      refine PW.seqOps ?_
      refine OL.det trivial (Yields.pure rfl) ?_
      refine OL.det trivial (Yields.pure rfl) ?_
      refine OL.call trivial rfl (order_fc) ?_
      rintro _ Sx ⟨rfl, hSx⟩
      rw [hSx]
      clear hSx
      refine OL.det trivial (Yields.pure rfl) ?_
      refine OL.det trivial (Yields.to (v' := .int .i64 (-Lib.compareBytes a.data.toList b.data.toList)) (Yields.neg rfl) (by have := cmp_range a.data.toList b.data.toList; rw [wrap_i64 (by omega) (by omega)]; congr 1; omega)) ?_
      refine OL.det trivial (Yields.pure rfl) ?_
      refine OL.bool trivial (Yields.pure rfl) (fun g73 => ?_) (fun g73 => ?_)
      · try simp only [decide_eq_true_eq, decide_eq_false_iff_not, beq_iff_eq, bne_iff_ne, beq_eq_false_iff_ne, bne_eq_false_iff_eq, Bool.not_eq_true', Bool.not_eq_false', Bool.not_eq_true, ne_eq, Decidable.not_not] at g73
        refine OL.det rfl (Yields.pure rfl) ?_
        refine OL.det rfl (Yields.pure rfl) ?_
        refine OL.det rfl (Yields.pure rfl) ?_
        refine OL.det rfl (Yields.pure rfl) ?_
        refine OL.det rfl (Yields.pure rfl) ?_
        refine OL.det rfl (Yields.pure rfl) ?_
        refine OL.det trivial (Yields.pure rfl) ?_
        refine OL.bool trivial (Yields.pure rfl) (fun g81 => ?_) (fun g81 => ?_)
        · try simp only [decide_eq_true_eq, decide_eq_false_iff_not, beq_iff_eq, bne_iff_ne, beq_eq_false_iff_ne, bne_eq_false_iff_eq, Bool.not_eq_true', Bool.not_eq_false', Bool.not_eq_true, ne_eq, Decidable.not_not] at g81
          refine OL.det rfl (Yields.pure rfl) ?_
          refine OL.det rfl (Yields.pure rfl) ?_
          refine OL.bool rfl (Yields.pure rfl) (fun g84 => ?_) (fun g84 => ?_)
          · try simp only [decide_eq_true_eq, decide_eq_false_iff_not, beq_iff_eq, bne_iff_ne, beq_eq_false_iff_ne, bne_eq_false_iff_eq, Bool.not_eq_true', Bool.not_eq_false', Bool.not_eq_true, ne_eq, Decidable.not_not] at g84
            refine OL.off rfl rfl ?_
            refine OL.off rfl rfl ?_
            refine OL.det rfl (Yields.pure rfl) ?_
            refine OL.det rfl (Yields.pure rfl) ?_
            refine OL.off rfl rfl ?_
            refine OL.off rfl rfl ?_
            refine OL.det rfl (Yields.pure rfl) ?_
            refine OL.det trivial (Yields.pure rfl) ?_
            refine OL.det trivial (Yields.pure rfl) ?_
            refine OL.call rfl rfl (works_fc) ?_
            rintro _ _ ⟨rfl, _⟩
            refine OL.det trivial (Yields.pure rfl) ?_
            refine OL.det trivial (Yields.pure rfl) ?_
            refine OL.nil ?_
            refine PW.keep (T' := [(6, _)]) ⟨rfl, trivial⟩ ?_
            refine PW.ret ?_
            change (Exit.ret = Exit.normal ∨ Exit.ret = Exit.ret) ∧ ∃ v, resV _ _ = some v ∧ _
            exact ⟨.inr rfl, _, rfl, rfl⟩
          · try simp only [decide_eq_true_eq, decide_eq_false_iff_not, beq_iff_eq, bne_iff_ne, beq_eq_false_iff_ne, bne_eq_false_iff_eq, Bool.not_eq_true', Bool.not_eq_false', Bool.not_eq_true, ne_eq, Decidable.not_not] at g84
            refine OL.det rfl (Yields.pure rfl) ?_
            refine OL.det rfl (Yields.pure rfl) ?_
            refine OL.det rfl (Yields.pure rfl) ?_
            refine OL.bool rfl (Yields.pure rfl) (fun g88 => ?_) (fun g88 => ?_)
            · try simp only [decide_eq_true_eq, decide_eq_false_iff_not, beq_iff_eq, bne_iff_ne, beq_eq_false_iff_ne, bne_eq_false_iff_eq, Bool.not_eq_true', Bool.not_eq_false', Bool.not_eq_true, ne_eq, Decidable.not_not] at g88
              refine OL.off rfl rfl ?_
              refine OL.off rfl rfl ?_
              refine OL.det rfl (Yields.pure rfl) ?_
              refine OL.det trivial (Yields.pure rfl) ?_
              refine OL.det trivial (Yields.pure rfl) ?_
              refine OL.call rfl rfl (works_fc) ?_
              rintro _ _ ⟨rfl, _⟩
              refine OL.det trivial (Yields.pure rfl) ?_
              refine OL.det trivial (Yields.pure rfl) ?_
              refine OL.nil ?_
              refine PW.keep (T' := [(6, _)]) ⟨rfl, trivial⟩ ?_
              refine PW.ret ?_
              change (Exit.ret = Exit.normal ∨ Exit.ret = Exit.ret) ∧ ∃ v, resV _ _ = some v ∧ _
              exact ⟨.inr rfl, _, rfl, rfl⟩
            · try simp only [decide_eq_true_eq, decide_eq_false_iff_not, beq_iff_eq, bne_iff_ne, beq_eq_false_iff_ne, bne_eq_false_iff_eq, Bool.not_eq_true', Bool.not_eq_false', Bool.not_eq_true, ne_eq, Decidable.not_not] at g88
              refine OL.det rfl (Yields.pure rfl) ?_
              refine OL.det rfl (Yields.pure rfl) ?_
              refine OL.det rfl (Yields.pure rfl) ?_
              refine OL.det trivial (Yields.pure rfl) ?_
              refine OL.bool trivial (Yields.pure rfl) (fun g93 => ?_) (fun g93 => ?_)
              · try simp only [decide_eq_true_eq, decide_eq_false_iff_not, beq_iff_eq, bne_iff_ne, beq_eq_false_iff_ne, bne_eq_false_iff_eq, Bool.not_eq_true', Bool.not_eq_false', Bool.not_eq_true, ne_eq, Decidable.not_not] at g93
                refine OL.call rfl rfl (works_fc) ?_
                rintro _ _ ⟨rfl, _⟩
                refine OL.det trivial (Yields.pure rfl) ?_
                refine OL.det trivial (Yields.pure rfl) ?_
                refine OL.nil ?_
                refine PW.keep (T' := [(6, _)]) ⟨rfl, trivial⟩ ?_
                refine PW.ret ?_
                change (Exit.ret = Exit.normal ∨ Exit.ret = Exit.ret) ∧ ∃ v, resV _ _ = some v ∧ _
                exact ⟨.inr rfl, _, rfl, rfl⟩
              · try simp only [decide_eq_true_eq, decide_eq_false_iff_not, beq_iff_eq, bne_iff_ne, beq_eq_false_iff_ne, bne_eq_false_iff_eq, Bool.not_eq_true', Bool.not_eq_false', Bool.not_eq_true, ne_eq, Decidable.not_not] at g93
                exact absurd (cmp_trans a.data.toList b.data.toList c.data.toList (by omega) (by omega)) (by omega)
                -- done
        · try simp only [decide_eq_true_eq, decide_eq_false_iff_not, beq_iff_eq, bne_iff_ne, beq_eq_false_iff_ne, bne_eq_false_iff_eq, Bool.not_eq_true', Bool.not_eq_false', Bool.not_eq_true, ne_eq, Decidable.not_not] at g81
          exfalso; apply g81; rw [eqS, Bool.eq_iff_iff]; simp only [beq_iff_eq, decide_eq_true_eq]; rw [cmp_zero]; exact ⟨ba_ext, fun e => by rw [e]⟩
          -- done
      · try simp only [decide_eq_true_eq, decide_eq_false_iff_not, beq_iff_eq, bne_iff_ne, beq_eq_false_iff_ne, bne_eq_false_iff_eq, Bool.not_eq_true', Bool.not_eq_false', Bool.not_eq_true, ne_eq, Decidable.not_not] at g73
        exact absurd (cmp_anti _ _) g73
        -- done

end Go.Proofs
