/- Walks and plain facts for the laws of this seat: what each function answers, for every input. -/
import Derived.Test.YtbidjnjbiibdeaaDoorPaW2
set_option linter.unusedVariables false
set_option linter.unusedSimpArgs false
namespace Go.Proofs
open Go.SL Go.RowKit
set_option maxHeartbeats 1000000

def resL (w0 : World) (ls : List ByteArray) (S : SS) (v : Value) (S' : SS) : Prop := ∃ A cap seg, v = .slice A ls.length cap ∧ S' = seg :: S ∧ ∀ S2, Rd w0 (seg :: S2) A (strs ls)
theorem setAt_mid (ds : List ByteArray) (x : ByteArray) (e : Value) (k : Nat) : setAt (strs ds ++ List.replicate (k + 1) e) ds.length (Value.string x).cells.toList = strs (ds ++ [x]) ++ List.replicate k e := by
  rw [show (Value.string x).cells.toList = [Value.string x] from rfl, setAt_eq _ _ _ (by simp [strs])]
  rw [List.take_left' (by simp [strs])]
  have e1 : ds.length + [Value.string x].length = (strs ds).length + 1 := by simp [strs]
  rw [e1, ← List.drop_drop, List.drop_left, List.replicate_succ]
  simp [strs]
theorem num_cons {p r : List UInt8} (h : ∀ b ∈ p, b ≠ 47) : Lib.countByte (p ++ 47 :: r) 47 = Lib.countByte r 47 + 1 := by
  unfold Lib.countByte
  rw [List.count_append, List.count_cons_self, List.count_eq_zero.2 (fun hm => h 47 hm rfl)]
  omega
theorem num_no {l : List UInt8} (h : ∀ b ∈ l, b ≠ 47) : Lib.countByte l 47 = 0 := List.count_eq_zero.2 (fun hm => h 47 hm rfl)
theorem num_le (s : ByteArray) : numP s ≤ s.size := by
  have : Lib.countByte s.data.toList 47 ≤ s.data.toList.length := List.count_le_length
  simpa [numP] using this
theorem no_of_num {s : ByteArray} (h : numP s = 0) : ∀ b ∈ s.data.toList, b ≠ 47 := fun b hb e => by
  subst e
  have := List.count_pos_iff.2 hb
  unfold numP Lib.countByte at h
  omega
def partsP (s : ByteArray) : List ByteArray := cutL s.data.toList
theorem parts_len (s : ByteArray) : (partsP s).length = numP s + 1 := cut_len _
theorem gen_fc {w0 : World} {S : SS} {s : ByteArray} (hs : s.size ≤ 1000000000) : FC Tryd.prog w0 91 [.string s, .string slB, .int .i64 0, .int .i64 (-1)] S (resL w0 (partsP s) S) := by
  have hnum := num_le s
  have hsl : slB.size = 1 := rfl
  refine FC.of Tryd.known91 (by simp) ?_
  unfold Tryd.pc91
  simp only [argT]
  refine PW.seqOps ?_
  refine OL.det trivial (Yields.pure rfl) ?_
  refine OL.nil ?_
  refine PW.keep (T' := [(0, _), (1, _), (2, _), (3, _)]) ⟨rfl, rfl, rfl, rfl, trivial⟩ ?_
  refine PW.seq fun K1 hK1 => ?_
  refine PW.seqOps ?_
  refine OL.det trivial (Yields.pure rfl) ?_
  refine OL.det trivial (Yields.pure rfl) ?_
  refine OL.nil ?_
  refine PW.keep (T' := [(0, _), (1, _), (2, _), (3, _), (13, _)]) ⟨rfl, rfl, rfl, rfl, rfl, trivial⟩ ?_
  refine PW.cond rfl (fun c13 => ?_) (fun c13 => ?_)
  · try simp only [decide_eq_true_eq, decide_eq_false_iff_not, beq_iff_eq, bne_iff_ne, beq_eq_false_iff_ne, bne_eq_false_iff_eq, Bool.not_eq_true', Bool.not_eq_false', Bool.not_eq_true, ne_eq, Decidable.not_not] at c13
    exfalso; revert c13; decide
    -- done
  · try simp only [decide_eq_true_eq, decide_eq_false_iff_not, beq_iff_eq, bne_iff_ne, beq_eq_false_iff_ne, bne_eq_false_iff_eq, Bool.not_eq_true', Bool.not_eq_false', Bool.not_eq_true, ne_eq, Decidable.not_not] at c13
    refine PW.skip ?_
    refine hK1 _ _ ?_
    refine PW.keep (T' := [(0, _), (1, _), (2, _), (3, _)]) ⟨rfl, rfl, rfl, rfl, trivial⟩ ?_
    refine PW.seq fun K2 hK2 => ?_
    refine PW.seqOps ?_
    refine OL.det trivial (Yields.pure rfl) ?_
    refine OL.det trivial (Yields.pure rfl) ?_
    refine OL.nil ?_
    refine PW.keep (T' := [(0, _), (1, _), (2, _), (3, _), (15, _)]) ⟨rfl, rfl, rfl, rfl, rfl, trivial⟩ ?_
    refine PW.cond rfl (fun c15 => ?_) (fun c15 => ?_)
    · try simp only [decide_eq_true_eq, decide_eq_false_iff_not, beq_iff_eq, bne_iff_ne, beq_eq_false_iff_ne, bne_eq_false_iff_eq, Bool.not_eq_true', Bool.not_eq_false', Bool.not_eq_true, ne_eq, Decidable.not_not] at c15
      exfalso; have c := toL_inj.1 c15; revert c; decide
      -- done
    · try simp only [decide_eq_true_eq, decide_eq_false_iff_not, beq_iff_eq, bne_iff_ne, beq_eq_false_iff_ne, bne_eq_false_iff_eq, Bool.not_eq_true', Bool.not_eq_false', Bool.not_eq_true, ne_eq, Decidable.not_not] at c15
      refine PW.skip ?_
      refine hK2 _ _ ?_
      refine PW.keep (T' := [(0, _), (1, _), (2, _), (3, _)]) ⟨rfl, rfl, rfl, rfl, trivial⟩ ?_
      refine PW.seq fun K3 hK3 => ?_
      refine PW.seqOps ?_
      refine OL.det trivial (Yields.pure rfl) ?_
      refine OL.det trivial (Yields.pure rfl) ?_
      refine OL.nil ?_
      refine PW.keep (T' := [(0, _), (1, _), (2, _), (3, _), (20, _)]) ⟨rfl, rfl, rfl, rfl, rfl, trivial⟩ ?_
      refine PW.cond rfl (fun c20 => ?_) (fun c20 => ?_)
      · try simp only [decide_eq_true_eq, decide_eq_false_iff_not, beq_iff_eq, bne_iff_ne, beq_eq_false_iff_ne, bne_eq_false_iff_eq, Bool.not_eq_true', Bool.not_eq_false', Bool.not_eq_true, ne_eq, Decidable.not_not] at c20
        refine PW.ops ?_
        refine OL.det trivial (Yields.pure rfl) ?_
        refine OL.det trivial (Yields.pure rfl) ?_
        refine OL.call trivial rfl (count_fc) ?_
        rintro _ Sx ⟨rfl, hSx⟩
        rw [hSx]
        clear hSx
        refine OL.det trivial (Yields.add64 rfl rfl (by omega) (by omega)) ?_
        refine OL.det trivial (Yields.pure rfl) ?_
        refine OL.nil ?_
        refine hK3 _ _ ?_
        refine PW.keep (T' := [(0, _), (1, _), (2, _), (3, _)]) ⟨rfl, rfl, rfl, rfl, trivial⟩ ?_
        refine PW.seqOps ?_
        refine OL.det trivial (Yields.pure rfl) ?_
        refine OL.det trivial (Yields.pure rfl) ?_
        refine OL.det trivial (Yields.pure rfl) ?_
        refine OL.det trivial (Yields.add64 rfl rfl (by omega) (by omega)) ?_
        refine OL.det trivial (Yields.to (v' := .int .i64 ((numP s + 1 : Nat) : Int)) (Yields.pure rfl) (by congr 1; simp only [Bool.false_eq_true, if_false]; split <;> omega)) ?_
        refine OL.det trivial (Yields.pure rfl) ?_
        refine OL.nil ?_
        refine PW.keep (T' := [(0, _), (1, _), (2, _), (3, _)]) ⟨rfl, rfl, rfl, rfl, trivial⟩ ?_
        refine PW.seqOps ?_
        refine OL.det trivial (Yields.pure rfl) ?_
        refine OL.cons trivial (OW.mkS_full (m := numP s + 1) rfl rfl (by omega) (by unfold maxLen; omega)) ?_
        rintro _ _ ⟨r9, rfl, rfl⟩
        rw [made1 _ rfl]
        refine OL.det trivial (Yields.pure rfl) ?_
        refine OL.nil ?_
        refine PW.keep (T' := [(0, _), (1, _), (2, _), (3, _), (9, _)]) ⟨rfl, rfl, rfl, rfl, rfl, trivial⟩ ?_
        refine PW.seqOps ?_
        refine OL.det trivial (Yields.pure rfl) ?_
        refine OL.det trivial (Yields.to (v' := .int .i64 (numP s : Int)) (Yields.sub64 rfl rfl (by omega) (by omega)) (by congr 1; omega)) ?_
        refine OL.det trivial (Yields.pure rfl) ?_
        refine OL.nil ?_
        refine PW.keep (T' := [(0, _), (1, _), (2, _), (3, _), (9, _)]) ⟨rfl, rfl, rfl, rfl, rfl, trivial⟩ ?_
        refine PW.seqOps ?_
        refine OL.det trivial (Yields.pure rfl) ?_
        refine OL.nil ?_
        refine PW.keep (T' := [(0, _), (1, _), (2, _), (3, _), (9, _), (10, _)]) ⟨rfl, rfl, rfl, rfl, rfl, rfl, trivial⟩ ?_
        refine PW.seq fun K4 hK4 => ?_
        refine PW.block ?_
        refine PW.keep (T' := [(0, _), (1, _), (2, _), (3, _), (9, _), (10, _)]) ⟨rfl, rfl, rfl, rfl, rfl, rfl, trivial⟩ ?_
        refine PW.loopK (I := fun m T S' => ∃ (t : ByteArray) (ds : List ByteArray), (cutL s.data.toList = ds ++ cutL t.data.toList ∧ ds.length + numP t = numP s ∧ t.size ≤ s.size ∧ m = numP t) ∧ T = ([(0, .string t), (1, .string slB), (2, .int .i64 0), (3, .int .i64 (numP s : Int)), (9, .slice (some ⟨r9, 0, none⟩) (numP s + 1) (numP s + 1)), (10, .int .i64 (ds.length : Int))] : TT) ∧ S' = [(r9, .cells (strs ds ++ List.replicate (numP t + 1) (.string ⟨#[]⟩)) 9 ((numP s + 1) * 1))] :: S) (m := numP s) ⟨s, [], ⟨rfl, by simp, by omega, rfl⟩, rfl, rfl⟩ ?_
        rintro m _ _ ⟨t, ds, ⟨hcut, hdn, hts, hm⟩, rfl, rfl⟩
        refine PW.seq fun K5 hK5 => ?_
        refine PW.seqOps ?_
        refine OL.det trivial (Yields.pure rfl) ?_
        refine OL.det trivial (Yields.pure rfl) ?_
        refine OL.det trivial (Yields.pure rfl) ?_
        refine OL.nil ?_
        refine PW.keep (T' := [(0, _), (1, _), (2, _), (3, _), (9, _), (10, _), (36, _)]) ⟨rfl, rfl, rfl, rfl, rfl, rfl, rfl, trivial⟩ ?_
        refine PW.cond rfl (fun c36 => ?_) (fun c36 => ?_)
        · try simp only [decide_eq_true_eq, decide_eq_false_iff_not, beq_iff_eq, bne_iff_ne, beq_eq_false_iff_ne, bne_eq_false_iff_eq, Bool.not_eq_true', Bool.not_eq_false', Bool.not_eq_true, ne_eq, Decidable.not_not] at c36
          refine PW.skip ?_
          refine hK5 _ _ ?_
          refine PW.keep (T' := [(0, _), (1, _), (2, _), (3, _), (9, _), (10, _)]) ⟨rfl, rfl, rfl, rfl, rfl, rfl, trivial⟩ ?_
          refine PW.block ?_
          refine PW.seqOps ?_
          refine OL.det trivial (Yields.pure rfl) ?_
          refine OL.det trivial (Yields.pure rfl) ?_
          refine OL.call trivial rfl (sindex_fc) ?_
          rintro _ _ ⟨rfl, rfl⟩
          refine OL.det trivial (Yields.pure rfl) ?_
          refine OL.nil ?_
          refine PW.keep (T' := [(0, _), (1, _), (2, _), (3, _), (9, _), (10, _), (11, _)]) ⟨rfl, rfl, rfl, rfl, rfl, rfl, rfl, trivial⟩ ?_
          refine PW.seq fun K6 hK6 => ?_
          refine PW.seqOps ?_
          refine OL.det trivial (Yields.pure rfl) ?_
          refine OL.det trivial (Yields.pure rfl) ?_
          refine OL.nil ?_
          refine PW.keep (T' := [(0, _), (1, _), (2, _), (3, _), (9, _), (10, _), (11, _), (41, _)]) ⟨rfl, rfl, rfl, rfl, rfl, rfl, rfl, rfl, trivial⟩ ?_
          refine PW.cond rfl (fun c41 => ?_) (fun c41 => ?_)
          · try simp only [decide_eq_true_eq, decide_eq_false_iff_not, beq_iff_eq, bne_iff_ne, beq_eq_false_iff_ne, bne_eq_false_iff_eq, Bool.not_eq_true', Bool.not_eq_false', Bool.not_eq_true, ne_eq, Decidable.not_not] at c41
            exfalso; have := num_no ((idx_spec t).2 (by omega)); unfold numP at *; omega
            -- done
          · try simp only [decide_eq_true_eq, decide_eq_false_iff_not, beq_iff_eq, bne_iff_ne, beq_eq_false_iff_ne, bne_eq_false_iff_eq, Bool.not_eq_true', Bool.not_eq_false', Bool.not_eq_true, ne_eq, Decidable.not_not] at c41
            obtain ⟨p, r, ht, hp, hi⟩ := (idx_spec t).1 (by omega)
            have htl : t.size = p.length + 1 + r.length := by have := congrArg List.length ht; simp at this; omega
            have hnt : numP t = Lib.countByte r 47 + 1 := by unfold numP; rw [ht]; exact num_cons hp
            have hex : t.extract 0 p.length = ⟨p.toArray⟩ := ba_ext (by rw [ext_list, ht]; simp)
            have hex2 : (t.extract (p.length + 1) t.size).data.toList = r := by
              rw [ext_list, ht, htl, show p ++ 47 :: r = (p ++ [47]) ++ r by simp, List.take_of_length_le (by simp; omega), List.drop_left' (by simp)]
            refine PW.skip ?_
            refine hK6 _ _ ?_
            refine PW.keep (T' := [(0, _), (1, _), (2, _), (3, _), (9, _), (10, _), (11, _)]) ⟨rfl, rfl, rfl, rfl, rfl, rfl, rfl, trivial⟩ ?_
            refine PW.seqOps ?_
            refine OL.det trivial (Yields.pure rfl) ?_
            refine OL.det trivial (Yields.pure rfl) ?_
            refine OL.det trivial (Yields.pure rfl) ?_
            refine OL.det trivial (Yields.pure rfl) ?_
            refine OL.det trivial (Yields.pure rfl) ?_
            refine OL.det trivial (Yields.to (v' := .int .i64 (p.length : Int)) (Yields.add64 rfl rfl (by omega) (by omega)) (by congr 1; omega)) ?_
            refine OL.det trivial (Yields.slStr (s := t) (l := 0) (h := p.length) rfl rfl rfl (.inr ⟨rfl, rfl⟩) (.inl rfl) (by omega) (by omega)) ?_
            refine OL.det trivial (Yields.to (v' := .pointer (some ⟨r9, ds.length, none⟩)) (Yields.ixN1 rfl rfl rfl (by omega)) (by rw [add_own])) ?_
            refine OL.cons trivial (OW.st (k := 0) (u := .string (t.extract 0 p.length)) rfl rfl rfl rfl (by simp [strs]) rfl) ?_
            rintro _ _ rfl
            rw [setAt_mid]
            refine OL.nil ?_
            refine PW.keep (T' := [(0, _), (1, _), (2, _), (3, _), (9, _), (10, _), (11, _)]) ⟨rfl, rfl, rfl, rfl, rfl, rfl, rfl, trivial⟩ ?_
            refine PW.seqOps ?_
            refine OL.det trivial (Yields.pure rfl) ?_
            refine OL.det trivial (Yields.pure rfl) ?_
            refine OL.det trivial (Yields.pure rfl) ?_
            refine OL.det trivial (Yields.pure rfl) ?_
            refine OL.det trivial (Yields.to (v' := .int .i64 ((p.length + 1 : Nat) : Int)) (Yields.add64 rfl rfl (by rw [hsl]; omega) (by rw [hsl]; omega)) (by congr 1; rw [hsl]; omega)) ?_
            refine OL.det trivial (Yields.slStr (s := t) (l := p.length + 1) (h := t.size) rfl rfl rfl (.inl rfl) (.inr ⟨rfl, rfl⟩) (by omega) (by omega)) ?_
            refine OL.det trivial (Yields.pure rfl) ?_
            refine OL.nil ?_
            refine PW.keep (T' := [(0, _), (1, _), (2, _), (3, _), (9, _), (10, _)]) ⟨rfl, rfl, rfl, rfl, rfl, rfl, trivial⟩ ?_
            refine PW.ops ?_
            refine OL.det trivial (Yields.pure rfl) ?_
            refine OL.det trivial (Yields.add64 rfl rfl (by omega) (by omega)) ?_
            refine OL.det trivial (Yields.pure rfl) ?_
            refine OL.nil ?_
            repeat rw [inBlk_n]
            rw [thenK_n]
            refine LoopEnd.mk (T'' := [(0, _), (1, _), (2, _), (3, _), (9, _), (10, _)]) ⟨rfl, rfl, rfl, rfl, rfl, rfl, trivial⟩ ?_
            have e3 : numP (t.extract (p.length + 1) t.size) + 1 = numP t := by unfold numP; rw [hex2, ht, num_cons hp]
            refine ⟨numP (t.extract (p.length + 1) t.size), by omega, t.extract (p.length + 1) t.size, ds ++ [t.extract 0 p.length], ⟨?_, by simp; omega, by simp; omega, rfl⟩, by simp, ?_⟩
            · rw [hcut, ht, cut_cons p r hp, hex2, hex]; simp
            · rw [e3]; rfl
        · try simp only [decide_eq_true_eq, decide_eq_false_iff_not, beq_iff_eq, bne_iff_ne, beq_eq_false_iff_ne, bne_eq_false_iff_eq, Bool.not_eq_true', Bool.not_eq_false', Bool.not_eq_true, ne_eq, Decidable.not_not] at c36
          refine PW.exit ?_
          refine hK4 _ _ ?_
          refine PW.keep (T' := [(0, _), (9, _), (10, _)]) ⟨rfl, rfl, rfl, trivial⟩ ?_
          refine PW.seqOps ?_
          have hz : numP t = 0 := by omega
          rw [hz]
          refine OL.det trivial (Yields.pure rfl) ?_
          refine OL.det trivial (Yields.pure rfl) ?_
          refine OL.det trivial (Yields.pure rfl) ?_
          refine OL.det trivial (Yields.to (v' := .pointer (some ⟨r9, ds.length, none⟩)) (Yields.ixN1 rfl rfl rfl (by omega)) (by rw [add_own])) ?_
          refine OL.cons trivial (OW.st (k := 0) (u := .string t) rfl rfl rfl rfl (by simp [strs]) rfl) ?_
          rintro _ _ rfl
          rw [setAt_mid, List.replicate_zero, List.append_nil]
          refine OL.nil ?_
          refine PW.keep (T' := [(9, _), (10, _)]) ⟨rfl, rfl, trivial⟩ ?_
          refine PW.seqOps ?_
          refine OL.det trivial (Yields.pure rfl) ?_
          refine OL.det trivial (Yields.pure rfl) ?_
          refine OL.det trivial (Yields.to (v' := .int .i64 ((ds.length + 1 : Nat) : Int)) (Yields.add64 rfl rfl (by omega) (by omega)) (by congr 1)) ?_
          refine OL.det trivial (Yields.slS (l := 0) (h := ds.length + 1) rfl rfl rfl (.inr ⟨rfl, rfl⟩) (.inl rfl) (by omega) (by omega)) ?_
          rw [cutV0]
          refine OL.det trivial (Yields.pure rfl) ?_
          refine OL.nil ?_
          refine PW.keep (T' := [(8, _)]) ⟨rfl, trivial⟩ ?_
          refine PW.ret ?_
          change (Exit.ret = Exit.normal ∨ Exit.ret = Exit.ret) ∧ ∃ v, resV _ _ = some v ∧ _
          have he : partsP s = ds ++ [t] := by
            unfold partsP
            rw [hcut, cut_no _ (no_of_num hz)]
          have hlen : (partsP s).length = ds.length + 1 := by rw [he]; simp
          exact ⟨.inr rfl, _, rfl, some ⟨r9, 0, none⟩, numP s + 1, _, by rw [hlen], rfl, fun S2 => by
            rw [he]
            exact (Rd.own (xs := strs (ds ++ [t])) (E := 9) (tot := (numP s + 1) * 1) (by simp))⟩
      · try simp only [decide_eq_true_eq, decide_eq_false_iff_not, beq_iff_eq, bne_iff_ne, beq_eq_false_iff_ne, bne_eq_false_iff_eq, Bool.not_eq_true', Bool.not_eq_false', Bool.not_eq_true, ne_eq, Decidable.not_not] at c20
        exfalso; revert c20; decide
        -- done
theorem split_fc {w0 : World} {S : SS} {s : ByteArray} (hs : s.size ≤ 1000000000) : FC Tryd.prog w0 64 [.string s, .string slB] S (resL w0 (partsP s) S) := by
  refine FC.of Tryd.known64 (by simp) ?_
  unfold Tryd.pc64
  simp only [argT]
  refine PW.seqOps ?_
  refine OL.det trivial (Yields.pure rfl) ?_
  refine OL.nil ?_
  refine PW.keep (T' := [(0, _), (1, _)]) ⟨rfl, rfl, trivial⟩ ?_
  refine PW.seqOps ?_
  refine OL.det trivial (Yields.pure rfl) ?_
  refine OL.det trivial (Yields.pure rfl) ?_
  refine OL.call trivial rfl (gen_fc hs) ?_
  rintro _ _ ⟨A, cap, seg, rfl, rfl, hrd⟩
  refine OL.det trivial (Yields.pure rfl) ?_
  refine OL.nil ?_
  refine PW.keep (T' := [(4, _)]) ⟨rfl, trivial⟩ ?_
  refine PW.ret ?_
  change (Exit.ret = Exit.normal ∨ Exit.ret = Exit.ret) ∧ ∃ v, resV _ _ = some v ∧ _
  exact ⟨.inr rfl, _, rfl, A, cap, seg, rfl, rfl, hrd⟩

end Go.Proofs
