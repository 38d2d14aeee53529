/- Walks and plain facts for the laws of this seat: what each function answers, for every input. -/
import Derived.Test.YtefefmogjmimdaaSl8
import Derived.Test.YtefefmogjmimdaaMyPc
set_option linter.unusedVariables false
set_option linter.unusedSimpArgs false
namespace Go.Proofs
open Go.SL Go.RowKit

theorem str_at {w0 : World} {S : SS} {a : Addr} {xs : List ByteArray} (h : Rd w0 S (some a) (xs.map .string)) {k : Nat} (hk : k < xs.length) : Cell w0 S (a.add k) (.string xs[k]) := h.at (by simp [hk])
theorem bytes_ext {a b : ByteArray} (h : a.toList = b.toList) : a = b := by
  rw [← Go.MapKept.bytes_beq, beq_toListBytes]; simp [h]
theorem strs_ne {xs : List ByteArray} (h : 0 < xs.length) : xs.map Value.string ≠ [] := by intro e; simp at e; subst e; simp at h
set_option maxHeartbeats 1000000
theorem same_fc {w0 : World} {S : SS} {A B : Option Addr} {ca cb : Nat} {xs ys : List ByteArray} (hx : Rd w0 S A (xs.map .string)) (hy : Rd w0 S B (ys.map .string)) (hb : xs.length ≤ 1000000000000) :
    FC Try.prog w0 13 [.slice A xs.length ca, .slice B ys.length cb] S (fun v S' => v = .bool (decide (xs = ys)) ∧ S' = S) := by
  refine FC.of Try.known13 (by simp) ?_
  unfold Try.pc13
  simp only [argT]
  refine PW.seqOps ?_
  refine OL.det trivial (Yields.pure rfl) ?_
  refine OL.nil ?_
  refine PW.keep (T' := [(0, _), (1, _)]) ⟨rfl, rfl, trivial⟩ ?_
  refine PW.seq fun K1 hK1 => ?_
  refine PW.seqOps ?_
  refine OL.det trivial (Yields.pure rfl) ?_
  refine OL.det trivial (Yields.pure rfl) ?_
  refine OL.det trivial (Yields.pure rfl) ?_
  refine OL.det trivial (Yields.pure rfl) ?_
  refine OL.det trivial (Yields.pure rfl) ?_
  refine OL.nil ?_
  refine PW.keep (T' := [(0, _), (1, _), (10, _)]) ⟨rfl, rfl, rfl, trivial⟩ ?_
  refine PW.cond rfl (fun c10 => ?_) (fun c10 => ?_)
  · try simp only [decide_eq_true_eq, decide_eq_false_iff_not, beq_iff_eq, bne_iff_ne, beq_eq_false_iff_ne, bne_eq_false_iff_eq, Bool.not_eq_true', Bool.not_eq_false', Bool.not_eq_true, ne_eq, Decidable.not_not] at c10
    refine PW.seqOps ?_
    refine OL.det trivial (Yields.pure rfl) ?_
    refine OL.nil ?_
    refine PW.keep (T' := [(4, _)]) ⟨rfl, trivial⟩ ?_
    refine PW.ret ?_
    change (Exit.ret = Exit.normal ∨ Exit.ret = Exit.ret) ∧ ∃ v, resV _ _ = some v ∧ _
    exact ⟨.inr rfl, _, rfl, by rw [decide_eq_false]; intro h; subst h; omega, rfl⟩
  · try simp only [decide_eq_true_eq, decide_eq_false_iff_not, beq_iff_eq, bne_iff_ne, beq_eq_false_iff_ne, bne_eq_false_iff_eq, Bool.not_eq_true', Bool.not_eq_false', Bool.not_eq_true, ne_eq, Decidable.not_not] at c10
    refine PW.skip ?_
    refine hK1 _ _ ?_
    refine PW.keep (T' := [(0, _), (1, _)]) ⟨rfl, rfl, trivial⟩ ?_
    refine PW.seq fun K2 hK2 => ?_
    refine PW.seqOps ?_
    refine OL.det trivial (Yields.pure rfl) ?_
    refine OL.nil ?_
    refine PW.keep (T' := [(0, _), (1, _), (5, _)]) ⟨rfl, rfl, rfl, trivial⟩ ?_
    refine PW.block ?_
    refine PW.keep (T' := [(0, _), (1, _), (5, _)]) ⟨rfl, rfl, rfl, trivial⟩ ?_
    refine PW.loopK (I := fun m T S' => ∃ k : Nat, (k ≤ xs.length ∧ m = xs.length - k ∧ (∀ j (h1 : j < xs.length) (h2 : j < ys.length), j < k → xs[j].toList = ys[j].toList)) ∧ T = ([(0, .slice A xs.length ca), (1, .slice B ys.length cb), (5, .int .i64 k)] : TT) ∧ S' = S) (m := xs.length) ⟨0, ⟨by omega, by omega, fun j _ _ h => by omega⟩, rfl, rfl⟩ ?_
    rintro m _ _ ⟨k, ⟨hk, hm, hj⟩, rfl, rfl⟩
    refine PW.seq fun K3 hK3 => ?_
    refine PW.seqOps ?_
    refine OL.det trivial (Yields.pure rfl) ?_
    refine OL.det trivial (Yields.pure rfl) ?_
    refine OL.det trivial (Yields.pure rfl) ?_
    refine OL.det trivial (Yields.pure rfl) ?_
    refine OL.nil ?_
    refine PW.keep (T' := [(0, _), (1, _), (5, _), (14, _)]) ⟨rfl, rfl, rfl, rfl, trivial⟩ ?_
    refine PW.cond rfl (fun c14 => ?_) (fun c14 => ?_)
    · try simp only [decide_eq_true_eq, decide_eq_false_iff_not, beq_iff_eq, bne_iff_ne, beq_eq_false_iff_ne, bne_eq_false_iff_eq, Bool.not_eq_true', Bool.not_eq_false', Bool.not_eq_true, ne_eq, Decidable.not_not] at c14
      obtain ⟨a, rfl⟩ := hx.some (strs_ne (by omega))
      obtain ⟨b, rfl⟩ := hy.some (strs_ne (by omega))
      have hly : k < ys.length := by omega
      refine PW.skip ?_
      refine hK3 _ _ ?_
      refine PW.keep (T' := [(0, _), (1, _), (5, _)]) ⟨rfl, rfl, rfl, trivial⟩ ?_
      refine PW.seq fun K4 hK4 => ?_
      refine PW.block ?_
      refine PW.seq fun K5 hK5 => ?_
      refine PW.quietK Try.mixed ?_
      refine QK.det trivial (Yields.pure rfl) ?_
      refine QK.det trivial (Yields.pure rfl) ?_
      refine QK.det trivial (Yields.ixN1 rfl rfl rfl (by omega)) ?_
      refine QK.det trivial (Yields.ld rfl (str_at hx (by omega))) ?_
      refine QK.det trivial (Yields.pure rfl) ?_
      refine QK.det trivial (Yields.pure rfl) ?_
      refine QK.det trivial (Yields.ixN1 rfl rfl rfl (by omega)) ?_
      refine QK.det trivial (Yields.ld rfl (str_at hy (by omega))) ?_
      refine QK.nil ?_
      change OL _ _ _ [_] _ _ _
      refine OL.det trivial (Yields.pure rfl) ?_
      refine OL.nil ?_
      refine hK5 _ _ ?_
      refine PW.keep (T' := [(0, _), (1, _), (5, _), (25, _)]) ⟨rfl, rfl, rfl, rfl, trivial⟩ ?_
      refine PW.cond rfl (fun c25 => ?_) (fun c25 => ?_)
      · try simp only [decide_eq_true_eq, decide_eq_false_iff_not, beq_iff_eq, bne_iff_ne, beq_eq_false_iff_ne, bne_eq_false_iff_eq, Bool.not_eq_true', Bool.not_eq_false', Bool.not_eq_true, ne_eq, Decidable.not_not] at c25
        refine PW.seqOps ?_
        refine OL.det trivial (Yields.pure rfl) ?_
        refine OL.nil ?_
        refine PW.keep (T' := [(4, _)]) ⟨rfl, trivial⟩ ?_
        refine PW.ret ?_
        change (Exit.ret = Exit.normal ∨ Exit.ret = Exit.ret) ∧ ∃ v, resV _ _ = some v ∧ _
        exact ⟨.inr rfl, _, rfl, by rw [decide_eq_false]; intro h; subst h; exact c25 rfl, rfl⟩
      · try simp only [decide_eq_true_eq, decide_eq_false_iff_not, beq_iff_eq, bne_iff_ne, beq_eq_false_iff_ne, bne_eq_false_iff_eq, Bool.not_eq_true', Bool.not_eq_false', Bool.not_eq_true, ne_eq, Decidable.not_not] at c25
        refine PW.skip ?_
        refine hK4 _ _ ?_
        refine PW.keep (T' := [(0, _), (1, _), (5, _)]) ⟨rfl, rfl, rfl, trivial⟩ ?_
        refine PW.ops ?_
        refine OL.det trivial (Yields.pure rfl) ?_
        refine OL.det trivial (Yields.add64 rfl rfl (by omega) (by omega)) ?_
        refine OL.det trivial (Yields.pure rfl) ?_
        refine OL.nil ?_
        repeat rw [inBlk_n]
        rw [thenK_n]
        refine LoopEnd.mk (T'' := [(0, _), (1, _), (5, _)]) ⟨rfl, rfl, rfl, trivial⟩ ?_
        refine ⟨xs.length - (k + 1), by omega, k + 1, ⟨by omega, rfl, fun j h1 h2 h => ?_⟩, rfl, rfl⟩
        by_cases e : j = k
        · subst e; exact c25
        · exact hj j h1 h2 (by omega)
    · try simp only [decide_eq_true_eq, decide_eq_false_iff_not, beq_iff_eq, bne_iff_ne, beq_eq_false_iff_ne, bne_eq_false_iff_eq, Bool.not_eq_true', Bool.not_eq_false', Bool.not_eq_true, ne_eq, Decidable.not_not] at c14
      refine PW.exit ?_
      refine hK2 _ _ ?_
      refine PW.keep (T' := []) trivial ?_
      refine PW.seqOps ?_
      refine OL.det trivial (Yields.pure rfl) ?_
      refine OL.nil ?_
      refine PW.keep (T' := [(4, _)]) ⟨rfl, trivial⟩ ?_
      refine PW.ret ?_
      change (Exit.ret = Exit.normal ∨ Exit.ret = Exit.ret) ∧ ∃ v, resV _ _ = some v ∧ _
      have hl : xs.length = ys.length := by omega
      exact ⟨.inr rfl, _, rfl, by
        rw [decide_eq_true]
        exact List.ext_getElem hl fun j h1 h2 => bytes_ext (hj j h1 h2 (by omega)), rfl⟩

def cutF (xs : List ByteArray) : List ByteArray := (xs.take 60).map fun s => s.extract 0 (min s.size 40)
theorem cutF_succ {xs : List ByteArray} {k : Nat} (h : k < xs.length) (h2 : k < 60) : cutF (xs.take (k + 1)) = cutF (xs.take k) ++ [xs[k].extract 0 (min xs[k].size 40)] := by
  unfold cutF
  simp only [List.take_take]
  rw [show min 60 (k + 1) = k + 1 by omega, show min 60 k = k by omega, List.take_add_one, List.getElem?_eq_getElem h]
  simp only [Option.toList_some, List.map_append, List.map_cons, List.map_nil]
theorem cutF_stop {xs : List ByteArray} {k : Nat} (h : k ≤ xs.length) (h2 : k ≤ 60) (h3 : ¬ (k < xs.length ∧ k < 60)) : cutF (xs.take k) = cutF xs := by
  unfold cutF
  rw [List.take_take]
  by_cases e : k = 60
  · subst e; simp
  · have : xs.length = k := by omega
    rw [List.take_of_length_le (by omega), List.take_of_length_le (l := xs) (i := 60) (by omega)]
theorem cutF_length {xs : List ByteArray} : (cutF xs).length = min 60 xs.length := by simp [cutF]
theorem cut_fc {w0 : World} {S : SS} {A : Option Addr} {ca : Nat} {xs : List ByteArray} (hx : Rd w0 S A (xs.map .string)) (hb : xs.length ≤ 1000000000000000) (hs : ∀ s ∈ xs, s.size ≤ 9223372036854775807) :
    FC Try.prog w0 8 [.slice A xs.length ca] S (fun v S' => ∃ seg, S' = seg :: S ∧ SlV 9 1 v (cutF xs).length ((cutF xs).map .string) seg) := by
  refine FC.of Try.known8 (by simp) ?_
  unfold Try.pc8
  simp only [argT]
  refine PW.nilseg ?_
  refine PW.seqOps ?_
  refine OL.det trivial (Yields.pure rfl) ?_
  refine OL.nil ?_
  refine PW.keep (T' := [(0, _)]) ⟨rfl, trivial⟩ ?_
  refine PW.seqOps ?_
  refine OL.det trivial (Yields.pure rfl) ?_
  refine OL.nil ?_
  refine PW.keep (T' := [(0, _), (3, _)]) ⟨rfl, rfl, trivial⟩ ?_
  refine PW.seq fun K1 hK1 => ?_
  refine PW.seqOps ?_
  refine OL.det trivial (Yields.pure rfl) ?_
  refine OL.nil ?_
  refine PW.keep (T' := [(0, _), (3, _), (4, _)]) ⟨rfl, rfl, rfl, trivial⟩ ?_
  refine PW.block ?_
  refine PW.keep (T' := [(0, _), (3, _), (4, _)]) ⟨rfl, rfl, rfl, trivial⟩ ?_
  refine PW.loopK (I := fun m T S' => ∃ (k : Nat) (v : Value) (seg : Seg), (k ≤ xs.length ∧ k ≤ 60 ∧ m = xs.length - k ∧ SlV 9 1 v (cutF (xs.take k)).length ((cutF (xs.take k)).map .string) seg) ∧ T = ([(0, .slice A xs.length ca), (3, v), (4, .int .i64 k)] : TT) ∧ S' = seg :: S) (m := xs.length) ⟨0, _, [], ⟨by omega, by omega, by omega, by simpa [cutF] using SlV.nil 9 1⟩, rfl, rfl⟩ ?_
  rintro m _ _ ⟨k, v, seg, ⟨hk, hk2, hm, hsl⟩, rfl, rfl⟩
  refine PW.seq fun K2 hK2 => ?_
  refine PW.seqOps ?_
  refine OL.det trivial (Yields.pure rfl) ?_
  refine OL.det trivial (Yields.pure rfl) ?_
  refine OL.det trivial (Yields.pure rfl) ?_
  refine OL.bool trivial (Yields.pure rfl) (fun g8 => ?_) (fun g8 => ?_)
  · try simp only [decide_eq_true_eq, decide_eq_false_iff_not, beq_iff_eq, bne_iff_ne, beq_eq_false_iff_ne, bne_eq_false_iff_eq, Bool.not_eq_true', Bool.not_eq_false', Bool.not_eq_true, ne_eq, Decidable.not_not] at g8
    have hlt : k < xs.length := by omega
    obtain ⟨a, rfl⟩ := hx.some (strs_ne (by omega))
    have hsz := hs xs[k] (by simp)
    refine OL.det trivial (Yields.pure rfl) ?_
    refine OL.det rfl (Yields.pure rfl) ?_
    refine OL.bool rfl (Yields.pure rfl) (fun g11 => ?_) (fun g11 => ?_)
    · try simp only [decide_eq_true_eq, decide_eq_false_iff_not, beq_iff_eq, bne_iff_ne, beq_eq_false_iff_ne, bne_eq_false_iff_eq, Bool.not_eq_true', Bool.not_eq_false', Bool.not_eq_true, ne_eq, Decidable.not_not] at g11
      refine OL.det trivial (Yields.pure rfl) ?_
      refine OL.nil ?_
      refine PW.keep (T' := [(0, _), (3, _), (4, _), (12, _)]) ⟨rfl, rfl, rfl, rfl, trivial⟩ ?_
      refine PW.ite (b := true) rfl ?_
      rw [if_pos rfl]
      refine PW.skip ?_
      refine hK2 _ _ ?_
      refine PW.keep (T' := [(0, _), (3, _), (4, _)]) ⟨rfl, rfl, rfl, trivial⟩ ?_
      refine PW.seq fun K3 hK3 => ?_
      refine PW.block ?_
      refine PW.quietK Try.mixed ?_
      refine QK.det trivial (Yields.pure rfl) ?_
      refine QK.det trivial (Yields.pure rfl) ?_
      refine QK.det trivial (Yields.pure rfl) ?_
      refine QK.det trivial (Yields.ixN1 rfl rfl rfl (by omega)) ?_
      refine QK.det trivial (Yields.ld rfl ((str_at hx hlt).mono (fun p hp => by simp [hp]))) ?_
      refine QK.det trivial (Yields.pure rfl) ?_
      refine QK.det trivial (Yields.pure rfl) ?_
      refine QK.det trivial (Yields.ixN1 rfl rfl rfl (by omega)) ?_
      refine QK.det trivial (Yields.ld rfl ((str_at hx hlt).mono (fun p hp => by simp [hp]))) ?_
      refine QK.det trivial (Yields.pure rfl) ?_
      refine QK.det trivial (Yields.pure rfl) ?_
      refine QK.nil ?_
      change OL _ _ _ [_, _, _, _] _ _ _
      refine OL.det trivial (Yields.slStr (l := 0) (h := min xs[k].size 40) rfl rfl rfl (.inr ⟨rfl, rfl⟩) (.inl (congrArg some (by simp only [Bool.false_eq_true, if_false]; split <;> omega))) (by omega) (by omega)) ?_
      apply OL.app1 (k := 0)
      · rfl
      · rfl
      · rfl
      · rfl
      · rfl
      · rfl
      · exact hsl
      · rfl
      · rw [cutF_length]; simp; omega
      · unfold maxLen; rw [cutF_length]; simp; omega
      intro v28 seg28 hsl28
      refine OL.det trivial (Yields.pure rfl) ?_
      refine OL.nil ?_
      refine hK3 _ _ ?_
      refine PW.keep (T' := [(0, _), (3, _), (4, _)]) ⟨rfl, rfl, rfl, trivial⟩ ?_
      refine PW.ops ?_
      refine OL.det trivial (Yields.pure rfl) ?_
      refine OL.det trivial (Yields.add64 rfl rfl (by omega) (by omega)) ?_
      refine OL.det trivial (Yields.pure rfl) ?_
      refine OL.nil ?_
      repeat rw [inBlk_n]
      rw [thenK_n]
      refine LoopEnd.mk (T'' := [(0, _), (3, _), (4, _)]) ⟨rfl, rfl, rfl, trivial⟩ ?_
      refine ⟨xs.length - (k + 1), by omega, k + 1, _, _, ⟨by omega, by omega, rfl, ?_⟩, rfl, rfl⟩
      rw [cutF_succ hlt (by omega), List.length_append, List.map_append]
      exact hsl28
    · try simp only [decide_eq_true_eq, decide_eq_false_iff_not, beq_iff_eq, bne_iff_ne, beq_eq_false_iff_ne, bne_eq_false_iff_eq, Bool.not_eq_true', Bool.not_eq_false', Bool.not_eq_true, ne_eq, Decidable.not_not] at g11
      refine OL.det trivial (Yields.pure rfl) ?_
      refine OL.nil ?_
      refine PW.keep (T' := [(0, _), (3, _), (4, _), (12, _)]) ⟨rfl, rfl, rfl, rfl, trivial⟩ ?_
      refine PW.ite (b := false) rfl ?_
      rw [if_neg Bool.false_ne_true]
      refine PW.exit ?_
      refine hK1 _ _ ?_
      refine PW.keep (T' := [(3, _)]) ⟨rfl, trivial⟩ ?_
      refine PW.seqOps ?_
      refine OL.det trivial (Yields.pure rfl) ?_
      refine OL.det trivial (Yields.pure rfl) ?_
      refine OL.nil ?_
      refine PW.keep (T' := [(2, _)]) ⟨rfl, trivial⟩ ?_
      refine PW.ret ?_
      change (Exit.ret = Exit.normal ∨ Exit.ret = Exit.ret) ∧ ∃ v, resV _ _ = some v ∧ _
      exact ⟨.inr rfl, _, rfl, seg, rfl, by rw [← cutF_stop hk hk2 (by omega)]; exact hsl⟩
  · try simp only [decide_eq_true_eq, decide_eq_false_iff_not, beq_iff_eq, bne_iff_ne, beq_eq_false_iff_ne, bne_eq_false_iff_eq, Bool.not_eq_true', Bool.not_eq_false', Bool.not_eq_true, ne_eq, Decidable.not_not] at g8
    refine OL.det trivial (Yields.pure rfl) ?_
    refine OL.off rfl rfl ?_
    refine OL.off rfl rfl ?_
    refine OL.det trivial (Yields.pure rfl) ?_
    refine OL.nil ?_
    refine PW.keep (T' := [(0, _), (3, _), (4, _), (12, _)]) ⟨rfl, rfl, rfl, rfl, trivial⟩ ?_
    refine PW.ite (b := false) rfl ?_
    rw [if_neg Bool.false_ne_true]
    refine PW.exit ?_
    refine hK1 _ _ ?_
    refine PW.keep (T' := [(3, _)]) ⟨rfl, trivial⟩ ?_
    refine PW.seqOps ?_
    refine OL.det trivial (Yields.pure rfl) ?_
    refine OL.det trivial (Yields.pure rfl) ?_
    refine OL.nil ?_
    refine PW.keep (T' := [(2, _)]) ⟨rfl, trivial⟩ ?_
    refine PW.ret ?_
    change (Exit.ret = Exit.normal ∨ Exit.ret = Exit.ret) ∧ ∃ v, resV _ _ = some v ∧ _
    exact ⟨.inr rfl, _, rfl, seg, rfl, by rw [← cutF_stop hk hk2 (by omega)]; exact hsl⟩

end Go.Proofs
