/- Walks and plain facts for the laws of this seat: what each function answers, for every input. -/
import Derived.Test.YtefefmogjmimdaaSl8
import Derived.Test.YtefefmogjmimdaaMyW
set_option linter.unusedVariables false
set_option linter.unusedSimpArgs false
namespace Go.Proofs
open Go.SL Go.RowKit

set_option maxHeartbeats 1000000
/-- a step of a script as cells -/
def stC (t : Int × Int × Int) : List Value := [.int .i64 t.1, .int .i64 t.2.1, .int .i64 t.2.2]
def stsC (l : List (Int × Int × Int)) : List Value := l.flatMap stC
theorem stsC_length (l : List (Int × Int × Int)) : (stsC l).length = l.length * 3 := by
  induction l with
  | nil => rfl
  | cons x l ih => simp only [stsC, List.flatMap_cons, List.length_append] at ih ⊢; rw [ih]; simp [stC]; omega
theorem stsC_append (l r : List (Int × Int × Int)) : stsC (l ++ r) = stsC l ++ stsC r := by simp [stsC]
theorem stsC_get {l : List (Int × Int × Int)} {k : Nat} (h : k < l.length) (j : Nat) (hj : j < 3) : (stsC l)[k * 3 + j]? = (stC l[k])[j]? := by
  induction l generalizing k with
  | nil => simp at h
  | cons x l ih =>
    cases k with
    | zero =>
      simp only [stsC, List.flatMap_cons, Nat.zero_mul, Nat.zero_add, List.getElem_cons_zero]
      rw [List.getElem?_append_left (by simp [stC]; omega)]
    | succ k =>
      simp only [stsC, List.flatMap_cons]
      rw [List.getElem?_append_right (by simp [stC]; omega)]
      have := ih (k := k) (by simpa using h)
      simp only [stsC] at this
      rw [show (k + 1) * 3 + j - (stC x).length = k * 3 + j by simp [stC]; omega, this]
      simp
theorem st_at {w0 : World} {S : SS} {a : Addr} {l : List (Int × Int × Int)} (h : Rd w0 S (some a) (stsC l)) {k : Nat} (hk : k < l.length) (j : Nat) (hj : j < 3) {v : Value} (hv : (stC l[k])[j]? = some v) : Cell w0 S ((a.add (k * 3)).add j) v := by
  rw [addr_add_add]
  exact h.at (by rw [stsC_get hk j hj, hv])
theorem stsC_ne {l : List (Int × Int × Int)} (h : 0 < l.length) : stsC l ≠ [] := by
  intro e; have := congrArg List.length e; rw [stsC_length] at this; simp only [List.length_nil] at this; omega
theorem steps_fc {w0 : World} {S : SS} {A : Option Addr} {ca : Nat} {l : List (Int × Int × Int)} (hx : Rd w0 S A (stsC l)) (hb : l.length ≤ 4000000000) :
    FC Try.prog w0 11 [.slice A l.length ca] S (fun v S' => ∃ seg, S' = seg :: S ∧ SlV 33 3 v l.length (stsC l) seg) := by
  refine FC.of Try.known11 (by simp) ?_
  unfold Try.pc11
  simp only [argT]
  refine PW.nilseg ?_
  refine PW.seqOps ?_
  refine OL.det trivial (Yields.pure rfl) ?_
  refine OL.nil ?_
  refine PW.keep (T' := [(0, _)]) ⟨rfl, trivial⟩ ?_
  refine PW.seqOps ?_
  refine OL.det trivial (Yields.pure rfl) ?_
  refine OL.nil ?_
  refine PW.keep (T' := [(0, _), (3, _)]) ⟨rfl, rfl, trivial⟩ ?_
  refine PW.seq fun K1 hK1 => ?_
  refine PW.seqOps ?_
  refine OL.det trivial (Yields.pure rfl) ?_
  refine OL.nil ?_
  refine PW.keep (T' := [(0, _), (3, _), (4, _)]) ⟨rfl, rfl, rfl, trivial⟩ ?_
  refine PW.block ?_
  refine PW.keep (T' := [(0, _), (3, _), (4, _)]) ⟨rfl, rfl, rfl, trivial⟩ ?_
  refine PW.loopK (I := fun m T S' => ∃ (k : Nat) (v : Value) (seg : Seg), (k ≤ l.length ∧ m = l.length - k ∧ SlV 33 3 v k (stsC (l.take k)) seg) ∧ T = ([(0, .slice A l.length ca), (3, v), (4, .int .i64 k)] : TT) ∧ S' = seg :: S) (m := l.length) ⟨0, _, [], ⟨by omega, by omega, by simpa [stsC] using SlV.nil 33 3⟩, rfl, rfl⟩ ?_
  rintro m _ _ ⟨k, v, seg, ⟨hk, hm, hsl⟩, rfl, rfl⟩
  refine PW.seq fun K2 hK2 => ?_
  refine PW.seqOps ?_
  refine OL.det trivial (Yields.pure rfl) ?_
  refine OL.det trivial (Yields.pure rfl) ?_
  refine OL.det trivial (Yields.pure rfl) ?_
  refine OL.det trivial (Yields.pure rfl) ?_
  refine OL.nil ?_
  refine PW.keep (T' := [(0, _), (3, _), (4, _), (8, _)]) ⟨rfl, rfl, rfl, rfl, trivial⟩ ?_
  refine PW.cond rfl (fun c8 => ?_) (fun c8 => ?_)
  · try simp only [decide_eq_true_eq, decide_eq_false_iff_not, beq_iff_eq, bne_iff_ne, beq_eq_false_iff_ne, bne_eq_false_iff_eq, Bool.not_eq_true', Bool.not_eq_false', Bool.not_eq_true, ne_eq, Decidable.not_not] at c8
    have hlt : k < l.length := by omega
    obtain ⟨a, rfl⟩ := hx.some (stsC_ne (by omega))
    have hx2 : Rd w0 (seg :: S) (some a) (stsC l) := hx.cons
    refine PW.skip ?_
    refine hK2 _ _ ?_
    refine PW.keep (T' := [(0, _), (3, _), (4, _)]) ⟨rfl, rfl, rfl, trivial⟩ ?_
    refine PW.seq fun K3 hK3 => ?_
    refine PW.block ?_
    refine PW.quietK Try.mixed ?_
    refine QK.det trivial (Yields.pure rfl) ?_
    refine QK.det trivial (Yields.pure rfl) ?_
    refine QK.det trivial (Yields.pure rfl) ?_
    refine QK.det trivial (Yields.ixN rfl rfl rfl (by omega)) ?_
    refine QK.det trivial (Yields.pure rfl) ?_
    refine QK.det trivial (Yields.ld rfl (by simpa using st_at hx2 hlt 0 (by omega) rfl)) ?_
    refine QK.det trivial (Yields.pure rfl) ?_
    refine QK.det trivial (Yields.pure rfl) ?_
    refine QK.det trivial (Yields.ixN rfl rfl rfl (by omega)) ?_
    refine QK.det trivial (Yields.pure rfl) ?_
    refine QK.det trivial (Yields.ld rfl (st_at hx2 hlt 1 (by omega) rfl)) ?_
    refine QK.det trivial (Yields.pure rfl) ?_
    refine QK.det trivial (Yields.pure rfl) ?_
    refine QK.det trivial (Yields.ixN rfl rfl rfl (by omega)) ?_
    refine QK.det trivial (Yields.pure rfl) ?_
    refine QK.det trivial (Yields.ld rfl (st_at hx2 hlt 2 (by omega) rfl)) ?_
    refine QK.nil ?_
    change OL _ _ _ [_, _, _, _] _ _ _
    refine OL.det trivial (Yields.build rfl) ?_
    apply OL.app1 (k := 0)
    · rfl
    · rfl
    · rfl
    · rfl
    · rfl
    · rfl
    · exact hsl
    · rfl
    · omega
    · unfold maxLen; omega
    intro v29 seg29 hsl29
    refine OL.det trivial (Yields.pure rfl) ?_
    refine OL.nil ?_
    refine hK3 _ _ ?_
    refine PW.keep (T' := [(0, _), (3, _), (4, _)]) ⟨rfl, rfl, rfl, trivial⟩ ?_
    refine PW.ops ?_
    refine OL.det trivial (Yields.pure rfl) ?_
    refine OL.det trivial (Yields.add64 rfl rfl (by omega) (by omega)) ?_
    refine OL.det trivial (Yields.pure rfl) ?_
    refine OL.nil ?_
    repeat rw [inBlk_n]
    rw [thenK_n]
    refine LoopEnd.mk (T'' := [(0, _), (3, _), (4, _)]) ⟨rfl, rfl, rfl, trivial⟩ ?_
    refine ⟨l.length - (k + 1), by omega, k + 1, _, _, ⟨by omega, rfl, ?_⟩, rfl, rfl⟩
    rw [List.take_add_one, List.getElem?_eq_getElem hlt, stsC_append]
    exact hsl29
  · try simp only [decide_eq_true_eq, decide_eq_false_iff_not, beq_iff_eq, bne_iff_ne, beq_eq_false_iff_ne, bne_eq_false_iff_eq, Bool.not_eq_true', Bool.not_eq_false', Bool.not_eq_true, ne_eq, Decidable.not_not] at c8
    refine PW.exit ?_
    refine hK1 _ _ ?_
    refine PW.keep (T' := [(3, _)]) ⟨rfl, trivial⟩ ?_
    refine PW.seqOps ?_
    refine OL.det trivial (Yields.pure rfl) ?_
    refine OL.det trivial (Yields.pure rfl) ?_
    refine OL.nil ?_
    refine PW.keep (T' := [(2, _)]) ⟨rfl, trivial⟩ ?_
    refine PW.ret ?_
    change (Exit.ret = Exit.normal ∨ Exit.ret = Exit.ret) ∧ ∃ v, resV _ _ = some v ∧ _
    obtain rfl : k = l.length := by omega
    exact ⟨.inr rfl, _, rfl, seg, rfl, by simpa using hsl⟩

def keptF (l : List (Int × Int × Int)) : Nat := (l.filter fun t => t.1 == 0).length
theorem keptF_succ {l : List (Int × Int × Int)} {k : Nat} (h : k < l.length) : keptF (l.take (k + 1)) = keptF (l.take k) + if l[k].1 = 0 then 1 else 0 := by
  unfold keptF
  rw [List.take_add_one, List.getElem?_eq_getElem h]
  simp only [Option.toList_some, List.filter_append, List.length_append]
  by_cases e : l[k].1 = 0 <;> simp [List.filter_cons, e]
theorem keptF_le (l : List (Int × Int × Int)) : keptF l ≤ l.length := List.length_filter_le _ _
theorem kept_fc {w0 : World} {S : SS} {A : Option Addr} {ca : Nat} {l : List (Int × Int × Int)} (hx : Rd w0 S A (stsC l)) (hb : l.length ≤ 4000000000) :
    FC Try.prog w0 17 [.slice A l.length ca] S (fun v S' => v = .int .i64 (keptF l) ∧ S' = S) := by
  refine FC.of Try.known17 (by simp) ?_
  unfold Try.pc17
  simp only [argT]
  refine PW.seqOps ?_
  refine OL.det trivial (Yields.pure rfl) ?_
  refine OL.nil ?_
  refine PW.keep (T' := [(0, _)]) ⟨rfl, trivial⟩ ?_
  refine PW.seqOps ?_
  refine OL.det trivial (Yields.pure rfl) ?_
  refine OL.nil ?_
  refine PW.keep (T' := [(0, _), (3, _)]) ⟨rfl, rfl, trivial⟩ ?_
  refine PW.seq fun K1 hK1 => ?_
  refine PW.seqOps ?_
  refine OL.det trivial (Yields.pure rfl) ?_
  refine OL.nil ?_
  refine PW.keep (T' := [(0, _), (3, _), (4, _)]) ⟨rfl, rfl, rfl, trivial⟩ ?_
  refine PW.block ?_
  refine PW.keep (T' := [(0, _), (3, _), (4, _)]) ⟨rfl, rfl, rfl, trivial⟩ ?_
  refine PW.loopK (I := fun m T S' => ∃ (k : Nat), (k ≤ l.length ∧ m = l.length - k) ∧ T = ([(0, .slice A l.length ca), (3, .int .i64 (keptF (l.take k))), (4, .int .i64 k)] : TT) ∧ S' = S) (m := l.length) ⟨0, ⟨by omega, by omega⟩, rfl, rfl⟩ ?_
  rintro m _ _ ⟨k, ⟨hk, hm⟩, rfl, rfl⟩
  refine PW.seq fun K2 hK2 => ?_
  refine PW.seqOps ?_
  refine OL.det trivial (Yields.pure rfl) ?_
  refine OL.det trivial (Yields.pure rfl) ?_
  refine OL.det trivial (Yields.pure rfl) ?_
  refine OL.det trivial (Yields.pure rfl) ?_
  refine OL.nil ?_
  refine PW.keep (T' := [(0, _), (3, _), (4, _), (8, _)]) ⟨rfl, rfl, rfl, rfl, trivial⟩ ?_
  refine PW.cond rfl (fun c8 => ?_) (fun c8 => ?_)
  · try simp only [decide_eq_true_eq, decide_eq_false_iff_not, beq_iff_eq, bne_iff_ne, beq_eq_false_iff_ne, bne_eq_false_iff_eq, Bool.not_eq_true', Bool.not_eq_false', Bool.not_eq_true, ne_eq, Decidable.not_not] at c8
    have hlt : k < l.length := by omega
    obtain ⟨a, rfl⟩ := hx.some (stsC_ne (by omega))
    have hle := keptF_le (l.take k)
    have hle2 : (l.take k).length ≤ k := by simp; omega
    refine PW.skip ?_
    refine hK2 _ _ ?_
    refine PW.keep (T' := [(0, _), (3, _), (4, _)]) ⟨rfl, rfl, rfl, trivial⟩ ?_
    refine PW.seq fun K3 hK3 => ?_
    refine PW.block ?_
    refine PW.seqOps ?_
    refine OL.det trivial (Yields.pure rfl) ?_
    refine OL.det trivial (Yields.pure rfl) ?_
    refine OL.det trivial (Yields.ixN rfl rfl rfl (by omega)) ?_
    refine OL.det trivial (Yields.pure rfl) ?_
    refine OL.det trivial (Yields.ld rfl (by simpa using st_at hx hlt 0 (by omega) rfl)) ?_
    refine OL.det trivial (Yields.pure rfl) ?_
    refine OL.nil ?_
    refine PW.keep (T' := [(0, _), (3, _), (4, _), (16, _)]) ⟨rfl, rfl, rfl, rfl, trivial⟩ ?_
    refine PW.cond rfl (fun c16 => ?_) (fun c16 => ?_)
    · try simp only [decide_eq_true_eq, decide_eq_false_iff_not, beq_iff_eq, bne_iff_ne, beq_eq_false_iff_ne, bne_eq_false_iff_eq, Bool.not_eq_true', Bool.not_eq_false', Bool.not_eq_true, ne_eq, Decidable.not_not] at c16
      refine PW.ops ?_
      refine OL.det trivial (Yields.pure rfl) ?_
      refine OL.det trivial (Yields.add64 rfl rfl (by omega) (by omega)) ?_
      refine OL.det trivial (Yields.pure rfl) ?_
      refine OL.nil ?_
      refine hK3 _ _ ?_
      refine PW.keep (T' := [(0, _), (3, _), (4, _)]) ⟨rfl, rfl, rfl, trivial⟩ ?_
      refine PW.ops ?_
      refine OL.det trivial (Yields.pure rfl) ?_
      refine OL.det trivial (Yields.add64 rfl rfl (by omega) (by omega)) ?_
      refine OL.det trivial (Yields.pure rfl) ?_
      refine OL.nil ?_
      repeat rw [inBlk_n]
      rw [thenK_n]
      refine LoopEnd.mk (T'' := [(0, _), (3, _), (4, _)]) ⟨rfl, rfl, rfl, trivial⟩ ?_
      refine ⟨l.length - (k + 1), by omega, k + 1, ⟨by omega, rfl⟩, ?_, rfl⟩
      rw [keptF_succ hlt]
      first | (rw [if_pos c16]; rfl) | (rw [if_neg c16]; rfl)
    · try simp only [decide_eq_true_eq, decide_eq_false_iff_not, beq_iff_eq, bne_iff_ne, beq_eq_false_iff_ne, bne_eq_false_iff_eq, Bool.not_eq_true', Bool.not_eq_false', Bool.not_eq_true, ne_eq, Decidable.not_not] at c16
      refine PW.skip ?_
      refine hK3 _ _ ?_
      refine PW.keep (T' := [(0, _), (3, _), (4, _)]) ⟨rfl, rfl, rfl, trivial⟩ ?_
      refine PW.ops ?_
      refine OL.det trivial (Yields.pure rfl) ?_
      refine OL.det trivial (Yields.add64 rfl rfl (by omega) (by omega)) ?_
      refine OL.det trivial (Yields.pure rfl) ?_
      refine OL.nil ?_
      repeat rw [inBlk_n]
      rw [thenK_n]
      refine LoopEnd.mk (T'' := [(0, _), (3, _), (4, _)]) ⟨rfl, rfl, rfl, trivial⟩ ?_
      refine ⟨l.length - (k + 1), by omega, k + 1, ⟨by omega, rfl⟩, ?_, rfl⟩
      rw [keptF_succ hlt]
      first | (rw [if_pos c16]; rfl) | (rw [if_neg c16]; rfl)
  · try simp only [decide_eq_true_eq, decide_eq_false_iff_not, beq_iff_eq, bne_iff_ne, beq_eq_false_iff_ne, bne_eq_false_iff_eq, Bool.not_eq_true', Bool.not_eq_false', Bool.not_eq_true, ne_eq, Decidable.not_not] at c8
    refine PW.exit ?_
    refine hK1 _ _ ?_
    refine PW.keep (T' := [(3, _)]) ⟨rfl, trivial⟩ ?_
    refine PW.seqOps ?_
    refine OL.det trivial (Yields.pure rfl) ?_
    refine OL.det trivial (Yields.pure rfl) ?_
    refine OL.nil ?_
    refine PW.keep (T' := [(2, _)]) ⟨rfl, trivial⟩ ?_
    refine PW.ret ?_
    change (Exit.ret = Exit.normal ∨ Exit.ret = Exit.ret) ∧ ∃ v, resV _ _ = some v ∧ _
    obtain rfl : k = l.length := by omega
    exact ⟨.inr rfl, _, rfl, by rw [List.take_length], rfl⟩

end Go.Proofs
