/- Walks and plain facts for the laws of this seat: what each function answers, for every input. -/
import Derived.Test.YtbidjnjbiibdeaaDoorLbSo
import Derived.Test.YtbidjnjbiibdeaaDoorSl23
set_option linter.unusedVariables false
set_option linter.unusedSimpArgs false
namespace Go.Proofs
open Go.SL Go.RowKit
set_option maxHeartbeats 1000000

def labs (l : List LabB) : List Value := l.flatMap labC
theorem labs_len (l : List LabB) : (labs l).length = l.length * 2 := by
  unfold labs
  rw [List.length_flatMap]
  simp [labC_len, List.map_const']
theorem labs_one (l : List LabB) : (labs l).all (·.oneCell') = true := by
  rw [List.all_eq_true]
  intro v hv
  obtain ⟨a, _, h⟩ := List.mem_flatMap.1 hv
  simp [labC] at h
  rcases h with rfl | rfl <;> rfl
theorem labs_get {l : List LabB} {k : Nat} (hk : k < l.length) {j : Nat} (hj : j < 2) : (labs l)[k * 2 + j]? = (labC l[k])[j]? := by
  unfold labs
  rw [flat_get labC_len l (k * 2 + j) (by omega), show (k * 2 + j) / 2 = k from by omega, show (k * 2 + j) % 2 = j from by omega, getElem!_pos l k hk]
theorem labs_at {w0 : World} {S : SS} {a : Addr} {l : List LabB} (h : Rd w0 S (some a) (labs l)) {k : Nat} (hk : k < l.length) :
    ∀ (j : Nat) (v : Value), [Value.int .i64 l[k].1, .int .u64 (l[k].2.toNat : Int)][j]? = some v → Cell w0 S ((a.add (k * 2)).add j) v := by
  intro j v hj
  have hj2 : j < 2 := by have := (List.getElem?_eq_some_iff.1 hj).1; simpa using this
  rw [addr_add_add]
  exact h.at (by rw [labs_get hk hj2]; exact hj)
theorem labs_some {w0 : World} {S : SS} {A : Option Addr} {l : List LabB} (h : Rd w0 S A (labs l)) (hk : 0 < l.length) : ∃ a, A = some a :=
  h.some (fun e => by have := labs_len l; rw [e] at this; simp at this; omega)
theorem take_eq {α : Type} {l l' : List α} {k : Nat} (hk : k < l.length) (hk' : k < l'.length) (h : l.take k = l'.take k) (he : l[k] = l'[k]) : l.take (k + 1) = l'.take (k + 1) := by
  rw [List.take_add_one, List.take_add_one, h, List.getElem?_eq_getElem hk, List.getElem?_eq_getElem hk', he]
theorem same_fc {w0 : World} {S : SS} {A B : Option Addr} {cA cB : Nat} {l l' : List LabB} (hx : Rd w0 S A (labs l)) (hy : Rd w0 S B (labs l')) (hb : l.length ≤ 1000000000000) (hb' : l'.length ≤ 1000000000000) :
    FC Tryd.prog w0 51 [.slice A l.length cA, .slice B l'.length cB] S (fun v S' => v = .bool (decide (l = l')) ∧ S' = S) := by
  refine FC.of Tryd.known51 (by simp) ?_
  unfold Tryd.pc51
  simp only [argT]
  refine PW.seqOps ?_
  refine OL.det trivial (Yields.pure rfl) ?_
  refine OL.nil ?_
  refine PW.keep (T' := [(0, _), (1, _)]) ⟨rfl, rfl, trivial⟩ ?_
  refine PW.seq fun K1 hK1 => ?_
  refine PW.seqOps ?_
  refine OL.det trivial (Yields.pure rfl) ?_
  refine OL.det trivial (Yields.pure rfl) ?_
  refine OL.det trivial (Yields.pure rfl) ?_
  refine OL.det trivial (Yields.pure rfl) ?_
  refine OL.det trivial (Yields.pure rfl) ?_
  refine OL.nil ?_
  refine PW.keep (T' := [(0, _), (1, _), (10, _)]) ⟨rfl, rfl, rfl, trivial⟩ ?_
  refine PW.cond rfl (fun c10 => ?_) (fun c10 => ?_)
  · try simp only [decide_eq_true_eq, decide_eq_false_iff_not, beq_iff_eq, bne_iff_ne, beq_eq_false_iff_ne, bne_eq_false_iff_eq, Bool.not_eq_true', Bool.not_eq_false', Bool.not_eq_true, ne_eq, Decidable.not_not] at c10
    refine PW.seqOps ?_
    refine OL.det trivial (Yields.pure rfl) ?_
    refine OL.nil ?_
    refine PW.keep (T' := [(4, _)]) ⟨rfl, trivial⟩ ?_
    refine PW.ret ?_
    change (Exit.ret = Exit.normal ∨ Exit.ret = Exit.ret) ∧ ∃ v, resV _ _ = some v ∧ _
    exact ⟨.inr rfl, _, rfl, by rw [decide_eq_false]; intro e; subst e; omega, rfl⟩
  · try simp only [decide_eq_true_eq, decide_eq_false_iff_not, beq_iff_eq, bne_iff_ne, beq_eq_false_iff_ne, bne_eq_false_iff_eq, Bool.not_eq_true', Bool.not_eq_false', Bool.not_eq_true, ne_eq, Decidable.not_not] at c10
    refine PW.skip ?_
    refine hK1 _ _ ?_
    refine PW.keep (T' := [(0, _), (1, _)]) ⟨rfl, rfl, trivial⟩ ?_
    refine PW.seq fun K2 hK2 => ?_
    refine PW.seqOps ?_
    refine OL.det trivial (Yields.pure rfl) ?_
    refine OL.nil ?_
    refine PW.keep (T' := [(0, _), (1, _), (5, _)]) ⟨rfl, rfl, rfl, trivial⟩ ?_
    refine PW.block ?_
    refine PW.keep (T' := [(0, _), (1, _), (5, _)]) ⟨rfl, rfl, rfl, trivial⟩ ?_
    refine PW.loopK (I := fun m T S' => ∃ (k : Nat), (k ≤ l.length ∧ m = l.length - k ∧ l.take k = l'.take k) ∧ T = ([(0, .slice A l.length cA), (1, (.slice B l'.length cB)), (5, .int .i64 k)] : TT) ∧ S' = S) (m := l.length) ⟨0, ⟨by omega, by omega, rfl⟩, rfl, rfl⟩ ?_
    rintro m _ _ ⟨k, ⟨hk, hm, ht⟩, rfl, rfl⟩
    refine PW.seq fun K3 hK3 => ?_
    refine PW.seqOps ?_
    refine OL.det trivial (Yields.pure rfl) ?_
    refine OL.det trivial (Yields.pure rfl) ?_
    refine OL.det trivial (Yields.pure rfl) ?_
    refine OL.det trivial (Yields.pure rfl) ?_
    refine OL.nil ?_
    refine PW.keep (T' := [(0, _), (1, _), (5, _), (14, _)]) ⟨rfl, rfl, rfl, rfl, trivial⟩ ?_
    refine PW.cond rfl (fun c14 => ?_) (fun c14 => ?_)
    · try simp only [decide_eq_true_eq, decide_eq_false_iff_not, beq_iff_eq, bne_iff_ne, beq_eq_false_iff_ne, bne_eq_false_iff_eq, Bool.not_eq_true', Bool.not_eq_false', Bool.not_eq_true, ne_eq, Decidable.not_not] at c14
      have hkl : k < l.length := by omega
      have hkl' : k < l'.length := by omega
      obtain ⟨a0, rfl⟩ := labs_some hx (by omega)
      obtain ⟨b0, rfl⟩ := labs_some hy (by omega)
      refine PW.skip ?_
      refine hK3 _ _ ?_
      refine PW.keep (T' := [(0, _), (1, _), (5, _)]) ⟨rfl, rfl, rfl, trivial⟩ ?_
      refine PW.seq fun K4 hK4 => ?_
      refine PW.block ?_
      refine PW.seq fun K5 hK5 => ?_
      refine PW.quietK Tryd.mixed ?_
      refine QK.det trivial (Yields.pure rfl) ?_
      refine QK.det trivial (Yields.pure rfl) ?_
      refine QK.det trivial (Yields.ixN rfl rfl rfl (by omega)) ?_
      refine QK.det trivial (Yields.ldA rfl rfl (labs_at hx hkl)) ?_
      refine QK.det trivial (Yields.pure rfl) ?_
      refine QK.det trivial (Yields.pure rfl) ?_
      refine QK.det trivial (Yields.ixN rfl rfl rfl (by omega)) ?_
      refine QK.det trivial (Yields.ldA rfl rfl (labs_at hy hkl')) ?_
      refine QK.nil ?_
      change OL _ _ _ [_] _ _ _
      refine OL.det trivial (Yields.eqA rfl rfl (eq_lab (l[k]) (l'[k]))) ?_
      refine OL.nil ?_
      refine hK5 _ _ ?_
      refine PW.keep (T' := [(0, _), (1, _), (5, _), (25, _)]) ⟨rfl, rfl, rfl, rfl, trivial⟩ ?_
      refine PW.cond rfl (fun c25 => ?_) (fun c25 => ?_)
      · try simp only [decide_eq_true_eq, decide_eq_false_iff_not, beq_iff_eq, bne_iff_ne, beq_eq_false_iff_ne, bne_eq_false_iff_eq, Bool.not_eq_true', Bool.not_eq_false', Bool.not_eq_true, ne_eq, Decidable.not_not] at c25
        refine PW.seqOps ?_
        refine OL.det trivial (Yields.pure rfl) ?_
        refine OL.nil ?_
        refine PW.keep (T' := [(4, _)]) ⟨rfl, trivial⟩ ?_
        refine PW.ret ?_
        change (Exit.ret = Exit.normal ∨ Exit.ret = Exit.ret) ∧ ∃ v, resV _ _ = some v ∧ _
        exact ⟨.inr rfl, _, rfl, by rw [decide_eq_false]; intro e; subst e; simp at c25, rfl⟩
      · try simp only [decide_eq_true_eq, decide_eq_false_iff_not, beq_iff_eq, bne_iff_ne, beq_eq_false_iff_ne, bne_eq_false_iff_eq, Bool.not_eq_true', Bool.not_eq_false', Bool.not_eq_true, ne_eq, Decidable.not_not] at c25
        refine PW.skip ?_
        refine hK4 _ _ ?_
        refine PW.keep (T' := [(0, _), (1, _), (5, _)]) ⟨rfl, rfl, rfl, trivial⟩ ?_
        refine PW.ops ?_
        refine OL.det trivial (Yields.pure rfl) ?_
        refine OL.det trivial (Yields.add64 rfl rfl (by omega) (by omega)) ?_
        refine OL.det trivial (Yields.pure rfl) ?_
        refine OL.nil ?_
        repeat rw [inBlk_n]
        rw [thenK_n]
        refine LoopEnd.mk (T'' := [(0, _), (1, _), (5, _)]) ⟨rfl, rfl, rfl, trivial⟩ ?_
        refine ⟨l.length - (k + 1), by omega, k + 1, ⟨by omega, rfl, take_eq hkl hkl' ht (by simpa using c25)⟩, rfl, rfl⟩
    · try simp only [decide_eq_true_eq, decide_eq_false_iff_not, beq_iff_eq, bne_iff_ne, beq_eq_false_iff_ne, bne_eq_false_iff_eq, Bool.not_eq_true', Bool.not_eq_false', Bool.not_eq_true, ne_eq, Decidable.not_not] at c14
      refine PW.exit ?_
      refine hK2 _ _ ?_
      refine PW.keep (T' := []) trivial ?_
      refine PW.seqOps ?_
      refine OL.det trivial (Yields.pure rfl) ?_
      refine OL.nil ?_
      refine PW.keep (T' := [(4, _)]) ⟨rfl, trivial⟩ ?_
      refine PW.ret ?_
      change (Exit.ret = Exit.normal ∨ Exit.ret = Exit.ret) ∧ ∃ v, resV _ _ = some v ∧ _
      obtain rfl : k = l.length := by omega
      rw [List.take_length, show l.length = l'.length from by omega, List.take_length] at ht
      exact ⟨.inr rfl, _, rfl, by rw [decide_eq_true ht], rfl⟩
theorem clone_fc {w0 : World} {S : SS} {A : Option Addr} {c : Nat} {l : List LabB} (hx : Rd w0 S A (labs l)) (hb : l.length ≤ 1000000000000) :
    FC Tryd.prog w0 78 [.slice A l.length c] S (fun v S' => ∃ seg, S' = seg :: S ∧ SlV 24 2 v l.length (labs l) seg) := by
  refine FC.ofD Tryd.known78 (by simp) ?_
  unfold Tryd.pc78
  simp only [argT]
  refine PW.seqOps ?_
  refine OL.det trivial (Yields.pure rfl) ?_
  refine OL.nil ?_
  refine PW.keep (T' := [(0, _)]) ⟨rfl, trivial⟩ ?_
  refine PW.seq fun K1 hK1 => ?_
  refine PW.seqOps ?_
  refine OL.det trivial (Yields.pure rfl) ?_
  refine OL.det trivial (Yields.slNil rfl) ?_
  refine OL.nil ?_
  refine PW.keep (T' := [(0, _), (4, _)]) ⟨rfl, rfl, trivial⟩ ?_
  refine PW.cond rfl (fun c4 => ?_) (fun c4 => ?_)
  · try simp only [decide_eq_true_eq, decide_eq_false_iff_not, beq_iff_eq, bne_iff_ne, beq_eq_false_iff_ne, bne_eq_false_iff_eq, Bool.not_eq_true', Bool.not_eq_false', Bool.not_eq_true, ne_eq, Decidable.not_not] at c4
    refine PW.seqOps ?_
    refine OL.det trivial (Yields.pure rfl) ?_
    refine OL.nil ?_
    refine PW.keep (T' := [(2, _)]) ⟨rfl, trivial⟩ ?_
    refine PW.ret ?_
    change (Exit.ret = Exit.normal ∨ Exit.ret = Exit.ret) ∧ ∃ v, resV _ _ = some v ∧ _
    obtain rfl : A = none := by cases A with
      | none => rfl
      | some a => simp at c4
    have hl : l = [] := by
      cases l with
      | nil => rfl
      | cons x l => obtain ⟨a, e⟩ := labs_some hx (by simp); cases e
    subst hl
    exact ⟨.inr rfl, _, rfl, _, Sub.nilL (Sub.refl _), [], rfl, SlV.nil 24 2⟩
  · try simp only [decide_eq_true_eq, decide_eq_false_iff_not, beq_iff_eq, bne_iff_ne, beq_eq_false_iff_ne, bne_eq_false_iff_eq, Bool.not_eq_true', Bool.not_eq_false', Bool.not_eq_true, ne_eq, Decidable.not_not] at c4
    refine PW.skip ?_
    refine hK1 _ _ ?_
    refine PW.keep (T' := [(0, _)]) ⟨rfl, trivial⟩ ?_
    refine PW.seqOps ?_
    refine OL.cons trivial OW.bsl0 ?_
    rintro _ _ ⟨r5, rfl, rfl⟩
    refine OL.det trivial (Yields.pure rfl) ?_
    obtain ⟨a0, rfl⟩ : ∃ a, A = some a := by cases A with
      | none => simp at c4
      | some a => exact ⟨a, rfl⟩
    refine OL.cons trivial (OW.app (k := 0) (m := 0) (xs := []) rfl rfl (SlV.mk' (cap := 0) rfl (Nat.le_refl 0) (by decide)) rfl (labs_len l) (fun j u hj => hx.cons.at hj) (labs_one l) (by omega) (by unfold maxLen; omega)) ?_
    rintro v7 _ ⟨seg7, rfl, hsl7⟩
    change OL _ _ _ _ _ (seg7 :: S) _
    rw [Nat.zero_add, List.nil_append] at hsl7
    refine OL.det trivial (Yields.pure rfl) ?_
    refine OL.nil ?_
    refine PW.keep (T' := [(2, _)]) ⟨rfl, trivial⟩ ?_
    refine PW.ret ?_
    change (Exit.ret = Exit.normal ∨ Exit.ret = Exit.ret) ∧ ∃ v, resV _ _ = some v ∧ _
    exact ⟨.inr rfl, _, rfl, _, Sub.refl _, _, rfl, hsl7⟩

end Go.Proofs
